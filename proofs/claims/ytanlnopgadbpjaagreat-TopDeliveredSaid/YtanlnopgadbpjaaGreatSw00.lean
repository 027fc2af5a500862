/- Part of a proof of the given statements of this seat (SyAa, SyAb, SyAc, SyAd, SyAe, SyAf, SyAg, SyAh, SyHm, SyHc, SyI, SyJ): no conditions beyond those typed here. -/
import Derived.WalkKit
import Derived.MapKept
import Derived.ChangeKeysEq
import Derived.Lib.ConvBytes
import Derived.Laws.IdiomStrings
set_option linter.unusedVariables false
set_option linter.unusedSimpArgs false
set_option linter.unusedSectionVars false
set_option linter.constructorNameAsVariable false
set_option maxRecDepth 100000
noncomputable section
namespace Go.Sx
noncomputable section
inductive DV where
 |x (v:Value)
 |ro (len esz:Nat) (cell:Nat->Nat->DV)
 |rf (len esz:Nat) (cell:Nat->Nat->DV)
inductive SV where
 |d (v:DV)
 |ptr (l off:Nat)
 |pix (l base n esz i j:Nat)
 |row (l base off len esz:Nat)
 |rop (n:Nat) (cell:Nat->DV)
 |agg (cs:List SV)
 |fn (f:Fn) (first cap:List SV)
 |tup (vs:List SV)
 |ifc (t:TypeId) (v:SV)
 |mp (l:Nat)
inductive TV where
 |unk
 |lit (b:Bool)
 |ok (s:SV)
 |cnd (p:Prop) (s:SV)
 |tag (t:Nat) (want:Bool) (s:SV)
inductive Blk where
 |cells (cs:List SV)
 |row (n esz:Nat) (cell:Nat->Nat->DV)
 |iter (s:ByteArray) (pos:Nat)
 |map (kk n:Nat) (has:List Int->Bool) (val:List Int->DV)
inductive Plc where
 |nil
 |pl (b o:Nat)
abbrev Heap:=List (Option Blk)
abbrev Delta:=List (Nat×Option Blk)
abbrev Mu:=Nat->Option Plc
def uv:SV:=.d (.x undef)
def hget(hp:Heap):Nat->Option Blk:=List.rec (motive:=fun _=>Nat->Option Blk) (fun _=>none) (fun a _ ih n=>Nat.rec (motive:=fun _=>Option Blk) a (fun m _=>ih m) n) hp
theorem hget_def(hp:Heap)(l:Nat):hget hp l=hp.getD l none:=by
 induction hp generalizing l with
 |nil=>rfl
 |cons a r ih =>
  cases l with
  |zero=>rfl
  |succ l=>simp only[List.getD_cons_succ,<- ih];rfl
def hset:Heap->Nat->Option Blk->Heap
 |[],0,b=>[b]
 |[],l+1,b=>none::hset [] l b
 |_::hp,0,b=>b::hp
 |c::hp,l+1,b=>c::hset hp l b
def happ(hp:Heap)(dl:Delta):Heap:=dl.foldl (fun h e=>hset h e.1 e.2) hp
theorem hget_hset(hp:Heap)(l:Nat)(b:Option Blk)(k:Nat):hget (hset hp l b) k=if k=l then b else hget hp k:=by
 induction hp generalizing l k with
 |nil =>
  induction l generalizing k with
  |zero=>cases k<;>simp[hset,hget_def]
  |succ l ih =>
   cases k with
   |zero=>simp[hset,hget_def]
   |succ k=>have:=ih k;simp only[hset,hget_def,List.getD_cons_succ] at this ⊢;simpa using this
 |cons c hp ih =>
  cases l with
  |zero=>cases k<;>simp[hset,hget_def]
  |succ l =>
   cases k with
   |zero=>simp[hset,hget_def]
   |succ k=>have:=ih l k;simp only[hset,hget_def,List.getD_cons_succ] at this ⊢;simpa using this
def bsz(w:World)(b:Nat):Nat:=match w.heap[b]? with|some (.cells c _ _)=>c.size|_=>0
structure Ext(F:Nat->Prop)(w w':World):Prop where
 os:w'.os=w.os
 tape:w'.tape=w.tape
 output:w'.output=w.output
 size:w.heap.size<=w'.heap.size
 keep:∀b,F b->w'.heap[b]?=w.heap[b]?
 bsz:∀b,bsz w b<=bsz w' b
theorem Ext.refl(F:Nat->Prop)(w:World):Ext F w w:=⟨rfl,rfl,rfl,Nat.le_refl _,fun _ _=>rfl,fun _=>Nat.le_refl _⟩
theorem Ext.trans{F:Nat->Prop}{a b c:World}(h:Ext F a b)(k:Ext F b c):Ext F a c :=
 ⟨k.os.trans h.os,k.tape.trans h.tape,k.output.trans h.output,Nat.le_trans h.size k.size,fun i hi=>(k.keep i hi).trans (h.keep i hi),fun i=>Nat.le_trans (h.bsz i) (k.bsz i)⟩
theorem Ext.mono{F G:Nat->Prop}{a b:World}(h:Ext F a b)(hg:∀i,G i->F i):Ext G a b:=⟨h.os,h.tape,h.output,h.size,fun i hi=>h.keep i (hg i hi),h.bsz⟩
theorem Ext.cell{F:Nat->Prop}{w w':World}(h:Ext F w w'){b o:Nat}(hb:F b):w'.cell? ⟨b,o,none⟩=w.cell? ⟨b,o,none⟩:=by
 simp only[World.cell?,h.keep b hb]
theorem bsz_alloc(w:World)(o:Obj)(b:Nat):bsz w b<=bsz (w.alloc o) b:=by
 unfold bsz
 by_cases h:b<w.heap.size
 ·rw[RowKit.Below.heap_alloc w o b h];exact Nat.le_refl _
 ·have:w.heap[b]?=none:=by simp;omega
  simp[this]
theorem Ext.alloc(F:Nat->Prop)(w:World)(o:Obj)(hF:∀b,F b->b<w.heap.size):Ext F w (w.alloc o) :=
 ⟨rfl,rfl,rfl,by simp,fun b hb=>RowKit.Below.heap_alloc w o b (hF b hb),bsz_alloc w o⟩
theorem Ext.drew(F:Nat->Prop)(w:World):Ext F w w.drew:=⟨rfl,rfl,rfl,Nat.le_refl _,fun _ _=>rfl,fun _=>Nat.le_refl _⟩
theorem setRow_heap_same(w:World)(g:Nat)(cur:Array Value)(e:TypeId)(fr:Nat×Nat)(cs:Array Value)(hg:w.heap[g]?=some (.cells cur e fr)) :
  (w.setRow g cs).heap[g]?=some (.cells cs e fr):=by
 simp[World.setRow,Array.getElem?_modify,hg]
theorem setRow_heap_other(w:World)(g k:Nat)(cs:Array Value)(h:k≠g):(w.setRow g cs).heap[k]?=w.heap[k]?:=by
 simp only[World.setRow,Array.getElem?_modify];rw[if_neg (by omega)]
theorem Ext.setRow(F:Nat->Prop)(w:World)(g:Nat)(cur cs:Array Value)(e:TypeId)(fr:Nat×Nat)(hg:w.heap[g]?=some (.cells cur e fr))(hF:¬F g)(hs:cs.size=cur.size):Ext F w (w.setRow g cs):=by
 refine⟨rfl,rfl,rfl,by simp,fun b hb=>setRow_heap_other w g b cs (fun h=>hF (h▸hb)),fun b=>?_⟩
 by_cases h:b=g
 ·subst h
  simp only[Sx.bsz,hg,setRow_heap_same w b cur e fr cs hg,hs]
  exact Nat.le_refl _
 ·simp only[Sx.bsz,setRow_heap_other w g b cs h]
  exact Nat.le_refl _
inductive RepD(w:World)(F:Nat->Prop):Value->DV->Prop
 |x (v:Value):RepD w F v (.x v)
 |nil (esz:Nat) (cell:Nat->Nat->DV):RepD w F (.slice none 0 0) (.ro 0 esz cell)
 |z (a:Addr) (cap esz:Nat) (cell:Nat->Nat->DV):RepD w F (.slice (some a) 0 cap) (.ro 0 esz cell)
 |ro (b o len cap esz:Nat) (cell:Nat->Nat->DV) (f:Nat->Nat->Value) (hF:len≠0->F b) (hc:len<=cap)
   (hcell:∀i j,i<len->j<esz->w.cell? ⟨b,o+(i*esz+j),none⟩=some (f i j))
   (hone:∀i j,i<len->j<esz->(f i j).oneCell'=true) (hrep:∀i j,i<len->j<esz->RepD w F (f i j) (cell i j)):RepD w F (.slice (some ⟨b,o,none⟩) len cap) (.ro len esz cell)
 |rf (v:Value) (len esz:Nat) (cell:Nat->Nat->DV) (h:RepD w F v (.ro len esz cell)) (hc:∃a,v=.slice a len len):RepD w F v (.rf len esz cell)
theorem RepD.mono{w w':World}{F F':Nat->Prop}(he:Ext F w w')(hF:∀b,F b->F' b){v:Value}{s:DV}(h:RepD w F v s):RepD w' F' v s:=by
 induction h with
 |x v=>exact .x v
 |nil esz cell=>exact .nil esz cell
 |rf v len esz cell _ hc ih=>exact .rf v len esz cell ih hc
 |z a cap esz cell=>exact .z a cap esz cell
 |ro b o len cap esz cell f hb hc hcell hone _ ih =>
  refine .ro b o len cap esz cell f (fun h=>hF _ (hb h)) hc (fun i j hi hj=>?_) hone ih
  rw[he.cell (hb (by omega))];exact hcell i j hi hj
inductive Rep(w:World)(μ:Mu)(F:Nat->Prop):Value->SV->Prop
 |d {v:Value} {s:DV} (h:RepD w F v s):Rep w μ F v (.d s)
 |ptr (l off b o:Nat) (h:μ l=some (.pl b o)):Rep w μ F (.pointer (some ⟨b,o+off,none⟩)) (.ptr l off)
 |pix (l base n esz i j b o:Nat) (h:μ l=some (.pl b o)):Rep w μ F (.pointer (some ⟨b,o+base+i*esz+j,none⟩)) (.pix l base n esz i j)
 |rnil (l base off esz:Nat) (h:μ l=some .nil):Rep w μ F (.slice none 0 0) (.row l base off 0 esz)
 |rz (l base off esz b o:Nat) (q:Plc) (h:μ l=some q):Rep w μ F (.slice (some ⟨b,o,none⟩) 0 0) (.row l base off 0 esz)
 |row (l base off len esz b o cap:Nat) (h:μ l=some (.pl b o)) (hc:len<=cap) (hz:o+base+(off+cap)*esz<=bsz w b):Rep w μ F (.slice (some ⟨b,o+base+off*esz,none⟩) len cap) (.row l base off len esz)
 |rop (b o n:Nat) (cell:Nat->DV) (f:Nat->Value) (hF:n≠0->F b) (hcell:∀j,j<n->w.cell? ⟨b,o+j,none⟩=some (f j))
   (hone:∀j,j<n->(f j).oneCell'=true) (hrep:∀j,j<n->RepD w F (f j) (cell j)):Rep w μ F (.pointer (some ⟨b,o,none⟩)) (.rop n cell)
 |agg (cs:Array Value) (ss:List SV) (hl:cs.size=ss.length) (h:∀i,i<ss.length->Rep w μ F (cs.getD i undef) (ss.getD i uv)):Rep w μ F (.agg cs) (.agg ss)
 |fn (f:Fn) (fs cs:Array Value) (ss ts:List SV) (h1:fs.size=ss.length) (h2:cs.size=ts.length) (h3:∀i,i<ss.length->Rep w μ F (fs.getD i undef) (ss.getD i uv))
   (h4:∀i,i<ts.length->Rep w μ F (cs.getD i undef) (ts.getD i uv)):Rep w μ F (.func f fs cs) (.fn f ss ts)
 |tup (cs:Array Value) (ss:List SV) (hl:cs.size=ss.length) (h:∀i,i<ss.length->Rep w μ F (cs.getD i undef) (ss.getD i uv)):Rep w μ F (.tuple cs) (.tup ss)
 |ifc (t:TypeId) (v:Value) (s:SV) (h:Rep w μ F v s):Rep w μ F (.iface t v) (.ifc t s)
 |mp (l b:Nat) (h:μ l=some (.pl b 0)):Rep w μ F (.map (some b)) (.mp l)
theorem Rep.mono{w w':World}{μ μ':Mu}{F F':Nat->Prop}(he:Ext F w w')(hF:∀b,F b->F' b)(hμ:∀l q,μ l=some q->μ' l=some q){v:Value}{s:SV}(h:Rep w μ F v s):Rep w' μ' F' v s:=by
 induction h with
 |d h=>exact .d (h.mono he hF)
 |ptr l off b o h=>exact .ptr l off b o (hμ _ _ h)
 |pix l base n esz i j b o h=>exact .pix l base n esz i j b o (hμ _ _ h)
 |rnil l base off esz h=>exact .rnil l base off esz (hμ _ _ h)
 |rz l base off esz b o q h=>exact .rz l base off esz b o q (hμ _ _ h)
 |row l base off len esz b o cap h hc hz=>exact .row l base off len esz b o cap (hμ _ _ h) hc (Nat.le_trans hz (he.bsz b))
 |rop b o n cell f hb hcell hone hrep =>
  exact .rop b o n cell f (fun h=>hF _ (hb h)) (fun j hj=>by rw[he.cell (hb (by omega))];exact hcell j hj) hone (fun j hj=>(hrep j hj).mono he hF)
 |agg cs ss hl _ ih=>exact .agg cs ss hl ih
 |fn f fs cs ss ts h1 h2 _ _ ih1 ih2=>exact .fn f fs cs ss ts h1 h2 ih1 ih2
 |tup cs ss hl _ ih=>exact .tup cs ss hl ih
 |ifc t v s _ ih=>exact .ifc t v s ih
 |mp l b h=>exact .mp l b (hμ _ _ h)
def encK:Nat->List Int->Value
 |0,l=>.int .i64 (l.headD 0)
 |_+1,l=>.agg (l.map (Value.int .i64)).toArray
def KeyOK(kk:Nat)(l:List Int):Prop:=l.length=(match kk with|0=>1|k+1=>k+1)/\∀a∈l,(Lit.int .i64 a).wf=true
theorem encK_inj{kk:Nat}{l l':List Int}(h:KeyOK kk l)(h':KeyOK kk l')(he:encK kk l=encK kk l'):l=l':=by
 cases kk with
 |zero =>
  obtain⟨a,rfl⟩:=List.length_eq_one_iff.1 h.1
  obtain⟨b,rfl⟩:=List.length_eq_one_iff.1 h'.1
  simp only[encK,List.headD_cons,Value.int.injEq,true_and] at he
  rw[he]
 |succ k =>
  simp only[encK,Value.agg.injEq] at he
  have:=congrArg Array.toList he
  simp only at this
  exact List.map_inj_right (fun a b hab=>by simpa using hab) |>.1 this
structure MapAt(w:World)(F:Nat->Prop)(kk n:Nat)(has:List Int->Bool)(val:List Int->DV)(es:Array MapEntry)(clk:Nat):Prop where
 size:es.size=n
 ent:∀e∈es.toList,∃l,KeyOK kk l/\e.key=encK kk l/\has l=true/\RepD w F e.val (val l)
 has:∀l,has l=true->∃e∈es.toList,e.key=encK kk l/\KeyOK kk l
 stamp:MapKept.Stamped es clk
theorem MapAt.mono{w w':World}{F F':Nat->Prop}{kk n:Nat}{has:List Int->Bool}{val:List Int->DV}{es:Array MapEntry}{clk:Nat}(h:MapAt w F kk n has val es clk)(hr:∀v d,RepD w F v d->RepD w' F' v d):MapAt w' F' kk n has val es clk :=
 ⟨h.size,fun e he=>by obtain⟨l,h1,h2,h3,h4⟩:=h.ent e he;exact⟨l,h1,h2,h3,hr _ _ h4⟩,h.has,h.stamp⟩
def BlkAt(w:World)(μ:Mu)(F:Nat->Prop):Plc->Blk->Prop
 |.nil,.row n _ _=>n=0
 |.nil,.cells _=>False
 |.nil,.iter _ _=>False
 |.nil,.map _ _ _ _=>False
 |.pl b o,.iter s pos=>o=0/\w.heap[b]?=some (.stringIter s pos)
 |.pl b o,.map kk n has val=>o=0/\∃es clk,w.heap[b]?=some (.map es clk)/\MapAt w F kk n has val es clk
 |.pl b o,.cells cs=>∃c e,w.heap[b]?=some (.cells c e (0,0))/\o+cs.length<=c.size/\(∀i,i<cs.length->Rep w μ F (c.getD (o+i) undef) (cs.getD i uv))/\∀i,i<cs.length->(c.getD (o+i) undef).oneCell'=true
 |.pl b o,.row n esz cell=>∃c e,w.heap[b]?=some (.cells c e (0,0))/\o+n*esz<=c.size/\(∀i j,i<n->j<esz->RepD w F (c.getD (o+(i*esz+j)) undef) (cell i j))/\∀i j,i<n->j<esz->(c.getD (o+(i*esz+j)) undef).oneCell'=true
structure Par where
 w0:World
 T:Nat->Prop
 F:Nat->Prop
def PlcOK(p:Par)(F:Nat->Prop):Plc->Prop
 |.nil=>True
 |.pl b _=>¬F b/\(p.T b\/p.w0.heap.size<=b)
structure HS(p:Par)(μ:Mu)(F:Nat->Prop)(hp:Heap)(w:World):Prop where
 ext:Ext (fun b=>b<p.w0.heap.size/\¬p.T b) p.w0 w
 sub:∀b,p.F b->F b
 fin:∀b,F b->b<w.heap.size/\(p.F b\/p.T b\/p.w0.heap.size<=b)
 blk:∀l blk,hget hp l=some blk->∃q,μ l=some q/\PlcOK p F q/\BlkAt w μ F q blk
 inj:∀l l' blk blk' b o b' o',l≠l'->hget hp l=some blk->hget hp l'=some blk'->μ l=some (.pl b o)->μ l'=some (.pl b' o')->b≠b'
theorem BlkAt.lt{w:World}{μ:Mu}{F:Nat->Prop}{b o:Nat}{blk:Blk}(h:BlkAt w μ F (.pl b o) blk):b<w.heap.size:=by
 cases blk with
 |cells cs=>obtain⟨c,e,hg,_⟩:=h;exact(Array.getElem?_eq_some_iff.1 hg).1
 |row n esz cell=>obtain⟨c,e,hg,_⟩:=h;exact(Array.getElem?_eq_some_iff.1 hg).1
 |iter s pos=>exact(Array.getElem?_eq_some_iff.1 h.2).1
 |map kk n has val=>obtain⟨_,es,clk,hg,_⟩:=h;exact(Array.getElem?_eq_some_iff.1 hg).1
theorem BlkAt.mono{w w':World}{μ μ':Mu}{F F':Nat->Prop}(he:Ext F w w')(hF:∀b,F b->F' b)(hμ:∀l q,μ l=some q->μ' l=some q){q:Plc}{blk:Blk}
  (hk:∀b o,q=.pl b o->w'.heap[b]?=w.heap[b]?) (h:BlkAt w μ F q blk):BlkAt w' μ' F' q blk:=by
 cases q with
 |nil=>cases blk<;>exact h
 |pl b o =>
  cases blk with
  |cells cs =>
   obtain⟨c,e,hg,hs,hc,h1⟩:=h
   exact⟨c,e,by rw[hk b o rfl];exact hg,hs,fun i hi=>(hc i hi).mono he hF hμ,h1⟩
  |row n esz cell =>
   obtain⟨c,e,hg,hs,hc,h1⟩:=h
   exact⟨c,e,by rw[hk b o rfl];exact hg,hs,fun i j hi hj=>(hc i j hi hj).mono he hF,h1⟩
  |iter s pos=>exact⟨h.1,by rw[hk b o rfl];exact h.2⟩
  |map kk n has val =>
   obtain⟨h0,es,clk,hg,hm⟩:=h
   exact⟨h0,es,clk,by rw[hk b o rfl];exact hg,hm.mono fun v d hr=>hr.mono he hF⟩
end
noncomputable section
inductive Tr(α:Type) where
 |ret (a:α)
 |ite (b:Bool) (t e:Tr α)
 |need (p:Prop) (t:Tr α)
 |dneed (p:Prop) (d:Decidable p) (t:Tr α)
 |fail
abbrev Tr.nd{α:Type}(p:Prop)[d:Decidable p](t:Tr α):Tr α:=.dneed p d t
def Tr.bind{α β:Type}:Tr α->(α->Tr β)->Tr β
 |.ret a,f=>f a
 |.ite b t e,f=>.ite b (t.bind f) (e.bind f)
 |.need p t,f=>.need p (t.bind f)
 |.dneed p d t,f=>.dneed p d (t.bind f)
 |.fail,_=>.fail
def Tr.ev{α:Type}:Tr α->α->Prop
 |.ret a,x=>x=a
 |.ite b t e,x=>(b=true/\t.ev x)\/(b=false/\e.ev x)
 |.need p t,x=>p/\t.ev x
 |.dneed p _ t,x=>p/\t.ev x
 |.fail,_=>False
theorem Tr.ev_bind{α β:Type}{f:α->Tr β}{b:β}:∀{t:Tr α},(t.bind f).ev b->∃a,t.ev a/\(f a).ev b
 |.ret a,h=>⟨a,rfl,h⟩
 |.ite c t e,h=>by
  rcases h with⟨hc,h⟩|⟨hc,h⟩
  ·obtain⟨a,h1,h2⟩:=Tr.ev_bind h;exact⟨a,.inl ⟨hc,h1⟩,h2⟩
  ·obtain⟨a,h1,h2⟩:=Tr.ev_bind h;exact⟨a,.inr ⟨hc,h1⟩,h2⟩
 |.need p t,h=>by obtain⟨a,h1,h2⟩:=Tr.ev_bind h.2;exact⟨a,⟨h.1,h1⟩,h2⟩
 |.dneed p _ t,h=>by obtain⟨a,h1,h2⟩:=Tr.ev_bind (t:=t) h.2;exact⟨a,⟨h.1,h1⟩,h2⟩
 |.fail,h=>h.elim
def Tr.ofOpt{α:Type}:Option α->Tr α
 |some a=>.ret a
 |none=>.fail
theorem Tr.ev_ofOpt{α:Type}{o:Option α}{a:α}(h:(Tr.ofOpt o).ev a):o=some a:=by
 cases o with
 |none=>exact h.elim
 |some b=>simp only[Tr.ofOpt,Tr.ev] at h;rw[h]
def pureRun{α:Type}(P:Program):Sem α->Option α
 |.pure a=>some a
 |.program k=>pureRun P (k P)
 |_=>none
theorem pureRun_run{α:Type}{P:Program}:∀{s:Sem α} {a:α} (w:World),pureRun P s=some a->s.run P w=.ok a w
 |.pure b,a,w,h=>by simp only[pureRun,Option.some.injEq] at h;subst h;rfl
 |.program k,a,w,h=>by simp only[pureRun] at h;exact pureRun_run (s:=k P) w h
 |.load ..,_,_,h=>by simp[pureRun] at h
 |.store ..,_,_,h=>by simp[pureRun] at h
 |.new ..,_,_,h=>by simp[pureRun] at h
 |.shape ..,_,_,h=>by simp[pureRun] at h
 |.freeze ..,_,_,h=>by simp[pureRun] at h
 |.frozen ..,_,_,h=>by simp[pureRun] at h
 |.getObj ..,_,_,h=>by simp[pureRun] at h
 |.setObj ..,_,_,h=>by simp[pureRun] at h
 |.choose ..,_,_,h=>by simp[pureRun] at h
 |.sys ..,_,_,h=>by simp[pureRun] at h
 |.mark ..,_,_,h=>by simp[pureRun] at h
 |.halt ..,_,_,h=>by simp[pureRun] at h
def svcells:SV->List SV
 |.agg cs=>cs
 |s=>[s]
def ofValue:Value->SV
 |.agg cs=>.agg (cs.toList.map fun v=>.d (.x v))
 |.tuple cs=>.tup (cs.toList.map fun v=>.d (.x v))
 |v=>.d (.x v)
theorem getD_map_toList(cs:Array Value)(i:Nat)(h:i<cs.size):(cs.toList.map fun v=>SV.d (.x v)).getD i uv=.d (.x (cs.getD i undef)):=by
 simp[List.getD,h,Array.getD]
theorem rep_ofValue(w:World)(μ:Mu)(F:Nat->Prop)(v:Value):Rep w μ F v (ofValue v):=by
 have h:∀(cs:Array Value),∀i,i<(cs.toList.map fun v=>SV.d (.x v)).length->Rep w μ F (cs.getD i undef) ((cs.toList.map fun v=>SV.d (.x v)).getD i uv):=by
  intro cs i hi
  rw[getD_map_toList cs i (by simpa using hi)];exact .d (.x _)
 cases v with
 |agg cs=>exact .agg cs _ (by simp) (h cs)
 |tuple cs=>exact .tup cs _ (by simp) (h cs)
 |_=>exact .d (.x _)
def exact1:SV->Option Value
 |.d (.x v)=>some v
 |_=>none
def exactL:List SV->Option (List Value)
 |[]=>some []
 |s::r=>match exact1 s,exactL r with
  |some v,some vs=>some (v::vs)
  |_,_=>none
def exact:SV->Option Value
 |.d (.x v)=>some v
 |.agg cs=>(exactL cs).map fun l=>.agg l.toArray
 |_=>none
theorem exactL_spec:∀{cs:List SV} {vs:List Value},exactL cs=some vs->vs.length=cs.length/\∀i,i<cs.length->cs.getD i uv=.d (.x (vs.getD i undef))
 |[],vs,h=>by simp[exactL] at h;subst h;simp
 |s::r,vs,h=>by
  simp only[exactL] at h
  split at h
  ·rename_i v vs' h1 h2
   simp only[Option.some.injEq] at h;subst h
   obtain⟨hl,hr⟩:=exactL_spec h2
   refine⟨by simp[hl],fun i hi=>?_⟩
   cases i with
   |zero =>
    unfold exact1 at h1
    split at h1
    ·simp only[Option.some.injEq] at h1;subst h1;simp
    ·cases h1
   |succ i=>simpa using hr i (by simpa using hi)
  ·cases h
theorem repd_x{w:World}{F:Nat->Prop}{v u:Value}(h:RepD w F v (.x u)):v=u:=by
 generalize hs:DV.x u=s at h
 cases h with
 |x v=>cases hs;rfl
 |nil=>cases hs
 |z=>cases hs
 |ro=>cases hs
 |rf=>cases hs
theorem rep_x{w:World}{μ:Mu}{F:Nat->Prop}{v u:Value}(h:Rep w μ F v (.d (.x u))):v=u:=by
 generalize hs:SV.d (.x u)=s at h
 cases h with
 |d hd=>cases hs;exact repd_x hd
 |_=>cases hs
theorem rep_d{w:World}{μ:Mu}{F:Nat->Prop}{v:Value}{u:DV}(h:Rep w μ F v (.d u)):RepD w F v u:=by
 generalize hs:SV.d u=s at h
 cases h with
 |d hd=>cases hs;exact hd
 |_=>cases hs
theorem exact_spec{w:World}{μ:Mu}{F:Nat->Prop}{v u:Value}{s:SV}(h:exact s=some u)(hr:Rep w μ F v s):v=u:=by
 unfold exact at h
 split at h
 ·simp only[Option.some.injEq] at h;subst h
  exact rep_x hr
 ·rename_i cs
  cases hr with
  |agg cs' _ hl hi =>
   cases he:exactL cs with
   |none=>simp[he] at h
   |some vs =>
    simp only[he,Option.map_some,Option.some.injEq] at h
    obtain⟨h1,h2⟩:=exactL_spec he
    subst h
    congr 1
    apply Array.ext
    ·simp[hl,h1]
    ·intro i hi1 hi2
     have hic:i<cs.length:=by omega
     have:=hi i hic
     rw[h2 i hic] at this
     have heq:=rep_x this
     have h3:i<vs.length:=by omega
     simpa [Array.getD,hi1,List.getD,h3] using heq
 ·cases h
def isAggT(P:Program)(t:TypeId):Bool:=match P.underlying t with|some (.struct _)|some (.array _ _)=>true|_=>false
def tsz(P:Program)(t:TypeId):Option Nat:=(P.info? t).map (·.size)
theorem run_isAggT{P:Program}{t:TypeId}(w:World){d:TypeDesc}(h:P.underlying t=some d):(isAgg t).run P w=.ok (isAggT P t) w:=by
 unfold isAgg isAggT
 simp only[Sem.run_bind,run_underlying h,Result.andThen]
 cases d<;>simp[h,pure,Sem.run]
theorem run_tsz{P:Program}{t:TypeId}(w:World){n:Nat}(h:tsz P t=some n):(sizeOf t).run P w=.ok n w:=by
 unfold tsz at h
 unfold sizeOf typeInfo
 cases hi:P.info? t with
 |none=>simp[hi] at h
 |some i=>simp only[hi,Option.map_some,Option.some.injEq] at h;subst h;simp[Sem.run_bind,program,Sem.run,hi,Result.andThen,pure]
theorem add_none(b o j:Nat):(⟨b,o,none⟩:Addr).add j=⟨b,o+j,none⟩:=by unfold Addr.add;split<;>simp_all
def shapeT(P:Program)(t:TypeId):Option (Bool×Nat) :=
 match P.underlying t with
 |none=>none
 |some _=>if isAggT P t then(tsz P t).map fun n=>(true,n) else some (false,1)
def ofCells(s:Bool×Nat)(f:Nat->SV):SV:=if s.1 then .agg ((List.range s.2).map f) else f 0
def ofCellsV(s:Bool×Nat)(f:Nat->Value):Value:=if s.1 then .agg ((List.range s.2).map f).toArray else f 0
theorem run_loadVar{P:Program}{t:TypeId}{w:World}{s:Bool×Nat}(hs:shapeT P t=some s)(b o:Nat)(f:Nat->Value)(hf:∀j,j<s.2->w.cell? ⟨b,o+j,none⟩=some (f j)) :
  (loadVar t ⟨b,o,none⟩).run P w=.ok (ofCellsV s f) w:=by
 unfold shapeT at hs
 cases hu:P.underlying t with
 |none=>simp[hu] at hs
 |some d =>
  simp only[hu] at hs
  unfold loadVar
  simp only[Sem.run_bind,run_isAggT w hu,Result.andThen]
  cases ha:isAggT P t with
  |true =>
   simp only[ha,if_true] at hs ⊢
   cases hn:tsz P t with
   |none=>simp[hn] at hs
   |some n =>
    simp only[hn,Option.map_some,Option.some.injEq] at hs;subst hs
    have hl:=run_loadCells (P:=P) w ⟨b,o,none⟩ n f (fun j hj=>by rw[add_none];exact hf j hj)
    simp only[Sem.run_bind,run_tsz w hn,Result.andThen,hl,ofCellsV,if_true,pure,Sem.run]
  |false =>
   simp only[ha,Bool.false_eq_true,if_false,Option.some.injEq] at hs ⊢;subst hs
   have h0:=hf 0 (by simp)
   simp only[Nat.add_zero] at h0
   simp[load,Sem.run,h0,ofCellsV]
theorem rep_ofCells{w:World}{μ:Mu}{F:Nat->Prop}{s:Bool×Nat}{f:Nat->Value}{g:Nat->SV}(h:∀j,j<s.2->Rep w μ F (f j) (g j))(h1:s.1=false->s.2=1) :
  Rep w μ F (ofCellsV s f) (ofCells s g):=by
 unfold ofCellsV ofCells
 split
 ·refine .agg _ _ (by simp) (fun i hi=>?_)
  simp only[List.length_map,List.length_range] at hi
  simp[hi,Array.getD,List.getD]
  exact h i hi
 ·rename_i hf
  exact h 0 (by rw[h1 (by simpa using hf)];omega)
theorem shapeT_one{P:Program}{t:TypeId}{s:Bool×Nat}(h:shapeT P t=some s):s.1=false->s.2=1:=by
 unfold shapeT at h
 split at h
 ·cases h
 ·split at h
  ·cases hn:tsz P t with
   |none=>simp[hn] at h
   |some n=>simp only[hn,Option.map_some,Option.some.injEq] at h;subst h;simp
  ·simp only[Option.some.injEq] at h;subst h;simp
def intsOf(k:IntKind):List SV->Option (List Int)
 |[]=>some []
 |.d (.x (.int k' n))::r=>if k=k' then(intsOf k r).map (n::·) else none
 |_=>none
def boolsOf:List SV->Option (List Bool)
 |[]=>some []
 |.d (.x (.bool n))::r=>(boolsOf r).map (n::·)
 |_=>none
def stringsOf:List SV->Option (List ByteArray)
 |[]=>some []
 |.d (.x (.string n))::r=>(stringsOf r).map (n::·)
 |_=>none
theorem intsOf_spec{k:IntKind}:∀{cs:List SV} {ns:List Int},intsOf k cs=some ns->∀i,i<cs.length->cs.getD i uv=.d (.x (.int k (ns.getD i 0)))
 |[],ns,h,i,hi=>by simp at hi
 |s::r,ns,h,i,hi=>by
  unfold intsOf at h
  split at h
  ·contradiction
  ·rename_i k' n r' heq
   simp only[List.cons.injEq] at heq
   obtain⟨rfl,rfl⟩:=heq
   split at h
   ·rename_i hk;subst hk
    rw[Option.map_eq_some_iff] at h
    obtain⟨ns',h1,rfl⟩:=h
    cases i with
    |zero=>simp
    |succ i=>simpa using intsOf_spec h1 i (by simpa using hi)
   ·cases h
  ·cases h
theorem boolsOf_spec:∀{cs:List SV} {ns:List Bool},boolsOf cs=some ns->∀i,i<cs.length->cs.getD i uv=.d (.x (.bool (ns.getD i false)))
 |[],ns,h,i,hi=>by simp at hi
 |s::r,ns,h,i,hi=>by
  unfold boolsOf at h
  split at h
  ·contradiction
  ·rename_i n r' heq
   simp only[List.cons.injEq] at heq
   obtain⟨rfl,rfl⟩:=heq
   rw[Option.map_eq_some_iff] at h
   obtain⟨ns',h1,rfl⟩:=h
   cases i with
   |zero=>simp
   |succ i=>simpa using boolsOf_spec h1 i (by simpa using hi)
  ·cases h
theorem stringsOf_spec:∀{cs:List SV} {ns:List ByteArray},stringsOf cs=some ns->∀i,i<cs.length->cs.getD i uv=.d (.x (.string (ns.getD i ByteArray.empty)))
 |[],ns,h,i,hi=>by simp at hi
 |s::r,ns,h,i,hi=>by
  unfold stringsOf at h
  split at h
  ·contradiction
  ·rename_i n r' heq
   simp only[List.cons.injEq] at heq
   obtain⟨rfl,rfl⟩:=heq
   rw[Option.map_eq_some_iff] at h
   obtain⟨ns',h1,rfl⟩:=h
   cases i with
   |zero=>simp
   |succ i=>simpa using stringsOf_spec h1 i (by simpa using hi)
  ·cases h
def selCol(col:List SV)(i:Nat):SV :=
 match col with
 |.d (.x (.int k _))::_=>match intsOf k col with|some ns=>.d (.x (.int k (ns.getD i 0)))|none=>col.getD i uv
 |.d (.x (.bool _))::_=>match boolsOf col with|some ns=>.d (.x (.bool (ns.getD i false)))|none=>col.getD i uv
 |.d (.x (.string _))::_=>match stringsOf col with|some ns=>.d (.x (.string (ns.getD i ByteArray.empty)))|none=>col.getD i uv
 |_=>col.getD i uv
theorem selCol_eq(col:List SV)(i:Nat)(h:i<col.length):selCol col i=col.getD i uv:=by
 unfold selCol
 split
 ·split
  ·rename_i h1;exact(intsOf_spec h1 i h).symm
  ·rfl
 ·split
  ·rename_i h1;exact(boolsOf_spec h1 i h).symm
  ·rfl
 ·split
  ·rename_i h1;exact(stringsOf_spec h1 i h).symm
  ·rfl
 ·rfl
def absLoad(P:Program)(hp:Heap)(t:TypeId)(p:SV):Tr SV :=
 match shapeT P t with
 |none=>.fail
 |some s =>
  match p with
  |.ptr l off =>
   match hget hp l with
   |some (.cells cs)=>if off+s.2<=cs.length then .ret (ofCells s fun j=>cs.getD (off+j) uv) else .fail
   |some (.row n esz cell)=>if off=0/\s.2<=n*esz then .ret (ofCells s fun j=>.d (cell (j / esz) (j%esz))) else .fail
   |_=>.fail
  |.pix l base n esz i j =>
   match hget hp l with
   |some (.row n' esz' cell)=>if base=0/\esz=esz'/\j+s.2<=esz then .nd (i<n') (.ret (ofCells s fun k=>.d (cell i (j+k)))) else .fail
   |some (.cells cs)=>if base+n*esz<=cs.length/\j+s.2<=esz then .nd (i<n) (.ret (ofCells s fun k=>selCol ((List.range n).map fun a=>cs.getD (base+a*esz+(j+k)) uv) i)) else .fail
   |_=>.fail
  |.rop n cell=>if s.2<=n then .ret (ofCells s fun j=>.d (cell j)) else .fail
  |_=>.fail
def Tk(hp:Heap)(μ:Mu):Nat->Prop:=fun b=>∃l blk o,hget hp l=some blk/\μ l=some (.pl b o)
def LH(w:World)(μ:Mu)(F:Nat->Prop)(hp:Heap):Prop:=HS ⟨w,Tk hp μ,F⟩ μ F hp w
theorem LH.blkAt{w:World}{μ:Mu}{F:Nat->Prop}{hp:Heap}(h:LH w μ F hp){l b o:Nat}{blk:Blk}(hg:hget hp l=some blk)(hm:μ l=some (.pl b o)):BlkAt w μ F (.pl b o) blk/\¬F b:=by
 obtain⟨q,h1,h2,h3⟩:=h.blk l blk hg
 rw[hm,Option.some.injEq] at h1;subst h1
 exact⟨h3,h2.1⟩
theorem cell_of_heap{w:World}{b:Nat}{c:Array Value}{e:TypeId}{fr:Nat×Nat}(hg:w.heap[b]?=some (.cells c e fr)){o:Nat}(ho:o<c.size):w.cell? ⟨b,o,none⟩=some (c.getD o undef):=by
 rw[cell_of_row w b o c e fr hg];simp[Array.getD,ho]
theorem absLoad_sound{P:Program}{w:World}{μ:Mu}{F:Nat->Prop}{hp:Heap}{t:TypeId}{p:SV}{v:Value}{s:SV}(hl:LH w μ F hp)(hp0:Rep w μ F v p)(he:(absLoad P hp t p).ev s) :
  ∃u,(Instr.loadAt t v).run P w=.ok u w/\Rep w μ F u s:=by
 unfold absLoad at he
 cases hs:shapeT P t with
 |none=>simp only[hs] at he;exact he.elim
 |some sh =>
  have h1:=shapeT_one hs
  simp only[hs] at he
  cases hp0 with
  |ptr l off b o hm =>
   simp only[] at he
   cases hh:hget hp l with
   |none=>simp only[hh] at he;exact he.elim
   |some blk =>
    cases blk with
    |row n esz cell =>
     simp only[hh] at he
     split at he
     ·rename_i hle
      obtain⟨h0,hle⟩:=hle
      subst h0
      simp only[Tr.ev] at he;subst he
      obtain⟨⟨c,e,hg,hsz,hc,_⟩,_⟩:=hl.blkAt hh hm
      refine⟨ofCellsV sh fun j=>c.getD (o+j) undef,?_,rep_ofCells (fun j hj=>.d ?_) h1⟩
      ·unfold Instr.loadAt
       simp only[Instr.sureAddr,Sem.run_bind,Sem.run_pure,Result.andThen]
       exact run_loadVar hs b (o+0) _ (fun j hj=>by rw[Nat.add_zero];exact cell_of_heap hg (by omega))
      ·have h2:0<esz:=by
        rcases Nat.eq_zero_or_pos esz with h|h
        ·subst h;simp at hle;omega
        ·exact h
       have h3:j / esz<n:=(Nat.div_lt_iff_lt_mul h2).2 (by omega)
       have:=hc (j / esz) (j%esz) h3 (Nat.mod_lt _ h2)
       rw[Nat.div_add_mod'] at this
       exact this
     ·exact he.elim
    |iter=>simp only[hh] at he;exact he.elim
    |map=>simp only[hh] at he;exact he.elim
    |cells cs =>
     simp only[hh] at he
     split at he
     ·rename_i hle
      simp only[Tr.ev] at he;subst he
      obtain⟨⟨c,e,hg,hsz,hc,_⟩,_⟩:=hl.blkAt hh hm
      refine⟨ofCellsV sh fun j=>c.getD (o+(off+j)) undef,?_,rep_ofCells (fun j hj=>hc _ (by omega)) h1⟩
      unfold Instr.loadAt
      simp only[Instr.sureAddr,Sem.run_bind,Sem.run_pure,Result.andThen]
      exact run_loadVar hs b (o+off) _ (fun j hj=>by rw[show o+off+j=o+(off+j) by omega];exact cell_of_heap hg (by omega))
     ·exact he.elim
  |pix l base n esz i j b o hm =>
   simp only[] at he
   cases hh:hget hp l with
   |none=>simp only[hh] at he;exact he.elim
   |some blk =>
    cases blk with
    |cells cs =>
     simp only[hh] at he
     split at he
     ·rename_i hle
      obtain⟨hbn,hj⟩:=hle
      simp only[Tr.ev] at he;obtain⟨hi,he⟩:=he;subst he
      obtain⟨⟨c,e,hg,hsz,hc,_⟩,_⟩:=hl.blkAt hh hm
      have hb:∀k,k<sh.2->base+i*esz+(j+k)<cs.length:=by
       intro k hk
       have:(i+1)*esz<=n*esz:=Nat.mul_le_mul_right _ hi
       rw[Nat.add_mul] at this
       omega
      refine⟨ofCellsV sh fun k=>c.getD (o+(base+i*esz+(j+k))) undef,?_,rep_ofCells (fun k hk=>?_) h1⟩
      ·unfold Instr.loadAt
       simp only[Instr.sureAddr,Sem.run_bind,Sem.run_pure,Result.andThen]
       exact run_loadVar hs b (o+base+i*esz+j) _ (fun k hk=>by rw[show o+base+i*esz+j+k=o+(base+i*esz+(j+k)) by omega];exact cell_of_heap hg (by have:=hb k hk;omega))
      ·rw[selCol_eq _ _ (by simpa using hi)]
       have:=hc (base+i*esz+(j+k)) (hb k hk)
       simpa [List.getD,hi] using this
     ·exact he.elim
    |row n' esz' cell =>
     simp only[hh] at he
     split at he
     ·rename_i hle
      obtain⟨rfl,rfl,hj⟩:=hle
      simp only[Tr.ev] at he;obtain⟨hi,he⟩:=he;subst he
      obtain⟨⟨c,e,hg,hsz,hc,_⟩,_⟩:=hl.blkAt hh hm
      have hb:∀k,k<sh.2->o+(i*esz+(j+k))<c.size:=by
       intro k hk
       have:(i+1)*esz<=n'*esz:=Nat.mul_le_mul_right _ hi
       rw[Nat.add_mul] at this
       omega
      refine⟨ofCellsV sh fun k=>c.getD (o+(i*esz+(j+k))) undef,?_,rep_ofCells (fun k hk=>.d (hc i (j+k) hi (by omega))) h1⟩
      unfold Instr.loadAt
      simp only[Instr.sureAddr,Sem.run_bind,Sem.run_pure,Result.andThen]
      exact run_loadVar hs b (o+0+i*esz+j) _ (fun k hk=>by rw[show o+0+i*esz+j+k=o+(i*esz+(j+k)) by omega];exact cell_of_heap hg (hb k hk))
     ·exact he.elim
    |iter=>simp only[hh] at he;exact he.elim
    |map=>simp only[hh] at he;exact he.elim
  |rop b o n cell f hF hcell _ hrep =>
   simp only[] at he
   split at he
   ·rename_i hle
    simp only[Tr.ev] at he;subst he
    refine⟨ofCellsV sh f,?_,rep_ofCells (fun j hj=>.d (hrep j (by omega))) h1⟩
    unfold Instr.loadAt
    simp only[Instr.sureAddr,Sem.run_bind,Sem.run_pure,Result.andThen]
    exact run_loadVar hs b o f (fun j hj=>hcell j (by omega))
   ·exact he.elim
  |_=>exact he.elim
end
noncomputable section
def Out(w:World)(μ:Mu)(F:Nat->Prop)(hp:Heap)(N:Nat->Prop)(hp':Heap)(v:Value)(s:SV)(w':World):Prop :=
 ∃μ' F',HS ⟨w,Tk hp μ,F⟩ μ' F' hp' w'/\Rep w' μ' F' v s/\(∀l q,μ l=some q->μ' l=some q)/\(∀l,¬N l->μ' l=μ l)
theorem out_same{w:World}{μ:Mu}{F:Nat->Prop}{hp:Heap}{N:Nat->Prop}{v:Value}{s:SV}(hl:LH w μ F hp)(h:Rep w μ F v s):Out w μ F hp N hp v s w :=
 ⟨μ,F,hl,h,fun _ _ h=>h,fun _ _=>rfl⟩
def upd(μ:Mu)(l:Nat)(q:Plc):Mu:=fun k=>if k=l then some q else μ k
theorem upd_ext{μ:Mu}{l:Nat}{q:Plc}(h:μ l=none):∀k r,μ k=some r->upd μ l q k=some r:=by
 intro k r hk
 unfold upd
 split
 ·rename_i he;subst he;rw[h] at hk;cases hk
 ·exact hk
theorem LH.none{w:World}{μ:Mu}{F:Nat->Prop}{hp:Heap}(h:LH w μ F hp){l:Nat}(hm:μ l=none):hget hp l=none:=by
 cases hg:hget hp l with
 |none=>rfl
 |some blk=>obtain⟨q,h1,_⟩:=h.blk l blk hg;rw[hm] at h1;cases h1
theorem hs_alloc{w:World}{μ:Mu}{F:Nat->Prop}{hp:Heap}{id:Nat}{blk:Blk}{ob:Obj}(hl:LH w μ F hp)(hid:μ id=none)
  (hb:BlkAt (w.alloc ob) (upd μ id (.pl w.heap.size 0)) F (.pl w.heap.size 0) blk) :
  HS ⟨w,Tk hp μ,F⟩ (upd μ id (.pl w.heap.size 0)) F (hset hp id (some blk)) (w.alloc ob):=by
 have hext:Ext F w (w.alloc ob):=Ext.alloc F w ob fun b hb=>(hl.fin b hb).1
 refine⟨Ext.alloc _ w ob fun b hb=>hb.1,fun b hb=>hb,fun b hb=>⟨?_,.inl hb⟩,?_,?_⟩
 ·have:=(hl.fin b hb).1;simp;omega
 ·intro l blk' hg
  rw[hget_hset] at hg
  split at hg
  ·rename_i he;subst he
   simp only[Option.some.injEq] at hg;subst hg
   exact⟨.pl w.heap.size 0,by simp[upd],⟨fun h=>by have:=(hl.fin _ h).1;omega,.inr (Nat.le_refl _)⟩,hb⟩
  ·rename_i hne
   obtain⟨q,h1,h2,h3⟩:=hl.blk l blk' hg
   refine⟨q,upd_ext hid _ _ h1,h2,h3.mono hext (fun _ h=>h) (upd_ext hid) ?_⟩
   intro b o hq;subst hq
   exact RowKit.Below.heap_alloc w ob b h3.lt
 ·intro l l' blk1 blk2 b o b' o' hne h1 h2 m1 m2
  rw[hget_hset] at h1 h2
  have old:∀k bb bo bk,k≠id->hget hp k=some bk->upd μ id (.pl w.heap.size 0) k=some (.pl bb bo)->bb<w.heap.size/\μ k=some (.pl bb bo):=by
   intro k bb bo bk hk hg hm
   have hm':μ k=some (.pl bb bo):=by simpa [upd,hk] using hm
   exact⟨(hl.blkAt hg hm').1.lt,hm'⟩
  by_cases e1:l=id
  ·have e2:l'≠id:=fun h=>hne (e1.trans h.symm)
   rw[if_neg e2] at h2
   obtain⟨hlt,_⟩:=old l' b' o' blk2 e2 h2 m2
   have:b=w.heap.size:=by subst e1;simp[upd] at m1;omega
   omega
  ·rw[if_neg e1] at h1
   obtain⟨hlt,hm1⟩:=old l b o blk1 e1 h1 m1
   by_cases e2:l'=id
   ·have:b'=w.heap.size:=by subst e2;simp[upd] at m2;omega
    omega
   ·rw[if_neg e2] at h2
    obtain⟨_,hm2⟩:=old l' b' o' blk2 e2 h2 m2
    exact hl.inj l l' blk1 blk2 b o b' o' hne h1 h2 hm1 hm2
theorem upd_other{μ:Mu}{l:Nat}{q:Plc}:∀k,¬k=l->upd μ l q k=μ k:=fun k h=>by simp[upd,h]
theorem out_alloc{w:World}{μ:Mu}{F:Nat->Prop}{hp:Heap}{id:Nat}{blk:Blk}{ob:Obj}{v:Value}{s:SV}(hl:LH w μ F hp)(hid:μ id=none)
  (hb:BlkAt (w.alloc ob) (upd μ id (.pl w.heap.size 0)) F (.pl w.heap.size 0) blk) (hv:Rep (w.alloc ob) (upd μ id (.pl w.heap.size 0)) F v s) :
  Out w μ F hp (·=id) (hset hp id (some blk)) v s (w.alloc ob) :=
 ⟨_,F,hs_alloc hl hid hb,hv,upd_ext hid,upd_other⟩
theorem heap_alloc_at(w:World)(o:Obj):(w.alloc o).heap[w.heap.size]?=some o:=by show(w.heap.push o)[w.heap.size]?=_;simp
theorem blkAt_new{w:World}{μ μ':Mu}{F:Nat->Prop}{c:Array Value}{e:TypeId}{cs:List SV}(hF:∀b,F b->b<w.heap.size)(hμ:∀l q,μ l=some q->μ' l=some q)(hs:cs.length<=c.size)
  (h:∀i,i<cs.length->Rep w μ F (c.getD i undef) (cs.getD i uv)) (h1:∀i,i<cs.length->(c.getD i undef).oneCell'=true):BlkAt (w.alloc (.cells c e)) μ' F (.pl w.heap.size 0) (.cells cs) :=
 ⟨c,e,heap_alloc_at w _,by omega,fun i hi=>by rw[Nat.zero_add];exact(h i hi).mono (Ext.alloc F w _ hF) (fun _ h=>h) hμ,fun i hi=>by rw[Nat.zero_add];exact h1 i hi⟩
theorem rep_svcells{w:World}{μ:Mu}{F:Nat->Prop}{v:Value}{s:SV}(h:Rep w μ F v s)(hone:∀u,s=.d (.x u)->u.oneCell'=true):v.cells.size=(svcells s).length/\∀i,i<(svcells s).length->Rep w μ F (v.cells.getD i undef) ((svcells s).getD i uv):=by
 have one:∀(v:Value) (s:SV),svcells s=[s]->v.cells=#[v]->Rep w μ F v s->v.cells.size=(svcells s).length/\∀i,i<(svcells s).length->Rep w μ F (v.cells.getD i undef) ((svcells s).getD i uv):=by
  intro v s h1 h2 h
  rw[h1,h2]
  refine⟨rfl,fun i hi=>?_⟩
  have:i=0:=by simpa using hi
  subst this
  simpa using h
 cases h with
 |agg cs ss hl h=>exact⟨hl,h⟩
 |d hd =>
  refine one _ _ rfl ?_ (.d hd)
  cases hd with
  |x=>have:=hone v rfl;cases v<;>first|rfl|simp[Value.oneCell'] at this
  |rf _ _ _ _ _ hc=>obtain⟨a,rfl⟩:=hc;rfl
  |_=>rfl
 |_=>exact one _ _ rfl rfl (by first|exact .ptr _ _ _ _ ‹_›|exact .pix _ _ _ _ _ _ _ _ ‹_›|exact .rnil _ _ _ _ ‹_›|exact .rz _ _ _ _ _ _ _ ‹_›|exact .row _ _ _ _ _ _ _ _ ‹_› ‹_› ‹_›|exact .rop _ _ _ _ _ ‹_› ‹_› ‹_› ‹_›|exact .fn _ _ _ _ _ ‹_› ‹_› ‹_› ‹_›|exact .tup _ _ ‹_› ‹_›|exact .ifc _ _ _ ‹_›|exact .mp _ _ ‹_›)
def cellOK:SV->Bool
 |.d (.x v)=>v.oneCell'
 |.agg _|.tup _=>false
 |_=>true
theorem cellOK_one{w:World}{μ:Mu}{F:Nat->Prop}{v:Value}{s:SV}(h:Rep w μ F v s)(hk:cellOK s=true):v.oneCell'=true:=by
 cases h with
 |d hd=>cases hd with
  |x u=>exact hk
  |rf _ _ _ _ _ hc=>obtain⟨a,rfl⟩:=hc;rfl
  |_=>rfl
 |agg=>cases hk
 |tup=>cases hk
 |_=>rfl
def boxOK:SV->Bool
 |.d (.x v)=>v.oneCell'
 |_=>true
theorem all_cellOK{cs:List SV}(h:cs.all cellOK=true):∀i,i<cs.length->cellOK (cs.getD i uv)=true:=by
 intro i hi
 rw[List.all_eq_true] at h
 refine h _ ?_
 simp[List.getD,hi]
def absBox(id:Nat)(hp:Heap)(s:SV):Tr (SV×Heap) :=
 if boxOK s/\(svcells s).all cellOK=true then .ret (.ptr id 0,hset hp id (some (.cells (svcells s)))) else .fail
theorem absBox_sound{P:Program}{w:World}{μ:Mu}{F:Nat->Prop}{hp hp':Heap}{id:Nat}{t:TypeId}{v:Value}{s r:SV}(hl:LH w μ F hp)(hid:μ id=none)(hv:Rep w μ F v s)
  (he:(absBox id hp s).ev (r,hp')):∃u w',(Instr.box t v).run P w=.ok u w'/\Out w μ F hp (·=id) hp' u r w':=by
 unfold absBox at he
 split at he
 ·rename_i hb
  simp only[Tr.ev,Prod.mk.injEq] at he;obtain⟨rfl,rfl⟩:=he
  obtain⟨h1,h2⟩:=rep_svcells hv (fun u hu=>by subst hu;exact hb.1)
  refine⟨.pointer (some ⟨w.heap.size,0,none⟩),w.alloc (.cells v.cells t),rfl,out_alloc hl hid (blkAt_new (fun b hb=>(hl.fin b hb).1) (upd_ext hid) (by omega) h2 (fun i hi=>cellOK_one (h2 i hi) (all_cellOK hb.2 i hi))) ?_⟩
  exact .ptr id 0 w.heap.size 0 (by simp[upd])
 ·exact he.elim
def absAlloc(P:Program)(id:Nat)(hp:Heap)(t:TypeId):Tr (SV×Heap) :=
 match pureRun P (zeroValue t) with
 |some z=>absBox id hp (ofValue z)
 |none=>.fail
theorem absAlloc_sound{P:Program}{w:World}{μ:Mu}{F:Nat->Prop}{hp hp':Heap}{id:Nat}{t:TypeId}{r:SV}(hl:LH w μ F hp)(hid:μ id=none)
  (he:(absAlloc P id hp t).ev (r,hp')):∃u w',(Instr.alloc t true (.tuple #[])).run P w=.ok u w'/\Out w μ F hp (·=id) hp' u r w':=by
 unfold absAlloc at he
 split at he
 ·rename_i z hz
  have hz':=pureRun_run w hz
  obtain⟨u,w',h1,h2⟩:=absBox_sound (P:=P) (t:=t) hl hid (rep_ofValue w μ F z) he
  refine⟨u,w',?_,h2⟩
  unfold Instr.alloc
  simp only[Sem.run_bind,hz',Result.andThen]
  exact h1
 ·exact he.elim
def absPart(P:Program)(t:TypeId)(cs:List SV)(off:Nat):Option SV :=
 match shapeT P t with
 |none=>none
 |some s=>if off+s.2<=cs.length then some (ofCells s fun j=>cs.getD (off+j) uv) else none
theorem extract_eq_range(cs:Array Value)(off n:Nat)(h:off+n<=cs.size):cs.extract off (off+n)=((List.range n).map fun j=>cs.getD (off+j) undef).toArray:=by
 apply Array.ext
 ·simp;omega
 ·intro i h1 h2
  simp at h1 h2
  have:off+i<cs.size:=by omega
  simp[Array.getD,this]
theorem absPart_sound{P:Program}{w:World}{μ:Mu}{F:Nat->Prop}{t:TypeId}{cs:Array Value}{ss:List SV}{off:Nat}{s:SV}(hl:cs.size=ss.length)
  (h:∀i,i<ss.length->Rep w μ F (cs.getD i undef) (ss.getD i uv)) (he:absPart P t ss off=some s):∃u,(part t cs off).run P w=.ok u w/\Rep w μ F u s:=by
 unfold absPart at he
 cases hs:shapeT P t with
 |none=>simp[hs] at he
 |some sh =>
  simp only[hs] at he
  split at he
  ·rename_i hle
   simp only[Option.some.injEq] at he;subst he
   refine⟨ofCellsV sh fun j=>cs.getD (off+j) undef,?_,rep_ofCells (fun j hj=>h _ (by omega)) (shapeT_one hs)⟩
   unfold shapeT at hs
   cases hu:P.underlying t with
   |none=>simp[hu] at hs
   |some d =>
    simp only[hu] at hs
    unfold part
    simp only[Sem.run_bind,run_isAggT w hu,Result.andThen]
    cases ha:isAggT P t with
    |true =>
     simp only[ha,if_true] at hs ⊢
     cases hn:tsz P t with
     |none=>simp[hn] at hs
     |some n =>
      simp only[hn,Option.map_some,Option.some.injEq] at hs;subst hs
      simp only[Sem.run_bind,run_tsz w hn,Result.andThen,pure,Sem.run,ofCellsV,if_true]
      rw[extract_eq_range cs off n (by simp only at hle;omega)]
    |false =>
     simp only[ha,Bool.false_eq_true,if_false,Option.some.injEq] at hs ⊢;subst hs
     have:off<cs.size:=by simp only at hle;omega
     simp[this,ofCellsV,Array.getD,pure,Sem.run]
  ·cases he
def absField(P:Program)(t:TypeId)(s:SV)(fi:Nat):Tr SV :=
 match P.underlying t,s with
 |some (.struct fields),.agg cs =>
  match fields[fi]? with
  |some f=>Tr.ofOpt (absPart P f.type cs f.offset)
  |none=>.fail
 |_,_=>.fail
theorem absField_sound{P:Program}{w:World}{μ:Mu}{F:Nat->Prop}{t:TypeId}{v:Value}{s r:SV}{fi:Nat}(hv:Rep w μ F v s)(he:(absField P t s fi).ev r) :
  ∃u,(Instr.field t v fi).run P w=.ok u w/\Rep w μ F u r:=by
 unfold absField at he
 split at he
 ·rename_i fields cs hu
  split at he
  ·rename_i f hf
   cases hv with
   |agg vs _ hl h =>
    obtain⟨u,h1,h2⟩:=absPart_sound hl h (Tr.ev_ofOpt he)
    refine⟨u,?_,h2⟩
    unfold Instr.field
    simp only[Sem.run_bind,run_underlying hu,Result.andThen,hf,asAgg,Sem.run_pure]
    exact h1
  ·exact he.elim
 ·exact he.elim
def absFieldAddr(P:Program)(t:TypeId)(p:SV)(fi:Nat):Tr SV :=
 match P.underlying t with
 |some (.struct fields) =>
  match fields[fi]? with
  |some f =>
   match tsz P f.type with
   |some (_+1) =>
    match p with
    |.ptr l off=>.ret (.ptr l (off+f.offset))
    |.pix l base n esz i j=>.ret (.pix l base n esz i (j+f.offset))
    |.rop n cell=>if f.offset<=n then .ret (.rop (n-f.offset) fun j=>cell (j+f.offset)) else .fail
    |_=>.fail
   |_=>.fail
  |none=>.fail
 |_=>.fail
theorem absFieldAddr_sound{P:Program}{w:World}{μ:Mu}{F:Nat->Prop}{t:TypeId}{v:Value}{s r:SV}{fi:Nat}(hv:Rep w μ F v s)(he:(absFieldAddr P t s fi).ev r) :
  ∃u,(Instr.fieldAt t v fi).run P w=.ok u w/\Rep w μ F u r:=by
 unfold absFieldAddr at he
 split at he
 ·rename_i fields hu
  split at he
  ·rename_i f hf
   split at he
   ·rename_i n hn
    have key:∀b o,(Instr.fieldAt t (.pointer (some ⟨b,o,none⟩)) fi).run P w=.ok (.pointer (some ⟨b,o+f.offset,none⟩)) w:=by
     intro b o
     unfold Instr.fieldAt
     simp only[Sem.run_bind,run_underlying hu,Result.andThen,hf,Instr.sureAddr,Sem.run_pure,fieldPlace,run_tsz w hn,Nat.add_one_ne_zero,if_false,add_none]
    split at he
    ·rename_i l off
     simp only[Tr.ev] at he;subst he
     cases hv with
     |ptr _ _ b o hm=>exact⟨_,key b (o+off),by rw[Nat.add_assoc];exact .ptr l _ b o hm⟩
    ·rename_i l base n' esz i j
     simp only[Tr.ev] at he;subst he
     cases hv with
     |pix _ _ _ _ _ _ b o hm=>exact⟨_,key b _,by rw[Nat.add_assoc];exact .pix l base n' esz i _ b o hm⟩
    ·rename_i n' cell
     split at he
     ·rename_i hle
      simp only[Tr.ev] at he;subst he
      cases hv with
      |rop b o _ _ f' hF hcell hone hrep =>
       exact⟨_,key b o,.rop b _ _ _ (fun j=>f' (j+f.offset)) (fun h=>hF (by omega)) (fun j hj=>by rw[Nat.add_assoc,Nat.add_comm f.offset j];exact hcell _ (by omega)) (fun j hj=>hone _ (by omega)) (fun j hj=>hrep _ (by omega))⟩
     ·exact he.elim
    ·exact he.elim
   ·exact he.elim
  ·exact he.elim
 ·exact he.elim
end
noncomputable section
def setRange(cs:List SV)(off:Nat)(xs:List SV):List SV:=cs.take off++xs++cs.drop (off+xs.length)
theorem getD_setRange(cs xs:List SV)(off i:Nat)(h:off+xs.length<=cs.length):(setRange cs off xs).getD i uv=if off<=i/\i<off+xs.length then xs.getD (i-off) uv else cs.getD i uv:=by
 unfold setRange
 simp only[List.getD]
 rw[List.append_assoc,List.getElem?_append]
 simp only[List.length_take]
 by_cases h1:i<off
 ·rw[if_pos (by omega),if_neg (by omega),List.getElem?_take,if_pos h1]
 ·rw[if_neg (by omega),List.getElem?_append,Nat.min_eq_left (by omega)]
  by_cases h2:i<off+xs.length
  ·rw[if_pos (by omega),if_pos (by omega)]
  ·rw[if_neg (by omega),if_neg (by omega),List.getElem?_drop]
   congr 2;omega
theorem length_setRange(cs xs:List SV)(off:Nat)(h:off+xs.length<=cs.length):(setRange cs off xs).length=cs.length:=by
 unfold setRange;simp;omega
def absFill(place:Nat->Option (Nat×Nat))(cs:List SV):List (Nat×SV)->Option (List SV)
 |[]=>some cs
 |(i,s)::rest =>
  match place i with
  |none=>none
  |some (off,size)=>if boxOK s/\(svcells s).length=size/\off+size<=cs.length then absFill place (setRange cs off (svcells s)) rest else none
theorem foldl_set(off:Nat):∀(xs:List Value) (k:Nat) (c:Array Value),let r:=(xs.zipIdx k).foldl (fun cs (p:Value×Nat)=>cs.setIfInBounds (off+p.2) p.1) c
  r.size=c.size/\∀i,i<c.size->r.getD i undef=if off+k<=i/\i<off+k+xs.length then xs.getD (i-(off+k)) undef else c.getD i undef
 |[],k,c=>by simp;intro i _ h1 h2;omega
 |x::xs,k,c=>by
  have ih:=foldl_set off xs (k+1) (c.setIfInBounds (off+k) x)
  simp only[List.zipIdx_cons,List.foldl_cons] at ih ⊢
  obtain⟨h1,h2⟩:=ih
  refine⟨by simpa using h1,fun i hi=>?_⟩
  rw[h2 i (by simpa using hi)]
  by_cases ha:off+(k+1)<=i/\i<off+(k+1)+xs.length
  ·rw[if_pos ha,if_pos (by simp;omega)]
   have:i-(off+k)=(i-(off+(k+1)))+1:=by omega
   rw[this];simp
  ·rw[if_neg ha]
   by_cases hb:i=off+k
   ·subst hb
    rw[if_pos (by simp)]
    simp[Array.getD,hi]
   ·rw[if_neg (by simp;omega)]
    simp[Array.getD,hi,Array.getElem_setIfInBounds,hb,Ne.symm hb]
def Reps(w:World)(μ:Mu)(F:Nat->Prop)(c:Array Value)(cs:List SV):Prop:=c.size=cs.length/\∀i,i<cs.length->Rep w μ F (c.getD i undef) (cs.getD i uv)
theorem boxOK_one{s:SV}(h:boxOK s=true):∀u,s=.d (.x u)->u.oneCell'=true:=fun u hu=>by subst hu;exact h
inductive RepsP(w:World)(μ:Mu)(F:Nat->Prop):List (Nat×Value)->List (Nat×SV)->Prop
 |nil:RepsP w μ F [] []
 |cons (i:Nat) {v:Value} {s:SV} {r:List (Nat×Value)} {t:List (Nat×SV)} (h:Rep w μ F v s) (hr:RepsP w μ F r t):RepsP w μ F ((i,v)::r) ((i,s)::t)
theorem absFill_sound{w:World}{μ:Mu}{F:Nat->Prop}{place:Nat->Option (Nat×Nat)}{ps:List (Nat×Value)}{ss:List (Nat×SV)}(hp:RepsP w μ F ps ss) :
  ∀{c:Array Value} {cs r:List SV},Reps w μ F c cs->absFill place cs ss=some r->∃c',Instr.fill place c ps=some c'/\Reps w μ F c' r:=by
 induction hp with
 |nil=>intro c cs r hc he;simp only[absFill,Option.some.injEq] at he;subst he;exact⟨c,rfl,hc⟩
 |@cons i v s r' t h hr ih =>
  intro c cs r hc he
  simp only[absFill] at he
  split at he
  ·cases he
  ·rename_i off size hpl
   split at he
   ·rename_i hk
    obtain⟨hb,hsz,hle⟩:=hk
    obtain⟨h1,h2⟩:=rep_svcells h (boxOK_one hb)
    have hf:=foldl_set off v.cells.toList 0 c
    simp only[Nat.add_zero] at hf
    have heq:(v.cells.zipIdx.foldl (fun cs (x:Value×Nat)=>cs.setIfInBounds (off+x.2) x.1) c)=((v.cells.toList.zipIdx 0).foldl (fun cs (p:Value×Nat)=>cs.setIfInBounds (off+p.2) p.1) c):=by
     rw[<- Array.foldl_toList,Array.toList_zipIdx]
    have hreps:Reps w μ F (v.cells.zipIdx.foldl (fun cs (x:Value×Nat)=>cs.setIfInBounds (off+x.2) x.1) c) (setRange cs off (svcells s)):=by
     rw[heq]
     refine⟨by rw[hf.1,hc.1,length_setRange _ _ _ (by omega)],fun k hk=>?_⟩
     rw[length_setRange _ _ _ (by omega)] at hk
     rw[hf.2 k (by rw[hc.1];exact hk),getD_setRange _ _ _ _ (by omega)]
     simp only[Array.length_toList]
     by_cases hin:off<=k/\k<off+(svcells s).length
     ·rw[if_pos hin,if_pos (by omega)]
      have:=h2 (k-off) (by omega)
      simpa [Array.getD,List.getD,show k-off<v.cells.size by omega] using this
     ·rw[if_neg hin,if_neg (by omega)]
      exact hc.2 k hk
    obtain⟨c',e1,e2⟩:=ih hreps he
    refine⟨c',?_,e2⟩
    simp only[Instr.fill,hpl]
    rw[if_neg (by have:=hc.1;simp;omega)]
    exact e1
   ·cases he
def absBuild(P:Program)(t:TypeId)(ps:List (Nat×SV)):Tr SV :=
 match pureRun P (zeroValue t),P.underlying t with
 |some z,some (.struct fields) =>
  match pureRun P (fields.mapM fun f=>do pure (f.offset,<- sizeOf f.type)) with
  |some places=>if boxOK (ofValue z) then Tr.ofOpt ((absFill (places[·]?) (svcells (ofValue z)) ps).map .agg) else .fail
  |none=>.fail
 |some z,some (.array _ elem) =>
  match tsz P elem with
  |some size=>if boxOK (ofValue z) then Tr.ofOpt ((absFill (fun i=>some (i*size,size)) (svcells (ofValue z)) ps).map .agg) else .fail
  |none=>.fail
 |_,_=>.fail
theorem reps_value{w:World}{μ:Mu}{F:Nat->Prop}{v:Value}{s:SV}(h:Rep w μ F v s)(hb:boxOK s=true):Reps w μ F v.cells (svcells s):=rep_svcells h (boxOK_one hb)
theorem absBuild_sound{P:Program}{w:World}{μ:Mu}{F:Nat->Prop}{t:TypeId}{ps:Array (Nat×Value)}{ss:List (Nat×SV)}{r:SV}(hp:RepsP w μ F ps.toList ss)(he:(absBuild P t ss).ev r) :
  ∃u,(Instr.build t ps).run P w=.ok u w/\Rep w μ F u r:=by
 unfold absBuild at he
 split at he
 ·rename_i z fields hz hu
  split at he
  ·rename_i places hpl
   split at he
   ·rename_i hb
    have he2:=Tr.ev_ofOpt he
    rw[Option.map_eq_some_iff] at he2
    obtain⟨r',he2,rfl⟩:=he2
    obtain⟨c',e1,e2⟩:=absFill_sound hp (reps_value (rep_ofValue w μ F z) hb) he2
    refine⟨.agg c',?_,.agg c' r' e2.1 e2.2⟩
    unfold Instr.build
    simp only[Sem.run_bind,pureRun_run w hz,run_underlying hu,Result.andThen,pureRun_run w hpl,e1]
    rfl
   ·exact he.elim
  ·exact he.elim
 ·rename_i z n elem hz hu
  split at he
  ·rename_i size hs
   split at he
   ·rename_i hb
    have he2:=Tr.ev_ofOpt he
    rw[Option.map_eq_some_iff] at he2
    obtain⟨r',he2,rfl⟩:=he2
    obtain⟨c',e1,e2⟩:=absFill_sound hp (reps_value (rep_ofValue w μ F z) hb) he2
    refine⟨.agg c',?_,.agg c' r' e2.1 e2.2⟩
    unfold Instr.build
    simp only[Sem.run_bind,pureRun_run w hz,run_underlying hu,Result.andThen,run_tsz w hs,e1,pure,Sem.run]
   ·exact he.elim
  ·exact he.elim
 ·exact he.elim
def absBuildSlice(P:Program)(id:Nat)(hp:Heap)(t:TypeId)(len:Nat)(ps:List (Nat×SV)):Tr (SV×Heap) :=
 match P.underlying t with
 |some (.slice elem) =>
  match tsz P elem,pureRun P (zeroValue elem) with
  |some size,some z =>
   if len*size<=16777216/\z.cells.size=size/\boxOK (ofValue z) then
    match absFill (fun i=>some (i*size,size)) ((List.range (len*size)).map fun k=>(svcells (ofValue z)).getD (k%size) uv) ps with
    |some cs=>if cs.all cellOK=true then .ret (.row id 0 0 len size,hset hp id (some (.cells cs))) else .fail
    |none=>.fail
   else .fail
  |_,_=>.fail
 |_=>.fail
theorem absFill_length{place:Nat->Option (Nat×Nat)}:∀{ss:List (Nat×SV)} {cs r:List SV},absFill place cs ss=some r->r.length=cs.length
 |[],cs,r,h=>by simp only[absFill,Option.some.injEq] at h;rw[h]
 |(i,s)::rest,cs,r,h=>by
  simp only[absFill] at h
  split at h
  ·cases h
  ·split at h
   ·rename_i hk
    rw[absFill_length h,length_setRange _ _ _ (by omega)]
   ·cases h
theorem absBuildSlice_sound{P:Program}{w:World}{μ:Mu}{F:Nat->Prop}{hp hp':Heap}{id:Nat}{t:TypeId}{len:Nat}{ps:Array (Nat×Value)}{ss:List (Nat×SV)}{r:SV}(hl:LH w μ F hp)(hid:μ id=none)
  (hps:RepsP w μ F ps.toList ss) (he:(absBuildSlice P id hp t len ss).ev (r,hp')):∃u w',(Instr.buildSlice t len ps).run P w=.ok u w'/\Out w μ F hp (·=id) hp' u r w':=by
 unfold absBuildSlice at he
 split at he
 ·rename_i elem hu
  split at he
  ·rename_i size z hs hz
   split at he
   ·rename_i hk
    obtain⟨hsm,hzs,hzb⟩:=hk
    split at he
    ·rename_i cs hf
     split at he
     rotate_left
     ·exact he.elim
     rename_i hall
     simp only[Tr.ev,Prod.mk.injEq] at he;obtain⟨rfl,rfl⟩:=he
     have hlen:=absFill_length hf
     simp only[List.length_map,List.length_range] at hlen
     have hzr:=reps_value (rep_ofValue w μ F z) hzb
     have h0:Reps w μ F ((Array.range (len*size)).map fun k=>z.cells[k%z.cells.size]!) ((List.range (len*size)).map fun k=>(svcells (ofValue z)).getD (k%size) uv):=by
      refine⟨by simp,fun i hi=>?_⟩
      simp only[List.length_map,List.length_range] at hi
      have hpos:0<size:=Nat.pos_of_ne_zero fun h=>by subst h;simp at hi
      have hlt:i%size<z.cells.size:=by rw[hzs];exact Nat.mod_lt _ hpos
      have:=hzr.2 (i%size) (by rw[<- hzr.1];exact hlt)
      simp only[List.getD,List.getElem?_map,List.getElem?_range hi,Option.map_some,Option.getD_some]
      have hlt2:i%size<size:=by omega
      simpa [Array.getD,hi,hzs,hlt2,List.getD,getElem!_pos,hlt] using this
     obtain⟨c',e1,e2⟩:=absFill_sound hps h0 hf
     have hrun:(Instr.buildSlice t len ps).run P w=.ok (.slice (some ⟨w.heap.size,0,none⟩) len len) (w.alloc (.cells c' elem)):=by
      unfold Instr.buildSlice
      simp only[Sem.run_bind,run_underlying hu,Result.andThen,run_tsz w hs]
      rw[if_neg (by simp;omega)]
      by_cases h00:len*size=0
      ·have hz0:((Array.range (len*size)).map fun k=>z.cells[k%z.cells.size]!)=#[]:=by simp[h00]
       rw[hz0] at e1
       simp only[h00,if_true,Sem.run_bind,pure,Sem.run,Result.andThen]
       have:((Array.range 0).map fun x=>(#[]:Array Value)[x%(#[]:Array Value).size]!)=#[]:=by simp
       rw[this,e1]
       rfl
      ·simp only[h00,if_false,Sem.run_bind,pureRun_run w hz,Result.andThen,pure,Sem.run,e1]
       rfl
     refine⟨_,_,hrun,out_alloc hl hid (blkAt_new (fun b hb=>(hl.fin b hb).1) (upd_ext hid) (by have:=e2.1;omega) e2.2 (fun i hi=>cellOK_one (e2.2 i hi) (all_cellOK hall i hi))) ?_⟩
     have hb:bsz (w.alloc (.cells c' elem)) w.heap.size=len*size:=by
      unfold bsz;rw[heap_alloc_at];simp[e2.1,hlen]
     have:=Rep.row (w:=w.alloc (.cells c' elem)) (μ:=upd μ id (.pl w.heap.size 0)) (F:=F) id 0 0 len size w.heap.size 0 len (by simp[upd]) (Nat.le_refl _) (by rw[hb];simp)
     simpa using this
    ·exact he.elim
   ·exact he.elim
  ·exact he.elim
 ·exact he.elim
end
noncomputable section
theorem hs_update{w:World}{μ:Mu}{F:Nat->Prop}{hp:Heap}{l b o:Nat}{blk blk':Blk}{c cs':Array Value}{e:TypeId}(hl:LH w μ F hp)(hg:hget hp l=some blk)(hm:μ l=some (.pl b o))
  (hh:w.heap[b]?=some (.cells c e (0,0))) (hsz:cs'.size=c.size) (hb:BlkAt (w.setRow b cs') μ F (.pl b o) blk') :
  HS ⟨w,Tk hp μ,F⟩ μ F (hset hp l (some blk')) (w.setRow b cs'):=by
 have hF:¬F b:=(hl.blkAt hg hm).2
 have hext:Ext F w (w.setRow b cs'):=Ext.setRow F w b c cs' e _ hh hF hsz
 have hT:Tk hp μ b:=⟨l,blk,o,hg,hm⟩
 refine⟨Ext.setRow _ w b c cs' e _ hh (fun h=>h.2 hT) hsz,fun b hb=>hb,fun b' hb'=>⟨by have:=(hl.fin b' hb').1;simp[World.setRow];exact this,.inl hb'⟩,?_,?_⟩
 ·intro l' blk1 hg1
  rw[hget_hset] at hg1
  split at hg1
  ·rename_i he;subst he
   simp only[Option.some.injEq] at hg1;subst hg1
   obtain⟨q,h1,h2,h3⟩:=hl.blk l' blk hg
   rw[hm,Option.some.injEq] at h1;subst h1
   exact⟨_,hm,h2,hb⟩
  ·rename_i hne
   obtain⟨q,h1,h2,h3⟩:=hl.blk l' blk1 hg1
   refine⟨q,h1,h2,h3.mono hext (fun _ h=>h) (fun _ _ h=>h) ?_⟩
   intro b' o' hq;subst hq
   exact setRow_heap_other w b b' cs' (hl.inj l' l blk1 blk b' o' b o hne hg1 hg h1 hm)
 ·intro l1 l2 blk1 blk2 b1 o1 b2 o2 hne h1 h2 m1 m2
  rw[hget_hset] at h1 h2
  by_cases e1:l1=l
  ·rw[if_neg (fun h=>hne (e1.trans h.symm))] at h2
   subst e1
   exact hl.inj l1 l2 blk blk2 b1 o1 b2 o2 hne hg h2 m1 m2
  ·rw[if_neg e1] at h1
   by_cases e2:l2=l
   ·subst e2
    exact hl.inj l1 l2 blk1 blk b1 o1 b2 o2 hne h1 hg m1 m2
   ·rw[if_neg e2] at h2
    exact hl.inj l1 l2 blk1 blk2 b1 o1 b2 o2 hne h1 h2 m1 m2
def selD(c:Bool)(x y:DV):DV :=
 match x,y with
 |.x (.int k a),.x (.int k' b)=>if k=k' then .x (.int k (bif c then a else b)) else bif c then x else y
 |.x (.bool a),.x (.bool b)=>.x (.bool (bif c then a else b))
 |.x (.string a),.x (.string b)=>.x (.string (bif c then a else b))
 |_,_=>bif c then x else y
theorem selD_eq(c:Bool)(x y:DV):selD c x y=bif c then x else y:=by
 unfold selD
 split
 ·split
  ·rename_i h;subst h;cases c<;>rfl
  ·rfl
 ·cases c<;>rfl
 ·cases c<;>rfl
 ·rfl
def dvsOf:List SV->Option (List DV)
 |[]=>some []
 |.d v::r=>(dvsOf r).map (v::·)
 |_::_=>none
theorem dvsOf_spec:∀{cs:List SV} {ds:List DV},dvsOf cs=some ds->ds.length=cs.length/\∀i,i<cs.length->cs.getD i uv=.d (ds.getD i (.x undef))
 |[],ds,h=>by simp only[dvsOf,Option.some.injEq] at h;subst h;simp
 |.d v::r,ds,h=>by
  simp only[dvsOf,Option.map_eq_some_iff] at h
  obtain⟨ds',h1,rfl⟩:=h
  obtain⟨h2,h3⟩:=dvsOf_spec h1
  refine⟨by simp[h2],fun i hi=>?_⟩
  cases i with
  |zero=>simp
  |succ i=>simpa using h3 i (by simpa using hi)
 |.ptr ..::_,ds,h=>by simp[dvsOf] at h
 |.pix ..::_,ds,h=>by simp[dvsOf] at h
 |.row ..::_,ds,h=>by simp[dvsOf] at h
 |.rop ..::_,ds,h=>by simp[dvsOf] at h
 |.agg ..::_,ds,h=>by simp[dvsOf] at h
 |.fn ..::_,ds,h=>by simp[dvsOf] at h
 |.tup ..::_,ds,h=>by simp[dvsOf] at h
 |.ifc ..::_,ds,h=>by simp[dvsOf] at h
def selS(c:Bool)(x y:SV):SV :=
 match x,y with
 |.d a,.d b=>.d (selD c a b)
 |_,_=>bif c then x else y
theorem selS_eq(c:Bool)(x y:SV):selS c x y=bif c then x else y:=by
 unfold selS
 split
 ·rw[selD_eq];cases c<;>rfl
 ·rfl
def setPix(cs:List SV)(base m esz i j n:Nat)(xs:List SV):List SV :=
 (List.range cs.length).map fun k=>if base<=k/\k<base+m*esz/\j<=(k-base)%esz/\(k-base)%esz<j+n then selS (decide ((k-base) / esz=i)) (xs.getD ((k-base)%esz-j) uv) (cs.getD k uv) else cs.getD k uv
theorem length_setPix(cs:List SV)(base m esz i j n:Nat)(xs:List SV):(setPix cs base m esz i j n xs).length=cs.length:=by simp[setPix]
theorem getD_setPix{cs:List SV}{base m esz i j n:Nat}{xs:List SV}(hi:i<m)(hj:j+n<=esz){k:Nat}(hk:k<cs.length) :
  (setPix cs base m esz i j n xs).getD k uv=if base+i*esz+j<=k/\k<base+i*esz+j+n then xs.getD (k-(base+i*esz+j)) uv else cs.getD k uv:=by
 have e0:(setPix cs base m esz i j n xs).getD k uv=if base<=k/\k<base+m*esz/\j<=(k-base)%esz/\(k-base)%esz<j+n then selS (decide ((k-base) / esz=i)) (xs.getD ((k-base)%esz-j) uv) (cs.getD k uv) else cs.getD k uv:=by
  simp[setPix,List.getD,hk]
 rw[e0]
 have hm:(i+1)*esz<=m*esz:=Nat.mul_le_mul_right _ hi
 rw[Nat.add_mul] at hm
 by_cases h1:base+i*esz+j<=k/\k<base+i*esz+j+n
 ·obtain⟨r,hr⟩:∃r,k-base=i*esz+r:=⟨k-base-i*esz,by omega⟩
  have hrl:r<esz:=by omega
  have e2:(k-base)%esz=k-base-i*esz:=by rw[hr,Nat.mul_add_mod_self_right,Nat.mod_eq_of_lt hrl];omega
  have e3:(k-base) / esz=i:=by
   rw[hr,Nat.add_comm,Nat.add_mul_div_right _ _ (by omega),Nat.div_eq_of_lt hrl];omega
  rw[if_pos h1,if_pos (by omega),selS_eq,e3,e2]
  simp only[decide_true,cond_true]
  congr 1;omega
 ·rw[if_neg h1]
  split
  ·rename_i h2
   rw[selS_eq]
   by_cases e3:(k-base) / esz=i
   ·exfalso
    have:=Nat.div_add_mod (k-base) esz
    rw[e3,Nat.mul_comm] at this
    omega
   ·simp[e3]
  ·rfl
def absStore(P:Program)(hp:Heap)(t:TypeId)(p s:SV):Tr Heap :=
 match tsz P t with
 |none=>.fail
 |some n =>
  let xs:=svcells s
  if boxOK s/\xs.length=n/\xs.all cellOK then
   match p with
   |.ptr l off =>
    match hget hp l with
    |some (.cells cs)=>if off+n<=cs.length then .ret (hset hp l (some (.cells (setRange cs off xs)))) else .fail
    |some (.row m e _)=>if off=0/\n=m*e then .ret (hset hp l (some (.cells xs))) else .fail
    |_=>.fail
   |.pix l base m esz i j =>
    match hget hp l with
    |some (.row n' esz' cell) =>
     match dvsOf xs with
     |some ds =>
      if base=0/\esz=esz'/\j+n<=esz then
       .nd (i<n') (.ret (hset hp l (some (.row n' esz fun a b=>if j<=b/\b<j+n then selD (decide (a=i)) (ds.getD (b-j) (.x undef)) (cell a b) else cell a b))))
      else .fail
     |none=>.fail
    |some (.cells cs)=>if base+m*esz<=cs.length/\j+n<=esz then .nd (i<m) (.ret (hset hp l (some (.cells (setPix cs base m esz i j n xs))))) else .fail
    |_=>.fail
   |_=>.fail
  else .fail
theorem list_take_drop_getD(c:Array Value)(off:Nat)(vs:List Value)(i:Nat)(h:off+vs.length<=c.size) :
  ((c.toList.take off++vs++c.toList.drop (off+vs.length)).toArray).getD i undef=if off<=i/\i<off+vs.length then vs.getD (i-off) undef else c.getD i undef:=by
 simp only[Array.getD_eq_getD_getElem?,List.getElem?_toArray]
 rw[List.append_assoc,List.getElem?_append]
 simp only[List.length_take,Array.length_toList]
 by_cases h1:i<off
 ·rw[if_pos (by omega),if_neg (by omega),List.getElem?_take,if_pos h1];simp
 ·rw[if_neg (by omega),List.getElem?_append,Nat.min_eq_left (by omega)]
  by_cases h2:i<off+vs.length
  ·rw[if_pos (by omega),if_pos (by omega)];simp[List.getD]
  ·rw[if_neg (by omega),if_neg (by omega),List.getElem?_drop]
   rw[show off+vs.length+(i-off-vs.length)=i by omega];simp
theorem absStore_sound{P:Program}{w:World}{μ:Mu}{F:Nat->Prop}{hp hp':Heap}{t:TypeId}{pv v:Value}{p s:SV}(hl:LH w μ F hp)(hpv:Rep w μ F pv p)(hv:Rep w μ F v s)
  (he:(absStore P hp t p s).ev hp'):∃w',(Instr.storeAt t pv v).run P w=.ok () w'/\HS ⟨w,Tk hp μ,F⟩ μ F hp' w':=by
 unfold absStore at he
 split at he
 ·exact he.elim
 ·rename_i n hn
  simp only[] at he
  split at he
  ·rename_i hk
   obtain⟨hb,hlen,hall⟩:=hk
   obtain⟨h1,h2⟩:=rep_svcells hv (boxOK_one hb)
   have hone:∀u∈v.cells.toList,u.oneCell'=true:=by
    intro u hu
    rw[List.mem_iff_getElem] at hu
    obtain⟨i,hi,rfl⟩:=hu
    have hi':i<(svcells s).length:=by simp at hi;omega
    have:=h2 i hi'
    have hi2:i<v.cells.size:=by simpa using hi
    simp only[Array.getD,hi2,dite_true] at this
    refine cellOK_one this ?_
    rw[List.all_eq_true] at hall
    refine hall _ ?_
    simp[List.getD,hi']
   have hone':∀i,i<v.cells.toList.length->(v.cells.toList.getD i undef).oneCell'=true:=by
    intro i hi
    refine hone _ ?_
    simp at hi
    simp[List.getD,hi]
   have run:∀b q (c:Array Value) e,w.heap[b]?=some (.cells c e (0,0))->q+n<=c.size ->
     (Instr.storeAt t (.pointer (some ⟨b,q,none⟩)) v).run P w=.ok () (w.setRow b (c.toList.take q++v.cells.toList++c.toList.drop (q+v.cells.toList.length)).toArray):=by
    intro b q c e hh hq
    have:=run_storeCells_at P b q e v.cells.toList 0 c w hh (by simp;omega) hone
    simp only[Nat.add_zero] at this
    unfold Instr.storeAt storeVar
    simp only[Instr.sureAddr,Sem.run_bind,Sem.run_pure,Result.andThen,run_tsz w hn]
    rw[if_neg (by omega)]
    exact this
   cases hpv with
   |ptr l off b o hm =>
    simp only[] at he
    split at he
    ·rename_i cs hg
     split at he
     ·rename_i hle
      simp only[Tr.ev] at he;subst he
      obtain⟨⟨c,e,hh,hsz,hc,hc1⟩,hF⟩:=hl.blkAt hg hm
      refine⟨_,run b (o+off) c e hh (by omega),hs_update hl hg hm hh (by simp;omega) ?_⟩
      have hext:Ext F w (w.setRow b (c.toList.take (o+off)++v.cells.toList++c.toList.drop (o+off+v.cells.toList.length)).toArray):=Ext.setRow F w b c _ e _ hh hF (by simp;omega)
      refine⟨_,e,setRow_heap_same w b c e _ _ hh,by rw[length_setRange _ _ _ (by omega)];simp;omega,fun i hi=>?_,fun i hi=>?_⟩
      rotate_left
      ·rw[length_setRange _ _ _ (by omega)] at hi
       rw[list_take_drop_getD c (o+off) _ _ (by simp;omega)]
       split
       ·exact hone' _ (by simp at *;omega)
       ·exact hc1 i hi
      rw[length_setRange _ _ _ (by omega)] at hi
      rw[list_take_drop_getD c (o+off) _ _ (by simp;omega),getD_setRange _ _ _ _ (by omega)]
      simp only[Array.length_toList]
      by_cases hin:off<=i/\i<off+(svcells s).length
      ·rw[if_pos hin,if_pos (by omega)]
       have:=(h2 (i-off) (by omega)).mono hext (fun _ h=>h) (fun _ _ h=>h)
       rw[show o+i-(o+off)=i-off by omega]
       simpa [Array.getD,List.getD,show i-off<v.cells.size by omega] using this
      ·rw[if_neg hin,if_neg (by omega)]
       exact(hc i hi).mono hext (fun _ h=>h) (fun _ _ h=>h)
     ·exact he.elim
    ·rename_i m ez cell hg
     split at he
     ·rename_i hle
      obtain⟨h00,hle⟩:=hle
      subst h00
      simp only[Tr.ev] at he;subst he
      obtain⟨⟨c,e,hh,hsz,hc,hc1⟩,hF⟩:=hl.blkAt hg hm
      refine⟨_,run b (o+0) c e hh (by omega),hs_update hl hg hm hh (by simp;omega) ?_⟩
      have hext:Ext F w (w.setRow b (c.toList.take (o+0)++v.cells.toList++c.toList.drop (o+0+v.cells.toList.length)).toArray):=Ext.setRow F w b c _ e _ hh hF (by simp;omega)
      refine⟨_,e,setRow_heap_same w b c e _ _ hh,by simp;omega,fun i hi=>?_,fun i hi=>?_⟩
      rotate_left
      ·rw[list_take_drop_getD c (o+0) _ _ (by simp;omega)]
       rw[if_pos (by simp;omega)]
       exact hone' _ (by simp at *;omega)
      rw[list_take_drop_getD c (o+0) _ _ (by simp;omega)]
      simp only[Array.length_toList]
      rw[if_pos (by omega)]
      have:=(h2 i (by omega)).mono hext (fun _ h=>h) (fun _ _ h=>h)
      rw[show o+i-(o+0)=i by omega]
      simpa [Array.getD,List.getD,show i<v.cells.size by omega] using this
     ·exact he.elim
    ·exact he.elim
   |pix l base m esz i j b o hm =>
    simp only[] at he
    split at he
    ·rename_i n' esz' cell hg
     split at he
     rotate_left
     ·exact he.elim
     rename_i ds hds
     split at he
     ·rename_i hle
      obtain⟨rfl,rfl,hj⟩:=hle
      simp only[Tr.ev] at he;obtain⟨hi,rfl⟩:=he
      obtain⟨⟨c,e,hh,hsz,hc,hc1⟩,hF⟩:=hl.blkAt hg hm
      obtain⟨hd1,hd2⟩:=dvsOf_spec hds
      have hq:o+0+i*esz+j+n<=c.size:=by
       have:(i+1)*esz<=n'*esz:=Nat.mul_le_mul_right _ hi
       rw[Nat.add_mul] at this
       omega
      refine⟨_,run b (o+0+i*esz+j) c e hh hq,hs_update hl hg hm hh (by simp;omega) ?_⟩
      have hext:Ext F w (w.setRow b (c.toList.take (o+0+i*esz+j)++v.cells.toList++c.toList.drop (o+0+i*esz+j+v.cells.toList.length)).toArray):=Ext.setRow F w b c _ e _ hh hF (by simp;omega)
      refine⟨_,e,setRow_heap_same w b c e _ _ hh,by simp;omega,fun a k ha hk=>?_,fun a k ha hk=>?_⟩
      rotate_left
      ·rw[list_take_drop_getD c _ _ _ (by simp;omega)]
       split
       ·exact hone' _ (by simp at *;omega)
       ·exact hc1 a k ha hk
      rw[list_take_drop_getD c _ _ _ (by simp;omega)]
      simp only[Array.length_toList]
      have hrow:a≠i->(a*esz+k<i*esz+j\/i*esz+j+n<=a*esz+k):=by
       intro hne
       rcases Nat.lt_or_gt_of_ne hne with hlt|hgt
       ·have:(a+1)*esz<=i*esz:=Nat.mul_le_mul_right _ hlt
        rw[Nat.add_mul] at this;omega
       ·have:(i+1)*esz<=a*esz:=Nat.mul_le_mul_right _ hgt
        rw[Nat.add_mul] at this;omega
      have hold:=(hc a k ha hk).mono hext (fun _ h=>h)
      by_cases hai:a=i
      ·subst hai
       by_cases hin:j<=k/\k<j+n
       ·rw[if_pos hin,if_pos (by omega),selD_eq]
        simp only[decide_true,cond_true]
        have:=(h2 (k-j) (by omega)).mono hext (fun _ h=>h) (fun _ _ h=>h)
        rw[hd2 (k-j) (by omega)] at this
        rw[show o+(a*esz+k)-(o+0+a*esz+j)=k-j by omega]
        have hd:=rep_d this
        simpa [Array.getD,List.getD,show k-j<v.cells.size by omega] using hd
       ·rw[if_neg hin,if_neg (by omega)]
        exact hold
      ·have:=hrow hai
       rw[if_neg (by omega)]
       split
       ·rw[selD_eq];simp only[hai,decide_false,cond_false];exact hold
       ·exact hold
     ·exact he.elim
    ·rename_i cs hg
     split at he
     ·rename_i hle
      obtain⟨hbm,hj⟩:=hle
      simp only[Tr.ev] at he;obtain⟨hi,rfl⟩:=he
      obtain⟨⟨c,e,hh,hsz,hc,hc1⟩,hF⟩:=hl.blkAt hg hm
      have hme:(i+1)*esz<=m*esz:=Nat.mul_le_mul_right _ hi
      rw[Nat.add_mul] at hme
      refine⟨_,run b (o+base+i*esz+j) c e hh (by omega),hs_update hl hg hm hh (by simp;omega) ?_⟩
      have hext:Ext F w (w.setRow b (c.toList.take (o+base+i*esz+j)++v.cells.toList++c.toList.drop (o+base+i*esz+j+v.cells.toList.length)).toArray):=Ext.setRow F w b c _ e _ hh hF (by simp;omega)
      refine⟨_,e,setRow_heap_same w b c e _ _ hh,by rw[length_setPix];simp;omega,fun k hk=>?_,fun k hk=>?_⟩
      rotate_left
      ·rw[length_setPix] at hk
       rw[list_take_drop_getD c _ _ _ (by simp;omega)]
       split
       ·exact hone' _ (by simp at *;omega)
       ·exact hc1 k hk
      rw[length_setPix] at hk
      rw[list_take_drop_getD c _ _ _ (by simp;omega),getD_setPix hi hj hk]
      simp only[Array.length_toList]
      by_cases hin:base+i*esz+j<=k/\k<base+i*esz+j+n
      ·rw[if_pos hin,if_pos (by omega)]
       have:=(h2 (k-(base+i*esz+j)) (by omega)).mono hext (fun _ h=>h) (fun _ _ h=>h)
       rw[show o+k-(o+base+i*esz+j)=k-(base+i*esz+j) by omega]
       simpa [Array.getD,List.getD,show k-(base+i*esz+j)<v.cells.size by omega] using this
      ·rw[if_neg hin,if_neg (by omega)]
       exact(hc k hk).mono hext (fun _ h=>h) (fun _ _ h=>h)
     ·exact he.elim
    ·exact he.elim
   |_=>exact he.elim
  ·exact he.elim
def absIndexAddr(P:Program)(hp:Heap)(t:TypeId)(x ix:SV):Tr SV :=
 match ix with
 |.d (.x (.int k i)) =>
  match P.underlying t,x with
  |some (.slice elem),.d (.ro len esz cell) =>
   if tsz P elem=some esz then .nd (0<=i/\i<len) (.ret (.rop esz fun j=>cell i.toNat j)) else .fail
  |some (.slice elem),.row l base off len esz =>
   if tsz P elem=some esz then .nd (0<=i/\i<len) (.ret (.pix l base (off+len) esz (off+i.toNat) 0)) else .fail
  |some (.array n elem),.ptr l off =>
   match tsz P elem with
   |some esz=>.nd (0<=i/\i<n) (.ret (.pix l off n esz i.toNat 0))
   |none=>.fail
  |some (.array n elem),.pix l base m e a j =>
   match tsz P elem with
   |some esz=>.nd (0<=i/\i<n) (.ret (.pix l base m e a (j+i.toNat*esz)))
   |none=>.fail
  |some (.array n elem),.rop m cell =>
   match tsz P elem with
   |some esz=>if n*esz<=m then .nd (0<=i/\i<n) (.ret (.rop esz fun j=>cell (i.toNat*esz+j))) else .fail
   |none=>.fail
  |some (.slice elem),.d (.x (.slice ad n c)) =>
   match tsz P elem with
   |some esz=>.need (∃b o,ad=some ⟨b,o,none⟩) (.nd (0<=i/\i<n) (.ret (.d (.x (.pointer (ad.map fun a=>⟨a.block,a.off+i.toNat*esz,none⟩))))))
   |none=>.fail
  |_,_=>.fail
 |_=>.fail
theorem absIndexAddr_sound{P:Program}{w:World}{μ:Mu}{F:Nat->Prop}{hp:Heap}{t:TypeId}{xv iv:Value}{x ix r:SV}(hx:Rep w μ F xv x)(hi:Rep w μ F iv ix)(he:(absIndexAddr P hp t x ix).ev r) :
  ∃u,(Instr.indexAt t xv iv).run P w=.ok u w/\Rep w μ F u r:=by
 unfold absIndexAddr at he
 split at he
 ·rename_i k i
  have:=rep_x hi;subst this
  split at he
  ·rename_i elem len esz cell hu
   split at he
   ·rename_i hs
    obtain⟨hb,he⟩:=he
    simp only[Tr.ev] at he;subst he
    generalize hsv:SV.d (.ro len esz cell)=sv at hx
    cases hx with
    |d hd =>
     simp only[SV.d.injEq] at hsv;subst hsv
     generalize hdv:DV.ro len esz cell=dv at hd
     cases hd with
     |x=>cases hdv
     |rf=>cases hdv
     |nil=>cases hdv;omega
     |z=>cases hdv;omega
     |ro b o len' cap esz' cell' f hF hc hcell hone hrep =>
      cases hdv
      refine⟨.pointer (some ⟨b,o+i.toNat*esz,none⟩),?_,?_⟩
      ·unfold Instr.indexAt
       simp only[asIntOf,Sem.run_bind,Sem.run_pure,Result.andThen,run_underlying hu]
       rw[if_pos (by omega)]
       simp only[Sem.run_bind,run_tsz w hs,Result.andThen,Sem.run_pure,add_none]
      ·refine .rop b _ esz _ (fun j=>f i.toNat j) (fun _=>hF (by omega)) (fun j hj=>?_) (fun j hj=>hone _ _ (by omega) hj) (fun j hj=>hrep _ _ (by omega) hj)
       rw[Nat.add_assoc];exact hcell _ _ (by omega) hj
    |_=>cases hsv
   ·exact he.elim
  ·rename_i elem l base off len esz hu
   split at he
   ·rename_i hs
    obtain⟨hb,he⟩:=he
    simp only[Tr.ev] at he;subst he
    cases hx with
    |rnil=>omega
    |rz=>omega
    |row _ _ _ _ _ b o cap hm hc hz =>
     refine⟨.pointer (some ⟨b,o+base+off*esz+i.toNat*esz,none⟩),?_,?_⟩
     ·unfold Instr.indexAt
      simp only[asIntOf,Sem.run_bind,Sem.run_pure,Result.andThen,run_underlying hu]
      rw[if_pos (by omega)]
      simp only[Sem.run_bind,run_tsz w hs,Result.andThen,Sem.run_pure,add_none]
     ·have:=Rep.pix (w:=w) (F:=F) l base (off+len) esz (off+i.toNat) 0 b o hm
      rw[show o+base+(off+i.toNat)*esz+0=o+base+off*esz+i.toNat*esz by rw[Nat.add_mul];omega] at this
      exact this
   ·exact he.elim
  ·rename_i n elem l off hu
   split at he
   ·rename_i esz hs
    obtain⟨hb,he⟩:=he
    simp only[Tr.ev] at he;subst he
    cases hx with
    |ptr _ _ b o hm =>
     refine⟨.pointer (some ⟨b,o+off+i.toNat*esz,none⟩),?_,?_⟩
     ·unfold Instr.indexAt
      simp only[asIntOf,Sem.run_bind,Sem.run_pure,Result.andThen,run_underlying hu,Instr.sureAddr]
      rw[if_pos (by omega)]
      simp only[Sem.run_bind,run_tsz w hs,Result.andThen,Sem.run_pure,add_none]
     ·have:=Rep.pix (w:=w) (F:=F) l off n esz i.toNat 0 b o hm
      rw[Nat.add_zero] at this
      exact this
   ·exact he.elim
  ·rename_i n elem l base m e a j hu
   split at he
   ·rename_i esz hs
    obtain⟨hb,he⟩:=he
    simp only[Tr.ev] at he;subst he
    cases hx with
    |pix _ _ _ _ _ _ b o hm =>
     refine⟨.pointer (some ⟨b,o+base+a*e+j+i.toNat*esz,none⟩),?_,?_⟩
     ·unfold Instr.indexAt
      simp only[asIntOf,Sem.run_bind,Sem.run_pure,Result.andThen,run_underlying hu,Instr.sureAddr]
      rw[if_pos (by omega)]
      simp only[Sem.run_bind,run_tsz w hs,Result.andThen,Sem.run_pure,add_none]
     ·have:=Rep.pix (w:=w) (F:=F) l base m e a (j+i.toNat*esz) b o hm
      rw[<- Nat.add_assoc] at this
      exact this
   ·exact he.elim
  ·rename_i n elem m cell hu
   split at he
   ·rename_i esz hs
    split at he
    ·rename_i hle
     obtain⟨hb,he⟩:=he
     simp only[Tr.ev] at he;subst he
     cases hx with
     |rop b o _ _ f hF hcell hone hrep =>
      have hlt:∀j,j<esz->i.toNat*esz+j<m:=by
       intro j hj
       have:(i.toNat+1)*esz<=n*esz:=Nat.mul_le_mul_right _ (by omega)
       rw[Nat.add_mul] at this;omega
      refine⟨.pointer (some ⟨b,o+i.toNat*esz,none⟩),?_,?_⟩
      ·unfold Instr.indexAt
       simp only[asIntOf,Sem.run_bind,Sem.run_pure,Result.andThen,run_underlying hu,Instr.sureAddr]
       rw[if_pos (by omega)]
       simp only[Sem.run_bind,run_tsz w hs,Result.andThen,Sem.run_pure,add_none]
      ·refine .rop b _ esz _ (fun j=>f (i.toNat*esz+j)) (fun h=>hF (by have:=hlt 0 (by omega);omega)) (fun j hj=>?_) (fun j hj=>hone _ (hlt j hj)) (fun j hj=>hrep _ (hlt j hj))
       rw[Nat.add_assoc];exact hcell _ (hlt j hj)
    ·exact he.elim
   ·exact he.elim
  ·rename_i elem ad n c hu
   split at he
   ·rename_i esz hs
    obtain⟨⟨b,o,rfl⟩,hb,he⟩:=he
    simp only[Tr.ev] at he;subst he
    have:=rep_x hx;subst this
    refine⟨.pointer (some ⟨b,o+i.toNat*esz,none⟩),?_,.d (.x _)⟩
    unfold Instr.indexAt
    simp only[asIntOf,Sem.run_bind,Sem.run_pure,Result.andThen,run_underlying hu]
    rw[if_pos (by omega)]
    simp only[Sem.run_bind,run_tsz w hs,Result.andThen,Sem.run_pure,add_none]
   ·exact he.elim
  ·exact he.elim
 ·exact he.elim
end
noncomputable section
def eqFieldsA(eqv:TypeId->SV->SV->Option Bool)(P:Program)(xs ys:List SV):List Field->Option Bool
 |[]=>some true
 |f::fs =>
  if f.name≠"_" then
   match absPart P f.type xs f.offset,absPart P f.type ys f.offset with
   |some a,some b =>
    match eqv f.type a b,eqFieldsA eqv P xs ys fs with
    |some p,some q=>some (p&&q)
    |_,_=>none
   |_,_=>none
  else eqFieldsA eqv P xs ys fs
def eqItemsA(eqv:TypeId->SV->SV->Option Bool)(P:Program)(xs ys:List SV)(e:TypeId)(c:Nat):List Nat->Option Bool
 |[]=>some true
 |i::is =>
  match absPart P e xs (i*c),absPart P e ys (i*c) with
  |some a,some b =>
   match eqv e a b,eqItemsA eqv P xs ys e c is with
   |some p,some q=>some (p&&q)
   |_,_=>none
  |_,_=>none
def eqV(P:Program):Nat->TypeId->SV->SV->Option Bool
 |0,_,_,_=>none
 |d+1,t,x,y =>
  match P.underlying t,x,y with
  |some .bool,.d (.x (.bool a)),.d (.x (.bool b))=>some (a==b)
  |some (.int _),.d (.x (.int k a)),.d (.x (.int k' b))=>if k=k' then some (a==b) else none
  |some .string,.d (.x (.string a)),.d (.x (.string b))=>some (a==b)
  |some (.struct fs),.agg xs,.agg ys=>if P.stoodInHeld t then none else eqFieldsA (eqV P d) P xs ys fs.toList
  |some (.array n e),.agg xs,.agg ys=>if(P.info? e).isSome=true then eqItemsA (eqV P d) P xs ys e (P.cellsOf e) (List.range n) else none
  |_,_,_=>none
theorem eqV_sound{P:Program}{w:World}{μ:Mu}{F:Nat->Prop}:∀(d e:Nat) {t:TypeId} {xv yv:Value} {x y:SV} {r:Bool},Rep w μ F xv x->Rep w μ F yv y->eqV P d t x y=some r ->
  (Op.equalIn (d+e) t xv yv).run P w=.ok r w
 |0,e,t,xv,yv,x,y,r,_,_,h=>by simp[eqV] at h
 |d+1,e,t,xv,yv,x,y,r,hx,hy,h=>by
  unfold eqV at h
  rw[show d+1+e=(d+e)+1 by omega]
  split at h
  ·rename_i a b hu
   simp only[Option.some.injEq] at h;subst h
   rw[rep_x hx,rep_x hy];exact run_equalIn_bool' w _ t a b hu
  ·rename_i k0 k a k' b hu
   split at h
   ·rename_i hk;subst hk
    simp only[Option.some.injEq] at h;subst h
    rw[rep_x hx,rep_x hy];exact run_equalIn_int w _ t k k0 a b hu
   ·cases h
  ·rename_i a b hu
   simp only[Option.some.injEq] at h;subst h
   rw[rep_x hx,rep_x hy,run_equalIn_string w _ t a b hu,beq_toListBytes]
  ·rename_i fs xs ys hu
   split at h
   ·cases h
   ·rename_i hst
    cases hx with
    |agg cx _ hlx hix =>
     cases hy with
     |agg cy _ hly hiy =>
      have hfs:P.fieldsOf t=fs:=by simp[Program.fieldsOf,hu]
      rw[run_equalIn_struct w (d+e) t cx cy (by rw[hfs];exact hu) (by simpa using hst),hfs]
      clear hfs hu
      generalize fs.toList=l at h ⊢
      induction l generalizing r with
      |nil=>simp only[eqFieldsA,Option.some.injEq] at h;subst h;rfl
      |cons f l ih =>
       unfold eqFieldsA at h
       unfold Op.eqFields
       split at h
       ·rename_i hn
        rw[if_pos hn]
        split at h
        ·rename_i a b ha hb
         split at h
         ·rename_i p q hp hq
          simp only[Option.some.injEq] at h;subst h
          obtain⟨ua,ra,repa⟩:=absPart_sound hlx hix ha
          obtain⟨ub,rb,repb⟩:=absPart_sound hly hiy hb
          have:=eqV_sound d e repa repb hp
          simp only[Sem.run_bind,ra,Result.andThen,rb,this]
          cases p with
          |true=>simp only[Bool.not_true,Bool.false_eq_true,if_false,Bool.true_and];exact ih _ hq
          |false=>simp
         ·cases h
        ·cases h
       ·rename_i hn
        rw[if_neg hn]
        exact ih _ h
  ·rename_i n el xs ys hu
   split at h
   ·rename_i hin
    obtain⟨inf,hinf⟩:=Option.isSome_iff_exists.1 hin
    cases hx with
    |agg cx _ hlx hix =>
     cases hy with
     |agg cy _ hly hiy =>
      rw[run_equalIn_array w (d+e) cx cy hu hinf]
      generalize List.range n=l at h ⊢
      induction l generalizing r with
      |nil=>simp only[eqItemsA,Option.some.injEq] at h;subst h;simp[Op.eqItems]
      |cons j l ih =>
       unfold eqItemsA at h
       unfold Op.eqItems
       split at h
       ·rename_i a b ha hb
        split at h
        ·rename_i p q hp hq
         simp only[Option.some.injEq] at h;subst h
         obtain⟨ua,ra,repa⟩:=absPart_sound hlx hix ha
         obtain⟨ub,rb,repb⟩:=absPart_sound hly hiy hb
         have:=eqV_sound d e repa repb hp
         simp only[Sem.run_bind,ra,Result.andThen,rb,this]
         cases p with
         |true=>simp only[Bool.not_true,Bool.false_eq_true,if_false,Bool.true_and];exact ih _ hq
         |false=>simp
        ·cases h
       ·cases h
   ·cases h
  ·cases h
def absBin(P:Program)(op:BinOp)(t:TypeId)(x y:Operand)(a b:SV):Tr SV :=
 match op,a,b with
 |.quo,.d (.x (.int k m)),.d (.x (.int k' n))=>if k=k' then .nd (n≠0) (.ret (.d (.x (.int k (k.wrap (m.tdiv n)))))) else .fail
 |.rem,.d (.x (.int k m)),.d (.x (.int k' n))=>if k=k' then .nd (n≠0) (.ret (.d (.x (.int k (m.tmod n))))) else .fail
 |.shl,.d (.x (.int k m)),.d (.x (.int _ n))=>.nd (0<=n) (.ret (.d (.x (.int k (k.wrap (m*2^(min n.toNat k.bits)))))))
 |.shr,.d (.x (.int k m)),.d (.x (.int _ n))=>.nd (0<=n) (.ret (.d (.x (.int k (m.fdiv (2^(min n.toNat k.bits)))))))
 |.eql,.agg xs,.agg ys=>if P.eqGuardType P.depth t then .fail else match eqV P 100 t (.agg xs) (.agg ys) with|some r=>.ret (.d (.x (.bool r)))|none=>.fail
 |.neq,.agg xs,.agg ys=>if P.eqGuardType P.depth t then .fail else match eqV P 100 t (.agg xs) (.agg ys) with|some r=>.ret (.d (.x (.bool (!r))))|none=>.fail
 |_,_,_ =>
  match exact a,exact b with
  |some u,some v =>
   match pureRun P (do eqGuard op t x y u v;binOp op t u v) with
   |some r=>if(ofValue r matches .d _) then .ret (ofValue r) else .fail
   |none=>.fail
  |_,_=>.fail
theorem run_andThen_ok{α β:Type}{P:Program}{s:Sem α}{f:α->Sem β}{w w':World}{a:α}(h:s.run P w=.ok a w'):(do let x <- s;f x).run P w=(f a).run P w':=by
 simp only[Sem.run_bind,h,Result.andThen]
theorem absBin_sound{P:Program}{w:World}{μ:Mu}{F:Nat->Prop}{op:BinOp}{t:TypeId}{x y:Operand}{av bv:Value}{a b r:SV}(ha:Rep w μ F av a)(hb:Rep w μ F bv b)(he:(absBin P op t x y a b).ev r) :
  ∃u,((do eqGuard op t x y av bv;binOp op t av bv):Sem Value).run P w=.ok u w/\Rep w μ F u r:=by
 have hint:∀(op:BinOp) (k k':IntKind) (m n:Int),(op=.quo\/op=.rem\/op=.shl\/op=.shr)->(eqGuard op t x y (.int k m) (.int k' n)).run P w=.ok () w:=by
  intro op k k' m n h
  rcases h with rfl|rfl|rfl|rfl<;>rfl
 unfold absBin at he
 split at he
 ·rename_i k m k' n
  split at he
  ·rename_i hk;subst hk
   obtain⟨hn,he⟩:=he
   simp only[Tr.ev] at he;subst he
   rw[rep_x ha,rep_x hb]
   refine⟨_,?_,.d (.x _)⟩
   rw[run_andThen_ok (hint .quo k k m n (by simp))]
   simp[binOp,Op.intDiv,hn]
  ·exact he.elim
 ·rename_i k m k' n
  split at he
  ·rename_i hk;subst hk
   obtain⟨hn,he⟩:=he
   simp only[Tr.ev] at he;subst he
   rw[rep_x ha,rep_x hb]
   refine⟨_,?_,.d (.x _)⟩
   rw[run_andThen_ok (hint .rem k k m n (by simp))]
   simp[binOp,Op.intDiv,hn]
  ·exact he.elim
 ·rename_i k m k' n
  obtain⟨hn,he⟩:=he
  simp only[Tr.ev] at he;subst he
  rw[rep_x ha,rep_x hb]
  refine⟨_,?_,.d (.x _)⟩
  rw[run_andThen_ok (hint .shl k k' m n (by simp))]
  simp[binOp,Op.shift,show ¬n<0 by omega]
 ·rename_i k m k' n
  obtain⟨hn,he⟩:=he
  simp only[Tr.ev] at he;subst he
  rw[rep_x ha,rep_x hb]
  refine⟨_,?_,.d (.x _)⟩
  rw[run_andThen_ok (hint .shr k k' m n (by simp))]
  simp[binOp,Op.shift,show ¬n<0 by omega]
 ·rename_i xs ys
  split at he
  ·exact he.elim
  ·rename_i hg
   split at he
   ·rename_i q hq
    simp only[Tr.ev] at he;subst he
    cases ha with
    |agg cx _ hlx hix =>
     cases hb with
     |agg cy _ hly hiy =>
      refine⟨_,?_,.d (.x _)⟩
      rw[run_andThen_ok (run_eqGuard_agg w .eql t x y cx cy (by simpa using hg)),run_eql_struct,eqV_sound 100 9900 (.agg cx xs hlx hix) (.agg cy ys hly hiy) hq]
      rfl
   ·exact he.elim
 ·rename_i xs ys
  split at he
  ·exact he.elim
  ·rename_i hg
   split at he
   ·rename_i q hq
    simp only[Tr.ev] at he;subst he
    cases ha with
    |agg cx _ hlx hix =>
     cases hb with
     |agg cy _ hly hiy =>
      refine⟨_,?_,.d (.x _)⟩
      rw[run_andThen_ok (run_eqGuard_agg w .neq t x y cx cy (by simpa using hg)),run_neq_struct,eqV_sound 100 9900 (.agg cx xs hlx hix) (.agg cy ys hly hiy) hq]
      rfl
   ·exact he.elim
 ·split at he
  ·rename_i u v hu hv
   split at he
   ·rename_i q hq
    split at he
    ·simp only[Tr.ev] at he;subst he
     rw[exact_spec hu ha,exact_spec hv hb]
     exact⟨q,pureRun_run w hq,rep_ofValue w μ F q⟩
    ·exact he.elim
   ·exact he.elim
  ·exact he.elim
def absPure(P:Program)(s:Sem Value):Tr SV :=
 match pureRun P s with
 |some r=>.ret (ofValue r)
 |none=>.fail
theorem absPure_sound{P:Program}{w:World}{μ:Mu}{F:Nat->Prop}{s:Sem Value}{r:SV}(he:(absPure P s).ev r):∃u,s.run P w=.ok u w/\Rep w μ F u r:=by
 unfold absPure at he
 split at he
 ·rename_i q hq
  simp only[Tr.ev] at he;subst he
  exact⟨q,pureRun_run w hq,rep_ofValue w μ F q⟩
 ·exact he.elim
def absBound(x:Option SV)(dflt bound:Nat):Option (Nat×Prop) :=
 match x with
 |none=>some (dflt,True)
 |some (.d (.x (.int _ i)))=>some (i.toNat,0<=i/\i.toNat<=bound)
 |_=>none
theorem run_sliceBounds{P:Program}{w:World}{μ:Mu}{F:Nat->Prop}{isS:Bool}{len cap top l h:Nat}{lo hi:Option Value}{slo shi:Option SV}{pl ph:Prop}
  (hlo:∀v,lo=some v->∃s,slo=some s/\Rep w μ F v s) (hhi:∀v,hi=some v->∃s,shi=some s/\Rep w μ F v s) (hlo0:lo=none->slo=none) (hhi0:hi=none->shi=none)
  (ht:top<=cap) (htl:len<=top) (eh:absBound shi len top=some (h,ph)) (el:absBound slo 0 h=some (l,pl)) (hph:ph) (hpl:pl) :
  (Instr.sliceBounds isS len cap lo hi none).run P w=.ok (l,h,cap) w/\l<=h/\h<=top:=by
 have hhi':∃e:(match hi with|some v=>Instr.sliceBound v cap (if isS then .sliceAcap else .sliceAlen)|none=>(pure len:Sem Nat)).run P w=.ok h w,h<=top:=by
  cases hi with
  |none =>
   rw[hhi0 rfl] at eh
   simp only[absBound,Option.some.injEq,Prod.mk.injEq] at eh
   exact⟨by rw[<- eh.1];rfl,by omega⟩
  |some v =>
   obtain⟨s,hs,hr⟩:=hhi v rfl
   subst hs
   unfold absBound at eh
   split at eh
   ·contradiction
   ·rename_i k i heq
    simp only[Option.some.injEq] at heq;subst heq
    simp only[Option.some.injEq,Prod.mk.injEq] at eh
    obtain⟨rfl,rfl⟩:=eh
    have:=rep_x hr;subst this
    exact⟨run_sliceBound w k i cap _ hph.1 (by omega),hph.2⟩
   ·cases eh
 obtain⟨e1,e2⟩:=hhi'
 have hlo':∃e:(match lo with|some v=>Instr.sliceBound v h (if(none:Option Value).isSome then .slice3C else .sliceB)|none=>(pure 0:Sem Nat)).run P w=.ok l w,l<=h:=by
  cases lo with
  |none =>
   rw[hlo0 rfl] at el
   simp only[absBound,Option.some.injEq,Prod.mk.injEq] at el
   exact⟨by rw[<- el.1];rfl,by omega⟩
  |some v =>
   obtain⟨s,hs,hr⟩:=hlo v rfl
   subst hs
   unfold absBound at el
   split at el
   ·contradiction
   ·rename_i k i heq
    simp only[Option.some.injEq] at heq;subst heq
    simp only[Option.some.injEq,Prod.mk.injEq] at el
    obtain⟨rfl,rfl⟩:=el
    have:=rep_x hr;subst this
    exact⟨run_sliceBound w k i h _ hpl.1 (by omega),hpl.2⟩
   ·cases el
 obtain⟨e3,e4⟩:=hlo'
 refine⟨?_,e4,e2⟩
 unfold Instr.sliceBounds
 simp only[Sem.run_bind,Sem.run_pure,Result.andThen]
 cases hi<;>cases lo<;>simp only[Sem.run_bind,Sem.run_pure,Result.andThen] at e1 e3 ⊢<;>simp_all
def absSlice(P:Program)(t:TypeId)(x:SV)(lo hi:Option SV):Tr SV :=
 match P.underlying t,x with
 |some .string,.d (.x (.string s)) =>
  match absBound hi s.size s.size with
  |some (h,ph)=>match absBound lo 0 h with
   |some (l,pl)=>.need (ph/\pl) (.ret (.d (.x (.string (s.extract l h)))))
   |none=>.fail
  |none=>.fail
 |some (.slice elem),.d (.ro len esz cell) =>
  match absBound hi len len with
  |some (h,ph)=>match absBound lo 0 h with
   |some (l,pl)=>if tsz P elem=some esz then .need (ph/\pl) (.ret (.d (.ro (h-l) esz fun i j=>cell (l+i) j))) else .fail
   |none=>.fail
  |none=>.fail
 |some (.slice elem),.row m base off len esz =>
  match absBound hi len len with
  |some (h,ph)=>match absBound lo 0 h with
   |some (l,pl)=>if tsz P elem=some esz then .need (ph/\pl) (.ret (.row m base (off+l) (h-l) esz)) else .fail
   |none=>.fail
  |none=>.fail
 |some (.array n elem),.ptr m off =>
  match absBound hi n n with
  |some (h,ph)=>match absBound lo 0 h with
   |some (l,pl)=>match tsz P elem with
    |some esz=>.need (ph/\pl) (.ret (.row m off l (h-l) esz))
    |none=>.fail
   |none=>.fail
  |none=>.fail
 |some (.array n elem),.rop m cell =>
  match absBound hi n n with
  |some (h,ph)=>match absBound lo 0 h with
   |some (l,pl)=>match tsz P elem with
    |some esz=>if n*esz<=m/\0<esz then .need (ph/\pl) (.ret (.d (.ro (h-l) esz fun i j=>cell ((l+i)*esz+j)))) else .fail
    |none=>.fail
   |none=>.fail
  |none=>.fail
 |_,_=>.fail
theorem absSlice_sound{P:Program}{w:World}{μ:Mu}{F:Nat->Prop}{hp:Heap}{t:TypeId}{xv:Value}{x r:SV}{lo hi:Option Value}{slo shi:Option SV}(hl:LH w μ F hp)
  (hlo:∀v,lo=some v->∃s,slo=some s/\Rep w μ F v s) (hhi:∀v,hi=some v->∃s,shi=some s/\Rep w μ F v s) (hlo0:lo=none->slo=none) (hhi0:hi=none->shi=none)
  (hx:Rep w μ F xv x) (hbz:∀m off,x=.ptr m off->∀n elem esz,P.underlying t=some (.array n elem)->tsz P elem=some esz->∀b o,μ m=some (.pl b o)->o+off+n*esz<=bsz w b) (he:(absSlice P t x slo shi).ev r) :
  ∃u,(Instr.sliceAt t xv lo hi none).run P w=.ok u w/\Rep w μ F u r:=by
 unfold absSlice at he
 split at he
 ·rename_i s hu
  split at he
  ·rename_i h ph eh
   split at he
   ·rename_i l pl el
    obtain⟨⟨hph,hpl⟩,he⟩:=he
    simp only[Tr.ev] at he;subst he
    obtain⟨hr,h1,h2⟩:=run_sliceBounds (P:=P) (isS:=false) (cap:=s.size) hlo hhi hlo0 hhi0 (Nat.le_refl _) (Nat.le_refl _) eh el hph hpl
    rw[rep_x hx]
    refine⟨.string (s.extract l h),?_,.d (.x _)⟩
    unfold Instr.sliceAt
    simp only[Sem.run_bind,run_underlying hu,Result.andThen]
    unfold Instr.slice
    simp only[Sem.run_bind,run_underlying hu,Result.andThen,Option.isSome_none,Bool.false_eq_true,if_false,hr,Sem.run_pure]
   ·exact he.elim
  ·exact he.elim
 ·rename_i elem len esz cell hu
  split at he
  ·rename_i h ph eh
   split at he
   ·rename_i l pl el
    split at he
    ·rename_i hs
     obtain⟨⟨hph,hpl⟩,he⟩:=he
     simp only[Tr.ev] at he;subst he
     have hd:=rep_d hx
     generalize hdv:DV.ro len esz cell=dv at hd
     cases hd with
     |x=>cases hdv
     |rf=>cases hdv
     |nil =>
      cases hdv
      obtain⟨hr,h1,h2⟩:=run_sliceBounds (P:=P) (isS:=true) (cap:=0) hlo hhi hlo0 hhi0 (Nat.le_refl _) (Nat.le_refl _) eh el hph hpl
      have:h=0:=by omega
      subst this
      have:l=0:=by omega
      subst this
      refine⟨.slice none 0 0,?_,.d (.nil _ _)⟩
      unfold Instr.sliceAt
      simp only[Sem.run_bind,run_underlying hu,Result.andThen]
      unfold Instr.slice
      simp only[Sem.run_bind,run_underlying hu,Result.andThen,hr,run_tsz w hs,Sem.run_pure]
      simp
     |z a cap esz' cell' =>
      cases hdv
      obtain⟨hr,h1,h2⟩:=run_sliceBounds (P:=P) (isS:=true) (cap:=cap) hlo hhi hlo0 hhi0 (Nat.zero_le _) (Nat.le_refl _) eh el hph hpl
      have:h=0:=by omega
      subst this
      have:l=0:=by omega
      subst this
      refine⟨.slice (some a) 0 cap,?_,.d (.z a cap _ _)⟩
      unfold Instr.sliceAt
      simp only[Sem.run_bind,run_underlying hu,Result.andThen]
      unfold Instr.slice
      simp only[Sem.run_bind,run_underlying hu,Result.andThen,hr,run_tsz w hs,Sem.run_pure]
      by_cases hcl:cap=0
      ·subst hcl;simp
      ·simp[hcl,Addr.add]
     |ro b o len' cap esz' cell' f hF hc hcell hone hrep =>
      cases hdv
      obtain⟨hr,h1,h2⟩:=run_sliceBounds (P:=P) (isS:=true) (cap:=cap) hlo hhi hlo0 hhi0 hc (Nat.le_refl _) eh el hph hpl
      by_cases hcl:cap=l
      ·refine⟨.slice (some ⟨b,o,none⟩) (h-l) (cap-l),?_,.d (.ro b o _ _ esz _ (fun i j=>f (l+i) j) (fun h=>by omega) (by omega) (fun i j hi=>by omega) (fun i j hi=>by omega) (fun i j hi=>by omega))⟩
       unfold Instr.sliceAt
       simp only[Sem.run_bind,run_underlying hu,Result.andThen]
       unfold Instr.slice
       simp only[Sem.run_bind,run_underlying hu,Result.andThen,hr,run_tsz w hs,Sem.run_pure]
       rw[if_pos hcl]
      ·refine⟨.slice (some ⟨b,o+l*esz,none⟩) (h-l) (cap-l),?_,.d (.ro b _ _ _ esz _ (fun i j=>f (l+i) j) (fun h=>hF (by omega)) (by omega) (fun i j hi hj=>?_) (fun i j hi hj=>hone _ _ (by omega) hj) (fun i j hi hj=>hrep _ _ (by omega) hj))⟩
       ·unfold Instr.sliceAt
        simp only[Sem.run_bind,run_underlying hu,Result.andThen]
        unfold Instr.slice
        simp only[Sem.run_bind,run_underlying hu,Result.andThen,hr,run_tsz w hs,Sem.run_pure,hcl,if_false,Option.map_some,add_none]
       ·rw[show o+l*esz+(i*esz+j)=o+((l+i)*esz+j) by rw[Nat.add_mul];omega]
        exact hcell _ _ (by omega) hj
    ·exact he.elim
   ·exact he.elim
  ·exact he.elim
 ·rename_i elem m base off len esz hu
  split at he
  ·rename_i h ph eh
   split at he
   ·rename_i l pl el
    split at he
    ·rename_i hs
     obtain⟨⟨hph,hpl⟩,he⟩:=he
     simp only[Tr.ev] at he;subst he
     cases hx with
     |rnil _ _ _ _ hm =>
      obtain⟨hr,h1,h2⟩:=run_sliceBounds (P:=P) (isS:=true) (cap:=0) hlo hhi hlo0 hhi0 (Nat.le_refl _) (Nat.le_refl _) eh el hph hpl
      have:h=0:=by omega
      subst this
      have:l=0:=by omega
      subst this
      refine⟨.slice none 0 0,?_,.rnil _ _ _ _ hm⟩
      unfold Instr.sliceAt
      simp only[Sem.run_bind,run_underlying hu,Result.andThen]
      unfold Instr.slice
      simp only[Sem.run_bind,run_underlying hu,Result.andThen,hr,run_tsz w hs,Sem.run_pure]
      simp
     |rz _ _ _ _ b' o' q hm =>
      obtain⟨hr,h1,h2⟩:=run_sliceBounds (P:=P) (isS:=true) (cap:=0) hlo hhi hlo0 hhi0 (Nat.le_refl _) (Nat.le_refl _) eh el hph hpl
      have:h=0:=by omega
      subst this
      have:l=0:=by omega
      subst this
      refine⟨.slice (some ⟨b',o',none⟩) 0 0,?_,.rz _ _ _ _ b' o' q hm⟩
      unfold Instr.sliceAt
      simp only[Sem.run_bind,run_underlying hu,Result.andThen]
      unfold Instr.slice
      simp only[Sem.run_bind,run_underlying hu,Result.andThen,hr,run_tsz w hs,Sem.run_pure]
      simp
     |row _ _ _ _ _ b o cap hm hc hz =>
      obtain⟨hr,h1,h2⟩:=run_sliceBounds (P:=P) (isS:=true) (cap:=cap) hlo hhi hlo0 hhi0 hc (Nat.le_refl _) eh el hph hpl
      by_cases hcl:cap=l
      ·refine⟨.slice (some ⟨b,o+base+off*esz,none⟩) (h-l) (cap-l),?_,?_⟩
       ·unfold Instr.sliceAt
        simp only[Sem.run_bind,run_underlying hu,Result.andThen]
        unfold Instr.slice
        simp only[Sem.run_bind,run_underlying hu,Result.andThen,hr,run_tsz w hs,Sem.run_pure]
        rw[if_pos hcl]
       ·rw[show h-l=0 by omega,show cap-l=0 by omega]
        exact .rz _ _ _ _ _ _ _ hm
      ·refine⟨.slice (some ⟨b,o+base+off*esz+l*esz,none⟩) (h-l) (cap-l),?_,?_⟩
       ·unfold Instr.sliceAt
        simp only[Sem.run_bind,run_underlying hu,Result.andThen]
        unfold Instr.slice
        simp only[Sem.run_bind,run_underlying hu,Result.andThen,hr,run_tsz w hs,Sem.run_pure,hcl,if_false,Option.map_some,add_none]
       ·have:=Rep.row (w:=w) (F:=F) m base (off+l) (h-l) esz b o (cap-l) hm (by omega) (by rw[show off+l+(cap-l)=off+cap by omega];exact hz)
        rw[Nat.add_mul,<- Nat.add_assoc] at this
        exact this
    ·exact he.elim
   ·exact he.elim
  ·exact he.elim
 ·rename_i n elem m off hu
  split at he
  ·rename_i h ph eh
   split at he
   ·rename_i l pl el
    split at he
    ·rename_i esz hs
     obtain⟨⟨hph,hpl⟩,he⟩:=he
     simp only[Tr.ev] at he;subst he
     cases hx with
     |ptr _ _ b o hm =>
      obtain⟨hr,h1,h2⟩:=run_sliceBounds (P:=P) (isS:=false) (cap:=n) hlo hhi hlo0 hhi0 (Nat.le_refl _) (Nat.le_refl _) eh el hph hpl
      have hz:=hbz m off rfl n elem esz hu hs b o hm
      by_cases hcl:n=l
      ·refine⟨.slice (some ⟨b,o+off,none⟩) (h-l) (n-l),?_,?_⟩
       ·unfold Instr.sliceAt
        simp only[Sem.run_bind,run_underlying hu,Result.andThen,Instr.sureAddr,Sem.run_pure,hr,run_tsz w hs]
        rw[if_pos hcl]
       ·rw[show h-l=0 by omega,show n-l=0 by omega]
        exact .rz _ _ _ _ _ _ _ hm
      ·refine⟨.slice (some ⟨b,o+off+l*esz,none⟩) (h-l) (n-l),?_,?_⟩
       ·unfold Instr.sliceAt
        simp only[Sem.run_bind,run_underlying hu,Result.andThen,Instr.sureAddr,Sem.run_pure,hr,run_tsz w hs,hcl,if_false,add_none]
       ·exact .row m off l (h-l) esz b o (n-l) hm (by omega) (by rw[show l+(n-l)=n by omega];exact hz)
    ·exact he.elim
   ·exact he.elim
  ·exact he.elim
 ·rename_i n elem m cell hu
  split at he
  ·rename_i h ph eh
   split at he
   ·rename_i l pl el
    split at he
    ·rename_i esz hs
     split at he
     ·rename_i hle
      obtain⟨⟨hph,hpl⟩,he⟩:=he
      simp only[Tr.ev] at he;subst he
      cases hx with
      |rop b o _ _ f hF hcell hone hrep =>
       obtain⟨hr,h1,h2⟩:=run_sliceBounds (P:=P) (isS:=false) (cap:=n) hlo hhi hlo0 hhi0 (Nat.le_refl _) (Nat.le_refl _) eh el hph hpl
       have hlt:∀i j,i<h-l->j<esz->(l+i)*esz+j<m:=by
        intro i j hi hj
        have:(l+i+1)*esz<=n*esz:=Nat.mul_le_mul_right _ (by omega)
        rw[Nat.add_mul] at this;omega
       by_cases hcl:n=l
       ·refine⟨.slice (some ⟨b,o,none⟩) (h-l) (n-l),?_,.d (.ro b o _ _ esz _ (fun i j=>f ((l+i)*esz+j)) (fun h=>by omega) (by omega) (fun i j hi=>by omega) (fun i j hi=>by omega) (fun i j hi=>by omega))⟩
        unfold Instr.sliceAt
        simp only[Sem.run_bind,run_underlying hu,Result.andThen,Instr.sureAddr,Sem.run_pure,hr,run_tsz w hs]
        rw[if_pos hcl]
       ·refine⟨.slice (some ⟨b,o+l*esz,none⟩) (h-l) (n-l),?_,?_⟩
        ·unfold Instr.sliceAt
         simp only[Sem.run_bind,run_underlying hu,Result.andThen,Instr.sureAddr,Sem.run_pure,hr,run_tsz w hs,hcl,if_false,add_none]
        ·have hpos:=hle.2
         ·refine .d (.ro b _ _ _ esz _ (fun i j=>f ((l+i)*esz+j)) (fun hne=>hF (by have:=hlt 0 0 (by omega) hpos;omega)) (by omega) (fun i j hi hj=>?_) (fun i j hi hj=>hone _ (hlt i j hi hj)) (fun i j hi hj=>hrep _ (hlt i j hi hj)))
          rw[show o+l*esz+(i*esz+j)=o+((l+i)*esz+j) by rw[Nat.add_mul];omega]
          exact hcell _ (hlt i j hi hj)
     ·exact he.elim
    ·exact he.elim
   ·exact he.elim
  ·exact he.elim
 ·exact he.elim
def absSlice3(P:Program)(t:TypeId)(x hi mx:SV):Tr SV :=
 match P.underlying t,x,hi,mx with
 |some (.slice elem),.d (.ro len esz cell),.d (.x (.int _ i)),.d (.x (.int _ j)) =>
  if tsz P elem=some esz then .need (i=(len:Int)/\j=(len:Int)) (.ret (.d (.rf len esz cell))) else .fail
 |some (.slice elem),.d (.x (.slice none 0 0)),.d (.x (.int _ i)),.d (.x (.int _ j)) =>
  match tsz P elem with
  |some _=>.need (i=0/\j=0) (.ret (.d (.x (.slice none 0 0))))
  |none=>.fail
 |_,_,_,_=>.fail
theorem run_bounds3{P:Program}(w:World){len cap:Nat}{k k':IntKind}(h:len<=cap):(Instr.sliceBounds true len cap none (some (.int k (len:Int))) (some (.int k' (len:Int)))).run P w=.ok (0,len,len) w:=by
 have e1:=fun code=>run_sliceBound (P:=P) w k' (len:Int) cap code (by omega) (by omega)
 have e2:=fun code=>run_sliceBound (P:=P) w k (len:Int) len code (by omega) (by omega)
 simp only[Int.toNat_natCast] at e1 e2
 unfold Instr.sliceBounds
 simp only[Sem.run_bind,Sem.run_pure,Result.andThen,e1,e2]
theorem absSlice3_sound{P:Program}{w:World}{μ:Mu}{F:Nat->Prop}{t:TypeId}{x sh sm r:SV}{v hv mv:Value}(hx:Rep w μ F v x)(hh:Rep w μ F hv sh)(hm:Rep w μ F mv sm)(he:(absSlice3 P t x sh sm).ev r) :
  ∃u,(Instr.sliceAt t v none (some hv) (some mv)).run P w=.ok u w/\Rep w μ F u r:=by
 unfold absSlice3 at he
 split at he
 ·rename_i elem len esz cell k i k' j hu
  split at he
  ·rename_i hs
   obtain⟨⟨rfl,rfl⟩,he⟩:=he
   simp only[Tr.ev] at he;subst he
   obtain rfl:=rep_x hh
   obtain rfl:=rep_x hm
   have hd:=rep_d hx
   have hd0:=hd
   generalize hdv:DV.ro len esz cell=dv at hd
   cases hd with
   |x=>cases hdv
   |rf=>cases hdv
   |nil =>
    cases hdv
    refine⟨.slice none 0 0,?_,.d (.rf _ _ _ _ (.nil _ _) ⟨_,rfl⟩)⟩
    unfold Instr.sliceAt
    simp only[Sem.run_bind,run_underlying hu,Result.andThen]
    unfold Instr.slice
    simp only[Sem.run_bind,run_underlying hu,Result.andThen,run_bounds3 (P:=P) w (Nat.le_refl 0),run_tsz w hs,Sem.run_pure]
    rfl
   |z a cap esz' cell' =>
    cases hdv
    refine⟨.slice (some a) 0 0,?_,.d (.rf _ _ _ _ (.z a 0 _ _) ⟨_,rfl⟩)⟩
    unfold Instr.sliceAt
    simp only[Sem.run_bind,run_underlying hu,Result.andThen]
    unfold Instr.slice
    simp only[Sem.run_bind,run_underlying hu,Result.andThen,run_bounds3 (P:=P) w (Nat.zero_le cap),run_tsz w hs,Sem.run_pure]
    rfl
   |ro b o len' cap esz' cell' f hF hc hcell hone hrep =>
    cases hdv
    refine⟨.slice (some ⟨b,o,none⟩) len len,?_,.d (.rf _ _ _ _ (.ro b o len len esz cell f hF (Nat.le_refl _) hcell hone hrep) ⟨_,rfl⟩)⟩
    unfold Instr.sliceAt
    simp only[Sem.run_bind,run_underlying hu,Result.andThen]
    unfold Instr.slice
    simp only[Sem.run_bind,run_underlying hu,Result.andThen,run_bounds3 (P:=P) w hc,run_tsz w hs,Sem.run_pure]
    by_cases h0:len=0
    ·rw[if_pos h0];rfl
    ·rw[if_neg h0,Option.map_some,Nat.zero_mul,add_none];rfl
  ·exact he.elim
 ·rename_i elem k i k' j hu
  split at he
  ·rename_i e hs
   obtain⟨⟨rfl,rfl⟩,he⟩:=he
   simp only[Tr.ev] at he;subst he
   obtain rfl:=rep_x hh
   obtain rfl:=rep_x hm
   obtain rfl:=rep_x hx
   refine⟨.slice none 0 0,?_,hx⟩
   unfold Instr.sliceAt
   simp only[Sem.run_bind,run_underlying hu,Result.andThen]
   unfold Instr.slice
   have:=run_bounds3 (P:=P) (k:=k) (k':=k') w (Nat.le_refl 0)
   simp only[Int.natCast_zero] at this
   simp only[Sem.run_bind,run_underlying hu,Result.andThen,this,run_tsz w hs,Sem.run_pure]
   rfl
  ·exact he.elim
 ·exact he.elim
end
noncomputable section
def dsAt(ds:List DV)(k:Nat):DV:=match ds with
 |[d]=>d
 |ds=>ds.getD k (.x undef)
theorem dsAt_eq{ds:List DV}{k:Nat}(h:k<ds.length):dsAt ds k=ds.getD k (.x undef):=by
 unfold dsAt
 split
 ·have:k=0:=by simpa using h
  subst this;rfl
 ·rfl
def absSrc(hp:Heap)(x:SV)(esz:Nat):Option (Nat×(Nat->Nat->DV)×Prop) :=
 match x with
 |.d (.x (.slice none 0 0))=>some (0,(fun _ _=>.x undef),True)
 |.d (.x (.string s))=>if esz=1 then some (s.size,(fun i _=>.x (.int .u8 (s.data.getD i 0).toNat)),True) else none
 |.d (.ro len esz' cell)=>if esz'=esz then some (len,cell,True) else none
 |.row l base off len esz' =>
  match hget hp l with
  |some (.row n esz'' cell)=>if base=0/\esz'=esz/\esz''=esz then some (len,(fun i j=>cell (off+i) j),off+len<=n) else none
  |some (.cells cs) =>
   match dvsOf cs with
   |some ds=>if esz'=esz then some (len,(fun i j=>dsAt ds (base+(off+i)*esz+j)),base+(off+len)*esz<=cs.length) else none
   |none=>none
  |_=>none
 |_=>none
def SrcAt(P:Program)(w:World)(F:Nat->Prop)(v:Value)(esz n:Nat)(cell:Nat->Nat->DV):Prop :=
 ∃news:List Value,news.length=n*esz/\(∀w1,(∀a,w1.cell? a=w.cell? a)->(Builtin.lenOf v).run P w1=.ok n w1/\(Builtin.firstCells esz n v).run P w1=.ok news.toArray w1) /\
  (∀i j,i<n->j<esz->RepD w F (news.getD (i*esz+j) undef) (cell i j))/\∀u∈news,u.oneCell'=true
theorem src_of_cells{P:Program}{w:World}{F:Nat->Prop}{b q n cap esz:Nat}{cell:Nat->Nat->DV}(f:Nat->Value)(hcell:∀k,k<n*esz->w.cell? ⟨b,q+k,none⟩=some (f k))
  (hrep:∀i j,i<n->j<esz->RepD w F (f (i*esz+j)) (cell i j)) (hone:∀k,k<n*esz->(f k).oneCell'=true):SrcAt P w F (.slice (some ⟨b,q,none⟩) n cap) esz n cell:=by
 refine⟨(List.range (n*esz)).map f,by simp,fun w1 hw=>⟨rfl,?_⟩,fun i j hi hj=>?_,fun u hu=>?_⟩
 ·refine run_firstCells_some w1 esz n _ n cap _ (by simp) (fun j v hv=>?_)
  rw[add_none,hw]
  have hj:j<n*esz:=by
   have:=(List.getElem?_eq_some_iff.1 hv).1;simpa using this
  rw[hcell j hj]
  simpa [hj] using hv
 ·have hlt:i*esz+j<n*esz:=by
   have:(i+1)*esz<=n*esz:=Nat.mul_le_mul_right _ hi
   rw[Nat.add_mul] at this;omega
  have:=hrep i j hi hj
  simpa [List.getD,hlt] using this
 ·simp only[List.mem_map,List.mem_range] at hu
  obtain⟨k,hk,rfl⟩:=hu
  exact hone k hk
theorem split_idx{k n esz:Nat}(h:k<n*esz):k / esz<n/\k%esz<esz/\k / esz*esz+k%esz=k:=by
 have hpos:0<esz:=Nat.pos_of_ne_zero fun he=>by subst he;simp at h
 refine⟨(Nat.div_lt_iff_lt_mul hpos).2 h,Nat.mod_lt _ hpos,?_⟩
 rw[Nat.mul_comm];exact Nat.div_add_mod k esz
theorem absSrc_sound{P:Program}{w:World}{μ:Mu}{F:Nat->Prop}{hp:Heap}{v:Value}{x:SV}{esz n:Nat}{cell:Nat->Nat->DV}{p:Prop}(hl:LH w μ F hp)(hx:Rep w μ F v x)(he:absSrc hp x esz=some (n,cell,p))(hp0:p) :
  SrcAt P w F v esz n cell:=by
 unfold absSrc at he
 split at he
 ·simp only[Option.some.injEq,Prod.mk.injEq] at he
  obtain⟨rfl,rfl,rfl⟩:=he
  rw[rep_x hx]
  exact⟨[],by simp,fun w1 _=>⟨rfl,by simp[Builtin.firstCells]⟩,fun i j hi=>by omega,fun u hu=>by cases hu⟩
 ·rename_i s
  split at he
  ·rename_i h1;subst h1
   simp only[Option.some.injEq,Prod.mk.injEq] at he
   obtain⟨rfl,rfl,rfl⟩:=he
   rw[rep_x hx]
   refine⟨(s.data.map fun b=>Value.int .u8 b.toNat).toList,by simp,fun w1 _=>⟨rfl,?_⟩,fun i j hi hj=>?_,fun u hu=>?_⟩
   ·simp only[Builtin.firstCells,Sem.run_pure,Array.toArray_toList]
    have:(s.extract 0 s.size)=s:=by simp
    rw[this]
   ·have hj0:j=0:=by omega
    subst hj0
    have hi':i<s.data.size:=hi
    simp only[Nat.mul_one,Nat.add_zero,List.getD,Array.getElem?_toList,Array.getElem?_map,Array.getElem?_eq_getElem hi',Option.map_some,Option.getD_some,Array.getD,hi',dite_true]
    exact .x _
   ·simp at hu
    obtain⟨b,_,rfl⟩:=hu
    rfl
  ·cases he
 ·rename_i len esz' cell'
  split at he
  ·rename_i h1;subst h1
   simp only[Option.some.injEq,Prod.mk.injEq] at he
   obtain⟨rfl,rfl,rfl⟩:=he
   have hd:=rep_d hx
   generalize hdv:DV.ro len esz' cell'=dv at hd
   cases hd with
   |x=>cases hdv
   |rf=>cases hdv
   |nil =>
    cases hdv
    exact⟨[],by simp,fun w1 _=>⟨rfl,by simp[Builtin.firstCells]⟩,fun i j hi=>by omega,fun u hu=>by cases hu⟩
   |z =>
    cases hdv
    exact⟨[],by simp,fun w1 _=>⟨rfl,by simp[Builtin.firstCells,loadCells,loadCellsFrom]⟩,fun i j hi=>by omega,fun u hu=>by cases hu⟩
   |ro b o len2 cap esz2 cell2 f hF hc hcell hone hrep =>
    cases hdv
    refine src_of_cells (fun k=>f (k / esz') (k%esz')) (fun k hk=>?_) (fun i j hi hj=>?_) (fun k hk=>?_)
    ·obtain⟨h1,h2,h3⟩:=split_idx hk
     have:=hcell _ _ h1 h2
     rwa[h3] at this
    ·have h1:(i*esz'+j) / esz'=i:=by rw[Nat.mul_comm,Nat.mul_add_div (by omega),Nat.div_eq_of_lt hj];omega
     have h2:(i*esz'+j)%esz'=j:=by rw[Nat.mul_comm,Nat.mul_add_mod,Nat.mod_eq_of_lt hj]
     simp only[h1,h2];exact hrep i j hi hj
    ·obtain⟨h1,h2,h3⟩:=split_idx hk
     exact hone _ _ h1 h2
  ·cases he
 ·rename_i l base off len esz'
  split at he
  ·rename_i n' esz'' cell' hg
   split at he
   ·rename_i hk
    obtain⟨rfl,e1,e2⟩:=hk
    subst e2;subst e1
    simp only[Option.some.injEq,Prod.mk.injEq] at he
    obtain⟨rfl,rfl,rfl⟩:=he
    cases hx with
    |rnil=>exact⟨[],by simp,fun w1 _=>⟨rfl,by simp[Builtin.firstCells]⟩,fun i j hi=>by omega,fun u hu=>by cases hu⟩
    |rz _ _ _ _ b o=>exact⟨[],by simp,fun w1 _=>⟨rfl,by simp[Builtin.firstCells,loadCells,loadCellsFrom]⟩,fun i j hi=>by omega,fun u hu=>by cases hu⟩
    |row _ _ _ _ _ b o cap hm hc hz =>
     obtain⟨⟨c,e,hh,hsz,hcc,hc1⟩,hF⟩:=hl.blkAt hg hm
     have hlt:∀k,k<len*esz'->off*esz'+k<n'*esz':=by
      intro k hk
      have:(off+len)*esz'<=n'*esz':=Nat.mul_le_mul_right _ hp0
      rw[Nat.add_mul] at this;omega
     refine src_of_cells (fun k=>c.getD (o+(off*esz'+k)) undef) (fun k hk=>?_) (fun i j hi hj=>?_) (fun k hk=>?_)
     ·have:=hlt k hk
      rw[show o+0+off*esz'+k=o+(off*esz'+k) by omega]
      exact cell_of_heap hh (by omega)
     ·have:=hcc (off+i) j (by omega) hj
      rw[show o+(off*esz'+(i*esz'+j))=o+((off+i)*esz'+j) by rw[Nat.add_mul];omega]
      exact this
     ·obtain⟨h1,h2,h3⟩:=split_idx (hlt k hk)
      have:=hc1 _ _ h1 h2
      rwa[h3] at this
   ·cases he
  ·rename_i cs hg
   split at he
   ·rename_i ds hds
    split at he
    ·rename_i h1;subst h1
     simp only[Option.some.injEq,Prod.mk.injEq] at he
     obtain⟨rfl,rfl,rfl⟩:=he
     obtain⟨hd1,hd2⟩:=dvsOf_spec hds
     cases hx with
     |rnil=>exact⟨[],by simp,fun w1 _=>⟨rfl,by simp[Builtin.firstCells]⟩,fun i j hi=>by omega,fun u hu=>by cases hu⟩
     |rz _ _ _ _ b o=>exact⟨[],by simp,fun w1 _=>⟨rfl,by simp[Builtin.firstCells,loadCells,loadCellsFrom]⟩,fun i j hi=>by omega,fun u hu=>by cases hu⟩
     |row _ _ _ _ _ b o cap hm hc hz =>
      obtain⟨⟨c,e,hh,hsz,hcc,hc1⟩,hF⟩:=hl.blkAt hg hm
      have hlt:∀k,k<len*esz'->base+off*esz'+k<cs.length:=by
       intro k hk
       rw[Nat.add_mul] at hp0;omega
      refine src_of_cells (fun k=>c.getD (o+(base+off*esz'+k)) undef) (fun k hk=>?_) (fun i j hi hj=>?_) (fun k hk=>?_)
      ·have:=hlt k hk
       rw[show o+base+off*esz'+k=o+(base+off*esz'+k) by omega]
       exact cell_of_heap hh (by omega)
      ·have hk:i*esz'+j<len*esz':=by
        have:(i+1)*esz'<=len*esz':=Nat.mul_le_mul_right _ hi
        rw[Nat.add_mul] at this;omega
       have h3:=hlt _ hk
       have:=hcc _ h3
       rw[hd2 _ h3] at this
       have:=rep_d this
       rw[show base+(off+i)*esz'+j=base+off*esz'+(i*esz'+j) by rw[Nat.add_mul];omega,dsAt_eq (by omega)]
       exact this
      ·exact hc1 _ (hlt k hk)
    ·cases he
   ·cases he
  ·cases he
 ·cases he
def ownOf:SV->Option (Option Nat)
 |.d (.x (.slice none 0 0))=>some none
 |.d (.rf _ _ _)=>some none
 |.row l _ _ _ _=>some (some l)
 |_=>none
def hdrop(hp:Heap):Option Nat->Heap
 |none=>hp
 |some l=>hset hp l none
def isSrcT:TypeDesc->Bool
 |.slice _=>true
 |.string=>true
 |_=>false
def absSrcD(hp:Heap)(s:SV)(esz m:Nat):Option (Nat×(Nat->Nat->DV)×Prop):=match s with
 |.d (.rf n e c)=>match Nat.blt 0 m with
  |true=>absSrc hp (.d (.ro n e c)) esz
  |false=>none
 |s=>absSrc hp s esz
def absAppend(P:Program)(id:Nat)(hp:Heap)(st xt:TypeId)(s x:SV):Tr (SV×Heap) :=
  match P.underlying st,P.underlying xt with
  |some (.slice elem),some xd =>
    match P.info? elem,ownOf s with
    |some i,some own =>
      match i.zero,absSrc hp x i.size with
      |some z,some (m,c2,p2)=>match absSrcD hp s i.size m with
       |some (n,c1,p1) =>
        if z.cells.size=i.size/\0<i.size/\0<i.bytes/\isSrcT xd=true then
          .need (p1/\p2/\(n+m)*i.bytes<=140737488355328) (.ret (.row id 0 0 (n+m) i.size,hset (hdrop hp own) id (some (.row (n+m) i.size fun a b=>selD (decide (a<n)) (c1 a b) (c2 (a-n) b)))))
        else .fail
       |none=>.fail
      |_,_=>.fail
    |_,_=>.fail
  |_,_=>.fail
theorem appendRow{w:World}{F:Nat->Prop}{esz n m:Nat}{c1 c2:Nat->Nat->DV}{olds news:List Value}(hol:olds.length=n*esz)(hnl:news.length=m*esz)
  (h1:∀i j,i<n->j<esz->RepD w F (olds.getD (i*esz+j) undef) (c1 i j)) (h2:∀i j,i<m->j<esz->RepD w F (news.getD (i*esz+j) undef) (c2 i j)) :
  ∀i j,i<n+m->j<esz->RepD w F ((olds++news).getD (i*esz+j) undef) (selD (decide (i<n)) (c1 i j) (c2 (i-n) j)):=by
 intro i j hi hj
 rw[selD_eq]
 by_cases hn:i<n
 ·have hlt:i*esz+j<olds.length:=by
   have:(i+1)*esz<=n*esz:=Nat.mul_le_mul_right _ hn
   rw[Nat.add_mul] at this;omega
  simp only[hn,decide_true,cond_true]
  have:=h1 i j hn hj
  simpa [List.getD,List.getElem?_append,hlt] using this
 ·have hge:olds.length<=i*esz+j:=by
   have:n*esz<=i*esz:=Nat.mul_le_mul_right _ (by omega)
   omega
  simp only[hn,decide_false,cond_false]
  have:=h2 (i-n) j (by omega) hj
  have he:i*esz+j-olds.length=(i-n)*esz+j:=by
   have:i=(i-n)+n:=by omega
   rw[hol];conv=>lhs;rw[this,Nat.add_mul]
   omega
  simpa [List.getD,List.getElem?_append,show ¬(i*esz+j<olds.length) by omega,he] using this
theorem absSrcD_sound{P:Program}{w:World}{μ:Mu}{F:Nat->Prop}{hp:Heap}{v:Value}{x:SV}{esz n m:Nat}{cell:Nat->Nat->DV}{p:Prop}(hl:LH w μ F hp)(hx:Rep w μ F v x)(he:absSrcD hp x esz m=some (n,cell,p))(hp0:p) :
  SrcAt P w F v esz n cell:=by
 unfold absSrcD at he
 split at he
 ·rename_i len e c
  split at he
  ·have hd:=rep_d hx
   generalize hdv:DV.rf len e c=dv at hd
   cases hd with
   |rf _ _ _ _ h hc=>cases hdv;exact absSrc_sound hl (.d h) he hp0
   |_=>cases hdv
  ·cases he
 ·exact absSrc_sound hl hx he hp0
theorem absSrcD_cases{hp:Heap}{x:SV}{esz n m:Nat}{cell:Nat->Nat->DV}{p:Prop}(he:absSrcD hp x esz m=some (n,cell,p)):(∃e c,x=.d (.rf n e c)/\0<m)\/absSrc hp x esz=some (n,cell,p):=by
 unfold absSrcD at he
 split at he
 ·rename_i len e c
  split at he
  ·rename_i hb
   have hm:0<m:=Nat.le_of_ble_eq_true hb
   unfold absSrc at he
   simp only at he
   split at he
   ·simp only[Option.some.injEq,Prod.mk.injEq] at he
    obtain⟨rfl,_⟩:=he
    exact .inl ⟨_,_,rfl,hm⟩
   ·cases he
  ·cases he
 ·exact .inr he
end
noncomputable section
theorem Out.ofDrew{w:World}{μ:Mu}{F:Nat->Prop}{hp hp':Heap}{N:Nat->Prop}{v:Value}{s:SV}{w':World}(h:Out w.drew μ F hp N hp' v s w'):Out w μ F hp N hp' v s w':=by
 obtain⟨μ',F',hs,hr,h1,h2⟩:=h
 refine⟨μ',F',⟨?_,hs.sub,hs.fin,hs.blk,hs.inj⟩,hr,h1,h2⟩
 exact⟨hs.ext.os,hs.ext.tape,hs.ext.output,hs.ext.size,hs.ext.keep,hs.ext.bsz⟩
theorem LH.drew{w:World}{μ:Mu}{F:Nat->Prop}{hp:Heap}(h:LH w μ F hp):LH w.drew μ F hp:=by
 refine⟨Ext.refl _ _,fun b hb=>hb,fun b hb=>h.fin b hb,fun l blk hg=>?_,h.inj⟩
 obtain⟨q,h1,h2,h3⟩:=h.blk l blk hg
 exact⟨q,h1,h2,h3.mono (Ext.drew F w) (fun _ h=>h) (fun _ _ h=>h) (fun _ _ _=>rfl)⟩
theorem hs_drop{p:Par}{μ:Mu}{F:Nat->Prop}{hp:Heap}{w:World}(h:HS p μ F hp w)(l:Nat):HS p μ F (hset hp l none) w:=by
 refine⟨h.ext,h.sub,h.fin,fun l' blk hg=>?_,fun l1 l2 b1 b2 b o b' o' hne h1 h2 m1 m2=>?_⟩
 ·rw[hget_hset] at hg
  split at hg
  ·cases hg
  ·exact h.blk l' blk hg
 ·rw[hget_hset] at h1 h2
  split at h1
  ·cases h1
  ·split at h2
   ·cases h2
   ·exact h.inj l1 l2 b1 b2 b o b' o' hne h1 h2 m1 m2
theorem hget_hdrop(hp:Heap)(o:Option Nat)(k:Nat):hget (hdrop hp o) k=if o=some k then none else hget hp k:=by
 cases o with
 |none=>simp[hdrop]
 |some l =>
  simp only[hdrop,hget_hset,Option.some.injEq]
  by_cases h:k=l
  ·subst h;simp
  ·rw[if_neg h,if_neg (fun e=>h e.symm)]
theorem hs_alloc_drop{w:World}{μ:Mu}{F:Nat->Prop}{hp:Heap}{id:Nat}{own:Option Nat}{blk:Blk}{ob:Obj}(hl:LH w μ F hp)(hid:μ id=none)
  (hb:BlkAt (w.alloc ob) (upd μ id (.pl w.heap.size 0)) F (.pl w.heap.size 0) blk) :
  HS ⟨w,Tk hp μ,F⟩ (upd μ id (.pl w.heap.size 0)) F (hset (hdrop hp own) id (some blk)) (w.alloc ob):=by
 have h:=hs_alloc hl hid hb
 cases own with
 |none=>exact h
 |some l =>
  have h':=hs_drop h l
  have hget:∀k bk,hget (hset (hdrop hp (some l)) id (some blk)) k=some bk->hget (hset hp id (some blk)) k=some bk:=by
   intro k bk hk
   rw[hget_hset,hget_hdrop] at hk
   rw[hget_hset]
   split at hk
   ·rename_i e;rw[if_pos e];exact hk
   ·rename_i e;rw[if_neg e]
    split at hk
    ·cases hk
    ·exact hk
  exact⟨h.ext,h.sub,h.fin,fun k bk hk=>h.blk k bk (hget k bk hk),fun l1 l2 b1 b2 b o b' o' hne h1 h2 m1 m2=>h.inj l1 l2 b1 b2 b o b' o' hne (hget _ _ h1) (hget _ _ h2) m1 m2⟩
theorem hs_take{w:World}{μ:Mu}{F:Nat->Prop}{hp:Heap}{l id b o q:Nat}{blk blk':Blk}{c cs':Array Value}{e:TypeId}(hl:LH w μ F hp)(hid:μ id=none)(hg:hget hp l=some blk)(hm:μ l=some (.pl b o))
  (hh:w.heap[b]?=some (.cells c e (0,0))) (hsz:cs'.size=c.size) (hb:BlkAt (w.setRow b cs') (upd μ id (.pl b q)) F (.pl b q) blk') :
  HS ⟨w,Tk hp μ,F⟩ (upd μ id (.pl b q)) F (hset (hset hp l none) id (some blk')) (w.setRow b cs'):=by
 have hF:¬F b:=(hl.blkAt hg hm).2
 have hext:Ext F w (w.setRow b cs'):=Ext.setRow F w b c cs' e _ hh hF hsz
 have hT:Tk hp μ b:=⟨l,blk,o,hg,hm⟩
 have hne:l≠id:=fun h=>by subst h;rw[hm] at hid;cases hid
 have old:∀k bk,k≠id->hget (hset (hset hp l none) id (some blk')) k=some bk->k≠l/\hget hp k=some bk:=by
  intro k bk hk hg1
  rw[hget_hset,if_neg hk,hget_hset] at hg1
  split at hg1
  ·cases hg1
  ·rename_i e;exact⟨e,hg1⟩
 refine⟨Ext.setRow _ w b c cs' e _ hh (fun h=>h.2 hT) hsz,fun b hb=>hb,fun b' hb'=>⟨by have:=(hl.fin b' hb').1;simp[World.setRow];exact this,.inl hb'⟩,?_,?_⟩
 ·intro k bk hg1
  by_cases hk:k=id
  ·subst hk
   rw[hget_hset,if_pos rfl,Option.some.injEq] at hg1;subst hg1
   exact⟨.pl b q,by simp[upd],⟨hF,.inl hT⟩,hb⟩
  ·obtain⟨h1,h2⟩:=old k bk hk hg1
   obtain⟨r,h3,h4,h5⟩:=hl.blk k bk h2
   refine⟨r,upd_ext hid _ _ h3,h4,h5.mono hext (fun _ h=>h) (upd_ext hid) ?_⟩
   intro b' o' hq;subst hq
   exact setRow_heap_other w b b' cs' (hl.inj k l bk blk b' o' b o h1 h2 hg h3 hm)
 ·intro l1 l2 bk1 bk2 b1 o1 b2 o2 hn h1 h2 m1 m2
  by_cases e1:l1=id
  ·subst e1
   have e2:l2≠l1:=fun h=>hn h.symm
   obtain⟨h3,h4⟩:=old l2 bk2 e2 h2
   simp only[upd,if_true,Option.some.injEq,Plc.pl.injEq] at m1
   simp only[upd,e2,if_false] at m2
   rw[<- m1.1]
   exact hl.inj l l2 blk bk2 b o b2 o2 (fun h=>h3 h.symm) hg h4 hm m2
  ·obtain⟨h3,h4⟩:=old l1 bk1 e1 h1
   simp only[upd,e1,if_false] at m1
   by_cases e2:l2=id
   ·subst e2
    simp only[upd,if_true,Option.some.injEq,Plc.pl.injEq] at m2
    rw[<- m2.1]
    exact hl.inj l1 l bk1 blk b1 o1 b o h3 h4 hg m1 hm
   ·obtain⟨h5,h6⟩:=old l2 bk2 e2 h2
    simp only[upd,e2,if_false] at m2
    exact hl.inj l1 l2 bk1 bk2 b1 o1 b2 o2 hn h4 h6 m1 m2
theorem run_append{P:Program}{w:World}{F:Nat->Prop}{st xt ty elem:TypeId}{i:TypeInfo}{z:Value}{xd:TypeDesc}(hst:P.underlying st=some (.slice elem))(hxt:P.underlying xt=some xd)(hxd:(∃e,xd=.slice e)\/xd=.string)
  (hi:P.info? elem=some i) (hz:i.zero=some z) {base:Option Addr} {n m cap:Nat} {xv:Value} {olds news:List Value}
  (ho:∀w1,(∀a,w1.cell? a=w.cell? a)->(Builtin.firstCells i.size n (.slice base n cap)).run P w1=.ok olds.toArray w1)
  (hn:∀w1,(∀a,w1.cell? a=w.cell? a)->(Builtin.lenOf xv).run P w1=.ok m w1/\(Builtin.firstCells i.size m xv).run P w1=.ok news.toArray w1) (hbytes:(n+m)*i.bytes<=140737488355328) (h63:n+m<=9223372036854775807) :
  (cap<n+m->(Builtin.append_ #[st,xt] ty #[.slice base n cap,xv]).run P w =
   .ok (.slice (some ⟨w.heap.size,0,none⟩) (n+m) (grownCap w (n+m) cap elem)) (w.drew.alloc (.cells (olds.toArray++news.toArray++Builtin.zeroCells z.cells (grownCap w (n+m) cap elem-(n+m))) elem))) /\
  (n+m<=cap->base=none->(Builtin.append_ #[st,xt] ty #[.slice base n cap,xv]).run P w=.ok (.slice none (n+m) cap) w) /\
  (n+m<=cap->∀b q,base=some ⟨b,q,none⟩->(Builtin.append_ #[st,xt] ty #[.slice base n cap,xv]).run P w=(do storeCells ⟨b,q+n*i.size,none⟩ news;pure (.slice base (n+m) cap):Sem Value).run P w):=by
 have hsz:∀w1,(sizeOf elem).run P w1=.ok i.size w1:=fun w1=>run_tsz w1 (by simp[tsz,hi])
 have hti:∀w1,(typeInfo elem).run P w1=.ok i w1:=fun w1=>by simp[typeInfo,hi]
 have hzv:∀w1,(zeroValue elem).run P w1=.ok z w1:=fun w1=>by simp[zeroValue,typeInfo,hi,hz]
 obtain⟨hn1,hn2⟩:=hn w fun _=>rfl
 have ho1:=ho w fun _=>rfl
 have ho':=ho w.drew fun _=>rfl
 have hn':=(hn w.drew fun _=>rfl).2
 refine⟨fun hg=>?_,fun hfit hb=>?_,fun hfit b q hb=>?_⟩
 ·have h1:¬(n+m<=cap):=by omega
  have h2:¬(9223372036854775807<((n:Int)+(m:Int))):=by omega
  have h3:¬(281474976710656<Builtin.nextslicecap (n+m) cap*i.bytes):=by have:=growslice_fits hg hbytes;omega
  rcases hxd with⟨e,rfl⟩|rfl <;>
  ·unfold Builtin.append_
   simp only[List.getElem?_toArray,List.getElem?_cons_succ,List.getElem?_cons_zero,Sem.run_bind,run_underlying hst,run_underlying hxt,Result.andThen,hsz,Sem.run_pure,Bool.false_eq_true,if_false,hn1,h1,Bool.not_false,if_true]
   simp[h2,h3,hti,hzv,Question.forced,newRow,grownCap,ho',hn',choose,Sem.run,askRoom]
   rw[<- Array.append_assoc];simp
 ·subst hb
  rcases hxd with⟨e,rfl⟩|rfl <;>
  ·unfold Builtin.append_
   simp only[List.getElem?_toArray,List.getElem?_cons_succ,List.getElem?_cons_zero,Sem.run_bind,run_underlying hst,run_underlying hxt,Result.andThen,hsz,Sem.run_pure,Bool.false_eq_true,if_false,hn1,hfit,Bool.not_false,if_true,hn2]
 ·subst hb
  rcases hxd with⟨e,rfl⟩|rfl <;>
  ·unfold Builtin.append_
   simp only[List.getElem?_toArray,List.getElem?_cons_succ,List.getElem?_cons_zero,Sem.run_bind,run_underlying hst,run_underlying hxt,Result.andThen,hsz,Sem.run_pure,Bool.false_eq_true,if_false,hn1,hfit,Bool.not_false,if_true,hn2,add_none]
theorem hs_nil{w:World}{μ:Mu}{F:Nat->Prop}{hp:Heap}{id:Nat}{own:Option Nat}{n esz:Nat}{cell:Nat->Nat->DV}(hl:LH w μ F hp)(hid:μ id=none)(h0:n=0) :
  HS ⟨w,Tk hp μ,F⟩ (upd μ id .nil) F (hset (hdrop hp own) id (some (.row n esz cell))) w:=by
 have old:∀k bk,k≠id->hget (hset (hdrop hp own) id (some (.row n esz cell))) k=some bk->hget hp k=some bk:=by
  intro k bk hk hg1
  rw[hget_hset,if_neg hk,hget_hdrop] at hg1
  split at hg1
  ·cases hg1
  ·exact hg1
 refine⟨hl.ext,hl.sub,hl.fin,fun k bk hg=>?_,fun l1 l2 b1 b2 b o b' o' hne h1 h2 m1 m2=>?_⟩
 ·by_cases hk:k=id
  ·subst hk
   rw[hget_hset,if_pos rfl,Option.some.injEq] at hg;subst hg
   exact⟨.nil,by simp[upd],trivial,h0⟩
  ·obtain⟨q,h1,h2,h3⟩:=hl.blk k bk (old k bk hk hg)
   exact⟨q,upd_ext hid _ _ h1,h2,h3.mono (Ext.refl F w) (fun _ h=>h) (upd_ext hid) (fun _ _ _=>rfl)⟩
 ·by_cases e1:l1=id
  ·subst e1;simp[upd] at m1
  ·by_cases e2:l2=id
   ·subst e2;simp[upd] at m2
   ·simp only[upd,e1,e2,if_false] at m1 m2
    exact hl.inj l1 l2 b1 b2 b o b' o' hne (old l1 b1 e1 h1) (old l2 b2 e2 h2) m1 m2
theorem firstCells_det{P:Program}{w:World}{b q n cap esz:Nat}{c:Array Value}{e:TypeId}{olds:List Value}(hh:w.heap[b]?=some (.cells c e (0,0)))(hq:q+n*esz<=c.size)
  (ho:(Builtin.firstCells esz n (.slice (some ⟨b,q,none⟩) n cap)).run P w=.ok olds.toArray w):∀k,k<n*esz->olds.getD k undef=c.getD (q+k) undef:=by
 have:=run_firstCells_some (P:=P) w esz n ⟨b,q,none⟩ n cap ((List.range (n*esz)).map fun k=>c.getD (q+k) undef) (by simp) (fun j v hv=>by
  have hj:j<n*esz:=by have:=(List.getElem?_eq_some_iff.1 hv).1;simpa using this
  rw[add_none,cell_of_heap hh (by omega)]
  simpa [hj] using hv)
 rw[ho] at this
 simp only[Result.ok.injEq,and_true] at this
 have h2:olds=(List.range (n*esz)).map fun k=>c.getD (q+k) undef:=by simpa using this
 intro k hk
 rw[h2];simp[List.getD,hk]
theorem absAppend_sound{P:Program}{w:World}{μ:Mu}{F:Nat->Prop}{hp hp':Heap}{id:Nat}{st xt ty:TypeId}{sv xv:Value}{s x r:SV}(hl:LH w μ F hp)(hid:μ id=none)(hs:Rep w μ F sv s)(hx:Rep w μ F xv x)
  (he:(absAppend P id hp st xt s x).ev (r,hp')):∃u w',(Builtin.append_ #[st,xt] ty #[sv,xv]).run P w=.ok u w'/\Out w μ F hp (·=id) hp' u r w':=by
 unfold absAppend at he
 split at he
 ·rename_i elem xd hst hxt
  split at he
  ·rename_i i own hi hown
   split at he
   ·rename_i z m c2 p2 hz hs2
    split at he
    rotate_left
    ·exact he.elim
    rename_i n c1 p1 hs1
    split at he
    ·rename_i hk
     obtain⟨hzs,hsz,hby,hxd⟩:=hk
     obtain⟨⟨hp1,hp2,hbytes⟩,he⟩:=he
     simp only[Tr.ev,Prod.mk.injEq] at he;obtain⟨rfl,rfl⟩:=he
     obtain⟨olds,hol,ho,hor,hoo⟩:=absSrcD_sound (P:=P) hl hs hs1 hp1
     obtain⟨news,hnl,hn,hnr,hno⟩:=absSrc_sound (P:=P) hl hx hs2 hp2
     have h63:n+m<=9223372036854775807:=by
      have:n+m<=(n+m)*i.bytes:=Nat.le_mul_of_pos_right _ hby
      omega
     have hxd':(∃e,xd=.slice e)\/xd=.string:=by
      cases xd<;>simp[isSrcT] at hxd<;>simp
     have hrow:=appendRow hol hnl hor hnr
     have hone:∀u∈olds++news,u.oneCell'=true:=fun u hu=>(List.mem_append.1 hu).elim (hoo u) (hno u)
     have hlen:(olds++news).length=(n+m)*i.size:=by rw[List.length_append,hol,hnl,Nat.add_mul]
     have hnn:∀{b:Option Addr} {len cap:Nat},sv=.slice b len cap->len=n:=by
      intro b len cap e
      have:=(ho w fun _=>rfl).1
      rw[e] at this
      simpa [Builtin.lenOf] using this
     have main:∀(base:Option Addr) (cap:Nat),sv=.slice base n cap->n<=cap->(n+m<=cap->(∀a,base=some a->a.spot=none) /\
       (∀b q,base=some ⟨b,q,none⟩->cap=0\/∃l blk o c e,own=some l/\hget hp l=some blk/\μ l=some (.pl b o)/\w.heap[b]?=some (.cells c e (0,0))/\q+cap*i.size<=c.size)/\(base=none->cap=0)) ->
       ∃u w',(Builtin.append_ #[st,xt] ty #[sv,xv]).run P w=.ok u w'/\Out w μ F hp (·=id) (hset (hdrop hp own) id (some (.row (n+m) i.size fun a b=>selD (decide (a<n)) (c1 a b) (c2 (a-n) b)))) u (.row id 0 0 (n+m) i.size) w':=by
      intro base cap hsv hnc hok
      subst hsv
      obtain⟨rg,rn,rs⟩:=run_append (ty:=ty) hst hxt hxd' hi hz (base:=base) (cap:=cap) (fun w1 hw=>(ho w1 hw).2) hn hbytes h63 (F:=F)
      by_cases hfit:n+m<=cap
      ·obtain⟨hspot,hreal,hnil⟩:=hok hfit
       cases base with
       |none =>
        have h0:=hnil rfl
        have e1:n+m=0:=by omega
        have e2:cap=0:=h0
        refine⟨_,_,rn hfit rfl,upd μ id .nil,F,hs_nil hl hid e1,?_,upd_ext hid,upd_other⟩
        rw[e1,e2]
        exact .rnil _ _ _ _ (by simp[upd])
       |some a =>
        obtain⟨b,q,sp⟩:=a
        have:=hspot _ rfl;subst this
        rcases hreal b q rfl with h0|⟨l,blk,o,c,e,ro,hg,hm,hh,hcs⟩
        ·have e1:n+m=0:=by omega
         have e2:news=[]:=List.eq_nil_of_length_eq_zero (by rw[hnl,show m=0 by omega];simp)
         refine⟨.slice (some ⟨b,q,none⟩) (n+m) cap,w,?_,upd μ id .nil,F,hs_nil hl hid e1,?_,upd_ext hid,upd_other⟩
         ·rw[rs hfit b q rfl,e2];rfl
         ·rw[e1,h0]
          exact .rz _ _ _ _ _ _ .nil (by simp[upd])
        ·subst ro
         have hcap:(n+m)*i.size<=cap*i.size:=Nat.mul_le_mul_right _ hfit
         have hst2:=run_storeCells_at P b (q+n*i.size) e news 0 c w hh (by rw[hnl];rw[Nat.add_mul] at hcap;omega) hno
         simp only[Nat.add_zero] at hst2
         have hsize:(c.toList.take (q+n*i.size)++news++c.toList.drop (q+n*i.size+news.length)).toArray.size=c.size:=by
          rw[Nat.add_mul] at hcap
          simp;omega
         have hF:¬F b:=(hl.blkAt hg hm).2
         have hext:Ext F w (w.setRow b (c.toList.take (q+n*i.size)++news++c.toList.drop (q+n*i.size+news.length)).toArray):=Ext.setRow F w b c _ e _ hh hF hsize
         have hdet:=firstCells_det hh (by have:n*i.size<=cap*i.size:=Nat.mul_le_mul_right _ hnc;omega) (ho w fun _=>rfl).2
         have hget:∀k,k<(n+m)*i.size->((c.toList.take (q+n*i.size)++news++c.toList.drop (q+n*i.size+news.length)).toArray).getD (q+k) undef=(olds++news).getD k undef:=by
          intro k hk
          rw[Nat.add_mul] at hk hcap
          rw[list_take_drop_getD c _ _ _ (by rw[hnl];omega)]
          by_cases hkn:k<n*i.size
          ·rw[if_neg (by omega),<- hdet k hkn]
           simp[List.getD,List.getElem?_append,hol,hkn]
          ·rw[if_pos (by rw[hnl];omega)]
           simp only[List.getD,List.getElem?_append,hol,hkn,if_false]
           rw[show q+k-(q+n*i.size)=k-n*i.size by omega]
         refine⟨.slice (some ⟨b,q,none⟩) (n+m) cap,_,?_,upd μ id (.pl b q),F,hs_take hl hid hg hm hh hsize ?_,?_,upd_ext hid,upd_other⟩
         ·rw[rs hfit b q rfl,run_andThen_ok hst2];rfl
         ·refine⟨_,e,setRow_heap_same w b c e _ _ hh,by rw[hsize];omega,fun a k ha hk=>?_,fun a k ha hk=>?_⟩
          ·have hlt:a*i.size+k<(n+m)*i.size:=by
            have:(a+1)*i.size<=(n+m)*i.size:=Nat.mul_le_mul_right _ ha
            rw[Nat.add_mul] at this;omega
           rw[hget _ hlt]
           exact(hrow a k ha hk).mono hext fun _ h=>h
          ·have hlt:a*i.size+k<(n+m)*i.size:=by
            have:(a+1)*i.size<=(n+m)*i.size:=Nat.mul_le_mul_right _ ha
            rw[Nat.add_mul] at this;omega
           rw[hget _ hlt]
           refine hone _ ?_
           have:a*i.size+k<(olds++news).length:=by omega
           rw[List.getD,List.getElem?_eq_getElem this,Option.getD_some]
           exact List.getElem_mem _
         ·have hb:q+cap*i.size<=bsz (w.setRow b (c.toList.take (q+n*i.size)++news++c.toList.drop (q+n*i.size+news.length)).toArray) b:=by
           unfold bsz;rw[setRow_heap_same w b c e _ _ hh];simp only[];rw[hsize];exact hcs
          have:=Rep.row (w:=w.setRow b (c.toList.take (q+n*i.size)++news++c.toList.drop (q+n*i.size+news.length)).toArray) (μ:=upd μ id (.pl b q)) (F:=F) id 0 0 (n+m) i.size b q cap (by simp[upd]) hfit (by simpa using hb)
          simpa using this
      ·have hg:cap<n+m:=by omega
       have hge:=grownCap_ge w (n+m) cap elem
       have hsize:(olds.toArray++news.toArray++Builtin.zeroCells z.cells (grownCap w (n+m) cap elem-(n+m))).size=grownCap w (n+m) cap elem*i.size:=by
        simp only[Array.size_append,List.size_toArray,size_zeroCells,hzs,hol,hnl,<- Nat.add_mul]
        congr 1;omega
       have hF:=fun b (hb:F b)=>(hl.fin b hb).1
       have hl':=hl.drew
       have hget:∀k,k<(n+m)*i.size->(olds.toArray++news.toArray++Builtin.zeroCells z.cells (grownCap w (n+m) cap elem-(n+m))).getD k undef=(olds++news).getD k undef:=by
        intro k hk
        have h1:k<(olds++news).length:=by omega
        rw[show olds.toArray++news.toArray=(olds++news).toArray by simp]
        simp only[Array.getD_eq_getD_getElem?,List.getD]
        rw[Array.getElem?_append_left (by simpa using h1)]
        simp
       refine⟨_,_,rg hg,Out.ofDrew ?_⟩
       refine⟨_,F,hs_alloc_drop (own:=own) hl' hid (blk:=.row (n+m) i.size fun a b=>selD (decide (a<n)) (c1 a b) (c2 (a-n) b)) ?_,?_,upd_ext hid,upd_other⟩
       ·refine⟨_,elem,heap_alloc_at w.drew _,by rw[hsize];have:=Nat.mul_le_mul_right i.size hge;omega,fun a k ha hk=>?_,fun a k ha hk=>?_⟩
        ·have hlt:a*i.size+k<(n+m)*i.size:=by
          have:(a+1)*i.size<=(n+m)*i.size:=Nat.mul_le_mul_right _ ha
          rw[Nat.add_mul] at this;omega
         rw[Nat.zero_add,hget _ hlt]
         exact(hrow a k ha hk).mono ((Ext.drew F w).trans (Ext.alloc F w.drew _ hF)) fun _ h=>h
        ·have hlt:a*i.size+k<(n+m)*i.size:=by
          have:(a+1)*i.size<=(n+m)*i.size:=Nat.mul_le_mul_right _ ha
          rw[Nat.add_mul] at this;omega
         rw[Nat.zero_add,hget _ hlt]
         refine hone _ ?_
         have:a*i.size+k<(olds++news).length:=by omega
         rw[List.getD,List.getElem?_eq_getElem this,Option.getD_some]
         exact List.getElem_mem _
       ·have hb:bsz (w.drew.alloc (.cells (olds.toArray++news.toArray++Builtin.zeroCells z.cells (grownCap w (n+m) cap elem-(n+m))) elem)) w.heap.size=grownCap w (n+m) cap elem*i.size:=by
         unfold bsz;rw[show w.heap.size=w.drew.heap.size from rfl,heap_alloc_at];exact hsize
        have:=Rep.row (w:=w.drew.alloc (.cells (olds.toArray++news.toArray++Builtin.zeroCells z.cells (grownCap w (n+m) cap elem-(n+m))) elem)) (μ:=upd μ id (.pl w.drew.heap.size 0)) (F:=F) id 0 0 (n+m) i.size w.heap.size 0 (grownCap w (n+m) cap elem) (by simp[upd]) hge (by rw[hb];simp)
        simpa using this
     unfold ownOf at hown
     split at hown
     ·simp only[Option.some.injEq] at hown;subst hown
      have hsv:=rep_x hs
      have:=hnn hsv;subst this
      exact main none 0 hsv (Nat.le_refl _) fun _=>⟨(fun a ha=>by cases ha),(fun b q h=>by cases h),fun _=>rfl⟩
     ·rename_i len esz cell
      simp only[Option.some.injEq] at hown;subst hown
      rcases absSrcD_cases hs1 with⟨e,c,heq,hm0⟩|h
      ·simp only[SV.d.injEq,DV.rf.injEq] at heq
       obtain⟨rfl,rfl,rfl⟩:=heq
       have hd:=rep_d hs
       generalize hdv:DV.rf len esz cell=dv at hd
       cases hd with
       |rf _ _ _ _ h hc =>
        cases hdv
        obtain⟨a,rfl⟩:=hc
        exact main a len rfl (Nat.le_refl _) fun hf=>by omega
       |_=>cases hdv
      ·unfold absSrc at h;cases h
     ·rename_i l base off len esz
      simp only[Option.some.injEq] at hown;subst hown
      have hs1:absSrc hp (.row l base off len esz) i.size=some (n,c1,p1):=hs1
      cases hs with
      |rnil =>
       have:=hnn rfl;subst this
       exact main none 0 rfl (Nat.le_refl _) fun _=>⟨(fun a ha=>by cases ha),(fun b q h=>by cases h),fun _=>rfl⟩
      |rz _ _ _ _ b o =>
       have:=hnn rfl;subst this
       exact main _ 0 rfl (Nat.le_refl _) fun _=>⟨(fun a ha=>by cases ha;rfl),(fun b q h=>.inl rfl),(fun h=>by cases h)⟩
      |row _ _ _ _ _ b o cap hm hc hz =>
       have:=hnn rfl;subst this
       unfold absSrc at hs1
       split at hs1
       ·contradiction
       ·contradiction
       ·contradiction
       ·rename_i l' base' off' len' esz' heq
        cases heq
        split at hs1
        ·rename_i n' esz'' cell' hg
         split at hs1
         ·rename_i hk
          obtain⟨⟨c,e,hh,hsz',hcc,hc1⟩,hF⟩:=hl.blkAt hg hm
          refine main _ cap rfl hc fun _=>⟨(fun a ha=>by cases ha;rfl),fun b' q' h=>?_,(fun h=>by cases h)⟩
          simp only[Option.some.injEq,Addr.mk.injEq,and_true] at h
          obtain⟨rfl,rfl⟩:=h
          refine .inr ⟨_,_,o,c,e,rfl,hg,hm,hh,?_⟩
          unfold bsz at hz;rw[hh] at hz;simp only[] at hz
          rw[hk.2.1,Nat.add_mul] at hz
          rw[hk.2.1];omega
         ·cases hs1
        ·rename_i cs hg
         split at hs1
         ·split at hs1
          ·rename_i hk
           obtain⟨⟨c,e,hh,hsz',hcc,hc1⟩,hF⟩:=hl.blkAt hg hm
           refine main _ cap rfl hc fun _=>⟨(fun a ha=>by cases ha;rfl),fun b' q' h=>?_,(fun h=>by cases h)⟩
           simp only[Option.some.injEq,Addr.mk.injEq,and_true] at h
           obtain⟨rfl,rfl⟩:=h
           refine .inr ⟨_,_,o,c,e,rfl,hg,hm,hh,?_⟩
           unfold bsz at hz;rw[hh] at hz;simp only[] at hz
           rw[hk,Nat.add_mul] at hz
           rw[hk];omega
          ·cases hs1
         ·cases hs1
        ·cases hs1
       ·rename_i hno';exact(hno' _ _ _ _ _ rfl).elim
     ·cases hown
    ·exact he.elim
   ·exact he.elim
  ·exact he.elim
 ·exact he.elim
end
noncomputable section
structure MapTy(P:Program)(t:TypeId)(kk:Nat):Prop where
 check:∀kt et,P.underlying t=some (.map kt et)->∀(w:World) (em:Bool) (l:List Int),KeyOK kk l->(Instr.checkKey em 10000 kt (encK kk l)).run P w=.ok () w
 find:∀kt et,P.underlying t=some (.map kt et)->∀(w:World) (l:List Int),KeyOK kk l->∀es:List MapEntry,(∀e∈es,∃l',KeyOK kk l'/\e.key=encK kk l') ->
  ((Instr.findKey kt (encK kk l) es).run P w=.ok none w/\∀e∈es,e.key≠encK kk l)\/∃j e,(Instr.findKey kt (encK kk l) es).run P w=.ok (some (j,e.val)) w/\es[j]?=some e/\e.key=encK kk l
 stays:∀(w:World) (l:List Int),KeyOK kk l->(Instr.keyThatStays (encK kk l) (encK kk l)).run P w=.ok (encK kk l) w
def intV:Value->Option Int
 |.int .i64 a=>some a
 |_=>none
def intS:SV->Option Int
 |.d (.x (.int .i64 a))=>some a
 |_=>none
def mapO{α β:Type}(f:α->Option β):List α->Option (List β)
 |[]=>some []
 |a::r=>match f a,mapO f r with
  |some b,some l=>some (b::l)
  |_,_=>none
def nonE:List Int->Option (Nat×List Int)
 |[]=>none
 |a::r=>some (r.length+1,a::r)
def keyL:SV->Option (Nat×List Int)
 |.d (.x (.int .i64 a))=>some (0,[a])
 |.agg cs=>(mapO intS cs).bind nonE
 |.d (.x (.agg vs))=>(mapO intV vs.toList).bind nonE
 |_=>none
theorem intV_spec{v:Value}{a:Int}(h:intV v=some a):v=.int .i64 a:=by
 unfold intV at h
 split at h
 ·simp only[Option.some.injEq] at h;rw[h]
 ·cases h
theorem mapO_intV:∀{vs:List Value} {l:List Int},mapO intV vs=some l->vs=l.map (Value.int .i64)
 |[],l,h=>by simp only[mapO,Option.some.injEq] at h;subst h;rfl
 |v::r,l,h=>by
  simp only[mapO] at h
  split at h
  ·rename_i a l' h1 h2
   simp only[Option.some.injEq] at h;subst h
   rw[List.map_cons,<- mapO_intV h2,intV_spec h1]
  ·cases h
theorem mapO_intS{w:World}{μ:Mu}{F:Nat->Prop}:∀{ss:List SV} {l:List Int},mapO intS ss=some l->l.length=ss.length/\∀i v,i<ss.length->Rep w μ F v (ss.getD i uv)->v=.int .i64 (l.getD i 0)
 |[],l,h=>by simp only[mapO,Option.some.injEq] at h;subst h;exact⟨rfl,fun i v hi=>by simp at hi⟩
 |s::r,l,h=>by
  simp only[mapO] at h
  split at h
  ·rename_i a l' h1 h2
   simp only[Option.some.injEq] at h;subst h
   obtain⟨h3,h4⟩:=mapO_intS (w:=w) (μ:=μ) (F:=F) h2
   refine⟨by simp[h3],fun i v hi hr=>?_⟩
   cases i with
   |zero =>
    simp only[List.getD_cons_zero] at hr ⊢
    unfold intS at h1
    split at h1
    ·simp only[Option.some.injEq] at h1;subst h1;exact rep_x hr
    ·cases h1
   |succ i=>simpa using h4 i v (by simpa using hi) (by simpa using hr)
  ·cases h
theorem nonE_spec{l q:List Int}{k:Nat}(h:nonE l=some (k,q)):q=l/\k=l.length/\l≠[]:=by
 unfold nonE at h
 split at h
 ·cases h
 ·simp only[Option.some.injEq,Prod.mk.injEq] at h
  obtain⟨rfl,rfl⟩:=h
  exact⟨rfl,by simp,by simp⟩
theorem keyL_spec{w:World}{μ:Mu}{F:Nat->Prop}{v:Value}{s:SV}{k:Nat}{l:List Int}(hr:Rep w μ F v s)(h:keyL s=some (k,l)):v=encK k l:=by
 unfold keyL at h
 split at h
 ·simp only[Option.some.injEq,Prod.mk.injEq] at h
  obtain⟨rfl,rfl⟩:=h
  exact rep_x hr
 ·rename_i cs
  rw[Option.bind_eq_some_iff] at h
  obtain⟨l',h1,h2⟩:=h
  obtain⟨rfl,rfl,h3⟩:=nonE_spec h2
  obtain⟨h4,h5⟩:=mapO_intS (w:=w) (μ:=μ) (F:=F) h1
  cases hr with
  |agg vs _ hl hi =>
   cases hk:l.length with
   |zero=>exact(h3 (List.eq_nil_of_length_eq_zero hk)).elim
   |succ m =>
    simp only[encK,Value.agg.injEq]
    apply Array.ext'
    apply List.ext_getElem
    ·simp;omega
    ·intro i hi1 hi2
     have hi3:i<cs.length:=by simp at hi1;omega
     have:=h5 i _ hi3 (hi i hi3)
     have e1:vs.getD i undef=vs.toList[i]:=by simp[Array.getD,show i<vs.size by simpa using hi1]
     rw[<- e1,this]
     simp[List.getD,show i<l.length by omega]
 ·rename_i vs
  rw[Option.bind_eq_some_iff] at h
  obtain⟨l',h1,h2⟩:=h
  obtain⟨rfl,rfl,h3⟩:=nonE_spec h2
  rw[rep_x hr]
  cases hk:l.length with
  |zero=>exact(h3 (List.eq_nil_of_length_eq_zero hk)).elim
  |succ m =>
   simp only[encK,Value.agg.injEq]
   apply Array.ext'
   simp only
   exact mapO_intV h1
 ·cases h
def keyEq(a b:List Int):Bool:=decide (a=b)
theorem keyEq_iff{a b:List Int}:keyEq a b=true ↔ a=b:=by simp[keyEq]
theorem keyEq_ff{a b:List Int}:keyEq a b=false ↔ a≠b:=by simp[keyEq]
def addN(n:Nat)(b:Bool):Nat:=bif b then n else n+1
def subN(n:Nat)(b:Bool):Nat:=bif b then n-1 else n
def mapKK(P:Program)(kt:TypeId):Option Nat:=match P.underlying kt with
 |some (.int .i64)=>some 0
 |some (.struct fs)=>some fs.size
 |_=>none
def zeroD(P:Program)(et:TypeId):Option Value:=(P.info? et).bind (·.zero)
def absMakeMap(P:Program)(id:Nat)(hp:Heap)(t:TypeId)(r:Option SV):Tr (SV×Heap) :=
 match P.underlying t with
 |some (.map kt et)=>match mapKK P kt,zeroD P et with
  |some kk,some z=>(match r with
   |none=>.ret (.mp id,hset hp id (some (.map kk 0 (fun _=>false) fun _=>.x z)))
   |some (.d (.x (.int _ n)))=>.ret (.mp id,hset hp id (some (.map kk 0 (fun _=>false) fun _=>.x z)))
   |_=>.fail)
  |_,_=>.fail
 |_=>.fail
def absLookup(P:Program)(hp:Heap)(t:TypeId)(m k:SV)(ok:Bool):Tr SV :=
 match m with
 |.mp l=>match hget hp l,keyL k with
  |some (.map kk n has val),some (kk',ks)=>match P.underlying t with
   |some (.map kt et)=>match zeroD P et with
    |some z=>if kk'=kk then .need (MapTy P t kk) (.need (KeyOK kk ks) (match ok with
     |true=>.ret (.tup [.d (selD (has ks) (val ks) (.x z)),.d (.x (.bool (has ks)))])
     |false=>.ret (.d (selD (has ks) (val ks) (.x z))))) else .fail
    |none=>.fail
   |_=>.fail
  |_,_=>.fail
 |_=>.fail
def absMapUpd(P:Program)(hp:Heap)(t:TypeId)(m k x:SV):Tr (SV×Heap) :=
 match m,x with
 |.mp l,.d d=>match hget hp l,keyL k with
  |some (.map kk n has val),some (kk',ks)=>match P.underlying t with
   |some (.map kt et)=>if kk'=kk then .need (MapTy P t kk) (.need (KeyOK kk ks) (.ret (uv,hset hp l (some (.map kk (addN n (has ks)) (fun q=>keyEq q ks||has q) fun q=>selD (keyEq q ks) d (val q)))))) else .fail
   |_=>.fail
  |_,_=>.fail
 |_,_=>.fail
def absMapDel(P:Program)(hp:Heap)(t:TypeId)(m k:SV):Tr (SV×Heap) :=
 match m with
 |.mp l=>match hget hp l,keyL k with
  |some (.map kk n has val),some (kk',ks)=>match P.underlying t with
   |some (.map kt et)=>if kk'=kk then .need (MapTy P t kk) (.need (KeyOK kk ks) (.ret (.tup [],hset hp l (some (.map kk (subN n (has ks)) (fun q=>!(keyEq q ks)&&has q) val))))) else .fail
   |_=>.fail
  |_,_=>.fail
 |_=>.fail
def absMapLen(P:Program)(hp:Heap)(t:TypeId)(m:SV):Tr SV :=
 match m with
 |.mp l=>match hget hp l,P.underlying t with
  |some (.map kk n has val),some (.map kt et)=>.ret (.d (.x (.int .i64 (n:Int))))
  |_,_=>.fail
 |_=>.fail
theorem hs_upd{w w':World}{μ:Mu}{F:Nat->Prop}{hp:Heap}{l b o:Nat}{blk blk':Blk}(hl:LH w μ F hp)(hg:hget hp l=some blk)(hm:μ l=some (.pl b o))
  (hext:∀G:Nat->Prop,¬G b->Ext G w w') (hsz:w'.heap.size=w.heap.size) (hoth:∀k,k≠b->w'.heap[k]?=w.heap[k]?) (hb:BlkAt w' μ F (.pl b o) blk') :
  HS ⟨w,Tk hp μ,F⟩ μ F (hset hp l (some blk')) w':=by
 have hF:¬F b:=(hl.blkAt hg hm).2
 have hT:Tk hp μ b:=⟨l,blk,o,hg,hm⟩
 refine⟨hext _ (fun h=>h.2 hT),fun b hb=>hb,fun b' hb'=>⟨by have:=(hl.fin b' hb').1;rw[hsz];exact this,.inl hb'⟩,?_,?_⟩
 ·intro l' blk1 hg1
  rw[hget_hset] at hg1
  split at hg1
  ·rename_i he;subst he
   simp only[Option.some.injEq] at hg1;subst hg1
   obtain⟨q,h1,h2,h3⟩:=hl.blk l' blk hg
   rw[hm,Option.some.injEq] at h1;subst h1
   exact⟨_,hm,h2,hb⟩
  ·rename_i hne
   obtain⟨q,h1,h2,h3⟩:=hl.blk l' blk1 hg1
   refine⟨q,h1,h2,h3.mono (hext F hF) (fun _ h=>h) (fun _ _ h=>h) ?_⟩
   intro b' o' hq;subst hq
   exact hoth b' (hl.inj l' l blk1 blk b' o' b o hne hg1 hg h1 hm)
 ·intro l1 l2 blk1 blk2 b1 o1 b2 o2 hne h1 h2 m1 m2
  rw[hget_hset] at h1 h2
  by_cases e1:l1=l
  ·rw[if_neg (fun h=>hne (e1.trans h.symm))] at h2
   subst e1
   exact hl.inj l1 l2 blk blk2 b1 o1 b2 o2 hne hg h2 m1 m2
  ·rw[if_neg e1] at h1
   by_cases e2:l2=l
   ·subst e2
    exact hl.inj l1 l2 blk1 blk b1 o1 b2 o2 hne h1 hg m1 m2
   ·rw[if_neg e2] at h2
    exact hl.inj l1 l2 blk1 blk2 b1 o1 b2 o2 hne h1 h2 m1 m2
theorem ext_setObj{w:World}{b:Nat}{o o':Obj}(h:w.heap[b]?=some o)(ho:∀c e f,o≠.cells c e f){G:Nat->Prop}(hG:¬G b):Ext G w { w with heap:=w.heap.setIfInBounds b o' }:=by
 refine⟨rfl,rfl,rfl,by simp,fun k hk=>?_,fun k=>?_⟩
 ·have:k≠b:=fun e=>hG (e▸hk)
  simp[Array.getElem?_setIfInBounds,this.symm]
 ·unfold bsz
  simp only[Array.getElem?_setIfInBounds]
  by_cases e:b=k
  ·subst e
   rw[h]
   cases o<;>first|exact absurd rfl (ho _ _ _)|simp
  ·rw[if_neg e];exact Nat.le_refl _
theorem hs_map{w:World}{μ:Mu}{F:Nat->Prop}{hp:Heap}{l b kk n n':Nat}{has has':List Int->Bool}{val val':List Int->DV}{es es':Array MapEntry}{clk clk':Nat}(hl:LH w μ F hp)(hg:hget hp l=some (.map kk n has val))(hm:μ l=some (.pl b 0))(hh:w.heap[b]?=some (.map es clk))
  (hm':MapAt w F kk n' has' val' es' clk'):HS ⟨w,Tk hp μ,F⟩ μ F (hset hp l (some (.map kk n' has' val'))) { w with heap:=w.heap.setIfInBounds b (.map es' clk') }:=by
 have hext:∀G:Nat->Prop,¬G b->Ext G w { w with heap:=w.heap.setIfInBounds b (.map es' clk') }:=fun G hG=>ext_setObj hh (fun _ _ _ e=>by cases e) hG
 have hlt:=(Array.getElem?_eq_some_iff.1 hh).1
 have hF:¬F b:=(hl.blkAt hg hm).2
 refine hs_upd hl hg hm hext (by simp) (fun k hk=>by simp[Array.getElem?_setIfInBounds,hk.symm]) ⟨rfl,es',clk',by simp[Array.getElem?_setIfInBounds,hlt],hm'.mono fun v d h=>h.mono (hext F hF) fun _ h=>h⟩
section
variable {P : Program} {w : World} {F : Nat → Prop} {t kt et : TypeId} {kk n b : Nat} {has : List Int → Bool} {val : List Int → DV} {es : Array MapEntry} {clk : Nat} {ks : List Int}
theorem map_at(hT:MapTy P t kk)(hu:P.underlying t=some (.map kt et))(h:MapAt w F kk n has val es clk)(hk:KeyOK kk ks)(w':World) :
  ((Instr.findKey kt (encK kk ks) es.toList).run P w'=.ok none w'/\has ks=false/\∀e∈es.toList,e.key≠encK kk ks) \/
  ∃j e,(Instr.findKey kt (encK kk ks) es.toList).run P w'=.ok (some (j,e.val)) w'/\es.toList[j]?=some e/\e.key=encK kk ks/\has ks=true/\RepD w F e.val (val ks):=by
 rcases hT.find kt et hu w' ks hk es.toList (fun e he=>by obtain⟨l,h1,h2,_⟩:=h.ent e he;exact⟨l,h1,h2⟩) with⟨h1,h2⟩|⟨j,e,h1,h2,h3⟩
 ·refine .inl ⟨h1,?_,h2⟩
  cases hb:has ks with
  |false=>rfl
  |true=>obtain⟨e,he,h3,_⟩:=h.has ks hb;exact(h2 e he h3).elim
 ·obtain⟨l,k1,k2,k3,k4⟩:=h.ent e (List.mem_of_getElem? h2)
  have:l=ks:=encK_inj k1 hk (k2.symm.trans h3)
  subst this
  exact .inr ⟨j,e,h1,h2,h3,k3,k4⟩
theorem look_run(hT:MapTy P t kk)(hu:P.underlying t=some (.map kt et)){z:Value}(hz:zeroD P et=some z)(h:MapAt w F kk n has val es clk)(hk:KeyOK kk ks)(hh:w.heap[b]?=some (.map es clk))(ok:Bool) :
  ∃v,(Instr.lookup t (.map (some b)) (encK kk ks) ok).run P w=.ok (if ok then .tuple #[v,.bool (has ks)] else v) w/\RepD w F v (selD (has ks) (val ks) (.x z)):=by
 have hzr:(zeroValue et).run P w=.ok z w:=by
  unfold zeroD at hz
  rw[Option.bind_eq_some_iff] at hz
  obtain⟨i,h1,h2⟩:=hz
  simp[zeroValue,typeInfo,h1,h2]
 rcases map_at hT hu h hk w with⟨h1,h2,_⟩|⟨j,e,h1,_,_,h2,h3⟩
 ·refine⟨z,?_,by rw[h2,selD_eq];exact .x z⟩
  rw[h2]
  simp[Instr.lookup,run_underlying hu,MapKept.run_getObj_map hh,hT.check kt et hu w _ ks hk,h1,hzr,Result.andThen]
 ·refine⟨e.val,?_,by rw[h2,selD_eq];exact h3⟩
  rw[h2]
  simp[Instr.lookup,run_underlying hu,MapKept.run_getObj_map hh,hT.check kt et hu w _ ks hk,h1,Result.andThen]
theorem upd_run(hT:MapTy P t kk)(hu:P.underlying t=some (.map kt et))(h:MapAt w F kk n has val es clk)(hk:KeyOK kk ks)(hh:w.heap[b]?=some (.map es clk)){v:Value}{d:DV}(hv:RepD w F v d) :
  ∃es' clk',(Instr.mapUpdate t (.map (some b)) (encK kk ks) v).run P w=.ok () { w with heap:=w.heap.setIfInBounds b (.map es' clk') } /\
   MapAt w F kk (addN n (has ks)) (fun q=>keyEq q ks||has q) (fun q=>selD (keyEq q ks) d (val q)) es' clk':=by
 rcases map_at hT hu h hk w with⟨h1,h2,h3⟩|⟨j,e,h1,h2,h3,h4,h5⟩
 ·refine⟨es.push ⟨encK kk ks,v,clk⟩,clk+1,?_,?_,?_,?_,MapKept.stamped_push h.stamp h3⟩
  ·simp[Instr.mapUpdate,run_underlying hu,MapKept.run_getObj_map hh,hT.check kt et hu w false ks hk,h1,MapKept.run_setObj_map _ hh,Result.andThen]
  ·rw[h2];simp[addN,h.size]
  ·intro x hx
   simp only[Array.toList_push,List.mem_append,List.mem_singleton] at hx
   rcases hx with hx|rfl
   ·obtain⟨l,k1,k2,k3,k4⟩:=h.ent x hx
    have hne:l≠ks:=fun e=>h3 x hx (e▸k2)
    exact⟨l,k1,k2,by simp[k3],by rw[selD_eq,keyEq_ff.2 hne];exact k4⟩
   ·exact⟨ks,hk,rfl,by simp[keyEq],by rw[selD_eq,keyEq_iff.2 rfl];exact hv⟩
  ·intro l hl
   simp only[Bool.or_eq_true,keyEq_iff] at hl
   rcases hl with rfl|hl
   ·exact⟨⟨encK kk l,v,clk⟩,by simp,rfl,hk⟩
   ·obtain⟨x,hx,k1,k2⟩:=h.has l hl
    exact⟨x,by simp;exact .inl (by simpa using hx),k1,k2⟩
 ·have hj:es[j]?=some e:=by simpa using h2
  have hmem:e∈es.toList:=List.mem_of_getElem? h2
  refine⟨es.modify j (fun e'=>{ e' with key:=encK kk ks,val:=v }),clk,?_,?_,?_,?_,MapKept.stamped_modify h.stamp _ _ (fun _ _=>rfl) (fun e' _ he'=>by rw[hj] at he';cases he';exact h3.symm)⟩
  ·have hs:=hT.stays w ks hk
   simp[Instr.mapUpdate,run_underlying hu,MapKept.run_getObj_map hh,hT.check kt et hu w false ks hk,h1,hj,h3,hs,MapKept.run_setObj_map _ hh,Result.andThen]
  ·rw[h4];simp[addN,h.size]
  ·intro x hx
   have hx':x∈es.modify j (fun e'=>{ e' with key:=encK kk ks,val:=v }):=Array.mem_toList_iff.1 hx
   obtain⟨i,hi,hxi⟩:=Array.mem_iff_getElem.1 hx'
   simp only[Array.size_modify] at hi
   by_cases hij:j=i
   ·subst hij
    have:x={ e with key:=encK kk ks,val:=v }:=by
     rw[<- hxi,Array.getElem_modify]
     simp only[if_true]
     rw[Array.getElem?_eq_getElem hi,Option.some.injEq] at hj
     rw[hj]
    subst this
    exact⟨ks,hk,rfl,by simp[keyEq],by rw[selD_eq,keyEq_iff.2 rfl];exact hv⟩
   ·have hx2:x=es[i]:=by rw[<- hxi,Array.getElem_modify,if_neg hij]
    have hx3:x∈es.toList:=by rw[hx2];simp
    obtain⟨l,k1,k2,k3,k4⟩:=h.ent x hx3
    have hne:l≠ks:=by
     rintro rfl
     have hnd:=((MapKept.stamped_iff es clk).1 h.stamp).2.2
     have h6:es.toList[i]?=some x:=by rw[hx2];simp[hi]
     have h7:=List.pairwise_iff_getElem.1 hnd
     obtain⟨a1,a2⟩:=List.getElem?_eq_some_iff.1 h6
     obtain⟨b1,b2⟩:=List.getElem?_eq_some_iff.1 h2
     rcases Nat.lt_or_gt_of_ne hij with hlt|hlt
     ·exact h7 j i b1 a1 hlt (by rw[a2,b2,h3,k2])
     ·exact h7 i j a1 b1 hlt (by rw[a2,b2,h3,k2])
    exact⟨l,k1,k2,by simp[k3],by rw[selD_eq,keyEq_ff.2 hne];exact k4⟩
  ·intro l hl
   have hl':has l=true:=by
    simp only[Bool.or_eq_true,keyEq_iff] at hl
    rcases hl with rfl|hl
    ·exact h4
    ·exact hl
   obtain⟨x,hx,k1,k2⟩:=h.has l hl'
   obtain⟨i,hi1,hi2⟩:=List.getElem_of_mem hx
   have hi:i<es.size:=by simpa using hi1
   by_cases hij:j=i
   ·subst hij
    have hxe:x=e:=by
     rw[List.getElem?_eq_getElem hi1,hi2] at h2;cases h2;rfl
    subst hxe
    have:l=ks:=encK_inj k2 hk (k1.symm.trans h3)
    subst this
    refine⟨(es.modify j (fun e'=>{ e' with key:=encK kk l,val:=v }))[j]'(by simpa using hi),Array.mem_toList_iff.2 (Array.getElem_mem _),?_,hk⟩
    rw[Array.getElem_modify];simp
   ·refine⟨(es.modify j (fun e'=>{ e' with key:=encK kk ks,val:=v }))[i]'(by simpa using hi),Array.mem_toList_iff.2 (Array.getElem_mem _),?_,k2⟩
    rw[Array.getElem_modify,if_neg hij]
    have:es[i]=x:=by rw[<- hi2];simp
    rw[this];exact k1
theorem del_run(hT:MapTy P t kk)(hu:P.underlying t=some (.map kt et))(h:MapAt w F kk n has val es clk)(hk:KeyOK kk ks)(hh:w.heap[b]?=some (.map es clk))(ty:TypeId){tys:Array TypeId}(hty:tys[0]?=some t) :
  ∃es' clk',(Builtin.delete_ tys ty #[.map (some b),encK kk ks]).run P w=.ok (.tuple #[]) { w with heap:=w.heap.setIfInBounds b (.map es' clk') } /\
   MapAt w F kk (subN n (has ks)) (fun q=>!(keyEq q ks)&&has q) val es' clk':=by
 rcases map_at hT hu h hk w with⟨h1,h2,h3⟩|⟨j,e,h1,h2,h3,h4,h5⟩
 ·refine⟨es,clk,?_,?_,?_,?_,h.stamp⟩
  ·simp[Builtin.delete_,hty,run_underlying hu,MapKept.run_getObj_map hh,hT.check kt et hu w _ ks hk,h1,MapKept.run_setObj_map _ hh,Result.andThen]
  ·rw[h2];simp[subN,h.size]
  ·intro x hx
   obtain⟨l,k1,k2,k3,k4⟩:=h.ent x hx
   have hne:l≠ks:=fun e=>h3 x hx (e▸k2)
   exact⟨l,k1,k2,by simp[k3,keyEq_ff.2 hne],k4⟩
  ·intro l hl
   simp only[Bool.and_eq_true] at hl
   exact h.has l hl.2
 ·have hjl:j<es.toList.length:=(List.getElem?_eq_some_iff.1 h2).1
  have hjs:j<es.size:=by simpa using hjl
  have hsub:(es.eraseIdxIfInBounds j).toList=es.toList.eraseIdx j:=by
   unfold Array.eraseIdxIfInBounds
   rw[dif_pos hjs]
   simp
  have hkeep:∀x∈es.toList.eraseIdx j,x∈es.toList/\x.key≠encK kk ks:=by
   intro x hx
   refine⟨(List.eraseIdx_sublist _ _).subset hx,?_⟩
   obtain⟨i,hi,hne⟩:=List.mem_eraseIdx_iff_getElem?.1 hx
   rw[<- h3]
   have hd:=List.pairwise_iff_getElem.1 ((MapKept.stamped_iff es clk).1 h.stamp).2.2
   obtain⟨hi1,hi2⟩:=List.getElem?_eq_some_iff.1 hne
   obtain⟨_,hj2⟩:=List.getElem?_eq_some_iff.1 h2
   rcases Nat.lt_or_gt_of_ne hi with hlt|hlt
   ·have:=hd i j hi1 hjl hlt
    rw[hi2,hj2] at this;exact this
   ·have:=hd j i hjl hi1 hlt
    rw[hi2,hj2] at this;exact fun e=>this e.symm
  refine⟨es.eraseIdxIfInBounds j,clk,?_,?_,?_,?_,MapKept.stamped_erase h.stamp j⟩
  ·simp[Builtin.delete_,hty,run_underlying hu,MapKept.run_getObj_map hh,hT.check kt et hu w _ ks hk,h1,MapKept.run_setObj_map _ hh,Result.andThen]
  ·have e1:(es.eraseIdxIfInBounds j).size=(es.toList.eraseIdx j).length:=by rw[<- hsub,Array.length_toList]
   rw[e1,List.length_eraseIdx,if_pos hjl,h4]
   have:=h.size
   simp[subN];omega
  ·intro x hx
   rw[hsub] at hx
   obtain⟨hx1,hx2⟩:=hkeep x hx
   obtain⟨l,k1,k2,k3,k4⟩:=h.ent x hx1
   have hne:l≠ks:=fun e=>hx2 (e▸k2)
   exact⟨l,k1,k2,by simp[k3,keyEq_ff.2 hne],k4⟩
  ·intro l hl
   simp only[Bool.and_eq_true,Bool.not_eq_true',keyEq_ff] at hl
   obtain⟨x,hx,k1,k2⟩:=h.has l hl.2
   refine⟨x,?_,k1,k2⟩
   rw[hsub]
   obtain⟨i,hi1,hi2⟩:=List.getElem_of_mem hx
   refine List.mem_eraseIdx_iff_getElem?.2 ⟨i,fun he=>?_,by rw[List.getElem?_eq_getElem hi1,hi2]⟩
   subst he
   rw[List.getElem?_eq_getElem hi1,hi2] at h2
   cases h2
   exact hl.1 (encK_inj k2 hk (k1.symm.trans h3))
end
theorem absMakeMap_sound{P:Program}{w:World}{μ:Mu}{F:Nat->Prop}{hp hp':Heap}{id:Nat}{t:TypeId}{r:Option SV}{rv:Option Value}{s:SV}(hl:LH w μ F hp)(hid:μ id=none)
  (hr1:∀v,rv=some v->∃x,r=some x/\Rep w μ F v x) (he:(absMakeMap P id hp t r).ev (s,hp')):∃u w',(Instr.makeMap t rv).run P w=.ok u w'/\Out w μ F hp (·=id) hp' u s w':=by
 unfold absMakeMap at he
 split at he
 ·rename_i kt et hu
  split at he
  ·rename_i kk z hkk hz
   have key:∀(h:(Instr.makeMap t rv).run P w=.ok (.map (some w.heap.size)) (w.alloc (.map #[] 0))),s=.mp id->hp'=hset hp id (some (.map kk 0 (fun _=>false) fun _=>.x z))->∃u w',(Instr.makeMap t rv).run P w=.ok u w'/\Out w μ F hp (·=id) hp' u s w':=by
    rintro h rfl rfl
    refine⟨_,_,h,out_alloc hl hid ⟨rfl,#[],0,heap_alloc_at _ _,⟨rfl,fun e he=>by simp at he,fun l h=>(by cases h),MapKept.stamped_empty 0⟩⟩ ?_⟩
    exact .mp id w.heap.size (by simp[upd])
   split at he
   ·simp only[Tr.ev,Prod.mk.injEq] at he
    have hrv:rv=none:=by
     cases rv with
     |none=>rfl
     |some v=>obtain⟨x,hx,_⟩:=hr1 v rfl;cases hx
    subst hrv
    exact key (by simp[Instr.makeMap,newObj,Sem.run,Result.andThen]) he.1 he.2
   ·rename_i k n
    simp only[Tr.ev,Prod.mk.injEq] at he
    cases rv with
    |none=>exact key (by simp[Instr.makeMap,newObj,Sem.run,Result.andThen]) he.1 he.2
    |some v =>
     obtain⟨x,hx,hr⟩:=hr1 v rfl
     simp only[Option.some.injEq] at hx;subst hx
     obtain rfl:=rep_x hr
     exact key (by simp[Instr.makeMap,newObj,Sem.run,Result.andThen,run_underlying hu,asInt,asIntOf]) he.1 he.2
   ·exact he.elim
  ·exact he.elim
 ·exact he.elim
theorem absLookup_sound{P:Program}{w:World}{μ:Mu}{F:Nat->Prop}{hp:Heap}{t:TypeId}{mv kv:Value}{m k r:SV}{ok:Bool}(hl:LH w μ F hp)(hm:Rep w μ F mv m)(hk:Rep w μ F kv k)(he:(absLookup P hp t m k ok).ev r) :
  ∃u,(Instr.lookup t mv kv ok).run P w=.ok u w/\Rep w μ F u r:=by
 unfold absLookup at he
 split at he
 ·rename_i l
  split at he
  ·rename_i kk n has val kk' ks hg hkl
   split at he
   ·rename_i kt et hu
    split at he
    ·rename_i z hz
     split at he
     ·rename_i hkk
      subst hkk
      obtain⟨hT,hK,he⟩:=he
      cases hm with
      |mp _ b hb =>
       obtain⟨⟨_,es,clk,hh,hat⟩,_⟩:=hl.blkAt hg hb
       rw[keyL_spec hk hkl]
       obtain⟨v,h1,h2⟩:=look_run hT hu hz hat hK hh ok
       refine⟨_,h1,?_⟩
       cases ok with
       |true =>
        simp only[Tr.ev] at he;subst he
        refine .tup _ _ rfl fun i hi=>?_
        match i,hi with
        |0,_=>exact .d h2
        |1,_=>exact .d (.x _)
       |false =>
        simp only[Tr.ev] at he;subst he
        exact .d h2
     ·exact he.elim
    ·exact he.elim
   ·exact he.elim
  ·exact he.elim
 ·exact he.elim
theorem absMapUpd_sound{P:Program}{w:World}{μ:Mu}{F:Nat->Prop}{hp hp':Heap}{t:TypeId}{mv kv xv:Value}{m k x r:SV}(hl:LH w μ F hp)(hm:Rep w μ F mv m)(hk:Rep w μ F kv k)(hx:Rep w μ F xv x)(he:(absMapUpd P hp t m k x).ev (r,hp')) :
  ∃w',(Instr.mapUpdate t mv kv xv).run P w=.ok () w'/\r=uv/\HS ⟨w,Tk hp μ,F⟩ μ F hp' w':=by
 unfold absMapUpd at he
 split at he
 ·rename_i l d
  split at he
  ·rename_i kk n has val kk' ks hg hkl
   split at he
   ·rename_i kt et hu
    split at he
    ·rename_i hkk
     subst hkk
     obtain⟨hT,hK,he⟩:=he
     simp only[Tr.ev,Prod.mk.injEq] at he
     obtain⟨rfl,rfl⟩:=he
     cases hm with
     |mp _ b hb =>
      obtain⟨⟨_,es,clk,hh,hat⟩,_⟩:=hl.blkAt hg hb
      rw[keyL_spec hk hkl]
      obtain⟨es',clk',h1,h2⟩:=upd_run hT hu hat hK hh (rep_d hx)
      exact⟨_,h1,rfl,hs_map hl hg hb hh h2⟩
    ·exact he.elim
   ·exact he.elim
  ·exact he.elim
 ·exact he.elim
theorem absMapDel_sound{P:Program}{w:World}{μ:Mu}{F:Nat->Prop}{hp hp':Heap}{id:Nat}{t ty:TypeId}{tys:Array TypeId}(hty:tys[0]?=some t){mv kv:Value}{m k r:SV}(hl:LH w μ F hp)(hm:Rep w μ F mv m)(hk:Rep w μ F kv k)(he:(absMapDel P hp t m k).ev (r,hp')) :
  ∃u w',(Builtin.delete_ tys ty #[mv,kv]).run P w=.ok u w'/\Out w μ F hp (·=id) hp' u r w':=by
 unfold absMapDel at he
 split at he
 ·rename_i l
  split at he
  ·rename_i kk n has val kk' ks hg hkl
   split at he
   ·rename_i kt et hu
    split at he
    ·rename_i hkk
     subst hkk
     obtain⟨hT,hK,he⟩:=he
     simp only[Tr.ev,Prod.mk.injEq] at he
     obtain⟨rfl,rfl⟩:=he
     cases hm with
     |mp _ b hb =>
      obtain⟨⟨_,es,clk,hh,hat⟩,_⟩:=hl.blkAt hg hb
      rw[keyL_spec hk hkl]
      obtain⟨es',clk',h1,h2⟩:=del_run hT hu hat hK hh ty hty
      exact⟨_,_,h1,μ,F,hs_map hl hg hb hh h2,.tup _ _ rfl (fun i hi=>by simp at hi),fun _ _ h=>h,fun _ _=>rfl⟩
    ·exact he.elim
   ·exact he.elim
  ·exact he.elim
 ·exact he.elim
theorem absMapLen_sound{P:Program}{w:World}{μ:Mu}{F:Nat->Prop}{hp:Heap}{t ty:TypeId}{tys:Array TypeId}(hty:tys[0]?=some t){mv:Value}{m r:SV}(hl:LH w μ F hp)(hm:Rep w μ F mv m)(he:(absMapLen P hp t m).ev r) :
  ∃u,(Builtin.len_ tys ty #[mv]).run P w=.ok u w/\Rep w μ F u r:=by
 unfold absMapLen at he
 split at he
 ·rename_i l
  split at he
  ·rename_i kk n has val kt et hg hu
   simp only[Tr.ev] at he;subst he
   cases hm with
   |mp _ b hb =>
    obtain⟨⟨_,es,clk,hh,hat⟩,_⟩:=hl.blkAt hg hb
    refine⟨goInt es.size,?_,?_⟩
    ·simp[Builtin.len_,hty,run_underlying hu,MapKept.run_getObj_map hh,Result.andThen]
    ·rw[hat.size];exact .d (.x _)
  ·exact he.elim
 ·exact he.elim
end
noncomputable section
def absCopy(P:Program)(hp:Heap)(t:TypeId)(s x:SV):Tr (SV×Heap) :=
 match P.underlying t,s with
 |some (.slice elem),.row l 0 0 len esz=>match tsz P elem,hget hp l with
  |some sz,some (.row m esz' cell)=>match absSrc hp x sz with
   |some (n,cell2,p)=>if esz=sz/\esz'=sz then
     .need p (.nd (n<=len/\len<=m) (.ret (.d (.x (.int .i64 (n:Int))),hset hp l (some (.row m sz fun a b=>selD (decide (a<n)) (cell2 a b) (cell a b))))))
    else .fail
   |none=>.fail
  |_,_=>.fail
 |_,_=>.fail
theorem absCopy_sound{P:Program}{w:World}{μ:Mu}{F:Nat->Prop}{hp hp':Heap}{id:Nat}{t ty:TypeId}{tys:Array TypeId}(hty:tys[0]?=some t){sv xv:Value}{s x r:SV}(hl:LH w μ F hp)(hs:Rep w μ F sv s)(hx:Rep w μ F xv x)(he:(absCopy P hp t s x).ev (r,hp')) :
  ∃u w',(Builtin.copy_ tys ty #[sv,xv]).run P w=.ok u w'/\Out w μ F hp (·=id) hp' u r w':=by
 unfold absCopy at he
 split at he
 ·rename_i elem l len esz0 hu
  split at he
  ·rename_i esz m esz' cell hsz hg
   split at he
   ·rename_i n cell2 p hsrc
    split at he
    ·rename_i hk
     obtain⟨rfl,rfl⟩:=hk
     obtain⟨hp0,⟨h1,h2⟩,he⟩:=he
     simp only[Tr.ev,Prod.mk.injEq] at he
     obtain⟨rfl,rfl⟩:=he
     obtain⟨news,n1,n2,n3,n4⟩:=absSrc_sound (P:=P) hl hx hsrc hp0
     obtain⟨k1,k2⟩:=n2 w fun _=>rfl
     have hrun:∀base cap w1,sv=.slice base len cap->((match base with|some a=>storeCells a news|none=>pure ()):Sem Unit).run P w=.ok () w1->(Builtin.copy_ tys ty #[sv,xv]).run P w=.ok (goInt n) w1:=by
      rintro base cap w1 rfl hst
      unfold Builtin.copy_
      have hmin:Nat.min n len=n:=Nat.min_eq_left h1
      simp only[hty,List.getElem?_toArray,List.getElem?_cons_zero,List.getElem?_cons_succ,Sem.run_bind,run_underlying hu,Result.andThen,k1,run_tsz w hsz,hmin,k2]
      cases base with
      |none =>
       simp only[Sem.run_pure,Result.ok.injEq,true_and] at hst ⊢
       exact hst
      |some a=>simp only[Sem.run_bind,hst,Result.andThen,Sem.run_pure]
     have zero:∀base cap,sv=.slice base len cap->n=0->∃u w',(Builtin.copy_ tys ty #[sv,xv]).run P w=.ok u w'/\Out w μ F hp (·=id) (hset hp l (some (.row m esz' fun a b=>selD (decide (a<n)) (cell2 a b) (cell a b)))) u (.d (.x (.int .i64 (n:Int)))) w':=by
      rintro base cap hsv rfl
      have hnil:news=[]:=List.eq_nil_of_length_eq_zero (by omega)
      have hcell:(fun a b=>selD (decide (a<0)) (cell2 a b) (cell a b))=cell:=by funext a b;rw[selD_eq];simp
      refine⟨goInt 0,w,?_,μ,F,?_,.d (.x _),fun _ _ h=>h,fun _ _=>rfl⟩
      ·refine hrun base cap w hsv ?_
       rw[hnil]
       cases base<;>simp[storeCells,Sem.run_pure]
      ·rw[hcell]
       refine⟨hl.ext,hl.sub,hl.fin,fun l' blk hg'=>?_,fun l1 l2 b1 b2 b o b' o' hne g1 g2=>?_⟩
       ·rw[hget_hset] at hg'
        split at hg'
        ·rename_i e;subst e
         simp only[Option.some.injEq] at hg';subst hg'
         exact hl.blk l' _ hg
        ·exact hl.blk l' blk hg'
       ·rw[hget_hset] at g1 g2
        have f1:∀k bk,(if k=l then some (.row m esz' cell) else hget hp k)=some bk->hget hp k=some bk:=fun k bk h=>by
         split at h
         ·rename_i e;subst e;rw[hg];exact h
         ·exact h
        exact hl.inj l1 l2 b1 b2 b o b' o' hne (f1 _ _ g1) (f1 _ _ g2)
     by_cases hn:n=0
     ·cases hs with
      |rnil=>exact zero none 0 rfl hn
      |rz _ _ _ _ b o=>exact zero _ 0 rfl hn
      |row _ _ _ _ _ b o cap=>exact zero _ cap rfl hn
     cases hs with
     |rnil=>omega
     |rz=>omega
     |row _ _ _ _ _ b o cap hm hc hz =>
      obtain⟨⟨c,e,hh,hsz',hcc,hc1⟩,hF⟩:=hl.blkAt hg hm
      have hle:n*esz'<=m*esz':=Nat.mul_le_mul_right _ (by omega)
      have hst:=run_storeCells_at P b o e news 0 c w hh (by omega) n4
      simp only[Nat.add_zero] at hst
      have haddr:(⟨b,o+0+0*esz',none⟩:Addr)=⟨b,o,none⟩:=by simp
      refine⟨goInt n,_,?_,μ,F,hs_update (c:=c) (e:=e) hl hg hm hh (cs':=(c.toList.take o++news++c.toList.drop (o+news.length)).toArray) (by simp;omega) ?_,.d (.x _),fun _ _ h=>h,fun _ _=>rfl⟩
      ·refine hrun _ cap _ rfl ?_
       show(storeCells ⟨b,o+0+0*esz',none⟩ news).run P w=_
       rw[haddr];exact hst
      ·have hext:Ext F w (w.setRow b (c.toList.take o++news++c.toList.drop (o+news.length)).toArray):=Ext.setRow F w b c _ e _ hh hF (by simp;omega)
       have hidx:∀i j,i<n->j<esz'->i*esz'+j<n*esz':=by
        intro i j hi hj
        have:(i+1)*esz'<=n*esz':=Nat.mul_le_mul_right _ hi
        rw[Nat.add_mul] at this;omega
       have hout:∀i j,¬i<n->n*esz'<=i*esz'+j:=by
        intro i j hi
        have:n*esz'<=i*esz':=Nat.mul_le_mul_right _ (by omega)
        omega
       refine⟨_,e,setRow_heap_same w b c e _ _ hh,by simp;omega,fun i j hi hj=>?_,fun i j hi hj=>?_⟩
       ·show RepD _ F _ (selD (decide (i<n)) (cell2 i j) (cell i j))
        rw[list_take_drop_getD c o _ _ (by omega),selD_eq]
        by_cases hin:i<n
        ·have:=hidx i j hin hj
         rw[if_pos (by omega),decide_eq_true hin,show o+(i*esz'+j)-o=i*esz'+j by omega]
         exact(n3 i j hin hj).mono hext fun _ h=>h
        ·have:=hout i j hin
         rw[if_neg (by omega),decide_eq_false hin]
         exact(hcc i j hi hj).mono hext fun _ h=>h
       ·rw[list_take_drop_getD c o _ _ (by omega)]
        by_cases hin:i<n
        ·have:=hidx i j hin hj
         rw[if_pos (by omega)]
         refine n4 _ (getD_mem' ?_)
         omega
        ·have:=hout i j hin
         rw[if_neg (by omega)]
         exact hc1 i j hi hj
    ·exact he.elim
   ·exact he.elim
  ·exact he.elim
 ·exact he.elim
where
 getD_mem' {l:List Value} {i:Nat} (h:i<l.length):l.getD i undef∈l:=by simp[List.getD,h]
end
noncomputable section
def absMake(P:Program)(id:Nat)(hp:Heap)(t:TypeId)(len cap:SV):Tr (SV×Heap) :=
 match P.underlying t,len,cap with
 |some (.slice elem),.d (.x (.int _ l)),.d (.x (.int _ c)) =>
  match P.info? elem with
  |some i =>
   match i.zero with
   |some z =>
    match dvsOf (svcells (ofValue z)) with
    |some ds =>
     if z.cells.size=i.size/\0<i.size/\0<i.bytes/\boxOK (ofValue z)=true/\(svcells (ofValue z)).all cellOK=true then
      .nd (0<=l/\l<=c/\c*i.bytes<=140737488355328) (.ret (.row id 0 0 l.toNat i.size,hset hp id (some (.row l.toNat i.size fun _ j=>ds.getD j (.x undef)))))
     else .fail
    |none=>.fail
   |none=>.fail
  |none=>.fail
 |_,_,_=>.fail
theorem absMake_sound{P:Program}{w:World}{μ:Mu}{F:Nat->Prop}{hp hp':Heap}{id:Nat}{t:TypeId}{lv cv:Value}{len cap r:SV}(hl:LH w μ F hp)(hid:μ id=none)(hlv:Rep w μ F lv len)(hcv:Rep w μ F cv cap)
  (he:(absMake P id hp t len cap).ev (r,hp')):∃u w',(Instr.makeSlice t lv cv).run P w=.ok u w'/\Out w μ F hp (·=id) hp' u r w':=by
 unfold absMake at he
 split at he
 ·rename_i elem kl l kc c hu
  split at he
  ·rename_i i hi
   split at he
   ·rename_i z hz
    split at he
    ·rename_i ds hds
     split at he
     ·rename_i hk
      obtain⟨hzs,hsz,hby,hzb,hall⟩:=hk
      obtain⟨⟨h0,h1,h2⟩,he⟩:=he
      simp only[Tr.ev,Prod.mk.injEq] at he;obtain⟨rfl,rfl⟩:=he
      rw[rep_x hlv,rep_x hcv]
      have hc0:0<=c:=by omega
      have hcle:c<=140737488355328:=by
       have:c*1<=c*i.bytes:=Int.mul_le_mul_of_nonneg_left (by omega) hc0
       omega
      have hwl:IntKind.i64.wrap l=l:=IntWalk.i64_in _ (by omega)
      have hwc:IntKind.i64.wrap c=c:=IntWalk.i64_in _ (by omega)
      have hbc:(i.bytes:Int)*c<=140737488355328:=by rw[Int.mul_comm];exact h2
      obtain⟨hd1,hd2⟩:=dvsOf_spec hds
      have hzr:=reps_value (rep_ofValue w μ F z) hzb
      have hti:∀w1,(typeInfo elem).run P w1=.ok i w1:=fun w1=>by simp[typeInfo,hi]
      have hzv:∀w1,(zeroValue elem).run P w1=.ok z w1:=fun w1=>by simp[zeroValue,typeInfo,hi,hz]
      have hts:∀w1,(sizeOf elem).run P w1=.ok i.size w1:=fun w1=>run_tsz w1 (by simp[tsz,hi])
      let cells:=(Array.range (c.toNat*i.size)).map fun k=>z.cells[k%z.cells.size]!
      have hsize:cells.size=c.toNat*i.size:=by simp[cells]
      have hrun:(Instr.makeSlice t (.int kl l) (.int kc c)).run P w=.ok (.slice (some ⟨w.heap.size,0,none⟩) l.toNat c.toNat) (w.alloc (.cells cells elem)):=by
       unfold Instr.makeSlice
       simp only[Sem.run_bind,run_underlying hu,Result.andThen,asInt,asIntOf,Sem.run_pure,hti,hwl,hwc]
       have e1:(decide (c<0)||decide ((i.bytes:Int)*c>2^48))=false:=by
        simp only[Bool.or_eq_false_iff,decide_eq_false_iff_not];omega
       simp only[e1,Bool.false_or]
       rw[if_neg (by simp;omega)]
       simp only[Sem.run_bind,askRoom]
       have e2:¬(c.toNat*i.bytes>roomBytes):=by
        have:(c.toNat*i.bytes:Nat)<=140737488355328:=by
         have:((c.toNat*i.bytes:Nat):Int)<=140737488355328:=by rw[Int.natCast_mul,Int.toNat_of_nonneg hc0];exact h2
         omega
        simp only[roomBytes];omega
       rw[if_neg e2]
       simp only[Sem.run_pure,Result.andThen,Sem.run_bind,hts]
       by_cases hn:c.toNat*i.size=0
       ·simp only[hn,if_true,Sem.run_pure,Result.andThen,Sem.run_bind]
        have:cells=#[]:=by simp only[cells,hn];simp
        rw[this]
        simp only[newRow,newObj,Sem.run_bind,Sem.run,Result.andThen,Sem.run_pure]
        rw[show((Array.range 0).map fun k=>(#[]:Array Value)[k%(#[]:Array Value).size]!)=#[] from Array.eq_empty_of_size_eq_zero (by simp)]
        rfl
       ·simp only[hn,if_false,Sem.run_bind,hzv,Result.andThen,Sem.run_pure]
        rfl
      have hcell:∀k,k<c.toNat*i.size->cells.getD k undef=z.cells.getD (k%i.size) undef:=by
       intro k hk
       have hlt:k%i.size<z.cells.size:=by rw[hzs];exact Nat.mod_lt _ hsz
       have hlt2:k%i.size<i.size:=Nat.mod_lt _ hsz
       simp[cells,Array.getD,hk,hzs,getElem!_pos,hlt,hlt2]
      refine⟨_,_,hrun,out_alloc hl hid ?_ ?_⟩
      ·have hle:l.toNat*i.size<=c.toNat*i.size:=Nat.mul_le_mul_right _ (by omega)
       have hidx:∀a k,a<l.toNat->k<i.size->a*i.size+k<c.toNat*i.size/\(a*i.size+k)%i.size=k:=by
        intro a k ha hk
        have:(a+1)*i.size<=l.toNat*i.size:=Nat.mul_le_mul_right _ ha
        rw[Nat.add_mul] at this
        exact⟨by omega,by rw[Nat.mul_comm,Nat.mul_add_mod,Nat.mod_eq_of_lt hk]⟩
       refine⟨cells,elem,heap_alloc_at w _,by rw[hsize];omega,fun a k ha hk=>?_,fun a k ha hk=>?_⟩
       ·obtain⟨h3,h4⟩:=hidx a k ha hk
        rw[Nat.zero_add,hcell _ h3,h4]
        have:=hzr.2 k (by rw[<- hzr.1,hzs];exact hk)
        rw[hd2 k (by rw[<- hzr.1,hzs];exact hk)] at this
        exact(rep_d this).mono (Ext.alloc F w _ fun b hb=>(hl.fin b hb).1) fun _ h=>h
       ·obtain⟨h3,h4⟩:=hidx a k ha hk
        rw[Nat.zero_add,hcell _ h3,h4]
        exact cellOK_one (hzr.2 k (by rw[<- hzr.1,hzs];exact hk)) (all_cellOK hall k (by rw[<- hzr.1,hzs];exact hk))
      ·have hb:bsz (w.alloc (.cells cells elem)) w.heap.size=c.toNat*i.size:=by unfold bsz;rw[heap_alloc_at];exact hsize
       have:=Rep.row (w:=w.alloc (.cells cells elem)) (μ:=upd μ id (.pl w.heap.size 0)) (F:=F) id 0 0 l.toNat i.size w.heap.size 0 c.toNat (by simp[upd]) (by omega) (by rw[hb];simp)
       simpa using this
     ·exact he.elim
    ·exact he.elim
   ·exact he.elim
  ·exact he.elim
 ·exact he.elim
def absRange(P:Program)(id:Nat)(hp:Heap)(t:TypeId)(x:SV):Tr (SV×Heap) :=
 match P.underlying t,x with
 |some .string,.d (.x (.string s))=>.ret (.ptr id 0,hset hp id (some (.iter s 0)))
 |_,_=>.fail
theorem absRange_sound{P:Program}{w:World}{μ:Mu}{F:Nat->Prop}{hp hp':Heap}{id:Nat}{t:TypeId}{v:Value}{x r:SV}(hl:LH w μ F hp)(hid:μ id=none)(hv:Rep w μ F v x)
  (he:(absRange P id hp t x).ev (r,hp')):∃u w',(Instr.range t v).run P w=.ok u w'/\Out w μ F hp (·=id) hp' u r w':=by
 unfold absRange at he
 split at he
 ·rename_i s hu
  simp only[Tr.ev,Prod.mk.injEq] at he
  obtain⟨rfl,rfl⟩:=he
  obtain rfl:=rep_x hv
  refine⟨.pointer (some ⟨w.heap.size,0,none⟩),w.alloc (.stringIter s 0),?_,?_⟩
  ·unfold Instr.range
   simp only[Sem.run_bind,run_underlying hu,Result.andThen,Sem.run_pure,run_newObj_alloc]
  ·refine out_alloc hl hid ⟨rfl,heap_alloc_at _ _⟩ ?_
   exact .ptr id 0 w.heap.size 0 (by simp[upd])
 ·exact he.elim
def absNext(hp:Heap)(x:SV)(isS:Bool):Tr (SV×Heap) :=
 match x,isS with
 |.ptr l 0,true=>match hget hp l with
  |some (.iter s pos)=>.ite (decide (pos<s.size))
    (.ret (.tup [.d (.x (.bool true)),.d (.x (.int .i64 (pos:Int))),.d (.x (.int .i32 ((Utf8.decode s pos).1:Int)))],hset hp l (some (.iter s (pos+(Utf8.decode s pos).2)))))
    (.ret (.tup [.d (.x (.bool false))],hp))
  |_=>.fail
 |_,_=>.fail
theorem absNext_sound{P:Program}{w:World}{μ:Mu}{F:Nat->Prop}{hp hp':Heap}{id:Nat}{t:TypeId}{v:Value}{x r:SV}{isS:Bool}(hl:LH w μ F hp)(hv:Rep w μ F v x)
  (he:(absNext hp x isS).ev (r,hp')):∃u w',(Instr.next v isS t).run P w=.ok u w'/\Out w μ F hp (·=id) hp' u r w':=by
 unfold absNext at he
 split at he
 ·rename_i l
  split at he
  ·rename_i s pos hg
   cases hv with
   |ptr _ _ b o hm =>
    obtain⟨⟨h0,hh⟩,hF⟩:=hl.blkAt hg hm
    subst h0
    have hget:(getObj b).run P w=.ok (.stringIter s pos) w:=by simp[getObj,Sem.run,hh]
    have hset':∀ob:Obj,(setObj b ob).run P w=.ok () { w with heap:=w.heap.setIfInBounds b ob }:=by intro ob;simp[setObj,Sem.run,hh]
    rcases he with⟨hb,he⟩|⟨hb,he⟩
    ·simp only[decide_eq_true_eq] at hb
     simp only[Tr.ev,Prod.mk.injEq] at he
     obtain⟨rfl,rfl⟩:=he
     refine⟨.tuple #[.bool true,goInt pos,.int .i32 (Utf8.decode s pos).1],_,?_,μ,F,hs_upd (w':={ w with heap:=w.heap.setIfInBounds b (.stringIter s (pos+(Utf8.decode s pos).2)) }) hl hg hm ?_ (by simp) ?_ ⟨rfl,?_⟩,?_,fun _ _ h=>h,fun _ _=>rfl⟩
     ·unfold Instr.next
      simp only[Nat.add_zero,Sem.run_bind,Sem.run_pure,Result.andThen,hget]
      rw[if_pos hb]
      simp only[Sem.run_bind,Sem.run_pure,Result.andThen,hset']
     ·intro G hG
      refine⟨rfl,rfl,rfl,by simp,fun k hk=>?_,fun k=>?_⟩
      ·have:k≠b:=fun e=>hG (e▸hk)
       simp[Array.getElem?_setIfInBounds,this.symm]
      ·unfold bsz
       simp only[Array.getElem?_setIfInBounds]
       by_cases e:b=k
       ·subst e
        rw[hh];simp
       ·rw[if_neg e];exact Nat.le_refl _
     ·intro k hk
      simp[Array.getElem?_setIfInBounds,hk.symm]
     ·have:=(Array.getElem?_eq_some_iff.1 hh).1
      simp[Array.getElem?_setIfInBounds,this]
     ·refine .tup _ _ rfl fun i hi=>?_
      match i,hi with
      |0,_=>exact .d (.x _)
      |1,_=>exact .d (.x _)
      |2,_=>exact .d (.x _)
    ·simp only[decide_eq_false_iff_not] at hb
     simp only[Tr.ev,Prod.mk.injEq] at he
     obtain⟨rfl,rfl⟩:=he
     refine⟨.tuple #[.bool false],w,?_,out_same hl ?_⟩
     ·unfold Instr.next
      simp only[Nat.add_zero,Sem.run_bind,Sem.run_pure,Result.andThen,hget]
      rw[if_neg hb]
      simp only[Sem.run_pure]
     ·refine .tup _ _ rfl fun i hi=>?_
      match i,hi with
      |0,_=>exact .d (.x _)
  ·exact he.elim
 ·exact he.elim
def evalAll(ρ:Operand->Option SV):List Operand->Option (List SV)
 |[]=>some []
 |x::r=>match ρ x,evalAll ρ r with
  |some s,some ss=>some (s::ss)
  |_,_=>none
def evalParts(ρ:Operand->Option SV):List (Nat×Operand)->Option (List (Nat×SV))
 |[]=>some []
 |(i,x)::r=>match ρ x,evalParts ρ r with
  |some s,some ss=>some ((i,s)::ss)
  |_,_=>none
def evalOpt(ρ:Operand->Option SV):Option Operand->Option (Option SV)
 |none=>some none
 |some x=>(ρ x).map some
def still(hp:Heap)(t:Tr SV):Tr (SV×Heap):=t.bind fun s=>.ret (s,hp)
def hasRoom(P:Program)(hp:Heap)(t:TypeId)(x:SV):Bool :=
 match P.underlying t,x with
 |some (.array n elem),.ptr l off =>
  match tsz P elem,hget hp l with
  |some esz,some (.cells cs)=>decide (off+n*esz<=cs.length)
  |some esz,some (.row m esz' _)=>decide (off+n*esz<=m*esz')
  |_,_=>false
 |_,_=>true
def lenSV:SV->Option Nat
 |.d (.ro len _ _)=>some len
 |.row _ _ _ len _=>some len
 |_=>none
def absLen(P:Program)(t:TypeId)(ty:TypeId)(x:SV):Tr SV :=
 match P.underlying t,lenSV x with
 |some (.slice _),some n=>.ret (.d (.x (.int .i64 (n:Int))))
 |_,_=>match exact x with
  |some v=>absPure P (Builtin.len_ #[t] ty #[v])
  |none=>.fail
def absIndexA(P:Program)(t:TypeId)(cs:List SV)(i:Int):Tr SV :=
 match P.underlying t with
 |some (.array len elem) =>
  match shapeT P elem,tsz P elem with
  |some sh,some esz=>if len*esz<=cs.length/\sh.2<=esz then .nd (0<=i/\i<len) (.ret (ofCells sh fun k=>selCol ((List.range len).map fun a=>cs.getD (a*esz+k) uv) i.toNat)) else .fail
  |_,_=>.fail
 |_=>.fail
theorem absIndexA_sound{P:Program}{w:World}{μ:Mu}{F:Nat->Prop}{t:TypeId}{v iv:Value}{cs:List SV}{k:IntKind}{i:Int}{r:SV}(hv:Rep w μ F v (.agg cs))(hi:Rep w μ F iv (.d (.x (.int k i))))(he:(absIndexA P t cs i).ev r) :
  ∃u,(Instr.index t v iv).run P w=.ok u w/\Rep w μ F u r:=by
 have e2:=rep_x hi
 subst e2
 unfold absIndexA at he
 split at he
 ·rename_i len elem hu
  split at he
  ·rename_i sh esz hs ht
   split at he
   ·rename_i hk
    obtain⟨⟨h0,h1⟩,he⟩:=he
    simp only[Tr.ev] at he;subst he
    have hsh1:=shapeT_one hs
    cases hv with
    |agg vs _ hl h =>
     have hlt:i.toNat<len:=by omega
     have hm:(i.toNat+1)*esz<=len*esz:=Nat.mul_le_mul_right _ hlt
     rw[Nat.add_mul] at hm
     have hp:absPart P elem cs (i.toNat*esz)=some (ofCells sh fun j=>cs.getD (i.toNat*esz+j) uv):=by
      unfold absPart;rw[hs];simp only[];rw[if_pos (by omega)]
     obtain⟨u,h2,h3⟩:=absPart_sound (P:=P) hl h hp
     refine⟨u,?_,?_⟩
     ·unfold Instr.index
      simp only[asIntOf,Sem.run_bind,Sem.run_pure,Result.andThen,run_underlying hu,h0,h1,and_self,if_true,run_tsz w ht]
      exact h2
     ·have:(ofCells sh fun k=>selCol ((List.range len).map fun a=>cs.getD (a*esz+k) uv) i.toNat)=ofCells sh fun j=>cs.getD (i.toNat*esz+j) uv:=by
       have e:∀k,selCol ((List.range len).map fun a=>cs.getD (a*esz+k) uv) i.toNat=cs.getD (i.toNat*esz+k) uv:=by
        intro k
        rw[selCol_eq _ _ (by simpa using hlt)]
        simp[List.getD,hlt]
       simp only[e]
      rw[this];exact h3
   ·exact he.elim
  ·exact he.elim
 ·exact he.elim
def strEq(a b:ByteArray):Bool:=a.data.toList==b.data.toList
def absBinI(P:Program)(op:BinOp)(t:TypeId)(x y:Operand)(a b:SV):Tr SV :=
 match op,a,b with
 |.eql,.ifc _ _,.d (.x .nilIface)=>(match P.underlying t with|some (.interface _)=>.ret (.d (.x (.bool false)))|_=>.fail)
 |.neq,.ifc _ _,.d (.x .nilIface)=>(match P.underlying t with|some (.interface _)=>.ret (.d (.x (.bool true)))|_=>.fail)
 |.add,.d (.x (.string a)),.d (.x (.string b))=>.nd (a.size+b.size<=9223372036854775807) (.ret (.d (.x (.string (a++b)))))
 |.eql,.d (.x (.string a)),.d (.x (.string b))=>.ret (.d (.x (.bool (strEq a b))))
 |.neq,.d (.x (.string a)),.d (.x (.string b))=>.ret (.d (.x (.bool (!(strEq a b)))))
 |.eql,.d (.ro n _ _),.d (.x (.slice none _ _))=>(match P.underlying t with|some (.slice _)=>.nd (n≠0) (.ret (.d (.x (.bool false))))|_=>.fail)
 |.neq,.d (.ro n _ _),.d (.x (.slice none _ _))=>(match P.underlying t with|some (.slice _)=>.nd (n≠0) (.ret (.d (.x (.bool true))))|_=>.fail)
 |_,_,_=>absBin P op t x y a b
theorem run_eql_slice_nil{P:Program}{t e:TypeId}{a:Addr}{m c m' c':Nat}(w:World)(h:P.underlying t=some (.slice e)):(Op.equal t (.slice (some a) m c) (.slice none m' c')).run P w=.ok false w:=by
 unfold Op.equal Op.maxDepth
 show(Op.equalIn (9999+1) t (.slice (some a) m c) (.slice none m' c')).run P w=_
 unfold Op.equalIn
 simp only[Sem.run_bind,run_underlying h,Result.andThen,Sem.run_pure]
theorem run_eql_iface_nil{P:Program}{t u:TypeId}{v:Value}{ms:Array (String×TypeId)}(w:World)(h:P.underlying t=some (.interface ms)):(Op.equal t (.iface u v) .nilIface).run P w=.ok false w:=by
 unfold Op.equal Op.maxDepth
 show(Op.equalIn (9999+1) t (.iface u v) .nilIface).run P w=_
 unfold Op.equalIn
 simp only[Sem.run_bind,run_underlying h,Result.andThen,Sem.run_pure]
theorem absBinI_sound{P:Program}{w:World}{μ:Mu}{F:Nat->Prop}{op:BinOp}{t:TypeId}{x y:Operand}{av bv:Value}{a b r:SV}(ha:Rep w μ F av a)(hb:Rep w μ F bv b)(he:(absBinI P op t x y a b).ev r) :
  ∃u,((do eqGuard op t x y av bv;binOp op t av bv):Sem Value).run P w=.ok u w/\Rep w μ F u r:=by
 unfold absBinI at he
 split at he
 ·split at he
  ·rename_i u s _ ms hu
   simp only[Tr.ev] at he;subst he
   have e2:=rep_x hb;subst e2
   cases ha with
   |ifc _ v _ h =>
    refine⟨.bool false,?_,.d (.x _)⟩
    have hg:(eqGuard .eql t x y (.iface u v) .nilIface).run P w=.ok () w:=rfl
    rw[run_andThen_ok hg]
    simp only[binOp,Sem.run_bind,run_eql_iface_nil w hu,Result.andThen,Sem.run_pure]
  ·exact he.elim
 ·split at he
  ·rename_i u s _ ms hu
   simp only[Tr.ev] at he;subst he
   have e2:=rep_x hb;subst e2
   cases ha with
   |ifc _ v _ h =>
    refine⟨.bool true,?_,.d (.x _)⟩
    have hg:(eqGuard .neq t x y (.iface u v) .nilIface).run P w=.ok () w:=rfl
    rw[run_andThen_ok hg]
    simp only[binOp,Sem.run_bind,run_eql_iface_nil w hu,Result.andThen,Sem.run_pure,Bool.not_false]
  ·exact he.elim
 ·rename_i a b
  obtain⟨hn,he⟩:=he
  simp only[Tr.ev] at he;subst he
  rw[rep_x ha,rep_x hb]
  refine⟨_,?_,.d (.x _)⟩
  have hg:(eqGuard .add t x y (.string a) (.string b)).run P w=.ok () w:=rfl
  rw[run_andThen_ok hg]
  have hm:¬((a.size+b.size:Nat):Int)>IntKind.i64.max:=by
   have:IntKind.i64.max=9223372036854775807:=rfl
   omega
  simp only[binOp,Op.stringOp,if_neg hm,Sem.run_pure]
 ·rename_i a b
  simp only[Tr.ev] at he;subst he
  rw[rep_x ha,rep_x hb]
  refine⟨_,?_,.d (.x _)⟩
  have hg:(eqGuard .eql t x y (.string a) (.string b)).run P w=.ok () w:=rfl
  rw[run_andThen_ok hg]
  simp only[binOp,Op.stringOp,Sem.run_pure,strEq,ByteArray.toList_eq]
 ·rename_i a b
  simp only[Tr.ev] at he;subst he
  rw[rep_x ha,rep_x hb]
  refine⟨_,?_,.d (.x _)⟩
  have hg:(eqGuard .neq t x y (.string a) (.string b)).run P w=.ok () w:=rfl
  rw[run_andThen_ok hg]
  simp only[binOp,Op.stringOp,Sem.run_pure,strEq,ByteArray.toList_eq]
 ·split at he
  ·rename_i n esz cell m c _ e hu
   obtain⟨hn,he⟩:=he
   simp only[Tr.ev] at he;subst he
   rw[rep_x hb]
   cases ha with
   |d hd =>
    cases hd with
    |nil=>exact(hn rfl).elim
    |z=>exact(hn rfl).elim
    |ro b o len cap esz cell f hF hc hcell hone hrep =>
     refine⟨.bool false,?_,.d (.x _)⟩
     have hg:(eqGuard .eql t x y (.slice (some ⟨b,o,none⟩) n cap) (.slice none m c)).run P w=.ok () w:=rfl
     rw[run_andThen_ok hg]
     simp only[binOp,Sem.run_bind,run_eql_slice_nil w hu,Result.andThen,Sem.run_pure]
  ·exact he.elim
 ·split at he
  ·rename_i n esz cell m c _ e hu
   obtain⟨hn,he⟩:=he
   simp only[Tr.ev] at he;subst he
   rw[rep_x hb]
   cases ha with
   |d hd =>
    cases hd with
    |nil=>exact(hn rfl).elim
    |z=>exact(hn rfl).elim
    |ro b o len cap esz cell f hF hc hcell hone hrep =>
     refine⟨.bool true,?_,.d (.x _)⟩
     have hg:(eqGuard .neq t x y (.slice (some ⟨b,o,none⟩) n cap) (.slice none m c)).run P w=.ok () w:=rfl
     rw[run_andThen_ok hg]
     simp only[binOp,Sem.run_bind,run_eql_slice_nil w hu,Result.andThen,Sem.run_pure,Bool.not_false]
  ·exact he.elim
 ·exact absBin_sound ha hb he
def isU8:DV->Bool
 |.x (.int .u8 n)=>decide (0<=n/\n<256)
 |_=>false
def byteD:DV->UInt8
 |.x (.int .u8 n)=>UInt8.ofNat n.toNat
 |_=>0
def strOf(n:Nat)(cell:Nat->Nat->DV):ByteArray:=⟨((List.range n).map fun i=>byteD (cell i 0)).toArray⟩
def strCell(s:ByteArray):Nat->Nat->DV:=fun i _=>.x (.int .u8 (s.data.getD i 0).toNat)
def isBytes(P:Program)(t:TypeId):Option TypeId:=match P.underlying t with
 |some (.slice e)=>(match P.underlying e with|some (.int .u8)=>some e|_=>none)
 |_=>none
def isStr(P:Program)(t:TypeId):Bool:=match P.underlying t with
 |some .string=>true
 |_=>false
def isRowSV:SV->Bool
 |.d (.ro ..)=>true
 |.row ..=>true
 |_=>false
theorem slice_of{w:World}{μ:Mu}{F:Nat->Prop}{v:Value}{s:SV}(h:Rep w μ F v s)(hs:isRowSV s=true):v=.slice none 0 0\/∃a len cap,v=.slice (some a) len cap:=by
 cases h with
 |d h=>cases h with
  |nil=>exact .inl rfl
  |z a cap=>exact .inr ⟨_,_,_,rfl⟩
  |ro=>exact .inr ⟨_,_,_,rfl⟩
  |_=>cases hs
 |rnil=>exact .inl rfl
 |rz=>exact .inr ⟨_,_,_,rfl⟩
 |row=>exact .inr ⟨_,_,_,rfl⟩
 |_=>cases hs
def absConv(P:Program)(hp:Heap)(src dst:TypeId)(s:SV):Tr (SV×Heap) :=
 match isStr P src,isBytes P dst,s with
 |true,some _,.d (.x (.string b))=>.ret (.d (.ro b.size 1 (strCell b)),hp)
 |_,_,_=>match isBytes P src,isStr P dst with
  |some _,true=>(match absSrc hp s 1 with
   |some (n,cell,p)=>if isRowSV s=true then .need p (.nd (∀i,i<n->isU8 (cell i 0)=true) (.ret (.d (.x (.string (strOf n cell))),hp))) else .fail
   |none=>.fail)
  |_,_=>match exact s with
   |some v=>still hp (absPure P (convert src dst v))
   |none=>.fail
theorem absConv_quiet{P:Program}{hp hp':Heap}{src dst:TypeId}{s r:SV}(he:(absConv P hp src dst s).ev (r,hp')):hp'=hp:=by
 unfold absConv at he
 split at he
 ·simp only[Tr.ev,Prod.mk.injEq] at he;exact he.2
 ·split at he
  ·split at he
   ·split at he
    ·have:=he.2.2;simp only[Tr.ev,Prod.mk.injEq] at this;exact this.2
    ·exact he.elim
   ·exact he.elim
  ·split at he
   ·obtain⟨r0,_,h2⟩:=Tr.ev_bind he
    simp only[Tr.ev,Prod.mk.injEq] at h2
    exact h2.2
   ·exact he.elim
theorem isBytes_spec{P:Program}{t e:TypeId}(h:isBytes P t=some e):P.underlying t=some (.slice e)/\P.underlying e=some (.int .u8):=by
 unfold isBytes at h
 split at h
 ·rename_i e' hu
  split at h
  ·rename_i he
   simp only[Option.some.injEq] at h;subst h
   exact⟨hu,he⟩
  ·cases h
 ·cases h
theorem isStr_spec{P:Program}{t:TypeId}(h:isStr P t=true):P.underlying t=some .string:=by
 unfold isStr at h
 split at h
 ·assumption
 ·cases h
theorem hs_kept{w w':World}{μ:Mu}{F:Nat->Prop}{hp:Heap}(hl:LH w μ F hp)(hos:w'.os=w.os)(htp:w'.tape=w.tape)(hout:w'.output=w.output)(hsz:w'.heap.size=w.heap.size+1)(hold:∀b,b<w.heap.size->w'.heap[b]?=w.heap[b]?) :
  HS ⟨w,Tk hp μ,F⟩ μ (fun b=>F b\/b=w.heap.size) hp w':=by
 have hb:∀b,bsz w b<=bsz w' b:=by
  intro b
  by_cases h:b<w.heap.size
  ·unfold bsz;rw[hold b h];exact Nat.le_refl _
  ·have:w.heap[b]?=none:=by simp;omega
   simp[bsz,this]
 have hF:∀b,F b->b<w.heap.size:=fun b h=>(hl.fin b h).1
 have hext:Ext F w w':=⟨hos,htp,hout,by omega,fun b h=>hold b (hF b h),hb⟩
 refine⟨⟨hos,htp,hout,by show w.heap.size<=w'.heap.size;omega,fun b h=>hold b h.1,hb⟩,fun b h=>.inl h,fun b h=>?_,fun l blk hg=>?_,hl.inj⟩
 ·rcases h with h|rfl
  ·exact⟨by have:=hF b h;rw[hsz];exact Nat.lt_succ_of_lt this,.inl h⟩
  ·exact⟨by rw[hsz];exact Nat.lt_succ_self _,.inr (.inr (Nat.le_refl _))⟩
 ·obtain⟨q,h1,h2,h3⟩:=hl.blk l blk hg
  refine⟨q,h1,?_,h3.mono hext (fun b h=>.inl h) (fun _ _ h=>h) fun b o hq=>?_⟩
  ·cases q with
   |nil=>trivial
   |pl b o =>
    refine⟨fun h=>?_,h2.2⟩
    rcases h with h|h
    ·exact h2.1 h
    ·have:=h3.lt;omega
  ·subst hq;exact hold b h3.lt
theorem isU8_spec{d:DV}(h:isU8 d=true):∃n:Nat,n<256/\d=.x (.int .u8 n)/\byteD d=UInt8.ofNat n:=by
 unfold isU8 at h
 split at h
 ·rename_i n
  have h:=of_decide_eq_true h
  refine⟨n.toNat,by omega,by rw[show(n.toNat:Int)=n by omega],rfl⟩
 ·cases h
theorem absConv_sound{P:Program}{w:World}{μ:Mu}{F:Nat->Prop}{hp hp':Heap}{src dst:TypeId}{v:Value}{s r:SV}(hl:LH w μ F hp)(hx:Rep w μ F v s)(he:(absConv P hp src dst s).ev (r,hp')) :
  ∃u w',(convert src dst v).run P w=.ok u w'/\Out w μ F hp (fun _=>False) hp' u r w':=by
 unfold absConv at he
 split at he
 ·rename_i e b hs hd
  simp only[Tr.ev,Prod.mk.injEq] at he;obtain⟨rfl,rfl⟩:=he
  have e1:=rep_x hx;subst e1
  obtain⟨d1,d2⟩:=isBytes_spec hd
  refine⟨_,_,Lib.run_convert_string_bytes w src dst e b (isStr_spec hs) d1 d2,μ,_,hs_kept (w':=Lib.bytesWorld w e b) hl rfl rfl rfl (Lib.bytesWorld_size w e b) (fun k hk=>Lib.bytesWorld_at_old w e b k hk),?_,fun _ _ h=>h,fun _ _=>rfl⟩
  refine .d (.ro _ 0 _ _ 1 _ (fun i _=>.int .u8 (b.data.getD i 0).toNat) (fun _=>.inr rfl) ?_ (fun i j hi hj=>?_) (fun i j hi hj=>rfl) fun i j hi hj=>.x _)
  ·have:=grownCap_ge w b.size 0 e;omega
  ·have hi':i<b.size:=hi
   obtain rfl:j=0:=by omega
   have:=Lib.bytesWorld_cell w e b i hi'
   rw[show 0+(i*1+0)=i by omega,this]
   have hi2:i<b.data.size:=hi'
   have e3:b.data.toList.getD i 0=b.data.getD i 0:=by simp[Array.getD_eq_getD_getElem?,List.getD]
   rw[e3]
 ·split at he
  ·rename_i e hs hd
   obtain⟨s1,s2⟩:=isBytes_spec hs
   split at he
   ·rename_i n cell p hsrc
    split at he
    rotate_left
    ·exact he.elim
    rename_i hrow
    obtain⟨hp0,hu,he⟩:=he
    simp only[Tr.ev,Prod.mk.injEq] at he;obtain⟨rfl,rfl⟩:=he
    obtain⟨news,n1,n2,n3,n4⟩:=absSrc_sound (P:=P) hl hx hsrc hp0
    obtain⟨h1,h2⟩:=n2 w fun _=>rfl
    have hnews:news=((List.range n).map fun i=>(byteD (cell i 0)).toNat).map fun k:Nat=>Value.int .u8 (k:Int):=by
     refine List.ext_getElem? fun i=>?_
     by_cases hi:i<n
     ·obtain⟨m,m1,m2,m3⟩:=isU8_spec (hu i hi)
      have h3:=n3 i 0 hi (by omega)
      rw[m2] at h3
      have hlt:i<news.length:=by omega
      have h4:news.getD (i*1+0) undef=.int .u8 m:=by
       generalize news.getD (i*1+0) undef=q at h3
       cases h3;rfl
      have h5:news[i]?=some (.int .u8 m):=by
       rw[show i*1+0=i by omega,List.getD,List.getElem?_eq_getElem hlt,Option.getD_some] at h4
       rw[List.getElem?_eq_getElem hlt,h4]
      rw[h5]
      simp only[List.getElem?_map,List.getElem?_range hi,Option.map_some,m3]
      have:(UInt8.ofNat m).toNat=m:=by simp[UInt8.toNat_ofNat'];omega
      rw[this]
     ·have:news[i]?=none:=by simp;omega
      rw[this]
      symm
      simp;omega
    have hfold:=foldl_push_byteCells ((List.range n).map fun i=>byteD (cell i 0)) ByteArray.empty
    rw[List.map_map] at hfold
    have hn1:news.toArray=(((List.range n).map ((fun b:UInt8=>(b.toNat:Int)) ∘ fun i=>byteD (cell i 0))).map (Value.int .u8)).toArray:=by
     rw[hnews,List.map_map,List.map_map];rfl
    refine⟨.string (strOf n cell),w,?_,out_same hl (.d (.x _))⟩
    rcases slice_of hx hrow with rfl|⟨a,len,cap,rfl⟩
    ·have h0:n=0:=by simpa [Builtin.lenOf] using h1.symm
     subst h0
     rw[run_convert_bytes_string w src dst e none 0 0 s1 s2 (isStr_spec hd)]
     simp only[Conv.bytesToString,Sem.run_pure,strOf]
     rfl
    ·have h0:len=n:=by simpa [Builtin.lenOf] using h1
     subst h0
     rw[run_convert_bytes_string w src dst e (some a) len cap s1 s2 (isStr_spec hd)]
     simp only[Builtin.firstCells,Nat.mul_one] at h2
     rw[hn1] at h2
     rw[run_bytesToString w a len cap _ h2,hfold]
     have he0:ByteArray.empty.data=#[]:=rfl
     rw[he0]
     simp[strOf]
   ·exact he.elim
  ·split at he
   ·rename_i u hu
    have:=exact_spec hu hx;subst this
    obtain⟨r0,h1,h2⟩:=Tr.ev_bind he
    simp only[Tr.ev,Prod.mk.injEq] at h2
    obtain⟨rfl,rfl⟩:=h2
    obtain⟨q,h3,h4⟩:=absPure_sound (w:=w) (μ:=μ) (F:=F) h1
    exact⟨q,w,h3,out_same hl h4⟩
   ·exact he.elim
def absOp(P:Program)(id:Nat)(hp:Heap)(ρ:Operand->Option SV)(o:Oper):Tr (SV×Heap) :=
  match o.op with
  |.move x|.assign x=>match ρ x with|some s=>.ret (s,hp)|none=>.fail
  |.alloc t=>absAlloc P id hp t
  |.box _ x=>match ρ x with|some s=>absBox id hp s|none=>.fail
  |.build t ps=>match evalParts ρ ps.toList with|some ss=>still hp (absBuild P t ss)|none=>.fail
  |.buildSlice t len ps=>match evalParts ρ ps.toList with|some ss=>absBuildSlice P id hp t len ss|none=>.fail
  |.load t a=>match ρ a with|some p=>still hp (absLoad P hp t p)|none=>.fail
  |.store t a x=>match ρ a,ρ x with|some p,some s=>(absStore P hp t p s).bind fun h=>.ret (uv,h)|_,_=>.fail
  |.nilCheck x=>match ρ x with
    |some (.ptr l off)=>.ret (.ptr l off,hp)
    |some (.pix l b n e i j)=>.ret (.pix l b n e i j,hp)
    |some (.rop n c)=>.ret (.rop n c,hp)
    |some (.fn (.func f) a b)=>.ret (.fn (.func f) a b,hp)
    |_=>.fail
  |.binOp op t x y _=>match ρ x,ρ y with|some a,some b=>still hp (absBinI P op t x y a b)|_,_=>.fail
  |.unOp op _ x=>match(ρ x).bind exact with|some v=>still hp (absPure P (Op.unary op v))|none=>.fail
  |.convert src dst x=>match ρ x with|some s=>absConv P hp src dst s|none=>.fail
  |.makeFunc fn fs cs=>match evalAll ρ fs.toList,evalAll ρ cs.toList with|some a,some b=>.ret (.fn fn a b,hp)|_,_=>.fail
  |.makeSlice t l c=>match ρ l,ρ c with|some a,some b=>absMake P id hp t a b|_,_=>.fail
  |.slice t x lo hi mx=>match ρ x,evalOpt ρ lo,evalOpt ρ hi,mx with
    |some s,some a,some b,none=>if hasRoom P hp t s then still hp (absSlice P t s a b) else .fail
    |some s,some none,some (some b),some m=>match ρ m with
      |some c=>still hp (absSlice3 P t s b c)
      |none=>.fail
    |_,_,_,_=>.fail
  |.fieldAddr t x f=>match ρ x with|some p=>still hp (absFieldAddr P t p f)|none=>.fail
  |.field t x f=>match ρ x with|some s=>still hp (absField P t s f)|none=>.fail
  |.indexAddr t x i=>match ρ x,ρ i with|some s,some j=>still hp (absIndexAddr P hp t s j)|_,_=>.fail
  |.index t x i=>match ρ x with
   |some (.agg cs)=>match ρ i with
    |some (.d (.x (.int _ n)))=>still hp (absIndexA P t cs n)
    |_=>.fail
   |_=>match(ρ x).bind exact,ρ i with
    |some (.string s),some (.d (.x (.int _ n)))=>if(match P.underlying t with|some .string=>true|_=>false) then .nd (0<=n/\n<s.size) (.ret (.d (.x (.int .u8 (s.data.getD n.toNat 0).toNat)),hp)) else .fail
    |_,_=>.fail
  |.makeMap t r=>match evalOpt ρ r with|some x=>absMakeMap P id hp t x|none=>.fail
  |.lookup t m k ok=>match ρ m,ρ k with|some a,some b=>still hp (absLookup P hp t a b ok)|_,_=>.fail
  |.mapUpdate t m k x|.insert t m k x=>match ρ m,ρ k,ρ x with|some a,some b,some c=>absMapUpd P hp t a b c|_,_,_=>.fail
  |.range t x=>match ρ x with|some s=>absRange P id hp t s|none=>.fail
  |.next x b=>match ρ x with|some s=>absNext hp s b|none=>.fail
  |.extract x i=>match ρ x with|some (.tup vs)=>(match vs[i]? with|some s=>.ret (s,hp)|none=>.fail)|_=>.fail
  |.call c=>match c.callee,c.args.toList,c.argTypes.toList with
    |.builtin .len,[x],[t]=>match ρ x with
      |some (.mp l)=>still hp (absMapLen P hp t (.mp l))
      |some s=>still hp (absLen P t o.type s)
      |none=>.fail
    |.builtin .delete,[x,y],[t,_]=>match ρ x,ρ y with|some a,some b=>absMapDel P hp t a b|_,_=>.fail
    |.builtin .copy,[x,y],[t,_]=>match ρ x,ρ y with|some a,some b=>absCopy P hp t a b|_,_=>.fail
    |.builtin .append,[x,y],[t,u]=>match ρ x,ρ y with|some s,some r=>absAppend P id hp t u s r|_,_=>.fail
    |.builtin .max,[x,y],ts=>match(ρ x).bind exact,(ρ y).bind exact with|some u,some v=>still hp (absPure P (Builtin.max_ ts.toArray o.type #[u,v]))|_,_=>.fail
    |.builtin .min,[x,y],ts=>match(ρ x).bind exact,(ρ y).bind exact with|some u,some v=>still hp (absPure P (Builtin.min_ ts.toArray o.type #[u,v]))|_,_=>.fail
    |_,_,_=>.fail
  |_=>.fail
def quietOp:Op->Bool
 |.alloc _|.box _ _|.buildSlice _ _ _|.store _ _ _|.makeSlice _ _ _|.range _ _|.next _ _|.makeMap _ _|.mapUpdate _ _ _ _|.insert _ _ _ _=>false
 |.call c=>(match c.callee with|.builtin .append=>false|.builtin .delete=>false|.builtin .copy=>false|_=>true)
 |_=>true
def NewId(id:Nat)(o:Oper)(l:Nat):Prop:=l=id/\quietOp o.op=false
theorem Out.nar{w:World}{μ:Mu}{F:Nat->Prop}{hp hp':Heap}{id:Nat}{o:Oper}{v:Value}{s:SV}{w':World}(h:Out w μ F hp (·=id) hp' v s w')(hq:quietOp o.op=false):Out w μ F hp (NewId id o) hp' v s w':=by
 obtain⟨μ',F',h1,h2,h3,h4⟩:=h
 exact⟨μ',F',h1,h2,h3,fun l hl=>h4 l fun e=>hl ⟨e,hq⟩⟩
def OpOut(P:Program)(w:World)(μ:Mu)(F:Nat->Prop)(hp:Heap)(N:Nat->Prop)(hp':Heap)(s:SV)(r:Result Next):Prop :=
 ∃w',(∃v,r=.ok (.value v) w'/\Out w μ F hp N hp' v s w')\/(r=.ok .skip w'/\Out w μ F hp N hp' undef s w')
theorem OpOut.value{P:Program}{w:World}{μ:Mu}{F:Nat->Prop}{hp hp':Heap}{N:Nat->Prop}{s:SV}{x:Sem Value}{u:Value}{w':World}(h:x.run P w=.ok u w')(ho:Out w μ F hp N hp' u s w') :
  OpOut P w μ F hp N hp' s ((do pure (.value (<- x)):Sem Next).run P w):=⟨w',.inl ⟨u,by simp only[Sem.run_bind,h,Result.andThen,Sem.run_pure],ho⟩⟩
theorem opOut_still{P:Program}{w:World}{μ:Mu}{F:Nat->Prop}{hp hp':Heap}{N:Nat->Prop}{t:Tr SV}{s:SV}{x:Sem Value}(hl:LH w μ F hp)(he:(still hp t).ev (s,hp'))(h:∀r,t.ev r->∃u,x.run P w=.ok u w/\Rep w μ F u r) :
  OpOut P w μ F hp N hp' s ((do pure (.value (<- x)):Sem Next).run P w):=by
 obtain⟨r,h1,h2⟩:=Tr.ev_bind he
 simp only[Tr.ev,Prod.mk.injEq] at h2
 obtain⟨rfl,rfl⟩:=h2
 obtain⟨u,h3,h4⟩:=h s h1
 exact .value h3 (out_same hl h4)
theorem evalAll_spec{w:World}{μ:Mu}{F:Nat->Prop}{ρ:Operand->Option SV}{σ:Operand->Value}(hρ:∀x s,ρ x=some s->Rep w μ F (σ x) s):∀{xs:List Operand} {ss:List SV},evalAll ρ xs=some ss ->
  xs.length=ss.length/\∀i,i<ss.length->Rep w μ F ((xs.map σ).getD i undef) (ss.getD i uv)
 |[],ss,h=>by simp only[evalAll,Option.some.injEq] at h;subst h;simp
 |x::r,ss,h=>by
  simp only[evalAll] at h
  split at h
  ·rename_i s ss' h1 h2
   simp only[Option.some.injEq] at h;subst h
   obtain⟨h3,h4⟩:=evalAll_spec hρ h2
   refine⟨by simp[h3],fun i hi=>?_⟩
   cases i with
   |zero=>simpa using hρ x s h1
   |succ i=>simpa using h4 i (by simpa using hi)
  ·cases h
theorem evalParts_spec{w:World}{μ:Mu}{F:Nat->Prop}{ρ:Operand->Option SV}{σ:Operand->Value}(hρ:∀x s,ρ x=some s->Rep w μ F (σ x) s):∀{xs:List (Nat×Operand)} {ss:List (Nat×SV)},evalParts ρ xs=some ss ->
  RepsP w μ F (xs.map fun p=>(p.1,σ p.2)) ss
 |[],ss,h=>by simp only[evalParts,Option.some.injEq] at h;subst h;exact .nil
 |(i,x)::r,ss,h=>by
  simp only[evalParts] at h
  split at h
  ·rename_i s ss' h1 h2
   simp only[Option.some.injEq] at h;subst h
   exact .cons i (hρ x s h1) (evalParts_spec hρ h2)
  ·cases h
theorem evalOpt_spec{w:World}{μ:Mu}{F:Nat->Prop}{ρ:Operand->Option SV}{σ:Operand->Value}(hρ:∀x s,ρ x=some s->Rep w μ F (σ x) s){x:Option Operand}{s:Option SV}(h:evalOpt ρ x=some s) :
  (∀v,x.map σ=some v->∃r,s=some r/\Rep w μ F v r)/\(x.map σ=none->s=none):=by
 cases x with
 |none=>simp only[evalOpt,Option.some.injEq] at h;subst h;simp
 |some y =>
  simp only[evalOpt,Option.map_eq_some_iff] at h
  obtain⟨r,h1,rfl⟩:=h
  refine⟨fun v hv=>?_,fun hv=>by simp at hv⟩
  simp only[Option.map_some,Option.some.injEq] at hv;subst hv
  exact⟨r,rfl,hρ y r h1⟩
theorem bind_exact{w:World}{μ:Mu}{F:Nat->Prop}{ρ:Operand->Option SV}{σ:Operand->Value}(hρ:∀x s,ρ x=some s->Rep w μ F (σ x) s){x:Operand}{v:Value}(h:(ρ x).bind exact=some v):σ x=v:=by
 cases h1:ρ x with
 |none=>simp[h1] at h
 |some s=>simp only[h1,Option.bind_some] at h;exact exact_spec h (hρ x s h1)
theorem hasRoom_spec{P:Program}{w:World}{μ:Mu}{F:Nat->Prop}{hp:Heap}{t:TypeId}{x:SV}(hl:LH w μ F hp)(h:hasRoom P hp t x=true) :
  ∀m off,x=.ptr m off->∀n elem esz,P.underlying t=some (.array n elem)->tsz P elem=some esz->∀b o,μ m=some (.pl b o)->o+off+n*esz<=bsz w b:=by
 intro m off hx n elem esz hu hs b o hm
 subst hx
 unfold hasRoom at h
 rw[hu] at h
 simp only[hs] at h
 split at h
 ·rename_i e cs h1 hg
  obtain⟨⟨c,ee,hh,hsz,_⟩,_⟩:=hl.blkAt hg hm
  simp only[Option.some.injEq] at h1;subst h1
  have:=of_decide_eq_true h
  unfold bsz;rw[hh];simp only[];omega
 ·rename_i e k e' cell h1 hg
  obtain⟨⟨c,ee,hh,hsz,_⟩,_⟩:=hl.blkAt hg hm
  simp only[Option.some.injEq] at h1;subst h1
  have:=of_decide_eq_true h
  unfold bsz;rw[hh];simp only[];omega
 ·cases h
theorem absLen_sound{P:Program}{w:World}{μ:Mu}{F:Nat->Prop}{t ty:TypeId}{v:Value}{x r:SV}(hx:Rep w μ F v x)(he:(absLen P t ty x).ev r):∃u,(Builtin.len_ #[t] ty #[v]).run P w=.ok u w/\Rep w μ F u r:=by
 unfold absLen at he
 split at he
 ·rename_i e n hu hn
  simp only[Tr.ev] at he;subst he
  have key:∀b c,v=.slice b n c->(Builtin.len_ #[t] ty #[v]).run P w=.ok (.int .i64 (n:Int)) w:=by
   intro b c hv;subst hv
   unfold Builtin.len_
   simp only[List.getElem?_toArray,List.getElem?_cons_zero,Sem.run_bind,run_underlying hu,Result.andThen,Sem.run_pure]
   rfl
  refine⟨_,?_,.d (.x _)⟩
  unfold lenSV at hn
  split at hn
  ·simp only[Option.some.injEq] at hn;subst hn
   have hd:=rep_d hx
   generalize hdv:DV.ro _ _ _=dv at hd
   cases hd with
   |x=>cases hdv
   |rf=>cases hdv
   |nil=>cases hdv;exact key _ _ rfl
   |z=>cases hdv;exact key _ _ rfl
   |ro=>cases hdv;exact key _ _ rfl
  ·simp only[Option.some.injEq] at hn;subst hn
   cases hx with
   |rnil=>exact key _ _ rfl
   |rz=>exact key _ _ rfl
   |row=>exact key _ _ rfl
  ·cases hn
 ·split at he
  ·rename_i u hu
   rw[exact_spec hu hx]
   exact absPure_sound he
  ·exact he.elim
theorem absOp_sound{P:Program}{w:World}{μ:Mu}{F:Nat->Prop}{hp hp':Heap}{id:Nat}{ρ:Operand->Option SV}{σ:Operand->Value}{o:Oper}{s:SV}(hl:LH w μ F hp)(hid:μ id=none)
  (hρ:∀x s,ρ x=some s->Rep w μ F (σ x) s) (he:(absOp P id hp ρ o).ev (s,hp')):OpOut P w μ F hp (NewId id o) hp' s ((execOp σ o).run P w):=by
 unfold absOp at he
 unfold execOp
 split at he
 all_goals first|(rename_i hop;have hq0:=congrArg quietOp hop;rw[hop];simp only[])|exact he.elim
 ·split at he
  ·rename_i r hr
   simp only[Tr.ev,Prod.mk.injEq] at he;obtain⟨rfl,rfl⟩:=he
   exact⟨w,.inl ⟨_,rfl,out_same hl (hρ _ _ hr)⟩⟩
  ·exact he.elim
 ·split at he
  ·rename_i r hr
   simp only[Tr.ev,Prod.mk.injEq] at he;obtain⟨rfl,rfl⟩:=he
   exact⟨w,.inl ⟨_,rfl,out_same hl (hρ _ _ hr)⟩⟩
  ·exact he.elim
 ·obtain⟨u,w',h1,h2⟩:=absAlloc_sound hl hid he
  exact .value h1 (h2.nar hq0)
 ·split at he
  ·rename_i r hr
   obtain⟨u,w',h1,h2⟩:=absBox_sound hl hid (hρ _ _ hr) he
   exact .value h1 (h2.nar hq0)
  ·exact he.elim
 ·split at he
  ·rename_i ss hss
   refine opOut_still hl he fun r hr=>absBuild_sound ?_ hr
   rw[Array.toList_map];exact evalParts_spec hρ hss
  ·exact he.elim
 ·split at he
  ·rename_i ss hss
   obtain⟨u,w',h1,h2⟩:=absBuildSlice_sound hl hid (by rw[Array.toList_map];exact evalParts_spec hρ hss) he
   exact .value h1 (h2.nar hq0)
  ·exact he.elim
 ·split at he
  ·rename_i p hp0
   exact opOut_still hl he fun r hr=>absLoad_sound hl (hρ _ _ hp0) hr
  ·exact he.elim
 ·split at he
  ·rename_i p s0 hp0 hs0
   obtain⟨h,h1,h2⟩:=Tr.ev_bind he
   simp only[Tr.ev,Prod.mk.injEq] at h2
   obtain⟨rfl,rfl⟩:=h2
   obtain⟨w',h3,h4⟩:=absStore_sound hl (hρ _ _ hp0) (hρ _ _ hs0) h1
   exact⟨w',.inr ⟨by simp only[Sem.run_bind,h3,Result.andThen,Sem.run_pure],μ,F,h4,.d (.x _),fun _ _ h=>h,fun _ _=>rfl⟩⟩
  ·exact he.elim
 ·split at he
  ·rename_i l off hr
   simp only[Tr.ev,Prod.mk.injEq] at he;obtain⟨rfl,rfl⟩:=he
   have:=hρ _ _ hr
   generalize σ _=v at this
   cases this with
   |ptr _ _ b o' hm=>exact⟨w,.inl ⟨_,rfl,out_same hl (.ptr _ _ _ _ hm)⟩⟩
  ·rename_i l b0 n e i j hr
   simp only[Tr.ev,Prod.mk.injEq] at he;obtain⟨rfl,rfl⟩:=he
   have:=hρ _ _ hr
   generalize σ _=v at this
   cases this with
   |pix _ _ _ _ _ _ b o' hm=>exact⟨w,.inl ⟨_,rfl,out_same hl (.pix _ _ _ _ _ _ _ _ hm)⟩⟩
  ·rename_i n c hr
   simp only[Tr.ev,Prod.mk.injEq] at he;obtain⟨rfl,rfl⟩:=he
   have:=hρ _ _ hr
   generalize σ _=v at this
   cases this with
   |rop b o' _ _ f hF h1 h2 h3=>exact⟨w,.inl ⟨_,rfl,out_same hl (.rop _ _ _ _ f hF h1 h2 h3)⟩⟩
  ·rename_i f a b hr
   simp only[Tr.ev,Prod.mk.injEq] at he;obtain⟨rfl,rfl⟩:=he
   have:=hρ _ _ hr
   generalize σ _=v at this
   cases this with
   |fn _ fs cs _ _ h1 h2 h3 h4=>exact⟨w,.inl ⟨_,rfl,out_same hl (.fn _ _ _ _ _ h1 h2 h3 h4)⟩⟩
  ·exact he.elim
 ·split at he
  ·rename_i a b ha hb
   exact opOut_still hl he fun r hr=>absBinI_sound (hρ _ _ ha) (hρ _ _ hb) hr
  ·exact he.elim
 ·split at he
  ·rename_i v hv
   rw[bind_exact hρ hv]
   exact opOut_still hl he fun r hr=>absPure_sound hr
  ·exact he.elim
 ·split at he
  ·rename_i s0 hs0
   obtain⟨u,w',h1,μ',F',h2,h3,h4,h5⟩:=absConv_sound hl (hρ _ _ hs0) he
   exact .value h1 ⟨μ',F',h2,h3,h4,fun l _=>h5 l fun h=>h⟩
  ·exact he.elim
 ·split at he
  ·rename_i a b ha hb
   simp only[Tr.ev,Prod.mk.injEq] at he;obtain⟨rfl,rfl⟩:=he
   obtain⟨h1,h2⟩:=evalAll_spec hρ ha
   obtain⟨h3,h4⟩:=evalAll_spec hρ hb
   refine⟨w,.inl ⟨_,rfl,out_same hl (.fn _ _ _ _ _ (by simpa using h1) (by simpa using h3) (fun i hi=>?_) (fun i hi=>?_))⟩⟩
   ·have:=h2 i hi
    simpa [Array.getD_eq_getD_getElem?,List.getD] using this
   ·have:=h4 i hi
    simpa [Array.getD_eq_getD_getElem?,List.getD] using this
  ·exact he.elim
 ·split at he
  ·rename_i a b ha hb
   obtain⟨u,w',h1,h2⟩:=absMake_sound hl hid (hρ _ _ ha) (hρ _ _ hb) he
   exact .value h1 (h2.nar hq0)
  ·exact he.elim
 ·split at he
  ·rename_i s0 a b hs0 ha hb
   split at he
   ·rename_i hroom
    obtain⟨h1,h2⟩:=evalOpt_spec hρ ha
    obtain⟨h3,h4⟩:=evalOpt_spec hρ hb
    exact opOut_still hl he fun r hr=>absSlice_sound hl h1 h3 h2 h4 (hρ _ _ hs0) (hasRoom_spec hl hroom) hr
   ·exact he.elim
  ·rename_i s0 b m hs0 ha hb
   split at he
   ·rename_i c hc
    obtain⟨h1,h2⟩:=evalOpt_spec hρ ha
    obtain⟨h3,h4⟩:=evalOpt_spec hρ hb
    rename_i lo hi _ _ _ _ _
    have e1:Option.map σ lo=none:=by
     cases h:Option.map σ lo with
     |none=>rfl
     |some v=>obtain⟨r,hr,_⟩:=h1 v h;cases hr
    obtain⟨hv,e2,h5⟩:∃hv,Option.map σ hi=some hv/\Rep w μ F hv b:=by
     cases h:Option.map σ hi with
     |none=>cases h4 h
     |some v=>obtain⟨r,hr,h6⟩:=h3 v h;simp only[Option.some.injEq] at hr;subst hr;exact⟨v,rfl,h6⟩
    rw[e1,e2,Option.map_some]
    exact opOut_still hl he fun r hr=>absSlice3_sound (hρ _ _ hs0) h5 (hρ _ _ hc) hr
   ·exact he.elim
  ·exact he.elim
 ·split at he
  ·rename_i p hp0
   exact opOut_still hl he fun r hr=>absFieldAddr_sound (hρ _ _ hp0) hr
  ·exact he.elim
 ·split at he
  ·rename_i p hp0
   exact opOut_still hl he fun r hr=>absField_sound (hρ _ _ hp0) hr
  ·exact he.elim
 ·split at he
  ·rename_i s0 j hs0 hj
   exact opOut_still hl he fun r hr=>absIndexAddr_sound (hρ _ _ hs0) (hρ _ _ hj) hr
  ·exact he.elim
 ·rename_i t xo io
  split at he
  ·rename_i cs0 hcs0
   split at he
   ·rename_i k n hn
    exact opOut_still hl he fun r hr=>absIndexA_sound (hρ _ _ hcs0) (hρ _ _ hn) hr
   ·exact he.elim
  split at he
  ·rename_i s0 k n hs0 hn
   split at he
   ·rename_i hu
    obtain⟨⟨h0,h1⟩,he⟩:=he
    simp only[Tr.ev,Prod.mk.injEq] at he;obtain⟨rfl,rfl⟩:=he
    have hst:P.underlying t=some .string:=by first|exact hu|(revert hu;split<;>first|(intro _;assumption)|(intro h;cases h))
    have hlt:n.toNat<s0.size:=by omega
    have e1:=bind_exact hρ hs0
    have e2:=rep_x (hρ _ _ hn)
    refine .value (u:=.int .u8 (s0.data.getD n.toNat 0).toNat) ?_ (out_same hl (.d (.x _)))
    rw[e1,e2]
    unfold Instr.index
    simp only[asIntOf,Sem.run_bind,Sem.run_pure,Result.andThen,run_underlying hst,h0,if_true]
    have hlt':n.toNat<s0.data.size:=hlt
    have:s0[n.toNat]?=some (s0.data.getD n.toNat 0):=by
     rw[getElem?_pos s0 n.toNat hlt]
     simp only[Array.getD,hlt',dite_true]
     rfl
    rw[this]
    rfl
   ·exact he.elim
  ·exact he.elim
 ·split at he
  ·rename_i x hx
   obtain⟨h1,h2⟩:=evalOpt_spec hρ hx
   obtain⟨u,w',h3,h4⟩:=absMakeMap_sound hl hid h1 he
   exact .value h3 (h4.nar hq0)
  ·exact he.elim
 ·split at he
  ·rename_i a b ha hb
   exact opOut_still hl he fun r hr=>absLookup_sound hl (hρ _ _ ha) (hρ _ _ hb) hr
  ·exact he.elim
 ·split at he
  ·rename_i a b c ha hb hc
   obtain⟨w',h1,rfl,h2⟩:=absMapUpd_sound hl (hρ _ _ ha) (hρ _ _ hb) (hρ _ _ hc) he
   exact⟨w',.inr ⟨by simp only[Sem.run_bind,h1,Result.andThen,Sem.run_pure],μ,F,h2,.d (.x _),fun _ _ h=>h,fun _ _=>rfl⟩⟩
  ·exact he.elim
 ·split at he
  ·rename_i a b c ha hb hc
   obtain⟨w',h1,rfl,h2⟩:=absMapUpd_sound hl (hρ _ _ ha) (hρ _ _ hb) (hρ _ _ hc) he
   exact⟨w',.inr ⟨by simp only[Sem.run_bind,h1,Result.andThen,Sem.run_pure],μ,F,h2,.d (.x _),fun _ _ h=>h,fun _ _=>rfl⟩⟩
  ·exact he.elim
 ·split at he
  ·rename_i s0 hs0
   obtain⟨u,w',h1,h2⟩:=absRange_sound hl hid (hρ _ _ hs0) he
   exact .value h1 (h2.nar hq0)
  ·exact he.elim
 ·split at he
  ·rename_i s0 hs0
   obtain⟨u,w',h1,h2⟩:=absNext_sound (id:=id) (t:=o.type) hl (hρ _ _ hs0) he
   exact .value h1 (h2.nar hq0)
  ·exact he.elim
 ·split at he
  ·rename_i vs hr
   split at he
   ·rename_i s0 hs0
    simp only[Tr.ev,Prod.mk.injEq] at he;obtain⟨rfl,rfl⟩:=he
    have:=hρ _ _ hr
    generalize σ _=v at this
    cases this with
    |tup cs _ hlen hi =>
     obtain⟨hlt,hget⟩:=List.getElem?_eq_some_iff.1 hs0
     have:=hi _ hlt
     have hlt':‹Nat›<cs.size:=by omega
     refine .value (u:=cs.getD _ undef) ?_ (out_same hl (by simpa [List.getD,hs0] using this))
     unfold Instr.extract
     simp[hlen,hlt,Array.getD,Sem.run_pure]
   ·exact he.elim
  ·exact he.elim
 ·rename_i c
  have hargs:∀l:List Operand,c.args.toList=l->c.args.map σ=(l.map σ).toArray:=by
   intro l hl;rw[<- hl];apply Array.ext';simp
  have htys:∀l:List TypeId,c.argTypes.toList=l->c.argTypes=l.toArray:=by
   intro l hl;rw[<- hl]
  split at he
  ·rename_i x t hcal hx ht
   have hr:∀w,(resolve σ c o.type).run P w=.ok { target:=.builtin .len #[t] o.type (c.args.map fun|.const _=>true|_=>false),args:=#[σ x] } w:=by
    intro w;unfold resolve;rw[hcal];simp only[hargs _ hx,htys _ ht];rfl
   rw[run_andThen_ok (hr w)]
   split at he
   ·rename_i l hr
    exact opOut_still hl he fun r hr2=>absMapLen_sound rfl hl (hρ _ _ hr) hr2
   ·rename_i r _ hr
    exact opOut_still hl he fun r hr2=>absLen_sound (hρ _ _ hr) hr2
   ·exact he.elim
  ·rename_i x y t u hcal hx ht
   have hr:∀w,(resolve σ c o.type).run P w=.ok { target:=.builtin .delete #[t,u] o.type (c.args.map fun|.const _=>true|_=>false),args:=#[σ x,σ y] } w:=by
    intro w;unfold resolve;rw[hcal];simp only[hargs _ hx,htys _ ht];rfl
   rw[run_andThen_ok (hr w)]
   split at he
   ·rename_i a b ha hb
    obtain⟨v,w',h1,h2⟩:=absMapDel_sound (id:=id) (ty:=o.type) (tys:=#[t,u]) rfl hl (hρ _ _ ha) (hρ _ _ hb) he
    exact .value h1 (h2.nar (hq0.trans (by simp only[quietOp,hcal])))
   ·exact he.elim
  ·rename_i x y t u hcal hx ht
   have hr:∀w,(resolve σ c o.type).run P w=.ok { target:=.builtin .copy #[t,u] o.type (c.args.map fun|.const _=>true|_=>false),args:=#[σ x,σ y] } w:=by
    intro w;unfold resolve;rw[hcal];simp only[hargs _ hx,htys _ ht];rfl
   rw[run_andThen_ok (hr w)]
   split at he
   ·rename_i a b ha hb
    obtain⟨v,w',h1,h2⟩:=absCopy_sound (id:=id) (ty:=o.type) (tys:=#[t,u]) rfl hl (hρ _ _ ha) (hρ _ _ hb) he
    exact .value h1 (h2.nar (hq0.trans (by simp only[quietOp,hcal])))
   ·exact he.elim
  ·rename_i x y t u hcal hx ht
   have hr:∀w,(resolve σ c o.type).run P w=.ok { target:=.builtin .append #[t,u] o.type (c.args.map fun|.const _=>true|_=>false),args:=#[σ x,σ y] } w:=by
    intro w;unfold resolve;rw[hcal];simp only[hargs _ hx,htys _ ht];rfl
   rw[run_andThen_ok (hr w)]
   split at he
   ·rename_i r1 r2 hr1 hr2
    obtain⟨v,w',h1,h2⟩:=absAppend_sound (ty:=o.type) hl hid (hρ _ _ hr1) (hρ _ _ hr2) he
    exact .value h1 (h2.nar (hq0.trans (by simp only[quietOp,hcal])))
   ·exact he.elim
  ·rename_i x y hcal hx
   have hr:∀w,(resolve σ c o.type).run P w=.ok { target:=.builtin .max c.argTypes o.type (c.args.map fun|.const _=>true|_=>false),args:=#[σ x,σ y] } w:=by
    intro w;unfold resolve;rw[hcal];simp only[hargs _ hx];rfl
   rw[run_andThen_ok (hr w)]
   split at he
   ·rename_i v1 v2 hv1 hv2
    rw[bind_exact hρ hv1,bind_exact hρ hv2,htys _ rfl]
    exact opOut_still hl he fun r hr2=>absPure_sound hr2
   ·exact he.elim
  ·rename_i x y hcal hx
   have hr:∀w,(resolve σ c o.type).run P w=.ok { target:=.builtin .min c.argTypes o.type (c.args.map fun|.const _=>true|_=>false),args:=#[σ x,σ y] } w:=by
    intro w;unfold resolve;rw[hcal];simp only[hargs _ hx];rfl
   rw[run_andThen_ok (hr w)]
   split at he
   ·rename_i v1 v2 hv1 hv2
    rw[bind_exact hρ hv1,bind_exact hρ hv2,htys _ rfl]
    exact opOut_still hl he fun r hr2=>absPure_sound hr2
   ·exact he.elim
  ·exact he.elim
end
noncomputable section
class Globs where
 tab:Nat->Option (Nat×(Nat->DV))
 one:Nat->Option (Option Obj->Prop)
variable [Globs]
structure GlobOK(w:World)(F:Nat->Prop):Prop where
 tab:∀g n cell,Globs.tab g=some (n,cell)->∃f:Nat->Value,(n≠0->F g)/\(∀j,j<n->w.cell? ⟨g,j,none⟩=some (f j))/\(∀j,j<n->(f j).oneCell'=true)/\∀j,j<n->RepD w F (f j) (cell j)
 one:∀g Q,Globs.one g=some Q->F g/\Q w.heap[g]?
theorem GlobOK.mono{w w':World}{F F':Nat->Prop}(h:GlobOK w F)(he:Ext F w w')(hF:∀b,F b->F' b):GlobOK w' F':=by
 refine⟨fun g n cell hg=>?_,fun g Q hg=>?_⟩
 ·obtain⟨f,h1,h2,h3,h4⟩:=h.tab g n cell hg
  exact⟨f,fun hn=>hF _ (h1 hn),fun j hj=>by rw[he.cell (h1 (by omega))];exact h2 j hj,h3,fun j hj=>(h4 j hj).mono he hF⟩
 ·obtain⟨h1,h2⟩:=h.one g Q hg
  exact⟨hF _ h1,by rw[he.keep g h1];exact h2⟩
theorem GlobOK.rep{w:World}{μ:Mu}{F:Nat->Prop}(h:GlobOK w F){g n:Nat}{cell:Nat->DV}(hg:Globs.tab g=some (n,cell)):Rep w μ F (.pointer (some ⟨g,0,none⟩)) (.rop n cell):=by
 obtain⟨f,h1,h2,h3,h4⟩:=h.tab g n cell hg
 exact .rop g 0 n cell f h1 (fun j hj=>by rw[Nat.zero_add];exact h2 j hj) h3 h4
inductive Hint where
 |nil
 |t (h:Hint)
 |f (h:Hint)
 |u (h:Hint)
 |br (l r:Hint)
 |c (n:Nat) (h:Hint)
 |run
def isRun:Hint->Bool
 |.run=>true
 |_=>false
structure AS where
 tm:List TV
 hp:Heap
 next:Nat
 hint:Hint
def fNat{β:Type}(n:Nat)(k:Nat->β):β:=match n with|0=>k 0|m+1=>k (m+1)
def fV{β:Type}(v:Value)(k:Value->β):β:=match v with|.int kd e=>k (.int kd e)|.bool b=>k (.bool b)|v=>k v
def fDV{β:Type}(d:DV)(k:DV->β):β:=match d with|.x v=>fV v fun v=>k (.x v)|.ro n e c=>k (.ro n e c)|.rf n e c=>k (.rf n e c)
def fSV1{β:Type}(s:SV)(k:SV->β):β:=match s with|.d d=>fDV d fun d=>k (.d d)|.ptr l o=>fNat l fun l=>fNat o fun o=>k (.ptr l o)|.row l b o n e=>fNat l fun l=>k (.row l b o n e)|s=>k s
def fSVs{β:Type}:List SV->(List SV->β)->β
 |[],k=>k []
 |s::r,k=>fSV1 s fun s=>fSVs r fun r=>k (s::r)
def fSV{β:Type}(s:SV)(k:SV->β):β:=match s with|.agg cs=>fSVs cs fun cs=>k (.agg cs)|.tup cs=>fSVs cs fun cs=>k (.tup cs)|s=>fSV1 s k
def fTV{β:Type}(tv:TV)(k:TV->β):β:=match tv with|.ok s=>fSV s fun s=>k (.ok s)|.tag g w s=>fSV s fun s=>k (.tag g w s)|tv=>k tv
def fBlk{β:Type}(b:Option Blk)(k:Option Blk->β):β:=match b with|some (.cells cs)=>fSVs cs fun cs=>k (some (.cells cs))|b=>k b
def fHp{β:Type}:Heap->(Heap->β)->β
 |[],k=>k []
 |b::r,k=>fBlk b fun b=>fHp r fun r=>k (b::r)
def fSp{α β:Type}:List α->(List α->β)->β
 |[],k=>k []
 |b::r,k=>fSp r fun r=>k (b::r)
def fNats{β:Type}:List Nat->(List Nat->β)->β
 |[],k=>k []
 |b::r,k=>fNat b fun b=>fNats r fun r=>k (b::r)
def fDl{β:Type}:Delta->(Delta->β)->β
 |[],k=>k []
 |(l,b)::r,k=>fNat l fun l=>fBlk b fun b=>fDl r fun r=>k ((l,b)::r)
@[simp] theorem fNat_eq{β:Type}(n:Nat)(k:Nat->β):fNat n k=k n:=by cases n<;>rfl
@[simp] theorem fV_eq{β:Type}(v:Value)(k:Value->β):fV v k=k v:=by cases v<;>rfl
@[simp] theorem fDV_eq{β:Type}(v:DV)(k:DV->β):fDV v k=k v:=by cases v<;>simp[fDV]
@[simp] theorem fSV1_eq{β:Type}(v:SV)(k:SV->β):fSV1 v k=k v:=by cases v<;>simp[fSV1]
@[simp] theorem fSVs_eq{β:Type}(l:List SV)(k:List SV->β):fSVs l k=k l:=by
 induction l generalizing k with
 |nil=>rfl
 |cons a r ih=>simp[fSVs,ih]
@[simp] theorem fSV_eq{β:Type}(v:SV)(k:SV->β):fSV v k=k v:=by cases v<;>simp[fSV]
@[simp] theorem fTV_eq{β:Type}(v:TV)(k:TV->β):fTV v k=k v:=by cases v<;>simp[fTV]
@[simp] theorem fBlk_eq{β:Type}(v:Option Blk)(k:Option Blk->β):fBlk v k=k v:=by
 cases v with
 |none=>rfl
 |some b=>cases b<;>simp[fBlk]
@[simp] theorem fHp_eq{β:Type}(l:Heap)(k:Heap->β):fHp l k=k l:=by
 induction l generalizing k with
 |nil=>rfl
 |cons a r ih=>simp[fHp,ih]
@[simp] theorem fSp_eq{α β:Type}(l:List α)(k:List α->β):fSp l k=k l:=by
 induction l generalizing k with
 |nil=>rfl
 |cons a r ih=>simp[fSp,ih]
@[simp] theorem fNats_eq{β:Type}(l:List Nat)(k:List Nat->β):fNats l k=k l:=by
 induction l generalizing k with
 |nil=>rfl
 |cons a r ih=>simp[fNats,ih]
@[simp] theorem fDl_eq{β:Type}(l:Delta)(k:Delta->β):fDl l k=k l:=by
 induction l generalizing k with
 |nil=>rfl
 |cons a r ih=>obtain⟨x,b⟩:=a;simp[fDl,ih]
def tget(tm:List TV):Nat->TV:=List.rec (motive:=fun _=>Nat->TV) (fun _=>.unk) (fun a _ ih n=>Nat.rec (motive:=fun _=>TV) a (fun m _=>ih m) n) tm
theorem tget_def(tm:List TV)(l:Nat):tget tm l=tm.getD l .unk:=by
 induction tm generalizing l with
 |nil=>rfl
 |cons a r ih =>
  cases l with
  |zero=>rfl
  |succ l=>simp only[List.getD_cons_succ,<- ih];rfl
def RepT(w:World)(μ:Mu)(F:Nat->Prop)(tmps:Array Value)(v:Value):TV->Prop
 |.unk=>True
 |.lit b=>v=.bool b
 |.ok s=>Rep w μ F v s
 |.cnd p s=>p->Rep w μ F v s
 |.tag t want s=>(tmps.getD t undef=.bool want->Rep w μ F v s)/\(tmps.getD t undef≠.bool want->v=undef)
def TmOK(w:World)(μ:Mu)(F:Nat->Prop)(tm:List TV)(tmps:Array Value):Prop:=∀t,RepT w μ F tmps (tmps.getD t undef) (tget tm t)
theorem RepT.mono{w w':World}{μ μ':Mu}{F F':Nat->Prop}(he:Ext F w w')(hF:∀b,F b->F' b)(hμ:∀l q,μ l=some q->μ' l=some q){tmps:Array Value}{v:Value}{tv:TV}(h:RepT w μ F tmps v tv):RepT w' μ' F' tmps v tv:=by
 cases tv with
 |unk=>trivial
 |lit b=>exact h
 |ok s=>exact Rep.mono he hF hμ h
 |cnd p s=>exact fun hp=>Rep.mono he hF hμ (h hp)
 |tag t want s=>exact⟨fun ht=>Rep.mono he hF hμ (h.1 ht),h.2⟩
def noTag(tm:List TV)(d:Nat):Bool:=tm.all fun|.tag t _ _=>t != d|_=>true
def noTagR(l:List TV)(d:Nat):Bool:=List.rec (motive:=fun _=>Bool) true (fun a _ ih=>TV.rec (motive:=fun _=>Bool) ih (fun _=>ih) (fun _=>ih) (fun _ _=>ih) (fun t _ _=>Bool.rec (motive:=fun _=>Bool) ih false (Nat.beq t d)) a) l
theorem noTagR_eq(l:List TV)(d:Nat):noTagR l d=noTag l d:=by
 induction l with
 |nil=>rfl
 |cons a r ih =>
  unfold noTag at ih ⊢
  rw[List.all_cons,<- ih]
  cases a with
  |tag t w s =>
   show(Bool.rec (noTagR r d) false (Nat.beq t d):Bool)=(t != d&&noTagR r d)
   have:(t==d)=Nat.beq t d:=by
    cases h:Nat.beq t d with
    |true=>have:=Nat.eq_of_beq_eq_true h;simp[this]
    |false=>have:=Nat.ne_of_beq_eq_false h;simp[this]
   simp only[bne,this]
   cases Nat.beq t d<;>rfl
  |_=>rfl
def setR{β:Type}(l:List TV):Nat->TV->(List TV->β)->β->β :=
 List.rec (motive:=fun _=>Nat->TV->(List TV->β)->β->β) (fun _ _ _ f=>f) (fun a r ih n v k f=>Nat.rec (motive:=fun _=>β) (k (v::r)) (fun m _=>ih m v (fun r'=>k (a::r')) f) n) l
theorem setR_eq{β:Type}(l:List TV)(n:Nat)(v:TV)(k:List TV->β)(f:β):setR l n v k f=if n<l.length then k (l.set n v) else f:=by
 induction l generalizing n k with
 |nil=>simp;rfl
 |cons a r ih =>
  cases n with
  |zero=>simp;rfl
  |succ n =>
   show setR r n v (fun r'=>k (a::r')) f=_
   rw[ih]
   simp
theorem noTag_spec{tm:List TV}{d:Nat}(h:noTag tm d=true){t g:Nat}{w:Bool}{s:SV}(ht:tget tm t=.tag g w s):g≠d:=by
 simp only[tget_def] at ht
 unfold noTag at h
 rw[List.all_eq_true] at h
 by_cases hlt:t<tm.length
 ·have hm:tm.getD t .unk∈tm:=by simp[List.getD,hlt]
  have:=h _ hm
  rw[ht] at this
  simpa using this
 ·simp[List.getD,List.getElem?_eq_none (by omega:tm.length<=t)] at ht
theorem getD_set{tmps:Array Value}{d:Nat}{v:Value}(t:Nat)(hd:d<tmps.size):(tmps.setIfInBounds d v).getD t undef=if t=d then v else tmps.getD t undef:=by
 by_cases h:t=d
 ·subst h;simp[Array.getD,hd]
 ·simp only[h,if_false,Array.getD_eq_getD_getElem?]
  rw[Array.getElem?_setIfInBounds_ne (fun e=>h e.symm)]
theorem tget_set(tm:List TV)(d t:Nat)(tv:TV)(hd:d<tm.length):tget (tm.set d tv) t=if t=d then tv else tget tm t:=by
 simp only[tget_def]
 by_cases h:t=d
 ·subst h;simp[List.getD,hd]
 ·simp only[h,if_false,List.getD,List.getElem?_set_ne (fun e=>h e.symm)]
theorem tmOK_put{w w':World}{μ μ':Mu}{F F':Nat->Prop}{tm:List TV}{tmps:Array Value}{d:Nat}{v:Value}{tv:TV}(h:TmOK w μ F tm tmps)(he:Ext F w w')(hF:∀b,F b->F' b)(hμ:∀l q,μ l=some q->μ' l=some q)
  (hd:d<tmps.size) (hd':d<tm.length) (hn:noTag tm d=true) (hv:RepT w' μ' F' (tmps.setIfInBounds d v) v tv):TmOK w' μ' F' (tm.set d tv) (tmps.setIfInBounds d v):=by
 intro t
 rw[tget_set _ _ _ _ hd',getD_set t hd]
 by_cases htd:t=d
 ·simp only[htd,if_true];exact hv
 ·simp only[htd,if_false]
  have:=(h t).mono he hF hμ
  cases ht:tget tm t with
  |tag g w0 s =>
   rw[ht] at this
   have hg:=noTag_spec hn ht
   simp only[RepT,getD_set g hd,hg,if_false]
   exact this
  |_=>rw[ht] at this;exact this
def tvVal(gt:Option (Nat×Bool)):TV->Option SV
 |.ok s=>some s
 |.lit b=>some (.d (.x (.bool b)))
 |.cnd _ s=>some s
 |.tag g w s=>match gt with
  |some (g',w')=>if g=g'/\w=w' then some s else none
  |none=>none
 |.unk=>none
def tvCnd:TV->List Prop
 |.cnd p _=>[p]
 |_=>[]
def rho(tm:List TV)(gt:Option (Nat×Bool)):Operand->Option SV
 |.tmp t=>tvVal gt (tget tm t)
 |.const v=>some (ofValue v)
 |.func f=>some (.fn (.func f) [] [])
 |.global g=>match Globs.tab g with
  |some (n,cell)=>some (.rop n cell)
  |none=>none
theorem tvVal_sound{w:World}{μ:Mu}{F:Nat->Prop}{tmps:Array Value}{v:Value}{tv:TV}{gt:Option (Nat×Bool)}{s:SV}(h:RepT w μ F tmps v tv)(hg:∀g b,gt=some (g,b)->tmps.getD g undef=.bool b)
  (hc:∀p∈tvCnd tv,p) (he:tvVal gt tv=some s):Rep w μ F v s:=by
 cases tv with
 |unk=>cases he
 |lit b=>cases he;simp only[RepT] at h;rw[h];exact .d (.x _)
 |ok s'=>cases he;exact h
 |cnd p s'=>cases he;exact h (hc p (List.mem_singleton.2 rfl))
 |tag g b s' =>
  simp only[tvVal] at he
  split at he
  ·rename_i g' b'
   split at he
   ·rename_i e
    obtain⟨rfl,rfl⟩:=e
    cases he
    exact h.1 (hg _ _ rfl)
   ·cases he
  ·cases he
def needAll{α:Type}(l:List Prop)(t:Tr α):Tr α:=l.foldr (fun p t=>.need p t) t
theorem needAll_ev{α:Type}{l:List Prop}{t:Tr α}{a:α}(h:(needAll l t).ev a):(∀p∈l,p)/\t.ev a:=by
 induction l with
 |nil=>exact⟨(fun p hp=>by cases hp),h⟩
 |cons q l ih =>
  obtain⟨h1,h2⟩:=h
  obtain⟨h3,h4⟩:=ih h2
  exact⟨fun p hp=>(List.mem_cons.1 hp).elim (fun e=>e▸h1) (h3 p),h4⟩
abbrev Ctr:=List SV->Tr SV
def emp:Mu:=fun _=>none
def CtrOK(P:Program)(k:FuncId)(c:Ctr):Prop :=
 ∀(ss:List SV) (vs:Array Value) (w:World) (F:Nat->Prop) (r:SV),(∀b,F b->b<w.heap.size)->GlobOK w F->Reps w emp F vs ss->(c ss).ev r ->
  Calls P k vs w fun e w'=>∃v,e=.returned v/\Out w emp F [] (fun _=>True) [] v r w'
def noId1:SV->Bool
 |.d _=>true
 |.rop _ _=>true
 |.ifc _ (.d _)=>true
 |.ifc _ (.rop _ _)=>true
 |_=>false
def noId:SV->Bool
 |.agg cs=>cs.all noId1
 |.tup cs=>cs.all fun|.agg ds=>ds.all noId1|s=>noId1 s
 |.fn _ xs ys=>xs.all noId1&&ys.all noId1
 |s=>noId1 s
def isD:SV->Bool
 |.d _=>true
 |_=>false
def dOf:SV->DV
 |.d v=>v
 |_=>.x undef
def preD:List SV->Nat:=List.rec (motive:=fun _=>Nat) 0 fun a _ ih=>match isD a with
 |true=>Nat.succ ih
 |false=>0
theorem preD_le:∀cs:List SV,preD cs<=cs.length
 |[]=>Nat.le_refl _
 |a::r=>by
  have:=preD_le r
  show(match isD a with|true=>Nat.succ (preD r)|false=>0)<=r.length+1
  split
  ·exact Nat.succ_le_succ this
  ·exact Nat.zero_le _
theorem preD_spec:∀(cs:List SV) (j:Nat),j<preD cs->isD (cs.getD j uv)=true
 |[],j,h=>absurd h (Nat.not_lt_zero _)
 |a::r,j,h=>by
  have h:j<(match isD a with|true=>Nat.succ (preD r)|false=>0):=h
  split at h
  ·rename_i ha
   cases j with
   |zero=>exact ha
   |succ j=>exact preD_spec r j (Nat.lt_of_succ_lt_succ h)
  ·exact absurd h (Nat.not_lt_zero _)
def view0(hp:Heap):SV->Option (DV×List Prop×List Nat)
 |.d v=>some (v,[],[])
 |.row l base off len esz=>match absSrc hp (.row l base off len esz) esz with
  |some (n,cell,p)=>some (.ro n esz cell,[p],[l])
  |none=>none
 |_=>none
def deep0(hp:Heap):List SV->Option (List DV×List Prop×List Nat)
 |[]=>some ([],[],[])
 |s::r=>match view0 hp s,deep0 hp r with
  |some (a,p,l),some (as,ps,ls)=>some (a::as,p++ps,l++ls)
  |_,_=>none
def dSrc(hp:Heap)(l base off len esz:Nat):Option (SV×List Prop×List Nat):=match hget hp l with
 |some (.cells cs)=>if base+(off+len)*esz<=cs.length then match deep0 hp ((cs.drop (base+off*esz)).take (len*esz)) with
  |some (ds,ps,ls)=>some (.d (.ro len esz fun i j=>dsAt ds (i*esz+j)),ps,l::ls)
  |none=>none
  else none
 |_=>none
def view0b(hp:Heap)(s:SV):Option (DV×List Prop×List Nat):=match view0 hp s with
 |some r=>some r
 |none=>match s with
  |.row l base off len esz=>(match dSrc hp l base off len esz with
   |some (.d d,ps,ls)=>some (d,ps,ls)
   |_=>none)
  |_=>none
def deep1(hp:Heap):List SV->Option (List DV×List Prop×List Nat)
 |[]=>some ([],[],[])
 |s::r=>match view0b hp s,deep1 hp r with
  |some (a,p,l),some (as,ps,ls)=>some (a::as,p++ps,l++ls)
  |_,_=>none
def dSrc1(hp:Heap)(l base off len esz:Nat):Option (SV×List Prop×List Nat):=match hget hp l with
 |some (.cells cs)=>if base+(off+len)*esz<=cs.length then match deep1 hp ((cs.drop (base+off*esz)).take (len*esz)) with
  |some (ds,ps,ls)=>some (.d (.ro len esz fun i j=>dsAt ds (i*esz+j)),ps,l::ls)
  |none=>none
  else none
 |_=>none
def dSrcs(hp:Heap)(l base off len esz:Nat):Option (SV×List Prop×List Nat):=match dSrc hp l base off len esz with
 |some r=>some r
 |none=>dSrc1 hp l base off len esz
def view1(hp:Heap):SV->Option (SV×List Prop×List Nat)
 |.d v=>some (.d v,[],[])
 |.rop n c=>some (.rop n c,[],[])
 |.row l base off len esz=>match absSrc hp (.row l base off len esz) esz with
  |some (n,cell,p)=>some (.d (.ro n esz cell),[p],[l])
  |none=>dSrcs hp l base off len esz
 |.fn f xs ys=>if xs.all noId=true/\ys.all noId=true then some (.fn f xs ys,[],[]) else none
 |.ptr l off=>match hget hp l with
  |some (.cells cs)=>if off<=cs.length then some (.rop (preD (cs.drop off)) fun j=>dOf (cs.getD (off+j) uv),[],[l]) else none
  |_=>none
 |_=>none
def viewL(hp:Heap):List SV->Option (List SV×List Prop×List Nat)
 |[]=>some ([],[],[])
 |s::r=>match view1 hp s,viewL hp r with
  |some (a,p,l),some (as,ps,ls)=>some (a::as,p++ps,l++ls)
  |_,_=>none
def view(hp:Heap):SV->Option (SV×List Prop×List Nat)
 |.agg cs=>(viewL hp cs).map fun(a,p,l)=>(.agg a,p,l)
 |.fn f xs ys=>match view1 hp (.fn f xs ys) with
  |some r=>some r
  |none=>match viewL hp xs,viewL hp ys with
   |some (a,p,l),some (b,q,m)=>some (.fn f a b,p++q,l++m)
   |_,_=>none
 |s=>view1 hp s
def views(hp:Heap):List SV->Option (List SV×List Prop×List Nat)
 |[]=>some ([],[],[])
 |s::r=>match view hp s,views hp r with
  |some (a,p,l),some (as,ps,ls)=>some (a::as,p++ps,l++ls)
  |_,_=>none
def flat1:SV->Bool
 |.d (.x _)=>true
 |_=>false
def flat:SV->Bool
 |.agg cs=>cs.all flat1
 |.tup cs=>cs.all fun|.agg ds=>ds.all flat1|s=>flat1 s
 |s=>flat1 s
def ctrCall(hp:Heap)(c:Ctr)(args:List SV):Tr SV :=
 match views hp args with
 |none=>.fail
 |some (as,ps,ls)=>needAll ps ((c as).bind fun r=>if noId r&&(ls.isEmpty||flat r) then .ret r else .fail)
end
end Go.Sx
