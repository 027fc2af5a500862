/- Part of a proof of the given statements of this seat (SxVmQ, SxVmR, SxVmS, SxVmT, SxVmU, SxVmV, SxVmW, SxVmX, SxVmY, SxVmZ, SxVnA, SxVnB, SxVnC, SxVnD, SxVnE, SxVnF, SxVnG, SxVnH, SxVnI, SxVnJ, SxVnK, SxVnL, SxVnM, SxVnN, SxVnO, SxVnP, SxVnQ, SxVnR, SxVnS, SxVnT, SxVnU, SxVnV, SxVnW, SxVnX, SxVnY, SxVnZ, SxVoA, SxVoB, SxVoC, SxVoD, SxVoE, SxVpA, SxVpB, SxVpC, SxVpD, SxVpE, SxVpF, SxVpG, SxVpH, SxWaA, SxWb, SxWc, SxWd, SxWe, SxWf, SxWg, SxWh, SxWi): no conditions beyond those typed here. -/
import Derived.Test.YtanlnopgadbpjaaGreatSw04
import Derived.Test.YtanlnopgadbpjaaGreatSw02
import Derived.DeepKeys3
set_option linter.unusedVariables false
set_option linter.unusedSimpArgs false
set_option linter.unusedSectionVars false
set_option linter.constructorNameAsVariable false
set_option maxRecDepth 100000
namespace Go.Proofs.YtanlnopgadbpjaaGreat.Rm
open Go.Sx
noncomputable def _root_.Go.Sx.dgFr(f:Nat->FrT)(i:Nat):List Int:=(List.range i).map fun k=>dgL (fmN (f k))
theorem dgFr_len(f:Nat->FrT)(i:Nat):(dgFr f i).length=i:=by unfold dgFr;simp
theorem dgFr_succ(f:Nat->FrT)(i:Nat):dgFr f (i+1)=dgFr f i++[dgL (fmN (f i))]:=by unfold dgFr;rw[List.range_succ,List.map_append];rfl
theorem sel_appU(L:List Int)(v:Int)(a:Nat)(h:a<L.length+1):selD (decide (a<L.length)) (.x (.int .u64 (L.getD (0+a) 0))) (dsAt [.x (.int .u64 v)] (0+(0+(a-L.length))*1+0))=.x (.int .u64 ((L++[v]).getD a 0)):=by
 rw[Nat.zero_add,show a-L.length=0 by omega]
 rcases Nat.lt_or_ge a L.length with h|h
 ·simp[selD,h,List.getD_eq_getElem?_getD,List.getElem?_append];rfl
 ·obtain rfl:a=L.length:=by omega
  simp[selD,dsAt]
theorem row_appU{L:List Int}{v:Int}{f:Nat->Nat->Sx.DV}(h:∀a,a<L.length+1->f a 0=.x (.int .u64 ((L++[v]).getD a 0))):BlkLe (.row (L.length+1) 1 f) (.row (L++[v]).length 1 (cellU (L++[v]))):=by
 rw[List.length_append]
 refine .row fun i j hi hj=>?_
 obtain rfl:j=0:=by omega
 exact h i hi
theorem rtG_congr{n:Nat}{g h:Nat->Int}(hn:n<=4)(e:∀i,i<n->g i=h i):rtG n g=rtG n h:=by
 have hn':n=0\/n=1\/n=2\/n=3\/n=4:=by omega
 rcases hn' with rfl|rfl|rfl|rfl|rfl
 ·show dgL []=dgL [];rfl
 ·exact e 0 (by omega)
 ·show jnV (g 0) (g 1)=jnV (h 0) (h 1)
  rw[e 0 (by omega),e 1 (by omega)]
 ·show jnV (jnV (g 0) (g 1)) (g 2)=jnV (jnV (h 0) (h 1)) (h 2)
  rw[e 0 (by omega),e 1 (by omega),e 2 (by omega)]
 ·show jnV (jnV (g 0) (g 1)) (jnV (g 2) (g 3))=jnV (jnV (h 0) (h 1)) (jnV (h 2) (h 3))
  rw[e 0 (by omega),e 1 (by omega),e 2 (by omega),e 3 (by omega)]
theorem fmN_len(f:FrT):(fmN f).length=f.n:=by unfold fmN;simp
theorem f2_sat{n:Nat}{f:Nat->FrT}{L:List Int}{i:Nat}(hL:L.length<=4)(hi:i<n)(hn:n<=4)(hw:(f i).n<=1000000000) :
  Sat Tryz.prog (bF1 n f L i) fun r=>r.1=.normal/\Gc 0 r.2 (stF1 n f (L++[dgL (fmN (f i))]).length (cellU (L++[dgL (fmN (f i))])) ((i+1:Nat):Int)):=by
 refine Sat.of_eq (BF1_eq n f L i) ⟨?_⟩
 unfold BF1
 refine⟨fun h1=>⟨by omega,?_⟩,fun h1=>?_⟩
 rotate_left
 ·simp only[decide_eq_false_iff_not] at h1;omega
 refine code_satS CP_ok DP_ok (n:=200) (n0:=4) (nx:=5) (roots:=[(.cell (.base 3) 0,4)]) (keep:=[3,6,9,10,11,16,17,18]) (drop:=[1,2]) (h:=.nil) (c:=codeC (sub [0,0] (bF1 n f L i))) (st:=codeS (sub [0,0] (bF1 n f L i))) (k:=codeK (sub [0,0] (bF1 n f L i))) (body:=bodyF2) (by kernel_rfl) (by kernel_rfl)
  (fun q t=>∃j:Nat,q=(f i).n-j/\j<=(f i).n/\t=stF2 n f L.length (cellU L) i (f i) ((fmN (f i)).take j).length (cellI ((fmN (f i)).take j)) j)
  (fun e t=>e=.exit 2/\∃j,t=stF2 n f L.length (cellU L) i (f i) (fmN (f i)).length (cellI (fmN (f i))) j)
  ⟨_,_,⟨0,rfl,by omega,rfl⟩,?_⟩ ?_ ?_
 ·refine(entA_sound (s':=⟨slF [(3,.row 0 0 0 L.length 1),(6,.ptr 3 0),(9,fmS n f),(10,iv n),(11,iv i),(16,wdS (f (i:Int).toNat)),(17,iv (f (i:Int).toNat).n),(18,iv 0)],[some (.row L.length 1 (cellU L)),none,none,some (.cells [.d (.x (.slice none 0 0))])],4,.nil⟩) (roots:=[]) (keep:=[3,6,9,10,11,16,17,18]) (drop:=[1,2]) (nx:=4) (h:=.nil) (by kernel_rfl)).trans ?_
  rw[Int.toNat_natCast]
  refine gc_sound [] [4] rfl ?_ ?_
  ·simp[stF2,slF,leTm,leTV,leSV,leSVs,rn,iv,leD,List.range,List.range.loop,List.find?,fmS,wdS]
  ·simp[stF2,leHp,leBlk,leSVs,leSV,rn,iv,leD,srcOf,hget]
 ·rintro q t ⟨j,rfl,hj,rfl⟩
  have hl:((fmN (f i)).take j).length=j:=by rw[List.length_take,fmN_len];omega
  refine Sat.of_eq (BF2_eq n f L i (f i) ((fmN (f i)).take j) j) ⟨?_⟩
  unfold BF2
  refine⟨fun h2=>?_,fun h2=>?_⟩
  ·simp only[decide_eq_true_eq] at h2
   rw[Int.toNat_natCast,w64_of (n:=(j:Int)+1) (by omega) (by omega)]
   refine⟨by omega,rowsT_sat (by rw[hl];show j+1<=_;omega) (fun y hy=>?_) ?_⟩
   ·simp only[List.mem_cons,List.not_mem_nil,or_false] at hy
    subst hy;trivial
   ·have e1:(fmN (f i)).take j++itsN [.n [w64 ((f i).w j)]]=(fmN (f i)).take (j+1):=by
     rw[List.take_add_one]
     have:(fmN (f i))[j]?=some (w64 ((f i).w j)):=by
      unfold fmN;rw[List.getElem?_map,List.getElem?_range (by omega)];rfl
     rw[this];rfl
    rw[e1]
    exact⟨(f i).n-(j+1),_,by omega,⟨j+1,rfl,by omega,rfl⟩,Gc.refl _ _⟩
  ·simp only[decide_eq_false_iff_not] at h2
   obtain rfl:j=(f i).n:=by omega
   rw[show(fmN (f i)).take (f i).n=fmN (f i) from List.take_of_length_le (by rw[fmN_len];exact Nat.le_refl _)]
   exact⟨_,⟨rfl,_,rfl⟩,Gc.refl _ _⟩
 ·rintro e t ⟨rfl,j,rfl⟩
  refine Sat.of_eq (KF2_eq n f L i (f i) (fmN (f i)) j) ⟨?_⟩
  unfold KF2
  have eq:cell0 (fmN (f i))=cellI (fmN (f i)):=by funext a b;unfold cell0 cellI;rw[Nat.zero_add]
  rw[eq,dgV_cellI,w64_of (n:=(i:Int)+1) (by omega) (by omega)]
  refine⟨by omega,wdOK_cellI (by rw[fmN_len];exact hw),⟨by omega,by omega,by omega⟩,rfl,?_⟩
  have ei:((i+1:Nat):Int)=(i:Int)+1:=by omega
  rw[ei]
  generalize dgL (fmN (f i))=v
  unfold stF1
  exact gc_hp (by rw[List.length_append,List.length_singleton]) rfl ⟨.inr ⟨_,_,rfl,rfl,row_appU fun a ha=>sel_appU L v a ha⟩,trivial⟩
theorem fr_sat{n:Nat}{f:Nat->FrT}(hn:n<=4)(hw:∀i,i<n->(f i).n<=1000000000):Sat Tryz.prog (tFr n f) (·=u64v (rtG n fun i=>dgL (fmN (f i)))):=by
 refine Sat.of_eq (LFr_eq n f) ⟨?_⟩
 refine code_satS CP_ok DP_ok (n:=200) (n0:=0) (nx:=1) (roots:=[(.slot 3,0)]) (keep:=[3,9,10,11]) (drop:=[]) (h:=.nil) (c:=codeC (sub [] (tFr n f))) (st:=codeS (sub [] (tFr n f))) (k:=codeK (sub [] (tFr n f))) (body:=bodyF1) (by kernel_rfl) (by kernel_rfl)
  (fun q t=>∃i:Nat,q=n-i/\i<=n/\t=stF1 n f (dgFr f i).length (cellU (dgFr f i)) i)
  (fun e t=>e=.exit 0/\∃i,t=stF1 n f (dgFr f n).length (cellU (dgFr f n)) i)
  ⟨_,_,⟨0,rfl,by omega,rfl⟩,?_⟩ ?_ ?_
 ·refine(entA_sound (s':=⟨slF [(3,.d (.x (.slice none 0 0))),(9,fmS n f),(10,iv n),(11,iv 0)],[],0,.nil⟩) (roots:=[]) (keep:=[3,9,10,11]) (drop:=[]) (nx:=0) (h:=.nil) (by kernel_rfl)).trans ?_
  refine gc_sound [] [0] rfl ?_ ?_
  ·simp[stF1,slF,leTm,leTV,leSV,leSVs,rn,iv,leD,List.range,List.range.loop,List.find?,fmS,dgFr]
  ·simp[stF1,leHp,leBlk,leSVs,leSV,rn,iv,leD,srcOf,hget,dgFr]
 ·rintro q t ⟨i,rfl,hi,rfl⟩
  have hl:=dgFr_len f i
  by_cases h1:i<n
  ·have k0:=f2_sat (n:=n) (f:=f) (L:=dgFr f i) (i:=i) (by omega) h1 hn (hw i h1)
   rw[<- dgFr_succ] at k0
   refine⟨Tree.sat_mono (fun r hr=>?_) k0.ok⟩
   obtain⟨ex,st⟩:=r
   obtain⟨h6,h7⟩:=hr
   obtain rfl:ex=.normal:=h6
   exact⟨n-(i+1),_,by omega,⟨i+1,rfl,by omega,rfl⟩,h7⟩
  ·obtain rfl:i=n:=by omega
   refine Sat.of_eq (BF1_eq i f (dgFr f i) i) ⟨?_⟩
   unfold BF1
   refine⟨fun h2=>?_,fun h2=>?_⟩
   ·simp only[decide_eq_true_eq] at h2;omega
   ·exact⟨_,⟨rfl,_,rfl⟩,Gc.refl _ _⟩
 ·rintro e t ⟨rfl,i,rfl⟩
  refine Sat.of_eq (KF1_eq n f (dgFr f n) i) ⟨?_⟩
  unfold KF1
  have hl:=dgFr_len f n
  refine⟨by omega,⟨by omega,fun a ha=>rfl⟩,?_⟩
  show SV.d (.x (.int .u64 _))=u64v _
  unfold u64v
  congr 3
  unfold rtV
  rw[hl]
  refine rtG_congr hn fun a ha=>?_
  unfold KF1_q1 numV
  rw[Nat.zero_add]
  unfold dgFr
  simp[List.getD_eq_getElem?_getD,ha]
end Go.Proofs.YtanlnopgadbpjaaGreat.Rm
namespace Go.Sx
def fmOf(c:Nat->DV):FrT:=⟨lenV (c 0),fun j=>numV (cellV (c 0) j 0)⟩
def _root_.Go.Proofs.FrD(n:Nat)(F:Nat->Nat->DV):Prop:=n<=4/\∀i,i<n->(fmOf (F i)).n<=1000000000/\F i 0=fmC (fmOf (F i)) 0
noncomputable def fmV(n:Nat)(F:Nat->Nat->DV):Int:=rtG n fun i=>dgL (fmN (fmOf (F i)))
structure FsT where
 n:Nat
 f:Nat->FrT
def fsC(x:FsT):Nat->DV
 |0=>.ro x.n 1 fun i j=>fmC (x.f i) j
 |_+1=>.x undef
noncomputable def fsV(x:FsT):Int:=rtG x.n fun i=>dgL (fmN (x.f i))
structure _root_.Go.Proofs.FsOK(x:FsT):Prop where
 n:x.n<=4
 w:∀i,i<x.n->(x.f i).n<=1000000000
end Go.Sx
namespace Go.Proofs.YtanlnopgadbpjaaGreat.Rm
open Go.Sx
noncomputable def cFr:Ctr:=fun ss=>match ss with
 |[.d (.ro n 1 F)]=>.need (FrD n F) (.ret (u64v (fmV n F)))
 |_=>.fail
theorem cFr_ok:CtrOK Tryz.prog 41 cFr:=ctrOK_leS CP_ok DP_ok (by kernel_rfl) (by kernel_rfl) fun ss r h=>by
 unfold cFr at h
 split at h
 ·rename_i n F
  obtain⟨⟨hn,hF⟩,rfl⟩:=h
  refine⟨[fmS n fun i=>fmOf (F i)],200,.nil,?_,fr_sat hn fun i hi=>(hF i hi).1⟩
  unfold fmS
  simp only[leSVs,leSV,leD,and_true,true_and]
  intro i j hi hj
  obtain rfl:j=0:=by omega
  exact(hF i hi).2
 ·exact h.elim
noncomputable def manR:FuncId->Option Ctr:=fun k=>match k with
 |41=>some cFr
 |_=>none
theorem manR_ok(k:Nat)(c:Ctr)(hk:manR k=some c):CtrOK Tryz.prog k c/\goodF Tryz.prog k=true:=by
 unfold manR at hk
 split at hk
 ·cases hk;exact⟨cFr_ok,by kernel_rfl⟩
 ·cases hk
noncomputable def CRr:Ctx:=ctxN Tryz.prog manR (fun k=>k==63) 200 .nil 6
theorem CRr_ok:CtxOK Tryz.prog CRr:=ctxN_ok mixed manR_ok 6
noncomputable def DRr:Dr:=drawnL Tryz.prog CRr
theorem DRr_ok:DrOK Tryz.prog CRr DRr:=drawnL_ok CRr_ok mixed
noncomputable def ssS(m:Nat)(s:Nat->FsT):SV:=.d (.ro m 1 fun i j=>fsC (s i) j)
noncomputable def tEq(n:Nat)(d:Nat->Int)(m:Nat)(s:Nat->FsT):Tree SV:=fnT Tryz.prog CRr DRr 200 (fnOf Tryz.prog 62) (bodyOf Tryz.prog 62) [ruV n d,ssS m s,.fn (.func 63) [] []] .nil
noncomputable def LEq(n:Nat)(d:Nat->Int)(m:Nat)(s:Nat->FsT):Tree SV :=
 .ite ((↑n:Int) != (↑m:Int)) (.ret (bv false)) (.code (codeC (sub [(1:Nat)] (tEq n d m s))) (codeS (sub [(1:Nat)] (tEq n d m s))) (codeK (sub [(1:Nat)] (tEq n d m s))))
theorem LEq_eq(n:Nat)(d:Nat->Int)(m:Nat)(s:Nat->FsT):tEq n d m s=LEq n d m s:=by kernel_rfl
noncomputable def slE(l:List (Nat×SV)):List TV:=(List.range 32).map fun k=>match l.find? (fun e=>Nat.beq e.1 k) with|some e=>.ok e.2|none=>.unk
noncomputable def stE(n:Nat)(d:Nat->Int)(m:Nat)(s:Nat->FsT)(b:Bool)(i:Int):AS:=⟨slE [(1,ssS m s),(2,.fn (.func 63) [] []),(6,bv b),(15,ruV n d),(16,iv n),(17,iv i)],[],0,.nil⟩
noncomputable def bodyEq:Code:=loopN (bodyOf Tryz.prog 62) 0
noncomputable def BEq'(n:Nat)(d:Nat->Int)(m:Nat)(s:Nat->FsT)(b:Bool)(i:Int):Tree (Ex×AS) :=
 .ite (decide (i<(n:Int)))
  (.need (0<=i/\i<(n:Int)) (.need (0<=i/\i<(m:Int)) (.need (FrD (s i.toNat).n fun k j=>fmC ((s i.toNat).f k) j)
   (.ite (!(d i.toNat==fsV (s i.toNat))) (.ret (.ret,stE n d m s false i)) (.ret (.normal,stE n d m s b (w64 (i+1))))))))
  (.ret (.exit 0,stE n d m s b i))
theorem BEq_eq(n:Nat)(d:Nat->Int)(m:Nat)(s:Nat->FsT)(b:Bool)(i:Int):cutT 0 [] [1,2,6,15,16,17] [] 0 .nil (exec Tryz.prog CRr DRr 200 bodyEq (stE n d m s b i))=BEq' n d m s b i:=by kernel_rfl
theorem KEq0_eq(n:Nat)(d:Nat->Int)(m:Nat)(s:Nat->FsT)(b:Bool)(i:Int):codeK (sub [1] (tEq n d m s)) (.exit 0) (stE n d m s b i)=.ret (bv true):=by kernel_rfl
theorem KEq1_eq(n:Nat)(d:Nat->Int)(m:Nat)(s:Nat->FsT)(b:Bool)(i:Int):codeK (sub [1] (tEq n d m s)) .ret (stE n d m s b i)=.ret (bv b):=by kernel_rfl
end Go.Proofs.YtanlnopgadbpjaaGreat.Rm
namespace Go.Sx
noncomputable def eqS(n:Nat)(d:Nat->Int)(m:Nat)(s:Nat->FsT):Bool:=decide (n=m/\∀i,i<n->d i=fsV (s i))
def fsOf(c:Nat->DV):FsT:=⟨lenV (c 0),fun i=>fmOf (cellV (c 0) i)⟩
def _root_.Go.Proofs.SsD(m:Nat)(F:Nat->Nat->DV):Prop:=∀i,i<m->Proofs.FsOK (fsOf (F i))/\F i 0=fsC (fsOf (F i)) 0
noncomputable def eqFs(n:Nat)(D:Nat->Nat->DV)(m:Nat)(F:Nat->Nat->DV):Bool:=eqS n (fun i=>numV (D i 0)) m fun i=>fsOf (F i)
def _root_.Go.Proofs.UrD(n:Nat)(D:Nat->Nat->DV):Prop:=n<=1000000000/\∀i,i<n->D i 0=.x (.int .u64 (numV (D i 0)))
end Go.Sx
namespace Go.Proofs.YtanlnopgadbpjaaGreat.Rm
open Go.Sx
theorem eq_sat{n:Nat}{d:Nat->Int}{m:Nat}{s:Nat->FsT}(hn:n<=1000000000)(hs:∀i,i<m->FsOK (s i)):Sat Tryz.prog (tEq n d m s) (·=bv (eqS n d m s)):=by
 refine Sat.of_eq (LEq_eq n d m s) ⟨?_⟩
 unfold LEq
 refine⟨fun h=>?_,fun h=>?_⟩
 ·rw[bne_iff_ne] at h
  unfold eqS
  rw[decide_eq_false (fun h2=>h (by rw[h2.1]))]
  rfl
 rw[bne_eq_false_iff_eq] at h
 obtain rfl:n=m:=by omega
 refine code_satS CRr_ok DRr_ok (n:=200) (n0:=0) (nx:=0) (roots:=[]) (keep:=[1,2,6,15,16,17]) (drop:=[]) (h:=.nil) (c:=codeC (sub [1] (tEq n d n s))) (st:=codeS (sub [1] (tEq n d n s))) (k:=codeK (sub [1] (tEq n d n s))) (body:=bodyEq) (by kernel_rfl) (by kernel_rfl)
  (fun q t=>∃i:Nat,q=n-i/\i<=n/\(∀k,k<i->d k=fsV (s k))/\t=stE n d n s false i)
  (fun e t=>(e=.exit 0/\eqS n d n s=true/\∃i,t=stE n d n s false i)\/(e=.ret/\eqS n d n s=false/\∃i,t=stE n d n s false i))
  ⟨_,_,⟨0,rfl,by omega,fun k hk=>by omega,rfl⟩,?_⟩ ?_ ?_
 ·exact entA_sound (s':=stE n d n s false 0) (roots:=[]) (keep:=[1,2,6,15,16,17]) (drop:=[]) (nx:=0) (h:=.nil) (by kernel_rfl)
 ·rintro q t ⟨i,rfl,hi,hk,rfl⟩
  refine Sat.of_eq (BEq_eq n d n s false i) ⟨?_⟩
  unfold BEq'
  rw[Int.toNat_natCast]
  refine⟨fun h1=>?_,fun h1=>?_⟩
  ·simp only[decide_eq_true_eq] at h1
   have hlt:i<n:=by omega
   rw[w64_of (n:=(i:Int)+1) (by omega) (by omega)]
   refine⟨by omega,by omega,⟨(hs i hlt).n,fun k hk=>⟨(hs i hlt).w k hk,rfl⟩⟩,fun h2=>?_,fun h2=>?_⟩
   ·rw[Bool.not_eq_true',beq_eq_false_iff_ne] at h2
    refine⟨_,.inr ⟨rfl,?_,_,rfl⟩,Gc.refl _ _⟩
    unfold eqS
    rw[decide_eq_false (fun h3=>h2 (h3.2 i hlt))]
   ·rw[Bool.not_eq_false',beq_iff_eq] at h2
    refine⟨n-(i+1),_,by omega,⟨i+1,rfl,by omega,fun k hk'=>?_,rfl⟩,Gc.refl _ _⟩
    by_cases hki:k=i
    ·subst hki;exact h2
    ·exact hk k (by omega)
  ·simp only[decide_eq_false_iff_not] at h1
   obtain rfl:i=n:=by omega
   refine⟨_,.inl ⟨rfl,?_,_,rfl⟩,Gc.refl _ _⟩
   unfold eqS
   exact decide_eq_true ⟨rfl,hk⟩
 ·rintro e t (⟨rfl,he,i,rfl⟩|⟨rfl,he,i,rfl⟩)
  ·exact Sat.of_eq (KEq0_eq n d n s false i) ⟨by rw[he];rfl⟩
  ·exact Sat.of_eq (KEq1_eq n d n s false i) ⟨by rw[he];rfl⟩
noncomputable def cEq:Ctr:=fun ss=>match ss with
 |[.d (.ro n 1 D),.d (.ro m 1 F),.fn (.func 63) [] []]=>.need (UrD n D/\SsD m F) (.ret (bv (eqFs n D m F)))
 |_=>.fail
theorem cEq_ok:CtrOK Tryz.prog 62 cEq:=ctrOK_leS CRr_ok DRr_ok (by kernel_rfl) (by kernel_rfl) fun ss r h=>by
 unfold cEq at h
 split at h
 ·rename_i n D m F
  obtain⟨⟨⟨hn,hD⟩,hF⟩,rfl⟩:=h
  refine⟨[ruV n fun i=>numV (D i 0),ssS m fun i=>fsOf (F i),.fn (.func 63) [] []],200,.nil,?_,eq_sat hn fun i hi=>(hF i hi).1⟩
  unfold ssS ruV
  simp only[leSVs,leSV,leD,and_true,true_and]
  refine⟨fun i j hi hj=>?_,fun i j hi hj=>?_⟩
  ·obtain rfl:j=0:=by omega
   exact hD i hi
  ·obtain rfl:j=0:=by omega
   exact(hF i hi).2
 ·exact h.elim
end Go.Proofs.YtanlnopgadbpjaaGreat.Rm
namespace Go.Sx
abbrev LL1:=List (List Int)
abbrev LL2:=List LL1
def fmT(ws:List Int):FrT:=⟨ws.length,fun j=>ws.getD j 0⟩
def fsT(fs:LL1):FsT:=⟨fs.length,fun k=>fmT (fs.getD k [])⟩
def rowS1(fs:LL1):Nat->Nat->DV:=fun k j=>fmC (fmT (fs.getD k [])) j
def rowS2(ss:LL2):Nat->Nat->DV:=fun i j=>fsC (fsT (ss.getD i [])) j
end Go.Sx
namespace Go.Proofs.YtanlnopgadbpjaaGreat.Rm
open Go.Sx
noncomputable def rwS(a:Nat)(sh:Nat->Int)(b:Nat)(wd:Nat->Int):SV:=.agg [.d (.ro a 1 fun i _=>.x (.int .u8 (sh i))),.d (.ro b 1 fun i _=>.x (.int .u64 (wd i)))]
noncomputable def tSe(a:Nat)(sh:Nat->Int)(b:Nat)(wd:Nat->Int):Tree SV:=fnT Tryz.prog C00 D00 200 (fnOf Tryz.prog 5) (bodyOf Tryz.prog 5) [rwS a sh b wd] .nil
theorem LSe_eq(a:Nat)(sh:Nat->Int)(b:Nat)(wd:Nat->Int):tSe a sh b wd=atCode (sub [] (tSe a sh b wd)):=by kernel_rfl
noncomputable def slS(l:List (Nat×SV)):List TV:=(List.range 80).map fun k=>match l.find? (fun e=>Nat.beq e.1 k) with|some e=>.ok e.2|none=>.unk
noncomputable def bxS(a:Nat)(sh:Nat->Int)(b:Nat)(wd:Nat->Int):Option Blk:=some (.cells [.d (.ro a 1 fun i _=>.x (.int .u8 (sh i))),.d (.ro b 1 fun i _=>.x (.int .u64 (wd i)))])
noncomputable def stS1(a:Nat)(sh:Nat->Int)(b:Nat)(wd:Nat->Int)(m:Nat)(c:Nat->Nat->Sx.DV)(n i:Int):AS:=⟨slS [(1,.ptr 0 0),(3,.row 2 0 0 m 1),(4,iv n),(5,iv i)],[bxS a sh b wd,none,some (.row m 1 c)],3,.nil⟩
noncomputable def bodyS1:Code:=loopN (bodyOf Tryz.prog 5) 0
noncomputable def bS1(a:Nat)(sh:Nat->Int)(b:Nat)(wd:Nat->Int)(ss:LL2)(n i:Int):Tree (Ex×AS):=cutT 2 [(.slot 3,2)] [1,3,4,5] [1] 3 .nil (exec Tryz.prog C00 D00 200 bodyS1 (stS1 a sh b wd ss.length (rowS2 ss) n i))
noncomputable def BS1(a:Nat)(sh:Nat->Int)(b:Nat)(wd:Nat->Int)(ss:LL2)(n i:Int):Tree (Ex×AS) :=
 .ite (decide (i<(a:Int))&&decide (i<(4:Int))) (atCode (sub [0] (bS1 a sh b wd ss n i))) (.ret (.exit 0,stS1 a sh b wd ss.length (rowS2 ss) n i))
theorem BS1_eq(a:Nat)(sh:Nat->Int)(b:Nat)(wd:Nat->Int)(ss:LL2)(n i:Int):bS1 a sh b wd ss n i=BS1 a sh b wd ss n i:=by kernel_rfl
noncomputable def stS2(a:Nat)(sh:Nat->Int)(b:Nat)(wd:Nat->Int)(ss:LL2)(n i:Int)(m:Nat)(c:Nat->Nat->Sx.DV)(k:Int):AS:=⟨slS [(1,.ptr 0 0),(3,.row 2 0 0 ss.length 1),(4,iv n),(5,iv i),(6,.row 4 0 0 m 1),(7,iv k)],[bxS a sh b wd,none,some (.row ss.length 1 (rowS2 ss)),none,some (.row m 1 c)],5,.nil⟩
noncomputable def bodyS2:Code:=loopN (bodyOf Tryz.prog 5) 1
noncomputable def bS2(a:Nat)(sh:Nat->Int)(b:Nat)(wd:Nat->Int)(ss:LL2)(n i:Int)(fs:LL1)(k:Int):Tree (Ex×AS):=cutT 4 [(.slot 6,4)] [1,3,4,5,6,7] [1,3] 5 .nil (exec Tryz.prog C00 D00 200 bodyS2 (stS2 a sh b wd ss n i fs.length (rowS1 fs) k))
noncomputable def BS2(a:Nat)(sh:Nat->Int)(b:Nat)(wd:Nat->Int)(ss:LL2)(n i:Int)(fs:LL1)(k:Int):Tree (Ex×AS) :=
 .need (0<=i/\i<(a:Int)) (.need ((5:Int)≠0) (.ite (decide (k<w64 (Int.tmod (sh i.toNat) 5))) (atCode (sub [0,0,0] (bS2 a sh b wd ss n i fs k))) (.ret (.exit 2,stS2 a sh b wd ss n i fs.length (rowS1 fs) k))))
theorem BS2_eq(a:Nat)(sh:Nat->Int)(b:Nat)(wd:Nat->Int)(ss:LL2)(n i:Int)(fs:LL1)(k:Int):bS2 a sh b wd ss n i fs k=BS2 a sh b wd ss n i fs k:=by kernel_rfl
noncomputable def stS3(a:Nat)(sh:Nat->Int)(b:Nat)(wd:Nat->Int)(ss:LL2)(n i:Int)(fs:LL1)(k:Int)(m:Nat)(c:Nat->Nat->Sx.DV)(v:Int):AS:=⟨slS [(1,.ptr 0 0),(3,.row 2 0 0 ss.length 1),(4,iv n),(5,iv i),(6,.row 4 0 0 fs.length 1),(7,iv k),(8,.ptr 5 0),(9,iv v)],[bxS a sh b wd,none,some (.row ss.length 1 (rowS2 ss)),none,some (.row fs.length 1 (rowS1 fs)),some (.cells [.row 7 0 0 m 1]),none,some (.row m 1 c)],8,.nil⟩
noncomputable def bodyS3:Code:=loopN (bodyOf Tryz.prog 5) 2
noncomputable def bS3(a:Nat)(sh:Nat->Int)(b:Nat)(wd:Nat->Int)(ss:LL2)(n i:Int)(fs:LL1)(k:Int)(ws:List Int)(v:Int):Tree (Ex×AS):=cutT 7 [(.cell (.base 5) 0,7)] [1,3,4,5,6,7,8,9] [1,3,6] 8 .nil (exec Tryz.prog C00 D00 200 bodyS3 (stS3 a sh b wd ss n i fs k ws.length (cellU ws) v))
noncomputable def _root_.Go.Sx.cntS(s k:Int):Int:=Int.tmod (w64 (IntKind.wrap .u8 (IntKind.wrap .u8 (Int.tdiv s 5)+IntKind.wrap .u8 k))) 5
noncomputable def BS3(a:Nat)(sh:Nat->Int)(b:Nat)(wd:Nat->Int)(ss:LL2)(n i:Int)(fs:LL1)(k:Int)(ws:List Int)(v:Int):Tree (Ex×AS) :=
 .need (0<=i/\i<(a:Int)) (.need ((5:Int)≠0) (.need ((5:Int)≠0) (.ite (decide (v<cntS (sh i.toNat) k))
  (.ite (decide (n<(b:Int)))
   (.need (0<=n/\n<(b:Int)) (.need (0+ws.length<=ws.length/\1<=1/\(ws.length+1)*8<=140737488355328) (.ret (.normal,stS3 a sh b wd ss (w64 (n+1)) i fs k (ws.length+1) (selU ws (wd n.toNat)) (w64 (v+1))))))
   (.need (0+ws.length<=ws.length/\1<=1/\(ws.length+1)*8<=140737488355328) (.ret (.normal,stS3 a sh b wd ss (w64 (n+1)) i fs k (ws.length+1) (selU ws (IntKind.wrap .u64 n)) (w64 (v+1))))))
  (.ret (.exit 4,stS3 a sh b wd ss n i fs k ws.length (cellU ws) v)))))
theorem BS3_eq(a:Nat)(sh:Nat->Int)(b:Nat)(wd:Nat->Int)(ss:LL2)(n i:Int)(fs:LL1)(k:Int)(ws:List Int)(v:Int):bS3 a sh b wd ss n i fs k ws v=BS3 a sh b wd ss n i fs k ws v:=by kernel_rfl
noncomputable def selF(fs:LL1)(ws:List Int)(p q:Nat):Sx.DV:=selD (decide (p<fs.length)) (rowS1 fs (0+p) q) (dsAt [.ro ws.length 1 fun i j=>cellU ws (0+i) j] (0+(0+(p-fs.length))*1+q))
theorem KS3_eq(a:Nat)(sh:Nat->Int)(b:Nat)(wd:Nat->Int)(ss:LL2)(n0 n i:Int)(fs:LL1)(k:Int)(ws:List Int)(v:Int):codeK (sub [0,0,0] (bS2 a sh b wd ss n0 i fs k)) (.exit 4) (stS3 a sh b wd ss n i fs k ws.length (cellU ws) v) =
 .need (0+ws.length<=ws.length) (.need (0+fs.length<=fs.length/\1<=1/\(fs.length+1)*24<=140737488355328) (.ret (.normal,stS2 a sh b wd ss n i (fs.length+1) (selF fs ws) (w64 (k+1))))):=by kernel_rfl
noncomputable def selG(ss:LL2)(fs:LL1)(p q:Nat):Sx.DV:=selD (decide (p<ss.length)) (rowS2 ss (0+p) q) (dsAt [.ro fs.length 1 fun i j=>rowS1 fs (0+i) j] (0+(0+(p-ss.length))*1+q))
theorem KS2_eq(a:Nat)(sh:Nat->Int)(b:Nat)(wd:Nat->Int)(ss:LL2)(n0 n i:Int)(fs:LL1)(k:Int):codeK (sub [0] (bS1 a sh b wd ss n0 i)) (.exit 2) (stS2 a sh b wd ss n i fs.length (rowS1 fs) k) =
 .need (0+fs.length<=fs.length) (.need (0+ss.length<=ss.length/\1<=1/\(ss.length+1)*24<=140737488355328) (.ret (.normal,stS1 a sh b wd (ss.length+1) (selG ss fs) n (w64 (i+1))))):=by kernel_rfl
theorem KS1_eq(a:Nat)(sh:Nat->Int)(b:Nat)(wd:Nat->Int)(ss:LL2)(n i:Int):codeK (sub [] (tSe a sh b wd)) (.exit 0) (stS1 a sh b wd ss.length (rowS2 ss) n i) =
 .need (0+ss.length<=ss.length) (.ret (.d (.ro ss.length 1 fun i j=>rowS2 ss (0+i) j))):=by kernel_rfl
end Go.Proofs.YtanlnopgadbpjaaGreat.Rm
namespace Go.Sx
def wG(b:Nat)(wd:Nat->Int)(n:Nat):Int:=if n<b then wd n else(n:Int)
def wsG(b:Nat)(wd:Nat->Int)(n c:Nat):List Int:=(List.range c).map fun j=>wG b wd (n+j)
noncomputable def cnS(s:Int)(k:Nat):Nat:=(cntS s k).toNat
noncomputable def fsG(b:Nat)(wd:Nat->Int)(s:Int)(n:Nat):Nat->LL1×Nat
 |0=>([],n)
 |k+1=>((fsG b wd s n k).1++[wsG b wd (fsG b wd s n k).2 (cnS s k)],(fsG b wd s n k).2+cnS s k)
noncomputable def nfS(s:Int):Nat:=(s%5).toNat
noncomputable def ssG(b:Nat)(wd:Nat->Int)(sh:Nat->Int):Nat->LL2×Nat
 |0=>([],0)
 |i+1=>((ssG b wd sh i).1++[(fsG b wd (sh i) (ssG b wd sh i).2 (nfS (sh i))).1],(fsG b wd (sh i) (ssG b wd sh i).2 (nfS (sh i))).2)
theorem wsG_len(b:Nat)(wd:Nat->Int)(n c:Nat):(wsG b wd n c).length=c:=by unfold wsG;simp
theorem wsG_succ(b:Nat)(wd:Nat->Int)(n c:Nat):wsG b wd n (c+1)=wsG b wd n c++[wG b wd (n+c)]:=by unfold wsG;rw[List.range_succ,List.map_append];rfl
theorem fsG_len(b:Nat)(wd:Nat->Int)(s:Int)(n:Nat):∀k,(fsG b wd s n k).1.length=k
 |0=>rfl
 |k+1=>by unfold fsG;rw[List.length_append,fsG_len b wd s n k];rfl
theorem ssG_len(b:Nat)(wd:Nat->Int)(sh:Nat->Int):∀k,(ssG b wd sh k).1.length=k
 |0=>rfl
 |k+1=>by unfold ssG;rw[List.length_append,ssG_len b wd sh k];rfl
theorem cntS_ok(s:Int)(k:Nat):0<=cntS s k/\cntS s k<=4:=by
 unfold cntS
 have h:∀x:Int,IntKind.wrap .u8 x=x%256:=fun x=>by unfold IntKind.wrap;rfl
 rw[h]
 generalize hy:(IntKind.wrap .u8 (Int.tdiv s 5)+IntKind.wrap .u8 k)%256=y
 have h1:0<=y/\y<256:=by rw[<- hy];omega
 have h2:w64 y=y:=by
  unfold w64 IntKind.wrap
  simp[IntKind.signed,IntKind.bits]
  omega
 rw[h2,Int.tmod_eq_emod_of_nonneg h1.1]
 omega
theorem cnS_le(s:Int)(k:Nat):cnS s k<=4:=by unfold cnS;have:=cntS_ok s k;omega
theorem nfS_le(s:Int):nfS s<=4:=by unfold nfS;omega
theorem fsG_nx(b:Nat)(wd:Nat->Int)(s:Int)(n:Nat):∀k,(fsG b wd s n k).2<=n+4*k
 |0=>by show n<=_;omega
 |k+1=>by
  show(fsG b wd s n k).2+cnS s k<=_
  have:=fsG_nx b wd s n k
  have:=cnS_le s k
  omega
theorem ssG_nx(b:Nat)(wd:Nat->Int)(sh:Nat->Int):∀k,(ssG b wd sh k).2<=16*k
 |0=>by show 0<=_;omega
 |k+1=>by
  show(fsG b wd (sh k) (ssG b wd sh k).2 (nfS (sh k))).2<=_
  have h1:=ssG_nx b wd sh k
  have h2:=fsG_nx b wd (sh k) (ssG b wd sh k).2 (nfS (sh k))
  have h3:=nfS_le (sh k)
  omega
end Go.Sx
namespace Go.Proofs.YtanlnopgadbpjaaGreat.Rm
open Go.Sx
theorem selF_eq(fs:LL1)(ws:List Int)(p q:Nat)(hp:p<fs.length+1)(hq:q<1):selF fs ws p q=rowS1 (fs++[ws]) p q:=by
 obtain rfl:q=0:=by omega
 unfold selF
 rw[selD_eq,Nat.zero_add,show 0+(0+(p-fs.length))*1+0=0 by omega]
 by_cases h:p<fs.length
 ·rw[decide_eq_true h]
  unfold rowS1
  rw[show(fs++[ws]).getD p []=fs.getD p [] by rw[List.getD_eq_getElem?_getD,List.getElem?_append_left h,<- List.getD_eq_getElem?_getD]]
  rfl
 ·obtain rfl:p=fs.length:=by omega
  rw[decide_eq_false (by omega)]
  unfold rowS1
  rw[show(fs++[ws]).getD fs.length []=ws by rw[List.getD_eq_getElem?_getD,List.getElem?_append_right (Nat.le_refl _),Nat.sub_self];rfl]
  show DV.ro ws.length 1 (fun i j=>cellU ws (0+i) j)=DV.ro ws.length 1 fun j _=>.x (.int .u64 (ws.getD j 0))
  congr 1
  funext i j
  unfold cellU
  rw[Nat.zero_add]
theorem selG_eq(ss:LL2)(fs:LL1)(p q:Nat)(hp:p<ss.length+1)(hq:q<1):selG ss fs p q=rowS2 (ss++[fs]) p q:=by
 obtain rfl:q=0:=by omega
 unfold selG
 rw[selD_eq,Nat.zero_add,show 0+(0+(p-ss.length))*1+0=0 by omega]
 by_cases h:p<ss.length
 ·rw[decide_eq_true h]
  unfold rowS2
  rw[show(ss++[fs]).getD p []=ss.getD p [] by rw[List.getD_eq_getElem?_getD,List.getElem?_append_left h,<- List.getD_eq_getElem?_getD]]
  rfl
 ·obtain rfl:p=ss.length:=by omega
  rw[decide_eq_false (by omega)]
  unfold rowS2
  rw[show(ss++[fs]).getD ss.length []=fs by rw[List.getD_eq_getElem?_getD,List.getElem?_append_right (Nat.le_refl _),Nat.sub_self];rfl]
  show DV.ro fs.length 1 (fun i j=>rowS1 fs (0+i) j)=DV.ro fs.length 1 fun i j=>fmC ((fsT fs).f i) j
  congr 1
  funext i j
  rw[Nat.zero_add]
  rfl
section
variable {a : Nat} {sh : Nat → Int} {b : Nat} {wd : Nat → Int} {ss : LL2} {n i k : Nat} {fs : LL1}
theorem s3_sat(hi:i<a)(hk:k<nfS (sh i))(hs:0<=sh i)(hn:n<=1000)(hf:fs.length<=4) :
  Sat Tryz.prog (bS2 a sh b wd ss n i fs k) fun r=>r.1=.normal/\Gc 4 r.2 (stS2 a sh b wd ss ((n+cnS (sh i) k:Nat):Int) i (fs++[wsG b wd n (cnS (sh i) k)]).length (rowS1 (fs++[wsG b wd n (cnS (sh i) k)])) ((k+1:Nat):Int)):=by
 have hc:=cntS_ok (sh i) k
 have hcn:cntS (sh i) k=(cnS (sh i) k:Int):=by unfold cnS;omega
 have hc4:=cnS_le (sh i) k
 have hk4:=nfS_le (sh i)
 refine Sat.of_eq (BS2_eq a sh b wd ss n i fs k) ⟨?_⟩
 unfold BS2
 rw[Int.toNat_natCast]
 refine⟨by omega,by omega,fun h1=>?_,fun h1=>?_⟩
 rotate_left
 ·simp only[decide_eq_false_iff_not] at h1
  rw[Int.tmod_eq_emod_of_nonneg hs,w64_of (by omega) (by omega)] at h1
  unfold nfS at hk;omega
 refine code_satS C00_ok D00_ok (n:=200) (n0:=7) (nx:=8) (roots:=[(.cell (.base 5) 0,7)]) (keep:=[1,3,4,5,6,7,8,9]) (drop:=[1,3,6]) (h:=.nil) (c:=codeC (sub [0,0,0] (bS2 a sh b wd ss n i fs k))) (st:=codeS (sub [0,0,0] (bS2 a sh b wd ss n i fs k))) (k:=codeK (sub [0,0,0] (bS2 a sh b wd ss n i fs k))) (body:=bodyS3) (by kernel_rfl) (by kernel_rfl)
  (fun q t=>∃v:Nat,q=cnS (sh i) k-v/\v<=cnS (sh i) k/\t=stS3 a sh b wd ss ((n+v:Nat):Int) i fs k (wsG b wd n v).length (cellU (wsG b wd n v)) v)
  (fun e t=>e=.exit 4/\∃v,t=stS3 a sh b wd ss ((n+cnS (sh i) k:Nat):Int) i fs k (wsG b wd n (cnS (sh i) k)).length (cellU (wsG b wd n (cnS (sh i) k))) v)
  ⟨_,_,⟨0,rfl,by omega,rfl⟩,?_⟩ ?_ ?_
 ·refine(entA_sound (s':=⟨slS [(1,.ptr 0 0),(3,.row 2 0 0 ss.length 1),(4,iv n),(5,iv i),(6,.row 4 0 0 fs.length 1),(7,iv k),(8,.ptr 5 0),(9,iv 0)],[bxS a sh b wd,none,some (.row ss.length 1 (rowS2 ss)),none,some (.row fs.length 1 (rowS1 fs)),some (.cells [.d (.x (.slice none 0 0))]),none],7,.nil⟩) (roots:=[]) (keep:=[1,3,4,5,6,7,8,9]) (drop:=[1,3,6]) (nx:=7) (h:=.nil) (by kernel_rfl)).trans ?_
  refine gc_sound [] [7] rfl ?_ ?_
  ·simp[stS3,slS,leTm,leTV,leSV,leSVs,rn,iv,leD,List.range,List.range.loop,List.find?]
  ·simp[stS3,bxS,leHp,leBlk,leSVs,leSV,rn,iv,leD,srcOf,hget,wsG]
 ·rintro q t ⟨v,rfl,hv,rfl⟩
  have hl:=wsG_len b wd n v
  refine Sat.of_eq (BS3_eq a sh b wd ss ((n+v:Nat):Int) i fs k (wsG b wd n v) v) ⟨?_⟩
  unfold BS3
  rw[Int.toNat_natCast,hcn]
  refine⟨by omega,by omega,by omega,fun h2=>?_,fun h2=>?_⟩
  ·simp only[decide_eq_true_eq] at h2
   rw[w64_of (n:=((n+v:Nat):Int)+1) (by omega) (by omega),w64_of (n:=(v:Int)+1) (by omega) (by omega)]
   have e1:((n+(v+1):Nat):Int)=((n+v:Nat):Int)+1:=by omega
   have e2:((v+1:Nat):Int)=(v:Int)+1:=by omega
   have go:∀w:Int,w=wG b wd (n+v)->Gc 7 (stS3 a sh b wd ss (((n+v:Nat):Int)+1) i fs k ((wsG b wd n v).length+1) (selU (wsG b wd n v) w) ((v:Int)+1)) (stS3 a sh b wd ss ((n+(v+1):Nat):Int) i fs k (wsG b wd n (v+1)).length (cellU (wsG b wd n (v+1))) ((v+1:Nat):Int)):=fun w hw=>by
    rw[e1,e2,wsG_succ,<- hw]
    generalize wsG b wd n v=M
    unfold stS3
    exact gc_hp rfl rfl ⟨.inr ⟨_,_,rfl,rfl,.refl _⟩,.inl rfl,.inr ⟨_,_,rfl,rfl,.refl _⟩,.inl rfl,.inr ⟨_,_,rfl,rfl,.refl _⟩,.inr ⟨_,_,rfl,by rw[List.length_append,List.length_singleton],.refl _⟩,.inl rfl,.inr ⟨_,_,rfl,rfl,row_appU fun x hx=>sel_appU M w x hx⟩,trivial⟩
   refine⟨fun h3=>?_,fun h3=>?_⟩
   ·simp only[decide_eq_true_eq] at h3
    refine⟨by omega,⟨by omega,by omega,by omega⟩,cnS (sh i) k-(v+1),_,by omega,⟨v+1,rfl,by omega,rfl⟩,go _ ?_⟩
    unfold wG
    rw[Int.toNat_natCast,if_pos (by omega)]
   ·simp only[decide_eq_false_iff_not] at h3
    refine⟨⟨by omega,by omega,by omega⟩,cnS (sh i) k-(v+1),_,by omega,⟨v+1,rfl,by omega,rfl⟩,go _ ?_⟩
    unfold wG
    rw[if_neg (by omega)]
    have:∀x:Int,IntKind.wrap .u64 x=x%18446744073709551616:=fun x=>by unfold IntKind.wrap;rfl
    rw[this];omega
  ·simp only[decide_eq_false_iff_not] at h2
   obtain rfl:v=cnS (sh i) k:=by omega
   exact⟨_,⟨rfl,_,rfl⟩,Gc.refl _ _⟩
 ·rintro e t ⟨rfl,v,rfl⟩
  have hl:=wsG_len b wd n (cnS (sh i) k)
  refine Sat.of_eq (KS3_eq a sh b wd ss n _ i fs k _ v) ⟨?_⟩
  rw[w64_of (n:=(k:Int)+1) (by omega) (by omega)]
  refine⟨by omega,⟨by omega,by omega,by omega⟩,rfl,?_⟩
  have e2:((k+1:Nat):Int)=(k:Int)+1:=by omega
  rw[e2]
  generalize wsG b wd n (cnS (sh i) k)=M
  unfold stS2
  exact gc_hp (by rw[List.length_append,List.length_singleton]) rfl ⟨.inr ⟨_,_,rfl,rfl,.refl _⟩,.inl rfl,.inr ⟨_,_,rfl,rfl,.refl _⟩,.inl rfl,.inr ⟨_,_,rfl,by rw[List.length_append];rfl,.row fun x y hx hy=>selF_eq fs M x y hx hy⟩,trivial⟩
theorem s2_sat(hi:i<a)(hi4:i<4)(hs:0<=sh i)(hn:n<=500)(hl:ss.length<=4) :
  Sat Tryz.prog (bS1 a sh b wd ss n i) fun r=>r.1=.normal/\Gc 2 r.2 (stS1 a sh b wd (ss++[(fsG b wd (sh i) n (nfS (sh i))).1]).length (rowS2 (ss++[(fsG b wd (sh i) n (nfS (sh i))).1])) ((fsG b wd (sh i) n (nfS (sh i))).2:Nat) ((i+1:Nat):Int)):=by
 have hk4:=nfS_le (sh i)
 refine Sat.of_eq (BS1_eq a sh b wd ss n i) ⟨?_⟩
 unfold BS1
 refine⟨fun h1=>?_,fun h1=>?_⟩
 rotate_left
 ·simp only[Bool.and_eq_false_iff,decide_eq_false_iff_not] at h1;omega
 refine code_satS C00_ok D00_ok (n:=200) (n0:=4) (nx:=5) (roots:=[(.slot 6,4)]) (keep:=[1,3,4,5,6,7]) (drop:=[1,3]) (h:=.nil) (c:=codeC (sub [0] (bS1 a sh b wd ss n i))) (st:=codeS (sub [0] (bS1 a sh b wd ss n i))) (k:=codeK (sub [0] (bS1 a sh b wd ss n i))) (body:=bodyS2) (by kernel_rfl) (by kernel_rfl)
  (fun q t=>∃k:Nat,q=nfS (sh i)-k/\k<=nfS (sh i)/\t=stS2 a sh b wd ss ((fsG b wd (sh i) n k).2:Nat) i (fsG b wd (sh i) n k).1.length (rowS1 (fsG b wd (sh i) n k).1) k)
  (fun e t=>e=.exit 2/\∃k:Int,t=stS2 a sh b wd ss ((fsG b wd (sh i) n (nfS (sh i))).2:Nat) i (fsG b wd (sh i) n (nfS (sh i))).1.length (rowS1 (fsG b wd (sh i) n (nfS (sh i))).1) k)
  ⟨_,_,⟨0,rfl,by omega,rfl⟩,?_⟩ ?_ ?_
 ·refine(entA_sound (s':=⟨slS [(1,.ptr 0 0),(3,.row 2 0 0 ss.length 1),(4,iv n),(5,iv i),(6,.row 4 0 0 0 1),(7,iv 0)],[bxS a sh b wd,none,some (.row ss.length 1 (rowS2 ss)),none,some (.cells [])],5,.nil⟩) (roots:=[(.slot 6,4)]) (keep:=[1,3,4,5,6,7]) (drop:=[1]) (nx:=5) (h:=.nil) (by kernel_rfl)).trans ?_
  refine gc_hp rfl rfl ⟨.inr ⟨_,_,rfl,rfl,.refl _⟩,.inl rfl,.inr ⟨_,_,rfl,rfl,.refl _⟩,.inl rfl,.inr ⟨_,_,rfl,rfl,.cells rfl fun x y hx hy=>absurd hx (Nat.not_lt_zero _)⟩,trivial⟩
 ·rintro q t ⟨k,rfl,hk,rfl⟩
  have h5:=fsG_len b wd (sh i) n k
  have h6:=fsG_nx b wd (sh i) n k
  by_cases hlt:k<nfS (sh i)
  ·have k0:=s3_sat (b:=b) (wd:=wd) (ss:=ss) (n:=(fsG b wd (sh i) n k).2) (fs:=(fsG b wd (sh i) n k).1) hi hlt hs (by omega) (by omega)
   refine⟨Tree.sat_mono (fun r hr=>?_) k0.ok⟩
   obtain⟨ex,st⟩:=r
   obtain⟨e6,e7⟩:=hr
   obtain rfl:ex=.normal:=e6
   exact⟨nfS (sh i)-(k+1),_,by omega,⟨k+1,rfl,by omega,rfl⟩,e7⟩
  ·obtain rfl:k=nfS (sh i):=by omega
   refine Sat.of_eq (BS2_eq a sh b wd ss _ i _ _) ⟨?_⟩
   unfold BS2
   rw[Int.toNat_natCast]
   refine⟨by omega,by omega,fun h2=>?_,fun h2=>?_⟩
   ·simp only[decide_eq_true_eq] at h2
    rw[Int.tmod_eq_emod_of_nonneg hs,w64_of (by omega) (by omega)] at h2
    unfold nfS at h2;omega
   ·exact⟨_,⟨rfl,_,rfl⟩,Gc.refl _ _⟩
 ·rintro e t ⟨rfl,k,rfl⟩
  have h5:=fsG_len b wd (sh i) n (nfS (sh i))
  refine Sat.of_eq (KS2_eq a sh b wd ss n _ i _ k) ⟨?_⟩
  rw[w64_of (n:=(i:Int)+1) (by omega) (by omega)]
  refine⟨by omega,⟨by omega,by omega,by omega⟩,rfl,?_⟩
  have e2:((i+1:Nat):Int)=(i:Int)+1:=by omega
  rw[e2]
  generalize (fsG b wd (sh i) n (nfS (sh i))).1=M
  unfold stS1
  exact gc_hp (by rw[List.length_append,List.length_singleton]) rfl ⟨.inr ⟨_,_,rfl,rfl,.refl _⟩,.inl rfl,.inr ⟨_,_,rfl,by rw[List.length_append];rfl,.row fun x y hx hy=>selG_eq ss M x y hx hy⟩,trivial⟩
end
noncomputable def _root_.Go.Sx.seV(a:Nat)(sh:Nat->Int)(b:Nat)(wd:Nat->Int):LL2:=(ssG b wd sh (min a 4)).1
theorem se_sat{a:Nat}{sh:Nat->Int}{b:Nat}{wd:Nat->Int}(hs:∀i,i<a->0<=sh i):Sat Tryz.prog (tSe a sh b wd) (·=.d (.ro (seV a sh b wd).length 1 (rowS2 (seV a sh b wd)))):=by
 refine Sat.of_eq (LSe_eq a sh b wd) ⟨?_⟩
 refine code_satS C00_ok D00_ok (n:=200) (n0:=2) (nx:=3) (roots:=[(.slot 3,2)]) (keep:=[1,3,4,5]) (drop:=[1]) (h:=.nil) (c:=codeC (sub [] (tSe a sh b wd))) (st:=codeS (sub [] (tSe a sh b wd))) (k:=codeK (sub [] (tSe a sh b wd))) (body:=bodyS1) (by kernel_rfl) (by kernel_rfl)
  (fun q t=>∃i:Nat,q=min a 4-i/\i<=min a 4/\t=stS1 a sh b wd (ssG b wd sh i).1.length (rowS2 (ssG b wd sh i).1) ((ssG b wd sh i).2:Nat) i)
  (fun e t=>e=.exit 0/\∃n i:Int,t=stS1 a sh b wd (seV a sh b wd).length (rowS2 (seV a sh b wd)) n i)
  ⟨_,_,⟨0,rfl,by omega,rfl⟩,?_⟩ ?_ ?_
 ·refine(entA_sound (s':=⟨slS [(1,.ptr 0 0),(3,.row 2 0 0 0 1),(4,iv 0),(5,iv 0)],[bxS a sh b wd,none,some (.cells [])],3,.nil⟩) (roots:=[(.slot 3,2)]) (keep:=[1,3,4,5]) (drop:=[]) (nx:=3) (h:=.nil) (by kernel_rfl)).trans ?_
  refine gc_hp rfl rfl ⟨.inr ⟨_,_,rfl,rfl,.refl _⟩,.inl rfl,.inr ⟨_,_,rfl,rfl,.cells rfl fun x y hx hy=>absurd hx (Nat.not_lt_zero _)⟩,trivial⟩
 ·rintro q t ⟨i,rfl,hi,rfl⟩
  have h5:=ssG_len b wd sh i
  have h6:=ssG_nx b wd sh i
  by_cases hlt:i<min a 4
  ·have k0:=s2_sat (a:=a) (sh:=sh) (b:=b) (wd:=wd) (ss:=(ssG b wd sh i).1) (n:=(ssG b wd sh i).2) (i:=i) (by omega) (by omega) (hs i (by omega)) (by omega) (by omega)
   have hn:ssG b wd sh (i+1)=((ssG b wd sh i).1++[(fsG b wd (sh i) (ssG b wd sh i).2 (nfS (sh i))).1],(fsG b wd (sh i) (ssG b wd sh i).2 (nfS (sh i))).2):=rfl
   show Sat Tryz.prog (bS1 a sh b wd (ssG b wd sh i).1 ((ssG b wd sh i).2:Nat) (i:Nat)) _
   have k1:=k0.ok
   refine⟨?_⟩
   generalize bS1 a sh b wd (ssG b wd sh i).1 ((ssG b wd sh i).2:Nat) (i:Nat)=T at k1 ⊢
   refine Tree.sat_mono (fun r hr=>?_) k1
   obtain⟨ex,st⟩:=r
   obtain⟨e6,e7⟩:=hr
   obtain rfl:ex=.normal:=e6
   refine⟨min a 4-(i+1),_,by omega,⟨i+1,rfl,by omega,rfl⟩,?_⟩
   rw[hn]
   exact e7
  ·obtain rfl:i=min a 4:=by omega
   refine Sat.of_eq (BS1_eq a sh b wd _ _ _) ⟨?_⟩
   unfold BS1
   refine⟨fun h2=>?_,fun h2=>?_⟩
   ·simp only[Bool.and_eq_true,decide_eq_true_eq] at h2;omega
   ·have hz:seV a sh b wd=(ssG b wd sh (min a 4)).1:=rfl
    rw[hz]
    generalize (ssG b wd sh (min a 4))=S
    generalize min a 4=m
    exact⟨_,⟨rfl,_,_,rfl⟩,Gc.refl _ _⟩
 ·rintro e t ⟨rfl,n,i,rfl⟩
  refine Sat.of_eq (KS1_eq a sh b wd (seV a sh b wd) n i) ⟨?_⟩
  generalize seV a sh b wd=M
  refine⟨by omega,?_⟩
  show SV.d _=SV.d _
  congr 2
  funext p q
  rw[Nat.zero_add]
end Go.Proofs.YtanlnopgadbpjaaGreat.Rm
namespace Go.Sx
def _root_.Go.Proofs.RowK(k:IntKind)(n:Nat)(c:Nat->Nat->DV)(v:Nat->Int):Prop:=∀i,i<n->c i 0=.x (.int k (v i))
end Go.Sx
namespace Go.Proofs.YtanlnopgadbpjaaGreat.Rm
open Go.Sx
noncomputable def cSe(sh wd:Nat->Int):Ctr:=fun ss=>match ss with
 |[.agg [.d (.ro a 1 S),.d (.ro b 1 W)]]=>.need ((∀i,0<=sh i)/\RowK .u8 a S sh/\RowK .u64 b W wd) (.ret (.d (.ro (seV a sh b wd).length 1 (rowS2 (seV a sh b wd)))))
 |_=>.fail
theorem cSe_ok(sh wd:Nat->Int):CtrOK Tryz.prog 5 (cSe sh wd):=ctrOK_leS C00_ok D00_ok (by kernel_rfl) (by kernel_rfl) fun ss r h=>by
 unfold cSe at h
 split at h
 ·rename_i a S b W
  obtain⟨⟨h0,h1,h2⟩,rfl⟩:=h
  refine⟨[rwS a sh b wd],200,.nil,?_,se_sat fun i _=>h0 i⟩
  unfold rwS
  simp only[leSVs,leSV,leD,and_true,true_and]
  refine⟨fun i j hi hj=>?_,fun i j hi hj=>?_⟩
  ·obtain rfl:j=0:=by omega
   exact h1 i hi
  ·obtain rfl:j=0:=by omega
   exact h2 i hi
 ·exact h.elim
theorem fsG_ok(b:Nat)(wd:Nat->Int)(s:Int)(n:Nat):∀k,∀ws∈(fsG b wd s n k).1,ws.length<=4
 |0,ws,h=>by cases h
 |k+1,ws,h=>by
  unfold fsG at h
  rcases List.mem_append.1 h with h|h
  ·exact fsG_ok b wd s n k ws h
  ·obtain rfl:=List.mem_singleton.1 h
   rw[wsG_len];exact cnS_le s k
theorem ssG_ok(b:Nat)(wd sh:Nat->Int):∀k,∀fs∈(ssG b wd sh k).1,fs.length<=4/\∀ws∈fs,ws.length<=4
 |0,fs,h=>by cases h
 |k+1,fs,h=>by
  unfold ssG at h
  rcases List.mem_append.1 h with h|h
  ·exact ssG_ok b wd sh k fs h
  ·obtain rfl:=List.mem_singleton.1 h
   exact⟨by rw[fsG_len];exact nfS_le _,fsG_ok b wd _ _ _⟩
theorem seV_ok(a:Nat)(sh:Nat->Int)(b:Nat)(wd:Nat->Int):(seV a sh b wd).length<=4/\∀fs∈seV a sh b wd,fs.length<=4/\∀ws∈fs,ws.length<=4:=by
 unfold seV
 exact⟨by rw[ssG_len];omega,ssG_ok b wd sh _⟩
end Go.Proofs.YtanlnopgadbpjaaGreat.Rm
namespace Go.Sx
def _root_.Go.Proofs.BtD(n:Nat)(B:Nat->Nat->DV):Prop:=n<=9223372036854775807/\∀i,i<n->B i 0=.x (.int .u8 (numV (B i 0)))/\0<=numV (B i 0)/\numV (B i 0)<=255
def mskV(w:Int):Int:=if w<0\/w>62 then 0 else w64 (w64 ((1:Int)*(2:Int)^min (Int.toNat (IntKind.wrap .u64 w)) 64)-(1:Int))
end Go.Sx
namespace Go.Proofs.YtanlnopgadbpjaaGreat.Rm
open Go.Sx
def _root_.Go.Sx.noC:Nat->Nat->Sx.DV:=fun _ _=>.x undef
end Go.Proofs.YtanlnopgadbpjaaGreat.Rm
namespace Go.Sx
def tyK:Nat->Int
 |0=>0
 |d+1=>1+3*tyK d
structure _root_.Go.Proofs.TyD(d n:Nat)(B:Nat->Nat->DV)(p w dp:Int):Prop where
 hb:Proofs.BtD n B
 hp:0<=p/\p+tyK d<=1000000000
 hd:dp=d/\1<=d/\d<=8
 hw:1<=w/\w+d<=20
end Go.Sx
namespace Go.Proofs.YtanlnopgadbpjaaGreat.Rm
open Go.Sx
section
noncomputable def xpV(d:Nat)(x:Xp):List Sx.DV:=[.x (.int .i64 x.op),.x (.string x.nm),.x (.int .i64 x.kn),.x (.string x.kp),.x (.int .i64 x.wn),.x (.string x.wp),.ro (nOf d x) 7 (subC d x)]
end
def okA(d n:Nat)(B:Nat->Nat->Sx.DV)(g:Int->Int->Xp×Int)(dp:Int):List Int->Int->Prop
 |[],p=>True
 |w::ws,p=>TyD d n B p w dp/\okA d n B g dp ws (g p w).2
end Go.Proofs.YtanlnopgadbpjaaGreat.Rm
namespace Go.Sx
def listC{α:Type}(f:α->Nat->DV)(z:α)(l:List α):Nat->Nat->DV:=fun i j=>f (l.getD i z) j
end Go.Sx
namespace Go.Proofs.YtanlnopgadbpjaaGreat.Rm
open Go.Sx
noncomputable def slZ(l:List (Nat×SV)):List TV:=(List.range 167).map fun k=>match l.find? (fun e=>Nat.beq e.1 k) with|some e=>.ok e.2|none=>.unk
noncomputable def rsZ:Option Blk:=some (.cells [.d (.x (.string (strB []))),.d (.x (.string (strB []))),.d (.x (.slice none 0 0)),.d (.x (.slice none 0 0)),.d (.x (.slice none 0 0)),.d (.x (.slice none 0 0)),.d (.x (.slice none 0 0)),iv 0])
noncomputable def curZ(n:Nat)(B:Nat->Nat->Sx.DV)(p:Int):Option Blk:=some (.cells [.d (.ro n 1 B),iv p])
noncomputable def endZ(nt:Nat)(tk:Nat->Int)(np:Nat)(pt:Nat->Int):Option Blk:=some (.cells [.d (.ro nt 1 fun i _=>.x (.int .i64 (tk i))),.d (.ro np 1 fun i _=>.x (.int .i64 (pt i)))])
noncomputable def nlZ:SV:=.d (.x (.slice none 0 0))
noncomputable def stZ1(n:Nat)(B:Nat->Nat->Sx.DV)(nm ck:ByteArray)(nt:Nat)(tk:Nat->Int)(np:Nat)(pt:Nat->Int)(p b:Int)(m:Nat)(c:Nat->Nat->Sx.DV)(m':Nat)(c':Nat->Nat->Sx.DV)(i:Int):AS:=⟨slZ [(3,.ptr 0 0),(5,.ptr 1 0),(6,.ptr 2 0),(7,iv b),(8,.ptr 5 0),(9,.ptr 7 0),(10,iv i)],
 [curZ n B p,endZ nt tk np pt,rsZ,none,none,some (.cells [.d (.x (.string nm)),.d (.x (.string ck)),.row 9 0 0 m 13,nlZ,nlZ,nlZ]),none,some (.cells [.row 10 0 0 m' 1,nlZ,nlZ,bv true]),none,some (.row m 13 c),some (.row m' 1 c')],11,.nil⟩
noncomputable def stZ2(n:Nat)(B:Nat->Nat->Sx.DV)(nm ck:ByteArray)(nt:Nat)(tk:Nat->Int)(np:Nat)(pt:Nat->Int)(p:Int)(nr:Nat)(c c':Nat->Nat->Sx.DV)(m:Nat)(t:Nat->Nat->Sx.DV)(m':Nat)(t':Nat->Nat->Sx.DV)(i:Int):AS:=⟨slZ [(3,.ptr 0 0),(5,.ptr 1 0),(6,.ptr 2 0),(8,.ptr 5 0),(9,.ptr 7 0),(12,iv i)],
 [curZ n B p,endZ nt tk np pt,rsZ,none,none,some (.cells [.d (.x (.string nm)),.d (.x (.string ck)),.row 9 0 0 nr 13,nlZ,.row 11 0 0 m 9,nlZ]),none,some (.cells [.d (.ro nr 1 c'),.row 12 0 0 m' 1,nlZ,bv true]),none,some (.row nr 13 c),none,some (.row m 9 t),some (.row m' 1 t')],13,.nil⟩
noncomputable def stZ3(n:Nat)(B:Nat->Nat->Sx.DV)(nm ck:ByteArray)(nt:Nat)(tk:Nat->Int)(np:Nat)(pt:Nat->Int)(p:Int)(nr:Nat)(c c':Nat->Nat->Sx.DV)(t t':Nat->Nat->Sx.DV)(i:Int):AS:=⟨slZ [(3,.ptr 0 0),(5,.ptr 1 0),(6,.ptr 2 0),(8,.ptr 5 0),(9,.ptr 7 0),(14,iv i)],
 [curZ n B p,endZ nt tk np pt,rsZ,none,none,some (.cells [.d (.x (.string nm)),.d (.x (.string ck)),.row 9 0 0 nr 13,nlZ,.row 11 0 0 nt 9,nlZ]),none,some (.cells [.d (.ro nr 1 c'),.d (.ro nt 1 t'),nlZ,bv true]),none,some (.row nr 13 c),none,some (.row nt 9 t),none],13,.nil⟩
noncomputable def rowQ(f:Nat->Int)(q:Nat->Nat->Sx.DV):Nat->Nat->Sx.DV:=fun i j=>match j with
 |1=>.x (.int .i64 (f i))
 |_=>q i j
def wdV(b i:Int):Int:=w64 (1+Int.tmod (w64 (w64 (Int.tdiv b 4)+i)) 2)
def inV(b i:Int):Int:=w64 (↑(BitVec.toNat (BitVec.ofInt 64 (w64 (Int.tdiv b 8)) &&& BitVec.ofInt 64 (mskV (wdV b i)))):Int)
def rkV(b:Int):Int:=List.getD [(1:Int),1,0] (0+Int.toNat (Int.tmod (w64 (Int.tdiv b 16)) 3)) 0
noncomputable def rnV(i:Int):ByteArray:=List.getD [strB [114],strB [115]] (0+Int.toNat i) (strB [])
noncomputable def ckV(b:Int):ByteArray:=List.getD [strB [97],strB [98]] (0+Int.toNat (Int.tmod b 2)) (strB [])
noncomputable def rgV(b i:Int):List Sx.DV:=[.x (.string (rnV i)),.x (.int .i64 (wdV b i)),.x (.int .i64 (inV b i)),.x (.int .i64 0),.x (.string (strB [])),.x (.int .i64 0),.x (.string (strB [])),.x (.int .i64 0),.x (.string (strB [])),.x (.slice none 0 0),.x (.int .i64 (rkV b)),.x (.string (strB [])),.x (.int .i64 0)]
end Go.Proofs.YtanlnopgadbpjaaGreat.Rm
namespace Go.Sx
open Go.Proofs.YtanlnopgadbpjaaGreat.Rm
def ixL(k:Nat):List Int:=(List.range k).map Int.ofNat
def nrG(b:Int):Nat:=(1+b / 2%2).toNat
noncomputable def rgF(b:Int):Int->Nat->DV:=fun x j=>dsAt (rgV b x) j
noncomputable def wdF(b:Int):Int->Nat->DV:=fun x j=>dsAt [.x (.int .i64 (wdV b x))] j
def twF:Int->Nat->DV:=fun x j=>dsAt [.x (.int .i64 2)] j
noncomputable def RgR(b:Int):Nat->Nat->DV:=fun i j=>listC (wdF b) 0 (ixL (nrG b)) (0+i) j
def TkR(nt:Nat):Nat->Nat->DV:=fun i j=>listC twF 0 (ixL nt) (0+i) j
def zXT:XT:=⟨0,strB [],0,strB [],0,strB [],0,noC⟩
def zTk:TkT:=⟨0,0,zXT⟩
noncomputable def rgM(b:Int)(l:List Xp):Nat->Nat->DV:=fun i j=>if(3<=j/\j<10)/\i<l.length then(xpV 3 (l.getD i .no)).getD (j-3) (.x undef) else dsAt (rgV b i) j
end Go.Sx
namespace Go.Proofs.YtanlnopgadbpjaaGreat.Rm
open Go.Sx
section
noncomputable def s3(n:Nat)(B:Nat->Nat->Sx.DV)(nm:ByteArray)(nt:Nat)(tk:Nat->Int)(np:Nat)(pt:Nat->Int)(b:Int)(tl:List TkT)(p:Int)(l:List Xp)(i:Int):AS :=
 stZ3 n B nm (ckV b) nt tk np pt p (nrG b) (rowQ (fun i=>wdV b i) (rgM b l)) (RgR b) (listC tkC zTk tl) (TkR nt) i
end
section
variable {n : Nat} {B : Nat → Nat → Sx.DV} {nm : ByteArray} {nt : Nat} {tk : Nat → Int} {np : Nat} {pt : Nat → Int} {b p0 p1 i1 : Int}
noncomputable def s2(n:Nat)(B:Nat->Nat->Sx.DV)(nm:ByteArray)(nt:Nat)(tk:Nat->Int)(np:Nat)(pt:Nat->Int)(b:Int)(p:Int)(l:List TkT)(k:Nat)(i:Int):AS :=
 stZ2 n B nm (ckV b) nt tk np pt p (nrG b) (listC (rgF b) 0 (ixL (nrG b))) (RgR b) l.length (listC tkC zTk l) (ixL k).length (listC twF 0 (ixL k)) i
end
section
variable {n : Nat} {B : Nat → Nat → Sx.DV} {nm : ByteArray} {nt : Nat} {tk : Nat → Int} {np : Nat} {pt : Nat → Int} {p0 : Int}
noncomputable def s1(n:Nat)(B:Nat->Nat->Sx.DV)(nm:ByteArray)(nt:Nat)(tk:Nat->Int)(np:Nat)(pt:Nat->Int)(b:Int)(p:Int)(k:Nat)(i:Int):AS :=
 stZ1 n B nm (ckV b) nt tk np pt p b (ixL k).length (listC (rgF b) 0 (ixL k)) (ixL k).length (listC (wdF b) 0 (ixL k)) i
end
theorem getD_mem{α:Type}{l:List α}{z:α}{i:Nat}(h:i<l.length):l.getD i z∈l:=by rw[List.getD_eq_getElem?_getD,List.getElem?_eq_getElem h];exact List.getElem_mem h
end Go.Proofs.YtanlnopgadbpjaaGreat.Rm
namespace Go.Sx
open Go.Proofs.YtanlnopgadbpjaaGreat.Rm
def SmX:Nat->Xp->Prop
 |0,e=>((textL e.nm.data.toList).length=1/\(textL e.kp.data.toList).length=1/\(textL e.wp.data.toList).length=1)/\e.n<=3
 |d+1,e=>(((textL e.nm.data.toList).length=1/\(textL e.kp.data.toList).length=1/\(textL e.wp.data.toList).length=1)/\e.n<=3)/\∀i,i<e.n->SmX d (e.args i)
theorem SmX.h{d:Nat}{e:Xp}(h:SmX d e):((textL e.nm.data.toList).length=1/\(textL e.kp.data.toList).length=1/\(textL e.wp.data.toList).length=1)/\e.n<=3:=by
 cases d with
 |zero=>exact h
 |succ d=>exact h.1
def smQ(n:Nat)(a:Nat->Int)(m:Nat)(b:Nat->Int):Prop:=n=m/\∀i,i<n->a i=b i
end Go.Sx
namespace Go.Proofs.YtanlnopgadbpjaaGreat.Rm
open Go.Sx
section
variable (n : Nat) (a : Nat → Int) (m : Nat) (b : Nat → Int)
noncomputable def tSq:Tree SV:=fnT Tryz.prog C00 D00 200 (fnOf Tryz.prog 66) (bodyOf Tryz.prog 66) [ruV n a,ruV m b] .nil
noncomputable def LSq:Tree SV:=.ite ((n:Int) != (m:Int)) (.ret (bv false)) (atCode (sub [1] (tSq n a m b)))
theorem LSq_eq:tSq n a m b=LSq n a m b:=by kernel_rfl
noncomputable def slQ(l:List (Nat×SV)):List TV:=(List.range 26).map fun k=>match l.find? (fun e=>Nat.beq e.1 k) with|some e=>.ok e.2|none=>.unk
noncomputable def stQ(r:Bool)(i:Int):AS:=⟨slQ [(0,ruV n a),(1,ruV m b),(4,bv r),(5,iv i)],[],0,.nil⟩
noncomputable def bodyQ:Code:=loopN (bodyOf Tryz.prog 66) 0
noncomputable def BSq(r:Bool)(i:Int):Tree (Ex×AS) :=
 .ite (decide (i<(n:Int))) (.need (0<=i/\i<(n:Int)) (.need (0<=i/\i<(m:Int)) (.ite (a i.toNat != b i.toNat) (.ret (.ret,stQ n a m b false i)) (.ret (.normal,stQ n a m b r (w64 (i+1))))))) (.ret (.exit 0,stQ n a m b r i))
theorem BSq_eq(r:Bool)(i:Int):cutT 0 [] [0,1,4,5] [] 0 .nil (exec Tryz.prog C00 D00 200 bodyQ (stQ n a m b r i))=BSq n a m b r i:=by kernel_rfl
theorem KSq0_eq(r:Bool)(i:Int):codeK (sub [1] (tSq n a m b)) (.exit 0) (stQ n a m b r i)=.ret (bv true):=by kernel_rfl
theorem KSq1_eq(r:Bool)(i:Int):codeK (sub [1] (tSq n a m b)) .ret (stQ n a m b r i)=.ret (bv r):=by kernel_rfl
end
open Classical in
theorem sq_sat{n:Nat}{a:Nat->Int}{m:Nat}{b:Nat->Int}(hn:n<=1000000000):Sat Tryz.prog (tSq n a m b) (·=bv (decide (smQ n a m b))):=by
 refine Sat.of_eq (LSq_eq n a m b) ⟨?_⟩
 unfold LSq
 refine⟨fun h=>?_,fun h=>?_⟩
 ·rw[bne_iff_ne] at h
  rw[decide_eq_false (fun h2=>h (by rw[h2.1]))]
  rfl
 rw[bne_eq_false_iff_eq] at h
 obtain rfl:n=m:=by omega
 refine code_satS C00_ok D00_ok (n:=200) (n0:=0) (nx:=0) (roots:=[]) (keep:=[0,1,4,5]) (drop:=[]) (h:=.nil) (c:=codeC (sub [1] (tSq n a n b))) (st:=codeS (sub [1] (tSq n a n b))) (k:=codeK (sub [1] (tSq n a n b))) (body:=bodyQ) (by kernel_rfl) (by kernel_rfl)
  (fun q t=>∃i:Nat,q=n-i/\i<=n/\(∀k,k<i->a k=b k)/\t=stQ n a n b false i)
  (fun e t=>(e=.exit 0/\decide (smQ n a n b)=true/\∃i,t=stQ n a n b false i)\/(e=.ret/\decide (smQ n a n b)=false/\∃i,t=stQ n a n b false i))
  ⟨_,_,⟨0,rfl,by omega,fun k hk=>by omega,rfl⟩,?_⟩ ?_ ?_
 ·exact entA_sound (s':=stQ n a n b false 0) (roots:=[]) (keep:=[0,1,4,5]) (drop:=[]) (nx:=0) (h:=.nil) (by kernel_rfl)
 ·rintro q t ⟨i,rfl,hi,hk,rfl⟩
  refine Sat.of_eq (BSq_eq n a n b false i) ⟨?_⟩
  unfold BSq
  rw[Int.toNat_natCast]
  refine⟨fun h1=>?_,fun h1=>?_⟩
  ·simp only[decide_eq_true_eq] at h1
   rw[w64_of (n:=(i:Int)+1) (by omega) (by omega)]
   refine⟨by omega,by omega,fun h2=>?_,fun h2=>?_⟩
   ·rw[bne_iff_ne] at h2
    exact⟨_,.inr ⟨rfl,decide_eq_false (fun h3=>h2 (h3.2 i (by omega))),_,rfl⟩,Gc.refl _ _⟩
   ·rw[bne_eq_false_iff_eq] at h2
    refine⟨n-(i+1),_,by omega,⟨i+1,rfl,by omega,fun k hk'=>?_,rfl⟩,Gc.refl _ _⟩
    by_cases hki:k=i
    ·subst hki;exact h2
    ·exact hk k (by omega)
  ·simp only[decide_eq_false_iff_not] at h1
   obtain rfl:i=n:=by omega
   exact⟨_,.inl ⟨rfl,decide_eq_true ⟨rfl,hk⟩,_,rfl⟩,Gc.refl _ _⟩
 ·rintro e t (⟨rfl,he,i,rfl⟩|⟨rfl,he,i,rfl⟩)
  ·exact Sat.of_eq (KSq0_eq n a n b false i) ⟨by rw[he];rfl⟩
  ·exact Sat.of_eq (KSq1_eq n a n b false i) ⟨by rw[he];rfl⟩
open Classical in
noncomputable def cSq:Ctr:=fun ss=>match ss with
 |[.d (.ro n 1 A),.d (.ro m 1 B)]=>.need (UrD n A/\UrD m B) (.ret (bv (decide (smQ n (fun i=>numV (A i 0)) m (fun i=>numV (B i 0))))))
 |_=>.fail
theorem cSq_ok:CtrOK Tryz.prog 66 cSq:=ctrOK_leS C00_ok D00_ok (by kernel_rfl) (by kernel_rfl) fun ss r h=>by
 unfold cSq at h
 split at h
 ·rename_i n A m B
  obtain⟨⟨h1,h2⟩,rfl⟩:=h
  refine⟨[ruV n fun i=>numV (A i 0),ruV m fun i=>numV (B i 0)],200,.nil,?_,sq_sat h1.1⟩
  unfold ruV
  simp only[leSVs,leSV,leD,and_true,true_and]
  refine⟨fun i j hi hj=>?_,fun i j hi hj=>?_⟩
  ·obtain rfl:j=0:=by omega
   exact h1.2 i hi
  ·obtain rfl:j=0:=by omega
   exact h2.2 i hi
 ·exact h.elim
section
variable (n : Nat) (x : Nat → FsT) (m : Nat) (y : Nat → FsT)
noncomputable def tSh:Tree SV:=fnT Tryz.prog C00 D00 200 (fnOf Tryz.prog 24) (bodyOf Tryz.prog 24) [ssS n x,ssS m y] .nil
noncomputable def LSh:Tree SV:=.ite ((n:Int) != (m:Int)) (.ret (bv false)) (atCode (sub [1] (tSh n x m y)))
theorem LSh_eq:tSh n x m y=LSh n x m y:=by kernel_rfl
noncomputable def slH(l:List (Nat×SV)):List TV:=(List.range 57).map fun k=>match l.find? (fun e=>Nat.beq e.1 k) with|some e=>.ok e.2|none=>.unk
noncomputable def stH1(r:Bool)(i:Int):AS:=⟨slH [(0,ssS n x),(1,ssS m y),(4,bv r),(5,iv i)],[],0,.nil⟩
noncomputable def stH2(r:Bool)(i k:Int):AS:=⟨slH [(0,ssS n x),(1,ssS m y),(4,bv r),(5,iv i),(6,iv k)],[none,none,none,none,none,none,none,none,none,none,none],11,.nil⟩
noncomputable def bodyH1:Code:=loopN (bodyOf Tryz.prog 24) 0
noncomputable def bodyH2:Code:=loopN (bodyOf Tryz.prog 24) 1
noncomputable def bH1(r:Bool)(i:Int):Tree (Ex×AS):=cutT 0 [] [0,1,4,5] [] 0 .nil (exec Tryz.prog C00 D00 200 bodyH1 (stH1 n x m y r i))
noncomputable def BH1(r:Bool)(i:Int):Tree (Ex×AS) :=
 .ite (decide (i<(n:Int))) (.need (0<=i/\i<(n:Int)) (.need (0<=i/\i<(m:Int)) (.ite (((x i.toNat).n:Int) != ((y i.toNat).n:Int)) (.ret (.ret,stH1 n x m y false i)) (atCode (sub [0,0,0,1] (bH1 n x m y r i)))))) (.ret (.exit 0,stH1 n x m y r i))
theorem BH1_eq(r:Bool)(i:Int):bH1 n x m y r i=BH1 n x m y r i:=by kernel_rfl
noncomputable def BH2(r:Bool)(i k:Int):Tree (Ex×AS) :=
 .need (0<=i/\i<(n:Int)) (.ite (decide (k<((x i.toNat).n:Int)))
  (.need (0<=i/\i<(n:Int)) (.need (0<=k/\k<((x i.toNat).n:Int)) (.need (0<=i/\i<(m:Int)) (.need (0<=k/\k<((y i.toNat).n:Int))
   (.ite ((((x i.toNat).f k.toNat).n:Int) != (((y i.toNat).f k.toNat).n:Int)) (.ret (.ret,stH2 n x m y false i k)) (.ret (.normal,stH2 n x m y r i (w64 (k+1)))))))))
  (.ret (.exit 2,stH2 n x m y r i k)))
theorem BH2_eq(r:Bool)(i k:Int):cutT 11 [] [0,1,4,5,6] [0,1,2,3,4,5,6,7,8,9,10] 11 .nil (exec Tryz.prog C00 D00 200 bodyH2 (stH2 n x m y r i k))=BH2 n x m y r i k:=by kernel_rfl
theorem KH2a_eq(r0 r:Bool)(i0 i k:Int):codeK (sub [0,0,0,1] (bH1 n x m y r0 i0)) (.exit 2) (stH2 n x m y r i k)=.ret (.normal,stH1 n x m y r (w64 (i+1))):=by kernel_rfl
theorem KH2b_eq(r0 r:Bool)(i0 i k:Int):codeK (sub [0,0,0,1] (bH1 n x m y r0 i0)) .ret (stH2 n x m y r i k)=.ret (.ret,stH1 n x m y r i):=by kernel_rfl
theorem KH1a_eq(r:Bool)(i:Int):codeK (sub [1] (tSh n x m y)) (.exit 0) (stH1 n x m y r i)=.ret (bv true):=by kernel_rfl
theorem KH1b_eq(r:Bool)(i:Int):codeK (sub [1] (tSh n x m y)) .ret (stH1 n x m y r i)=.ret (bv r):=by kernel_rfl
end
end Go.Proofs.YtanlnopgadbpjaaGreat.Rm
namespace Go.Sx
def shR(a b:FsT):Prop:=a.n=b.n/\∀k,k<a.n->(a.f k).n=(b.f k).n
def shQ(n:Nat)(x:Nat->FsT)(m:Nat)(y:Nat->FsT):Prop:=n=m/\∀i,i<n->shR (x i) (y i)
end Go.Sx
namespace Go.Proofs.YtanlnopgadbpjaaGreat.Rm
open Go.Sx
section
variable {n : Nat} {x : Nat → FsT} {y : Nat → FsT}
theorem sh2_sat(hn:n<=1000000000)(hx:∀i,i<n->(x i).n<=4){i:Nat}(hi:i<n)(h0:(x i).n=(y i).n)(T:Tree (Ex×AS))(hT:T=atCode (sub [0,0,0,1] (bH1 n x n y false i))) :
  Sat Tryz.prog T fun r=>(shR (x i) (y i)/\r.1=.normal/\r.2=stH1 n x n y false ((i+1:Nat):Int))\/(¬shR (x i) (y i)/\r.1=.ret/\r.2=stH1 n x n y false i):=by
 refine Sat.of_eq hT ⟨?_⟩
 refine code_satS C00_ok D00_ok (n:=200) (n0:=11) (nx:=11) (roots:=[]) (keep:=[0,1,4,5,6]) (drop:=[0,1,2,3,4,5,6,7,8,9,10]) (h:=.nil) (c:=codeC (sub [0,0,0,1] (bH1 n x n y false i))) (st:=codeS (sub [0,0,0,1] (bH1 n x n y false i))) (k:=codeK (sub [0,0,0,1] (bH1 n x n y false i))) (body:=bodyH2) (by kernel_rfl) (by kernel_rfl)
  (fun q t=>∃k:Nat,q=(x i).n-k/\k<=(x i).n/\(∀j,j<k->((x i).f j).n=((y i).f j).n)/\t=stH2 n x n y false i k)
  (fun e t=>(e=.exit 2/\shR (x i) (y i)/\∃k,t=stH2 n x n y false i k)\/(e=.ret/\¬shR (x i) (y i)/\∃k,t=stH2 n x n y false i k))
  ⟨_,_,⟨0,rfl,by omega,fun k hk=>by omega,rfl⟩,?_⟩ ?_ ?_
 ·exact entA_sound (s':=stH2 n x n y false i 0) (roots:=[]) (keep:=[0,1,4,5,6]) (drop:=[0,1,2,3,4,5,6,7,8,9,10]) (nx:=11) (h:=.nil) (by kernel_rfl)
 ·rintro q t ⟨k,rfl,hk,hj,rfl⟩
  have h4:=hx i hi
  refine Sat.of_eq (BH2_eq n x n y false i k) ⟨?_⟩
  unfold BH2
  rw[Int.toNat_natCast,Int.toNat_natCast]
  refine⟨by omega,fun h1=>?_,fun h1=>?_⟩
  ·simp only[decide_eq_true_eq] at h1
   rw[w64_of (n:=(k:Int)+1) (by omega) (by omega)]
   refine⟨by omega,by omega,by omega,by omega,fun h2=>?_,fun h2=>?_⟩
   ·rw[bne_iff_ne] at h2
    exact⟨_,.inr ⟨rfl,fun h3=>h2 (by rw[h3.2 k (by omega)]),_,rfl⟩,Gc.refl _ _⟩
   ·rw[bne_eq_false_iff_eq] at h2
    refine⟨(x i).n-(k+1),_,by omega,⟨k+1,rfl,by omega,fun j hj'=>?_,rfl⟩,Gc.refl _ _⟩
    by_cases hki:j=k
    ·subst hki;omega
    ·exact hj j (by omega)
  ·simp only[decide_eq_false_iff_not] at h1
   exact⟨_,.inl ⟨rfl,⟨h0,fun j hj'=>hj j (by omega)⟩,_,rfl⟩,Gc.refl _ _⟩
 ·rintro e t (⟨rfl,he,k,rfl⟩|⟨rfl,he,k,rfl⟩)
  ·refine Sat.of_eq (KH2a_eq n x n y false false i i k) ⟨.inl ⟨he,rfl,?_⟩⟩
   rw[w64_of (n:=(i:Int)+1) (by omega) (by omega)];rfl
  ·exact Sat.of_eq (KH2b_eq n x n y false false i i k) ⟨.inr ⟨he,rfl,rfl⟩⟩
open Classical in
theorem sh_sat{m:Nat}(hn:n<=1000000000)(hx:∀i,i<n->(x i).n<=4):Sat Tryz.prog (tSh n x m y) (·=bv (decide (shQ n x m y))):=by
 refine Sat.of_eq (LSh_eq n x m y) ⟨?_⟩
 unfold LSh
 refine⟨fun h=>?_,fun h=>?_⟩
 ·rw[bne_iff_ne] at h
  rw[decide_eq_false (fun h2=>h (by rw[h2.1]))]
  rfl
 rw[bne_eq_false_iff_eq] at h
 obtain rfl:n=m:=by omega
 refine code_satS C00_ok D00_ok (n:=200) (n0:=0) (nx:=0) (roots:=[]) (keep:=[0,1,4,5]) (drop:=[]) (h:=.nil) (c:=codeC (sub [1] (tSh n x n y))) (st:=codeS (sub [1] (tSh n x n y))) (k:=codeK (sub [1] (tSh n x n y))) (body:=bodyH1) (by kernel_rfl) (by kernel_rfl)
  (fun q t=>∃i:Nat,q=n-i/\i<=n/\(∀k,k<i->shR (x k) (y k))/\t=stH1 n x n y false i)
  (fun e t=>(e=.exit 0/\decide (shQ n x n y)=true/\∃i,t=stH1 n x n y false i)\/(e=.ret/\decide (shQ n x n y)=false/\∃i,t=stH1 n x n y false i))
  ⟨_,_,⟨0,rfl,by omega,fun k hk=>by omega,rfl⟩,?_⟩ ?_ ?_
 ·exact entA_sound (s':=stH1 n x n y false 0) (roots:=[]) (keep:=[0,1,4,5]) (drop:=[]) (nx:=0) (h:=.nil) (by kernel_rfl)
 ·rintro q t ⟨i,rfl,hi,hk,rfl⟩
  refine Sat.of_eq (BH1_eq n x n y false i) ⟨?_⟩
  unfold BH1
  rw[Int.toNat_natCast]
  refine⟨fun h1=>?_,fun h1=>?_⟩
  ·simp only[decide_eq_true_eq] at h1
   have hlt:i<n:=by omega
   refine⟨by omega,by omega,fun h2=>?_,fun h2=>?_⟩
   ·rw[bne_iff_ne] at h2
    exact⟨_,.inr ⟨rfl,decide_eq_false (fun h3=>h2 (by rw[(h3.2 i hlt).1])),_,rfl⟩,Gc.refl _ _⟩
   ·rw[bne_eq_false_iff_eq] at h2
    have k0:=sh2_sat (x:=x) (y:=y) hn hx hlt (by omega) _ rfl
    generalize atCode (sub [0,0,0,1] (bH1 n x n y false i))=T at k0 ⊢
    refine Tree.sat_mono (fun r hr=>?_) k0.ok
    obtain⟨ex,st⟩:=r
    rcases hr with⟨e5,e6,e7⟩|⟨e5,e6,e7⟩
    ·obtain rfl:ex=.normal:=e6
     obtain rfl:st=stH1 n x n y false ((i+1:Nat):Int):=e7
     refine⟨n-(i+1),_,by omega,⟨i+1,rfl,by omega,fun k hk'=>?_,rfl⟩,Gc.refl _ _⟩
     by_cases hki:k=i
     ·subst hki;exact e5
     ·exact hk k (by omega)
    ·obtain rfl:ex=.ret:=e6
     obtain rfl:st=stH1 n x n y false i:=e7
     exact⟨_,.inr ⟨rfl,decide_eq_false (fun h3=>e5 (h3.2 i hlt)),_,rfl⟩,Gc.refl _ _⟩
  ·simp only[decide_eq_false_iff_not] at h1
   obtain rfl:i=n:=by omega
   exact⟨_,.inl ⟨rfl,decide_eq_true ⟨rfl,hk⟩,_,rfl⟩,Gc.refl _ _⟩
 ·rintro e t (⟨rfl,he,i,rfl⟩|⟨rfl,he,i,rfl⟩)
  ·exact Sat.of_eq (KH1a_eq n x n y false i) ⟨by rw[he];rfl⟩
  ·exact Sat.of_eq (KH1b_eq n x n y false i) ⟨by rw[he];rfl⟩
end
open Classical in
noncomputable def cSh:Ctr:=fun ss=>match ss with
 |[.d (.ro n 1 A),.d (.ro m 1 B)]=>.need ((n<=1000000000/\SsD n A)/\SsD m B) (.ret (bv (decide (shQ n (fun i=>fsOf (A i)) m (fun i=>fsOf (B i))))))
 |_=>.fail
theorem cSh_ok:CtrOK Tryz.prog 24 cSh:=ctrOK_leS C00_ok D00_ok (by kernel_rfl) (by kernel_rfl) fun ss r h=>by
 unfold cSh at h
 split at h
 ·rename_i n A m B
  obtain⟨⟨⟨hn,h1⟩,h2⟩,rfl⟩:=h
  refine⟨[ssS n fun i=>fsOf (A i),ssS m fun i=>fsOf (B i)],200,.nil,?_,sh_sat hn fun i hi=>(h1 i hi).1.n⟩
  unfold ssS
  simp only[leSVs,leSV,leD,and_true,true_and]
  refine⟨fun i j hi hj=>?_,fun i j hi hj=>?_⟩
  ·obtain rfl:j=0:=by omega
   exact(h1 i hi).2
  ·obtain rfl:j=0:=by omega
   exact(h2 i hi).2
 ·exact h.elim
noncomputable def manE:FuncId->Option Ctr:=fun k=>match k with
 |24=>some cSh
 |66=>some cSq
 |_=>none
theorem manE_ok(k:Nat)(c:Ctr)(hk:manE k=some c):CtrOK Tryz.prog k c/\goodF Tryz.prog k=true:=by
 unfold manE at hk
 split at hk
 ·cases hk;exact⟨cSh_ok,by kernel_rfl⟩
 ·cases hk;exact⟨cSq_ok,by kernel_rfl⟩
 ·cases hk
noncomputable def CEq:Ctx:=ctxN Tryz.prog manE (fun _=>false) 200 .nil 6
theorem CEq_ok:CtxOK Tryz.prog CEq:=ctxN_ok mixed manE_ok 6
noncomputable def DEq:Dr:=drawnL Tryz.prog CEq
theorem DEq_ok:DrOK Tryz.prog CEq DEq:=drawnL_ok CEq_ok mixed
section
variable (n : Nat) (x : Nat → FsT) (m : Nat) (y : Nat → FsT)
noncomputable def tEl:Tree SV:=fnT Tryz.prog CEq DEq 200 (fnOf Tryz.prog 29) (bodyOf Tryz.prog 29) [ssS n x,ssS m y] .nil
theorem LEl_eq:tEl n x m y=.need ((n<=1000000000/\SsD n fun i j=>fsC (x i) j)/\SsD m fun i j=>fsC (y i) j) (.ite (!(@decide (shQ n x m y) (Classical.propDecidable _))) (.ret (bv false)) (atCode (sub [0,1] (tEl n x m y)))):=by kernel_rfl
end
section
variable (n : Nat) (x : Nat → FsT) (m : Nat) (y : Nat → FsT)
noncomputable def slK(l:List (Nat×SV)):List TV:=(List.range 44).map fun k=>match l.find? (fun e=>Nat.beq e.1 k) with|some e=>.ok e.2|none=>.unk
noncomputable def stK1(r:Bool)(i:Int):AS:=⟨slK [(0,ssS n x),(1,ssS m y),(4,bv r),(5,iv i)],[],0,.nil⟩
noncomputable def bodyK1:Code:=loopN (bodyOf Tryz.prog 29) 0
noncomputable def bodyK2:Code:=loopN (bodyOf Tryz.prog 29) 1
noncomputable def bK1(r:Bool)(i:Int):Tree (Ex×AS):=cutT 0 [] [0,1,4,5] [] 0 .nil (exec Tryz.prog CEq DEq 200 bodyK1 (stK1 n x m y r i))
noncomputable def stK2(r:Bool)(i k:Int):AS:=⟨slK [(0,ssS n x),(1,ssS m y),(4,bv r),(5,iv i),(6,iv k)],[],0,.nil⟩
theorem BK1_eq(r:Bool)(i:Int):bK1 n x m y r i=.ite (decide (i<(n:Int))) (atCode (sub [0] (bK1 n x m y r i))) (.ret (.exit 0,stK1 n x m y r i)):=by kernel_rfl
noncomputable def wR(f:FrT):Nat->Nat->Sx.DV:=fun j _=>.x (.int .u64 (f.w j))
noncomputable def BK2(r:Bool)(i k:Int):Tree (Ex×AS) :=
 .need (0<=i/\i<(n:Int)) (.ite (decide (k<((x i.toNat).n:Int)))
  (.need (0<=i/\i<(n:Int)) (.need (0<=k/\k<((x i.toNat).n:Int)) (.need (0<=i/\i<(m:Int)) (.need (0<=k/\k<((y i.toNat).n:Int))
   (.need (UrD ((x i.toNat).f k.toNat).n (wR ((x i.toNat).f k.toNat))/\UrD ((y i.toNat).f k.toNat).n (wR ((y i.toNat).f k.toNat)))
   (.ite (!(@decide (smQ ((x i.toNat).f k.toNat).n ((x i.toNat).f k.toNat).w ((y i.toNat).f k.toNat).n ((y i.toNat).f k.toNat).w) (Classical.propDecidable _))) (.ret (.ret,stK2 n x m y false i k)) (.ret (.normal,stK2 n x m y r i (w64 (k+1))))))))))
  (.ret (.exit 2,stK2 n x m y r i k)))
theorem BK2_eq(r:Bool)(i k:Int):cutT 0 [] [0,1,4,5,6] [] 0 .nil (exec Tryz.prog CEq DEq 200 bodyK2 (stK2 n x m y r i k))=BK2 n x m y r i k:=by kernel_rfl
theorem KK2a_eq(r0 r:Bool)(i0 i k:Int):codeK (sub [0] (bK1 n x m y r0 i0)) (.exit 2) (stK2 n x m y r i k)=.ret (.normal,stK1 n x m y r (w64 (i+1))):=by kernel_rfl
theorem KK2b_eq(r0 r:Bool)(i0 i k:Int):codeK (sub [0] (bK1 n x m y r0 i0)) .ret (stK2 n x m y r i k)=.ret (.ret,stK1 n x m y r i):=by kernel_rfl
theorem KK1a_eq(r:Bool)(i:Int):codeK (sub [0,1] (tEl n x m y)) (.exit 0) (stK1 n x m y r i)=.ret (bv true):=by kernel_rfl
theorem KK1b_eq(r:Bool)(i:Int):codeK (sub [0,1] (tEl n x m y)) .ret (stK1 n x m y r i)=.ret (bv r):=by kernel_rfl
end
end Go.Proofs.YtanlnopgadbpjaaGreat.Rm
namespace Go.Sx
def elR(a b:FsT):Prop:=∀k,k<a.n->smQ (a.f k).n (a.f k).w (b.f k).n (b.f k).w
def elQ(n:Nat)(x:Nat->FsT)(m:Nat)(y:Nat->FsT):Prop:=shQ n x m y/\∀i,i<n->elR (x i) (y i)
end Go.Sx
namespace Go.Proofs.YtanlnopgadbpjaaGreat.Rm
open Go.Sx
section
variable {n : Nat} {x : Nat → FsT} {y : Nat → FsT}
theorem urD_w{f:FrT}(h:f.n<=1000000000):UrD f.n (wR f):=⟨h,fun i hi=>rfl⟩
open Classical in
theorem el2_sat(hn:n<=1000000000)(hx:∀i,i<n->FsOK (x i))(hy:∀i,i<n->FsOK (y i)){i:Nat}(hi:i<n)(h0:shR (x i) (y i))(T:Tree (Ex×AS))(hT:T=atCode (sub [0] (bK1 n x n y false i))) :
  Sat Tryz.prog T fun r=>(elR (x i) (y i)/\r.1=.normal/\r.2=stK1 n x n y false ((i+1:Nat):Int))\/(¬elR (x i) (y i)/\r.1=.ret/\r.2=stK1 n x n y false i):=by
 refine Sat.of_eq hT ⟨?_⟩
 refine code_satS CEq_ok DEq_ok (n:=200) (n0:=0) (nx:=0) (roots:=[]) (keep:=[0,1,4,5,6]) (drop:=[]) (h:=.nil) (c:=codeC (sub [0] (bK1 n x n y false i))) (st:=codeS (sub [0] (bK1 n x n y false i))) (k:=codeK (sub [0] (bK1 n x n y false i))) (body:=bodyK2) (by kernel_rfl) (by kernel_rfl)
  (fun q t=>∃k:Nat,q=(x i).n-k/\k<=(x i).n/\(∀j,j<k->smQ ((x i).f j).n ((x i).f j).w ((y i).f j).n ((y i).f j).w)/\t=stK2 n x n y false i k)
  (fun e t=>(e=.exit 2/\elR (x i) (y i)/\∃k,t=stK2 n x n y false i k)\/(e=.ret/\¬elR (x i) (y i)/\∃k,t=stK2 n x n y false i k))
  ⟨_,_,⟨0,rfl,by omega,fun k hk=>by omega,rfl⟩,?_⟩ ?_ ?_
 ·exact entA_sound (s':=stK2 n x n y false i 0) (roots:=[]) (keep:=[0,1,4,5,6]) (drop:=[]) (nx:=0) (h:=.nil) (by kernel_rfl)
 ·rintro q t ⟨k,rfl,hk,hj,rfl⟩
  have h4:=(hx i hi).n
  have h5:=h0.1
  refine Sat.of_eq (BK2_eq n x n y false i k) ⟨?_⟩
  unfold BK2
  rw[Int.toNat_natCast,Int.toNat_natCast]
  refine⟨by omega,fun h1=>?_,fun h1=>?_⟩
  ·simp only[decide_eq_true_eq] at h1
   rw[w64_of (n:=(k:Int)+1) (by omega) (by omega)]
   refine⟨by omega,by omega,by omega,by omega,⟨urD_w ((hx i hi).w k (by omega)),urD_w ((hy i hi).w k (by omega))⟩,fun h2=>?_,fun h2=>?_⟩
   ·rw[Bool.not_eq_true',decide_eq_false_iff_not] at h2
    exact⟨_,.inr ⟨rfl,fun h3=>h2 (h3 k (by omega)),_,rfl⟩,Gc.refl _ _⟩
   ·rw[Bool.not_eq_false',decide_eq_true_eq] at h2
    refine⟨(x i).n-(k+1),_,by omega,⟨k+1,rfl,by omega,fun j hj'=>?_,rfl⟩,Gc.refl _ _⟩
    by_cases hki:j=k
    ·subst hki;exact h2
    ·exact hj j (by omega)
  ·simp only[decide_eq_false_iff_not] at h1
   exact⟨_,.inl ⟨rfl,fun j hj'=>hj j (by omega),_,rfl⟩,Gc.refl _ _⟩
 ·rintro e t (⟨rfl,he,k,rfl⟩|⟨rfl,he,k,rfl⟩)
  ·refine Sat.of_eq (KK2a_eq n x n y false false i i k) ⟨.inl ⟨he,rfl,?_⟩⟩
   rw[w64_of (n:=(i:Int)+1) (by omega) (by omega)];rfl
  ·exact Sat.of_eq (KK2b_eq n x n y false false i i k) ⟨.inr ⟨he,rfl,rfl⟩⟩
open Classical in
theorem el_sat{m:Nat}(hn:n<=1000000000)(hx:∀i,i<n->FsOK (x i))(hy:∀i,i<m->FsOK (y i)):Sat Tryz.prog (tEl n x m y) (·=bv (decide (elQ n x m y))):=by
 refine Sat.of_eq (LEl_eq n x m y) ⟨?_⟩
 refine⟨⟨⟨hn,fun i hi=>⟨hx i hi,rfl⟩⟩,fun i hi=>⟨hy i hi,rfl⟩⟩,fun h=>?_,fun h=>?_⟩
 ·rw[Bool.not_eq_true',decide_eq_false_iff_not] at h
  rw[decide_eq_false (fun h2=>h h2.1)]
  rfl
 rw[Bool.not_eq_false',decide_eq_true_eq] at h
 have hnm:=h.1
 subst hnm
 refine code_satS CEq_ok DEq_ok (n:=200) (n0:=0) (nx:=0) (roots:=[]) (keep:=[0,1,4,5]) (drop:=[]) (h:=.nil) (c:=codeC (sub [0,1] (tEl n x n y))) (st:=codeS (sub [0,1] (tEl n x n y))) (k:=codeK (sub [0,1] (tEl n x n y))) (body:=bodyK1) (by kernel_rfl) (by kernel_rfl)
  (fun q t=>∃i:Nat,q=n-i/\i<=n/\(∀k,k<i->elR (x k) (y k))/\t=stK1 n x n y false i)
  (fun e t=>(e=.exit 0/\decide (elQ n x n y)=true/\∃i,t=stK1 n x n y false i)\/(e=.ret/\decide (elQ n x n y)=false/\∃i,t=stK1 n x n y false i))
  ⟨_,_,⟨0,rfl,by omega,fun k hk=>by omega,rfl⟩,?_⟩ ?_ ?_
 ·exact entA_sound (s':=stK1 n x n y false 0) (roots:=[]) (keep:=[0,1,4,5]) (drop:=[]) (nx:=0) (h:=.nil) (by kernel_rfl)
 ·rintro q t ⟨i,rfl,hi,hk,rfl⟩
  refine Sat.of_eq (BK1_eq n x n y false i) ⟨?_⟩
  refine⟨fun h1=>?_,fun h1=>?_⟩
  ·simp only[decide_eq_true_eq] at h1
   have hlt:i<n:=by omega
   have k0:=el2_sat (x:=x) (y:=y) hn hx hy hlt (h.2 i hlt) _ rfl
   generalize atCode (sub [0] (bK1 n x n y false i))=T at k0 ⊢
   refine Tree.sat_mono (fun r hr=>?_) k0.ok
   obtain⟨ex,st⟩:=r
   rcases hr with⟨e5,e6,e7⟩|⟨e5,e6,e7⟩
   ·obtain rfl:ex=.normal:=e6
    obtain rfl:st=stK1 n x n y false ((i+1:Nat):Int):=e7
    refine⟨n-(i+1),_,by omega,⟨i+1,rfl,by omega,fun k hk'=>?_,rfl⟩,Gc.refl _ _⟩
    by_cases hki:k=i
    ·subst hki;exact e5
    ·exact hk k (by omega)
   ·obtain rfl:ex=.ret:=e6
    obtain rfl:st=stK1 n x n y false i:=e7
    exact⟨_,.inr ⟨rfl,decide_eq_false (fun h3=>e5 (h3.2 i hlt)),_,rfl⟩,Gc.refl _ _⟩
  ·simp only[decide_eq_false_iff_not] at h1
   obtain rfl:i=n:=by omega
   exact⟨_,.inl ⟨rfl,decide_eq_true ⟨h,hk⟩,_,rfl⟩,Gc.refl _ _⟩
 ·rintro e t (⟨rfl,he,i,rfl⟩|⟨rfl,he,i,rfl⟩)
  ·exact Sat.of_eq (KK1a_eq n x n y false i) ⟨by rw[he];rfl⟩
  ·exact Sat.of_eq (KK1b_eq n x n y false i) ⟨by rw[he];rfl⟩
end
open Classical in
noncomputable def cEl:Ctr:=fun ss=>match ss with
 |[.d (.ro n 1 A),.d (.ro m 1 B)]=>.need ((n<=1000000000/\SsD n A)/\SsD m B) (.ret (bv (decide (elQ n (fun i=>fsOf (A i)) m (fun i=>fsOf (B i))))))
 |_=>.fail
theorem cEl_ok:CtrOK Tryz.prog 29 cEl:=ctrOK_leS CEq_ok DEq_ok (by kernel_rfl) (by kernel_rfl) fun ss r h=>by
 unfold cEl at h
 split at h
 ·rename_i n A m B
  obtain⟨⟨⟨hn,h1⟩,h2⟩,rfl⟩:=h
  refine⟨[ssS n fun i=>fsOf (A i),ssS m fun i=>fsOf (B i)],200,.nil,?_,el_sat hn (fun i hi=>(h1 i hi).1) fun i hi=>(h2 i hi).1⟩
  unfold ssS
  simp only[leSVs,leSV,leD,and_true,true_and]
  refine⟨fun i j hi hj=>?_,fun i j hi hj=>?_⟩
  ·obtain rfl:j=0:=by omega
   exact(h1 i hi).2
  ·obtain rfl:j=0:=by omega
   exact(h2 i hi).2
 ·exact h.elim
end Go.Proofs.YtanlnopgadbpjaaGreat.Rm
namespace Go.Sx
def stopAt(k:Nat):Nat->Bool:=fun id=>Nat.beq id k
def leafS:Tree AS->AS
 |.ret s=>s
 |.need _ t=>leafS t
 |_=>⟨[],[],0,.nil⟩
def exF(n:Nat->Nat)(a:Nat->Option Addr)(c:Nat->Nat):Nat->Nat->DV:=fun k _=>.x (.slice (a k) (n k) (c k))
def exS(m:Nat->Nat)(n:Nat->Nat->Nat)(A:Nat->Nat->Option Addr)(C:Nat->Nat->Nat):Nat->Nat->DV:=fun p _=>.ro (m p) 1 (exF (n p) (A p) (C p))
def opsOf:Code->Array Oper
 |.region _ ops _=>ops
 |_=>#[]
def regIn(id:Nat):Code->List Code
 |.seq a b=>regIn id a++regIn id b
 |.cond _ a b=>regIn id a++regIn id b
 |.block _ a=>regIn id a
 |.loop a=>regIn id a
 |.scope a=>regIn id a
 |.region k ops d=>if Nat.beq k id then [.region k ops d] else []
 |_=>[]
def regAt(id:Nat)(c:Code):Code:=(regIn id c).headD .skip
end Go.Sx
namespace Go.Proofs.YtanlnopgadbpjaaGreat.Rw
open Go.Proofs.YtanlnopgadbpjaaGreat.Rm
open Go.Sx
theorem d00_drawn:DrOK Tryz.prog C00 (fun _=>drawn Tryz.prog C00):=drawn_ok C00_ok mixed
noncomputable def tCp(n:Nat)(x:Nat->FsT):Tree SV:=fnTG Tryz.prog C00 (stopAt 9) 200 (fnOf Tryz.prog 35) (bodyOf Tryz.prog 35) [ssS n x] .nil
noncomputable def bodyP1:Code:=loopN (bodyOf Tryz.prog 35) 0
noncomputable def bodyP2:Code:=loopN (bodyOf Tryz.prog 35) 1
noncomputable def slY(l:List (Nat×SV)):List TV:=(List.range 43).map fun k=>match l.find? (fun e=>Nat.beq e.1 k) with|some e=>.ok e.2|none=>.unk
section
variable (n : Nat) (x : Nat → FsT) (m : Nat) (c : Nat → Nat → Sx.DV) (i : Int)
noncomputable def stP1:AS:=⟨slY [(0,ssS n x),(3,.row 1 0 0 m 1),(4,iv i)],[none,some (.row m 1 c)],2,.nil⟩
noncomputable def bP1:Tree (Ex×AS):=cutT 1 [(.slot 3,1)] [0,3,4] [0] 2 .nil (execG Tryz.prog C00 (stopAt 9) 200 bodyP1 (stP1 n x m c i))
noncomputable def BP1:Tree (Ex×AS):=.ite (decide (i<(n:Int))) (atCode (sub [0] (bP1 n x m c i))) (.ret (.exit 0,stP1 n x m c i))
theorem BP1_eq:bP1 n x m c i=BP1 n x m c i:=by kernel_rfl
theorem LCp_eq:tCp n x=atCode (sub [] (tCp n x)):=by kernel_rfl
variable (q : Nat) (d : Nat → Nat → Sx.DV) (k : Int)
noncomputable def stP2:AS:=⟨slY [(0,ssS n x),(3,.row 1 0 0 m 1),(4,iv i),(5,.row 3 0 0 q 1),(6,iv k)],[none,some (.row m 1 c),none,some (.row q 1 d)],4,.nil⟩
noncomputable def bP2:Tree (Ex×AS):=cutT 3 [(.slot 5,3)] [0,3,4,5,6] [2] 4 .nil (execG Tryz.prog C00 (stopAt 9) 200 bodyP2 (stP2 n x m c i q d k))
noncomputable def BP2:Tree (Ex×AS):=.need (0<=i/\i<(n:Int)) (.ite (decide (k<((x i.toNat).n:Int))) (atCode (sub [0,0] (bP2 n x m c i q d k))) (.ret (.exit 2,stP2 n x m c i q d k)))
theorem BP2_eq:bP2 n x m c i q d k=BP2 n x m c i q d k:=by kernel_rfl
noncomputable def rg9:Code:=regAt 9 (bodyOf Tryz.prog 35)
noncomputable def pre9:List Oper:=(opsOf rg9).toList.take 11
noncomputable def suf9:List Oper:=(opsOf rg9).toList.drop 11
theorem rg9_eq:codeC (sub [0,0] (bP2 n x m c i q d k))=rg9:=by kernel_rfl
noncomputable def sg9:AS:=codeS (sub [0,0] (bP2 n x m c i q d k))
noncomputable def tp9:Tree AS:=runOps Tryz.prog C00 inlNo (opsOf rg9) pre9 (sg9 n x m c i q d k)
noncomputable def sh9:AS:=leafS (tp9 n x m c i q d k)
theorem TP9_eq:tp9 n x m c i q d k=.need (0<=i/\i<(n:Int)) (.need (0<=k/\k<((x i.toNat).n:Int)) (.need ((0:Nat)<=0/\True/\(0+((x i.toNat).f k.toNat).n)*8<=140737488355328) (.ret (sh9 n x m c i q d k)))):=by kernel_rfl
theorem sh9_34:tget (sh9 n x m c i q d k).tm 34=.ok (.row 5 0 0 (0+((x i.toNat).f k.toNat).n) 1):=by kernel_rfl
theorem sh9_5:hget (sh9 n x m c i q d k).hp 5=some (.row (0+((x i.toNat).f k.toNat).n) 1 fun a b=>.x (.int .u64 (((x i.toNat).f k.toNat).w (a-0)))):=by kernel_rfl
variable (ad : Option Addr) (cap : Nat)
noncomputable def si9:AS:={ sh9 n x m c i q d k with tm:=(sh9 n x m c i q d k).tm.set 34 (.ok (.d (.x (.slice ad (0+((x i.toNat).f k.toNat).n) cap)))),hp:=hset (sh9 n x m c i q d k).hp 5 none }
noncomputable def tq9:Tree AS:=runOps Tryz.prog C00 inlNo (opsOf rg9) suf9 (si9 n x m c i q d k ad cap)
noncomputable def sj9:AS:=leafS (tq9 n x m c i q d k ad cap)
noncomputable def dN9(a b:Nat):Sx.DV:=selD (decide (a<q)) (d (0+a) b) (dsAt [.x (.slice ad (0+((x i.toNat).f k.toNat).n) cap)] (0+(0+(a-q))*1+b))
theorem TQ9_eq:tq9 n x m c i q d k ad cap=.need (0+q<=q/\1<=1/\(q+1)*24<=140737488355328) (.ret (sj9 n x m c i q d k ad cap)):=by kernel_rfl
theorem KP9_eq:codeK (sub [0,0] (bP2 n x m c i q d k)) .normal (sj9 n x m c i q d k ad cap)=.ret (.normal,stP2 n x m c i (q+1) (dN9 x i q d k ad cap) (w64 (k+1))):=by kernel_rfl
noncomputable def cN9(a b:Nat):Sx.DV:=selD (decide (a<m)) (c (0+a) b) (dsAt [.ro q 1 fun i j=>d (0+i) j] (0+(0+(a-m))*1+b))
theorem KP2_eq(c0:Nat->Nat->Sx.DV):codeK (sub [0] (bP1 n x m c0 i)) (.exit 2) (stP2 n x m c i q d k)=.need (0+q<=q) (.need (0+m<=m/\1<=1/\(m+1)*24<=140737488355328) (.ret (.normal,stP1 n x (m+1) (cN9 m c q d) (w64 (i+1))))):=by kernel_rfl
theorem KP1_eq:codeK (sub [] (tCp n x)) (.exit 0) (stP1 n x m c i)=.need (0+m<=m) (.ret (.d (.ro m 1 fun i j=>c (0+i) j))):=by kernel_rfl
theorem EP1_eq:entA 1 [(.slot 3,1)] [0,3,4] [0] 2 .nil (tCp n x)=some ⟨slY [(0,ssS n x),(3,.row 1 0 0 0 1),(4,iv 0)],[none,some (.cells [])],2,.nil⟩:=by kernel_rfl
theorem EP2_eq:entA 3 [(.slot 5,3)] [0,3,4,5,6] [2] 4 .nil (sub [0] (bP1 n x m c i))=some ⟨slY [(0,ssS n x),(3,.row 1 0 0 m 1),(4,iv i),(5,.row 3 0 0 0 1),(6,iv 0)],[none,some (.row m 1 c),none,some (.cells [])],4,.nil⟩:=by kernel_rfl
end
theorem rg9_reg:rg9=.region 9 (opsOf rg9) false:=by kernel_rfl
theorem rg9_ops:(opsOf rg9).toList=pre9++suf9:=(List.take_append_drop 11 _).symm
theorem sat_n1{P:Program}{p1:Prop}{s:AS}(h1:p1):Sat P (Tree.need p1 (.ret s)) (·=s):=⟨h1,rfl⟩
theorem sat_n3{P:Program}{p1 p2 p3:Prop}{s:AS}(h1:p1)(h2:p2)(h3:p3):Sat P (Tree.need p1 (.need p2 (.need p3 (.ret s)))) (·=s):=⟨h1,h2,h3,rfl⟩
theorem concG_normal{p:Par}{μ0:Mu}{Q:Ex->AS->Gh->Prop}{s:AS}{B:Gh}{a:Act}{w:World}(h:Q .normal s B)(hs:SimG p μ0 s B a w):concG p μ0 Q .normal a w:=⟨s,B,h,hs⟩
section
variable (n : Nat) (x : Nat → FsT) (m : Nat) (c : Nat → Nat → Sx.DV) (i : Int) (q : Nat) (d : Nat → Nat → Sx.DV) (k : Int)
theorem hpre9(h1:0<=i/\i<(n:Int))(h2:0<=k/\k<((x i.toNat).n:Int))(h3:(0+((x i.toNat).f k.toNat).n)*8<=140737488355328):Sat Tryz.prog (tp9 n x m c i q d k) (·=sh9 n x m c i q d k):=by
 rw[TP9_eq]
 exact sat_n3 h1 h2 ⟨Nat.le_refl _,trivial,h3⟩
theorem hsuf9(ad:Option Addr)(cap:Nat)(h4:(q+1)*24<=140737488355328):Sat Tryz.prog (tq9 n x m c i q d k ad cap) (·=sj9 n x m c i q d k ad cap):=by
 rw[TQ9_eq]
 exact sat_n1 ⟨by omega,Nat.le_refl _,h4⟩
theorem rg9_G(B:Gh)(h1:0<=i/\i<(n:Int))(h2:0<=k/\k<((x i.toNat).n:Int))(h3:(0+((x i.toNat).f k.toNat).n)*8<=140737488355328)(h4:(q+1)*24<=140737488355328):TripleG Tryz.prog rg9 (sg9 n x m c i q d k) B fun e s B'=>e=.normal/\∃ad cap,s=sj9 n x m c i q d k ad cap /\
  ((0+((x i.toNat).f k.toNat).n=0/\B'=B)\/∃b z,B b=none/\B'=ghSet B b z/\∃o,ad=some ⟨b,o,none⟩)/\Lies B' ad (0+((x i.toNat).f k.toNat).n) (fun j=>.int .u64 (((x i.toNat).f k.toNat).w j))/\CapOK ad (0+((x i.toNat).f k.toNat).n) cap:=by
 have hpre:=hpre9 n x m c i q d k h1 h2 h3
 have hsuf:=fun ad cap=>hsuf9 n x m c i q d k ad cap h4
 have e34:=sh9_34 n x m c i q d k
 have e5:=sh9_5 n x m c i q d k
 have esi:∀ad cap,si9 n x m c i q d k ad cap={ sh9 n x m c i q d k with tm:=(sh9 n x m c i q d k).tm.set 34 (.ok (.d (.x (.slice ad (0+((x i.toNat).f k.toNat).n) cap)))),hp:=hset (sh9 n x m c i q d k).hp 5 none }:=fun _ _=>rfl
 unfold tp9 at hpre
 unfold tq9 at hsuf
 generalize sh9 n x m c i q d k=sh at hpre e34 e5 esi
 generalize sg9 n x m c i q d k=sg at hpre ⊢
 generalize sj9 n x m c i q d k=sj at hsuf ⊢
 generalize si9 n x m c i q d k=si at hsuf esi
 intro p μ0 a w hs
 rw[rg9_reg]
 intro r _
 refine wpIn_region_list ?_
 rw[rg9_ops]
 refine runOps_listG C00_ok (inlNo_ok _ _) hs hpre.ok fun st a w hq hs=>?_
 subst hq
 obtain⟨ad,cap,B',hB,hL,hcp,hs⟩:=simG_detach hs e34 e5 (c:=fun j=>.int .u64 (((x i.toNat).f k.toNat).w (j-0))) (fun j hj=>rfl)
 rw[<- esi] at hs
 rw[<- List.append_nil suf9]
 refine runOps_listG C00_ok (inlNo_ok _ _) hs (hsuf ad cap).ok fun st a w hq hs=>?_
 subst hq
 exact concG_normal ⟨rfl,ad,cap,rfl,hB,hL,hcp⟩ hs
end
end Go.Proofs.YtanlnopgadbpjaaGreat.Rw
namespace Go.Sx
def mmF(x:Nat->FsT)(p:Nat):Nat:=(x p).n
def nnF(x:Nat->FsT)(p k:Nat):Nat:=((x p).f k).n
def wwF(x:Nat->FsT)(p k j:Nat):Int:=((x p).f k).w j
def Bef2(x:Nat->FsT)(i k:Nat)(p k':Nat):Prop:=(p<i/\k'<(x p).n)\/(p=i/\k'<k)
structure Sml(b n:Nat)(x:Nat->FsT):Prop where
 le:n<=b
 m:∀p,p<n->(x p).n<=b
 k:∀p k,p<n->k<(x p).n->((x p).f k).n<=b
end Go.Sx
namespace Go.Proofs.YtanlnopgadbpjaaGreat.Rw
open Go.Proofs.YtanlnopgadbpjaaGreat.Rm
open Go.Sx
theorem exS_upd(m:Nat->Nat)(n:Nat->Nat->Nat)(A:Nat->Nat->Option Addr)(C:Nat->Nat->Nat)(i k:Nat)(ad:Option Addr)(cap:Nat)(a b:Nat)(h:a<i):exS m n A C a b=exS m n (fun p k'=>if p=i/\k'=k then ad else A p k') (fun p k'=>if p=i/\k'=k then cap else C p k') a b:=by
 unfold exS exF
 congr 1
 funext k' j
 dsimp only
 rw[if_neg (by omega),if_neg (by omega)]
theorem dN9_eq(x:Nat->FsT)(i k:Nat)(A:Nat->Nat->Option Addr)(C:Nat->Nat->Nat)(ad:Option Addr)(cap:Nat)(a b:Nat)(ha:a<k+1)(hb:b<1):dN9 x i k (exF (nnF x i) (A i) (C i)) k ad cap a b =
  exF (nnF x i) ((fun p k'=>if p=i/\k'=k then ad else A p k') i) ((fun p k'=>if p=i/\k'=k then cap else C p k') i) a b:=by
 obtain rfl:b=0:=by omega
 unfold dN9
 rw[selD_eq,Nat.zero_add,show 0+(0+(a-k))*1+0=a-k by omega]
 unfold exF
 dsimp only
 by_cases h:a<k
 ·rw[decide_eq_true h,if_neg (by omega),if_neg (by omega)];rfl
 ·obtain rfl:a=k:=by omega
  rw[decide_eq_false (by omega),if_pos ⟨rfl,rfl⟩,if_pos ⟨rfl,rfl⟩,Nat.sub_self,Nat.zero_add]
  rfl
theorem cN9_eq(x:Nat->FsT)(i:Nat)(A:Nat->Nat->Option Addr)(C:Nat->Nat->Nat)(a b:Nat)(ha:a<i+1)(hb:b<1):cN9 i (exS (mmF x) (nnF x) A C) (mmF x i) (exF (nnF x i) (A i) (C i)) a b=exS (mmF x) (nnF x) A C a b:=by
 obtain rfl:b=0:=by omega
 unfold cN9
 rw[selD_eq,Nat.zero_add,show 0+(0+(a-i))*1+0=a-i by omega]
 by_cases h:a<i
 ·rw[decide_eq_true h];rfl
 ·obtain rfl:a=i:=by omega
  rw[decide_eq_false (by omega),Nat.sub_self]
  show DV.ro (mmF x a) 1 (fun i j=>exF (nnF x a) (A a) (C a) (0+i) j)=DV.ro (mmF x a) 1 (exF (nnF x a) (A a) (C a))
  congr 1
  funext i j
  rw[Nat.zero_add]
theorem satG_ret{α:Type}{P:Program}{a:α}{B:Gh}{Q:α->Gh->Prop}(h:Q a B):SatG P (.ret a) B Q:=⟨h⟩
section
variable {n : Nat} {x : Nat → FsT}
theorem cp3_sat(hs:Sml 1000 n x){i k:Nat}(hi:i<n)(hk:k<=mmF x i){A:Nat->Nat->Option Addr}{C:Nat->Nat->Nat}{B:Gh}(hB:Nst B (nnF x) (wwF x) A C (Bef2 x i k)) :
  SatG Tryz.prog (bP2 n x i (exS (mmF x) (nnF x) A C) i k (exF (nnF x i) (A i) (C i)) k) B fun r B'=>(k<mmF x i/\r.1=.normal/\∃A' C',Nst B' (nnF x) (wwF x) A' C' (Bef2 x i (k+1))/\Gc 3 r.2 (stP2 n x i (exS (mmF x) (nnF x) A' C') i (k+1) (exF (nnF x i) (A' i) (C' i)) ((k+1:Nat):Int))) \/
   (k=mmF x i/\r.1=.exit 2/\B'=B/\r.2=stP2 n x i (exS (mmF x) (nnF x) A C) i k (exF (nnF x i) (A i) (C i)) k):=by
 have hm:=hs.m i hi
 refine SatG.of_eq (BP2_eq _ _ _ _ _ _ _ _) ⟨?_⟩
 unfold BP2
 rw[Int.toNat_natCast]
 refine⟨by omega,fun h1=>?_,fun h1=>?_⟩
 ·simp only[decide_eq_true_eq] at h1
  have hlt:k<(x i).n:=by omega
  have hn:=hs.k i k hi hlt
  refine cut_satG _ (c:=codeC (sub [0,0] (bP2 n x i (exS (mmF x) (nnF x) A C) i k (exF (nnF x i) (A i) (C i)) k))) (by rw[rg9_eq];exact rg9_G n x i (exS (mmF x) (nnF x) A C) i k (exF (nnF x i) (A i) (C i)) k B (by omega) (by rw[Int.toNat_natCast];omega) (by rw[Int.toNat_natCast,Int.toNat_natCast];omega) (by omega)) ?_
  intro e s B' h
  obtain⟨he,ad,cap,hss,hb,hl,hcp⟩:=h
  subst he
  rw[hss]
  clear hss
  rw[Int.toNat_natCast,Int.toNat_natCast,Nat.zero_add] at hb hl hcp
  refine SatG.of_eq (KP9_eq n x i (exS (mmF x) (nnF x) A C) i k (exF (nnF x i) (A i) (C i)) k ad cap) (satG_ret (Or.inl ⟨hlt,rfl,(fun p k'=>if p=i/\k'=k then ad else A p k'),(fun p k'=>if p=i/\k'=k then cap else C p k'),?_,?_⟩))
  ·refine hB.add hcp hb hl fun p k' h=>?_
   unfold Bef2 at h ⊢
   omega
  ·rw[w64_of (n:=(k:Int)+1) (by omega) (by omega)]
   have e2:((k+1:Nat):Int)=(k:Int)+1:=by omega
   rw[e2]
   unfold stP2
   refine gc_hp rfl rfl ⟨.inl rfl,.inr ⟨_,_,rfl,rfl,.row fun a b ha hb=>exS_upd _ _ _ _ _ _ _ _ _ _ ha⟩,.inl rfl,.inr ⟨_,_,rfl,rfl,.row fun a b ha hb=>?_⟩,trivial⟩
   have e3:dN9 x (i:Int) k (exF (nnF x i) (A i) (C i)) (k:Int) ad cap a b=dN9 x (i:Nat) k (exF (nnF x i) (A i) (C i)) (k:Nat) ad cap a b:=rfl
   exact dN9_eq x i k A C ad cap a b ha hb
 ·simp only[decide_eq_false_iff_not] at h1
  obtain rfl:k=mmF x i:=by unfold mmF at hk ⊢;omega
  exact .inr ⟨rfl,rfl,rfl,rfl⟩
theorem cp2_sat(hs:Sml 1000 n x){i:Nat}(hi:i<n){A:Nat->Nat->Option Addr}{C:Nat->Nat->Nat}{B:Gh}(hB:Nst B (nnF x) (wwF x) A C (Bef2 x i 0)) :
  SatG Tryz.prog (atCode (sub [0] (bP1 n x i (exS (mmF x) (nnF x) A C) i))) B fun r B'=>r.1=.normal/\∃A' C',Nst B' (nnF x) (wwF x) A' C' (Bef2 x (i+1) 0)/\Gc 1 r.2 (stP1 n x (i+1) (exS (mmF x) (nnF x) A' C') ((i+1:Nat):Int)):=by
 have hn:=hs.le
 have hm:=hs.m i hi
 refine⟨code_satG C00_ok d00_drawn (stop:=stopAt 9) (n:=200) (n0:=3) (nx:=4) (roots:=[(.slot 5,3)]) (keep:=[0,3,4,5,6]) (drop:=[2]) (h:=.nil) (body:=bodyP2) (by kernel_rfl) (by kernel_rfl)
  (fun q t B=>∃(k:Nat) (A:Nat->Nat->Option Addr) (C:Nat->Nat->Nat),q=mmF x i-k/\k<=mmF x i/\Nst B (nnF x) (wwF x) A C (Bef2 x i k)/\t=stP2 n x i (exS (mmF x) (nnF x) A C) i k (exF (nnF x i) (A i) (C i)) k)
  (fun e t B=>e=.exit 2/\∃(A:Nat->Nat->Option Addr) (C:Nat->Nat->Nat),Nst B (nnF x) (wwF x) A C (Bef2 x i (mmF x i))/\t=stP2 n x i (exS (mmF x) (nnF x) A C) i (mmF x i) (exF (nnF x i) (A i) (C i)) (mmF x i))
  ⟨_,_,⟨0,A,C,rfl,Nat.zero_le _,hB,rfl⟩,?_⟩ ?_ ?_⟩
 ·refine(entA_sound (EP2_eq n x i (exS (mmF x) (nnF x) A C) i)).trans ?_
  unfold stP2
  exact gc_hp rfl rfl ⟨.inl rfl,.inr ⟨_,_,rfl,rfl,.refl _⟩,.inl rfl,.inr ⟨_,_,rfl,rfl,.cells rfl fun x y hx hy=>absurd hx (Nat.not_lt_zero _)⟩,trivial⟩
 ·rintro q t B ⟨k,A,C,rfl,hk,hB,rfl⟩
  refine(cp3_sat hs hi hk hB).mono fun r B' hr=>?_
  obtain⟨ex,st⟩:=r
  rcases hr with⟨h1,h2,A',C',h3,h4⟩|⟨h1,h2,h3,h4⟩
  ·obtain rfl:ex=.normal:=h2
   exact⟨mmF x i-(k+1),_,by omega,⟨k+1,A',C',rfl,h1,h3,rfl⟩,h4⟩
  ·obtain rfl:ex=.exit 2:=h2
   obtain rfl:st=stP2 n x i (exS (mmF x) (nnF x) A C) i k (exF (nnF x i) (A i) (C i)) k:=h4
   subst h1;subst h3
   exact⟨_,⟨rfl,A,C,hB,rfl⟩,Gc.refl _ _⟩
 ·intro e t B' h
  obtain⟨he,A1,C1,hB,ht⟩:=h
  subst he
  rw[ht]
  clear ht
  refine SatG.of_eq (KP2_eq n x i (exS (mmF x) (nnF x) A1 C1) i (mmF x i) (exF (nnF x i) (A1 i) (C1 i)) (mmF x i) (exS (mmF x) (nnF x) A C)) ⟨?_⟩
  have hmm:mmF x i<=1000:=hm
  refine⟨by omega,⟨by omega,Nat.le_refl _,by omega⟩,rfl,A1,C1,hB.sub fun p k h=>?_,?_⟩
  ·unfold Bef2 at h ⊢;unfold mmF
   rcases h with h|h
   ·by_cases e:p=i
    ·subst e;exact .inr ⟨rfl,h.2⟩
    ·exact .inl ⟨by omega,h.2⟩
   ·omega
  ·rw[w64_of (n:=(i:Int)+1) (by omega) (by omega)]
   have e2:((i+1:Nat):Int)=(i:Int)+1:=by omega
   rw[e2]
   unfold stP1
   exact gc_hp rfl rfl ⟨.inl rfl,.inr ⟨_,_,rfl,rfl,.row fun a b ha hb=>cN9_eq x i A1 C1 a b ha hb⟩,trivial⟩
def cpP(n:Nat)(x:Nat->FsT)(d:Sx.DV)(B:Gh):Prop:=∃A C,d=.ro n 1 (exS (mmF x) (nnF x) A C)/\Nst B (nnF x) (wwF x) A C fun p k=>p<n/\k<(x p).n
theorem cp_sat(hs:Sml 1000 n x):SatG Tryz.prog (tCp n x) noGh fun a B=>∃d,a=.d d/\cpP n x d B:=by
 have hn:=hs.le
 refine SatG.of_eq (LCp_eq n x) ⟨?_⟩
 refine code_satG C00_ok d00_drawn (stop:=stopAt 9) (n:=200) (n0:=1) (nx:=2) (roots:=[(.slot 3,1)]) (keep:=[0,3,4]) (drop:=[0]) (h:=.nil) (body:=bodyP1) (by kernel_rfl) (by kernel_rfl)
  (fun q t B=>∃(i:Nat) (A:Nat->Nat->Option Addr) (C:Nat->Nat->Nat),q=n-i/\i<=n/\Nst B (nnF x) (wwF x) A C (Bef2 x i 0)/\t=stP1 n x i (exS (mmF x) (nnF x) A C) i)
  (fun e t B=>e=.exit 0/\∃(A:Nat->Nat->Option Addr) (C:Nat->Nat->Nat),Nst B (nnF x) (wwF x) A C (Bef2 x n 0)/\t=stP1 n x n (exS (mmF x) (nnF x) A C) n)
  ⟨_,_,⟨0,fun _ _=>none,fun _ _=>0,rfl,Nat.zero_le _,⟨fun p k h=>?_,fun p k p' k' h=>?_,fun p k h=>?_⟩,rfl⟩,?_⟩ ?_ ?_
 ·unfold Bef2 at h;omega
 ·unfold Bef2 at h;omega
 ·unfold Bef2 at h;omega
 ·refine(entA_sound (EP1_eq n x)).trans ?_
  unfold stP1
  exact gc_hp rfl rfl ⟨.inl rfl,.inr ⟨_,_,rfl,rfl,.cells rfl fun x y hx hy=>absurd hx (Nat.not_lt_zero _)⟩,trivial⟩
 ·rintro q t B ⟨i,A,C,rfl,hi,hB,rfl⟩
  refine SatG.of_eq (BP1_eq n x i (exS (mmF x) (nnF x) A C) i) ⟨?_⟩
  refine⟨fun h1=>?_,fun h1=>?_⟩
  ·simp only[decide_eq_true_eq] at h1
   have hlt:i<n:=by omega
   refine Tree.satG_mono (fun r B' hr=>?_) (cp2_sat hs hlt hB).ok
   obtain⟨ex,st⟩:=r
   obtain⟨h2,A',C',h3,h4⟩:=hr
   obtain rfl:ex=.normal:=h2
   exact⟨n-(i+1),_,by omega,⟨i+1,A',C',rfl,hlt,h3,rfl⟩,h4⟩
  ·simp only[decide_eq_false_iff_not] at h1
   obtain rfl:i=n:=by omega
   exact⟨_,⟨rfl,A,C,hB,rfl⟩,Gc.refl _ _⟩
 ·intro e t B' h
  obtain⟨he,A,C,hB,ht⟩:=h
  subst he
  rw[ht]
  clear ht
  refine SatG.of_eq (KP1_eq n x n (exS (mmF x) (nnF x) A C) n) ⟨?_⟩
  refine⟨by omega,_,rfl,A,C,?_,hB.sub fun p k h=>.inl h⟩
  congr 1
  funext i j
  rw[Nat.zero_add]
theorem cp_ok(hs:Sml 1000 n x):GCtr Tryz.prog 35 [ssS n x] (cpP n x):=gctr_of C00_ok d00_drawn (by kernel_rfl) (by kernel_rfl) (cp_sat hs)
end
end Go.Proofs.YtanlnopgadbpjaaGreat.Rw
namespace Go.Sx
def stopW:Nat->Bool:=fun id=>Nat.beq id 1||Nat.beq id 17
end Go.Sx
namespace Go.Proofs.YtanlnopgadbpjaaGreat.Rw
open Go.Proofs.YtanlnopgadbpjaaGreat.Rm
open Go.Sx
structure LwT where
 q:Nat
 w:Nat->Nat->Int
noncomputable def lwS(lw:LwT):SV:=.d (.ro lw.q 2 fun i j=>.x (.int .u64 (lw.w i j)))
noncomputable def bodyW1:Code:=loopN (bodyOf Tryz.prog 6) 0
noncomputable def bodyW2:Code:=loopN (bodyOf Tryz.prog 6) 1
noncomputable def bodyW3:Code:=loopN (bodyOf Tryz.prog 6) 2
noncomputable def bodyW4:Code:=loopN (bodyOf Tryz.prog 6) 3
noncomputable def slW(l:List (Nat×SV)):List TV:=(List.range 76).map fun k=>match l.find? (fun e=>Nat.beq e.1 k) with|some e=>.ok e.2|none=>.unk
section
variable (n : Nat) (x : Nat → FsT) (lw : LwT)
noncomputable def tWd:Tree SV:=fnTG Tryz.prog C00 stopW 200 (fnOf Tryz.prog 6) (bodyOf Tryz.prog 6) [ssS n x,lwS lw] .nil
theorem LWd_eq:tWd n x lw=atCode (sub [] (tWd n x lw)):=by kernel_rfl
noncomputable def rg1:Code:=regAt 1 (bodyOf Tryz.prog 6)
theorem rg1_eq:codeC (sub [] (tWd n x lw))=rg1:=by kernel_rfl
noncomputable def sg1:AS:=codeS (sub [] (tWd n x lw))
noncomputable def tp1:Tree AS:=runOps Tryz.prog C00 inlNo (opsOf rg1) ((opsOf rg1).toList.take 1) (sg1 n x lw)
noncomputable def sh1:AS:=leafS (tp1 n x lw)
theorem TP1_eq:tp1 n x lw=.ret (sh1 n x lw):=by kernel_rfl
variable (m : Nat → Nat) (nn : Nat → Nat → Nat) (A : Nat → Nat → Option Addr) (C : Nat → Nat → Nat)
noncomputable def outS:SV:=.d (.ro n 1 (exS m nn A C))
noncomputable def si1:AS:={ sh1 n x lw with tm:=(sh1 n x lw).tm.set 13 (.ok (outS n m nn A C)) }
noncomputable def tq1:Tree AS:=runOps Tryz.prog C00 inlNo (opsOf rg1) ((opsOf rg1).toList.drop 2) (si1 n x lw m nn A C)
noncomputable def sj1:AS:=leafS (tq1 n x lw m nn A C)
theorem TQ1_eq:tq1 n x lw m nn A C=.ret (sj1 n x lw m nn A C):=by kernel_rfl
noncomputable def tW1:Tree SV:=codeK (sub [] (tWd n x lw)) .normal (sj1 n x lw m nn A C)
theorem KW0_eq:tW1 n x lw m nn A C=atCode (sub [] (tW1 n x lw m nn A C)):=by kernel_rfl
noncomputable def stW1(i:Int):AS:=⟨slW [(1,lwS lw),(5,outS n m nn A C),(6,iv i)],[],0,.nil⟩
theorem EW1_eq:entA 0 [] [1,5,6] [] 0 .nil (tW1 n x lw m nn A C)=some (stW1 n lw m nn A C 0):=by kernel_rfl
noncomputable def bW1(i:Int):Tree (Ex×AS):=cutT 0 [] [1,5,6] [] 0 .nil (execG Tryz.prog C00 stopW 200 bodyW1 (stW1 n lw m nn A C i))
noncomputable def BW1(i:Int):Tree (Ex×AS) :=
 .ite (decide (i<((lw.q:Nat):Int))) (.need (0<=i/\i<((lw.q:Nat):Int)) (.need ((0:Int)<=0/\(0:Int)<((2:Nat):Int)) (.need ((64:Int)≠0) (atCode (sub [0,0,0,0] (bW1 n lw m nn A C i)))))) (.ret (.exit 0,stW1 n lw m nn A C i))
theorem BW1_eq(i:Int):bW1 n lw m nn A C i=BW1 n lw m nn A C i:=by kernel_rfl
noncomputable def u64d(a:Int):SV:=.d (.x (.int .u64 a))
variable (i a c p : Int)
noncomputable def stW2:AS:=⟨slW [(1,lwS lw),(5,outS n m nn A C),(6,iv i),(7,iv c),(8,u64d a),(9,iv p)],[],0,.nil⟩
theorem EW2_eq:entA 0 [] [1,5,6,7,8,9] [] 0 .nil (sub [0,0,0,0] (bW1 n lw m nn A C i))=some (stW2 n lw m nn A C i (Int.tmod (lw.w i.toNat 0) 64) 0 0):=by kernel_rfl
noncomputable def bW2:Tree (Ex×AS):=cutT 0 [] [1,5,6,7,8,9] [] 0 .nil (execG Tryz.prog C00 stopW 200 bodyW2 (stW2 n lw m nn A C i a c p))
theorem BW2_eq:bW2 n lw m nn A C i a c p=.ite (decide (p<(n:Int))) (atCode (sub [0] (bW2 n lw m nn A C i a c p))) (.ret (.exit 2,stW2 n lw m nn A C i a c p)):=by kernel_rfl
theorem KW1_eq(i0:Int):codeK (sub [0,0,0,0] (bW1 n lw m nn A C i0)) (.exit 2) (stW2 n lw m nn A C i a c p)=.ret (.normal,stW1 n lw m nn A C (w64 (i+1))):=by kernel_rfl
variable (k : Int)
noncomputable def stW3:AS:=⟨slW [(1,lwS lw),(5,outS n m nn A C),(6,iv i),(7,iv c),(8,u64d a),(9,iv p),(10,iv k)],[],0,.nil⟩
theorem EW3_eq:entA 0 [] [1,5,6,7,8,9,10] [] 0 .nil (sub [0] (bW2 n lw m nn A C i a c p))=some (stW3 n lw m nn A C i a c p 0):=by kernel_rfl
noncomputable def bW3:Tree (Ex×AS):=cutT 0 [] [1,5,6,7,8,9,10] [] 0 .nil (execG Tryz.prog C00 stopW 200 bodyW3 (stW3 n lw m nn A C i a c p k))
noncomputable def BW3:Tree (Ex×AS):=.need (0<=p/\p<(n:Int)) (.ite (decide (k<(m p.toNat:Int))) (atCode (sub [0,0] (bW3 n lw m nn A C i a c p k))) (.ret (.exit 4,stW3 n lw m nn A C i a c p k)))
theorem BW3_eq:bW3 n lw m nn A C i a c p k=BW3 n lw m nn A C i a c p k:=by kernel_rfl
theorem KW2_eq(c0:Int):codeK (sub [0] (bW2 n lw m nn A C i a c0 p)) (.exit 4) (stW3 n lw m nn A C i a c p k)=.ret (.normal,stW2 n lw m nn A C i a c (w64 (p+1))):=by kernel_rfl
variable (w : Int)
noncomputable def stW4:AS:=⟨slW [(1,lwS lw),(5,outS n m nn A C),(6,iv i),(7,iv c),(8,u64d a),(9,iv p),(10,iv k),(11,iv w)],[],0,.nil⟩
theorem EW4_eq:entA 0 [] [1,5,6,7,8,9,10,11] [] 0 .nil (sub [0,0] (bW3 n lw m nn A C i a c p k))=some (stW4 n lw m nn A C i a c p k 0):=by kernel_rfl
noncomputable def bW4:Tree (Ex×AS):=cutT 0 [] [1,5,6,7,8,9,10,11] [] 0 .nil (execG Tryz.prog C00 stopW 200 bodyW4 (stW4 n lw m nn A C i a c p k w))
noncomputable def BW4:Tree (Ex×AS):=.need (0<=p/\p<(n:Int)) (.need (0<=k/\k<(m p.toNat:Int)) (.ite (decide (w<(nn p.toNat k.toNat:Int)))
 (.ite (IntKind.wrap .u64 c==a) (atCode (sub [0,0,0,0] (bW4 n lw m nn A C i a c p k w))) (.ret (.normal,stW4 n lw m nn A C i a (w64 (c+1)) p k (w64 (w+1)))))
 (.ret (.exit 6,stW4 n lw m nn A C i a c p k w))))
theorem BW4_eq:bW4 n lw m nn A C i a c p k w=BW4 n lw m nn A C i a c p k w:=by kernel_rfl
theorem KW3_eq(c0:Int):codeK (sub [0,0] (bW3 n lw m nn A C i a c0 p k)) (.exit 6) (stW4 n lw m nn A C i a c p k w)=.ret (.normal,stW3 n lw m nn A C i a c p (w64 (k+1))):=by kernel_rfl
noncomputable def rg17:Code:=regAt 17 (bodyOf Tryz.prog 6)
theorem rg17_eq:codeC (sub [0,0,0,0] (bW4 n lw m nn A C i a c p k w))=rg17:=by kernel_rfl
noncomputable def sg17:AS:=codeS (sub [0,0,0,0] (bW4 n lw m nn A C i a c p k w))
noncomputable def pre17:List Oper:=(opsOf rg17).toList.take 15
noncomputable def op17:Oper:=(opsOf rg17).toList.getD 15 default
noncomputable def tp17:Tree AS:=dK Tryz.prog C00 (opsOf rg17) pre17 [] [] { sg17 n lw m nn A C i a c p k w with tm:=Sx.untag (sg17 n lw m nn A C i a c p k w).tm }
noncomputable def sh17:AS:=leafS (tp17 n lw m nn A C i a c p k w)
noncomputable def TP17:Tree AS:=.need (0<=p/\p<(n:Int)) (.need (0<=k/\k<(m p.toNat:Int)) (.need (0<=i/\i<((lw.q:Nat):Int)) (.need ((0:Int)<=1/\(1:Int)<((2:Nat):Int)) (.need (∃b o,A p.toNat k.toNat=some ⟨b,o,none⟩) (.need (0<=w/\w<(nn p.toNat k.toNat:Int)) (.ret (sh17 n lw m nn A C i a c p k w)))))))
theorem TP17_eq:tp17 n lw m nn A C i a c p k w=TP17 n lw m nn A C i a c p k w:=by kernel_rfl
theorem sh17_72:tget (sh17 n lw m nn A C i a c p k w).tm 72=.ok (.d (.x (.pointer ((A p.toNat k.toNat).map fun a=>⟨a.block,a.off+w.toNat*1,none⟩)))):=by kernel_rfl
theorem sh17_71:tget (sh17 n lw m nn A C i a c p k w).tm 71=.ok (.d (.x (.int .u64 (lw.w i.toNat 1)))):=by kernel_rfl
theorem rg17_reg:rg17=.region 17 (opsOf rg17) true:=by kernel_rfl
theorem rg17_last:lastAll pre17 op17=true:=by kernel_rfl
theorem rg17_edge:edgesOK 0 (opsOf rg17).toList=true:=by kernel_rfl
theorem op17_op:op17.op=.store 31 (.tmp 72) (.tmp 71):=by kernel_rfl
theorem op17_g:op17.guard=none:=by kernel_rfl
theorem op17_d:op17.dst=none:=by kernel_rfl
theorem KW4_eq:codeK (sub [0,0,0,0] (bW4 n lw m nn A C i a c p k w)) .normal (sh17 n lw m nn A C i a c p k w)=.ret (.normal,stW4 n lw m nn A C i a (w64 (c+1)) p k (w64 (w+1))):=by kernel_rfl
theorem KW9_eq:codeK (sub [] (tW1 n x lw m nn A C)) (.exit 0) (stW1 n lw m nn A C i)=.ret (.d (.ro n 1 (exS m nn A C))):=by kernel_rfl
end
theorem sat_n0{P:Program}{s:AS}:Sat P (Tree.ret s) (·=s):=⟨rfl⟩
theorem sat_n6{P:Program}{p1 p2 p3 p4 p5 p6:Prop}{s:AS}(h1:p1)(h2:p2)(h3:p3)(h4:p4)(h5:p5)(h6:p6):Sat P (Tree.need p1 (.need p2 (.need p3 (.need p4 (.need p5 (.need p6 (.ret s))))))) (·=s):=⟨h1,h2,h3,h4,h5,h6,rfl⟩
noncomputable def op1:Oper:=(opsOf rg1).toList.getD 1 default
noncomputable def ca1:Call:=match op1.op with
 |.call c=>c
 |_=>default
theorem op1_op:op1.op=.call ca1:=by kernel_rfl
theorem op1_g:op1.guard=none:=by kernel_rfl
theorem op1_d:op1.dst=some 13:=by kernel_rfl
theorem rg1_reg:rg1=.region 1 (opsOf rg1) false:=by kernel_rfl
theorem rg1_ops:(opsOf rg1).toList=(opsOf rg1).toList.take 1++(op1::(opsOf rg1).toList.drop 2):=by kernel_rfl
def AllF(n:Nat)(x:Nat->FsT)(p k:Nat):Prop:=p<n/\k<(x p).n
section
variable (n : Nat) (x : Nat → FsT) (lw : LwT)
theorem hpre1:Sat Tryz.prog (tp1 n x lw) (·=sh1 n x lw):=by rw[TP1_eq];exact sat_n0
theorem hsuf1(m:Nat->Nat)(nn:Nat->Nat->Nat)(A:Nat->Nat->Option Addr)(C:Nat->Nat->Nat):Sat Tryz.prog (tq1 n x lw m nn A C) (·=sj1 n x lw m nn A C):=by rw[TQ1_eq];exact sat_n0
theorem sh1_len:(sh1 n x lw).tm.length=76:=by kernel_rfl
theorem sh1_tag:noTag (sh1 n x lw).tm 13=true:=by kernel_rfl
theorem sh1_cnd:cndsT (sh1 n x lw).tm (opSlots op1)=[]:=by kernel_rfl
theorem sh1_cal:callee (rhoR (sh1 n x lw).tm none (opSlots op1)) ca1=some (35,[ssS n x]):=by kernel_rfl
theorem rg1_G(hs:Sml 1000 n x)(B:Gh):TripleG Tryz.prog rg1 (sg1 n x lw) B fun e s B'=>e=.normal/\∃A C,s=sj1 n x lw (mmF x) (nnF x) A C/\Nst B' (nnF x) (wwF x) A C (AllF n x):=by
 have hpre:=hpre1 n x lw
 have hsuf:=fun A C=>hsuf1 n x lw (mmF x) (nnF x) A C
 have e1:=sh1_len n x lw
 have e2:=sh1_tag n x lw
 have e3:=sh1_cnd n x lw
 have e4:=sh1_cal n x lw
 have esi:∀A C,si1 n x lw (mmF x) (nnF x) A C={ sh1 n x lw with tm:=(sh1 n x lw).tm.set 13 (.ok (.d (.ro n 1 (exS (mmF x) (nnF x) A C)))) }:=fun _ _=>rfl
 unfold tp1 at hpre
 unfold tq1 at hsuf
 generalize sh1 n x lw=sh at hpre e1 e2 e3 e4 esi
 generalize sg1 n x lw=sg at hpre ⊢
 obtain⟨sj,hsj⟩:∃sj,sj=fun A C=>sj1 n x lw (mmF x) (nnF x) A C:=⟨_,rfl⟩
 have hsj':∀A C,sj1 n x lw (mmF x) (nnF x) A C=sj A C:=fun A C=>by rw[hsj]
 simp only[hsj'] at hsuf ⊢
 obtain⟨si,hsi⟩:∃si,si=fun A C=>si1 n x lw (mmF x) (nnF x) A C:=⟨_,rfl⟩
 have hsi':∀A C,si1 n x lw (mmF x) (nnF x) A C=si A C:=fun A C=>by rw[hsi]
 simp only[hsi'] at hsuf esi
 clear hsj hsj' hsi hsi'
 intro p μ0 a w hss
 rw[rg1_reg]
 intro r _
 refine wpIn_region_list ?_
 rw[rg1_ops]
 refine runOps_listG C00_ok (inlNo_ok _ _) hss hpre.ok fun st a w hq hss=>?_
 subst hq
 refine gcall_op hss op1_op op1_g op1_d (by rw[e1];omega) e2 (k:=35) (by kernel_rfl) (by rw[e3];intro q hq;cases hq) e4 rfl (cp_ok hs) fun d B' v w' hd hss=>?_
 obtain⟨A,C,rfl,hN⟩:=hd
 rw[<- esi] at hss
 rw[<- List.append_nil ((opsOf rg1).toList.drop 2)]
 refine runOps_listG C00_ok (inlNo_ok _ _) hss (hsuf A C).ok fun st a w hq hss=>?_
 subst hq
 exact concG_normal ⟨rfl,A,C,rfl,hN⟩ hss
end
section
variable (n : Nat) (lw : LwT) (m : Nat → Nat) (nn : Nat → Nat → Nat) (A : Nat → Nat → Option Addr) (C : Nat → Nat → Nat) (i a c p k w : Int)
theorem hpre17(h1:0<=p/\p<(n:Int))(h2:0<=k/\k<(m p.toNat:Int))(h3:0<=i/\i<((lw.q:Nat):Int))(h4:∃b o,A p.toNat k.toNat=some ⟨b,o,none⟩)(h5:0<=w/\w<(nn p.toNat k.toNat:Int)):Sat Tryz.prog (tp17 n lw m nn A C i a c p k w) (·=sh17 n lw m nn A C i a c p k w):=by
 rw[TP17_eq]
 unfold TP17
 exact sat_n6 h1 h2 h3 (by omega) h4 h5
theorem rg17_split:(opsOf rg17).toList=pre17++[op17]:=by kernel_rfl
theorem rg17_G{S:Nat->Nat->Prop}{W:Nat->Nat->Nat->Int}(B:Gh)(hB:Nst B nn W A C S){p k w:Nat}(h1:p<n)(h2:k<m p)(h3:0<=i/\i<((lw.q:Nat):Int))(hS:S p k)(h5:w<nn p k):TripleG Tryz.prog rg17 (sg17 n lw m nn A C i a c p k w) B fun e s B'=>e=.normal/\s=sh17 n lw m nn A C i a c p k w /\
  Nst B' nn (fun p' k' j'=>if p'=p/\k'=k/\j'=w then lw.w i.toNat 1 else W p' k' j') A C S:=by
 obtain⟨b,o,cs,e,g1,g2,g3,g4⟩:=hB.store hS h5 (v:=lw.w i.toNat 1)
 have hpre:=hpre17 n lw m nn A C i a c p k w (by omega) (by rw[Int.toNat_natCast];omega) h3 ⟨b,o,g1⟩ (by rw[Int.toNat_natCast,Int.toNat_natCast];omega)
 have e72:=sh17_72 n lw m nn A C i a c p k w
 have e71:=sh17_71 n lw m nn A C i a c p k w
 rw[Int.toNat_natCast,Int.toNat_natCast,Int.toNat_natCast,g1,Nat.mul_one] at e72
 unfold tp17 at hpre
 generalize sh17 n lw m nn A C i a c p k w=sh at hpre e72 e71 ⊢
 generalize sg17 n lw m nn A C i a c p k w=sg at hpre ⊢
 intro q μ0 a' w' hss
 obtain⟨q',k1,k2⟩:=simG_open hss
 rw[rg17_reg]
 refine drawn_last C00_ok mixed rg17_split rg17_last rg17_edge k1 hpre.ok fun r s a2 w2 hs2 k3=>?_
 subst hs2
 have hss:=k2 _ _ _ k3
 have hss0:=hss
 obtain⟨μ,F,_,_,_,ht,_⟩:=hss0
 have v72:=ht 72
 have v71:=ht 71
 rw[e72] at v72
 rw[e71] at v71
 refine store_opG hss op17_op op17_g op17_d (b:=b) (off:=o+w) (v:=.int .u64 (lw.w i.toNat 1)) (rep_x v72) (rep_x v71) rfl rfl (by kernel_rfl) g2 g3 fun w3 hs3=>concG_normal ⟨rfl,rfl,g4⟩ hs3
end
end Go.Proofs.YtanlnopgadbpjaaGreat.Rw
namespace Go.Sx
def offK(nn:Nat->Nat->Nat)(p:Nat):Nat->Nat
 |0=>0
 |k+1=>offK nn p k+nn p k
def offP(m:Nat->Nat)(nn:Nat->Nat->Nat):Nat->Nat
 |0=>0
 |p+1=>offP m nn p+offK nn p (m p)
def posW(m:Nat->Nat)(nn:Nat->Nat->Nat)(p k j:Nat):Nat:=offP m nn p+offK nn p k+j
theorem offK_mono(nn:Nat->Nat->Nat)(p:Nat){k k':Nat}(h:k<=k'):offK nn p k<=offK nn p k':=by
 induction h with
 |refl=>exact Nat.le_refl _
 |step _ ih=>exact Nat.le_trans ih (Nat.le_add_right _ _)
theorem offP_mono(m:Nat->Nat)(nn:Nat->Nat->Nat){p p':Nat}(h:p<=p'):offP m nn p<=offP m nn p':=by
 induction h with
 |refl=>exact Nat.le_refl _
 |step _ ih=>exact Nat.le_trans ih (Nat.le_add_right _ _)
theorem posW_lt{m:Nat->Nat}{nn:Nat->Nat->Nat}{p k j p' k' j':Nat}(hk:k<m p)(hj:j<nn p k)(h:p<p'\/(p=p'/\(k<k'\/(k=k'/\j<j')))):posW m nn p k j<posW m nn p' k' j':=by
 unfold posW
 have e1:offK nn p (k+1)=offK nn p k+nn p k:=rfl
 have e2:offP m nn (p+1)=offP m nn p+offK nn p (m p):=rfl
 rcases h with h|⟨rfl,h|⟨rfl,h⟩⟩
 ·have h1:=offK_mono nn p (show k+1<=m p from hk)
  have h2:=offP_mono m nn (show p+1<=p' from h)
  omega
 ·have h1:=offK_mono nn p (show k+1<=k' from h)
  omega
 ·omega
theorem posW_inj{m:Nat->Nat}{nn:Nat->Nat->Nat}{p k j p' k' j':Nat}(hk:k<m p)(hj:j<nn p k)(hk':k'<m p')(hj':j'<nn p' k')(h:posW m nn p k j=posW m nn p' k' j'):p=p'/\k=k'/\j=j':=by
 rcases Nat.lt_trichotomy p p' with h1|h1|h1
 ·have:=posW_lt (j':=j') (k':=k') hk hj (.inl h1);omega
 ·subst h1
  rcases Nat.lt_trichotomy k k' with h2|h2|h2
  ·have:=posW_lt (j':=j') hk hj (.inr ⟨rfl,.inl h2⟩);omega
  ·subst h2
   refine⟨rfl,rfl,?_⟩
   unfold posW at h;omega
  ·have:=posW_lt (j':=j) hk' hj' (.inr ⟨rfl,.inl h2⟩);omega
 ·have:=posW_lt (j':=j) (k':=k) hk' hj' (.inl h1);omega
def wcF(m:Nat->Nat)(nn:Nat->Nat->Nat)(W:Nat->Nat->Nat->Int)(a:Nat)(v:Int)(c:Nat)(p k j:Nat):Int:=if posW m nn p k j=a/\a<c then v else W p k j
theorem wcF_step{m:Nat->Nat}{nn:Nat->Nat->Nat}{W:Nat->Nat->Nat->Int}{v:Int}{p k j p' k' j':Nat}(hk:k<m p)(hj:j<nn p k)(hk':k'<m p')(hj':j'<nn p' k') :
  (if p'=p/\k'=k/\j'=j then v else wcF m nn W (posW m nn p k j) v (posW m nn p k j) p' k' j')=wcF m nn W (posW m nn p k j) v (posW m nn p k j+1) p' k' j':=by
 unfold wcF
 by_cases h:p'=p/\k'=k/\j'=j
 ·obtain⟨rfl,rfl,rfl⟩:=h
  rw[if_pos ⟨rfl,rfl,rfl⟩,if_pos ⟨rfl,by omega⟩]
 ·rw[if_neg h,if_neg (by omega),if_neg]
  intro h2
  obtain⟨h3,h4,h5⟩:=posW_inj hk hj hk' hj' h2.1.symm
  exact h ⟨h3.symm,h4.symm,h5.symm⟩
theorem wcF_skip{m:Nat->Nat}{nn:Nat->Nat->Nat}{W:Nat->Nat->Nat->Int}{v:Int}{a c:Nat}(h:c≠a):wcF m nn W a v c=wcF m nn W a v (c+1):=by
 funext p k j
 unfold wcF
 by_cases h1:posW m nn p k j=a/\a<c
 ·rw[if_pos h1,if_pos ⟨h1.1,by omega⟩]
 ·rw[if_neg h1,if_neg (by omega)]
theorem wcF_zero{m:Nat->Nat}{nn:Nat->Nat->Nat}{W:Nat->Nat->Nat->Int}{v:Int}{a:Nat}:wcF m nn W a v 0=W:=by
 funext p k j
 unfold wcF
 rw[if_neg (by omega)]
theorem posW_le{n:Nat}{x:Nat->FsT}(hs:Sml 4 n x){p k j:Nat}(hp:p<=n)(hk:p<n->k<=(x p).n)(hk0:p=n->k=0)(hj:k<(x p).n->p<n->j<=((x p).f k).n)(hj0:(p=n\/k=(x p).n)->j=0):posW (mmF x) (nnF x) p k j<=64:=by
 have hn:=hs.le
 have h1:∀p,p<n->∀k,k<=(x p).n->offK (nnF x) p k<=4*k:=by
  intro p hp k
  induction k with
  |zero=>intro _;exact Nat.le_refl _
  |succ k ih =>
   intro hk
   have:=ih (by omega)
   have h2:=hs.k p k hp (by omega)
   show offK (nnF x) p k+((x p).f k).n<=_
   omega
 have h2:∀p,p<=n->offP (mmF x) (nnF x) p<=16*p:=by
  intro p
  induction p with
  |zero=>intro _;exact Nat.le_refl _
  |succ p ih =>
   intro hp
   have h3:=ih (by omega)
   have h4:=h1 p (by omega) (x p).n (Nat.le_refl _)
   have h5:=hs.m p (by omega)
   show offP (mmF x) (nnF x) p+offK (nnF x) p (x p).n<=_
   omega
 have h3:=h2 p hp
 unfold posW
 by_cases e:p=n
 ·have:=hj0 (.inl e)
  have:=hk0 e
  subst k
  have:offK (nnF x) p 0=0:=rfl
  omega
 ·have hp':p<n:=by omega
  have h4:=h1 p hp' k (hk hp')
  have h5:=hs.m p hp'
  have h6:=hk hp'
  by_cases e2:k=(x p).n
  ·have:=hj0 (.inr e2);omega
  ·have h7:=hj (by omega) hp'
   have h8:=hs.k p k hp' (by omega)
   omega
end Go.Sx
namespace Go.Proofs.YtanlnopgadbpjaaGreat.Rw
open Go.Proofs.YtanlnopgadbpjaaGreat.Rm
open Go.Sx
theorem wrap_u64{c:Nat}(h:c<=1000):IntKind.wrap .u64 (c:Int)=c:=by
 have:∀x:Int,IntKind.wrap .u64 x=x%18446744073709551616:=fun x=>by unfold IntKind.wrap;rfl
 rw[this];omega
theorem atCode_satG{α:Type}{P:Program}{t:Tree α}{B:Gh}{Q:α->Gh->Prop}{c:Code}{st:AS}(hc:codeC t=c)(hst:codeS t=st)(post:Ex->AS->Gh->Prop)(h:TripleG P c st B post)(hk:∀e s B',post e s B'->SatG P (codeK t e s) B' Q):SatG P (atCode t) B Q:=by
 subst hc;subst hst
 exact⟨post,h,fun e s B' hp=>(hk e s B' hp).ok⟩
theorem sg17_def(n:Nat)(lw:LwT)(m:Nat->Nat)(nn:Nat->Nat->Nat)(A:Nat->Nat->Option Addr)(C:Nat->Nat->Nat)(i a c p k w:Int):codeS (sub [0,0,0,0] (bW4 n lw m nn A C i a c p k w))=sg17 n lw m nn A C i a c p k w:=rfl
section
variable {n : Nat} {x : Nat → FsT} {lw : LwT} {A : Nat → Nat → Option Addr} {C : Nat → Nat → Nat} {a i : Nat}
def AtC(n:Nat)(x:Nat->FsT)(A:Nat->Nat->Option Addr)(C:Nat->Nat->Nat)(a:Nat)(v:Int)(c:Nat)(B:Gh):Prop:=Nst B (nnF x) (wcF (mmF x) (nnF x) (wwF x) a v c) A C (AllF n x)
theorem wd5_sat(hs:Sml 4 n x)(hi:i<lw.q){p k w c:Nat}(hp:p<n)(hk:k<mmF x p)(hw:w<=nnF x p k)(hc:c=posW (mmF x) (nnF x) p k w){B:Gh}(hB:AtC n x A C a (lw.w i 1) c B) :
  SatG Tryz.prog (bW4 n lw (mmF x) (nnF x) A C (i:Nat) a c p k w) B fun r B'=>(w<nnF x p k/\r.1=.normal/\AtC n x A C a (lw.w i 1) (c+1) B'/\r.2=stW4 n lw (mmF x) (nnF x) A C (i:Nat) a (c+1:Nat) p k (w+1:Nat)) \/
   (w=nnF x p k/\r.1=.exit 6/\B'=B/\r.2=stW4 n lw (mmF x) (nnF x) A C (i:Nat) a c p k w):=by
 have hc64:c<=64:=by rw[hc];exact posW_le hs (by omega) (fun _=>by unfold mmF at hk;omega) (by omega) (fun _ _=>hw) (fun h=>by unfold mmF at hk;omega)
 have hk':k<(x p).n:=hk
 have hn4:=hs.k p k hp hk'
 have hw4:w<=4:=Nat.le_trans hw hn4
 refine SatG.of_eq (BW4_eq n lw (mmF x) (nnF x) A C (i:Nat) a c p k w) ⟨?_⟩
 unfold BW4
 rw[Int.toNat_natCast,Int.toNat_natCast]
 refine⟨by omega,by omega,fun h1=>?_,fun h1=>?_⟩
 ·simp only[decide_eq_true_eq] at h1
  have hlt:w<nnF x p k:=by omega
  have e1:w64 ((c:Int)+1)=((c+1:Nat):Int):=by rw[w64_of (by omega) (by omega)];omega
  have e2:w64 ((w:Int)+1)=((w+1:Nat):Int):=by rw[w64_of (by omega) (by omega)];omega
  refine⟨fun h2=>?_,fun h2=>?_⟩
  ·rw[wrap_u64 (by omega),beq_iff_eq] at h2
   obtain rfl:a=c:=by omega
   refine(atCode_satG (rg17_eq n lw (mmF x) (nnF x) A C (i:Nat) a a p k w) (sg17_def n lw (mmF x) (nnF x) A C (i:Nat) a a p k w) _ (rg17_G n lw (mmF x) (nnF x) A C (i:Nat) a a B hB hp hk (by omega) ⟨hp,hk'⟩ hlt) ?_).ok
   intro e s B' h
   obtain⟨he,hss,hN⟩:=h
   subst he
   rw[hss]
   clear hss
   refine SatG.of_eq (KW4_eq n lw (mmF x) (nnF x) A C (i:Nat) a a p k w) (satG_ret (Or.inl ⟨hlt,rfl,?_,?_⟩))
   ·refine hN.words fun p' k' j' h3 h4=>?_
    rw[hc]
    exact wcF_step hk hlt h3.2 h4
   ·show stW4 n lw (mmF x) (nnF x) A C (i:Nat) a (w64 ((a:Int)+1)) p k (w64 ((w:Int)+1))=_
    rw[e1,e2]
  ·rw[wrap_u64 (by omega),beq_eq_false_iff_ne] at h2
   refine Or.inl ⟨hlt,rfl,?_,?_⟩
   ·unfold AtC at hB ⊢
    rw[<- wcF_skip (by omega)]
    exact hB
   ·show stW4 n lw (mmF x) (nnF x) A C (i:Nat) a (w64 ((c:Int)+1)) p k (w64 ((w:Int)+1))=_
    rw[e1,e2]
 ·simp only[decide_eq_false_iff_not] at h1
  obtain rfl:w=nnF x p k:=by omega
  exact Or.inr ⟨rfl,rfl,rfl,rfl⟩
end
end Go.Proofs.YtanlnopgadbpjaaGreat.Rw
namespace Go.Sx
def wodF(x:Nat->FsT)(a:Nat)(v:Int)(p:Nat):FsT:=⟨(x p).n,fun k=>⟨((x p).f k).n,fun j=>if posW (mmF x) (nnF x) p k j=a then v else((x p).f k).w j⟩⟩
def chgF(x:Nat->FsT)(w:Nat->Nat->Int):Nat->Nat->FsT
 |0=>x
 |i+1=>wodF (chgF x w i) (w i 0%64).toNat (w i 1)
theorem chg_mm(x:Nat->FsT)(w:Nat->Nat->Int):∀i,mmF (chgF x w i)=mmF x
 |0=>rfl
 |i+1=>chg_mm x w i
theorem chg_nn(x:Nat->FsT)(w:Nat->Nat->Int):∀i,nnF (chgF x w i)=nnF x
 |0=>rfl
 |i+1=>chg_nn x w i
theorem chg_sml{b n:Nat}{x:Nat->FsT}(hs:Sml b n x)(w:Nat->Nat->Int)(i:Nat):Sml b n (chgF x w i):=by
 have em:=fun p=>congrFun (chg_mm x w i) p
 have en:=fun p k=>congrFun (congrFun (chg_nn x w i) p) k
 unfold mmF at em
 unfold nnF at en
 exact⟨hs.le,fun p hp=>by rw[em];exact hs.m p hp,fun p k hp hk=>by rw[en];rw[em] at hk;exact hs.k p k hp hk⟩
end Go.Sx
namespace Go.Proofs.YtanlnopgadbpjaaGreat.Rw
open Go.Proofs.YtanlnopgadbpjaaGreat.Rm
open Go.Sx
section
variable {n : Nat} {x : Nat → FsT} {lw : LwT} {A : Nat → Nat → Option Addr} {C : Nat → Nat → Nat} {a i : Nat}
def StC(n:Nat)(x:Nat->FsT)(w:Nat->Nat->Int)(A:Nat->Nat->Option Addr)(C:Nat->Nat->Nat)(i:Nat)(B:Gh):Prop:=Nst B (nnF x) (wwF (chgF x w i)) A C (AllF n x)
theorem wd4_sat(hs:Sml 4 n x)(hi:i<lw.q){p k c:Nat}(hp:p<n)(hk:k<mmF x p)(hc:c=posW (mmF x) (nnF x) p k 0){B:Gh}(hB:AtC n x A C a (lw.w i 1) c B)(T:Tree (Ex×AS))(hT:T=atCode (sub [0,0] (bW3 n lw (mmF x) (nnF x) A C (i:Nat) a c p k))) :
  SatG Tryz.prog T B fun r B'=>r.1=.normal/\AtC n x A C a (lw.w i 1) (posW (mmF x) (nnF x) p (k+1) 0) B'/\r.2=stW3 n lw (mmF x) (nnF x) A C (i:Nat) a (posW (mmF x) (nnF x) p (k+1) 0:Nat) p (k+1:Nat):=by
 subst hT
 have hk':k<(x p).n:=hk
 have hm4:=hs.m p hp
 have hend:posW (mmF x) (nnF x) p (k+1) 0=posW (mmF x) (nnF x) p k (nnF x p k):=by unfold posW;show _+(_+_)+0=_;omega
 refine⟨code_satG C00_ok d00_drawn (stop:=stopW) (n:=200) (n0:=0) (nx:=0) (roots:=[]) (keep:=[1,5,6,7,8,9,10,11]) (drop:=[]) (h:=.nil) (body:=bodyW4) (by kernel_rfl) (by kernel_rfl)
  (fun q t B=>∃w:Nat,q=nnF x p k-w/\w<=nnF x p k/\AtC n x A C a (lw.w i 1) (posW (mmF x) (nnF x) p k w) B/\t=stW4 n lw (mmF x) (nnF x) A C (i:Nat) a (posW (mmF x) (nnF x) p k w:Nat) p k w)
  (fun e t B=>e=.exit 6/\AtC n x A C a (lw.w i 1) (posW (mmF x) (nnF x) p k (nnF x p k)) B/\t=stW4 n lw (mmF x) (nnF x) A C (i:Nat) a (posW (mmF x) (nnF x) p k (nnF x p k):Nat) p k (nnF x p k))
  ⟨_,_,⟨0,rfl,Nat.zero_le _,hc▸hB,rfl⟩,?_⟩ ?_ ?_⟩
 ·rw[<- hc]
  exact entA_sound (EW4_eq n lw (mmF x) (nnF x) A C (i:Nat) a c p k)
 ·rintro q t B ⟨w,rfl,hw,hB,rfl⟩
  refine(wd5_sat hs hi hp hk hw rfl hB).mono fun r B' hr=>?_
  obtain⟨ex,st⟩:=r
  rcases hr with⟨h1,h2,h3,h4⟩|⟨h1,h2,h3,h4⟩
  ·obtain rfl:ex=.normal:=h2
   exact⟨nnF x p k-(w+1),_,by omega,⟨w+1,rfl,h1,h3,rfl⟩,by rw[show st=_ from h4];exact Gc.refl _ _⟩
  ·obtain rfl:ex=.exit 6:=h2
   subst h3
   rw[h1] at hB h4
   exact⟨_,⟨rfl,hB,rfl⟩,by rw[show st=_ from h4];exact Gc.refl _ _⟩
 ·intro e t B' h
  obtain⟨he,hB,ht⟩:=h
  subst he
  rw[ht]
  clear ht
  refine SatG.of_eq (KW3_eq n lw (mmF x) (nnF x) A C (i:Nat) a (posW (mmF x) (nnF x) p k (nnF x p k):Nat) p k (nnF x p k) c) (satG_ret ⟨rfl,by rw[hend];exact hB,?_⟩)
  have e2:w64 ((k:Int)+1)=((k+1:Nat):Int):=by rw[w64_of (by omega) (by omega)];omega
  rw[hend,<- e2]
theorem wd3_sat(hs:Sml 4 n x)(hi:i<lw.q){p c:Nat}(hp:p<n)(hc:c=posW (mmF x) (nnF x) p 0 0){B:Gh}(hB:AtC n x A C a (lw.w i 1) c B)(T:Tree (Ex×AS))(hT:T=atCode (sub [0] (bW2 n lw (mmF x) (nnF x) A C (i:Nat) a c p))) :
  SatG Tryz.prog T B fun r B'=>r.1=.normal/\AtC n x A C a (lw.w i 1) (posW (mmF x) (nnF x) (p+1) 0 0) B'/\r.2=stW2 n lw (mmF x) (nnF x) A C (i:Nat) a (posW (mmF x) (nnF x) (p+1) 0 0:Nat) (p+1:Nat):=by
 subst hT
 have hn4:=hs.le
 have hm4:mmF x p<=4:=hs.m p hp
 have hend:posW (mmF x) (nnF x) (p+1) 0 0=posW (mmF x) (nnF x) p (mmF x p) 0:=by unfold posW;show _+_+0+0=_;omega
 refine⟨code_satG C00_ok d00_drawn (stop:=stopW) (n:=200) (n0:=0) (nx:=0) (roots:=[]) (keep:=[1,5,6,7,8,9,10]) (drop:=[]) (h:=.nil) (body:=bodyW3) (by kernel_rfl) (by kernel_rfl)
  (fun q t B=>∃k:Nat,q=mmF x p-k/\k<=mmF x p/\AtC n x A C a (lw.w i 1) (posW (mmF x) (nnF x) p k 0) B/\t=stW3 n lw (mmF x) (nnF x) A C (i:Nat) a (posW (mmF x) (nnF x) p k 0:Nat) p k)
  (fun e t B=>e=.exit 4/\AtC n x A C a (lw.w i 1) (posW (mmF x) (nnF x) p (mmF x p) 0) B/\t=stW3 n lw (mmF x) (nnF x) A C (i:Nat) a (posW (mmF x) (nnF x) p (mmF x p) 0:Nat) p (mmF x p))
  ⟨_,_,⟨0,rfl,Nat.zero_le _,hc▸hB,rfl⟩,?_⟩ ?_ ?_⟩
 ·rw[<- hc]
  exact entA_sound (EW3_eq n lw (mmF x) (nnF x) A C (i:Nat) a c p)
 ·rintro q t B ⟨k,rfl,hk,hB,rfl⟩
  refine SatG.of_eq (BW3_eq n lw (mmF x) (nnF x) A C (i:Nat) a (posW (mmF x) (nnF x) p k 0:Nat) p k) ⟨?_⟩
  unfold BW3
  rw[Int.toNat_natCast]
  refine⟨by omega,fun h1=>?_,fun h1=>?_⟩
  ·simp only[decide_eq_true_eq] at h1
   have hlt:k<mmF x p:=by omega
   refine Tree.satG_mono (fun r B' hr=>?_) (wd4_sat hs hi hp hlt rfl hB _ rfl).ok
   obtain⟨ex,st⟩:=r
   obtain⟨h2,h3,h4⟩:=hr
   obtain rfl:ex=.normal:=h2
   exact⟨mmF x p-(k+1),_,by omega,⟨k+1,rfl,hlt,h3,rfl⟩,by rw[show st=_ from h4];exact Gc.refl _ _⟩
  ·simp only[decide_eq_false_iff_not] at h1
   obtain rfl:k=mmF x p:=by omega
   exact⟨_,⟨rfl,hB,rfl⟩,Gc.refl _ _⟩
 ·intro e t B' h
  obtain⟨he,hB,ht⟩:=h
  subst he
  rw[ht]
  clear ht
  refine SatG.of_eq (KW2_eq n lw (mmF x) (nnF x) A C (i:Nat) a (posW (mmF x) (nnF x) p (mmF x p) 0:Nat) p (mmF x p) c) (satG_ret ⟨rfl,by rw[hend];exact hB,?_⟩)
  have e2:w64 ((p:Int)+1)=((p+1:Nat):Int):=by rw[w64_of (by omega) (by omega)];omega
  rw[hend,<- e2]
theorem wd2_sat(hs:Sml 4 n x)(hi:i<lw.q)(hi2:i<9223372036854775807)(ha:Int.tmod (lw.w i 0) 64=a){B:Gh}(hB:AtC n x A C a (lw.w i 1) 0 B)(T:Tree (Ex×AS))(hT:T=atCode (sub [0,0,0,0] (bW1 n lw (mmF x) (nnF x) A C (i:Nat)))) :
  SatG Tryz.prog T B fun r B'=>r.1=.normal/\AtC n x A C a (lw.w i 1) (posW (mmF x) (nnF x) n 0 0) B'/\r.2=stW1 n lw (mmF x) (nnF x) A C (i+1:Nat):=by
 subst hT
 have hn4:=hs.le
 refine⟨code_satG C00_ok d00_drawn (stop:=stopW) (n:=200) (n0:=0) (nx:=0) (roots:=[]) (keep:=[1,5,6,7,8,9]) (drop:=[]) (h:=.nil) (body:=bodyW2) (by kernel_rfl) (by kernel_rfl)
  (fun q t B=>∃p:Nat,q=n-p/\p<=n/\AtC n x A C a (lw.w i 1) (posW (mmF x) (nnF x) p 0 0) B/\t=stW2 n lw (mmF x) (nnF x) A C (i:Nat) a (posW (mmF x) (nnF x) p 0 0:Nat) p)
  (fun e t B=>e=.exit 2/\AtC n x A C a (lw.w i 1) (posW (mmF x) (nnF x) n 0 0) B/\t=stW2 n lw (mmF x) (nnF x) A C (i:Nat) a (posW (mmF x) (nnF x) n 0 0:Nat) n)
  ⟨_,_,⟨0,rfl,Nat.zero_le _,hB,rfl⟩,?_⟩ ?_ ?_⟩
 ·rw[<- ha]
  exact entA_sound (EW2_eq n lw (mmF x) (nnF x) A C (i:Nat))
 ·rintro q t B ⟨p,rfl,hp,hB,rfl⟩
  refine SatG.of_eq (BW2_eq n lw (mmF x) (nnF x) A C (i:Nat) a (posW (mmF x) (nnF x) p 0 0:Nat) p) ⟨?_⟩
  refine⟨fun h1=>?_,fun h1=>?_⟩
  ·simp only[decide_eq_true_eq] at h1
   have hlt:p<n:=by omega
   refine Tree.satG_mono (fun r B' hr=>?_) (wd3_sat hs hi hlt rfl hB _ rfl).ok
   obtain⟨ex,st⟩:=r
   obtain⟨h2,h3,h4⟩:=hr
   obtain rfl:ex=.normal:=h2
   exact⟨n-(p+1),_,by omega,⟨p+1,rfl,hlt,h3,rfl⟩,by rw[show st=_ from h4];exact Gc.refl _ _⟩
  ·simp only[decide_eq_false_iff_not] at h1
   obtain rfl:p=n:=by omega
   exact⟨_,⟨rfl,hB,rfl⟩,Gc.refl _ _⟩
 ·intro e t B' h
  obtain⟨he,hB,ht⟩:=h
  subst he
  rw[ht]
  clear ht
  refine SatG.of_eq (KW1_eq n lw (mmF x) (nnF x) A C (i:Nat) a (posW (mmF x) (nnF x) n 0 0:Nat) n (i:Nat)) (satG_ret ⟨rfl,hB,?_⟩)
  have e2:w64 ((i:Int)+1)=((i+1:Nat):Int):=by rw[w64_of (by omega) (by omega)];omega
  rw[<- e2]
def wdP(n:Nat)(x:Nat->FsT)(lw:LwT)(d:Sx.DV)(B:Gh):Prop:=∃A C,d=.ro n 1 (exS (mmF x) (nnF x) A C)/\StC n x lw.w A C lw.q B
theorem allF_chg(w:Nat->Nat->Int)(i:Nat):AllF n (chgF x w i)=AllF n x:=by
 funext p k
 have:=congrFun (chg_mm x w i) p
 unfold mmF at this
 unfold AllF
 rw[this]
theorem stC_at(w:Nat->Nat->Int)(i:Nat){B:Gh}{v:Int}(h:StC n x w A C i B):AtC n (chgF x w i) A C a v 0 B:=by
 unfold AtC
 rw[wcF_zero,chg_nn,allF_chg]
 exact h
theorem at_stC(w:Nat->Nat->Int)(i:Nat){B:Gh}(h:AtC n (chgF x w i) A C (w i 0%64).toNat (w i 1) (posW (mmF (chgF x w i)) (nnF (chgF x w i)) n 0 0) B):StC n x w A C (i+1) B:=by
 unfold StC
 have e1:Nst B (nnF (chgF x w i)) (wwF (chgF x w (i+1))) A C (AllF n (chgF x w i)):=by
  refine Nst.words h fun p k j hpk hj=>?_
  unfold wcF
  show _=if posW (mmF (chgF x w i)) (nnF (chgF x w i)) p k j=(w i 0%64).toNat then w i 1 else wwF (chgF x w i) p k j
  have hlt:=posW_lt (m:=mmF (chgF x w i)) (nn:=nnF (chgF x w i)) (p:=p) (k:=k) (j:=j) (p':=n) (k':=0) (j':=0) hpk.2 hj (.inl hpk.1)
  by_cases he:posW (mmF (chgF x w i)) (nnF (chgF x w i)) p k j=(w i 0%64).toNat
  ·rw[if_pos ⟨he,by omega⟩,if_pos he]
  ·rw[if_neg (fun h=>he h.1),if_neg he]
 rw[allF_chg,chg_nn] at e1
 exact e1
theorem wd_sat(hs:Sml 4 n x)(hq:lw.q<=9223372036854775807)(h0:∀i,i<lw.q->0<=lw.w i 0):SatG Tryz.prog (tWd n x lw) noGh fun s B=>∃d,s=.d d/\wdP n x lw d B:=by
 have hn4:=hs.le
 refine SatG.of_eq (LWd_eq n x lw) ?_
 refine atCode_satG (rg1_eq n x lw) (st:=sg1 n x lw) rfl _ (rg1_G n x lw ⟨by have:=hs.le;omega,fun p hp=>by have:=hs.m p hp;omega,fun p k hp hk=>by have:=hs.k p k hp hk;omega⟩ noGh) ?_
 intro e s B h
 obtain⟨he,A,C,hss,hB⟩:=h
 subst he
 rw[hss]
 clear hss
 refine SatG.of_eq (KW0_eq n x lw (mmF x) (nnF x) A C) ⟨?_⟩
 refine code_satG C00_ok d00_drawn (stop:=stopW) (n:=200) (n0:=0) (nx:=0) (roots:=[]) (keep:=[1,5,6]) (drop:=[]) (h:=.nil) (body:=bodyW1) (by kernel_rfl) (by kernel_rfl)
  (fun q t B=>∃i:Nat,q=lw.q-i/\i<=lw.q/\StC n x lw.w A C i B/\t=stW1 n lw (mmF x) (nnF x) A C i)
  (fun e t B=>e=.exit 0/\StC n x lw.w A C lw.q B/\t=stW1 n lw (mmF x) (nnF x) A C lw.q)
  ⟨_,_,⟨0,rfl,Nat.zero_le _,hB,rfl⟩,?_⟩ ?_ ?_
 ·exact entA_sound (EW1_eq n x lw (mmF x) (nnF x) A C)
 ·rintro q t B ⟨i,rfl,hi,hB,rfl⟩
  refine SatG.of_eq (BW1_eq n lw (mmF x) (nnF x) A C i) ⟨?_⟩
  unfold BW1
  refine⟨fun h1=>?_,fun h1=>?_⟩
  ·simp only[decide_eq_true_eq] at h1
   have hlt:i<lw.q:=by omega
   refine⟨by omega,by omega,by omega,?_⟩
   have ha:Int.tmod (lw.w i 0) 64=((lw.w i 0%64).toNat:Int):=by have:=h0 i hlt;rw[Int.tmod_eq_emod_of_nonneg this];omega
   have key:=wd2_sat (x:=chgF x lw.w i) (lw:=lw) (A:=A) (C:=C) (i:=i) (chg_sml hs lw.w i) hlt (by omega) ha (B:=B) (stC_at lw.w i hB) _ rfl
   have key2:SatG Tryz.prog (atCode (sub [0,0,0,0] (bW1 n lw (mmF (chgF x lw.w i)) (nnF (chgF x lw.w i)) A C (i:Nat)))) B fun r B'=>r.1=.normal/\StC n x lw.w A C (i+1) B'/\r.2=stW1 n lw (mmF (chgF x lw.w i)) (nnF (chgF x lw.w i)) A C (i+1:Nat):=key.mono fun r B' hr=>⟨hr.1,at_stC lw.w i hr.2.1,hr.2.2⟩
   rw[chg_mm,chg_nn] at key2
   refine Tree.satG_mono (fun r B' hr=>?_) key2.ok
   obtain⟨ex,st⟩:=r
   obtain⟨h2,h3,h4⟩:=hr
   obtain rfl:ex=.normal:=h2
   exact⟨lw.q-(i+1),_,by omega,⟨i+1,rfl,hlt,h3,rfl⟩,by rw[show st=_ from h4];exact Gc.refl _ _⟩
  ·simp only[decide_eq_false_iff_not] at h1
   obtain rfl:i=lw.q:=by omega
   exact⟨_,⟨rfl,hB,rfl⟩,Gc.refl _ _⟩
 ·intro e t B' h
  obtain⟨he,hB,ht⟩:=h
  subst he
  rw[ht]
  clear ht
  exact SatG.of_eq (KW9_eq n x lw (mmF x) (nnF x) A C lw.q) (satG_ret ⟨_,rfl,A,C,rfl,hB⟩)
theorem wd_ok(hs:Sml 4 n x)(hq:lw.q<=9223372036854775807)(h0:∀i,i<lw.q->0<=lw.w i 0):GCtr Tryz.prog 6 [ssS n x,lwS lw] (wdP n x lw):=gctr_of C00_ok d00_drawn (by kernel_rfl) (by kernel_rfl) (wd_sat hs hq h0)
end
end Go.Proofs.YtanlnopgadbpjaaGreat.Rw
namespace Go.Sx
def _root_.Go.Proofs.WdD(n:Nat)(F:Nat->Nat->DV)(q:Nat)(L:Nat->Nat->DV):Prop:=Sml 4 n (fun p=>fsOf (F p))/\q<=9223372036854775807/\(∀i,i<q->0<=numV (L i 0))/\∀i j,i<q->j<2->L i j=.x (.int .u64 (numV (L i j)))
end Go.Sx
namespace Go.Proofs.YtanlnopgadbpjaaGreat.Rw
open Go.Proofs.YtanlnopgadbpjaaGreat.Rm
open Go.Sx
theorem nst_melts{n:Nat}{x:Nat->FsT}{A:Nat->Nat->Option Addr}{C:Nat->Nat->Nat}{B:Gh}(hN:Nst B (nnF x) (wwF x) A C (AllF n x)):Melts B (.ro n 1 (exS (mmF x) (nnF x) A C)) (.ro n 1 fun i j=>fsC (x i) j):=by
 intro w F vv hrep hB
 have hfr:∀p k (u:Value),p<n->k<(x p).n->RepD w F u (.x (.slice (A p k) (nnF x p k) (C p k)))->RepD w F u (fmC ((x p).f k) 0):=by
  intro p k u hp hk hu
  have:=repd_x hu;subst this
  have hc:=hN.2.2 p k ⟨hp,hk⟩
  have hl:=hN.1 p k ⟨hp,hk⟩
  show RepD w F _ (.ro (nnF x p k) 1 fun j _=>.x (.int .u64 (((x p).f k).w j)))
  by_cases h0:nnF x p k=0
  ·rw[h0]
   cases hA:A p k with
   |none=>rw[hc.1 hA];exact .nil _ _
   |some ad=>exact .z ad _ _ _
  ·rcases hl with hl|⟨b,o,cs,e,h1,h2,h3,h4⟩
   ·exact(h0 hl).elim
   obtain⟨g1,g2⟩:=hB b _ h2
   rw[h1]
   refine .ro b o _ _ 1 _ (fun i j=>cs.getD (o+(i*1+j)) undef) (fun _=>g2) hc.2 (fun i j hi hj=>cell_of_heap g1 (by simp only;omega)) (fun i j hi hj=>?_) (fun i j hi hj=>?_)
   ·have:=h4 i hi
    rw[show o+(i*1+j)=o+i by omega,this];rfl
   ·have h5:=h4 i hi
    rw[show o+(i*1+j)=o+i by omega,h5]
    exact .x _
 have hpr:∀p (u:Value),p<n->RepD w F u (.ro (mmF x p) 1 (exF (nnF x p) (A p) (C p)))->RepD w F u (fsC (x p) 0):=by
  intro p u hp hu
  show RepD w F u (.ro (mmF x p) 1 fun k j=>fmC ((x p).f k) j)
  obtain⟨q,hq⟩:∃q,mmF x p=q:=⟨_,rfl⟩
  rw[hq] at hu ⊢
  generalize hd:DV.ro q 1 (exF (nnF x p) (A p) (C p))=dd at hu
  cases hu with
  |x=>cases hd
  |rf=>cases hd
  |nil=>cases hd;exact .nil _ _
  |z=>cases hd;exact .z _ _ _ _
  |ro b o len cap esz cell f hF hc hcell hone hrep =>
   cases hd
   refine .ro b o _ cap 1 _ f hF hc hcell hone fun i j hi hj=>?_
   obtain rfl:j=0:=by omega
   exact hfr p i _ hp (by have:mmF x p=(x p).n:=rfl;omega) (hrep i 0 hi hj)
 generalize hd:DV.ro n 1 (exS (mmF x) (nnF x) A C)=dd at hrep
 cases hrep with
 |x=>cases hd
 |rf=>cases hd
 |nil=>cases hd;exact .nil _ _
 |z=>cases hd;exact .z _ _ _ _
 |ro b o len cap esz cell f hF hc hcell hone hrep =>
  cases hd
  refine .ro b o _ cap 1 _ f hF hc hcell hone fun i j hi hj=>?_
  obtain rfl:j=0:=by omega
  exact hpr i _ hi (hrep i 0 hi hj)
theorem wd_melts{n:Nat}{x:Nat->FsT}{lw:LwT}{d:Sx.DV}{B:Gh}(h:wdP n x lw d B):Melts B d (.ro n 1 fun i j=>fsC (chgF x lw.w lw.q i) j):=by
 obtain⟨A,C,rfl,hN⟩:=h
 have em:=chg_mm x lw.w lw.q
 have en:=chg_nn x lw.w lw.q
 unfold StC at hN
 generalize chgF x lw.w lw.q=y at em en hN
 have hall:∀p k,AllF n y p k->AllF n x p k:=fun p k h=>by
  have:=congrFun em p
  unfold mmF at this
  unfold AllF at h ⊢
  rw[<- this];exact h
 rw[<- em,<- en]
 rw[<- en] at hN
 exact nst_melts (hN.sub hall)
noncomputable def cWo:Ctr:=fun ss=>match ss with
 |[.d (.ro n 1 F),.d (.ro q 2 L)]=>.need ((SsD n F)/\WdD n F q L) (.ret (ssS n (chgF (fun p=>fsOf (F p)) (fun i j=>numV (L i j)) q)))
 |_=>.fail
theorem cWo_ok:CtrOK Tryz.prog 6 cWo:=ctrOK_ofG fun ss r h=>by
 unfold cWo at h
 split at h
 ·rename_i n F q L
  obtain⟨⟨h1,hs,hq,h0,h2⟩,rfl⟩:=h
  refine⟨[ssS n fun p=>fsOf (F p),lwS ⟨q,fun i j=>numV (L i j)⟩],_,?_,wd_ok hs hq h0,fun d B hd=>⟨_,rfl,wd_melts hd⟩⟩
  unfold ssS lwS
  simp only[leSVs,leSV,leD,and_true,true_and]
  refine⟨fun i j hi hj=>?_,fun i j hi hj=>?_⟩
  ·obtain rfl:j=0:=by omega
   exact(h1 i hi).2
  ·exact h2 i j hi hj
 ·exact h.elim
def pv(a b c:Int):Value:=.agg #[.int .i64 a,.int .i64 b,.int .i64 c]
theorem pos_law:WideMaps.KeyLaw Tryz.prog 102:=deep_law (m:=2) (by decide) (by kernel_rfl) (by kernel_rfl) (by kernel_rfl)
theorem key_i64{d:Nat}{a:Int}(h:(Lit.int .i64 a).wf=true):Tryz.prog.keyLits (d+1) 3 [.int .i64 a]=some [.int .i64 a]:=by
 have e:Tryz.prog.underlying 3=some (.int .i64):=by kernel_rfl
 unfold Program.keyLits
 rw[e]
 simp[h]
noncomputable def posFs:Array Field:=match Tryz.prog.underlying 102 with
 |some (.struct fs)=>fs
 |_=>#[]
theorem und_pos:Tryz.prog.underlying 102=some (.struct posFs):=by kernel_rfl
theorem keyOf_pos{a b c:Int}(ha:(Lit.int .i64 a).wf=true)(hb:(Lit.int .i64 b).wf=true)(hc:(Lit.int .i64 c).wf=true):∃l,keyOf Tryz.prog 102 (pv a b c)=some l:=by
 have h1:Tryz.prog.keyType 102=true:=by kernel_rfl
 have h2:(pv a b c).formed Tryz.prog 102=true:=by kernel_rfl
 have h3:(pv a b c).cells.toList=[.int .i64 a,.int .i64 b,.int .i64 c]:=rfl
 have h4:Tryz.prog.keyLits (Tryz.prog.types.size+1) 102 [.int .i64 a,.int .i64 b,.int .i64 c]=some [.int .i64 a,.int .i64 b,.int .i64 c]:=by
  obtain⟨f1,f2,f3,hf⟩:∃f1 f2 f3:Field,posFs.toList=[f1,f2,f3]:=⟨posFs.toList.getD 0 default,posFs.toList.getD 1 default,posFs.toList.getD 2 default,by kernel_rfl⟩
  have ht:∀k,k<3->(posFs.toList.getD k default).type=3/\(posFs.toList.getD k default).offset=k:=by
   intro k hk
   have:k=0\/k=1\/k=2:=by omega
   rcases this with rfl|rfl|rfl<;>exact⟨by kernel_rfl,by kernel_rfl⟩
  have g1:=ht 0 (by omega);have g2:=ht 1 (by omega);have g3:=ht 2 (by omega)
  rw[hf] at g1 g2 g3
  simp only[List.getD_cons_zero,List.getD_cons_succ] at g1 g2 g3
  have e3:Tryz.prog.cellsOf 102=3:=by kernel_rfl
  have e4:Tryz.prog.cellsOf 3=1:=by kernel_rfl
  have e5:posFs.all (·.name != "_")=true:=by kernel_rfl
  have hs:Nat.ble 1 Tryz.prog.types.size=true:=by kernel_rfl
  have hs:=Nat.le_of_ble_eq_true hs
  obtain⟨d,hd⟩:∃d,Tryz.prog.types.size=d+1:=⟨Tryz.prog.types.size-1,by omega⟩
  rw[hd]
  unfold Program.keyLits
  rw[und_pos]
  simp only
  rw[if_pos ⟨by rw[e3];rfl,e5⟩,hf]
  simp[List.mapM_cons,g1.1,g1.2,g2.1,g2.2,g3.1,g3.2,e4,key_i64 ha,key_i64 hb,key_i64 hc]
 exact⟨_,by
  unfold keyOf
  rw[und_pos]
  simp only
  rw[h1,h2,h3,h4]
  rfl⟩
theorem keyOf_enc{l:List Int}(h:KeyOK 3 l):∃q,keyOf Tryz.prog 102 (encK 3 l)=some q:=by
 obtain⟨h1,h2⟩:=h
 simp only at h1
 match l,h1 with
 |[a,b,c],_=>exact keyOf_pos (h2 a (by simp)) (h2 b (by simp)) (h2 c (by simp))
theorem und_map:Tryz.prog.underlying 143=some (.map 102 31):=by kernel_rfl
theorem mt143:MapTy Tryz.prog 143 3:=by
 refine⟨fun kt et h w em l hl=>?_,fun kt et h w l hl es he=>?_,fun w l hl=>?_⟩
 ·rw[und_map] at h;cases h
  obtain⟨q,hq⟩:=keyOf_enc hl
  exact pos_law.check w em hq
 ·rw[und_map] at h;cases h
  obtain⟨q,hq⟩:=keyOf_enc hl
  exact pos_law.find w hq es fun e hm=>by
   obtain⟨l',h1,h2⟩:=he e hm
   rw[h2];exact keyOf_enc h1
 ·obtain⟨q,hq⟩:=keyOf_enc hl
  exact pos_law.stays w hq
theorem keyOK3{a b c:Int}(ha:-9223372036854775808<=a/\a<=9223372036854775807)(hb:-9223372036854775808<=b/\b<=9223372036854775807)(hc:-9223372036854775808<=c/\c<=9223372036854775807):KeyOK 3 [a,b,c]:=by
 have hw:∀n:Int,-9223372036854775808<=n/\n<=9223372036854775807->(Lit.int .i64 n).wf=true:=fun n h=>by
  have h1:IntKind.i64.min=-9223372036854775808:=rfl
  have h2:IntKind.i64.max=9223372036854775807:=rfl
  simp only[Lit.wf,Bool.and_eq_true,decide_eq_true_eq,h1,h2]
  exact h
 refine⟨rfl,fun n hn=>?_⟩
 simp only[List.mem_cons,List.not_mem_nil,or_false] at hn
 rcases hn with rfl|rfl|rfl
 ·exact hw _ ha
 ·exact hw _ hb
 ·exact hw _ hc
end Go.Proofs.YtanlnopgadbpjaaGreat.Rw
namespace Go.Sx
def cellL{α:Type}[Inhabited α](enc:α->Nat->DV)(l:List α):Nat->Nat->DV:=fun i j=>enc (l.getD i default) j
theorem app_cell{α:Type}[Inhabited α]{enc:α->Nat->DV}{l:List α}{v:α}{ds:List DV}{e:Nat}(hds:∀b,b<e->dsAt ds b=enc v b){a b k:Nat}(hk:k=a\/k=0+a)(ha:a<l.length+1)(hb:b<e) :
  selD (decide (a<l.length)) (cellL enc l k b) (dsAt ds (0+(0+(a-l.length))*e+b))=cellL enc (l++[v]) a b:=by
 have hk:k=a:=by omega
 subst hk
 rw[selD_eq]
 unfold cellL
 rcases Nat.lt_or_ge k l.length with h|h
 ·rw[decide_eq_true h]
  simp[List.getD_eq_getElem?_getD,List.getElem?_append,h]
 ·obtain rfl:k=l.length:=by omega
  rw[decide_eq_false (by omega),Nat.sub_self,show 0+(0+0)*e+b=b by omega,hds b hb]
  simp[List.getD_eq_getElem?_getD]
theorem app_row{α:Type}[Inhabited α]{enc:α->Nat->DV}{l:List α}{v:α}{e:Nat}{f:Nat->Nat->DV}(h:∀a b,a<l.length+1->b<e->f a b=cellL enc (l++[v]) a b):BlkLe (.row (l.length+1) e f) (.row (l++[v]).length e (cellL enc (l++[v]))):=by
 rw[List.length_append]
 exact .row h
structure Pt where
 p:Int
 f:Int
 w:Int
 x:Int
instance : Inhabited Pt := ⟨⟨0, 0, 0, 0⟩⟩
def ptE(q:Pt):Nat->DV:=fun j=>dsAt [.x (.int .i64 q.p),.x (.int .i64 q.f),.x (.int .i64 q.w),.x (.int .u64 q.x)] j
noncomputable def ptS(n:Nat)(F:Nat->Pt):SV:=.d (.ro n 4 fun i j=>ptE (F i) j)
def ptR(c:Nat->DV):Pt:=⟨numV (c 0),numV (c 1),numV (c 2),numV (c 3)⟩
def _root_.Go.Proofs.PtD(n:Nat)(L:Nat->Nat->DV):Prop:=∀i j,i<n->j<4->L i j=ptE (ptR (L i)) j
theorem ptD_F(n:Nat)(F:Nat->Pt):Proofs.PtD n fun i j=>ptE (F i) j:=fun i j hi hj=>rfl
theorem app_fun{c:Nat->Nat->DV}{ds:List DV}{e m:Nat}(hds:∀b,b<e->dsAt ds b=c m b){a b:Nat}(ha:a<m+1)(hb:b<e):selD (decide (a<m)) (c (0+a) b) (dsAt ds (0+(0+(a-m))*e+b))=c a b:=by
 rw[selD_eq,Nat.zero_add]
 rcases Nat.lt_or_ge a m with h|h
 ·rw[decide_eq_true h];rfl
 ·obtain rfl:a=m:=by omega
  rw[decide_eq_false (by omega),Nat.sub_self,show 0+(0+0)*e+b=b by omega,hds b hb];rfl
structure Ps where
 p:Nat
 f:Nat
 w:Nat
instance : Inhabited Ps := ⟨⟨0, 0, 0⟩⟩
def wsL(i k:Nat):Nat->List Ps
 |0=>[]
 |w+1=>wsL i k w++[⟨i,k,w⟩]
def fsL(nn:Nat->Nat->Nat)(i:Nat):Nat->List Ps
 |0=>[]
 |k+1=>fsL nn i k++wsL i k (nn i k)
def psL(m:Nat->Nat)(nn:Nat->Nat->Nat):Nat->List Ps
 |0=>[]
 |i+1=>psL m nn i++fsL nn i (m i)
theorem wsL_len(i k:Nat):∀w,(wsL i k w).length=w
 |0=>rfl
 |w+1=>by unfold wsL;rw[List.length_append,wsL_len i k w];rfl
theorem fsL_len(nn:Nat->Nat->Nat)(i:Nat):∀k,(fsL nn i k).length=offK nn i k
 |0=>rfl
 |k+1=>by unfold fsL offK;rw[List.length_append,fsL_len nn i k,wsL_len]
theorem psL_len(m:Nat->Nat)(nn:Nat->Nat->Nat):∀i,(psL m nn i).length=offP m nn i
 |0=>rfl
 |i+1=>by unfold psL offP;rw[List.length_append,psL_len m nn i,fsL_len]
def preL(m:Nat->Nat)(nn:Nat->Nat->Nat)(i k w:Nat):List Ps:=psL m nn i++fsL nn i k++wsL i k w
theorem preL_len(m:Nat->Nat)(nn:Nat->Nat->Nat)(i k w:Nat):(preL m nn i k w).length=posW m nn i k w:=by
 unfold preL posW
 rw[List.length_append,List.length_append,psL_len,fsL_len,wsL_len]
theorem preL_w(m:Nat->Nat)(nn:Nat->Nat->Nat)(i k w:Nat):preL m nn i k (w+1)=preL m nn i k w++[⟨i,k,w⟩]:=by
 unfold preL;rw[show wsL i k (w+1)=wsL i k w++[⟨i,k,w⟩] from rfl];simp only[List.append_assoc]
theorem preL_k(m:Nat->Nat)(nn:Nat->Nat->Nat)(i k:Nat):preL m nn i (k+1) 0=preL m nn i k (nn i k):=by
 unfold preL;rw[show fsL nn i (k+1)=fsL nn i k++wsL i k (nn i k) from rfl];simp[wsL]
theorem preL_i(m:Nat->Nat)(nn:Nat->Nat->Nat)(i:Nat):preL m nn (i+1) 0 0=preL m nn i (m i) 0:=by
 unfold preL;rw[show psL m nn (i+1)=psL m nn i++fsL nn i (m i) from rfl];simp[wsL,fsL]
def xorV(a b:Int):Int:=IntKind.wrap .u64 ((BitVec.toNat (BitVec.ofInt 64 a ^^^ BitVec.ofInt 64 b):Nat):Int)
def dfO(a b:Nat->Nat->Nat->Int)(q:Ps):List Pt:=if xorV (a q.p q.f q.w) (b q.p q.f q.w)=0 then [] else [⟨q.p,q.f,q.w,xorV (a q.p q.f q.w) (b q.p q.f q.w)⟩]
def dfL(a b:Nat->Nat->Nat->Int)(l:List Ps):List Pt:=l.flatMap (dfO a b)
theorem dfL_app(a b:Nat->Nat->Nat->Int)(l:List Ps)(q:Ps):dfL a b (l++[q])=dfL a b l++dfO a b q:=by unfold dfL;rw[List.flatMap_append];simp
theorem dfL_le(a b:Nat->Nat->Nat->Int):∀l:List Ps,(dfL a b l).length<=l.length
 |[]=>Nat.le_refl _
 |q::l=>by
  have:=dfL_le a b l
  unfold dfL at this ⊢
  rw[List.flatMap_cons,List.length_append,List.length_cons]
  have h1:(dfO a b q).length<=1:=by unfold dfO;split<;>simp
  omega
noncomputable def slN(n:Nat)(l:List (Nat×SV)):List TV:=(List.range n).map fun k=>match l.find? (fun e=>Nat.beq e.1 k) with|some e=>.ok e.2|none=>.unk
def selA(e m:Nat)(c:Nat->Nat->DV)(ds:List DV)(a b:Nat):DV:=selD (decide (a<m)) (c (0+a) b) (dsAt ds (0+(0+(a-m))*e+b))
def by1(q:Pt):Bool:=decide (q.p<0)
def by2(q:Pt):Bool:=by1 q||decide (q.p>255)
def by3(q:Pt):Bool:=by2 q||decide (q.f<0)
def by4(q:Pt):Bool:=by3 q||decide (q.f>255)
def by5(q:Pt):Bool:=by4 q||decide (q.w<0)
def by6(q:Pt):Bool:=by5 q||decide (q.w>255)
noncomputable def fwV(f:FrT):Int:=Go.Proofs.YtanlnopgadbpjaaGreat.dgW f.n fun i=>w64 (f.w i)
end Go.Sx
namespace Go.Proofs.YtanlnopgadbpjaaGreat.Rw
open Go.Proofs.YtanlnopgadbpjaaGreat.Rm
open Go.Sx
noncomputable def manT:FuncId->Option Ctr:=fun k=>match k with
 |41=>some cFr
 |45=>some cWords
 |92=>some cWords
 |_=>none
theorem manT_ok(k:Nat)(c:Ctr)(hk:manT k=some c):CtrOK Tryz.prog k c/\goodF Tryz.prog k=true:=by
 unfold manT at hk
 split at hk
 ·cases hk;exact⟨cFr_ok,by kernel_rfl⟩
 ·cases hk;exact⟨cWords_ok,by kernel_rfl⟩
 ·cases hk;exact⟨cWordsR_ok,by kernel_rfl⟩
 ·cases hk
noncomputable def CT:Ctx:=ctxN Tryz.prog manT (fun _=>false) 200 .nil 6
theorem CT_ok:CtxOK Tryz.prog CT:=ctxN_ok mixed manT_ok 6
noncomputable def DT:Dr:=drawnL Tryz.prog CT
theorem DT_ok:DrOK Tryz.prog CT DT:=drawnL_ok CT_ok mixed
noncomputable def tT(k:Nat)(args:List SV):Tree SV:=fnT Tryz.prog CT DT 200 (fnOf Tryz.prog k) (bodyOf Tryz.prog k) args .nil
noncomputable def bT(n0 nx:Nat)(roots:List (Root×Nat))(keep drop:List Nat)(k j:Nat)(st:AS):Tree (Ex×AS):=cutT n0 roots keep drop nx .nil (exec Tryz.prog CT DT 200 (loopN (bodyOf Tryz.prog k) j) st)
theorem w64_succ{i n:Nat}(h:i<n)(hn:n<=9000000000000000000):w64 ((i:Int)+1)=((i+1:Nat):Int):=by rw[w64_of (by omega) (by omega)];omega
noncomputable def st10(n:Nat)(F:Nat->Pt)(b:Bool)(i:Int):AS:=⟨slN 56 [(0,ptS n F),(2,bv b),(3,iv i)],[],0,.nil⟩
section
variable (n : Nat) (F : Nat → Pt) (b : Bool) (i : Int)
theorem L10_eq:tT 10 [ptS n F]=atCode (sub [] (tT 10 [ptS n F])):=by kernel_rfl
noncomputable def B10:Tree (Ex×AS) :=
 .ite (decide (i<(n:Int))) (.need (0<=i/\i<(n:Int)) (.need (by1 (F i.toNat)=false->0<=i/\i<(n:Int)) (.need (by2 (F i.toNat)=false->0<=i/\i<(n:Int)) (.need (by3 (F i.toNat)=false->0<=i/\i<(n:Int)) (.need (by4 (F i.toNat)=false->0<=i/\i<(n:Int)) (.need (by5 (F i.toNat)=false->0<=i/\i<(n:Int))
  (.ite (by6 (F i.toNat)) (.ret (.ret,st10 n F false i)) (.ret (.normal,st10 n F b (w64 (i+1)))))))))))
  (.ret (.exit 0,st10 n F b i))
theorem B10_eq:bT 0 0 [] [0,2,3] [] 10 0 (st10 n F b i)=B10 n F b i:=by kernel_rfl
theorem K10a_eq:codeK (sub [] (tT 10 [ptS n F])) (.exit 0) (st10 n F b i)=.ret (bv true):=by kernel_rfl
theorem K10b_eq:codeK (sub [] (tT 10 [ptS n F])) .ret (st10 n F b i)=.ret (bv b):=by kernel_rfl
end
open Classical in
theorem s10{n:Nat}{F:Nat->Pt}(hn:n<=1000000000):Sat Tryz.prog (tT 10 [ptS n F]) (·=bv (decide (∀i,i<n->by6 (F i)=false))):=by
 refine Sat.of_eq (L10_eq n F) ⟨for_satS CT_ok DT_ok (n:=200) (n0:=0) (nx:=0) (roots:=[]) (keep:=[0,2,3]) (drop:=[]) (h:=.nil) (body:=loopN (bodyOf Tryz.prog 10) 0) (by kernel_rfl) (by kernel_rfl) n (fun i=>st10 n F false i) (fun i=>∀k,k<i->by6 (F k)=false)
  (fun e t=>(e=.exit 0/\(∀k,k<n->by6 (F k)=false)/\∃b i,t=st10 n F b i)\/(e=.ret/\¬(∀k,k<n->by6 (F k)=false)/\∃i,t=st10 n F false i)) (fun k hk=>by omega) (entA_sound (s':=st10 n F false (0:Nat)) (roots:=[]) (keep:=[0,2,3]) (drop:=[]) (nx:=0) (h:=.nil) (by kernel_rfl)) ?_ ?_ ?_⟩
 ·intro i hi hf
  refine Sat.of_eq (B10_eq n F false i) ⟨?_⟩
  unfold B10
  rw[Int.toNat_natCast,w64_succ hi (by omega)]
  have hr:0<=(i:Int)/\(i:Int)<(n:Int):=by omega
  refine⟨fun _=>⟨hr,fun _=>hr,fun _=>hr,fun _=>hr,fun _=>hr,fun _=>hr,fun h2=>.inr ⟨nofun,.inr ⟨rfl,(fun h=>by rw[h i hi] at h2;cases h2),_,rfl⟩⟩,fun h2=>.inl ⟨rfl,fun k hk=>?_,Gc.refl _ _⟩⟩,fun h1=>by simp only[decide_eq_false_iff_not] at h1;omega⟩
  by_cases hki:k=i
  ·subst hki;exact h2
  ·exact hf k (by omega)
 ·intro hf
  refine Sat.of_eq (B10_eq n F false n) ⟨?_⟩
  unfold B10
  exact⟨fun h1=>by simp only[decide_eq_true_eq] at h1;omega,fun _=>⟨nofun,.inl ⟨rfl,hf,_,_,rfl⟩⟩⟩
 ·rintro e t (⟨rfl,hf,b,i,rfl⟩|⟨rfl,hf,i,rfl⟩)
  ·exact Sat.of_eq (K10a_eq n F b i) ⟨by rw[decide_eq_true hf];rfl⟩
  ·exact Sat.of_eq (K10b_eq n F false i) ⟨by rw[decide_eq_false hf];rfl⟩
theorem ptD_le{n:Nat}{L:Nat->Nat->Sx.DV}(h:PtD n L):leSVs 0 [] [] [.d (.ro n 4 L)] [ptS n fun i=>ptR (L i)]:=by
 unfold ptS
 simp only[leSVs,leSV,leD,and_true,true_and]
 exact fun i j hi hj=>h i j hi hj
open Classical in
noncomputable def cBs:Ctr:=fun ss=>match ss with
 |[.d (.ro n 4 L)]=>.need (n<=1000000000/\PtD n L) (.ret (bv (decide (∀i,i<n->by6 (ptR (L i))=false))))
 |_=>.fail
theorem cBs_ok:CtrOK Tryz.prog 10 cBs:=ctrOK_leS CT_ok DT_ok (by kernel_rfl) (by kernel_rfl) fun ss r h=>by
 unfold cBs at h
 split at h
 ·rename_i n L
  obtain⟨⟨hn,hL⟩,rfl⟩:=h
  exact⟨_,200,.nil,ptD_le hL,s10 hn⟩
 ·exact h.elim
noncomputable def st12(n:Nat)(x:Nat->FsT)(m:Nat)(c:Nat->Nat->Sx.DV)(i:Int):AS:=⟨slN 21 [(0,ssS n x),(3,.row 1 0 0 m 1),(4,iv i)],[none,some (.row m 1 c)],2,.nil⟩
section
variable (n : Nat) (x : Nat → FsT) (m : Nat) (c : Nat → Nat → Sx.DV) (i : Int)
theorem L12_eq:tT 12 [ssS n x]=atCode (sub [] (tT 12 [ssS n x])):=by kernel_rfl
noncomputable def B12:Tree (Ex×AS) :=
 .ite (decide (i<(n:Int))) (.need (0<=i/\i<(n:Int)) (.need (FrD (x i.toNat).n fun k j=>fmC ((x i.toNat).f k) j) (.need (0+m<=m/\1<=1/\(m+1)*8<=140737488355328)
  (.ret (.normal,st12 n x (m+1) (selA 1 m c [.x (.int .u64 (fsV (x i.toNat)))]) (w64 (i+1))))))) (.ret (.exit 0,st12 n x m c i))
theorem B12_eq:bT 1 2 [(.slot 3,1)] [0,3,4] [0] 12 0 (st12 n x m c i)=B12 n x m c i:=by kernel_rfl
theorem K12_eq:codeK (sub [] (tT 12 [ssS n x])) (.exit 0) (st12 n x m c i)=.need (0+m<=m) (.ret (.d (.ro m 1 fun i j=>c (0+i) j))):=by kernel_rfl
end
noncomputable def fsU(x:Nat->FsT)(a b:Nat):Sx.DV:=.x (.int .u64 (fsV (x a)))
theorem s12{n:Nat}{x:Nat->FsT}(hn:n<=1000000000)(hx:∀i,i<n->FsOK (x i)):Sat Tryz.prog (tT 12 [ssS n x]) (·=.d (.ro n 1 fun i j=>fsU x i j)):=by
 refine Sat.of_eq (L12_eq n x) ⟨for_satS CT_ok DT_ok (n:=200) (n0:=1) (nx:=2) (roots:=[(.slot 3,1)]) (keep:=[0,3,4]) (drop:=[0]) (h:=.nil) (body:=loopN (bodyOf Tryz.prog 12) 0) (by kernel_rfl) (by kernel_rfl) n (fun i=>st12 n x i (fsU x) i) (fun i=>True)
  (fun e t=>e=.exit 0/\t=st12 n x n (fsU x) n) trivial ?_ ?_ ?_ ?_⟩
 ·refine(entA_sound (s':=⟨slN 21 [(0,ssS n x),(3,.row 1 0 0 0 1),(4,iv 0)],[none,some (.cells [])],2,.nil⟩) (roots:=[(.slot 3,1)]) (keep:=[0,3,4]) (drop:=[0]) (nx:=2) (h:=.nil) (by kernel_rfl)).trans ?_
  exact gc_hp rfl rfl ⟨.inl rfl,.inr ⟨_,_,rfl,rfl,.cells rfl fun a b ha=>by omega⟩,trivial⟩
 ·intro i hi _
  refine Sat.of_eq (B12_eq n x i (fsU x) i) ⟨?_⟩
  unfold B12
  rw[Int.toNat_natCast,w64_succ hi (by omega)]
  refine⟨fun _=>⟨by omega,⟨(hx i hi).n,fun k hk=>⟨(hx i hi).w k hk,rfl⟩⟩,by omega,.inl ⟨rfl,trivial,?_⟩⟩,fun h1=>by simp only[decide_eq_false_iff_not] at h1;omega⟩
  exact gc_hp rfl rfl ⟨.inl rfl,.inr ⟨_,_,rfl,rfl,.row fun a b ha hb=>app_fun (e:=1) (fun b hb=>by obtain rfl:b=0:=(by omega);rfl) ha hb⟩,trivial⟩
 ·intro _
  refine Sat.of_eq (B12_eq n x n (fsU x) n) ⟨?_⟩
  unfold B12
  exact⟨fun h1=>by simp only[decide_eq_true_eq] at h1;omega,fun _=>⟨nofun,rfl,rfl⟩⟩
 ·rintro e t ⟨rfl,rfl⟩
  refine Sat.of_eq (K12_eq n x n (fsU x) n) ⟨by omega,?_⟩
  show SV.d (.ro n 1 fun i j=>fsU x (0+i) j)=_
  simp only[Nat.zero_add]
noncomputable def cDg:Ctr:=fun ss=>match ss with
 |[.d (.ro n 1 F)]=>.need (n<=1000000000/\SsD n F) (.ret (.d (.ro n 1 fun i j=>fsU (fun i=>fsOf (F i)) i j)))
 |_=>.fail
theorem ssD_le{n:Nat}{F:Nat->Nat->Sx.DV}(h:SsD n F):leSV 0 [] [] (.d (.ro n 1 F)) (ssS n fun i=>fsOf (F i)):=by
 unfold ssS
 simp only[leSV,leD,true_and]
 intro i j hi hj
 obtain rfl:j=0:=by omega
 exact(h i hi).2
theorem cDg_ok:CtrOK Tryz.prog 12 cDg:=ctrOK_leS CT_ok DT_ok (by kernel_rfl) (by kernel_rfl) fun ss r h=>by
 unfold cDg at h
 split at h
 ·rename_i n F
  obtain⟨⟨hn,hF⟩,rfl⟩:=h
  exact⟨[ssS n fun i=>fsOf (F i)],200,.nil,by simp only[leSVs,and_true];exact ssD_le hF,s12 hn fun i hi=>(hF i hi).1⟩
 ·exact h.elim
noncomputable def wdS(f:FrT):SV:=.agg [.d (fmC f 0)]
noncomputable def i64F(f:FrT)(a b:Nat):Sx.DV:=.x (.int .i64 (w64 (f.w a)))
noncomputable def st61(f:FrT)(m:Nat)(c:Nat->Nat->Sx.DV)(i:Int):AS:=⟨slN 21 [(3,.row 1 0 0 m 1),(7,.d (fmC f 0)),(8,iv f.n),(9,iv i)],[none,some (.row m 1 c)],2,.nil⟩
noncomputable def st67(f:FrT)(m:Nat)(c:Nat->Nat->Sx.DV)(i:Int):AS:=⟨slN 24 [(1,.ptr 0 0),(3,.row 2 0 0 m 1),(4,iv i)],[some (.cells [.d (fmC f 0)]),none,some (.row m 1 c)],3,.nil⟩
section
variable (f : FrT) (m : Nat) (c : Nat → Nat → Sx.DV) (i : Int)
theorem L61_eq:tT 61 [wdS f]=atCode (sub [] (tT 61 [wdS f])):=by kernel_rfl
theorem L67_eq:tT 67 [wdS f]=atCode (sub [] (tT 67 [wdS f])):=by kernel_rfl
noncomputable def B61:Tree (Ex×AS) :=
 .ite (decide (i<(f.n:Int))) (.need (0<=i/\i<(f.n:Int)) (.need (0+m<=m/\1<=1/\(m+1)*8<=140737488355328) (.ret (.normal,st61 f (m+1) (selA 1 m c [.x (.int .i64 (w64 (f.w i.toNat)))]) (w64 (i+1)))))) (.ret (.exit 0,st61 f m c i))
theorem B61_eq:bT 1 2 [(.slot 3,1)] [3,7,8,9] [0] 61 0 (st61 f m c i)=B61 f m c i:=by kernel_rfl
noncomputable def B67:Tree (Ex×AS) :=
 .ite (decide (i<(f.n:Int))) (.need (0<=i/\i<(f.n:Int)) (.need (0+m<=m/\1<=1/\(m+1)*8<=140737488355328) (.ret (.normal,st67 f (m+1) (selA 1 m c [.x (.int .i64 (w64 (f.w i.toNat)))]) (w64 (i+1)))))) (.ret (.exit 0,st67 f m c i))
theorem B67_eq:bT 2 3 [(.slot 3,2)] [1,3,4] [1] 67 0 (st67 f m c i)=B67 f m c i:=by kernel_rfl
theorem K61_eq:codeK (sub [] (tT 61 [wdS f])) (.exit 0) (st61 f m c i)=.need (0+m<=m) (.need (I64C m fun i j=>c (0+i) j) (.ret (.d (.x (.int .u64 (dgW m fun i=>intOf1 (c (0+i) 0))))))):=by kernel_rfl
theorem K67_eq:codeK (sub [] (tT 67 [wdS f])) (.exit 0) (st67 f m c i)=.need (0+m<=m) (.need (I64C m fun i j=>c (0+i) j) (.ret (.d (.x (.int .u64 (dgW m fun i=>intOf1 (c (0+i) 0))))))):=by kernel_rfl
end
theorem fwV_eq(f:FrT):(dgW f.n fun i=>intOf1 (i64F f (0+i) 0))=fwV f:=by
 unfold fwV
 refine dgW_congr fun i hi=>?_
 rw[Nat.zero_add];rfl
theorem s61{f:FrT}(hn:f.n<=1000000000):Sat Tryz.prog (tT 61 [wdS f]) (·=u64v (fwV f)):=by
 refine Sat.of_eq (L61_eq f) ⟨for_satS CT_ok DT_ok (n:=200) (n0:=1) (nx:=2) (roots:=[(.slot 3,1)]) (keep:=[3,7,8,9]) (drop:=[0]) (h:=.nil) (body:=loopN (bodyOf Tryz.prog 61) 0) (by kernel_rfl) (by kernel_rfl) f.n (fun i=>st61 f i (i64F f) i) (fun i=>True)
  (fun e t=>e=.exit 0/\t=st61 f f.n (i64F f) f.n) trivial ?_ ?_ ?_ ?_⟩
 ·refine(entA_sound (s':=⟨slN 21 [(3,.d (.x (.slice none 0 0))),(7,.d (fmC f 0)),(8,iv f.n),(9,iv 0)],[none],1,.nil⟩) (roots:=[]) (keep:=[3,7,8,9]) (drop:=[0]) (nx:=1) (h:=.nil) (by kernel_rfl)).trans ?_
  refine gc_sound [] [1] rfl ?_ ?_
  ·simp[st61,slN,leTm,leTV,leSV,leSVs,rn,iv,leD,List.range,List.range.loop,List.find?,fmC]
  ·simp[st61,leHp,leBlk,leSVs,leSV,rn,iv,leD,srcOf,hget]
 ·intro i hi _
  refine Sat.of_eq (B61_eq f i (i64F f) i) ⟨?_⟩
  unfold B61
  rw[Int.toNat_natCast,w64_succ hi (by omega)]
  refine⟨fun _=>⟨by omega,by omega,.inl ⟨rfl,trivial,?_⟩⟩,fun h1=>by simp only[decide_eq_false_iff_not] at h1;omega⟩
  exact gc_hp rfl rfl ⟨.inl rfl,.inr ⟨_,_,rfl,rfl,.row fun a b ha hb=>app_fun (e:=1) (fun b hb=>by obtain rfl:b=0:=(by omega);rfl) ha hb⟩,trivial⟩
 ·intro _
  refine Sat.of_eq (B61_eq f f.n (i64F f) f.n) ⟨?_⟩
  unfold B61
  exact⟨fun h1=>by simp only[decide_eq_true_eq] at h1;omega,fun _=>⟨nofun,rfl,rfl⟩⟩
 ·rintro e t ⟨rfl,rfl⟩
  refine Sat.of_eq (K61_eq f f.n (i64F f) f.n) ⟨by omega,⟨by omega,fun i hi=>rfl⟩,?_⟩
  rw[fwV_eq];rfl
theorem s67{f:FrT}(hn:f.n<=1000000000):Sat Tryz.prog (tT 67 [wdS f]) (·=u64v (fwV f)):=by
 refine Sat.of_eq (L67_eq f) ⟨for_satS CT_ok DT_ok (n:=200) (n0:=2) (nx:=3) (roots:=[(.slot 3,2)]) (keep:=[1,3,4]) (drop:=[1]) (h:=.nil) (body:=loopN (bodyOf Tryz.prog 67) 0) (by kernel_rfl) (by kernel_rfl) f.n (fun i=>st67 f i (i64F f) i) (fun i=>True)
  (fun e t=>e=.exit 0/\t=st67 f f.n (i64F f) f.n) trivial ?_ ?_ ?_ ?_⟩
 ·refine(entA_sound (s':=⟨slN 24 [(1,.ptr 0 0),(3,.row 2 0 0 0 1),(4,iv 0)],[some (.cells [.d (fmC f 0)]),none,some (.cells [])],3,.nil⟩) (roots:=[(.slot 3,2)]) (keep:=[1,3,4]) (drop:=[1]) (nx:=3) (h:=.nil) (by kernel_rfl)).trans ?_
  exact gc_hp rfl rfl ⟨.inr ⟨_,_,rfl,rfl,.refl _⟩,.inl rfl,.inr ⟨_,_,rfl,rfl,.cells rfl fun a b ha=>by omega⟩,trivial⟩
 ·intro i hi _
  refine Sat.of_eq (B67_eq f i (i64F f) i) ⟨?_⟩
  unfold B67
  rw[Int.toNat_natCast,w64_succ hi (by omega)]
  refine⟨fun _=>⟨by omega,by omega,.inl ⟨rfl,trivial,?_⟩⟩,fun h1=>by simp only[decide_eq_false_iff_not] at h1;omega⟩
  exact gc_hp rfl rfl ⟨.inr ⟨_,_,rfl,rfl,.refl _⟩,.inl rfl,.inr ⟨_,_,rfl,rfl,.row fun a b ha hb=>app_fun (e:=1) (fun b hb=>by obtain rfl:b=0:=(by omega);rfl) ha hb⟩,trivial⟩
 ·intro _
  refine Sat.of_eq (B67_eq f f.n (i64F f) f.n) ⟨?_⟩
  unfold B67
  exact⟨fun h1=>by simp only[decide_eq_true_eq] at h1;omega,fun _=>⟨nofun,rfl,rfl⟩⟩
 ·rintro e t ⟨rfl,rfl⟩
  refine Sat.of_eq (K67_eq f f.n (i64F f) f.n) ⟨by omega,⟨by omega,fun i hi=>rfl⟩,?_⟩
  rw[fwV_eq];rfl
noncomputable def cDo:Ctr:=fun ss=>match ss with
 |[.agg [.d (.ro n 1 W)]]=>.need (UrD n W) (.ret (u64v (fwV ⟨n,fun j=>numV (W j 0)⟩)))
 |_=>.fail
theorem urD_le{n:Nat}{W:Nat->Nat->Sx.DV}(h:UrD n W):leSVs 0 [] [] [.agg [.d (.ro n 1 W)]] [wdS ⟨n,fun j=>numV (W j 0)⟩]:=by
 unfold wdS fmC
 simp only[leSVs,leSV,leD,and_true,true_and]
 intro i j hi hj
 obtain rfl:j=0:=by omega
 exact h.2 i hi
theorem cDo_ok:CtrOK Tryz.prog 61 cDo:=ctrOK_leS CT_ok DT_ok (by kernel_rfl) (by kernel_rfl) fun ss r h=>by
 unfold cDo at h
 split at h
 ·obtain⟨h1,rfl⟩:=h
  exact⟨_,200,.nil,urD_le h1,s61 h1.1⟩
 ·exact h.elim
theorem cDoR_ok:CtrOK Tryz.prog 67 cDo:=ctrOK_leS CT_ok DT_ok (by kernel_rfl) (by kernel_rfl) fun ss r h=>by
 unfold cDo at h
 split at h
 ·obtain⟨h1,rfl⟩:=h
  exact⟨_,200,.nil,urD_le h1,s67 h1.1⟩
 ·exact h.elim
noncomputable def manU:FuncId->Option Ctr:=fun k=>match k with
 |61=>some cDo
 |67=>some cDo
 |_=>none
theorem manU_ok(k:Nat)(c:Ctr)(hk:manU k=some c):CtrOK Tryz.prog k c/\goodF Tryz.prog k=true:=by
 unfold manU at hk
 split at hk
 ·cases hk;exact⟨cDo_ok,by kernel_rfl⟩
 ·cases hk;exact⟨cDoR_ok,by kernel_rfl⟩
 ·cases hk
noncomputable def CU:Ctx:=ctxN Tryz.prog manU (fun _=>false) 200 .nil 6
theorem CU_ok:CtxOK Tryz.prog CU:=ctxN_ok mixed manU_ok 6
noncomputable def DU:Dr:=drawnL Tryz.prog CU
theorem DU_ok:DrOK Tryz.prog CU DU:=drawnL_ok CU_ok mixed
noncomputable def tU(k:Nat)(args:List SV):Tree SV:=fnT Tryz.prog CU DU 200 (fnOf Tryz.prog k) (bodyOf Tryz.prog k) args .nil
noncomputable def bU(n0 nx:Nat)(roots:List (Root×Nat))(keep drop:List Nat)(k j:Nat)(st:AS):Tree (Ex×AS):=cutT n0 roots keep drop nx .nil (exec Tryz.prog CU DU 200 (loopN (bodyOf Tryz.prog k) j) st)
noncomputable def st8(a:Nat)(f:Nat->Pt)(b:Nat)(g:Nat->Pt)(e:Bool)(i:Int):AS:=⟨slN 26 [(0,ptS a f),(1,ptS b g),(4,bv e),(5,iv i)],[],0,.nil⟩
def eqPt(p q:Pt):Bool:=p.p==q.p&&(p.f==q.f&&(p.w==q.w&&(p.x==q.x&&true)))
noncomputable def prS(n:Nat)(f:Nat->Nat->Int):SV:=.d (.ro n 2 fun i j=>.x (.int .i64 (f i j)))
def eqPr(p q:Nat->Int):Bool:=p 0==q 0&&(p 1==q 1&&true)
noncomputable def st30(a:Nat)(f:Nat->Nat->Int)(b:Nat)(g:Nat->Nat->Int)(e:Bool)(i:Int):AS:=⟨slN 26 [(0,prS a f),(1,prS b g),(4,bv e),(5,iv i)],[],0,.nil⟩
section
variable (a : Nat) (f : Nat → Pt) (b : Nat) (g : Nat → Pt) (e : Bool) (i : Int)
theorem L8_eq:tU 8 [ptS a f,ptS b g]=.ite ((a:Int) != (b:Int)) (.ret (bv false)) (atCode (sub [1] (tU 8 [ptS a f,ptS b g]))):=by kernel_rfl
noncomputable def B8:Tree (Ex×AS) :=
 .ite (decide (i<(a:Int))) (.need (0<=i/\i<(a:Int)) (.need (0<=i/\i<(b:Int)) (.ite (!(eqPt (f i.toNat) (g i.toNat))) (.ret (.ret,st8 a f b g false i)) (.ret (.normal,st8 a f b g e (w64 (i+1))))))) (.ret (.exit 0,st8 a f b g e i))
theorem B8_eq:bU 0 0 [] [0,1,4,5] [] 8 0 (st8 a f b g e i)=B8 a f b g e i:=by kernel_rfl
theorem K8a_eq:codeK (sub [1] (tU 8 [ptS a f,ptS b g])) (.exit 0) (st8 a f b g e i)=.ret (bv true):=by kernel_rfl
theorem K8b_eq:codeK (sub [1] (tU 8 [ptS a f,ptS b g])) .ret (st8 a f b g e i)=.ret (bv e):=by kernel_rfl
end
def eqs8(a:Nat)(f:Nat->Pt)(b:Nat)(g:Nat->Pt):Prop:=a=b/\∀i,i<a->eqPt (f i) (g i)=true
open Classical in
theorem s8{a b:Nat}{f g:Nat->Pt}(hn:a<=1000000000):Sat Tryz.prog (tU 8 [ptS a f,ptS b g]) (·=bv (decide (eqs8 a f b g))):=by
 refine Sat.of_eq (L8_eq a f b g) ⟨fun h=>?_,fun h=>?_⟩
 ·rw[bne_iff_ne] at h
  rw[decide_eq_false (fun h2=>h (by rw[h2.1]))];rfl
 rw[bne_eq_false_iff_eq] at h
 obtain rfl:a=b:=by omega
 refine for_satS CU_ok DU_ok (n:=200) (n0:=0) (nx:=0) (roots:=[]) (keep:=[0,1,4,5]) (drop:=[]) (h:=.nil) (body:=loopN (bodyOf Tryz.prog 8) 0) (by kernel_rfl) (by kernel_rfl) a (fun i=>st8 a f a g false i) (fun i=>∀k,k<i->eqPt (f k) (g k)=true)
  (fun e t=>(e=.exit 0/\eqs8 a f a g/\∃b i,t=st8 a f a g b i)\/(e=.ret/\¬eqs8 a f a g/\∃i,t=st8 a f a g false i)) (fun k hk=>by omega) (entA_sound (s':=st8 a f a g false (0:Nat)) (roots:=[]) (keep:=[0,1,4,5]) (drop:=[]) (nx:=0) (h:=.nil) (by kernel_rfl)) ?_ ?_ ?_
 ·intro i hi hf
  refine Sat.of_eq (B8_eq a f a g false i) ⟨?_⟩
  unfold B8
  rw[Int.toNat_natCast,w64_succ hi (by omega)]
  have hr:0<=(i:Int)/\(i:Int)<(a:Int):=by omega
  refine⟨fun _=>⟨hr,hr,fun h2=>.inr ⟨nofun,.inr ⟨rfl,(fun h=>by rw[h.2 i hi] at h2;cases h2),_,rfl⟩⟩,fun h2=>.inl ⟨rfl,fun k hk=>?_,Gc.refl _ _⟩⟩,fun h1=>by simp only[decide_eq_false_iff_not] at h1;omega⟩
  by_cases hki:k=i
  ·subst hki;simpa using h2
  ·exact hf k (by omega)
 ·intro hf
  refine Sat.of_eq (B8_eq a f a g false a) ⟨?_⟩
  unfold B8
  exact⟨fun h1=>by simp only[decide_eq_true_eq] at h1;omega,fun _=>⟨nofun,.inl ⟨rfl,⟨rfl,hf⟩,_,_,rfl⟩⟩⟩
 ·rintro e t (⟨rfl,hf,b,i,rfl⟩|⟨rfl,hf,i,rfl⟩)
  ·exact Sat.of_eq (K8a_eq a f a g b i) ⟨by rw[decide_eq_true hf];rfl⟩
  ·exact Sat.of_eq (K8b_eq a f a g false i) ⟨by rw[decide_eq_false hf];rfl⟩
section
variable (a : Nat) (f : Nat → Nat → Int) (b : Nat) (g : Nat → Nat → Int) (e : Bool) (i : Int)
theorem L30_eq:tU 30 [prS a f,prS b g]=.ite ((a:Int) != (b:Int)) (.ret (bv false)) (atCode (sub [1] (tU 30 [prS a f,prS b g]))):=by kernel_rfl
noncomputable def B30:Tree (Ex×AS) :=
 .ite (decide (i<(a:Int))) (.need (0<=i/\i<(a:Int)) (.need (0<=i/\i<(b:Int)) (.ite (!(eqPr (f i.toNat) (g i.toNat))) (.ret (.ret,st30 a f b g false i)) (.ret (.normal,st30 a f b g e (w64 (i+1))))))) (.ret (.exit 0,st30 a f b g e i))
theorem B30_eq:bU 0 0 [] [0,1,4,5] [] 30 0 (st30 a f b g e i)=B30 a f b g e i:=by kernel_rfl
theorem K30a_eq:codeK (sub [1] (tU 30 [prS a f,prS b g])) (.exit 0) (st30 a f b g e i)=.ret (bv true):=by kernel_rfl
theorem K30b_eq:codeK (sub [1] (tU 30 [prS a f,prS b g])) .ret (st30 a f b g e i)=.ret (bv e):=by kernel_rfl
end
def eqs30(a:Nat)(f:Nat->Nat->Int)(b:Nat)(g:Nat->Nat->Int):Prop:=a=b/\∀i,i<a->eqPr (f i) (g i)=true
open Classical in
theorem s30{a b:Nat}{f g:Nat->Nat->Int}(hn:a<=1000000000):Sat Tryz.prog (tU 30 [prS a f,prS b g]) (·=bv (decide (eqs30 a f b g))):=by
 refine Sat.of_eq (L30_eq a f b g) ⟨fun h=>?_,fun h=>?_⟩
 ·rw[bne_iff_ne] at h
  rw[decide_eq_false (fun h2=>h (by rw[h2.1]))];rfl
 rw[bne_eq_false_iff_eq] at h
 obtain rfl:a=b:=by omega
 refine for_satS CU_ok DU_ok (n:=200) (n0:=0) (nx:=0) (roots:=[]) (keep:=[0,1,4,5]) (drop:=[]) (h:=.nil) (body:=loopN (bodyOf Tryz.prog 30) 0) (by kernel_rfl) (by kernel_rfl) a (fun i=>st30 a f a g false i) (fun i=>∀k,k<i->eqPr (f k) (g k)=true)
  (fun e t=>(e=.exit 0/\eqs30 a f a g/\∃b i,t=st30 a f a g b i)\/(e=.ret/\¬eqs30 a f a g/\∃i,t=st30 a f a g false i)) (fun k hk=>by omega) (entA_sound (s':=st30 a f a g false (0:Nat)) (roots:=[]) (keep:=[0,1,4,5]) (drop:=[]) (nx:=0) (h:=.nil) (by kernel_rfl)) ?_ ?_ ?_
 ·intro i hi hf
  refine Sat.of_eq (B30_eq a f a g false i) ⟨?_⟩
  unfold B30
  rw[Int.toNat_natCast,w64_succ hi (by omega)]
  have hr:0<=(i:Int)/\(i:Int)<(a:Int):=by omega
  refine⟨fun _=>⟨hr,hr,fun h2=>.inr ⟨nofun,.inr ⟨rfl,(fun h=>by rw[h.2 i hi] at h2;cases h2),_,rfl⟩⟩,fun h2=>.inl ⟨rfl,fun k hk=>?_,Gc.refl _ _⟩⟩,fun h1=>by simp only[decide_eq_false_iff_not] at h1;omega⟩
  by_cases hki:k=i
  ·subst hki;simpa using h2
  ·exact hf k (by omega)
 ·intro hf
  refine Sat.of_eq (B30_eq a f a g false a) ⟨?_⟩
  unfold B30
  exact⟨fun h1=>by simp only[decide_eq_true_eq] at h1;omega,fun _=>⟨nofun,.inl ⟨rfl,⟨rfl,hf⟩,_,_,rfl⟩⟩⟩
 ·rintro e t (⟨rfl,hf,b,i,rfl⟩|⟨rfl,hf,i,rfl⟩)
  ·exact Sat.of_eq (K30a_eq a f a g b i) ⟨by rw[decide_eq_true hf];rfl⟩
  ·exact Sat.of_eq (K30b_eq a f a g false i) ⟨by rw[decide_eq_false hf];rfl⟩
open Classical in
noncomputable def cSpt:Ctr:=fun ss=>match ss with
 |[.d (.ro a 4 A),.d (.ro b 4 B)]=>.need (a<=1000000000/\PtD a A/\PtD b B) (.ret (bv (decide (eqs8 a (fun i=>ptR (A i)) b fun i=>ptR (B i)))))
 |_=>.fail
theorem cSpt_ok:CtrOK Tryz.prog 8 cSpt:=ctrOK_leS CU_ok DU_ok (by kernel_rfl) (by kernel_rfl) fun ss r h=>by
 unfold cSpt at h
 split at h
 ·rename_i a A b B
  obtain⟨⟨hn,hA,hB⟩,rfl⟩:=h
  refine⟨[ptS a fun i=>ptR (A i),ptS b fun i=>ptR (B i)],200,.nil,?_,s8 hn⟩
  unfold ptS
  simp only[leSVs,leSV,leD,and_true,true_and]
  exact⟨fun i j hi hj=>hA i j hi hj,fun i j hi hj=>hB i j hi hj⟩
 ·exact h.elim
def _root_.Go.Proofs.PrD(n:Nat)(A:Nat->Nat->Sx.DV):Prop:=∀i j,i<n->j<2->A i j=.x (.int .i64 (numV (A i j)))
open Classical in
noncomputable def cSpr:Ctr:=fun ss=>match ss with
 |[.d (.ro a 2 A),.d (.ro b 2 B)]=>.need (a<=1000000000/\PrD a A/\PrD b B) (.ret (bv (decide (eqs30 a (fun i j=>numV (A i j)) b fun i j=>numV (B i j)))))
 |_=>.fail
theorem cSpr_ok:CtrOK Tryz.prog 30 cSpr:=ctrOK_leS CU_ok DU_ok (by kernel_rfl) (by kernel_rfl) fun ss r h=>by
 unfold cSpr at h
 split at h
 ·rename_i a A b B
  obtain⟨⟨hn,hA,hB⟩,rfl⟩:=h
  refine⟨[prS a fun i j=>numV (A i j),prS b fun i j=>numV (B i j)],200,.nil,?_,s30 hn⟩
  unfold prS
  simp only[leSVs,leSV,leD,and_true,true_and]
  exact⟨fun i j hi hj=>hA i j hi hj,fun i j hi hj=>hB i j hi hj⟩
 ·exact h.elim
noncomputable def dgF'(y:FsT):FrT:=⟨y.n,fun k=>fwV (y.f k)⟩
noncomputable def dgC'(y:FsT)(a b:Nat):Sx.DV:=.x (.int .u64 (fwV (y.f a)))
noncomputable def dsC(x:Nat->FsT)(a b:Nat):Sx.DV:=fmC (dgF' (x a)) b
noncomputable def st26(n:Nat)(x:Nat->FsT)(m:Nat)(c:Nat->Nat->Sx.DV)(i:Int):AS:=⟨slN 33 [(3,.row 0 0 0 m 1),(9,ssS n x),(10,iv n),(11,iv i)],[some (.row m 1 c)],1,.nil⟩
noncomputable def st26b(n:Nat)(x:Nat->FsT)(m:Nat)(c:Nat->Nat->Sx.DV)(i:Int)(y:FsT)(q:Nat)(d:Nat->Nat->Sx.DV)(k:Int):AS:=⟨slN 33 [(3,.row 0 0 0 m 1),(6,.row 2 0 0 q 1),(9,ssS n x),(10,iv n),(11,iv i),(15,.d (fsC y 0)),(16,iv y.n),(17,iv k)],[some (.row m 1 c),none,some (.row q 1 d)],3,.nil⟩
noncomputable def st32(n:Nat)(x:Nat->FsT)(m:Nat)(c:Nat->Nat->Sx.DV)(i:Int):AS:=⟨slN 40 [(0,ssS n x),(3,.row 1 0 0 m 1),(4,iv i)],[none,some (.row m 1 c)],2,.nil⟩
noncomputable def st32b(n:Nat)(x:Nat->FsT)(m:Nat)(c:Nat->Nat->Sx.DV)(i:Int)(q:Nat)(d:Nat->Nat->Sx.DV)(k:Int):AS:=⟨slN 40 [(0,ssS n x),(3,.row 1 0 0 m 1),(4,iv i),(5,.row 3 0 0 q 1),(6,iv k)],[none,some (.row m 1 c),none,some (.row q 1 d)],4,.nil⟩
section
variable (n : Nat) (x : Nat → FsT) (m : Nat) (c : Nat → Nat → Sx.DV) (i : Int)
noncomputable def b26:Tree (Ex×AS):=bU 0 1 [(.slot 3,0)] [3,9,10,11] [] 26 0 (st26 n x m c i)
noncomputable def b32:Tree (Ex×AS):=bU 1 2 [(.slot 3,1)] [0,3,4] [0] 32 0 (st32 n x m c i)
theorem L26_eq:tU 26 [ssS n x]=atCode (sub [] (tU 26 [ssS n x])):=by kernel_rfl
theorem L32_eq:tU 32 [ssS n x]=atCode (sub [] (tU 32 [ssS n x])):=by kernel_rfl
noncomputable def B26:Tree (Ex×AS):=.ite (decide (i<(n:Int))) (.need (0<=i/\i<(n:Int)) (atCode (sub [0,0] (b26 n x m c i)))) (.ret (.exit 0,st26 n x m c i))
theorem B26_eq:b26 n x m c i=B26 n x m c i:=by kernel_rfl
noncomputable def B32:Tree (Ex×AS):=.ite (decide (i<(n:Int))) (atCode (sub [0] (b32 n x m c i))) (.ret (.exit 0,st32 n x m c i))
theorem B32_eq:b32 n x m c i=B32 n x m c i:=by kernel_rfl
theorem K26_eq:codeK (sub [] (tU 26 [ssS n x])) (.exit 0) (st26 n x m c i)=.need (0+m<=m) (.ret (.d (.ro m 1 fun i j=>c (0+i) j))):=by kernel_rfl
theorem K32_eq:codeK (sub [] (tU 32 [ssS n x])) (.exit 0) (st32 n x m c i)=.need (0+m<=m) (.ret (.d (.ro m 1 fun i j=>c (0+i) j))):=by kernel_rfl
variable (y : FsT) (q : Nat) (d : Nat → Nat → Sx.DV) (k : Int)
noncomputable def B26b:Tree (Ex×AS) :=
 .ite (decide (k<(y.n:Int))) (.need (0<=k/\k<(y.n:Int)) (.need (UrD (y.f k.toNat).n fun j _=>.x (.int .u64 ((y.f k.toNat).w j))) (.need (0+q<=q/\1<=1/\(q+1)*8<=140737488355328)
  (.ret (.normal,st26b n x m c i y (q+1) (selA 1 q d [.x (.int .u64 (fwV (y.f k.toNat)))]) (w64 (k+1))))))) (.ret (.exit 2,st26b n x m c i y q d k))
theorem B26b_eq:bU 1 3 [(.slot 6,2)] [3,6,9,10,11,15,16,17] [] 26 1 (st26b n x m c i y q d k)=B26b n x m c i y q d k:=by kernel_rfl
theorem K26b_eq(c0:Nat->Nat->Sx.DV)(i0:Int)(m0:Nat):codeK (sub [0,0] (b26 n x m0 c0 i0)) (.exit 2) (st26b n x m c i y q d k)=.need (0+q<=q) (.need (0+m<=m/\1<=1/\(m+1)*24<=140737488355328) (.ret (.normal,st26 n x (m+1) (selA 1 m c [.ro q 1 fun i j=>d (0+i) j]) (w64 (i+1))))):=by kernel_rfl
theorem E26b_eq:entA 1 [] [3,6,9,10,11,15,16,17] [] 1 .nil (sub [0,0] (b26 n x m c i))=some ⟨slN 33 [(3,.row 0 0 0 m 1),(6,.d (.x (.slice none 0 0))),(9,ssS n x),(10,iv n),(11,iv i),(15,.d (fsC (x i.toNat) 0)),(16,iv (x i.toNat).n),(17,iv 0)],[some (.row m 1 c)],1,.nil⟩:=by kernel_rfl
noncomputable def B32b:Tree (Ex×AS) :=
 .need (0<=i/\i<(n:Int)) (.ite (decide (k<((x i.toNat).n:Int))) (.need (0<=i/\i<(n:Int)) (.need (0<=k/\k<((x i.toNat).n:Int)) (.need (UrD ((x i.toNat).f k.toNat).n fun j _=>.x (.int .u64 (((x i.toNat).f k.toNat).w j))) (.need (0+q<=q/\1<=1/\(q+1)*8<=140737488355328)
  (.ret (.normal,st32b n x m c i (q+1) (selA 1 q d [.x (.int .u64 (fwV ((x i.toNat).f k.toNat)))]) (w64 (k+1)))))))) (.ret (.exit 2,st32b n x m c i q d k)))
theorem B32b_eq:bU 3 4 [(.slot 5,3)] [0,3,4,5,6] [0,2] 32 1 (st32b n x m c i q d k)=B32b n x m c i q d k:=by kernel_rfl
theorem K32b_eq(c0:Nat->Nat->Sx.DV)(i0:Int)(m0:Nat):codeK (sub [0] (b32 n x m0 c0 i0)) (.exit 2) (st32b n x m c i q d k)=.need (0+q<=q) (.need (0+m<=m/\1<=1/\(m+1)*24<=140737488355328) (.ret (.normal,st32 n x (m+1) (selA 1 m c [.ro q 1 fun i j=>d (0+i) j]) (w64 (i+1))))):=by kernel_rfl
theorem E32b_eq:entA 3 [(.slot 5,3)] [0,3,4,5,6] [0,2] 4 .nil (sub [0] (b32 n x m c i))=some ⟨slN 40 [(0,ssS n x),(3,.row 1 0 0 m 1),(4,iv i),(5,.row 3 0 0 0 1),(6,iv 0)],[none,some (.row m 1 c),none,some (.cells [])],4,.nil⟩:=by kernel_rfl
end
theorem urD_f(f:FrT)(h:f.n<=1000000000):UrD f.n fun j _=>.x (.int .u64 (f.w j)):=⟨h,fun i hi=>rfl⟩
theorem d1_app(y:FsT)(k:Nat)(a b:Nat)(ha:a<k+1)(hb:b<1):selA 1 k (dgC' y) [.x (.int .u64 (fwV (y.f k)))] a b=dgC' y a b:=app_fun (e:=1) (fun b hb=>by obtain rfl:b=0:=(by omega);rfl) ha hb
theorem d2_app(x:Nat->FsT)(i:Nat)(a b:Nat)(ha:a<i+1)(hb:b<1):selA 1 i (dsC x) [.ro (x i).n 1 fun k j=>dgC' (x i) (0+k) j] a b=dsC x a b:=by
 refine app_fun (e:=1) (fun b hb=>?_) ha hb
 obtain rfl:b=0:=by omega
 have e:(fun k j=>dgC' (x i) (0+k) j)=fun k j=>dgC' (x i) k j:=by
  funext k j
  rw[Nat.zero_add]
 rw[e]
 rfl
theorem s26b{n:Nat}{x:Nat->FsT}(hn:n<=1000000000)(hx:∀i,i<n->FsOK (x i)){i:Nat}(hi:i<n):Sat Tryz.prog (atCode (sub [0,0] (b26 n x i (dsC x) i))) fun r=>r.1=.normal/\Gc 0 r.2 (st26 n x (i+1) (dsC x) (i+1:Nat)):=by
 have h4:=(hx i hi).n
 refine⟨for_satS CU_ok DU_ok (n:=200) (n0:=1) (nx:=3) (roots:=[(.slot 6,2)]) (keep:=[3,6,9,10,11,15,16,17]) (drop:=[]) (h:=.nil) (body:=loopN (bodyOf Tryz.prog 26) 1) (by kernel_rfl) (by kernel_rfl) (x i).n (fun k=>st26b n x i (dsC x) i (x i) k (dgC' (x i)) k) (fun i=>True)
  (fun e t=>e=.exit 2/\t=st26b n x i (dsC x) i (x i) (x i).n (dgC' (x i)) (x i).n) trivial ?_ ?_ ?_ ?_⟩
 ·refine(entA_sound (E26b_eq n x i (dsC x) i)).trans ?_
  rw[Int.toNat_natCast]
  refine gc_sound [] [2] rfl ?_ ?_
  ·simp[st26b,slN,leTm,leTV,leSV,leSVs,rn,iv,leD,List.range,List.range.loop,List.find?,fsC,ssS]
  ·simp[st26b,leHp,leBlk,leSVs,leSV,rn,iv,leD,srcOf,hget]
 ·intro k hk _
  refine Sat.of_eq (B26b_eq n x i (dsC x) i (x i) k (dgC' (x i)) k) ⟨?_⟩
  unfold B26b
  rw[Int.toNat_natCast,w64_succ hk (by omega)]
  refine⟨fun _=>⟨by omega,urD_f _ ((hx i hi).w k hk),by omega,.inl ⟨rfl,trivial,?_⟩⟩,fun h1=>by simp only[decide_eq_false_iff_not] at h1;omega⟩
  exact gc_hp rfl rfl ⟨.inr ⟨_,_,rfl,rfl,.refl _⟩,.inl rfl,.inr ⟨_,_,rfl,rfl,.row fun a b ha hb=>d1_app (x i) k a b ha hb⟩,trivial⟩
 ·intro _
  refine Sat.of_eq (B26b_eq n x i (dsC x) i (x i) (x i).n (dgC' (x i)) (x i).n) ⟨?_⟩
  unfold B26b
  exact⟨fun h1=>by simp only[decide_eq_true_eq] at h1;omega,fun _=>⟨nofun,rfl,rfl⟩⟩
 ·rintro e t ⟨rfl,rfl⟩
  refine Sat.of_eq (K26b_eq n x i (dsC x) i (x i) (x i).n (dgC' (x i)) (x i).n (dsC x) i i) ⟨by omega,by omega,rfl,?_⟩
  rw[w64_succ hi (by omega)]
  exact gc_hp rfl rfl ⟨.inr ⟨_,_,rfl,rfl,.row fun a b ha hb=>d2_app x i a b ha hb⟩,trivial⟩
theorem s26{n:Nat}{x:Nat->FsT}(hn:n<=1000000000)(hx:∀i,i<n->FsOK (x i)):Sat Tryz.prog (tU 26 [ssS n x]) (·=.d (.ro n 1 fun i j=>dsC x i j)):=by
 refine Sat.of_eq (L26_eq n x) ⟨for_satS CU_ok DU_ok (n:=200) (n0:=0) (nx:=1) (roots:=[(.slot 3,0)]) (keep:=[3,9,10,11]) (drop:=[]) (h:=.nil) (body:=loopN (bodyOf Tryz.prog 26) 0) (by kernel_rfl) (by kernel_rfl) n (fun i=>st26 n x i (dsC x) i) (fun i=>True)
  (fun e t=>e=.exit 0/\t=st26 n x n (dsC x) n) trivial ?_ ?_ ?_ ?_⟩
 ·refine(entA_sound (s':=⟨slN 33 [(3,.d (.x (.slice none 0 0))),(9,ssS n x),(10,iv n),(11,iv 0)],[],0,.nil⟩) (roots:=[]) (keep:=[3,9,10,11]) (drop:=[]) (nx:=0) (h:=.nil) (by kernel_rfl)).trans ?_
  refine gc_sound [] [0] rfl ?_ ?_
  ·simp[st26,slN,leTm,leTV,leSV,leSVs,rn,iv,leD,List.range,List.range.loop,List.find?,ssS]
  ·simp[st26,leHp,leBlk,leSVs,leSV,rn,iv,leD,srcOf,hget]
 ·intro i hi _
  refine Sat.of_eq (B26_eq n x i (dsC x) i) ⟨?_⟩
  unfold B26
  refine⟨fun _=>⟨by omega,Tree.sat_mono (fun r hr=>.inl ⟨hr.1,trivial,hr.2⟩) (s26b hn hx hi).ok⟩,fun h1=>by simp only[decide_eq_false_iff_not] at h1;omega⟩
 ·intro _
  refine Sat.of_eq (B26_eq n x n (dsC x) n) ⟨?_⟩
  unfold B26
  exact⟨fun h1=>by simp only[decide_eq_true_eq] at h1;omega,fun _=>⟨nofun,rfl,rfl⟩⟩
 ·rintro e t ⟨rfl,rfl⟩
  refine Sat.of_eq (K26_eq n x n (dsC x) n) ⟨by omega,?_⟩
  show SV.d (.ro n 1 fun i j=>dsC x (0+i) j)=_
  simp only[Nat.zero_add]
theorem s32b{n:Nat}{x:Nat->FsT}(hn:n<=1000000000)(hx:∀i,i<n->FsOK (x i)){i:Nat}(hi:i<n):Sat Tryz.prog (atCode (sub [0] (b32 n x i (dsC x) i))) fun r=>r.1=.normal/\Gc 1 r.2 (st32 n x (i+1) (dsC x) (i+1:Nat)):=by
 have h4:=(hx i hi).n
 refine⟨for_satS CU_ok DU_ok (n:=200) (n0:=3) (nx:=4) (roots:=[(.slot 5,3)]) (keep:=[0,3,4,5,6]) (drop:=[0,2]) (h:=.nil) (body:=loopN (bodyOf Tryz.prog 32) 1) (by kernel_rfl) (by kernel_rfl) (x i).n (fun k=>st32b n x i (dsC x) i k (dgC' (x i)) k) (fun i=>True)
  (fun e t=>e=.exit 2/\t=st32b n x i (dsC x) i (x i).n (dgC' (x i)) (x i).n) trivial ?_ ?_ ?_ ?_⟩
 ·refine(entA_sound (E32b_eq n x i (dsC x) i)).trans ?_
  exact gc_hp rfl rfl ⟨.inl rfl,.inr ⟨_,_,rfl,rfl,.refl _⟩,.inl rfl,.inr ⟨_,_,rfl,rfl,.cells rfl fun a b ha=>by omega⟩,trivial⟩
 ·intro k hk _
  refine Sat.of_eq (B32b_eq n x i (dsC x) i k (dgC' (x i)) k) ⟨?_⟩
  unfold B32b
  rw[Int.toNat_natCast,Int.toNat_natCast,w64_succ hk (by omega)]
  refine⟨by omega,fun _=>⟨by omega,by omega,urD_f _ ((hx i hi).w k hk),by omega,.inl ⟨rfl,trivial,?_⟩⟩,fun h1=>by simp only[decide_eq_false_iff_not] at h1;omega⟩
  exact gc_hp rfl rfl ⟨.inl rfl,.inr ⟨_,_,rfl,rfl,.refl _⟩,.inl rfl,.inr ⟨_,_,rfl,rfl,.row fun a b ha hb=>d1_app (x i) k a b ha hb⟩,trivial⟩
 ·intro _
  refine Sat.of_eq (B32b_eq n x i (dsC x) i (x i).n (dgC' (x i)) (x i).n) ⟨?_⟩
  unfold B32b
  rw[Int.toNat_natCast]
  exact⟨by omega,fun h1=>by simp only[decide_eq_true_eq] at h1;omega,fun _=>⟨nofun,rfl,rfl⟩⟩
 ·rintro e t ⟨rfl,rfl⟩
  refine Sat.of_eq (K32b_eq n x i (dsC x) i (x i).n (dgC' (x i)) (x i).n (dsC x) i i) ⟨by omega,by omega,rfl,?_⟩
  rw[w64_succ hi (by omega)]
  exact gc_hp rfl rfl ⟨.inl rfl,.inr ⟨_,_,rfl,rfl,.row fun a b ha hb=>d2_app x i a b ha hb⟩,trivial⟩
theorem s32{n:Nat}{x:Nat->FsT}(hn:n<=1000000000)(hx:∀i,i<n->FsOK (x i)):Sat Tryz.prog (tU 32 [ssS n x]) (·=.d (.ro n 1 fun i j=>dsC x i j)):=by
 refine Sat.of_eq (L32_eq n x) ⟨for_satS CU_ok DU_ok (n:=200) (n0:=1) (nx:=2) (roots:=[(.slot 3,1)]) (keep:=[0,3,4]) (drop:=[0]) (h:=.nil) (body:=loopN (bodyOf Tryz.prog 32) 0) (by kernel_rfl) (by kernel_rfl) n (fun i=>st32 n x i (dsC x) i) (fun i=>True)
  (fun e t=>e=.exit 0/\t=st32 n x n (dsC x) n) trivial ?_ ?_ ?_ ?_⟩
 ·refine(entA_sound (s':=⟨slN 40 [(0,ssS n x),(3,.row 1 0 0 0 1),(4,iv 0)],[none,some (.cells [])],2,.nil⟩) (roots:=[(.slot 3,1)]) (keep:=[0,3,4]) (drop:=[0]) (nx:=2) (h:=.nil) (by kernel_rfl)).trans ?_
  exact gc_hp rfl rfl ⟨.inl rfl,.inr ⟨_,_,rfl,rfl,.cells rfl fun a b ha=>by omega⟩,trivial⟩
 ·intro i hi _
  refine Sat.of_eq (B32_eq n x i (dsC x) i) ⟨?_⟩
  unfold B32
  refine⟨fun _=>Tree.sat_mono (fun r hr=>.inl ⟨hr.1,trivial,hr.2⟩) (s32b hn hx hi).ok,fun h1=>by simp only[decide_eq_false_iff_not] at h1;omega⟩
 ·intro _
  refine Sat.of_eq (B32_eq n x n (dsC x) n) ⟨?_⟩
  unfold B32
  exact⟨fun h1=>by simp only[decide_eq_true_eq] at h1;omega,fun _=>⟨nofun,rfl,rfl⟩⟩
 ·rintro e t ⟨rfl,rfl⟩
  refine Sat.of_eq (K32_eq n x n (dsC x) n) ⟨by omega,?_⟩
  show SV.d (.ro n 1 fun i j=>dsC x (0+i) j)=_
  simp only[Nat.zero_add]
noncomputable def cDgs:Ctr:=fun ss=>match ss with
 |[.d (.ro n 1 F)]=>.need (n<=1000000000/\SsD n F) (.ret (.d (.ro n 1 fun i j=>dsC (fun i=>fsOf (F i)) i j)))
 |_=>.fail
theorem cDgs_ok:CtrOK Tryz.prog 26 cDgs:=ctrOK_leS CU_ok DU_ok (by kernel_rfl) (by kernel_rfl) fun ss r h=>by
 unfold cDgs at h
 split at h
 ·rename_i n F
  obtain⟨⟨hn,hF⟩,rfl⟩:=h
  exact⟨[ssS n fun i=>fsOf (F i)],200,.nil,by simp only[leSVs,and_true];exact ssD_le hF,s26 hn fun i hi=>(hF i hi).1⟩
 ·exact h.elim
theorem cDgsR_ok:CtrOK Tryz.prog 32 cDgs:=ctrOK_leS CU_ok DU_ok (by kernel_rfl) (by kernel_rfl) fun ss r h=>by
 unfold cDgs at h
 split at h
 ·rename_i n F
  obtain⟨⟨hn,hF⟩,rfl⟩:=h
  exact⟨[ssS n fun i=>fsOf (F i)],200,.nil,by simp only[leSVs,and_true];exact ssD_le hF,s32 hn fun i hi=>(hF i hi).1⟩
 ·exact h.elim
end Go.Proofs.YtanlnopgadbpjaaGreat.Rw
namespace Go.Sx
noncomputable def stQ(m:Nat)(r:Nat->FrT)(i:Nat)(y:FsT)(k:Nat):Bool:=decide ((i:Int)>=(m:Int))||decide ((k:Int)>=((r i).n:Int))||(r i).w k != fwV (y.f k)
noncomputable def stK(m:Nat)(r:Nat->FrT)(i:Nat)(y:FsT):Nat->List (Int×Int)
 |0=>[]
 |k+1=>stK m r i y k++(if stQ m r i y k=true then [((i:Int),(k:Int))] else [])
noncomputable def stI(m:Nat)(r:Nat->FrT)(x:Nat->FsT):Nat->List (Int×Int)
 |0=>[]
 |i+1=>stI m r x i++stK m r i (x i) (x i).n
theorem stK_len(m:Nat)(r:Nat->FrT)(i:Nat)(y:FsT):∀k,(stK m r i y k).length<=k
 |0=>Nat.le_refl _
 |k+1=>by
  have:=stK_len m r i y k
  unfold stK
  rw[List.length_append]
  split<;>simp<;>omega
theorem stI_len(m:Nat)(r:Nat->FrT)(x:Nat->FsT):∀i,(∀k,k<i->(x k).n<=4)->(stI m r x i).length<=4*i
 |0,_=>Nat.le_refl _
 |i+1,h=>by
  have h1:=stI_len m r x i fun k hk=>h k (by omega)
  have h2:=stK_len m r i (x i) (x i).n
  have h3:=h i (by omega)
  unfold stI
  rw[List.length_append]
  omega
def prE(q:Int×Int):Nat->DV:=fun j=>dsAt [.x (.int .i64 q.1),.x (.int .i64 q.2)] j
end Go.Sx
namespace Go.Proofs.YtanlnopgadbpjaaGreat.Rw
open Go.Proofs.YtanlnopgadbpjaaGreat.Rm
open Go.Sx
noncomputable def dgR(r:Nat->FrT)(i j:Nat):Sx.DV:=fmC (r i) j
noncomputable def rpS(m:Nat)(r:Nat->FrT):SV:=.d (.ro m 1 (dgR r))
noncomputable def st25(n:Nat)(x:Nat->FsT)(m:Nat)(r:Nat->FrT)(q:Nat)(c:Nat->Nat->Sx.DV)(i:Int):AS:=⟨slN 58 [(0,rpS m r),(5,.row 0 0 0 q 2),(10,ssS n x),(11,iv n),(12,iv i)],[some (.row q 2 c)],1,.nil⟩
noncomputable def st25b(n:Nat)(x:Nat->FsT)(m:Nat)(r:Nat->FrT)(q:Nat)(c:Nat->Nat->Sx.DV)(i:Int)(y:FsT)(k:Int):AS:=⟨slN 58 [(0,rpS m r),(5,.row 1 0 0 q 2),(6,iv i),(10,ssS n x),(11,iv n),(12,iv i),(17,.d (fsC y 0)),(18,iv y.n),(19,iv k)],[none,some (.row q 2 c)],2,.nil⟩
noncomputable def st31(n:Nat)(x:Nat->FsT)(m:Nat)(r:Nat->FrT)(q:Nat)(c:Nat->Nat->Sx.DV)(i:Int):AS:=⟨slN 62 [(0,rpS m r),(1,ssS n x),(5,.row 1 0 0 q 2),(6,iv i)],[none,some (.row q 2 c)],2,.nil⟩
noncomputable def st31b(n:Nat)(x:Nat->FsT)(m:Nat)(r:Nat->FrT)(q:Nat)(c:Nat->Nat->Sx.DV)(i:Int)(k:Int):AS:=⟨slN 62 [(0,rpS m r),(1,ssS n x),(5,.row 2 0 0 q 2),(6,iv i),(7,iv k)],[none,none,some (.row q 2 c)],3,.nil⟩
section
variable (n : Nat) (x : Nat → FsT) (m : Nat) (r : Nat → FrT) (q : Nat) (c : Nat → Nat → Sx.DV) (i : Int)
noncomputable def b25:Tree (Ex×AS):=bU 0 1 [(.slot 5,0)] [0,5,10,11,12] [] 25 0 (st25 n x m r q c i)
noncomputable def b31:Tree (Ex×AS):=bU 1 2 [(.slot 5,1)] [0,1,5,6] [0] 31 0 (st31 n x m r q c i)
theorem L25_eq:tU 25 [rpS m r,ssS n x]=atCode (sub [] (tU 25 [rpS m r,ssS n x])):=by kernel_rfl
theorem L31_eq:tU 31 [rpS m r,ssS n x]=atCode (sub [] (tU 31 [rpS m r,ssS n x])):=by kernel_rfl
theorem B25_eq:b25 n x m r q c i=.ite (decide (i<(n:Int))) (.need (0<=i/\i<(n:Int)) (atCode (sub [0,0] (b25 n x m r q c i)))) (.ret (.exit 0,st25 n x m r q c i)):=by kernel_rfl
theorem B31_eq:b31 n x m r q c i=.ite (decide (i<(n:Int))) (atCode (sub [0] (b31 n x m r q c i))) (.ret (.exit 0,st31 n x m r q c i)):=by kernel_rfl
theorem K25_eq:codeK (sub [] (tU 25 [rpS m r,ssS n x])) (.exit 0) (st25 n x m r q c i)=.need (0+q<=q) (.ret (.d (.ro q 2 fun i j=>c (0+i) j))):=by kernel_rfl
theorem K31_eq:codeK (sub [] (tU 31 [rpS m r,ssS n x])) (.exit 0) (st31 n x m r q c i)=.need (0+q<=q) (.ret (.d (.ro q 2 fun i j=>c (0+i) j))):=by kernel_rfl
variable (y : FsT) (k : Int)
noncomputable def q1:Bool:=decide (i>=(m:Int))
noncomputable def q2:Bool:=q1 m i||decide (k>=((r i.toNat).n:Int))
noncomputable def q3:Bool:=q2 m r i k||(r i.toNat).w k.toNat != fwV (y.f k.toNat)
noncomputable def B25b:Tree (Ex×AS) :=
 .ite (decide (k<(y.n:Int))) (.need (0<=k/\k<(y.n:Int)) (.need (q1 m i=false->0<=i/\i<(m:Int)) (.need (q2 m r i k=false->0<=i/\i<(m:Int)) (.need (q2 m r i k=false->0<=k/\k<((r i.toNat).n:Int)) (.need (q2 m r i k=false->UrD (y.f k.toNat).n fun j _=>.x (.int .u64 ((y.f k.toNat).w j)))
  (.ite (q3 m r i y k) (.need (0+q<=q/\2<=2/\(q+1)*16<=140737488355328) (.ret (.normal,st25b n x m r (q+1) (selA 2 q c [.x (.int .i64 i),.x (.int .i64 k)]) i y (w64 (k+1))))) (.ret (.normal,st25b n x m r q c i y (w64 (k+1)))))))))) (.ret (.exit 2,st25b n x m r q c i y k))
theorem B25b_eq:bU 1 2 [(.slot 5,1)] [0,5,6,10,11,12,17,18,19] [0] 25 1 (st25b n x m r q c i y k)=B25b n x m r q c i y k:=by kernel_rfl
theorem K25b_eq(q0:Nat)(c0:Nat->Nat->Sx.DV)(i0:Int):codeK (sub [0,0] (b25 n x m r q0 c0 i0)) (.exit 2) (st25b n x m r q c i y k)=.ret (.normal,st25 n x m r q c (w64 (i+1))):=by kernel_rfl
theorem E25b_eq:entA 1 [(.slot 5,1)] [0,5,6,10,11,12,17,18,19] [0] 2 .nil (sub [0,0] (b25 n x m r q c i))=some (st25b n x m r q c i (x i.toNat) 0):=by kernel_rfl
noncomputable def B31b:Tree (Ex×AS) :=
 .need (0<=i/\i<(n:Int)) (.ite (decide (k<((x i.toNat).n:Int))) (.need (q1 m i=false->0<=i/\i<(m:Int)) (.need (q2 m r i k=false->0<=i/\i<(m:Int)) (.need (q2 m r i k=false->0<=k/\k<((r i.toNat).n:Int)) (.need (q2 m r i k=false->0<=i/\i<(n:Int)) (.need (q2 m r i k=false->0<=k/\k<((x i.toNat).n:Int)) (.need (q2 m r i k=false->UrD ((x i.toNat).f k.toNat).n fun j _=>.x (.int .u64 (((x i.toNat).f k.toNat).w j)))
  (.ite (q3 m r i (x i.toNat) k) (.need (0+q<=q/\2<=2/\(q+1)*16<=140737488355328) (.ret (.normal,st31b n x m r (q+1) (selA 2 q c [.x (.int .i64 i),.x (.int .i64 k)]) i (w64 (k+1))))) (.ret (.normal,st31b n x m r q c i (w64 (k+1))))))))))) (.ret (.exit 2,st31b n x m r q c i k)))
theorem B31b_eq:bU 2 3 [(.slot 5,2)] [0,1,5,6,7] [0,1] 31 1 (st31b n x m r q c i k)=B31b n x m r q c i k:=by kernel_rfl
theorem K31b_eq(q0:Nat)(c0:Nat->Nat->Sx.DV)(i0:Int):codeK (sub [0] (b31 n x m r q0 c0 i0)) (.exit 2) (st31b n x m r q c i k)=.ret (.normal,st31 n x m r q c (w64 (i+1))):=by kernel_rfl
theorem E31b_eq:entA 2 [(.slot 5,2)] [0,1,5,6,7] [0,1] 3 .nil (sub [0] (b31 n x m r q c i))=some (st31b n x m r q c i 0):=by kernel_rfl
end
theorem q3_eq(m:Nat)(r:Nat->FrT)(i:Nat)(y:FsT)(k:Nat):q3 m r i y k=stQ m r i y k:=rfl
noncomputable def lsC(L:List (Int×Int)):Nat->Nat->Sx.DV:=cellL prE L
theorem ls_app(L:List (Int×Int))(i k:Int)(a b:Nat)(ha:a<L.length+1)(hb:b<2):selA 2 L.length (lsC L) [.x (.int .i64 i),.x (.int .i64 k)] a b=lsC (L++[(i,k)]) a b:=app_cell (enc:=prE) (l:=L) (v:=(i,k)) (ds:=[.x (.int .i64 i),.x (.int .i64 k)]) (e:=2) (fun b hb=>rfl) (.inr rfl) ha hb
theorem lo_app(L:List (Int×Int))(v:Int×Int):BlkLe (.row (L.length+1) 2 (selA 2 L.length (lsC L) [.x (.int .i64 v.1),.x (.int .i64 v.2)])) (.row (L++[v]).length 2 (lsC (L++[v]))):=app_row fun a b ha hb=>ls_app L v.1 v.2 a b ha hb
theorem q12{m:Nat}{r:Nat->FrT}{i k:Nat}:(q1 m (i:Int)=false->0<=(i:Int)/\(i:Int)<(m:Int))/\(q2 m r (i:Int) (k:Int)=false->0<=(i:Int)/\(i:Int)<(m:Int))/\(q2 m r (i:Int) (k:Int)=false->0<=(k:Int)/\(k:Int)<((r i).n:Int)):=by
 have h1:q1 m (i:Int)=false->0<=(i:Int)/\(i:Int)<(m:Int):=fun h=>by
  unfold q1 at h
  simp only[decide_eq_false_iff_not] at h;omega
 refine⟨h1,fun h=>?_,fun h=>?_⟩
 ·unfold q2 at h
  rw[Bool.or_eq_false_iff] at h
  exact h1 h.1
 ·unfold q2 at h
  rw[Bool.or_eq_false_iff] at h
  have:=h.2
  simp only[decide_eq_false_iff_not,Int.toNat_natCast] at this;omega
theorem s25b{n:Nat}{x:Nat->FsT}{m:Nat}{r:Nat->FrT}(hn:n<=1000000000)(hx:∀i,i<n->FsOK (x i)){i:Nat}(hi:i<n):Sat Tryz.prog (atCode (sub [0,0] (b25 n x m r (stI m r x i).length (lsC (stI m r x i)) i))) fun t=>t.1=.normal/\Gc 0 t.2 (st25 n x m r (stI m r x (i+1)).length (lsC (stI m r x (i+1))) (i+1:Nat)):=by
 have h4:=(hx i hi).n
 have hI:=stI_len m r x i fun k hk=>(hx k (by omega)).n
 have hlen:∀k,k<=(x i).n->(stI m r x i++stK m r i (x i) k).length<=4*i+4:=fun k hk=>by
  have:=stK_len m r i (x i) k
  rw[List.length_append];omega
 refine⟨for_satS CU_ok DU_ok (n:=200) (n0:=1) (nx:=2) (roots:=[(.slot 5,1)]) (keep:=[0,5,6,10,11,12,17,18,19]) (drop:=[0]) (h:=.nil) (body:=loopN (bodyOf Tryz.prog 25) 1) (by kernel_rfl) (by kernel_rfl) (x i).n (fun k=>st25b n x m r (stI m r x i++stK m r i (x i) k).length (lsC (stI m r x i++stK m r i (x i) k)) i (x i) k) (fun i=>True)
  (fun e t=>e=.exit 2/\t=st25b n x m r (stI m r x (i+1)).length (lsC (stI m r x (i+1))) i (x i) (x i).n) trivial ?_ ?_ ?_ ?_⟩
 ·have:=entA_sound (E25b_eq n x m r (stI m r x i).length (lsC (stI m r x i)) i)
  have e0:stI m r x i++stK m r i (x i) 0=stI m r x i:=List.append_nil _
  rw[e0]
  exact this
 ·intro k hk _
  refine Sat.of_eq (B25b_eq n x m r (stI m r x i++stK m r i (x i) k).length (lsC (stI m r x i++stK m r i (x i) k)) i (x i) k) ⟨?_⟩
  unfold B25b
  have hl:=hlen k (by omega)
  have e1:stI m r x i++stK m r i (x i) (k+1)=(stI m r x i++stK m r i (x i) k)++(if stQ m r i (x i) k=true then [((i:Int),(k:Int))] else []):=by rw[List.append_assoc];rfl
  rw[e1]
  generalize hL:stI m r x i++stK m r i (x i) k=L at hl ⊢
  rw[w64_succ hk (by omega),Int.toNat_natCast,q3_eq]
  refine⟨fun _=>⟨by omega,(q12 (r:=r) (k:=k)).1,q12.2.1,q12.2.2,fun _=>urD_f _ ((hx i hi).w k hk),fun h2=>⟨by omega,.inl ⟨rfl,trivial,?_⟩⟩,fun h2=>.inl ⟨rfl,trivial,?_⟩⟩,fun h1=>by simp only[decide_eq_false_iff_not] at h1;omega⟩
  ·rw[if_pos h2]
   exact gc_hp (by rw[List.length_append];rfl) rfl ⟨.inl rfl,.inr ⟨_,_,rfl,rfl,lo_app L (i,k)⟩,trivial⟩
  ·rw[if_neg (by rw[h2];nofun),List.append_nil]
   exact Gc.refl _ _
 ·intro _
  have e2:stI m r x i++stK m r i (x i) (x i).n=stI m r x (i+1):=rfl
  rw[e2]
  refine Sat.of_eq (B25b_eq n x m r (stI m r x (i+1)).length (lsC (stI m r x (i+1))) i (x i) (x i).n) ⟨?_⟩
  unfold B25b
  exact⟨fun h1=>by simp only[decide_eq_true_eq] at h1;omega,fun _=>⟨nofun,rfl,rfl⟩⟩
 ·rintro e t ⟨rfl,rfl⟩
  refine Sat.of_eq (K25b_eq n x m r (stI m r x (i+1)).length (lsC (stI m r x (i+1))) i (x i) (x i).n (stI m r x i).length (lsC (stI m r x i)) i) ⟨rfl,?_⟩
  rw[w64_succ hi (by omega)]
  exact Gc.refl _ _
theorem s25{n:Nat}{x:Nat->FsT}{m:Nat}{r:Nat->FrT}(hn:n<=1000000000)(hx:∀i,i<n->FsOK (x i)):Sat Tryz.prog (tU 25 [rpS m r,ssS n x]) (·=.d (.ro (stI m r x n).length 2 fun i j=>lsC (stI m r x n) i j)):=by
 refine Sat.of_eq (L25_eq n x m r) ⟨for_satS CU_ok DU_ok (n:=200) (n0:=0) (nx:=1) (roots:=[(.slot 5,0)]) (keep:=[0,5,10,11,12]) (drop:=[]) (h:=.nil) (body:=loopN (bodyOf Tryz.prog 25) 0) (by kernel_rfl) (by kernel_rfl) n (fun i=>st25 n x m r (stI m r x i).length (lsC (stI m r x i)) i) (fun i=>True)
  (fun e t=>e=.exit 0/\t=st25 n x m r (stI m r x n).length (lsC (stI m r x n)) n) trivial ?_ ?_ ?_ ?_⟩
 ·refine(entA_sound (s':=⟨slN 58 [(0,rpS m r),(5,.d (.x (.slice none 0 0))),(10,ssS n x),(11,iv n),(12,iv 0)],[],0,.nil⟩) (roots:=[]) (keep:=[0,5,10,11,12]) (drop:=[]) (nx:=0) (h:=.nil) (by kernel_rfl)).trans ?_
  refine gc_sound [] [0] rfl ?_ ?_
  ·simp[st25,slN,leTm,leTV,leSV,leSVs,rn,iv,leD,List.range,List.range.loop,List.find?,ssS,rpS,stI]
  ·simp[st25,leHp,leBlk,leSVs,leSV,rn,iv,leD,srcOf,hget,stI]
 ·intro i hi _
  refine Sat.of_eq (B25_eq n x m r (stI m r x i).length (lsC (stI m r x i)) i) ⟨?_⟩
  exact⟨fun _=>⟨by omega,Tree.sat_mono (fun r hr=>.inl ⟨hr.1,trivial,hr.2⟩) (s25b hn hx hi).ok⟩,fun h1=>by simp only[decide_eq_false_iff_not] at h1;omega⟩
 ·intro _
  refine Sat.of_eq (B25_eq n x m r (stI m r x n).length (lsC (stI m r x n)) n) ⟨?_⟩
  exact⟨fun h1=>by simp only[decide_eq_true_eq] at h1;omega,fun _=>⟨nofun,rfl,rfl⟩⟩
 ·rintro e t ⟨rfl,rfl⟩
  refine Sat.of_eq (K25_eq n x m r (stI m r x n).length (lsC (stI m r x n)) n) ⟨by omega,?_⟩
  show SV.d (.ro _ 2 fun i j=>lsC (stI m r x n) (0+i) j)=_
  simp only[Nat.zero_add]
theorem s31b{n:Nat}{x:Nat->FsT}{m:Nat}{r:Nat->FrT}(hn:n<=1000000000)(hx:∀i,i<n->FsOK (x i)){i:Nat}(hi:i<n):Sat Tryz.prog (atCode (sub [0] (b31 n x m r (stI m r x i).length (lsC (stI m r x i)) i))) fun t=>t.1=.normal/\Gc 1 t.2 (st31 n x m r (stI m r x (i+1)).length (lsC (stI m r x (i+1))) (i+1:Nat)):=by
 have h4:=(hx i hi).n
 have hI:=stI_len m r x i fun k hk=>(hx k (by omega)).n
 have hlen:∀k,k<=(x i).n->(stI m r x i++stK m r i (x i) k).length<=4*i+4:=fun k hk=>by
  have:=stK_len m r i (x i) k
  rw[List.length_append];omega
 refine⟨for_satS CU_ok DU_ok (n:=200) (n0:=2) (nx:=3) (roots:=[(.slot 5,2)]) (keep:=[0,1,5,6,7]) (drop:=[0,1]) (h:=.nil) (body:=loopN (bodyOf Tryz.prog 31) 1) (by kernel_rfl) (by kernel_rfl) (x i).n (fun k=>st31b n x m r (stI m r x i++stK m r i (x i) k).length (lsC (stI m r x i++stK m r i (x i) k)) i k) (fun i=>True)
  (fun e t=>e=.exit 2/\t=st31b n x m r (stI m r x (i+1)).length (lsC (stI m r x (i+1))) i (x i).n) trivial ?_ ?_ ?_ ?_⟩
 ·have:=entA_sound (E31b_eq n x m r (stI m r x i).length (lsC (stI m r x i)) i)
  have e0:stI m r x i++stK m r i (x i) 0=stI m r x i:=List.append_nil _
  rw[e0]
  exact this
 ·intro k hk _
  refine Sat.of_eq (B31b_eq n x m r (stI m r x i++stK m r i (x i) k).length (lsC (stI m r x i++stK m r i (x i) k)) i k) ⟨?_⟩
  unfold B31b
  have hl:=hlen k (by omega)
  have e1:stI m r x i++stK m r i (x i) (k+1)=(stI m r x i++stK m r i (x i) k)++(if stQ m r i (x i) k=true then [((i:Int),(k:Int))] else []):=by rw[List.append_assoc];rfl
  rw[e1]
  generalize hL:stI m r x i++stK m r i (x i) k=L at hl ⊢
  rw[w64_succ hk (by omega),Int.toNat_natCast,Int.toNat_natCast,q3_eq]
  refine⟨by omega,fun _=>⟨(q12 (r:=r) (k:=k)).1,q12.2.1,q12.2.2,fun _=>by omega,fun _=>by omega,fun _=>urD_f _ ((hx i hi).w k hk),fun h2=>⟨by omega,.inl ⟨rfl,trivial,?_⟩⟩,fun h2=>.inl ⟨rfl,trivial,?_⟩⟩,fun h1=>by simp only[decide_eq_false_iff_not] at h1;omega⟩
  ·rw[if_pos h2]
   exact gc_hp (by rw[List.length_append];rfl) rfl ⟨.inl rfl,.inl rfl,.inr ⟨_,_,rfl,rfl,lo_app L (i,k)⟩,trivial⟩
  ·rw[if_neg (by rw[h2];nofun),List.append_nil]
   exact Gc.refl _ _
 ·intro _
  have e2:stI m r x i++stK m r i (x i) (x i).n=stI m r x (i+1):=rfl
  rw[e2]
  refine Sat.of_eq (B31b_eq n x m r (stI m r x (i+1)).length (lsC (stI m r x (i+1))) i (x i).n) ⟨?_⟩
  unfold B31b
  rw[Int.toNat_natCast]
  exact⟨by omega,fun h1=>by simp only[decide_eq_true_eq] at h1;omega,fun _=>⟨nofun,rfl,rfl⟩⟩
 ·rintro e t ⟨rfl,rfl⟩
  refine Sat.of_eq (K31b_eq n x m r (stI m r x (i+1)).length (lsC (stI m r x (i+1))) i (x i).n (stI m r x i).length (lsC (stI m r x i)) i) ⟨rfl,?_⟩
  rw[w64_succ hi (by omega)]
  exact Gc.refl _ _
theorem s31{n:Nat}{x:Nat->FsT}{m:Nat}{r:Nat->FrT}(hn:n<=1000000000)(hx:∀i,i<n->FsOK (x i)):Sat Tryz.prog (tU 31 [rpS m r,ssS n x]) (·=.d (.ro (stI m r x n).length 2 fun i j=>lsC (stI m r x n) i j)):=by
 refine Sat.of_eq (L31_eq n x m r) ⟨for_satS CU_ok DU_ok (n:=200) (n0:=1) (nx:=2) (roots:=[(.slot 5,1)]) (keep:=[0,1,5,6]) (drop:=[0]) (h:=.nil) (body:=loopN (bodyOf Tryz.prog 31) 0) (by kernel_rfl) (by kernel_rfl) n (fun i=>st31 n x m r (stI m r x i).length (lsC (stI m r x i)) i) (fun i=>True)
  (fun e t=>e=.exit 0/\t=st31 n x m r (stI m r x n).length (lsC (stI m r x n)) n) trivial ?_ ?_ ?_ ?_⟩
 ·refine(entA_sound (s':=⟨slN 62 [(0,rpS m r),(1,ssS n x),(5,.row 1 0 0 0 2),(6,iv 0)],[none,some (.cells [])],2,.nil⟩) (roots:=[(.slot 5,1)]) (keep:=[0,1,5,6]) (drop:=[0]) (nx:=2) (h:=.nil) (by kernel_rfl)).trans ?_
  exact gc_hp rfl rfl ⟨.inl rfl,.inr ⟨_,_,rfl,rfl,.cells rfl fun a b ha=>by have:(stI m r x 0).length=0:=rfl;omega⟩,trivial⟩
 ·intro i hi _
  refine Sat.of_eq (B31_eq n x m r (stI m r x i).length (lsC (stI m r x i)) i) ⟨?_⟩
  exact⟨fun _=>Tree.sat_mono (fun r hr=>.inl ⟨hr.1,trivial,hr.2⟩) (s31b hn hx hi).ok,fun h1=>by simp only[decide_eq_false_iff_not] at h1;omega⟩
 ·intro _
  refine Sat.of_eq (B31_eq n x m r (stI m r x n).length (lsC (stI m r x n)) n) ⟨?_⟩
  exact⟨fun h1=>by simp only[decide_eq_true_eq] at h1;omega,fun _=>⟨nofun,rfl,rfl⟩⟩
 ·rintro e t ⟨rfl,rfl⟩
  refine Sat.of_eq (K31_eq n x m r (stI m r x n).length (lsC (stI m r x n)) n) ⟨by omega,?_⟩
  show SV.d (.ro _ 2 fun i j=>lsC (stI m r x n) (0+i) j)=_
  simp only[Nat.zero_add]
def _root_.Go.Proofs.RpD(m:Nat)(R:Nat->Nat->Sx.DV):Prop:=∀i,i<m->R i 0=fmC (fmOf (R i)) 0
noncomputable def cSt:Ctr:=fun ss=>match ss with
 |[.d (.ro m 1 R),.d (.ro n 1 F)]=>.need ((n<=1000000000/\SsD n F)/\RpD m R) (.ret (.d (.ro (stI m (fun i=>fmOf (R i)) (fun i=>fsOf (F i)) n).length 2 fun i j=>lsC (stI m (fun i=>fmOf (R i)) (fun i=>fsOf (F i)) n) i j)))
 |_=>.fail
theorem rpD_le{m:Nat}{R:Nat->Nat->Sx.DV}(h:RpD m R):leSV 0 [] [] (.d (.ro m 1 R)) (rpS m fun i=>fmOf (R i)):=by
 unfold rpS
 simp only[leSV,leD,true_and]
 intro i j hi hj
 obtain rfl:j=0:=by omega
 exact h i hi
theorem cSt_ok:CtrOK Tryz.prog 25 cSt:=ctrOK_leS CU_ok DU_ok (by kernel_rfl) (by kernel_rfl) fun ss r h=>by
 unfold cSt at h
 split at h
 ·rename_i m R n F
  obtain⟨⟨⟨hn,hF⟩,hR⟩,rfl⟩:=h
  exact⟨[rpS m fun i=>fmOf (R i),ssS n fun i=>fsOf (F i)],200,.nil,by simp only[leSVs,and_true];exact⟨rpD_le hR,ssD_le hF⟩,s25 hn fun i hi=>(hF i hi).1⟩
 ·exact h.elim
theorem cStR_ok:CtrOK Tryz.prog 31 cSt:=ctrOK_leS CU_ok DU_ok (by kernel_rfl) (by kernel_rfl) fun ss r h=>by
 unfold cSt at h
 split at h
 ·rename_i m R n F
  obtain⟨⟨⟨hn,hF⟩,hR⟩,rfl⟩:=h
  exact⟨[rpS m fun i=>fmOf (R i),ssS n fun i=>fsOf (F i)],200,.nil,by simp only[leSVs,and_true];exact⟨rpD_le hR,ssD_le hF⟩,s31 hn fun i hi=>(hF i hi).1⟩
 ·exact h.elim
end Go.Proofs.YtanlnopgadbpjaaGreat.Rw
namespace Go.Sx
theorem df_len{n:Nat}{x:Nat->FsT}(hs:Sml 4 n x)(b:Nat->Nat->Nat->Int){i k w:Nat}(hp:i<=n)(hk:i<n->k<=(x i).n)(hk0:i=n->k=0)(hj:k<(x i).n->i<n->w<=((x i).f k).n)(hj0:(i=n\/k=(x i).n)->w=0):(dfL (wwF x) b (preL (mmF x) (nnF x) i k w)).length<=64:=by
 have h1:=dfL_le (wwF x) b (preL (mmF x) (nnF x) i k w)
 rw[preL_len] at h1
 exact Nat.le_trans h1 (posW_le hs hp hk hk0 hj hj0)
end Go.Sx
namespace Go.Proofs.YtanlnopgadbpjaaGreat.Rw
open Go.Proofs.YtanlnopgadbpjaaGreat.Rm
open Go.Sx
noncomputable def manV':FuncId->Option Ctr:=fun k=>match k with
 |24=>some cSh
 |_=>none
theorem manV'_ok(k:Nat)(c:Ctr)(hk:manV' k=some c):CtrOK Tryz.prog k c/\goodF Tryz.prog k=true:=by
 unfold manV' at hk
 split at hk
 ·cases hk;exact⟨cSh_ok,by kernel_rfl⟩
 ·cases hk
noncomputable def CV':Ctx:=ctxN Tryz.prog manV' (fun _=>false) 200 .nil 6
theorem CV'_ok:CtxOK Tryz.prog CV':=ctxN_ok mixed manV'_ok 6
noncomputable def DV':Dr:=drawnL Tryz.prog CV'
theorem DV'_ok:DrOK Tryz.prog CV' DV':=drawnL_ok CV'_ok mixed
noncomputable def tV(k:Nat)(args:List SV):Tree SV:=fnT Tryz.prog CV' DV' 200 (fnOf Tryz.prog k) (bodyOf Tryz.prog k) args .nil
noncomputable def bV(n0 nx:Nat)(roots:List (Root×Nat))(keep drop:List Nat)(k j:Nat)(st:AS):Tree (Ex×AS):=cutT n0 roots keep drop nx .nil (exec Tryz.prog CV' DV' 200 (loopN (bodyOf Tryz.prog k) j) st)
noncomputable def z2:List SV:=[.d (.x (.slice none 0 0)),iv 0]
noncomputable def st9(n:Nat)(x:Nat->FsT)(m:Nat)(y:Nat->FsT)(q:Nat)(c:Nat->Nat->Sx.DV)(i:Int):AS:=⟨slN 80 [(0,ssS n x),(1,ssS m y),(4,.ptr 0 0),(5,.ptr 1 0),(6,iv i)],[some (.cells z2),some (.cells [.row 3 0 0 q 4,iv 0]),none,some (.row q 4 c)],4,.nil⟩
noncomputable def st9b(n:Nat)(x:Nat->FsT)(m:Nat)(y:Nat->FsT)(q:Nat)(c:Nat->Nat->Sx.DV)(i k:Int):AS:=⟨slN 80 [(0,ssS n x),(1,ssS m y),(4,.ptr 0 0),(5,.ptr 1 0),(6,iv i),(7,iv k)],[some (.cells z2),some (.cells [.row 4 0 0 q 4,iv 0]),none,none,some (.row q 4 c)],5,.nil⟩
noncomputable def st9c(n:Nat)(x:Nat->FsT)(m:Nat)(y:Nat->FsT)(q:Nat)(c:Nat->Nat->Sx.DV)(i k w:Int):AS:=⟨slN 80 [(0,ssS n x),(1,ssS m y),(4,.ptr 0 0),(5,.ptr 1 0),(6,iv i),(7,iv k),(8,iv w)],[some (.cells z2),some (.cells [.row 5 0 0 q 4,iv 0]),none,none,none,some (.row q 4 c)],6,.nil⟩
open Classical in
noncomputable def shB(n:Nat)(x:Nat->FsT)(m:Nat)(y:Nat->FsT):Bool:=decide (shQ n x m y)
section
variable (n : Nat) (x : Nat → FsT) (m : Nat) (y : Nat → FsT) (q : Nat) (c : Nat → Nat → Sx.DV) (i : Int)
noncomputable def t9:Tree SV:=tV 9 [ssS n x,ssS m y]
noncomputable def b9:Tree (Ex×AS):=bV 3 4 [(.cell (.base 1) 0,3)] [0,1,4,5,6] [2] 9 0 (st9 n x m y q c i)
theorem L9_eq:t9 n x m y=.need ((n<=1000000000/\SsD n fun i j=>fsC (x i) j)/\SsD m fun i j=>fsC (y i) j) (.ite (!(shB n x m y)) (.ret (.agg [.d (.x (.slice none 0 0)),iv 490])) (atCode (sub [0,1] (t9 n x m y)))):=by kernel_rfl
theorem E9_eq:entA 3 [] [0,1,4,5,6] [2] 3 .nil (sub [0,1] (t9 n x m y))=some ⟨slN 80 [(0,ssS n x),(1,ssS m y),(4,.ptr 0 0),(5,.ptr 1 0),(6,iv 0)],[some (.cells z2),some (.cells z2),none],3,.nil⟩:=by kernel_rfl
theorem B9_eq:b9 n x m y q c i=.ite (decide (i<(n:Int))) (atCode (sub [0] (b9 n x m y q c i))) (.ret (.exit 0,st9 n x m y q c i)):=by kernel_rfl
theorem K9_eq:codeK (sub [0,1] (t9 n x m y)) (.exit 0) (st9 n x m y q c i)=.need (0+q<=q) (.ret (.agg [.d (.ro q 4 fun i j=>c (0+i) j),iv 0])):=by kernel_rfl
variable (k : Int)
noncomputable def b9b:Tree (Ex×AS):=bV 4 5 [(.cell (.base 1) 0,4)] [0,1,4,5,6,7] [2,3] 9 1 (st9b n x m y q c i k)
theorem B9b_eq:b9b n x m y q c i k=.need (0<=i/\i<(n:Int)) (.ite (decide (k<((x i.toNat).n:Int))) (atCode (sub [0,0] (b9b n x m y q c i k))) (.ret (.exit 2,st9b n x m y q c i k))):=by kernel_rfl
theorem E9b_eq:entA 4 [(.cell (.base 1) 0,4)] [0,1,4,5,6,7] [2,3] 5 .nil (sub [0] (b9 n x m y q c i))=some (st9b n x m y q c i 0):=by kernel_rfl
theorem K9b_eq(q0:Nat)(c0:Nat->Nat->Sx.DV)(i0:Int):codeK (sub [0] (b9 n x m y q0 c0 i0)) (.exit 2) (st9b n x m y q c i k)=.ret (.normal,st9 n x m y q c (w64 (i+1))):=by kernel_rfl
variable (w : Int)
theorem E9c_eq:entA 5 [(.cell (.base 1) 0,5)] [0,1,4,5,6,7,8] [2,3,4] 6 .nil (sub [0,0] (b9b n x m y q c i k))=some (st9c n x m y q c i k 0):=by kernel_rfl
noncomputable def B9c:Tree (Ex×AS) :=
 .need (0<=i/\i<(n:Int)) (.need (0<=k/\k<((x i.toNat).n:Int)) (.ite (decide (w<(((x i.toNat).f k.toNat).n:Int))) (.need (0<=i/\i<(n:Int)) (.need (0<=k/\k<((x i.toNat).n:Int)) (.need (0<=w/\w<(((x i.toNat).f k.toNat).n:Int)) (.need (0<=i/\i<(m:Int)) (.need (0<=k/\k<((y i.toNat).n:Int)) (.need (0<=w/\w<(((y i.toNat).f k.toNat).n:Int))
  (.ite (xorV (((x i.toNat).f k.toNat).w w.toNat) (((y i.toNat).f k.toNat).w w.toNat) != 0)
   (.need (0+q<=q/\4<=4/\(q+1)*32<=140737488355328) (.ret (.normal,st9c n x m y (q+1) (selA 4 q c [.x (.int .i64 i),.x (.int .i64 k),.x (.int .i64 w),.x (.int .u64 (xorV (((x i.toNat).f k.toNat).w w.toNat) (((y i.toNat).f k.toNat).w w.toNat)))]) i k (w64 (w+1)))))
   (.ret (.normal,st9c n x m y q c i k (w64 (w+1))))))))))) (.ret (.exit 4,st9c n x m y q c i k w))))
theorem B9c_eq:bV 5 6 [(.cell (.base 1) 0,5)] [0,1,4,5,6,7,8] [2,3,4] 9 2 (st9c n x m y q c i k w)=B9c n x m y q c i k w:=by kernel_rfl
theorem K9c_eq(q0:Nat)(c0:Nat->Nat->Sx.DV)(i0 k0:Int):codeK (sub [0,0] (b9b n x m y q0 c0 i0 k0)) (.exit 4) (st9c n x m y q c i k w)=.ret (.normal,st9b n x m y q c i (w64 (k+1))):=by kernel_rfl
end
noncomputable def ptC(L:List Pt):Nat->Nat->Sx.DV:=cellL ptE L
theorem pt_app(L:List Pt)(v:Pt):BlkLe (.row (L.length+1) 4 (selA 4 L.length (ptC L) [.x (.int .i64 v.p),.x (.int .i64 v.f),.x (.int .i64 v.w),.x (.int .u64 v.x)])) (.row (L++[v]).length 4 (ptC (L++[v]))):=app_row fun a b ha hb=>app_cell (enc:=ptE) (l:=L) (v:=v) (ds:=[.x (.int .i64 v.p),.x (.int .i64 v.f),.x (.int .i64 v.w),.x (.int .u64 v.x)]) (e:=4) (fun b hb=>rfl) (.inr rfl) ha hb
noncomputable def dF(x y:Nat->FsT)(i k w:Nat):List Pt:=dfL (wwF x) (wwF y) (preL (mmF x) (nnF x) i k w)
section
variable {n : Nat} {x y : Nat → FsT}
theorem s9c(hs:Sml 4 n x)(hsh:shQ n x n y){i k:Nat}(hi:i<n)(hk:k<(x i).n):Sat Tryz.prog (atCode (sub [0,0] (b9b n x n y (dF x y i k 0).length (ptC (dF x y i k 0)) i k))) fun t=>t.1=.normal/\Gc 4 t.2 (st9b n x n y (dF x y i (k+1) 0).length (ptC (dF x y i (k+1) 0)) i (k+1:Nat)):=by
 have h4:=hs.k i k hi hk
 have hm4:=hs.m i hi
 have hsi:shR (x i) (y i):=hsh.2 i hi
 have hyn:=hsi.1
 have hyw:=hsi.2 k hk
 refine⟨for_satS CV'_ok DV'_ok (n:=200) (n0:=5) (nx:=6) (roots:=[(.cell (.base 1) 0,5)]) (keep:=[0,1,4,5,6,7,8]) (drop:=[2,3,4]) (h:=.nil) (body:=loopN (bodyOf Tryz.prog 9) 2) (by kernel_rfl) (by kernel_rfl) ((x i).f k).n (fun w=>st9c n x n y (dF x y i k w).length (ptC (dF x y i k w)) i k w) (fun i=>True)
  (fun e t=>e=.exit 4/\t=st9c n x n y (dF x y i (k+1) 0).length (ptC (dF x y i (k+1) 0)) i k ((x i).f k).n) trivial (entA_sound (E9c_eq n x n y (dF x y i k 0).length (ptC (dF x y i k 0)) i k)) ?_ ?_ ?_⟩
 ·intro w hw _
  refine Sat.of_eq (B9c_eq n x n y (dF x y i k w).length (ptC (dF x y i k w)) i k w) ⟨?_⟩
  unfold B9c
  have hl:(dF x y i k w).length<=64:=df_len hs (wwF y) (by omega) (fun _=>by omega) (fun h=>by omega) (fun _ _=>by omega) (fun h=>by omega)
  have e1:dF x y i k (w+1)=dF x y i k w++dfO (wwF x) (wwF y) ⟨i,k,w⟩:=by unfold dF;rw[preL_w,dfL_app]
  rw[e1]
  generalize dF x y i k w=L at hl ⊢
  rw[w64_succ hw (by omega),Int.toNat_natCast,Int.toNat_natCast,Int.toNat_natCast]
  refine⟨by omega,by omega,fun _=>⟨by omega,by omega,by omega,by omega,by omega,by omega,fun h2=>⟨by omega,.inl ⟨rfl,trivial,?_⟩⟩,fun h2=>.inl ⟨rfl,trivial,?_⟩⟩,fun h1=>by simp only[decide_eq_false_iff_not] at h1;omega⟩
  ·rw[bne_iff_ne] at h2
   have e2:dfO (wwF x) (wwF y) ⟨i,k,w⟩=[⟨i,k,w,xorV (((x i).f k).w w) (((y i).f k).w w)⟩]:=if_neg h2
   rw[e2]
   exact gc_hp rfl rfl ⟨.inr ⟨_,_,rfl,rfl,.refl _⟩,.inr ⟨_,_,rfl,rfl,by rw[List.length_append];exact .refl _⟩,.inl rfl,.inl rfl,.inl rfl,.inr ⟨_,_,rfl,rfl,pt_app L ⟨i,k,w,xorV (((x i).f k).w w) (((y i).f k).w w)⟩⟩,trivial⟩
  ·rw[bne_eq_false_iff_eq] at h2
   have e2:dfO (wwF x) (wwF y) ⟨i,k,w⟩=[]:=if_pos h2
   rw[e2,List.append_nil]
   exact Gc.refl _ _
 ·intro _
  have e2:dF x y i k ((x i).f k).n=dF x y i (k+1) 0:=by unfold dF;rw[preL_k];rfl
  rw[e2]
  refine Sat.of_eq (B9c_eq n x n y (dF x y i (k+1) 0).length (ptC (dF x y i (k+1) 0)) i k ((x i).f k).n) ⟨?_⟩
  unfold B9c
  rw[Int.toNat_natCast,Int.toNat_natCast]
  exact⟨by omega,by omega,fun h1=>by simp only[decide_eq_true_eq] at h1;omega,fun _=>⟨nofun,rfl,rfl⟩⟩
 ·rintro e t ⟨rfl,rfl⟩
  refine Sat.of_eq (K9c_eq n x n y (dF x y i (k+1) 0).length (ptC (dF x y i (k+1) 0)) i k ((x i).f k).n (dF x y i k 0).length (ptC (dF x y i k 0)) i k) ⟨rfl,?_⟩
  rw[w64_succ hk (by omega)]
  exact Gc.refl _ _
theorem s9b(hs:Sml 4 n x)(hsh:shQ n x n y){i:Nat}(hi:i<n):Sat Tryz.prog (atCode (sub [0] (b9 n x n y (dF x y i 0 0).length (ptC (dF x y i 0 0)) i))) fun t=>t.1=.normal/\Gc 3 t.2 (st9 n x n y (dF x y (i+1) 0 0).length (ptC (dF x y (i+1) 0 0)) (i+1:Nat)):=by
 have hm4:=hs.m i hi
 have hn4:=hs.le
 refine⟨for_satS CV'_ok DV'_ok (n:=200) (n0:=4) (nx:=5) (roots:=[(.cell (.base 1) 0,4)]) (keep:=[0,1,4,5,6,7]) (drop:=[2,3]) (h:=.nil) (body:=loopN (bodyOf Tryz.prog 9) 1) (by kernel_rfl) (by kernel_rfl) (x i).n (fun k=>st9b n x n y (dF x y i k 0).length (ptC (dF x y i k 0)) i k) (fun i=>True)
  (fun e t=>e=.exit 2/\t=st9b n x n y (dF x y (i+1) 0 0).length (ptC (dF x y (i+1) 0 0)) i (x i).n) trivial (entA_sound (E9b_eq n x n y (dF x y i 0 0).length (ptC (dF x y i 0 0)) i)) ?_ ?_ ?_⟩
 ·intro k hk _
  refine Sat.of_eq (B9b_eq n x n y (dF x y i k 0).length (ptC (dF x y i k 0)) i k) ⟨?_⟩
  rw[Int.toNat_natCast]
  exact⟨by omega,fun _=>Tree.sat_mono (fun r hr=>.inl ⟨hr.1,trivial,hr.2⟩) (s9c hs hsh hi hk).ok,fun h1=>by simp only[decide_eq_false_iff_not] at h1;omega⟩
 ·intro _
  have e2:dF x y i (x i).n 0=dF x y (i+1) 0 0:=by unfold dF;rw[preL_i];rfl
  rw[e2]
  refine Sat.of_eq (B9b_eq n x n y (dF x y (i+1) 0 0).length (ptC (dF x y (i+1) 0 0)) i (x i).n) ⟨?_⟩
  rw[Int.toNat_natCast]
  exact⟨by omega,fun h1=>by simp only[decide_eq_true_eq] at h1;omega,fun _=>⟨nofun,rfl,rfl⟩⟩
 ·rintro e t ⟨rfl,rfl⟩
  refine Sat.of_eq (K9b_eq n x n y (dF x y (i+1) 0 0).length (ptC (dF x y (i+1) 0 0)) i (x i).n (dF x y i 0 0).length (ptC (dF x y i 0 0)) i) ⟨rfl,?_⟩
  rw[w64_succ hi (by omega)]
  exact Gc.refl _ _
theorem fsOK_of(hs:Sml 4 n x):∀i,i<n->FsOK (x i):=fun i hi=>⟨hs.m i hi,fun k hk=>by have:=hs.k i k hi hk;omega⟩
theorem ssD_of{m:Nat}{z:Nat->FsT}(h:∀i,i<m->FsOK (z i)):SsD m fun i j=>fsC (z i) j:=fun i hi=>⟨h i hi,rfl⟩
theorem s9(hs:Sml 4 n x){m:Nat}(hy:∀i,i<m->FsOK (y i))(hsh:shQ n x m y):Sat Tryz.prog (t9 n x m y) (·=.agg [.d (.ro (dF x y n 0 0).length 4 fun i j=>ptC (dF x y n 0 0) i j),iv 0]):=by
 have hn4:=hs.le
 obtain rfl:n=m:=hsh.1
 refine Sat.of_eq (L9_eq n x n y) ⟨⟨⟨by omega,ssD_of (fsOK_of hs)⟩,ssD_of hy⟩,fun h=>?_,fun _=>?_⟩
 ·have e9:shB n x n y=true:=by unfold shB;simp[hsh]
  rw[e9] at h;cases h
 refine for_satS CV'_ok DV'_ok (n:=200) (n0:=3) (nx:=4) (roots:=[(.cell (.base 1) 0,3)]) (keep:=[0,1,4,5,6]) (drop:=[2]) (h:=.nil) (body:=loopN (bodyOf Tryz.prog 9) 0) (by kernel_rfl) (by kernel_rfl) n (fun i=>st9 n x n y (dF x y i 0 0).length (ptC (dF x y i 0 0)) i) (fun i=>True)
  (fun e t=>e=.exit 0/\t=st9 n x n y (dF x y n 0 0).length (ptC (dF x y n 0 0)) n) trivial ?_ ?_ ?_ ?_
 ·refine(entA_sound (E9_eq n x n y)).trans ?_
  have e0:dF x y 0 0 0=[]:=rfl
  rw[e0]
  refine gc_sound [] [3] rfl ?_ ?_
  ·simp[st9,slN,leTm,leTV,leSV,leSVs,rn,iv,leD,List.range,List.range.loop,List.find?,ssS]
  ·simp[st9,leHp,leBlk,leSVs,leSV,rn,iv,leD,srcOf,hget,z2]
 ·intro i hi _
  refine Sat.of_eq (B9_eq n x n y (dF x y i 0 0).length (ptC (dF x y i 0 0)) i) ⟨?_⟩
  exact⟨fun _=>Tree.sat_mono (fun r hr=>.inl ⟨hr.1,trivial,hr.2⟩) (s9b hs hsh hi).ok,fun h1=>by simp only[decide_eq_false_iff_not] at h1;omega⟩
 ·intro _
  refine Sat.of_eq (B9_eq n x n y (dF x y n 0 0).length (ptC (dF x y n 0 0)) n) ⟨?_⟩
  exact⟨fun h1=>by simp only[decide_eq_true_eq] at h1;omega,fun _=>⟨nofun,rfl,rfl⟩⟩
 ·rintro e t ⟨rfl,rfl⟩
  refine Sat.of_eq (K9_eq n x n y (dF x y n 0 0).length (ptC (dF x y n 0 0)) n) ⟨by omega,?_⟩
  show SV.agg [.d (.ro _ 4 fun i j=>ptC (dF x y n 0 0) (0+i) j),iv 0]=_
  simp only[Nat.zero_add]
end
def _root_.Go.Proofs.DfD(n:Nat)(F:Nat->Nat->Sx.DV)(m:Nat)(G:Nat->Nat->Sx.DV):Prop:=SsD n F/\SsD m G/\Sml 4 n (fun i=>fsOf (F i))/\shQ n (fun i=>fsOf (F i)) m fun i=>fsOf (G i)
noncomputable def cDi:Ctr:=fun ss=>match ss with
 |[.d (.ro n 1 F),.d (.ro m 1 G)]=>.need (DfD n F m G) (.ret (.agg [.d (.ro (dF (fun i=>fsOf (F i)) (fun i=>fsOf (G i)) n 0 0).length 4 fun i j=>ptC (dF (fun i=>fsOf (F i)) (fun i=>fsOf (G i)) n 0 0) i j),iv 0]))
 |_=>.fail
theorem cDi_ok:CtrOK Tryz.prog 9 cDi:=ctrOK_leS CV'_ok DV'_ok (by kernel_rfl) (by kernel_rfl) fun ss r h=>by
 unfold cDi at h
 split at h
 ·rename_i n F m G
  obtain⟨⟨hF,hG,hs,hsh⟩,rfl⟩:=h
  exact⟨[ssS n fun i=>fsOf (F i),ssS m fun i=>fsOf (G i)],200,.nil,by simp only[leSVs,and_true];exact⟨ssD_le hF,ssD_le hG⟩,s9 hs (fun i hi=>(hG i hi).1) hsh⟩
 ·exact h.elim
open Go.RowKit
structure InW(n:Nat)(x:Nat->FsT)(i k w:Nat):Prop where
 hi:i<n
 hk:k<(x i).n
 hw:w<((x i).f k).n
noncomputable def elW(x:Nat->FsT)(i k w:Nat):List SV:=[.agg [iv i,iv k,iv w],.d (.x (.int .u64 (((x i).f k).w w)))]
def vlW(x:Nat->FsT)(i k w:Nat):Array Value:=#[.agg #[.int .i64 i,.int .i64 k,.int .i64 w],.int .u64 (((x i).f k).w w)]
def stepW(n:Nat)(x:Nat->FsT)(q:Nat)(el:List SV)(q':Nat):Prop:=∃i k w,InW n x i k w/\q=posW (mmF x) (nnF x) i k w/\el=elW x i k w/\q'=q+1
def stepV(n:Nat)(x:Nat->FsT)(q:Nat)(v:Array Value)(q':Nat):Prop:=∃i k w,InW n x i k w/\q=posW (mmF x) (nnF x) i k w/\v=vlW x i k w/\q'=q+1
noncomputable def yv(l:Nat):SV:=.d (.x (.func (.yield l) #[] #[]))
noncomputable def fr1(n:Nat)(x:Nat->FsT):Nat->Sx.DV:=fun j=>dsAt [.ro n 1 fun i j=>fsC (x i) j] j
noncomputable def sl75(q:List (Nat×SV)):List TV:=(List.range 42).map fun k=>match q.find? (fun e=>Nat.beq e.1 k) with|some e=>.ok e.2|none=>.unk
section
variable (l n : Nat) (x : Nat → FsT)
noncomputable def t75:Tree (Ex×AS):=execG Tryz.prog C00 (stopAt 9) 200 (bodyOf Tryz.prog 75) ⟨startTm (fnOf Tryz.prog 75) [yv l,.rop 1 (fr1 n x)],[],0,.nil⟩
theorem L75_eq:t75 l n x=atCode (sub [] (t75 l n x)):=by kernel_rfl
variable (i : Int)
noncomputable def s75:AS:=⟨sl75 [(0,yv l),(9,ssS n x),(10,iv n),(11,iv i)],[],0,.nil⟩
noncomputable def b75:Tree (Ex×AS):=cutT 0 [] [0,9,10,11] [] 0 .nil (execG Tryz.prog C00 (stopAt 9) 200 (loopN (bodyOf Tryz.prog 75) 0) (s75 l n x i))
theorem E75_eq:entA 0 [] [0,9,10,11] [] 0 .nil (sub [] (t75 l n x))=some (s75 l n x 0):=by kernel_rfl
theorem B75_eq:b75 l n x i=.ite (decide (i<(n:Int))) (.need (0<=i/\i<(n:Int)) (atCode (sub [0,0] (b75 l n x i)))) (.ret (.exit 0,s75 l n x i)):=by kernel_rfl
noncomputable def r75:AS:=(match codeK (sub [] (t75 l n x)) (.exit 0) (s75 l n x i) with|.ret r=>r.2|_=>⟨[],[],0,.nil⟩)
theorem K75_eq:codeK (sub [] (t75 l n x)) (.exit 0) (s75 l n x i)=.ret (.normal,r75 l n x i):=by kernel_rfl
variable (y : FsT) (k : Int)
noncomputable def s75b:AS:=⟨sl75 [(0,yv l),(3,iv i),(9,ssS n x),(10,iv n),(11,iv i),(16,.d (fsC y 0)),(17,iv y.n),(18,iv k)],[],0,.nil⟩
noncomputable def b75b:Tree (Ex×AS):=cutT 0 [] [0,3,9,10,11,16,17,18] [] 0 .nil (execG Tryz.prog C00 (stopAt 9) 200 (loopN (bodyOf Tryz.prog 75) 1) (s75b l n x i y k))
theorem E75b_eq:entA 0 [] [0,3,9,10,11,16,17,18] [] 0 .nil (sub [0,0] (b75 l n x i))=some (s75b l n x i (x i.toNat) 0):=by kernel_rfl
theorem B75b_eq:b75b l n x i y k=.ite (decide (k<(y.n:Int))) (.need (0<=k/\k<(y.n:Int)) (atCode (sub [0,0] (b75b l n x i y k)))) (.ret (.exit 2,s75b l n x i y k)):=by kernel_rfl
theorem K75b_eq(i0:Int):codeK (sub [0,0] (b75 l n x i0)) (.exit 2) (s75b l n x i y k)=.ret (.normal,s75 l n x (w64 (i+1))):=by kernel_rfl
variable (f : FrT) (w : Int)
noncomputable def s75c:AS:=⟨sl75 [(0,yv l),(3,iv i),(5,iv k),(9,ssS n x),(10,iv n),(11,iv i),(16,.d (fsC y 0)),(17,iv y.n),(18,iv k),(24,.d (fmC f 0)),(25,iv f.n),(26,iv w)],[none,none],2,.nil⟩
noncomputable def b75c:Tree (Ex×AS):=cutT 2 [] [0,3,5,9,10,11,16,17,18,24,25,26] [0,1] 2 .nil (execG Tryz.prog C00 (stopAt 9) 200 (loopN (bodyOf Tryz.prog 75) 2) (s75c l n x i y k f w))
theorem E75c_eq:entA 2 [] [0,3,5,9,10,11,16,17,18,24,25,26] [0,1] 2 .nil (sub [0,0] (b75b l n x i y k))=some (s75c l n x i y k (y.f k.toNat) 0):=by kernel_rfl
theorem B75c_eq:b75c l n x i y k f w=.ite (decide (w<(f.n:Int))) (.need (0<=w/\w<(f.n:Int)) (atCode (sub [0,0] (b75c l n x i y k f w)))) (.ret (.exit 4,s75c l n x i y k f w)):=by kernel_rfl
theorem K75c_eq(k0:Int):codeK (sub [0,0] (b75b l n x i y k0)) (.exit 4) (s75c l n x i y k f w)=.ret (.normal,s75b l n x i y (w64 (k+1))):=by kernel_rfl
noncomputable def rgy:Code:=regAt 9 (bodyOf Tryz.prog 75)
theorem rgy_eq:codeC (sub [0,0] (b75c l n x i y k f w))=rgy:=by kernel_rfl
theorem rgy_reg:rgy=.region 9 (opsOf rgy) false:=by kernel_rfl
noncomputable def prey:List Oper:=(opsOf rgy).toList.take 6
noncomputable def opy:Oper:=(opsOf rgy).toList.getD 6 default
noncomputable def sufy:List Oper:=(opsOf rgy).toList.drop 7
theorem rgy_ops:(opsOf rgy).toList=prey++(opy::sufy):=by kernel_rfl
noncomputable def cay:Call:=match opy.op with
 |.call c=>c
 |_=>default
theorem opy_op:opy.op=.call cay:=by kernel_rfl
theorem opy_g:opy.guard=none:=by kernel_rfl
theorem opy_d:opy.dst=some 37:=by kernel_rfl
theorem cay_c:cay.callee=.value (.tmp 31):=by kernel_rfl
theorem cay_a:cay.args=#[.tmp 35,.tmp 36]:=by kernel_rfl
noncomputable def sgy:AS:=codeS (sub [0,0] (b75c l n x i y k f w))
noncomputable def tpy:Tree AS:=runOps Tryz.prog C00 inlNo (opsOf rgy) prey (sgy l n x i y k f w)
noncomputable def shy:AS:=leafS (tpy l n x i y k f w)
theorem TPy_eq:tpy l n x i y k f w=.ret (shy l n x i y k f w):=by kernel_rfl
theorem shy_31:tget (shy l n x i y k f w).tm 31=.ok (yv l):=by kernel_rfl
theorem shy_35:tget (shy l n x i y k f w).tm 35=.ok (.agg [iv i,iv k,iv w]):=by kernel_rfl
theorem shy_36:tget (shy l n x i y k f w).tm 36=.ok (.d (.x (.int .u64 (f.w w.toNat)))):=by kernel_rfl
theorem shy_len:(shy l n x i y k f w).tm.length=42:=by kernel_rfl
theorem shy_tag:noTag (shy l n x i y k f w).tm 37=true:=by kernel_rfl
noncomputable def siy:AS:={ shy l n x i y k f w with tm:=(shy l n x i y k f w).tm.set 37 (.ok (.d (.x (.bool true)))) }
noncomputable def tqy:Tree AS:=runOps Tryz.prog C00 inlNo (opsOf rgy) sufy (siy l n x i y k f w)
noncomputable def sjy:AS:=leafS (tqy l n x i y k f w)
theorem TQy_eq:tqy l n x i y k f w=.ret (sjy l n x i y k f w):=by kernel_rfl
theorem Ky_eq:codeK (sub [0,0] (b75c l n x i y k f w)) .normal (sjy l n x i y k f w)=.ite (!true) (.ret (.ret,s75c l n x i y k f w)) (.ret (.normal,s75c l n x i y k f (w64 (w+1)))):=by kernel_rfl
end
theorem hpy(l n:Nat)(x:Nat->FsT)(i:Int)(y:FsT)(k:Int)(f:FrT)(w:Int):Sat Tryz.prog (tpy l n x i y k f w) (·=shy l n x i y k f w):=by rw[TPy_eq];exact sat_n0
theorem hqy(l n:Nat)(x:Nat->FsT)(i:Int)(y:FsT)(k:Int)(f:FrT)(w:Int):Sat Tryz.prog (tqy l n x i y k f w) (·=sjy l n x i y k f w):=by rw[TQy_eq];exact sat_n0
theorem concJ_normal{J:Nat->(Nat->Prop)->World->Prop}{F0:Nat->Prop}{Q:Ex->AS->Nat->Prop}{s:AS}{q:Nat}{a:Act}{w:World}(h:Q .normal s q)(hs:SimJ J F0 s q a w):concJ J F0 Q .normal a w:=⟨s,q,h,hs⟩
section
variable {l n : Nat} {x : Nat → FsT} {J : Nat → (Nat → Prop) → World → Prop} {F0 : Nat → Prop} {W0 : World}
structure YOK(l n:Nat)(x:Nat->FsT)(J:Nat->(Nat->Prop)->World->Prop)(F0:Nat->Prop)(W0:World):Prop where
 je:∀s O W,J s O W->Ext F0 W0 W/\GlobOK W F0
 js:∀s O W W',J s O W->Ext (fun b=>b<W.heap.size/\¬O b) W W'->J s (fun b=>O b\/(W.heap.size<=b/\b<W'.heap.size)) W'
 y:∀s v s' O W1,stepV n x s v s'->J s O W1->YieldAt Fence.wide 0 Tryz.prog l v W1 fun e W'=>e=.returned (.bool true)/\∃O',J s' O' W'/\(∀b,O b->O' b)/\Ext O W1 W'
theorem rgy_J(hY:YOK l n x J F0 W0){i k w:Nat}(hw:InW n x i k w):TripleJ J F0 Tryz.prog rgy (sgy l n x i (x i) k ((x i).f k) w) (posW (mmF x) (nnF x) i k w) fun e s q=>e=.normal/\s=sjy l n x i (x i) k ((x i).f k) w/\q=posW (mmF x) (nnF x) i k (w+1):=by
 have hpre:=hpy l n x i (x i) k ((x i).f k) w
 have hsuf:=hqy l n x i (x i) k ((x i).f k) w
 have e31:=shy_31 l n x i (x i) k ((x i).f k) w
 have e35:=shy_35 l n x i (x i) k ((x i).f k) w
 have e36:=shy_36 l n x i (x i) k ((x i).f k) w
 have elen:=shy_len l n x i (x i) k ((x i).f k) w
 have etag:=shy_tag l n x i (x i) k ((x i).f k) w
 have esi:siy l n x i (x i) k ((x i).f k) w={ shy l n x i (x i) k ((x i).f k) w with tm:=(shy l n x i (x i) k ((x i).f k) w).tm.set 37 (.ok (.d (.x (.bool true)))) }:=rfl
 unfold tpy at hpre
 unfold tqy at hsuf
 generalize shy l n x i (x i) k ((x i).f k) w=sh at hpre e31 e35 e36 elen etag esi
 generalize sgy l n x i (x i) k ((x i).f k) w=sg at hpre ⊢
 generalize sjy l n x i (x i) k ((x i).f k) w=sj at hsuf ⊢
 generalize siy l n x i (x i) k ((x i).f k) w=si at hsuf esi
 intro a W hs
 rw[rgy_reg]
 intro r _
 refine wpIn_region_list ?_
 rw[rgy_ops]
 refine runOps_listJ C00_ok (inlNo_ok _ _) hs hpre.ok fun st a W hq hs=>?_
 subst hq
 have hs0:=hs
 obtain⟨O,Wk,Fk,_,_,_,μ,F,_,_,_,ht,_⟩:=hs0
 have v31:=ht 31
 have v35:=ht 35
 have v36:=ht 36
 rw[e31] at v31
 rw[e35] at v35
 rw[e36] at v36
 have f31:a.eval (.tmp 31)=.func (.yield l) #[] #[]:=rep_x v31
 have f36:a.eval (.tmp 36)=.int .u64 (((x i).f k).w w):=rep_x v36
 have f35:a.eval (.tmp 35)=.agg #[.int .i64 i,.int .i64 k,.int .i64 w]:=by
  have v35:Rep W μ F (a.eval (.tmp 35)) (.agg [iv i,iv k,iv w]):=v35
  generalize a.eval (.tmp 35)=v at v35
  cases v35 with
  |agg cs ss hl h =>
   simp only[List.length_cons,List.length_nil] at hl
   have h0:=rep_x (h 0 (by simp))
   have h1:=rep_x (h 1 (by simp))
   have h2:=rep_x (h 2 (by simp))
   congr 1
   apply Array.ext
   ·simpa using hl
   ·intro j hj1 hj2
    simp only[Array.getD_eq_getD_getElem?] at h0 h1 h2
    have hj:j=0\/j=1\/j=2:=by omega
    rcases hj with rfl|rfl|rfl
    ·simpa [hj1] using h0
    ·simpa [hj1] using h1
    ·simpa [hj1] using h2
 refine yield_op hY.je hY.js hs opy_op opy_g opy_d (by rw[elen];omega) etag cay_c f31 (v:=vlW x i k w) (by rw[cay_a];simp only[List.map_toArray,List.map_cons,List.map_nil,f35,f36];rfl) (fun O W1 hJ=>hY.y _ _ _ O W1 ⟨i,k,w,hw,rfl,rfl,rfl⟩ hJ) fun W' hs=>?_
 rw[<- esi] at hs
 rw[<- List.append_nil sufy]
 refine runOps_listJ C00_ok (inlNo_ok _ _) hs hsuf.ok fun st a W hq hs=>?_
 subst hq
 exact concJ_normal ⟨rfl,rfl,rfl⟩ hs
theorem satJ_ret{α:Type}{P:Program}{a:α}{B:Nat}{Q:α->Nat->Prop}(h:Q a B):SatJ J F0 P (.ret a) B Q:=⟨h⟩
theorem SatJ.of_eq'{α:Type}{P:Program}{t u:Tree α}{B:Nat}{Q:α->Nat->Prop}(e:t=u)(h:SatJ J F0 P u B Q):SatJ J F0 P t B Q:=e▸h
theorem atCode_satJ{α:Type}{P:Program}{t:Tree α}{B:Nat}{Q:α->Nat->Prop}{c:Code}{st:AS}(hc:codeC t=c)(hst:codeS t=st)(post:Ex->AS->Nat->Prop)(h:TripleJ J F0 P c st B post)(hk:∀e s B',post e s B'->SatJ J F0 P (codeK t e s) B' Q):SatJ J F0 P (atCode t) B Q:=by
 subst hc;subst hst
 exact⟨post,h,fun e s B' hp=>(hk e s B' hp).ok⟩
theorem j75c(hs:Sml 4 n x)(hY:YOK l n x J F0 W0){i k:Nat}(hi:i<n)(hk:k<(x i).n):SatJ J F0 Tryz.prog (atCode (sub [0,0] (b75b l n x i (x i) k))) (posW (mmF x) (nnF x) i k 0) fun r q=>r.1=.normal/\q=posW (mmF x) (nnF x) i (k+1) 0/\r.2=s75b l n x i (x i) (k+1:Nat):=by
 have hw4:=hs.k i k hi hk
 have hm4:=hs.m i hi
 have hend:posW (mmF x) (nnF x) i (k+1) 0=posW (mmF x) (nnF x) i k ((x i).f k).n:=by unfold posW;show _+(_+_)+0=_;rw[Nat.add_zero,<- Nat.add_assoc];rfl
 refine⟨for_satJ C00_ok d00_drawn (stop:=stopAt 9) (n:=200) (n0:=2) (nx:=2) (roots:=[]) (keep:=[0,3,5,9,10,11,16,17,18,24,25,26]) (drop:=[0,1]) (h:=.nil) (body:=loopN (bodyOf Tryz.prog 75) 2) (by kernel_rfl) (by kernel_rfl) ((x i).f k).n
  (fun w s q=>s=s75c l n x i (x i) k ((x i).f k) w/\q=posW (mmF x) (nnF x) i k w) (fun e s q=>e=.exit 4/\s=s75c l n x i (x i) k ((x i).f k) ((x i).f k).n/\q=posW (mmF x) (nnF x) i k ((x i).f k).n)
  ⟨_,⟨rfl,rfl⟩,?_⟩ ?_ ?_ ?_⟩
 ·have:=entA_sound (E75c_eq l n x i (x i) k)
  rw[Int.toNat_natCast] at this
  exact this
 ·rintro w s q hw ⟨rfl,rfl⟩
  refine SatJ.of_eq' (B75c_eq l n x i (x i) k ((x i).f k) w) ⟨fun _=>⟨by omega,?_⟩,fun h1=>by simp only[decide_eq_false_iff_not] at h1;omega⟩
  refine(atCode_satJ (rgy_eq l n x i (x i) k ((x i).f k) w) (st:=sgy l n x i (x i) k ((x i).f k) w) rfl _ (rgy_J hY ⟨hi,hk,hw⟩) ?_).ok
  rintro e s q ⟨he,hs,hq⟩
  subst he
  rw[hs]
  clear hs
  refine SatJ.of_eq' (Ky_eq l n x i (x i) k ((x i).f k) w) ⟨⟨fun h=>(by cases h),fun _=>Or.inl ⟨rfl,_,⟨rfl,hq⟩,?_⟩⟩⟩
  rw[w64_succ hw (by omega)]
  exact Gc.refl _ _
 ·rintro s q ⟨rfl,rfl⟩
  exact SatJ.of_eq' (B75c_eq l n x i (x i) k ((x i).f k) ((x i).f k).n) ⟨fun h1=>by simp only[decide_eq_true_eq] at h1;omega,fun _=>⟨nofun,rfl,rfl,rfl⟩⟩
 ·rintro e s q ⟨he,hs,hq⟩
  subst he
  rw[hs]
  clear hs
  refine SatJ.of_eq' (K75c_eq l n x i (x i) k ((x i).f k) ((x i).f k).n k) (satJ_ret ⟨rfl,by rw[hend];exact hq,?_⟩)
  rw[w64_succ hk (by omega)]
theorem j75b(hs:Sml 4 n x)(hY:YOK l n x J F0 W0){i:Nat}(hi:i<n):SatJ J F0 Tryz.prog (atCode (sub [0,0] (b75 l n x i))) (posW (mmF x) (nnF x) i 0 0) fun r q=>r.1=.normal/\q=posW (mmF x) (nnF x) (i+1) 0 0/\r.2=s75 l n x (i+1:Nat):=by
 have hm4:=hs.m i hi
 have hn4:=hs.le
 have hend:posW (mmF x) (nnF x) (i+1) 0 0=posW (mmF x) (nnF x) i (x i).n 0:=by unfold posW;show _+_+0+0=_;rw[Nat.add_zero,Nat.add_zero];rfl
 refine⟨for_satJ C00_ok d00_drawn (stop:=stopAt 9) (n:=200) (n0:=0) (nx:=0) (roots:=[]) (keep:=[0,3,9,10,11,16,17,18]) (drop:=[]) (h:=.nil) (body:=loopN (bodyOf Tryz.prog 75) 1) (by kernel_rfl) (by kernel_rfl) (x i).n
  (fun k s q=>s=s75b l n x i (x i) k/\q=posW (mmF x) (nnF x) i k 0) (fun e s q=>e=.exit 2/\s=s75b l n x i (x i) (x i).n/\q=posW (mmF x) (nnF x) i (x i).n 0)
  ⟨_,⟨rfl,rfl⟩,?_⟩ ?_ ?_ ?_⟩
 ·have:=entA_sound (E75b_eq l n x i)
  rw[Int.toNat_natCast] at this
  exact this
 ·rintro k s q hk ⟨rfl,rfl⟩
  refine SatJ.of_eq' (B75b_eq l n x i (x i) k) ⟨fun _=>⟨by omega,?_⟩,fun h1=>by simp only[decide_eq_false_iff_not] at h1;omega⟩
  exact Tree.satJ_mono (fun r q hr=>.inl ⟨hr.1,_,⟨rfl,hr.2.1⟩,by rw[hr.2.2];exact Gc.refl _ _⟩) (j75c hs hY hi hk).ok
 ·rintro s q ⟨rfl,rfl⟩
  exact SatJ.of_eq' (B75b_eq l n x i (x i) (x i).n) ⟨fun h1=>by simp only[decide_eq_true_eq] at h1;omega,fun _=>⟨nofun,rfl,rfl,rfl⟩⟩
 ·rintro e s q ⟨he,hs,hq⟩
  subst he
  rw[hs]
  clear hs
  refine SatJ.of_eq' (K75b_eq l n x i (x i) (x i).n i) (satJ_ret ⟨rfl,by rw[hend];exact hq,?_⟩)
  rw[w64_succ hi (by omega)]
theorem j75(hs:Sml 4 n x)(hY:YOK l n x J F0 W0):SatJ J F0 Tryz.prog (t75 l n x) 0 fun r q=>(r.1=.normal\/r.1=.ret)/\q=posW (mmF x) (nnF x) n 0 0/\∃s,(absResults Tryz.prog (fnOf Tryz.prog 75).results r.2).ev s:=by
 have hn4:=hs.le
 refine SatJ.of_eq' (L75_eq l n x) ⟨for_satJ C00_ok d00_drawn (stop:=stopAt 9) (n:=200) (n0:=0) (nx:=0) (roots:=[]) (keep:=[0,9,10,11]) (drop:=[]) (h:=.nil) (body:=loopN (bodyOf Tryz.prog 75) 0) (by kernel_rfl) (by kernel_rfl) n
  (fun i s q=>s=s75 l n x i/\q=posW (mmF x) (nnF x) i 0 0) (fun e s q=>e=.exit 0/\s=s75 l n x n/\q=posW (mmF x) (nnF x) n 0 0)
  ⟨_,⟨rfl,rfl⟩,entA_sound (E75_eq l n x)⟩ ?_ ?_ ?_⟩
 ·rintro i s q hi ⟨rfl,rfl⟩
  refine SatJ.of_eq' (B75_eq l n x i) ⟨fun _=>⟨by omega,?_⟩,fun h1=>by simp only[decide_eq_false_iff_not] at h1;omega⟩
  exact Tree.satJ_mono (fun r q hr=>.inl ⟨hr.1,_,⟨rfl,hr.2.1⟩,by rw[hr.2.2];exact Gc.refl _ _⟩) (j75b hs hY hi).ok
 ·rintro s q ⟨rfl,rfl⟩
  exact SatJ.of_eq' (B75_eq l n x n) ⟨fun h1=>by simp only[decide_eq_true_eq] at h1;omega,fun _=>⟨nofun,rfl,rfl,rfl⟩⟩
 ·rintro e s q ⟨he,hs,hq⟩
  subst he
  rw[hs]
  clear hs
  exact SatJ.of_eq' (K75_eq l n x n) (satJ_ret ⟨.inl rfl,hq,.tup [],rfl⟩)
theorem it75(hs:Sml 4 n x):IterOK Tryz.prog 75 [.rop 1 (fr1 n x)] 0 (stepW n x) (fun q=>q=posW (mmF x) (nnF x) n 0 0):=by
 intro W0 F vs hF hr
 refine⟨stepV n x,?_,fun l J W hje hjs hy h0=>?_⟩
 ·rintro q v q' ⟨i,k,w,h1,h2,rfl,h4⟩
  refine⟨_,⟨i,k,w,h1,h2,rfl,h4⟩,rfl,fun j hj=>?_⟩
  match j,hj with
  |0,_ =>
   refine .agg _ _ rfl fun j hj=>?_
   match j,hj with
   |0,_=>exact .d (.x _)
   |1,_=>exact .d (.x _)
   |2,_=>exact .d (.x _)
  |1,_=>exact .d (.x _)
 ·have e0:=(hje _ _ _ h0).1
  refine callsJ_of (n:=200) (hint:=.nil) C00_ok d00_drawn hje hjs (by kernel_rfl) (by kernel_rfl) (fun b hb=>Nat.lt_of_lt_of_le (hF b hb) e0.size) (args:=[yv l,.rop 1 (fr1 n x)]) ?_ h0 (j75 (l:=l) hs ⟨hje,hjs,hy⟩)
  obtain⟨h1,h2⟩:=hr
  refine⟨by simp only[List.length_cons,List.length_nil] at h1 ⊢;simp[h1],fun j hj=>?_⟩
  match j,hj with
  |0,_ =>
   have:(#[Value.func (.yield l) #[] #[]]++vs).getD 0 undef=.func (.yield l) #[] #[]:=by simp[Array.getD]
   rw[this];exact .d (.x _)
  |1,_ =>
   have:=h2 0 (by simp)
   have e:(#[Value.func (.yield l) #[] #[]]++vs).getD 1 undef=vs.getD 0 undef:=by simp[Array.getD_eq_getD_getElem?,Array.getElem?_append]
   rw[e]
   exact this.mono e0 (fun _ h=>h) (fun _ _ h=>h)
end
open Classical in
noncomputable def shRB(y z:FsT):Bool:=decide (shR y z)
noncomputable def CW1:Ctx:=ctxN Tryz.prog (fun _=>none) (fun k=>k==74) 200 .nil 6
theorem CW1_ok:CtxOK Tryz.prog CW1:=ctxN_ok mixed (fun k c h=>by cases h) 6
noncomputable def DW1:Dr:=drawnL Tryz.prog CW1
theorem DW1_ok:DrOK Tryz.prog CW1 DW1:=drawnL_ok CW1_ok mixed
noncomputable def t73(y z:FsT):Tree SV:=fnT Tryz.prog CW1 DW1 200 (fnOf Tryz.prog 73) (bodyOf Tryz.prog 73) [.d (fsC y 0),.d (fsC z 0),.fn (.func 74) [] []] .nil
noncomputable def st73(y z:FsT)(b:Bool)(i:Int):AS:=⟨slN 32 [(1,.d (fsC z 0)),(2,.fn (.func 74) [] []),(6,bv b),(15,.d (fsC y 0)),(16,iv y.n),(17,iv i)],[],0,.nil⟩
def e73(y z:FsT)(i:Nat):Bool:=((y.f i).n:Int)==((z.f i).n:Int)
section
variable (y z : FsT) (b : Bool) (i : Int)
theorem L73_eq:t73 y z=.ite ((y.n:Int) != (z.n:Int)) (.ret (bv false)) (atCode (sub [1] (t73 y z))):=by kernel_rfl
theorem B73_eq:cutT 0 [] [1,2,6,15,16,17] [] 0 .nil (exec Tryz.prog CW1 DW1 200 (loopN (bodyOf Tryz.prog 73) 0) (st73 y z b i))=.ite (decide (i<(y.n:Int))) (.need (0<=i/\i<(y.n:Int)) (.need (0<=i/\i<(z.n:Int)) (.ite (!(e73 y z i.toNat)) (.ret (.ret,st73 y z false i)) (.ret (.normal,st73 y z b (w64 (i+1))))))) (.ret (.exit 0,st73 y z b i)):=by kernel_rfl
theorem E73_eq:entA 0 [] [1,2,6,15,16,17] [] 0 .nil (sub [1] (t73 y z))=some (st73 y z false 0):=by kernel_rfl
theorem K73a_eq:codeK (sub [1] (t73 y z)) (.exit 0) (st73 y z b i)=.ret (bv true):=by kernel_rfl
theorem K73b_eq:codeK (sub [1] (t73 y z)) .ret (st73 y z b i)=.ret (bv b):=by kernel_rfl
end
theorem s73{y z:FsT}(hn:y.n<=1000000000):Sat Tryz.prog (t73 y z) (·=bv (shRB y z)):=by
 unfold shRB
 refine Sat.of_eq (L73_eq y z) ⟨fun h=>?_,fun h=>?_⟩
 ·rw[bne_iff_ne] at h
  have:¬shR y z:=fun h2=>h (by rw[h2.1])
  simp only[this,decide_false];rfl
 rw[bne_eq_false_iff_eq] at h
 have hyz:y.n=z.n:=by omega
 have hyes:(∀k,k<y.n->e73 y z k=true)->shR y z:=fun h=>⟨hyz,fun k hk=>by have:=h k hk;unfold e73 at this;rw[beq_iff_eq] at this;omega⟩
 have hno:∀k,k<y.n->e73 y z k=false->¬shR y z:=fun k hk h h2=>by unfold e73 at h;rw[beq_eq_false_iff_ne] at h;exact h (by rw[h2.2 k hk])
 refine for_satS CW1_ok DW1_ok (n:=200) (n0:=0) (nx:=0) (roots:=[]) (keep:=[1,2,6,15,16,17]) (drop:=[]) (h:=.nil) (body:=loopN (bodyOf Tryz.prog 73) 0) (by kernel_rfl) (by kernel_rfl) y.n (fun i=>st73 y z false i) (fun i=>∀k,k<i->e73 y z k=true)
  (fun e t=>(e=.exit 0/\shR y z/\∃b i,t=st73 y z b i)\/(e=.ret/\¬shR y z/\∃i,t=st73 y z false i)) (fun k hk=>by omega) (entA_sound (E73_eq y z)) ?_ ?_ ?_
 ·intro i hi hf
  refine Sat.of_eq (B73_eq y z false i) ⟨?_⟩
  rw[Int.toNat_natCast,w64_succ hi (by omega)]
  refine⟨fun _=>⟨by omega,by omega,fun h2=>.inr ⟨nofun,.inr ⟨rfl,hno i hi (by simpa using h2),_,rfl⟩⟩,fun h2=>.inl ⟨rfl,fun k hk=>?_,Gc.refl _ _⟩⟩,fun h1=>by simp only[decide_eq_false_iff_not] at h1;omega⟩
  by_cases hki:k=i
  ·subst hki;simpa using h2
  ·exact hf k (by omega)
 ·intro hf
  refine Sat.of_eq (B73_eq y z false y.n) ⟨?_⟩
  exact⟨fun h1=>by simp only[decide_eq_true_eq] at h1;omega,fun _=>⟨nofun,.inl ⟨rfl,hyes hf,_,_,rfl⟩⟩⟩
 ·rintro e t (⟨rfl,hf,b,i,rfl⟩|⟨rfl,hf,i,rfl⟩)
  ·exact Sat.of_eq (K73a_eq y z b i) ⟨by simp only[hf,decide_true];rfl⟩
  ·exact Sat.of_eq (K73b_eq y z false i) ⟨by simp only[hf,decide_false];rfl⟩
noncomputable def c73:Ctr:=fun ss=>match ss with
 |[.d (.ro a 1 A),.d (.ro b 1 B),.fn (.func 74) [] []]=>.need (a<=1000000000/\RpD a A/\RpD b B) (.ret (bv (shRB ⟨a,fun k=>fmOf (A k)⟩ ⟨b,fun k=>fmOf (B k)⟩)))
 |_=>.fail
theorem c73_ok:CtrOK Tryz.prog 73 c73:=ctrOK_leS CW1_ok DW1_ok (by kernel_rfl) (by kernel_rfl) fun ss r h=>by
 unfold c73 at h
 split at h
 ·rename_i a A b B
  obtain⟨⟨hn,hA,hB⟩,rfl⟩:=h
  refine⟨[.d (fsC ⟨a,fun k=>fmOf (A k)⟩ 0),.d (fsC ⟨b,fun k=>fmOf (B k)⟩ 0),.fn (.func 74) [] []],200,.nil,?_,s73 hn⟩
  unfold fsC
  simp only[leSVs,leSV,leD,and_true,true_and]
  refine⟨fun i j hi hj=>?_,fun i j hi hj=>?_⟩
  ·obtain rfl:j=0:=by omega
   exact hA i hi
  ·obtain rfl:j=0:=by omega
   exact hB i hi
 ·exact h.elim
noncomputable def manW2:FuncId->Option Ctr:=fun k=>match k with
 |73=>some c73
 |_=>none
theorem manW2_ok(k:Nat)(c:Ctr)(hk:manW2 k=some c):CtrOK Tryz.prog k c/\goodF Tryz.prog k=true:=by
 unfold manW2 at hk
 split at hk
 ·cases hk;exact⟨c73_ok,by kernel_rfl⟩
 ·cases hk
noncomputable def CW2:Ctx:=ctxN Tryz.prog manW2 (fun k=>k==72||k==71) 200 .nil 6
theorem CW2_ok:CtxOK Tryz.prog CW2:=ctxN_ok mixed manW2_ok 6
noncomputable def DW2:Dr:=drawnL Tryz.prog CW2
theorem DW2_ok:DrOK Tryz.prog CW2 DW2:=drawnL_ok CW2_ok mixed
noncomputable def t71(n:Nat)(x:Nat->FsT)(m:Nat)(y:Nat->FsT):Tree SV:=fnT Tryz.prog CW2 DW2 200 (fnOf Tryz.prog 71) (bodyOf Tryz.prog 71) [ssS n x,ssS m y,.fn (.func 72) [] []] .nil
noncomputable def st71(n:Nat)(x:Nat->FsT)(m:Nat)(y:Nat->FsT)(b:Bool)(i:Int):AS:=⟨slN 32 [(1,ssS m y),(2,.fn (.func 72) [] []),(6,bv b),(15,ssS n x),(16,iv n),(17,iv i)],[],0,.nil⟩
section
variable (n : Nat) (x : Nat → FsT) (m : Nat) (y : Nat → FsT) (b : Bool) (i : Int)
theorem L71_eq:t71 n x m y=.ite ((n:Int) != (m:Int)) (.ret (bv false)) (atCode (sub [1] (t71 n x m y))):=by kernel_rfl
theorem B71_eq:cutT 0 [] [1,2,6,15,16,17] [] 0 .nil (exec Tryz.prog CW2 DW2 200 (loopN (bodyOf Tryz.prog 71) 0) (st71 n x m y b i))=.ite (decide (i<(n:Int))) (.need (0<=i/\i<(n:Int)) (.need (0<=i/\i<(m:Int)) (.need ((x i.toNat).n<=1000000000/\RpD (x i.toNat).n (fun k j=>fmC ((x i.toNat).f k) j)/\RpD (y i.toNat).n fun k j=>fmC ((y i.toNat).f k) j)
  (.ite (!(shRB (x i.toNat) (y i.toNat))) (.ret (.ret,st71 n x m y false i)) (.ret (.normal,st71 n x m y b (w64 (i+1)))))))) (.ret (.exit 0,st71 n x m y b i)):=by kernel_rfl
theorem E71_eq:entA 0 [] [1,2,6,15,16,17] [] 0 .nil (sub [1] (t71 n x m y))=some (st71 n x m y false 0):=by kernel_rfl
theorem K71a_eq:codeK (sub [1] (t71 n x m y)) (.exit 0) (st71 n x m y b i)=.ret (bv true):=by kernel_rfl
theorem K71b_eq:codeK (sub [1] (t71 n x m y)) .ret (st71 n x m y b i)=.ret (bv b):=by kernel_rfl
end
theorem shRB_tt{y z:FsT}:shRB y z=true ↔ shR y z:=by unfold shRB;simp
theorem shRB_ff{y z:FsT}:shRB y z=false ↔ ¬shR y z:=by unfold shRB;simp
theorem s71{n:Nat}{x:Nat->FsT}{m:Nat}{y:Nat->FsT}(hn:n<=1000000000)(hx:∀i,i<n->FsOK (x i)):Sat Tryz.prog (t71 n x m y) (·=bv (shB n x m y)):=by
 unfold shB
 refine Sat.of_eq (L71_eq n x m y) ⟨fun h=>?_,fun h=>?_⟩
 ·rw[bne_iff_ne] at h
  have:¬shQ n x m y:=fun h2=>h (by rw[h2.1])
  simp only[this,decide_false];rfl
 rw[bne_eq_false_iff_eq] at h
 obtain rfl:n=m:=by omega
 refine for_satS CW2_ok DW2_ok (n:=200) (n0:=0) (nx:=0) (roots:=[]) (keep:=[1,2,6,15,16,17]) (drop:=[]) (h:=.nil) (body:=loopN (bodyOf Tryz.prog 71) 0) (by kernel_rfl) (by kernel_rfl) n (fun i=>st71 n x n y false i) (fun i=>∀k,k<i->shR (x k) (y k))
  (fun e t=>(e=.exit 0/\shQ n x n y/\∃b i,t=st71 n x n y b i)\/(e=.ret/\¬shQ n x n y/\∃i,t=st71 n x n y false i)) (fun k hk=>by omega) (entA_sound (E71_eq n x n y)) ?_ ?_ ?_
 ·intro i hi hf
  refine Sat.of_eq (B71_eq n x n y false i) ⟨?_⟩
  rw[Int.toNat_natCast,w64_succ hi (by omega)]
  have h4:=(hx i hi).n
  refine⟨fun _=>⟨by omega,by omega,⟨by omega,fun _ _=>rfl,fun _ _=>rfl⟩,fun h2=>.inr ⟨nofun,.inr ⟨rfl,fun h3=>?_,_,rfl⟩⟩,fun h2=>.inl ⟨rfl,fun k hk=>?_,Gc.refl _ _⟩⟩,fun h1=>by simp only[decide_eq_false_iff_not] at h1;omega⟩
  ·rw[Bool.not_eq_true',shRB_ff] at h2
   exact h2 (h3.2 i hi)
  ·rw[Bool.not_eq_false',shRB_tt] at h2
   by_cases hki:k=i
   ·subst hki;exact h2
   ·exact hf k (by omega)
 ·intro hf
  refine Sat.of_eq (B71_eq n x n y false n) ⟨?_⟩
  exact⟨fun h1=>by simp only[decide_eq_true_eq] at h1;omega,fun _=>⟨nofun,.inl ⟨rfl,⟨rfl,hf⟩,_,_,rfl⟩⟩⟩
 ·rintro e t (⟨rfl,hf,b,i,rfl⟩|⟨rfl,hf,i,rfl⟩)
  ·exact Sat.of_eq (K71a_eq n x n y b i) ⟨by simp only[hf,decide_true];rfl⟩
  ·exact Sat.of_eq (K71b_eq n x n y false i) ⟨by simp only[hf,decide_false];rfl⟩
noncomputable def c71:Ctr:=fun ss=>match ss with
 |[.d (.ro n 1 F),.d (.ro m 1 G),.fn (.func 72) [] []]=>.need (n<=1000000000/\SsD n F/\SsD m G) (.ret (bv (shB n (fun i=>fsOf (F i)) m fun i=>fsOf (G i))))
 |_=>.fail
theorem c71_ok:CtrOK Tryz.prog 71 c71:=ctrOK_leS CW2_ok DW2_ok (by kernel_rfl) (by kernel_rfl) fun ss r h=>by
 unfold c71 at h
 split at h
 ·rename_i n F m G
  obtain⟨⟨hn,hF,hG⟩,rfl⟩:=h
  exact⟨[ssS n fun i=>fsOf (F i),ssS m fun i=>fsOf (G i),.fn (.func 72) [] []],200,.nil,by simp only[leSVs,and_true];exact⟨ssD_le hF,ssD_le hG,by simp[leSV,leSVs]⟩,s71 hn fun i hi=>(hF i hi).1⟩
 ·exact h.elim
end Go.Proofs.YtanlnopgadbpjaaGreat.Rw
