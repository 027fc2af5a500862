/- Part of a proof of the given statements of this seat (SxUmRk, SxUmRl, SxUmRm, SxUmRn, SxUmRo, SxUmRp, SxUmRr, SxXx, SxXy, SxXz, SxYa, SxYb, SxUmRq, SxUmRs, SxUmRt, SxYc, SxYd, SxYe, SxYf, SxYg, SxYh, SxYi): no conditions beyond those typed here. -/
import Derived.Test.YtanlnopgadbpjaaGreatSw06
import Derived.Test.YtanlnopgadbpjaaGreatSw05
import Derived.Test.YtanlnopgadbpjaaGreatRows
import Derived.Test.YtanlnopgadbpjaaGreatChecked
set_option linter.unusedVariables false
set_option linter.unusedSimpArgs false
set_option linter.unusedSectionVars false
set_option linter.constructorNameAsVariable false
set_option maxRecDepth 100000
namespace Go.Proofs.YtanlnopgadbpjaaGreat
open Go.Sx
def bR(n:Nat)(f:Nat->Rel)(r:Rel):Rel:={ r with no:=(n:Int)+1,prev:=prevN f n }
def newR(key:Int)(n:Nat)(f:Nat->Rel)(r:Rel):Rel:={ bR n f r with tag:=stp key (dig (bR n f r)) }
noncomputable def nxE(key:Int)(n:Nat)(f:Nat->Rel)(r:Rel):Int:=bif ckV key n f != 0 then 460 else bif decide ((n:Int)>=200) then 2 else bif !vdB r then 1 else 0
noncomputable def nxN(key:Int)(n:Nat)(f:Nat->Rel)(r:Rel):Nat:=bif nxE key n f r==0 then n+1 else 0
noncomputable def nxF(key:Int)(n:Nat)(f:Nat->Rel)(r:Rel):Nat->Rel:=fun i=>bif decide (i<n) then f i else newR key n f r
theorem dsAt_rel{L:List DV}{r:Rel}(h:L=[i64d r.no,u64d r.prev,u64d r.src,u64d r.cir,.ro r.fn 1 fun i _=>.x (.int .u64 (r.fc i)),i64d r.b0,i64d r.b1,i64d r.b2,i64d r.b3,i64d r.b4,i64d r.b5,i64d r.b6,i64d r.b7,i64d r.b8,i64d r.b9,i64d r.b10,i64d r.b11,i64d r.pn,i64d r.pd,u64d r.tag]):∀j,j<20->dsAt L j=relD r j:=by
 subst h
 intro j hj
 match j,hj with
 |0,_=>rfl
 |1,_=>rfl
 |2,_=>rfl
 |3,_=>rfl
 |4,_=>rfl
 |5,_=>rfl
 |6,_=>rfl
 |7,_=>rfl
 |8,_=>rfl
 |9,_=>rfl
 |10,_=>rfl
 |11,_=>rfl
 |12,_=>rfl
 |13,_=>rfl
 |14,_=>rfl
 |15,_=>rfl
 |16,_=>rfl
 |17,_=>rfl
 |18,_=>rfl
 |19,_=>rfl
 |k+20,h=>exact absurd h (by omega)
theorem app_row{n:Nat}{f:Nat->Rel}{r:Rel}{L:List DV}(hL:∀j,j<20->dsAt L j=relD r j){i j:Nat}(hi:i<n+1)(hj:j<20) :
  selD (decide (i<n)) (relD (f i) j) (dsAt L ((i-n)*20+j))=relD (bif decide (i<n) then f i else r) j:=by
 rw[selD_if]
 by_cases h:i<n
 ·rw[if_pos h];simp[h]
 ·rw[if_neg h,show(i-n)*20+j=j by omega,hL j hj];simp[h]
theorem nil_le{f:Nat->Rel}{m:Nat}(h:m=0):leD (.x (.slice none 0 0)) (chD m f):=by subst h;exact⟨rfl,rfl⟩
theorem vdB_eq{r:Rel}:(!cdB r||decide ((↑(Rel.fn r):Int)>8))=!vdB r:=by
 unfold vdB
 rw[Bool.not_and]
 congr 1
 rw[<- decide_not]
 congr 1
 simp
theorem tup2_le{a c:DV}{b:Int}(h:leD a c):leSV 0 [] [] (.tup [.d a,iv b]) (.tup [.d c,iv b]):=by
 simp only[leSV,leSVs,and_true];exact⟨h,by simp[leD,iv,leSV]⟩
theorem agg2_le{a c:DV}{b:Int}(h:leD a c):leSV 0 [] [] (.agg [.d a,iv b]) (.agg [.d c,iv b]):=by
 simp only[leSV,leSVs,and_true];exact⟨h,by simp[leD,iv,leSV]⟩
set_option maxHeartbeats 1000000 in
theorem nx_sat{key:Int}{n:Nat}{f:Nat->Rel}{r:Rel}(hn:n<=1000000)(hf:∀i,i<n->(f i).fn<=1000000)(hr:r.fn<=1000000):Sat Tryz.prog (LNx key n f r) fun s=>leSV 0 [] [] s (.tup [.d (chD (nxN key n f r) (nxF key n f r)),iv (nxE key n f r)]):=by
 constructor
 unfold LNx
 refine⟨ChC.self hn hf,fun h=>?_,fun h=>?_⟩
 ·have h:(ckV key n f != 0)=true:=h
  have hE:nxE key n f r=460:=by unfold nxE;rw[h];rfl
  rw[hE]
  exact tup2_le (nil_le (by unfold nxN;rw[hE];rfl))
 ·have h:(ckV key n f != 0)=false:=h
  refine⟨fun h1=>?_,fun h1=>⟨U64C.self hr,fun h2=>?_,fun h2=>?_⟩⟩
  ·have hE:nxE key n f r=2:=by unfold nxE;rw[h,h1];rfl
   rw[hE]
   exact tup2_le (nil_le (by unfold nxN;rw[hE];rfl))
  ·have hE:nxE key n f r=1:=by unfold nxE;rw[h,h1,h2];rfl
   rw[hE]
   exact tup2_le (nil_le (by unfold nxN;rw[hE];rfl))
  ·have hE:nxE key n f r=0:=by unfold nxE;rw[h,h1,h2];rfl
   have hN:nxN key n f r=n+1:=by unfold nxN;rw[hE];rfl
   rw[hE,hN]
   have e2:w64 ((n:Int)+1)=(n:Int)+1:=w64_of (by omega) (by omega)
   refine⟨fun h3=>?_,fun h3=>?_⟩
   ·obtain⟨m,rfl⟩:∃m,n=m+1:=⟨n-1,by simp only[decide_eq_true_eq] at h3;omega⟩
    have e1:w64 (((m+1:Nat):Int)-1)=(m:Int):=by rw[show((m+1:Nat):Int)-1=(m:Int) by omega];exact w64_of (by omega) (by omega)
    refine⟨by rw[e1];omega,?_,U64C.self hr,?_,?_,by omega,?_⟩
    ·unfold LNx_q3;rw[e1,Int.toNat_natCast];exact U64C.self (c:=(f m).fc) (hf m (by omega))
    ·exact I64C.self (by show 19+r.fn<=_;omega)
    ·exact⟨trivial,by simp,by omega⟩
    ·refine tup2_le ⟨rfl,rfl,fun i j hi hj=>?_⟩
     unfold LNx_q7 LNx_q6 LNx_q4 LNx_q2
     rw[e1,e2]
     simp only[Nat.zero_add,Int.toNat_natCast]
     exact app_row (dsAt_rel (by rfl)) hi hj
   ·obtain rfl:n=0:=by simp only[decide_eq_false_iff_not] at h3;omega
    refine⟨U64C.self hr,?_,?_,by omega,?_⟩
    ·exact I64C.self (by show 19+r.fn<=_;omega)
    ·exact⟨trivial,by simp,by omega⟩
    ·refine tup2_le ⟨rfl,rfl,fun i j hi hj=>?_⟩
     obtain rfl:i=0:=by omega
     unfold LNx_q10 LNx_q9 LNx_q4 LNx_q2
     rw[e2,selD_eq]
     simp only[Nat.zero_add,Int.toNat_natCast,Nat.not_lt_zero,decide_false,cond_false,Nat.sub_zero,Nat.zero_mul]
     exact dsAt_rel (r:=newR key 0 f r) (by rfl) j hj
set_option maxHeartbeats 1000000 in
theorem ni_sat{key:Int}{n:Nat}{f:Nat->Rel}{r:Rel}(hn:n<=1000000)(hf:∀i,i<n->(f i).fn<=1000000)(hr:r.fn<=1000000):Sat Tryz.prog (LNi key n f r) fun s=>leSV 0 [] [] s (.agg [.d (chD (nxN key n f r) (nxF key n f r)),iv (nxE key n f r)]):=by
 constructor
 unfold LNi
 refine⟨ChC.self hn hf,fun h=>?_,fun h=>?_⟩
 ·have h:(ckV key n f != 0)=true:=h
  have hE:nxE key n f r=460:=by unfold nxE;rw[h];rfl
  rw[hE]
  exact agg2_le (nil_le (by unfold nxN;rw[hE];rfl))
 ·have h:(ckV key n f != 0)=false:=h
  refine⟨fun h1=>?_,fun h1=>⟨U64C.self hr,fun h2=>?_,fun h2=>?_⟩⟩
  ·have hE:nxE key n f r=2:=by unfold nxE;rw[h,h1];rfl
   rw[hE]
   exact agg2_le (nil_le (by unfold nxN;rw[hE];rfl))
  ·rw[vdB_eq] at h2
   have hE:nxE key n f r=1:=by unfold nxE;rw[h,h1,h2];rfl
   rw[hE]
   exact agg2_le (nil_le (by unfold nxN;rw[hE];rfl))
  ·rw[vdB_eq] at h2
   have hE:nxE key n f r=0:=by unfold nxE;rw[h,h1,h2];rfl
   have hN:nxN key n f r=n+1:=by unfold nxN;rw[hE];rfl
   rw[hE,hN]
   have e2:w64 ((n:Int)+1)=(n:Int)+1:=w64_of (by omega) (by omega)
   refine⟨fun h3=>?_,fun h3=>?_⟩
   ·obtain⟨m,rfl⟩:∃m,n=m+1:=⟨n-1,by simp only[decide_eq_true_eq] at h3;omega⟩
    have e1:w64 (((m+1:Nat):Int)-1)=(m:Int):=by rw[show((m+1:Nat):Int)-1=(m:Int) by omega];exact w64_of (by omega) (by omega)
    refine⟨by rw[e1];omega,?_,U64C.self hr,⟨by omega,trivial,by omega⟩,⟨by omega,by simp,by omega⟩,by omega,?_⟩
    ·unfold LNi_q3;rw[e1,Int.toNat_natCast];exact U64C.self (c:=(f m).fc) (hf m (by omega))
    ·refine agg2_le ⟨by omega,rfl,fun i j hi hj=>?_⟩
     unfold LNi_q5 LNi_q4 LNi_q2
     rw[e1,e2]
     simp only[Nat.zero_add,Int.toNat_natCast,Nat.not_lt_zero,decide_false,cond_false,Nat.sub_zero]
     exact app_row (dsAt_rel (by rfl)) (by omega) hj
   ·obtain rfl:n=0:=by simp only[decide_eq_false_iff_not] at h3;omega
    refine⟨U64C.self hr,⟨by omega,trivial,by omega⟩,⟨by omega,by simp,by omega⟩,by omega,?_⟩
    ·refine agg2_le ⟨by omega,rfl,fun i j hi hj=>?_⟩
     obtain rfl:i=0:=by omega
     unfold LNi_q6 LNi_q4 LNi_q2
     rw[e2,selD_eq]
     simp only[Nat.zero_add,Int.toNat_natCast,Nat.not_lt_zero,decide_false,cond_false,Nat.sub_zero,Nat.zero_mul]
     exact dsAt_rel (r:=newR key 0 f r) (by rfl) j hj
noncomputable def cNx:Ctr:=fun ss=>match ss with
 |[.d (.x (.int .u64 key)),.d d,.agg l]=>match rowD 20 d,relOf l with
  |some (n,cell),some (r,p)=>.need (ChC n cell/\p) (.ret (.tup [.d (chD (nxN key n (relC cell) r) (nxF key n (relC cell) r)),iv (nxE key n (relC cell) r)]))
  |_,_=>.fail
 |_=>.fail
noncomputable def cNi:Ctr:=fun ss=>match ss with
 |[.d (.x (.int .u64 key)),.d d,.agg l]=>match rowD 20 d,relOf l with
  |some (n,cell),some (r,p)=>.need (ChC n cell/\p) (.ret (.agg [.d (chD (nxN key n (relC cell) r) (nxF key n (relC cell) r)),iv (nxE key n (relC cell) r)]))
  |_,_=>.fail
 |_=>.fail
theorem cNx_ok:CtrOK Tryz.prog 14 cNx:=by
 refine ctrOK_leR CO_ok DO_ok (by kernel_rfl) (by kernel_rfl) fun ss r h=>?_
 unfold cNx at h
 split at h
 ·rename_i key d l
  split at h
  ·rename_i n cell r p hr1 hr2
   obtain⟨⟨h1,h2⟩,rfl⟩:=h
   obtain⟨h3,h4⟩:=relOf_le hr2 h2
   have k:=nx_sat (key:=key) h1.1 h1.fn h4
   refine⟨[u64v key,.d (chD n (relC cell)),.agg (relL r)],200,.nil,?_,?_⟩
   ·simp only[leSVs,leSV,u64v,and_true];exact⟨by simp[leD],h1.le hr1,h3⟩
   ·exact Sat.of_eq (LNx_eq key n (relC cell) r) k
  ·exact h.elim
 ·exact h.elim
theorem cNi_ok:CtrOK Tryz.prog 51 cNi:=by
 refine ctrOK_leR CO_ok DO_ok (by kernel_rfl) (by kernel_rfl) fun ss r h=>?_
 unfold cNi at h
 split at h
 ·rename_i key d l
  split at h
  ·rename_i n cell r p hr1 hr2
   obtain⟨⟨h1,h2⟩,rfl⟩:=h
   obtain⟨h3,h4⟩:=relOf_le hr2 h2
   have k:=ni_sat (key:=key) h1.1 h1.fn h4
   refine⟨[u64v key,.d (chD n (relC cell)),.agg (relL r)],200,.nil,?_,?_⟩
   ·simp only[leSVs,leSV,u64v,and_true];exact⟨by simp[leD],h1.le hr1,h3⟩
   ·exact Sat.of_eq (LNi_eq key n (relC cell) r) k
  ·exact h.elim
 ·exact h.elim
set_option pp.structureInstances false
noncomputable def manP:FuncId->Option Ctr:=fun k=>match k with
 |14=>some cNx
 |51=>some cNi
 |k=>manO k
theorem manP_ok(k:Nat)(c:Ctr)(h:manP k=some c):CtrOK Tryz.prog k c/\goodF Tryz.prog k=true:=by
 unfold manP at h
 split at h
 ·cases h;exact⟨cNx_ok,by kernel_rfl⟩
 ·cases h;exact⟨cNi_ok,by kernel_rfl⟩
 ·exact manO_ok _ _ h
noncomputable def CP:Ctx:=ctxO Tryz.prog manP ownL (fun k=>k==70106) 200 .nil 6
theorem CP_ok:CtxOK Tryz.prog CP:=ctxO_ok mixed manP_ok ownL_ok 6
noncomputable def DP:Dr:=fun _=>drawn Tryz.prog CP
theorem DP_ok:DrOK Tryz.prog CP DP:=drawn_ok CP_ok mixed
noncomputable def TP(h:Hint)(k:Nat)(args:List SV):Tree SV:=fnT Tryz.prog CP DP 200 (fnOf Tryz.prog k) (bodyOf Tryz.prog k) args h
noncomputable def tCt(n:Nat)(c:Nat->Int):Tree SV:=TP .nil 11 [.d (.ro n 1 fun i _=>.x (.int .u8 (c i)))]
noncomputable def LCt4(n:Nat)(c:Nat->Int):Tree SV :=
  .need ((Byt n fun i x=>DV.x (.int .u8 (c i)))/\(0:Int)<=(0:Int))
  (.need ((Byt n fun i x=>DV.x (.int .u8 (c i)))/\(0:Int)<=(1:Int))
   (.need (Byt n fun i x=>DV.x (.int .u8 (c i)))
   (.need ((Byt n fun i x=>DV.x (.int .u8 (c i)))/\(0:Int)<=(2:Int))
   (.need ((Byt n fun i x=>DV.x (.int .u8 (c i)))/\(0:Int)<=(3:Int))
   (.need ((6:Int)≠(0:Int))
   (.need (I64 (w64 ((1:Int)+at8 n (fun i=>c i) (2:Int)))/\I64 (w64 ((1:Int)+Int.tmod (at8 n (fun i=>c i) (3:Int)) (6:Int))))
   (.code (codeC (sub [(0:Nat),(0:Nat),(0:Nat),(0:Nat),(0:Nat),(0:Nat),(0:Nat)] (tCt n c))) (codeS (sub [(0:Nat),(0:Nat),(0:Nat),(0:Nat),(0:Nat),(0:Nat),(0:Nat)] (tCt n c)))
   (codeK (sub [(0:Nat),(0:Nat),(0:Nat),(0:Nat),(0:Nat),(0:Nat),(0:Nat)] (tCt n c))))))))))
theorem LCt4_eq(n:Nat)(c:Nat->Int):tCt n c=LCt4 n c:=by kernel_rfl
noncomputable def ctR(n:Nat)(c:Nat->Int):Rel:=⟨0,0,IntKind.wrap .u64 (at8 n c 0),IntKind.wrap .u64 (at8 n c 1),(Int.tmod (at8 n c 4) 4).toNat,fun i=>IntKind.wrap .u64 (at8 n c (5+i)),
 (loQ n c 0).num,(loQ n c 0).den,(hiQ n c 0).num,(hiQ n c 0).den,(loQ n c 1).num,(loQ n c 1).den,(hiQ n c 1).num,(hiQ n c 1).den,(loQ n c 2).num,(loQ n c 2).den,(hiQ n c 2).num,(hiQ n c 2).den,
 (mdQ (w64 (1+at8 n c 2)) (w64 (1+Int.tmod (at8 n c 3) 6))).num,(mdQ (w64 (1+at8 n c 2)) (w64 (1+Int.tmod (at8 n c 3) 6))).den,0⟩
def zeroL:List SV:=[iv 0,u64v 0,u64v 0,u64v 0,.d (.x (.slice none 0 0)),iv 0,iv 0,iv 0,iv 0,iv 0,iv 0,iv 0,iv 0,iv 0,iv 0,iv 0,iv 0,iv 0,iv 0,u64v 0]
def relLf(r:Rel)(s:SV):List SV:=[iv r.no,u64v r.prev,u64v r.src,u64v r.cir,s,iv r.b0,iv r.b1,iv r.b2,iv r.b3,iv r.b4,iv r.b5,iv r.b6,iv r.b7,iv r.b8,iv r.b9,iv r.b10,iv r.b11,iv r.pn,iv r.pd,u64v r.tag]
def ro8'(n:Nat)(c:Nat->Int):SV:=.d (.ro n 1 fun i _=>.x (.int .u8 (c i)))
noncomputable def entCt(n:Nat)(c:Nat->Int):AS:=⟨[.ok (ro8' n c),.unk,.ok (.ptr 0 0),.ok (.ptr 1 0),.ok (iv 0)]++List.replicate 35 .unk,[some (.cells zeroL),some (.cells (relLf (ctR n c) (.d (.x (.slice none 0 0))))),none],3,.nil⟩
theorem ECt_eq(n:Nat)(c:Nat->Int):entA 3 [] [0,2,3,4] [2] 3 .nil (sub [0,0,0,0,0,0,0] (tCt n c))=some (entCt n c):=by kernel_rfl
noncomputable def invCt(n:Nat)(c:Nat->Int)(r:Rel)(k:Nat)(v:Nat->Int):AS:=⟨[.ok (ro8' n c),.unk,.ok (.ptr 0 0),.ok (.ptr 1 0),.ok (iv k)]++List.replicate 35 .unk,[some (.cells zeroL),some (.cells (relLf r (.row 3 0 0 k 1))),none,some (.row k 1 fun i _=>.x (.int .u64 (v i)))],4,.nil⟩
noncomputable def bodyCt:Code:=loopN (bodyOf Tryz.prog 11) 0
noncomputable def rtCt:List (Root×Nat):=[(.cell (.base 1) 4,3)]
noncomputable def BCt(n:Nat)(c:Nat->Int)(r:Rel)(k:Nat)(v:Nat->Int):Tree (Ex×AS) :=
  .need ((Byt n fun i x=>DV.x (.int .u8 (c i)))/\(0:Int)<=(4:Int))
  (.need ((4:Int)≠(0:Int))
   (.ite (decide ((↑k:Int)<Int.tmod (at8 n (fun i=>c i) (4:Int)) (4:Int)))
   (.need ((Byt n fun i x=>DV.x (.int .u8 (c i)))/\(0:Int)<=w64 ((5:Int)+(↑k:Int)))
   (.need (0+k<=k/\1<=List.length [SV.d (DV.x (.int .u64 (IntKind.wrap .u64 (at8 n (fun i=>c i) (w64 ((5:Int)+(↑k:Int)))))))]/\(k+1)*8<=140737488355328)
   (.ret
   (.normal,
   AS.mk
   [.ok (SV.d (DV.ro n 1 fun i x=>DV.x (.int .u8 (c i)))),.unk,.ok (SV.ptr 0 0),.ok (SV.ptr 1 0),.ok (iv (w64 ((↑k:Int)+(1:Int)))),.unk,
   .unk,.unk,.unk,.unk,.unk,.unk,.unk,.unk,.unk,.unk,.unk,.unk,.unk,.unk,.unk,.unk,.unk,.unk,.unk,.unk,.unk,.unk,.unk,.unk,.unk,.unk,.unk,
   .unk,.unk,.unk,.unk,.unk,.unk,.unk]
   [some
   (.cells
   [iv (0:Int),SV.d (DV.x (.int .u64 (0:Int))),SV.d (DV.x (.int .u64 (0:Int))),SV.d (DV.x (.int .u64 (0:Int))),SV.d (DV.x (.slice none 0 0)),
   iv (0:Int),iv (0:Int),iv (0:Int),iv (0:Int),iv (0:Int),iv (0:Int),iv (0:Int),iv (0:Int),iv (0:Int),iv (0:Int),iv (0:Int),iv (0:Int),iv (0:Int),iv (0:Int),
   SV.d (DV.x (.int .u64 (0:Int)))]),
   some
   (.cells
   [iv (Rel.no r),SV.d (DV.x (.int .u64 (Rel.prev r))),SV.d (DV.x (.int .u64 (Rel.src r))),SV.d (DV.x (.int .u64 (Rel.cir r))),
   SV.row 3 0 0 (k+1) 1,iv (Rel.b0 r),iv (Rel.b1 r),iv (Rel.b2 r),iv (Rel.b3 r),iv (Rel.b4 r),iv (Rel.b5 r),iv (Rel.b6 r),iv (Rel.b7 r),iv (Rel.b8 r),
   iv (Rel.b9 r),iv (Rel.b10 r),iv (Rel.b11 r),iv (Rel.pn r),iv (Rel.pd r),SV.d (DV.x (.int .u64 (Rel.tag r)))]),
   none,
   some
   (.row (k+1) 1 fun a b =>
   selD (decide (a<k)) (DV.x (.int .u64 (v ((0:Nat)+a))))
   (dsAt [DV.x (.int .u64 (IntKind.wrap .u64 (at8 n (fun i=>c i) (w64 ((5:Int)+(↑k:Int))))))] (0+(0+(a-k))*1+b)))]
   4 .nil))))
   (.ret
   (.exit 0,
   AS.mk
   [.ok (SV.d (DV.ro n 1 fun i x=>DV.x (.int .u8 (c i)))),.unk,.ok (SV.ptr 0 0),.ok (SV.ptr 1 0),.ok (iv (↑k:Int)),.unk,.unk,.unk,.unk,
   .unk,.unk,.unk,.unk,.unk,.unk,.unk,.unk,.unk,.unk,.unk,.unk,.unk,.unk,.unk,.unk,.unk,.unk,.unk,.unk,.unk,.unk,.unk,.unk,.unk,.unk,.unk,.unk,
   .unk,.unk,.unk]
   [some
   (.cells
   [iv (0:Int),SV.d (DV.x (.int .u64 (0:Int))),SV.d (DV.x (.int .u64 (0:Int))),SV.d (DV.x (.int .u64 (0:Int))),SV.d (DV.x (.slice none 0 0)),
   iv (0:Int),iv (0:Int),iv (0:Int),iv (0:Int),iv (0:Int),iv (0:Int),iv (0:Int),iv (0:Int),iv (0:Int),iv (0:Int),iv (0:Int),iv (0:Int),iv (0:Int),iv (0:Int),
   SV.d (DV.x (.int .u64 (0:Int)))]),
   some
   (.cells
   [iv (Rel.no r),SV.d (DV.x (.int .u64 (Rel.prev r))),SV.d (DV.x (.int .u64 (Rel.src r))),SV.d (DV.x (.int .u64 (Rel.cir r))),SV.row 3 0 0 k 1,
   iv (Rel.b0 r),iv (Rel.b1 r),iv (Rel.b2 r),iv (Rel.b3 r),iv (Rel.b4 r),iv (Rel.b5 r),iv (Rel.b6 r),iv (Rel.b7 r),iv (Rel.b8 r),iv (Rel.b9 r),iv (Rel.b10 r),iv (Rel.b11 r),iv (Rel.pn r),iv (Rel.pd r),
   SV.d (DV.x (.int .u64 (Rel.tag r)))]),
   none,some (.row k 1 fun i x=>DV.x (.int .u64 (v i)))]
   4 .nil))))
theorem BCt_eq(n:Nat)(c:Nat->Int)(r:Rel)(k:Nat)(v:Nat->Int):cutT 3 rtCt [0,2,3,4] [2] 4 .nil (exec Tryz.prog CP DP 200 bodyCt (invCt n c r k v))=BCt n c r k v:=by kernel_rfl
noncomputable def KCt(n:Nat)(c:Nat->Int)(r:Rel)(k:Nat)(v:Nat->Int):Tree SV :=
  .need (0+k<=k)
  (.ret
   (SV.agg
   [iv (Rel.no r),SV.d (DV.x (.int .u64 (Rel.prev r))),SV.d (DV.x (.int .u64 (Rel.src r))),SV.d (DV.x (.int .u64 (Rel.cir r))),
   SV.d (DV.ro k 1 fun i j=>DV.x (.int .u64 (v ((0:Nat)+i)))),iv (Rel.b0 r),iv (Rel.b1 r),iv (Rel.b2 r),iv (Rel.b3 r),iv (Rel.b4 r),iv (Rel.b5 r),iv (Rel.b6 r),iv (Rel.b7 r),iv (Rel.b8 r),
   iv (Rel.b9 r),iv (Rel.b10 r),iv (Rel.b11 r),iv (Rel.pn r),iv (Rel.pd r),SV.d (DV.x (.int .u64 (Rel.tag r)))]))
theorem KCt_eq(n:Nat)(c:Nat->Int)(r:Rel)(k:Nat)(v:Nat->Int):codeK (sub [0,0,0,0,0,0,0] (tCt n c)) (.exit 0) (invCt n c r k v)=KCt n c r k v:=by kernel_rfl
theorem tmod4{n:Nat}{c:Nat->Int}(hb:Byt n fun i _=>.x (.int .u8 (c i)))(i:Int){m:Int}(hm:0<m):0<=Int.tmod (at8 n c i) m/\Int.tmod (at8 n c i) m<m:=by
 have h:=at8_ro hb i
 have h:0<=at8 n c i/\at8 n c i<256:=h
 rw[Int.tmod_eq_emod_of_nonneg h.1]
 exact⟨Int.emod_nonneg _ (by omega),Int.emod_lt_of_pos _ hm⟩
theorem ct_fn{n:Nat}{c:Nat->Int}(hb:Byt n fun i _=>.x (.int .u8 (c i))):(ctR n c).fn<4:=by
 have:=tmod4 hb 4 (m:=4) (by decide)
 show(Int.tmod (at8 n c 4) 4).toNat<4
 omega
theorem ct_body{n:Nat}{c:Nat->Int}{k:Nat}(hk:k<4)(i:Nat)(hi:i<k+1) :
  selD (decide (i<k)) (DV.x (.int .u64 ((ctR n c).fc i))) (dsAt [DV.x (.int .u64 (IntKind.wrap .u64 (at8 n c (w64 (5+(k:Int))))))] (i-k))=DV.x (.int .u64 ((ctR n c).fc i)):=by
 rw[selD_if]
 by_cases h:i<k
 ·rw[if_pos h]
 ·rw[if_neg h]
  obtain rfl:i=k:=by omega
  rw[Nat.sub_self,w64_of (n:=5+(i:Int)) (by omega) (by omega)]
  rfl
set_option maxHeartbeats 1000000 in
theorem ct_sat{n:Nat}{c:Nat->Int}(hb:Byt n fun i _=>.x (.int .u8 (c i))):Sat Tryz.prog (tCt n c) fun x=>leSV 0 [] [] x (.agg (relL (ctR n c))):=by
 constructor
 rw[LCt4_eq];unfold LCt4
 have a2:0<=at8 n c 2/\at8 n c 2<256:=at8_ro hb 2
 have a3:=tmod4 hb 3 (m:=6) (by decide)
 have i1:I64 (w64 (1+at8 n c 2)):=by rw[w64_of (by omega) (by omega)];exact⟨by omega,by omega⟩
 have i2:I64 (w64 (1+Int.tmod (at8 n c 3) 6)):=by rw[w64_of (by omega) (by omega)];exact⟨by omega,by omega⟩
 refine⟨⟨hb,by decide⟩,⟨hb,by decide⟩,hb,⟨hb,by decide⟩,⟨hb,by decide⟩,by decide,⟨i1,i2⟩,?_⟩
 have hfn:=ct_fn hb
 have a4:=tmod4 hb 4 (m:=4) (by decide)
 have e4:((ctR n c).fn:Int)=Int.tmod (at8 n c 4) 4:=Int.toNat_of_nonneg a4.1
 refine code_satS CP_ok DP_ok (n:=200) (n0:=3) (nx:=4) (roots:=rtCt) (keep:=[0,2,3,4]) (drop:=[2]) (h:=.nil) (c:=codeC (sub [0,0,0,0,0,0,0] (tCt n c))) (st:=codeS (sub [0,0,0,0,0,0,0] (tCt n c))) (k:=codeK (sub [0,0,0,0,0,0,0] (tCt n c))) (body:=bodyCt) (by kernel_rfl) (by kernel_rfl)
  (fun q s=>∃k:Nat,q=(ctR n c).fn-k/\k<=(ctR n c).fn/\s=invCt n c (ctR n c) k (ctR n c).fc)
  (fun e s=>e=.exit 0/\s=invCt n c (ctR n c) (ctR n c).fn (ctR n c).fc)
  ⟨_,_,⟨0,rfl,by omega,rfl⟩,(entA_sound (ECt_eq n c)).trans ?_⟩ ?_ ?_
 ·refine gc_sound [] [3] rfl ?_ ?_
  ·simp[entCt,invCt,leTm,leTV,leSV,leSVs,rn,iv,leD,List.replicate,ro8']
  ·simp[entCt,invCt,leHp,leBlk,leSVs,leSV,rn,iv,leD,srcOf,hget,relLf,zeroL,u64v]
 ·rintro q s ⟨k,rfl,hk,rfl⟩
  refine Sat.of_eq (BCt_eq n c (ctR n c) k _) ?_
  constructor
  unfold BCt
  refine⟨⟨hb,by decide⟩,by decide,fun hc=>?_,fun hc=>?_⟩
  ·have hc:k<(ctR n c).fn:=by simp only[decide_eq_true_eq] at hc;have:(k:Int)<Int.tmod (at8 n c 4) 4:=hc;omega
   have ew:w64 (5+(k:Int))=5+k:=w64_of (by omega) (by omega)
   refine⟨⟨hb,by rw[ew];omega⟩,⟨by omega,by simp,by omega⟩,(ctR n c).fn-(k+1),_,by omega,⟨k+1,rfl,by omega,rfl⟩,?_⟩
   rw[w64_of (n:=(k:Int)+1) (by omega) (by omega)]
   refine gc_sound [(3,3)] [] rfl ?_ ?_
   ·simp[invCt,leTm,leTV,leSV,leSVs,rn,iv,leD,List.replicate,ro8']
   ·simp[invCt,leHp,leBlk,leSVs,leSV,rn,iv,leD,srcOf,hget,relLf,zeroL,u64v]
    intro i hi
    simpa using ct_body (n:=n) (c:=c) (k:=k) (by omega) i (by omega)
  ·have hc:k=(ctR n c).fn:=by
    simp only[decide_eq_false_iff_not] at hc
    have:¬((k:Int)<Int.tmod (at8 n c 4) 4):=hc
    omega
   rw[hc]
   exact⟨_,⟨rfl,rfl⟩,Gc.refl _ _⟩
 ·rintro e s ⟨rfl,rfl⟩
  refine Sat.of_eq (KCt_eq n c (ctR n c) (ctR n c).fn _) ⟨?_⟩
  unfold KCt
  refine⟨by omega,?_⟩
  simp only[Tree.sat,relL,leSV,leSVs,u64v,iv,rou64,and_true]
  simp[leD]
noncomputable def cCt:Ctr:=fun ss=>match ss with
 |[.d d]=>match rowD 1 d with
  |some (n,cell)=>.need (Byt n cell) (.ret (.agg (relL (ctR n (intCell cell)))))
  |none=>.fail
 |_=>.fail
theorem cCt_ok:CtrOK Tryz.prog 11 cCt:=by
 refine ctrOK_leR CP_ok DP_ok (by kernel_rfl) (by kernel_rfl) fun ss r h=>?_
 unfold cCt at h
 split at h
 ·rename_i d
  split at h
  ·rename_i n cell hr
   obtain⟨h1,rfl⟩:=h
   have k:=ct_sat (byt_ro h1)
   refine⟨[.d (.ro n 1 fun i _=>.x (.int .u8 (intCell cell i)))],200,.nil,?_,?_⟩
   ·simp only[leSVs,leSV,and_true]
    exact rowD_le hr (le_ro8 h1)
   ·exact k
  ·exact h.elim
 ·exact h.elim
def zR:Rel:=⟨0,0,0,0,0,fun _=>0,0,0,0,0,0,0,0,0,0,0,0,0,0,0,0⟩
set_option pp.structureInstances false
noncomputable def cCtG(ct:Nat->(Nat->Int)->Rel):Ctr:=fun ss=>match ss with
 |[.d d]=>match rowD 1 d with
  |some (n,cell)=>.need (Byt n cell) (.ret (.agg (relL (ct n (intCell cell)))))
  |none=>.fail
 |_=>.fail
theorem cCtG_ok:CtrOK Tryz.prog 11 (cCtG ctR):=cCt_ok
noncomputable def manQ(ct:Nat->(Nat->Int)->Rel):FuncId->Option Ctr:=fun k=>match k with
 |11=>some (cCtG ct)
 |k=>manP k
theorem manQ_ok(k:Nat)(c:Ctr)(h:manQ ctR k=some c):CtrOK Tryz.prog k c/\goodF Tryz.prog k=true:=by
 unfold manQ at h
 split at h
 ·cases h;exact⟨cCtG_ok,by kernel_rfl⟩
 ·exact manP_ok _ _ h
noncomputable def CQ(ct:Nat->(Nat->Int)->Rel):Ctx:=ctxO Tryz.prog (manQ ct) ownL (fun k=>k==70109) 200 .nil 6
theorem CQ_ok:CtxOK Tryz.prog (CQ ctR):=ctxO_ok mixed manQ_ok ownL_ok 6
noncomputable def DQ(ct:Nat->(Nat->Int)->Rel):Dr:=fun _=>drawn Tryz.prog (CQ ct)
theorem DQ_ok:DrOK Tryz.prog (CQ ctR) (DQ ctR):=drawn_ok CQ_ok mixed
noncomputable def TQ(ct:Nat->(Nat->Int)->Rel)(h:Hint)(k:Nat)(args:List SV):Tree SV:=fnT Tryz.prog (CQ ct) (DQ ct) 200 (fnOf Tryz.prog k) (bodyOf Tryz.prog k) args h
def bbD(m:Nat)(ln:Nat->Nat)(c:Nat->Nat->Nat->DV):DV:=.ro m 1 fun i _=>.ro (ln i) 1 (c i)
noncomputable def tChn(ct:Nat->(Nat->Int)->Rel)(key:Int)(m:Nat)(ln:Nat->Nat)(c:Nat->Nat->Nat->DV):Tree SV:=TQ ct .nil 15 [u64v key,.d (bbD m ln c)]
noncomputable def LChn(ct:Nat->(Nat->Int)->Rel)(key:Int)(m:Nat)(ln:Nat->Nat)(c:Nat->Nat->Nat->DV):Tree SV :=
 .code (codeC (sub [] (tChn ct key m ln c))) (codeS (sub [] (tChn ct key m ln c))) (codeK (sub [] (tChn ct key m ln c)))
theorem LChn_eq(ct:Nat->(Nat->Int)->Rel)(key:Int)(m:Nat)(ln:Nat->Nat)(c:Nat->Nat->Nat->DV):tChn ct key m ln c=LChn ct key m ln c:=by kernel_rfl
noncomputable def inv0Chn(key:Int)(m:Nat)(ln:Nat->Nat)(c:Nat->Nat->Nat->DV):AS:=⟨[.ok (u64v key),.ok (.d (bbD m ln c)),.unk,.unk,.unk,.ok (.row 0 0 0 0 20),.ok (iv 0)]++List.replicate 26 .unk,[some (.cells [])],1,.nil⟩
noncomputable def invChn(key:Int)(m:Nat)(ln:Nat->Nat)(c:Nat->Nat->Nat->DV)(k:Nat)(f:Nat->Rel):AS:=⟨[.ok (u64v key),.ok (.d (bbD m ln c)),.unk,.unk,.unk,.ok (.d (chD k f)),.ok (iv k)]++List.replicate 26 .unk,[none],1,.nil⟩
noncomputable def bodyChn:Code:=loopN (bodyOf Tryz.prog 15) 0
noncomputable def BChn0_q1(ct:Nat->(Nat->Int)->Rel)(ln:Nat->Nat)(c:Nat->Nat->Nat->DV)(i:Nat)(x:Nat):DV :=
 DV.x (.int .u64 (Rel.fc (ct (ln (Int.toNat (0:Int))) (intCell (c (Int.toNat (0:Int))))) i))
noncomputable def BChn0_q2(ln:Nat->Nat)(c:Nat->Nat->Nat->DV)(i:Nat)(x:Nat):DV :=
 DV.ro (ln i) 1 (c i)
noncomputable def BChn0_q4(ct:Nat->(Nat->Int)->Rel)(key:Int)(ln:Nat->Nat)(c:Nat->Nat->Nat->DV)(i:Nat)(j:Nat):DV :=
 relD (nxF key 0 (fun _=>zR) (ct (ln 0) (intCell (c 0))) i) j
noncomputable def BChn0(ct:Nat->(Nat->Int)->Rel)(key:Int)(m:Nat)(ln:Nat->Nat)(c:Nat->Nat->Nat->DV):Tree (Ex×AS) :=
  .ite (decide ((0:Int)<(↑m:Int))&&true)
  (.need ((0:Int)<=(0:Int)/\(0:Int)<(↑m:Int))
   (.need (Byt (ln (Int.toNat (0:Int))) (c (Int.toNat (0:Int))))
   (.need (0<=0)
   (.need (0<=0)
   (.need ((ChC 0 fun i j=>dsAt [] (0+(0+i)*20+j))/\U64C (Rel.fn (ct (ln (Int.toNat (0:Int))) (intCell (c (Int.toNat (0:Int)))))) (BChn0_q1 ct ln c))
   (.ite
   (nxE key 0
   (fun i =>
   Rel.mk (0:Int) (0:Int) (0:Int) (0:Int) 0 (fun x=>(0:Int)) (0:Int) (0:Int) (0:Int) (0:Int) (0:Int) (0:Int) (0:Int) (0:Int) (0:Int) (0:Int) (0:Int) (0:Int) (0:Int) (0:Int)
   (0:Int))
   (ct (ln (Int.toNat (0:Int))) (intCell (c (Int.toNat (0:Int))))) ==
   (0:Int))
   (.ret
   (.normal,
   AS.mk
   [.ok (SV.d (DV.x (.int .u64 key))),.ok (SV.d (DV.ro m 1 (BChn0_q2 ln c))),.unk,.unk,.unk,
   .ok
   (SV.d
   (DV.ro
   (nxN key 0
   (fun i =>
   Rel.mk (0:Int) (0:Int) (0:Int) (0:Int) 0 (fun x=>(0:Int)) (0:Int) (0:Int) (0:Int) (0:Int) (0:Int) (0:Int) (0:Int) (0:Int) (0:Int) (0:Int) (0:Int) (0:Int)
   (0:Int) (0:Int) (0:Int))
   (ct (ln (Int.toNat (0:Int))) (intCell (c (Int.toNat (0:Int))))))
   20 (BChn0_q4 ct key ln c))),
   .ok (iv (1:Int)),.unk,.unk,.unk,.unk,.unk,.unk,.unk,.unk,.unk,.unk,.unk,.unk,.unk,.unk,.unk,.unk,.unk,.unk,.unk,.unk,.unk,.unk,.unk,.unk,
   .unk,.unk]
   [none] 1 .nil))
   (.ret
   (.normal,
   AS.mk
   [.ok (SV.d (DV.x (.int .u64 key))),.ok (SV.d (DV.ro m 1 (BChn0_q2 ln c))),.unk,.unk,.unk,
   .ok (SV.d (DV.ro 0 20 fun i j=>dsAt [] (0+(0+i)*20+j))),.ok (iv (1:Int)),.unk,.unk,.unk,.unk,.unk,.unk,.unk,.unk,.unk,.unk,
   .unk,.unk,.unk,.unk,.unk,.unk,.unk,.unk,.unk,.unk,.unk,.unk,.unk,.unk,.unk,.unk]
   [none] 1 .nil))))))))
  (.ret
   (.exit 0,
   AS.mk
   [.ok (SV.d (DV.x (.int .u64 key))),.ok (SV.d (DV.ro m 1 (BChn0_q2 ln c))),.unk,.unk,.unk,.ok (SV.row 0 0 0 0 20),
   .ok (iv (0:Int)),.unk,.unk,.unk,.unk,.unk,.unk,.unk,.unk,.unk,.unk,.unk,.unk,.unk,.unk,.unk,.unk,.unk,.unk,.unk,.unk,.unk,.unk,.unk,.unk,.unk,.unk]
   [some (.cells [])] 1 .nil))
theorem BChn0_eq(ct:Nat->(Nat->Int)->Rel)(key:Int)(m:Nat)(ln:Nat->Nat)(c:Nat->Nat->Nat->DV):cutT 1 [] [0,1,5,6] [] 1 .nil (exec Tryz.prog (CQ ct) (DQ ct) 200 bodyChn (inv0Chn key m ln c))=BChn0 ct key m ln c:=by kernel_rfl
noncomputable def BChn_q1(f:Nat->Rel)(i:Nat)(j:Nat):DV :=
 relD (f i) j
noncomputable def BChn_q2(ct:Nat->(Nat->Int)->Rel)(ln:Nat->Nat)(c:Nat->Nat->Nat->DV)(k:Nat)(i:Nat)(x:Nat):DV :=
 DV.x (.int .u64 (Rel.fc (ct (ln (Int.toNat (↑k:Int))) (intCell (c (Int.toNat (↑k:Int))))) i))
noncomputable def BChn_q3(ln:Nat->Nat)(c:Nat->Nat->Nat->DV)(i:Nat)(x:Nat):DV :=
 DV.ro (ln i) 1 (c i)
noncomputable def BChn_q4(ct:Nat->(Nat->Int)->Rel)(key:Int)(ln:Nat->Nat)(c:Nat->Nat->Nat->DV)(k:Nat)(f:Nat->Rel)(i:Nat)(j:Nat):DV :=
 relD (nxF key k (fun i=>f i) (ct (ln (Int.toNat (↑k:Int))) (intCell (c (Int.toNat (↑k:Int))))) i) j
noncomputable def BChn(ct:Nat->(Nat->Int)->Rel)(key:Int)(m:Nat)(ln:Nat->Nat)(c:Nat->Nat->Nat->DV)(k:Nat)(f:Nat->Rel):Tree (Ex×AS) :=
  .ite (decide ((↑k:Int)<(↑m:Int))&&decide ((↑k:Int)<(6:Int)))
  (.need ((0:Int)<=(↑k:Int)/\(↑k:Int)<(↑m:Int))
   (.need (Byt (ln (Int.toNat (↑k:Int))) (c (Int.toNat (↑k:Int))))
   (.need (ChC k (BChn_q1 f)/\U64C (Rel.fn (ct (ln (Int.toNat (↑k:Int))) (intCell (c (Int.toNat (↑k:Int)))))) (BChn_q2 ct ln c k))
   (.ite (nxE key k (fun i=>f i) (ct (ln (Int.toNat (↑k:Int))) (intCell (c (Int.toNat (↑k:Int)))))==(0:Int))
   (.ret
   (.normal,
   AS.mk
   [.ok (SV.d (DV.x (.int .u64 key))),.ok (SV.d (DV.ro m 1 (BChn_q3 ln c))),.unk,.unk,.unk,
   .ok (SV.d (DV.ro (nxN key k (fun i=>f i) (ct (ln (Int.toNat (↑k:Int))) (intCell (c (Int.toNat (↑k:Int)))))) 20 (BChn_q4 ct key ln c k f))),.ok (iv (w64 ((↑k:Int)+(1:Int)))),.unk,
   .unk,.unk,.unk,.unk,.unk,.unk,.unk,.unk,.unk,.unk,.unk,.unk,.unk,.unk,.unk,.unk,.unk,.unk,.unk,.unk,.unk,.unk,.unk,.unk,.unk]
   [none] 1 .nil))
   (.ret
   (.normal,
   AS.mk
   [.ok (SV.d (DV.x (.int .u64 key))),.ok (SV.d (DV.ro m 1 (BChn_q3 ln c))),.unk,.unk,.unk,.ok (SV.d (DV.ro k 20 (BChn_q1 f))),
   .ok (iv (w64 ((↑k:Int)+(1:Int)))),.unk,.unk,.unk,.unk,.unk,.unk,.unk,.unk,.unk,.unk,.unk,.unk,.unk,.unk,.unk,.unk,.unk,.unk,.unk,.unk,.unk,.unk,
   .unk,.unk,.unk,.unk]
   [none] 1 .nil))))))
  (.ret
   (.exit 0,
   AS.mk
   [.ok (SV.d (DV.x (.int .u64 key))),.ok (SV.d (DV.ro m 1 (BChn_q3 ln c))),.unk,.unk,.unk,.ok (SV.d (DV.ro k 20 (BChn_q1 f))),.ok (iv (↑k:Int)),.unk,
   .unk,.unk,.unk,.unk,.unk,.unk,.unk,.unk,.unk,.unk,.unk,.unk,.unk,.unk,.unk,.unk,.unk,.unk,.unk,.unk,.unk,.unk,.unk,.unk,.unk]
   [none] 1 .nil))
theorem BChn_eq(ct:Nat->(Nat->Int)->Rel)(key:Int)(m:Nat)(ln:Nat->Nat)(c:Nat->Nat->Nat->DV)(k:Nat)(f:Nat->Rel):cutT 1 [] [0,1,5,6] [] 1 .nil (exec Tryz.prog (CQ ct) (DQ ct) 200 bodyChn (invChn key m ln c k f))=BChn ct key m ln c k f:=by kernel_rfl
noncomputable def KChn0(ct:Nat->(Nat->Int)->Rel)(key:Int)(m:Nat)(ln:Nat->Nat)(c:Nat->Nat->Nat->DV):Tree SV :=
 .need (0<=0) (.ret (SV.d (DV.ro 0 20 fun i j=>dsAt [] (0+(0+i)*20+j))))
theorem KChn0_eq(ct:Nat->(Nat->Int)->Rel)(key:Int)(m:Nat)(ln:Nat->Nat)(c:Nat->Nat->Nat->DV):codeK (sub [] (tChn ct key m ln c)) (.exit 0) (inv0Chn key m ln c)=KChn0 ct key m ln c:=by kernel_rfl
noncomputable def KChn(ct:Nat->(Nat->Int)->Rel)(key:Int)(m:Nat)(ln:Nat->Nat)(c:Nat->Nat->Nat->DV)(k:Nat)(f:Nat->Rel):Tree SV :=
 .ret (SV.d (DV.ro k 20 fun i j=>relD (f i) j))
theorem KChn_eq(ct:Nat->(Nat->Int)->Rel)(key:Int)(m:Nat)(ln:Nat->Nat)(c:Nat->Nat->Nat->DV)(k:Nat)(f:Nat->Rel):codeK (sub [] (tChn ct key m ln c)) (.exit 0) (invChn key m ln c k f)=KChn ct key m ln c k f:=by kernel_rfl
theorem ratOf_pos{n d:Int}(hn:1<=n)(hd:1<=d):0<(ratOf n d).num:=by
 rw[(ratOf_red (n:=n) (d:=d) (by omega) rfl).1]
 have h1:0<n.natAbs.gcd d.toNat:=Nat.gcd_pos_of_pos_left _ (by omega)
 have h2:n.natAbs.gcd d.toNat<=n.natAbs:=Nat.gcd_le_left _ (by omega)
 rw[Int.tdiv_eq_ediv_of_nonneg (by omega)]
 exact Int.ediv_pos_of_pos_of_dvd hn (by omega) (Int.ofNat_dvd_left.2 (Nat.gcd_dvd_left _ _))
theorem ct_per{n:Nat}{cell:Nat->Nat->DV}(hb:Byt n cell):mdQ (w64 (1+at8 n (intCell cell) 2)) (w64 (1+Int.tmod (at8 n (intCell cell) 3) 6))=ratOf (1+at8 n (intCell cell) 2) (1+at8 n (intCell cell) 3%6)/\fitsR (ratOf (1+at8 n (intCell cell) 2) (1+at8 n (intCell cell) 3%6))/\Sm 60 256 (ratOf (1+at8 n (intCell cell) 2) (1+at8 n (intCell cell) 3%6)):=by
 have a2:=at8_b hb 2
 have a3:=at8_b hb 3
 have e3:Int.tmod (at8 n (intCell cell) 3) 6=at8 n (intCell cell) 3%6:=Int.tmod_eq_emod_of_nonneg a3.1
 rw[e3,w64_of (by omega) (by omega),w64_of (by omega) (by omega)]
 have hs:Sm 60 256 (ratOf (1+at8 n (intCell cell) 2) (1+at8 n (intCell cell) 3%6)):=by
  refine Sm.ratOf (by omega) (by decide) (dvd60 a3.1) ?_
  have:1<=(1+at8 n (intCell cell) 3%6).toNat:=by omega
  omega
 have hf:=hs.fits (by decide) (by decide)
 have eq:qR (1+at8 n (intCell cell) 2) (1+at8 n (intCell cell) 3%6)=ratOf (1+at8 n (intCell cell) 2) (1+at8 n (intCell cell) 3%6):=by
  unfold qR;rw[if_neg (by omega)]
 rw[mdQ_of (by omega) (by rw[eq];exact hf),eq]
 exact⟨rfl,hf,hs⟩
theorem viB_lo{n:Nat}{cell:Nat->Nat->DV}(hb:Byt n cell)(j:Nat):viB (loQ n (intCell cell) j).num (loQ n (intCell cell) j).den (hiQ n (intCell cell) j).num (hiQ n (intCell cell) j).den=true:=by
 unfold viB
 simp only[Bool.and_eq_true,decide_eq_true_eq,vB_iff,ratOf_rat]
 exact⟨⟨VF.of ((loQ_sm hb j).fits (by decide) (by decide)),VF.of ((hiQ_sm hb j).fits (by decide) (by decide))⟩,loQ_le j⟩
theorem ct_vd{n:Nat}{cell:Nat->Nat->DV}(hb:Byt n cell):vdB (ctR n (intCell cell))=true:=by
 have h4:=ct_fn (byt_ro hb)
 obtain⟨e1,e2,e3⟩:=ct_per hb
 have a2:=at8_b hb 2
 have a3:=at8_b hb 3
 unfold vdB cdB
 simp only[Bool.and_eq_true,decide_eq_true_eq]
 refine⟨⟨⟨⟨⟨viB_lo hb 0,viB_lo hb 1⟩,viB_lo hb 2⟩,?_⟩,?_⟩,?_⟩
 ·show vB (mdQ _ _).num (mdQ _ _).den=true
  rw[e1,vB_iff];exact VF.of e2
 ·show(mdQ _ _).num>0
  rw[e1];exact ratOf_pos (by omega) (by omega)
 ·have h4:(ctR n (intCell cell)).fn<4:=h4
  omega
noncomputable def mkR(key:Int)(c:Nat->Rel):Nat->Rel
 |0=>newR key 0 (fun _=>zR) (c 0)
 |k+1=>newR key (k+1) (fun _=>mkR key c k) (c (k+1))
theorem mkR_new(key:Int)(c:Nat->Rel):∀k,mkR key c k=newR key k (mkR key c) (c k)
 |0=>rfl
 |k+1=>by
  rw[mkR]
  unfold newR bR
  rfl
theorem newR_dig{key:Int}{n:Nat}{f:Nat->Rel}{r:Rel}:dig (newR key n f r)=dig (bR n f r):=rfl
theorem newR_good{key:Int}{k:Nat}{f:Nat->Rel}{r:Rel}(h:f k=newR key k f r)(hv:vdB r=true):goodR key f k=true:=by
 unfold goodR
 rw[h]
 have h1:vdB (newR key k f r)=vdB r:=rfl
 rw[h1,hv,newR_dig]
 simp[newR,bR]
theorem mkR_ck{key:Int}{c:Nat->Rel}{n:Nat}(hn:n<=200)(hv:∀k,k<n->vdB (c k)=true):ckV key n (mkR key c)=0:=by
 have:ckB key (mkR key c) n=true:=ckB_iff.2 fun k hk=>newR_good (mkR_new key c k) (hv k hk)
 unfold ckV
 rw[if_neg (by simp only[decide_eq_true_eq];omega),this]
 rfl
theorem nxE_ok{key:Int}{n:Nat}{f:Nat->Rel}{r:Rel}(h1:ckV key n f=0)(h2:n<200)(h3:vdB r=true):nxE key n f r=0:=by
 unfold nxE
 rw[h1,h3]
 have:decide ((n:Int)>=200)=false:=by simp only[decide_eq_false_iff_not];omega
 rw[this];rfl
theorem ckV_0{key:Int}{f:Nat->Rel}:ckV key 0 f=0:=rfl
theorem nxN_ok{key:Int}{n:Nat}{f:Nat->Rel}{r:Rel}(h:nxE key n f r=0):nxN key n f r=n+1:=by unfold nxN;rw[h];rfl
theorem nxF_lt{key:Int}{n:Nat}{f:Nat->Rel}{r:Rel}{i:Nat}(h:i<n):nxF key n f r i=f i:=by unfold nxF;simp[h]
theorem nxF_eq{key:Int}{n:Nat}{f:Nat->Rel}{r:Rel}:nxF key n f r n=newR key n f r:=by unfold nxF;simp
def BB(m:Nat)(ln:Nat->Nat)(c:Nat->Nat->Nat->DV):Prop:=m<=9223372036854775807/\∀i,i<m->Byt (ln i) (c i)
noncomputable def ctC(ln:Nat->Nat)(c:Nat->Nat->Nat->DV):Nat->Rel:=fun i=>ctR (ln i) (intCell (c i))
theorem mkR_fn{key:Int}{c:Nat->Rel}{k:Nat}:(mkR key c k).fn=(c k).fn:=by rw[mkR_new];rfl
theorem ctC_fn{m:Nat}{ln:Nat->Nat}{c:Nat->Nat->Nat->DV}(hb:BB m ln c){k:Nat}(hk:k<m):(ctC ln c k).fn<4:=ct_fn (byt_ro (hb.2 k hk))
set_option maxHeartbeats 1000000 in
theorem chn_sat{key:Int}{m:Nat}{ln:Nat->Nat}{c:Nat->Nat->Nat->DV}(hb:BB m ln c):Sat Tryz.prog (tChn ctR key m ln c) fun x=>leSV 0 [] [] x (.d (chD (min m 6) (mkR key (ctC ln c)))):=by
 constructor
 rw[LChn_eq];unfold LChn
 refine code_satS CQ_ok DQ_ok (n:=200) (n0:=1) (nx:=1) (roots:=[]) (keep:=[0,1,5,6]) (drop:=[]) (h:=.nil) (c:=codeC (sub [] (tChn ctR key m ln c))) (st:=codeS (sub [] (tChn ctR key m ln c))) (k:=codeK (sub [] (tChn ctR key m ln c))) (body:=bodyChn) (by kernel_rfl) (by kernel_rfl)
  (fun q s=>(q=min m 6/\s=inv0Chn key m ln c)\/∃k:Nat,q=min m 6-k/\1<=k/\k<=min m 6/\s=invChn key m ln c k (mkR key (ctC ln c)))
  (fun e s=>e=.exit 0/\((min m 6=0/\s=inv0Chn key m ln c)\/s=invChn key m ln c (min m 6) (mkR key (ctC ln c))))
  ⟨_,_,.inl ⟨rfl,rfl⟩,?_⟩ ?_ ?_
 ·exact entA_sound (roots:=[]) (keep:=[0,1,5,6]) (drop:=[]) (nx:=1) (h:=.nil) (by kernel_rfl)
 ·rintro q s (⟨rfl,rfl⟩|⟨k,rfl,hk1,hk,rfl⟩)
  ·refine Sat.of_eq (BChn0_eq ctR key m ln c) ?_
   constructor
   unfold BChn0
   refine⟨fun hc=>?_,fun hc=>?_⟩
   ·have hm:0<m:=by simp at hc;omega
    have hbk:=hb.2 0 hm
    have hv:vdB (ctC ln c 0)=true:=ct_vd hbk
    refine⟨by omega,hbk,by omega,by omega,⟨⟨by omega,fun i hi=>by omega⟩,U64C.self (by have:=ctC_fn hb hm;exact Nat.le_of_lt (Nat.lt_trans this (by decide)))⟩,fun h=>?_,fun h=>?_⟩
    ·refine⟨min m 6-1,_,by omega,.inr ⟨1,rfl,by omega,by omega,rfl⟩,?_⟩
     refine gc_sound [] [] rfl ?_ ?_
     ·have hN:=nxN_ok (nxE_ok (key:=key) (n:=0) (f:=fun i=>zR) (r:=ctC ln c 0) ckV_0 (by decide) hv)
      have hle:leD (.ro (nxN key 0 (fun i=>zR) (ctC ln c 0)) 20 (BChn0_q4 ctR key ln c)) (chD 1 (mkR key (ctC ln c))):=by
       rw[hN]
       refine⟨rfl,rfl,fun i j hi hj=>?_⟩
       obtain rfl:i=0:=by omega
       rfl
      have hbb:leD (.ro m 1 (BChn0_q2 ln c)) (bbD m ln c):=⟨rfl,rfl,fun i j hi hj=>rfl⟩
      simp[invChn,leTm,leTV,leSV,leSVs,rn,iv,List.replicate,u64v]
      refine⟨by simp[leD],hbb,hle,by simp[leD]⟩
     ·simp[invChn,leHp]
    ·exfalso
     have:=nxE_ok (key:=key) (n:=0) (f:=fun i=>zR) (r:=ctC ln c 0) ckV_0 (by decide) hv
     have h2:(nxE key 0 (fun i=>zR) (ctC ln c 0)==0)=false:=h
     rw[this] at h2
     exact absurd h2 (by decide)
   ·have hc:m=0:=by simp at hc;omega
    exact⟨_,⟨rfl,.inl ⟨by omega,rfl⟩⟩,Gc.refl _ _⟩
  ·refine Sat.of_eq (BChn_eq ctR key m ln c k _) ?_
   constructor
   unfold BChn
   simp only[Int.toNat_natCast]
   refine⟨fun hc=>?_,fun hc=>?_⟩
   ·have hc:k<m/\k<6:=by simp at hc;omega
    have hbk:=hb.2 k hc.1
    have hv:vdB (ctC ln c k)=true:=ct_vd hbk
    have hck:ckV key k (mkR key (ctC ln c))=0:=mkR_ck (by omega) fun i hi=>ct_vd (hb.2 i (by omega))
    have hE:=nxE_ok hck (by omega) hv
    have hfn:∀i,i<k->(mkR key (ctC ln c) i).fn<=1000000:=fun i hi=>by
     rw[mkR_fn];have:=ctC_fn hb (k:=i) (by omega);omega
    refine⟨by omega,hbk,⟨ChC.self (by omega) hfn,U64C.self (by have:=ctC_fn hb hc.1;exact Nat.le_of_lt (Nat.lt_trans this (by decide)))⟩,fun h=>?_,fun h=>?_⟩
    ·refine⟨min m 6-(k+1),_,by omega,.inr ⟨k+1,rfl,by omega,by omega,rfl⟩,?_⟩
     rw[w64_of (n:=(k:Int)+1) (by omega) (by omega)]
     refine gc_sound [] [] rfl ?_ ?_
     ·have hle:leD (.ro (nxN key k (mkR key (ctC ln c)) (ctC ln c k)) 20 (BChn_q4 ctR key ln c k (mkR key (ctC ln c)))) (chD (k+1) (mkR key (ctC ln c))):=by
       rw[nxN_ok hE]
       refine⟨rfl,rfl,fun i j hi hj=>?_⟩
       show relD (nxF key k (mkR key (ctC ln c)) (ctC ln c (Int.toNat k)) i) j=_
       rw[Int.toNat_natCast]
       by_cases hik:i<k
       ·rw[nxF_lt hik]
       ·obtain rfl:i=k:=by omega
        rw[nxF_eq,<- mkR_new]
      have hbb:leD (.ro m 1 (BChn_q3 ln c)) (bbD m ln c):=⟨rfl,rfl,fun i j hi hj=>rfl⟩
      simp[invChn,leTm,leTV,leSV,leSVs,rn,iv,List.replicate,u64v]
      refine⟨by simp[leD],hbb,hle,by simp[leD]⟩
     ·simp[invChn,leHp]
    ·exfalso
     have h2:(nxE key k (mkR key (ctC ln c)) (ctC ln c k)==0)=false:=h
     rw[hE] at h2
     exact absurd h2 (by decide)
   ·have hc:k=min m 6:=by simp at hc;omega
    subst hc
    exact⟨_,⟨rfl,.inr rfl⟩,Gc.refl _ _⟩
 ·rintro e s ⟨rfl,⟨h,rfl⟩|rfl⟩
  ·refine Sat.of_eq (KChn0_eq ctR key m ln c) ⟨?_⟩
   rw[h]
   exact⟨by omega,rfl,rfl,fun i j hi=>absurd hi (by omega)⟩
  ·refine Sat.of_eq (KChn_eq ctR key m ln c _ _) ⟨?_⟩
   exact⟨rfl,rfl,fun i j _ _=>rfl⟩
set_option pp.structureInstances false
def roC:DV->Nat->Nat->DV
 |.ro _ _ c=>c
 |_=>fun _ _=>.x undef
def BBd(m:Nat)(cell:Nat->Nat->DV):Prop:=m<=9223372036854775807/\∀i,i<m->∃n c,cell i 0=.ro n 1 c/\Byt n c
noncomputable def FM(key:Int)(m:Nat)(cell:Nat->Nat->DV):Nat->Rel:=mkR key (ctC (fun i=>frN (cell i 0)) fun i=>roC (cell i 0))
abbrev FT:=Int->Nat->(Nat->Nat->DV)->Nat->Rel
noncomputable def cMkG(F:FT):Ctr:=fun ss=>match ss with
 |[.d (.x (.int .u64 key)),.d (.ro m 1 cell)]=>.need (BBd m cell) (.ret (.d (chD (min m 6) (F key m cell))))
 |_=>.fail
theorem cMkG_ok:CtrOK Tryz.prog 15 (cMkG FM):=by
 refine ctrOK_leR CQ_ok DQ_ok (by kernel_rfl) (by kernel_rfl) fun ss r h=>?_
 unfold cMkG at h
 split at h
 ·rename_i key m cell
  obtain⟨h1,rfl⟩:=h
  have hb:BB m (fun i=>frN (cell i 0)) (fun i=>roC (cell i 0)):=⟨h1.1,fun i hi=>by
   obtain⟨n,c,e,hb⟩:=h1.2 i hi
   simp only[e];exact hb⟩
  have k:=chn_sat (key:=key) hb
  refine⟨[u64v key,.d (bbD m (fun i=>frN (cell i 0)) (fun i=>roC (cell i 0)))],200,.nil,?_,?_⟩
  ·simp only[leSVs,leSV,u64v,and_true]
   refine⟨by simp[leD],rfl,rfl,fun i j hi hj=>?_⟩
   obtain rfl:j=0:=by omega
   obtain⟨n,c,e,hb⟩:=h1.2 i hi
   simp only[e];rfl
  ·exact k
 ·exact h.elim
set_option pp.structureInstances false
noncomputable def nilV:SV:=.d (.x (.slice none 0 0))
noncomputable def CEc:Ctx:=ctxO Tryz.prog (manQ ctR) ownL (fun k=>k==42||k==78) 200 .run 12
noncomputable def LCi0 :Tr SV :=
  Tr.need (True/\1<=1/\8<=140737488355328)
  (Tr.need (1<=1/\1<=1/\16<=140737488355328)
   (Tr.need (2<=2)
   (Tr.need
   (I64C 2 fun i j=>selD (decide (0+i<1)) (DV.x (.int .i64 (0:Int))) (dsAt [DV.x (.int .i64 (0:Int))] (0+(0+(0+i-1))*1+j)))
   (Tr.ret (SV.d (DV.x (.int .u64 (6496484108755115417:Int))))))))
theorem LCi0_eq :autoC Tryz.prog CEc 200 13 .run [.agg [nilV,nilV]]=LCi0 :=by kernel_rfl
noncomputable def cSpn:Ctr:=fun ss=>match ss with
 |[.d (.x (.int .i64 a)),.d (.x (.int .i64 b))]=>.ret (.agg [iv a,iv 1,iv b,iv 1])
 |_=>.fail
theorem CEc_ok:CtxOK Tryz.prog CEc:=ctxO_ok mixed manQ_ok ownL_ok 12
noncomputable def cCi0:Ctr:=fun ss=>match ss with
 |[.agg [.d (.x (.slice none 0 0)),.d (.x (.slice none 0 0))]]=>.ret (u64v 6496484108755115417)
 |_=>.fail
theorem cCi0_ok:CtrOK Tryz.prog 13 cCi0:=(autoC_ok CEc_ok mixed 200 13 .run).mono fun ss r h=>by
 unfold cCi0 at h
 split at h
 ·simp only[Tr.ev] at h;subst h
  rw[show autoC Tryz.prog CEc 200 13 .run [.agg [.d (.x (.slice none 0 0)),.d (.x (.slice none 0 0))]]=LCi0 from LCi0_eq]
  unfold LCi0
  refine⟨⟨trivial,by decide,by decide⟩,⟨by decide,by decide,by decide⟩,by decide,⟨by decide,fun i hi=>?_⟩,rfl⟩
  match i,hi with
  |0,_=>rfl
  |1,_=>rfl
  |k+2,h=>exact absurd h (by omega)
 ·exact h.elim
end Go.Proofs.YtanlnopgadbpjaaGreat
namespace Go.Sx
variable [Globs]
theorem CtrOK.leA{P:Program}{k:FuncId}{c d:Ctr}(h:CtrOK P k c)(hd:∀ss r,(d ss).ev r->∃ss',leSVs 0 [] [] ss ss'/\(c ss').ev r):CtrOK P k d:=by
 intro ss vs w F r hF hgl hr he
 obtain⟨ss',hle,h1⟩:=hd ss r he
 obtain⟨g1,g2⟩:=leSVs_get hle
 have hemp:muOf 0 [] [] emp=emp:=by funext l;simp[muOf,emp]
 refine h ss' vs w F r hF hgl ⟨by rw[<- g1];exact hr.1,fun i hi=>?_⟩ h1
 have:=leSV_sound (next:=0) (hp:=[]) (n0:=0) (ρ:=[]) (nils:=[]) rfl (hr.2 i (by omega)) (g2 i (by omega))
 rwa[hemp] at this
end Go.Sx
namespace Go.Proofs.YtanlnopgadbpjaaGreat.Rw
open Go.Proofs.YtanlnopgadbpjaaGreat.Rm
open Go.Sx
noncomputable def man28:FuncId->Option Ctr:=fun k=>match k with
 |64=>some c64
 |65=>some c65
 |_=>none
theorem man28_ok(k:Nat)(c:Ctr)(hk:man28 k=some c):CtrOK Tryz.prog k c/\goodF Tryz.prog k=true:=by
 unfold man28 at hk
 split at hk
 ·cases hk;exact⟨c64_ok,by kernel_rfl⟩
 ·cases hk;exact⟨c65_ok,by kernel_rfl⟩
 ·cases hk
noncomputable def C28:Ctx:=ctxN Tryz.prog man28 (fun _=>false) 200 .nil 6
theorem C28_ok:CtxOK Tryz.prog C28:=ctxN_ok mixed man28_ok 6
noncomputable def D28:Dr:=drawnL Tryz.prog C28
theorem D28_ok:DrOK Tryz.prog C28 D28:=drawnL_ok C28_ok mixed
structure RsT where
 a:Int
 p:Int
 s:Int
 cir:Int
 n:Nat
 d:Nat->Int
 b:Nat->Int
 t:Int
noncomputable def rsL(r:RsT):List SV:=[iv r.a,u64v r.p,u64v r.s,u64v r.cir,ruV r.n r.d,iv (r.b 0),iv (r.b 1),iv (r.b 2),iv (r.b 3),iv (r.b 4),iv (r.b 5),iv (r.b 6),iv (r.b 7),iv (r.b 8),iv (r.b 9),iv (r.b 10),iv (r.b 11),iv (r.b 12),iv (r.b 13),u64v r.t]
noncomputable def rsL'(r:RsT)(D:Nat->Nat->Sx.DV):List SV:=[iv r.a,u64v r.p,u64v r.s,u64v r.cir,.d (.ro r.n 1 D),iv (r.b 0),iv (r.b 1),iv (r.b 2),iv (r.b 3),iv (r.b 4),iv (r.b 5),iv (r.b 6),iv (r.b 7),iv (r.b 8),iv (r.b 9),iv (r.b 10),iv (r.b 11),iv (r.b 12),iv (r.b 13),u64v r.t]
section
variable (r : RsT) (n : Nat) (x : Nat → FsT)
noncomputable def t28:Tree SV:=fnT Tryz.prog C28 D28 200 (fnOf Tryz.prog 28) (bodyOf Tryz.prog 28) [.agg (rsL r),.agg [nilS,nilS],ssS n x] .nil
noncomputable def st28(i:Int):AS:=⟨slN 38 [(2,ssS n x),(3,.ptr 0 0),(6,bv false),(7,iv i)],some (.cells (rsL r))::List.replicate 14 none,15,.nil⟩
noncomputable def b28(i:Int):Tree (Ex×AS):=cutT 15 [] [2,3,6,7] [1,2,3,4,5,6,7,8,9,10,11,12,13,14] 15 .nil (exec Tryz.prog C28 D28 200 (loopN (bodyOf Tryz.prog 28) 0) (st28 r n x i))
theorem L28_eq:t28 r n x=.ite (r.cir != dgL [0,0]||(r.n:Int) != n) (.ret (bv false)) (atCode (sub [1] (t28 r n x))):=by kernel_rfl
theorem E28_eq:entA 15 [] [2,3,6,7] [1,2,3,4,5,6,7,8,9,10,11,12,13,14] 15 .nil (sub [1] (t28 r n x))=some (st28 r n x 0):=by kernel_rfl
theorem B28_eq(i:Int):b28 r n x i=.ite (decide (i<(n:Int))) (.need (0<=i/\i<(r.n:Int)) (.need (0<=i/\i<(n:Int)) (.need (FrD (x i.toNat).n fun a b=>fmC ((x i.toNat).f a) b) (.ite (r.d i.toNat != fmV (x i.toNat).n fun a b=>fmC ((x i.toNat).f a) b) (.ret (.ret,st28 r n x i)) (.ret (.normal,st28 r n x (w64 (i+1)))))))) (.ret (.exit 0,st28 r n x i)):=by kernel_rfl
theorem K28_eq(i:Int):codeK (sub [1] (t28 r n x)) (.exit 0) (st28 r n x i)=.ret (bv true):=by kernel_rfl
theorem R28_eq(i:Int):codeK (sub [1] (t28 r n x)) .ret (st28 r n x i)=.ret (bv false):=by kernel_rfl
end
theorem s28{r:RsT}{n:Nat}{x:Nat->FsT}(hn:n<=1000000000)(hx:∀i,i<n->FsOK (x i)):Sat Tryz.prog (t28 r n x) (·=bv (r.cir==dgL [0,0]&&eqS r.n r.d n x)):=by
 refine Sat.of_eq (L28_eq r n x) ⟨fun h=>?_,fun h=>?_⟩
 ·show bv false=bv _
  congr 1
  rw[Bool.or_eq_true] at h
  rcases h with h|h
  ·rw[bne_iff_ne] at h
   rw[beq_false_of_ne h,Bool.false_and]
  ·rw[bne_iff_ne] at h
   unfold eqS
   rw[decide_eq_false (fun h2=>h (by rw[h2.1])),Bool.and_false]
 rw[Bool.or_eq_false_iff,bne_eq_false_iff_eq,bne_eq_false_iff_eq] at h
 obtain⟨h1,h2⟩:=h
 rw[h1,beq_self_eq_true,Bool.true_and]
 have h2:r.n=n:=by omega
 refine for_satS C28_ok D28_ok (n:=200) (n0:=15) (nx:=15) (roots:=[]) (keep:=[2,3,6,7]) (drop:=[1,2,3,4,5,6,7,8,9,10,11,12,13,14]) (h:=.nil) (body:=loopN (bodyOf Tryz.prog 28) 0) (by kernel_rfl) (by kernel_rfl) n (fun i=>st28 r n x i) (fun i=>∀k,k<i->r.d k=fsV (x k))
  (fun e t=>(e=.exit 0/\t=st28 r n x n/\eqS r.n r.d n x=true)\/(e=.ret/\(∃i:Nat,t=st28 r n x i)/\eqS r.n r.d n x=false)) (fun k hk=>absurd hk (Nat.not_lt_zero _)) (entA_sound (E28_eq r n x)) ?_ ?_ ?_
 ·intro i hi hk
  have hok:=hx i hi
  refine Sat.of_eq (B28_eq r n x i) ⟨fun _=>⟨by omega,by omega,⟨hok.n,fun k hk=>⟨hok.w k hk,rfl⟩⟩,fun h=>.inr ⟨nofun,.inr ⟨rfl,⟨i,rfl⟩,?_⟩⟩,fun h=>.inl ⟨rfl,?_,?_⟩⟩,fun h1=>by simp only[decide_eq_false_iff_not] at h1;omega⟩
  ·rw[Int.toNat_natCast,bne_iff_ne] at h
   unfold eqS
   exact decide_eq_false fun h3=>h (h3.2 i (by omega))
  ·rw[Int.toNat_natCast,bne_eq_false_iff_eq] at h
   intro k hk2
   by_cases hki:k=i
   ·subst hki;exact h
   ·exact hk k (by omega)
  ·rw[w64_succ hi (by omega)];exact Gc.refl _ _
 ·intro hk
  refine Sat.of_eq (B28_eq r n x n) ⟨fun h1=>by simp only[decide_eq_true_eq] at h1;omega,fun _=>⟨nofun,.inl ⟨rfl,rfl,?_⟩⟩⟩
  unfold eqS
  exact decide_eq_true ⟨h2,fun i hi=>hk i (by omega)⟩
 ·rintro e t (⟨rfl,rfl,h3⟩|⟨rfl,⟨i,rfl⟩,h3⟩)
  ·exact Sat.of_eq (K28_eq r n x n) ⟨by rw[h3];rfl⟩
  ·exact Sat.of_eq (R28_eq r n x i) ⟨by rw[h3];rfl⟩
noncomputable def mtE(cir:Int)(n:Nat)(D:Nat->Nat->Sx.DV)(m:Nat)(F:Nat->Nat->Sx.DV):Bool:=cir==dgL [0,0]&&eqFs n D m F
noncomputable def c28:Ctr:=fun ss=>match ss with
 |[.agg [.d (.x (.int .i64 no)),.d (.x (.int .u64 prev)),.d (.x (.int .u64 src)),.d (.x (.int .u64 cir)),.d (.ro n 1 D),.d (.x (.int .i64 b0)),.d (.x (.int .i64 b1)),.d (.x (.int .i64 b2)),.d (.x (.int .i64 b3)),.d (.x (.int .i64 b4)),.d (.x (.int .i64 b5)),.d (.x (.int .i64 b6)),.d (.x (.int .i64 b7)),.d (.x (.int .i64 b8)),.d (.x (.int .i64 b9)),.d (.x (.int .i64 b10)),.d (.x (.int .i64 b11)),.d (.x (.int .i64 pn)),.d (.x (.int .i64 pd)),.d (.x (.int .u64 tag))],
   .agg [.d (.x (.slice none 0 0)),.d (.x (.slice none 0 0))],.d (.ro m 1 F)]=>.need (UrD n D/\m<=1000000000/\SsD m F) (.ret (bv (mtE cir n D m F)))
 |_=>.fail
def b14(l:List Int)(k:Nat):Int:=l.getD k 0
theorem c28_ok:CtrOK Tryz.prog 28 c28:=ctrOK_leS C28_ok D28_ok (by kernel_rfl) (by kernel_rfl) fun ss r h=>by
 unfold c28 at h
 split at h
 ·rename_i no prev src cir n D b0 b1 b2 b3 b4 b5 b6 b7 b8 b9 b10 b11 pn pd tag m F
  obtain⟨⟨h1,h2,h3⟩,rfl⟩:=h
  refine⟨[.agg (rsL ⟨no,prev,src,cir,n,fun i=>numV (D i 0),b14 [b0,b1,b2,b3,b4,b5,b6,b7,b8,b9,b10,b11,pn,pd],tag⟩),.agg [nilS,nilS],ssS m fun i=>fsOf (F i)],200,.nil,?_,s28 (r:=⟨no,prev,src,cir,n,fun i=>numV (D i 0),b14 [b0,b1,b2,b3,b4,b5,b6,b7,b8,b9,b10,b11,pn,pd],tag⟩) h2 fun i hi=>(h3 i hi).1⟩
  have a1:leSV 0 [] [] (.d (.ro n 1 D)) (ruV n fun i=>numV (D i 0)):=⟨rfl,rfl,fun i j hi hj=>by
   obtain rfl:j=0:=by omega
   exact h1.2 i hi⟩
  have a2:leSV 0 [] [] (.d (.ro m 1 F)) (ssS m fun i=>fsOf (F i)):=⟨rfl,rfl,fun i j hi hj=>by
   obtain rfl:j=0:=by omega
   exact(h3 i hi).2⟩
  have a3:leSV 0 [] [] (.agg [.d (.x (.slice none 0 0)),.d (.x (.slice none 0 0))]) (.agg [nilS,nilS]):=by
   unfold nilS
   simp only[leSV,leSVs,leD,and_true]
  unfold rsL
  simp only[leSVs,and_true]
  refine⟨?_,a3,a2⟩
  simp only[leSV,leSVs,and_true]
  exact⟨rfl,rfl,rfl,rfl,a1,rfl,rfl,rfl,rfl,rfl,rfl,rfl,rfl,rfl,rfl,rfl,rfl,rfl,rfl,rfl⟩
 ·exact h.elim
theorem dg00:dgL [0,0]=6496484108755115417:=by decide +kernel
noncomputable def man27:FuncId->Option Ctr:=fun k=>match k with
 |13=>some cCi0
 |62=>some cEq
 |_=>none
theorem man27_ok(k:Nat)(c:Ctr)(hk:man27 k=some c):CtrOK Tryz.prog k c/\goodF Tryz.prog k=true:=by
 unfold man27 at hk
 split at hk
 ·cases hk;exact⟨cCi0_ok,by kernel_rfl⟩
 ·cases hk;exact⟨cEq_ok,by kernel_rfl⟩
 ·cases hk
noncomputable def C27:Ctx:=ctxN Tryz.prog man27 (fun _=>false) 200 .nil 6
theorem C27_ok:CtxOK Tryz.prog C27:=ctxN_ok mixed man27_ok 6
noncomputable def D27:Dr:=drawnL Tryz.prog C27
theorem D27_ok:DrOK Tryz.prog C27 D27:=drawnL_ok C27_ok mixed
theorem L27_eq(r:RsT)(D:Nat->Nat->Sx.DV)(m:Nat)(F:Nat->Nat->Sx.DV):fnT Tryz.prog C27 D27 200 (fnOf Tryz.prog 27) (bodyOf Tryz.prog 27) [.agg (rsL' r D),.agg [nilS,nilS],.d (.ro m 1 F)] .nil=.need ((r.cir==6496484108755115417)=true->UrD r.n D/\SsD m F) (.ret (bv (r.cir==6496484108755115417&&eqFs r.n D m F))):=by kernel_rfl
noncomputable def cMtN:Ctr:=c28
theorem cMtN_ok:CtrOK Tryz.prog 27 cMtN:=ctrOK_leS C27_ok D27_ok (by kernel_rfl) (by kernel_rfl) fun ss r h=>by
 unfold cMtN c28 at h
 split at h
 ·rename_i no prev src cir n D b0 b1 b2 b3 b4 b5 b6 b7 b8 b9 b10 b11 pn pd tag m F
  obtain⟨⟨h1,h2,h3⟩,rfl⟩:=h
  refine⟨_,200,.nil,?_,Sat.of_eq (L27_eq ⟨no,prev,src,cir,n,fun _=>0,b14 [b0,b1,b2,b3,b4,b5,b6,b7,b8,b9,b10,b11,pn,pd],tag⟩ D m F) ⟨fun _=>⟨h1,h3⟩,?_⟩⟩
  ·have a3:leSV 0 [] [] (.agg [.d (.x (.slice none 0 0)),.d (.x (.slice none 0 0))]) (.agg [nilS,nilS]):=by
    unfold nilS
    simp only[leSV,leSVs,leD,and_true]
   have b2:∀s:Sx.DV,leD s s:=fun s=>by cases s<;>simp[leD]
   unfold rsL'
   simp only[leSVs,and_true]
   refine⟨?_,a3,by simp only[leSV];exact b2 _⟩
   simp only[leSV,leSVs,and_true]
   exact⟨rfl,rfl,rfl,rfl,b2 _,rfl,rfl,rfl,rfl,rfl,rfl,rfl,rfl,rfl,rfl,rfl,rfl,rfl,rfl,rfl⟩
  ·show bv _=bv _
   unfold mtE
   rw[dg00]
 ·exact h.elim
end Go.Proofs.YtanlnopgadbpjaaGreat.Rw
namespace Go.Sx
structure AcT where
 k:Int
 n:Int
 dn:Nat
 D:Nat->Nat->DV
def acC(a:Nat->AcT)(i:Nat):Nat->DV
 |0=>.x (.int .u8 (a i).k)
 |1=>.x (.int .u8 (a i).n)
 |2=>.ro (a i).dn 1 (a i).D
 |_+3=>.x undef
noncomputable def acS(na:Nat)(a:Nat->AcT):SV:=.d (.ro na 3 (acC a))
noncomputable def lkL(key:Int)(no:Nat)(fo:Nat->MsT)(base:Int)(ni:Nat)(fi:Nat->MsT)(rc:Int):List SV:=[.d (.x (.int .u64 key)),msS no fo,iv base,msS ni fi,iv rc]
end Go.Sx
namespace Go.Proofs.YtanlnopgadbpjaaGreat.Rw
open Go.Proofs.YtanlnopgadbpjaaGreat.Rm
open Go.Sx
noncomputable def c18b:Ctr:=fun ss=>match ss with
 |[.agg [.d (.x (.int .u64 key)),.d (.ro no 1 FO),.d (.x (.int .i64 base)),.d (.ro ni 1 FI),.d (.x (.int .i64 rc))]]=>.need (LkD no FO ni FI/\VlD no base ni rc) (.ret (bv true))
 |[.agg [.d (.x (.int .u64 key)),.d (.x (.slice none 0 0)),.d (.x (.int .i64 base)),.d (.x (.slice none 0 0)),.d (.x (.int .i64 rc))]]=>.need (VlD 0 base 0 rc) (.ret (bv true))
 |_=>.fail
theorem c18b_ok:CtrOK Tryz.prog 18 c18b:=c18_ok.leA fun ss r h=>by
 unfold c18b at h
 split at h
 ·rename_i key no FO base ni FI rc
  refine⟨[.agg [.d (.x (.int .u64 key)),.d (.ro no 1 FO),.d (.x (.int .i64 base)),.d (.ro ni 1 FI),.d (.x (.int .i64 rc))]],?_,h⟩
  simp[leSVs,leSV,leD]
 ·rename_i key base rc
  obtain⟨h1,rfl⟩:=h
  refine⟨[.agg [.d (.x (.int .u64 key)),.d (.ro 0 1 fun _ _=>.x undef),.d (.x (.int .i64 base)),.d (.ro 0 1 fun _ _=>.x undef),.d (.x (.int .i64 rc))]],?_,⟨⟨⟨by omega,fun i hi=>absurd hi (Nat.not_lt_zero _)⟩,⟨by omega,fun i hi=>absurd hi (Nat.not_lt_zero _)⟩⟩,h1⟩,rfl⟩
  simp[leSVs,leSV,leD]
 ·exact h.elim
noncomputable def man21:FuncId->Option Ctr:=fun k=>match k with
 |18=>some c18b
 |33=>some c33
 |34=>some c34b
 |56=>some c56
 |57=>some c57
 |_=>none
theorem man21_ok(k:Nat)(c:Ctr)(hk:man21 k=some c):CtrOK Tryz.prog k c/\goodF Tryz.prog k=true:=by
 unfold man21 at hk
 split at hk
 ·cases hk;exact⟨c18b_ok,by kernel_rfl⟩
 ·cases hk;exact⟨c33_ok,by kernel_rfl⟩
 ·cases hk;exact⟨c34b_ok,by kernel_rfl⟩
 ·cases hk;exact⟨c56_ok,by kernel_rfl⟩
 ·cases hk;exact⟨c57_ok,by kernel_rfl⟩
 ·cases hk
noncomputable def C21:Ctx:=ctxN Tryz.prog man21 (fun _=>false) 200 .nil 6
theorem C21_ok:CtxOK Tryz.prog C21:=ctxN_ok mixed man21_ok 6
noncomputable def D21:Dr:=drawnL Tryz.prog C21
theorem D21_ok:DrOK Tryz.prog C21 D21:=drawnL_ok C21_ok mixed
section
variable (K : Int) (no : Nat) (fo : Nat → MsT) (B : Int) (K1 : Int) (ni : Nat) (fi : Nat → MsT) (rc : Int) (na : Nat) (a : Nat → AcT) (m : Nat) (f : Nat → FlT) (ng : Nat) (g : Nat → MsT) (i : Int)
noncomputable def t21:Tree SV:=fnT Tryz.prog C21 D21 200 (fnOf Tryz.prog 21) (bodyOf Tryz.prog 21) [lkS K no fo 0 0 (fun _=>ms0) 0,lkS K1 0 (fun _=>ms0) 0 0 (fun _=>ms0) 0,acS na a] .nil
noncomputable def st21(l0 l1:List SV)(m:Nat)(c:Nat->Nat->Sx.DV)(ng:Nat)(d:Nat->Nat->Sx.DV)(i:Int):AS:=⟨slN 145 [(2,acS na a),(3,.ptr 0 0),(4,.ptr 1 0),(6,.ptr 2 0),(7,.ptr 3 0),(10,.row 6 0 0 m 5),(11,.row 7 0 0 ng 1),(12,iv i)],[some (.cells l0),some (.cells l1),some (.cells [u64v 0,nilS,iv 0,nilS,iv 0]),some (.cells [u64v 0,nilS,iv 0,nilS,iv 0]),none,none,some (.row m 5 c),some (.row ng 1 d)],8,.nil⟩
noncomputable def b21:Tree (Ex×AS):=cutT 6 [(.slot 10,6),(.slot 11,7)] [2,3,4,6,7,10,11,12] [4,5] 8 .nil (exec Tryz.prog C21 D21 200 (loopN (bodyOf Tryz.prog 21) 0) (st21 na a (lkL K no fo B 0 (fun _=>ms0) 0) (lkL K1 0 (fun _=>ms0) 0 ni fi rc) m (fun i j=>flC (f i) j) ng (fun i j=>msC (g i) j) i))
theorem L21_eq:t21 K no fo K1 na a=atCode (sub [] (t21 K no fo K1 na a)):=by kernel_rfl
theorem E21_eq:entA 6 [(.slot 10,6),(.slot 11,7)] [2,3,4,6,7,10,11,12] [4,5] 8 .nil (sub [] (t21 K no fo K1 na a))=some ⟨slN 145 [(2,acS na a),(3,.ptr 0 0),(4,.ptr 1 0),(6,.ptr 2 0),(7,.ptr 3 0),(10,.row 6 0 0 0 5),(11,.row 7 0 0 0 1),(12,iv 0)],[some (.cells (lkL K no fo 0 0 (fun _=>ms0) 0)),some (.cells (lkL K1 0 (fun _=>ms0) 0 0 (fun _=>ms0) 0)),some (.cells [u64v 0,nilS,iv 0,nilS,iv 0]),some (.cells [u64v 0,nilS,iv 0,nilS,iv 0]),none,none,some (.cells []),some (.cells [])],8,.nil⟩:=by kernel_rfl
theorem B21_eq:b21 K no fo B K1 ni fi rc na a m f ng g i=.ite (decide (i<(na:Int))) (.need (0<=i/\i<(na:Int)) (.need ((4:Int)≠0) (.ite (Int.tmod (a i.toNat).k 4==0) (sub [0,0,0,0] (b21 K no fo B K1 ni fi rc na a m f ng g i))
 (.ite (Int.tmod (a i.toNat).k 4==1) (sub [0,0,0,1,0] (b21 K no fo B K1 ni fi rc na a m f ng g i))
 (.ite (Int.tmod (a i.toNat).k 4==2) (sub [0,0,0,1,1,0] (b21 K no fo B K1 ni fi rc na a m f ng g i))
 (sub [0,0,0,1,1,1] (b21 K no fo B K1 ni fi rc na a m f ng g i)))))))
 (.ret (.exit 0,st21 na a (lkL K no fo B 0 (fun _=>ms0) 0) (lkL K1 0 (fun _=>ms0) 0 ni fi rc) m (fun i j=>flC (f i) j) ng (fun i j=>msC (g i) j) i)):=by kernel_rfl
theorem B21a_eq:sub [0,0,0,0] (b21 K no fo B K1 ni fi rc na a m f ng g i)=.need ((8:Int)≠0) (.need (LkD no (fun i j=>msC (fo i) j) 0 fun i j=>msC ms0 j)
 (.ite (decide (Int.tmod (w64 (a i.toNat).n) 8<0)||decide (Int.tmod (w64 (a i.toNat).n) 8>=(no:Int)))
  (.ite false (sub [0,0,0,0,0,0,0,0] (b21 K no fo B K1 ni fi rc na a m f ng g i)) (.ret (.normal,st21 na a (lkL K no fo B 0 (fun _=>ms0) 0) (lkL K1 0 (fun _=>ms0) 0 ni fi rc) m (fun i j=>flC (f i) j) ng (fun i j=>msC (g i) j) (w64 (i+1)))))
  (.ite true (.need (0+m<=m/\5<=5/\(m+1)*56<=140737488355328) (.ret (.normal,st21 na a (lkL K no fo B 0 (fun _=>ms0) 0) (lkL K1 0 (fun _=>ms0) 0 ni fi rc) (m+1) (selA 5 m (fun i j=>flC (f i) j) [.x (.int .i64 1),.x (.int .i64 (w64 (B+Int.tmod (w64 (a i.toNat).n) 8))),.x (.int .i64 0),msC (fo (Int.tmod (w64 (a i.toNat).n) 8).toNat) 0,
    .x (.int .u64 (tgN (xorV K 1) (fo (Int.tmod (w64 (a i.toNat).n) 8).toNat).n (fo (Int.tmod (w64 (a i.toNat).n) 8).toNat).b (w64 (B+Int.tmod (w64 (a i.toNat).n) 8)) 0 (fo (Int.tmod (w64 (a i.toNat).n) 8).toNat).n))]) ng (fun i j=>msC (g i) j) (w64 (i+1)))))
   (sub [0,0,0,0,0,0,1,1] (b21 K no fo B K1 ni fi rc na a m f ng g i))))):=by kernel_rfl
theorem B21b_eq:sub [0,0,0,1,0] (b21 K no fo B K1 ni fi rc na a m f ng g i)=.need (LkD 0 (fun i j=>msC ms0 j) ni fun i j=>msC (fi i) j)
 (.need (0+m<=m/\5<=5/\(m+1)*56<=140737488355328) (.ret (.normal,st21 na a (lkL K no fo B 0 (fun _=>ms0) 0) (lkL K1 0 (fun _=>ms0) 0 ni fi rc) (m+1) (selA 5 m (fun i j=>flC (f i) j) [.x (.int .i64 0),.x (.int .i64 (-1)),.x (.int .i64 rc),msC ms0 0,.x (.int .u64 (tgN (xorV K1 1) 0 ms0.b (-1) rc 0))]) ng (fun i j=>msC (g i) j) (w64 (i+1))))):=by kernel_rfl
theorem B21c_eq:sub [0,0,0,1,1,0] (b21 K no fo B K1 ni fi rc na a m f ng g i)=.need (LkD 0 (fun i j=>msC ms0 j) ni fun i j=>msC (fi i) j)
 (.ite ((ni:Int)==0) (.need (false=true->VlD 0 0 0 0) (.ite false (sub [0,0,0,1,1,0,0,0,0,0] (b21 K no fo B K1 ni fi rc na a m f ng g i)) (.ite false (sub [0,0,0,1,1,0,0,0,0,1,0] (b21 K no fo B K1 ni fi rc na a m f ng g i)) (.ret (.normal,st21 na a (lkL K no fo B 0 (fun _=>ms0) 0) (lkL K1 0 (fun _=>ms0) 0 ni fi rc) m (fun i j=>flC (f i) j) ng (fun i j=>msC (g i) j) (w64 (i+1)))))))
 (.need (true=true->LkD 0 (fun i j=>msC ms0 j) (ni-1) (fun i j=>msC (fi (1+i)) j)/\VlD 0 0 (ni-1) rc) (.ite false (sub [0,0,0,1,1,0,0,1,0,0] (b21 K no fo B K1 ni fi rc na a m f ng g i))
  (.ite true (.need (0+ng<=ng/\1<=1/\(ng+1)*24<=140737488355328) (.ret (.normal,st21 na a (lkL K no fo B 0 (fun _=>ms0) 0) (lkL K1 0 (fun _=>ms0) 0 (ni-1) (fun i=>fi (1+i)) rc) m (fun i j=>flC (f i) j) (ng+1) (selA 1 ng (fun i j=>msC (g i) j) [msC (fi 0) 0]) (w64 (i+1)))))
   (sub [0,0,0,1,1,0,0,1,0,1,1] (b21 K no fo B K1 ni fi rc na a m f ng g i)))))):=by kernel_rfl
theorem B21d_eq:sub [0,0,0,1,1,1] (b21 K no fo B K1 ni fi rc na a m f ng g i)=.ite ((m:Int)==0) (.ret (.normal,st21 na a (lkL K no fo B 0 (fun _=>ms0) 0) (lkL K1 0 (fun _=>ms0) 0 ni fi rc) m (fun i j=>flC (f i) j) ng (fun i j=>msC (g i) j) (w64 (i+1))))
 (.need ((m:Int)≠0) (.need (0<=(Int.tmod (w64 (a i.toNat).n) (m:Int))/\(Int.tmod (w64 (a i.toNat).n) (m:Int))<(m:Int)) (.need (0+(Int.tmod (w64 (a i.toNat).n) (m:Int)).toNat<m) (.ite ((f (0+(Int.tmod (w64 (a i.toNat).n) (m:Int)).toNat)).to==1) (sub [0,0,0,1,1,1,1,0,0,0,0] (b21 K no fo B K1 ni fi rc na a m f ng g i)) (sub [0,0,0,1,1,1,1,0,0,0,1] (b21 K no fo B K1 ni fi rc na a m f ng g i)))))):=by kernel_rfl
theorem B21e_eq:sub [0,0,0,1,1,1,1,0,0,0,0] (b21 K no fo B K1 ni fi rc na a m f ng g i)=.need ((LkD 0 (fun i j=>msC ms0 j) ni (fun i j=>msC (fi i) j)/\(ByD (f (0+(Int.tmod (w64 (a i.toNat).n) (m:Int)).toNat)).m.n fun j _=>.x (.int .u8 ((f (0+(Int.tmod (w64 (a i.toNat).n) (m:Int)).toNat)).m.b j))))/\acB K1 0 0 (f (0+(Int.tmod (w64 (a i.toNat).n) (m:Int)).toNat)).sq (f (0+(Int.tmod (w64 (a i.toNat).n) (m:Int)).toNat)).ak (f (0+(Int.tmod (w64 (a i.toNat).n) (m:Int)).toNat)).m=false/\(f (0+(Int.tmod (w64 (a i.toNat).n) (m:Int)).toNat)).ck=tgN K1 (f (0+(Int.tmod (w64 (a i.toNat).n) (m:Int)).toNat)).m.n (f (0+(Int.tmod (w64 (a i.toNat).n) (m:Int)).toNat)).m.b (f (0+(Int.tmod (w64 (a i.toNat).n) (m:Int)).toNat)).sq (f (0+(Int.tmod (w64 (a i.toNat).n) (m:Int)).toNat)).ak (f (0+(Int.tmod (w64 (a i.toNat).n) (m:Int)).toNat)).m.n)
 (.need (true=true->LkD (0-rvD 0 (f (0+(Int.tmod (w64 (a i.toNat).n) (m:Int)).toNat)).ak) (fun i j=>msC ms0 j) (ni+rvE ni (f (0+(Int.tmod (w64 (a i.toNat).n) (m:Int)).toNat)).sq rc) (fun q j=>msC (rvF ni fi (f (0+(Int.tmod (w64 (a i.toNat).n) (m:Int)).toNat)).m q) j)/\VlD (0-rvD 0 (f (0+(Int.tmod (w64 (a i.toNat).n) (m:Int)).toNat)).ak) (rvB 0 (f (0+(Int.tmod (w64 (a i.toNat).n) (m:Int)).toNat)).ak) (ni+rvE ni (f (0+(Int.tmod (w64 (a i.toNat).n) (m:Int)).toNat)).sq rc) (rvR ni (f (0+(Int.tmod (w64 (a i.toNat).n) (m:Int)).toNat)).sq rc))
 (.ite false (sub [0,0,0,1,1,1,1,0,0,0,0,0,0,0] (b21 K no fo B K1 ni fi rc na a m f ng g i)) (.ite true (.ret (.normal,st21 na a (lkL K no fo B 0 (fun _=>ms0) 0) (lkL K1 (0-rvD 0 (f (0+(Int.tmod (w64 (a i.toNat).n) (m:Int)).toNat)).ak) (fun _=>ms0) (rvB 0 (f (0+(Int.tmod (w64 (a i.toNat).n) (m:Int)).toNat)).ak) (ni+rvE ni (f (0+(Int.tmod (w64 (a i.toNat).n) (m:Int)).toNat)).sq rc) (rvF ni fi (f (0+(Int.tmod (w64 (a i.toNat).n) (m:Int)).toNat)).m) (rvR ni (f (0+(Int.tmod (w64 (a i.toNat).n) (m:Int)).toNat)).sq rc)) m (fun i j=>flC (f i) j) ng (fun i j=>msC (g i) j) (w64 (i+1)))) (sub [0,0,0,1,1,1,1,0,0,0,0,0,0,1,1] (b21 K no fo B K1 ni fi rc na a m f ng g i))))):=by kernel_rfl
theorem B21f_eq:sub [0,0,0,1,1,1,1,0,0,0,1] (b21 K no fo B K1 ni fi rc na a m f ng g i)=.need ((LkD no (fun i j=>msC (fo i) j) 0 (fun i j=>msC ms0 j)/\(ByD (f (0+(Int.tmod (w64 (a i.toNat).n) (m:Int)).toNat)).m.n fun j _=>.x (.int .u8 ((f (0+(Int.tmod (w64 (a i.toNat).n) (m:Int)).toNat)).m.b j))))/\acB K no B (f (0+(Int.tmod (w64 (a i.toNat).n) (m:Int)).toNat)).sq (f (0+(Int.tmod (w64 (a i.toNat).n) (m:Int)).toNat)).ak (f (0+(Int.tmod (w64 (a i.toNat).n) (m:Int)).toNat)).m=false/\(f (0+(Int.tmod (w64 (a i.toNat).n) (m:Int)).toNat)).ck=tgN K (f (0+(Int.tmod (w64 (a i.toNat).n) (m:Int)).toNat)).m.n (f (0+(Int.tmod (w64 (a i.toNat).n) (m:Int)).toNat)).m.b (f (0+(Int.tmod (w64 (a i.toNat).n) (m:Int)).toNat)).sq (f (0+(Int.tmod (w64 (a i.toNat).n) (m:Int)).toNat)).ak (f (0+(Int.tmod (w64 (a i.toNat).n) (m:Int)).toNat)).m.n)
 (.need (true=true->LkD (no-rvD B (f (0+(Int.tmod (w64 (a i.toNat).n) (m:Int)).toNat)).ak) (fun q j=>msC (fo (rvD B (f (0+(Int.tmod (w64 (a i.toNat).n) (m:Int)).toNat)).ak+q)) j) (0+rvE 0 (f (0+(Int.tmod (w64 (a i.toNat).n) (m:Int)).toNat)).sq 0) (fun q j=>msC (rvF 0 (fun _=>ms0) (f (0+(Int.tmod (w64 (a i.toNat).n) (m:Int)).toNat)).m q) j)/\VlD (no-rvD B (f (0+(Int.tmod (w64 (a i.toNat).n) (m:Int)).toNat)).ak) (rvB B (f (0+(Int.tmod (w64 (a i.toNat).n) (m:Int)).toNat)).ak) (0+rvE 0 (f (0+(Int.tmod (w64 (a i.toNat).n) (m:Int)).toNat)).sq 0) (rvR 0 (f (0+(Int.tmod (w64 (a i.toNat).n) (m:Int)).toNat)).sq 0))
 (.ite false (sub [0,0,0,1,1,1,1,0,0,0,1,0,0,0] (b21 K no fo B K1 ni fi rc na a m f ng g i)) (.ite true (.ret (.normal,st21 na a (lkL K (no-rvD B (f (0+(Int.tmod (w64 (a i.toNat).n) (m:Int)).toNat)).ak) (fun q=>fo (rvD B (f (0+(Int.tmod (w64 (a i.toNat).n) (m:Int)).toNat)).ak+q)) (rvB B (f (0+(Int.tmod (w64 (a i.toNat).n) (m:Int)).toNat)).ak) (0+rvE 0 (f (0+(Int.tmod (w64 (a i.toNat).n) (m:Int)).toNat)).sq 0) (rvF 0 (fun _=>ms0) (f (0+(Int.tmod (w64 (a i.toNat).n) (m:Int)).toNat)).m) (rvR 0 (f (0+(Int.tmod (w64 (a i.toNat).n) (m:Int)).toNat)).sq 0)) (lkL K1 0 (fun _=>ms0) 0 ni fi rc) m (fun i j=>flC (f i) j) ng (fun i j=>msC (g i) j) (w64 (i+1)))) (sub [0,0,0,1,1,1,1,0,0,0,1,0,0,1,1] (b21 K no fo B K1 ni fi rc na a m f ng g i))))):=by kernel_rfl
theorem K21_eq(n2:Nat)(f2:Nat->MsT)(m:Nat)(c:Nat->Nat->Sx.DV):codeK (sub [] (t21 K n2 f2 K1 na a)) (.exit 0) (st21 na a (lkL K no fo B 0 (fun _=>ms0) 0) (lkL K1 0 (fun _=>ms0) 0 ni fi rc) m c ng (fun i j=>msC (g i) j) i)=.need (0+ng<=ng) (.ret (.tup [lkS K no fo B 0 (fun _=>ms0) 0,lkS K1 0 (fun _=>ms0) 0 ni fi rc,.d (.ro ng 1 fun i j=>msC (g (0+i)) j),bv true])):=by kernel_rfl
end
end Go.Proofs.YtanlnopgadbpjaaGreat.Rw
namespace Go.Sx
theorem wrapU(n:Int):IntKind.wrap .u64 n=n%18446744073709551616:=rfl
theorem xorV_nat{a b:Int}(ha:0<=a)(ha2:a<18446744073709551616)(hb:0<=b)(hb2:b<18446744073709551616):xorV a b=((a.toNat ^^^ b.toNat:Nat):Int):=by
 obtain⟨x,rfl⟩:=Int.eq_ofNat_of_zero_le ha
 obtain⟨y,rfl⟩:=Int.eq_ofNat_of_zero_le hb
 have hx:x<2^64:=by omega
 have hy:y<2^64:=by omega
 unfold xorV
 rw[show BitVec.ofInt 64 (x:Int)=BitVec.ofNat 64 x from BitVec.ofInt_natCast 64 _,show BitVec.ofInt 64 (y:Int)=BitVec.ofNat 64 y from BitVec.ofInt_natCast 64 _,BitVec.toNat_xor,BitVec.toNat_ofNat,BitVec.toNat_ofNat,Nat.mod_eq_of_lt hx,Nat.mod_eq_of_lt hy,wrapU]
 have:=Nat.xor_lt_two_pow hx hy
 simp only[Int.toNat_natCast]
 omega
theorem xorV_range{a b:Int}:0<=xorV a b/\xorV a b<18446744073709551616:=by
 unfold xorV
 rw[wrapU]
 omega
theorem xorV_twice{a b:Int}(ha:0<=a)(ha2:a<18446744073709551616)(hb:0<=b)(hb2:b<18446744073709551616):xorV a (xorV a b)=b:=by
 rw[xorV_nat ha ha2 xorV_range.1 xorV_range.2,xorV_nat ha ha2 hb hb2,Int.toNat_natCast,<- Nat.xor_assoc,Nat.xor_self,Nat.zero_xor]
 omega
theorem xorV_comm(a b:Int):xorV a b=xorV b a:=by
 unfold xorV
 rw[BitVec.xor_comm]
theorem xorV_key{k:Int}(h:0<=k)(h2:k<18446744073709551616):xorV (xorV k 1) 1=k:=by
 rw[xorV_comm,xorV_comm k,xorV_twice (by decide) (by decide) h h2]
theorem leDs_lk{key base rc base' rc':Int}{no ni no' ni':Nat}{fo fi fo' fi':Nat->MsT}(h1:no=no')(h2:∀i,i<no->fo i=fo' i)(h3:base=base')(h4:ni=ni')(h5:∀i,i<ni->fi i=fi' i)(h6:rc=rc') :
  leDs (lkL key no fo base ni fi rc) (lkL key no' fo' base' ni' fi' rc'):=by
 subst h1;subst h3;subst h4;subst h6
 exact⟨rfl,⟨rfl,rfl,fun i j hi hj=>by show msC (fo i) j=msC (fo' i) j;rw[h2 i hi]⟩,rfl,⟨rfl,rfl,fun i j hi hj=>by show msC (fi i) j=msC (fi' i) j;rw[h5 i hi]⟩,rfl,trivial⟩
theorem selA_eq{e m:Nat}{c:Nat->Nat->DV}{ds:List DV}{a b:Nat}(ha:a<m+1):selA e m c ds a b=if a<m then c a b else dsAt ds b:=by
 unfold selA
 rw[selD_eq,Nat.zero_add]
 by_cases h:a<m
 ·rw[decide_eq_true h,if_pos h];rfl
 ·obtain rfl:a=m:=by omega
  rw[decide_eq_false h,if_neg h,Nat.sub_self,show 0+(0+0)*e+b=b by omega];rfl
end Go.Sx
namespace Go.Proofs.YtanlnopgadbpjaaGreat.Rw
open Go.Proofs.YtanlnopgadbpjaaGreat.Rm
open Go.Sx
theorem sIte{α:Type}{P:Program}{b:Bool}{t e:Tree α}{Q:α->Prop}(h1:b=true->Sat P t Q)(h2:b=false->Sat P e Q):Sat P (.ite b t e) Q:=⟨⟨fun h=>(h1 h).ok,fun h=>(h2 h).ok⟩⟩
theorem sNeed{α:Type}{P:Program}{p:Prop}{t:Tree α}{Q:α->Prop}(h1:p)(h2:Sat P t Q):Sat P (.need p t) Q:=⟨⟨h1,h2.ok⟩⟩
theorem ft{P:Prop}(h:false=true):P:=by cases h
theorem tf{P:Prop}(h:true=false):P:=by cases h
theorem gc21{na:Nat}{a:Nat->AcT}{l0 l1 l0' l1':List SV}{m m' ng ng':Nat}{c c' d d':Nat->Nat->Sx.DV}{i i':Int}(h0:leDs l0 l0')(h1:leDs l1 l1')(hm:m=m')(hc:∀x y,x<m->y<5->c x y=c' x y)(hg:ng=ng')(hd:∀x y,x<ng->y<1->d x y=d' x y)(hi:i=i') :
  Gc 6 (st21 na a l0 l1 m c ng d i) (st21 na a l0' l1' m' c' ng' d' i'):=by
 subst hm;subst hg;subst hi
 exact gc_hp rfl rfl ⟨.inr ⟨_,_,rfl,rfl,.cellsD h0⟩,.inr ⟨_,_,rfl,rfl,.cellsD h1⟩,.inr ⟨_,_,rfl,rfl,.refl _⟩,.inr ⟨_,_,rfl,rfl,.refl _⟩,.inl rfl,.inl rfl,.inr ⟨_,_,rfl,rfl,.row hc⟩,.inr ⟨_,_,rfl,rfl,.row hd⟩,trivial⟩
structure P21(K:Int)(n:Nat)(ms:Nat->MsT)(na:Nat)(a:Nat->AcT):Prop where
 k0:0<=K
 k1:K<18446744073709551616
 hn:n<=30
 hms:∀i,i<n->(ms i).n<=256
 hna:na<=1000000000
 ha:∀i,i<na->0<=(a i).n/\(a i).n<256
section
variable (K : Int) (n : Nat) (ms : Nat → MsT) (na : Nat) (a : Nat → AcT)
noncomputable def kk21(i:Nat):Int:=Int.tmod (a i).k 4
noncomputable def nn21(i:Nat):Int:=(a i).n
noncomputable def iv21(w:WdT)(i:Nat):AS:=st21 na a (lkL K (n-w.B) (fun j=>ms (w.B+j)) w.B 0 (fun _=>ms0) 0) (lkL (xorV K 1) 0 (fun _=>ms0) 0 (w.R-w.T) (fun j=>ms (w.T+j)) w.R) w.m (fun q j=>flC (flOf K ms (w.f q)) j) w.T (fun q j=>msC (ms q) j) i
end
section
variable {K : Int} {n : Nat} {ms : Nat → MsT} {na : Nat} {a : Nat → AcT} {w : WdT} {i : Nat}
theorem iv_same(hi:i<na)(hna:na<=1000000000):Gc 6 (st21 na a (lkL K (n-w.B) (fun j=>ms (w.B+j)) w.B 0 (fun _=>ms0) 0) (lkL (xorV K 1) 0 (fun _=>ms0) 0 (w.R-w.T) (fun j=>ms (w.T+j)) w.R) w.m (fun q j=>flC (flOf K ms (w.f q)) j) w.T (fun q j=>msC (ms q) j) (w64 ((i:Int)+1))) (iv21 K n ms na a w (i+1)) :=
 gc21 (leDs_lk rfl (fun _ _=>rfl) rfl rfl (fun _ _=>rfl) rfl) (leDs_lk rfl (fun _ _=>rfl) rfl rfl (fun _ _=>rfl) rfl) rfl (fun _ _ _ _=>rfl) rfl (fun _ _ _ _=>rfl) (w64_succ hi (by omega))
theorem iv_push(hi:i<na)(hna:na<=1000000000){ds:List Sx.DV}{e:EvT}(hds:∀y,y<5->dsAt ds y=flC (flOf K ms e) y):Gc 6 (st21 na a (lkL K (n-w.B) (fun j=>ms (w.B+j)) w.B 0 (fun _=>ms0) 0) (lkL (xorV K 1) 0 (fun _=>ms0) 0 (w.R-w.T) (fun j=>ms (w.T+j)) w.R) (w.m+1) (selA 5 w.m (fun q j=>flC (flOf K ms (w.f q)) j) ds) w.T (fun q j=>msC (ms q) j) (w64 ((i:Int)+1))) (iv21 K n ms na a (pushW w e) (i+1)) :=
 gc21 (leDs_lk rfl (fun _ _=>rfl) rfl rfl (fun _ _=>rfl) rfl) (leDs_lk rfl (fun _ _=>rfl) rfl rfl (fun _ _=>rfl) rfl) rfl (fun x y hx hy=>by
  rw[selA_eq hx]
  show _=flC (flOf K ms (if x<w.m then w.f x else e)) y
  by_cases h:x<w.m
  ·rw[if_pos h,if_pos h]
  ·rw[if_neg h,if_neg h,hds y hy]) rfl (fun _ _ _ _=>rfl) (w64_succ hi (by omega))
theorem lkD_l(h:P21 K n ms na a)(hw:OkW n i w):LkD (n-w.B) (fun j y=>msC (ms (w.B+j)) y) 0 fun _ y=>msC ms0 y :=
 ⟨msD_of (f:=fun j=>ms (w.B+j)) (by have:=h.hn;omega) fun j hj=>h.hms _ (by omega),msD_of (f:=fun _=>ms0) (by omega) fun j hj=>absurd hj (Nat.not_lt_zero _)⟩
theorem lkD_r(h:P21 K n ms na a)(hw:OkW n i w):LkD 0 (fun _ y=>msC ms0 y) (w.R-w.T) fun j y=>msC (ms (w.T+j)) y :=
 ⟨msD_of (f:=fun _=>ms0) (by omega) fun j hj=>absurd hj (Nat.not_lt_zero _),msD_of (f:=fun j=>ms (w.T+j)) (by have:=h.hn;have:=hw.rn;omega) fun j hj=>h.hms _ (by have:=hw.rn;omega)⟩
theorem step21a(h:P21 K n ms na a)(hw:OkW n i w)(hi:i<na)(hk:kk21 a i=0):Sat Tryz.prog (sub [0,0,0,0] (b21 K (n-w.B) (fun j=>ms (w.B+j)) w.B (xorV K 1) (w.R-w.T) (fun j=>ms (w.T+j)) w.R na a w.m (fun q=>flOf K ms (w.f q)) w.T ms i)) fun r=>r.1=.normal/\Gc 6 r.2 (iv21 K n ms na a (stpM n (kk21 a i) (nn21 a i) w) (i+1)):=by
 have hN:=h.ha i hi
 have hna:=h.hna
 have hn:=h.hn
 have hB:=hw.br
 have hR:=hw.rn
 have hx:Int.tmod (w64 (a (i:Int).toNat).n) 8=nn21 a i%8:=by
  rw[Int.toNat_natCast,w64_of (by omega) (by omega),Int.tmod_eq_emod_of_nonneg hN.1];rfl
 have T:=B21a_eq K (n-w.B) (fun j=>ms (w.B+j)) w.B (xorV K 1) (w.R-w.T) (fun j=>ms (w.T+j)) w.R na a w.m (fun q=>flOf K ms (w.f q)) w.T ms i
 rw[hx] at T
 have h8:0<=nn21 a i%8/\nn21 a i%8<8:=by omega
 rw[hk]
 refine Sat.of_eq T ⟨by decide,lkD_l h hw,fun hc=>⟨ft,fun _=>⟨rfl,?_⟩⟩,fun hc=>⟨fun _=>⟨by have:=hw.mi;omega,rfl,?_⟩,tf⟩⟩
 ·rw[Bool.or_eq_true,decide_eq_true_eq,decide_eq_true_eq] at hc
  have e:stpM n 0 (nn21 a i) w=w:=by
   unfold stpM
   rw[if_pos rfl,if_neg (by omega)]
  rw[e]
  exact iv_same hi hna
 ·rw[Bool.or_eq_false_iff,decide_eq_false_iff_not,decide_eq_false_iff_not] at hc
  obtain⟨q,hq⟩:∃q:Nat,nn21 a i%8=q:=Int.eq_ofNat_of_zero_le h8.1
  have e:stpM n 0 (nn21 a i) w=pushW w ⟨true,w.B+q⟩:=by
   unfold stpM
   rw[if_pos rfl,if_pos (by omega),hq,Int.toNat_natCast]
  rw[e,hq]
  refine iv_push hi hna fun y hy=>?_
  have e1:w64 ((w.B:Int)+(q:Int))=((w.B+q:Nat):Int):=by rw[w64_of (by omega) (by omega)];omega
  rw[e1,Int.toNat_natCast]
  match y,hy with
  |0,_=>rfl
  |1,_=>rfl
  |2,_=>rfl
  |3,_=>rfl
  |4,_=>rfl
theorem step21b(h:P21 K n ms na a)(hw:OkW n i w)(hi:i<na)(hk:kk21 a i=1):Sat Tryz.prog (sub [0,0,0,1,0] (b21 K (n-w.B) (fun j=>ms (w.B+j)) w.B (xorV K 1) (w.R-w.T) (fun j=>ms (w.T+j)) w.R na a w.m (fun q=>flOf K ms (w.f q)) w.T ms i)) fun r=>r.1=.normal/\Gc 6 r.2 (iv21 K n ms na a (stpM n (kk21 a i) (nn21 a i) w) (i+1)):=by
 have hna:=h.hna
 have T:=B21b_eq K (n-w.B) (fun j=>ms (w.B+j)) w.B (xorV K 1) (w.R-w.T) (fun j=>ms (w.T+j)) w.R na a w.m (fun q=>flOf K ms (w.f q)) w.T ms i
 rw[xorV_key h.k0 h.k1] at T
 rw[hk]
 refine Sat.of_eq T ⟨lkD_r h hw,by have:=hw.mi;omega,rfl,?_⟩
 have e:stpM n 1 (nn21 a i) w=pushW w ⟨false,w.R⟩:=by
  unfold stpM
  rw[if_neg (by decide),if_pos rfl]
 rw[e]
 refine iv_push hi hna fun y hy=>?_
 match y,hy with
 |0,_=>rfl
 |1,_=>rfl
 |2,_=>rfl
 |3,_=>rfl
 |4,_=>rfl
theorem step21c(h:P21 K n ms na a)(hw:OkW n i w)(hi:i<na)(hk:kk21 a i=2):Sat Tryz.prog (sub [0,0,0,1,1,0] (b21 K (n-w.B) (fun j=>ms (w.B+j)) w.B (xorV K 1) (w.R-w.T) (fun j=>ms (w.T+j)) w.R na a w.m (fun q=>flOf K ms (w.f q)) w.T ms i)) fun r=>r.1=.normal/\Gc 6 r.2 (iv21 K n ms na a (stpM n (kk21 a i) (nn21 a i) w) (i+1)):=by
 have hna:=h.hna
 have hn:=h.hn
 have hR:=hw.rn
 have hT:=hw.tr
 have T:=B21c_eq K (n-w.B) (fun j=>ms (w.B+j)) w.B (xorV K 1) (w.R-w.T) (fun j=>ms (w.T+j)) w.R na a w.m (fun q=>flOf K ms (w.f q)) w.T ms i
 rw[hk]
 refine Sat.of_eq T ⟨lkD_r h hw,fun hc=>⟨ft,ft,fun _=>⟨ft,fun _=>⟨rfl,?_⟩⟩⟩,fun hc=>⟨fun _=>⟨⟨msD_of (f:=fun _=>ms0) (by omega) fun j hj=>absurd hj (Nat.not_lt_zero _),msD_of (f:=fun j=>ms (w.T+(1+j))) (by omega) fun j hj=>h.hms _ (by omega)⟩,?_⟩,ft,fun _=>⟨fun _=>⟨by omega,rfl,?_⟩,tf⟩⟩⟩
 ·rw[beq_iff_eq] at hc
  have e:stpM n 2 (nn21 a i) w=w:=by
   unfold stpM
   rw[if_neg (by decide),if_neg (by decide),if_pos rfl,if_neg (by omega)]
  rw[e]
  exact iv_same hi hna
 ·rw[beq_eq_false_iff_ne] at hc
  exact⟨by omega,by omega,by omega,by omega,by omega,by omega⟩
 ·rw[beq_eq_false_iff_ne] at hc
  have e:stpM n 2 (nn21 a i) w={ w with T:=w.T+1 }:=by
   unfold stpM
   rw[if_neg (by decide),if_neg (by decide),if_pos rfl,if_pos (by omega)]
  rw[e]
  refine gc21 (leDs_lk rfl (fun _ _=>rfl) rfl rfl (fun _ _=>rfl) rfl) (leDs_lk rfl (fun _ _=>rfl) rfl (by show w.R-w.T-1=w.R-(w.T+1);omega) (fun j _=>?_) rfl) rfl (fun _ _ _ _=>rfl) rfl (fun x y hx hy=>?_) (w64_succ hi (by omega))
  ·show ms (w.T+(1+j))=ms (w.T+1+j)
   rw[Nat.add_assoc]
  ·obtain rfl:y=0:=by omega
   rw[selA_eq hx]
   by_cases hx2:x<w.T
   ·rw[if_pos hx2]
   ·obtain rfl:x=w.T:=by omega
    rw[if_neg hx2];rfl
theorem acB_false{key:Int}{no:Nat}{base sq ak:Int}{m:MsT}(h1:-1<=sq)(h2:sq<0->m.n=0)(h3:0<=ak)(h4:w64 (ak-base)<=no)(h5:m.n<=256):acB key no base sq ak m=false:=by
 unfold acB
 rw[decide_eq_false (show ¬sq < -1 by omega),decide_eq_false (show ¬ak<0 by omega),decide_eq_false (show ¬w64 (ak-base)>(no:Int) by omega),decide_eq_false (show ¬((m.n:Int)>256) by omega)]
 by_cases h:sq<0
 ·rw[decide_eq_false (show ¬((m.n:Int)>0) by have:=h2 h;omega),Bool.and_false];rfl
 ·rw[decide_eq_false h];rfl
theorem rvB_00:rvB 0 0=0:=by unfold rvB;split<;>rfl
theorem rvD_00:rvD 0 0=0:=rfl
theorem pool_q(h:P21 K n ms na a)(hw:OkW n i w)(hi:i<na)(hm:w.m≠0):∃q:Nat,Int.tmod (w64 (a (i:Int).toNat).n) (w.m:Int)=q/\q<w.m/\(nn21 a i%(w.m:Int)).toNat=q:=by
 have hN:=h.ha i hi
 have a1:=Int.emod_nonneg (a i).n (b:=(w.m:Int)) (by omega)
 have a2:=Int.emod_lt_of_pos (a i).n (b:=(w.m:Int)) (by omega)
 refine⟨((a i).n%(w.m:Int)).toNat,?_,by omega,rfl⟩
 rw[Int.toNat_natCast,w64_of (by omega) (by omega),Int.tmod_eq_emod_of_nonneg hN.1]
 omega
set_option maxHeartbeats 400000 in
theorem step21e(h:P21 K n ms na a)(hw:OkW n i w)(hi:i<na){q:Nat}(hx:Int.tmod (w64 (a (i:Int).toNat).n) (w.m:Int)=q)(hq:q<w.m)(he:(w.f q).pk=true):Sat Tryz.prog (sub [0,0,0,1,1,1,1,0,0,0,0] (b21 K (n-w.B) (fun j=>ms (w.B+j)) w.B (xorV K 1) (w.R-w.T) (fun j=>ms (w.T+j)) w.R na a w.m (fun q=>flOf K ms (w.f q)) w.T ms i)) fun r=>r.1=.normal/\Gc 6 r.2 (iv21 K n ms na a (if(w.f q).v=w.R then { w with R:=w.R+1 } else w) (i+1)):=by
 have hna:=h.hna
 have hn:=h.hn
 have hR:=hw.rn
 have hT:=hw.tr
 have hv:=hw.fl q hq
 rw[if_pos he] at hv
 have hms:=h.hms _ hv
 have T:=B21e_eq K (n-w.B) (fun j=>ms (w.B+j)) w.B (xorV K 1) (w.R-w.T) (fun j=>ms (w.T+j)) w.R na a w.m (fun q=>flOf K ms (w.f q)) w.T ms i
 rw[hx,Int.toNat_natCast,Nat.zero_add q] at T
 have hf:flOf K ms (w.f q)=⟨1,(w.f q).v,0,ms (w.f q).v,tgN (xorV K 1) (ms (w.f q).v).n (ms (w.f q).v).b (w.f q).v 0 (ms (w.f q).v).n⟩:=by unfold flOf;rw[if_pos he]
 rw[hf] at T
 dsimp only at T
 generalize (w.f q).v=v at T hv hms ⊢
 have hrc:rcQ (w.R-w.T) v w.R=decide (v=w.R):=by
  unfold rcQ
  by_cases hvr:v=w.R
  ·rw[decide_eq_true hvr,hvr,beq_self_eq_true,decide_eq_true (by omega),decide_eq_true (by omega)];rfl
  ·rw[decide_eq_false hvr,beq_false_of_ne (by omega)];rfl
 have eE:rvE (w.R-w.T) v w.R=if v=w.R then 1 else 0:=by
  unfold rvE;rw[hrc]
  by_cases hvr:v=w.R<;>simp[hvr]
 have eR:rvR (w.R-w.T) v w.R=if v=w.R then(w.R:Int)+1 else w.R:=by
  unfold rvR;rw[hrc]
  by_cases hvr:v=w.R
  ·rw[if_pos (decide_eq_true hvr),if_pos hvr,w64_of (by omega) (by omega)]
  ·rw[if_neg (by rw[decide_eq_false hvr];decide),if_neg hvr]
 have hF:∀j,rvF (w.R-w.T) (fun j=>ms (w.T+j)) (ms v) j=if j<w.R-w.T then ms (w.T+j) else ms v:=fun j=>rfl
 rw[eE,eR,rvB_00,rvD_00] at T
 refine Sat.of_eq T ⟨⟨⟨lkD_r h hw,byD_of (by omega)⟩,acB_false (by omega) (fun h=>by omega) (by omega) (by decide) hms,rfl⟩,fun _=>⟨⟨msD_of (f:=fun _=>ms0) (by omega) fun j hj=>absurd hj (Nat.not_lt_zero _),msD_of (f:=rvF (w.R-w.T) (fun j=>ms (w.T+j)) (ms v)) (by split<;>omega) fun j hj=>?_⟩,?_⟩,ft,fun _=>⟨fun _=>⟨rfl,?_⟩,tf⟩⟩
 ·rw[hF]
  split
  ·exact h.hms _ (by omega)
  ·exact hms
 ·by_cases hvr:v=w.R
  ·rw[if_pos hvr,if_pos hvr];exact⟨by omega,by omega,by omega,by omega,by omega,by omega⟩
  ·rw[if_neg hvr,if_neg hvr];exact⟨by omega,by omega,by omega,by omega,by omega,by omega⟩
 ·by_cases hvr:v=w.R
  ·rw[if_pos hvr,if_pos hvr,if_pos hvr]
   refine gc21 (leDs_lk rfl (fun _ _=>rfl) rfl rfl (fun _ _=>rfl) rfl) (leDs_lk rfl (fun _ _=>rfl) rfl (by show w.R-w.T+1=w.R+1-w.T;omega) (fun j hj=>?_) (by show(w.R:Int)+1=((w.R+1:Nat):Int);omega)) rfl (fun _ _ _ _=>rfl) rfl (fun _ _ _ _=>rfl) (w64_succ hi (by omega))
   rw[hF]
   show _=ms (w.T+j)
   split
   ·rfl
   ·rw[show w.T+j=v by omega]
  ·rw[if_neg hvr,if_neg hvr,if_neg hvr]
   refine gc21 (leDs_lk rfl (fun _ _=>rfl) rfl rfl (fun _ _=>rfl) rfl) (leDs_lk rfl (fun _ _=>rfl) rfl rfl (fun j hj=>?_) rfl) rfl (fun _ _ _ _=>rfl) rfl (fun _ _ _ _=>rfl) (w64_succ hi (by omega))
   rw[hF,if_pos (by omega)]
set_option maxHeartbeats 400000 in
theorem step21f(h:P21 K n ms na a)(hw:OkW n i w)(hi:i<na){q:Nat}(hx:Int.tmod (w64 (a (i:Int).toNat).n) (w.m:Int)=q)(hq:q<w.m)(he:(w.f q).pk≠true):Sat Tryz.prog (sub [0,0,0,1,1,1,1,0,0,0,1] (b21 K (n-w.B) (fun j=>ms (w.B+j)) w.B (xorV K 1) (w.R-w.T) (fun j=>ms (w.T+j)) w.R na a w.m (fun q=>flOf K ms (w.f q)) w.T ms i)) fun r=>r.1=.normal/\Gc 6 r.2 (iv21 K n ms na a { w with B:=max w.B (w.f q).v } (i+1)):=by
 have hna:=h.hna
 have hn:=h.hn
 have hR:=hw.rn
 have hB:=hw.br
 have hv:=hw.fl q hq
 rw[if_neg he] at hv
 have T:=B21f_eq K (n-w.B) (fun j=>ms (w.B+j)) w.B (xorV K 1) (w.R-w.T) (fun j=>ms (w.T+j)) w.R na a w.m (fun q=>flOf K ms (w.f q)) w.T ms i
 rw[hx,Int.toNat_natCast,Nat.zero_add q] at T
 have hf:flOf K ms (w.f q)=⟨0,-1,(w.f q).v,ms0,tgN K 0 ms0.b (-1) (w.f q).v 0⟩:=by unfold flOf;rw[if_neg he]
 rw[hf] at T
 dsimp only at T
 generalize (w.f q).v=v at T hv ⊢
 have eE:rvE 0 (-1) 0=0:=rfl
 have eR:rvR 0 (-1) 0=0:=rfl
 have ew:w64 ((v:Int)-w.B)=(v:Int)-w.B:=w64_of (by omega) (by omega)
 have eD:rvD w.B v=v-w.B:=by unfold rvD;rw[ew];omega
 have eB:rvB w.B v=((max w.B v:Nat):Int):=by
  unfold rvB;rw[ew]
  split<;>omega
 rw[eE,eR,eD,eB] at T
 refine Sat.of_eq T ⟨⟨⟨lkD_l h hw,byD_of (by decide)⟩,acB_false (by omega) (fun _=>rfl) (by omega) (by rw[ew];omega) (by decide),rfl⟩,fun _=>⟨⟨msD_of (f:=fun j=>ms (w.B+(v-w.B+j))) (by omega) fun j hj=>h.hms _ (by omega),msD_of (f:=rvF 0 (fun _=>ms0) ms0) (by omega) fun j hj=>absurd hj (Nat.not_lt_zero _)⟩,⟨by omega,by omega,by omega,by omega,by omega,by omega⟩⟩,ft,fun _=>⟨fun _=>⟨rfl,?_⟩,tf⟩⟩
 refine gc21 (leDs_lk (by show n-w.B-(v-w.B)=n-max w.B v;omega) (fun j _=>?_) rfl rfl (fun j hj=>absurd hj (Nat.not_lt_zero _)) rfl) (leDs_lk rfl (fun _ _=>rfl) rfl rfl (fun _ _=>rfl) rfl) rfl (fun _ _ _ _=>rfl) rfl (fun _ _ _ _=>rfl) (w64_succ hi (by omega))
 show ms (w.B+(v-w.B+j))=ms (max w.B v+j)
 rw[show w.B+(v-w.B+j)=max w.B v+j by omega]
theorem step21d(h:P21 K n ms na a)(hw:OkW n i w)(hi:i<na)(k0:kk21 a i≠0)(k1:kk21 a i≠1)(k2:kk21 a i≠2):Sat Tryz.prog (sub [0,0,0,1,1,1] (b21 K (n-w.B) (fun j=>ms (w.B+j)) w.B (xorV K 1) (w.R-w.T) (fun j=>ms (w.T+j)) w.R na a w.m (fun q=>flOf K ms (w.f q)) w.T ms i)) fun r=>r.1=.normal/\Gc 6 r.2 (iv21 K n ms na a (stpM n (kk21 a i) (nn21 a i) w) (i+1)):=by
 have hna:=h.hna
 have T:=B21d_eq K (n-w.B) (fun j=>ms (w.B+j)) w.B (xorV K 1) (w.R-w.T) (fun j=>ms (w.T+j)) w.R na a w.m (fun q=>flOf K ms (w.f q)) w.T ms i
 refine Sat.of_eq T ⟨fun hm=>⟨rfl,?_⟩,fun hm=>?_⟩
 ·rw[beq_iff_eq] at hm
  have e:stpM n (kk21 a i) (nn21 a i) w=w:=by
   unfold stpM
   rw[if_neg k0,if_neg k1,if_neg k2,if_pos (by omega)]
  rw[e]
  exact iv_same hi hna
 ·rw[beq_eq_false_iff_ne] at hm
  have hm:w.m≠0:=by omega
  obtain⟨q,hx,hq,hq2⟩:=pool_q h hw hi hm
  have e:stpM n (kk21 a i) (nn21 a i) w=if(w.f q).pk=true then(if(w.f q).v=w.R then { w with R:=w.R+1 } else w) else { w with B:=max w.B (w.f q).v }:=by
   unfold stpM
   rw[if_neg k0,if_neg k1,if_neg k2,if_neg hm,hq2]
  rw[e]
  refine⟨by omega,by rw[hx];omega,by rw[hx];omega,fun hp=>?_,fun hp=>?_⟩
  ·rw[hx,Int.toNat_natCast,Nat.zero_add,beq_iff_eq] at hp
   have he:(w.f q).pk=true:=by
    rcases Bool.eq_false_or_eq_true (w.f q).pk with h1|h1
    ·exact h1
    ·unfold flOf at hp
     rw[if_neg (by rw[h1];decide)] at hp
     exact absurd hp (by show ¬((0:Int)=1);decide)
   rw[if_pos he]
   refine Sat.ok ?_
   exact step21e h hw hi hx hq he
  ·rw[hx,Int.toNat_natCast,Nat.zero_add,beq_eq_false_iff_ne] at hp
   have he:(w.f q).pk≠true:=by
    intro h1
    unfold flOf at hp
    rw[if_pos h1] at hp
    exact hp rfl
   rw[if_neg he]
   refine Sat.ok ?_
   exact step21f h hw hi hx hq he
theorem step21(h:P21 K n ms na a)(hw:OkW n i w)(hi:i<na):Sat Tryz.prog (b21 K (n-w.B) (fun j=>ms (w.B+j)) w.B (xorV K 1) (w.R-w.T) (fun j=>ms (w.T+j)) w.R na a w.m (fun q=>flOf K ms (w.f q)) w.T ms i) fun r=>r.1=.normal/\Gc 6 r.2 (iv21 K n ms na a (stpM n (kk21 a i) (nn21 a i) w) (i+1)):=by
 have hk:∀z:Int,(Int.tmod (a (i:Int).toNat).k 4==z)=true ↔ kk21 a i=z:=fun z=>by rw[Int.toNat_natCast,beq_iff_eq];rfl
 have hk':∀z:Int,(Int.tmod (a (i:Int).toNat).k 4==z)=false ↔ kk21 a i≠z:=fun z=>by rw[Int.toNat_natCast,beq_eq_false_iff_ne];rfl
 refine Sat.of_eq (B21_eq K (n-w.B) (fun j=>ms (w.B+j)) w.B (xorV K 1) (w.R-w.T) (fun j=>ms (w.T+j)) w.R na a w.m (fun q=>flOf K ms (w.f q)) w.T ms i) ?_
 refine sIte (fun _=>?_) fun h1=>?_
 ·refine sNeed (by omega) (sNeed (by decide) (sIte (fun h0=>?_) fun h0=>sIte (fun h1=>?_) fun h1=>sIte (fun h2=>?_) fun h2=>?_))
  ·exact step21a h hw hi ((hk 0).1 h0)
  ·exact step21b h hw hi ((hk 1).1 h1)
  ·exact step21c h hw hi ((hk 2).1 h2)
  ·exact step21d h hw hi ((hk' 0).1 h0) ((hk' 1).1 h1) ((hk' 2).1 h2)
 ·simp only[decide_eq_false_iff_not] at h1;omega
end
set_option maxHeartbeats 400000 in
theorem s21{K:Int}{n:Nat}{ms:Nat->MsT}{na:Nat}{a:Nat->AcT}(h:P21 K n ms na a):Sat Tryz.prog (t21 K n ms (xorV K 1) na a) (·=.tup [lkS K (n-(runM n (kk21 a) (nn21 a) na).B) (fun j=>ms ((runM n (kk21 a) (nn21 a) na).B+j)) (runM n (kk21 a) (nn21 a) na).B 0 (fun _=>ms0) 0,lkS (xorV K 1) 0 (fun _=>ms0) 0 ((runM n (kk21 a) (nn21 a) na).R-(runM n (kk21 a) (nn21 a) na).T) (fun j=>ms ((runM n (kk21 a) (nn21 a) na).T+j)) (runM n (kk21 a) (nn21 a) na).R,.d (.ro (runM n (kk21 a) (nn21 a) na).T 1 fun i j=>msC (ms (0+i)) j),bv true]):=by
 refine Sat.of_eq (L21_eq K n ms (xorV K 1) na a) ⟨?_⟩
 have hok:∀i,i<=na->OkW n i (runM n (kk21 a) (nn21 a) i):=fun i hi=>okM_run i fun q hq=>(h.ha q (by omega)).1
 refine for_satS C21_ok D21_ok (n:=200) (n0:=6) (nx:=8) (roots:=[(.slot 10,6),(.slot 11,7)]) (keep:=[2,3,4,6,7,10,11,12]) (drop:=[4,5]) (h:=.nil) (body:=loopN (bodyOf Tryz.prog 21) 0) (by kernel_rfl) (by kernel_rfl) na (fun i=>iv21 K n ms na a (runM n (kk21 a) (nn21 a) i) i) (fun i=>True)
  (fun e t=>e=.exit 0/\t=iv21 K n ms na a (runM n (kk21 a) (nn21 a) na) na) trivial ?_ ?_ ?_ ?_
 ·refine(entA_sound (E21_eq K n ms (xorV K 1) na a)).trans ?_
  exact gc_hp rfl rfl ⟨.inr ⟨_,_,rfl,rfl,.cellsD (leDs_lk rfl (fun i _=>by show ms i=ms (0+i);rw[Nat.zero_add]) rfl rfl (fun _ _=>rfl) rfl)⟩,.inr ⟨_,_,rfl,rfl,.cellsD (leDs_lk rfl (fun _ _=>rfl) rfl rfl (fun i hi=>absurd hi (Nat.not_lt_zero _)) rfl)⟩,.inr ⟨_,_,rfl,rfl,.refl _⟩,.inr ⟨_,_,rfl,rfl,.refl _⟩,.inl rfl,.inl rfl,.inr ⟨_,_,rfl,rfl,.cells rfl fun x y hx hy=>absurd hx (Nat.not_lt_zero _)⟩,.inr ⟨_,_,rfl,rfl,.cells rfl fun x y hx hy=>absurd hx (Nat.not_lt_zero _)⟩,trivial⟩
 ·intro i hi _
  exact⟨Tree.sat_mono (fun r hr=>.inl ⟨hr.1,trivial,hr.2⟩) (step21 h (hok i (by omega)) hi).ok⟩
 ·intro _
  refine Sat.of_eq (B21_eq K (n-(runM n (kk21 a) (nn21 a) na).B) (fun j=>ms ((runM n (kk21 a) (nn21 a) na).B+j)) (runM n (kk21 a) (nn21 a) na).B (xorV K 1) ((runM n (kk21 a) (nn21 a) na).R-(runM n (kk21 a) (nn21 a) na).T) (fun j=>ms ((runM n (kk21 a) (nn21 a) na).T+j)) (runM n (kk21 a) (nn21 a) na).R na a (runM n (kk21 a) (nn21 a) na).m (fun q=>flOf K ms ((runM n (kk21 a) (nn21 a) na).f q)) (runM n (kk21 a) (nn21 a) na).T ms na) ⟨fun h1=>by simp only[decide_eq_true_eq] at h1;omega,fun _=>⟨nofun,rfl,rfl⟩⟩
 ·rintro e t ⟨rfl,rfl⟩
  exact Sat.of_eq (K21_eq K (n-(runM n (kk21 a) (nn21 a) na).B) (fun j=>ms ((runM n (kk21 a) (nn21 a) na).B+j)) (runM n (kk21 a) (nn21 a) na).B (xorV K 1) ((runM n (kk21 a) (nn21 a) na).R-(runM n (kk21 a) (nn21 a) na).T) (fun j=>ms ((runM n (kk21 a) (nn21 a) na).T+j)) (runM n (kk21 a) (nn21 a) na).R na a (runM n (kk21 a) (nn21 a) na).T ms na n ms (runM n (kk21 a) (nn21 a) na).m fun q j=>flC (flOf K ms ((runM n (kk21 a) (nn21 a) na).f q)) j) ⟨by omega,rfl⟩
def _root_.Go.Proofs.AcD(na:Nat)(A:Nat->Nat->Sx.DV):Prop:=na<=1000000000/\∀i,i<na->(A i 0=.x (.int .u8 (numV (A i 0))))/\(A i 1=.x (.int .u8 (numV (A i 1)))/\0<=numV (A i 1)/\numV (A i 1)<256)/\A i 2=.ro (lenV (A i 2)) 1 (cellV (A i 2))
def acR(A:Nat->Nat->Sx.DV)(i:Nat):AcT:=⟨numV (A i 0),numV (A i 1),lenV (A i 2),cellV (A i 2)⟩
noncomputable def takN(n:Nat)(na:Nat)(A:Nat->Nat->Sx.DV):Nat:=(runM n (kk21 (acR A)) (nn21 (acR A)) na).T
noncomputable def endW(n:Nat)(na:Nat)(A:Nat->Nat->Sx.DV):WdT:=runM n (kk21 (acR A)) (nn21 (acR A)) na
theorem takN_le{n na:Nat}{A:Nat->Nat->Sx.DV}(h:AcD na A):takN n na A<=n:=by
 have:=okM_run (n:=n) (k:=kk21 (acR A)) (N:=nn21 (acR A)) na fun q hq=>(h.2 q hq).2.1.2.1
 unfold takN
 have h1:=this.tr
 have h2:=this.rn
 omega
def _root_.Go.Proofs.DlD(K:Int)(n:Nat)(FO:Nat->Nat->Sx.DV)(K1:Int)(na:Nat)(A:Nat->Nat->Sx.DV):Prop:=(0<=K/\K<18446744073709551616/\K1=xorV K 1)/\n<=30/\MsD n FO/\AcD na A
noncomputable def c21:Ctr:=fun ss=>match ss with
 |[.agg [.d (.x (.int .u64 K)),.d (.ro n 1 FO),.d (.x (.int .i64 base)),.d (.ro ni 1 FI),.d (.x (.int .i64 rc))],.agg [.d (.x (.int .u64 K1)),.d (.ro no2 1 FO2),.d (.x (.int .i64 base2)),.d (.ro ni2 1 FI2),.d (.x (.int .i64 rc2))],.d (.ro na 3 A)]=>.need (DlD K n FO K1 na A/\(base=0/\ni=0/\rc=0)/\no2=0/\base2=0/\ni2=0/\rc2=0)
   (.ret (.tup [lkS K (n-(endW n na A).B) (fun j=>msF FO ((endW n na A).B+j)) (endW n na A).B 0 (fun _=>ms0) 0,lkS (xorV K 1) 0 (fun _=>ms0) 0 ((endW n na A).R-(endW n na A).T) (fun j=>msF FO ((endW n na A).T+j)) (endW n na A).R,msS (takN n na A) (msF FO),bv true]))
 |_=>.fail
theorem c21_ok:CtrOK Tryz.prog 21 c21:=ctrOK_leR C21_ok D21_ok (by kernel_rfl) (by kernel_rfl) fun ss r h=>by
 unfold c21 at h
 split at h
 ·rename_i K n FO base ni FI rc K1 no2 FO2 base2 ni2 FI2 rc2 na A
  obtain⟨⟨⟨⟨h1,h2,rfl⟩,h3,h4,h5⟩,⟨rfl,rfl,rfl⟩,rfl,rfl,rfl,rfl⟩,rfl⟩:=h
  have hp:P21 K n (msF FO) na (acR A):=⟨h1,h2,h3,fun i hi=>(h4.2 i hi).2,h5.1,fun i hi=>(h5.2 i hi).2.1.2⟩
  refine⟨[lkS K n (msF FO) 0 0 (fun _=>ms0) 0,lkS (xorV K 1) 0 (fun _=>ms0) 0 0 (fun _=>ms0) 0,acS na (acR A)],200,.nil,?_,⟨Tree.sat_mono (fun r hr=>?_) (s21 hp).ok⟩⟩
  ·have a1:leSV 0 [] [] (.d (.ro n 1 FO)) (msS n (msF FO)):=msD_le h4
   have a2:∀F,leSV 0 [] [] (.d (.ro 0 1 F)) (msS 0 fun _=>ms0):=fun F=>⟨rfl,rfl,fun i j hi=>absurd hi (Nat.not_lt_zero _)⟩
   have a3:leSV 0 [] [] (.d (.ro na 3 A)) (acS na (acR A)):=⟨rfl,rfl,fun i j hi hj=>by
    obtain⟨g1,g2,g3⟩:=h5.2 i hi
    match j,hj with
    |0,_=>exact g1
    |1,_=>exact g2.1
    |2,_=>exact g3⟩
   unfold lkS
   simp only[leSVs,leSV,and_true]
   exact⟨⟨rfl,a1,rfl,a2 _,rfl⟩,⟨rfl,a2 _,rfl,a2 _,rfl⟩,a3⟩
  ·subst hr
   have b1:leSV 0 [] [] (.d (.ro (takN n na A) 1 fun i j=>msC (msF FO (0+i)) j)) (msS (takN n na A) (msF FO)):=⟨rfl,rfl,fun i j hi hj=>by
    show msC (msF FO (0+i)) j=msC (msF FO i) j
    rw[Nat.zero_add]⟩
   have b3:∀n f,leSV 0 [] [] (msS n f) (msS n f):=fun n f=>⟨rfl,rfl,fun i j hi hj=>rfl⟩
   unfold takN at b1 ⊢
   unfold endW lkS
   simp only[leSVs,leSV,and_true]
   exact⟨⟨rfl,b3 _ _,rfl,b3 _ _,rfl⟩,⟨rfl,b3 _ _,rfl,b3 _ _,rfl⟩,b1,rfl⟩
 ·exact h.elim
end Go.Proofs.YtanlnopgadbpjaaGreat.Rw
namespace Go.Sx
def psLt(a b:Ps):Prop:=a.p<b.p\/(a.p=b.p/\(a.f<b.f\/(a.f=b.f/\a.w<b.w)))
theorem wsL_mem(i k:Nat){q:Ps}:∀w,q∈wsL i k w->q.p=i/\q.f=k/\q.w<w
 |0,h=>by cases h
 |w+1,h=>by
  unfold wsL at h
  rcases List.mem_append.1 h with h|h
  ·have:=wsL_mem i k w h;exact⟨this.1,this.2.1,by omega⟩
  ·obtain rfl:=List.mem_singleton.1 h;exact⟨rfl,rfl,by show w<w+1;omega⟩
theorem fsL_mem(nn:Nat->Nat->Nat)(i:Nat){q:Ps}:∀k,q∈fsL nn i k->q.p=i/\q.f<k/\q.w<nn i q.f
 |0,h=>by cases h
 |k+1,h=>by
  unfold fsL at h
  rcases List.mem_append.1 h with h|h
  ·have:=fsL_mem nn i k h;exact⟨this.1,by omega,this.2.2⟩
  ·have:=wsL_mem _ _ _ h;exact⟨this.1,by omega,by rw[this.2.1];exact this.2.2⟩
theorem psL_mem(m:Nat->Nat)(nn:Nat->Nat->Nat){q:Ps}:∀i,q∈psL m nn i->q.p<i/\q.f<m q.p/\q.w<nn q.p q.f
 |0,h=>by cases h
 |i+1,h=>by
  unfold psL at h
  rcases List.mem_append.1 h with h|h
  ·have:=psL_mem m nn i h;exact⟨by omega,this.2⟩
  ·have:=fsL_mem _ _ _ h;exact⟨by omega,by rw[this.1];exact this.2.1,by rw[this.1];exact this.2.2⟩
theorem wsL_srt(i k:Nat):∀w,(wsL i k w).Pairwise psLt
 |0=>List.Pairwise.nil
 |w+1=>by
  unfold wsL
  refine List.pairwise_append.2 ⟨wsL_srt i k w,List.pairwise_singleton _ _,fun a ha b hb=>?_⟩
  have h1:=wsL_mem _ _ _ ha
  obtain rfl:=List.mem_singleton.1 hb
  exact .inr ⟨h1.1,.inr ⟨h1.2.1,h1.2.2⟩⟩
theorem fsL_srt(nn:Nat->Nat->Nat)(i:Nat):∀k,(fsL nn i k).Pairwise psLt
 |0=>List.Pairwise.nil
 |k+1=>by
  unfold fsL
  refine List.pairwise_append.2 ⟨fsL_srt nn i k,wsL_srt _ _ _,fun a ha b hb=>?_⟩
  have h1:=fsL_mem _ _ _ ha
  have h2:=wsL_mem _ _ _ hb
  exact .inr ⟨by omega,.inl (by omega)⟩
theorem psL_srt(m:Nat->Nat)(nn:Nat->Nat->Nat):∀i,(psL m nn i).Pairwise psLt
 |0=>List.Pairwise.nil
 |i+1=>by
  unfold psL
  refine List.pairwise_append.2 ⟨psL_srt m nn i,fsL_srt _ _ _,fun a ha b hb=>?_⟩
  have h1:=psL_mem _ _ _ ha
  have h2:=fsL_mem _ _ _ hb
  exact .inl (by omega)
def ptLt(a b:Pt):Prop:=a.p<b.p\/(a.p=b.p/\(a.f<b.f\/(a.f=b.f/\a.w<b.w)))
def ptO(a b:Nat->Nat->Nat->Int)(q:Ps):Pt:=⟨q.p,q.f,q.w,xorV (a q.p q.f q.w) (b q.p q.f q.w)⟩
theorem dfO_mem{a b:Nat->Nat->Nat->Int}{q:Ps}{p:Pt}:p∈dfO a b q ↔ p=ptO a b q/\p.x≠0:=by
 unfold dfO
 split
 ·rename_i h
  refine⟨fun h=>(by cases h),fun h2=>?_⟩
  obtain⟨rfl,h3⟩:=h2
  exact absurd h h3
 ·rename_i h
  rw[List.mem_singleton]
  refine⟨fun h2=>?_,fun h2=>h2.1⟩
  subst h2
  exact⟨rfl,h⟩
theorem dfL_mem{a b:Nat->Nat->Nat->Int}{l:List Ps}{p:Pt}:p∈dfL a b l ↔ ∃q,q∈l/\p=ptO a b q/\p.x≠0:=by
 unfold dfL
 rw[List.mem_flatMap]
 exact⟨fun⟨q,h1,h2⟩=>⟨q,h1,dfO_mem.1 h2⟩,fun⟨q,h1,h2⟩=>⟨q,h1,dfO_mem.2 h2⟩⟩
theorem dfL_srt(a b:Nat->Nat->Nat->Int):∀l:List Ps,l.Pairwise psLt->(dfL a b l).Pairwise ptLt
 |[],_=>List.Pairwise.nil
 |q::l,h=>by
  obtain⟨h1,h2⟩:=List.pairwise_cons.1 h
  have ih:=dfL_srt a b l h2
  have e:dfL a b (q::l)=dfO a b q++dfL a b l:=rfl
  rw[e]
  refine List.pairwise_append.2 ⟨?_,ih,fun x hx y hy=>?_⟩
  ·unfold dfO
   split
   ·exact List.Pairwise.nil
   ·exact List.pairwise_singleton _ _
  ·obtain⟨rfl,_⟩:=dfO_mem.1 hx
   obtain⟨r,hr,rfl,_⟩:=dfL_mem.1 hy
   have:=h1 r hr
   unfold psLt at this
   show((q.p:Int)<r.p)\/((q.p:Int)=r.p/\(((q.f:Int)<r.f)\/((q.f:Int)=r.f/\((q.w:Int)<r.w))))
   omega
theorem ptLt_key{a b:Pt}(h:ptLt a b):ptK a≠ptK b:=by
 intro e
 unfold ptK at e
 injection e with e1 e
 injection e with e2 e
 injection e with e3 e
 unfold ptLt at h
 omega
theorem ptLt_cmp{a b:Pt}(h:ptLt a b):cmpP a b<0:=by unfold cmpP;rw[cmp3_neg];exact h
theorem valL_mem{L:List Pt}(hd:Dst L){p:Pt}(hp:p∈L):valL L (ptK p)=p.x:=by
 unfold valL
 have:L.find? (fun q=>keyEq (ptK q) (ptK p))=some p:=by
  induction L with
  |nil=>cases hp
  |cons a L ih =>
   obtain⟨h1,h2⟩:=List.pairwise_cons.1 hd
   rw[List.find?_cons]
   by_cases hk:ptK a=ptK p
   ·rcases List.mem_cons.1 hp with rfl|hp
    ·rw[show keyEq (ptK p) (ptK p)=true from keyEq_iff.2 rfl]
    ·exact absurd hk (h1 p hp)
   ·rw[show keyEq (ptK a) (ptK p)=false from Bool.eq_false_iff.2 fun h=>hk (keyEq_iff.1 h)]
    refine ih h2 ?_
    rcases List.mem_cons.1 hp with rfl|hp
    ·exact absurd rfl hk
    ·exact hp
 rw[this]
theorem xorV_zero{a:Int}(h:0<=a)(h2:a<18446744073709551616):xorV a 0=a:=by
 rw[xorV_nat h h2 (by decide) (by decide)]
 simp;omega
theorem xorV_eq0{a b:Int}(ha:0<=a)(ha2:a<18446744073709551616)(hb:0<=b)(hb2:b<18446744073709551616)(h:xorV a b=0):b=a:=by
 have:=xorV_twice ha ha2 hb hb2
 rw[h,xorV_zero ha ha2] at this
 exact this.symm
end Go.Sx
namespace Go.Proofs.YtanlnopgadbpjaaGreat.Rw
open Go.Proofs.YtanlnopgadbpjaaGreat.Rm
open Go.Sx
section
variable {n : Nat} {x y : Nat → FsT}
def WrdU(n:Nat)(x:Nat->FsT):Prop:=∀i k j,i<n->k<(x i).n->j<((x i).f k).n->0<=((x i).f k).w j/\((x i).f k).w j<18446744073709551616
noncomputable def dA(n:Nat)(x y:Nat->FsT):List Pt:=dF x y n 0 0
theorem dA_eq:dA n x y=dfL (wwF x) (wwF y) (psL (mmF x) (nnF x) n):=by unfold dA dF;rw[preL_end]
theorem dA_mem{p:Pt}:p∈dA n x y->∃q:Ps,InW n x q.p q.f q.w/\p=ptO (wwF x) (wwF y) q/\p.x≠0:=by
 rw[dA_eq,dfL_mem]
 rintro⟨q,h1,h2⟩
 obtain⟨a1,a2,a3⟩:=psL_mem _ _ _ h1
 exact⟨q,⟨a1,a2,a3⟩,h2⟩
theorem dA_srt:(dA n x y).Pairwise ptLt:=by rw[dA_eq];exact dfL_srt _ _ _ (psL_srt _ _ _)
theorem dA_in{p:Pt}(h:p∈dA n x y):PtIn n x p:=by
 obtain⟨q,h1,rfl,_⟩:=dA_mem h
 exact⟨h1,by show(0:Int)<=(q.p:Int);omega,by show(0:Int)<=(q.f:Int);omega,by show(0:Int)<=(q.w:Int);omega⟩
theorem srt_dst{L:List Pt}(h:L.Pairwise ptLt):Dst L:=h.imp ptLt_key
theorem srt_nrm{L:List Pt}(h:L.Pairwise ptLt)(h0:∀p∈L,p.x≠0):NrmP L.length (ptF L):=by
 have hg:∀i (hi:i<L.length),ptF L i=L[i]:=fun i hi=>by unfold ptF;simp[hi]
 intro i hi
 refine⟨?_,fun h1=>?_⟩
 ·rw[hg i hi];exact h0 _ (List.getElem_mem hi)
 ·rw[hg i hi,hg (i-1) (by omega)]
  exact ptLt_cmp (List.pairwise_iff_getElem.1 h (i-1) i (by omega) hi (by omega))
theorem dA_has{i k w:Nat}(h:InW n x i k w)(hne:xorV (((x i).f k).w w) (((y i).f k).w w)≠0):ptO (wwF x) (wwF y) ⟨i,k,w⟩∈dA n x y:=by
 rw[dA_eq,dfL_mem]
 have hg:=posW_get (m:=mmF x) (nn:=nnF x) h.hi h.hk h.hw
 exact⟨⟨i,k,w⟩,List.mem_of_getElem? hg,rfl,hne⟩
theorem ap_whole(hx:WrdU n x)(hy:WrdU n y)(hs:shQ n x n y){i k w:Nat}(h:InW n x i k w):apW x (dA n x y) i k w=((y i).f k).w w:=by
 have h1:=hx i k w h.hi h.hk h.hw
 have hsh:=hs.2 i h.hi
 have h2:=hy i k w h.hi (by rw[<- hsh.1];exact h.hk) (by rw[<- hsh.2 k h.hk];exact h.hw)
 unfold apW
 by_cases hne:xorV (((x i).f k).w w) (((y i).f k).w w)=0
 ·have h3:=xorV_eq0 h1.1 h1.2 h2.1 h2.2 hne
  rw[valL_none,xorV_zero h1.1 h1.2,h3]
  rw[hasL_false]
  intro p hp hk
  obtain⟨⟨a,b,c⟩,hq,rfl,hx0⟩:=dA_mem hp
  unfold ptK ptO at hk
  injection hk with e1 hk
  injection hk with e2 hk
  injection hk with e3 hk
  have e1:a=i:=by
   have e:(a:Int)=(i:Int):=e1
   omega
  have e2:b=k:=by
   have e:(b:Int)=(k:Int):=e2
   omega
  have e3:c=w:=by
   have e:(c:Int)=(w:Int):=e3
   omega
  subst e1;subst e2;subst e3
  exact hx0 hne
 ·have hv:=valL_mem (srt_dst dA_srt) (dA_has h hne)
  have e:ptK (ptO (wwF x) (wwF y) ⟨i,k,w⟩)=[(i:Int),(k:Int),(w:Int)]:=rfl
  rw[<- e,hv]
  exact xorV_twice h1.1 h1.2 h2.1 h2.2
end
end Go.Proofs.YtanlnopgadbpjaaGreat.Rw
namespace Go.Sx
variable [Globs]
def SLe(s s':SV):Prop:=∀(w:World) (F:Nat->Prop) (v:Value),Rep w emp F v s->Rep w emp F v s'
def SLes(ss ss':List SV):Prop:=∀(w:World) (F:Nat->Prop) (vs:Array Value),Reps w emp F vs ss->Reps w emp F vs ss'
def DLe(a b:DV):Prop:=∀(w:World) (F:Nat->Prop) (v:Value),RepD w F v a->RepD w F v b
theorem DLe.refl(a:DV):DLe a a:=fun _ _ _ h=>h
theorem DLe.row{n e:Nat}{c c':Nat->Nat->DV}(h:∀i j,i<n->j<e->DLe (c i j) (c' i j)):DLe (.ro n e c) (.ro n e c'):=by
 intro w F v hr
 generalize hd:DV.ro n e c=d at hr
 cases hr with
 |x=>cases hd
 |rf=>cases hd
 |nil=>cases hd;exact .nil _ _
 |z=>cases hd;exact .z _ _ _ _
 |ro b o len cap esz cell f hF hc hcell hone hrep=>cases hd;exact .ro b o n cap e c' f hF hc hcell hone fun i j hi hj=>h i j hi hj w F _ (hrep i j hi hj)
theorem SLe.d{a b:DV}(h:DLe a b):SLe (.d a) (.d b):=fun w F v hr=>.d (h w F v (rep_d hr))
def SLesR:List SV->List SV->Prop
 |[],[]=>True
 |a::r,b::r'=>SLe a b/\SLesR r r'
 |_,_=>False
theorem SLesR.get:∀{ss ss':List SV},SLesR ss ss'->ss.length=ss'.length/\∀i,i<ss.length->SLe (ss.getD i uv) (ss'.getD i uv)
 |[],[],_=>⟨rfl,fun i hi=>by simp at hi⟩
 |a::r,b::r',h=>by
  obtain⟨h1,h2⟩:=SLesR.get h.2
  refine⟨by simp[h1],fun i hi=>?_⟩
  cases i with
  |zero=>simpa using h.1
  |succ i=>simpa using h2 i (by simpa using hi)
theorem SLesR.les{ss ss':List SV}(h:SLesR ss ss'):SLes ss ss':=by
 intro w F vs hr
 obtain⟨h1,h2⟩:=h.get
 exact⟨by rw[<- h1];exact hr.1,fun i hi=>h2 i (by omega) w F _ (hr.2 i (by omega))⟩
theorem CtrOK.repA{P:Program}{k:FuncId}{c d:Ctr}(h:CtrOK P k c)(hd:∀ss r,(d ss).ev r->∃ss',SLes ss ss'/\(c ss').ev r):CtrOK P k d:=fun ss vs w F r hF hgl hr he=>by
 obtain⟨ss',h1,h2⟩:=hd ss r he
 exact h ss' vs w F r hF hgl (h1 w F vs hr) h2
def _root_.Go.Proofs.XN(c:Ctr)(r:SV)(ss:List SV):Prop:=∃ss' r',SLes ss ss'/\(c ss').ev r'/\leSV 0 [] [] r' r
def cX(c:Ctr)(r:SV):Ctr:=fun ss=>.need (Proofs.XN c r ss) (.ret r)
theorem cX_ok{P:Program}{k:FuncId}{c:Ctr}(h:CtrOK P k c)(r:SV):CtrOK P k (cX c r):=by
 have h2:CtrOK P k fun ss=>.need (∃ss',SLes ss ss'/\∃r',(c ss').ev r'/\leSV 0 [] [] r' r) (.ret r) :=
  CtrOK.repA (c:=fun ss=>.need (∃r',(c ss).ev r'/\leSV 0 [] [] r' r) (.ret r)) (CtrOK.leR h fun ss r0 hr=>by
   obtain⟨h1,rfl⟩:=hr
   exact h1) fun ss r0 hr=>by
    obtain⟨⟨ss',h1,h2⟩,h3⟩:=hr
    exact⟨ss',h1,h2,h3⟩
 exact h2.mono fun ss r0 hr=>by
  obtain⟨⟨ss',r',h1,h2,h3⟩,h4⟩:=hr
  exact⟨⟨ss',h1,r',h2,h3⟩,h4⟩
theorem leD_refl(d:DV):leD d d:=by cases d<;>simp[leD]
mutual
def plainS:SV->Bool
 |.d _=>true
 |.agg cs=>plainsS cs
 |.tup cs=>plainsS cs
 |_=>false
def plainsS:List SV->Bool
 |[]=>true
 |a::r=>plainS a&&plainsS r
end
mutual
theorem leSV_refl:∀s:SV,plainS s=true->leSV 0 [] [] s s
 |.d d,_=>by simp only[leSV];exact leD_refl d
 |.agg cs,h=>by simp only[leSV];exact leSVs_refl cs (by simpa [plainS] using h)
 |.tup cs,h=>by simp only[leSV];exact leSVs_refl cs (by simpa [plainS] using h)
theorem leSVs_refl:∀cs:List SV,plainsS cs=true->leSVs 0 [] [] cs cs
 |[],_=>by simp only[leSVs]
 |a::r,h=>by
  simp only[plainsS,Bool.and_eq_true] at h
  simp only[leSVs]
  exact⟨leSV_refl a h.1,leSVs_refl r h.2⟩
end
theorem xn_self{c:Ctr}{r:SV}{ss:List SV}{r':SV}(h2:(c ss).ev r')(h3:leSV 0 [] [] r' r):Proofs.XN c r ss:=⟨ss,r',fun _ _ _ h=>h,h2,h3⟩
theorem xn_eq{c:Ctr}{r:SV}{ss:List SV}(hp:plainS r=true)(h2:(c ss).ev r):Proofs.XN c r ss:=⟨ss,r,fun _ _ _ h=>h,h2,leSV_refl r hp⟩
theorem xn_of{c:Ctr}{r:SV}{ss ss':List SV}{r':SV}(h1:SLesR ss ss')(h2:(c ss').ev r')(h3:leSV 0 [] [] r' r):Proofs.XN c r ss:=⟨ss',r',h1.les,h2,h3⟩
end Go.Sx
namespace Go.Proofs.YtanlnopgadbpjaaGreat.Rw
open Go.Proofs.YtanlnopgadbpjaaGreat.Rm
open Go.Sx
noncomputable def exP:Pt:=⟨1,2,3,9223372036854775813⟩
noncomputable def exM:MsT:=⟨11,pkB exP⟩
noncomputable def manE(ck:Int):FuncId->Option Ctr:=fun k=>match k with
 |20=>some (cX c20 (nmS .u8 11 (pkB exP)))
 |22=>some (cX c22 (ptS 1 fun _=>exP))
 |17=>some (cX c17 (.tup [lkS 8 0 (fun _=>ms0) 0 0 (fun _=>ms0) 0,lkS 9 0 (fun _=>ms0) 0 0 (fun _=>ms0) 0]))
 |18=>some (cX c18b (bv true))
 |19=>some (cX c19 (.tup [lkS 8 1 (fun _=>exM) 0 0 (fun _=>ms0) 0,iv 0]))
 |33=>some (cX c33 (.tup [pkS 0 0 exM ck,iv 0]))
 |34=>some (cX c34b (.tup [lkS 9 0 (fun _=>ms0) 0 1 (fun _=>exM) 1,iv 0]))
 |7=>some (cX c7 (.tup [ptS 1 fun _=>⟨0,0,0,2⟩,iv 0]))
 |_=>none
theorem manE_ok(ck:Int)(k:Nat)(c:Ctr)(hk:manE ck k=some c):CtrOK Tryz.prog k c/\goodF Tryz.prog k=true:=by
 unfold manE at hk
 split at hk
 ·cases hk;exact⟨cX_ok c20_ok _,by kernel_rfl⟩
 ·cases hk;exact⟨cX_ok c22_ok _,by kernel_rfl⟩
 ·cases hk;exact⟨cX_ok c17_ok _,by kernel_rfl⟩
 ·cases hk;exact⟨cX_ok c18b_ok _,by kernel_rfl⟩
 ·cases hk;exact⟨cX_ok c19_ok _,by kernel_rfl⟩
 ·cases hk;exact⟨cX_ok c33_ok _,by kernel_rfl⟩
 ·cases hk;exact⟨cX_ok c34b_ok _,by kernel_rfl⟩
 ·cases hk;exact⟨cX_ok c7_ok _,by kernel_rfl⟩
 ·cases hk
noncomputable def CEz(ck:Int):Ctx:=ctxN Tryz.prog (manE ck) (fun _=>false) 200 .run 6
theorem CEz_ok(ck:Int):CtxOK Tryz.prog (CEz ck):=ctxN_ok mixed (manE_ok ck) 6
noncomputable def DEz(ck:Int):Dr:=drawnL Tryz.prog (CEz ck)
theorem DEz_ok(ck:Int):DrOK Tryz.prog (CEz ck) (DEz ck):=drawnL_ok (CEz_ok ck) mixed
noncomputable def t4(ck:Int):Tree SV:=fnT Tryz.prog (CEz ck) (DEz ck) 200 (fnOf Tryz.prog 4) (bodyOf Tryz.prog 4) [] .run
noncomputable def lk0(key:Int):SV:=lkS key 0 (fun _=>ms0) 0 0 (fun _=>ms0) 0
noncomputable def exF(a:Int):SV:=.d (.ro 1 1 fun i j=>dsAt [.ro 1 1 fun i j=>dsAt [.ro 1 1 fun i j=>dsAt [.x (.int .u64 a)] (0+(0+i)*1+j)] (i*1+j)] (i*1+j))
noncomputable def exA:SV:=.agg [iv 1,iv 2,iv 3,.d (.x (.int .u64 9223372036854775813))]
theorem L4_eq(ck:Int):t4 ck=.need (XN c20 (nmS .u8 11 (pkB exP)) [exA]) (.need (1<=1) (.need (XN c22 (ptS 1 fun _=>exP) [.d (.ro 1 1 fun i j=>dsAt [.ro 11 1 fun j x=>.x (.int .u8 (pkB exP j))] (0+(0+i)*1+j))])
 (.need (XN c17 (.tup [lk0 8,lk0 9]) [u64v 8]) (.need (XN c18b (bv true) [lk0 8]) (.need (XN c18b (bv true) [lk0 9]) (.need (XN c20 (nmS .u8 11 (pkB exP)) [exA])
 (.need (XN c19 (.tup [lkS 8 1 (fun _=>exM) 0 0 (fun _=>ms0) 0,iv 0]) [lk0 8,nmS .u8 11 (pkB exP)]) (.need (XN c18b (bv true) [lkS 8 1 (fun _=>exM) 0 0 (fun _=>ms0) 0])
 (.need (XN c33 (.tup [pkS 0 0 exM ck,iv 0]) [lkS 8 1 (fun _=>exM) 0 0 (fun _=>ms0) 0,iv 0]) (.need (XN c34b (.tup [lkS 9 0 (fun _=>ms0) 0 1 (fun _=>exM) 1,iv 0]) [lk0 9,pkS 0 0 exM ck])
 (.need (1<=1) (.need (1<=1) (.need (1<=1) (.need (1<=1) (.need (1<=1) (.need (1<=1) (.need (1<=1) (.need (1<=1) (.need (XN c7 (.tup [ptS 1 fun _=>⟨0,0,0,2⟩,iv 0]) [exF 7,exF 5]) (.ret (bv true))))))))))))))))))))):=by kernel_rfl
end Go.Proofs.YtanlnopgadbpjaaGreat.Rw
namespace Go.Proofs.YtanlnopgadbpjaaGreat
open Go.Sx
def fB(x:BitVec 64):BitVec 64:=((x*15485907386658061715#64) ^^^ ((x*15485907386658061715#64) >>> 32))*11562461410679940143#64
theorem wrapU(n:Int):IntKind.wrap .u64 n=((BitVec.ofInt 64 n).toNat:Int):=by
 rw[BitVec.toNat_ofInt]
 have h:0<=n%(2^64:Int):=Int.emod_nonneg _ (by decide)
 show n%18446744073709551616=_
 rw[show((2^64:Nat):Int)=18446744073709551616 by decide,Int.toNat_of_nonneg (by omega)]
theorem ofInt_nat(x:BitVec 64):BitVec.ofInt 64 (x.toNat:Int)=x:=by
 apply BitVec.eq_of_toNat_eq
 rw[BitVec.toNat_ofInt]
 have:=x.isLt
 omega
theorem mulU(x:BitVec 64)(n:Nat):BitVec.ofInt 64 ((x.toNat:Int)*(n:Int))=x*BitVec.ofNat 64 n:=by
 apply BitVec.eq_of_toNat_eq
 rw[BitVec.toNat_ofInt,BitVec.toNat_mul,BitVec.toNat_ofNat,<- Int.natCast_mul]
 rw[show((x.toNat*n:Nat):Int)%((2^64:Nat):Int)=((x.toNat*n%2^64:Nat):Int) from rfl,Int.toNat_natCast,Nat.mul_mod_mod]
theorem shrU(x:BitVec 64):BitVec.ofInt 64 (Int.fdiv (x.toNat:Int) 4294967296)=x >>> 32:=by
 apply BitVec.eq_of_toNat_eq
 have:=x.isLt
 rw[BitVec.toNat_ofInt,BitVec.toNat_ushiftRight,Nat.shiftRight_eq_div_pow,Int.fdiv_eq_ediv_of_nonneg _ (by decide)]
 omega
theorem stp_eq(s w:Int):stp s w=((fB (BitVec.ofInt 64 s ^^^ BitVec.ofInt 64 w)).toNat:Int):=by
 unfold stp fB
 generalize BitVec.ofInt 64 s ^^^ BitVec.ofInt 64 w=x
 simp only[wrapU,ofInt_nat]
 rw[show(15485907386658061715:Int)=((15485907386658061715:Nat):Int) from rfl,show(11562461410679940143:Int)=((11562461410679940143:Nat):Int) from rfl]
 simp only[mulU,ofInt_nat,shrU]
theorem xs_inv(a:BitVec 64):(a ^^^ (a >>> 32)) ^^^ ((a ^^^ (a >>> 32)) >>> 32)=a:=by
 rw[BitVec.ushiftRight_xor_distrib,<- BitVec.shiftRight_add]
 rw[show a >>> (32+32)=0#64 from BitVec.ushiftRight_eq_zero (by decide)]
 simp[BitVec.xor_assoc]
theorem mul_inv{x y c d:BitVec 64}(h:c*d=1#64)(e:x*c=y*c):x=y:=by
 have:=congrArg (·*d) e
 simpa [BitVec.mul_assoc,h] using this
theorem fB_inj{x y:BitVec 64}(h:fB x=fB y):x=y:=by
 unfold fB at h
 have h1:=mul_inv (d:=10636502746458383055#64) (by decide) h
 have h2:x*15485907386658061715#64=y*15485907386658061715#64:=by
  rw[<- xs_inv (x*15485907386658061715#64),h1,xs_inv]
 exact mul_inv (d:=14982988110149298331#64) (by decide) h2
def U6(s:Int):Prop:=0<=s/\s<18446744073709551616
theorem ofInt_inj{s t:Int}(hs:U6 s)(ht:U6 t)(h:BitVec.ofInt 64 s=BitVec.ofInt 64 t):s=t:=by
 have e:=congrArg BitVec.toNat h
 rw[BitVec.toNat_ofInt,BitVec.toNat_ofInt] at e
 obtain⟨h1,h2⟩:=hs
 obtain⟨h3,h4⟩:=ht
 omega
theorem xor_inj_r{x y z:BitVec 64}(h:x ^^^ z=y ^^^ z):x=y:=by
 have:=congrArg (· ^^^ z) h
 simpa [BitVec.xor_assoc] using this
theorem stp_s{s t w:Int}(hs:U6 s)(ht:U6 t)(h:stp s w=stp t w):s=t:=by
 rw[stp_eq,stp_eq] at h
 have e:fB (BitVec.ofInt 64 s ^^^ BitVec.ofInt 64 w)=fB (BitVec.ofInt 64 t ^^^ BitVec.ofInt 64 w):=BitVec.eq_of_toNat_eq (by omega)
 exact ofInt_inj hs ht (xor_inj_r (fB_inj e))
theorem goodR_key{k0 k1:Int}{f:Nat->Rel}{k:Nat}(h0:U6 k0)(h1:U6 k1)(hg:goodR k0 f k=true)(hg1:goodR k1 f k=true):k0=k1:=by
 simp only[goodR,Bool.and_eq_true,beq_iff_eq] at hg hg1
 exact stp_s h0 h1 (hg.2.symm.trans hg1.2)
theorem mkR_good{key:Int}{c:Nat->Rel}{k:Nat}(hv:vdB (c k)=true):goodR key (mkR key c) k=true:=newR_good (mkR_new key c k) hv
theorem ck_key{k0 k1:Int}{c:Nat->Rel}{n:Nat}(h0:U6 k0)(h1:U6 k1)(hn:n<=200)(hv:∀k,k<n->vdB (c k)=true):(ckV k1 n (mkR k0 c)==0)=((n:Int)==0||k0==k1):=by
 rw[Bool.eq_iff_iff]
 simp only[Bool.or_eq_true,beq_iff_eq]
 constructor
 ·intro h
  by_cases h2:n=0
  ·exact .inl (by omega)
  ·right
   unfold ckV at h
   rw[if_neg (by simp only[decide_eq_true_eq];omega)] at h
   split at h
   ·rename_i hk
    exact goodR_key h0 h1 (mkR_good (hv 0 (by omega))) (ckB_iff.1 hk 0 (by omega))
   ·omega
 ·rintro(h|rfl)
  ·obtain rfl:n=0:=by omega
   rfl
  ·exact mkR_ck hn hv
theorem min6(m:Nat):min m 6<=6:=Nat.min_le_right _ _
theorem mk_fn{key:Int}{m:Nat}{ln:Nat->Nat}{c:Nat->Nat->Nat->DV}(hb:BB m ln c):∀i,i<min m 6->(mkR key (ctC ln c) i).fn<=1000000:=fun i hi=>by
 rw[mkR_fn];have:=ctC_fn hb (k:=i) (by omega);omega
theorem mk_vd{m:Nat}{ln:Nat->Nat}{c:Nat->Nat->Nat->DV}(hb:BB m ln c):∀i,i<min m 6->vdB (ctC ln c i)=true:=fun i hi=>ct_vd (hb.2 i (by omega))
end Go.Proofs.YtanlnopgadbpjaaGreat
namespace Go.Sx
variable [Globs]
def cXk(c:Ctr)(f:Int->Int):Ctr:=fun ss=>match ss with
 |[.d (.x (.int .u64 k)),d]=>.need (Proofs.XN c (iv (f k)) [.d (.x (.int .u64 k)),d]) (.ret (iv (f k)))
 |_=>.fail
theorem cXk_ok{P:Program}{k:FuncId}{c:Ctr}(h:CtrOK P k c)(f:Int->Int):CtrOK P k (cXk c f):=by
 intro ss vs w F r hF hgl hr hev
 unfold cXk at hev
 split at hev
 ·rename_i kk d
  exact cX_ok h (iv (f kk)) _ vs w F r hF hgl hr hev
 ·exact hev.elim
end Go.Sx
namespace Go.Proofs.YtanlnopgadbpjaaGreat.Rw
open Go.Proofs.YtanlnopgadbpjaaGreat.Rm
open Go.Sx
noncomputable def c4:Ctr:=fun ss=>match ss with
 |[]=>.ret (bv true)
 |_=>.fail
structure LW where
 sh:Nat->Int
 wd:Nat->Int
 m:Nat
 y:Nat->FsT
 z:Nat->FsT
 np:Nat
 pt:Nat->Pt
 bb:Bool
 rc:Rel
 D:Nat->Nat->Sx.DV
 nc:Nat
 C:Nat->Rel
 nd:Nat
 E:Nat->Rel
 ck:Int->Int
 ka:Nat
 fa:Nat->MsT
 ba:Int
 kb:Nat
 fb:Nat->MsT
 rb:Int
 T:Nat
 ms:Nat->MsT
 pu:Nat->Pt
 u:Nat->FsT
 R:Nat->FrT
 ns:Nat
 S:Nat->Nat->Sx.DV
 mb:Bool
 eb:Bool
noncomputable def man3(l:LW)(key:Int):FuncId->Option Ctr:=fun k=>match k with
 |4=>some c4
 |5=>some (cX (Rm.cSe l.sh l.wd) (ssS l.m l.y))
 |6=>some (cX cWo (ssS l.m l.z))
 |7=>some (cX c7 (.tup [ptS l.np l.pt,iv 0]))
 |8=>some (cX cSpt (bv true))
 |9=>some (cX cDi (.agg [ptS l.np l.pt,iv 0]))
 |10=>some (cX cBs (bv l.bb))
 |11=>some (cX cCt (.agg (relL l.rc)))
 |12=>some (cX cDg (.d (.ro l.m 1 l.D)))
 |13=>some (cX cCi0 (u64v 6496484108755115417))
 |14=>some (cX cNx (.tup [.d (chD l.nd l.E),iv 0]))
 |15=>some (cX (cMkG FM) (.d (chD l.nc l.C)))
 |16=>some (cXk cCk l.ck)
 |17=>some (cX c17 (.tup [lk0 key,lk0 (xorV key 1)]))
 |18=>some (cX c18b (bv true))
 |19=>some (c19)
 |20=>some (c20)
 |21=>some (cX c21 (.tup [lkS key l.ka l.fa l.ba 0 (fun _=>ms0) 0,lkS (xorV key 1) 0 (fun _=>ms0) 0 l.kb l.fb l.rb,msS l.T l.ms,bv true]))
 |22=>some (cX c22 (ptS l.T l.pu))
 |23=>some (cX c23 (.tup [ssS l.m l.u,iv 0]))
 |24=>some (cX cSh (bv true))
 |25=>some (cX cSt (.d (.ro l.ns 2 l.S)))
 |26=>some (cX cDgs (.d (.ro l.m 1 fun i j=>fmC (l.R i) j)))
 |27=>some (cX cMtN (bv l.mb))
 |28=>some (cX c28 (bv l.mb))
 |29=>some (cX cEl (bv l.eb))
 |30=>some (cX cSpr (bv true))
 |31=>some (cX cSt (.d (.ro l.ns 2 l.S)))
 |32=>some (cX cDgs (.d (.ro l.m 1 fun i j=>fmC (l.R i) j)))
 |_=>none
theorem man3_ok(h4:CtrOK Tryz.prog 4 c4)(l:LW)(key:Int)(k:Nat)(c:Ctr)(hk:man3 l key k=some c):CtrOK Tryz.prog k c/\goodF Tryz.prog k=true:=by
 unfold man3 at hk
 split at hk
 ·cases hk;exact⟨h4,by kernel_rfl⟩
 ·cases hk;exact⟨cX_ok (Rm.cSe_ok _ _) _,by kernel_rfl⟩
 ·cases hk;exact⟨cX_ok cWo_ok _,by kernel_rfl⟩
 ·cases hk;exact⟨cX_ok c7_ok _,by kernel_rfl⟩
 ·cases hk;exact⟨cX_ok cSpt_ok _,by kernel_rfl⟩
 ·cases hk;exact⟨cX_ok cDi_ok _,by kernel_rfl⟩
 ·cases hk;exact⟨cX_ok cBs_ok _,by kernel_rfl⟩
 ·cases hk;exact⟨cX_ok cCt_ok _,by kernel_rfl⟩
 ·cases hk;exact⟨cX_ok cDg_ok _,by kernel_rfl⟩
 ·cases hk;exact⟨cX_ok cCi0_ok _,by kernel_rfl⟩
 ·cases hk;exact⟨cX_ok cNx_ok _,by kernel_rfl⟩
 ·cases hk;exact⟨cX_ok cMkG_ok _,by kernel_rfl⟩
 ·cases hk;exact⟨cXk_ok cCk_ok _,by kernel_rfl⟩
 ·cases hk;exact⟨cX_ok c17_ok _,by kernel_rfl⟩
 ·cases hk;exact⟨cX_ok c18b_ok _,by kernel_rfl⟩
 ·cases hk;exact⟨c19_ok,by kernel_rfl⟩
 ·cases hk;exact⟨c20_ok,by kernel_rfl⟩
 ·cases hk;exact⟨cX_ok c21_ok _,by kernel_rfl⟩
 ·cases hk;exact⟨cX_ok c22_ok _,by kernel_rfl⟩
 ·cases hk;exact⟨cX_ok c23_ok _,by kernel_rfl⟩
 ·cases hk;exact⟨cX_ok cSh_ok _,by kernel_rfl⟩
 ·cases hk;exact⟨cX_ok cSt_ok _,by kernel_rfl⟩
 ·cases hk;exact⟨cX_ok cDgs_ok _,by kernel_rfl⟩
 ·cases hk;exact⟨cX_ok cMtN_ok _,by kernel_rfl⟩
 ·cases hk;exact⟨cX_ok c28_ok _,by kernel_rfl⟩
 ·cases hk;exact⟨cX_ok cEl_ok _,by kernel_rfl⟩
 ·cases hk;exact⟨cX_ok cSpr_ok _,by kernel_rfl⟩
 ·cases hk;exact⟨cX_ok cStR_ok _,by kernel_rfl⟩
 ·cases hk;exact⟨cX_ok cDgsR_ok _,by kernel_rfl⟩
 ·cases hk
noncomputable def C3(l:LW)(key:Int):Ctx:=ctxN Tryz.prog (man3 l key) (fun _=>false) 200 .nil 6
theorem C3_ok(h4:CtrOK Tryz.prog 4 c4)(l:LW)(key:Int):CtxOK Tryz.prog (C3 l key):=ctxN_ok mixed (man3_ok h4 l key) 6
noncomputable def D3(l:LW)(key:Int):Dr:=drawnL Tryz.prog (C3 l key)
theorem D3_ok(h4:CtrOK Tryz.prog 4 c4)(l:LW)(key:Int):DrOK Tryz.prog (C3 l key) (D3 l key):=drawnL_ok (C3_ok h4 l key) mixed
structure AW where
 a:Nat
 A:Nat->Nat->Sx.DV
 b:Nat
 B:Nat->Nat->Sx.DV
 c:Nat
 C:Nat->Nat->Sx.DV
 d:Nat
 D:Nat->Nat->Sx.DV
 e:Nat
 E:Nat->Nat->Sx.DV
 f:Nat
 F:Nat->Nat->Sx.DV
noncomputable def xL(x:AW):List SV:=[.d (.ro x.a 1 x.A),.d (.ro x.b 1 x.B),.d (.ro x.c 2 x.C),.d (.ro x.d 1 x.D),.d (.ro x.e 1 x.E),.d (.ro x.f 3 x.F)]
section
variable (l : LW) (key : Int) (x : AW)
noncomputable def t3:Tree SV:=fnT Tryz.prog (C3 l key) (D3 l key) 200 (fnOf Tryz.prog 3) (bodyOf Tryz.prog 3) [.agg (xL x),u64v key] .nil
noncomputable def st3(r:Rel)(no:Nat)(f:Nat->MsT)(i:Int):AS:=⟨slN 268 [(2,.ptr 0 0),(5,bv true),(6,ssS l.m l.y),(7,ssS l.m l.z),(8,ptS l.np l.pt),(10,.ptr 1 0),(13,.ptr 18 0),(14,.ptr 19 0),(15,iv i)],[some (.cells (xL x)),some (.cells (relL r))]++(List.replicate 16 none++[some (.cells (lkL key no f 0 0 (fun _=>ms0) 0)),some (.cells (lkL (xorV key 1) 0 (fun _=>ms0) 0 0 (fun _=>ms0) 0)),none,none]),22,.nil⟩
noncomputable def b3(r:Rel)(no:Nat)(f:Nat->MsT)(i:Int):Tree (Ex×AS):=cutT 22 [] [2,5,6,7,8,10,13,14,15] [2,3,4,5,6,7,8,9,10,11,12,13,14,15,16,17,20,21] 22 .nil (exec Tryz.prog (C3 l key) (D3 l key) 200 (loopN (bodyOf Tryz.prog 3) 0) (st3 l key x r no f i))
noncomputable def k3(r:Rel)(no:Nat)(f:Nat->MsT)(i:Int):Tree SV:=codeK (sub [1,0,0,1,0,0,0,1,0,1,0,0,0,0,0,0,0,1,0,0,0,0,1] (t3 l key x)) (.exit 0) (st3 l key x r no f i)
noncomputable def rN(z:SV):List SV:=[iv l.rc.no,u64v l.rc.prev,u64v l.rc.src,u64v 6496484108755115417,z,iv l.rc.b0,iv l.rc.b1,iv l.rc.b2,iv l.rc.b3,iv l.rc.b4,iv l.rc.b5,iv l.rc.b6,iv l.rc.b7,iv l.rc.b8,iv l.rc.b9,iv l.rc.b10,iv l.rc.b11,iv l.rc.pn,iv l.rc.pd,u64v l.rc.tag]
noncomputable def L3z:Tree SV:=.need (XN cNx (.tup [.d (chD l.nd l.E),iv 0]) [u64v key,.d (chD l.nc l.C),.agg (rN l (.d (.ro l.m 1 l.D)))])
 (.need ((false||(l.nd:Int)==0)=false->XN cCk (iv (l.ck key)) [u64v key,.d (chD l.nd l.E)])
 (.need ((false||(l.nd:Int)==0||l.ck key != 0)=false->XN cCk (iv (l.ck (xorV key 1))) [u64v (xorV key 1),.d (chD l.nd l.E)])
 (.ite (false||(l.nd:Int)==0||l.ck key != 0||l.ck (xorV key 1) != 460) (.ret (bv false))
 (.need (0<=w64 ((l.nd:Int)-1)/\w64 ((l.nd:Int)-1)<(l.nd:Int))
 (.need (XN c17 (.tup [lk0 key,lk0 (xorV key 1)]) [u64v key]) (.need (XN c18b (bv true) [lk0 key]) (.need (false=false->XN c18b (bv true) [lk0 (xorV key 1)]) (.ite false (.ret (bv false)) (atCode (sub [1,0,0,1,0,0,0,1,0,1,0,0,0,0,0,0,0,1,0,0,0,0,1] (t3 l key x)))))))))))
theorem L3_eq:t3 l key x=.ite (false||decide ((x.f:Int)>80)||decide ((x.d:Int)>12)) (.ret (bv true))
 (.need (XN (Rm.cSe l.sh l.wd) (ssS l.m l.y) [.agg [.d (.ro x.a 1 x.A),.d (.ro x.b 1 x.B)]]) (.need (XN cWo (ssS l.m l.z) [ssS l.m l.y,.d (.ro x.c 2 x.C)])
 (.ite (decide ((l.m:Int)>8)) (.ret (bv true))
 (.need (XN c7 (.tup [ptS l.np l.pt,iv 0]) [ssS l.m l.y,ssS l.m l.z]) (.need (false=false->XN cDi (.agg [ptS l.np l.pt,iv 0]) [ssS l.m l.y,ssS l.m l.z]) (.need (false=false->XN cSpt (bv true) [ptS l.np l.pt,ptS l.np l.pt])
 (.ite false (.ret (bv false))
 (.need (decide ((l.np:Int)>30)=false->XN cBs (bv l.bb) [ptS l.np l.pt])
 (.ite (decide ((l.np:Int)>30)||!l.bb) (.ret (bv true))
 (.need (XN cCt (.agg (relL l.rc)) [.d (.ro x.e 1 x.E)]) (.need (XN cDg (.d (.ro l.m 1 l.D)) [ssS l.m l.z]) (.need (XN cCi0 (u64v 6496484108755115417) [.agg [nilS,nilS]])
 (.need (XN (cMkG FM) (.d (chD l.nc l.C)) [u64v key,.d (.ro x.d 1 x.D)]) (L3z l key x)))))))))))))):=by kernel_rfl
theorem E3_eq:entA 22 [] [2,5,6,7,8,10,13,14,15] [2,3,4,5,6,7,8,9,10,11,12,13,14,15,16,17,20,21] 22 .nil (sub [1,0,0,1,0,0,0,1,0,1,0,0,0,0,0,0,0,1,0,0,0,0,1] (t3 l key x))=some (st3 l key x (l.E (w64 ((l.nd:Int)-1)).toNat) 0 (fun _=>ms0) 0):=by kernel_rfl
variable (r : Rel) (no : Nat) (f : Nat → MsT) (i : Int)
noncomputable def ptM(p:Pt):MsT:=⟨11,pkB p⟩
theorem B3_eq:b3 l key x r no f i=.ite (decide (i<(l.np:Int))) (.need (0<=i/\i<(l.np:Int))
 (.need (LkD no (fun i j=>msC (f i) j) 0 (fun i j=>msC ms0 j)/\SdD no 0/\11<=256/\ByD 11 fun j _=>.x (.int .u8 (pkB (l.pt i.toNat) j)))
 (.need (false=false->XN c18b (bv true) [lkS key (no+1) (fun q=>if q<no then f q else ptM (l.pt i.toNat)) 0 0 (fun _=>ms0) 0])
 (.ite false (sub [0,0,0,0,0] (b3 l key x r no f i)) (.ret (.normal,st3 l key x r (no+1) (fun q=>if q<no then f q else ptM (l.pt i.toNat)) (w64 (i+1)))))))) (.ret (.exit 0,st3 l key x r no f i)):=by kernel_rfl
noncomputable def K3a:Tree SV :=
 .need (XN cDgs (.d (.ro l.m 1 fun i j=>fmC (l.R i) j)) [ssS l.m l.u]) (.need (XN cSt (.d (.ro l.ns 2 l.S)) [.d (.ro l.m 1 fun i j=>fmC (l.R i) j),ssS l.m l.z])
 (.need (XN cMtN (bv l.mb) [.agg (relL r),.agg [nilS,nilS],ssS l.m l.u]) (.need (XN c28 (bv l.mb) [.agg (relL r),.agg [nilS,nilS],ssS l.m l.u])
 (.need ((!l.mb==l.mb)=false/\((l.T:Int)==(l.np:Int))=true->XN cEl (bv l.eb) [ssS l.m l.u,ssS l.m l.z])
 (.need (((!l.mb==l.mb)=false/\((l.T:Int)==(l.np:Int))=true)/\(!l.eb)=false->XN cMtN (bv l.mb) [.agg (relL r),.agg [nilS,nilS],ssS l.m l.u])
 (.ite (!l.mb==l.mb||(l.T:Int)==(l.np:Int)&&(!l.eb||!l.mb)) (.ret (bv false))
 (.need (XN cDgs (.d (.ro l.m 1 fun i j=>fmC (l.R i) j)) [ssS l.m l.u]) (.need (XN cSt (.d (.ro l.ns 2 l.S)) [.d (.ro l.m 1 fun i j=>fmC (l.R i) j),ssS l.m l.z])
 (.need (XN cSpr (bv true) [.d (.ro l.ns 2 l.S),.d (.ro l.ns 2 l.S)])
 (.ret (bv (true&&(!((l.T:Int)==(l.np:Int))||(l.ns:Int)==0)&&true))))))))))))
theorem K3_eq:k3 l key x r no f i=.need (XN c21 (.tup [lkS key l.ka l.fa l.ba 0 (fun _=>ms0) 0,lkS (xorV key 1) 0 (fun _=>ms0) 0 l.kb l.fb l.rb,msS l.T l.ms,bv true]) [lkS key no f 0 0 (fun _=>ms0) 0,lk0 (xorV key 1),.d (.ro x.f 3 x.F)])
 (.need (XN c22 (ptS l.T l.pu) [msS l.T l.ms]) (.ite false (.ret (bv false))
 (.need ((decide ((l.T:Int)>(l.np:Int))||(l.T:Int) != (l.T:Int))=false->(0<=(l.T:Int)/\(l.T:Int).toNat<=l.np)/\True)
 (.need ((decide ((l.T:Int)>(l.np:Int))||(l.T:Int) != (l.T:Int))=false->XN cSpt (bv true) [ptS l.T l.pu,.d (.ro ((l.T:Int).toNat-0) 4 fun i j=>ptE (l.pt (0+i)) j)])
 (.ite (decide ((l.T:Int)>(l.np:Int))||(l.T:Int) != (l.T:Int)||false) (.ret (bv false))
 (.need (XN c23 (.tup [ssS l.m l.u,iv 0]) [ssS l.m l.y,ptS l.T l.pu]) (.need (false=false->XN cSh (bv true) [ssS l.m l.u,ssS l.m l.y]) (.ite false (.ret (bv false)) (K3a l r))))))))):=by kernel_rfl
end
theorem lkD_0{FO FI:Nat->Nat->Sx.DV}:LkD 0 FO 0 FI:=⟨⟨by omega,fun i hi=>absurd hi (Nat.not_lt_zero _)⟩,⟨by omega,fun i hi=>absurd hi (Nat.not_lt_zero _)⟩⟩
theorem exM_by:ByD 11 fun j _=>.x (.int .u8 (pkB exP j)):=⟨by omega,fun i hi=>rfl⟩
theorem lkD_1:LkD 1 (fun _ j=>msC exM j) 0 fun _ j=>msC ms0 j:=⟨msD_of (f:=fun _=>exM) (by omega) fun i hi=>by show 11<=256;omega,⟨by omega,fun i hi=>absurd hi (Nat.not_lt_zero _)⟩⟩
theorem vl_lk{key:Int}{no ni:Nat}{fo fi:Nat->MsT}{base rc:Int}(h:LkD no (fun i j=>msC (fo i) j) ni fun i j=>msC (fi i) j)(h2:VlD no base ni rc):XN c18b (bv true) [lkS key no fo base ni fi rc]:=xn_eq rfl ⟨⟨h,h2⟩,rfl⟩
theorem xor81:xorV 8 1=9:=by decide
noncomputable def exC:Int:=tgN (xorV 8 1) 11 (pkB exP) (w64 (0+0)) 0 11
theorem w00:w64 (0+0)=0:=by decide
noncomputable def exf(a:Int):FsT:=⟨1,fun _=>⟨1,fun _=>a⟩⟩
theorem exf_ok(a:Int):FsOK (exf a):=⟨by show 1<=4;omega,fun i hi=>by show 1<=1000000000;omega⟩
theorem exF_le(a:Int):SLe (exF a) (ssS 1 fun _=>exf a):=by
 refine SLe.d (DLe.row fun i j hi hj=>?_)
 obtain rfl:i=0:=by omega
 obtain rfl:j=0:=by omega
 show DLe (.ro 1 1 fun i j=>dsAt [.ro 1 1 fun i j=>dsAt [.x (.int .u64 a)] (0+(0+i)*1+j)] (i*1+j)) (.ro 1 1 fun i j=>fmC ((exf a).f i) j)
 refine DLe.row fun i j hi hj=>?_
 obtain rfl:i=0:=by omega
 obtain rfl:j=0:=by omega
 show DLe (.ro 1 1 fun i j=>dsAt [.x (.int .u64 a)] (0+(0+i)*1+j)) (.ro 1 1 fun j _=>.x (.int .u64 a))
 refine DLe.row fun i j hi hj=>?_
 obtain rfl:i=0:=by omega
 obtain rfl:j=0:=by omega
 exact DLe.refl _
theorem exf_D(a:Int):SsD 1 fun _ j=>fsC (exf a) j:=fun i hi=>⟨exf_ok a,rfl⟩
theorem exdF:dF (fun _=>exf 7) (fun _=>exf 5) 1 0 0=[⟨0,0,0,2⟩]:=by rfl
theorem s4:Sat Tryz.prog (t4 exC) (·=bv true):=by
 have h20:XN c20 (nmS .u8 11 (pkB exP)) [exA]:=xn_eq rfl rfl
 have h22:XN c22 (ptS 1 fun _=>exP) [.d (.ro 1 1 fun i j=>dsAt [.ro 11 1 fun j x=>.x (.int .u8 (pkB exP j))] (0+(0+i)*1+j))]:=by
  refine xn_of (ss':=[msS 1 fun _=>exM]) ⟨SLe.d (DLe.row fun i j hi hj=>?_),trivial⟩ ⟨⟨by omega,fun i hi=>rfl⟩,rfl⟩ ⟨rfl,rfl,fun i j hi hj=>?_⟩
  ·obtain rfl:i=0:=by omega
   obtain rfl:j=0:=by omega
   exact DLe.refl _
  ·show ptE (unP (pkB exP)) j=ptE exP j
   rw[unP_pk ⟨by decide,by decide,by decide,by decide⟩]
 have h17:XN c17 (.tup [lk0 8,lk0 9]) [u64v 8]:=xn_eq rfl (by
  show SV.tup [lk0 8,lk0 9]=SV.tup [lk0 8,lk0 (xorV 8 1)]
  rw[xor81])
 have h19:XN c19 (.tup [lkS 8 1 (fun _=>exM) 0 0 (fun _=>ms0) 0,iv 0]) [lk0 8,nmS .u8 11 (pkB exP)]:=xn_self ⟨⟨lkD_0,⟨by omega,by omega,by omega⟩,by omega,exM_by⟩,rfl⟩ (lk_eq rfl (fun i hi=>by
  obtain rfl:i=0:=by omega
  rfl) rfl rfl (fun _ _=>rfl) rfl)
 have h33:XN c33 (.tup [pkS 0 0 exM exC,iv 0]) [lkS 8 1 (fun _=>exM) 0 0 (fun _=>ms0) 0,iv 0]:=xn_eq rfl ⟨lkD_1,.inr ⟨rfl,by
  show SV.tup [pkS 0 0 exM exC,iv 0]=SV.tup [pkS (w64 (0+0)) 0 exM exC,iv 0]
  rw[w00]⟩⟩
 have h34:XN c34b (.tup [lkS 9 0 (fun _=>ms0) 0 1 (fun _=>exM) 1,iv 0]) [lk0 9,pkS 0 0 exM exC]:=xn_self ⟨⟨⟨lkD_0,exM_by⟩,acB_false (by omega) (fun h=>by omega) (by omega) (by decide) (by show 11<=256;omega),by
  show tgN (xorV 8 1) 11 (pkB exP) (w64 (0+0)) 0 11=tgN 9 11 (pkB exP) 0 0 11
  rw[xor81,w00]⟩,rfl⟩ (lk_eq rfl (fun _ hi=>absurd hi (Nat.not_lt_zero _)) (by decide) rfl (fun i hi=>by
   obtain rfl:i=0:=by have:i<0+1:=hi;omega
   rfl) (by decide))
 have h7:XN c7 (.tup [ptS 1 fun _=>⟨0,0,0,2⟩,iv 0]) [exF 7,exF 5]:=by
  refine xn_of (ss':=[ssS 1 fun _=>exf 7,ssS 1 fun _=>exf 5]) ⟨exF_le 7,exF_le 5,trivial⟩ ⟨⟨exf_D 7,exf_D 5,⟨by omega,fun p hp=>by show 1<=4;omega,fun p k hp hk=>by show 1<=4;omega⟩,rfl,fun i hi=>⟨rfl,fun k hk=>rfl⟩⟩,rfl⟩ ?_
  show leSV 0 [] [] (.tup [.d (.ro (dF (fun _=>exf 7) (fun _=>exf 5) 1 0 0).length 4 fun i j=>ptC (dF (fun _=>exf 7) (fun _=>exf 5) 1 0 0) i j),iv 0]) _
  rw[exdF]
  have:leSV 0 [] [] (.d (.ro ([⟨0,0,0,2⟩]:List Pt).length 4 fun i j=>ptC [⟨0,0,0,2⟩] i j)) (ptS 1 fun _=>⟨0,0,0,2⟩):=⟨rfl,rfl,fun i j hi hj=>by
   obtain rfl:i=0:=by have:i<1:=hi;omega
   rfl⟩
  simp only[leSV,leSVs,and_true]
  exact⟨this,rfl⟩
 have h18:∀key,XN c18b (bv true) [lk0 key]:=fun key=>vl_lk lkD_0 ⟨by omega,by omega,by omega,by omega,by omega,by omega⟩
 have h18':XN c18b (bv true) [lkS 8 1 (fun _=>exM) 0 0 (fun _=>ms0) 0]:=vl_lk lkD_1 ⟨by omega,by omega,by omega,by omega,by omega,by omega⟩
 have h1:1<=1:=Nat.le_refl _
 refine Sat.of_eq (L4_eq exC) (sNeed h20 (sNeed h1 (sNeed h22 (sNeed h17 (sNeed (h18 8) (sNeed (h18 9) (sNeed h20 (sNeed h19 (sNeed h18' (sNeed h33 (sNeed h34 (sNeed h1 (sNeed h1 (sNeed h1 (sNeed h1 (sNeed h1 (sNeed h1 (sNeed h1 (sNeed h1 (sNeed h7 ⟨rfl⟩))))))))))))))))))))
theorem c4_ok:CtrOK Tryz.prog 4 c4:=ctrOK_leS (CEz_ok exC) (DEz_ok exC) (by kernel_rfl) (by kernel_rfl) fun ss r h=>by
 unfold c4 at h
 split at h
 ·cases h
  exact⟨[],200,.run,by simp[leSVs],s4⟩
 ·exact h.elim
end Go.Proofs.YtanlnopgadbpjaaGreat.Rw
namespace Go.Proofs.YtanlnopgadbpjaaGreat
open Go.Sx
theorem mkR_congr{key:Int}{c c':Nat->Rel}:∀k,(∀i,i<=k->c i=c' i)->mkR key c k=mkR key c' k
 |0,h=>by rw[mkR,mkR,h 0 (Nat.le_refl _)]
 |k+1,h=>by rw[mkR,mkR,h (k+1) (Nat.le_refl _),mkR_congr k fun i hi=>h i (by omega)]
theorem prevN_congr{f g:Nat->Rel}{k:Nat}(h:∀i,i<k->f i=g i):prevN f k=prevN g k:=by
 cases k with
 |zero=>rfl
 |succ k=>show dig (f k)=dig (g k);rw[h k (by omega)]
theorem newR_congr{key:Int}{f g:Nat->Rel}{k:Nat}{r:Rel}(h:∀i,i<k->f i=g i):newR key k f r=newR key k g r:=by
 have e:bR k f r=bR k g r:=by unfold bR;rw[prevN_congr h]
 unfold newR;rw[e]
noncomputable def cpl(n:Nat)(c:Nat->Rel)(r:Rel)(i:Nat):Rel:=if i<n then c i else r
theorem nxF_mk{key:Int}{n:Nat}{c:Nat->Rel}{r:Rel}{i:Nat}(hi:i<n+1):nxF key n (mkR key c) r i=mkR key (cpl n c r) i:=by
 by_cases h:i<n
 ·rw[nxF_lt h]
  exact mkR_congr i fun j hj=>by unfold cpl;rw[if_pos (by omega)]
 ·obtain rfl:i=n:=by omega
  rw[nxF_eq,mkR_new key (cpl i c r) i]
  have e:cpl i c r i=r:=by unfold cpl;rw[if_neg (by omega)]
  rw[e]
  exact newR_congr fun j hj=>mkR_congr j fun q hq=>by unfold cpl;rw[if_pos (by omega)]
theorem cpl_vd{n:Nat}{c:Nat->Rel}{r:Rel}(hc:∀k,k<n->vdB (c k)=true)(hr:vdB r=true):∀k,k<n+1->vdB (cpl n c r k)=true:=fun k hk=>by
 unfold cpl
 split
 ·exact hc k (by assumption)
 ·exact hr
theorem ck_mk{key:Int}{n:Nat}{c:Nat->Rel}{r:Rel}(hn:n<200)(hc:∀k,k<n->vdB (c k)=true)(hr:vdB r=true):ckV key (n+1) (mkR key (cpl n c r))=0:=mkR_ck (by omega) (cpl_vd hc hr)
theorem ckV_or(key:Int)(n:Nat)(f:Nat->Rel):ckV key n f=0\/ckV key n f=460:=by
 unfold ckV
 split
 ·exact .inr rfl
 ·split
  ·exact .inl rfl
  ·exact .inr rfl
theorem xor1_ne{key:Int}(h:0<=key)(h2:key<18446744073709551616):key≠xorV key 1:=by
 intro e
 have e2:=xorV_twice h h2 (b:=1) (by decide) (by decide)
 rw[<- e,xorV_nat h h2 h h2,Nat.xor_self] at e2
 exact absurd e2 (by decide)
theorem ck_other{key:Int}{n:Nat}{c:Nat->Rel}{r:Rel}(h:0<=key)(h2:key<18446744073709551616)(hn:n<200)(hc:∀k,k<n->vdB (c k)=true)(hr:vdB r=true):ckV (xorV key 1) (n+1) (mkR key (cpl n c r))=460:=by
 rcases ckV_or (xorV key 1) (n+1) (mkR key (cpl n c r)) with h3|h3
 ·exfalso
  have:=ck_key (k0:=key) (k1:=xorV key 1) (c:=cpl n c r) (n:=n+1) ⟨h,h2⟩ ⟨xorV_range.1,xorV_range.2⟩ (by omega) (cpl_vd hc hr)
  rw[h3,beq_self_eq_true] at this
  have h4:=this.symm
  rw[Bool.or_eq_true,beq_iff_eq,beq_iff_eq] at h4
  rcases h4 with h4|h4
  ·omega
  ·exact xor1_ne h h2 h4
 ·exact h3
theorem mk_last{key:Int}{n:Nat}{c:Nat->Rel}{r:Rel}:mkR key (cpl n c r) n=newR key n (mkR key (cpl n c r)) r:=by
 have e:cpl n c r n=r:=by unfold cpl;rw[if_neg (by omega)]
 have:=mkR_new key (cpl n c r) n
 rw[e] at this
 exact this
end Go.Proofs.YtanlnopgadbpjaaGreat
namespace Go.Proofs.YtanlnopgadbpjaaGreat.Rw
open Go.Proofs.YtanlnopgadbpjaaGreat.Rm
open Go.Sx
theorem wsG_U{b:Nat}{wd:Nat->Int}(hw:∀i,U6 (wd i))(n c:Nat)(hn:n+c<=1000000):∀v∈wsG b wd n c,U6 v:=by
 intro v hv
 unfold wsG at hv
 obtain⟨j,hj,rfl⟩:=List.mem_map.1 hv
 have:=List.mem_range.1 hj
 unfold wG
 split
 ·exact hw _
 ·exact⟨by omega,by omega⟩
theorem fsG_U{b:Nat}{wd:Nat->Int}(hw:∀i,U6 (wd i))(s:Int)(n:Nat)(hn:n<=500):∀k,k<=4->∀ws∈(fsG b wd s n k).1,∀v∈ws,U6 v
 |0,_,ws,h=>by cases h
 |k+1,hk,ws,h=>by
  unfold fsG at h
  rcases List.mem_append.1 h with h|h
  ·exact fsG_U hw s n hn k (by omega) ws h
  ·obtain rfl:=List.mem_singleton.1 h
   have h1:=fsG_nx b wd s n k
   have h2:=cnS_le s k
   exact wsG_U hw _ _ (by omega)
theorem ssG_U{b:Nat}{wd:Nat->Int}(hw:∀i,U6 (wd i))(sh:Nat->Int):∀k,k<=4->∀fs∈(ssG b wd sh k).1,∀ws∈fs,∀v∈ws,U6 v
 |0,_,fs,h=>by cases h
 |k+1,hk,fs,h=>by
  unfold ssG at h
  rcases List.mem_append.1 h with h|h
  ·exact ssG_U hw sh k (by omega) fs h
  ·obtain rfl:=List.mem_singleton.1 h
   have h1:=ssG_nx b wd sh k
   exact fsG_U hw _ _ (by omega) _ (nfS_le _)
theorem se_ok{a b:Nat}{sh wd:Nat->Int}(hw:∀i,U6 (wd i)):Sml 4 (seV a sh b wd).length (fun i=>fsT ((seV a sh b wd).getD i []))/\WrdU (seV a sh b wd).length (fun i=>fsT ((seV a sh b wd).getD i [])):=by
 have h:=seV_ok a sh b wd
 have hu:∀fs∈seV a sh b wd,∀ws∈fs,∀v∈ws,U6 v:=ssG_U hw sh _ (by omega)
 generalize seV a sh b wd=ss at h hu
 have hm:∀i,i<ss.length->ss.getD i []∈ss:=fun i hi=>Rm.getD_mem hi
 have hm2:∀i k,i<ss.length->k<(ss.getD i []).length->(ss.getD i []).getD k []∈ss.getD i []:=fun i k _ hk=>Rm.getD_mem hk
 refine⟨⟨h.1,fun i hi=>(h.2 _ (hm i hi)).1,fun i k hi hk=>(h.2 _ (hm i hi)).2 _ (hm2 i k hi hk)⟩,fun i k j hi hk hj=>?_⟩
 exact hu _ (hm i hi) _ (hm2 i k hi hk) _ (Rm.getD_mem hj)
section
variable {n : Nat} {x y : Nat → FsT}
theorem wod_U{a:Nat}{v:Int}(hx:WrdU n x)(hv:U6 v):WrdU n (wodF x a v):=fun i k j hi hk hj=>by
 show 0<=(if posW (mmF x) (nnF x) i k j=a then v else((x i).f k).w j)/\(if posW (mmF x) (nnF x) i k j=a then v else((x i).f k).w j)<18446744073709551616
 split
 ·exact hv
 ·exact hx i k j hi hk hj
theorem chg_U{w:Nat->Nat->Int}(hx:WrdU n x):∀q,(∀i,i<q->U6 (w i 1))->WrdU n (chgF x w q)
 |0,_=>hx
 |q+1,h=>wod_U (chg_U hx q fun i hi=>h i (by omega)) (h q (by omega))
theorem chg_sh(w:Nat->Nat->Int)(q:Nat):shQ n x n (chgF x w q):=⟨rfl,fun i _=>by
 have e1:=congrFun (chg_mm x w q) i
 have e2:=fun k=>congrFun (congrFun (chg_nn x w q) i) k
 exact⟨e1.symm,fun k _=>(e2 k).symm⟩⟩
theorem sml_ok(hs:Sml 4 n x):∀i,i<n->FsOK (x i):=fun i hi=>⟨hs.m i hi,fun k hk=>by have:=hs.k i k hi hk;omega⟩
theorem ap_sml(hs:Sml 4 n x)(L:List Pt):Sml 4 n (apF x L):=⟨hs.le,fun i hi=>hs.m i hi,fun i k hi hk=>hs.k i k hi hk⟩
theorem ap_shQ(L:List Pt):shQ n (apF x L) n x:=⟨rfl,fun i _=>⟨rfl,fun k _=>rfl⟩⟩
theorem ap_el(hx:WrdU n x)(hy:WrdU n y)(hs:shQ n x n y):elQ n (apF x (dA n x y)) n y :=
 ⟨⟨rfl,fun i hi=>hs.2 i hi⟩,fun i hi k hk=>⟨(hs.2 i hi).2 k hk,fun j hj=>ap_whole hx hy hs ⟨hi,hk,hj⟩⟩⟩
theorem fw_congr{f g:FrT}(h:smQ f.n f.w g.n g.w):fwV f=fwV g:=by
 obtain⟨fn,fw⟩:=f
 obtain⟨gn,gw⟩:=g
 obtain⟨h1,h2⟩:=h
 have h1:fn=gn:=h1
 subst h1
 unfold fwV
 exact dgW_congr fun i hi=>congrArg w64 (h2 i hi)
theorem fs_congr{a b:FsT}(ha:a.n<=4)(hs:shR a b)(he:elR a b):fsV a=fsV b:=by
 obtain⟨an,af⟩:=a
 obtain⟨bn,bf⟩:=b
 have h1:an=bn:=hs.1
 subst h1
 unfold fsV
 refine rtG_congr ha fun i hi=>?_
 rw[dgL_fmN,dgL_fmN]
 exact fw_congr (he i hi)
theorem stK_nil{m:Nat}{r:Nat->FrT}{i:Nat}{y:FsT}:∀k,(∀q,q<k->stQ m r i y q=false)->stK m r i y k=[]
 |0,_=>rfl
 |k+1,h=>by
  unfold stK
  rw[stK_nil k fun q hq=>h q (by omega),h k (by omega)]
  rfl
theorem stI_nil{m:Nat}{r:Nat->FrT}{x:Nat->FsT}:∀i,(∀p,p<i->∀q,q<(x p).n->stQ m r p (x p) q=false)->stI m r x i=[]
 |0,_=>rfl
 |i+1,h=>by
  unfold stI
  rw[stI_nil i fun p hp=>h p (by omega),stK_nil _ (h i (by omega))]
  rfl
theorem st_none(he:elQ n x n y):stI n (fun i=>dgF' (x i)) y n=[]:=stI_nil n fun p hp q hq=>by
 have hs:=he.1.2 p hp
 have hq2:q<(x p).n:=by rw[hs.1];exact hq
 have e1:((fun i=>dgF' (x i)) p).w q=fwV ((y p).f q):=fw_congr (he.2 p hp q hq2)
 have e2:((fun i=>dgF' (x i)) p).n=(x p).n:=rfl
 unfold Go.Sx.stQ
 rw[e1,e2,bne_self_eq_false,decide_eq_false (show ¬((p:Int)>=(n:Int)) by omega),decide_eq_false (show ¬((q:Int)>=((x p).n:Int)) by omega)]
 rfl
theorem ptF_mem{L:List Pt}{i:Nat}(hi:i<L.length):ptF L i∈L:=by unfold ptF;rw[show L.getD i default=L[i] by simp[hi]];exact List.getElem_mem hi
theorem ptL_take{L:List Pt}{T:Nat}(hT:T<=L.length):ptL T (fun i j=>ptE (ptF L i) j)=L.take T:=by
 have e:(ptL T fun i j=>ptE (ptF L i) j)=(List.range T).map fun i=>ptF L i:=rfl
 rw[e]
 refine List.ext_getElem (by rw[List.length_map,List.length_range,List.length_take];omega) fun i h1 h2=>?_
 rw[List.length_map,List.length_range] at h1
 rw[List.getElem_map,List.getElem_range,List.getElem_take]
 unfold ptF
 simp[show i<L.length by omega]
theorem dA_len(hs:Sml 4 n x):(dA n x y).length<=64:=df_len hs (wwF y) (i:=n) (k:=0) (w:=0) (Nat.le_refl _) (fun h=>absurd h (Nat.lt_irrefl _)) (fun _=>rfl) (fun _ h=>absurd h (Nat.lt_irrefl _)) fun _=>rfl
theorem dA_nrm{T:Nat}(hT:T<=(dA n x y).length)(hl:(dA n x y).length<=64):NrmD T fun i j=>ptE (ptF (dA n x y) i) j:=by
 refine⟨by omega,fun i j _ _=>rfl,fun i hi=>?_⟩
 exact srt_nrm dA_srt (fun p hp=>(dA_mem hp).elim fun q h=>h.2.2) i (by omega)
theorem dA_apD(hs:Sml 4 n x){T:Nat}(hT:T<=(dA n x y).length):ApD n (fun i j=>fsC (x i) j) T fun i j=>ptE (ptF (dA n x y) i) j:=by
 refine⟨ssD_of (sml_ok hs),hs,dA_nrm hT (dA_len hs),fun p hp=>?_,?_⟩
 ·rw[ptL_take hT] at hp
  exact dA_in (List.mem_of_mem_take hp)
 ·rw[ptL_take hT]
  exact srt_dst (dA_srt.sublist (List.take_sublist ..))
theorem dA_pk{i:Nat}(hi:i<(dA n x y).length)(hb:by6 (ptF (dA n x y) i)=false):PkOK (ptF (dA n x y) i):=by
 have hm:=ptF_mem hi
 generalize ptF (dA n x y) i=p at hb hm
 obtain⟨q,h1,rfl,h2⟩:=dA_mem hm
 unfold by6 by5 by4 by3 by2 by1 at hb
 simp only[Bool.or_eq_false_iff,decide_eq_false_iff_not] at hb
 obtain⟨⟨⟨⟨⟨b1,b2⟩,b3⟩,b4⟩,b5⟩,b6⟩:=hb
 exact⟨by omega,by omega,by omega,xorV_range⟩
end
noncomputable def lastR(l:LW):Rel:=l.E (w64 ((l.nd:Int)-1)).toNat
theorem sRet{α:Type}{P:Program}{a:α}{Q:α->Prop}(h:Q a):Sat P (.ret a) Q:=⟨h⟩
structure HM(l:LW)(key:Int)(x:AW):Prop where
 n21:XN c21 (.tup [lkS key l.ka l.fa l.ba 0 (fun _=>ms0) 0,lkS (xorV key 1) 0 (fun _=>ms0) 0 l.kb l.fb l.rb,msS l.T l.ms,bv true]) [lkS key l.np (fun q=>ptM (l.pt q)) 0 0 (fun _=>ms0) 0,lk0 (xorV key 1),.d (.ro x.f 3 x.F)]
 n22:XN c22 (ptS l.T l.pu) [msS l.T l.ms]
 hT:l.T<=l.np
 n8:XN cSpt (bv true) [ptS l.T l.pu,.d (.ro ((l.T:Int).toNat-0) 4 fun i j=>ptE (l.pt (0+i)) j)]
 n23:XN c23 (.tup [ssS l.m l.u,iv 0]) [ssS l.m l.y,ptS l.T l.pu]
 n24:XN cSh (bv true) [ssS l.m l.u,ssS l.m l.y]
 n26:XN cDgs (.d (.ro l.m 1 fun i j=>fmC (l.R i) j)) [ssS l.m l.u]
 n25:XN cSt (.d (.ro l.ns 2 l.S)) [.d (.ro l.m 1 fun i j=>fmC (l.R i) j),ssS l.m l.z]
 n27:XN cMtN (bv l.mb) [.agg (relL (lastR l)),.agg [nilS,nilS],ssS l.m l.u]
 n29:XN cEl (bv l.eb) [ssS l.m l.u,ssS l.m l.z]
 n30:XN cSpr (bv true) [.d (.ro l.ns 2 l.S),.d (.ro l.ns 2 l.S)]
 whole:l.T=l.np->l.eb=true/\l.mb=true/\l.ns=0
structure HL(l:LW)(key:Int)(x:AW):Prop where
 k0:0<=key
 k1:key<18446744073709551616
 n5:XN (Rm.cSe l.sh l.wd) (ssS l.m l.y) [.agg [.d (.ro x.a 1 x.A),.d (.ro x.b 1 x.B)]]
 n6:XN cWo (ssS l.m l.z) [ssS l.m l.y,.d (.ro x.c 2 x.C)]
 n7:XN c7 (.tup [ptS l.np l.pt,iv 0]) [ssS l.m l.y,ssS l.m l.z]
 n9:XN cDi (.agg [ptS l.np l.pt,iv 0]) [ssS l.m l.y,ssS l.m l.z]
 n8:XN cSpt (bv true) [ptS l.np l.pt,ptS l.np l.pt]
 n10:XN cBs (bv l.bb) [ptS l.np l.pt]
 n11:XN cCt (.agg (relL l.rc)) [.d (.ro x.e 1 x.E)]
 n12:XN cDg (.d (.ro l.m 1 l.D)) [ssS l.m l.z]
 n13:XN cCi0 (u64v 6496484108755115417) [.agg [nilS,nilS]]
 n15:XN (cMkG FM) (.d (chD l.nc l.C)) [u64v key,.d (.ro x.d 1 x.D)]
 n14:XN cNx (.tup [.d (chD l.nd l.E),iv 0]) [u64v key,.d (chD l.nc l.C),.agg (rN l (.d (.ro l.m 1 l.D)))]
 n16:∀k,XN cCk (iv (l.ck k)) [u64v k,.d (chD l.nd l.E)]
 ck0:l.ck key=0
 ck1:l.ck (xorV key 1)=460
 nd:1<=l.nd/\l.nd<=1000
 rest:l.bb=true->l.np<=30->x.f<=80->HM l key x
theorem xn17(key:Int):XN c17 (.tup [lk0 key,lk0 (xorV key 1)]) [u64v key]:=xn_eq rfl rfl
theorem xn18(key:Int):XN c18b (bv true) [lk0 key]:=vl_lk lkD_0 ⟨by omega,by omega,by omega,by omega,by omega,by omega⟩
theorem lkD_n{np n:Nat}{pt:Nat->Pt}(h:np<=30)(hn:n<=np):LkD n (fun i j=>msC (ptM (pt i)) j) 0 fun _ j=>msC ms0 j:=⟨msD_of (f:=fun i=>ptM (pt i)) (by omega) fun i hi=>by show 11<=256;omega,⟨by omega,fun i hi=>absurd hi (Nat.not_lt_zero _)⟩⟩
theorem kt_sat{l:LW}{key:Int}{x:AW}(h:HM l key x)(hnp:l.np<=30):Sat Tryz.prog (K3a l (lastR l)) (·=bv true):=by
 refine sNeed h.n26 (sNeed h.n25 (sNeed h.n27 (sNeed h.n27 (sNeed (fun _=>h.n29) (sNeed (fun _=>h.n27) (sIte (fun hc=>?_) fun hc=>sNeed h.n26 (sNeed h.n25 (sNeed h.n30 ⟨?_⟩))))))))
 ·exfalso
  rw[Bool.or_eq_true] at hc
  rcases hc with hc|hc
  ·cases hmb:l.mb<;>rw[hmb] at hc<;>cases hc
  ·rw[Bool.and_eq_true,beq_iff_eq] at hc
   obtain⟨h1,h2,_⟩:=h.whole (by omega)
   rw[h1,h2] at hc
   exact absurd hc.2 (by decide)
 ·show bv _=bv true
  congr 1
  by_cases hw:l.T=l.np
  ·obtain⟨_,_,h3⟩:=h.whole hw
   rw[hw,h3]
   simp
  ·have:((l.T:Int)==(l.np:Int))=false:=by rw[beq_eq_false_iff_ne];omega
   rw[this];rfl
theorem k3_sat{l:LW}{key:Int}{x:AW}(h:HM l key x)(hnp:l.np<=30)(i:Int):Sat Tryz.prog (k3 l key x (lastR l) l.np (fun q=>ptM (l.pt q)) i) (·=bv true):=by
 have hT:=h.hT
 have e:(decide ((l.T:Int)>(l.np:Int))||(l.T:Int) != (l.T:Int))=false:=by
  rw[decide_eq_false (by omega),bne_self_eq_false];rfl
 refine Sat.of_eq (K3_eq l key x (lastR l) l.np (fun q=>ptM (l.pt q)) i) (sNeed h.n21 (sNeed h.n22 (sIte ft fun _=>sNeed (fun _=>⟨by omega,trivial⟩) (sNeed (fun _=>h.n8) (sIte (fun hc=>?_) fun _=>sNeed h.n23 (sNeed (fun _=>h.n24) (sIte ft fun _=>kt_sat h hnp)))))))
 rw[e] at hc
 cases hc
theorem gc_st3{l:LW}{key:Int}{x:AW}{r:Rel}{no no':Nat}{f f':Nat->MsT}{i i':Int}(h1:no=no')(h2:∀q,q<no->f q=f' q)(h3:i=i'):Gc 22 (st3 l key x r no f i) (st3 l key x r no' f' i'):=by
 subst h3
 exact gc_hp rfl rfl ⟨.inr ⟨_,_,rfl,rfl,.refl _⟩,.inr ⟨_,_,rfl,rfl,.refl _⟩,.inl rfl,.inl rfl,.inl rfl,.inl rfl,.inl rfl,.inl rfl,.inl rfl,.inl rfl,.inl rfl,.inl rfl,.inl rfl,.inl rfl,.inl rfl,.inl rfl,.inl rfl,.inl rfl,.inr ⟨_,_,rfl,rfl,.cellsD (leDs_lk h1 h2 rfl rfl (fun _ _=>rfl) rfl)⟩,.inr ⟨_,_,rfl,rfl,.refl _⟩,.inl rfl,.inl rfl,trivial⟩
theorem lp_sat(h4:CtrOK Tryz.prog 4 c4){l:LW}{key:Int}{x:AW}(h:HM l key x)(hnp:l.np<=30):Sat Tryz.prog (atCode (sub [1,0,0,1,0,0,0,1,0,1,0,0,0,0,0,0,0,1,0,0,0,0,1] (t3 l key x))) (·=bv true):=by
 refine⟨?_⟩
 refine for_satS (C3_ok h4 l key) (D3_ok h4 l key) (n:=200) (n0:=22) (nx:=22) (roots:=[]) (keep:=[2,5,6,7,8,10,13,14,15]) (drop:=[2,3,4,5,6,7,8,9,10,11,12,13,14,15,16,17,20,21]) (h:=.nil) (body:=loopN (bodyOf Tryz.prog 3) 0) (by kernel_rfl) (by kernel_rfl) l.np (fun i=>st3 l key x (lastR l) i (fun q=>ptM (l.pt q)) i) (fun i=>True)
  (fun e t=>e=.exit 0/\t=st3 l key x (lastR l) l.np (fun q=>ptM (l.pt q)) l.np) trivial ?_ ?_ ?_ ?_
 ·refine(entA_sound (E3_eq l key x)).trans ?_
  exact gc_st3 rfl (fun i hi=>absurd hi (Nat.not_lt_zero _)) rfl
 ·intro i hi _
  refine Sat.of_eq (B3_eq l key x (lastR l) i (fun q=>ptM (l.pt q)) i) (sIte (fun _=>sNeed (by omega) (sNeed ⟨lkD_n hnp (by omega),⟨by omega,by omega,by omega⟩,by omega,⟨by omega,fun q hq=>rfl⟩⟩ (sNeed (fun _=>?_) (sIte ft fun _=>⟨.inl ⟨rfl,trivial,?_⟩⟩)))) fun h1=>?_)
  ·refine vl_lk ⟨msD_of (f:=fun q=>if q<i then ptM (l.pt q) else ptM (l.pt (i:Int).toNat)) (by omega) fun q hq=>?_,⟨by omega,fun i hi=>absurd hi (Nat.not_lt_zero _)⟩⟩ ⟨by omega,by omega,by omega,by omega,by omega,by omega⟩
   split
   ·show 11<=256;omega
   ·show 11<=256;omega
  ·refine gc_st3 rfl (fun q hq=>?_) (w64_succ hi (by omega))
   rw[Int.toNat_natCast]
   split
   ·rfl
   ·rw[show q=i by omega]
  ·simp only[decide_eq_false_iff_not] at h1;omega
 ·intro _
  refine Sat.of_eq (B3_eq l key x (lastR l) l.np (fun q=>ptM (l.pt q)) l.np) (sIte (fun h1=>?_) fun _=>⟨⟨nofun,rfl,rfl⟩⟩)
  simp only[decide_eq_true_eq] at h1;omega
 ·rintro e t ⟨rfl,rfl⟩
  have t:=k3_sat h hnp (l.np:Nat)
  unfold k3 at t
  exact t
theorem law_sat(h4:CtrOK Tryz.prog 4 c4){l:LW}{key:Int}{x:AW}(h:HL l key x):Sat Tryz.prog (t3 l key x) (·=bv true):=by
 have hnd:=h.nd
 have e0:(false||(l.nd:Int)==0||l.ck key != 0||l.ck (xorV key 1) != 460)=false:=by
  rw[h.ck0,h.ck1,show((l.nd:Int)==0)=false by rw[beq_eq_false_iff_ne];omega];rfl
 have ew:w64 ((l.nd:Int)-1)=(l.nd:Int)-1:=Go.Proofs.YtanlnopgadbpjaaGreat.w64_of (by omega) (by omega)
 refine Sat.of_eq (L3_eq l key x) (sIte (fun _=>sRet rfl) fun hA=>sNeed h.n5 (sNeed h.n6 (sIte (fun _=>sRet rfl) fun _=>sNeed h.n7 (sNeed (fun _=>h.n9) (sNeed (fun _=>h.n8) (sIte ft fun _=>sNeed (fun _=>h.n10) (sIte (fun _=>sRet rfl) fun hB=>sNeed h.n11 (sNeed h.n12 (sNeed h.n13 (sNeed h.n15 ?_))))))))))
 rw[Bool.or_eq_false_iff,decide_eq_false_iff_not,Bool.not_eq_false'] at hB
 rw[Bool.or_eq_false_iff,Bool.or_eq_false_iff,decide_eq_false_iff_not,decide_eq_false_iff_not] at hA
 have hm:=h.rest hB.2 (by omega) (by omega)
 refine sNeed h.n14 (sNeed (fun _=>h.n16 key) (sNeed (fun _=>h.n16 (xorV key 1)) (sIte (fun hc=>?_) fun _=>sNeed (by rw[ew];omega) (sNeed (xn17 key) (sNeed (xn18 key) (sNeed (fun _=>xn18 _) (sIte ft fun _=>lp_sat h4 hm (by omega))))))))
 rw[e0] at hc
 cases hc
theorem eqPt_refl(p:Pt):eqPt p p=true:=by unfold eqPt;simp
theorem eqPr_refl(p:Nat->Int):eqPr p p=true:=by unfold eqPr;simp
theorem bb_of{m:Nat}{D:Nat->Nat->Sx.DV}(h:BBd m D):BB m (fun i=>frN (D i 0)) (fun i=>roC (D i 0)):=⟨h.1,fun i hi=>by
 obtain⟨n,c,e,hb⟩:=h.2 i hi
 simp only[e];exact hb⟩
section
variable {key : Int} {x : AW} {sh wd : Nat → Int} {m : Nat} {y z : Nat → FsT}
noncomputable def npL(m:Nat)(y z:Nat->FsT):Nat:=(dA m y z).length
noncomputable def ptX(m:Nat)(y z:Nat->FsT):Nat->Pt:=ptF (dA m y z)
noncomputable def rcL(x:AW):Rel:=ctR x.e (intCell x.E)
noncomputable def dgD(z:Nat->FsT):Nat->Nat->Sx.DV:=fun i _=>.x (.int .u64 (fsV (z i)))
noncomputable def cL(x:AW):Nat->Rel:=ctC (fun i=>frN (x.D i 0)) fun i=>roC (x.D i 0)
noncomputable def r0L(x:AW)(m:Nat)(z:Nat->FsT):Rel:={ rcL x with cir:=6496484108755115417,fn:=m,fc:=fun i=>fsV (z i) }
noncomputable def eL(key:Int)(x:AW)(m:Nat)(z:Nat->FsT):Nat->Rel:=mkR key (cpl (min x.d 6) (cL x) (r0L x m z))
noncomputable def tL(x:AW)(m:Nat)(y z:Nat->FsT):Nat:=takN (npL m y z) x.f x.F
noncomputable def wL(x:AW)(m:Nat)(y z:Nat->FsT):WdT:=endW (npL m y z) x.f x.F
noncomputable def uL(x:AW)(m:Nat)(y z:Nat->FsT):Nat->FsT:=apF y (ptL (tL x m y z) fun i j=>ptE (ptX m y z i) j)
noncomputable def sL(x:AW)(m:Nat)(y z:Nat->FsT):List (Int×Int):=stI m (fun i=>dgF' (uL x m y z i)) z m
noncomputable def mL(key:Int)(x:AW)(m:Nat)(y z:Nat->FsT):Bool:=mtE (eL key x m z (min x.d 6)).cir (eL key x m z (min x.d 6)).fn (fun i _=>.x (.int .u64 ((eL key x m z (min x.d 6)).fc i))) m fun i j=>fsC (uL x m y z i) j
theorem last_fn:(eL key x m z (min x.d 6)).fn=m/\(eL key x m z (min x.d 6)).fc=(fun i=>fsV (z i))/\(eL key x m z (min x.d 6)).cir=6496484108755115417:=by
 unfold eL
 rw[mk_last]
 exact⟨rfl,rfl,rfl⟩
theorem x7(hs:Sml 4 m y)(hz:Sml 4 m z)(hsh:shQ m y m z):XN c7 (.tup [ptS (npL m y z) (ptX m y z),iv 0]) [ssS m y,ssS m z]:=xn_eq rfl ⟨⟨ssD_of (sml_ok hs),ssD_of (sml_ok hz),hs,hsh⟩,rfl⟩
theorem x9(hs:Sml 4 m y)(hz:Sml 4 m z)(hsh:shQ m y m z):XN cDi (.agg [ptS (npL m y z) (ptX m y z),iv 0]) [ssS m y,ssS m z]:=xn_eq rfl ⟨⟨ssD_of (sml_ok hs),ssD_of (sml_ok hz),hs,hsh⟩,rfl⟩
open Classical in
theorem x8{n n':Nat}{p q:Nat->Pt}(hn:n<=1000000000)(h:n=n')(hp:∀i,i<n->p i=q i):XN cSpt (bv true) [ptS n p,.d (.ro n' 4 fun i j=>ptE (q i) j)]:=xn_eq rfl ⟨⟨hn,ptD_F _ _,ptD_F _ _⟩,congrArg bv (decide_eq_true ⟨h,fun i hi=>by
 show eqPt (p i) (q i)=true
 rw[hp i hi];exact eqPt_refl _⟩).symm⟩
theorem x10(hl:npL m y z<=64):∃b,XN cBs (bv b) [ptS (npL m y z) (ptX m y z)]/\(b=true->∀i,i<npL m y z->by6 (ptX m y z i)=false):=⟨_,xn_eq rfl ⟨⟨by omega,ptD_F _ _⟩,rfl⟩,fun h=>of_decide_eq_true h⟩
theorem x11(he:Byt x.e x.E):XN cCt (.agg (relL (rcL x))) [.d (.ro x.e 1 x.E)]:=xn_eq rfl ⟨he,rfl⟩
theorem x12(hz:Sml 4 m z):XN cDg (.d (.ro m 1 (dgD z))) [ssS m z]:=xn_eq rfl ⟨⟨by have:=hz.le;omega,ssD_of (sml_ok hz)⟩,rfl⟩
theorem x13:XN cCi0 (u64v 6496484108755115417) [.agg [nilS,nilS]]:=xn_eq rfl rfl
theorem x15(hd:BBd x.d x.D):XN (cMkG FM) (.d (chD (min x.d 6) (mkR key (cL x)))) [u64v key,.d (.ro x.d 1 x.D)]:=xn_eq rfl ⟨hd,rfl⟩
theorem vd0(he:Byt x.e x.E)(hm:m<=4):vdB (r0L x m z)=true:=by
 have h:=ct_vd he
 unfold vdB at h ⊢
 rw[Bool.and_eq_true,decide_eq_true_eq] at h ⊢
 refine⟨h.1,?_⟩
 show((m:Int)<=8)
 omega
theorem vdc(hd:BBd x.d x.D):∀k,k<min x.d 6->vdB (cL x k)=true:=mk_vd (bb_of hd)
theorem fnc(hd:BBd x.d x.D):∀i,i<min x.d 6->(mkR key (cL x) i).fn<=1000000:=mk_fn (bb_of hd)
theorem fne(hd:BBd x.d x.D)(hm:m<=4):∀i,i<min x.d 6+1->(eL key x m z i).fn<=1000000:=fun i hi=>by
 unfold eL
 rw[mkR_fn]
 unfold cpl
 split
 ·have:=fnc (key:=key) hd i (by assumption)
  rwa[mkR_fn] at this
 ·show m<=1000000;omega
theorem x14(he:Byt x.e x.E)(hd:BBd x.d x.D)(hm:m<=4){l:LW}(hl:l.rc=rcL x):XN cNx (.tup [.d (chD (min x.d 6+1) (eL key x m z)),iv 0]) [u64v key,.d (chD (min x.d 6) (mkR key (cL x))),.agg (rN l (.d (.ro m 1 (dgD z))))]:=by
 have h6:=min6 x.d
 have hE:nxE key (min x.d 6) (mkR key (cL x)) (r0L x m z)=0:=nxE_ok (mkR_ck (by omega) (vdc hd)) (by omega) (vd0 he hm)
 have hN:=nxN_ok hE
 refine xn_self (r':=.tup [.d (chD (nxN key (min x.d 6) (mkR key (cL x)) (r0L x m z)) (nxF key (min x.d 6) (mkR key (cL x)) (r0L x m z))),iv (nxE key (min x.d 6) (mkR key (cL x)) (r0L x m z))]) ?_ ?_
 ·have hrel:relOf (rN l (.d (.ro m 1 (dgD z))))=some (r0L x m z,U64C m (dgD z)):=by
   unfold rN
   rw[hl]
   rfl
  have hev:∀o,relOf (rN l (.d (.ro m 1 (dgD z))))=o->o=some (r0L x m z,U64C m (dgD z))->(cNx [u64v key,.d (chD (min x.d 6) (mkR key (cL x))),.agg (rN l (.d (.ro m 1 (dgD z))))]).ev (.tup [.d (chD (nxN key (min x.d 6) (mkR key (cL x)) (r0L x m z)) (nxF key (min x.d 6) (mkR key (cL x)) (r0L x m z))),iv (nxE key (min x.d 6) (mkR key (cL x)) (r0L x m z))]):=by
   intro o ho hs
   show(match rowD 20 (chD (min x.d 6) (mkR key (cL x))),relOf (rN l (.d (.ro m 1 (dgD z)))) with
    |some (n,cell),some (r,p)=>Tr.need (ChC n cell/\p) (.ret (SV.tup [.d (chD (nxN key n (relC cell) r) (nxF key n (relC cell) r)),iv (nxE key n (relC cell) r)]))
    |_,_=>Tr.fail).ev _
   rw[ho,hs]
   exact⟨⟨ChC.self (by omega) (fnc hd),⟨by omega,fun i hi=>rfl⟩⟩,rfl⟩
  exact hev _ rfl hrel
 ·rw[hE,hN]
  exact tup2_le ⟨rfl,rfl,fun i j hi hj=>by
   show relD (nxF key (min x.d 6) (mkR key (cL x)) (r0L x m z) i) j=relD (eL key x m z i) j
   rw[nxF_mk hi];rfl⟩
theorem x16(hd:BBd x.d x.D)(hm:m<=4)(k:Int):XN cCk (iv (ckV k (min x.d 6+1) (eL key x m z))) [u64v k,.d (chD (min x.d 6+1) (eL key x m z))]:=xn_eq rfl ⟨ChC.self (by have:=min6 x.d;omega) (fne hd hm),rfl⟩
theorem x21(h0:0<=key)(h1:key<18446744073709551616)(hn:npL m y z<=30)(hA:AcD x.f x.F):XN c21 (.tup [lkS key (npL m y z-(wL x m y z).B) (fun j=>ptM (ptX m y z ((wL x m y z).B+j))) (wL x m y z).B 0 (fun _=>ms0) 0,lkS (xorV key 1) 0 (fun _=>ms0) 0 ((wL x m y z).R-(wL x m y z).T) (fun j=>ptM (ptX m y z ((wL x m y z).T+j))) (wL x m y z).R,msS (tL x m y z) (fun q=>ptM (ptX m y z q)),bv true]) [lkS key (npL m y z) (fun q=>ptM (ptX m y z q)) 0 0 (fun _=>ms0) 0,lk0 (xorV key 1),.d (.ro x.f 3 x.F)] :=
 xn_eq rfl ⟨⟨⟨⟨h0,h1,rfl⟩,hn,msD_of (f:=fun q=>ptM (ptX m y z q)) (by omega) fun i hi=>(by show 11<=256;omega),hA⟩,⟨rfl,rfl,rfl⟩,rfl,rfl,rfl,rfl⟩,rfl⟩
theorem x22{T:Nat}(hT:T<=npL m y z)(hl:npL m y z<=64)(hb:∀i,i<npL m y z->by6 (ptX m y z i)=false):XN c22 (ptS T (ptX m y z)) [msS T fun q=>ptM (ptX m y z q)] :=
 xn_self (r':=ptS T fun i=>unP (pkB (ptX m y z i))) ⟨⟨by omega,fun i hi=>rfl⟩,rfl⟩ ⟨rfl,rfl,fun i j hi hj=>by
  show ptE (unP (pkB (ptX m y z i))) j=ptE (ptX m y z i) j
  have e:unP (pkB (ptX m y z i))=ptX m y z i:=unP_pk (dA_pk (i:=i) (by have:npL m y z=(dA m y z).length:=rfl;omega) (hb i (by omega)))
  rw[e]⟩
theorem x23(hs:Sml 4 m y)(hT:tL x m y z<=npL m y z):XN c23 (.tup [ssS m (uL x m y z),iv 0]) [ssS m y,ptS (tL x m y z) (ptX m y z)]:=xn_eq rfl ⟨dA_apD hs hT,rfl⟩
theorem u_sml(hs:Sml 4 m y):Sml 4 m (uL x m y z):=ap_sml hs _
open Classical in
theorem x24(hs:Sml 4 m y):XN cSh (bv true) [ssS m (uL x m y z),ssS m y]:=xn_eq rfl ⟨⟨⟨by have:=hs.le;omega,ssD_of (sml_ok (u_sml hs))⟩,ssD_of (sml_ok hs)⟩,congrArg bv (decide_eq_true (ap_shQ (n:=m) (x:=y) (ptL (tL x m y z) fun i j=>ptE (ptX m y z i) j))).symm⟩
theorem x26(hs:Sml 4 m y):XN cDgs (.d (.ro m 1 fun i j=>fmC (dgF' (uL x m y z i)) j)) [ssS m (uL x m y z)]:=xn_eq rfl ⟨⟨by have:=hs.le;omega,ssD_of (sml_ok (u_sml hs))⟩,rfl⟩
theorem x25(hz:Sml 4 m z):XN cSt (.d (.ro (sL x m y z).length 2 fun i j=>lsC (sL x m y z) i j)) [.d (.ro m 1 fun i j=>fmC (dgF' (uL x m y z i)) j),ssS m z]:=xn_eq rfl ⟨⟨⟨by have:=hz.le;omega,ssD_of (sml_ok hz)⟩,fun i hi=>rfl⟩,rfl⟩
theorem x27(hs:Sml 4 m y):XN cMtN (bv (mL key x m y z)) [.agg (relL (eL key x m z (min x.d 6))),.agg [nilS,nilS],ssS m (uL x m y z)]:=xn_eq rfl ⟨⟨⟨by rw[last_fn.1];have:=hs.le;omega,fun i hi=>rfl⟩,by have:=hs.le;omega,ssD_of (sml_ok (u_sml hs))⟩,rfl⟩
open Classical in
theorem x29(hs:Sml 4 m y)(hz:Sml 4 m z):∃b,XN cEl (bv b) [ssS m (uL x m y z),ssS m z]/\(elQ m (uL x m y z) m z->b=true):=⟨_,xn_eq rfl ⟨⟨⟨by have:=hs.le;omega,ssD_of (sml_ok (u_sml hs))⟩,ssD_of (sml_ok hz)⟩,rfl⟩,fun h=>decide_eq_true h⟩
open Classical in
theorem x30(L:List (Int×Int))(hl:L.length<=1000000000):XN cSpr (bv true) [.d (.ro L.length 2 fun i j=>lsC L i j),.d (.ro L.length 2 fun i j=>lsC L i j)]:=by
 have hp:PrD L.length fun i j=>lsC L i j:=fun i j hi hj=>by
  match j,hj with
  |0,_=>rfl
  |1,_=>rfl
 exact xn_eq rfl ⟨⟨hl,hp,hp⟩,congrArg bv (decide_eq_true ⟨rfl,fun i hi=>eqPr_refl _⟩).symm⟩
end
end Go.Proofs.YtanlnopgadbpjaaGreat.Rw
namespace Go.Sx
section
variable [Globs]
theorem law_eachC{P:Program}{k:FuncId}{okA:List SV->Prop}(hf:(P.funcs[k]?).isSome=true)(hb:(fnOf P k).body.isSome=true)
  (h:∀ss,okA ss->∃(C:Ctx) (D:Dr),CtxOK P C/\DrOK P C D/\∃ss' n hint,leSVs 0 [] [] ss ss'/\Sat P (fnT P C D n (fnOf P k) (bodyOf P k) ss' hint) (·=bv true)) :
  ∃c:Ctr,CtrOK P k c/\∀ss,okA ss->(c ss).ev (bv true):=by
 refine⟨fun ss=>.need (okA ss) (.ret (bv true)),?_,fun ss hs=>⟨hs,rfl⟩⟩
 intro ss vs w F r hF hgl hr hev
 obtain⟨h1,rfl⟩:=hev
 obtain⟨C,D,hC,hD,ss',n,hint,h2,h3⟩:=h ss h1
 exact ctrOK_leS (c:=fun ts=>.need (ts=ss) (.ret (bv true))) hC hD hf hb (fun ts q hq=>by
  obtain⟨rfl,rfl⟩:=hq
  exact⟨ss',n,hint,h2,h3⟩) ss vs w F _ hF hgl hr ⟨rfl,rfl⟩
end
def fldT(P:Program)(t:TypeId):Option (List TypeId):=match P.underlying t with|some (.struct fs)=>some (fs.toList.map (·.type))|_=>none
def okTs(P:Program)(n:Nat):List TypeId->List DV->Prop
 |[],ds=>ds=[]
 |t::ts,ds=>∃a b,ds=a++b/\okT P n t a/\okTs P n ts b
theorem okFs_Ts{P:Program}{n:Nat}:∀{fs:List Field} {ds:List DV},okFs (okT P n) fs ds->okTs P n (fs.map (·.type)) ds
 |[],ds,h=>h
 |f::fs,ds,h=>by
  obtain⟨a,b,e,h1,h2⟩:=h
  exact⟨a,b,e,h1,okFs_Ts h2⟩
theorem okT_struct{P:Program}{n:Nat}{t:TypeId}{ts:List TypeId}{ds:List DV}(h:fldT P t=some ts)(k:okT P (n+1) t ds):okTs P n ts ds/\svT P t ds=.agg (ds.map .d):=by
 unfold fldT at h
 split at h
 ·rename_i fs hu
  unfold okT at k
  rw[hu] at k
  simp only[Option.some.injEq] at h
  subst h
  refine⟨okFs_Ts k,?_⟩
  unfold svT;rw[hu]
 ·cases h
end Go.Sx
namespace Go.Proofs.YtanlnopgadbpjaaGreat.Rw
open Go.Proofs.YtanlnopgadbpjaaGreat.Rm
open Go.Sx
theorem tw(n:Nat):((w64 (((n+1:Nat):Int)-1)).toNat)=n\/9000000000000000000<n:=by
 by_cases h:9000000000000000000<n
 ·exact .inr h
 ·left
  rw[Go.Proofs.YtanlnopgadbpjaaGreat.w64_of (by omega) (by omega)];omega
section
variable {key : Int} {x : AW} {sh wd : Nat → Int} {m : Nat} {y z : Nat → FsT}
theorem u_whole(hT:tL x m y z=npL m y z):uL x m y z=apF y (dA m y z):=by
 unfold uL
 rw[hT]
 have:ptL (npL m y z) (fun i j=>ptE (ptX m y z i) j)=dA m y z:=by
  have h:=ptL_take (L:=dA m y z) (T:=(dA m y z).length) (Nat.le_refl _)
  rw[List.take_length] at h
  exact h
 rw[this]
theorem m_whole(hs:Sml 4 m y)(he:elQ m (uL x m y z) m z):mL key x m y z=true:=by
 unfold mL mtE
 obtain⟨h1,h2,h3⟩:=last_fn (key:=key) (x:=x) (m:=m) (z:=z)
 rw[h1,h2,h3,dg00,beq_self_eq_true,Bool.true_and]
 unfold eqFs eqS
 refine decide_eq_true ⟨rfl,fun i hi=>?_⟩
 show fsV (z i)=fsV (uL x m y z i)
 exact(fs_congr ((u_sml hs).m i hi) (he.1.2 i hi) (he.2 i hi)).symm
theorem law_mid(h4:CtrOK Tryz.prog 4 c4)(k0:0<=key)(k1:key<18446744073709551616)(h5:XN (Rm.cSe sh wd) (ssS m y) [.agg [.d (.ro x.a 1 x.A),.d (.ro x.b 1 x.B)]])(h6:XN cWo (ssS m z) [ssS m y,.d (.ro x.c 2 x.C)])
  (hs:Sml 4 m y) (hz:Sml 4 m z) (hsh:shQ m y m z) (hy:WrdU m y) (hzu:WrdU m z) (hd:BBd x.d x.D) (he:Byt x.e x.E) (hA:x.f<=80->AcD x.f x.F):∃l:LW,Sat Tryz.prog (t3 l key x) (·=bv true):=by
 have hm:=hs.le
 have hl:npL m y z<=64:=dA_len hs
 have h6':=min6 x.d
 obtain⟨bb,x10a,x10b⟩:=x10 (m:=m) (y:=y) (z:=z) hl
 obtain⟨eb,x29a,x29b⟩:=x29 (x:=x) hs hz
 refine⟨⟨sh,wd,m,y,z,npL m y z,ptX m y z,bb,rcL x,dgD z,min x.d 6,mkR key (cL x),min x.d 6+1,eL key x m z,fun k=>ckV k (min x.d 6+1) (eL key x m z),npL m y z-(wL x m y z).B,fun j=>ptM (ptX m y z ((wL x m y z).B+j)),(wL x m y z).B,(wL x m y z).R-(wL x m y z).T,fun j=>ptM (ptX m y z ((wL x m y z).T+j)),(wL x m y z).R,tL x m y z,fun q=>ptM (ptX m y z q),ptX m y z,uL x m y z,fun i=>dgF' (uL x m y z i),(sL x m y z).length,fun i j=>lsC (sL x m y z) i j,mL key x m y z,eb⟩,law_sat h4 ?_⟩
 refine { k0:=k0,k1:=k1,n5:=h5,n6:=h6,n7:=x7 hs hz hsh,n9:=x9 hs hz hsh,n8:=x8 (by show npL m y z<=1000000000;omega) rfl (fun _ _=>rfl),n10:=x10a,n11:=x11 he,n12:=x12 hz,n13:=x13,n15:=x15 hd,n14:=x14 he hd hm rfl,n16:=fun k=>x16 hd hm k,ck0:=ck_mk (by omega) (vdc hd) (vd0 he hm),ck1:=ck_other k0 k1 (by omega) (vdc hd) (vd0 he hm),nd:=?_,rest:=fun hb hnp hf=>?_ }
 ·show 1<=min x.d 6+1/\min x.d 6+1<=1000
  omega
 have hA:=hA hf
 have hT:tL x m y z<=npL m y z:=takN_le hA
 have hel:tL x m y z=npL m y z->elQ m (uL x m y z) m z:=fun h=>by rw[u_whole h];exact ap_el hy hzu hsh
 have elast:lastR ⟨sh,wd,m,y,z,npL m y z,ptX m y z,bb,rcL x,dgD z,min x.d 6,mkR key (cL x),min x.d 6+1,eL key x m z,fun k=>ckV k (min x.d 6+1) (eL key x m z),npL m y z-(wL x m y z).B,fun j=>ptM (ptX m y z ((wL x m y z).B+j)),(wL x m y z).B,(wL x m y z).R-(wL x m y z).T,fun j=>ptM (ptX m y z ((wL x m y z).T+j)),(wL x m y z).R,tL x m y z,fun q=>ptM (ptX m y z q),ptX m y z,uL x m y z,fun i=>dgF' (uL x m y z i),(sL x m y z).length,fun i j=>lsC (sL x m y z) i j,mL key x m y z,eb⟩=eL key x m z (min x.d 6):=by
  show eL key x m z (w64 (((min x.d 6+1:Nat):Int)-1)).toNat=_
  rcases tw (min x.d 6) with h|h
  ·rw[h]
  ·omega
 refine { n21:=x21 k0 k1 hnp hA,n22:=x22 hT hl (x10b hb),hT:=hT,n8:=x8 (by show tL x m y z<=_;omega) (by show tL x m y z=((tL x m y z:Nat):Int).toNat-0;omega) (fun i _=>?_),n23:=x23 hs hT,n24:=x24 hs,n26:=x26 hs,n25:=x25 hz,n27:=?_,n29:=x29a,n30:=x30 _ ?_,whole:=fun hw=>⟨x29b (hel hw),m_whole hs (hel hw),?_⟩ }
 ·show ptX m y z i=ptX m y z (0+i)
  rw[Nat.zero_add]
 ·rw[elast];exact x27 hs
 ·have:=stI_len m (fun i=>dgF' (uL x m y z i)) z m hz.m
  show(sL x m y z).length<=_
  unfold sL
  omega
 ·show(sL x m y z).length=0
  unfold sL
  rw[st_none (hel hw)];rfl
end
theorem u5:Tryz.prog.underlying 5=some (.int .u8):=by kernel_rfl
theorem u31:Tryz.prog.underlying 31=some (.int .u64):=by kernel_rfl
theorem u23:Tryz.prog.underlying 23=some (.slice 31):=by kernel_rfl
theorem u26:Tryz.prog.underlying 26=some (.slice 97):=by kernel_rfl
theorem u27:Tryz.prog.underlying 27=some (.slice 22):=by kernel_rfl
theorem u28:Tryz.prog.underlying 28=some (.slice 137):=by kernel_rfl
theorem u97:Tryz.prog.underlying 97=some (.array 2 31):=by kernel_rfl
theorem c31:Tryz.prog.cellsOf 31=1:=by kernel_rfl
theorem c22':Tryz.prog.cellsOf 22=1:=by kernel_rfl
theorem c97:Tryz.prog.cellsOf 97=2:=by kernel_rfl
theorem c137:Tryz.prog.cellsOf 137=3:=by kernel_rfl
theorem u64_arg{n:Nat}{ds:List Sx.DV}(h:okT Tryz.prog (n+1) 31 ds):∃v:Int,U6 v/\ds=[.x (.int .u64 v)]:=by
 obtain⟨v,hv,he⟩:=okT_int u31 h
 have h0:IntKind.u64.min=0:=rfl
 have h1:IntKind.u64.max=18446744073709551615:=rfl
 exact⟨v,⟨by omega,by omega⟩,he⟩
theorem words_arg{n:Nat}{ds:List Sx.DV}(h:okT Tryz.prog (n+2) 23 ds):∃(m:Nat) (f:Nat->Nat->Sx.DV),ds=[.ro m 1 f]/\∀i,i<m->∃v,f i 0=.x (.int .u64 v)/\U6 v:=by
 unfold okT at h
 rw[u23] at h
 obtain⟨m,cell,hm,rfl,hc⟩:=h
 rw[c31] at hc ⊢
 refine⟨m,cell,rfl,fun i hi=>?_⟩
 obtain⟨v,hv,he⟩:=u64_arg (hc i hi)
 have e:cell i 0=.x (.int .u64 v):=by simpa [List.range,List.range.loop] using he
 exact⟨v,e,hv⟩
theorem chg_arg{n:Nat}{ds:List Sx.DV}(h:okT Tryz.prog (n+3) 26 ds):∃(m:Nat) (f:Nat->Nat->Sx.DV),ds=[.ro m 2 f]/\m<=9223372036854775807/\∀i,i<m->∃u v,(f i 0=.x (.int .u64 u)/\f i 1=.x (.int .u64 v))/\U6 u/\U6 v:=by
 unfold okT at h
 rw[u26] at h
 obtain⟨m,cell,hm,rfl,hc⟩:=h
 rw[c97] at hc ⊢
 refine⟨m,cell,rfl,hm,fun i hi=>?_⟩
 have h:=hc i hi
 unfold okT at h
 rw[u97] at h
 obtain⟨a,t,e1,g1,b,t2,e2,g2,e3⟩:=h
 obtain⟨u,hu,rfl⟩:=u64_arg g1
 obtain⟨v,hv,rfl⟩:=u64_arg g2
 subst e3;subst e2
 have e:cell i 0=.x (.int .u64 u)/\cell i 1=.x (.int .u64 v):=by simpa [List.range,List.range.loop] using e1
 exact⟨u,v,e,hu,hv⟩
theorem chain_arg{n:Nat}{ds:List Sx.DV}(h:okT Tryz.prog (n+3) 27 ds):∃(m:Nat) (f:Nat->Nat->Sx.DV),ds=[.ro m 1 f]/\BBd m f:=by
 unfold okT at h
 rw[u27] at h
 obtain⟨m,cell,hm,rfl,hc⟩:=h
 rw[c22'] at hc ⊢
 refine⟨m,cell,rfl,hm,fun i hi=>?_⟩
 obtain⟨k,c,h1,h2⟩:=okBytes (hc i hi)
 have e:cell i 0=.ro k 1 c:=by simpa [List.range,List.range.loop] using h2
 exact⟨k,c,e,h1⟩
theorem acts_arg{n:Nat}{ds:List Sx.DV}(h:okT Tryz.prog (n+4) 28 ds):∃(m:Nat) (f:Nat->Nat->Sx.DV),ds=[.ro m 3 f]/\(m<=1000000000->AcD m f):=by
 unfold okT at h
 rw[u28] at h
 obtain⟨m,cell,hm,rfl,hc⟩:=h
 rw[c137] at hc ⊢
 refine⟨m,cell,rfl,fun hm2=>⟨hm2,fun i hi=>?_⟩⟩
 obtain⟨⟨a,t,e1,g1,b,t2,e2,g2,c,t3,e3,g3,e4⟩,_⟩:=okT_struct (ts:=[5,5,22]) (by kernel_rfl) (hc i hi)
 obtain⟨u,hu,rfl⟩:=okT_int u5 g1
 obtain⟨v,hv,rfl⟩:=okT_int u5 g2
 obtain⟨k,D,hD,rfl⟩:=okBytes g3
 have h0:IntKind.u8.min=0:=rfl
 have h1:IntKind.u8.max=255:=rfl
 subst e4;subst e3;subst e2
 have e:cell i 0=.x (.int .u8 u)/\cell i 1=.x (.int .u8 v)/\cell i 2=.ro k 1 D:=by simpa [List.range,List.range.loop] using e1
 obtain⟨a0,a1,a2⟩:=e
 rw[a0,a1,a2]
 exact⟨rfl,⟨rfl,by show 0<=v;omega,by show v<256;omega⟩,rfl⟩
theorem topDelivered_ok:∃c:Ctr,CtrOK Tryz.prog 3 c/\∀ss,okArgs Tryz.prog 6 [30,31] ss->(c ss).ev (bv true):=by
 refine law_eachC (by kernel_rfl) (by kernel_rfl) fun ss hs=>?_
 obtain⟨d1,r1,rfl,g1,d2,r2,rfl,g2,rfl⟩:=hs
 obtain⟨⟨a1,t1,rfl,l1,a2,t2,rfl,l2,a3,t3,rfl,l3,a4,t4,rfl,l4,a5,t5,rfl,l5,rfl⟩,e1⟩:=okT_struct (ts:=[25,26,27,22,28]) (by kernel_rfl) g1
 obtain⟨⟨b1,q1,rfl,m1,b2,q2,rfl,m2,rfl⟩,_⟩:=okT_struct (ts:=[22,23]) (by kernel_rfl) l1
 obtain⟨a,A,hA,rfl⟩:=okBytes m1
 obtain⟨b,B,rfl,hB⟩:=words_arg m2
 obtain⟨c,C,rfl,hc0,hC⟩:=chg_arg l2
 obtain⟨d,D,rfl,hD⟩:=chain_arg l3
 obtain⟨e,E,hE,rfl⟩:=okBytes l4
 obtain⟨f,F,rfl,hF⟩:=acts_arg l5
 obtain⟨key,hk,rfl⟩:=u64_arg g2
 obtain⟨shF,hshF⟩:∃g:Nat->Int,∀i,0<=g i/\(i<a->A i 0=.x (.int .u8 (g i))):=⟨fun i=>if i<a then numV (A i 0) else 0,fun i=>by
  by_cases hi:i<a
  ·obtain⟨c,e,h1,h2⟩:=hA.2 i hi
   dsimp only
   rw[if_pos hi,e]
   exact⟨h1,fun _=>rfl⟩
  ·dsimp only
   rw[if_neg hi]
   exact⟨Int.le_refl _,fun h=>absurd h hi⟩⟩
 obtain⟨wdF,hwdF⟩:∃g:Nat->Int,∀i,U6 (g i)/\(i<b->B i 0=.x (.int .u64 (g i))):=⟨fun i=>if i<b then numV (B i 0) else 0,fun i=>by
  by_cases hi:i<b
  ·obtain⟨v,e,hv⟩:=hB i hi
   dsimp only
   rw[if_pos hi,e]
   exact⟨hv,fun _=>rfl⟩
  ·dsimp only
   rw[if_neg hi]
   exact⟨⟨by omega,by omega⟩,fun h=>absurd h hi⟩⟩
 have hSe:XN (Rm.cSe shF wdF) (ssS (seV a shF b wdF).length fun i=>fsT ((seV a shF b wdF).getD i [])) [.agg [.d (.ro a 1 A),.d (.ro b 1 B)]]:=xn_eq rfl ⟨⟨fun i=>(hshF i).1,fun i hi=>(hshF i).2 hi,fun i hi=>(hwdF i).2 hi⟩,rfl⟩
 obtain⟨hs4,hsU⟩:=se_ok (a:=a) (b:=b) (sh:=shF) (wd:=wdF) fun i=>(hwdF i).1
 generalize (seV a shF b wdF).length=m at hSe hs4 hsU
 generalize (fun i=>fsT ((seV a shF b wdF).getD i []))=y at hSe hs4 hsU
 have hCn:∀i j,i<c->j<2->C i j=.x (.int .u64 (numV (C i j)))/\U6 (numV (C i j)):=fun i j hi hj=>by
  obtain⟨u,v,⟨h1,h2⟩,h3,h4⟩:=hC i hi
  match j,hj with
  |0,_=>rw[h1];exact⟨rfl,h3⟩
  |1,_=>rw[h2];exact⟨rfl,h4⟩
 have hWo:XN cWo (ssS m (chgF y (fun i j=>numV (C i j)) c)) [ssS m y,.d (.ro c 2 C)]:=xn_eq rfl ⟨⟨ssD_of (sml_ok hs4),hs4,hc0,fun i hi=>(hCn i 0 hi (by omega)).2.1,fun i j hi hj=>(hCn i j hi hj).1⟩,rfl⟩
 have hz4:Sml 4 m (chgF y (fun i j=>numV (C i j)) c):=chg_sml hs4 _ _
 have hzU:WrdU m (chgF y (fun i j=>numV (C i j)) c):=chg_U hsU c fun i hi=>(hCn i 1 hi (by omega)).2
 obtain⟨l,hl⟩:=law_mid (x:=⟨a,A,b,B,c,C,d,D,e,E,f,F⟩) c4_ok hk.1 hk.2 hSe hWo hs4 hz4 (chg_sh _ _) hsU hzU hD hE fun hf=>hF (by have hf:f<=80:=hf;omega)
 refine⟨C3 l key,D3 l key,C3_ok c4_ok l key,D3_ok c4_ok l key,[.agg (xL ⟨a,A,b,B,c,C,d,D,e,E,f,F⟩),u64v key],200,.nil,?_,hl⟩
 rw[e1]
 unfold xL
 have e3:svT Tryz.prog 31 [.x (.int .u64 key)]=u64v key:=by rfl
 rw[e3]
 refine leSVs_refl _ ?_
 rfl
end Go.Proofs.YtanlnopgadbpjaaGreat.Rw
namespace Go.Proofs.YtanlnopgadbpjaaGreat
open Go.ChangeShapes Go.WideShapes Go.ChangeAt Go.RowKit Go.Sx
theorem glob0{w:World}{F:Nat->Prop}:GlobOK w F:=⟨fun g n cell h=>(by cases h),fun g Q h=>(by cases h)⟩
theorem own:ownKnob Tryz.prog.godebug=none:=by kernel_rfl
theorem laidOut:laidOutB Tryz.prog=true:=by kernel_rfl
set_option maxRecDepth 100000 in
theorem lifted(os:Os)(started:os.Started)(H:Type)(enc:TypeId×Value->H) :
  ReturnsInHanded {} Tryz.checked os 3 .any (Rows.topDeliveredSpec.pre6 enc Tryz.prog Tryz.f3 Rows.topDeliveredRow.domain false) (Rows.topDeliveredSpec.post enc Tryz.prog Tryz.f3 false true false false):=by
 refine returnsInHanded_of_change (C:=Tryz.checked) own started (by kernel_rfl) Tryz.func3
  (ChangeSpec.witness6 (enc:=enc) (C:=Tryz.checked) false ⟨#[],#[.agg #[.slice none 0 0,.slice none 0 0,.slice none 0 0,.slice none 0 0,.slice none 0 0,.slice none 0 0],.int .u64 0],[]⟩ 8 (by kernel_rfl) (by kernel_rfl) (by kernel_rfl) (by kernel_rfl)) ?_
 intro W base args ds gs before hval0 hW hcnd _
 have hval:∀(j:Nat) t v,Tryz.f3.params[j]?=some t->args[j]?=some v->Value.okWide Tryz.prog W .any base t v:=hval0
 have hW':=hW
 obtain⟨p,q,hA0,hV,rfl,hfz,hnd⟩:=hW
 have hA:DataW.TrodAll enc Tryz.prog W 0 (fun _=>true) true Tryz.f3.params.toList args.toList ds p:=hA0
 rw[Tryz.params3] at hA hval
 obtain⟨rfl,rfl⟩:=trodVars_none hV
 obtain⟨v0,vs0,d0,ds0,p0,q0,hargs,rfl,e0,h0,r0⟩:=trodAll_cons hA
 obtain⟨v1,vs1,d1,ds1,p1,q1,e1_1,rfl,e2_1,h1,r1⟩:=trodAll_cons r0
 obtain⟨e3,rfl,e4⟩:=trodAll_nil r1
 obtain⟨c,hc,hev⟩:=Rw.topDelivered_ok
 have hlt:=trodAll_lt hA
 obtain⟨ss,o1,o2,o3⟩:=open_args (F:=fun b=>∃x∈p,x.block=b) (n:=6) (r:=.any) (base:=base) (by kernel_rfl) hA (fun j t v a b=>hval j t v (by simpa using a) (by simpa using b)) (fun q hq=>⟨q,hq,rfl⟩)
 refine(law_of hc (F:=fun b=>∃x∈p,x.block=b) (fun b ⟨x,hx,e⟩=>e▸hlt x hx) glob0 (ss:=ss) ⟨by simpa using o2,fun i hi=>by simpa [List.getD,Array.getD_eq_getD_getElem?] using o3 i hi⟩ (hev ss o1)).mono fun e W' ⟨he,bel⟩=>?_
 subst he
 have hback:=trodAll_below laidOut bel (by kernel_rfl) hA
 exact⟨_,rfl,_,_,_,[],_,[],hW',trodAll_mk1 (shut_bool Tryz.underlying4 _),hback,rfl,bel.frame _,fun h=>by cases h⟩
theorem over:Rows.topDeliveredRow.holds Tryz.pinned (OpenSpec.ofChange Rows.topDeliveredSpec) :=
 OpenClaim.holds_of_wide 3 Tryz.f3 rfl rfl rfl rfl rfl rfl rfl ⟨rfl,rfl,rfl,rfl,rfl⟩ rfl rfl rfl rfl rfl (by kernel_rfl) Tryz.func3 (by kernel_rfl)
  (of_decide_eq_true (by kernel_rfl)) (by unfold Func.isWrapper;first|(rw[if_pos (by decide +kernel)];kernel_rfl)|(rw[if_neg (by decide +kernel)];exact⟨rfl,rfl⟩))
  (fun os started H enc _=>lifted os started H enc)
theorem topDelivered_holds:Rows.TopDeliveredSaid:=over
#print axioms topDelivered_holds
end Go.Proofs.YtanlnopgadbpjaaGreat
