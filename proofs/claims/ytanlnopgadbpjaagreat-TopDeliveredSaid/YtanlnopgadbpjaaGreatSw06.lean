/- Part of a proof of the given statements of this seat (SxWj, SxXa, SxXb, SxXc, SxXe, SxXd, SxXf, SxXg, SxXh, SxXi, SxXj, SxXk, SxXl, SxUmRc, SxUmRd, SxUmRe, SxUmRf, SxXm, SxXn, SxXo, SxXp, SxXq, SxXw, SxXr, SxXs, SxXt, SxXu, SxXv, SxUmRg, SxUmRh, SxUmRi, SxUmRj): no conditions beyond those typed here. -/
import Derived.Test.YtanlnopgadbpjaaGreatSw05
import Derived.Test.YtanlnopgadbpjaaGreatSw02
import Derived.Test.YtanlnopgadbpjaaGreatSw03
import Derived.Test.YtanlnopgadbpjaaGreatSw04
set_option linter.unusedVariables false
set_option linter.unusedSimpArgs false
set_option linter.unusedSectionVars false
set_option linter.constructorNameAsVariable false
set_option maxRecDepth 100000
namespace Go.Proofs.YtanlnopgadbpjaaGreat.Rw
open Go.Proofs.YtanlnopgadbpjaaGreat.Rm
open Go.Sx
noncomputable def manX1:FuncId->Option Ctr:=fun k=>match k with
 |71=>some c71
 |_=>none
theorem manX1_ok(k:Nat)(c:Ctr)(hk:manX1 k=some c):CtrOK Tryz.prog k c/\goodF Tryz.prog k=true:=by
 unfold manX1 at hk
 split at hk
 ·cases hk;exact⟨c71_ok,by kernel_rfl⟩
 ·cases hk
noncomputable def CX1:Ctx:=ctxN Tryz.prog manX1 (fun _=>false) 200 .nil 6
theorem CX1_ok:CtxOK Tryz.prog CX1:=ctxN_ok mixed manX1_ok 6
noncomputable def DX1:Dr:=drawnL Tryz.prog CX1
theorem DX1_ok:DrOK Tryz.prog CX1 DX1:=drawnL_ok CX1_ok mixed
noncomputable def t36(n:Nat)(x:Nat->FsT)(m:Nat)(y:Nat->FsT):Tree SV:=fnT Tryz.prog CX1 DX1 200 (fnOf Tryz.prog 36) (bodyOf Tryz.prog 36) [ssS n x,ssS m y] .nil
theorem L36_eq(n:Nat)(x:Nat->FsT)(m:Nat)(y:Nat->FsT):t36 n x m y=.need (n<=1000000000/\(SsD n fun i j=>fsC (x i) j)/\SsD m fun i j=>fsC (y i) j) (.ret (bv (shB n x m y))):=by kernel_rfl
noncomputable def c36:Ctr:=fun ss=>match ss with
 |[.d (.ro n 1 F),.d (.ro m 1 G)]=>.need (n<=1000000000/\SsD n F/\SsD m G) (.ret (bv (shB n (fun i=>fsOf (F i)) m fun i=>fsOf (G i))))
 |_=>.fail
theorem c36_ok:CtrOK Tryz.prog 36 c36:=ctrOK_leS CX1_ok DX1_ok (by kernel_rfl) (by kernel_rfl) fun ss r h=>by
 unfold c36 at h
 split at h
 ·rename_i n F m G
  obtain⟨⟨hn,hF,hG⟩,rfl⟩:=h
  refine⟨[ssS n fun i=>fsOf (F i),ssS m fun i=>fsOf (G i)],200,.nil,by simp only[leSVs,and_true];exact⟨ssD_le hF,ssD_le hG⟩,Sat.of_eq (L36_eq _ _ _ _) ⟨⟨hn,ssD_of fun i hi=>(hF i hi).1,ssD_of fun i hi=>(hG i hi).1⟩,rfl⟩⟩
 ·exact h.elim
noncomputable def t37(n:Nat)(x:Nat->FsT):Tree SV:=fnT Tryz.prog CX1 DX1 200 (fnOf Tryz.prog 37) (bodyOf Tryz.prog 37) [ssS n x] .nil
theorem L37_eq(n:Nat)(x:Nat->FsT):t37 n x=.ret (.fn (.func 75) [] [.rop 1 fun j=>dOf (([ssS n x]:List SV).getD (0+j) uv)]):=by kernel_rfl
noncomputable def c37:Ctr:=fun ss=>match ss with
 |[.d (.ro n 1 F)]=>.need (SsD n F) (.ret (.fn (.func 75) [] [.rop 1 (fr1 n fun i=>fsOf (F i))]))
 |_=>.fail
theorem c37_ok:CtrOK Tryz.prog 37 c37:=ctrOK_leR CX1_ok DX1_ok (by kernel_rfl) (by kernel_rfl) fun ss r h=>by
 unfold c37 at h
 split at h
 ·rename_i n F
  obtain⟨hF,rfl⟩:=h
  refine⟨[ssS n fun i=>fsOf (F i)],200,.nil,by simp only[leSVs,and_true];exact ssD_le hF,Sat.of_eq (L37_eq n _) ⟨?_⟩⟩
  show leSV 0 [] [] (SV.fn (.func 75) [] [.rop 1 _]) (SV.fn (.func 75) [] [.rop 1 _])
  simp only[leSV,leSVs,and_true,true_and]
  refine⟨Nat.le_refl _,fun j hj=>?_⟩
  obtain rfl:j=0:=by omega
  show leD (.ro n 1 _) (.ro n 1 _)
  exact⟨rfl,rfl,fun _ _ _ _=>rfl⟩
 ·exact h.elim
noncomputable def manX2:FuncId->Option Ctr:=fun k=>match k with
 |36=>some c36
 |37=>some c37
 |_=>none
theorem manX2_ok(k:Nat)(c:Ctr)(hk:manX2 k=some c):CtrOK Tryz.prog k c/\goodF Tryz.prog k=true:=by
 unfold manX2 at hk
 split at hk
 ·cases hk;exact⟨c36_ok,by kernel_rfl⟩
 ·cases hk;exact⟨c37_ok,by kernel_rfl⟩
 ·cases hk
noncomputable def CX2:Ctx:=ctxN Tryz.prog manX2 (fun _=>false) 200 .nil 6
theorem CX2_ok:CtxOK Tryz.prog CX2:=ctxN_ok mixed manX2_ok 6
theorem dX2:DrOK Tryz.prog CX2 (fun _=>drawn Tryz.prog CX2):=drawn_ok CX2_ok mixed
noncomputable def t7(n:Nat)(x:Nat->FsT)(m:Nat)(y:Nat->FsT):Tree SV:=fnTG Tryz.prog CX2 (fun _=>false) 200 (fnOf Tryz.prog 7) (bodyOf Tryz.prog 7) [ssS n x,ssS m y] .nil
end Go.Proofs.YtanlnopgadbpjaaGreat.Rw
namespace Go.Sx
def cmpI(a b:Int):Int:=if a<b then -1 else if b<a then 1 else 0
def orI(a b c:Int):Int:=if a=0 then if b=0 then c else b else a
def _root_.Go.Proofs.OrD(F:Nat->Nat->DV):Prop:=∀i,i<3->F i 0=.x (.int .i64 (numV (F i 0)))
def cmp3(a b c x y z:Int):Int:=orI (cmpI a x) (cmpI b y) (cmpI c z)
theorem cmp3_neg{a b c x y z:Int}:cmp3 a b c x y z<0 ↔ a<x\/(a=x/\(b<y\/(b=y/\c<z))):=by
 unfold cmp3 orI cmpI
 by_cases h1:a<x<;>by_cases h2:x<a<;>by_cases h3:b<y<;>by_cases h4:y<b<;>by_cases h5:c<z<;>by_cases h6:z<c<;>simp[*]<;>omega
end Go.Sx
namespace Go.Proofs.YtanlnopgadbpjaaGreat.Rw
open Go.Proofs.YtanlnopgadbpjaaGreat.Rm
open Go.Sx
noncomputable def t116(a b:Int):Tree SV:=fnT Tryz.prog C00 D00 200 (fnOf Tryz.prog 116) (bodyOf Tryz.prog 116) [iv a,iv b] .nil
theorem L116_eq(a b:Int):t116 a b=.ite (a != a) (.ite (b != b) (.ret (iv (0:Int))) (.ret (iv (-1:Int)))) (.ite (b != b) (.ret (iv (1:Int))) (.ite (decide (a<b)) (.ret (iv (-1:Int))) (.ite (decide (a>b)) (.ret (iv (1:Int))) (.ret (iv (0:Int)))))):=by kernel_rfl
noncomputable def c116:Ctr:=fun ss=>match ss with
 |[.d (.x (.int .i64 a)),.d (.x (.int .i64 b))]=>.ret (iv (cmpI a b))
 |_=>.fail
theorem c116_ok:CtrOK Tryz.prog 116 c116:=ctrOK_leS C00_ok D00_ok (by kernel_rfl) (by kernel_rfl) fun ss r h=>by
 unfold c116 at h
 split at h
 ·rename_i a b
  cases h
  refine⟨[iv a,iv b],200,.nil,by simp[leSVs,leSV,leD,iv],Sat.of_eq (L116_eq a b) ?_⟩
  unfold cmpI
  refine⟨fun h=>by simp at h,fun _=>⟨fun h=>by simp at h,fun _=>⟨fun h=>?_,fun h=>⟨fun h2=>?_,fun h2=>?_⟩⟩⟩⟩
  ·simp only[decide_eq_true_eq] at h;rw[if_pos h];rfl
  ·simp only[decide_eq_false_iff_not] at h;simp only[decide_eq_true_eq] at h2;rw[if_neg h,if_pos h2];rfl
  ·simp only[decide_eq_false_iff_not] at h h2;rw[if_neg h,if_neg h2];rfl
 ·exact h.elim
noncomputable def t59(a b c x:Int):Tree SV:=fnT Tryz.prog C00 D00 200 (fnOf Tryz.prog 59) (bodyOf Tryz.prog 59) [.agg [iv a,iv b,iv c,.d (.x (.int .u64 x))]] .nil
theorem L59_eq(a b c x:Int):t59 a b c x=.ret (.agg [iv a,iv b,iv c]):=by kernel_rfl
noncomputable def c59:Ctr:=fun ss=>match ss with
 |[.agg [.d (.x (.int .i64 a)),.d (.x (.int .i64 b)),.d (.x (.int .i64 c)),.d (.x (.int .u64 x))]]=>.ret (.agg [iv a,iv b,iv c])
 |_=>.fail
theorem c59_ok:CtrOK Tryz.prog 59 c59:=ctrOK_leS C00_ok D00_ok (by kernel_rfl) (by kernel_rfl) fun ss r h=>by
 unfold c59 at h
 split at h
 ·rename_i a b c x
  cases h
  exact⟨[.agg [iv a,iv b,iv c,.d (.x (.int .u64 x))]],200,.nil,by simp[leSVs,leSV,leD,iv],Sat.of_eq (L59_eq a b c x) ⟨rfl⟩⟩
 ·exact h.elim
noncomputable def h115:Hint:=.u (.t (.br .nil (.u (.t (.br .nil (.u (.t (.br .nil (.u (.f .nil))))))))))
noncomputable def t115(f:Nat->Int):Tree SV:=fnT Tryz.prog C00 D00 200 (fnOf Tryz.prog 115) (bodyOf Tryz.prog 115) [.d (.ro 3 1 fun i _=>.x (.int .i64 (f i)))] h115
theorem L115_eq(f:Nat->Int):t115 f=.need (true=true)
  (.need ((0:Int)<=(0:Int)/\(0:Int)<(3:Int))
   (.ite (f 0 != (0:Int)) (.ret (iv (f 0)))
   (.need (true=true)
   (.need ((0:Int)<=(1:Int)/\(1:Int)<(3:Int))
   (.ite (f 1 != (0:Int)) (.ret (iv (f 1)))
   (.need (true=true) (.need ((0:Int)<=(2:Int)/\(2:Int)<(3:Int)) (.ite (f 2 != (0:Int)) (.ret (iv (f 2))) (.need (false=false) (.ret (iv (0:Int)))))))))))):=by kernel_rfl
noncomputable def c115:Ctr:=fun ss=>match ss with
 |[.d (.ro n 1 F)]=>.need (n=3/\OrD F) (.ret (iv (orI (numV (F 0 0)) (numV (F 1 0)) (numV (F 2 0)))))
 |_=>.fail
theorem c115_ok:CtrOK Tryz.prog 115 c115:=ctrOK_leS C00_ok D00_ok (by kernel_rfl) (by kernel_rfl) fun ss r h=>by
 unfold c115 at h
 split at h
 ·rename_i n F
  obtain⟨⟨rfl,hF⟩,rfl⟩:=h
  refine⟨[.d (.ro 3 1 fun i _=>.x (.int .i64 (numV (F i 0))))],200,h115,by simp only[leSVs,and_true];exact⟨rfl,rfl,fun i j hi hj=>by rw[show j=0 by omega];exact hF i hi⟩,Sat.of_eq (L115_eq fun i=>numV (F i 0)) ?_⟩
  unfold orI
  refine⟨rfl,by omega,fun h=>?_,fun h=>⟨rfl,by omega,fun h2=>?_,fun h2=>⟨rfl,by omega,fun h3=>?_,fun h3=>⟨rfl,?_⟩⟩⟩⟩
  ·rw[bne_iff_ne] at h;rw[if_neg h];rfl
  ·rw[bne_eq_false_iff_eq] at h;rw[bne_iff_ne] at h2;rw[if_pos h,if_neg h2];rfl
  ·rw[bne_eq_false_iff_eq] at h h2;rw[if_pos h,if_pos h2];rfl
  ·rw[bne_eq_false_iff_eq] at h h2 h3;rw[if_pos h,if_pos h2,h3];rfl
 ·exact h.elim
noncomputable def manXa:FuncId->Option Ctr:=fun k=>match k with
 |59=>some c59
 |115=>some c115
 |116=>some c116
 |_=>none
theorem manXa_ok(k:Nat)(c:Ctr)(hk:manXa k=some c):CtrOK Tryz.prog k c/\goodF Tryz.prog k=true:=by
 unfold manXa at hk
 split at hk
 ·cases hk;exact⟨c59_ok,by kernel_rfl⟩
 ·cases hk;exact⟨c115_ok,by kernel_rfl⟩
 ·cases hk;exact⟨c116_ok,by kernel_rfl⟩
 ·cases hk
noncomputable def CXa:Ctx:=ctxN Tryz.prog manXa (fun _=>false) 200 .nil 6
theorem CXa_ok:CtxOK Tryz.prog CXa:=ctxN_ok mixed manXa_ok 6
noncomputable def DXa:Dr:=drawnL Tryz.prog CXa
theorem DXa_ok:DrOK Tryz.prog CXa DXa:=drawnL_ok CXa_ok mixed
noncomputable def t89(a b c x y z:Int):Tree SV:=fnT Tryz.prog CXa DXa 200 (fnOf Tryz.prog 89) (bodyOf Tryz.prog 89) [.agg [iv a,iv b,iv c],.agg [iv x,iv y,iv z]] .nil
theorem L89_eq(a b c x y z:Int):t89 a b c x y z=.need (3<=3) (.need (3=3/\OrD fun i j=>dsAt [.x (.int .i64 (cmpI a x)),.x (.int .i64 (cmpI b y)),.x (.int .i64 (cmpI c z))] (0+(0+i)*1+j)) (.ret (iv (cmp3 a b c x y z)))):=by kernel_rfl
noncomputable def c89:Ctr:=fun ss=>match ss with
 |[.agg [.d (.x (.int .i64 a)),.d (.x (.int .i64 b)),.d (.x (.int .i64 c))],.agg [.d (.x (.int .i64 x)),.d (.x (.int .i64 y)),.d (.x (.int .i64 z))]]=>.ret (iv (cmp3 a b c x y z))
 |_=>.fail
theorem c89_ok:CtrOK Tryz.prog 89 c89:=ctrOK_leS CXa_ok DXa_ok (by kernel_rfl) (by kernel_rfl) fun ss r h=>by
 unfold c89 at h
 split at h
 ·rename_i a b c x y z
  cases h
  refine⟨[.agg [iv a,iv b,iv c],.agg [iv x,iv y,iv z]],200,.nil,by simp[leSVs,leSV,leD,iv],Sat.of_eq (L89_eq a b c x y z) ⟨by omega,⟨rfl,fun i hi=>?_⟩,rfl⟩⟩
  have:i=0\/i=1\/i=2:=by omega
  rcases this with rfl|rfl|rfl<;>rfl
 ·exact h.elim
end Go.Proofs.YtanlnopgadbpjaaGreat.Rw
namespace Go.Sx
theorem wsL_pre(i k:Nat){a b:Nat}(h:a<=b):wsL i k a <+: wsL i k b:=by
 induction h with
 |refl=>exact List.prefix_refl _
 |step h ih=>exact ih.trans (List.prefix_append _ _)
theorem fsL_pre(nn:Nat->Nat->Nat)(i:Nat){a b:Nat}(h:a<=b):fsL nn i a <+: fsL nn i b:=by
 induction h with
 |refl=>exact List.prefix_refl _
 |step h ih=>exact ih.trans (List.prefix_append _ _)
theorem psL_pre(m:Nat->Nat)(nn:Nat->Nat->Nat){a b:Nat}(h:a<=b):psL m nn a <+: psL m nn b:=by
 induction h with
 |refl=>exact List.prefix_refl _
 |step h ih=>exact ih.trans (List.prefix_append _ _)
theorem preL_pre{m:Nat->Nat}{nn:Nat->Nat->Nat}{n i k w:Nat}(hi:i<n)(hk:k<m i)(hw:w<=nn i k):preL m nn i k w <+: psL m nn n:=by
 refine List.IsPrefix.trans ?_ (psL_pre m nn (show i+1<=n from hi))
 show _ <+: psL m nn i++fsL nn i (m i)
 unfold preL
 rw[List.append_assoc,List.prefix_append_right_inj]
 refine List.IsPrefix.trans ?_ (fsL_pre nn i (show k+1<=m i from hk))
 show _ <+: fsL nn i k++wsL i k (nn i k)
 rw[List.prefix_append_right_inj]
 exact wsL_pre i k hw
theorem preL_take{m:Nat->Nat}{nn:Nat->Nat->Nat}{n i k w:Nat}(hi:i<n)(hk:k<m i)(hw:w<=nn i k):(psL m nn n).take (posW m nn i k w)=preL m nn i k w:=by
 rw[<- preL_len];exact(List.prefix_iff_eq_take.1 (preL_pre hi hk hw)).symm
theorem psL_take(m:Nat->Nat)(nn:Nat->Nat->Nat)(n:Nat):(psL m nn n).take (posW m nn n 0 0)=psL m nn n:=by
 have:posW m nn n 0 0=(psL m nn n).length:=by rw[<- preL_len];unfold preL;simp[fsL,wsL]
 rw[this,List.take_length]
theorem preL_end(m:Nat->Nat)(nn:Nat->Nat->Nat)(n:Nat):preL m nn n 0 0=psL m nn n:=by unfold preL;simp[fsL,wsL]
end Go.Sx
namespace Go.Proofs.YtanlnopgadbpjaaGreat.Rw
open Go.Proofs.YtanlnopgadbpjaaGreat.Rm
open Go.Sx
noncomputable def cod7:Code:=codeC (sub [0,1,0] (t7 1 (fun _=>⟨0,fun _=>⟨0,fun _=>0⟩⟩) 1 (fun _=>⟨0,fun _=>⟨0,fun _=>0⟩⟩)))
noncomputable def asg7:Code:=match cod7 with|.rangeFunc _ _ a _=>a|_=>.skip
noncomputable def bod7:Code:=match cod7 with|.rangeFunc _ _ _ b=>b|_=>.skip
noncomputable def hp7(m:Nat)(y:Nat->FsT)(q:Nat)(c:Nat->Nat->Sx.DV):Heap:=[some (.cells [ssS m y]),some (.cells [.row 2 0 0 q 4]),some (.row q 4 c)]
noncomputable def st7(n:Nat)(x:Nat->FsT)(m:Nat)(y:Nat->FsT):AS:=codeS (sub [0,1,0] (t7 n x m y))
noncomputable def tmk7(n:Nat)(x:Nat->FsT)(m:Nat)(y:Nat->FsT):List TV:=keepTm [3,6,15] 0 (st7 n x m y).tm
noncomputable def sl7(n:Nat)(x:Nat->FsT):List TV:=slN 48 [(3,.ptr 0 0),(6,.ptr 1 0),(15,.fn (.func 75) [] [.rop 1 (fr1 n x)])]
section
variable (n : Nat) (x : Nat → FsT) (m : Nat) (y : Nat → FsT)
theorem tmk7_eq:tmk7 n x m y=sl7 n x:=by kernel_rfl
theorem L7_eq:t7 n x m y=.need (n<=1000000000/\(SsD n fun i j=>fsC (x i) j)/\SsD m fun i j=>fsC (y i) j) (.ite (!shB n x m y) (.ret (.tup [.d (.x (.slice none 0 0)),iv 490])) (.need (SsD n fun i j=>fsC (x i) j) (atCode (sub [0,1,0] (t7 n x m y))))):=by kernel_rfl
theorem C7_eq:codeC (sub [0,1,0] (t7 n x m y))=.rangeFunc (.tmp 15) #[16,17] asg7 bod7:=by kernel_rfl
theorem V7_eq:tvStrict none (tget (st7 n x m y).tm 15)=some (.fn (.func 75) [] [.rop 1 (fr1 n x)]):=by kernel_rfl
variable (q : Nat) (c : Nat → Nat → Sx.DV) (i k w v : Int)
theorem K7_eq:codeK (sub [0,1,0] (t7 n x m y)) .normal ⟨sl7 n x,hp7 m y q c,3,.nil⟩=.need (0+q<=q) (.ret (.tup [.d (.ro q 4 fun i j=>c (0+i) j),iv 0])):=by kernel_rfl
noncomputable def rd7:Tree (Ex×AS):=roundG Tryz.prog CX2 (fun _=>false) 200 2 [(.cell (.base 1) 0,2)] [] 3 .nil asg7 bod7 ⟨parTm [16,17] [.agg [iv i,iv k,iv w],.d (.x (.int .u64 v))] (sl7 n x),hp7 m y q c,3,.nil⟩
theorem R7_eq:rd7 n x m y q c i k w v=.need (0<=i/\i<(m:Int)) (.need (0<=k/\k<((y i.toNat).n:Int)) (.need (0<=w/\w<(((y i.toNat).f k.toNat).n:Int))
   (.ite (xorV v (((y i.toNat).f k.toNat).w w.toNat) != 0)
     (.need (0+q<=q/\4<=4/\(q+1)*32<=140737488355328) (.ret (.normal,⟨List.replicate 48 .unk,hp7 m y (q+1) (selA 4 q c [.x (.int .i64 i),.x (.int .i64 k),.x (.int .i64 w),.x (.int .u64 (xorV v (((y i.toNat).f k.toNat).w w.toNat)))]),3,.nil⟩)))
     (.ret (.normal,⟨List.replicate 48 .unk,hp7 m y q c,3,.nil⟩))))):=by kernel_rfl
end
theorem N7_eq(n:Nat)(x:Nat->FsT)(m:Nat)(y:Nat->FsT):entRG 2 [] [] [] 2 (sub [0,1,0] (t7 n x m y))=some ⟨List.replicate 48 .unk,[some (.cells [ssS m y]),some (.cells [.d (.x (.slice none 0 0))])],2,.nil⟩:=by kernel_rfl
theorem h7(n:Nat)(x:Nat->FsT)(m:Nat)(y:Nat->FsT):Gc 2 { st7 n x m y with hp:=hdropL (st7 n x m y).hp [],next:=2 } ⟨List.replicate 48 .unk,hp7 m y 0 (ptC []),3,.nil⟩:=by
 refine(entRG_sound (N7_eq n x m y)).trans ?_
 refine gc_sound [] [2] rfl ?_ ?_
 ·simp[leTm,leTV,List.replicate]
 ·simp[hp7,leHp,leBlk,leSVs,leSV,rn,iv,leD,srcOf,hget,ssS]
section
variable {n : Nat} {x y : Nat → FsT}
theorem s7(hs:Sml 4 n x){m:Nat}(hy:∀i,i<m->FsOK (y i))(hsh:shQ n x m y):SatG Tryz.prog (t7 n x m y) noGh fun a B=>noId a=true/\B=noGh/\a=.tup [.d (.ro (dF x y n 0 0).length 4 fun i j=>ptC (dF x y n 0 0) i j),iv 0]:=by
 have hn4:=hs.le
 obtain rfl:n=m:=hsh.1
 refine SatG.of_eq (L7_eq n x n y) ⟨⟨by omega,ssD_of (fsOK_of hs),ssD_of hy⟩,fun h=>?_,fun _=>⟨ssD_of (fsOK_of hs),?_⟩⟩
 ·have e9:shB n x n y=true:=by unfold shB;simp[hsh]
  rw[e9] at h;cases h
 refine(range_satG CX2_ok dX2 (stop:=fun _=>false) (n:=200) (n0:=2) (nx:=3) (roots:=[(.cell (.base 1) 0,2)]) (drop:=[]) (h:=.nil) (h':=.nil) (keep:=[3,6,15]) (C7_eq n x n y) (by kernel_rfl) (V7_eq n x n y) («as»:=[.rop 1 (fr1 n x)]) (ls:=[]) (by rfl) (it75 hs) ?_ (enters_fn (by kernel_rfl) (by kernel_rfl) (by kernel_rfl)) (by kernel_rfl) (by kernel_rfl)
  (fun q s B=>B=noGh/\s.hp=hp7 n y (dfL (wwF x) (wwF y) ((psL (mmF x) (nnF x) n).take q)).length (ptC (dfL (wwF x) (wwF y) ((psL (mmF x) (nnF x) n).take q)))/\s.next=3/\s.hint=.nil) ⟨_,⟨rfl,rfl,rfl,rfl⟩,h7 n x n y⟩ ?_ ?_)
 ·rintro k el k' ⟨i,k,w,_,_,rfl,_⟩;rfl
 ·rintro q el q' s B ⟨i,k,w,hw,rfl,rfl,rfl⟩ ⟨rfl,h1,h2,h3⟩
  have hi:=hw.hi
  have hk:=hw.hk
  have hw':=hw.hw
  have e1:(psL (mmF x) (nnF x) n).take (posW (mmF x) (nnF x) i k w)=preL (mmF x) (nnF x) i k w:=preL_take hi hk (Nat.le_of_lt hw')
  have e2:(psL (mmF x) (nnF x) n).take (posW (mmF x) (nnF x) i k w+1)=preL (mmF x) (nnF x) i k (w+1):=preL_take (m:=mmF x) (nn:=nnF x) (i:=i) (k:=k) (w:=w+1) hi hk hw'
  have hl:(dF x y i k w).length<=64:=df_len hs (wwF y) (by omega) (fun _=>by omega) (fun h=>by omega) (fun _ _=>by omega) (fun h=>by omega)
  have e3:dfL (wwF x) (wwF y) (preL (mmF x) (nnF x) i k (w+1))=dF x y i k w++dfO (wwF x) (wwF y) ⟨i,k,w⟩:=by rw[preL_w,dfL_app];rfl
  rw[e2,e3]
  rw[e1] at h1
  change s.hp=hp7 n y (dF x y i k w).length (ptC (dF x y i k w)) at h1
  generalize dF x y i k w=L at hl h1 ⊢
  rw[h1,h2,h3]
  have hsi:shR (x i) (y i):=hsh.2 i hi
  have hyn:=hsi.1
  have hyw:=hsi.2 k hk
  change SatG Tryz.prog (roundG Tryz.prog CX2 (fun _=>false) 200 2 [(.cell (.base 1) 0,2)] [] 3 .nil asg7 bod7 ⟨parTm [16,17] (elW x i k w) (tmk7 n x n y),hp7 n y L.length (ptC L),3,.nil⟩) noGh _
  rw[tmk7_eq]
  refine SatG.of_eq (R7_eq n x n y L.length (ptC L) i k w (((x i).f k).w w)) ⟨?_⟩
  rw[Int.toNat_natCast,Int.toNat_natCast,Int.toNat_natCast]
  refine⟨by omega,by omega,by omega,fun h2=>⟨by omega,rfl,⟨List.replicate 48 .unk,hp7 n y (L++dfO (wwF x) (wwF y) ⟨i,k,w⟩).length (ptC (L++dfO (wwF x) (wwF y) ⟨i,k,w⟩)),3,.nil⟩,⟨rfl,rfl,rfl,rfl⟩,?_⟩,fun h2=>⟨rfl,⟨List.replicate 48 .unk,hp7 n y (L++dfO (wwF x) (wwF y) ⟨i,k,w⟩).length (ptC (L++dfO (wwF x) (wwF y) ⟨i,k,w⟩)),3,.nil⟩,⟨rfl,rfl,rfl,rfl⟩,?_⟩⟩
  ·rw[bne_iff_ne] at h2
   have e2:dfO (wwF x) (wwF y) ⟨i,k,w⟩=[⟨i,k,w,xorV (((x i).f k).w w) (((y i).f k).w w)⟩]:=if_neg h2
   rw[e2]
   exact gc_hp rfl rfl ⟨.inr ⟨_,_,rfl,rfl,.refl _⟩,.inr ⟨_,_,rfl,rfl,by rw[List.length_append];exact .refl _⟩,.inr ⟨_,_,rfl,rfl,pt_app L ⟨i,k,w,xorV (((x i).f k).w w) (((y i).f k).w w)⟩⟩,trivial⟩
  ·rw[bne_eq_false_iff_eq] at h2
   have e2:dfO (wwF x) (wwF y) ⟨i,k,w⟩=[]:=if_pos h2
   rw[e2,List.append_nil]
   exact Gc.refl _ _
 ·rintro q s B rfl ⟨rfl,h1,h2,h3⟩
  rw[psL_take,<- preL_end] at h1
  change s.hp=hp7 n y (dF x y n 0 0).length (ptC (dF x y n 0 0)) at h1
  generalize dF x y n 0 0=L at h1 ⊢
  rw[h1,h2]
  change SatG Tryz.prog (codeK (sub [0,1,0] (t7 n x n y)) .normal ⟨tmk7 n x n y,hp7 n y L.length (ptC L),3,.nil⟩) noGh _
  rw[tmk7_eq]
  refine SatG.of_eq (K7_eq n x n y L.length (ptC L)) ⟨⟨by omega,rfl,rfl,?_⟩⟩
  simp only[Nat.zero_add]
end
noncomputable def c7:Ctr:=fun ss=>match ss with
 |[.d (.ro n 1 F),.d (.ro m 1 G)]=>.need (DfD n F m G) (.ret (.tup [.d (.ro (dF (fun i=>fsOf (F i)) (fun i=>fsOf (G i)) n 0 0).length 4 fun i j=>ptC (dF (fun i=>fsOf (F i)) (fun i=>fsOf (G i)) n 0 0) i j),iv 0]))
 |_=>.fail
theorem c7_ok:CtrOK Tryz.prog 7 c7:=ctrOK_ofGS fun ss r h=>by
 unfold c7 at h
 split at h
 ·rename_i n F m G
  obtain⟨⟨hF,hG,hs,hsh⟩,rfl⟩:=h
  refine⟨[ssS n fun i=>fsOf (F i),ssS m fun i=>fsOf (G i)],_,by simp only[leSVs,and_true];exact⟨ssD_le hF,ssD_le hG⟩,gctrS_of CX2_ok dX2 (by kernel_rfl) (by kernel_rfl) ((s7 hs (fun i hi=>(hG i hi).1) hsh)),?_⟩
  rintro d B ⟨rfl,rfl⟩
  exact MeltsS.of_emp
 ·exact h.elim
end Go.Proofs.YtanlnopgadbpjaaGreat.Rw
namespace Go.Sx
def cmpP(a b:Pt):Int:=cmp3 a.p a.f a.w b.p b.f b.w
def NrmP(n:Nat)(x:Nat->Pt):Prop:=∀i,i<n->(x i).x≠0/\(0<i->cmpP (x (i-1)) (x i)<0)
def _root_.Go.Proofs.NrmD(n:Nat)(F:Nat->Nat->DV):Prop:=n<=1000000000/\Proofs.PtD n F/\NrmP n fun i=>ptR (F i)
end Go.Sx
namespace Go.Proofs.YtanlnopgadbpjaaGreat.Rw
open Go.Proofs.YtanlnopgadbpjaaGreat.Rm
open Go.Sx
noncomputable def manXb:FuncId->Option Ctr:=fun k=>match k with
 |59=>some c59
 |89=>some c89
 |_=>none
theorem manXb_ok(k:Nat)(c:Ctr)(hk:manXb k=some c):CtrOK Tryz.prog k c/\goodF Tryz.prog k=true:=by
 unfold manXb at hk
 split at hk
 ·cases hk;exact⟨c59_ok,by kernel_rfl⟩
 ·cases hk;exact⟨c89_ok,by kernel_rfl⟩
 ·cases hk
noncomputable def CXb:Ctx:=ctxN Tryz.prog manXb (fun _=>false) 200 .nil 6
theorem CXb_ok:CtxOK Tryz.prog CXb:=ctxN_ok mixed manXb_ok 6
noncomputable def DXb:Dr:=drawnL Tryz.prog CXb
theorem DXb_ok:DrOK Tryz.prog CXb DXb:=drawnL_ok CXb_ok mixed
noncomputable def t58(n:Nat)(F:Nat->Pt):Tree SV:=fnT Tryz.prog CXb DXb 200 (fnOf Tryz.prog 58) (bodyOf Tryz.prog 58) [ptS n F] .nil
noncomputable def st58(n:Nat)(F:Nat->Pt)(i:Int):AS:=⟨slN 32 [(0,ptS n F),(2,bv false),(5,ptS n F),(6,iv n),(7,iv i)],[],0,.nil⟩
noncomputable def b58(n:Nat)(F:Nat->Pt)(i:Int):Tree (Ex×AS):=cutT 0 [] [0,2,5,6,7] [] 0 .nil (exec Tryz.prog CXb DXb 200 (loopN (bodyOf Tryz.prog 58) 0) (st58 n F i))
section
variable (n : Nat) (F : Nat → Pt) (i : Int)
theorem L58_eq:t58 n F=atCode (sub [] (t58 n F)):=by kernel_rfl
theorem E58_eq:entA 0 [] [0,2,5,6,7] [] 0 .nil (sub [] (t58 n F))=some (st58 n F 0):=by kernel_rfl
theorem B58_eq:b58 n F i=.ite (decide (i<(n:Int))) (.need (0<=i/\i<(n:Int)) (.need (((F i.toNat).x==0)=false/\decide (i>0)=true->0<=w64 (i-1)/\w64 (i-1)<(n:Int))
   (.ite ((F i.toNat).x==0||decide (i>0)&&decide (cmpP (F (w64 (i-1)).toNat) (F i.toNat)>=0)) (.ret (.ret,st58 n F i)) (.ret (.normal,st58 n F (w64 (i+1))))))) (.ret (.exit 0,st58 n F i)):=by kernel_rfl
theorem K58_eq:codeK (sub [] (t58 n F)) (.exit 0) (st58 n F i)=.ret (bv true):=by kernel_rfl
end
theorem s58{n:Nat}{F:Nat->Pt}(hn:n<=1000000000)(hF:NrmP n F):Sat Tryz.prog (t58 n F) (·=bv true):=by
 refine Sat.of_eq (L58_eq n F) ⟨?_⟩
 refine for_satS CXb_ok DXb_ok (n:=200) (n0:=0) (nx:=0) (roots:=[]) (keep:=[0,2,5,6,7]) (drop:=[]) (h:=.nil) (body:=loopN (bodyOf Tryz.prog 58) 0) (by kernel_rfl) (by kernel_rfl) n (fun i=>st58 n F i) (fun i=>True)
  (fun e t=>e=.exit 0/\t=st58 n F n) trivial (entA_sound (E58_eq n F)) ?_ ?_ ?_
 ·intro i hi _
  refine Sat.of_eq (B58_eq n F i) ⟨?_⟩
  obtain⟨h1,h2⟩:=hF i hi
  have e1:0<i->w64 ((i:Int)-1)=((i-1:Nat):Int):=fun h=>by rw[w64_of (by omega) (by omega)];omega
  rw[Int.toNat_natCast,w64_succ hi (by omega)]
  refine⟨fun _=>⟨by omega,fun h=>?_,fun h=>?_,fun h=>.inl ⟨rfl,trivial,Gc.refl _ _⟩⟩,fun h1=>by simp only[decide_eq_false_iff_not] at h1;omega⟩
  ·have h0:0<i:=by have:=h.2;simp only[decide_eq_true_eq] at this;omega
   rw[e1 h0];omega
  ·rw[Bool.or_eq_true,Bool.and_eq_true,decide_eq_true_eq,decide_eq_true_eq,beq_iff_eq] at h
   rcases h with h|⟨h,h3⟩
   ·exact(h1 h).elim
   ·have h0:0<i:=by omega
    rw[e1 h0,Int.toNat_natCast] at h3
    have:=h2 h0
    omega
 ·intro _
  refine Sat.of_eq (B58_eq n F n) ⟨?_⟩
  exact⟨fun h1=>by simp only[decide_eq_true_eq] at h1;omega,fun _=>⟨nofun,rfl,rfl⟩⟩
 ·rintro e t ⟨rfl,rfl⟩
  exact Sat.of_eq (K58_eq n F n) ⟨rfl⟩
noncomputable def c58:Ctr:=fun ss=>match ss with
 |[.d (.ro n 4 F)]=>.need (NrmD n F) (.ret (bv true))
 |_=>.fail
theorem c58_ok:CtrOK Tryz.prog 58 c58:=ctrOK_leS CXb_ok DXb_ok (by kernel_rfl) (by kernel_rfl) fun ss r h=>by
 unfold c58 at h
 split at h
 ·rename_i n F
  obtain⟨⟨hn,hF,hx⟩,rfl⟩:=h
  exact⟨[ptS n fun i=>ptR (F i)],200,.nil,by simp only[leSVs,and_true];exact⟨rfl,rfl,fun i j hi hj=>hF i j hi hj⟩,s58 hn hx⟩
 ·exact h.elim
end Go.Proofs.YtanlnopgadbpjaaGreat.Rw
namespace Go.Sx
def ptK(p:Pt):List Int:=[p.p,p.f,p.w]
def hasL(L:List Pt)(ks:List Int):Bool:=L.any fun p=>keyEq (ptK p) ks
def valL(L:List Pt)(ks:List Int):Int:=match L.find? (fun p=>keyEq (ptK p) ks) with|some p=>p.x|none=>0
def valE(L:List Pt)(ks:List Int):DV:=.x (.int .u64 (valL L ks))
theorem keyEq_comm(a b:List Int):keyEq a b=keyEq b a:=by
 unfold keyEq;congr 1;exact propext eq_comm
theorem hasL_app(L:List Pt)(p:Pt)(ks:List Int):hasL (L++[p]) ks=(keyEq ks (ptK p)||hasL L ks):=by
 unfold hasL;rw[List.any_append,Bool.or_comm,keyEq_comm];simp
theorem hasL_false{L:List Pt}{ks:List Int}:hasL L ks=false ↔ ∀p∈L,ptK p≠ks:=by
 unfold hasL
 rw[List.any_eq_false]
 refine forall_congr' fun p=>forall_congr' fun _=>?_
 rw[keyEq_iff]
theorem find_none{L:List Pt}{ks:List Int}(h:hasL L ks=false):L.find? (fun p=>keyEq (ptK p) ks)=none:=by
 rw[List.find?_eq_none]
 intro p hp
 rw[keyEq_iff]
 exact hasL_false.1 h p hp
theorem valL_none{L:List Pt}{ks:List Int}(h:hasL L ks=false):valL L ks=0:=by
 unfold valL;rw[find_none h]
theorem valL_app{L:List Pt}{p:Pt}(h:hasL L (ptK p)=false)(ks:List Int):selD (keyEq ks (ptK p)) (.x (.int .u64 p.x)) (valE L ks)=valE (L++[p]) ks:=by
 rw[selD_eq]
 unfold valE valL
 rw[List.find?_append]
 cases hk:keyEq ks (ptK p) with
 |true =>
  rw[keyEq_iff] at hk
  subst hk
  rw[find_none h]
  simp[keyEq_iff]
 |false =>
  cases hf:L.find? (fun p=>keyEq (ptK p) ks) with
  |none =>
   rw[keyEq_comm] at hk
   simp[hk]
  |some q=>simp
theorem hasL_fil(L:List Pt)(ks q:List Int):(!(keyEq q ks)&&hasL L q)=hasL (L.filter fun p=>!(keyEq (ptK p) ks)) q:=by
 unfold hasL
 rw[List.any_filter]
 cases hk:keyEq q ks with
 |true =>
  rw[keyEq_iff] at hk;subst hk
  rw[Bool.not_true,Bool.false_and]
  symm
  rw[List.any_eq_false]
  intro p hp
  cases keyEq (ptK p) q<;>simp
 |false =>
  rw[Bool.not_false,Bool.true_and]
  congr 1
  funext p
  cases h1:keyEq (ptK p) q with
  |false=>simp
  |true =>
   rw[keyEq_iff] at h1;subst h1
   rw[hk];rfl
theorem valL_fil{L:List Pt}{f:Pt->Bool}{ks:List Int}(h:∀p∈L,ptK p=ks->f p=true):valL (L.filter f) ks=valL L ks:=by
 unfold valL
 suffices (L.filter f).find? (fun p=>keyEq (ptK p) ks)=L.find? fun p=>keyEq (ptK p) ks by rw[this]
 induction L with
 |nil=>rfl
 |cons a L ih =>
  have ih:=ih fun p hp=>h p (List.mem_cons_of_mem _ hp)
  cases hk:keyEq (ptK a) ks with
  |true =>
   have hf:=h a (List.mem_cons_self ..) (keyEq_iff.1 hk)
   rw[List.filter_cons,if_pos hf,List.find?_cons,List.find?_cons,hk]
  |false =>
   rw[List.filter_cons]
   split
   ·rw[List.find?_cons,List.find?_cons,hk];exact ih
   ·rw[List.find?_cons,hk];exact ih
def Dst(L:List Pt):Prop:=L.Pairwise fun p q=>ptK p≠ptK q
theorem len_fil{L:List Pt}(hd:Dst L)(ks:List Int):(L.filter fun p=>!(keyEq (ptK p) ks)).length=subN L.length (hasL L ks):=by
 unfold Dst at hd
 induction L with
 |nil=>rfl
 |cons a L ih =>
  rw[List.pairwise_cons] at hd
  have ih:=ih hd.2
  cases hk:keyEq (ptK a) ks with
  |true =>
   have e0:hasL L ks=false:=hasL_false.2 fun p hp=>by rw[<- keyEq_iff.1 hk];exact fun h=>hd.1 p hp h.symm
   rw[List.filter_cons,hk,Bool.not_true,if_neg (by simp),ih,e0]
   unfold subN hasL
   rw[List.any_cons,hk]
   simp
  |false =>
   rw[List.filter_cons,hk]
   simp only[Bool.not_false,if_true,List.length_cons,ih]
   unfold subN hasL
   rw[List.any_cons,hk,Bool.false_or]
   cases h1:L.any fun p=>keyEq (ptK p) ks with
   |false=>rfl
   |true =>
    simp only[cond_true,Nat.add_sub_cancel]
    rw[List.any_eq_true] at h1
    obtain⟨p,hp,_⟩:=h1
    have:=List.length_pos_of_mem hp
    omega
theorem Dst.fil{L:List Pt}(hd:Dst L)(f:Pt->Bool):Dst (L.filter f):=List.Pairwise.filter f hd
theorem posW_get{m:Nat->Nat}{nn:Nat->Nat->Nat}{n i k w:Nat}(hi:i<n)(hk:k<m i)(hw:w<nn i k):(psL m nn n)[posW m nn i k w]?=some ⟨i,k,w⟩:=by
 have h1:=preL_take (n:=n) hi hk (show w+1<=nn i k from hw)
 have h2:posW m nn i k (w+1)=posW m nn i k w+1:=rfl
 rw[h2,preL_w] at h1
 have h3:=congrArg (fun l=>l[posW m nn i k w]?) h1
 simp only[List.getElem?_take] at h3
 rw[if_pos (by omega)] at h3
 rw[h3,List.getElem?_append_right (by rw[preL_len];exact Nat.le_refl _),preL_len,Nat.sub_self]
 rfl
theorem posW_inj2{m:Nat->Nat}{nn:Nat->Nat->Nat}{n i k w i' k' w':Nat}(hi:i<n)(hk:k<m i)(hw:w<nn i k)(hi':i'<n)(hk':k'<m i')(hw':w'<nn i' k')(h:posW m nn i k w=posW m nn i' k' w'):i=i'/\k=k'/\w=w':=by
 have h1:=posW_get hi hk hw
 rw[h,posW_get hi' hk' hw'] at h1
 injection h1 with h1
 injection h1 with a b c
 exact⟨a.symm,b.symm,c.symm⟩
theorem posW_lt2{m:Nat->Nat}{nn:Nat->Nat->Nat}{n i k w:Nat}(hi:i<n)(hk:k<m i)(hw:w<nn i k):posW m nn i k w<posW m nn n 0 0:=by
 have h1:=posW_get (n:=n) hi hk hw
 have h2:=(List.getElem?_eq_some_iff.1 h1).1
 have:posW m nn n 0 0=(psL m nn n).length:=by rw[<- preL_len,preL_end]
 omega
end Go.Sx
namespace Go.Proofs.YtanlnopgadbpjaaGreat.Rw
open Go.Proofs.YtanlnopgadbpjaaGreat.Rm
open Go.Sx
structure PtIn(n:Nat)(x:Nat->FsT)(p:Pt):Prop where
 w:InW n x p.p.toNat p.f.toNat p.w.toNat
 p0:0<=p.p
 f0:0<=p.f
 w0:0<=p.w
def ixP(x:Nat->FsT)(p:Pt):Nat:=posW (mmF x) (nnF x) p.p.toNat p.f.toNat p.w.toNat
def remL(x:Nat->FsT)(L:List Pt)(q:Nat):List Pt:=L.filter fun p=>Nat.ble q (ixP x p)
theorem ptK_ix{n:Nat}{x:Nat->FsT}{p:Pt}(hp:PtIn n x p){i k w:Nat}(hw:InW n x i k w):ptK p=[(i:Int),(k:Int),(w:Int)] ↔ ixP x p=posW (mmF x) (nnF x) i k w:=by
 constructor
 ·intro h
  unfold ptK at h
  injection h with h1 h2
  injection h2 with h2 h3
  injection h3 with h3 h4
  unfold ixP
  rw[h1,h2,h3,Int.toNat_natCast,Int.toNat_natCast,Int.toNat_natCast]
 ·intro h
  obtain⟨a,b,c⟩:=posW_inj2 hp.w.hi hp.w.hk hp.w.hw hw.hi hw.hk hw.hw h
  have h1:=hp.p0
  have h2:=hp.f0
  have h3:=hp.w0
  unfold ptK
  rw[<- a,<- b,<- c,Int.toNat_of_nonneg h1,Int.toNat_of_nonneg h2,Int.toNat_of_nonneg h3]
theorem remL_0(x:Nat->FsT)(L:List Pt):remL x L 0=L:=by
 unfold remL;rw[List.filter_eq_self];intro p _;exact Nat.ble_eq_true_of_le (Nat.zero_le _)
theorem remL_end{n:Nat}{x:Nat->FsT}{L:List Pt}(hL:∀p∈L,PtIn n x p):remL x L (posW (mmF x) (nnF x) n 0 0)=[]:=by
 unfold remL
 rw[List.filter_eq_nil_iff]
 intro p hp h
 have h1:=Nat.le_of_ble_eq_true h
 have:=posW_lt2 (m:=mmF x) (nn:=nnF x) (hL p hp).w.hi (hL p hp).w.hk (hL p hp).w.hw
 unfold ixP at h1
 omega
theorem remL_succ{n:Nat}{x:Nat->FsT}{L:List Pt}(hL:∀p∈L,PtIn n x p){i k w:Nat}(hw:InW n x i k w):remL x L (posW (mmF x) (nnF x) i k w+1)=(remL x L (posW (mmF x) (nnF x) i k w)).filter fun p=>!(keyEq (ptK p) [(i:Int),(k:Int),(w:Int)]):=by
 unfold remL
 rw[List.filter_filter]
 apply List.filter_congr
 intro p hp
 have h1:=ptK_ix (hL p hp) hw
 rw[Bool.eq_iff_iff,Bool.and_eq_true,Bool.not_eq_true',keyEq_ff,Ne,h1]
 constructor
 ·intro h
  have:=Nat.le_of_ble_eq_true h
  exact⟨by omega,Nat.ble_eq_true_of_le (by omega)⟩
 ·rintro⟨h2,h3⟩
  have:=Nat.le_of_ble_eq_true h3
  exact Nat.ble_eq_true_of_le (by omega)
theorem remL_val{n:Nat}{x:Nat->FsT}{L:List Pt}(hL:∀p∈L,PtIn n x p){i k w:Nat}(hw:InW n x i k w):valL (remL x L (posW (mmF x) (nnF x) i k w)) [(i:Int),(k:Int),(w:Int)]=valL L [(i:Int),(k:Int),(w:Int)] :=
 valL_fil fun p hp h=>Nat.ble_eq_true_of_le (by rw[(ptK_ix (hL p hp) hw).1 h];exact Nat.le_refl _)
def apW(x:Nat->FsT)(L:List Pt)(i k w:Nat):Int:=xorV (((x i).f k).w w) (valL L [(i:Int),(k:Int),(w:Int)])
def apQ(x:Nat->FsT)(L:List Pt)(q i k w:Nat):Int:=bif Nat.blt (posW (mmF x) (nnF x) i k w) q then apW x L i k w else((x i).f k).w w
end Go.Proofs.YtanlnopgadbpjaaGreat.Rw
namespace Go.Sx
variable [Globs]
theorem TripleG.retell{P:Program}{c:Code}{tm tm':List TV}{hp:Heap}{nx:Nat}{h h':Hint}{B:Gh}{Q:Ex->AS->Gh->Prop}(ht:∀w μ F tmps,TmOK w μ F tm tmps->TmOK w μ F tm' tmps)(hl:tm'.length<=tm.length)(hq:TripleG P c ⟨tm',hp,nx,h'⟩ B Q):TripleG P c ⟨tm,hp,nx,h⟩ B Q:=by
 rintro p μ0 a w ⟨μ,F,h1,h2,h3,h4,h5,h6⟩
 exact hq p μ0 a w ⟨μ,F,h1,h2,h3,ht _ _ _ _ h4,Nat.le_trans hl h5,h6⟩
noncomputable def nmS(kd:IntKind)(n:Nat)(w:Nat->Int):SV:=.d (.ro n 1 fun j _=>.x (.int kd (w j)))
def clP(kd:IntKind)(n:Nat)(w:Nat->Int)(d:DV)(B:Gh):Prop:=∃ad cap,d=.x (.slice ad n cap)/\((n=0/\B=noGh)\/∃b z,B=ghSet noGh b z/\∃o,ad=some ⟨b,o,none⟩)/\Lies B ad n (fun j=>.int kd (w j))/\CapOK ad n cap
theorem clP_melts{kd:IntKind}{n:Nat}{w:Nat->Int}{d:DV}{B:Gh}(h:clP kd n w d B):Melts B d (.ro n 1 fun j _=>.x (.int kd (w j))):=by
 obtain⟨ad,cap,rfl,_,hl,hc⟩:=h
 intro W F u hu hB
 have:=repd_x hu;subst this
 by_cases h0:n=0
 ·subst h0
  cases ad with
  |none=>rw[hc.1 rfl];exact .nil _ _
  |some ad=>exact .z ad _ _ _
 ·rcases hl with hl|⟨b,o,cs,e,h1,h2,h3,h4⟩
  ·exact(h0 hl).elim
  obtain⟨g1,g2⟩:=hB b _ h2
  rw[h1]
  refine .ro b o _ _ 1 _ (fun i j=>cs.getD (o+(i*1+j)) undef) (fun _=>g2) hc.2 (fun i j hi hj=>cell_of_heap g1 (by simp only;omega)) (fun i j hi hj=>?_) (fun i j hi hj=>?_)
  ·have:=h4 i hi
   rw[show o+(i*1+j)=o+i by omega,this];rfl
  ·have h5:=h4 i hi
   rw[show o+(i*1+j)=o+i by omega,h5]
   exact .x _
end Go.Sx
namespace Go.Proofs.YtanlnopgadbpjaaGreat.Rw
open Go.Proofs.YtanlnopgadbpjaaGreat.Rm
open Go.Sx
theorem tmOK_one{W:World}{μ:Mu}{F:Nat->Prop}{tmps:Array Value}{s:SV}(h:Rep W μ F (tmps.getD 0 undef) s):TmOK W μ F (slN 8 [(0,s)]) tmps:=by
 intro t
 by_cases ht0:t=0
 ·subst ht0
  exact h
 ·have:tget (slN 8 [(0,s)]) t=.unk:=by
   rcases Nat.lt_or_ge t 8 with h|h
   ·have:t=1\/t=2\/t=3\/t=4\/t=5\/t=6\/t=7:=by omega
    rcases this with rfl|rfl|rfl|rfl|rfl|rfl|rfl<;>rfl
   ·rw[tget_def,List.getD_eq_getElem?_getD,List.getElem?_eq_none (by simpa [slN] using h)];rfl
  rw[this]
  trivial
theorem d00s:DrOK Tryz.prog C00 (fun _=>drawn Tryz.prog C00):=drawn_ok C00_ok mixed
noncomputable def t60(s:SV):Tree SV:=fnTG Tryz.prog C00 (stopAt 3) 200 (fnOf Tryz.prog 60) (bodyOf Tryz.prog 60) [s] .nil
noncomputable def rgc60:Code:=regAt 3 (bodyOf Tryz.prog 60)
theorem rgc60_reg:rgc60=.region 3 (opsOf rgc60) false:=by kernel_rfl
theorem rgc60_ops:(opsOf rgc60).toList=(opsOf rgc60).toList.take 3++(opsOf rgc60).toList.drop 3:=(List.take_append_drop 3 _).symm
section
variable (n : Nat) (w : Nat → Int) (ad : Option Addr) (cap : Nat) (a : Addr)
noncomputable def sr60:AS:=⟨slN 8 [(0,nmS .u64 n w)],[],0,.nil⟩
noncomputable def sh60:AS:=⟨slN 8 [(0,nmS .u64 n w),(5,.row 0 0 0 0 1),(6,nmS .u64 n w),(7,.row 1 0 0 (0+n) 1)],[none,some (.row (0+n) 1 fun a b=>.x (.int .u64 (w (a-0))))],2,.nil⟩
noncomputable def si60:AS:={ sh60 n w with tm:=(sh60 n w).tm.set 7 (.ok (.d (.x (.slice ad (0+n) cap)))),hp:=hset (sh60 n w).hp 1 none }
noncomputable def tp60:Tree AS:=runOps Tryz.prog C00 inlNo (opsOf rgc60) ((opsOf rgc60).toList.take 3) (sr60 n w)
theorem TP60_eq:tp60 n w=.need (0<=0/\True/\(0+n)*8<=140737488355328) (.ret (sh60 n w)):=by kernel_rfl
noncomputable def tq60:Tree AS:=runOps Tryz.prog C00 inlNo (opsOf rgc60) ((opsOf rgc60).toList.drop 3) (si60 n w ad cap)
noncomputable def sj60:AS:=leafS (tq60 n w ad cap)
theorem TQ60_eq:tq60 n w ad cap=.ret (sj60 n w ad cap):=by kernel_rfl
theorem L60_eq:t60 (nmS .u64 n w)=.need (n≠0) (.ite false (.ret (.d (.x (.slice none 0 0)))) (atCode (sub [0,1] (t60 (nmS .u64 n w))))):=by kernel_rfl
theorem N60_eq:t60 (.d (.x (.slice none 0 0)))=.ite true (.ret (.d (.x (.slice none 0 0)))) (atCode (sub [1] (t60 (.d (.x (.slice none 0 0)))))):=by kernel_rfl
theorem Z60_eq:t60 (.d (.x (.slice (some a) 0 cap)))=.ite false (.ret (.d (.x (.slice none 0 0)))) (atCode (sub [1] (t60 (.d (.x (.slice (some a) 0 cap)))))):=by kernel_rfl
theorem C60_eq:codeC (sub [0,1] (t60 (nmS .u64 n w)))=rgc60:=by kernel_rfl
theorem C60z_eq:codeC (sub [1] (t60 (.d (.x (.slice (some a) 0 cap)))))=rgc60:=by kernel_rfl
theorem S60_eq:codeS (sub [0,1] (t60 (nmS .u64 n w)))=⟨slN 8 [(0,nmS .u64 n w),(2,.d (.x (.slice none 0 0))),(3,nmS .u64 n w),(4,bv false)],[],0,.nil⟩:=by kernel_rfl
theorem S60z_eq:codeS (sub [1] (t60 (.d (.x (.slice (some a) 0 cap)))))=⟨slN 8 [(0,.d (.x (.slice (some a) 0 cap))),(2,.d (.x (.slice none 0 0))),(3,.d (.x (.slice (some a) 0 cap))),(4,bv false)],[],0,.nil⟩:=by kernel_rfl
theorem K60_eq:codeK (sub [0,1] (t60 (nmS .u64 n w))) .normal (sj60 n w ad cap)=.ret (.d (.x (.slice ad (0+n) cap))):=by kernel_rfl
theorem K60z_eq(c0:Nat):codeK (sub [1] (t60 (.d (.x (.slice (some a) 0 c0))))) .normal (sj60 n w ad cap)=.ret (.d (.x (.slice ad (0+n) cap))):=by kernel_rfl
theorem rgc60_G(hn:n*8<=140737488355328):TripleG Tryz.prog rgc60 (sr60 n w) noGh fun e s B'=>e=.normal/\∃ad cap,s=sj60 n w ad cap/\((0+n=0/\B'=noGh)\/∃b z,noGh b=none/\B'=ghSet noGh b z/\∃o,ad=some ⟨b,o,none⟩)/\Lies B' ad (0+n) (fun j=>.int .u64 (w j))/\CapOK ad (0+n) cap:=by
 have hpre:Sat Tryz.prog (tp60 n w) (·=sh60 n w):=by rw[TP60_eq];exact⟨⟨Nat.le_refl _,trivial,by omega⟩,rfl⟩
 have hsuf:∀ad cap,Sat Tryz.prog (tq60 n w ad cap) (·=sj60 n w ad cap):=fun ad cap=>by rw[TQ60_eq];exact⟨rfl⟩
 unfold tp60 at hpre
 unfold tq60 at hsuf
 intro p μ0 a w0 hs
 rw[rgc60_reg]
 intro r _
 refine wpIn_region_list ?_
 rw[rgc60_ops]
 refine runOps_listG C00_ok (inlNo_ok _ _) hs hpre.ok fun st a w0 hq hs=>?_
 subst hq
 obtain⟨ad,cap,B',hB,hL,hcp,hs⟩:=simG_detach hs (t:=7) (L:=1) (n:=0+n) rfl rfl (c:=fun j=>.int .u64 (w (j-0))) (fun j hj=>rfl)
 rw[<- List.append_nil ((opsOf rgc60).toList.drop 3)]
 refine runOps_listG C00_ok (inlNo_ok _ _) hs (hsuf ad cap).ok fun st a w0 hq hs=>?_
 subst hq
 exact concG_normal ⟨rfl,ad,cap,rfl,hB,hL,hcp⟩ hs
end
theorem cl60_ok(n:Nat)(w:Nat->Int)(hn:n*8<=140737488355328):GCtr Tryz.prog 60 [nmS .u64 n w] (clP .u64 n w):=by
 have fin:∀ad cap B',((0+n=0/\B'=noGh)\/∃b z,noGh b=none/\B'=ghSet noGh b z/\∃o,ad=some ⟨b,o,none⟩)->Lies B' ad (0+n) (fun j=>.int .u64 (w j))->CapOK ad (0+n) cap->clP .u64 n w (.x (.slice ad (0+n) cap)) B':=by
  intro ad cap B' h1 h2 h3
  rw[Nat.zero_add] at h1 h2 h3 ⊢
  exact⟨ad,cap,rfl,h1.imp id fun⟨b,z,_,h⟩=>⟨b,z,h⟩,h2,h3⟩
 by_cases h0:n=0
 ·intro vs W F hF hgl hr
  have h1:=hr.2 0 (by simp)
  have hsz:vs.size=1:=hr.1
  have hs:SatG Tryz.prog (t60 (.d (.x (.slice none 0 0)))) noGh fun a B=>∃d,a=.d d/\clP .u64 n w d B:=by
   refine SatG.of_eq N60_eq ⟨⟨fun _=>⟨_,rfl,none,0,by rw[h0],.inl ⟨h0,rfl⟩,.inl h0,fun _=>rfl,by omega⟩,fun h=>by cases h⟩⟩
  have hz:∀a cap,SatG Tryz.prog (t60 (.d (.x (.slice (some a) 0 cap)))) noGh fun a B=>∃d,a=.d d/\clP .u64 n w d B:=by
   intro a cap
   refine SatG.of_eq (Z60_eq cap a) ⟨⟨(fun h=>by cases h),fun _=>?_⟩⟩
   have htri:=TripleG.retell (tm:=slN 8 [(0,.d (.x (.slice (some a) 0 cap))),(2,.d (.x (.slice none 0 0))),(3,.d (.x (.slice (some a) 0 cap))),(4,bv false)]) (tm':=slN 8 [(0,nmS .u64 n w)]) (h:=.nil) (fun W μ F tmps ht=>tmOK_one (by
    have hv:tmps.getD 0 undef=.slice (some a) 0 cap:=rep_x (ht 0)
    rw[hv,h0]
    exact .d (.z _ _ _ _))) (Nat.le_refl _) (rgc60_G n w hn)
   refine cut_satG _ (c:=codeC (sub [1] (t60 (.d (.x (.slice (some a) 0 cap)))))) (st:=codeS (sub [1] (t60 (.d (.x (.slice (some a) 0 cap)))))) (by rw[C60z_eq,S60z_eq];exact htri) ?_
   rintro e s B' ⟨rfl,ad,cap',rfl,h1,h2,h3⟩
   exact SatG.of_eq (K60z_eq n w ad cap' a cap) (satG_ret ⟨_,rfl,fin ad cap' B' h1 h2 h3⟩)
  have key:∀v:Value,vs.getD 0 undef=v->SatG Tryz.prog (t60 (.d (.x v))) noGh (fun a B=>∃d,a=.d d/\clP .u64 n w d B)->Calls Tryz.prog 60 vs W fun e w'=>∃v d B F',e=.returned v/\clP .u64 n w d B/\HS ⟨W,Tk [] emp,F⟩ emp F' [] w'/\RepD w' F' v d/\GhOK ⟨W,Tk [] emp,F⟩ emp F' [] w' B:=by
   intro v hv hs
   refine gctr_of C00_ok d00s (by kernel_rfl) (by kernel_rfl) hs vs W F hF hgl ⟨hsz,fun i hi=>?_⟩
   obtain rfl:i=0:=by simpa using hi
   rw[hv]
   exact .d (.x _)
  subst h0
  generalize hv:vs.getD 0 undef=v at h1
  have h1:Rep W emp F v (.d (.ro 0 1 fun j _=>.x (.int .u64 (w j)))):=h1
  cases h1 with
  |d hd =>
   cases hd with
   |nil=>exact key _ hv hs
   |z a cap=>exact key _ hv (hz a cap)
   |ro b o len cap esz cell f hF hc=>exact key _ hv (hz ⟨b,o,none⟩ cap)
 ·refine gctr_of C00_ok d00s (by kernel_rfl) (by kernel_rfl) (n:=200) (stop:=stopAt 3) (hint:=.nil) (?_:SatG Tryz.prog (t60 (nmS .u64 n w)) noGh _)
  refine SatG.of_eq (L60_eq n w) ⟨⟨h0,(fun h=>by cases h),fun _=>?_⟩⟩
  have htri:=TripleG.retell (tm:=slN 8 [(0,nmS .u64 n w),(2,.d (.x (.slice none 0 0))),(3,nmS .u64 n w),(4,bv false)]) (tm':=slN 8 [(0,nmS .u64 n w)]) (h:=.nil) (fun W μ F tmps ht=>tmOK_one (ht 0)) (Nat.le_refl _) (rgc60_G n w hn)
  refine cut_satG _ (c:=codeC (sub [0,1] (t60 (nmS .u64 n w)))) (st:=codeS (sub [0,1] (t60 (nmS .u64 n w)))) (by rw[C60_eq,S60_eq];exact htri) ?_
  rintro e s B' ⟨rfl,ad,cap',rfl,h1,h2,h3⟩
  exact SatG.of_eq (K60_eq n w ad cap') (satG_ret ⟨_,rfl,fin ad cap' B' h1 h2 h3⟩)
noncomputable def t55(s:SV):Tree SV:=fnTG Tryz.prog C00 (stopAt 3) 200 (fnOf Tryz.prog 55) (bodyOf Tryz.prog 55) [s] .nil
noncomputable def rgc55:Code:=regAt 3 (bodyOf Tryz.prog 55)
theorem rgc55_reg:rgc55=.region 3 (opsOf rgc55) false:=by kernel_rfl
theorem rgc55_ops:(opsOf rgc55).toList=(opsOf rgc55).toList.take 3++(opsOf rgc55).toList.drop 3:=(List.take_append_drop 3 _).symm
section
variable (n : Nat) (w : Nat → Int) (ad : Option Addr) (cap : Nat) (a : Addr)
noncomputable def sr55:AS:=⟨slN 8 [(0,nmS .u8 n w)],[],0,.nil⟩
noncomputable def sh55:AS:=⟨slN 8 [(0,nmS .u8 n w),(5,.row 0 0 0 0 1),(6,nmS .u8 n w),(7,.row 1 0 0 (0+n) 1)],[none,some (.row (0+n) 1 fun a b=>.x (.int .u8 (w (a-0))))],2,.nil⟩
noncomputable def si55:AS:={ sh55 n w with tm:=(sh55 n w).tm.set 7 (.ok (.d (.x (.slice ad (0+n) cap)))),hp:=hset (sh55 n w).hp 1 none }
noncomputable def tp55:Tree AS:=runOps Tryz.prog C00 inlNo (opsOf rgc55) ((opsOf rgc55).toList.take 3) (sr55 n w)
theorem TP55_eq:tp55 n w=.need (0<=0/\True/\(0+n)*1<=140737488355328) (.ret (sh55 n w)):=by kernel_rfl
noncomputable def tq55:Tree AS:=runOps Tryz.prog C00 inlNo (opsOf rgc55) ((opsOf rgc55).toList.drop 3) (si55 n w ad cap)
noncomputable def sj55:AS:=leafS (tq55 n w ad cap)
theorem TQ55_eq:tq55 n w ad cap=.ret (sj55 n w ad cap):=by kernel_rfl
theorem L55_eq:t55 (nmS .u8 n w)=.need (n≠0) (.ite false (.ret (.d (.x (.slice none 0 0)))) (atCode (sub [0,1] (t55 (nmS .u8 n w))))):=by kernel_rfl
theorem N55_eq:t55 (.d (.x (.slice none 0 0)))=.ite true (.ret (.d (.x (.slice none 0 0)))) (atCode (sub [1] (t55 (.d (.x (.slice none 0 0)))))):=by kernel_rfl
theorem Z55_eq:t55 (.d (.x (.slice (some a) 0 cap)))=.ite false (.ret (.d (.x (.slice none 0 0)))) (atCode (sub [1] (t55 (.d (.x (.slice (some a) 0 cap)))))):=by kernel_rfl
theorem C55_eq:codeC (sub [0,1] (t55 (nmS .u8 n w)))=rgc55:=by kernel_rfl
theorem C55z_eq:codeC (sub [1] (t55 (.d (.x (.slice (some a) 0 cap)))))=rgc55:=by kernel_rfl
theorem S55_eq:codeS (sub [0,1] (t55 (nmS .u8 n w)))=⟨slN 8 [(0,nmS .u8 n w),(2,.d (.x (.slice none 0 0))),(3,nmS .u8 n w),(4,bv false)],[],0,.nil⟩:=by kernel_rfl
theorem S55z_eq:codeS (sub [1] (t55 (.d (.x (.slice (some a) 0 cap)))))=⟨slN 8 [(0,.d (.x (.slice (some a) 0 cap))),(2,.d (.x (.slice none 0 0))),(3,.d (.x (.slice (some a) 0 cap))),(4,bv false)],[],0,.nil⟩:=by kernel_rfl
theorem K55_eq:codeK (sub [0,1] (t55 (nmS .u8 n w))) .normal (sj55 n w ad cap)=.ret (.d (.x (.slice ad (0+n) cap))):=by kernel_rfl
theorem K55z_eq(c0:Nat):codeK (sub [1] (t55 (.d (.x (.slice (some a) 0 c0))))) .normal (sj55 n w ad cap)=.ret (.d (.x (.slice ad (0+n) cap))):=by kernel_rfl
theorem rgc55_G(hn:n*1<=140737488355328):TripleG Tryz.prog rgc55 (sr55 n w) noGh fun e s B'=>e=.normal/\∃ad cap,s=sj55 n w ad cap/\((0+n=0/\B'=noGh)\/∃b z,noGh b=none/\B'=ghSet noGh b z/\∃o,ad=some ⟨b,o,none⟩)/\Lies B' ad (0+n) (fun j=>.int .u8 (w j))/\CapOK ad (0+n) cap:=by
 have hpre:Sat Tryz.prog (tp55 n w) (·=sh55 n w):=by rw[TP55_eq];exact⟨⟨Nat.le_refl _,trivial,by omega⟩,rfl⟩
 have hsuf:∀ad cap,Sat Tryz.prog (tq55 n w ad cap) (·=sj55 n w ad cap):=fun ad cap=>by rw[TQ55_eq];exact⟨rfl⟩
 unfold tp55 at hpre
 unfold tq55 at hsuf
 intro p μ0 a w0 hs
 rw[rgc55_reg]
 intro r _
 refine wpIn_region_list ?_
 rw[rgc55_ops]
 refine runOps_listG C00_ok (inlNo_ok _ _) hs hpre.ok fun st a w0 hq hs=>?_
 subst hq
 obtain⟨ad,cap,B',hB,hL,hcp,hs⟩:=simG_detach hs (t:=7) (L:=1) (n:=0+n) rfl rfl (c:=fun j=>.int .u8 (w (j-0))) (fun j hj=>rfl)
 rw[<- List.append_nil ((opsOf rgc55).toList.drop 3)]
 refine runOps_listG C00_ok (inlNo_ok _ _) hs (hsuf ad cap).ok fun st a w0 hq hs=>?_
 subst hq
 exact concG_normal ⟨rfl,ad,cap,rfl,hB,hL,hcp⟩ hs
end
theorem cl55_ok(n:Nat)(w:Nat->Int)(hn:n*1<=140737488355328):GCtr Tryz.prog 55 [nmS .u8 n w] (clP .u8 n w):=by
 have fin:∀ad cap B',((0+n=0/\B'=noGh)\/∃b z,noGh b=none/\B'=ghSet noGh b z/\∃o,ad=some ⟨b,o,none⟩)->Lies B' ad (0+n) (fun j=>.int .u8 (w j))->CapOK ad (0+n) cap->clP .u8 n w (.x (.slice ad (0+n) cap)) B':=by
  intro ad cap B' h1 h2 h3
  rw[Nat.zero_add] at h1 h2 h3 ⊢
  exact⟨ad,cap,rfl,h1.imp id fun⟨b,z,_,h⟩=>⟨b,z,h⟩,h2,h3⟩
 by_cases h0:n=0
 ·intro vs W F hF hgl hr
  have h1:=hr.2 0 (by simp)
  have hsz:vs.size=1:=hr.1
  have hs:SatG Tryz.prog (t55 (.d (.x (.slice none 0 0)))) noGh fun a B=>∃d,a=.d d/\clP .u8 n w d B:=by
   refine SatG.of_eq N55_eq ⟨⟨fun _=>⟨_,rfl,none,0,by rw[h0],.inl ⟨h0,rfl⟩,.inl h0,fun _=>rfl,by omega⟩,fun h=>by cases h⟩⟩
  have hz:∀a cap,SatG Tryz.prog (t55 (.d (.x (.slice (some a) 0 cap)))) noGh fun a B=>∃d,a=.d d/\clP .u8 n w d B:=by
   intro a cap
   refine SatG.of_eq (Z55_eq cap a) ⟨⟨(fun h=>by cases h),fun _=>?_⟩⟩
   have htri:=TripleG.retell (tm:=slN 8 [(0,.d (.x (.slice (some a) 0 cap))),(2,.d (.x (.slice none 0 0))),(3,.d (.x (.slice (some a) 0 cap))),(4,bv false)]) (tm':=slN 8 [(0,nmS .u8 n w)]) (h:=.nil) (fun W μ F tmps ht=>tmOK_one (by
    have hv:tmps.getD 0 undef=.slice (some a) 0 cap:=rep_x (ht 0)
    rw[hv,h0]
    exact .d (.z _ _ _ _))) (Nat.le_refl _) (rgc55_G n w hn)
   refine cut_satG _ (c:=codeC (sub [1] (t55 (.d (.x (.slice (some a) 0 cap)))))) (st:=codeS (sub [1] (t55 (.d (.x (.slice (some a) 0 cap)))))) (by rw[C55z_eq,S55z_eq];exact htri) ?_
   rintro e s B' ⟨rfl,ad,cap',rfl,h1,h2,h3⟩
   exact SatG.of_eq (K55z_eq n w ad cap' a cap) (satG_ret ⟨_,rfl,fin ad cap' B' h1 h2 h3⟩)
  have key:∀v:Value,vs.getD 0 undef=v->SatG Tryz.prog (t55 (.d (.x v))) noGh (fun a B=>∃d,a=.d d/\clP .u8 n w d B)->Calls Tryz.prog 55 vs W fun e w'=>∃v d B F',e=.returned v/\clP .u8 n w d B/\HS ⟨W,Tk [] emp,F⟩ emp F' [] w'/\RepD w' F' v d/\GhOK ⟨W,Tk [] emp,F⟩ emp F' [] w' B:=by
   intro v hv hs
   refine gctr_of C00_ok d00s (by kernel_rfl) (by kernel_rfl) hs vs W F hF hgl ⟨hsz,fun i hi=>?_⟩
   obtain rfl:i=0:=by simpa using hi
   rw[hv]
   exact .d (.x _)
  subst h0
  generalize hv:vs.getD 0 undef=v at h1
  have h1:Rep W emp F v (.d (.ro 0 1 fun j _=>.x (.int .u8 (w j)))):=h1
  cases h1 with
  |d hd =>
   cases hd with
   |nil=>exact key _ hv hs
   |z a cap=>exact key _ hv (hz a cap)
   |ro b o len cap esz cell f hF hc=>exact key _ hv (hz ⟨b,o,none⟩ cap)
 ·refine gctr_of C00_ok d00s (by kernel_rfl) (by kernel_rfl) (n:=200) (stop:=stopAt 3) (hint:=.nil) (?_:SatG Tryz.prog (t55 (nmS .u8 n w)) noGh _)
  refine SatG.of_eq (L55_eq n w) ⟨⟨h0,(fun h=>by cases h),fun _=>?_⟩⟩
  have htri:=TripleG.retell (tm:=slN 8 [(0,nmS .u8 n w),(2,.d (.x (.slice none 0 0))),(3,nmS .u8 n w),(4,bv false)]) (tm':=slN 8 [(0,nmS .u8 n w)]) (h:=.nil) (fun W μ F tmps ht=>tmOK_one (ht 0)) (Nat.le_refl _) (rgc55_G n w hn)
  refine cut_satG _ (c:=codeC (sub [0,1] (t55 (nmS .u8 n w)))) (st:=codeS (sub [0,1] (t55 (nmS .u8 n w)))) (by rw[C55_eq,S55_eq];exact htri) ?_
  rintro e s B' ⟨rfl,ad,cap',rfl,h1,h2,h3⟩
  exact SatG.of_eq (K55_eq n w ad cap') (satG_ret ⟨_,rfl,fin ad cap' B' h1 h2 h3⟩)
def _root_.Go.Proofs.ByD(n:Nat)(F:Nat->Nat->Sx.DV):Prop:=n<=1000000000/\∀i,i<n->F i 0=.x (.int .u8 (numV (F i 0)))
noncomputable def c55:Ctr:=fun ss=>match ss with
 |[.d (.ro n 1 F)]=>.need (ByD n F) (.ret (nmS .u8 n fun i=>numV (F i 0)))
 |[.d (.x (.slice none 0 0))]=>.ret (nmS .u8 0 fun _=>0)
 |_=>.fail
theorem c55_ok:CtrOK Tryz.prog 55 c55:=ctrOK_ofG fun ss r h=>by
 unfold c55 at h
 split at h
 ·rename_i n F
  obtain⟨⟨hn,hF⟩,rfl⟩:=h
  refine⟨[nmS .u8 n fun i=>numV (F i 0)],_,by simp only[leSVs,and_true];exact⟨rfl,rfl,fun i j hi hj=>by rw[show j=0 by omega];exact hF i hi⟩,cl55_ok n (fun i=>numV (F i 0)) (by omega),fun d B hd=>⟨_,rfl,clP_melts hd⟩⟩
 ·cases h
  refine⟨[nmS .u8 0 fun _=>0],_,by simp only[leSVs,and_true];exact⟨rfl,rfl⟩,cl55_ok 0 (fun _=>0) (by omega),fun d B hd=>⟨_,rfl,clP_melts hd⟩⟩
 ·exact h.elim
def stopA:Nat->Bool:=fun id=>Nat.beq id 17||Nat.beq id 23
noncomputable def manXf:FuncId->Option Ctr:=fun k=>match k with
 |37=>some c37
 |58=>some c58
 |59=>some c59
 |_=>none
theorem manXf_ok(k:Nat)(c:Ctr)(hk:manXf k=some c):CtrOK Tryz.prog k c/\goodF Tryz.prog k=true:=by
 unfold manXf at hk
 split at hk
 ·cases hk;exact⟨c37_ok,by kernel_rfl⟩
 ·cases hk;exact⟨c58_ok,by kernel_rfl⟩
 ·cases hk;exact⟨c59_ok,by kernel_rfl⟩
 ·cases hk
noncomputable def CXf:Ctx:=ctxN Tryz.prog manXf (fun _=>false) 200 .nil 6
theorem CXf_ok:CtxOK Tryz.prog CXf:=ctxN_ok mixed manXf_ok 6
theorem dXf:DrOK Tryz.prog CXf (fun _=>drawn Tryz.prog CXf):=drawn_ok CXf_ok mixed
noncomputable def nilS:SV:=.d (.x (.slice none 0 0))
section
variable (n : Nat) (x : Nat → FsT) (k : Nat) (F : Nat → Pt) (q : Nat) (has : List Int → Bool) (val : List Int → Sx.DV) (i : Int)
noncomputable def t23:Tree SV:=fnTG Tryz.prog CXf stopA 200 (fnOf Tryz.prog 23) (bodyOf Tryz.prog 23) [ssS n x,ptS k F] .nil
theorem L23_eq:t23 n x k F=.need (NrmD k fun i j=>ptE (F i) j) (.ite false (.ret (.tup [nilS,iv 490])) (atCode (sub [0,1] (t23 n x k F)))):=by kernel_rfl
noncomputable def st23a:AS:=⟨slN 86 [(0,ssS n x),(6,.ptr 1 0),(20,ptS k F),(21,iv k),(22,iv i)],[some (.map 3 q has val),some (.cells [.mp 0]),none],3,.nil⟩
noncomputable def b23a:Tree (Ex×AS):=cutT 3 [] [0,6,20,21,22] [2] 3 .nil (execG Tryz.prog CXf stopA 200 (loopN (bodyOf Tryz.prog 23) 0) (st23a n x k F q has val i))
theorem E23a_eq:entA 3 [] [0,6,20,21,22] [2] 3 .nil (sub [0,1] (t23 n x k F))=some (st23a n x k F 0 (fun _=>false) (fun _=>.x (.int .u64 0)) 0):=by kernel_rfl
theorem B23a_eq:b23a n x k F q has val i=.ite (decide (i<(k:Int))) (.need (0<=i/\i<(k:Int)) (.need (MapTy Tryz.prog 143 3) (.need (KeyOK 3 (ptK (F i.toNat)))
   (.ret (.normal,st23a n x k F (addN q (has (ptK (F i.toNat)))) (fun q=>keyEq q (ptK (F i.toNat))||has q) (fun q=>selD (keyEq q (ptK (F i.toNat))) (.x (.int .u64 (F i.toNat).x)) (val q)) (w64 (i+1))))))) (.ret (.exit 0,st23a n x k F q has val i)):=by kernel_rfl
noncomputable def k23a:Tree SV:=codeK (sub [0,1] (t23 n x k F)) (.exit 0) (st23a n x k F q has val i)
theorem K23a_eq:k23a n x k F q has val i=atCode (sub [] (k23a n x k F q has val i)):=by kernel_rfl
end
section
variable (n : Nat) (x : Nat → FsT) (k : Nat) (F : Nat → Pt) (q : Nat) (has : List Int → Bool) (val : List Int → Sx.DV) (m : Nat) (c : Nat → Nat → Sx.DV) (i : Int)
noncomputable def st23b:AS:=⟨slN 86 [(0,ssS n x),(6,.ptr 1 0),(9,.ptr 3 0),(32,ssS n x),(33,iv n),(34,iv i)],[some (.map 3 q has val),some (.cells [.mp 0]),none,some (.cells [.row 4 0 0 m 1]),some (.row m 1 c)],5,.nil⟩
theorem E23b_eq(i0:Int):entA 4 [] [0,6,9,32,33,34] [2] 4 .nil (sub [] (k23a n x k F q has val i0))=some ⟨slN 86 [(0,ssS n x),(6,.ptr 1 0),(9,.ptr 3 0),(32,ssS n x),(33,iv n),(34,iv 0)],[some (.map 3 q has val),some (.cells [.mp 0]),none,some (.cells [nilS])],4,.nil⟩:=by kernel_rfl
noncomputable def b23b:Tree (Ex×AS):=cutT 4 [(.cell (.base 3) 0,4)] [0,6,9,32,33,34] [2] 5 .nil (execG Tryz.prog CXf stopA 200 (loopN (bodyOf Tryz.prog 23) 1) (st23b n x q has val m c i))
theorem B23b_eq:b23b n x q has val m c i=.ite (decide (i<(n:Int))) (.need (0<=i/\i<(n:Int)) (atCode (sub [0,0] (b23b n x q has val m c i)))) (.ret (.exit 2,st23b n x q has val m c i)):=by kernel_rfl
noncomputable def k23b(i0:Int):Tree SV:=codeK (sub [] (k23a n x k F q has val i0)) (.exit 2) (st23b n x q has val m c i)
theorem K23b_eq(i0:Int):k23b n x k F q has val m c i i0=.need (SsD n fun i j=>fsC (x i) j) (atCode (sub [0] (k23b n x k F q has val m c i i0))):=by kernel_rfl
variable (y : FsT) (r : Nat) (d : Nat → Nat → Sx.DV) (j : Int)
noncomputable def st23c:AS:=⟨slN 86 [(0,ssS n x),(6,.ptr 1 0),(9,.ptr 3 0),(12,.row 5 0 0 r 1),(32,ssS n x),(33,iv n),(34,iv i),(38,.d (fsC y 0)),(39,iv y.n),(40,iv j)],[some (.map 3 q has val),some (.cells [.mp 0]),none,some (.cells [.row 4 0 0 m 1]),some (.row m 1 c),some (.row r 1 d)],6,.nil⟩
theorem E23c_eq:entA 5 [] [0,6,9,12,32,33,34,38,39,40] [2] 5 .nil (sub [0,0] (b23b n x q has val m c i))=some ⟨slN 86 [(0,ssS n x),(6,.ptr 1 0),(9,.ptr 3 0),(12,nilS),(32,ssS n x),(33,iv n),(34,iv i),(38,.d (fsC (x i.toNat) 0)),(39,iv (x i.toNat).n),(40,iv 0)],[some (.map 3 q has val),some (.cells [.mp 0]),none,some (.cells [.row 4 0 0 m 1]),some (.row m 1 c)],5,.nil⟩:=by kernel_rfl
noncomputable def b23c:Tree (Ex×AS):=cutT 5 [(.slot 12,5)] [0,6,9,12,32,33,34,38,39,40] [2] 6 .nil (execG Tryz.prog CXf stopA 200 (loopN (bodyOf Tryz.prog 23) 2) (st23c n x q has val m c i y r d j))
theorem B23c_eq:b23c n x q has val m c i y r d j=.ite (decide (j<(y.n:Int))) (.need (0<=j/\j<(y.n:Int)) (atCode (sub [0,0] (b23c n x q has val m c i y r d j)))) (.ret (.exit 4,st23c n x q has val m c i y r d j)):=by kernel_rfl
theorem K23c_eq(m0:Nat)(c0:Nat->Nat->Sx.DV):codeK (sub [0,0] (b23b n x q has val m0 c0 i)) (.exit 4) (st23c n x q has val m c i y r d j)=.need (0+r<=r) (.need (0+m<=m/\1<=1/\(m+1)*24<=140737488355328) (.ret (.normal,st23b n x q has val (m+1) (selA 1 m c [.ro r 1 fun i j=>d (0+i) j]) (w64 (i+1))))):=by kernel_rfl
noncomputable def rgA:Code:=regAt 17 (bodyOf Tryz.prog 23)
noncomputable def preA:List Oper:=(opsOf rgA).toList.take 3
noncomputable def opA:Oper:=(opsOf rgA).toList.getD 3 default
noncomputable def sufA:List Oper:=(opsOf rgA).toList.drop 4
noncomputable def caA:Call:=match opA.op with
 |.call c=>c
 |_=>default
theorem opA_op:opA.op=.call caA:=by kernel_rfl
theorem opA_g:opA.guard=none:=by kernel_rfl
theorem opA_d:opA.dst=some 47:=by kernel_rfl
theorem rgA_reg:rgA=.region 17 (opsOf rgA) false:=by kernel_rfl
theorem rgA_ops:(opsOf rgA).toList=preA++(opA::sufA):=by kernel_rfl
theorem rgA_eq:codeC (sub [0,0] (b23c n x q has val m c i y r d j))=rgA:=by kernel_rfl
noncomputable def sgA:AS:=codeS (sub [0,0] (b23c n x q has val m c i y r d j))
noncomputable def tpA:Tree AS:=runOps Tryz.prog CXf inlNo (opsOf rgA) preA (sgA n x q has val m c i y r d j)
noncomputable def shA:AS:=leafS (tpA n x q has val m c i y r d j)
theorem TPA_eq:tpA n x q has val m c i y r d j=.ret (shA n x q has val m c i y r d j):=by kernel_rfl
theorem shA_len:(shA n x q has val m c i y r d j).tm.length=86:=by kernel_rfl
theorem shA_tag:noTag (shA n x q has val m c i y r d j).tm 47=true:=by kernel_rfl
theorem shA_cnd:cndsT (shA n x q has val m c i y r d j).tm (opSlots opA)=[]:=by kernel_rfl
theorem shA_cal:callee (rhoR (shA n x q has val m c i y r d j).tm none (opSlots opA)) caA=some (60,[nmS .u64 (y.f j.toNat).n (y.f j.toNat).w]):=by kernel_rfl
variable (ad : Option Addr) (cap : Nat)
noncomputable def siA:AS:={ shA n x q has val m c i y r d j with tm:=(shA n x q has val m c i y r d j).tm.set 47 (.ok (.d (.x (.slice ad (y.f j.toNat).n cap)))) }
noncomputable def tqA:Tree AS:=runOps Tryz.prog CXf inlNo (opsOf rgA) sufA (siA n x q has val m c i y r d j ad cap)
noncomputable def sjA:AS:=leafS (tqA n x q has val m c i y r d j ad cap)
theorem TQA_eq:tqA n x q has val m c i y r d j ad cap=.need (0+r<=r/\1<=1/\(r+1)*24<=140737488355328) (.ret (sjA n x q has val m c i y r d j ad cap)):=by kernel_rfl
theorem KA_eq:codeK (sub [0,0] (b23c n x q has val m c i y r d j)) .normal (sjA n x q has val m c i y r d j ad cap)=.ret (.normal,st23c n x q has val m c i y (r+1) (selA 1 r d [.x (.slice ad (y.f j.toNat).n cap)]) (w64 (j+1))):=by kernel_rfl
end
noncomputable def cod23:Code:=codeC (sub [0] (k23b 1 (fun _=>⟨0,fun _=>⟨0,fun _=>0⟩⟩) 0 (fun _=>⟨0,0,0,0⟩) 0 (fun _=>false) (fun _=>.x undef) 0 (fun _ _=>.x undef) 0 0))
noncomputable def asg23:Code:=match cod23 with|.rangeFunc _ _ a _=>a|_=>.skip
noncomputable def bod23:Code:=match cod23 with|.rangeFunc _ _ _ b=>b|_=>.skip
noncomputable def sl23(n:Nat)(x:Nat->FsT):List TV:=slN 86 [(6,.ptr 1 0),(9,.ptr 3 0),(58,.fn (.func 75) [] [.rop 1 (fr1 n x)])]
noncomputable def rgB:Code:=regAt 23 bod23
noncomputable def preB:List Oper:=(opsOf rgB).toList.take 19
noncomputable def opB:Oper:=(opsOf rgB).toList.getD 19 default
noncomputable def opL74:Oper:=(opsOf rgB).toList.getD 13 default
noncomputable def spN(o:Oper):Oper×Option Sx.Told:=(o,none)
noncomputable def spB(B:Gh):List (Oper×Option Sx.Told):=(preB.take 13).map spN++((opL74,some (toldLd B 73))::(preB.drop 14).map spN)
theorem spB_map(B:Gh):(spB B).map (·.1)=preB:=by kernel_rfl
theorem rgB_reg:rgB=.region 23 (opsOf rgB) true:=by kernel_rfl
theorem rgB_split:(opsOf rgB).toList=preB++[opB]:=by kernel_rfl
theorem rgB_last:lastAll preB opB=true:=by kernel_rfl
theorem rgB_edge:edgesOK 0 (opsOf rgB).toList=true:=by kernel_rfl
theorem opB_op:opB.op=.store 31 (.tmp 79) (.tmp 78):=by kernel_rfl
theorem opB_g:opB.guard=none:=by kernel_rfl
theorem opB_d:opB.dst=none:=by kernel_rfl
theorem opL_op:opL74.op=.load 31 (.tmp 73):=by kernel_rfl
theorem opL_g:opL74.guard=none:=by kernel_rfl
theorem shape31:shapeT Tryz.prog 31=some (false,1):=by kernel_rfl
section
variable (n : Nat) (L : List Pt) (mm : Nat → Nat) (nn : Nat → Nat → Nat) (A : Nat → Nat → Option Addr) (C : Nat → Nat → Nat)
noncomputable def hp23:Heap:=[some (.map 3 L.length (hasL L) (valE L)),some (.cells [.mp 0]),none,some (.cells [.row 4 0 0 n 1]),some (.row n 1 (exS mm nn A C))]
variable (x : Nat → FsT) (i k w v : Int) (B : Gh)
noncomputable def rd23:Tree (Ex×AS):=roundG Tryz.prog CXf stopA 200 5 [] [] 5 .nil asg23 bod23 ⟨parTm [59,60] [.agg [iv i,iv k,iv w],.d (.x (.int .u64 v))] (sl23 n x),hp23 n L mm nn A C,5,.nil⟩
theorem R23_eq:rd23 n L mm nn A C x i k w v=atCode (sub [] (rd23 n L mm nn A C x i k w v)):=by kernel_rfl
theorem rgB_eq:codeC (sub [] (rd23 n L mm nn A C x i k w v))=rgB:=by kernel_rfl
noncomputable def sgB:AS:=codeS (sub [] (rd23 n L mm nn A C x i k w v))
noncomputable def tpB:Tree AS:=dKs Tryz.prog CXf (opsOf rgB) (spB B) [] [] { sgB n L mm nn A C x i k w v with tm:=Sx.untag (sgB n L mm nn A C x i k w v).tm }
noncomputable def shM:AS:=leafS (tpB n L mm nn A C x i k w v B)
noncomputable def adB:Option Addr:=(A (0+i.toNat) k.toNat).map fun a=>⟨a.block,a.off+w.toNat*1,none⟩
theorem TPB_eq:tpB n L mm nn A C x i k w v B=.need (0<=i/\i<(n:Int)) (.need (0+i.toNat<n) (.need (0<=k/\k<(mm (0+i.toNat):Int)) (.need (∃b o,A (0+i.toNat) k.toNat=some ⟨b,o,none⟩) (.need (0<=w/\w<(nn (0+i.toNat) k.toNat:Int)) (.need (Proofs.GhN B (adB A i k w)) (.need (MapTy Tryz.prog 143 3) (.need (KeyOK 3 [i,k,w]) (.need (∃b o,A (0+i.toNat) k.toNat=some ⟨b,o,none⟩) (.need (0<=w/\w<(nn (0+i.toNat) k.toNat:Int)) (.ret (shM n L mm nn A C x i k w v B))))))))))):=by kernel_rfl
theorem shM_79:tget (shM n L mm nn A C x i k w v B).tm 79=.ok (.d (.x (.pointer (adB A i k w)))):=by kernel_rfl
theorem shM_78:tget (shM n L mm nn A C x i k w v B).tm 78=.ok (.d (.x (.int .u64 (xorV (ghNum B (adB A i k w)) (bif hasL L [i,k,w] then valL L [i,k,w] else 0))))):=by kernel_rfl
theorem KB_eq:codeK (sub [] (rd23 n L mm nn A C x i k w v)) .normal (shM n L mm nn A C x i k w v B)=.need (MapTy Tryz.prog 143 3) (.need (KeyOK 3 [i,k,w]) (.ret (.normal,⟨List.replicate 86 .unk,[some (.map 3 (subN L.length (hasL L [i,k,w])) (fun q=>!(keyEq q [i,k,w])&&hasL L q) (valE L)),some (.cells [.mp 0]),none,some (.cells [.row 4 0 0 n 1]),some (.row n 1 (exS mm nn A C))],5,.nil⟩))):=by kernel_rfl
end
section
variable (n : Nat) (x : Nat → FsT) (k : Nat) (F : Nat → Pt) (q : Nat) (has : List Int → Bool) (val : List Int → Sx.DV) (m : Nat) (c : Nat → Nat → Sx.DV) (i i0 : Int)
theorem C23_eq:codeC (sub [0] (k23b n x k F q has val m c i i0))=.rangeFunc (.tmp 58) #[59,60] asg23 bod23:=by kernel_rfl
noncomputable def st23d:AS:=codeS (sub [0] (k23b n x k F q has val m c i i0))
theorem V23_eq:tvStrict none (tget (st23d n x k F q has val m c i i0).tm 58)=some (.fn (.func 75) [] [.rop 1 (fr1 n x)]):=by kernel_rfl
theorem T23k_eq:keepTm [6,9,58] 0 (st23d n x k F q has val m c i i0).tm=sl23 n x:=by kernel_rfl
theorem N23_eq:entRG 5 [] [] [] 5 (sub [0] (k23b n x k F q has val m c i i0))=some ⟨List.replicate 86 .unk,[some (.map 3 q has val),some (.cells [.mp 0]),none,some (.cells [.row 4 0 0 m 1]),some (.row m 1 c)],5,.nil⟩:=by kernel_rfl
variable (q1 : Nat) (has1 : List Int → Bool) (val1 : List Int → Sx.DV) (m1 : Nat) (c1 : Nat → Nat → Sx.DV)
theorem KD_eq:codeK (sub [0] (k23b n x k F q has val m c i i0)) .normal ⟨sl23 n x,[some (.map 3 q1 has1 val1),some (.cells [.mp 0]),none,some (.cells [.row 4 0 0 m1 1]),some (.row m1 1 c1)],5,.nil⟩=.ite (decide ((q1:Int)>0)) (.ret (.tup [nilS,iv 490])) (.need (0+m1<=m1) (.ret (.tup [.d (.ro m1 1 fun i j=>c1 (0+i) j),iv 0]))):=by kernel_rfl
theorem na23:noRange asg23=true:=by kernel_rfl
theorem nb23:noRange bod23=true:=by kernel_rfl
end
end Go.Proofs.YtanlnopgadbpjaaGreat.Rw
namespace Go.Sx
theorem lies_un{B B1:Gh}{ad:Option Addr}{n:Nat}{c:Nat->Value}(hd:∀b,B1 b≠none->B b=none)(h:Lies B1 ad n c):Lies (ghUn B B1) ad n c:=by
 rcases h with h|⟨b,o,cs,e,h1,h2,h3,h4⟩
 ·exact .inl h
 ·refine .inr ⟨b,o,cs,e,h1,?_,h3,h4⟩
  unfold ghUn
  rw[hd b (by rw[h2];simp)]
  exact h2
theorem exF_sel{N:Nat->Nat}{a:Nat->Option Addr}{c:Nat->Nat}{k:Nat}{ad:Option Addr}{cap:Nat}{a':Nat->Option Addr}{c':Nat->Nat}(h1:a' k=ad)(h2:c' k=cap)(h3:∀j,j<k->a' j=a j/\c' j=c j)(i b:Nat)(hi:i<k+1)(hb:b<1):selD (decide (i<k)) (exF N a c (0+i) b) (dsAt [.x (.slice ad (N k) cap)] (0+(0+(i-k))*1+b))=exF N a' c' i b:=by
 obtain rfl:b=0:=by omega
 rw[selD_eq,Nat.zero_add,show 0+(0+(i-k))*1+0=i-k by omega]
 unfold exF
 by_cases h:i<k
 ·obtain⟨g1,g2⟩:=h3 i h
  rw[decide_eq_true h,g1,g2];rfl
 ·obtain rfl:i=k:=by omega
  rw[decide_eq_false (by omega),h1,h2,Nat.sub_self];rfl
end Go.Sx
namespace Go.Proofs.YtanlnopgadbpjaaGreat.Rw
open Go.Proofs.YtanlnopgadbpjaaGreat.Rm
open Go.Sx
section
variable (n : Nat) (x : Nat → FsT) (q : Nat) (has : List Int → Bool) (val : List Int → Sx.DV) (m : Nat) (c : Nat → Nat → Sx.DV) (i : Int) (y : FsT) (r : Nat) (d : Nat → Nat → Sx.DV) (j : Int)
theorem hpreA:Sat Tryz.prog (tpA n x q has val m c i y r d j) (·=shA n x q has val m c i y r d j):=by rw[TPA_eq];exact sat_n0
theorem hsufA(h:(r+1)*24<=140737488355328)(ad:Option Addr)(cap:Nat):Sat Tryz.prog (tqA n x q has val m c i y r d j ad cap) (·=sjA n x q has val m c i y r d j ad cap):=by rw[TQA_eq];exact sat_n1 ⟨by omega,Nat.le_refl _,h⟩
theorem rgA_G(hr:(r+1)*24<=140737488355328)(hn:(y.f j.toNat).n*8<=140737488355328)(B:Gh):TripleG Tryz.prog rgA (sgA n x q has val m c i y r d j) B fun e s B'=>e=.normal/\∃ad cap,s=sjA n x q has val m c i y r d j ad cap /\
  (((y.f j.toNat).n=0/\B'=B)\/∃b z,B b=none/\B'=ghSet B b z/\∃o,ad=some ⟨b,o,none⟩)/\Lies B' ad (y.f j.toNat).n (fun k=>.int .u64 ((y.f j.toNat).w k))/\CapOK ad (y.f j.toNat).n cap:=by
 have hpre:=hpreA n x q has val m c i y r d j
 have hsuf:=hsufA n x q has val m c i y r d j hr
 have e1:=shA_len n x q has val m c i y r d j
 have e2:=shA_tag n x q has val m c i y r d j
 have e3:=shA_cnd n x q has val m c i y r d j
 have e4:=shA_cal n x q has val m c i y r d j
 have esi:∀ad cap,siA n x q has val m c i y r d j ad cap={ shA n x q has val m c i y r d j with tm:=(shA n x q has val m c i y r d j).tm.set 47 (.ok (.d (.x (.slice ad (y.f j.toNat).n cap)))) }:=fun _ _=>rfl
 unfold tpA at hpre
 unfold tqA at hsuf
 generalize shA n x q has val m c i y r d j=sh at hpre e1 e2 e3 e4 esi
 generalize sgA n x q has val m c i y r d j=sg at hpre ⊢
 generalize sjA n x q has val m c i y r d j=sj at hsuf ⊢
 generalize siA n x q has val m c i y r d j=si at hsuf esi
 generalize y.f j.toNat=f at *
 intro p μ0 a w hss
 rw[rgA_reg]
 intro r' _
 refine wpIn_region_list ?_
 rw[rgA_ops]
 refine runOps_listG CXf_ok (inlNo_ok _ _) hss hpre.ok fun st a w hq hss=>?_
 subst hq
 refine gcall_op2 hss opA_op opA_g opA_d (by rw[e1];omega) e2 (k:=60) (by kernel_rfl) (by rw[e3];intro q hq;cases hq) e4 rfl (cl60_ok f.n f.w hn) fun d B1 v w' hd hdis hss=>?_
 obtain⟨ad,cap,rfl,hB,hl,hc⟩:=hd
 rw[<- esi] at hss
 rw[<- List.append_nil sufA]
 refine runOps_listG CXf_ok (inlNo_ok _ _) hss (hsuf ad cap).ok fun st a w hq hss=>?_
 subst hq
 refine concG_normal ⟨rfl,ad,cap,rfl,?_,lies_un hdis hl,hc⟩ hss
 rcases hB with⟨h0,rfl⟩|⟨b,z,rfl,ho⟩
 ·exact .inl ⟨h0,ghUn_no B⟩
 ·have hb:B b=none:=hdis b (by simp[ghSet])
  exact .inr ⟨b,z,hb,ghUn_set hb,ho⟩
end
section
variable {n : Nat} {x : Nat → FsT} {q : Nat} {has : List Int → Bool} {val : List Int → Sx.DV}
theorem a3(hs:Sml 1000 n x){i:Nat}(hi:i<n){A:Nat->Nat->Option Addr}{C:Nat->Nat->Nat}{B:Gh}(hB:Nst B (nnF x) (wwF x) A C (Bef2 x i 0)):SatG Tryz.prog (atCode (sub [0,0] (b23b n x q has val i (exS (mmF x) (nnF x) A C) i))) B fun r B'=>r.1=.normal/\∃A' C',Nst B' (nnF x) (wwF x) A' C' (Bef2 x (i+1) 0)/\Gc 4 r.2 (st23b n x q has val (i+1) (exS (mmF x) (nnF x) A' C') (i+1:Nat)):=by
 have hn:=hs.le
 have hm:=hs.m i hi
 refine⟨for_satG CXf_ok dXf (stop:=stopA) (n:=200) (n0:=5) (nx:=6) (roots:=[(.slot 12,5)]) (keep:=[0,6,9,12,32,33,34,38,39,40]) (drop:=[2]) (h:=.nil) (body:=loopN (bodyOf Tryz.prog 23) 2) (by kernel_rfl) (by kernel_rfl) (x i).n
  (fun j s B=>∃A C,Nst B (nnF x) (wwF x) A C (Bef2 x i j)/\s=st23c n x q has val i (exS (mmF x) (nnF x) A C) i (x i) j (exF (nnF x i) (A i) (C i)) j)
  (fun e s B=>e=.exit 4/\∃A C,Nst B (nnF x) (wwF x) A C (Bef2 x i (x i).n)/\s=st23c n x q has val i (exS (mmF x) (nnF x) A C) i (x i) (x i).n (exF (nnF x i) (A i) (C i)) (x i).n)
  ⟨_,⟨A,C,hB,rfl⟩,?_⟩ ?_ ?_ ?_⟩
 ·have h1:=entA_sound (E23c_eq n x q has val i (exS (mmF x) (nnF x) A C) i)
  rw[Int.toNat_natCast] at h1
  refine h1.trans ?_
  refine gc_sound [] [5] rfl ?_ ?_
  ·simp[st23c,slN,leTm,leTV,leSV,leSVs,rn,iv,leD,List.range,List.range.loop,List.find?,ssS,nilS,fsC]
  ·simp[st23c,leHp,leBlk,leSVs,leSV,rn,iv,leD,srcOf,hget]
 ·rintro j s B hj ⟨A,C,hB,rfl⟩
  have hk:=hs.k i j hi hj
  refine SatG.of_eq (B23c_eq n x q has val i (exS (mmF x) (nnF x) A C) i (x i) j (exF (nnF x i) (A i) (C i)) j) ⟨fun _=>⟨by omega,?_⟩,fun h1=>by simp only[decide_eq_false_iff_not] at h1;omega⟩
  refine cut_satG _ (c:=codeC (sub [0,0] (b23c n x q has val i (exS (mmF x) (nnF x) A C) i (x i) j (exF (nnF x i) (A i) (C i)) j))) (by rw[rgA_eq];exact rgA_G n x q has val i (exS (mmF x) (nnF x) A C) i (x i) j (exF (nnF x i) (A i) (C i)) j (by omega) (by rw[Int.toNat_natCast];omega) B) ?_
  intro e s B' h
  obtain⟨he,ad,cap,hss,hb,hl,hcp⟩:=h
  subst he
  rw[hss]
  clear hss
  rw[Int.toNat_natCast] at hb hl hcp
  have hKA:=KA_eq n x q has val i (exS (mmF x) (nnF x) A C) i (x i) j (exF (nnF x i) (A i) (C i)) j ad cap
  rw[Int.toNat_natCast,w64_succ hj (by omega)] at hKA
  refine SatG.of_eq hKA (satG_ret (Or.inl ⟨rfl,st23c n x q has val i (exS (mmF x) (nnF x) (fun p k'=>if p=i/\k'=j then ad else A p k') fun p k'=>if p=i/\k'=j then cap else C p k') i (x i) (j+1) (exF (nnF x i) ((fun p k'=>if p=i/\k'=j then ad else A p k') i) ((fun p k'=>if p=i/\k'=j then cap else C p k') i)) (j+1:Nat),⟨_,_,hB.add hcp hb hl fun p k' h=>?_,rfl⟩,?_⟩))
  ·unfold Bef2 at h ⊢
   omega
  ·unfold st23c
   exact gc_hp rfl rfl ⟨.inr ⟨_,_,rfl,rfl,.refl _⟩,.inr ⟨_,_,rfl,rfl,.refl _⟩,.inl rfl,.inr ⟨_,_,rfl,rfl,.refl _⟩,.inr ⟨_,_,rfl,rfl,.row fun a b ha hb=>exS_upd _ _ _ _ _ _ _ _ _ _ ha⟩,.inr ⟨_,_,rfl,rfl,.row fun a b ha hb=>exF_sel (N:=nnF x i) (by simp) (by simp) (fun j' hj'=>by simp;omega) a b ha hb⟩,trivial⟩
 ·rintro s B ⟨A,C,hB,rfl⟩
  refine SatG.of_eq (B23c_eq n x q has val i (exS (mmF x) (nnF x) A C) i (x i) (x i).n (exF (nnF x i) (A i) (C i)) (x i).n) ⟨fun h1=>by simp only[decide_eq_true_eq] at h1;omega,fun _=>⟨nofun,rfl,A,C,hB,rfl⟩⟩
 ·rintro e s B' ⟨rfl,A1,C1,hB,rfl⟩
  refine SatG.of_eq (K23c_eq n x q has val i (exS (mmF x) (nnF x) A1 C1) i (x i) (x i).n (exF (nnF x i) (A1 i) (C1 i)) (x i).n i (exS (mmF x) (nnF x) A C)) ⟨?_⟩
  refine⟨by omega,⟨by omega,Nat.le_refl _,by omega⟩,rfl,A1,C1,hB.sub fun p k h=>?_,?_⟩
  ·unfold Bef2 at h ⊢
   rcases h with h|h
   ·by_cases e:p=i
    ·subst e;exact .inr ⟨rfl,h.2⟩
    ·exact .inl ⟨by omega,h.2⟩
   ·omega
  ·rw[w64_succ hi (by omega)]
   unfold st23b
   exact gc_hp rfl rfl ⟨.inr ⟨_,_,rfl,rfl,.refl _⟩,.inr ⟨_,_,rfl,rfl,.refl _⟩,.inl rfl,.inr ⟨_,_,rfl,rfl,.refl _⟩,.inr ⟨_,_,rfl,rfl,.row fun a b ha hb=>cN9_eq x i A1 C1 a b ha hb⟩,trivial⟩
end
section
variable {n : Nat} {x : Nat → FsT}
theorem a2(hs:Sml 1000 n x){k:Nat}{F:Nat->Pt}{q:Nat}{has:List Int->Bool}{val:List Int->Sx.DV}{i0:Int}{Q:SV->Gh->Prop}(hk:∀A C B,Nst B (nnF x) (wwF x) A C (Bef2 x n 0)->SatG Tryz.prog (k23b n x k F q has val n (exS (mmF x) (nnF x) A C) n i0) B Q):SatG Tryz.prog (k23a n x k F q has val i0) noGh Q:=by
 have hn:=hs.le
 refine SatG.of_eq (K23a_eq n x k F q has val i0) ⟨for_satG CXf_ok dXf (stop:=stopA) (n:=200) (n0:=4) (nx:=5) (roots:=[(.cell (.base 3) 0,4)]) (keep:=[0,6,9,32,33,34]) (drop:=[2]) (h:=.nil) (body:=loopN (bodyOf Tryz.prog 23) 1) (by kernel_rfl) (by kernel_rfl) n
  (fun i s B=>∃A C,Nst B (nnF x) (wwF x) A C (Bef2 x i 0)/\s=st23b n x q has val i (exS (mmF x) (nnF x) A C) i)
  (fun e s B=>e=.exit 2/\∃A C,Nst B (nnF x) (wwF x) A C (Bef2 x n 0)/\s=st23b n x q has val n (exS (mmF x) (nnF x) A C) n)
  ⟨_,⟨fun _ _=>none,fun _ _=>0,⟨fun p k h=>?_,fun p k p' k' h=>?_,fun p k h=>?_⟩,rfl⟩,?_⟩ ?_ ?_ ?_⟩
 ·unfold Bef2 at h;omega
 ·unfold Bef2 at h;omega
 ·unfold Bef2 at h;omega
 ·refine(entA_sound (E23b_eq n x k F q has val i0)).trans ?_
  refine gc_sound [] [4] rfl ?_ ?_
  ·simp[st23b,slN,leTm,leTV,leSV,leSVs,rn,iv,leD,List.range,List.range.loop,List.find?,ssS,nilS,fsC]
  ·simp[st23b,leHp,leBlk,leSVs,leSV,rn,iv,leD,srcOf,hget,nilS]
 ·rintro i s B hi ⟨A,C,hB,rfl⟩
  refine SatG.of_eq (B23b_eq n x q has val i (exS (mmF x) (nnF x) A C) i) ⟨fun _=>⟨by omega,?_⟩,fun h1=>by simp only[decide_eq_false_iff_not] at h1;omega⟩
  refine Tree.satG_mono (fun r B' hr=>?_) (a3 hs hi hB).ok
  obtain⟨h1,A',C',h2,h3⟩:=hr
  exact .inl ⟨h1,_,⟨A',C',h2,rfl⟩,h3⟩
 ·rintro s B ⟨A,C,hB,rfl⟩
  exact SatG.of_eq (B23b_eq n x q has val n (exS (mmF x) (nnF x) A C) n) ⟨fun h1=>by simp only[decide_eq_true_eq] at h1;omega,fun _=>⟨nofun,rfl,A,C,hB,rfl⟩⟩
 ·rintro e s B' ⟨rfl,A,C,hB,rfl⟩
  exact hk A C B' hB
end
section
variable {n : Nat} {L : List Pt} {mm : Nat → Nat} {nn : Nat → Nat → Nat} {A : Nat → Nat → Option Addr} {C : Nat → Nat → Nat} {x : Nat → FsT} {v : Int}
theorem hpreB{B:Gh}{i k w:Int}(h1:0<=i/\i<(n:Int))(h2:0<=k/\k<(mm (0+i.toNat):Int))(h3:∃b o,A (0+i.toNat) k.toNat=some ⟨b,o,none⟩)(h4:0<=w/\w<(nn (0+i.toNat) k.toNat:Int))(h5:Proofs.GhN B (adB A i k w))(h6:KeyOK 3 [i,k,w]):Sat Tryz.prog (tpB n L mm nn A C x i k w v B) (·=shM n L mm nn A C x i k w v B):=by
 rw[TPB_eq]
 exact⟨h1,by omega,h2,h3,h4,h5,mt143,h6,h3,h4,rfl⟩
theorem rgB_G{S:Nat->Nat->Prop}{W:Nat->Nat->Nat->Int}(B:Gh)(hB:Nst B nn W A C S){i k w:Nat}(h1:i<n)(h2:k<mm i)(h3:w<nn i k)(hS:S i k)(hK:KeyOK 3 [(i:Int),(k:Int),(w:Int)]):TripleG Tryz.prog rgB (sgB n L mm nn A C x i k w v) B fun e s B'=>e=.normal/\s=shM n L mm nn A C x i k w v B /\
  Nst B' nn (fun p' k' j'=>if p'=i/\k'=k/\j'=w then xorV (W i k w) (valL L [(i:Int),(k:Int),(w:Int)]) else W p' k' j') A C S:=by
 obtain⟨b,o,cs,e,g1,g2,g3,g4⟩:=hB.store hS h3 (v:=xorV (W i k w) (valL L [(i:Int),(k:Int),(w:Int)]))
 have had:adB A i k w=some ⟨b,o+w,none⟩:=by
  unfold adB
  rw[Int.toNat_natCast,Int.toNat_natCast,Int.toNat_natCast,Nat.zero_add,g1,Nat.mul_one];rfl
 have hat:ghAt B ⟨b,o+w,none⟩=.int .u64 (W i k w):=by
  rcases hB.1 i k hS with h0|⟨b',o',cs',e',h4,h5,h6,h7⟩
  ·omega
  ·rw[g1] at h4
   injection h4 with h4
   injection h4 with h8 h9
   subst h8;subst h9
   rw[g2] at h5
   injection h5 with h5
   injection h5 with h5
   injection h5 with h5 _
   subst h5
   unfold ghAt
   simp only[g2]
   exact h7 w h3
 have hnum:ghNum B (adB A i k w)=W i k w:=by rw[had];unfold ghNum;simp only[hat]
 have hval:(bif hasL L [(i:Int),(k:Int),(w:Int)] then valL L [(i:Int),(k:Int),(w:Int)] else 0)=valL L [(i:Int),(k:Int),(w:Int)]:=by
  cases h:hasL L [(i:Int),(k:Int),(w:Int)] with
  |true=>rfl
  |false=>exact(valL_none h).symm
 have hpre:=hpreB (n:=n) (L:=L) (mm:=mm) (nn:=nn) (A:=A) (C:=C) (x:=x) (v:=v) (B:=B) (i:=i) (k:=k) (w:=w) (by omega) (by rw[Int.toNat_natCast,Nat.zero_add];omega) ⟨b,o,by rw[Int.toNat_natCast,Int.toNat_natCast,Nat.zero_add];exact g1⟩ (by rw[Int.toNat_natCast,Int.toNat_natCast,Nat.zero_add];omega)
  ⟨_,had,⟨rfl,cs,e,g2,g3⟩,by rw[hnum];exact hat⟩ hK
 have e79:=shM_79 n L mm nn A C x i k w v B
 have e78:=shM_78 n L mm nn A C x i k w v B
 rw[had] at e79
 rw[hnum,hval] at e78
 unfold tpB at hpre
 generalize shM n L mm nn A C x i k w v B=sh at hpre e79 e78 ⊢
 generalize sgB n L mm nn A C x i k w v=sg at hpre ⊢
 intro q μ0 a' w' hss
 obtain⟨q',k1,k2,k3⟩:=simG_open2 hss
 rw[rgB_reg]
 refine drawn_lastS CXf_ok mixed rgB_split (spB_map B) rgB_last rgB_edge k1 (fun x hx g hg=>?_) hpre.ok fun r s a2 w2 hs2 k4=>?_
 ·unfold spB at hx
  rw[List.mem_append,List.mem_cons] at hx
  rcases hx with hx|rfl|hx
  ·obtain⟨o',_,rfl⟩:=List.mem_map.1 hx
   cases hg
  ·injection hg with hg
   subst hg
   exact toldLd_ok opL_op opL_g shape31 k3
  ·obtain⟨o',_,rfl⟩:=List.mem_map.1 hx
   cases hg
 subst hs2
 have hss:=k2 _ _ _ k4
 have hss0:=hss
 obtain⟨μ,F,_,_,_,ht,_⟩:=hss0
 have v79:=ht 79
 have v78:=ht 78
 rw[e79] at v79
 rw[e78] at v78
 refine store_opG hss opB_op opB_g opB_d (b:=b) (off:=o+w) (v:=.int .u64 (xorV (W i k w) (valL L [(i:Int),(k:Int),(w:Int)]))) (rep_x v79) (rep_x v78) rfl rfl (by kernel_rfl) g2 g3 fun w3 hs3=>concG_normal ⟨rfl,rfl,g4⟩ hs3
end
end Go.Proofs.YtanlnopgadbpjaaGreat.Rw
namespace Go.Sx
theorem melts_tup2{B:Gh}{d r:DV}{s:SV}(h:Melts B d r):MeltsS B (.tup [.d d,s]) (.tup [.d r,s]):=by
 intro w F v hr hB
 generalize hs:SV.tup [.d d,s]=ss at hr
 cases hr with
 |tup cs ss hl hi =>
  injection hs with hs
  subst hs
  refine .tup cs _ hl fun i hlt=>?_
  have h1:=hi i hlt
  match i,hlt,h1 with
  |0,_,h1=>exact .d (h w F _ (rep_d h1) hB)
  |1,_,h1=>exact h1
 |_=>cases hs
end Go.Sx
namespace Go.Proofs.YtanlnopgadbpjaaGreat.Rw
open Go.Proofs.YtanlnopgadbpjaaGreat.Rm
open Go.Sx
def apF(x:Nat->FsT)(L:List Pt)(p:Nat):FsT:=⟨(x p).n,fun k=>⟨((x p).f k).n,apW x L p k⟩⟩
theorem small_key{n:Nat}{x:Nat->FsT}(hs:Sml 4 n x){i k w:Nat}(hw:InW n x i k w):KeyOK 3 [(i:Int),(k:Int),(w:Int)]:=by
 have h1:=hs.le
 have h2:=hs.m i hw.hi
 have h3:=hs.k i k hw.hi hw.hk
 have h4:=hw.hi
 have h5:=hw.hk
 have h6:=hw.hw
 exact keyOK3 (by omega) (by omega) (by omega)
theorem pt_key{n:Nat}{x:Nat->FsT}(hs:Sml 4 n x){p:Pt}(hp:PtIn n x p):KeyOK 3 (ptK p):=by
 have:=small_key hs hp.w
 rw[Int.toNat_of_nonneg hp.p0,Int.toNat_of_nonneg hp.f0,Int.toNat_of_nonneg hp.w0] at this
 exact this
theorem dst_take{L:List Pt}(hd:Dst L){i:Nat}(hi:i<L.length):hasL (L.take i) (ptK (L.getD i default))=false:=by
 have e:L.getD i default=L[i]:=by simp[hi]
 rw[hasL_false,e]
 intro p hp
 obtain⟨j,hj,rfl⟩:=List.mem_iff_getElem.1 hp
 rw[List.getElem_take]
 rw[List.length_take] at hj
 exact List.pairwise_iff_getElem.1 hd j i (by omega) hi (by omega)
theorem take_get{L:List Pt}{i:Nat}(hi:i<L.length):L.take (i+1)=L.take i++[L.getD i default]:=by
 have e:L.getD i default=L[i]:=by simp[hi]
 rw[e,List.take_succ_eq_append_getElem hi]
section
variable {n : Nat} {x : Nat → FsT} {L : List Pt}
def ptF(L:List Pt)(i:Nat):Pt:=L.getD i default
theorem a1(hs:Sml 4 n x)(hL:∀p∈L,PtIn n x p)(hd:Dst L)(hl:L.length<=1000000000)(hN:NrmD L.length fun i j=>ptE (ptF L i) j){Q:SV->Gh->Prop}(hk:SatG Tryz.prog (k23a n x L.length (ptF L) L.length (hasL L) (valE L) L.length) noGh Q):SatG Tryz.prog (t23 n x L.length (ptF L)) noGh Q:=by
 refine SatG.of_eq (L23_eq n x L.length (ptF L)) ⟨hN,(fun h=>by cases h),fun _=>?_⟩
 refine for_satG CXf_ok dXf (stop:=stopA) (n:=200) (n0:=3) (nx:=3) (roots:=[]) (keep:=[0,6,20,21,22]) (drop:=[2]) (h:=.nil) (body:=loopN (bodyOf Tryz.prog 23) 0) (by kernel_rfl) (by kernel_rfl) L.length
  (fun i s B=>B=noGh/\s=st23a n x L.length (ptF L) i (hasL (L.take i)) (valE (L.take i)) i)
  (fun e s B=>e=.exit 0/\B=noGh/\s=st23a n x L.length (ptF L) L.length (hasL L) (valE L) L.length)
  ⟨_,⟨rfl,rfl⟩,?_⟩ ?_ ?_ ?_
 ·refine(entA_sound (E23a_eq n x L.length (ptF L))).trans ?_
  unfold st23a
  exact gc_hp rfl rfl ⟨.inr ⟨_,_,rfl,rfl,.map (fun _=>rfl) (fun _ h=>by cases h)⟩,.inr ⟨_,_,rfl,rfl,.refl _⟩,.inl rfl,trivial⟩
 ·rintro i s B hi ⟨rfl,rfl⟩
  have hmem:ptF L i∈L:=by unfold ptF;rw[show L.getD i default=L[i] by simp[hi]];exact List.getElem_mem hi
  refine SatG.of_eq (B23a_eq n x L.length (ptF L) i (hasL (L.take i)) (valE (L.take i)) i) ⟨fun _=>⟨by omega,mt143,by rw[Int.toNat_natCast];exact pt_key hs (hL _ hmem),.inl ⟨rfl,_,⟨rfl,rfl⟩,?_⟩⟩,fun h1=>by simp only[decide_eq_false_iff_not] at h1;omega⟩
  have h0:hasL (L.take i) (ptK (ptF L i))=false:=dst_take hd hi
  have e1:L.take (i+1)=L.take i++[ptF L i]:=take_get hi
  rw[Int.toNat_natCast,w64_succ hi (by omega),h0]
  unfold st23a
  refine gc_hp rfl rfl ⟨.inr ⟨_,_,rfl,rfl,.map (fun ks=>?_) (fun ks _=>?_)⟩,.inr ⟨_,_,rfl,rfl,.refl _⟩,.inl rfl,trivial⟩
  ·rw[e1,hasL_app]
  ·rw[e1];exact valL_app h0 ks
 ·rintro s B ⟨rfl,rfl⟩
  rw[List.take_length]
  exact SatG.of_eq (B23a_eq n x L.length (ptF L) L.length (hasL L) (valE L) L.length) ⟨fun h1=>by simp only[decide_eq_true_eq] at h1;omega,fun _=>⟨nofun,rfl,rfl,rfl⟩⟩
 ·rintro e s B' ⟨rfl,rfl,rfl⟩
  exact hk
theorem a4(hs:Sml 4 n x)(hx:∀i,i<n->FsOK (x i))(hL:∀p∈L,PtIn n x p)(hd:Dst L){A:Nat->Nat->Option Addr}{C:Nat->Nat->Nat}{B:Gh}(hB:Nst B (nnF x) (wwF x) A C (Bef2 x n 0)){k:Nat}{F:Nat->Pt}{i0:Int}:SatG Tryz.prog (k23b n x k F L.length (hasL L) (valE L) n (exS (mmF x) (nnF x) A C) n i0) B fun a B'=>noId a=true/\a=.tup [.d (.ro n 1 (exS (mmF x) (nnF x) A C)),iv 0]/\Nst B' (nnF x) (apW x L) A C (AllF n x):=by
 have hn4:=hs.le
 refine SatG.of_eq (K23b_eq n x k F L.length (hasL L) (valE L) n (exS (mmF x) (nnF x) A C) n i0) ⟨ssD_of hx,?_⟩
 refine range_satG CXf_ok dXf (stop:=stopA) (n:=200) (n0:=5) (nx:=5) (roots:=[]) (drop:=[]) (h:=.nil) (h':=.nil) (keep:=[6,9,58]) (C23_eq n x k F L.length (hasL L) (valE L) n (exS (mmF x) (nnF x) A C) n i0) (by kernel_rfl) (V23_eq n x k F L.length (hasL L) (valE L) n (exS (mmF x) (nnF x) A C) n i0) («as»:=[.rop 1 (fr1 n x)]) (ls:=[]) (by rfl) (it75 hs) ?_ (enters_fn (by kernel_rfl) (by kernel_rfl) (by kernel_rfl)) na23 nb23
  (fun q s B=>s.hp=hp23 n (remL x L q) (mmF x) (nnF x) A C/\s.next=5/\s.hint=.nil/\Nst B (nnF x) (apQ x L q) A C (AllF n x)) ⟨_,⟨?_,rfl,rfl,?_⟩,entRG_sound (N23_eq n x k F L.length (hasL L) (valE L) n (exS (mmF x) (nnF x) A C) n i0)⟩ ?_ ?_
 ·rintro k el k' ⟨i,k,w,_,_,rfl,_⟩;rfl
 ·rw[remL_0];rfl
 ·refine(hB.sub fun p k h=>?_).words fun p k j hp hj=>?_
  ·unfold AllF at h;unfold Bef2;exact .inl h
  ·unfold apQ wwF
   rw[show Nat.blt (posW (mmF x) (nnF x) p k j) 0=false from rfl];rfl
 ·rintro q el q' s B ⟨i,k',w,hw,rfl,rfl,rfl⟩ ⟨h1,h2,h3,h4⟩
  rw[h1,h2,h3]
  change SatG Tryz.prog (roundG Tryz.prog CXf stopA 200 5 [] [] 5 .nil asg23 bod23 ⟨parTm [59,60] (elW x i k' w) (keepTm [6,9,58] 0 (st23d n x k F L.length (hasL L) (valE L) n (exS (mmF x) (nnF x) A C) n i0).tm),hp23 n (remL x L (posW (mmF x) (nnF x) i k' w)) (mmF x) (nnF x) A C,5,.nil⟩) B _
  rw[T23k_eq]
  have hrem:=remL_succ hL hw
  have hval:=remL_val hL hw
  have hdr:Dst (remL x L (posW (mmF x) (nnF x) i k' w)):=hd.fil _
  refine SatG.of_eq (R23_eq n (remL x L (posW (mmF x) (nnF x) i k' w)) (mmF x) (nnF x) A C x i k' w (((x i).f k').w w)) ⟨?_⟩
  refine cut_satG _ (c:=codeC (sub [] (rd23 n (remL x L (posW (mmF x) (nnF x) i k' w)) (mmF x) (nnF x) A C x i k' w (((x i).f k').w w)))) (by rw[rgB_eq];exact rgB_G B h4 hw.hi hw.hk hw.hw ⟨hw.hi,hw.hk⟩ (small_key hs hw)) ?_
  intro e s B' h
  obtain⟨he,hss,hN⟩:=h
  subst he
  rw[hss]
  clear hss
  refine SatG.of_eq (KB_eq n (remL x L (posW (mmF x) (nnF x) i k' w)) (mmF x) (nnF x) A C x i k' w (((x i).f k').w w) B) ⟨mt143,small_key hs hw,rfl,⟨List.replicate 86 .unk,hp23 n (remL x L (posW (mmF x) (nnF x) i k' w+1)) (mmF x) (nnF x) A C,5,.nil⟩,⟨rfl,rfl,rfl,hN.words fun p f j hp hj=>?_⟩,?_⟩
  ·by_cases hc:p=i/\f=k'/\j=w
   ·obtain⟨rfl,rfl,rfl⟩:=hc
    rw[if_pos ⟨rfl,rfl,rfl⟩,hval]
    unfold apQ
    rw[show Nat.blt (posW (mmF x) (nnF x) p f j) (posW (mmF x) (nnF x) p f j)=false from Bool.eq_false_iff.2 (by simp only[Nat.blt,Ne,Nat.ble_eq];omega),show Nat.blt (posW (mmF x) (nnF x) p f j) (posW (mmF x) (nnF x) p f j+1)=true by simp[Nat.blt,Nat.ble_eq]]
    rfl
   ·rw[if_neg hc]
    have hne:posW (mmF x) (nnF x) p f j≠posW (mmF x) (nnF x) i k' w:=fun h=>hc (posW_inj2 hp.1 hp.2 hj hw.hi hw.hk hw.hw h)
    unfold apQ
    rw[show Nat.blt (posW (mmF x) (nnF x) p f j) (posW (mmF x) (nnF x) i k' w+1)=Nat.blt (posW (mmF x) (nnF x) p f j) (posW (mmF x) (nnF x) i k' w) from Bool.eq_iff_iff.2 (by simp only[Nat.blt,Nat.ble_eq];omega)]
  ·unfold hp23
   rw[hrem,len_fil hdr]
   exact gc_hp rfl rfl ⟨.inr ⟨_,_,rfl,rfl,.map (fun ks=>hasL_fil _ _ _) (fun ks hks=>by
    unfold valE
    rw[valL_fil]
    intro p hp hpk
    rw[Bool.and_eq_true,Bool.not_eq_true'] at hks
    rw[hpk,hks.1];rfl)⟩,.inr ⟨_,_,rfl,rfl,.refl _⟩,.inl rfl,.inr ⟨_,_,rfl,rfl,.refl _⟩,.inr ⟨_,_,rfl,rfl,.refl _⟩,trivial⟩
 ·rintro q s B' rfl ⟨h1,h2,h3,h4⟩
  rw[remL_end hL] at h1
  rw[h1,h2]
  change SatG Tryz.prog (codeK (sub [0] (k23b n x k F L.length (hasL L) (valE L) n (exS (mmF x) (nnF x) A C) n i0)) .normal ⟨keepTm [6,9,58] 0 (st23d n x k F L.length (hasL L) (valE L) n (exS (mmF x) (nnF x) A C) n i0).tm,hp23 n [] (mmF x) (nnF x) A C,5,.nil⟩) B' _
  rw[T23k_eq]
  refine SatG.of_eq (KD_eq n x k F L.length (hasL L) (valE L) n (exS (mmF x) (nnF x) A C) n i0 0 (hasL []) (valE []) n (exS (mmF x) (nnF x) A C)) ⟨(fun h=>by simp at h),fun _=>⟨by omega,rfl,?_,h4.words fun p f j hp hj=>?_⟩⟩
  ·congr 1
   congr 1
   congr 1
   congr 1
   funext i j
   rw[Nat.zero_add]
  ·unfold apQ
   rw[show Nat.blt (posW (mmF x) (nnF x) p f j) (posW (mmF x) (nnF x) n 0 0)=true by
    have:=posW_lt2 (m:=mmF x) (nn:=nnF x) hp.1 hp.2 hj
    simp only[Nat.blt,Nat.ble_eq];omega]
   rfl
end
def ptL(k:Nat)(G:Nat->Nat->Sx.DV):List Pt:=(List.range k).map fun i=>ptR (G i)
def _root_.Go.Proofs.ApD(n:Nat)(F:Nat->Nat->Sx.DV)(k:Nat)(G:Nat->Nat->Sx.DV):Prop:=SsD n F/\Sml 4 n (fun i=>fsOf (F i))/\NrmD k G/\(∀p∈ptL k G,PtIn n (fun i=>fsOf (F i)) p)/\Dst (ptL k G)
noncomputable def c23:Ctr:=fun ss=>match ss with
 |[.d (.ro n 1 F),.d (.ro k 4 G)]=>.need (ApD n F k G) (.ret (.tup [ssS n (apF (fun i=>fsOf (F i)) (ptL k G)),iv 0]))
 |_=>.fail
theorem ptL_len(k:Nat)(G:Nat->Nat->Sx.DV):(ptL k G).length=k:=by unfold ptL;simp
theorem ptL_get{k:Nat}{G:Nat->Nat->Sx.DV}{i:Nat}(hi:i<k):ptF (ptL k G) i=ptR (G i):=by unfold ptF ptL;simp[List.getD_eq_getElem?_getD,hi]
theorem c23_ok:CtrOK Tryz.prog 23 c23:=ctrOK_ofGS fun ss r h=>by
 unfold c23 at h
 split at h
 ·rename_i n F k G
  obtain⟨⟨hF,hs,⟨hk,hG,hN⟩,hL,hd⟩,rfl⟩:=h
  have hs3:Sml 1000 n fun i=>fsOf (F i):=⟨by have:=hs.le;omega,fun p hp=>by have:=hs.m p hp;omega,fun p f hp hf=>by have:=hs.k p f hp hf;omega⟩
  have hlen:=ptL_len k G
  have hsat:SatG Tryz.prog (t23 n (fun i=>fsOf (F i)) k (ptF (ptL k G))) noGh fun a B=>noId a=true/\∃A C,a=.tup [.d (.ro n 1 (exS (mmF fun i=>fsOf (F i)) (nnF fun i=>fsOf (F i)) A C)),iv 0]/\Nst B (nnF fun i=>fsOf (F i)) (apW (fun i=>fsOf (F i)) (ptL k G)) A C (AllF n fun i=>fsOf (F i)):=by
   have hN':NrmD (ptL k G).length fun i j=>ptE (ptF (ptL k G) i) j:=by
    rw[hlen]
    refine⟨hk,fun i j hi hj=>rfl,fun i hi=>?_⟩
    show(ptF (ptL k G) i).x≠0/\(0<i->cmpP (ptF (ptL k G) (i-1)) (ptF (ptL k G) i)<0)
    rw[ptL_get hi]
    refine⟨(hN i hi).1,fun h0=>?_⟩
    rw[ptL_get (by omega)]
    exact(hN i hi).2 h0
   have:=a1 (n:=n) (x:=fun i=>fsOf (F i)) (L:=ptL k G) hs hL hd (by omega) hN' (Q:=fun a B=>noId a=true/\∃A C,a=.tup [.d (.ro n 1 (exS (mmF fun i=>fsOf (F i)) (nnF fun i=>fsOf (F i)) A C)),iv 0]/\Nst B (nnF fun i=>fsOf (F i)) (apW (fun i=>fsOf (F i)) (ptL k G)) A C (AllF n fun i=>fsOf (F i))) (a2 hs3 fun A C B hB=>(a4 hs (fun i hi=>(hF i hi).1) hL hd hB).mono fun a B' hr=>⟨hr.1,A,C,hr.2.1,hr.2.2⟩)
   rw[hlen] at this
   exact this
  refine⟨[ssS n fun i=>fsOf (F i),ptS k (ptF (ptL k G))],_,?_,gctrS_of CXf_ok dXf (by kernel_rfl) (by kernel_rfl) hsat,?_⟩
  ·simp only[leSVs,and_true]
   refine⟨ssD_le hF,rfl,rfl,fun i j hi hj=>?_⟩
   show G i j=ptE (ptF (ptL k G) i) j
   rw[ptL_get hi]
   exact hG i j hi hj
  ·rintro d B ⟨A,C,rfl,hN⟩
   exact melts_tup2 (nst_melts (x:=apF (fun i=>fsOf (F i)) (ptL k G)) hN)
 ·exact h.elim
end Go.Proofs.YtanlnopgadbpjaaGreat.Rw
namespace Go.Sx
noncomputable def ptV(p:Pt):SV:=.agg [iv p.p,iv p.f,iv p.w,.d (.x (.int .u64 p.x))]
def sh8(i:Int):Nat:=min (IntKind.wrap .u64 (w64 (8*i))).toNat 64
def pkB(p:Pt):Nat->Int
 |0=>IntKind.wrap .u8 p.p
 |1=>IntKind.wrap .u8 p.f
 |2=>IntKind.wrap .u8 p.w
 |j+3=>IntKind.wrap .u8 (Int.fdiv p.x (2^sh8 (j:Int)))
noncomputable def pkC(p:Pt)(i j:Nat):DV:=.x (.int .u8 (pkB p i))
theorem sh8_eq{j:Nat}(h:j<8):sh8 (j:Int)=8*j/\0<=IntKind.wrap .u64 (w64 (8*(j:Int))):=by
 have:j=0\/j=1\/j=2\/j=3\/j=4\/j=5\/j=6\/j=7:=by omega
 rcases this with rfl|rfl|rfl|rfl|rfl|rfl|rfl|rfl<;>decide
end Go.Sx
namespace Go.Proofs.YtanlnopgadbpjaaGreat.Rw
open Go.Proofs.YtanlnopgadbpjaaGreat.Rm
open Go.Sx
noncomputable def t20(p:Pt):Tree SV:=fnT Tryz.prog C00 D00 200 (fnOf Tryz.prog 20) (bodyOf Tryz.prog 20) [ptV p] .nil
noncomputable def st20(p:Pt)(m:Nat)(c:Nat->Nat->Sx.DV)(i:Int):AS:=⟨slN 30 [(1,.ptr 0 0),(3,.row 2 0 0 m 1),(4,iv i)],[some (.cells [iv p.p,iv p.f,iv p.w,.d (.x (.int .u64 p.x))]),none,some (.row m 1 c)],3,.nil⟩
noncomputable def b20(p:Pt)(m:Nat)(c:Nat->Nat->Sx.DV)(i:Int):Tree (Ex×AS):=cutT 2 [(.slot 3,2)] [1,3,4] [1] 3 .nil (exec Tryz.prog C00 D00 200 (loopN (bodyOf Tryz.prog 20) 0) (st20 p m c i))
section
variable (p : Pt) (m : Nat) (c : Nat → Nat → Sx.DV) (i : Int)
theorem L20_eq:t20 p=atCode (sub [] (t20 p)):=by kernel_rfl
theorem E20_eq:entA 2 [(.slot 3,2)] [1,3,4] [1] 3 .nil (sub [] (t20 p))=some ⟨slN 30 [(1,.ptr 0 0),(3,.row 2 0 0 3 1),(4,iv 0)],[some (.cells [iv p.p,iv p.f,iv p.w,.d (.x (.int .u64 p.x))]),none,some (.cells [.d (.x (.int .u8 (IntKind.wrap .u8 p.p))),.d (.x (.int .u8 (IntKind.wrap .u8 p.f))),.d (.x (.int .u8 (IntKind.wrap .u8 p.w)))])],3,.nil⟩:=by kernel_rfl
theorem B20_eq:b20 p m c i=.ite (decide (i<(8:Int))) (.need (0<=IntKind.wrap .u64 (w64 (8*i))) (.need (0+m<=m/\1<=1/\(m+1)*1<=140737488355328) (.ret (.normal,st20 p (m+1) (selA 1 m c [.x (.int .u8 (IntKind.wrap .u8 (Int.fdiv p.x (2^sh8 i))))]) (w64 (i+1)))))) (.ret (.exit 0,st20 p m c i)):=by kernel_rfl
theorem K20_eq:codeK (sub [] (t20 p)) (.exit 0) (st20 p m c i)=.need (0+m<=m) (.ret (.d (.ro m 1 fun i j=>c (0+i) j))):=by kernel_rfl
end
theorem s20(p:Pt):Sat Tryz.prog (t20 p) (·=nmS .u8 11 (pkB p)):=by
 refine Sat.of_eq (L20_eq p) ⟨?_⟩
 refine for_satS C00_ok D00_ok (n:=200) (n0:=2) (nx:=3) (roots:=[(.slot 3,2)]) (keep:=[1,3,4]) (drop:=[1]) (h:=.nil) (body:=loopN (bodyOf Tryz.prog 20) 0) (by kernel_rfl) (by kernel_rfl) 8 (fun i=>st20 p (3+i) (pkC p) i) (fun i=>True)
  (fun e t=>e=.exit 0/\t=st20 p 11 (pkC p) (8:Nat)) trivial ?_ ?_ ?_ ?_
 ·refine(entA_sound (E20_eq p)).trans ?_
  exact gc_hp rfl rfl ⟨.inr ⟨_,_,rfl,rfl,.refl _⟩,.inl rfl,.inr ⟨_,_,rfl,rfl,.cells rfl fun i j hi hj=>(by
   obtain rfl:j=0:=by omega
   have:i=0\/i=1\/i=2:=by omega
   rcases this with rfl|rfl|rfl<;>rfl)⟩,trivial⟩
 ·intro i hi _
  have h8:=sh8_eq hi
  refine Sat.of_eq (B20_eq p (3+i) (pkC p) i) ⟨fun _=>⟨h8.2,by omega,.inl ⟨rfl,trivial,?_⟩⟩,fun h1=>by simp only[decide_eq_false_iff_not] at h1;omega⟩
  rw[w64_succ hi (by omega)]
  exact gc_hp rfl rfl ⟨.inr ⟨_,_,rfl,rfl,.refl _⟩,.inl rfl,.inr ⟨_,_,rfl,rfl,.row fun a b ha hb=>app_fun (c:=pkC p) (m:=3+i) (fun b hb=>by
   obtain rfl:b=0:=by omega
   show Sx.DV.x _=Sx.DV.x (.int .u8 (pkB p (3+i)))
   rw[Nat.add_comm 3 i];rfl) ha hb⟩,trivial⟩
 ·intro _
  exact Sat.of_eq (B20_eq p 11 (pkC p) (8:Nat)) ⟨fun h1=>by simp only[decide_eq_true_eq] at h1;omega,fun _=>⟨nofun,rfl,rfl⟩⟩
 ·rintro e t ⟨rfl,rfl⟩
  refine Sat.of_eq (K20_eq p 11 (pkC p) (8:Nat)) ⟨by omega,?_⟩
  show SV.d (.ro 11 1 fun i j=>pkC p (0+i) j)=_
  simp only[Nat.zero_add]
  rfl
noncomputable def c20:Ctr:=fun ss=>match ss with
 |[.agg [.d (.x (.int .i64 a)),.d (.x (.int .i64 b)),.d (.x (.int .i64 c)),.d (.x (.int .u64 x))]]=>.ret (nmS .u8 11 (pkB ⟨a,b,c,x⟩))
 |_=>.fail
theorem c20_ok:CtrOK Tryz.prog 20 c20:=ctrOK_leS C00_ok D00_ok (by kernel_rfl) (by kernel_rfl) fun ss r h=>by
 unfold c20 at h
 split at h
 ·rename_i a b c x
  cases h
  exact⟨[ptV ⟨a,b,c,x⟩],200,.nil,by simp[leSVs,leSV,leD,iv,ptV],s20 ⟨a,b,c,x⟩⟩
 ·exact h.elim
end Go.Proofs.YtanlnopgadbpjaaGreat.Rw
namespace Go.Sx
def orV(a b:Int):Int:=IntKind.wrap .u64 ((BitVec.toNat (BitVec.ofInt 64 a ||| BitVec.ofInt 64 b):Nat):Int)
def accF(f:Nat->Int):Nat->Int
 |0=>0
 |k+1=>orV (accF f k) (IntKind.wrap .u64 (IntKind.wrap .u64 (f (3+k))*2^sh8 (k:Int)))
def unP(f:Nat->Int):Pt:=⟨w64 (f 0),w64 (f 1),w64 (f 2),accF f 8⟩
structure PkOK(q:Pt):Prop where
 p:0<=q.p/\q.p<256
 f:0<=q.f/\q.f<256
 w:0<=q.w/\q.w<256
 x:0<=q.x/\q.x<18446744073709551616
theorem ofNat64{a:Nat}(ha:a<18446744073709551616):(BitVec.ofInt 64 (a:Int)).toNat=a:=by
 rw[BitVec.toNat_ofInt]
 omega
theorem orV_nat{a b:Nat}(ha:a<18446744073709551616)(hb:b<18446744073709551616):orV a b=((a ||| b:Nat):Int):=by
 unfold orV
 rw[BitVec.toNat_or,ofNat64 ha,ofNat64 hb]
 have:a ||| b<2^64:=Nat.or_lt_two_pow (by omega) (by omega)
 exact Go.Proofs.YtanlnopgadbpjaaGreat.wu_of (by omega) (by omega)
theorem or_byte(x k:Nat):(x%2^(8*k)) |||(x / 2^(8*k)%256)*2^(8*k)=x%2^(8*(k+1)):=by
 apply Nat.eq_of_testBit_eq
 intro j
 rw[Nat.testBit_or,Nat.testBit_mod_two_pow,Nat.testBit_mul_two_pow,show(256:Nat)=2^8 from rfl,Nat.testBit_mod_two_pow,Nat.testBit_div_two_pow,Nat.testBit_mod_two_pow]
 by_cases h1:j<8*k
 ·simp[h1,show j<8*(k+1) by omega,show ¬8*k<=j by omega]
 ·by_cases h2:j<8*(k+1)
  ·simp[h1,h2,show 8*k<=j by omega,show j-8*k<8 by omega,show j-8*k+8*k=j by omega,show 8*k+(j-8*k)=j by omega]
  ·simp[h1,h2,show ¬j-8*k<8 by omega]
theorem acc_pk{p:Pt}(h:PkOK p):∀k,k<=8->accF (pkB p) k=((p.x.toNat%2^(8*k):Nat):Int)
 |0,_=>by simp[accF,Nat.mod_one]
 |k+1,hk=>by
  have hx:=h.x
  obtain⟨x,hx'⟩:∃x:Nat,p.x=x:=⟨p.x.toNat,by omega⟩
  have ih:=acc_pk h k (by omega)
  have e8:=(sh8_eq (j:=k) (by omega)).1
  have e1:pkB p (3+k)=((x / 2^(8*k)%256:Nat):Int):=by
   rw[Nat.add_comm]
   show IntKind.wrap .u8 (Int.fdiv p.x (2^sh8 (k:Int)))=_
   rw[Go.Proofs.YtanlnopgadbpjaaGreat.wb8,e8,hx',Int.fdiv_eq_ediv_of_nonneg _ (by exact Int.le_of_lt (Int.pow_pos (by omega)))]
   rw[Int.natCast_emod,Int.natCast_ediv,Int.natCast_pow]
   rfl
  unfold accF
  rw[ih,e1,e8,hx',Int.toNat_natCast]
  have hb:x / 2^(8*k)%256<256:=Nat.mod_lt _ (by omega)
  have hp:(2:Nat)^(8*k)<=2^56:=Nat.pow_le_pow_right (by omega) (by omega)
  have h1:x / 2^(8*k)%256*2^(8*k)<18446744073709551616:=by
   have h2:x / 2^(8*k)%256*2^(8*k)<=255*2^(8*k):=Nat.mul_le_mul_right _ (by omega)
   omega
  have e2:IntKind.wrap .u64 (IntKind.wrap .u64 ((x / 2^(8*k)%256:Nat):Int)*2^(8*k))=((x / 2^(8*k)%256*2^(8*k):Nat):Int):=by
   rw[Go.Proofs.YtanlnopgadbpjaaGreat.wu_of (n:=((x / 2^(8*k)%256:Nat):Int)) (by omega) (by omega)]
   have e3:(((x / 2^(8*k)%256:Nat):Int))*2^(8*k)=((x / 2^(8*k)%256*2^(8*k):Nat):Int):=by norm_cast
   rw[e3]
   exact Go.Proofs.YtanlnopgadbpjaaGreat.wu_of (by omega) (by omega)
  rw[e2,orV_nat (Nat.lt_of_le_of_lt (Nat.mod_le _ _) (by omega)) h1,or_byte]
theorem unP_pk{p:Pt}(h:PkOK p):unP (pkB p)=p:=by
 obtain⟨a,b,c,x⟩:=p
 have h1:=h.p
 have h2:=h.f
 have h3:=h.w
 have h4:=h.x
 simp only at h1 h2 h3 h4
 have hb:∀v:Int,0<=v/\v<256->w64 (IntKind.wrap .u8 v)=v:=fun v hv=>by
  rw[Go.Proofs.YtanlnopgadbpjaaGreat.wb8,Go.Proofs.YtanlnopgadbpjaaGreat.w64_of (by omega) (by omega)];omega
 unfold unP
 rw[acc_pk h 8 (Nat.le_refl _)]
 show Pt.mk (w64 (IntKind.wrap .u8 a)) (w64 (IntKind.wrap .u8 b)) (w64 (IntKind.wrap .u8 c)) _=_
 rw[hb a h1,hb b h2,hb c h3]
 congr 1
 simp only
 have:x.toNat%2^(8*8)=x.toNat:=Nat.mod_eq_of_lt (by omega)
 rw[this]
 omega
end Go.Sx
namespace Go.Proofs.YtanlnopgadbpjaaGreat.Rw
open Go.Proofs.YtanlnopgadbpjaaGreat.Rm
open Go.Sx
noncomputable def bmS(n:Nat)(f:Nat->Nat->Int):SV:=.d (.ro n 1 fun i _=>.ro 11 1 fun j _=>.x (.int .u8 (f i j)))
noncomputable def t22(n:Nat)(f:Nat->Nat->Int):Tree SV:=fnT Tryz.prog C00 D00 200 (fnOf Tryz.prog 22) (bodyOf Tryz.prog 22) [bmS n f] .nil
section
variable (n : Nat) (f : Nat → Nat → Int) (m : Nat) (c : Nat → Nat → Sx.DV) (i : Int) (p : Pt) (k : Int)
noncomputable def st22:AS:=⟨slN 69 [(0,bmS n f),(3,.row 1 0 0 m 4),(4,iv i)],[none,some (.row m 4 c)],2,.nil⟩
noncomputable def b22:Tree (Ex×AS):=cutT 1 [(.slot 3,1)] [0,3,4] [0] 2 .nil (exec Tryz.prog C00 D00 200 (loopN (bodyOf Tryz.prog 22) 0) (st22 n f m c i))
noncomputable def st22b:AS:=⟨slN 69 [(0,bmS n f),(3,.row 1 0 0 m 4),(4,iv i),(5,.ptr 24 0),(6,iv k)],[none,some (.row m 4 c),none,none,none,none,none,none,none,none,none,none,none,none,none,none,none,none,none,none,none,none,none,none,some (.cells [iv p.p,iv p.f,iv p.w,.d (.x (.int .u64 p.x))]),none],26,.nil⟩
noncomputable def b22b:Tree (Ex×AS):=cutT 26 [] [0,3,4,5,6] [0,2,3,4,5,6,7,8,9,10,11,12,13,14,15,16,17,18,19,20,21,22,23,25] 26 .nil (exec Tryz.prog C00 D00 200 (loopN (bodyOf Tryz.prog 22) 1) (st22b n f m c i p k))
theorem L22_eq:t22 n f=atCode (sub [] (t22 n f)):=by kernel_rfl
theorem E22_eq:entA 1 [(.slot 3,1)] [0,3,4] [0] 2 .nil (sub [] (t22 n f))=some ⟨slN 69 [(0,bmS n f),(3,.row 1 0 0 0 4),(4,iv 0)],[none,some (.cells [])],2,.nil⟩:=by kernel_rfl
theorem B22_eq:b22 n f m c i=.ite (decide (i<(n:Int))) (.need (0<=i/\i<(n:Int)) (.ite false (.ret (.ret,st22 n f m c i)) (.need (0<=i/\i<(n:Int)) (.need ((0:Int)<=0/\(0:Int)<11) (.need (0<=i/\i<(n:Int)) (.need ((0:Int)<=1/\(1:Int)<11) (.need (0<=i/\i<(n:Int)) (.need ((0:Int)<=2/\(2:Int)<11) (atCode (sub [0,0,1,0,0,0,0,0,0] (b22 n f m c i))))))))))) (.ret (.exit 0,st22 n f m c i)):=by kernel_rfl
theorem E22b_eq:entA 26 [] [0,3,4,5,6] [0,2,3,4,5,6,7,8,9,10,11,12,13,14,15,16,17,18,19,20,21,22,23,25] 26 .nil (sub [0,0,1,0,0,0,0,0,0] (b22 n f m c i))=some (st22b n f m c i ⟨w64 (f i.toNat 0),w64 (f i.toNat 1),w64 (f i.toNat 2),0⟩ 0):=by kernel_rfl
theorem B22b_eq:b22b n f m c i p k=.ite (decide (k<(8:Int))) (.need (0<=i/\i<(n:Int)) (.need (0<=w64 (3+k)/\w64 (3+k)<(11:Int)) (.need (0<=IntKind.wrap .u64 (w64 (8*k))) (.ret (.normal,st22b n f m c i ⟨p.p,p.f,p.w,orV p.x (IntKind.wrap .u64 (IntKind.wrap .u64 (f i.toNat (w64 (3+k)).toNat)*2^sh8 k))⟩ (w64 (k+1))))))) (.ret (.exit 2,st22b n f m c i p k)):=by kernel_rfl
theorem K22b_eq:codeK (sub [0,0,1,0,0,0,0,0,0] (b22 n f m c i)) (.exit 2) (st22b n f m c i p k)=.need (0+m<=m/\4<=4/\(m+1)*32<=140737488355328) (.ret (.normal,st22 n f (m+1) (selA 4 m c [.x (.int .i64 p.p),.x (.int .i64 p.f),.x (.int .i64 p.w),.x (.int .u64 p.x)]) (w64 (i+1)))):=by kernel_rfl
theorem K22_eq:codeK (sub [] (t22 n f)) (.exit 0) (st22 n f m c i)=.need (0+m<=m) (.ret (.d (.ro m 4 fun i j=>c (0+i) j))):=by kernel_rfl
end
noncomputable def ptG(F:Nat->Pt)(i j:Nat):Sx.DV:=ptE (F i) j
theorem s22b{n:Nat}{f:Nat->Nat->Int}(hn:n<=1000000000){i:Nat}(hi:i<n):Sat Tryz.prog (atCode (sub [0,0,1,0,0,0,0,0,0] (b22 n f i (ptG fun i=>unP (f i)) i))) fun t=>t.1=.normal/\Gc 1 t.2 (st22 n f (i+1) (ptG fun i=>unP (f i)) (i+1:Nat)):=by
 refine⟨for_satS C00_ok D00_ok (n:=200) (n0:=26) (nx:=26) (roots:=[]) (keep:=[0,3,4,5,6]) (drop:=[0,2,3,4,5,6,7,8,9,10,11,12,13,14,15,16,17,18,19,20,21,22,23,25]) (h:=.nil) (body:=loopN (bodyOf Tryz.prog 22) 1) (by kernel_rfl) (by kernel_rfl) 8 (fun k=>st22b n f i (ptG fun i=>unP (f i)) i ⟨w64 (f i 0),w64 (f i 1),w64 (f i 2),accF (f i) k⟩ k) (fun i=>True)
  (fun e t=>e=.exit 2/\t=st22b n f i (ptG fun i=>unP (f i)) i (unP (f i)) (8:Nat)) trivial ?_ ?_ ?_ ?_⟩
 ·have:=entA_sound (E22b_eq n f i (ptG fun i=>unP (f i)) i)
  rw[Int.toNat_natCast] at this
  exact this
 ·intro k hk _
  have h8:=sh8_eq hk
  have e3:w64 (3+(k:Int))=((3+k:Nat):Int):=by rw[w64_of (by omega) (by omega)];omega
  refine Sat.of_eq (B22b_eq n f i (ptG fun i=>unP (f i)) i ⟨w64 (f i 0),w64 (f i 1),w64 (f i 2),accF (f i) k⟩ k) ⟨fun _=>⟨by omega,by rw[e3];omega,h8.2,.inl ⟨rfl,trivial,?_⟩⟩,fun h1=>by simp only[decide_eq_false_iff_not] at h1;omega⟩
  rw[w64_succ hk (by omega),e3,Int.toNat_natCast,Int.toNat_natCast]
  exact Gc.refl _ _
 ·intro _
  exact Sat.of_eq (B22b_eq n f i (ptG fun i=>unP (f i)) i (unP (f i)) (8:Nat)) ⟨fun h1=>by simp only[decide_eq_true_eq] at h1;omega,fun _=>⟨nofun,rfl,rfl⟩⟩
 ·rintro e t ⟨rfl,rfl⟩
  refine Sat.of_eq (K22b_eq n f i (ptG fun i=>unP (f i)) i (unP (f i)) (8:Nat)) ⟨by omega,rfl,?_⟩
  rw[w64_succ hi (by omega)]
  exact gc_hp rfl rfl ⟨.inl rfl,.inr ⟨_,_,rfl,rfl,.row fun a b ha hb=>app_fun (c:=ptG fun i=>unP (f i)) (m:=i) (fun b hb=>rfl) ha hb⟩,trivial⟩
theorem s22{n:Nat}{f:Nat->Nat->Int}(hn:n<=1000000000):Sat Tryz.prog (t22 n f) (·=ptS n fun i=>unP (f i)):=by
 refine Sat.of_eq (L22_eq n f) ⟨?_⟩
 refine for_satS C00_ok D00_ok (n:=200) (n0:=1) (nx:=2) (roots:=[(.slot 3,1)]) (keep:=[0,3,4]) (drop:=[0]) (h:=.nil) (body:=loopN (bodyOf Tryz.prog 22) 0) (by kernel_rfl) (by kernel_rfl) n (fun i=>st22 n f i (ptG fun i=>unP (f i)) i) (fun i=>True)
  (fun e t=>e=.exit 0/\t=st22 n f n (ptG fun i=>unP (f i)) n) trivial ?_ ?_ ?_ ?_
 ·refine(entA_sound (E22_eq n f)).trans ?_
  exact gc_hp rfl rfl ⟨.inl rfl,.inr ⟨_,_,rfl,rfl,.cells rfl fun x y hx hy=>absurd hx (Nat.not_lt_zero _)⟩,trivial⟩
 ·intro i hi _
  refine Sat.of_eq (B22_eq n f i (ptG fun i=>unP (f i)) i) ⟨fun _=>⟨by omega,(fun h=>by cases h),fun _=>⟨by omega,by omega,by omega,by omega,by omega,by omega,?_⟩⟩,fun h1=>by simp only[decide_eq_false_iff_not] at h1;omega⟩
  exact Tree.sat_mono (fun r hr=>.inl ⟨hr.1,trivial,hr.2⟩) (s22b hn hi).ok
 ·intro _
  exact Sat.of_eq (B22_eq n f n (ptG fun i=>unP (f i)) n) ⟨fun h1=>by simp only[decide_eq_true_eq] at h1;omega,fun _=>⟨nofun,rfl,rfl⟩⟩
 ·rintro e t ⟨rfl,rfl⟩
  refine Sat.of_eq (K22_eq n f n (ptG fun i=>unP (f i)) n) ⟨by omega,?_⟩
  show SV.d (.ro n 4 fun i j=>ptG (fun i=>unP (f i)) (0+i) j)=_
  simp only[Nat.zero_add]
  rfl
def byN(d:Sx.DV)(j:Nat):Int:=match d with
 |.ro _ _ c=>numV (c j 0)
 |_=>0
def _root_.Go.Proofs.UnD(n:Nat)(F:Nat->Nat->Sx.DV):Prop:=n<=1000000000/\∀i,i<n->F i 0=.ro 11 1 fun j _=>.x (.int .u8 (byN (F i 0) j))
noncomputable def c22:Ctr:=fun ss=>match ss with
 |[.d (.ro n 1 F)]=>.need (UnD n F) (.ret (ptS n fun i=>unP (byN (F i 0))))
 |_=>.fail
theorem c22_ok:CtrOK Tryz.prog 22 c22:=ctrOK_leS C00_ok D00_ok (by kernel_rfl) (by kernel_rfl) fun ss r h=>by
 unfold c22 at h
 split at h
 ·rename_i n F
  obtain⟨⟨hn,hF⟩,rfl⟩:=h
  exact⟨[bmS n fun i=>byN (F i 0)],200,.nil,by simp only[leSVs,and_true];exact⟨rfl,rfl,fun i j hi hj=>by rw[show j=0 by omega];exact hF i hi⟩,s22 hn⟩
 ·exact h.elim
end Go.Proofs.YtanlnopgadbpjaaGreat.Rw
namespace Go.Proofs.YtanlnopgadbpjaaGreat
open Go.Sx
structure Rel where
 no:Int
 prev:Int
 src:Int
 cir:Int
 fn:Nat
 fc:Nat->Int
 b0:Int
 b1:Int
 b2:Int
 b3:Int
 b4:Int
 b5:Int
 b6:Int
 b7:Int
 b8:Int
 b9:Int
 b10:Int
 b11:Int
 pn:Int
 pd:Int
 tag:Int
def u64d(n:Int):DV:=.x (.int .u64 n)
def relD(r:Rel):Nat->DV
 |0=>i64d r.no
 |1=>u64d r.prev
 |2=>u64d r.src
 |3=>u64d r.cir
 |4=>.ro r.fn 1 fun i _=>.x (.int .u64 (r.fc i))
 |5=>i64d r.b0
 |6=>i64d r.b1
 |7=>i64d r.b2
 |8=>i64d r.b3
 |9=>i64d r.b4
 |10=>i64d r.b5
 |11=>i64d r.b6
 |12=>i64d r.b7
 |13=>i64d r.b8
 |14=>i64d r.b9
 |15=>i64d r.b10
 |16=>i64d r.b11
 |17=>i64d r.pn
 |18=>i64d r.pd
 |19=>u64d r.tag
 |_=>.x undef
def relB(r:Rel):List Int:=[r.b0,r.b1,r.b2,r.b3,r.b4,r.b5,r.b6,r.b7,r.b8,r.b9,r.b10,r.b11]
def relL(r:Rel):List SV:=[iv r.no,u64v r.prev,u64v r.src,u64v r.cir,rou64 r.fn r.fc,iv r.b0,iv r.b1,iv r.b2,iv r.b3,iv r.b4,iv r.b5,iv r.b6,iv r.b7,iv r.b8,iv r.b9,iv r.b10,iv r.b11,iv r.pn,iv r.pd,u64v r.tag]
def int1(k:IntKind):SV->Option Int
 |.d (.x (.int k' n))=>if k=k' then some n else none
 |_=>none
theorem int1_eq{k:IntKind}{s:SV}{n:Int}(h:int1 k s=some n):s=.d (.x (.int k n)):=by
 unfold int1 at h
 split at h
 ·split at h
  ·rename_i hk;subst hk;simp only[Option.some.injEq] at h;subst h;rfl
  ·cases h
 ·cases h
def U64C(n:Nat)(cell:Nat->Nat->DV):Prop:=n<=1000000/\∀i,i<n->cell i 0=u64d (intCell cell i)
noncomputable def relOf:List SV->Option (Rel×Prop)
 |[a0,a1,a2,a3,.d f,c0,c1,c2,c3,c4,c5,c6,c7,c8,c9,c10,c11,pn,pd,tag] =>
  (int1 .i64 a0).bind fun no=>(int1 .u64 a1).bind fun prev=>(int1 .u64 a2).bind fun src=>(int1 .u64 a3).bind fun cir=>(rowD 1 f).bind fun fr=>match fr with
  |(n,cell) =>
  (int1 .i64 c0).bind fun b0=>(int1 .i64 c1).bind fun b1=>(int1 .i64 c2).bind fun b2=>(int1 .i64 c3).bind fun b3=>(int1 .i64 c4).bind fun b4=>(int1 .i64 c5).bind fun b5=>(int1 .i64 c6).bind fun b6=>(int1 .i64 c7).bind fun b7=>(int1 .i64 c8).bind fun b8=>(int1 .i64 c9).bind fun b9=>(int1 .i64 c10).bind fun b10=>(int1 .i64 c11).bind fun b11 =>
  (int1 .i64 pn).bind fun pn=>(int1 .i64 pd).bind fun pd=>(int1 .u64 tag).bind fun tag =>
  some (⟨no,prev,src,cir,n,intCell cell,b0,b1,b2,b3,b4,b5,b6,b7,b8,b9,b10,b11,pn,pd,tag⟩,U64C n cell)
 |_=>none
theorem relOf_le{l:List SV}{r:Rel}{p:Prop}(h:relOf l=some (r,p))(hp:p):leSVs 0 [] [] l (relL r)/\r.fn<=1000000:=by
 unfold relOf at h
 split at h
 ·simp only[Option.bind_eq_some_iff] at h
  obtain⟨no,e0,prev,e1,src,e2,cir,e3,⟨n,cell⟩,ef,b0,g0,b1,g1,b2,g2,b3,g3,b4,g4,b5,g5,b6,g6,b7,g7,b8,g8,b9,g9,b10,g10,b11,g11,pn,e4,pd,e5,tag,e6,h⟩:=h
  simp only[Option.some.injEq,Prod.mk.injEq] at h
  obtain⟨rfl,rfl⟩:=h
  rw[int1_eq e0,int1_eq e1,int1_eq e2,int1_eq e3,int1_eq e4,int1_eq e5,int1_eq e6,int1_eq g0,int1_eq g1,int1_eq g2,int1_eq g3,int1_eq g4,int1_eq g5,int1_eq g6,int1_eq g7,int1_eq g8,int1_eq g9,int1_eq g10,int1_eq g11]
  refine⟨?_,hp.1⟩
  have hf:leD _ (.ro n 1 fun i _=>.x (.int .u64 (intCell cell i))):=rowD_le ef fun i j hi hj=>by
   obtain rfl:j=0:=by omega
   exact hp.2 i hi
  simp only[relL,leSVs,leSV,iv,u64v,rou64,hf,true_and,and_true]
  simp[leD]
 ·cases h
noncomputable def manL:FuncId->Option Ctr:=fun k=>match k with
 |45=>some cWords
 |92=>some cWords
 |k=>manK k
theorem manL_ok(k:Nat)(c:Ctr)(h:manL k=some c):CtrOK Tryz.prog k c/\goodF Tryz.prog k=true:=by
 unfold manL at h
 split at h
 ·cases h;exact⟨cWords_ok,by kernel_rfl⟩
 ·cases h;exact⟨cWordsR_ok,by kernel_rfl⟩
 ·exact manK_ok _ _ h
noncomputable def CL0:Ctx:=ctxN Tryz.prog manL (fun k=>k==42) 200 .nil 6
theorem CL0_ok:CtxOK Tryz.prog CL0:=ctxN_ok mixed manL_ok 6
noncomputable def DL0:Dr:=fun _=>drawn Tryz.prog CL0
theorem DL0_ok:DrOK Tryz.prog CL0 DL0:=drawn_ok CL0_ok mixed
noncomputable def tFo(a b:Int):Tree (Nat×Nat×(Nat->Nat->DV)):=fnOT Tryz.prog CL0 DL0 200 (fnOf Tryz.prog 125) (bodyOf Tryz.prog 125) [.agg [iv a,iv b]] .nil
noncomputable def LFo(a b:Int):Tree (Nat×Nat×(Nat->Nat->DV)) :=
 .need (2<=List.length [iv a,iv b]) (.ret (2,1,fun i j=>dsAt [DV.x (.int .i64 a),DV.x (.int .i64 b)] (0+(0+i)*1+j)))
theorem LFo_eq(a b:Int):tFo a b=LFo a b:=by kernel_rfl
noncomputable def oFrac:Octr:=fun ss=>match ss with
 |[.agg [.d (.x (.int .i64 a)),.d (.x (.int .i64 b))]]=>.ret (2,1,fun i j=>dsAt [i64d a,i64d b] (0+(0+i)*1+j))
 |_=>.fail
theorem oFrac_ok:OwnOK Tryz.prog 125 oFrac:=by
 refine ownOK_leS CL0_ok DL0_ok (by kernel_rfl) (by kernel_rfl) fun ss n esz cell h=>?_
 unfold oFrac at h
 split at h
 ·rename_i a b
  simp only[Tr.ev,Prod.mk.injEq] at h
  obtain⟨rfl,rfl,rfl⟩:=h
  refine⟨[.agg [iv a,iv b]],200,.nil,by simp[leSVs,leSV,iv,leD],Sat.of_eq (LFo_eq a b) ⟨?_⟩⟩
  unfold LFo
  exact⟨len2 _ _,rfl,rfl,fun _ _ _ _=>rfl⟩
 ·exact h.elim
noncomputable def ownL:FuncId->Option Octr:=fun k=>match k with
 |125=>some oFrac
 |_=>none
theorem ownL_ok(k:Nat)(c:Octr)(h:ownL k=some c):OwnOK Tryz.prog k c/\goodF Tryz.prog k=true:=by
 unfold ownL at h
 split at h
 ·cases h;exact⟨oFrac_ok,by kernel_rfl⟩
 ·cases h
noncomputable def CL:Ctx:=ctxO Tryz.prog manL ownL (fun k=>k==42) 200 .nil 6
theorem CL_ok:CtxOK Tryz.prog CL:=ctxO_ok mixed manL_ok ownL_ok 6
noncomputable def DL:Dr:=fun _=>drawn Tryz.prog CL
theorem DL_ok:DrOK Tryz.prog CL DL:=drawn_ok CL_ok mixed
noncomputable def TL(h:Hint)(k:Nat)(args:List SV):Tree SV:=fnT Tryz.prog CL DL 200 (fnOf Tryz.prog k) (bodyOf Tryz.prog k) args h
noncomputable def tOf(r:Rel):Tree SV:=TL .nil 49 [.agg (relL r)]
noncomputable def LOf(r:Rel):Tree SV :=
 .need (True/\5<=List.length [iv (Rel.no r),iv (w64 (Rel.prev r)),iv (w64 (Rel.src r)),iv (w64 (Rel.cir r)),iv (↑(Rel.fn r):Int)]/\40<=140737488355328)
 (.code (codeC (sub [(0:Nat)] (tOf r))) (codeS (sub [(0:Nat)] (tOf r))) (codeK (sub [(0:Nat)] (tOf r))))
theorem LOf_eq(r:Rel):tOf r=LOf r:=by kernel_rfl
noncomputable def invOf(r:Rel)(k:Nat)(c:Nat->Int):AS :=
  ⟨[.unk,.ok (.ptr 0 0),.unk,.ok (.ptr 1 0),.ok (.fn (.func 42) [.ptr 1 0] [])]++List.replicate 23 .unk++[.ok (rou64 r.fn r.fc),.ok (iv r.fn),.ok (iv k)]++List.replicate 50 .unk,
   [some (.cells (relL r)),some (.cells [.row 5 0 0 (5+k) 1]),none,none,none,some (.row (5+k) 1 fun i _=>.x (.int .i64 (c i)))],6,uN 3 .nil⟩
noncomputable def bodyOf':Code:=loopN (bodyOf Tryz.prog 49) 0
noncomputable def rtOf:List (Root×Nat):=[(.cell (.base 1) 0,5)]
noncomputable def BOf(r:Rel)(k:Nat)(c:Nat->Int):Tree (Ex×AS) :=
  .ite (decide ((↑k:Int)<(↑(Rel.fn r):Int)))
  (.need ((0:Int)<=(↑k:Int)/\(↑k:Int)<(↑(Rel.fn r):Int))
   (.need (0+(5+k)<=5+k/\1<=List.length [iv (w64 (Rel.fc r (Int.toNat (↑k:Int))))]/\(5+k+1)*8<=140737488355328)
   (.ret
   (.normal,
   {
   tm :=
   [.unk,.ok (SV.ptr 0 0),.unk,.ok (SV.ptr 1 0),.ok (SV.fn (Fn.func 42) [SV.ptr 1 0] []),.unk,.unk,.unk,.unk,.unk,.unk,
   .unk,.unk,.unk,.unk,.unk,.unk,.unk,.unk,.unk,.unk,.unk,.unk,.unk,.unk,.unk,.unk,.unk,
   .ok (SV.d (DV.ro (Rel.fn r) 1 fun i x=>DV.x (.int .u64 (Rel.fc r i)))),.ok (iv (↑(Rel.fn r):Int)),.ok (iv (w64 ((↑k:Int)+(1:Int)))),.unk,.unk,.unk,.unk,.unk,.unk,
   .unk,.unk,.unk,.unk,.unk,.unk,.unk,.unk,.unk,.unk,.unk,.unk,.unk,.unk,.unk,.unk,.unk,.unk,.unk,.unk,.unk,.unk,.unk,.unk,.unk,.unk,.unk,.unk,
   .unk,.unk,.unk,.unk,.unk,.unk,.unk,.unk,.unk,.unk,.unk,.unk,.unk,.unk,.unk,.unk],
   hp :=
   [some
   (.cells
   [iv (Rel.no r),SV.d (DV.x (.int .u64 (Rel.prev r))),SV.d (DV.x (.int .u64 (Rel.src r))),SV.d (DV.x (.int .u64 (Rel.cir r))),
   SV.d (DV.ro (Rel.fn r) 1 fun i x=>DV.x (.int .u64 (Rel.fc r i))),iv (Rel.b0 r),iv (Rel.b1 r),iv (Rel.b2 r),iv (Rel.b3 r),iv (Rel.b4 r),iv (Rel.b5 r),iv (Rel.b6 r),iv (Rel.b7 r),
   iv (Rel.b8 r),iv (Rel.b9 r),iv (Rel.b10 r),iv (Rel.b11 r),iv (Rel.pn r),iv (Rel.pd r),SV.d (DV.x (.int .u64 (Rel.tag r)))]),
   some (.cells [SV.row 5 0 0 (5+k+1) 1]),none,none,none,
   some
   (.row (5+k+1) 1 fun a b =>
   selD (decide (a<5+k)) (DV.x (.int .i64 (c ((0:Nat)+a))))
   (dsAt [DV.x (.int .i64 (w64 (Rel.fc r (Int.toNat (↑k:Int)))))] (0+(0+(a-(5+k)))*1+b)))],
   next:=6,hint:=.u (.t (.u (.t (.u (.t (.u (.f .nil))))))) }))))
  (.ret
   (.exit 0,
   {
   tm :=
   [.unk,.ok (SV.ptr 0 0),.unk,.ok (SV.ptr 1 0),.ok (SV.fn (Fn.func 42) [SV.ptr 1 0] []),.unk,.unk,.unk,.unk,.unk,.unk,.unk,
   .unk,.unk,.unk,.unk,.unk,.unk,.unk,.unk,.unk,.unk,.unk,.unk,.unk,.unk,.unk,.unk,.ok (SV.d (DV.ro (Rel.fn r) 1 fun i x=>DV.x (.int .u64 (Rel.fc r i)))),
   .ok (iv (↑(Rel.fn r):Int)),.ok (iv (↑k:Int)),.unk,.unk,.unk,.unk,.unk,.unk,.unk,.unk,.unk,.unk,.unk,.unk,.unk,.unk,.unk,.unk,.unk,.unk,.unk,.unk,.unk,
   .unk,.unk,.unk,.unk,.unk,.unk,.unk,.unk,.unk,.unk,.unk,.unk,.unk,.unk,.unk,.unk,.unk,.unk,.unk,.unk,.unk,.unk,.unk,.unk,.unk,.unk,.unk,.unk,
   .unk],
   hp :=
   [some
   (.cells
   [iv (Rel.no r),SV.d (DV.x (.int .u64 (Rel.prev r))),SV.d (DV.x (.int .u64 (Rel.src r))),SV.d (DV.x (.int .u64 (Rel.cir r))),
   SV.d (DV.ro (Rel.fn r) 1 fun i x=>DV.x (.int .u64 (Rel.fc r i))),iv (Rel.b0 r),iv (Rel.b1 r),iv (Rel.b2 r),iv (Rel.b3 r),iv (Rel.b4 r),iv (Rel.b5 r),iv (Rel.b6 r),iv (Rel.b7 r),
   iv (Rel.b8 r),iv (Rel.b9 r),iv (Rel.b10 r),iv (Rel.b11 r),iv (Rel.pn r),iv (Rel.pd r),SV.d (DV.x (.int .u64 (Rel.tag r)))]),
   some (.cells [SV.row 5 0 0 (5+k) 1]),none,none,none,some (.row (5+k) 1 fun i x=>DV.x (.int .i64 (c i)))],
   next:=6,hint:=.u (.t (.u (.t (.u (.t (.u (.f .nil))))))) }))
theorem BOf_eq(r:Rel)(k:Nat)(c:Nat->Int):cutT 5 rtOf [1,3,4,28,29,30] [2,4] 6 (uN 3 .nil) (exec Tryz.prog CL DL 200 bodyOf' (invOf r k c))=BOf r k c:=by kernel_rfl
noncomputable def KOf(r:Rel)(k:Nat)(c:Nat->Int):Tree SV :=
  .need (true=true)
  (.need ((0:Int)<=(0:Int)/\(0:Int)<(3:Int))
   (.need (0<3)
   (.need (0+(5+k)<=5+k/\4<=List.length [iv (Rel.b0 r),iv (Rel.b1 r),iv (Rel.b2 r),iv (Rel.b3 r)]/\(5+k+4)*8<=140737488355328)
   (.need (true=true)
   (.need ((0:Int)<=(1:Int)/\(1:Int)<(3:Int))
   (.need (1<3)
   (.need
   (0+(5+k+4)<=5+k+4 /\
   4<=List.length [iv (Rel.b4 r),iv (Rel.b5 r),iv (Rel.b6 r),iv (Rel.b7 r)]/\(5+k+4+4)*8<=140737488355328)
   (.need (true=true)
   (.need ((0:Int)<=(2:Int)/\(2:Int)<(3:Int))
   (.need (2<3)
   (.need
   (0+(5+k+4+4)<=5+k+4+4 /\
   4<=List.length [iv (Rel.b8 r),iv (Rel.b9 r),iv (Rel.b10 r),iv (Rel.b11 r)]/\(5+k+4+4+4)*8<=140737488355328)
   (.need (false=false)
   (.need
   (0+(5+k+4+4+4)<=5+k+4+4+4 /\
   2<=List.length [iv (Rel.pn r),iv (Rel.pd r)]/\(5+k+4+4+4+2)*8<=140737488355328)
   (.need (0+(5+k+4+4+4+2)<=5+k+4+4+4+2)
   (.ret
   (SV.d
   (DV.ro (5+k+4+4+4+2) 1 fun i j =>
   selD (decide (0+i<5+k+4+4+4))
   (selD (decide (0+(0+i)<5+k+4+4))
   (selD (decide (0+(0+(0+i))<5+k+4))
   (selD (decide (0+(0+(0+(0+i)))<5+k)) (DV.x (.int .i64 (c ((0:Nat)+((0:Nat)+((0:Nat)+((0:Nat)+((0:Nat)+i))))))))
   (dsAt [DV.x (.int .i64 (Rel.b0 r)),DV.x (.int .i64 (Rel.b1 r)),DV.x (.int .i64 (Rel.b2 r)),DV.x (.int .i64 (Rel.b3 r))]
   (0+(0+(0+(0+(0+(0+i)))-(5+k)))*1+j)))
   (dsAt [DV.x (.int .i64 (Rel.b4 r)),DV.x (.int .i64 (Rel.b5 r)),DV.x (.int .i64 (Rel.b6 r)),DV.x (.int .i64 (Rel.b7 r))]
   (0+(0+(0+(0+(0+i))-(5+k+4)))*1+j)))
   (dsAt [DV.x (.int .i64 (Rel.b8 r)),DV.x (.int .i64 (Rel.b9 r)),DV.x (.int .i64 (Rel.b10 r)),DV.x (.int .i64 (Rel.b11 r))]
   (0+(0+(0+(0+i)-(5+k+4+4)))*1+j)))
   (dsAt [DV.x (.int .i64 (Rel.pn r)),DV.x (.int .i64 (Rel.pd r))]
   (0+(0+(0+i-(5+k+4+4+4)))*1+j)))))))))))))))))))
theorem KOf_eq(r:Rel)(k:Nat)(c:Nat->Int):codeK (sub [0] (tOf r)) (.exit 0) (invOf r k c)=KOf r k c:=by kernel_rfl
noncomputable def entOf(r:Rel):AS :=
  ⟨[.unk,.ok (.ptr 0 0),.unk,.ok (.ptr 1 0),.ok (.fn (.func 42) [.ptr 1 0] [])]++List.replicate 23 .unk++[.ok (rou64 r.fn r.fc),.ok (iv r.fn),.ok (iv 0)]++List.replicate 50 .unk,
   [some (.cells (relL r)),some (.cells [.row 5 0 0 5 1]),none,none,none,some (.row 5 1 fun a b=>bif decide (a<0) then .x undef else dsAt [i64d r.no,i64d (w64 r.prev),i64d (w64 r.src),i64d (w64 r.cir),i64d r.fn] (0+(0+(a-0))*1+b))],6,uN 3 .nil⟩
theorem EOf_eq(r:Rel):entA 5 rtOf [1,3,4,28,29,30] [2,4] 6 (uN 3 .nil) (sub [0] (tOf r))=some (entOf r):=by kernel_rfl
noncomputable def tNu(r:Rel):Tree SV:=TL .nil 113 [.agg (relL r)]
noncomputable def LNu(r:Rel):Tree SV :=
 .code (codeC (sub [] (tNu r))) (codeS (sub [] (tNu r))) (codeK (sub [] (tNu r)))
theorem LNu_eq(r:Rel):tNu r=LNu r:=by kernel_rfl
noncomputable def invNu(r:Rel)(k:Nat)(c:Nat->Int):AS :=
  ⟨[.unk,.ok (.ptr 0 0),.unk,.ok (.row 2 0 0 (5+k) 1),.ok (iv k)]++List.replicate 52 .unk,
   [some (.cells (relL r)),none,some (.row (5+k) 1 fun i _=>.x (.int .i64 (c i)))],3,.nil⟩
noncomputable def bodyNu:Code:=loopN (bodyOf Tryz.prog 113) 0
noncomputable def rtNu:List (Root×Nat):=[(.slot 3,2)]
noncomputable def BNu(r:Rel)(k:Nat)(c:Nat->Int):Tree (Ex×AS) :=
  .ite (decide ((↑k:Int)<(↑(Rel.fn r):Int)))
  (.need ((0:Int)<=(↑k:Int)/\(↑k:Int)<(↑(Rel.fn r):Int))
   (.need (0+(5+k)<=5+k/\1<=List.length [iv (w64 (Rel.fc r (Int.toNat (↑k:Int))))]/\(5+k+1)*8<=140737488355328)
   (.ret
   (.normal,
   {
   tm :=
   [.unk,.ok (SV.ptr 0 0),.unk,.ok (SV.row 2 0 0 (5+k+1) 1),.ok (iv (w64 ((↑k:Int)+(1:Int)))),.unk,.unk,.unk,.unk,
   .unk,.unk,.unk,.unk,.unk,.unk,.unk,.unk,.unk,.unk,.unk,.unk,.unk,.unk,.unk,.unk,.unk,.unk,.unk,.unk,.unk,.unk,.unk,.unk,.unk,.unk,.unk,.unk,
   .unk,.unk,.unk,.unk,.unk,.unk,.unk,.unk,.unk,.unk,.unk,.unk,.unk,.unk,.unk,.unk,.unk,.unk,.unk,.unk],
   hp :=
   [some
   (.cells
   [iv (Rel.no r),SV.d (DV.x (.int .u64 (Rel.prev r))),SV.d (DV.x (.int .u64 (Rel.src r))),SV.d (DV.x (.int .u64 (Rel.cir r))),
   SV.d (DV.ro (Rel.fn r) 1 fun i x=>DV.x (.int .u64 (Rel.fc r i))),iv (Rel.b0 r),iv (Rel.b1 r),iv (Rel.b2 r),iv (Rel.b3 r),iv (Rel.b4 r),iv (Rel.b5 r),iv (Rel.b6 r),iv (Rel.b7 r),
   iv (Rel.b8 r),iv (Rel.b9 r),iv (Rel.b10 r),iv (Rel.b11 r),iv (Rel.pn r),iv (Rel.pd r),SV.d (DV.x (.int .u64 (Rel.tag r)))]),
   none,
   some
   (.row (5+k+1) 1 fun a b =>
   selD (decide (a<5+k)) (DV.x (.int .i64 (c ((0:Nat)+a))))
   (dsAt [DV.x (.int .i64 (w64 (Rel.fc r (Int.toNat (↑k:Int)))))] (0+(0+(a-(5+k)))*1+b)))],
   next:=3,hint:=.nil }))))
  (.ret
   (.exit 0,
   {
   tm :=
   [.unk,.ok (SV.ptr 0 0),.unk,.ok (SV.row 2 0 0 (5+k) 1),.ok (iv (↑k:Int)),.unk,.unk,.unk,.unk,.unk,.unk,.unk,.unk,
   .unk,.unk,.unk,.unk,.unk,.unk,.unk,.unk,.unk,.unk,.unk,.unk,.unk,.unk,.unk,.unk,.unk,.unk,.unk,.unk,.unk,.unk,.unk,.unk,.unk,.unk,.unk,.unk,
   .unk,.unk,.unk,.unk,.unk,.unk,.unk,.unk,.unk,.unk,.unk,.unk,.unk,.unk,.unk,.unk],
   hp :=
   [some
   (.cells
   [iv (Rel.no r),SV.d (DV.x (.int .u64 (Rel.prev r))),SV.d (DV.x (.int .u64 (Rel.src r))),SV.d (DV.x (.int .u64 (Rel.cir r))),
   SV.d (DV.ro (Rel.fn r) 1 fun i x=>DV.x (.int .u64 (Rel.fc r i))),iv (Rel.b0 r),iv (Rel.b1 r),iv (Rel.b2 r),iv (Rel.b3 r),iv (Rel.b4 r),iv (Rel.b5 r),iv (Rel.b6 r),iv (Rel.b7 r),
   iv (Rel.b8 r),iv (Rel.b9 r),iv (Rel.b10 r),iv (Rel.b11 r),iv (Rel.pn r),iv (Rel.pd r),SV.d (DV.x (.int .u64 (Rel.tag r)))]),
   none,some (.row (5+k) 1 fun i x=>DV.x (.int .i64 (c i)))],
   next:=3,hint:=.nil }))
theorem BNu_eq(r:Rel)(k:Nat)(c:Nat->Int):cutT 2 rtNu [1,3,4] [] 3 .nil (exec Tryz.prog CL DL 200 bodyNu (invNu r k c))=BNu r k c:=by kernel_rfl
noncomputable def KNu(r:Rel)(k:Nat)(c:Nat->Int):Tree SV :=
  .need (2<=2/\2<=2/\32<=140737488355328)
  (.need (4<=4)
   (.need (0+(5+k)<=5+k/\True/\(5+k+4)*8<=140737488355328)
   (.need (2<=2/\2<=2/\32<=140737488355328)
   (.need (4<=4)
   (.need (0+(5+k+4)<=5+k+4/\True/\(5+k+4+4)*8<=140737488355328)
   (.need (2<=2/\2<=2/\32<=140737488355328)
   (.need (4<=4)
   (.need (0+(5+k+4+4)<=5+k+4+4/\True/\(5+k+4+4+4)*8<=140737488355328)
   (.need
   (0+(5+k+4+4+4)<=5+k+4+4+4 /\
   2<=2/\(5+k+4+4+4+2)*8<=140737488355328)
   (.need (0+(5+k+4+4+4+2)<=5+k+4+4+4+2)
   (.ret
   (SV.d
   (DV.ro (5+k+4+4+4+2) 1 fun i j =>
   selD (decide (0+i<5+k+4+4+4))
   (selD (decide (0+(0+i)<5+k+4+4))
   (selD (decide (0+(0+(0+i))<5+k+4))
   (selD (decide (0+(0+(0+(0+i)))<5+k)) (DV.x (.int .i64 (c ((0:Nat)+((0:Nat)+((0:Nat)+((0:Nat)+((0:Nat)+i))))))))
   (selD (decide (0+(0+(0+(0+(0+i)))-(5+k))<2))
   (dsAt [DV.x (.int .i64 (Rel.b0 r)),DV.x (.int .i64 (Rel.b1 r))]
   (0+(0+(0+(0+(0+(0+(0+(0+i)))-(5+k)))))*1+j))
   (dsAt [DV.x (.int .i64 (Rel.b2 r)),DV.x (.int .i64 (Rel.b3 r))]
   (0+(0+(0+(0+(0+(0+(0+(0+i)))-(5+k))-2)))*1+j))))
   (selD (decide (0+(0+(0+(0+i))-(5+k+4))<2))
   (dsAt [DV.x (.int .i64 (Rel.b4 r)),DV.x (.int .i64 (Rel.b5 r))]
   (0+(0+(0+(0+(0+(0+(0+i))-(5+k+4)))))*1+j))
   (dsAt [DV.x (.int .i64 (Rel.b6 r)),DV.x (.int .i64 (Rel.b7 r))]
   (0+(0+(0+(0+(0+(0+(0+i))-(5+k+4))-2)))*1+j))))
   (selD (decide (0+(0+(0+i)-(5+k+4+4))<2))
   (dsAt [DV.x (.int .i64 (Rel.b8 r)),DV.x (.int .i64 (Rel.b9 r))]
   (0+(0+(0+(0+(0+(0+i)-(5+k+4+4)))))*1+j))
   (dsAt [DV.x (.int .i64 (Rel.b10 r)),DV.x (.int .i64 (Rel.b11 r))]
   (0+(0+(0+(0+(0+(0+i)-(5+k+4+4))-2)))*1+j))))
   (dsAt [DV.x (.int .i64 (Rel.pn r)),DV.x (.int .i64 (Rel.pd r))]
   (0+(0+(0+(0+i-(5+k+4+4+4))))*1+j)))))))))))))))
theorem KNu_eq(r:Rel)(k:Nat)(c:Nat->Int):codeK (sub [] (tNu r)) (.exit 0) (invNu r k c)=KNu r k c:=by kernel_rfl
noncomputable def entNu(r:Rel):AS :=
  ⟨[.unk,.ok (.ptr 0 0),.unk,.ok (.row 2 0 0 5 1),.ok (iv 0)]++List.replicate 52 .unk,
   [some (.cells (relL r)),none,some (.cells [iv r.no,iv (w64 r.prev),iv (w64 r.src),iv (w64 r.cir),iv r.fn])],3,.nil⟩
theorem ENu_eq(r:Rel):entA 2 rtNu [1,3,4] [] 3 .nil (sub [] (tNu r))=some (entNu r):=by kernel_rfl
def numN(r:Rel)(i:Nat):Int :=
 if i<5 then([r.no,w64 r.prev,w64 r.src,w64 r.cir,(r.fn:Int)]:List Int).getD i 0
 else if i<5+r.fn then w64 (r.fc (i-5))
 else(relB r++[r.pn,r.pd]).getD (i-5-r.fn) 0
theorem selD_if{p:Prop}[Decidable p]{a b:DV}:selD (decide p) a b=if p then a else b:=by
 rw[selD_eq];by_cases h:p<;>simp[h]
theorem of_body{r:Rel}(hn:r.fn<=1000000){k:Nat}(hk:k<r.fn)(i:Nat)(hi:i<5+k+1)(j:Nat)(hj:j<1) :
  selD (decide (i<5+k)) (DV.x (.int .i64 (numN r ((0:Nat)+i)))) (dsAt [DV.x (.int .i64 (w64 (Rel.fc r (Int.toNat (k:Int)))))] (0+(0+(i-(5+k)))*1+j))=DV.x (.int .i64 (numN r i)):=by
 obtain rfl:j=0:=by omega
 rw[selD_if]
 by_cases h:i<5+k
 ·rw[if_pos h,Nat.zero_add]
 ·rw[if_neg h]
  obtain rfl:i=5+k:=by omega
  rw[show 0+(0+(5+k-(5+k)))*1+0=0 by omega,Int.toNat_natCast]
  unfold numN
  rw[if_neg (by omega),if_pos (by omega),show 5+k-5=k by omega]
  rfl
theorem numN_tail{r:Rel}{j:Nat}(hj:j<14):numN r (5+r.fn+j)=(relB r++[r.pn,r.pd]).getD j 0:=by
 unfold numN
 rw[if_neg (by omega),if_neg (by omega),show 5+r.fn+j-5-r.fn=j by omega]
theorem row_split{r:Rel}{P:Nat->Prop}(h1:∀i,i<5+r.fn->P i)(h2:∀j,j<14->P (5+r.fn+j)):∀i,i<19+r.fn->P i:=by
 intro i hi
 by_cases h:i<5+r.fn
 ·exact h1 i h
 ·have:=h2 (i-(5+r.fn)) (by omega)
  rwa[show 5+r.fn+(i-(5+r.fn))=i by omega] at this
theorem of_sat{r:Rel}(hn:r.fn<=1000000):Sat Tryz.prog (tOf r) fun x=>leSV 0 [] [] x (.d (.ro (19+r.fn) 1 fun i _=>.x (.int .i64 (numN r i)))):=by
 constructor
 rw[LOf_eq];unfold LOf
 refine⟨⟨trivial,by simp,by decide⟩,?_⟩
 refine code_satS CL_ok DL_ok (n:=200) (n0:=5) (nx:=6) (roots:=rtOf) (keep:=[1,3,4,28,29,30]) (drop:=[2,4]) (h:=uN 3 .nil) (c:=codeC (sub [0] (tOf r))) (st:=codeS (sub [0] (tOf r))) (k:=codeK (sub [0] (tOf r))) (body:=bodyOf') (by kernel_rfl) (by kernel_rfl)
  (fun q s=>∃k:Nat,q=r.fn-k/\k<=r.fn/\s=invOf r k (numN r))
  (fun e s=>e=.exit 0/\s=invOf r r.fn (numN r))
  ⟨_,_,⟨0,rfl,by omega,rfl⟩,(entA_sound (EOf_eq r)).trans ?_⟩ ?_ ?_
 ·refine gc_sound [(5,5)] [] rfl ?_ ?_
  ·simp[entOf,invOf,leTm,leTV,leSV,leSVs,rn,iv,leD,List.replicate,rou64]
  ·simp[entOf,invOf,leHp,leBlk,leSVs,leSV,rn,iv,leD,srcOf,hget,relL,u64v,rou64]
   intro i hi
   match i,hi with
   |0,_=>rfl
   |1,_=>rfl
   |2,_=>rfl
   |3,_=>rfl
   |4,_=>rfl
 ·rintro q s ⟨k,rfl,hk,rfl⟩
  refine Sat.of_eq (BOf_eq r k _) ?_
  constructor
  unfold BOf
  refine⟨fun hc=>?_,fun hc=>?_⟩
  ·have hc:k<r.fn:=by simp only[decide_eq_true_eq] at hc;omega
   refine⟨by omega,⟨by omega,by simp,by omega⟩,r.fn-(k+1),_,by omega,⟨k+1,rfl,by omega,rfl⟩,?_⟩
   rw[w64_of (n:=(k:Int)+1) (by omega) (by omega)]
   refine gc_sound [(5,5)] [] rfl ?_ ?_
   ·simp[invOf,leTm,leTV,leSV,leSVs,rn,iv,leD,List.replicate,rou64]
   ·simp[invOf,leHp,leBlk,leSVs,leSV,rn,iv,leD,srcOf,hget,relL,u64v,rou64]
    refine⟨by omega,fun i hi=>?_⟩
    simpa using of_body hn hc i (by omega) 0 (by decide)
  ·have hc:k=r.fn:=by simp only[decide_eq_false_iff_not] at hc;omega
   subst hc
   exact⟨_,⟨rfl,rfl⟩,Gc.refl _ _⟩
 ·rintro e s ⟨rfl,rfl⟩
  refine Sat.of_eq (KOf_eq r r.fn _) ⟨?_⟩
  unfold KOf
  refine⟨rfl,by decide,by decide,⟨by omega,by simp,by omega⟩,rfl,by decide,by decide,⟨by omega,by simp,by omega⟩,rfl,by decide,by decide,⟨by omega,by simp,by omega⟩,rfl,⟨by omega,by simp,by omega⟩,by omega,?_⟩
  simp only[Tree.sat,leSV,leD]
  refine⟨by omega,trivial,fun i j hi hj=>?_⟩
  obtain rfl:j=0:=by omega
  revert i
  rw[show 5+r.fn+4+4+4+2=19+r.fn by omega]
  refine row_split (fun i hi=>?_) fun j hj=>?_
  ·simp only[selD_if,Nat.zero_add]
   rw[if_pos (by omega),if_pos (by omega),if_pos (by omega),if_pos (by omega)]
  ·rw[numN_tail hj]
   simp only[selD_if,Nat.zero_add,Nat.mul_one,Nat.add_zero]
   match j,hj with
   |0,_=>rw[if_pos (by omega),if_pos (by omega),if_pos (by omega),if_neg (by omega),show 5+r.fn+0-(5+r.fn)=0 by omega];rfl
   |1,_=>rw[if_pos (by omega),if_pos (by omega),if_pos (by omega),if_neg (by omega),show 5+r.fn+1-(5+r.fn)=1 by omega];rfl
   |2,_=>rw[if_pos (by omega),if_pos (by omega),if_pos (by omega),if_neg (by omega),show 5+r.fn+2-(5+r.fn)=2 by omega];rfl
   |3,_=>rw[if_pos (by omega),if_pos (by omega),if_pos (by omega),if_neg (by omega),show 5+r.fn+3-(5+r.fn)=3 by omega];rfl
   |4,_=>rw[if_pos (by omega),if_pos (by omega),if_neg (by omega),show 5+r.fn+4-(5+r.fn+4)=0 by omega];rfl
   |5,_=>rw[if_pos (by omega),if_pos (by omega),if_neg (by omega),show 5+r.fn+5-(5+r.fn+4)=1 by omega];rfl
   |6,_=>rw[if_pos (by omega),if_pos (by omega),if_neg (by omega),show 5+r.fn+6-(5+r.fn+4)=2 by omega];rfl
   |7,_=>rw[if_pos (by omega),if_pos (by omega),if_neg (by omega),show 5+r.fn+7-(5+r.fn+4)=3 by omega];rfl
   |8,_=>rw[if_pos (by omega),if_neg (by omega),show 5+r.fn+8-(5+r.fn+4+4)=0 by omega];rfl
   |9,_=>rw[if_pos (by omega),if_neg (by omega),show 5+r.fn+9-(5+r.fn+4+4)=1 by omega];rfl
   |10,_=>rw[if_pos (by omega),if_neg (by omega),show 5+r.fn+10-(5+r.fn+4+4)=2 by omega];rfl
   |11,_=>rw[if_pos (by omega),if_neg (by omega),show 5+r.fn+11-(5+r.fn+4+4)=3 by omega];rfl
   |12,_=>rw[if_neg (by omega),show 5+r.fn+12-(5+r.fn+4+4+4)=0 by omega];rfl
   |13,_=>rw[if_neg (by omega),show 5+r.fn+13-(5+r.fn+4+4+4)=1 by omega];rfl
theorem nu_sat{r:Rel}(hn:r.fn<=1000000):Sat Tryz.prog (tNu r) fun x=>leSV 0 [] [] x (.d (.ro (19+r.fn) 1 fun i _=>.x (.int .i64 (numN r i)))):=by
 constructor
 rw[LNu_eq];unfold LNu
 refine code_satS CL_ok DL_ok (n:=200) (n0:=2) (nx:=3) (roots:=rtNu) (keep:=[1,3,4]) (drop:=[]) (h:=.nil) (c:=codeC (sub [] (tNu r))) (st:=codeS (sub [] (tNu r))) (k:=codeK (sub [] (tNu r))) (body:=bodyNu) (by kernel_rfl) (by kernel_rfl)
  (fun q s=>∃k:Nat,q=r.fn-k/\k<=r.fn/\s=invNu r k (numN r))
  (fun e s=>e=.exit 0/\s=invNu r r.fn (numN r))
  ⟨_,_,⟨0,rfl,by omega,rfl⟩,(entA_sound (ENu_eq r)).trans ?_⟩ ?_ ?_
 ·refine gc_sound [(2,2)] [] rfl ?_ ?_
  ·simp[entNu,invNu,leTm,leTV,leSV,leSVs,rn,iv,leD,List.replicate,rou64]
  ·simp[entNu,invNu,leHp,leBlk,leSVs,leSV,rn,iv,leD,srcOf,hget,relL,u64v,rou64]
   intro i hi
   match i,hi with
   |0,_=>rfl
   |1,_=>rfl
   |2,_=>rfl
   |3,_=>rfl
   |4,_=>rfl
 ·rintro q s ⟨k,rfl,hk,rfl⟩
  refine Sat.of_eq (BNu_eq r k _) ?_
  constructor
  unfold BNu
  refine⟨fun hc=>?_,fun hc=>?_⟩
  ·have hc:k<r.fn:=by simp only[decide_eq_true_eq] at hc;omega
   refine⟨by omega,⟨by omega,by simp,by omega⟩,r.fn-(k+1),_,by omega,⟨k+1,rfl,by omega,rfl⟩,?_⟩
   rw[w64_of (n:=(k:Int)+1) (by omega) (by omega)]
   refine gc_sound [(2,2)] [] rfl ?_ ?_
   ·simp[invNu,leTm,leTV,leSV,leSVs,rn,iv,leD,List.replicate,rou64]
    omega
   ·simp[invNu,leHp,leBlk,leSVs,leSV,rn,iv,leD,srcOf,hget,relL,u64v,rou64]
    refine⟨by omega,fun i hi=>?_⟩
    simpa using of_body hn hc i (by omega) 0 (by decide)
  ·have hc:k=r.fn:=by simp only[decide_eq_false_iff_not] at hc;omega
   subst hc
   exact⟨_,⟨rfl,rfl⟩,Gc.refl _ _⟩
 ·rintro e s ⟨rfl,rfl⟩
  refine Sat.of_eq (KNu_eq r r.fn _) ⟨?_⟩
  unfold KNu
  refine⟨by decide,by decide,⟨by omega,trivial,by omega⟩,by decide,by decide,⟨by omega,trivial,by omega⟩,by decide,by decide,⟨by omega,trivial,by omega⟩,⟨by omega,by decide,by omega⟩,by omega,?_⟩
  simp only[Tree.sat,leSV,leD]
  refine⟨by omega,trivial,fun i j hi hj=>?_⟩
  obtain rfl:j=0:=by omega
  revert i
  rw[show 5+r.fn+4+4+4+2=19+r.fn by omega]
  refine row_split (fun i hi=>?_) fun j hj=>?_
  ·simp only[selD_if,Nat.zero_add]
   rw[if_pos (by omega),if_pos (by omega),if_pos (by omega),if_pos (by omega)]
  ·rw[numN_tail hj]
   simp only[selD_if,Nat.zero_add,Nat.mul_one,Nat.add_zero]
   match j,hj with
   |0,_=>rw[if_pos (by omega),if_pos (by omega),if_pos (by omega),if_neg (by omega),show 5+r.fn+0-(5+r.fn)=0 by omega];rfl
   |1,_=>rw[if_pos (by omega),if_pos (by omega),if_pos (by omega),if_neg (by omega),show 5+r.fn+1-(5+r.fn)=1 by omega];rfl
   |2,_=>rw[if_pos (by omega),if_pos (by omega),if_pos (by omega),if_neg (by omega),show 5+r.fn+2-(5+r.fn)=2 by omega];rfl
   |3,_=>rw[if_pos (by omega),if_pos (by omega),if_pos (by omega),if_neg (by omega),show 5+r.fn+3-(5+r.fn)=3 by omega];rfl
   |4,_=>rw[if_pos (by omega),if_pos (by omega),if_neg (by omega),show 5+r.fn+4-(5+r.fn+4)=0 by omega];rfl
   |5,_=>rw[if_pos (by omega),if_pos (by omega),if_neg (by omega),show 5+r.fn+5-(5+r.fn+4)=1 by omega];rfl
   |6,_=>rw[if_pos (by omega),if_pos (by omega),if_neg (by omega),show 5+r.fn+6-(5+r.fn+4)=2 by omega];rfl
   |7,_=>rw[if_pos (by omega),if_pos (by omega),if_neg (by omega),show 5+r.fn+7-(5+r.fn+4)=3 by omega];rfl
   |8,_=>rw[if_pos (by omega),if_neg (by omega),show 5+r.fn+8-(5+r.fn+4+4)=0 by omega];rfl
   |9,_=>rw[if_pos (by omega),if_neg (by omega),show 5+r.fn+9-(5+r.fn+4+4)=1 by omega];rfl
   |10,_=>rw[if_pos (by omega),if_neg (by omega),show 5+r.fn+10-(5+r.fn+4+4)=2 by omega];rfl
   |11,_=>rw[if_pos (by omega),if_neg (by omega),show 5+r.fn+11-(5+r.fn+4+4)=3 by omega];rfl
   |12,_=>rw[if_neg (by omega),show 5+r.fn+12-(5+r.fn+4+4+4)=0 by omega];rfl
   |13,_=>rw[if_neg (by omega),show 5+r.fn+13-(5+r.fn+4+4+4)=1 by omega];rfl
theorem agg_le{l m:List SV}(h:leSVs 0 [] [] l m):leSVs 0 [] [] [.agg l] [.agg m]:=by
 simp only[leSVs,leSV,and_true];exact h
noncomputable def cNum:Ctr:=fun ss=>match ss with
 |[.agg l]=>match relOf l with
  |some (r,p)=>.need p (.ret (.d (.ro (19+r.fn) 1 fun i _=>.x (.int .i64 (numN r i)))))
  |none=>.fail
 |_=>.fail
theorem cNum_ok:CtrOK Tryz.prog 49 cNum:=by
 refine ctrOK_leR CL_ok DL_ok (by kernel_rfl) (by kernel_rfl) fun ss r h=>?_
 unfold cNum at h
 split at h
 ·split at h
  ·rename_i l r p hr
   obtain⟨h1,rfl⟩:=h
   obtain⟨h2,h3⟩:=relOf_le hr h1
   have k:=of_sat h3
   refine⟨[.agg (relL r)],200,.nil,?_,?_⟩
   ·exact agg_le h2
   ·exact k
  ·exact h.elim
 ·exact h.elim
theorem cNumR_ok:CtrOK Tryz.prog 113 cNum:=by
 refine ctrOK_leR CL_ok DL_ok (by kernel_rfl) (by kernel_rfl) fun ss r h=>?_
 unfold cNum at h
 split at h
 ·split at h
  ·rename_i l r p hr
   obtain⟨h1,rfl⟩:=h
   obtain⟨h2,h3⟩:=relOf_le hr h1
   have k:=nu_sat h3
   refine⟨[.agg (relL r)],200,.nil,?_,?_⟩
   ·exact agg_le h2
   ·exact k
  ·exact h.elim
 ·exact h.elim
def dig(r:Rel):Int:=dgW (19+r.fn) (numN r)
noncomputable def manM:FuncId->Option Ctr:=fun k=>match k with
 |49=>some cNum
 |113=>some cNum
 |k=>manL k
theorem manM_ok(k:Nat)(c:Ctr)(h:manM k=some c):CtrOK Tryz.prog k c/\goodF Tryz.prog k=true:=by
 unfold manM at h
 split at h
 ·cases h;exact⟨cNum_ok,by kernel_rfl⟩
 ·cases h;exact⟨cNumR_ok,by kernel_rfl⟩
 ·exact manL_ok _ _ h
noncomputable def CM:Ctx:=ctxO Tryz.prog manM ownL (fun k=>k==81) 200 .nil 6
theorem CM_ok:CtxOK Tryz.prog CM:=ctxO_ok mixed manM_ok ownL_ok 6
noncomputable def DM:Dr:=fun _=>drawn Tryz.prog CM
theorem DM_ok:DrOK Tryz.prog CM DM:=drawn_ok CM_ok mixed
noncomputable def TM(h:Hint)(k:Nat)(args:List SV):Tree SV:=fnT Tryz.prog CM DM 200 (fnOf Tryz.prog k) (bodyOf Tryz.prog k) args h
noncomputable def LTg_q1(c:Nat->Int)(i:Nat)(x:Nat):DV :=
 DV.x (.int .i64 (c i))
noncomputable def LTg_q2(c:Nat->Int)(i:Nat):Int :=
 c i
noncomputable def LTg(key:Int)(n:Nat)(c:Nat->Int):Tree SV :=
  .need (I64C n (LTg_q1 c))
  (.need (true=true)
   (.need ((0:Int)<=(0:Int)/\(0:Int)<(1:Int))
   (.need (0<1)
   (.need ((0:Int)<=(32:Int))
   (.need (false=false)
   (.ret
   (SV.d
   (DV.x
   (.int .u64
   (IntKind.wrap .u64
   (IntKind.wrap .u64
   (↑(BitVec.toNat
   (BitVec.ofInt 64
   (IntKind.wrap .u64 (IntKind.wrap .u64 (↑(BitVec.toNat (BitVec.ofInt 64 key ^^^ BitVec.ofInt 64 (dgW n (LTg_q2 c)))):Int)*(15485907386658061715:Int))) ^^^
   BitVec.ofInt 64
   (Int.fdiv
   (IntKind.wrap .u64 (IntKind.wrap .u64 (↑(BitVec.toNat (BitVec.ofInt 64 key ^^^ BitVec.ofInt 64 (dgW n (LTg_q2 c)))):Int)*(15485907386658061715:Int)))
   (4294967296:Int)))) :
   Int) *
   (11562461410679940143:Int))))))))))))
theorem LTg_eq(key:Int)(n:Nat)(c:Nat->Int):TM (uN 1 .nil) 48 [u64v key,ro64 n c]=LTg key n c:=by kernel_rfl
noncomputable def LTr_q1(c:Nat->Int)(i:Nat)(x:Nat):DV :=
 DV.x (.int .i64 (c i))
noncomputable def LTr_q2(c:Nat->Int)(i:Nat):Int :=
 c i
noncomputable def LTr(key:Int)(n:Nat)(c:Nat->Int):Tree SV :=
  .need (I64C n (LTr_q1 c))
  (.need ((0:Int)<=(32:Int))
   (.ret
   (SV.d
   (DV.x
   (.int .u64
   (IntKind.wrap .u64
   (IntKind.wrap .u64
   (↑(BitVec.toNat
   (BitVec.ofInt 64
   (IntKind.wrap .u64 (IntKind.wrap .u64 (↑(BitVec.toNat (BitVec.ofInt 64 key ^^^ BitVec.ofInt 64 (dgW n (LTr_q2 c)))):Int)*(15485907386658061715:Int))) ^^^
   BitVec.ofInt 64
   (Int.fdiv (IntKind.wrap .u64 (IntKind.wrap .u64 (↑(BitVec.toNat (BitVec.ofInt 64 key ^^^ BitVec.ofInt 64 (dgW n (LTr_q2 c)))):Int)*(15485907386658061715:Int)))
   (4294967296:Int)))) :
   Int) *
   (11562461410679940143:Int))))))))
theorem LTr_eq(key:Int)(n:Nat)(c:Nat->Int):TM .nil 114 [u64v key,ro64 n c]=LTr key n c:=by kernel_rfl
noncomputable def LVdd(r:Rel):Tree SV :=
  .ret
  (bv
   (viB (Rel.b0 r) (Rel.b1 r) (Rel.b2 r) (Rel.b3 r)&&viB (Rel.b4 r) (Rel.b5 r) (Rel.b6 r) (Rel.b7 r)&&viB (Rel.b8 r) (Rel.b9 r) (Rel.b10 r) (Rel.b11 r)&&vB (Rel.pn r) (Rel.pd r)&&decide (Rel.pn r>(0:Int)) &&
   decide ((↑(Rel.fn r):Int)<=(8:Int))))
theorem LVdd_eq(r:Rel):TM .nil 46 [.agg (relL r)]=LVdd r:=by kernel_rfl
noncomputable def LCd(r:Rel):Tree SV :=
 .ret (bv (viB (Rel.b0 r) (Rel.b1 r) (Rel.b2 r) (Rel.b3 r)&&viB (Rel.b4 r) (Rel.b5 r) (Rel.b6 r) (Rel.b7 r)&&viB (Rel.b8 r) (Rel.b9 r) (Rel.b10 r) (Rel.b11 r)&&vB (Rel.pn r) (Rel.pd r)&&decide (Rel.pn r>(0:Int))))
theorem LCd_eq(r:Rel):TM .nil 85 [.agg (relL r)]=LCd r:=by kernel_rfl
noncomputable def LDg_q1(r:Rel)(i:Nat)(x:Nat):DV :=
 DV.x (.int .u64 (Rel.fc r i))
noncomputable def LDg_q2(r:Rel)(i:Nat)(x:Nat):DV :=
 DV.x (.int .i64 (numN r i))
noncomputable def LDg_q3(r:Rel)(i:Nat):Int :=
 numN r i
noncomputable def LDg(r:Rel):Tree SV :=
 .need (U64C (Rel.fn r) (LDg_q1 r)) (.need (I64C (19+Rel.fn r) (LDg_q2 r)) (.ret (SV.d (DV.x (.int .u64 (dgW (19+Rel.fn r) (LDg_q3 r)))))))
theorem LDg_eq(r:Rel):TM .nil 47 [.agg (relL r)]=LDg r:=by kernel_rfl
noncomputable def LDr_q1(r:Rel)(i:Nat)(x:Nat):DV :=
 DV.x (.int .u64 (Rel.fc r i))
noncomputable def LDr_q2(r:Rel)(i:Nat)(x:Nat):DV :=
 DV.x (.int .i64 (numN r i))
noncomputable def LDr_q3(r:Rel)(i:Nat):Int :=
 numN r i
noncomputable def LDr(r:Rel):Tree SV :=
 .need (U64C (Rel.fn r) (LDr_q1 r)) (.need (I64C (19+Rel.fn r) (LDr_q2 r)) (.ret (SV.d (DV.x (.int .u64 (dgW (19+Rel.fn r) (LDr_q3 r)))))))
theorem LDr_eq(r:Rel):TM .nil 86 [.agg (relL r)]=LDr r:=by kernel_rfl
noncomputable def LTR_q1(r:Rel)(i:Nat)(x:Nat):DV :=
 DV.x (.int .u64 (Rel.fc r i))
noncomputable def LTR_q2(r:Rel)(i:Nat)(x:Nat):DV :=
 DV.x (.int .i64 (numN r i))
noncomputable def LTR_q3(r:Rel)(i:Nat):Int :=
 numN r i
noncomputable def LTR(key:Int)(r:Rel):Tree SV :=
  .need (U64C (Rel.fn r) (LTR_q1 r))
  (.need (I64C (19+Rel.fn r) (LTR_q2 r))
   (.need ((0:Int)<=(32:Int))
   (.ret
   (SV.d
   (DV.x
   (.int .u64
   (IntKind.wrap .u64
   (IntKind.wrap .u64
   (↑(BitVec.toNat
   (BitVec.ofInt 64
   (IntKind.wrap .u64
   (IntKind.wrap .u64 (↑(BitVec.toNat (BitVec.ofInt 64 key ^^^ BitVec.ofInt 64 (dgW (19+Rel.fn r) (LTR_q3 r)))):Int)*(15485907386658061715:Int))) ^^^
   BitVec.ofInt 64
   (Int.fdiv
   (IntKind.wrap .u64
   (IntKind.wrap .u64 (↑(BitVec.toNat (BitVec.ofInt 64 key ^^^ BitVec.ofInt 64 (dgW (19+Rel.fn r) (LTR_q3 r)))):Int)*(15485907386658061715:Int)))
   (4294967296:Int)))) :
   Int) *
   (11562461410679940143:Int)))))))))
theorem LTR_eq(key:Int)(r:Rel):TM .nil 87 [u64v key,.agg (relL r)]=LTR key r:=by kernel_rfl
noncomputable def cTag:Ctr:=fun ss=>match ss with
 |[.d (.x (.int .u64 key)),.d d]=>match rowD 1 d with
  |some (n,cell)=>.need (I64C n cell) (.ret (u64v (stp key (dgW n (intCell cell)))))
  |none=>.fail
 |_=>.fail
theorem I64C.le2{n:Nat}{d:DV}{key:Int}{cell:Nat->Nat->DV}(h:rowD 1 d=some (n,cell))(k:I64C n cell):leSVs 0 [] [] [.d (.x (.int .u64 key)),.d d] [u64v key,ro64 n (intCell cell)]:=by
 simp only[leSVs,leSV,ro64,u64v,and_true]
 exact⟨by simp[leD],rowD_le h fun i j hi hj=>by
  obtain rfl:j=0:=by omega
  exact k.2 i hi⟩
theorem I64C.self{n:Nat}{c:Nat->Int}(h:n<=9223372036854775807):I64C n fun i _=>.x (.int .i64 (c i)):=⟨h,fun i hi=>rfl⟩
theorem cTag_ok:CtrOK Tryz.prog 48 cTag:=by
 refine ctrOK_leS CM_ok DM_ok (by kernel_rfl) (by kernel_rfl) fun ss r h=>?_
 unfold cTag at h
 split at h
 ·rename_i key d
  split at h
  ·rename_i n cell hr
   obtain⟨h1,rfl⟩:=h
   refine⟨[u64v key,ro64 n (intCell cell)],200,uN 1 .nil,h1.le2 hr,Sat.of_eq (LTg_eq key n (intCell cell)) ⟨?_⟩⟩
   unfold LTg
   exact⟨I64C.self h1.1,rfl,by decide,by decide,by decide,rfl,rfl⟩
  ·exact h.elim
 ·exact h.elim
theorem cTagL_ok:CtrOK Tryz.prog 114 cTag:=by
 refine ctrOK_leS CM_ok DM_ok (by kernel_rfl) (by kernel_rfl) fun ss r h=>?_
 unfold cTag at h
 split at h
 ·rename_i key d
  split at h
  ·rename_i n cell hr
   obtain⟨h1,rfl⟩:=h
   refine⟨[u64v key,ro64 n (intCell cell)],200,.nil,h1.le2 hr,Sat.of_eq (LTr_eq key n (intCell cell)) ⟨?_⟩⟩
   unfold LTr
   exact⟨I64C.self h1.1,by decide,rfl⟩
  ·exact h.elim
 ·exact h.elim
noncomputable def cdB(r:Rel):Bool:=viB r.b0 r.b1 r.b2 r.b3&&viB r.b4 r.b5 r.b6 r.b7&&viB r.b8 r.b9 r.b10 r.b11&&vB r.pn r.pd&&decide (r.pn>0)
noncomputable def vdB(r:Rel):Bool:=cdB r&&decide ((r.fn:Int)<=8)
noncomputable def cVd:Ctr:=fun ss=>match ss with
 |[.agg l]=>match relOf l with
  |some (r,p)=>.need p (.ret (bv (vdB r)))
  |none=>.fail
 |_=>.fail
noncomputable def cCd:Ctr:=fun ss=>match ss with
 |[.agg l]=>match relOf l with
  |some (r,p)=>.need p (.ret (bv (cdB r)))
  |none=>.fail
 |_=>.fail
theorem cVd_ok:CtrOK Tryz.prog 46 cVd:=by
 refine ctrOK_leS CM_ok DM_ok (by kernel_rfl) (by kernel_rfl) fun ss r h=>?_
 unfold cVd at h
 split at h
 ·rename_i l
  split at h
  ·rename_i r p hr
   obtain⟨h1,rfl⟩:=h
   obtain⟨h2,h3⟩:=relOf_le hr h1
   refine⟨[.agg (relL r)],200,.nil,agg_le h2,Sat.of_eq (LVdd_eq r) ⟨?_⟩⟩
   unfold LVdd;exact rfl
  ·exact h.elim
 ·exact h.elim
theorem cCd_ok:CtrOK Tryz.prog 85 cCd:=by
 refine ctrOK_leS CM_ok DM_ok (by kernel_rfl) (by kernel_rfl) fun ss r h=>?_
 unfold cCd at h
 split at h
 ·rename_i l
  split at h
  ·rename_i r p hr
   obtain⟨h1,rfl⟩:=h
   obtain⟨h2,h3⟩:=relOf_le hr h1
   refine⟨[.agg (relL r)],200,.nil,agg_le h2,Sat.of_eq (LCd_eq r) ⟨?_⟩⟩
   unfold LCd;exact rfl
  ·exact h.elim
 ·exact h.elim
theorem U64C.self{n:Nat}{c:Nat->Int}(h:n<=1000000):U64C n fun i _=>.x (.int .u64 (c i)):=⟨h,fun i hi=>rfl⟩
noncomputable def cDig:Ctr:=fun ss=>match ss with
 |[.agg l]=>match relOf l with
  |some (r,p)=>.need p (.ret (u64v (dig r)))
  |none=>.fail
 |_=>.fail
theorem cDig_ok:CtrOK Tryz.prog 47 cDig:=by
 refine ctrOK_leS CM_ok DM_ok (by kernel_rfl) (by kernel_rfl) fun ss r h=>?_
 unfold cDig at h
 split at h
 ·rename_i l
  split at h
  ·rename_i r p hr
   obtain⟨h1,rfl⟩:=h
   obtain⟨h2,h3⟩:=relOf_le hr h1
   refine⟨[.agg (relL r)],200,.nil,agg_le h2,Sat.of_eq (LDg_eq r) ⟨?_⟩⟩
   unfold LDg;exact⟨U64C.self h3,I64C.self (by omega),rfl⟩
  ·exact h.elim
 ·exact h.elim
theorem cDigR_ok:CtrOK Tryz.prog 86 cDig:=by
 refine ctrOK_leS CM_ok DM_ok (by kernel_rfl) (by kernel_rfl) fun ss r h=>?_
 unfold cDig at h
 split at h
 ·rename_i l
  split at h
  ·rename_i r p hr
   obtain⟨h1,rfl⟩:=h
   obtain⟨h2,h3⟩:=relOf_le hr h1
   refine⟨[.agg (relL r)],200,.nil,agg_le h2,Sat.of_eq (LDr_eq r) ⟨?_⟩⟩
   unfold LDr;exact⟨U64C.self h3,I64C.self (by omega),rfl⟩
  ·exact h.elim
 ·exact h.elim
noncomputable def cTagR:Ctr:=fun ss=>match ss with
 |[.d (.x (.int .u64 key)),.agg l]=>match relOf l with
  |some (r,p)=>.need p (.ret (u64v (stp key (dig r))))
  |none=>.fail
 |_=>.fail
theorem cTagR_ok:CtrOK Tryz.prog 87 cTagR:=by
 refine ctrOK_leS CM_ok DM_ok (by kernel_rfl) (by kernel_rfl) fun ss r h=>?_
 unfold cTagR at h
 split at h
 ·rename_i key l
  split at h
  ·rename_i r p hr
   obtain⟨h1,rfl⟩:=h
   obtain⟨h2,h3⟩:=relOf_le hr h1
   refine⟨[u64v key,.agg (relL r)],200,.nil,?_,Sat.of_eq (LTR_eq key r) ⟨?_⟩⟩
   ·simp only[leSVs,leSV,u64v,and_true];exact⟨by simp[leD],h2⟩
   ·unfold LTR;exact⟨U64C.self h3,I64C.self (by omega),by decide,rfl⟩
  ·exact h.elim
 ·exact h.elim
end Go.Proofs.YtanlnopgadbpjaaGreat
namespace Go.Sx
structure MsT where
 n:Nat
 b:Nat->Int
def msC(m:MsT):Nat->DV
 |0=>.ro m.n 1 fun j _=>.x (.int .u8 (m.b j))
 |_+1=>.x undef
def msR(c:Nat->DV):MsT:=⟨lenV (c 0),fun j=>numV (cellV (c 0) j 0)⟩
noncomputable def msS(n:Nat)(f:Nat->MsT):SV:=.d (.ro n 1 fun i j=>msC (f i) j)
def _root_.Go.Proofs.MsD(n:Nat)(F:Nat->Nat->DV):Prop:=n<=1000/\∀i,i<n->F i 0=msC (msR (F i)) 0/\(msR (F i)).n<=256
theorem msD_le{n:Nat}{F:Nat->Nat->DV}(h:Proofs.MsD n F):leSV 0 [] [] (.d (.ro n 1 F)) (msS n fun i=>msR (F i)) :=
 ⟨rfl,rfl,fun i j hi hj=>by rw[show j=0 by omega];exact(h.2 i hi).1⟩
theorem msD_of{n:Nat}{f:Nat->MsT}(hn:n<=1000)(h:∀i,i<n->(f i).n<=256):Proofs.MsD n fun i j=>msC (f i) j:=⟨hn,fun i hi=>⟨rfl,h i hi⟩⟩
def catN(b:Nat->Int)(x y z:Int):Nat->Int
 |0=>x
 |1=>y
 |2=>z
 |j+3=>w64 (b j)
noncomputable def catC(b:Nat->Int)(x y z:Int)(i j:Nat):DV:=.x (.int .i64 (catN b x y z i))
end Go.Sx
namespace Go.Proofs.YtanlnopgadbpjaaGreat.Rw
open Go.Proofs.YtanlnopgadbpjaaGreat.Rm
open Go.Sx
noncomputable def tgN(key:Int)(n:Nat)(b:Nat->Int)(x y z:Int):Int:=stp key (dgW (3+n) (catN b x y z))
noncomputable def t52(n:Nat)(f:Nat->MsT):Tree SV:=fnT Tryz.prog C00 D00 200 (fnOf Tryz.prog 52) (bodyOf Tryz.prog 52) [msS n f] .nil
section
variable (n : Nat) (f : Nat → MsT) (i : Int)
noncomputable def st52:AS:=⟨slN 16 [(0,msS n f),(2,bv false),(3,iv i)],[],0,.nil⟩
noncomputable def b52:Tree (Ex×AS):=cutT 0 [] [0,2,3] [] 0 .nil (exec Tryz.prog C00 D00 200 (loopN (bodyOf Tryz.prog 52) 0) (st52 n f i))
theorem L52_eq:t52 n f=atCode (sub [] (t52 n f)):=by kernel_rfl
theorem E52_eq:entA 0 [] [0,2,3] [] 0 .nil (sub [] (t52 n f))=some (st52 n f 0):=by kernel_rfl
theorem B52_eq:b52 n f i=.ite (decide (i<(n:Int))) (.need (0<=i/\i<(n:Int)) (.ite (decide (((f i.toNat).n:Int)>256)) (.ret (.ret,st52 n f i)) (.ret (.normal,st52 n f (w64 (i+1)))))) (.ret (.exit 0,st52 n f i)):=by kernel_rfl
theorem K52_eq:codeK (sub [] (t52 n f)) (.exit 0) (st52 n f i)=.ret (bv true):=by kernel_rfl
end
theorem s52{n:Nat}{f:Nat->MsT}(hn:n<=1000)(hf:∀i,i<n->(f i).n<=256):Sat Tryz.prog (t52 n f) (·=bv true):=by
 refine Sat.of_eq (L52_eq n f) ⟨?_⟩
 refine for_satS C00_ok D00_ok (n:=200) (n0:=0) (nx:=0) (roots:=[]) (keep:=[0,2,3]) (drop:=[]) (h:=.nil) (body:=loopN (bodyOf Tryz.prog 52) 0) (by kernel_rfl) (by kernel_rfl) n (fun i=>st52 n f i) (fun i=>True)
  (fun e t=>e=.exit 0/\t=st52 n f n) trivial (entA_sound (E52_eq n f)) ?_ ?_ ?_
 ·intro i hi _
  have:=hf i hi
  refine Sat.of_eq (B52_eq n f i) ⟨fun _=>⟨by omega,fun h=>?_,fun h=>.inl ⟨rfl,trivial,?_⟩⟩,fun h1=>by simp only[decide_eq_false_iff_not] at h1;omega⟩
  ·rw[Int.toNat_natCast,decide_eq_true_eq] at h;omega
  ·rw[w64_succ hi (by omega)];exact Gc.refl _ _
 ·intro _
  exact Sat.of_eq (B52_eq n f n) ⟨fun h1=>by simp only[decide_eq_true_eq] at h1;omega,fun _=>⟨nofun,rfl,rfl⟩⟩
 ·rintro e t ⟨rfl,rfl⟩
  exact Sat.of_eq (K52_eq n f n) ⟨rfl⟩
noncomputable def c52:Ctr:=fun ss=>match ss with
 |[.d (.ro n 1 F)]=>.need (MsD n F) (.ret (bv true))
 |[.d (.x (.slice none 0 0))]=>.ret (bv true)
 |_=>.fail
theorem c52_ok:CtrOK Tryz.prog 52 c52:=ctrOK_leS C00_ok D00_ok (by kernel_rfl) (by kernel_rfl) fun ss r h=>by
 unfold c52 at h
 split at h
 ·rename_i n F
  obtain⟨hF,rfl⟩:=h
  exact⟨[msS n fun i=>msR (F i)],200,.nil,by simp only[leSVs,and_true];exact msD_le hF,s52 hF.1 fun i hi=>(hF.2 i hi).2⟩
 ·cases h
  exact⟨[msS 0 fun i=>⟨0,fun _=>0⟩],200,.nil,by simp only[leSVs,and_true];exact⟨rfl,rfl⟩,s52 (by omega) fun i hi=>by omega⟩
 ·exact h.elim
noncomputable def manTg:FuncId->Option Ctr:=fun k=>match k with
 |48=>some cTag
 |_=>none
theorem manTg_ok(k:Nat)(c:Ctr)(hk:manTg k=some c):CtrOK Tryz.prog k c/\goodF Tryz.prog k=true:=by
 unfold manTg at hk
 split at hk
 ·cases hk;exact⟨cTag_ok,by kernel_rfl⟩
 ·cases hk
noncomputable def CTg:Ctx:=ctxN Tryz.prog manTg (fun _=>false) 200 .nil 6
theorem CTg_ok:CtxOK Tryz.prog CTg:=ctxN_ok mixed manTg_ok 6
noncomputable def DTg:Dr:=drawnL Tryz.prog CTg
theorem DTg_ok:DrOK Tryz.prog CTg DTg:=drawnL_ok CTg_ok mixed
section
variable (key : Int) (n : Nat) (b : Nat → Int) (x y z : Int)
noncomputable def t94:Tree (SV×AS):=inlT Tryz.prog CTg DTg 200 94 [u64v key,nmS .u8 n b,.row 0 0 0 3 1] ⟨[],[some (.cells [iv x,iv y,iv z])],1,.nil⟩
variable (m : Nat) (c : Nat → Nat → Sx.DV) (i : Int)
noncomputable def st94:AS:=⟨slN 24 [(0,u64v key),(2,.row 1 0 0 m 1),(9,nmS .u8 n b),(10,iv n),(11,iv i)],[none,some (.row m 1 c)],2,.nil⟩
noncomputable def b94:Tree (Ex×AS):=cutT 1 [(.slot 2,1)] [0,2,9,10,11] [0] 2 .nil (exec Tryz.prog CTg DTg 200 (loopN (bodyOf Tryz.prog 94) 0) (st94 key n b m c i))
theorem L94_eq:t94 key n b x y z=atCode (sub [] (t94 key n b x y z)):=by kernel_rfl
theorem E94_eq:entA 1 [(.slot 2,1)] [0,2,9,10,11] [0] 2 .nil (sub [] (t94 key n b x y z))=some ⟨slN 24 [(0,u64v key),(2,.row 1 0 0 3 1),(9,nmS .u8 n b),(10,iv n),(11,iv 0)],[none,some (.cells [iv x,iv y,iv z])],2,.nil⟩:=by kernel_rfl
theorem B94_eq:b94 key n b m c i=.ite (decide (i<(n:Int))) (.need (0<=i/\i<(n:Int)) (.need (0+m<=m/\1<=1/\(m+1)*8<=140737488355328) (.ret (.normal,st94 key n b (m+1) (selA 1 m c [.x (.int .i64 (w64 (b i.toNat)))]) (w64 (i+1)))))) (.ret (.exit 0,st94 key n b m c i)):=by kernel_rfl
noncomputable def leafQ:Tree (SV×AS)->SV×AS
 |.ret s=>s
 |.need _ t=>leafQ t
 |_=>(uv,⟨[],[],0,.nil⟩)
noncomputable def q94:SV×AS:=leafQ (codeK (sub [] (t94 key n b x y z)) (.exit 0) (st94 key n b m c i))
theorem K94_eq:codeK (sub [] (t94 key n b x y z)) (.exit 0) (st94 key n b m c i)=.need (0+m<=m) (.need (I64C m fun i j=>c (0+i) j) (.ret (q94 key n b x y z m c i))):=by kernel_rfl
theorem Q94_eq:gcA 1 [] [0] [] 1 .nil ⟨[.ok (q94 key n b x y z m c i).1],(q94 key n b x y z m c i).2.hp,(q94 key n b x y z m c i).2.next,.nil⟩=some ⟨[.ok (u64v (stp key (dgW m (intCell fun i j=>c (0+i) j))))],[none],1,.nil⟩:=by kernel_rfl
end
theorem s94{key:Int}{n:Nat}{b:Nat->Int}{x y z:Int}(hn:n<=1000000000):Sat Tryz.prog (t94 key n b x y z) fun q=>Gc 1 ⟨[.ok q.1],q.2.hp,q.2.next,.nil⟩ ⟨[.ok (u64v (tgN key n b x y z))],[none],1,.nil⟩:=by
 refine Sat.of_eq (L94_eq key n b x y z) ⟨?_⟩
 refine for_satS CTg_ok DTg_ok (n:=200) (n0:=1) (nx:=2) (roots:=[(.slot 2,1)]) (keep:=[0,2,9,10,11]) (drop:=[0]) (h:=.nil) (body:=loopN (bodyOf Tryz.prog 94) 0) (by kernel_rfl) (by kernel_rfl) n (fun i=>st94 key n b (3+i) (catC b x y z) i) (fun i=>True)
  (fun e t=>e=.exit 0/\t=st94 key n b (3+n) (catC b x y z) n) trivial ?_ ?_ ?_ ?_
 ·refine(entA_sound (E94_eq key n b x y z)).trans ?_
  exact gc_hp rfl rfl ⟨.inl rfl,.inr ⟨_,_,rfl,rfl,.cells rfl fun i j hi hj=>(by
   obtain rfl:j=0:=by omega
   have:i=0\/i=1\/i=2:=by omega
   rcases this with rfl|rfl|rfl<;>rfl)⟩,trivial⟩
 ·intro i hi _
  refine Sat.of_eq (B94_eq key n b (3+i) (catC b x y z) i) ⟨fun _=>⟨by omega,by omega,.inl ⟨rfl,trivial,?_⟩⟩,fun h1=>by simp only[decide_eq_false_iff_not] at h1;omega⟩
  rw[w64_succ hi (by omega),Int.toNat_natCast]
  exact gc_hp rfl rfl ⟨.inl rfl,.inr ⟨_,_,rfl,rfl,.row fun a b' ha hb=>app_fun (c:=catC b x y z) (m:=3+i) (fun b' hb=>by
   obtain rfl:b'=0:=by omega
   show Sx.DV.x _=Sx.DV.x (.int .i64 (catN b x y z (3+i)))
   rw[Nat.add_comm 3 i];rfl) ha hb⟩,trivial⟩
 ·intro _
  exact Sat.of_eq (B94_eq key n b (3+n) (catC b x y z) n) ⟨fun h1=>by simp only[decide_eq_true_eq] at h1;omega,fun _=>⟨nofun,rfl,rfl⟩⟩
 ·rintro e t ⟨rfl,rfl⟩
  refine Sat.of_eq (K94_eq key n b x y z (3+n) (catC b x y z) n) ⟨by omega,⟨by omega,fun i hi=>rfl⟩,?_⟩
  have:=gcA_sound (Q94_eq key n b x y z (3+n) (catC b x y z) n)
  have e1:stp key (dgW (3+n) (intCell fun i j=>catC b x y z (0+i) j))=tgN key n b x y z:=by
   unfold tgN
   rw[dgW_congr fun i hi=>?_]
   show catN b x y z (0+i)=catN b x y z i
   rw[Nat.zero_add]
  rw[e1] at this
  exact this
noncomputable def mTg:MCtr:=fun args hp nx=>match args,hp,nx with
 |[.d (.x (.int .u64 key)),.d (.ro n 1 D),.row 0 0 0 3 1],[some (.cells [.d (.x (.int .i64 x)),.d (.x (.int .i64 y)),.d (.x (.int .i64 z))])],1=>.need (ByD n D) (.ret (u64v (tgN key n (fun j=>numV (D j 0)) x y z),[none],1))
 |_,_,_=>.fail
theorem mTg_ok:MuOK Tryz.prog 94 mTg:=by
 refine muOK_walk CTg_ok DTg_ok fun args hp nx r hr=>?_
 unfold mTg at hr
 split at hr
 ·rename_i key n D x y z
  obtain⟨⟨hn,hD⟩,rfl⟩:=hr
  refine⟨[u64v key,nmS .u8 n fun j=>numV (D j 0),.row 0 0 0 3 1],_,200,.nil,hpLe_refl _,fun w μ F vs h=>?_,s94 hn⟩
  refine⟨h.1,fun i hi=>?_⟩
  have h1:=h.2 i hi
  match i,hi,h1 with
  |0,_,h1=>exact h1
  |1,_,h1 =>
   exact rep_noId (leSV_sound (next:=0) (hp:=[]) (n0:=0) (ρ:=[]) (nils:=[]) (s':=nmS .u8 n fun j=>numV (D j 0)) rfl h1 ⟨rfl,rfl,fun i j hi hj=>by rw[show j=0 by omega];exact hD i hi⟩) rfl
  |2,_,h1=>exact h1
 ·exact hr.elim
noncomputable def selTg:List SV->Heap->Option (List Nat):=fun args hp=>match args with
 |[_,_,.row l _ _ _ _]=>some [l]
 |_=>none
noncomputable def mTgB:MCtr:=mcB selTg mTg
theorem mTgB_ok:MuOK Tryz.prog 94 mTgB:=mcB_ok mTg_ok
end Go.Proofs.YtanlnopgadbpjaaGreat.Rw
namespace Go.Sx
noncomputable def lkS(key:Int)(no:Nat)(fo:Nat->MsT)(base:Int)(ni:Nat)(fi:Nat->MsT)(rc:Int):SV:=.agg [.d (.x (.int .u64 key)),msS no fo,iv base,msS ni fi,iv rc]
noncomputable def pkS(seq ack:Int)(m:MsT)(ck:Int):SV:=.agg [iv seq,iv ack,.d (msC m 0),.d (.x (.int .u64 ck))]
def ms0:MsT:=⟨0,fun _=>0⟩
def _root_.Go.Proofs.LkD(no:Nat)(FO:Nat->Nat->DV)(ni:Nat)(FI:Nat->Nat->DV):Prop:=Proofs.MsD no FO/\Proofs.MsD ni FI
def _root_.Go.Proofs.VlD(no:Nat)(base:Int)(ni:Nat)(rc:Int):Prop:=no<=32/\ni<=64/\0<=base/\base+no<=1000000000/\(ni:Int)<=rc/\rc<=1000000000
def msF(F:Nat->Nat->DV)(i:Nat):MsT:=msR (F i)
def msN(n:Nat)(D:Nat->Nat->DV):MsT:=⟨n,fun j=>numV (D j 0)⟩
theorem lk_le{key base rc:Int}{no ni:Nat}{FO FI:Nat->Nat->DV}(h:Proofs.LkD no FO ni FI):leSV 0 [] [] (.agg [.d (.x (.int .u64 key)),.d (.ro no 1 FO),.d (.x (.int .i64 base)),.d (.ro ni 1 FI),.d (.x (.int .i64 rc))]) (lkS key no (msF FO) base ni (msF FI) rc):=by
 unfold lkS iv
 simp only[leSV,leSVs,leD,and_true,true_and]
 exact⟨msD_le h.1,msD_le h.2⟩
end Go.Sx
namespace Go.Proofs.YtanlnopgadbpjaaGreat.Rw
open Go.Proofs.YtanlnopgadbpjaaGreat.Rm
open Go.Sx
noncomputable def manQ:FuncId->Option Ctr:=fun k=>match k with
 |52=>some c52
 |55=>some c55
 |_=>none
theorem manQ_ok(k:Nat)(c:Ctr)(hk:manQ k=some c):CtrOK Tryz.prog k c/\goodF Tryz.prog k=true:=by
 unfold manQ at hk
 split at hk
 ·cases hk;exact⟨c52_ok,by kernel_rfl⟩
 ·cases hk;exact⟨c55_ok,by kernel_rfl⟩
 ·cases hk
noncomputable def muQ:FuncId->Option MCtr:=fun k=>match k with
 |94=>some mTgB
 |_=>none
theorem muQ_ok(k:FuncId)(m:MCtr)(hk:muQ k=some m):MuOK Tryz.prog k m:=by
 unfold muQ at hk
 split at hk
 ·cases hk;exact mTgB_ok
 ·cases hk
def inlQ(k:FuncId):Bool:=Nat.beq k 53||Nat.beq k 54||Nat.beq k 88||Nat.beq k 70||Nat.beq k 94
noncomputable def CQb:Ctx:=ctxN Tryz.prog manQ inlQ 200 .nil 6
theorem CQb_ok:CtxOK Tryz.prog CQb:=ctxN_ok mixed manQ_ok 6
noncomputable def CQt:Ctx:=withMu Tryz.prog CQb muQ
theorem CQt_ok:CtxOK Tryz.prog CQt:=withMu_ok CQb_ok muQ_ok
noncomputable def DQt:Dr:=drawnL Tryz.prog CQt
theorem DQt_ok:DrOK Tryz.prog CQt DQt:=drawnL_ok CQt_ok mixed
noncomputable def tQ(k:Nat)(args:List SV):Tree SV:=fnT Tryz.prog CQt DQt 200 (fnOf Tryz.prog k) (bodyOf Tryz.prog k) args .nil
def acB(key:Int)(no:Nat)(base sq ak:Int)(m:MsT):Bool:=decide (sq<(-1:Int))||decide (sq<(0:Int))&&decide ((m.n:Int)>(0:Int))||decide (ak<(0:Int))||decide (w64 (ak-base)>(no:Int))||decide ((m.n:Int)>(256:Int))
section
variable (key : Int) (no : Nat) (fo : Nat → MsT) (base : Int) (ni : Nat) (fi : Nat → MsT) (rc sq ak : Int) (m : MsT) (ck : Int)
theorem L17_eq:tQ 17 [u64v key]=.ret (.tup [.agg [u64v key,nilS,iv 0,nilS,iv 0],.agg [u64v (xorV key 1),nilS,iv 0,nilS,iv 0]]):=by kernel_rfl
theorem L18_eq:tQ 18 [lkS key no fo base ni fi rc]=.need ((decide ((no:Int)>32)||decide ((ni:Int)>64))=false->MsD no fun i j=>msC (fo i) j) (.need ((decide ((no:Int)>32)||decide ((ni:Int)>64)||false)=false->MsD ni fun i j=>msC (fi i) j)
   (.ite (decide ((no:Int)>32)||decide ((ni:Int)>64)||false||false) (.ret (bv false)) (.ret (bv (decide (base>=0)&&decide (base<=w64 (1000000000-(no:Int)))&&decide (rc>=(ni:Int))&&decide (rc<=1000000000)))))):=by kernel_rfl
theorem L68_eq:tQ 68 [lkS key no fo base ni fi rc,iv sq,.d (msC m 0)]=.need (ByD m.n fun j x=>.x (.int .u8 (m.b j))) (.need (ByD m.n fun j x=>.x (.int .u8 (m.b j))) (.ret (pkS sq rc m (tgN (xorV key 1) m.n m.b sq rc m.n)))):=by kernel_rfl
theorem L69_eq:tQ 69 [lkS key no fo base ni fi rc,pkS sq ak m ck]=.ite (acB key no base sq ak m) (.ret (bv false)) (.need (ByD m.n fun j x=>.x (.int .u8 (m.b j))) (.ret (bv (ck==tgN key m.n m.b sq ak m.n)))):=by kernel_rfl
end
noncomputable def c17:Ctr:=fun ss=>match ss with
 |[.d (.x (.int .u64 key))]=>.ret (.tup [lkS key 0 (fun _=>ms0) 0 0 (fun _=>ms0) 0,lkS (xorV key 1) 0 (fun _=>ms0) 0 0 (fun _=>ms0) 0])
 |_=>.fail
theorem c17_ok:CtrOK Tryz.prog 17 c17:=ctrOK_leR CQt_ok DQt_ok (by kernel_rfl) (by kernel_rfl) fun ss r h=>by
 unfold c17 at h
 split at h
 ·rename_i key
  cases h
  refine⟨[u64v key],200,.nil,by simp[leSVs,leSV,leD,u64v],Sat.of_eq (L17_eq key) ⟨?_⟩⟩
  show leSV 0 [] [] (SV.tup _) (SV.tup _)
  simp[leSV,leSVs,leD,lkS,iv,u64v,nilS,msS]
 ·exact h.elim
noncomputable def c18:Ctr:=fun ss=>match ss with
 |[.agg [.d (.x (.int .u64 key)),.d (.ro no 1 FO),.d (.x (.int .i64 base)),.d (.ro ni 1 FI),.d (.x (.int .i64 rc))]]=>.need (LkD no FO ni FI/\VlD no base ni rc) (.ret (bv true))
 |_=>.fail
theorem c18_ok:CtrOK Tryz.prog 18 c18:=ctrOK_leS CQt_ok DQt_ok (by kernel_rfl) (by kernel_rfl) fun ss r h=>by
 unfold c18 at h
 split at h
 ·rename_i key no FO base ni FI rc
  obtain⟨⟨h1,h2,h3,h4,h5,h6,h7⟩,rfl⟩:=h
  refine⟨[lkS key no (msF FO) base ni (msF FI) rc],200,.nil,by simp only[leSVs,and_true];exact lk_le h1,Sat.of_eq (L18_eq key no (msF FO) base ni (msF FI) rc) ⟨fun _=>msD_of h1.1.1 fun i hi=>(h1.1.2 i hi).2,fun _=>msD_of h1.2.1 fun i hi=>(h1.2.2 i hi).2,fun h=>?_,fun h=>?_⟩⟩
  ·simp only[Bool.or_false,Bool.or_eq_true,decide_eq_true_eq] at h;omega
  ·show bv _=bv true
   congr 1
   simp only[Bool.and_eq_true,decide_eq_true_eq]
   rw[Go.Proofs.YtanlnopgadbpjaaGreat.w64_of (by omega) (by omega)]
   omega
 ·exact h.elim
noncomputable def c68:Ctr:=fun ss=>match ss with
 |[.agg [.d (.x (.int .u64 key)),.d (.ro no 1 FO),.d (.x (.int .i64 base)),.d (.ro ni 1 FI),.d (.x (.int .i64 rc))],.d (.x (.int .i64 sq)),.d (.ro n 1 D)]=>.need (LkD no FO ni FI/\ByD n D) (.ret (pkS sq rc (msN n D) (tgN (xorV key 1) n (msN n D).b sq rc n)))
 |[.agg [.d (.x (.int .u64 key)),.d (.ro no 1 FO),.d (.x (.int .i64 base)),.d (.ro ni 1 FI),.d (.x (.int .i64 rc))],.d (.x (.int .i64 sq)),.d (.x (.slice none 0 0))]=>.need (LkD no FO ni FI) (.ret (pkS sq rc ms0 (tgN (xorV key 1) 0 ms0.b sq rc 0)))
 |_=>.fail
theorem byD_of{m:MsT}(h:m.n<=1000000000):ByD m.n fun j x=>.x (.int .u8 (m.b j)):=⟨h,fun i hi=>rfl⟩
theorem c68_ok:CtrOK Tryz.prog 68 c68:=ctrOK_leS CQt_ok DQt_ok (by kernel_rfl) (by kernel_rfl) fun ss r h=>by
 unfold c68 at h
 split at h
 ·rename_i key no FO base ni FI rc sq n D
  obtain⟨⟨h1,h2⟩,rfl⟩:=h
  exact⟨[lkS key no (msF FO) base ni (msF FI) rc,iv sq,.d (msC (msN n D) 0)],200,.nil,by
   simp only[leSVs,and_true]
   exact⟨lk_le h1,rfl,rfl,rfl,fun i j hi hj=>by rw[show j=0 by omega];exact h2.2 i hi⟩,Sat.of_eq (L68_eq key no (msF FO) base ni (msF FI) rc sq (msN n D)) ⟨byD_of h2.1,byD_of h2.1,rfl⟩⟩
 ·rename_i key no FO base ni FI rc sq
  obtain⟨h1,rfl⟩:=h
  exact⟨[lkS key no (msF FO) base ni (msF FI) rc,iv sq,.d (msC ms0 0)],200,.nil,by
   simp only[leSVs,and_true]
   exact⟨lk_le h1,rfl,rfl,rfl⟩,Sat.of_eq (L68_eq key no (msF FO) base ni (msF FI) rc sq ms0) ⟨byD_of (by decide),byD_of (by decide),rfl⟩⟩
 ·exact h.elim
noncomputable def c69:Ctr:=fun ss=>match ss with
 |[.agg [.d (.x (.int .u64 key)),.d (.ro no 1 FO),.d (.x (.int .i64 base)),.d (.ro ni 1 FI),.d (.x (.int .i64 rc))],.agg [.d (.x (.int .i64 sq)),.d (.x (.int .i64 ak)),.d (.ro n 1 D),.d (.x (.int .u64 ck))]]=>.need (LkD no FO ni FI/\ByD n D) (.ret (bv (!(acB key no base sq ak (msN n D))&&(ck==tgN key n (msN n D).b sq ak n))))
 |_=>.fail
theorem c69_ok:CtrOK Tryz.prog 69 c69:=ctrOK_leS CQt_ok DQt_ok (by kernel_rfl) (by kernel_rfl) fun ss r h=>by
 unfold c69 at h
 split at h
 ·rename_i key no FO base ni FI rc sq ak n D ck
  obtain⟨⟨h1,h2⟩,rfl⟩:=h
  refine⟨[lkS key no (msF FO) base ni (msF FI) rc,pkS sq ak (msN n D) ck],200,.nil,?_,Sat.of_eq (L69_eq key no (msF FO) base ni (msF FI) rc sq ak (msN n D) ck) ⟨fun h=>?_,fun h=>⟨byD_of h2.1,?_⟩⟩⟩
  ·simp only[leSVs,and_true]
   refine⟨lk_le h1,?_⟩
   unfold pkS iv
   simp only[leSV,leSVs,leD,and_true,true_and,msC]
   exact⟨rfl,fun i j hi hj=>by rw[show j=0 by omega];exact h2.2 i hi⟩
  ·rw[h];rfl
  ·rw[h];rfl
 ·exact h.elim
noncomputable def manR:FuncId->Option Ctr:=fun k=>match k with
 |55=>some c55
 |68=>some c68
 |69=>some c69
 |_=>none
theorem manR_ok(k:Nat)(c:Ctr)(hk:manR k=some c):CtrOK Tryz.prog k c/\goodF Tryz.prog k=true:=by
 unfold manR at hk
 split at hk
 ·cases hk;exact⟨c55_ok,by kernel_rfl⟩
 ·cases hk;exact⟨c68_ok,by kernel_rfl⟩
 ·cases hk;exact⟨c69_ok,by kernel_rfl⟩
 ·cases hk
def inlR(k:FuncId):Bool:=Nat.beq k 53||Nat.beq k 54||Nat.beq k 88||Nat.beq k 70
noncomputable def CRt:Ctx:=ctxN Tryz.prog manR inlR 200 .nil 6
theorem CRt_ok:CtxOK Tryz.prog CRt:=ctxN_ok mixed manR_ok 6
noncomputable def DRt:Dr:=drawnL Tryz.prog CRt
theorem DRt_ok:DrOK Tryz.prog CRt DRt:=drawnL_ok CRt_ok mixed
noncomputable def tR(k:Nat)(args:List SV):Tree SV:=fnT Tryz.prog CRt DRt 200 (fnOf Tryz.prog k) (bodyOf Tryz.prog k) args .nil
section
variable (key : Int) (no : Nat) (fo : Nat → MsT) (base : Int) (ni : Nat) (fi : Nat → MsT) (rc : Int)
theorem L56_eq:tR 56 [lkS key no fo base ni fi rc]=.need (LkD no (fun i j=>msC (fo i) j) ni fun i j=>msC (fi i) j) (.ret (pkS (-1) rc ms0 (tgN (xorV key 1) 0 ms0.b (-1) rc 0))):=by kernel_rfl
theorem L33_eq(i:Int):tR 33 [lkS key no fo base ni fi rc,iv i]=.ite (decide (i<0)||decide (i>=(no:Int))) (.ret (.tup [.agg [iv 0,iv 0,nilS,u64v 0],iv 4]))
 (.need (0<=i/\i<(no:Int)) (.need (LkD no (fun i j=>msC (fo i) j) ni (fun i j=>msC (fi i) j)/\ByD (fo i.toNat).n fun j x=>.x (.int .u8 ((fo i.toNat).b j))) (.ret (.tup [pkS (w64 (base+i)) rc (fo i.toNat) (tgN (xorV key 1) (fo i.toNat).n (fo i.toNat).b (w64 (base+i)) rc (fo i.toNat).n),iv 0])))):=by kernel_rfl
end
theorem lkD_of{no ni:Nat}{FO FI:Nat->Nat->Sx.DV}(h:LkD no FO ni FI):LkD no (fun i j=>msC (msF FO i) j) ni fun i j=>msC (msF FI i) j:=⟨msD_of h.1.1 fun i hi=>(h.1.2 i hi).2,msD_of h.2.1 fun i hi=>(h.2.2 i hi).2⟩
noncomputable def c56:Ctr:=fun ss=>match ss with
 |[.agg [.d (.x (.int .u64 key)),.d (.ro no 1 FO),.d (.x (.int .i64 base)),.d (.ro ni 1 FI),.d (.x (.int .i64 rc))]]=>.need (LkD no FO ni FI) (.ret (pkS (-1) rc ms0 (tgN (xorV key 1) 0 ms0.b (-1) rc 0)))
 |_=>.fail
theorem c56_ok:CtrOK Tryz.prog 56 c56:=ctrOK_leS CRt_ok DRt_ok (by kernel_rfl) (by kernel_rfl) fun ss r h=>by
 unfold c56 at h
 split at h
 ·rename_i key no FO base ni FI rc
  obtain⟨h1,rfl⟩:=h
  exact⟨[lkS key no (msF FO) base ni (msF FI) rc],200,.nil,by simp only[leSVs,and_true];exact lk_le h1,Sat.of_eq (L56_eq key no (msF FO) base ni (msF FI) rc) ⟨lkD_of h1,rfl⟩⟩
 ·exact h.elim
noncomputable def c33:Ctr:=fun ss=>match ss with
 |[.agg [.d (.x (.int .u64 key)),.d (.ro no 1 FO),.d (.x (.int .i64 base)),.d (.ro ni 1 FI),.d (.x (.int .i64 rc))],.d (.x (.int .i64 i))]=>.need (LkD no FO ni FI) (.ite (decide (i<0)||decide (i>=(no:Int))) (.ret (.tup [.agg [iv 0,iv 0,nilS,u64v 0],iv 4]))
   (.ret (.tup [pkS (w64 (base+i)) rc (msF FO i.toNat) (tgN (xorV key 1) (msF FO i.toNat).n (msF FO i.toNat).b (w64 (base+i)) rc (msF FO i.toNat).n),iv 0])))
 |_=>.fail
theorem c33_ok:CtrOK Tryz.prog 33 c33:=ctrOK_leS CRt_ok DRt_ok (by kernel_rfl) (by kernel_rfl) fun ss r h=>by
 unfold c33 at h
 split at h
 ·rename_i key no FO base ni FI rc i
  obtain⟨h1,h2⟩:=h
  refine⟨[lkS key no (msF FO) base ni (msF FI) rc,iv i],200,.nil,by simp only[leSVs,and_true];exact⟨lk_le h1,rfl⟩,Sat.of_eq (L33_eq key no (msF FO) base ni (msF FI) rc i) ⟨fun h=>?_,fun h=>?_⟩⟩
  ·rcases h2 with⟨_,h2⟩|⟨h3,_⟩
   ·exact h2.symm
   ·rw[h] at h3;cases h3
  ·have h4:=h
   simp only[Bool.or_eq_false_iff,decide_eq_false_iff_not] at h4
   have hlen:=(h1.1.2 i.toNat (by omega)).2
   rcases h2 with⟨h3,_⟩|⟨_,h2⟩
   ·rw[h] at h3;cases h3
   ·exact⟨by omega,⟨lkD_of h1,⟨by show(msR (FO i.toNat)).n<=1000000000;omega,fun j hj=>rfl⟩⟩,h2.symm⟩
 ·exact h.elim
end Go.Proofs.YtanlnopgadbpjaaGreat.Rw
namespace Go.Sx
def nlC(j:Nat):DV:=([.x (.slice none 0 0)]:List DV).getD j (.x undef)
def cpC(n:Nat)(f:Nat->MsT)(i j:Nat):DV:=selD (decide (i<n)) (msC (f i) j) (nlC j)
def apC(n:Nat)(f:Nat->MsT)(m:MsT)(i j:Nat):DV:=selD (decide (i<n)) (cpC n f (0+i) j) (dsAt [msC m 0] (0+(0+(i-n))*1+j))
theorem cpC_eq{n:Nat}{f:Nat->MsT}{i j:Nat}(hi:i<n)(hj:j<1):cpC n f i j=msC (f i) j:=by
 unfold cpC;rw[selD_eq,decide_eq_true hi];rfl
theorem apC_eq{n:Nat}{f:Nat->MsT}{m:MsT}{i j:Nat}(hi:i<n+1)(hj:j<1):apC n f m i j=msC (if i<n then f i else m) j:=by
 obtain rfl:j=0:=by omega
 unfold apC
 rw[selD_eq]
 by_cases h:i<n
 ·rw[decide_eq_true h,if_pos h,Nat.zero_add,cpC_eq h (by omega)];rfl
 ·obtain rfl:i=n:=by omega
  rw[decide_eq_false h,if_neg h,Nat.sub_self];rfl
end Go.Sx
namespace Go.Proofs.YtanlnopgadbpjaaGreat.Rw
open Go.Proofs.YtanlnopgadbpjaaGreat.Rm
open Go.Sx
noncomputable def lkZ:SV:=.agg [u64v 0,nilS,iv 0,nilS,iv 0]
section
variable (key : Int) (no : Nat) (fo : Nat → MsT) (base : Int) (ni : Nat) (fi : Nat → MsT) (rc : Int) (m : MsT)
theorem L57_eq:tR 57 [lkS key no fo base ni fi rc]=.ite ((ni:Int)==0) (.ret (.tup [nilS,lkZ,iv 4]))
 (.need (0<=(no:Int)/\(no:Int)<=(no:Int)/\(no:Int)*24<=140737488355328) (.need (0<=(ni:Int)/\(ni:Int)<=(ni:Int)/\(ni:Int)*24<=140737488355328)
 (.need True (.need (no<=no/\no<=no) (.need True (.need (ni<=ni/\ni<=ni) (.need (True/\(0:Int)<=1/\1<=ni) (.need ((0:Int)<=0/\(0:Int)<(ni:Int))
 (.need (ByD (fi 0).n fun j x=>.x (.int .u8 ((fi 0).b j))) (.need (0+no<=no) (.need (1+(ni-1)<=ni)
 (.ret (.tup [.d (msC (fi 0) 0),.agg [u64v key,.d (.ro no 1 fun i j=>cpC no fo (0+i) j),iv base,.d (.ro (ni-1) 1 fun i j=>cpC ni fi (1+i) j),iv rc],iv 0]))))))))))))):=by kernel_rfl
theorem L19_eq:tR 19 [lkS key no fo base ni fi rc,.d (msC m 0)]=.ite (decide ((m.n:Int)>256)||decide ((no:Int)>=32)||decide (w64 (base+(no:Int))>=1000000000)) (.ret (.tup [lkZ,iv 2]))
 (.need (0<=(no:Int)/\(no:Int)<=(no:Int)/\(no:Int)*24<=140737488355328) (.need (0<=(ni:Int)/\(ni:Int)<=(ni:Int)/\(ni:Int)*24<=140737488355328)
 (.need True (.need (no<=no/\no<=no) (.need True (.need (ni<=ni/\ni<=ni) (.need (ByD m.n fun j x=>.x (.int .u8 (m.b j)))
 (.need (0+no<=no/\1<=1/\(no+1)*24<=140737488355328) (.need (0+(no+1)<=no+1) (.need (0+ni<=ni)
 (.ret (.tup [.agg [u64v key,.d (.ro (no+1) 1 fun i j=>apC no fo m (0+i) j),iv base,.d (.ro ni 1 fun i j=>cpC ni fi (0+i) j),iv rc],iv 0])))))))))))):=by kernel_rfl
end
theorem cp_le{n:Nat}{f g:Nat->MsT}{k q:Nat}(h:∀i,i<q->k+i<n/\f (k+i)=g i):leSV 0 [] [] (.d (.ro q 1 fun i j=>cpC n f (k+i) j)) (msS q g):=⟨rfl,rfl,fun i j hi hj=>by
 show cpC n f (k+i) j=msC (g i) j
 rw[cpC_eq (h i hi).1 hj,(h i hi).2]⟩
theorem ap_le{n:Nat}{f:Nat->MsT}{m:MsT}:leSV 0 [] [] (.d (.ro (n+1) 1 fun i j=>apC n f m (0+i) j)) (msS (n+1) fun i=>if i<n then f i else m):=⟨rfl,rfl,fun i j hi hj=>by
 show apC n f m (0+i) j=msC (if i<n then f i else m) j
 rw[Nat.zero_add,apC_eq hi hj]⟩
noncomputable def c57:Ctr:=fun ss=>match ss with
 |[.agg [.d (.x (.int .u64 key)),.d (.ro no 1 FO),.d (.x (.int .i64 base)),.d (.ro ni 1 FI),.d (.x (.int .i64 rc))]]=>.need (LkD no FO ni FI) (.ite ((ni:Int)==0) (.ret (.tup [nilS,lkZ,iv 4]))
   (.ret (.tup [.d (msC (msF FI 0) 0),lkS key no (msF FO) base (ni-1) (fun i=>msF FI (1+i)) rc,iv 0])))
 |_=>.fail
theorem c57_ok:CtrOK Tryz.prog 57 c57:=ctrOK_leR CRt_ok DRt_ok (by kernel_rfl) (by kernel_rfl) fun ss r h=>by
 unfold c57 at h
 split at h
 ·rename_i key no FO base ni FI rc
  obtain⟨h1,h2⟩:=h
  have hno:=h1.1.1
  have hni:=h1.2.1
  refine⟨[lkS key no (msF FO) base ni (msF FI) rc],200,.nil,by simp only[leSVs,and_true];exact lk_le h1,Sat.of_eq (L57_eq key no (msF FO) base ni (msF FI) rc) ⟨fun h=>?_,fun h=>?_⟩⟩
  ·rcases h2 with⟨_,h2⟩|⟨h3,_⟩
   ·obtain rfl:=h2
    show leSV 0 [] [] (SV.tup _) (SV.tup _)
    simp[leSV,leSVs,leD,lkZ,iv,u64v,nilS]
   ·rw[h] at h3;cases h3
  ·have h4:=h
   rw[beq_eq_false_iff_ne] at h4
   rcases h2 with⟨h3,_⟩|⟨_,h2⟩
   ·rw[h] at h3;cases h3
   ·obtain rfl:=h2
    have hlen:=(h1.2.2 0 (by omega)).2
    refine⟨by omega,by omega,trivial,by omega,trivial,by omega,⟨trivial,by omega,by omega⟩,by omega,⟨by show(msR (FI 0)).n<=1000000000;omega,fun j hj=>rfl⟩,by omega,by omega,?_⟩
    show leSV 0 [] [] (SV.tup _) (SV.tup _)
    unfold lkS
    simp only[leSV,leSVs,and_true]
    exact⟨⟨rfl,rfl,fun i j hi hj=>rfl⟩,⟨rfl,cp_le fun i hi=>⟨by omega,by rw[Nat.zero_add]⟩,rfl,cp_le fun i hi=>⟨by omega,rfl⟩,rfl⟩,rfl⟩
 ·exact h.elim
def _root_.Go.Proofs.SdD(no:Nat)(base:Int):Prop:=no<32/\0<=base/\base+no<1000000000
noncomputable def c19:Ctr:=fun ss=>match ss with
 |[.agg [.d (.x (.int .u64 key)),.d (.ro no 1 FO),.d (.x (.int .i64 base)),.d (.ro ni 1 FI),.d (.x (.int .i64 rc))],.d (.ro n 1 D)]=>.need (LkD no FO ni FI/\SdD no base/\n<=256/\ByD n D)
   (.ret (.tup [lkS key (no+1) (fun i=>if i<no then msF FO i else msN n D) base ni (msF FI) rc,iv 0]))
 |_=>.fail
theorem c19_ok:CtrOK Tryz.prog 19 c19:=ctrOK_leR CRt_ok DRt_ok (by kernel_rfl) (by kernel_rfl) fun ss r h=>by
 unfold c19 at h
 split at h
 ·rename_i key no FO base ni FI rc n D
  obtain⟨⟨h1,⟨h2,h3,h4⟩,h5,h6⟩,rfl⟩:=h
  have hno:=h1.1.1
  have hni:=h1.2.1
  refine⟨[lkS key no (msF FO) base ni (msF FI) rc,.d (msC (msN n D) 0)],200,.nil,?_,Sat.of_eq (L19_eq key no (msF FO) base ni (msF FI) rc (msN n D)) ⟨fun h=>?_,fun h=>?_⟩⟩
  ·simp only[leSVs,and_true]
   exact⟨lk_le h1,rfl,rfl,fun i j hi hj=>by rw[show j=0 by omega];exact h6.2 i hi⟩
  ·rw[Go.Proofs.YtanlnopgadbpjaaGreat.w64_of (by omega) (by omega)] at h
   simp only[Bool.or_eq_true,decide_eq_true_eq] at h
   have:(msN n D).n=n:=rfl
   omega
  ·refine⟨by omega,by omega,trivial,by omega,trivial,by omega,⟨by show n<=1000000000;omega,fun j hj=>rfl⟩,by omega,by omega,by omega,?_⟩
   show leSV 0 [] [] (SV.tup _) (SV.tup _)
   unfold lkS
   simp only[leSV,leSVs,and_true]
   exact⟨⟨rfl,ap_le,rfl,cp_le fun i hi=>⟨by omega,by rw[Nat.zero_add]⟩,rfl⟩,rfl⟩
 ·exact h.elim
def rcQ(ni:Nat)(sq rc:Int):Bool:=sq==rc&&decide ((ni:Int)<64)&&decide (rc<1000000000)
noncomputable def tup1(s:SV):Tree SV:=.ret (.tup [s,iv 0])
section
variable (key : Int) (no : Nat) (fo : Nat → MsT) (base : Int) (ni : Nat) (fi : Nat → MsT) (rc sq ak : Int) (m : MsT) (ck : Int)
noncomputable def rcI0:SV:=.d (.ro ni 1 fun i j=>cpC ni fi (0+i) j)
noncomputable def rcI1:SV:=.d (.ro (ni+1) 1 fun i j=>apC ni fi m (0+i) j)
noncomputable def rcO0:SV:=.d (.ro no 1 fun i j=>cpC no fo (0+i) j)
noncomputable def rcO1(d:Nat):SV:=.d (.ro (no-d) 1 fun i j=>cpC no fo (0+d+i) j)
noncomputable def lk5(o:SV)(b:Int)(i:SV)(r:Int):SV:=.agg [u64v key,o,iv b,i,iv r]
theorem L34_eq:tR 34 [lkS key no fo base ni fi rc,pkS sq ak m ck]=.need (LkD no (fun i j=>msC (fo i) j) ni (fun i j=>msC (fi i) j)/\ByD m.n fun j x=>.x (.int .u8 (m.b j)))
 (.ite (!(!(acB key no base sq ak m)&&(ck==tgN key m.n m.b sq ak m.n))) (.ret (.tup [lkZ,iv 500]))
 (.need (0<=(no:Int)/\(no:Int)<=(no:Int)/\(no:Int)*24<=140737488355328) (.need (0<=(ni:Int)/\(ni:Int)<=(ni:Int)/\(ni:Int)*24<=140737488355328)
 (.need True (.need (no<=no/\no<=no) (.need True (.need (ni<=ni/\ni<=ni)
 (.ite (decide (w64 (ak-base)>0))
  (.need (True/\0<=w64 (ak-base)/\(w64 (ak-base)).toNat<=no)
   (.ite (rcQ ni sq rc)
    (.need (ByD m.n fun j x=>.x (.int .u8 (m.b j))) (.need (0+ni<=ni/\1<=1/\(ni+1)*24<=140737488355328) (.need (0+(w64 (ak-base)).toNat+(no-(w64 (ak-base)).toNat)<=no) (.need (0+(ni+1)<=ni+1) (tup1 (lk5 key (rcO1 no fo (w64 (ak-base)).toNat) ak (rcI1 ni fi m) (w64 (rc+1))))))))
    (.need (0+(w64 (ak-base)).toNat+(no-(w64 (ak-base)).toNat)<=no) (.need (0+ni<=ni) (tup1 (lk5 key (rcO1 no fo (w64 (ak-base)).toNat) ak (rcI0 ni fi) rc))))))
  (.ite (rcQ ni sq rc)
   (.need (ByD m.n fun j x=>.x (.int .u8 (m.b j))) (.need (0+ni<=ni/\1<=1/\(ni+1)*24<=140737488355328) (.need (0+no<=no) (.need (0+(ni+1)<=ni+1) (tup1 (lk5 key (rcO0 no fo) base (rcI1 ni fi m) (w64 (rc+1))))))))
   (.need (0+no<=no) (.need (0+ni<=ni) (tup1 (lk5 key (rcO0 no fo) base (rcI0 ni fi) rc))))))))))))):=by kernel_rfl
end
noncomputable def apF'(n:Nat)(f:Nat->MsT)(m:MsT)(i:Nat):MsT:=if i<n then f i else m
theorem lk5_le{key b r:Int}{o i:SV}{no ni:Nat}{fo fi:Nat->MsT}(h1:leSV 0 [] [] o (msS no fo))(h2:leSV 0 [] [] i (msS ni fi)):leSV 0 [] [] (.tup [lk5 key o b i r,iv 0]) (.tup [lkS key no fo b ni fi r,iv 0]):=by
 unfold lkS lk5
 simp only[leSV,leSVs,and_true]
 exact⟨⟨rfl,h1,rfl,h2,rfl⟩,rfl⟩
noncomputable def c34:Ctr:=fun ss=>match ss with
 |[.agg [.d (.x (.int .u64 key)),.d (.ro no 1 FO),.d (.x (.int .i64 base)),.d (.ro ni 1 FI),.d (.x (.int .i64 rc))],.agg [.d (.x (.int .i64 sq)),.d (.x (.int .i64 ak)),.d (.ro n 1 D),.d (.x (.int .u64 ck))]]=>.need (LkD no FO ni FI/\ByD n D)
   (.ite (!(!(acB key no base sq ak (msN n D))&&(ck==tgN key n (msN n D).b sq ak n))) (.ret (.tup [lkZ,iv 500]))
   (.ite (decide (w64 (ak-base)>0))
    (.ite (rcQ ni sq rc)
     (.ret (.tup [lkS key (no-(w64 (ak-base)).toNat) (fun i=>msF FO (0+(w64 (ak-base)).toNat+i)) ak (ni+1) (apF' ni (msF FI) (msN n D)) (w64 (rc+1)),iv 0]))
     (.ret (.tup [lkS key (no-(w64 (ak-base)).toNat) (fun i=>msF FO (0+(w64 (ak-base)).toNat+i)) ak ni (msF FI) rc,iv 0])))
    (.ite (rcQ ni sq rc)
     (.ret (.tup [lkS key no (msF FO) base (ni+1) (apF' ni (msF FI) (msN n D)) (w64 (rc+1)),iv 0]))
     (.ret (.tup [lkS key no (msF FO) base ni (msF FI) rc,iv 0])))))
 |_=>.fail
theorem ite_ev{α:Type}{b:Bool}{t e:Tr α}{r:α}(h:(Tr.ite b t e).ev r):(b=true/\t.ev r)\/(b=false/\e.ev r):=h
theorem c34_ok:CtrOK Tryz.prog 34 c34:=ctrOK_leR CRt_ok DRt_ok (by kernel_rfl) (by kernel_rfl) fun ss r h=>by
 unfold c34 at h
 split at h
 ·rename_i key no FO base ni FI rc sq ak n D ck
  obtain⟨⟨h1,h2⟩,h3⟩:=h
  have hno:=h1.1.1
  have hni:=h1.2.1
  have hap:leSV 0 [] [] (rcI1 ni (msF FI) (msN n D)) (msS (ni+1) (apF' ni (msF FI) (msN n D))):=ap_le
  have hi0:leSV 0 [] [] (rcI0 ni (msF FI)) (msS ni (msF FI)):=cp_le fun i hi=>⟨by omega,by rw[Nat.zero_add]⟩
  have ho0:leSV 0 [] [] (rcO0 no (msF FO)) (msS no (msF FO)):=cp_le fun i hi=>⟨by omega,by rw[Nat.zero_add]⟩
  have ho1:∀d,leSV 0 [] [] (rcO1 no (msF FO) d) (msS (no-d) fun i=>msF FO (0+d+i)):=fun d=>cp_le fun i hi=>⟨by omega,rfl⟩
  refine⟨[lkS key no (msF FO) base ni (msF FI) rc,pkS sq ak (msN n D) ck],200,.nil,?_,Sat.of_eq (L34_eq key no (msF FO) base ni (msF FI) rc sq ak (msN n D) ck) ⟨⟨lkD_of h1,byD_of h2.1⟩,fun h=>?_,fun h=>⟨by omega,by omega,trivial,by omega,trivial,by omega,fun hd=>?_,fun hd=>?_⟩⟩⟩
  ·simp only[leSVs,and_true]
   refine⟨lk_le h1,?_⟩
   unfold pkS iv
   simp only[leSV,leSVs,leD,and_true,true_and,msC]
   exact⟨rfl,fun i j hi hj=>by rw[show j=0 by omega];exact h2.2 i hi⟩
  ·rcases ite_ev h3 with⟨_,h3⟩|⟨h4,_⟩
   ·obtain rfl:=h3
    show leSV 0 [] [] (SV.tup _) (SV.tup _)
    simp[leSV,leSVs,leD,lkZ,iv,u64v,nilS]
   ·rw[show(!(!(acB key no base sq ak (msN n D))&&(ck==tgN key n (msN n D).b sq ak n)))=true from h] at h4;cases h4
  ·rcases ite_ev h3 with⟨h4,_⟩|⟨_,h3⟩
   ·rw[show(!(!(acB key no base sq ak (msN n D))&&(ck==tgN key n (msN n D).b sq ak n)))=false from h] at h4;cases h4
   rcases ite_ev h3 with⟨_,h3⟩|⟨h4,_⟩
   ·have hac:acB key no base sq ak (msN n D)=false:=by
     rw[Bool.not_eq_false',Bool.and_eq_true,Bool.not_eq_true'] at h
     exact h.1
    unfold acB at hac
    simp only[Bool.or_eq_false_iff,decide_eq_false_iff_not] at hac
    have hw:¬w64 (ak-base)>(no:Int):=hac.1.2
    have hd':=hd
    rw[decide_eq_true_eq] at hd'
    refine⟨⟨trivial,by omega,by omega⟩,fun hq=>?_,fun hq=>?_⟩
    ·rcases ite_ev h3 with⟨_,h3⟩|⟨h4,_⟩
     ·obtain rfl:=h3
      exact⟨byD_of h2.1,by omega,by omega,by omega,lk5_le (ho1 _) hap⟩
     ·rw[hq] at h4;cases h4
    ·rcases ite_ev h3 with⟨h4,_⟩|⟨_,h3⟩
     ·rw[hq] at h4;cases h4
     ·obtain rfl:=h3
      exact⟨by omega,by omega,lk5_le (ho1 _) hi0⟩
   ·rw[hd] at h4;cases h4
  ·rcases ite_ev h3 with⟨h4,_⟩|⟨_,h3⟩
   ·rw[show(!(!(acB key no base sq ak (msN n D))&&(ck==tgN key n (msN n D).b sq ak n)))=false from h] at h4;cases h4
   rcases ite_ev h3 with⟨h4,_⟩|⟨_,h3⟩
   ·rw[hd] at h4;cases h4
   refine⟨fun hq=>?_,fun hq=>?_⟩
   ·rcases ite_ev h3 with⟨_,h3⟩|⟨h4,_⟩
    ·obtain rfl:=h3
     exact⟨byD_of h2.1,by omega,by omega,by omega,lk5_le ho0 hap⟩
    ·rw[hq] at h4;cases h4
   ·rcases ite_ev h3 with⟨h4,_⟩|⟨_,h3⟩
    ·rw[hq] at h4;cases h4
    ·obtain rfl:=h3
     exact⟨by omega,by omega,lk5_le ho0 hi0⟩
 ·exact h.elim
end Go.Proofs.YtanlnopgadbpjaaGreat.Rw
namespace Go.Sx
variable [Globs]
def leDs:List SV->List SV->Prop
 |[],[]=>True
 |.d a::r,.d b::r'=>leD a b/\leDs r r'
 |_,_=>False
theorem leDs_get{w:World}{μ:Mu}{F:Nat->Prop}:∀{cs ds:List SV},leDs cs ds->cs.length=ds.length/\∀i v,i<cs.length->Rep w μ F v (cs.getD i uv)->Rep w μ F v (ds.getD i uv)
 |[],[],_=>⟨rfl,fun i v hi=>by simp at hi⟩
 |.d a::r,.d b::r',h=>by
  obtain⟨h1,h2⟩:=leDs_get (w:=w) (μ:=μ) (F:=F) h.2
  refine⟨by simp[h1],fun i v hi hr=>?_⟩
  cases i with
  |zero =>
   simp only[List.getD_cons_zero] at hr ⊢
   exact .d (leD_sound (rep_d hr) h.1)
  |succ i =>
   simp only[List.getD_cons_succ] at hr ⊢
   exact h2 i v (by simpa using hi) hr
theorem BlkLe.cellsD{cs ds:List SV}(h:leDs cs ds):BlkLe (.cells cs) (.cells ds):=by
 intro w μ F q hb
 obtain⟨h1,h2⟩:=leDs_get (w:=w) (μ:=μ) (F:=F) h
 cases q with
 |nil=>exact hb
 |pl b o =>
  obtain⟨x,t,a1,a2,a3,a4⟩:=hb
  exact⟨x,t,a1,by omega,fun i hi=>h2 i _ (by omega) (a3 i (by omega)),fun i hi=>a4 i (by omega)⟩
structure FlT where
 to:Int
 sq:Int
 ak:Int
 m:MsT
 ck:Int
def flC(f:FlT):Nat->DV
 |0=>.x (.int .i64 f.to)
 |1=>.x (.int .i64 f.sq)
 |2=>.x (.int .i64 f.ak)
 |3=>msC f.m 0
 |4=>.x (.int .u64 f.ck)
 |_+5=>.x undef
structure EvT where
 pk:Bool
 v:Nat
structure WdT where
 B:Nat
 R:Nat
 T:Nat
 m:Nat
 f:Nat->EvT
def pushW(w:WdT)(e:EvT):WdT:={ w with m:=w.m+1,f:=fun i=>if i<w.m then w.f i else e }
def stpM(n:Nat)(k N:Int)(w:WdT):WdT :=
 if k=0 then(if N%8<((n-w.B:Nat):Int) then pushW w ⟨true,w.B+(N%8).toNat⟩ else w)
 else if k=1 then pushW w ⟨false,w.R⟩
 else if k=2 then(if w.T<w.R then { w with T:=w.T+1 } else w)
 else if w.m=0 then w
 else if(w.f (N%(w.m:Int)).toNat).pk=true then(if(w.f (N%(w.m:Int)).toNat).v=w.R then { w with R:=w.R+1 } else w)
 else { w with B:=max w.B (w.f (N%(w.m:Int)).toNat).v }
def runM(n:Nat)(k N:Nat->Int):Nat->WdT
 |0=>⟨0,0,0,0,fun _=>⟨true,0⟩⟩
 |i+1=>stpM n (k i) (N i) (runM n k N i)
structure OkW(n i:Nat)(w:WdT):Prop where
 br:w.B<=w.R
 rn:w.R<=n
 tr:w.T<=w.R
 mi:w.m<=i
 fl:∀q,q<w.m->if(w.f q).pk=true then(w.f q).v<n else(w.f q).v<=w.R
theorem okM_step{n i:Nat}{k N:Int}{w:WdT}(h:OkW n i w)(hN:0<=N):OkW n (i+1) (stpM n k N w):=by
 obtain⟨h1,h2,h3,h4,h5⟩:=h
 have hp:∀e:EvT,(if e.pk=true then e.v<n else e.v<=w.R)->OkW n (i+1) (pushW w e):=by
  intro e he
  refine⟨h1,h2,h3,by show w.m+1<=i+1;omega,fun q hq=>?_⟩
  show if((if q<w.m then w.f q else e)).pk=true then((if q<w.m then w.f q else e)).v<n else((if q<w.m then w.f q else e)).v<=w.R
  by_cases hl:q<w.m
  ·rw[if_pos hl];exact h5 q hl
  ·rw[if_neg hl];exact he
 have h0:OkW n (i+1) w:=⟨h1,h2,h3,by omega,h5⟩
 unfold stpM
 split
 ·split
  ·rename_i h6
   refine hp _ ?_
   show w.B+(N%8).toNat<n
   omega
  ·exact h0
 split
 ·exact hp _ (by show w.R<=w.R;omega)
 split
 ·split
  ·exact⟨h1,h2,by show w.T+1<=w.R;omega,by show w.m<=i+1;omega,h5⟩
  ·exact h0
 split
 ·exact h0
 rename_i hm
 have hq:(N%(w.m:Int)).toNat<w.m:=by
  have a1:=Int.emod_nonneg N (b:=(w.m:Int)) (by omega)
  have a2:=Int.emod_lt_of_pos N (b:=(w.m:Int)) (by omega)
  omega
 have h6:=h5 _ hq
 split
 ·rename_i hb
  rw[if_pos hb] at h6
  split
  ·refine⟨by show w.B<=w.R+1;omega,by show w.R+1<=n;omega,by show w.T<=w.R+1;omega,by show w.m<=i+1;omega,fun q hq=>?_⟩
   have:=h5 q hq
   show if(w.f q).pk=true then(w.f q).v<n else(w.f q).v<=w.R+1
   split at this
   ·rw[if_pos (by assumption)];exact this
   ·rw[if_neg (by assumption)];omega
  ·exact h0
 ·rename_i hb
  rw[if_neg hb] at h6
  exact⟨by show max w.B _<=w.R;omega,h2,h3,by show w.m<=i+1;omega,h5⟩
theorem okM_run{n:Nat}{k N:Nat->Int}:∀i,(∀q,q<i->0<=N q)->OkW n i (runM n k N i)
 |0,_=>⟨Nat.le_refl _,Nat.zero_le _,Nat.le_refl _,Nat.le_refl _,fun q hq=>absurd hq (Nat.not_lt_zero _)⟩
 |i+1,h=>okM_step (okM_run i fun q hq=>h q (by omega)) (h i (by omega))
noncomputable def rvD(base ak:Int):Nat:=(w64 (ak-base)).toNat
noncomputable def rvB(base ak:Int):Int:=if w64 (ak-base)>0 then ak else base
end Go.Sx
namespace Go.Proofs.YtanlnopgadbpjaaGreat.Rw
open Go.Proofs.YtanlnopgadbpjaaGreat.Rm
open Go.Sx
noncomputable def rvE(ni:Nat)(sq rc:Int):Nat:=if rcQ ni sq rc=true then 1 else 0
noncomputable def rvR(ni:Nat)(sq rc:Int):Int:=if rcQ ni sq rc=true then w64 (rc+1) else rc
noncomputable def rvF(ni:Nat)(f:Nat->MsT)(m:MsT):Nat->MsT:=apF' ni f m
noncomputable def flOf(K:Int)(ms:Nat->MsT)(e:EvT):FlT :=
 if e.pk=true then⟨1,e.v,0,ms e.v,tgN (xorV K 1) (ms e.v).n (ms e.v).b e.v 0 (ms e.v).n⟩ else⟨0,-1,e.v,ms0,tgN K 0 ms0.b (-1) e.v 0⟩
noncomputable def c34b:Ctr:=fun ss=>match ss with
 |[.agg [.d (.x (.int .u64 key)),.d (.ro no 1 FO),.d (.x (.int .i64 base)),.d (.ro ni 1 FI),.d (.x (.int .i64 rc))],.agg [.d (.x (.int .i64 sq)),.d (.x (.int .i64 ak)),.d (.ro n 1 D),.d (.x (.int .u64 ck))]]=>.need ((LkD no FO ni FI/\ByD n D)/\acB key no base sq ak (msN n D)=false/\ck=tgN key n (msN n D).b sq ak n)
   (.ret (.tup [lkS key (no-rvD base ak) (fun i=>msF FO (rvD base ak+i)) (rvB base ak) (ni+rvE ni sq rc) (rvF ni (msF FI) (msN n D)) (rvR ni sq rc),iv 0]))
 |_=>.fail
theorem lk_eq{key base rc base' rc':Int}{no ni no' ni':Nat}{fo fi fo' fi':Nat->MsT}(h1:no=no')(h2:∀i,i<no->fo i=fo' i)(h3:base=base')(h4:ni=ni')(h5:∀i,i<ni->fi i=fi' i)(h6:rc=rc') :
  leSV 0 [] [] (.tup [lkS key no fo base ni fi rc,iv 0]) (.tup [lkS key no' fo' base' ni' fi' rc',iv 0]):=by
 subst h1;subst h3;subst h4;subst h6
 have a1:leSV 0 [] [] (msS no fo) (msS no fo'):=⟨rfl,rfl,fun i j hi hj=>by show msC (fo i) j=msC (fo' i) j;rw[h2 i hi]⟩
 have a2:leSV 0 [] [] (msS ni fi) (msS ni fi'):=⟨rfl,rfl,fun i j hi hj=>by show msC (fi i) j=msC (fi' i) j;rw[h5 i hi]⟩
 unfold lkS
 simp only[leSV,leSVs,and_true]
 exact⟨⟨rfl,a1,rfl,a2,rfl⟩,rfl⟩
theorem c34b_ok:CtrOK Tryz.prog 34 c34b:=c34_ok.leR fun ss r h=>by
 unfold c34b at h
 split at h
 ·rename_i key no FO base ni FI rc sq ak n D ck
  obtain⟨⟨h1,h2,h3⟩,rfl⟩:=h
  have hc:(!(!(acB key no base sq ak (msN n D))&&(ck==tgN key n (msN n D).b sq ak n)))=false:=by
   rw[h2,h3,beq_self_eq_true];rfl
  unfold c34
  refine(fun X:∃r',_/\leSV 0 [] [] r' _=>X.elim fun r' hr=>⟨r',⟨h1,.inr ⟨hc,hr.1⟩⟩,hr.2⟩) ?_
  by_cases hd:w64 (ak-base)>0
  ·have hd':decide (w64 (ak-base)>0)=true:=decide_eq_true hd
   have e1:rvB base ak=ak:=by unfold rvB;rw[if_pos hd]
   rcases Bool.eq_false_or_eq_true (rcQ ni sq rc) with hq|hq
   ·refine⟨_,.inl ⟨hd',.inl ⟨hq,rfl⟩⟩,?_⟩
    have e2:rvE ni sq rc=1:=by unfold rvE;rw[if_pos hq]
    have e3:rvR ni sq rc=w64 (rc+1):=by unfold rvR;rw[if_pos hq]
    rw[e1,e2,e3]
    exact lk_eq rfl (fun i hi=>by rw[Nat.zero_add];rfl) rfl rfl (fun i hi=>rfl) rfl
   ·refine⟨_,.inl ⟨hd',.inr ⟨hq,rfl⟩⟩,?_⟩
    have e2:rvE ni sq rc=0:=by unfold rvE;rw[if_neg (by rw[hq];decide)]
    have e3:rvR ni sq rc=rc:=by unfold rvR;rw[if_neg (by rw[hq];decide)]
    rw[e1,e2,e3]
    exact lk_eq rfl (fun i hi=>by rw[Nat.zero_add];rfl) rfl rfl (fun i hi=>by
     show msF FI i=if i<ni then msF FI i else msN n D
     rw[if_pos hi]) rfl
  ·have hd':decide (w64 (ak-base)>0)=false:=decide_eq_false hd
   have e1:rvB base ak=base:=by unfold rvB;rw[if_neg hd]
   have e0:rvD base ak=0:=by unfold rvD;omega
   rcases Bool.eq_false_or_eq_true (rcQ ni sq rc) with hq|hq
   ·refine⟨_,.inr ⟨hd',.inl ⟨hq,rfl⟩⟩,?_⟩
    have e2:rvE ni sq rc=1:=by unfold rvE;rw[if_pos hq]
    have e3:rvR ni sq rc=w64 (rc+1):=by unfold rvR;rw[if_pos hq]
    rw[e0,e1,e2,e3]
    exact lk_eq rfl (fun i hi=>by rw[Nat.zero_add]) rfl rfl (fun i hi=>rfl) rfl
   ·refine⟨_,.inr ⟨hd',.inr ⟨hq,rfl⟩⟩,?_⟩
    have e2:rvE ni sq rc=0:=by unfold rvE;rw[if_neg (by rw[hq];decide)]
    have e3:rvR ni sq rc=rc:=by unfold rvR;rw[if_neg (by rw[hq];decide)]
    rw[e0,e1,e2,e3]
    exact lk_eq rfl (fun i hi=>by rw[Nat.zero_add]) rfl rfl (fun i hi=>by
     show msF FI i=if i<ni then msF FI i else msN n D
     rw[if_pos hi]) rfl
 ·exact h.elim
noncomputable def CJ1:Ctx:=ctxN Tryz.prog (fun _=>none) (fun k=>Nat.beq k 119) 200 .nil 6
theorem CJ1_ok:CtxOK Tryz.prog CJ1:=ctxN_ok mixed (fun k c h=>by cases h) 6
noncomputable def DJ1:Dr:=drawnL Tryz.prog CJ1
theorem DJ1_ok:DrOK Tryz.prog CJ1 DJ1:=drawnL_ok CJ1_ok mixed
theorem L127_eq(a b:Int):fnT Tryz.prog CJ1 DJ1 200 (fnOf Tryz.prog 127) (bodyOf Tryz.prog 127) [u64v a,u64v b] .nil=.need ((0:Int)<=32) (.need ((0:Int)<=32) (.ret (u64v (jnV a b)))):=by kernel_rfl
noncomputable def c127:Ctr:=fun ss=>match ss with
 |[.d (.x (.int .u64 a)),.d (.x (.int .u64 b))]=>.ret (u64v (jnV a b))
 |_=>.fail
theorem c127_ok:CtrOK Tryz.prog 127 c127:=ctrOK_leS CJ1_ok DJ1_ok (by kernel_rfl) (by kernel_rfl) fun ss r h=>by
 unfold c127 at h
 split at h
 ·rename_i a b
  cases h
  exact⟨[u64v a,u64v b],200,.nil,by simp[leSVs,leSV,leD,u64v],Sat.of_eq (L127_eq a b) ⟨by decide,by decide,rfl⟩⟩
 ·exact h.elim
noncomputable def man93:FuncId->Option Ctr:=fun k=>match k with
 |92=>some cWords
 |127=>some c127
 |_=>none
theorem man93_ok(k:Nat)(c:Ctr)(hk:man93 k=some c):CtrOK Tryz.prog k c/\goodF Tryz.prog k=true:=by
 unfold man93 at hk
 split at hk
 ·cases hk;exact⟨cWordsR_ok,by kernel_rfl⟩
 ·cases hk;exact⟨c127_ok,by kernel_rfl⟩
 ·cases hk
noncomputable def C93:Ctx:=ctxN Tryz.prog man93 (fun k=>Nat.beq k 120) 200 .run 6
theorem C93_ok:CtxOK Tryz.prog C93:=ctxN_ok mixed man93_ok 6
noncomputable def D93:Dr:=drawnL Tryz.prog C93
theorem D93_ok:DrOK Tryz.prog C93 D93:=drawnL_ok C93_ok mixed
noncomputable def t93(n:Nat)(g:Nat->Int):Tree SV:=fnT Tryz.prog C93 D93 200 (fnOf Tryz.prog 93) (bodyOf Tryz.prog 93) [ruV n g] .run
section
variable (g : Nat → Int)
theorem L93_1:t93 1 g=.ret (u64v (rtG 1 g)):=by kernel_rfl
theorem L93_2:t93 2 g=.need (0<=0/\1<=1/\8<=140737488355328) (.ret (u64v (rtG 2 g))):=by kernel_rfl
theorem L93_3:t93 3 g=.need (0<=0/\1<=1/\8<=140737488355328) (.need (1<=1/\1<=1/\16<=140737488355328) (.need (0<=0/\1<=1/\8<=140737488355328) (.ret (u64v (rtG 3 g))))):=by kernel_rfl
theorem L93_4:t93 4 g=.need (0<=0/\1<=1/\8<=140737488355328) (.need (1<=1/\1<=1/\16<=140737488355328) (.need (0<=0/\1<=1/\8<=140737488355328) (.ret (u64v (rtG 4 g))))):=by kernel_rfl
end
noncomputable def dg0:Int:=dgW 0 (intCell fun i j=>dsAt [] (0+(0+i)*1+j))
theorem L93_0(g:Nat->Int):t93 0 g=.need (0<=0) (.need (I64C 0 fun i j=>dsAt [] (0+(0+i)*1+j)) (.ret (u64v dg0))):=by kernel_rfl
theorem dg0_eq(g:Nat->Int):dg0=rtG 0 g:=by
 show dgW 0 _=dgL []
 unfold dgL
 exact dgW_congr fun i hi=>by omega
theorem s93{n:Nat}{g:Nat->Int}(hn:n<=4):Sat Tryz.prog (t93 n g) (·=u64v (rtG n g)):=by
 have:n=0\/n=1\/n=2\/n=3\/n=4:=by omega
 rcases this with rfl|rfl|rfl|rfl|rfl
 ·exact Sat.of_eq (L93_0 g) ⟨Nat.le_refl _,⟨by omega,fun i hi=>by omega⟩,by rw[dg0_eq g];rfl⟩
 ·exact Sat.of_eq (L93_1 g) ⟨rfl⟩
 ·exact Sat.of_eq (L93_2 g) ⟨by omega,rfl⟩
 ·exact Sat.of_eq (L93_3 g) ⟨by omega,by omega,by omega,rfl⟩
 ·exact Sat.of_eq (L93_4 g) ⟨by omega,by omega,by omega,rfl⟩
noncomputable def c93:Ctr:=fun ss=>match ss with
 |[.d (.ro n 1 c)]=>.need (n<=4/\UOK n c) (.ret (u64v (rtV n c)))
 |_=>.fail
theorem c93_ok:CtrOK Tryz.prog 93 c93:=ctrOK_leS C93_ok D93_ok (by kernel_rfl) (by kernel_rfl) fun ss r h=>by
 unfold c93 at h
 split at h
 ·rename_i n c
  obtain⟨⟨hn,hu⟩,rfl⟩:=h
  exact⟨[ruV n fun i=>numV (c i 0)],200,.run,uOK_le hu,s93 hn⟩
 ·exact h.elim
end Go.Proofs.YtanlnopgadbpjaaGreat.Rw
namespace Go.Sx
theorem dgL_fmN(f:FrT):dgL (fmN f)=Go.Proofs.YtanlnopgadbpjaaGreat.dgW f.n fun j=>w64 (f.w j):=by
 unfold dgL fmN
 rw[List.length_map,List.length_range]
 exact Go.Proofs.YtanlnopgadbpjaaGreat.dgW_congr fun i hi=>by simp[List.getD_eq_getElem?_getD,hi]
end Go.Sx
namespace Go.Proofs.YtanlnopgadbpjaaGreat.Rw
open Go.Proofs.YtanlnopgadbpjaaGreat.Rm
open Go.Sx
noncomputable def man65:FuncId->Option Ctr:=fun k=>match k with
 |92=>some cWords
 |93=>some c93
 |_=>none
theorem man65_ok(k:Nat)(c:Ctr)(hk:man65 k=some c):CtrOK Tryz.prog k c/\goodF Tryz.prog k=true:=by
 unfold man65 at hk
 split at hk
 ·cases hk;exact⟨cWordsR_ok,by kernel_rfl⟩
 ·cases hk;exact⟨c93_ok,by kernel_rfl⟩
 ·cases hk
noncomputable def C65:Ctx:=ctxN Tryz.prog man65 (fun _=>false) 200 .nil 6
theorem C65_ok:CtxOK Tryz.prog C65:=ctxN_ok mixed man65_ok 6
noncomputable def D65:Dr:=drawnL Tryz.prog C65
theorem D65_ok:DrOK Tryz.prog C65 D65:=drawnL_ok C65_ok mixed
noncomputable def t65(x:FsT):Tree SV:=fnT Tryz.prog C65 D65 200 (fnOf Tryz.prog 65) (bodyOf Tryz.prog 65) [.d (fsC x 0)] .nil
section
variable (x : FsT) (m : Nat) (c : Nat → Nat → Sx.DV) (i : Int) (q : Nat) (d : Nat → Nat → Sx.DV) (k : Int)
noncomputable def st65:AS:=⟨slN 44 [(0,.d (fsC x 0)),(3,.row 1 0 0 m 1),(4,iv i)],[none,some (.row m 1 c)],2,.nil⟩
noncomputable def b65:Tree (Ex×AS):=cutT 1 [(.slot 3,1)] [0,3,4] [0] 2 .nil (exec Tryz.prog C65 D65 200 (loopN (bodyOf Tryz.prog 65) 0) (st65 x m c i))
noncomputable def st65b:AS:=⟨slN 44 [(0,.d (fsC x 0)),(3,.row 1 0 0 m 1),(4,iv i),(5,.row 3 0 0 q 1),(6,iv k)],[none,some (.row m 1 c),none,some (.row q 1 d)],4,.nil⟩
noncomputable def b65b:Tree (Ex×AS):=cutT 3 [(.slot 5,3)] [0,3,4,5,6] [0,2] 4 .nil (exec Tryz.prog C65 D65 200 (loopN (bodyOf Tryz.prog 65) 1) (st65b x m c i q d k))
theorem L65_eq:t65 x=atCode (sub [] (t65 x)):=by kernel_rfl
theorem E65_eq:entA 1 [(.slot 3,1)] [0,3,4] [0] 2 .nil (sub [] (t65 x))=some ⟨slN 44 [(0,.d (fsC x 0)),(3,.row 1 0 0 0 1),(4,iv 0)],[none,some (.cells [])],2,.nil⟩:=by kernel_rfl
theorem B65_eq:b65 x m c i=.ite (decide (i<(x.n:Int))) (atCode (sub [0] (b65 x m c i))) (.ret (.exit 0,st65 x m c i)):=by kernel_rfl
theorem K65_eq:codeK (sub [] (t65 x)) (.exit 0) (st65 x m c i)=.need (0+m<=m) (.need (m<=4/\UOK m fun i j=>c (0+i) j) (.ret (u64v (rtV m fun i j=>c (0+i) j)))):=by kernel_rfl
theorem E65b_eq:entA 3 [(.slot 5,3)] [0,3,4,5,6] [0,2] 4 .nil (sub [0] (b65 x m c i))=some ⟨slN 44 [(0,.d (fsC x 0)),(3,.row 1 0 0 m 1),(4,iv i),(5,.row 3 0 0 0 1),(6,iv 0)],[none,some (.row m 1 c),none,some (.cells [])],4,.nil⟩:=by kernel_rfl
theorem B65b_eq:b65b x m c i q d k=.need (0<=i/\i<(x.n:Int)) (.ite (decide (k<((x.f i.toNat).n:Int))) (.need (0<=i/\i<(x.n:Int)) (.need (0<=k/\k<((x.f i.toNat).n:Int)) (.need (0+q<=q/\1<=1/\(q+1)*8<=140737488355328) (.ret (.normal,st65b x m c i (q+1) (selA 1 q d [.x (.int .i64 (w64 ((x.f i.toNat).w k.toNat)))]) (w64 (k+1))))))) (.ret (.exit 2,st65b x m c i q d k))):=by kernel_rfl
theorem K65b_eq(m0:Nat)(c0:Nat->Nat->Sx.DV):codeK (sub [0] (b65 x m0 c0 i)) (.exit 2) (st65b x m c i q d k)=.need (0+q<=q) (.need (I64C q fun i j=>d (0+i) j) (.need (0+m<=m/\1<=1/\(m+1)*8<=140737488355328) (.ret (.normal,st65 x (m+1) (selA 1 m c [.x (.int .u64 (dgW q (intCell fun i j=>d (0+i) j)))]) (w64 (i+1)))))):=by kernel_rfl
end
noncomputable def w6C(f:FrT)(i j:Nat):Sx.DV:=.x (.int .i64 (w64 (f.w i)))
noncomputable def d6C(x:FsT)(i j:Nat):Sx.DV:=.x (.int .u64 (dgL (fmN (x.f i))))
theorem s65b{x:FsT}(hn:x.n<=4){i:Nat}(hi:i<x.n)(hw:(x.f i).n<=1000000000):Sat Tryz.prog (atCode (sub [0] (b65 x i (d6C x) i))) fun t=>t.1=.normal/\Gc 1 t.2 (st65 x (i+1) (d6C x) (i+1:Nat)):=by
 refine⟨for_satS C65_ok D65_ok (n:=200) (n0:=3) (nx:=4) (roots:=[(.slot 5,3)]) (keep:=[0,3,4,5,6]) (drop:=[0,2]) (h:=.nil) (body:=loopN (bodyOf Tryz.prog 65) 1) (by kernel_rfl) (by kernel_rfl) (x.f i).n (fun k=>st65b x i (d6C x) i k (w6C (x.f i)) k) (fun i=>True)
  (fun e t=>e=.exit 2/\t=st65b x i (d6C x) i (x.f i).n (w6C (x.f i)) (x.f i).n) trivial ?_ ?_ ?_ ?_⟩
 ·refine(entA_sound (E65b_eq x i (d6C x) i)).trans ?_
  exact gc_hp rfl rfl ⟨.inl rfl,.inr ⟨_,_,rfl,rfl,.refl _⟩,.inl rfl,.inr ⟨_,_,rfl,rfl,.cells rfl fun x y hx hy=>absurd hx (Nat.not_lt_zero _)⟩,trivial⟩
 ·intro k hk _
  refine Sat.of_eq (B65b_eq x i (d6C x) i k (w6C (x.f i)) k) ⟨by omega,fun _=>⟨by omega,by rw[Int.toNat_natCast];omega,by omega,.inl ⟨rfl,trivial,?_⟩⟩,fun h1=>by rw[Int.toNat_natCast] at h1;simp only[decide_eq_false_iff_not] at h1;omega⟩
  rw[w64_succ hk (by omega),Int.toNat_natCast,Int.toNat_natCast]
  exact gc_hp rfl rfl ⟨.inl rfl,.inr ⟨_,_,rfl,rfl,.refl _⟩,.inl rfl,.inr ⟨_,_,rfl,rfl,.row fun a b ha hb=>app_fun (c:=w6C (x.f i)) (m:=k) (fun b hb=>by
   obtain rfl:b=0:=by omega
   rfl) ha hb⟩,trivial⟩
 ·intro _
  exact Sat.of_eq (B65b_eq x i (d6C x) i (x.f i).n (w6C (x.f i)) (x.f i).n) ⟨by omega,fun h1=>by rw[Int.toNat_natCast] at h1;simp only[decide_eq_true_eq] at h1;omega,fun _=>⟨nofun,rfl,rfl⟩⟩
 ·rintro e t ⟨rfl,rfl⟩
  refine Sat.of_eq (K65b_eq x i (d6C x) i (x.f i).n (w6C (x.f i)) (x.f i).n i (d6C x)) ⟨by omega,⟨by omega,fun j hj=>rfl⟩,by omega,rfl,?_⟩
  rw[w64_succ hi (by omega)]
  have e1:dgW (x.f i).n (intCell fun i_1 j=>w6C (x.f i) (0+i_1) j)=dgL (fmN (x.f i)):=by
   rw[dgL_fmN]
   refine dgW_congr fun j hj=>?_
   show w64 ((x.f i).w (0+j))=_
   rw[Nat.zero_add]
  rw[e1]
  exact gc_hp rfl rfl ⟨.inl rfl,.inr ⟨_,_,rfl,rfl,.row fun a b ha hb=>app_fun (c:=d6C x) (m:=i) (fun b hb=>by
   obtain rfl:b=0:=by omega
   rfl) ha hb⟩,trivial⟩
theorem s65{x:FsT}(hn:x.n<=4)(hw:∀i,i<x.n->(x.f i).n<=1000000000):Sat Tryz.prog (t65 x) (·=u64v (rtG x.n fun i=>dgL (fmN (x.f i)))):=by
 refine Sat.of_eq (L65_eq x) ⟨?_⟩
 refine for_satS C65_ok D65_ok (n:=200) (n0:=1) (nx:=2) (roots:=[(.slot 3,1)]) (keep:=[0,3,4]) (drop:=[0]) (h:=.nil) (body:=loopN (bodyOf Tryz.prog 65) 0) (by kernel_rfl) (by kernel_rfl) x.n (fun i=>st65 x i (d6C x) i) (fun i=>True)
  (fun e t=>e=.exit 0/\t=st65 x x.n (d6C x) x.n) trivial ?_ ?_ ?_ ?_
 ·refine(entA_sound (E65_eq x)).trans ?_
  exact gc_hp rfl rfl ⟨.inl rfl,.inr ⟨_,_,rfl,rfl,.cells rfl fun x y hx hy=>absurd hx (Nat.not_lt_zero _)⟩,trivial⟩
 ·intro i hi _
  refine Sat.of_eq (B65_eq x i (d6C x) i) ⟨fun _=>?_,fun h1=>by simp only[decide_eq_false_iff_not] at h1;omega⟩
  exact Tree.sat_mono (fun r hr=>.inl ⟨hr.1,trivial,hr.2⟩) (s65b hn hi (hw i hi)).ok
 ·intro _
  exact Sat.of_eq (B65_eq x x.n (d6C x) x.n) ⟨fun h1=>by simp only[decide_eq_true_eq] at h1;omega,fun _=>⟨nofun,rfl,rfl⟩⟩
 ·rintro e t ⟨rfl,rfl⟩
  refine Sat.of_eq (K65_eq x x.n (d6C x) x.n) ⟨by omega,⟨hn,fun i hi=>rfl⟩,?_⟩
  have e1:rtV x.n (fun i j=>d6C x (0+i) j)=rtG x.n fun i=>dgL (fmN (x.f i)):=by
   unfold rtV
   refine rtG_congr hn fun i hi=>?_
   show dgL (fmN (x.f (0+i)))=_
   rw[Nat.zero_add]
  rw[e1];rfl
noncomputable def c65:Ctr:=fun ss=>match ss with
 |[.d (.ro n 1 F)]=>.need (FrD n F) (.ret (u64v (fmV n F)))
 |_=>.fail
theorem c65_ok:CtrOK Tryz.prog 65 c65:=ctrOK_leS C65_ok D65_ok (by kernel_rfl) (by kernel_rfl) fun ss r h=>by
 unfold c65 at h
 split at h
 ·rename_i n F
  obtain⟨⟨hn,hF⟩,rfl⟩:=h
  exact⟨[.d (fsC ⟨n,fun i=>fmOf (F i)⟩ 0)],200,.nil,by simp only[leSVs,and_true];exact⟨rfl,rfl,fun i j hi hj=>by rw[show j=0 by omega];exact(hF i hi).2⟩,s65 (x:=⟨n,fun i=>fmOf (F i)⟩) hn fun i hi=>(hF i hi).1⟩
 ·exact h.elim
noncomputable def man64:FuncId->Option Ctr:=fun k=>match k with
 |92=>some cWords
 |_=>none
theorem man64_ok(k:Nat)(c:Ctr)(hk:man64 k=some c):CtrOK Tryz.prog k c/\goodF Tryz.prog k=true:=by
 unfold man64 at hk
 split at hk
 ·cases hk;exact⟨cWordsR_ok,by kernel_rfl⟩
 ·cases hk
noncomputable def C64:Ctx:=ctxN Tryz.prog man64 (fun _=>false) 200 .run 6
theorem C64_ok:CtxOK Tryz.prog C64:=ctxN_ok mixed man64_ok 6
noncomputable def D64:Dr:=drawnL Tryz.prog C64
theorem D64_ok:DrOK Tryz.prog C64 D64:=drawnL_ok C64_ok mixed
noncomputable def e64(i j:Nat):Sx.DV:=selD (decide (0+i<1)) (dsAt [.x (.int .i64 (0:Int))] (0+(0+(0+i))*1+j)) (dsAt [.x (.int .i64 (0:Int))] (0+(0+(0+i-1))*1+j))
noncomputable def t64:Tree SV:=fnT Tryz.prog C64 D64 200 (fnOf Tryz.prog 64) (bodyOf Tryz.prog 64) [.agg [nilS,nilS]] .run
theorem L64_eq:t64=.need (1<=1/\1<=1/\16<=140737488355328) (.need (2<=2) (.need (I64C 2 e64) (.ret (u64v (dgW 2 (intCell e64)))))):=by kernel_rfl
theorem e64_0(i:Nat)(hi:i<2):e64 i 0=.x (.int .i64 0):=by
 have:i=0\/i=1:=by omega
 rcases this with rfl|rfl<;>rfl
theorem d64_eq:dgW 2 (intCell e64)=dgL [0,0]:=by
 unfold dgL
 refine dgW_congr fun i hi=>?_
 show intOf1 (e64 i 0)=_
 rw[e64_0 i hi]
 have:i=0\/i=1:=by omega
 rcases this with rfl|rfl<;>rfl
noncomputable def c64:Ctr:=fun ss=>match ss with
 |[.agg [.d (.x (.slice none 0 0)),.d (.x (.slice none 0 0))]]=>.ret (u64v (dgL [0,0]))
 |_=>.fail
theorem c64_ok:CtrOK Tryz.prog 64 c64:=ctrOK_leS C64_ok D64_ok (by kernel_rfl) (by kernel_rfl) fun ss r h=>by
 unfold c64 at h
 split at h
 ·cases h
  refine⟨[.agg [nilS,nilS]],200,.run,by simp[leSVs,leSV,leD,nilS],Sat.of_eq L64_eq ⟨by omega,by omega,⟨by omega,fun i hi=>?_⟩,by rw[d64_eq];rfl⟩⟩
  unfold intCell
  rw[e64_0 i hi]
  rfl
 ·exact h.elim
end Go.Proofs.YtanlnopgadbpjaaGreat.Rw
namespace Go.Proofs.YtanlnopgadbpjaaGreat
open Go.Sx
noncomputable def manN:FuncId->Option Ctr:=fun k=>match k with
 |48=>some cTag
 |114=>some cTag
 |46=>some cVd
 |85=>some cCd
 |47=>some cDig
 |86=>some cDig
 |87=>some cTagR
 |k=>manM k
theorem manN_ok(k:Nat)(c:Ctr)(h:manN k=some c):CtrOK Tryz.prog k c/\goodF Tryz.prog k=true:=by
 unfold manN at h
 split at h
 ·cases h;exact⟨cTag_ok,by kernel_rfl⟩
 ·cases h;exact⟨cTagL_ok,by kernel_rfl⟩
 ·cases h;exact⟨cVd_ok,by kernel_rfl⟩
 ·cases h;exact⟨cCd_ok,by kernel_rfl⟩
 ·cases h;exact⟨cDig_ok,by kernel_rfl⟩
 ·cases h;exact⟨cDigR_ok,by kernel_rfl⟩
 ·cases h;exact⟨cTagR_ok,by kernel_rfl⟩
 ·exact manM_ok _ _ h
noncomputable def CN:Ctx:=ctxO Tryz.prog manN ownL (fun k=>k==50||k==70153) 200 .nil 6
theorem CN_ok:CtxOK Tryz.prog CN:=ctxO_ok mixed manN_ok ownL_ok 6
noncomputable def DN:Dr:=fun _=>drawn Tryz.prog CN
theorem DN_ok:DrOK Tryz.prog CN DN:=drawn_ok CN_ok mixed
noncomputable def TN(h:Hint)(k:Nat)(args:List SV):Tree SV:=fnT Tryz.prog CN DN 200 (fnOf Tryz.prog k) (bodyOf Tryz.prog k) args h
def chD(n:Nat)(f:Nat->Rel):DV:=.ro n 20 fun i j=>relD (f i) j
noncomputable def tCk(key:Int)(n:Nat)(f:Nat->Rel):Tree SV:=TN .nil 16 [u64v key,.d (chD n f)]
noncomputable def LCk(key:Int)(n:Nat)(f:Nat->Rel):Tree SV :=
 .ite (decide ((↑n:Int)>(200:Int))) (.ret (iv (460:Int))) (.code (codeC (sub [(1:Nat)] (tCk key n f))) (codeS (sub [(1:Nat)] (tCk key n f))) (codeK (sub [(1:Nat)] (tCk key n f))))
theorem LCk_eq(key:Int)(n:Nat)(f:Nat->Rel):tCk key n f=LCk key n f:=by kernel_rfl
noncomputable def tCkR(key:Int)(n:Nat)(f:Nat->Rel):Tree SV:=TN .nil 84 [u64v key,.d (chD n f)]
noncomputable def LCkR(key:Int)(n:Nat)(f:Nat->Rel):Tree SV :=
 .ite (decide ((↑n:Int)>(200:Int))) (.ret (iv (460:Int))) (.code (codeC (sub [(1:Nat)] (tCkR key n f))) (codeS (sub [(1:Nat)] (tCkR key n f))) (codeK (sub [(1:Nat)] (tCkR key n f))))
theorem LCkR_eq(key:Int)(n:Nat)(f:Nat->Rel):tCkR key n f=LCkR key n f:=by kernel_rfl
noncomputable def invCk(key:Int)(n:Nat)(f:Nat->Rel)(k:Nat)(pv:Int):AS:=⟨[.ok (u64v key),.unk,.unk,.unk,.unk,.ok (u64v pv),.unk,.unk,.unk,.unk,.unk,.ok (.d (chD n f)),.ok (iv n),.ok (iv k)]++List.replicate 32 .unk,[],0,.nil⟩
noncomputable def retCk(key:Int)(n:Nat)(f:Nat->Rel)(k:Nat)(pv:Int):AS:=⟨[.ok (u64v key),.unk,.unk,.unk,.ok (iv 460),.ok (u64v pv),.unk,.unk,.unk,.unk,.unk,.ok (.d (chD n f)),.ok (iv n),.ok (iv k)]++List.replicate 32 .unk,[],0,.nil⟩
noncomputable def bodyCk:Code:=loopN (bodyOf Tryz.prog 16) 0
noncomputable def BCk_q1(f:Nat->Rel)(k:Nat)(pv:Int):Bool :=
 Rel.no (f (Int.toNat (↑k:Int))) != w64 ((↑k:Int)+(1:Int))||Rel.prev (f (Int.toNat (↑k:Int))) != pv
noncomputable def BCk_q2(f:Nat->Rel)(k:Nat)(i:Nat)(x:Nat):DV :=
 DV.x (.int .u64 (Rel.fc (f (Int.toNat (↑k:Int))) i))
noncomputable def BCk_q3(f:Nat->Rel)(k:Nat)(pv:Int):Bool :=
 BCk_q1 f k pv||!vdB (f (Int.toNat (↑k:Int)))
noncomputable def BCk_q4(f:Nat->Rel)(k:Nat)(i:Nat)(x:Nat):DV :=
 DV.x (.int .i64 (numN (f (Int.toNat (↑k:Int))) i))
noncomputable def BCk_q5(f:Nat->Rel)(k:Nat)(i:Nat):Int :=
 numN (f (Int.toNat (↑k:Int))) i
noncomputable def BCk_q6(f:Nat->Rel)(i:Nat)(j:Nat):DV :=
 relD (f i) j
noncomputable def BCk(key:Int)(n:Nat)(f:Nat->Rel)(k:Nat)(pv:Int):Tree (Ex×AS) :=
  .ite (decide ((↑k:Int)<(↑n:Int)))
  (.need ((0:Int)<=(↑k:Int)/\(↑k:Int)<(↑n:Int))
   (.need (BCk_q1 f k pv=false->U64C (Rel.fn (f (Int.toNat (↑k:Int)))) (BCk_q2 f k))
   (.need (BCk_q3 f k pv=false->U64C (Rel.fn (f (Int.toNat (↑k:Int)))) (BCk_q2 f k))
   (.need (BCk_q3 f k pv=false->I64C (19+Rel.fn (f (Int.toNat (↑k:Int)))) (BCk_q4 f k))
   (.ite (BCk_q3 f k pv||Rel.tag (f (Int.toNat (↑k:Int))) != stp key (dgW (19+Rel.fn (f (Int.toNat (↑k:Int)))) (BCk_q5 f k)))
   (.ret
   (.ret,
   {
   tm :=
   [.ok (SV.d (DV.x (.int .u64 key))),.unk,.unk,.unk,.ok (iv (460:Int)),.ok (SV.d (DV.x (.int .u64 pv))),.unk,.unk,.unk,.unk,.unk,
   .ok (SV.d (DV.ro n 20 (BCk_q6 f))),.ok (iv (↑n:Int)),.ok (iv (↑k:Int)),.unk,.unk,.unk,.unk,.unk,.unk,.unk,.unk,.unk,.unk,.unk,.unk,.unk,.unk,
   .unk,.unk,.unk,.unk,.unk,.unk,.unk,.unk,.unk,.unk,.unk,.unk,.unk,.unk,.unk,.unk,.unk,.unk],
   hp:=[],next:=0,hint:=.nil }))
   (.need (U64C (Rel.fn (f (Int.toNat (↑k:Int)))) (BCk_q2 f k))
   (.ret
   (.normal,
   {
   tm :=
   [.ok (SV.d (DV.x (.int .u64 key))),.unk,.unk,.unk,.unk,.ok (SV.d (DV.x (.int .u64 (dig (f (Int.toNat (↑k:Int))))))),.unk,.unk,.unk,.unk,.unk,
   .ok (SV.d (DV.ro n 20 (BCk_q6 f))),.ok (iv (↑n:Int)),.ok (iv (w64 ((↑k:Int)+(1:Int)))),.unk,.unk,.unk,.unk,.unk,.unk,.unk,.unk,.unk,.unk,.unk,
   .unk,.unk,.unk,.unk,.unk,.unk,.unk,.unk,.unk,.unk,.unk,.unk,.unk,.unk,.unk,.unk,.unk,.unk,.unk,.unk,.unk],
   hp:=[],next:=0,hint:=.nil }))))))))
  (.ret
   (.exit 0,
   {
   tm :=
   [.ok (SV.d (DV.x (.int .u64 key))),.unk,.unk,.unk,.unk,.ok (SV.d (DV.x (.int .u64 pv))),.unk,.unk,.unk,.unk,.unk,.ok (SV.d (DV.ro n 20 (BCk_q6 f))),
   .ok (iv (↑n:Int)),.ok (iv (↑k:Int)),.unk,.unk,.unk,.unk,.unk,.unk,.unk,.unk,.unk,.unk,.unk,.unk,.unk,.unk,.unk,.unk,.unk,.unk,.unk,.unk,.unk,.unk,
   .unk,.unk,.unk,.unk,.unk,.unk,.unk,.unk,.unk,.unk],
   hp:=[],next:=0,hint:=.nil }))
theorem BCk_eq(key:Int)(n:Nat)(f:Nat->Rel)(k:Nat)(pv:Int):cutT 0 [] [0,4,5,11,12,13] [] 0 .nil (exec Tryz.prog CN DN 200 bodyCk (invCk key n f k pv))=BCk key n f k pv:=by kernel_rfl
noncomputable def KCk(key:Int)(n:Nat)(f:Nat->Rel)(k:Nat)(pv:Int):Tree SV :=
 .ret (iv (0:Int))
theorem KCk_eq(key:Int)(n:Nat)(f:Nat->Rel)(k:Nat)(pv:Int):codeK (sub [1] (tCk key n f)) (.exit 0) (invCk key n f k pv)=KCk key n f k pv:=by kernel_rfl
noncomputable def KCkR(key:Int)(n:Nat)(f:Nat->Rel)(k:Nat)(pv:Int):Tree SV :=
 .ret (iv (460:Int))
theorem KCkR_eq(key:Int)(n:Nat)(f:Nat->Rel)(k:Nat)(pv:Int):codeK (sub [1] (tCk key n f)) .ret (retCk key n f k pv)=KCkR key n f k pv:=by kernel_rfl
noncomputable def invCj(key:Int)(n:Nat)(f:Nat->Rel)(k:Nat)(pv:Int):AS:=⟨[.ok (u64v key),.ok (.d (chD n f)),.unk,.unk,.unk,.ok (u64v pv),.ok (iv k)]++List.replicate 46 .unk,[],0,.nil⟩
noncomputable def retCj(key:Int)(n:Nat)(f:Nat->Rel)(k:Nat)(pv:Int):AS:=⟨[.ok (u64v key),.ok (.d (chD n f)),.unk,.unk,.ok (iv 460),.ok (u64v pv),.ok (iv k)]++List.replicate 46 .unk,[],0,.nil⟩
noncomputable def bodyCj:Code:=loopN (bodyOf Tryz.prog 84) 0
noncomputable def BCj_q1(f:Nat->Rel)(k:Nat)(pv:Int):Bool :=
 Rel.no (f (Int.toNat (↑k:Int))) != w64 ((↑k:Int)+(1:Int))||Rel.prev (f (Int.toNat (↑k:Int))) != pv
noncomputable def BCj_q2(f:Nat->Rel)(k:Nat)(i:Nat)(x:Nat):DV :=
 DV.x (.int .u64 (Rel.fc (f (Int.toNat (↑k:Int))) i))
noncomputable def BCj_q3(f:Nat->Rel)(k:Nat)(pv:Int):Bool :=
 BCj_q1 f k pv||!cdB (f (Int.toNat (↑k:Int)))||decide ((↑(Rel.fn (f (Int.toNat (↑k:Int)))):Int)>(8:Int))
noncomputable def BCj_q4(f:Nat->Rel)(i:Nat)(j:Nat):DV :=
 relD (f i) j
noncomputable def BCj(key:Int)(n:Nat)(f:Nat->Rel)(k:Nat)(pv:Int):Tree (Ex×AS) :=
  .ite (decide ((↑k:Int)<(↑n:Int)))
  (.need ((0:Int)<=(↑k:Int)/\(↑k:Int)<(↑n:Int))
   (.need (BCj_q1 f k pv=false->U64C (Rel.fn (f (Int.toNat (↑k:Int)))) (BCj_q2 f k))
   (.need (BCj_q3 f k pv=false->U64C (Rel.fn (f (Int.toNat (↑k:Int)))) (BCj_q2 f k))
   (.ite (BCj_q3 f k pv||Rel.tag (f (Int.toNat (↑k:Int))) != stp key (dig (f (Int.toNat (↑k:Int)))))
   (.ret
   (.ret,
   {
   tm :=
   [.ok (SV.d (DV.x (.int .u64 key))),.ok (SV.d (DV.ro n 20 (BCj_q4 f))),.unk,.unk,.ok (iv (460:Int)),.ok (SV.d (DV.x (.int .u64 pv))),.ok (iv (↑k:Int)),
   .unk,.unk,.unk,.unk,.unk,.unk,.unk,.unk,.unk,.unk,.unk,.unk,.unk,.unk,.unk,.unk,.unk,.unk,.unk,.unk,.unk,.unk,.unk,.unk,.unk,.unk,.unk,
   .unk,.unk,.unk,.unk,.unk,.unk,.unk,.unk,.unk,.unk,.unk,.unk,.unk,.unk,.unk,.unk,.unk,.unk,.unk],
   hp:=[],next:=0,hint:=.nil }))
   (.need (U64C (Rel.fn (f (Int.toNat (↑k:Int)))) (BCj_q2 f k))
   (.ret
   (.normal,
   {
   tm :=
   [.ok (SV.d (DV.x (.int .u64 key))),.ok (SV.d (DV.ro n 20 (BCj_q4 f))),.unk,.unk,.unk,.ok (SV.d (DV.x (.int .u64 (dig (f (Int.toNat (↑k:Int))))))),
   .ok (iv (w64 ((↑k:Int)+(1:Int)))),.unk,.unk,.unk,.unk,.unk,.unk,.unk,.unk,.unk,.unk,.unk,.unk,.unk,.unk,.unk,.unk,.unk,.unk,.unk,.unk,.unk,.unk,
   .unk,.unk,.unk,.unk,.unk,.unk,.unk,.unk,.unk,.unk,.unk,.unk,.unk,.unk,.unk,.unk,.unk,.unk,.unk,.unk,.unk,.unk,.unk,.unk],
   hp:=[],next:=0,hint:=.nil })))))))
  (.ret
   (.exit 0,
   {
   tm :=
   [.ok (SV.d (DV.x (.int .u64 key))),.ok (SV.d (DV.ro n 20 (BCj_q4 f))),.unk,.unk,.unk,.ok (SV.d (DV.x (.int .u64 pv))),.ok (iv (↑k:Int)),.unk,.unk,.unk,
   .unk,.unk,.unk,.unk,.unk,.unk,.unk,.unk,.unk,.unk,.unk,.unk,.unk,.unk,.unk,.unk,.unk,.unk,.unk,.unk,.unk,.unk,.unk,.unk,.unk,.unk,.unk,.unk,
   .unk,.unk,.unk,.unk,.unk,.unk,.unk,.unk,.unk,.unk,.unk,.unk,.unk,.unk,.unk],
   hp:=[],next:=0,hint:=.nil }))
theorem BCj_eq(key:Int)(n:Nat)(f:Nat->Rel)(k:Nat)(pv:Int):cutT 0 [] [0,1,4,5,6] [] 0 .nil (exec Tryz.prog CN DN 200 bodyCj (invCj key n f k pv))=BCj key n f k pv:=by kernel_rfl
noncomputable def KCj(key:Int)(n:Nat)(f:Nat->Rel)(k:Nat)(pv:Int):Tree SV :=
 .ret (iv (0:Int))
theorem KCj_eq(key:Int)(n:Nat)(f:Nat->Rel)(k:Nat)(pv:Int):codeK (sub [1] (tCkR key n f)) (.exit 0) (invCj key n f k pv)=KCj key n f k pv:=by kernel_rfl
noncomputable def KCjR(key:Int)(n:Nat)(f:Nat->Rel)(k:Nat)(pv:Int):Tree SV :=
 .ret (iv (460:Int))
theorem KCjR_eq(key:Int)(n:Nat)(f:Nat->Rel)(k:Nat)(pv:Int):codeK (sub [1] (tCkR key n f)) .ret (retCj key n f k pv)=KCjR key n f k pv:=by kernel_rfl
def prevN(f:Nat->Rel):Nat->Int
 |0=>0
 |k+1=>dig (f k)
noncomputable def goodR(key:Int)(f:Nat->Rel)(k:Nat):Bool:=(f k).no==(k:Int)+1&&(f k).prev==prevN f k&&vdB (f k)&&(f k).tag==stp key (dig (f k))
noncomputable def ckB(key:Int)(f:Nat->Rel):Nat->Bool
 |0=>true
 |n+1=>ckB key f n&&goodR key f n
theorem ckB_iff{key:Int}{f:Nat->Rel}:∀{n:Nat},ckB key f n=true ↔ ∀k,k<n->goodR key f k=true
 |0=>by simp[ckB]
 |n+1=>by
  simp only[ckB,Bool.and_eq_true,ckB_iff (n:=n)]
  constructor
  ·rintro⟨h1,h2⟩ i hi
   by_cases h:i=n
   ·subst h;exact h2
   ·exact h1 i (by omega)
  ·exact fun h=>⟨fun i hi=>h i (by omega),h n (by omega)⟩
noncomputable def ckV(key:Int)(n:Nat)(f:Nat->Rel):Int:=if decide ((n:Int)>200) then 460 else if ckB key f n then 0 else 460
theorem ck_sat{key:Int}{n:Nat}{f:Nat->Rel}(hf:∀i,i<n->(f i).fn<=1000000):Sat Tryz.prog (tCk key n f) (·=iv (ckV key n f)):=by
 constructor
 rw[LCk_eq];unfold LCk
 refine⟨fun h=>?_,fun h=>?_⟩
 ·unfold ckV;rw[if_pos h];exact rfl
 ·have hn:n<=200:=by simp only[decide_eq_false_iff_not] at h;omega
  have e0:ckV key n f=if ckB key f n then 0 else 460:=by unfold ckV;rw[if_neg (by rw[h];decide)]
  rw[e0]
  refine code_satS CN_ok DN_ok (n:=200) (n0:=0) (nx:=0) (roots:=[]) (keep:=[0,4,5,11,12,13]) (drop:=[]) (h:=.nil) (c:=codeC (sub [1] (tCk key n f))) (st:=codeS (sub [1] (tCk key n f))) (k:=codeK (sub [1] (tCk key n f))) (body:=bodyCk) (by kernel_rfl) (by kernel_rfl)
   (fun q s=>∃k:Nat,q=n-k/\k<=n/\ckB key f k=true/\s=invCk key n f k (prevN f k))
   (fun e s=>(e=.exit 0/\ckB key f n=true/\s=invCk key n f n (prevN f n))\/(e=.ret/\∃k,ckB key f n=false/\s=retCk key n f k (prevN f k)))
   ⟨_,_,⟨0,rfl,by omega,rfl,rfl⟩,?_⟩ ?_ ?_
  ·exact entA_sound (roots:=[]) (keep:=[0,5,11,12,13]) (drop:=[]) (nx:=0) (h:=.nil) (by kernel_rfl)
  ·rintro q s ⟨k,rfl,hk,hq,rfl⟩
   refine Sat.of_eq (BCk_eq key n f k (prevN f k)) ?_
   constructor
   unfold BCk BCk_q3 BCk_q1 BCk_q2 BCk_q4
   simp only[Int.toNat_natCast]
   refine⟨fun hc=>?_,fun hc=>?_⟩
   ·have hc:k<n:=by simp only[decide_eq_true_eq] at hc;omega
    have hu:U64C (f k).fn fun i _=>.x (.int .u64 ((f k).fc i)):=U64C.self (hf k hc)
    have hi:I64C (19+(f k).fn) fun i _=>.x (.int .i64 (numN (f k) i)):=I64C.self (by have:=hf k hc;omega)
    have hw:w64 ((k:Int)+1)=(k:Int)+1:=w64_of (by omega) (by omega)
    simp only[hw]
    have ed:dgW (19+(f k).fn) (BCk_q5 f k)=dig (f k):=by unfold dig BCk_q5;simp only[Int.toNat_natCast]
    rw[ed]
    refine⟨by omega,fun _=>hu,fun _=>hu,fun _=>hi,fun h=>?_,fun h=>?_⟩
    ·refine⟨_,.inr ⟨rfl,k,?_,rfl⟩,Gc.refl _ _⟩
     rw[Bool.eq_false_iff]
     intro h2
     have h3:=ckB_iff.1 h2 k hc
     simp only[goodR,Bool.and_eq_true,beq_iff_eq] at h3
     simp[h3] at h
    ·have hg:goodR key f k=true:=by
      simp only[Bool.or_eq_false_iff,bne_eq_false_iff_eq,Bool.not_eq_false'] at h
      simp[goodR,h]
     refine⟨hu,n-(k+1),_,by omega,⟨k+1,rfl,by omega,?_,rfl⟩,?_⟩
     ·simp[ckB,hq,hg]
     ·exact Gc.refl _ _
   ·have hc:k=n:=by simp only[decide_eq_false_iff_not] at hc;omega
    subst hc
    exact⟨_,.inl ⟨rfl,hq,rfl⟩,Gc.refl _ _⟩
  ·rintro e s (⟨rfl,hq,rfl⟩|⟨rfl,k,hq,rfl⟩)
   ·refine Sat.of_eq (KCk_eq key n f n _) ⟨?_⟩
    rw[hq];exact rfl
   ·refine Sat.of_eq (KCkR_eq key n f k _) ⟨?_⟩
    rw[hq];exact rfl
theorem cj_sat{key:Int}{n:Nat}{f:Nat->Rel}(hf:∀i,i<n->(f i).fn<=1000000):Sat Tryz.prog (tCkR key n f) (·=iv (ckV key n f)):=by
 constructor
 rw[LCkR_eq];unfold LCkR
 refine⟨fun h=>?_,fun h=>?_⟩
 ·unfold ckV;rw[if_pos h];exact rfl
 ·have hn:n<=200:=by simp only[decide_eq_false_iff_not] at h;omega
  have e0:ckV key n f=if ckB key f n then 0 else 460:=by unfold ckV;rw[if_neg (by rw[h];decide)]
  rw[e0]
  refine code_satS CN_ok DN_ok (n:=200) (n0:=0) (nx:=0) (roots:=[]) (keep:=[0,1,4,5,6]) (drop:=[]) (h:=.nil) (c:=codeC (sub [1] (tCkR key n f))) (st:=codeS (sub [1] (tCkR key n f))) (k:=codeK (sub [1] (tCkR key n f))) (body:=bodyCj) (by kernel_rfl) (by kernel_rfl)
   (fun q s=>∃k:Nat,q=n-k/\k<=n/\ckB key f k=true/\s=invCj key n f k (prevN f k))
   (fun e s=>(e=.exit 0/\ckB key f n=true/\s=invCj key n f n (prevN f n))\/(e=.ret/\∃k,ckB key f n=false/\s=retCj key n f k (prevN f k)))
   ⟨_,_,⟨0,rfl,by omega,rfl,rfl⟩,?_⟩ ?_ ?_
  ·exact entA_sound (roots:=[]) (keep:=[0,1,5,6]) (drop:=[]) (nx:=0) (h:=.nil) (by kernel_rfl)
  ·rintro q s ⟨k,rfl,hk,hq,rfl⟩
   refine Sat.of_eq (BCj_eq key n f k (prevN f k)) ?_
   constructor
   unfold BCj BCj_q3 BCj_q1 BCj_q2
   simp only[Int.toNat_natCast]
   refine⟨fun hc=>?_,fun hc=>?_⟩
   ·have hc:k<n:=by simp only[decide_eq_true_eq] at hc;omega
    have hu:U64C (f k).fn fun i _=>.x (.int .u64 ((f k).fc i)):=U64C.self (hf k hc)
    have hw:w64 ((k:Int)+1)=(k:Int)+1:=w64_of (by omega) (by omega)
    simp only[hw]
    refine⟨by omega,fun _=>hu,fun _=>hu,fun h=>?_,fun h=>?_⟩
    ·refine⟨_,.inr ⟨rfl,k,?_,rfl⟩,Gc.refl _ _⟩
     rw[Bool.eq_false_iff]
     intro h2
     have h3:=ckB_iff.1 h2 k hc
     simp only[goodR,vdB,Bool.and_eq_true,beq_iff_eq,decide_eq_true_eq] at h3
     simp[h3] at h
     omega
    ·have hg:goodR key f k=true:=by
      simp only[Bool.or_eq_false_iff,bne_eq_false_iff_eq,Bool.not_eq_false',decide_eq_false_iff_not] at h
      simp only[goodR,vdB,h,Bool.and_eq_true,beq_self_eq_true,decide_eq_true_eq,and_true,true_and]
      omega
     refine⟨hu,n-(k+1),_,by omega,⟨k+1,rfl,by omega,?_,rfl⟩,?_⟩
     ·simp[ckB,hq,hg]
     ·exact Gc.refl _ _
   ·have hc:k=n:=by simp only[decide_eq_false_iff_not] at hc;omega
    subst hc
    exact⟨_,.inl ⟨rfl,hq,rfl⟩,Gc.refl _ _⟩
  ·rintro e s (⟨rfl,hq,rfl⟩|⟨rfl,k,hq,rfl⟩)
   ·refine Sat.of_eq (KCj_eq key n f n _) ⟨?_⟩
    rw[hq];exact rfl
   ·refine Sat.of_eq (KCjR_eq key n f k _) ⟨?_⟩
    rw[hq];exact rfl
set_option pp.structureInstances false
def _root_.Go.Sx.frN:DV->Nat
 |.ro n _ _=>n
 |_=>0
noncomputable def frC:DV->Nat->Int
 |.ro _ _ c=>intCell c
 |_=>fun _=>0
noncomputable def relC(cell:Nat->Nat->DV)(i:Nat):Rel:=⟨intOf1 (cell i 0),intOf1 (cell i 1),intOf1 (cell i 2),intOf1 (cell i 3),frN (cell i 4),frC (cell i 4),intOf1 (cell i 5),intOf1 (cell i 6),intOf1 (cell i 7),intOf1 (cell i 8),intOf1 (cell i 9),intOf1 (cell i 10),intOf1 (cell i 11),intOf1 (cell i 12),intOf1 (cell i 13),intOf1 (cell i 14),intOf1 (cell i 15),intOf1 (cell i 16),intOf1 (cell i 17),intOf1 (cell i 18),intOf1 (cell i 19)⟩
def ChC(n:Nat)(cell:Nat->Nat->DV):Prop:=n<=1000000/\∀i,i<n->(relC cell i).fn<=1000000/\∀j,j<20->cell i j=relD (relC cell i) j
theorem ChC.self{n:Nat}{f:Nat->Rel}(hn:n<=1000000)(h:∀i,i<n->(f i).fn<=1000000):ChC n fun i j=>relD (f i) j:=⟨hn,fun i hi=>⟨h i hi,fun j _=>rfl⟩⟩
theorem ChC.le{n:Nat}{d:DV}{cell:Nat->Nat->DV}(h:rowD 20 d=some (n,cell))(k:ChC n cell):leD d (chD n (relC cell)):=rowD_le h fun i j hi hj=>(k.2 i hi).2 j hj
theorem ChC.fn{n:Nat}{cell:Nat->Nat->DV}(k:ChC n cell):∀i,i<n->(relC cell i).fn<=1000000:=fun i hi=>(k.2 i hi).1
noncomputable def cCk:Ctr:=fun ss=>match ss with
 |[.d (.x (.int .u64 key)),.d d]=>match rowD 20 d with
  |some (n,cell)=>.need (ChC n cell) (.ret (iv (ckV key n (relC cell))))
  |none=>.fail
 |_=>.fail
theorem cCk_ok:CtrOK Tryz.prog 16 cCk:=by
 refine ctrOK_leS CN_ok DN_ok (by kernel_rfl) (by kernel_rfl) fun ss r h=>?_
 unfold cCk at h
 split at h
 ·rename_i key d
  split at h
  ·rename_i n cell hr
   obtain⟨h1,rfl⟩:=h
   have k:=ck_sat (key:=key) h1.fn
   refine⟨[u64v key,.d (chD n (relC cell))],200,.nil,?_,?_⟩
   ·simp only[leSVs,leSV,u64v,and_true];exact⟨by simp[leD],h1.le hr⟩
   ·exact k
  ·exact h.elim
 ·exact h.elim
theorem cCj_ok:CtrOK Tryz.prog 84 cCk:=by
 refine ctrOK_leS CN_ok DN_ok (by kernel_rfl) (by kernel_rfl) fun ss r h=>?_
 unfold cCk at h
 split at h
 ·rename_i key d
  split at h
  ·rename_i n cell hr
   obtain⟨h1,rfl⟩:=h
   have k:=cj_sat (key:=key) h1.fn
   refine⟨[u64v key,.d (chD n (relC cell))],200,.nil,?_,?_⟩
   ·simp only[leSVs,leSV,u64v,and_true];exact⟨by simp[leD],h1.le hr⟩
   ·exact k
  ·exact h.elim
 ·exact h.elim
noncomputable def LCl(n:Nat)(cell:Nat->Nat->DV):Tree SV :=
 .need ((↑n:Int)=(↑n:Int)/\(↑n:Int)=(↑n:Int)) (.ret (SV.d (DV.rf n 20 cell)))
theorem LCl_eq(n:Nat)(cell:Nat->Nat->DV):TN .nil 50 [.d (.ro n 20 cell)]=LCl n cell:=by kernel_rfl
noncomputable def cClip:Ctr:=fun ss=>match ss with
 |[.d d]=>match rowD 20 d with
  |some (n,cell)=>.ret (.d (.rf n 20 cell))
  |none=>.fail
 |_=>.fail
theorem cClip_ok:CtrOK Tryz.prog 50 cClip:=by
 refine ctrOK_leS CN_ok DN_ok (by kernel_rfl) (by kernel_rfl) fun ss r h=>?_
 unfold cClip at h
 split at h
 ·rename_i d
  split at h
  ·rename_i n cell hr
   simp only[Tr.ev] at h;subst h
   refine⟨[.d (.ro n 20 cell)],200,.nil,?_,Sat.of_eq (LCl_eq n cell) ⟨?_⟩⟩
   ·simp only[leSVs,leSV,and_true];exact rowD_le hr fun i j _ _=>rfl
   ·unfold LCl;exact⟨⟨rfl,rfl⟩,rfl⟩
  ·exact h.elim
 ·exact h.elim
noncomputable def manO:FuncId->Option Ctr:=fun k=>match k with
 |16=>some cCk
 |84=>some cCk
 |50=>some cClip
 |k=>manN k
theorem manO_ok(k:Nat)(c:Ctr)(h:manO k=some c):CtrOK Tryz.prog k c/\goodF Tryz.prog k=true:=by
 unfold manO at h
 split at h
 ·cases h;exact⟨cCk_ok,by kernel_rfl⟩
 ·cases h;exact⟨cCj_ok,by kernel_rfl⟩
 ·cases h;exact⟨cClip_ok,by kernel_rfl⟩
 ·exact manN_ok _ _ h
noncomputable def CO:Ctx:=ctxO Tryz.prog manO ownL (fun k=>k==70154) 200 .nil 6
theorem CO_ok:CtxOK Tryz.prog CO:=ctxO_ok mixed manO_ok ownL_ok 6
noncomputable def DO:Dr:=fun _=>drawn Tryz.prog CO
theorem DO_ok:DrOK Tryz.prog CO DO:=drawn_ok CO_ok mixed
noncomputable def TO(h:Hint)(k:Nat)(args:List SV):Tree SV:=fnT Tryz.prog CO DO 200 (fnOf Tryz.prog k) (bodyOf Tryz.prog k) args h
noncomputable def LNx_q1(f:Nat->Rel)(i:Nat)(j:Nat):DV :=
 relD (f i) j
noncomputable def LNx_q2(r:Rel)(i:Nat)(x:Nat):DV :=
 DV.x (.int .u64 (Rel.fc r i))
noncomputable def LNx_q3(n:Nat)(f:Nat->Rel)(i:Nat)(x:Nat):DV :=
 DV.x (.int .u64 (Rel.fc (f (Int.toNat (w64 ((↑n:Int)-(1:Int))))) i))
noncomputable def LNx_q4(r:Rel)(i:Nat):Int :=
 Rel.fc r i
noncomputable def LNx_q5(n:Nat)(f:Nat->Rel)(r:Rel)(i:Nat)(x:Nat):DV :=
  DV.x
  (.int .i64
   (numN
   (Rel.mk (w64 ((↑n:Int)+(1:Int))) (dig (f (Int.toNat (w64 ((↑n:Int)-(1:Int)))))) (Rel.src r) (Rel.cir r) (Rel.fn r) (LNx_q4 r) (Rel.b0 r) (Rel.b1 r) (Rel.b2 r) (Rel.b3 r) (Rel.b4 r) (Rel.b5 r) (Rel.b6 r)
   (Rel.b7 r) (Rel.b8 r) (Rel.b9 r) (Rel.b10 r) (Rel.b11 r) (Rel.pn r) (Rel.pd r) (Rel.tag r))
   i))
noncomputable def LNx_q6(n:Nat)(f:Nat->Rel)(r:Rel)(i:Nat):Int :=
  numN
  (Rel.mk (w64 ((↑n:Int)+(1:Int))) (dig (f (Int.toNat (w64 ((↑n:Int)-(1:Int)))))) (Rel.src r) (Rel.cir r) (Rel.fn r) (LNx_q4 r) (Rel.b0 r) (Rel.b1 r) (Rel.b2 r) (Rel.b3 r) (Rel.b4 r) (Rel.b5 r) (Rel.b6 r) (Rel.b7 r)
   (Rel.b8 r) (Rel.b9 r) (Rel.b10 r) (Rel.b11 r) (Rel.pn r) (Rel.pd r) (Rel.tag r))
  i
noncomputable def LNx_q7(key:Int)(n:Nat)(f:Nat->Rel)(r:Rel)(i:Nat)(j:Nat):DV :=
  selD (decide (0+i<n)) (relD (f ((0:Nat)+i)) j)
  (dsAt
   [DV.x (.int .i64 (w64 ((↑n:Int)+(1:Int)))),DV.x (.int .u64 (dig (f (Int.toNat (w64 ((↑n:Int)-(1:Int))))))),DV.x (.int .u64 (Rel.src r)),DV.x (.int .u64 (Rel.cir r)),
   DV.ro (Rel.fn r) 1 (LNx_q2 r),DV.x (.int .i64 (Rel.b0 r)),DV.x (.int .i64 (Rel.b1 r)),DV.x (.int .i64 (Rel.b2 r)),DV.x (.int .i64 (Rel.b3 r)),
   DV.x (.int .i64 (Rel.b4 r)),DV.x (.int .i64 (Rel.b5 r)),DV.x (.int .i64 (Rel.b6 r)),DV.x (.int .i64 (Rel.b7 r)),DV.x (.int .i64 (Rel.b8 r)),
   DV.x (.int .i64 (Rel.b9 r)),DV.x (.int .i64 (Rel.b10 r)),DV.x (.int .i64 (Rel.b11 r)),DV.x (.int .i64 (Rel.pn r)),DV.x (.int .i64 (Rel.pd r)),
   DV.x
   (.int .u64
   (stp key
   (dgW
   (19 +
   Rel.fn
   (Rel.mk (w64 ((↑n:Int)+(1:Int))) (dig (f (Int.toNat (w64 ((↑n:Int)-(1:Int)))))) (Rel.src r) (Rel.cir r) (Rel.fn r) (LNx_q4 r) (Rel.b0 r) (Rel.b1 r) (Rel.b2 r) (Rel.b3 r) (Rel.b4 r) (Rel.b5 r)
   (Rel.b6 r) (Rel.b7 r) (Rel.b8 r) (Rel.b9 r) (Rel.b10 r) (Rel.b11 r) (Rel.pn r) (Rel.pd r) (Rel.tag r)))
   (LNx_q6 n f r))))]
   (0+(0+(0+i-n))*20+j))
noncomputable def LNx_q8(n:Nat)(r:Rel)(i:Nat)(x:Nat):DV :=
  DV.x
  (.int .i64
   (numN
   (Rel.mk (w64 ((↑n:Int)+(1:Int))) (0:Int) (Rel.src r) (Rel.cir r) (Rel.fn r) (LNx_q4 r) (Rel.b0 r) (Rel.b1 r) (Rel.b2 r) (Rel.b3 r) (Rel.b4 r) (Rel.b5 r) (Rel.b6 r) (Rel.b7 r) (Rel.b8 r) (Rel.b9 r) (Rel.b10 r)
   (Rel.b11 r) (Rel.pn r) (Rel.pd r) (Rel.tag r))
   i))
noncomputable def LNx_q9(n:Nat)(r:Rel)(i:Nat):Int :=
  numN
  (Rel.mk (w64 ((↑n:Int)+(1:Int))) (0:Int) (Rel.src r) (Rel.cir r) (Rel.fn r) (LNx_q4 r) (Rel.b0 r) (Rel.b1 r) (Rel.b2 r) (Rel.b3 r) (Rel.b4 r) (Rel.b5 r) (Rel.b6 r) (Rel.b7 r) (Rel.b8 r) (Rel.b9 r) (Rel.b10 r)
   (Rel.b11 r) (Rel.pn r) (Rel.pd r) (Rel.tag r))
  i
noncomputable def LNx_q10(key:Int)(n:Nat)(f:Nat->Rel)(r:Rel)(i:Nat)(j:Nat):DV :=
  selD (decide (0+i<n)) (relD (f ((0:Nat)+i)) j)
  (dsAt
   [DV.x (.int .i64 (w64 ((↑n:Int)+(1:Int)))),DV.x (.int .u64 (0:Int)),DV.x (.int .u64 (Rel.src r)),DV.x (.int .u64 (Rel.cir r)),
   DV.ro (Rel.fn r) 1 (LNx_q2 r),DV.x (.int .i64 (Rel.b0 r)),DV.x (.int .i64 (Rel.b1 r)),DV.x (.int .i64 (Rel.b2 r)),DV.x (.int .i64 (Rel.b3 r)),
   DV.x (.int .i64 (Rel.b4 r)),DV.x (.int .i64 (Rel.b5 r)),DV.x (.int .i64 (Rel.b6 r)),DV.x (.int .i64 (Rel.b7 r)),DV.x (.int .i64 (Rel.b8 r)),
   DV.x (.int .i64 (Rel.b9 r)),DV.x (.int .i64 (Rel.b10 r)),DV.x (.int .i64 (Rel.b11 r)),DV.x (.int .i64 (Rel.pn r)),DV.x (.int .i64 (Rel.pd r)),
   DV.x
   (.int .u64
   (stp key
   (dgW
   (19 +
   Rel.fn
   (Rel.mk (w64 ((↑n:Int)+(1:Int))) (0:Int) (Rel.src r) (Rel.cir r) (Rel.fn r) (LNx_q4 r) (Rel.b0 r) (Rel.b1 r) (Rel.b2 r) (Rel.b3 r) (Rel.b4 r) (Rel.b5 r) (Rel.b6 r) (Rel.b7 r) (Rel.b8 r) (Rel.b9 r)
   (Rel.b10 r) (Rel.b11 r) (Rel.pn r) (Rel.pd r) (Rel.tag r)))
   (LNx_q9 n r))))]
   (0+(0+(0+i-n))*20+j))
noncomputable def LNx(key:Int)(n:Nat)(f:Nat->Rel)(r:Rel):Tree SV :=
  .need (ChC n (LNx_q1 f))
  (.ite ((ckV key n fun i=>f i) != (0:Int)) (.ret (SV.tup [SV.d (DV.x (.slice none 0 0)),iv (460:Int)]))
   (.ite (decide ((↑n:Int)>=(200:Int))) (.ret (SV.tup [SV.d (DV.x (.slice none 0 0)),iv (2:Int)]))
   (.need (U64C (Rel.fn r) (LNx_q2 r))
   (.ite (!vdB r) (.ret (SV.tup [SV.d (DV.x (.slice none 0 0)),iv (1:Int)]))
   (.ite (decide ((↑n:Int)>(0:Int)))
   (.need ((0:Int)<=w64 ((↑n:Int)-(1:Int))/\w64 ((↑n:Int)-(1:Int))<(↑n:Int))
   (.need (U64C (Rel.fn (f (Int.toNat (w64 ((↑n:Int)-(1:Int)))))) (LNx_q3 n f))
   (.need (U64C (Rel.fn r) (LNx_q2 r))
   (.need
   (I64C
   (19 +
   Rel.fn
   (Rel.mk (w64 ((↑n:Int)+(1:Int))) (dig (f (Int.toNat (w64 ((↑n:Int)-(1:Int)))))) (Rel.src r) (Rel.cir r) (Rel.fn r) (LNx_q4 r) (Rel.b0 r) (Rel.b1 r) (Rel.b2 r) (Rel.b3 r) (Rel.b4 r) (Rel.b5 r)
   (Rel.b6 r) (Rel.b7 r) (Rel.b8 r) (Rel.b9 r) (Rel.b10 r) (Rel.b11 r) (Rel.pn r) (Rel.pd r) (Rel.tag r)))
   (LNx_q5 n f r))
   (.need
   (True /\
   20 <=
   List.length
   [iv (w64 ((↑n:Int)+(1:Int))),SV.d (DV.x (.int .u64 (dig (f (Int.toNat (w64 ((↑n:Int)-(1:Int)))))))),SV.d (DV.x (.int .u64 (Rel.src r))),
   SV.d (DV.x (.int .u64 (Rel.cir r))),SV.d (DV.ro (Rel.fn r) 1 (LNx_q2 r)),iv (Rel.b0 r),iv (Rel.b1 r),iv (Rel.b2 r),iv (Rel.b3 r),iv (Rel.b4 r),iv (Rel.b5 r),
   iv (Rel.b6 r),iv (Rel.b7 r),iv (Rel.b8 r),iv (Rel.b9 r),iv (Rel.b10 r),iv (Rel.b11 r),iv (Rel.pn r),iv (Rel.pd r),
   SV.d
   (DV.x
   (.int .u64
   (stp key
   (dgW
   (19 +
   Rel.fn
   (Rel.mk (w64 ((↑n:Int)+(1:Int))) (dig (f (Int.toNat (w64 ((↑n:Int)-(1:Int)))))) (Rel.src r) (Rel.cir r) (Rel.fn r) (LNx_q4 r) (Rel.b0 r) (Rel.b1 r) (Rel.b2 r) (Rel.b3 r)
   (Rel.b4 r) (Rel.b5 r) (Rel.b6 r) (Rel.b7 r) (Rel.b8 r) (Rel.b9 r) (Rel.b10 r) (Rel.b11 r) (Rel.pn r) (Rel.pd r) (Rel.tag r)))
   (LNx_q6 n f r)))))] /\
   (n+1)*176<=140737488355328)
   (.need (0+(n+1)<=n+1) (.ret (SV.tup [SV.d (DV.ro (n+1) 20 (LNx_q7 key n f r)),iv (0:Int)]))))))))
   (.need (U64C (Rel.fn r) (LNx_q2 r))
   (.need
   (I64C
   (19 +
   Rel.fn
   (Rel.mk (w64 ((↑n:Int)+(1:Int))) (0:Int) (Rel.src r) (Rel.cir r) (Rel.fn r) (LNx_q4 r) (Rel.b0 r) (Rel.b1 r) (Rel.b2 r) (Rel.b3 r) (Rel.b4 r) (Rel.b5 r) (Rel.b6 r) (Rel.b7 r) (Rel.b8 r) (Rel.b9 r)
   (Rel.b10 r) (Rel.b11 r) (Rel.pn r) (Rel.pd r) (Rel.tag r)))
   (LNx_q8 n r))
   (.need
   (True /\
   20 <=
   List.length
   [iv (w64 ((↑n:Int)+(1:Int))),SV.d (DV.x (.int .u64 (0:Int))),SV.d (DV.x (.int .u64 (Rel.src r))),SV.d (DV.x (.int .u64 (Rel.cir r))),
   SV.d (DV.ro (Rel.fn r) 1 (LNx_q2 r)),iv (Rel.b0 r),iv (Rel.b1 r),iv (Rel.b2 r),iv (Rel.b3 r),iv (Rel.b4 r),iv (Rel.b5 r),iv (Rel.b6 r),iv (Rel.b7 r),iv (Rel.b8 r),iv (Rel.b9 r),
   iv (Rel.b10 r),iv (Rel.b11 r),iv (Rel.pn r),iv (Rel.pd r),
   SV.d
   (DV.x
   (.int .u64
   (stp key
   (dgW
   (19 +
   Rel.fn
   (Rel.mk (w64 ((↑n:Int)+(1:Int))) (0:Int) (Rel.src r) (Rel.cir r) (Rel.fn r) (LNx_q4 r) (Rel.b0 r) (Rel.b1 r) (Rel.b2 r) (Rel.b3 r) (Rel.b4 r) (Rel.b5 r) (Rel.b6 r) (Rel.b7 r)
   (Rel.b8 r) (Rel.b9 r) (Rel.b10 r) (Rel.b11 r) (Rel.pn r) (Rel.pd r) (Rel.tag r)))
   (LNx_q9 n r)))))] /\
   (n+1)*176<=140737488355328)
   (.need (0+(n+1)<=n+1) (.ret (SV.tup [SV.d (DV.ro (n+1) 20 (LNx_q10 key n f r)),iv (0:Int)])))))))))))
theorem LNx_eq(key:Int)(n:Nat)(f:Nat->Rel)(r:Rel):TO .nil 14 [u64v key,.d (chD n f),.agg (relL r)]=LNx key n f r:=by kernel_rfl
noncomputable def LNi_q1(f:Nat->Rel)(i:Nat)(j:Nat):DV :=
 relD (f i) j
noncomputable def LNi_q2(r:Rel)(i:Nat)(x:Nat):DV :=
 DV.x (.int .u64 (Rel.fc r i))
noncomputable def LNi_q3(n:Nat)(f:Nat->Rel)(i:Nat)(x:Nat):DV :=
 DV.x (.int .u64 (Rel.fc (f (Int.toNat (w64 ((↑n:Int)-(1:Int))))) i))
noncomputable def LNi_q4(r:Rel)(i:Nat):Int :=
 Rel.fc r i
noncomputable def LNi_q5(key:Int)(n:Nat)(f:Nat->Rel)(r:Rel)(i:Nat)(j:Nat):DV :=
  selD (decide (0+i<0+n))
  (bif decide (0+(0+i)<0) then dsAt [] (0+(0+(0+(0+i)))*20+j) else relD (f ((0:Nat)+((0:Nat)+i)-(0:Nat))) j)
  (dsAt
   [DV.x (.int .i64 (w64 ((↑n:Int)+(1:Int)))),DV.x (.int .u64 (dig (f (Int.toNat (w64 ((↑n:Int)-(1:Int))))))),DV.x (.int .u64 (Rel.src r)),DV.x (.int .u64 (Rel.cir r)),
   DV.ro (Rel.fn r) 1 (LNi_q2 r),DV.x (.int .i64 (Rel.b0 r)),DV.x (.int .i64 (Rel.b1 r)),DV.x (.int .i64 (Rel.b2 r)),DV.x (.int .i64 (Rel.b3 r)),
   DV.x (.int .i64 (Rel.b4 r)),DV.x (.int .i64 (Rel.b5 r)),DV.x (.int .i64 (Rel.b6 r)),DV.x (.int .i64 (Rel.b7 r)),DV.x (.int .i64 (Rel.b8 r)),
   DV.x (.int .i64 (Rel.b9 r)),DV.x (.int .i64 (Rel.b10 r)),DV.x (.int .i64 (Rel.b11 r)),DV.x (.int .i64 (Rel.pn r)),DV.x (.int .i64 (Rel.pd r)),
   DV.x
   (.int .u64
   (stp key
   (dig
   (Rel.mk (w64 ((↑n:Int)+(1:Int))) (dig (f (Int.toNat (w64 ((↑n:Int)-(1:Int)))))) (Rel.src r) (Rel.cir r) (Rel.fn r) (LNi_q4 r) (Rel.b0 r) (Rel.b1 r) (Rel.b2 r) (Rel.b3 r) (Rel.b4 r) (Rel.b5 r) (Rel.b6 r)
   (Rel.b7 r) (Rel.b8 r) (Rel.b9 r) (Rel.b10 r) (Rel.b11 r) (Rel.pn r) (Rel.pd r) (Rel.tag r)))))]
   (0+(0+(0+i-(0+n)))*20+j))
noncomputable def LNi_q6(key:Int)(n:Nat)(f:Nat->Rel)(r:Rel)(i:Nat)(j:Nat):DV :=
  selD (decide (0+i<0+n))
  (bif decide (0+(0+i)<0) then dsAt [] (0+(0+(0+(0+i)))*20+j) else relD (f ((0:Nat)+((0:Nat)+i)-(0:Nat))) j)
  (dsAt
   [DV.x (.int .i64 (w64 ((↑n:Int)+(1:Int)))),DV.x (.int .u64 (0:Int)),DV.x (.int .u64 (Rel.src r)),DV.x (.int .u64 (Rel.cir r)),
   DV.ro (Rel.fn r) 1 (LNi_q2 r),DV.x (.int .i64 (Rel.b0 r)),DV.x (.int .i64 (Rel.b1 r)),DV.x (.int .i64 (Rel.b2 r)),DV.x (.int .i64 (Rel.b3 r)),
   DV.x (.int .i64 (Rel.b4 r)),DV.x (.int .i64 (Rel.b5 r)),DV.x (.int .i64 (Rel.b6 r)),DV.x (.int .i64 (Rel.b7 r)),DV.x (.int .i64 (Rel.b8 r)),
   DV.x (.int .i64 (Rel.b9 r)),DV.x (.int .i64 (Rel.b10 r)),DV.x (.int .i64 (Rel.b11 r)),DV.x (.int .i64 (Rel.pn r)),DV.x (.int .i64 (Rel.pd r)),
   DV.x
   (.int .u64
   (stp key
   (dig
   (Rel.mk (w64 ((↑n:Int)+(1:Int))) (0:Int) (Rel.src r) (Rel.cir r) (Rel.fn r) (LNi_q4 r) (Rel.b0 r) (Rel.b1 r) (Rel.b2 r) (Rel.b3 r) (Rel.b4 r) (Rel.b5 r) (Rel.b6 r) (Rel.b7 r) (Rel.b8 r) (Rel.b9 r)
   (Rel.b10 r) (Rel.b11 r) (Rel.pn r) (Rel.pd r) (Rel.tag r)))))]
   (0+(0+(0+i-(0+n)))*20+j))
noncomputable def LNi(key:Int)(n:Nat)(f:Nat->Rel)(r:Rel):Tree SV :=
  .need (ChC n (LNi_q1 f))
  (.ite ((ckV key n fun i=>f i) != (0:Int)) (.ret (SV.agg [SV.d (DV.x (.slice none 0 0)),iv (460:Int)]))
   (.ite (decide ((↑n:Int)>=(200:Int))) (.ret (SV.agg [SV.d (DV.x (.slice none 0 0)),iv (2:Int)]))
   (.need (U64C (Rel.fn r) (LNi_q2 r))
   (.ite (!cdB r||decide ((↑(Rel.fn r):Int)>(8:Int))) (.ret (SV.agg [SV.d (DV.x (.slice none 0 0)),iv (1:Int)]))
   (.ite (decide ((↑n:Int)>(0:Int)))
   (.need ((0:Int)<=w64 ((↑n:Int)-(1:Int))/\w64 ((↑n:Int)-(1:Int))<(↑n:Int))
   (.need (U64C (Rel.fn (f (Int.toNat (w64 ((↑n:Int)-(1:Int)))))) (LNi_q3 n f))
   (.need (U64C (Rel.fn r) (LNi_q2 r))
   (.need (0<=0/\True/\(0+n)*176<=140737488355328)
   (.need
   (0+(0+n)<=0+n /\
   20 <=
   List.length
   [iv (w64 ((↑n:Int)+(1:Int))),SV.d (DV.x (.int .u64 (dig (f (Int.toNat (w64 ((↑n:Int)-(1:Int)))))))),SV.d (DV.x (.int .u64 (Rel.src r))),
   SV.d (DV.x (.int .u64 (Rel.cir r))),SV.d (DV.ro (Rel.fn r) 1 (LNi_q2 r)),iv (Rel.b0 r),iv (Rel.b1 r),iv (Rel.b2 r),iv (Rel.b3 r),iv (Rel.b4 r),iv (Rel.b5 r),
   iv (Rel.b6 r),iv (Rel.b7 r),iv (Rel.b8 r),iv (Rel.b9 r),iv (Rel.b10 r),iv (Rel.b11 r),iv (Rel.pn r),iv (Rel.pd r),
   SV.d
   (DV.x
   (.int .u64
   (stp key
   (dig
   (Rel.mk (w64 ((↑n:Int)+(1:Int))) (dig (f (Int.toNat (w64 ((↑n:Int)-(1:Int)))))) (Rel.src r) (Rel.cir r) (Rel.fn r) (LNi_q4 r) (Rel.b0 r) (Rel.b1 r) (Rel.b2 r) (Rel.b3 r)
   (Rel.b4 r) (Rel.b5 r) (Rel.b6 r) (Rel.b7 r) (Rel.b8 r) (Rel.b9 r) (Rel.b10 r) (Rel.b11 r) (Rel.pn r) (Rel.pd r) (Rel.tag r))))))] /\
   (0+n+1)*176<=140737488355328)
   (.need (0+(0+n+1)<=0+n+1) (.ret (SV.agg [SV.d (DV.ro (0+n+1) 20 (LNi_q5 key n f r)),iv (0:Int)]))))))))
   (.need (U64C (Rel.fn r) (LNi_q2 r))
   (.need (0<=0/\True/\(0+n)*176<=140737488355328)
   (.need
   (0+(0+n)<=0+n /\
   20 <=
   List.length
   [iv (w64 ((↑n:Int)+(1:Int))),SV.d (DV.x (.int .u64 (0:Int))),SV.d (DV.x (.int .u64 (Rel.src r))),SV.d (DV.x (.int .u64 (Rel.cir r))),
   SV.d (DV.ro (Rel.fn r) 1 (LNi_q2 r)),iv (Rel.b0 r),iv (Rel.b1 r),iv (Rel.b2 r),iv (Rel.b3 r),iv (Rel.b4 r),iv (Rel.b5 r),iv (Rel.b6 r),iv (Rel.b7 r),iv (Rel.b8 r),iv (Rel.b9 r),
   iv (Rel.b10 r),iv (Rel.b11 r),iv (Rel.pn r),iv (Rel.pd r),
   SV.d
   (DV.x
   (.int .u64
   (stp key
   (dig
   (Rel.mk (w64 ((↑n:Int)+(1:Int))) (0:Int) (Rel.src r) (Rel.cir r) (Rel.fn r) (LNi_q4 r) (Rel.b0 r) (Rel.b1 r) (Rel.b2 r) (Rel.b3 r) (Rel.b4 r) (Rel.b5 r) (Rel.b6 r) (Rel.b7 r)
   (Rel.b8 r) (Rel.b9 r) (Rel.b10 r) (Rel.b11 r) (Rel.pn r) (Rel.pd r) (Rel.tag r))))))] /\
   (0+n+1)*176<=140737488355328)
   (.need (0+(0+n+1)<=0+n+1) (.ret (SV.agg [SV.d (DV.ro (0+n+1) 20 (LNi_q6 key n f r)),iv (0:Int)])))))))))))
theorem LNi_eq(key:Int)(n:Nat)(f:Nat->Rel)(r:Rel):TO .nil 51 [u64v key,.d (chD n f),.agg (relL r)]=LNi key n f r:=by kernel_rfl
end Go.Proofs.YtanlnopgadbpjaaGreat
