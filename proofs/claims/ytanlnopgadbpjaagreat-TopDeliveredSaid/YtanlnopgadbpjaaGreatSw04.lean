/- Part of a proof of the given statements of this seat (SxBits, SxRat, SxUm0, SxUmA, SxUmB, SxUmC, SxUmD, SxUmE, SxUmF, SxUmG, SxUmH, SxUmI, SxUmJ, SxUmK, SxUmL, SxUmM, SxUmN, SxUmO, SxUmP, SxUmQ, SxUmR, SxUmS, SxUmT, SxDiv, SxUmU, SxUmV, SxUmW, SxUmWa, SxUmWb, SxUmWc, SxUmWd, SxUmWe, SxUmWf, SxUmWg, SxUmWh, SxUmWi, SxSmall, SxUmWj, SxUmWk, SxUmWl, SxUmWm, SxUmWn, SxUmWo, SxUmWp, SxUmWq, SxUmWr, SxUmWs, SxUmWt, SxUmWu, SxUmWv, SxUmWw, SxUmWx, SxUmYa, SxUmYb, SxUmYc, SxUmYd, SxUmRa, SxUmRb, SxVmA, SxVmB, SxVmC, SxVmCa, SxVmCb, SxVmD, SxVmE, SxVmF, SxVmG, SxVmH, SxVmI, SxVmJ, SxVmK, SxVmL, SxVmM, SxVmN, SxVmO, SxVmP): no conditions beyond those typed here. -/
import Derived.Test.YtanlnopgadbpjaaGreatProg
import Derived.Test.YtanlnopgadbpjaaGreatSw02
import Derived.Test.YtanlnopgadbpjaaGreatSw01
set_option linter.unusedVariables false
set_option linter.unusedSimpArgs false
set_option linter.unusedSectionVars false
set_option linter.constructorNameAsVariable false
set_option maxRecDepth 100000
namespace Go.Sx
def bitN(n i:Nat):Nat:=n / 2^i%2
def blen(n:Nat):Nat:=if h:n=0 then 0 else blen (n / 2)+1
termination_by n
decreasing_by omega
theorem blen_zero:blen 0=0:=by rw[blen];simp
theorem blen_pos{n:Nat}(h:n≠0):blen n=blen (n / 2)+1:=by rw[blen];simp[h]
theorem blen_le{n:Nat}:∀{k:Nat},blen n<=k ↔ n<2^k:=by
 induction n using Nat.strongRecOn with
 |_ n ih =>
  intro k
  by_cases h:n=0
  ·subst h;rw[blen_zero];simp[Nat.pow_pos]
  ·rw[blen_pos h]
   cases k with
   |zero=>simp;omega
   |succ k =>
    rw[Nat.add_le_add_iff_right,ih (n / 2) (by omega),Nat.pow_succ]
    omega
theorem lt_pow_blen(n:Nat):n<2^blen n:=blen_le.1 (Nat.le_refl _)
theorem bitN_lt(n i:Nat):bitN n i<2:=Nat.mod_lt _ (by omega)
theorem bitN_high{n i:Nat}(h:blen n<=i):bitN n i=0:=by
 unfold bitN
 rw[Nat.div_eq_of_lt (blen_le.1 h)]
def valN(c:Nat->Int):Nat->Nat
 |0=>0
 |k+1=>valN c k+(c k).toNat*2^k
def Bits(len:Nat)(c:Nat->Int):Prop:=∀i,i<len->c i=0\/c i=1
theorem Bits.mono{a b:Nat}{c:Nat->Int}(h:Bits b c)(hab:a<=b):Bits a c:=fun i hi=>h i (by omega)
theorem valN_lt{c:Nat->Int}:∀{len:Nat},Bits len c->valN c len<2^len
 |0,_=>by simp[valN]
 |k+1,h=>by
  have ih:=valN_lt (h.mono (Nat.le_succ k))
  simp only[valN,Nat.pow_succ]
  rcases h k (by omega) with e|e<;>rw[e]<;>simp<;>omega
theorem mod_succ_pow(n k:Nat):n%2^(k+1)=n%2^k+bitN n k*2^k:=by
 unfold bitN
 rw[Nat.pow_succ,Nat.mod_mul,Nat.mul_comm (n / 2^k%2)]
theorem valN_mod{c:Nat->Int}{n:Nat}:∀{k:Nat},(∀i,i<k->c i=bitN n i)->valN c k=n%2^k
 |0,_=>by simp[valN,Nat.mod_one]
 |k+1,h=>by
  rw[valN,valN_mod (fun i hi=>h i (by omega)),mod_succ_pow,h k (by omega)]
  simp
theorem valN_bits(n:Nat):valN (fun i=>(bitN n i:Int)) (blen n)=n:=by
 rw[valN_mod (n:=n) (fun i _=>rfl),Nat.mod_eq_of_lt (lt_pow_blen n)]
theorem valN_bits'{n len:Nat}(h:n<2^len):valN (fun i=>(bitN n i:Int)) len=n:=by
 rw[valN_mod (n:=n) (fun i _=>rfl),Nat.mod_eq_of_lt h]
theorem bitN_valN{c:Nat->Int}{i:Nat}:∀{len:Nat},Bits len c->i<len->(bitN (valN c len) i:Int)=c i
 |0,_,h=>by omega
 |k+1,h,hi=>by
  have hlt:=valN_lt (h.mono (Nat.le_succ k))
  simp only[valN]
  by_cases hik:i=k
  ·subst hik
   unfold bitN
   rw[Nat.add_mul_div_right _ _ (Nat.pow_pos (by omega)),Nat.div_eq_of_lt hlt]
   rcases h i (by omega) with e|e<;>rw[e]<;>simp
  ·have ih:=bitN_valN (i:=i) (h.mono (Nat.le_succ k)) (by omega)
   rw[<- ih]
   unfold bitN
   have e:(c k).toNat*2^k=(c k).toNat*2^(k-i-1)*2*2^i:=by
    rw[Nat.mul_assoc,Nat.mul_assoc,<- Nat.pow_succ',<- Nat.pow_add]
    congr 2;omega
   rw[e,Nat.add_mul_div_right _ _ (Nat.pow_pos (by omega))]
   omega
def carryN(a b k:Nat):Nat:=(a%2^k+b%2^k) / 2^k
theorem carry_zero(a b:Nat):carryN a b 0=0:=by simp[carryN,Nat.mod_one]
theorem add_split(a b k:Nat):a%2^k+b%2^k=(a+b)%2^k+carryN a b k*2^k:=by
 unfold carryN
 have:=Nat.div_add_mod (a%2^k+b%2^k) (2^k)
 rw[<- Nat.add_mod] at this
 rw[Nat.mul_comm] at this
 omega
theorem carry_le(a b k:Nat):carryN a b k<=1:=by
 have h1:=add_split a b k
 have h2:=Nat.mod_lt a (Nat.pow_pos (n:=k) (show 0<2 by omega))
 have h3:=Nat.mod_lt b (Nat.pow_pos (n:=k) (show 0<2 by omega))
 have:carryN a b k*2^k<2*2^k:=by omega
 have:=Nat.lt_of_mul_lt_mul_right this
 omega
theorem add_step(a b k:Nat):bitN a k+bitN b k+carryN a b k=bitN (a+b) k+2*carryN a b (k+1):=by
 have h1:=add_split a b k
 have h2:=add_split a b (k+1)
 rw[mod_succ_pow a k,mod_succ_pow b k,mod_succ_pow (a+b) k,Nat.pow_succ] at h2
 have hp:0<2^k:=Nat.pow_pos (by omega)
 have:(bitN a k+bitN b k+carryN a b k)*2^k=(bitN (a+b) k+2*carryN a b (k+1))*2^k:=by
  rw[Nat.add_mul,Nat.add_mul,Nat.add_mul,Nat.mul_assoc 2,Nat.mul_comm 2,Nat.mul_assoc]
  omega
 exact Nat.eq_of_mul_eq_mul_right hp this
def borrowN(a b k:Nat):Nat:=if a%2^k<b%2^k then 1 else 0
theorem sub_split{a b:Nat}(h:b<=a)(k:Nat):a%2^k+borrowN a b k*2^k=b%2^k+(a-b)%2^k:=by
 have h1:=add_split b (a-b) k
 rw[Nat.add_sub_cancel' h] at h1
 have h2:=carry_le b (a-b) k
 have h3:=Nat.mod_lt a (Nat.pow_pos (n:=k) (show 0<2 by omega))
 have h4:=Nat.mod_lt (a-b) (Nat.pow_pos (n:=k) (show 0<2 by omega))
 have h5:=Nat.mod_lt b (Nat.pow_pos (n:=k) (show 0<2 by omega))
 have hc:carryN b (a-b) k=0\/carryN b (a-b) k=1:=by omega
 unfold borrowN
 rcases hc with e|e<;>rw[e] at h1<;>split<;>omega
theorem sub_step{a b:Nat}(h:b<=a)(k:Nat):(bitN a k:Int)-bitN b k-borrowN a b k=(bitN (a-b) k:Int)-2*borrowN a b (k+1):=by
 have h1:=sub_split h k
 have h2:=sub_split h (k+1)
 rw[mod_succ_pow a k,mod_succ_pow b k,mod_succ_pow (a-b) k,Nat.pow_succ] at h2
 have hp:0<2^k:=Nat.pow_pos (by omega)
 have:(bitN a k+2*borrowN a b (k+1))*2^k=(bitN b k+bitN (a-b) k+borrowN a b k)*2^k:=by
  rw[Nat.add_mul,Nat.add_mul,Nat.add_mul,Nat.mul_assoc 2,Nat.mul_comm 2,Nat.mul_assoc]
  omega
 have:=Nat.eq_of_mul_eq_mul_right hp this
 omega
theorem div_succ_pow(n k:Nat):n / 2^k=2*(n / 2^(k+1))+bitN n k:=by
 unfold bitN
 rw[Nat.pow_succ,<- Nat.div_div_eq_div_mul];omega
theorem cmp_step{a b k:Nat}(h:a / 2^(k+1)=b / 2^(k+1))(hb:bitN a k=bitN b k):a / 2^k=b / 2^k:=by
 rw[div_succ_pow a,div_succ_pow b,h,hb]
theorem cmp_ne{a b k:Nat}(h:a / 2^(k+1)=b / 2^(k+1))(hb:bitN a k≠bitN b k):(bitN a k:Int)-bitN b k=if a<b then -1 else 1:=by
 have h1:=div_succ_pow a k
 have h2:=div_succ_pow b k
 have h3:=bitN_lt a k
 have h4:=bitN_lt b k
 by_cases hlt:a<b
 ·rw[if_pos hlt]
  have:a / 2^k<=b / 2^k:=Nat.div_le_div_right (by omega)
  omega
 ·rw[if_neg hlt]
  have:b / 2^k<=a / 2^k:=Nat.div_le_div_right (by omega)
  omega
theorem mul_step(a b k:Nat):a*(b%2^(k+1))=a*(b%2^k)+bitN b k*(a*2^k):=by
 rw[mod_succ_pow,Nat.mul_add]
 congr 1
 rw[Nat.mul_left_comm]
structure Low(n d:Int):Prop where
 pos:1<=d
 cop:n.natAbs.gcd d.toNat=1
def ratOf(n d:Int):Rat:=mkRat n d.toNat
theorem Low.num{n d:Int}(h:Low n d):(ratOf n d).num=n:=by
 unfold ratOf
 have:=h.pos
 rw[Rat.num_mkRat,if_neg (by omega),Nat.gcd_comm,h.cop];simp
theorem Low.den{n d:Int}(h:Low n d):((ratOf n d).den:Int)=d:=by
 unfold ratOf
 have:=h.pos
 rw[Rat.den_mkRat,if_neg (by omega),Nat.gcd_comm,h.cop];simp;omega
theorem low_rat(q:Rat):Low q.num q.den:=⟨by have:=q.den_pos;omega,q.reduced⟩
theorem ratOf_rat(q:Rat):ratOf q.num q.den=q:=by
 unfold ratOf;rw[Int.toNat_natCast,Rat.mkRat_self]
theorem ratOf_red{n d:Int}(hd:0<d){g:Nat}(hg:g=n.natAbs.gcd d.toNat):(ratOf n d).num=n.tdiv g/\((ratOf n d).den:Int)=d.tdiv g:=by
 unfold ratOf
 have h1:g ∣ n.natAbs:=hg▸Nat.gcd_dvd_left _ _
 rw[Rat.num_mkRat,Rat.den_mkRat,if_neg (by omega),if_neg (by omega),Nat.gcd_comm,<- hg]
 constructor
 ·rw[Int.tdiv_eq_ediv_of_dvd (by rw[Int.ofNat_dvd_left];exact h1)]
 ·rw[Int.tdiv_eq_ediv_of_nonneg (by omega)]
  obtain⟨D,rfl⟩:=Int.eq_ofNat_of_zero_le (show 0<=d by omega)
  simp
theorem rat_cmp(a b:Rat):(a<b ↔ a.num*b.den<b.num*a.den)/\(a=b ↔ a.num*b.den=b.num*a.den):=⟨Rat.lt_iff a b,Rat.eq_iff_mul_eq_mul⟩
end Go.Sx
namespace Go.Proofs.YtanlnopgadbpjaaGreat
open Go.Sx
noncomputable instance globs0:Globs:=⟨fun _=>none,fun _=>none⟩
theorem mixed:Tryz.prog.follows .mixedOrders=true:=by kernel_rfl
noncomputable def C0:Ctx:=ctxN Tryz.prog (fun _=>none) (fun _=>false) 200 .nil 6
theorem C0_ok:CtxOK Tryz.prog C0:=ctxN_ok mixed (fun k c h=>by cases h) 6
noncomputable def D0:Dr:=fun _=>drawn Tryz.prog C0
theorem D0_ok:DrOK Tryz.prog C0 D0:=drawn_ok C0_ok mixed
noncomputable def T0(k:Nat)(args:List SV):Tree SV:=fnT Tryz.prog C0 D0 200 (fnOf Tryz.prog k) (bodyOf Tryz.prog k) args .nil
theorem w64_of{n:Int}(h1:-9223372036854775808<=n)(h2:n<=9223372036854775807):w64 n=n:=by
 unfold w64 IntKind.wrap
 simp[IntKind.signed,IntKind.bits]
 omega
theorem tmod_lit{a:Int}(h:0<=a)(b:Int):Int.tmod a b=a%b:=Int.tmod_eq_emod_of_nonneg h
theorem sub_nil{α:Type}(t:Tree α):sub [] t=t:=by unfold sub;rfl
theorem Sat.of_eq{α:Type}{P:Program}{t t':Tree α}{Q:α->Prop}(h:t=t')(k:Sat P t' Q):Sat P t Q:=h▸k
def Is(X:AS):AS->Prop:=fun s=>s=X
def intOf1:DV->Int|.x (.int _ n)=>n|_=>0
noncomputable def intCell(cell:Nat->Nat->DV):Nat->Int:=fun i=>intOf1 (cell i 0)
theorem le_ro64{n:Nat}{cell:Nat->Nat->DV}(hb:∀i,i<n->∃b,cell i 0=.x (.int .i64 b)):∀i j,i<n->j<1->cell i j=.x (.int .i64 (intCell cell i)):=by
 intro i j hi hj
 obtain rfl:j=0:=by omega
 obtain⟨b,e⟩:=hb i hi
 simp[intCell,e,intOf1]
noncomputable def tAt(n:Nat)(c:Nat->Int)(i:Int):Tree SV:=T0 141 [ro64 n c,iv i]
noncomputable def LAt(n:Nat)(c:Nat->Int)(i:Int):Tree SV :=
 .ite (decide (i<(↑n:Int))) (.need ((0:Int)<=i/\i<(↑n:Int)) (.ret (iv (c (Int.toNat i))))) (.ret (iv (0:Int)))
theorem LAt_eq(n:Nat)(c:Nat->Int)(i:Int):tAt n c i=LAt n c i:=by kernel_rfl
noncomputable def tSize(n:Int):Tree SV:=T0 99 [iv n]
noncomputable def LSize(n:Int):Tree SV :=
 .ite (decide (n<(0:Int))) (.ret (iv (w64 ((0:Int)-n)))) (.ret (iv n))
theorem LSize_eq(n:Int):tSize n=LSize n:=by kernel_rfl
noncomputable def tHalf(n g:Int):Tree SV:=T0 100 [iv n,iv g]
noncomputable def LHalf(n g:Int):Tree SV :=
 .need (g≠(0:Int)) (.ite (decide (w64 (Int.tdiv n g)<(0:Int))) (.ret (iv (w64 ((0:Int)-w64 (Int.tdiv n g))))) (.ret (iv (w64 (Int.tdiv n g)))))
theorem LHalf_eq(n g:Int):tHalf n g=LHalf n g:=by kernel_rfl
noncomputable def tGcd(a b:Int):Tree SV:=T0 98 [iv a,iv b]
noncomputable def invGcd(a b:Int):AS:=⟨[.ok (iv a),.ok (iv b)]++List.replicate 12 .unk,[],0,.nil⟩
noncomputable def bodyGcd:Code:=loopN (bodyOf Tryz.prog 98) 0
noncomputable def BGcd(a b:Int):Tree (Ex×AS) :=
 .ite (decide (b>(0:Int)))
 (.need (b≠(0:Int))
  (.ret (.normal,{ tm:=[.ok (iv b),.ok (iv (Int.tmod a b)),.unk,.unk,.unk,.unk,.unk,.unk,.unk,.unk,.unk,.unk,.unk,.unk],hp:=[],next:=0,hint:=.nil })))
 (.ret (.exit 0,{ tm:=[.ok (iv a),.ok (iv b),.unk,.unk,.unk,.unk,.unk,.unk,.unk,.unk,.unk,.unk,.unk,.unk],hp:=[],next:=0,hint:=.nil }))
theorem BGcd_eq(a b:Int):cutT 0 [] [0,1] [] 0 .nil (exec Tryz.prog C0 D0 200 bodyGcd (invGcd a b))=BGcd a b:=by kernel_rfl
noncomputable def KGcd(a b x y:Int):Tree SV :=
 .ret (iv x)
theorem KGcd_eq(a b x y:Int):codeK (sub [] (tGcd a b)) (.exit 0) (invGcd x y)=KGcd a b x y:=by kernel_rfl
noncomputable def tBits(n:Int):Tree SV:=T0 133 [iv n]
noncomputable def invBits(n:Int)(k:Nat)(c:Nat->Int):AS:=⟨[.ok (iv n),.unk,.unk,.ok (.row 1 0 0 k 1)]++List.replicate 11 .unk,[none,some (.row k 1 fun i _=>.x (.int .i64 (c i)))],2,.nil⟩
noncomputable def bodyBits:Code:=loopN (bodyOf Tryz.prog 133) 0
noncomputable def BBits(n:Int)(k:Nat)(c:Nat->Int):Tree (Ex×AS) :=
 .ite (decide (n>(0:Int)))
 (.need ((2:Int)≠(0:Int))
  (.need (0+k<=k/\1<=List.length [iv (Int.tmod n (2:Int))]/\(k+1)*8<=140737488355328)
   (.need ((2:Int)≠(0:Int))
    (.ret
     (.normal,
      {
       tm :=
        [.ok (iv (w64 (Int.tdiv n (2:Int)))),.unk,.unk,.ok (SV.row 1 0 0 (k+1) 1),.unk,.unk,.unk,.unk,.unk,.unk,.unk,.unk,.unk,.unk,
         .unk],
       hp :=
        [none,
         some
          (.row (k+1) 1 fun a b =>
           selD (decide (a<k)) (DV.x (.int .i64 (c ((0:Nat)+a)))) (dsAt [DV.x (.int .i64 (Int.tmod n (2:Int)))] (0+(0+(a-k))*1+b)))],
       next:=2,hint:=.nil })))))
 (.ret
  (.exit 0,
   {tm:=[.ok (iv n),.unk,.unk,.ok (SV.row 1 0 0 k 1),.unk,.unk,.unk,.unk,.unk,.unk,.unk,.unk,.unk,.unk,.unk],
    hp:=[none,some (.row k 1 fun i x=>DV.x (.int .i64 (c i)))],next:=2,hint:=.nil }))
theorem BBits_eq(n:Int)(k:Nat)(c:Nat->Int):cutT 1 [(.slot 3,1)] [0,3] [] 2 .nil (exec Tryz.prog C0 D0 200 bodyBits (invBits n k c))=BBits n k c:=by kernel_rfl
noncomputable def KBits(m n:Int)(k:Nat)(c:Nat->Int):Tree SV :=
 .need (0+k<=k) (.ret (SV.d (DV.ro k 1 fun i j=>DV.x (.int .i64 (c ((0:Nat)+i))))))
theorem KBits_eq(m n:Int)(k:Nat)(c:Nat->Int):codeK (sub [] (tBits m)) (.exit 0) (invBits n k c)=KBits m n k c:=by kernel_rfl
noncomputable def tTrim(m:Nat)(c:Nat->Int):Tree SV:=T0 142 [ro64 m c]
noncomputable def invTrim(m:Nat)(c:Nat->Int)(k:Int):AS:=⟨[.ok (ro64 m c),.unk,.unk,.ok (iv k)]++List.replicate 17 .unk,[],0,.nil⟩
noncomputable def bodyTrim:Code:=loopN (bodyOf Tryz.prog 142) 0
noncomputable def BTrim(m:Nat)(c:Nat->Int)(k:Int):Tree (Ex×AS) :=
 .need (decide (k>(0:Int))=true->(0:Int)<=w64 (k-(1:Int))/\w64 (k-(1:Int))<(↑m:Int))
 (.ite (decide (k>(0:Int))&&c (Int.toNat (w64 (k-(1:Int))))==(0:Int))
  (.ret
   (.normal,
    {
     tm :=
      [.ok (SV.d (DV.ro m 1 fun i x=>DV.x (.int .i64 (c i)))),.unk,.unk,.ok (iv (w64 (k-(1:Int)))),.unk,.unk,.unk,.unk,.unk,.unk,.unk,.unk,.unk,.unk,.unk,.unk,
       .unk,.unk,.unk,.unk,.unk],
     hp:=[],next:=0,hint:=.nil }))
  (.ret
   (.exit 0,
    {
     tm :=
      [.ok (SV.d (DV.ro m 1 fun i x=>DV.x (.int .i64 (c i)))),.unk,.unk,.ok (iv k),.unk,.unk,.unk,.unk,.unk,.unk,.unk,.unk,.unk,.unk,.unk,.unk,.unk,.unk,
       .unk,.unk,.unk],
     hp:=[],next:=0,hint:=.nil })))
theorem BTrim_eq(m:Nat)(c:Nat->Int)(k:Int):cutT 0 [] [0,3] [] 0 .nil (exec Tryz.prog C0 D0 200 bodyTrim (invTrim m c k))=BTrim m c k:=by kernel_rfl
noncomputable def KTrim(m:Nat)(c:Nat->Int)(k:Int):Tree SV :=
 .need (((0:Int)<=k/\Int.toNat k<=m)/\True) (.ret (SV.d (DV.ro (Int.toNat k-0) 1 fun i j=>DV.x (.int .i64 (c ((0:Nat)+i))))))
theorem KTrim_eq(m:Nat)(c:Nat->Int)(k:Int):codeK (sub [] (tTrim m c)) (.exit 0) (invTrim m c k)=KTrim m c k:=by kernel_rfl
theorem gcd_emod{x y:Int}(hx:0<=x)(hy:0<=y):Int.gcd x y=Int.gcd y (x%y):=by
 obtain⟨a,rfl⟩:=Int.eq_ofNat_of_zero_le hx
 obtain⟨b,rfl⟩:=Int.eq_ofNat_of_zero_le hy
 rw[<- Int.natCast_emod,Int.gcd_natCast_natCast,Int.gcd_natCast_natCast,Nat.gcd_comm a b,Nat.gcd_rec,Nat.gcd_comm]
theorem gcd_sat{a b:Int}(ha:0<=a)(hb:0<=b):Sat Tryz.prog (tGcd a b) (·=iv (Int.gcd a b)):=by
 constructor
 rw[show tGcd a b=sub [] (tGcd a b) from(sub_nil _).symm]
 refine code_satS C0_ok D0_ok (n:=200) (n0:=0) (nx:=0) (roots:=[]) (keep:=[0,1]) (drop:=[]) (h:=.nil) (c:=codeC (sub [] (tGcd a b))) (st:=codeS (sub [] (tGcd a b))) (k:=codeK (sub [] (tGcd a b))) (body:=bodyGcd) (by kernel_rfl) (by kernel_rfl)
  (fun q s=>∃x y:Int,q=y.toNat/\0<=x/\0<=y/\Int.gcd x y=Int.gcd a b/\s=invGcd x y)
  (fun e s=>e=.exit 0/\s=invGcd (Int.gcd a b) 0)
  ⟨_,_,⟨a,b,rfl,ha,hb,rfl,rfl⟩,?_⟩ ?_ ?_
 ·exact entA_sound (roots:=[]) (keep:=[0,1]) (drop:=[]) (nx:=0) (h:=.nil) (by kernel_rfl)
 ·rintro q s ⟨x,y,rfl,hx,hy,hg,rfl⟩
  refine Sat.of_eq (BGcd_eq x y) ?_
  constructor
  unfold BGcd
  refine⟨fun hc=>?_,fun hc=>?_⟩
  ·have hc:0<y:=by simpa using hc
   have h1:Int.tmod x y=x%y:=tmod_lit hx y
   have h2:=Int.emod_nonneg x (show y≠0 by omega)
   have h3:=Int.emod_lt_of_pos x hc
   refine⟨by omega,_,_,?_,⟨y,Int.tmod x y,rfl,hy,by omega,?_,rfl⟩,Gc.refl _ _⟩
   ·omega
   ·rw[h1,<- hg];exact(gcd_emod hx hy).symm
  ·have hc:y=0:=by simp at hc;omega
   subst hc
   have:x=(Int.gcd a b:Int):=by rw[<- hg,Int.gcd_zero_right];omega
   exact⟨_,⟨rfl,rfl⟩,by rw[this];exact Gc.refl _ _⟩
 ·rintro e s ⟨rfl,rfl⟩
  exact Sat.of_eq (KGcd_eq a b _ _) ⟨rfl⟩
noncomputable def cGcd:Ctr:=fun ss=>match ss with
 |[.d (.x (.int .i64 a)),.d (.x (.int .i64 b))]=>.need (0<=a/\0<=b) (.ret (iv (Int.gcd a b)))
 |_=>.fail
theorem cGcd_ok:CtrOK Tryz.prog 98 cGcd:=by
 refine ctrOK_leS C0_ok D0_ok (by kernel_rfl) (by kernel_rfl) fun ss r h=>?_
 unfold cGcd at h
 split at h
 ·rename_i a b
  obtain⟨⟨h1,h2⟩,rfl⟩:=h
  exact⟨[iv a,iv b],200,.nil,by simp[leSVs,leSV,iv,leD],gcd_sat h1 h2⟩
 ·exact h.elim
noncomputable def cSize:Ctr:=fun ss=>match ss with
 |[.d (.x (.int .i64 n))]=>.need (-9223372036854775807<=n/\n<=9223372036854775807) (.ret (iv n.natAbs))
 |_=>.fail
theorem cSize_ok:CtrOK Tryz.prog 99 cSize:=by
 refine ctrOK_leS C0_ok D0_ok (by kernel_rfl) (by kernel_rfl) fun ss r h=>?_
 unfold cSize at h
 split at h
 ·rename_i n
  obtain⟨⟨h1,h2⟩,rfl⟩:=h
  refine⟨[iv n],200,.nil,by simp[leSVs,leSV,iv,leD],Sat.of_eq (LSize_eq n) ⟨?_⟩⟩
  unfold LSize
  refine⟨fun hc=>?_,fun hc=>?_⟩
  ·have hc:n<0:=by simpa using hc
   rw[w64_of (by omega) (by omega),show(n.natAbs:Int)=0-n by omega];exact rfl
  ·have hc:¬n<0:=by simpa using hc
   rw[show(n.natAbs:Int)=n by omega];exact rfl
 ·exact h.elim
noncomputable def cHalf:Ctr:=fun ss=>match ss with
 |[.d (.x (.int .i64 n)),.d (.x (.int .i64 g))]=>.need (-9223372036854775807<=n/\n<=9223372036854775807/\1<=g) (.ret (iv (n.natAbs / g.toNat:Nat)))
 |_=>.fail
theorem natAbs_tdiv{n g:Int}(hg:1<=g):(Int.tdiv n g).natAbs=n.natAbs / g.toNat:=by
 rw[Int.natAbs_tdiv];congr 1;omega
theorem tdiv_b{n g:Int}(hg:1<=g)(h:-9223372036854775807<=n/\n<=9223372036854775807):-9223372036854775807<=Int.tdiv n g/\Int.tdiv n g<=9223372036854775807:=by
 have:=natAbs_tdiv (n:=n) hg
 have h2:=Nat.div_le_self n.natAbs g.toNat
 omega
theorem cHalf_ok:CtrOK Tryz.prog 100 cHalf:=by
 refine ctrOK_leS C0_ok D0_ok (by kernel_rfl) (by kernel_rfl) fun ss r h=>?_
 unfold cHalf at h
 split at h
 ·rename_i n g
  obtain⟨⟨h1,h2,hg⟩,rfl⟩:=h
  refine⟨[iv n,iv g],200,.nil,by simp[leSVs,leSV,iv,leD],Sat.of_eq (LHalf_eq n g) ⟨?_⟩⟩
  unfold LHalf
  have e1:=natAbs_tdiv (n:=n) hg
  have e2:=tdiv_b hg ⟨h1,h2⟩
  rw[w64_of (n:=Int.tdiv n g) (by omega) (by omega)]
  refine⟨by omega,fun hc=>?_,fun hc=>?_⟩
  ·have hc:Int.tdiv n g<0:=by simpa using hc
   rw[w64_of (by omega) (by omega),<- e1,show((Int.tdiv n g).natAbs:Int)=0-Int.tdiv n g by omega];exact rfl
  ·have hc:¬Int.tdiv n g<0:=by simpa using hc
   rw[<- e1,show((Int.tdiv n g).natAbs:Int)=Int.tdiv n g by omega];exact rfl
 ·exact h.elim
noncomputable def bitsSV(v:Nat):SV:=ro64 (blen v) fun i=>bitN v i
theorem bits_sat{n:Int}(hn:0<=n)(hn2:n<=9223372036854775807):Sat Tryz.prog (tBits n) fun r=>leSV 0 [] [] r (bitsSV n.toNat):=by
 constructor
 rw[show tBits n=sub [] (tBits n) from(sub_nil _).symm]
 have hl:blen n.toNat<=63:=blen_le.2 (by omega)
 refine code_satS C0_ok D0_ok (n:=200) (n0:=1) (nx:=2) (roots:=[(.slot 3,1)]) (keep:=[0,3]) (drop:=[]) (h:=.nil) (c:=codeC (sub [] (tBits n))) (st:=codeS (sub [] (tBits n))) (k:=codeK (sub [] (tBits n))) (body:=bodyBits) (by kernel_rfl) (by kernel_rfl)
  (fun q s=>∃k:Nat,q=n.toNat / 2^k/\k<=blen n.toNat/\s=invBits ((n.toNat / 2^k:Nat):Int) k fun i=>bitN n.toNat i)
  (fun e s=>e=.exit 0/\s=invBits 0 (blen n.toNat) fun i=>bitN n.toNat i)
  ⟨_,_,⟨0,rfl,by omega,rfl⟩,?_⟩ ?_ ?_
 ·refine(entA_sound (s':=⟨[.ok (iv n),.unk,.unk,.ok (.row 1 0 0 0 1)]++List.replicate 11 .unk,[none,some (.cells [])],2,.nil⟩) (roots:=[(.slot 3,1)]) (keep:=[0,3]) (drop:=[]) (nx:=2) (h:=.nil) (by kernel_rfl)).trans ?_
  have:((n.toNat / 2^0:Nat):Int)=n:=by simp;omega
  rw[this]
  refine gc_sound [(1,1)] [] rfl ?_ ?_
  ·simp[invBits,leTm,leTV,leSV,leSVs,rn,iv,leD,List.replicate]
  ·simp[invBits,leHp,leBlk,leSVs,leSV,rn,iv,leD,srcOf,hget]
 ·rintro q s ⟨k,rfl,hk,rfl⟩
  refine Sat.of_eq (BBits_eq _ k _) ?_
  constructor
  unfold BBits
  obtain⟨x,hx⟩:∃x,n.toNat / 2^k=x:=⟨_,rfl⟩
  have hx2:n.toNat / 2^(k+1)=x / 2:=by rw[Nat.pow_succ,<- Nat.div_div_eq_div_mul,hx]
  have hx3:x<=n.toNat:=by rw[<- hx];exact Nat.div_le_self _ _
  rw[hx]
  refine⟨fun hc=>?_,fun hc=>?_⟩
  ·have hc:0<x:=by simp at hc;omega
   have hk2:k<blen n.toNat:=by
    apply Decidable.byContradiction
    intro h
    have:n.toNat<2^k:=blen_le.1 (by omega)
    rw[Nat.div_eq_of_lt this] at hx;omega
   have e1:Int.tmod (x:Int) 2=bitN n.toNat k:=by rw[tmod_lit (by omega)];unfold bitN;rw[hx];omega
   have e2:w64 (Int.tdiv (x:Int) 2)=((x / 2:Nat):Int):=by
    rw[Int.tdiv_eq_ediv_of_nonneg (by omega),w64_of (by omega) (by omega)];omega
   refine⟨by decide,⟨by omega,by simp,by omega⟩,by decide,x / 2,_,by omega,⟨k+1,hx2.symm,hk2,rfl⟩,?_⟩
   rw[e1,e2,hx2]
   refine gc_sound [(1,1)] [] rfl ?_ ?_
   ·simp[invBits,leTm,leTV,leSV,leSVs,rn,iv,leD,List.replicate]
   ·simp[invBits,leHp,leBlk,leSVs,leSV,rn,iv,leD,srcOf,hget]
    intro i hi
    rw[selD_eq]
    by_cases h:i<k
    ·simp[h]
    ·obtain rfl:i=k:=by omega
     simp[dsAt]
  ·have hc:x=0:=by simp at hc;omega
   have hk2:blen n.toNat<=k:=blen_le.2 (by
    rcases Nat.div_eq_zero_iff.1 (hx.trans hc) with h|h
    ·have:=Nat.pow_pos (n:=k) (show 0<2 by omega);omega
    ·exact h)
   obtain rfl:k=blen n.toNat:=by omega
   exact⟨_,⟨rfl,rfl⟩,by rw[hc];exact Gc.refl _ _⟩
 ·rintro e s ⟨rfl,rfl⟩
  refine Sat.of_eq (KBits_eq n _ _ _) ⟨?_⟩
  refine⟨by omega,?_⟩
  simp[Tree.sat,bitsSV,ro64,leSV,leD]
noncomputable def cBits:Ctr:=fun ss=>match ss with
 |[.d (.x (.int .i64 n))]=>.need (0<=n/\n<=9223372036854775807) (.ret (bitsSV n.toNat))
 |_=>.fail
theorem cBits_ok:CtrOK Tryz.prog 133 cBits:=by
 refine ctrOK_leR C0_ok D0_ok (by kernel_rfl) (by kernel_rfl) fun ss r h=>?_
 unfold cBits at h
 split at h
 ·rename_i n
  obtain⟨⟨h1,h2⟩,rfl⟩:=h
  exact⟨[iv n],200,.nil,by simp[leSVs,leSV,iv,leD],bits_sat h1 h2⟩
 ·exact h.elim
def BitC(n:Nat)(cell:Nat->Nat->DV):Prop:=∀i,i<n->cell i 0=xi 0\/cell i 0=xi 1
theorem BitC.bits{n:Nat}{cell:Nat->Nat->DV}(h:BitC n cell):Bits n (intCell cell):=fun i hi=>by
 rcases h i hi with e|e<;>simp[intCell,e,intOf1]
theorem BitC.le{n:Nat}{cell:Nat->Nat->DV}(h:BitC n cell):∀i j,i<n->j<1->cell i j=.x (.int .i64 (intCell cell i)):=le_ro64 fun i hi=>by
 rcases h i hi with e|e<;>exact⟨_,e⟩
theorem trim_sat{m:Nat}{c:Nat->Int}(hm:m<=1000000)(hb:Bits m c):Sat Tryz.prog (tTrim m c) fun r=>leSV 0 [] [] r (bitsSV (valN c m)):=by
 constructor
 rw[show tTrim m c=sub [] (tTrim m c) from(sub_nil _).symm]
 have hl:blen (valN c m)<=m:=blen_le.2 (valN_lt hb)
 refine code_satS C0_ok D0_ok (n:=200) (n0:=0) (nx:=0) (roots:=[]) (keep:=[0,3]) (drop:=[]) (h:=.nil) (c:=codeC (sub [] (tTrim m c))) (st:=codeS (sub [] (tTrim m c))) (k:=codeK (sub [] (tTrim m c))) (body:=bodyTrim) (by kernel_rfl) (by kernel_rfl)
  (fun q s=>∃k:Nat,q=k/\k<=m/\blen (valN c m)<=k/\s=invTrim m c k)
  (fun e s=>e=.exit 0/\s=invTrim m c (blen (valN c m)))
  ⟨m,_,⟨m,rfl,Nat.le_refl _,hl,rfl⟩,?_⟩ ?_ ?_
 ·exact entA_sound (roots:=[]) (keep:=[0,3]) (drop:=[]) (nx:=0) (h:=.nil) (by kernel_rfl)
 ·rintro q s ⟨k,hq,hk,hv,rfl⟩
  refine Sat.of_eq (BTrim_eq m c k) ?_
  constructor
  unfold BTrim
  refine⟨fun hc=>?_,fun hc=>?_,fun hc=>?_⟩
  ·have:0<k:=by simpa using hc
   rw[w64_of (by omega) (by omega)];omega
  ·have h0:0<k:=by
    have:=hc
    simp only[Bool.and_eq_true,decide_eq_true_eq] at this;omega
   have e1:w64 ((k:Int)-1)=((k-1:Nat):Int):=by rw[w64_of (by omega) (by omega)];omega
   rw[e1] at hc ⊢
   have hc0:c (k-1)=0:=by
    have:=hc
    simp only[Bool.and_eq_true,beq_iff_eq,Int.toNat_natCast] at this;exact this.2
   refine⟨k-1,_,by omega,⟨k-1,rfl,by omega,?_,rfl⟩,Gc.refl _ _⟩
   have hbit:=bitN_valN (i:=k-1) hb (by omega)
   rw[hc0] at hbit
   have hbit:bitN (valN c m) (k-1)=0:=by omega
   refine blen_le.2 ?_
   have hlt:=blen_le.1 hv
   unfold bitN at hbit
   rw[show k=k-1+1 by omega,Nat.pow_succ] at hlt
   have:=Nat.div_lt_of_lt_mul hlt
   have h2:valN c m / 2^(k-1)=0:=by
    clear hlt;revert hbit this;generalize valN c m / 2^(k-1)=z;omega
   rcases Nat.div_eq_zero_iff.1 h2 with h|h
   ·have:=Nat.pow_pos (n:=k-1) (show 0<2 by omega);omega
   ·exact h
  ·refine⟨_,⟨rfl,rfl⟩,?_⟩
   have:blen (valN c m)=k:=by
    apply Decidable.byContradiction
    intro hne
    have e1:w64 ((k:Int)-1)=((k-1:Nat):Int):=by rw[w64_of (by omega) (by omega)];omega
    rw[e1] at hc
    have hbit:=bitN_valN (i:=k-1) hb (by omega)
    rw[bitN_high (show blen (valN c m)<=k-1 by omega)] at hbit
    simp only[Int.toNat_natCast,<- hbit] at hc
    simp at hc
    omega
   rw[this];exact Gc.refl _ _
 ·rintro e s ⟨rfl,rfl⟩
  refine Sat.of_eq (KTrim_eq m c _) ⟨?_⟩
  refine⟨⟨⟨by omega,by omega⟩,trivial⟩,?_⟩
  simp only[Tree.sat,bitsSV,ro64,leSV,leD,Nat.zero_add,Nat.sub_zero,Int.toNat_natCast,true_and]
  intro i j hi hj
  rw[bitN_valN hb (by omega)]
noncomputable def cTrim:Ctr:=fun ss=>match ss with
 |[.d (.ro n 1 cell)]=>.need (n<=1000000/\BitC n cell) (.ret (bitsSV (valN (intCell cell) n)))
 |_=>.fail
theorem cTrim_ok:CtrOK Tryz.prog 142 cTrim:=by
 refine ctrOK_leR C0_ok D0_ok (by kernel_rfl) (by kernel_rfl) fun ss r h=>?_
 unfold cTrim at h
 split at h
 ·rename_i n cell
  obtain⟨⟨h1,h2⟩,rfl⟩:=h
  refine⟨[ro64 n (intCell cell)],200,.nil,?_,trim_sat h1 h2.bits⟩
  simp only[leSVs,leSV,ro64,leD,and_true,true_and]
  exact h2.le
 ·exact h.elim
noncomputable def cAt:Ctr:=fun ss=>match ss with
 |[.d (.ro n 1 cell),.d (.x (.int .i64 i))]=>.need (0<=i/\BitC n cell) (.ret (iv (if i<n then intCell cell i.toNat else 0)))
 |_=>.fail
theorem cAt_ok:CtrOK Tryz.prog 141 cAt:=by
 refine ctrOK_leS C0_ok D0_ok (by kernel_rfl) (by kernel_rfl) fun ss r h=>?_
 unfold cAt at h
 split at h
 ·rename_i n cell i
  obtain⟨⟨h1,h2⟩,rfl⟩:=h
  refine⟨[ro64 n (intCell cell),iv i],200,.nil,?_,Sat.of_eq (LAt_eq n (intCell cell) i) ⟨?_⟩⟩
  ·simp only[leSVs,leSV,ro64,iv,leD,and_true,true_and]
   exact h2.le
  ·unfold LAt
   refine⟨fun hc=>?_,fun hc=>?_⟩
   ·have hc:i<n:=by simpa using hc
    rw[if_pos hc]
    exact⟨⟨h1,hc⟩,rfl⟩
   ·have hc:¬i<n:=by simpa using hc
    rw[if_neg hc];exact rfl
 ·exact h.elim
noncomputable def man1:FuncId->Option Ctr:=fun k=>match k with
 |98=>some cGcd
 |99=>some cSize
 |100=>some cHalf
 |133=>some cBits
 |142=>some cTrim
 |141=>some cAt
 |_=>none
theorem man1_ok(k:Nat)(c:Ctr)(h:man1 k=some c):CtrOK Tryz.prog k c/\goodF Tryz.prog k=true:=by
 unfold man1 at h
 split at h<;>first|(cases h;done)|(cases h)
 ·exact⟨cGcd_ok,by kernel_rfl⟩
 ·exact⟨cSize_ok,by kernel_rfl⟩
 ·exact⟨cHalf_ok,by kernel_rfl⟩
 ·exact⟨cBits_ok,by kernel_rfl⟩
 ·exact⟨cTrim_ok,by kernel_rfl⟩
 ·exact⟨cAt_ok,by kernel_rfl⟩
noncomputable def C1:Ctx:=ctxN Tryz.prog man1 (fun _=>false) 200 .nil 6
theorem C1_ok:CtxOK Tryz.prog C1:=ctxN_ok mixed man1_ok 6
noncomputable def D1:Dr:=fun _=>drawn Tryz.prog C1
theorem D1_ok:DrOK Tryz.prog C1 D1:=drawn_ok C1_ok mixed
noncomputable def T1(k:Nat)(args:List SV):Tree SV:=fnT Tryz.prog C1 D1 200 (fnOf Tryz.prog k) (bodyOf Tryz.prog k) args .nil
noncomputable def tPlus(n:Nat)(a:Nat->Int)(m:Nat)(b:Nat->Int):Tree SV:=T1 134 [ro64 n a,ro64 m b]
noncomputable def tMinus(n:Nat)(a:Nat->Int)(m:Nat)(b:Nat->Int):Tree SV:=T1 136 [ro64 n a,ro64 m b]
noncomputable def tCmpL(n:Nat)(a:Nat->Int)(m:Nat)(b:Nat->Int):Tree SV:=T1 135 [ro64 n a,ro64 m b]
noncomputable def tMake(n d:Int):Tree SV:=T1 77 [iv n,iv d]
noncomputable def LMake(n d:Int):Tree SV :=
 .ite (d==(0:Int)) (.ret (SV.agg [iv (0:Int),iv (0:Int),iv (3:Int)])) (.code (codeC (sub [(1:Nat)] (tMake n d))) (codeS (sub [(1:Nat)] (tMake n d))) (codeK (sub [(1:Nat)] (tMake n d))))
theorem LMake_eq(n d:Int):tMake n d=LMake n d:=by kernel_rfl
noncomputable def invPlus(n:Nat)(a:Nat->Int)(m:Nat)(b:Nat->Int)(x:Int)(k:Nat)(c:Nat->Int):AS:=⟨[.ok (ro64 n a),.ok (ro64 m b),.unk,.unk,.unk,.ok (.row 1 0 0 k 1),.ok (iv x),.ok (iv k)]++List.replicate 32 .unk,[none,some (.row k 1 fun i _=>.x (.int .i64 (c i)))],2,.nil⟩
noncomputable def bodyPlus:Code:=loopN (bodyOf Tryz.prog 134) 0
noncomputable def BPlus(n:Nat)(a:Nat->Int)(m:Nat)(b:Nat->Int)(x:Int)(k:Nat)(c:Nat->Int):Tree (Ex×AS) :=
 .ite (decide ((↑k:Int)<=(↑n:Int))||decide ((↑k:Int)<=(↑m:Int)))
 (.need ((0:Int)<=(↑k:Int)/\BitC n fun i x=>DV.x (.int .i64 (a i)))
  (.need ((0:Int)<=(↑k:Int)/\BitC m fun i x=>DV.x (.int .i64 (b i)))
   (.need ((2:Int)≠(0:Int))
    (.need
     (0+k<=k /\
      1 <=
        List.length
         [iv
           (Int.tmod
            (w64
             (w64
               ((if(↑k:Int)<(↑n:Int) then intCell (fun i x=>DV.x (.int .i64 (a i))) (Int.toNat (↑k:Int)) else(0:Int)) +
                if(↑k:Int)<(↑m:Int) then intCell (fun i x=>DV.x (.int .i64 (b i))) (Int.toNat (↑k:Int)) else(0:Int)) +
              x))
            (2:Int))] /\
       (k+1)*8<=140737488355328)
     (.need ((2:Int)≠(0:Int))
      (.ret
       (.normal,
        {
         tm :=
          [.ok (SV.d (DV.ro n 1 fun i x=>DV.x (.int .i64 (a i)))),.ok (SV.d (DV.ro m 1 fun i x=>DV.x (.int .i64 (b i)))),.unk,.unk,.unk,
           .ok (SV.row 1 0 0 (k+1) 1),
           .ok
            (iv
             (w64
              (Int.tdiv
               (w64
                (w64
                  ((if(↑k:Int)<(↑n:Int) then intCell (fun i x=>DV.x (.int .i64 (a i))) (Int.toNat (↑k:Int)) else(0:Int)) +
                   if(↑k:Int)<(↑m:Int) then intCell (fun i x=>DV.x (.int .i64 (b i))) (Int.toNat (↑k:Int)) else(0:Int)) +
                 x))
               (2:Int)))),
           .ok (iv (w64 ((↑k:Int)+(1:Int)))),.unk,.unk,.unk,.unk,.unk,.unk,.unk,.unk,.unk,.unk,.unk,.unk,.unk,.unk,.unk,.unk,.unk,.unk,.unk,.unk,.unk,.unk,
           .unk,.unk,.unk,.unk,.unk,.unk,.unk,.unk,.unk,.unk],
         hp :=
          [none,
           some
            (.row (k+1) 1 fun a_1 b_1 =>
             selD (decide (a_1<k)) (DV.x (.int .i64 (c ((0:Nat)+a_1))))
              (dsAt
               [DV.x
                 (.int .i64
                  (Int.tmod
                   (w64
                    (w64
                      ((if(↑k:Int)<(↑n:Int) then intCell (fun i x=>DV.x (.int .i64 (a i))) (Int.toNat (↑k:Int)) else(0:Int)) +
                       if(↑k:Int)<(↑m:Int) then intCell (fun i x=>DV.x (.int .i64 (b i))) (Int.toNat (↑k:Int)) else(0:Int)) +
                     x))
                   (2:Int)))]
               (0+(0+(a_1-k))*1+b_1)))],
         next:=2,hint:=.nil })))))))
 (.ret
  (.exit 0,
   {
    tm :=
     [.ok (SV.d (DV.ro n 1 fun i x=>DV.x (.int .i64 (a i)))),.ok (SV.d (DV.ro m 1 fun i x=>DV.x (.int .i64 (b i)))),.unk,.unk,.unk,
      .ok (SV.row 1 0 0 k 1),.ok (iv x),.ok (iv (↑k:Int)),.unk,.unk,.unk,.unk,.unk,.unk,.unk,.unk,.unk,.unk,.unk,.unk,.unk,.unk,.unk,
      .unk,.unk,.unk,.unk,.unk,.unk,.unk,.unk,.unk,.unk,.unk,.unk,.unk,.unk,.unk,.unk,.unk],
    hp:=[none,some (.row k 1 fun i x=>DV.x (.int .i64 (c i)))],next:=2,hint:=.nil }))
theorem BPlus_eq(n:Nat)(a:Nat->Int)(m:Nat)(b:Nat->Int)(x:Int)(k:Nat)(c:Nat->Int):cutT 1 [(.slot 5,1)] [0,1,5,6,7] [] 2 .nil (exec Tryz.prog C1 D1 200 bodyPlus (invPlus n a m b x k c))=BPlus n a m b x k c:=by kernel_rfl
noncomputable def KPlus(n:Nat)(a:Nat->Int)(m:Nat)(b:Nat->Int)(x:Int)(k:Nat)(c:Nat->Int):Tree SV :=
 .need (0+k<=k)
 (.need (0+k<=k)
  (.need (k<=1000000/\BitC k fun i j=>(fun i x=>DV.x (.int .i64 (c i))) ((0:Nat)+i) j)
   (.ret (SV.d (DV.ro (blen (valN (fun i=>c ((0:Nat)+i)) k)) 1 fun i x=>DV.x (.int .i64 (↑(bitN (valN (fun i=>c ((0:Nat)+i)) k) i):Int)))))))
theorem KPlus_eq(n:Nat)(a:Nat->Int)(m:Nat)(b:Nat->Int)(x:Int)(k:Nat)(c:Nat->Int):codeK (sub [] (tPlus n a m b)) (.exit 0) (invPlus n a m b x k c)=KPlus n a m b x k c:=by kernel_rfl
noncomputable def invMinus(n:Nat)(a:Nat->Int)(m:Nat)(b:Nat->Int)(x:Int)(k:Nat)(c:Nat->Int):AS:=⟨[.ok (ro64 n a),.ok (ro64 m b),.unk,.unk,.unk,.ok (.row 1 0 0 k 1),.ok (iv x),.ok (iv k)]++List.replicate 27 .unk,[none,some (.row k 1 fun i _=>.x (.int .i64 (c i)))],2,.nil⟩
noncomputable def bodyMinus:Code:=loopN (bodyOf Tryz.prog 136) 0
noncomputable def BMinus(n:Nat)(a:Nat->Int)(m:Nat)(b:Nat->Int)(x:Int)(k:Nat)(c:Nat->Int):Tree (Ex×AS) :=
 .ite (decide ((↑k:Int)<(↑n:Int)))
 (.need ((0:Int)<=(↑k:Int)/\BitC n fun i x=>DV.x (.int .i64 (a i)))
  (.need ((0:Int)<=(↑k:Int)/\BitC m fun i x=>DV.x (.int .i64 (b i)))
   (.ite
    (decide
     (w64
       (w64
         ((if(↑k:Int)<(↑n:Int) then intCell (fun i x=>DV.x (.int .i64 (a i))) (Int.toNat (↑k:Int)) else(0:Int)) -
          if(↑k:Int)<(↑m:Int) then intCell (fun i x=>DV.x (.int .i64 (b i))) (Int.toNat (↑k:Int)) else(0:Int)) -
        x) <
      (0:Int)))
    (.need
     (0+k<=k /\
      1 <=
        List.length
         [iv
           (w64
            (w64
              (w64
                ((if(↑k:Int)<(↑n:Int) then intCell (fun i x=>DV.x (.int .i64 (a i))) (Int.toNat (↑k:Int)) else(0:Int)) -
                 if(↑k:Int)<(↑m:Int) then intCell (fun i x=>DV.x (.int .i64 (b i))) (Int.toNat (↑k:Int)) else(0:Int)) -
               x) +
             (2:Int)))] /\
       (k+1)*8<=140737488355328)
     (.ret
      (.normal,
       {
        tm :=
         [.ok (SV.d (DV.ro n 1 fun i x=>DV.x (.int .i64 (a i)))),.ok (SV.d (DV.ro m 1 fun i x=>DV.x (.int .i64 (b i)))),.unk,.unk,.unk,
          .ok (SV.row 1 0 0 (k+1) 1),.ok (iv (1:Int)),.ok (iv (w64 ((↑k:Int)+(1:Int)))),.unk,.unk,.unk,.unk,.unk,.unk,.unk,.unk,.unk,
          .unk,.unk,.unk,.unk,.unk,.unk,.unk,.unk,.unk,.unk,.unk,.unk,.unk,.unk,.unk,.unk,.unk,.unk],
        hp :=
         [none,
          some
           (.row (k+1) 1 fun a_1 b_1 =>
            selD (decide (a_1<k)) (DV.x (.int .i64 (c ((0:Nat)+a_1))))
             (dsAt
              [DV.x
                (.int .i64
                 (w64
                  (w64
                    (w64
                      ((if(↑k:Int)<(↑n:Int) then intCell (fun i x=>DV.x (.int .i64 (a i))) (Int.toNat (↑k:Int)) else(0:Int)) -
                       if(↑k:Int)<(↑m:Int) then intCell (fun i x=>DV.x (.int .i64 (b i))) (Int.toNat (↑k:Int)) else(0:Int)) -
                     x) +
                   (2:Int))))]
              (0+(0+(a_1-k))*1+b_1)))],
        next:=2,hint:=.nil })))
    (.need
     (0+k<=k /\
      1 <=
        List.length
         [iv
           (w64
            (w64
              ((if(↑k:Int)<(↑n:Int) then intCell (fun i x=>DV.x (.int .i64 (a i))) (Int.toNat (↑k:Int)) else(0:Int)) -
               if(↑k:Int)<(↑m:Int) then intCell (fun i x=>DV.x (.int .i64 (b i))) (Int.toNat (↑k:Int)) else(0:Int)) -
             x))] /\
       (k+1)*8<=140737488355328)
     (.ret
      (.normal,
       {
        tm :=
         [.ok (SV.d (DV.ro n 1 fun i x=>DV.x (.int .i64 (a i)))),.ok (SV.d (DV.ro m 1 fun i x=>DV.x (.int .i64 (b i)))),.unk,.unk,.unk,
          .ok (SV.row 1 0 0 (k+1) 1),.ok (iv (0:Int)),.ok (iv (w64 ((↑k:Int)+(1:Int)))),.unk,.unk,.unk,.unk,.unk,.unk,.unk,.unk,.unk,
          .unk,.unk,.unk,.unk,.unk,.unk,.unk,.unk,.unk,.unk,.unk,.unk,.unk,.unk,.unk,.unk,.unk,.unk],
        hp :=
         [none,
          some
           (.row (k+1) 1 fun a_1 b_1 =>
            selD (decide (a_1<k)) (DV.x (.int .i64 (c ((0:Nat)+a_1))))
             (dsAt
              [DV.x
                (.int .i64
                 (w64
                  (w64
                    ((if(↑k:Int)<(↑n:Int) then intCell (fun i x=>DV.x (.int .i64 (a i))) (Int.toNat (↑k:Int)) else(0:Int)) -
                     if(↑k:Int)<(↑m:Int) then intCell (fun i x=>DV.x (.int .i64 (b i))) (Int.toNat (↑k:Int)) else(0:Int)) -
                   x)))]
              (0+(0+(a_1-k))*1+b_1)))],
        next:=2,hint:=.nil }))))))
 (.ret
  (.exit 0,
   {
    tm :=
     [.ok (SV.d (DV.ro n 1 fun i x=>DV.x (.int .i64 (a i)))),.ok (SV.d (DV.ro m 1 fun i x=>DV.x (.int .i64 (b i)))),.unk,.unk,.unk,
      .ok (SV.row 1 0 0 k 1),.ok (iv x),.ok (iv (↑k:Int)),.unk,.unk,.unk,.unk,.unk,.unk,.unk,.unk,.unk,.unk,.unk,.unk,.unk,.unk,.unk,
      .unk,.unk,.unk,.unk,.unk,.unk,.unk,.unk,.unk,.unk,.unk,.unk],
    hp:=[none,some (.row k 1 fun i x=>DV.x (.int .i64 (c i)))],next:=2,hint:=.nil }))
theorem BMinus_eq(n:Nat)(a:Nat->Int)(m:Nat)(b:Nat->Int)(x:Int)(k:Nat)(c:Nat->Int):cutT 1 [(.slot 5,1)] [0,1,5,6,7] [] 2 .nil (exec Tryz.prog C1 D1 200 bodyMinus (invMinus n a m b x k c))=BMinus n a m b x k c:=by kernel_rfl
noncomputable def KMinus(n:Nat)(a:Nat->Int)(m:Nat)(b:Nat->Int)(x:Int)(k:Nat)(c:Nat->Int):Tree SV :=
 .need (0+k<=k)
 (.need (0+k<=k)
  (.need (k<=1000000/\BitC k fun i j=>(fun i x=>DV.x (.int .i64 (c i))) ((0:Nat)+i) j)
   (.ret (SV.d (DV.ro (blen (valN (fun i=>c ((0:Nat)+i)) k)) 1 fun i x=>DV.x (.int .i64 (↑(bitN (valN (fun i=>c ((0:Nat)+i)) k) i):Int)))))))
theorem KMinus_eq(n:Nat)(a:Nat->Int)(m:Nat)(b:Nat->Int)(x:Int)(k:Nat)(c:Nat->Int):codeK (sub [] (tMinus n a m b)) (.exit 0) (invMinus n a m b x k c)=KMinus n a m b x k c:=by kernel_rfl
noncomputable def invCmp(n:Nat)(a:Nat->Int)(m:Nat)(b:Nat->Int)(r k:Int):AS:=⟨[.ok (ro64 n a),.ok (ro64 m b),.unk,.unk,.ok (iv r),.ok (iv k)]++List.replicate 24 .unk,[],0,.nil⟩
noncomputable def bodyCmp:Code:=loopN (bodyOf Tryz.prog 135) 0
noncomputable def BCmp(n:Nat)(a:Nat->Int)(m:Nat)(b:Nat->Int)(r k:Int):Tree (Ex×AS) :=
 .ite (decide (k>=(0:Int)))
 (.need ((0:Int)<=k/\BitC n fun i x=>DV.x (.int .i64 (a i)))
  (.need ((0:Int)<=k/\BitC m fun i x=>DV.x (.int .i64 (b i)))
   (.ite ((if k<(↑n:Int) then intCell (fun i x=>DV.x (.int .i64 (a i))) (Int.toNat k) else(0:Int)) != if k<(↑m:Int) then intCell (fun i x=>DV.x (.int .i64 (b i))) (Int.toNat k) else(0:Int))
    (.need ((0:Int)<=k/\BitC n fun i x=>DV.x (.int .i64 (a i)))
     (.need ((0:Int)<=k/\BitC m fun i x=>DV.x (.int .i64 (b i)))
      (.ret
       (.ret,
        {
         tm :=
          [.ok (SV.d (DV.ro n 1 fun i x=>DV.x (.int .i64 (a i)))),.ok (SV.d (DV.ro m 1 fun i x=>DV.x (.int .i64 (b i)))),.unk,.unk,
           .ok
            (iv
             (w64
              ((if k<(↑n:Int) then intCell (fun i x=>DV.x (.int .i64 (a i))) (Int.toNat k) else(0:Int)) -
               if k<(↑m:Int) then intCell (fun i x=>DV.x (.int .i64 (b i))) (Int.toNat k) else(0:Int)))),
           .ok (iv k),.unk,.unk,.unk,.unk,.unk,.unk,.unk,.unk,.unk,.unk,.unk,.unk,.unk,.unk,.unk,.unk,.unk,.unk,.unk,.unk,.unk,.unk,.unk,.unk],
         hp:=[],next:=0,hint:=.nil }))))
    (.ret
     (.normal,
      {
       tm :=
        [.ok (SV.d (DV.ro n 1 fun i x=>DV.x (.int .i64 (a i)))),.ok (SV.d (DV.ro m 1 fun i x=>DV.x (.int .i64 (b i)))),.unk,.unk,.ok (iv r),
         .ok (iv (w64 (k-(1:Int)))),.unk,.unk,.unk,.unk,.unk,.unk,.unk,.unk,.unk,.unk,.unk,.unk,.unk,.unk,.unk,.unk,.unk,.unk,.unk,.unk,.unk,.unk,.unk,
         .unk],
       hp:=[],next:=0,hint:=.nil })))))
 (.ret
  (.exit 0,
   {
    tm :=
     [.ok (SV.d (DV.ro n 1 fun i x=>DV.x (.int .i64 (a i)))),.ok (SV.d (DV.ro m 1 fun i x=>DV.x (.int .i64 (b i)))),.unk,.unk,.ok (iv r),.ok (iv k),.unk,.unk,
      .unk,.unk,.unk,.unk,.unk,.unk,.unk,.unk,.unk,.unk,.unk,.unk,.unk,.unk,.unk,.unk,.unk,.unk,.unk,.unk,.unk,.unk],
    hp:=[],next:=0,hint:=.nil }))
theorem BCmp_eq(n:Nat)(a:Nat->Int)(m:Nat)(b:Nat->Int)(r k:Int):cutT 0 [] [0,1,4,5] [] 0 .nil (exec Tryz.prog C1 D1 200 bodyCmp (invCmp n a m b r k))=BCmp n a m b r k:=by kernel_rfl
noncomputable def KCmp(n:Nat)(a:Nat->Int)(m:Nat)(b:Nat->Int)(r k:Int):Tree SV :=
 .ret (iv (0:Int))
theorem KCmp_eq(n:Nat)(a:Nat->Int)(m:Nat)(b:Nat->Int)(r k:Int):codeK (sub [] (tCmpL n a m b)) (.exit 0) (invCmp n a m b r k)=KCmp n a m b r k:=by kernel_rfl
noncomputable def KCmp2(n:Nat)(a:Nat->Int)(m:Nat)(b:Nat->Int)(r k:Int):Tree SV :=
 .ret (iv r)
theorem KCmp2_eq(n:Nat)(a:Nat->Int)(m:Nat)(b:Nat->Int)(r k:Int):codeK (sub [] (tCmpL n a m b)) .ret (invCmp n a m b r k)=KCmp2 n a m b r k:=by kernel_rfl
noncomputable def invMake(a b:Int):AS:=⟨[.unk,.unk,.unk,.unk,.ok (.ptr 0 0),.ok (iv a),.ok (iv b)]++List.replicate 69 .unk,[some (.cells [iv 0,iv 0,iv 0])],1,.nil⟩
noncomputable def bodyMake:Code:=loopN (bodyOf Tryz.prog 77) 0
noncomputable def BMake(a b:Int):Tree (Ex×AS) :=
 .need ((2:Int)≠(0:Int))
 (.need ((Int.tmod a (2:Int)==(0:Int))=true->(2:Int)≠(0:Int))
  (.ite (Int.tmod a (2:Int)==(0:Int)&&Int.tmod b (2:Int)==(0:Int)&&a != (0:Int))
   (.need ((2:Int)≠(0:Int))
    (.need ((2:Int)≠(0:Int))
     (.ret
      (.normal,
       {
        tm :=
         [.unk,.unk,.unk,.unk,.ok (SV.ptr 0 0),.ok (iv (w64 (Int.tdiv a (2:Int)))),.ok (iv (w64 (Int.tdiv b (2:Int)))),.unk,.unk,.unk,.unk,.unk,.unk,.unk,.unk,
          .unk,.unk,.unk,.unk,.unk,.unk,.unk,.unk,.unk,.unk,.unk,.unk,.unk,.unk,.unk,.unk,.unk,.unk,.unk,.unk,.unk,.unk,.unk,.unk,.unk,.unk,.unk,
          .unk,.unk,.unk,.unk,.unk,.unk,.unk,.unk,.unk,.unk,.unk,.unk,.unk,.unk,.unk,.unk,.unk,.unk,.unk,.unk,.unk,.unk,.unk,.unk,.unk,.unk,.unk,
          .unk,.unk,.unk,.unk,.unk,.unk,.unk],
        hp:=[some (.cells [iv (0:Int),iv (0:Int),iv (0:Int)])],next:=1,hint:=.nil }))))
   (.ret
    (.exit 0,
     {
      tm :=
       [.unk,.unk,.unk,.unk,.ok (SV.ptr 0 0),.ok (iv a),.ok (iv b),.unk,.unk,.unk,.unk,.unk,.unk,.unk,.unk,.unk,.unk,.unk,.unk,.unk,.unk,.unk,
        .unk,.unk,.unk,.unk,.unk,.unk,.unk,.unk,.unk,.unk,.unk,.unk,.unk,.unk,.unk,.unk,.unk,.unk,.unk,.unk,.unk,.unk,.unk,.unk,.unk,.unk,.unk,.unk,
        .unk,.unk,.unk,.unk,.unk,.unk,.unk,.unk,.unk,.unk,.unk,.unk,.unk,.unk,.unk,.unk,.unk,.unk,.unk,.unk,.unk,.unk,.unk,.unk,.unk,.unk],
      hp:=[some (.cells [iv (0:Int),iv (0:Int),iv (0:Int)])],next:=1,hint:=.nil }))))
theorem BMake_eq(a b:Int):cutT 1 [] [4,5,6] [] 1 .nil (exec Tryz.prog C1 D1 200 bodyMake (invMake a b))=BMake a b:=by kernel_rfl
noncomputable def KMake(n d a b:Int):Tree SV :=
 .ite (a==(0:Int)) (.ret (SV.agg [iv (0:Int),iv (1:Int),iv (0:Int)]))
 (.ite (a==(-9223372036854775808:Int)||b==(-9223372036854775808:Int)) (.ret (SV.agg [iv (0:Int),iv (0:Int),iv (2:Int)]))
  (.need ((-9223372036854775807:Int)<=a/\a<=(9223372036854775807:Int))
   (.need ((-9223372036854775807:Int)<=b/\b<=(9223372036854775807:Int))
    (.need ((0:Int)<=(↑(Int.natAbs a):Int)/\(0:Int)<=(↑(Int.natAbs b):Int))
     (.need ((-9223372036854775807:Int)<=a/\a<=(9223372036854775807:Int)/\(1:Int)<=(↑(Int.gcd (↑(Int.natAbs a):Int) (↑(Int.natAbs b):Int)):Int))
      (.need ((-9223372036854775807:Int)<=b/\b<=(9223372036854775807:Int)/\(1:Int)<=(↑(Int.gcd (↑(Int.natAbs a):Int) (↑(Int.natAbs b):Int)):Int))
       (.ite
        (decide ((↑(Int.natAbs a / Int.toNat (↑(Int.gcd (↑(Int.natAbs a):Int) (↑(Int.natAbs b):Int)):Int)):Int)>(4611686018427387904:Int)) ||
         decide ((↑(Int.natAbs b / Int.toNat (↑(Int.gcd (↑(Int.natAbs a):Int) (↑(Int.natAbs b):Int)):Int)):Int)>(4611686018427387904:Int)))
        (.ret (SV.agg [iv (0:Int),iv (0:Int),iv (2:Int)]))
        (.ite (!decide (a<(0:Int))==decide (b<(0:Int)))
         (.ret
          (SV.agg
           [iv (w64 ((0:Int)-(↑(Int.natAbs a / Int.toNat (↑(Int.gcd (↑(Int.natAbs a):Int) (↑(Int.natAbs b):Int)):Int)):Int))),
            iv (↑(Int.natAbs b / Int.toNat (↑(Int.gcd (↑(Int.natAbs a):Int) (↑(Int.natAbs b):Int)):Int)):Int),iv (0:Int)]))
         (.ret
          (SV.agg
           [iv (↑(Int.natAbs a / Int.toNat (↑(Int.gcd (↑(Int.natAbs a):Int) (↑(Int.natAbs b):Int)):Int)):Int),iv (↑(Int.natAbs b / Int.toNat (↑(Int.gcd (↑(Int.natAbs a):Int) (↑(Int.natAbs b):Int)):Int)):Int),
            iv (0:Int)]))))))))))
theorem KMake_eq(n d a b:Int):codeK (sub [1] (tMake n d)) (.exit 0) (invMake a b)=KMake n d a b:=by kernel_rfl
theorem atB{n:Nat}{a:Nat->Int}(h:Bits n a)(k:Nat):(if(k:Int)<n then intCell (fun i x=>.x (.int .i64 (a i))) (Int.toNat k) else 0)=bitN (valN a n) k:=by
 by_cases hk:(k:Int)<n
 ·rw[if_pos hk];exact(bitN_valN h (by omega)).symm
 ·rw[if_neg hk,bitN_high (Nat.le_trans (blen_le.2 (valN_lt h)) (by omega))];rfl
theorem bitC_of{n:Nat}{a:Nat->Int}(h:Bits n a):BitC n fun i x=>.x (.int .i64 (a i)):=fun i hi=>by
 rcases h i hi with e|e<;>simp[e]
theorem bitN_cell(v i:Nat):xi (bitN v i:Int)=xi 0\/xi (bitN v i:Int)=xi 1:=by
 have:=bitN_lt v i
 have:bitN v i=0\/bitN v i=1:=by omega
 rcases this with e|e<;>rw[e]
 ·exact .inl rfl
 ·exact .inr rfl
theorem plus_sat{n:Nat}{a:Nat->Int}{m:Nat}{b:Nat->Int}(hn:n<=500000)(hm:m<=500000)(ha:Bits n a)(hb:Bits m b):Sat Tryz.prog (tPlus n a m b) (·=bitsSV (valN a n+valN b m)):=by
 constructor
 rw[show tPlus n a m b=sub [] (tPlus n a m b) from(sub_nil _).symm]
 refine code_satS C1_ok D1_ok (n:=200) (n0:=1) (nx:=2) (roots:=[(.slot 5,1)]) (keep:=[0,1,5,6,7]) (drop:=[]) (h:=.nil) (c:=codeC (sub [] (tPlus n a m b))) (st:=codeS (sub [] (tPlus n a m b))) (k:=codeK (sub [] (tPlus n a m b))) (body:=bodyPlus) (by kernel_rfl) (by kernel_rfl)
  (fun q s=>∃k:Nat,q=max n m+1-k/\k<=max n m+1/\s=invPlus n a m b (carryN (valN a n) (valN b m) k) k fun i=>bitN (valN a n+valN b m) i)
  (fun e s=>e=.exit 0/\s=invPlus n a m b (carryN (valN a n) (valN b m) (max n m+1)) (max n m+1) fun i=>bitN (valN a n+valN b m) i)
  ⟨_,_,⟨0,rfl,by omega,rfl⟩,?_⟩ ?_ ?_
 ·refine(entA_sound (s':=⟨[.ok (ro64 n a),.ok (ro64 m b),.unk,.unk,.unk,.ok (.row 1 0 0 0 1),.ok (iv 0),.ok (iv 0)]++List.replicate 32 .unk,[none,some (.cells [])],2,.nil⟩) (roots:=[(.slot 5,1)]) (keep:=[0,1,5,6,7]) (drop:=[]) (nx:=2) (h:=.nil) (by kernel_rfl)).trans ?_
  rw[carry_zero]
  refine gc_sound [(1,1)] [] rfl ?_ ?_
  ·simp[invPlus,leTm,leTV,leSV,leSVs,rn,iv,leD,List.replicate,ro64]
  ·simp[invPlus,leHp,leBlk,leSVs,leSV,rn,iv,leD,srcOf,hget]
 ·rintro q s ⟨k,hq,hk,rfl⟩
  refine Sat.of_eq (BPlus_eq n a m b _ k _) ?_
  constructor
  unfold BPlus
  rw[atB ha,atB hb]
  have hc1:=carry_le (valN a n) (valN b m) k
  have hb1:=bitN_lt (valN a n) k
  have hb2:=bitN_lt (valN b m) k
  have hst:=add_step (valN a n) (valN b m) k
  have hb3:=bitN_lt (valN a n+valN b m) k
  have hc2:=carry_le (valN a n) (valN b m) (k+1)
  rw[w64_of (n:=(bitN (valN a n) k:Int)+bitN (valN b m) k) (by omega) (by omega),w64_of (n:=(bitN (valN a n) k:Int)+bitN (valN b m) k+carryN (valN a n) (valN b m) k) (by omega) (by omega)]
  have e1:Int.tmod ((bitN (valN a n) k:Int)+bitN (valN b m) k+carryN (valN a n) (valN b m) k) 2=bitN (valN a n+valN b m) k:=by rw[tmod_lit (by omega)];omega
  have e2:w64 (Int.tdiv ((bitN (valN a n) k:Int)+bitN (valN b m) k+carryN (valN a n) (valN b m) k) 2)=carryN (valN a n) (valN b m) (k+1):=by
   rw[Int.tdiv_eq_ediv_of_nonneg (by omega),w64_of (by omega) (by omega)];omega
  have e3:w64 ((k:Int)+1)=((k+1:Nat):Int):=by rw[w64_of (by omega) (by omega)];omega
  refine⟨fun hc=>?_,fun hc=>?_⟩
  ·have hc:k<=n\/k<=m:=by
    simp only[Bool.or_eq_true,decide_eq_true_eq] at hc;omega
   refine⟨⟨by omega,bitC_of ha⟩,⟨by omega,bitC_of hb⟩,by decide,⟨by omega,by simp,by omega⟩,by decide,max n m+1-(k+1),_,by omega,⟨k+1,rfl,by omega,rfl⟩,?_⟩
   rw[e1,e2,e3]
   refine gc_sound [(1,1)] [] rfl ?_ ?_
   ·simp[invPlus,leTm,leTV,leSV,leSVs,rn,iv,leD,List.replicate,ro64]
   ·simp[invPlus,leHp,leBlk,leSVs,leSV,rn,iv,leD,srcOf,hget]
    intro i hi
    rw[selD_eq]
    by_cases h:i<k
    ·simp[h]
    ·obtain rfl:i=k:=by omega
     simp[dsAt]
  ·have hc:¬(k<=n\/k<=m):=by
    simp only[Bool.or_eq_false_iff,decide_eq_false_iff_not] at hc;omega
   obtain rfl:k=max n m+1:=by omega
   exact⟨_,⟨rfl,rfl⟩,Gc.refl _ _⟩
 ·rintro e s ⟨rfl,rfl⟩
  refine Sat.of_eq (KPlus_eq n a m b _ _ _) ⟨?_⟩
  unfold KPlus
  refine⟨by omega,by omega,⟨by omega,fun i hi=>?_⟩,?_⟩
  ·exact bitN_cell (valN a n+valN b m) (0+i)
  ·have hv:valN (fun i=>((bitN (valN a n+valN b m) (0+i):Nat):Int)) (max n m+1)=valN a n+valN b m:=by
    simp only[Nat.zero_add]
    refine valN_bits' ?_
    have h1:=valN_lt ha
    have h2:=valN_lt hb
    have h3:=Nat.pow_le_pow_right (show 0<2 by omega) (Nat.le_max_left n m)
    have h4:=Nat.pow_le_pow_right (show 0<2 by omega) (Nat.le_max_right n m)
    rw[Nat.pow_succ];omega
   rw[hv];exact rfl
noncomputable def cPlusL:Ctr:=fun ss=>match ss with
 |[.d (.ro n 1 cell),.d (.ro m 1 cel2)]=>.need (n<=500000/\m<=500000/\BitC n cell/\BitC m cel2) (.ret (bitsSV (valN (intCell cell) n+valN (intCell cel2) m)))
 |_=>.fail
theorem cPlusL_ok:CtrOK Tryz.prog 134 cPlusL:=by
 refine ctrOK_leS C1_ok D1_ok (by kernel_rfl) (by kernel_rfl) fun ss r h=>?_
 unfold cPlusL at h
 split at h
 ·rename_i n cell m cel2
  obtain⟨⟨h1,h2,h3,h4⟩,rfl⟩:=h
  refine⟨[ro64 n (intCell cell),ro64 m (intCell cel2)],200,.nil,?_,plus_sat h1 h2 h3.bits h4.bits⟩
  simp only[leSVs,leSV,ro64,leD,and_true,true_and]
  exact⟨h3.le,h4.le⟩
 ·exact h.elim
theorem minus_sat{n:Nat}{a:Nat->Int}{m:Nat}{b:Nat->Int}(hn:n<=500000)(ha:Bits n a)(hb:Bits m b)(hab:valN b m<=valN a n):Sat Tryz.prog (tMinus n a m b) (·=bitsSV (valN a n-valN b m)):=by
 constructor
 rw[show tMinus n a m b=sub [] (tMinus n a m b) from(sub_nil _).symm]
 refine code_satS C1_ok D1_ok (n:=200) (n0:=1) (nx:=2) (roots:=[(.slot 5,1)]) (keep:=[0,1,5,6,7]) (drop:=[]) (h:=.nil) (c:=codeC (sub [] (tMinus n a m b))) (st:=codeS (sub [] (tMinus n a m b))) (k:=codeK (sub [] (tMinus n a m b))) (body:=bodyMinus) (by kernel_rfl) (by kernel_rfl)
  (fun q s=>∃k:Nat,q=n-k/\k<=n/\s=invMinus n a m b (borrowN (valN a n) (valN b m) k) k fun i=>bitN (valN a n-valN b m) i)
  (fun e s=>e=.exit 0/\s=invMinus n a m b (borrowN (valN a n) (valN b m) n) n fun i=>bitN (valN a n-valN b m) i)
  ⟨_,_,⟨0,rfl,by omega,rfl⟩,?_⟩ ?_ ?_
 ·refine(entA_sound (s':=⟨[.ok (ro64 n a),.ok (ro64 m b),.unk,.unk,.unk,.ok (.row 1 0 0 0 1),.ok (iv 0),.ok (iv 0)]++List.replicate 27 .unk,[none,some (.cells [])],2,.nil⟩) (roots:=[(.slot 5,1)]) (keep:=[0,1,5,6,7]) (drop:=[]) (nx:=2) (h:=.nil) (by kernel_rfl)).trans ?_
  have e0:borrowN (valN a n) (valN b m) 0=0:=by simp[borrowN,Nat.mod_one]
  rw[e0]
  refine gc_sound [(1,1)] [] rfl ?_ ?_
  ·simp[invMinus,leTm,leTV,leSV,leSVs,rn,iv,leD,List.replicate,ro64]
  ·simp[invMinus,leHp,leBlk,leSVs,leSV,rn,iv,leD,srcOf,hget]
 ·rintro q s ⟨k,hq,hk,rfl⟩
  refine Sat.of_eq (BMinus_eq n a m b _ k _) ?_
  constructor
  unfold BMinus
  rw[atB ha,atB hb]
  have hb1:=bitN_lt (valN a n) k
  have hb2:=bitN_lt (valN b m) k
  have hst:=sub_step hab k
  have hb3:=bitN_lt (valN a n-valN b m) k
  have hc1:borrowN (valN a n) (valN b m) k<=1:=by unfold borrowN;split<;>omega
  have hc2:borrowN (valN a n) (valN b m) (k+1)<=1:=by unfold borrowN;split<;>omega
  rw[w64_of (n:=(bitN (valN a n) k:Int)-bitN (valN b m) k) (by omega) (by omega),w64_of (n:=(bitN (valN a n) k:Int)-bitN (valN b m) k-borrowN (valN a n) (valN b m) k) (by omega) (by omega)]
  have e3:w64 ((k:Int)+1)=((k+1:Nat):Int):=by rw[w64_of (by omega) (by omega)];omega
  refine⟨fun hc=>?_,fun hc=>?_⟩
  ·have hc:k<n:=by simpa using hc
   refine⟨⟨by omega,bitC_of ha⟩,⟨by omega,bitC_of hb⟩,fun hs=>?_,fun hs=>?_⟩
   ·have hs:(bitN (valN a n) k:Int)-bitN (valN b m) k-borrowN (valN a n) (valN b m) k<0:=by simpa using hs
    have h1:borrowN (valN a n) (valN b m) (k+1)=1:=by omega
    have e1:w64 ((bitN (valN a n) k:Int)-bitN (valN b m) k-borrowN (valN a n) (valN b m) k+2)=bitN (valN a n-valN b m) k:=by rw[w64_of (by omega) (by omega)];omega
    refine⟨⟨by omega,by simp,by omega⟩,n-(k+1),_,by omega,⟨k+1,rfl,by omega,rfl⟩,?_⟩
    rw[e1,e3,h1]
    refine gc_sound [(1,1)] [] rfl ?_ ?_
    ·simp[invMinus,leTm,leTV,leSV,leSVs,rn,iv,leD,List.replicate,ro64]
    ·simp[invMinus,leHp,leBlk,leSVs,leSV,rn,iv,leD,srcOf,hget]
     intro i hi
     rw[selD_eq]
     by_cases h:i<k
     ·simp[h]
     ·obtain rfl:i=k:=by omega
      simp[dsAt]
   ·have hs:¬(bitN (valN a n) k:Int)-bitN (valN b m) k-borrowN (valN a n) (valN b m) k<0:=by simpa using hs
    have h1:borrowN (valN a n) (valN b m) (k+1)=0:=by omega
    have e1:(bitN (valN a n) k:Int)-bitN (valN b m) k-borrowN (valN a n) (valN b m) k=bitN (valN a n-valN b m) k:=by omega
    refine⟨⟨by omega,by simp,by omega⟩,n-(k+1),_,by omega,⟨k+1,rfl,by omega,rfl⟩,?_⟩
    rw[e1,e3,h1]
    refine gc_sound [(1,1)] [] rfl ?_ ?_
    ·simp[invMinus,leTm,leTV,leSV,leSVs,rn,iv,leD,List.replicate,ro64]
    ·simp[invMinus,leHp,leBlk,leSVs,leSV,rn,iv,leD,srcOf,hget]
     intro i hi
     rw[selD_eq]
     by_cases h:i<k
     ·simp[h]
     ·obtain rfl:i=k:=by omega
      simp[dsAt]
  ·have hc:¬k<n:=by simpa using hc
   obtain rfl:k=n:=by omega
   exact⟨_,⟨rfl,rfl⟩,Gc.refl _ _⟩
 ·rintro e s ⟨rfl,rfl⟩
  refine Sat.of_eq (KMinus_eq n a m b _ _ _) ⟨?_⟩
  unfold KMinus
  refine⟨by omega,by omega,⟨by omega,fun i hi=>?_⟩,?_⟩
  ·exact bitN_cell (valN a n-valN b m) (0+i)
  ·have hv:valN (fun i=>((bitN (valN a n-valN b m) (0+i):Nat):Int)) n=valN a n-valN b m:=by
    simp only[Nat.zero_add]
    refine valN_bits' ?_
    have h1:=valN_lt ha
    omega
   rw[hv];exact rfl
noncomputable def cMinusL:Ctr:=fun ss=>match ss with
 |[.d (.ro n 1 cell),.d (.ro m 1 cel2)]=>.need (n<=500000/\BitC n cell/\BitC m cel2/\valN (intCell cel2) m<=valN (intCell cell) n) (.ret (bitsSV (valN (intCell cell) n-valN (intCell cel2) m)))
 |_=>.fail
theorem cMinusL_ok:CtrOK Tryz.prog 136 cMinusL:=by
 refine ctrOK_leS C1_ok D1_ok (by kernel_rfl) (by kernel_rfl) fun ss r h=>?_
 unfold cMinusL at h
 split at h
 ·rename_i n cell m cel2
  obtain⟨⟨h1,h3,h4,h5⟩,rfl⟩:=h
  refine⟨[ro64 n (intCell cell),ro64 m (intCell cel2)],200,.nil,?_,minus_sat h1 h3.bits h4.bits h5⟩
  simp only[leSVs,leSV,ro64,leD,and_true,true_and]
  exact⟨h3.le,h4.le⟩
 ·exact h.elim
def sgnN(x y:Nat):Int:=if x<y then -1 else if x=y then 0 else 1
set_option maxHeartbeats 2000000 in
theorem cmp_sat{n:Nat}{a:Nat->Int}{m:Nat}{b:Nat->Int}(hn:n<=1000000)(hm:m<=1000000)(ha:Bits n a)(hb:Bits m b):Sat Tryz.prog (tCmpL n a m b) (·=iv (sgnN (valN a n) (valN b m))):=by
 constructor
 rw[show tCmpL n a m b=sub [] (tCmpL n a m b) from(sub_nil _).symm]
 have hnm:max n m<=1000000:=by omega
 have h0:valN a n / 2^max n m=valN b m / 2^max n m:=by
  have h1:=valN_lt ha
  have h2:=valN_lt hb
  have h3:=Nat.pow_le_pow_right (show 0<2 by omega) (Nat.le_max_left n m)
  have h4:=Nat.pow_le_pow_right (show 0<2 by omega) (Nat.le_max_right n m)
  rw[Nat.div_eq_of_lt (by omega),Nat.div_eq_of_lt (by omega)]
 refine code_satS C1_ok D1_ok (n:=200) (n0:=0) (nx:=0) (roots:=[]) (keep:=[0,1,4,5]) (drop:=[]) (h:=.nil) (c:=codeC (sub [] (tCmpL n a m b))) (st:=codeS (sub [] (tCmpL n a m b))) (k:=codeK (sub [] (tCmpL n a m b))) (body:=bodyCmp) (by kernel_rfl) (by kernel_rfl)
  (fun q s=>∃k:Nat,q=k/\k<=1000000/\valN a n / 2^k=valN b m / 2^k/\s=invCmp n a m b 0 ((k:Int)-1))
  (fun e s=>(e=.exit 0/\valN a n=valN b m/\∃r k,s=invCmp n a m b r k)\/(e=.ret/\valN a n≠valN b m/\∃k,s=invCmp n a m b (if valN a n<valN b m then -1 else 1) k))
  ⟨max n m,invCmp n a m b 0 (((max n m:Nat):Int)-1),⟨max n m,rfl,hnm,h0,rfl⟩,?_⟩ ?_ ?_
 ·refine(entA_sound (s':=invCmp n a m b 0 (w64 ((if(m:Int)>n then(m:Int) else n)-1))) (roots:=[]) (keep:=[0,1,4,5]) (drop:=[]) (nx:=0) (h:=.nil) (by kernel_rfl)).trans ?_
  have:w64 ((if(m:Int)>n then(m:Int) else n)-1)=((max n m:Nat):Int)-1:=by
   rw[w64_of]<;>split<;>omega
  rw[this];exact Gc.refl _ _
 ·rintro q s ⟨k,hq,hk,he,rfl⟩
  refine Sat.of_eq (BCmp_eq n a m b 0 _) ?_
  constructor
  unfold BCmp
  refine⟨fun hc=>?_,fun hc=>?_⟩
  ·have hc:0<k:=by simp only[decide_eq_true_eq] at hc;omega
   obtain⟨j,rfl⟩:∃j,k=j+1:=⟨k-1,by omega⟩
   rw[show(((j+1:Nat):Int)-1)=(j:Int) by omega,atB ha,atB hb]
   refine⟨⟨by omega,bitC_of ha⟩,⟨by omega,bitC_of hb⟩,fun hs=>?_,fun hs=>?_⟩
   ·have hs:bitN (valN a n) j≠bitN (valN b m) j:=by
     simp only[bne_iff_ne,ne_eq] at hs;omega
    have h1:=cmp_ne he hs
    refine⟨⟨by omega,bitC_of ha⟩,⟨by omega,bitC_of hb⟩,_,.inr ⟨rfl,fun h=>hs (by rw[h]),j,rfl⟩,?_⟩
    rw[w64_of (by rw[h1];split<;>omega) (by rw[h1];split<;>omega),h1]
    exact Gc.refl _ _
   ·have hs:bitN (valN a n) j=bitN (valN b m) j:=by
     simp only[bne_eq_false_iff_eq] at hs;omega
    refine⟨j,_,by omega,⟨j,rfl,by omega,cmp_step he hs,rfl⟩,?_⟩
    rw[w64_of (by omega) (by omega)]
    exact Gc.refl _ _
  ·have hc:k=0:=by simp only[decide_eq_false_iff_not] at hc;omega
   subst hc
   exact⟨_,.inl ⟨rfl,by simpa using he,_,_,rfl⟩,Gc.refl _ _⟩
 ·rintro e s (⟨rfl,he,r,k,rfl⟩|⟨rfl,he,k,rfl⟩)
  ·refine Sat.of_eq (KCmp_eq n a m b _ _) ⟨?_⟩
   unfold KCmp sgnN
   rw[he];simp[Tree.sat]
  ·refine Sat.of_eq (KCmp2_eq n a m b _ _) ⟨?_⟩
   unfold KCmp2 sgnN
   rw[if_neg he];exact rfl
noncomputable def cCmpL:Ctr:=fun ss=>match ss with
 |[.d (.ro n 1 cell),.d (.ro m 1 cel2)]=>.need (n<=1000000/\m<=1000000/\BitC n cell/\BitC m cel2) (.ret (iv (sgnN (valN (intCell cell) n) (valN (intCell cel2) m))))
 |_=>.fail
theorem cCmpL_ok:CtrOK Tryz.prog 135 cCmpL:=by
 refine ctrOK_leS C1_ok D1_ok (by kernel_rfl) (by kernel_rfl) fun ss r h=>?_
 unfold cCmpL at h
 split at h
 ·rename_i n cell m cel2
  obtain⟨⟨h1,h2,h3,h4⟩,rfl⟩:=h
  refine⟨[ro64 n (intCell cell),ro64 m (intCell cel2)],200,.nil,?_,cmp_sat h1 h2 h3.bits h4.bits⟩
  simp only[leSVs,leSV,ro64,leD,and_true,true_and]
  exact⟨h3.le,h4.le⟩
 ·exact h.elim
theorem ratOf_half{a b:Int}(hb:1<=b)(h1:a%2=0)(h2:b%2=0):ratOf (a / 2) (b / 2)=ratOf a b:=by
 unfold ratOf
 have e1:a=((2:Nat):Int)*(a / 2):=by omega
 have e2:b.toNat=2*(b / 2).toNat:=by omega
 rw[e2]
 conv=>rhs;rw[e1]
 exact(Rat.mkRat_mul_left (by decide)).symm
theorem tmod2(a:Int):(Int.tmod a 2=0) ↔ a%2=0:=by
 rw[<- Int.dvd_iff_tmod_eq_zero,<- Int.dvd_iff_emod_eq_zero]
theorem tdiv2{a:Int}(h:a%2=0):Int.tdiv a 2=a / 2:=Int.tdiv_eq_ediv_of_dvd (Int.dvd_of_emod_eq_zero h)
theorem make_sat{n d:Int}(hn:-4611686018427387904<=n/\n<=4611686018427387904)(hd:1<=d/\d<=4611686018427387904):Sat Tryz.prog (tMake n d) (·=.agg [iv (ratOf n d).num,iv (ratOf n d).den,iv 0]):=by
 constructor
 rw[LMake_eq];unfold LMake
 refine⟨fun hc=>by simp only[beq_iff_eq] at hc;omega,fun hc=>?_⟩
 refine code_satS C1_ok D1_ok (n:=200) (n0:=1) (nx:=1) (roots:=[]) (keep:=[4,5,6]) (drop:=[]) (h:=.nil) (c:=codeC (sub [1] (tMake n d))) (st:=codeS (sub [1] (tMake n d))) (k:=codeK (sub [1] (tMake n d))) (body:=bodyMake) (by kernel_rfl) (by kernel_rfl)
  (fun q s=>∃a b:Int,q=b.toNat/\(-4611686018427387904<=a/\a<=4611686018427387904)/\(1<=b/\b<=4611686018427387904)/\ratOf a b=ratOf n d/\s=invMake a b)
  (fun e s=>∃a b:Int,e=.exit 0/\(-4611686018427387904<=a/\a<=4611686018427387904)/\(1<=b/\b<=4611686018427387904)/\ratOf a b=ratOf n d/\s=invMake a b)
  ⟨_,_,⟨n,d,rfl,hn,hd,rfl,rfl⟩,?_⟩ ?_ ?_
 ·exact entA_sound (roots:=[]) (keep:=[4,5,6]) (drop:=[]) (nx:=1) (h:=.nil) (by kernel_rfl)
 ·rintro q s ⟨a,b,hq,ha,hb,he,rfl⟩
  refine Sat.of_eq (BMake_eq a b) ?_
  constructor
  unfold BMake
  refine⟨by decide,fun _=>by decide,fun hc=>?_,fun hc=>?_⟩
  ·simp only[Bool.and_eq_true,beq_iff_eq,bne_iff_ne,ne_eq,tmod2] at hc
   obtain⟨⟨h1,h2⟩,h3⟩:=hc
   rw[tdiv2 h1,tdiv2 h2,w64_of (n:=a / 2) (by omega) (by omega),w64_of (n:=b / 2) (by omega) (by omega)]
   exact⟨by decide,by decide,(b / 2).toNat,_,by omega,⟨a / 2,b / 2,rfl,by omega,by omega,by rw[ratOf_half hb.1 h1 h2,he],rfl⟩,Gc.refl _ _⟩
  ·exact⟨_,⟨a,b,rfl,ha,hb,he,rfl⟩,Gc.refl _ _⟩
 ·rintro e s ⟨a,b,rfl,ha,hb,he,rfl⟩
  refine Sat.of_eq (KMake_eq n d a b) ⟨?_⟩
  unfold KMake
  rw[<- he]
  have hg:((Int.gcd (a.natAbs:Int) (b.natAbs:Int):Nat):Int).toNat=a.natAbs.gcd b.toNat:=by
   rw[Int.toNat_natCast,Int.gcd_natCast_natCast];congr 1;omega
  have hgp:0<a.natAbs.gcd b.toNat:=Nat.gcd_pos_of_pos_right _ (by omega)
  have hg1:((Int.gcd (a.natAbs:Int) (b.natAbs:Int):Nat):Int)=((a.natAbs.gcd b.toNat:Nat):Int):=by rw[<- hg];omega
  obtain⟨r1,r2⟩:=ratOf_red (n:=a) (d:=b) (by omega) rfl
  have ga:=Nat.div_le_self a.natAbs (a.natAbs.gcd b.toNat)
  have gb:=Nat.div_le_self b.natAbs (a.natAbs.gcd b.toNat)
  have na:(Int.tdiv a (a.natAbs.gcd b.toNat:Nat)).natAbs=a.natAbs / a.natAbs.gcd b.toNat:=by rw[Int.natAbs_tdiv];rfl
  have nb:(Int.tdiv b (a.natAbs.gcd b.toNat:Nat)).natAbs=b.natAbs / a.natAbs.gcd b.toNat:=by rw[Int.natAbs_tdiv];rfl
  have sb:0<=Int.tdiv b (a.natAbs.gcd b.toNat:Nat):=Int.tdiv_nonneg (by omega) (by omega)
  refine⟨fun h0=>?_,fun h0=>?_⟩
  ·have h0:a=0:=by simpa using h0
   subst h0
   have:ratOf 0 b=0:=by unfold ratOf;exact Rat.zero_mkRat _
   rw[this];exact rfl
  ·have h0:a≠0:=by simpa using h0
   refine⟨fun hl=>?_,fun hl=>⟨by omega,by omega,by omega,?_⟩⟩
   ·simp only[Bool.or_eq_true,beq_iff_eq] at hl;omega
   rw[hg1,Int.toNat_natCast]
   refine⟨⟨by omega,by omega,by omega⟩,⟨by omega,by omega,by omega⟩,fun hm=>?_,fun hm=>?_⟩
   ·simp only[Bool.or_eq_true,decide_eq_true_eq] at hm;omega
   refine⟨fun hs=>?_,fun hs=>?_⟩
   ·have hneg:a<0:=by
     apply Decidable.byContradiction
     intro h
     have e1:decide (a<0)=false:=by simpa using h
     have e2:decide (b<0)=false:=by simp;omega
     rw[e1,e2] at hs;simp at hs
    have sa:Int.tdiv a (a.natAbs.gcd b.toNat:Nat)<=0:=by
     have:=Int.tdiv_nonneg (a:=-a) (b:=((a.natAbs.gcd b.toNat:Nat):Int)) (by omega) (by omega)
     rw[Int.neg_tdiv] at this;omega
    rw[w64_of (by omega) (by omega),r1,r2,<- na,<- nb]
    simp only[Tree.sat]
    rw[show 0-((Int.tdiv a (a.natAbs.gcd b.toNat:Nat)).natAbs:Int)=Int.tdiv a (a.natAbs.gcd b.toNat:Nat) by omega,show((Int.tdiv b (a.natAbs.gcd b.toNat:Nat)).natAbs:Int)=Int.tdiv b (a.natAbs.gcd b.toNat:Nat) by omega]
   ·have hpos:0<=a:=by
     apply Decidable.byContradiction
     intro h
     have e1:decide (a<0)=true:=by simp;omega
     have e2:decide (b<0)=false:=by simp;omega
     rw[e1,e2] at hs;simp at hs
    have sa:0<=Int.tdiv a (a.natAbs.gcd b.toNat:Nat):=Int.tdiv_nonneg (by omega) (by omega)
    rw[r1,r2,<- na,<- nb]
    simp only[Tree.sat]
    rw[show((Int.tdiv a (a.natAbs.gcd b.toNat:Nat)).natAbs:Int)=Int.tdiv a (a.natAbs.gcd b.toNat:Nat) by omega,show((Int.tdiv b (a.natAbs.gcd b.toNat:Nat)).natAbs:Int)=Int.tdiv b (a.natAbs.gcd b.toNat:Nat) by omega]
noncomputable def cMake:Ctr:=fun ss=>match ss with
 |[.d (.x (.int .i64 n)),.d (.x (.int .i64 d))]=>.need ((-4611686018427387904<=n/\n<=4611686018427387904)/\(1<=d/\d<=4611686018427387904)) (.ret (.agg [iv (ratOf n d).num,iv (ratOf n d).den,iv 0]))
 |_=>.fail
theorem cMake_ok:CtrOK Tryz.prog 77 cMake:=by
 refine ctrOK_leS C1_ok D1_ok (by kernel_rfl) (by kernel_rfl) fun ss r h=>?_
 unfold cMake at h
 split at h
 ·rename_i n d
  obtain⟨⟨h1,h2⟩,rfl⟩:=h
  exact⟨[iv n,iv d],200,.nil,by simp[leSVs,leSV,iv,leD],make_sat h1 h2⟩
 ·exact h.elim
noncomputable def man2:FuncId->Option Ctr:=fun k=>match k with
 |98=>some cGcd
 |99=>some cSize
 |100=>some cHalf
 |133=>some cBits
 |142=>some cTrim
 |141=>some cAt
 |134=>some cPlusL
 |135=>some cCmpL
 |136=>some cMinusL
 |77=>some cMake
 |_=>none
theorem man2_ok(k:Nat)(c:Ctr)(h:man2 k=some c):CtrOK Tryz.prog k c/\goodF Tryz.prog k=true:=by
 unfold man2 at h
 split at h<;>first|(cases h;done)|(cases h)
 ·exact⟨cGcd_ok,by kernel_rfl⟩
 ·exact⟨cSize_ok,by kernel_rfl⟩
 ·exact⟨cHalf_ok,by kernel_rfl⟩
 ·exact⟨cBits_ok,by kernel_rfl⟩
 ·exact⟨cTrim_ok,by kernel_rfl⟩
 ·exact⟨cAt_ok,by kernel_rfl⟩
 ·exact⟨cPlusL_ok,by kernel_rfl⟩
 ·exact⟨cCmpL_ok,by kernel_rfl⟩
 ·exact⟨cMinusL_ok,by kernel_rfl⟩
 ·exact⟨cMake_ok,by kernel_rfl⟩
noncomputable def C2:Ctx:=ctxN Tryz.prog man2 (fun _=>false) 200 .nil 6
theorem C2_ok:CtxOK Tryz.prog C2:=ctxN_ok mixed man2_ok 6
noncomputable def D2:Dr:=fun _=>drawn Tryz.prog C2
theorem D2_ok:DrOK Tryz.prog C2 D2:=drawn_ok C2_ok mixed
noncomputable def T2(k:Nat)(args:List SV):Tree SV:=fnT Tryz.prog C2 D2 200 (fnOf Tryz.prog k) (bodyOf Tryz.prog k) args .nil
noncomputable def tTimes(n:Nat)(a:Nat->Int)(m:Nat)(b:Nat->Int):Tree SV:=T2 132 [ro64 n a,ro64 m b]
noncomputable def LTimes(n:Nat)(a:Nat->Int)(m:Nat)(b:Nat->Int):Tree SV :=
 .need (0<=0/\True/\(0+n)*8<=140737488355328) (.code (codeC (sub [(0:Nat)] (tTimes n a m b))) (codeS (sub [(0:Nat)] (tTimes n a m b))) (codeK (sub [(0:Nat)] (tTimes n a m b))))
theorem LTimes_eq(n:Nat)(a:Nat->Int)(m:Nat)(b:Nat->Int):tTimes n a m b=LTimes n a m b:=by kernel_rfl
noncomputable def tMadeR(n d:Int):Tr SV:=autoC Tryz.prog (ctxN Tryz.prog man2 (fun _=>false) 200 .run 6) 200 40 .run [iv n,iv d]
noncomputable def LMadeR(n d:Int):Tr SV :=
 Tr.need (((-4611686018427387904:Int)<=n/\n<=(4611686018427387904:Int))/\(1:Int)<=d/\d<=(4611686018427387904:Int)) (Tr.ret (SV.agg [iv (Rat.num (ratOf n d)),iv (↑(Rat.den (ratOf n d)):Int)]))
theorem LMadeR_eq(n d:Int):tMadeR n d=LMadeR n d:=by kernel_rfl
noncomputable def invTimes(m:Nat)(b:Nat->Int)(v:Nat)(l:Nat)(c:Nat->Int)(i:Int):AS:=⟨[.unk,.ok (ro64 m b),.unk,.unk,.unk,.ok (bitsSV v),.ok (.row 3 0 0 l 1),.ok (iv i)]++List.replicate 22 .unk,[none,none,none,some (.row l 1 fun i _=>.x (.int .i64 (c i)))],4,.nil⟩
noncomputable def bodyTimes:Code:=loopN (bodyOf Tryz.prog 132) 0
noncomputable def BTimes(m:Nat)(b:Nat->Int)(v:Nat)(l:Nat)(c:Nat->Int)(i:Int):Tree (Ex×AS) :=
 .ite (decide (i<(↑m:Int)))
 (.need ((0:Int)<=i/\i<(↑m:Int))
  (.ite (b (Int.toNat i)==(1:Int))
   (.need (0+l<=l)
    (.need (0+l<=l)
     (.need
      (blen v<=500000/\l<=500000/\(BitC (blen v) fun i x=>DV.x (.int .i64 ((fun i=>(↑(bitN v i):Int)) i)))/\BitC l fun i j=>(fun i x=>DV.x (.int .i64 (c i))) ((0:Nat)+i) j)
      (.need (1<=1/\True/\(1+l)*8<=140737488355328)
       (.ret
        (.normal,
         {
          tm :=
           [.unk,.ok (SV.d (DV.ro m 1 fun i x=>DV.x (.int .i64 (b i)))),.unk,.unk,.unk,
            .ok
             (SV.d
              (DV.ro (blen (valN (fun i=>(↑(bitN v i):Int)) (blen v)+valN (fun i=>c ((0:Nat)+i)) l)) 1 fun i x =>
               DV.x (.int .i64 (↑(bitN (valN (fun i=>(↑(bitN v i):Int)) (blen v)+valN (fun i=>c ((0:Nat)+i)) l) i):Int)))),
            .ok (SV.row 3 0 0 (1+l) 1),.ok (iv (w64 (i+(1:Int)))),.unk,.unk,.unk,.unk,.unk,.unk,.unk,.unk,.unk,.unk,.unk,.unk,
            .unk,.unk,.unk,.unk,.unk,.unk,.unk,.unk,.unk,.unk],
          hp :=
           [none,none,none,
            some
             (.row (1+l) 1 fun a b =>
              selD (decide (a<1)) (dsAt [DV.x (.int .i64 (0:Int))] (0+(0+a)*1+b)) (DV.x (.int .i64 (c ((0:Nat)+(a-(1:Nat)))))))],
          next:=4,hint:=.nil }))))))
   (.need (1<=1/\0+l<=l/\(1+l)*8<=140737488355328)
    (.ret
     (.normal,
      {
       tm :=
        [.unk,.ok (SV.d (DV.ro m 1 fun i x=>DV.x (.int .i64 (b i)))),.unk,.unk,.unk,.ok (SV.d (DV.ro (blen v) 1 fun i x=>DV.x (.int .i64 (↑(bitN v i):Int)))),
         .ok (SV.row 3 0 0 (1+l) 1),.ok (iv (w64 (i+(1:Int)))),.unk,.unk,.unk,.unk,.unk,.unk,.unk,.unk,.unk,.unk,.unk,.unk,.unk,
         .unk,.unk,.unk,.unk,.unk,.unk,.unk,.unk,.unk],
       hp :=
        [none,none,none,
         some
          (.row (1+l) 1 fun a b =>
           selD (decide (a<1)) (dsAt [DV.x (.int .i64 (0:Int))] (0+(0+a)*1+b)) (DV.x (.int .i64 (c ((0:Nat)+(a-(1:Nat)))))))],
       next:=4,hint:=.nil })))))
 (.ret
  (.exit 0,
   {
    tm :=
     [.unk,.ok (SV.d (DV.ro m 1 fun i x=>DV.x (.int .i64 (b i)))),.unk,.unk,.unk,.ok (SV.d (DV.ro (blen v) 1 fun i x=>DV.x (.int .i64 (↑(bitN v i):Int)))),
      .ok (SV.row 3 0 0 l 1),.ok (iv i),.unk,.unk,.unk,.unk,.unk,.unk,.unk,.unk,.unk,.unk,.unk,.unk,.unk,.unk,.unk,.unk,.unk,.unk,
      .unk,.unk,.unk,.unk],
    hp:=[none,none,none,some (.row l 1 fun i x=>DV.x (.int .i64 (c i)))],next:=4,hint:=.nil }))
theorem BTimes_eq(m:Nat)(b:Nat->Int)(v:Nat)(l:Nat)(c:Nat->Int)(i:Int):cutT 3 [(.slot 6,3)] [1,5,6,7] [] 4 .nil (exec Tryz.prog C2 D2 200 bodyTimes (invTimes m b v l c i))=BTimes m b v l c i:=by kernel_rfl
noncomputable def KTimes(n:Nat)(a:Nat->Int)(m:Nat)(b:Nat->Int)(v:Nat)(l:Nat)(c:Nat->Int)(i:Int):Tree SV :=
 .ret (SV.d (DV.ro (blen v) 1 fun i x=>DV.x (.int .i64 (↑(bitN v i):Int))))
theorem KTimes_eq(n:Nat)(a:Nat->Int)(m:Nat)(b:Nat->Int)(v:Nat)(l:Nat)(c:Nat->Int)(i:Int):codeK (sub [0] (tTimes n a m b)) (.exit 0) (invTimes m b v l c i)=KTimes n a m b v l c i:=by kernel_rfl
noncomputable def entT{α:Type}(ls:List Nat)(n0:Nat)(roots:List (Root×Nat))(keep drop:List Nat)(nx:Nat)(h:Hint)(t:Tree α):Tree AS :=
 needT (frzP ls (ups (codeS t) n0)) (match frcO (gcA n0 roots keep drop nx h (frzSt ls (ups (codeS t) n0))) with|some s=>.ret s|none=>.fail)
noncomputable def ITimes(n:Nat)(a:Nat->Int)(m:Nat)(b:Nat->Int):Tree AS :=
 .need (0<=0)
 (.need (0<=0)
  (.ret
   {
    tm :=
     [.unk,.ok (SV.d (DV.ro m 1 fun i x=>DV.x (.int .i64 (b i)))),.unk,.unk,.unk,.ok (SV.d (DV.ro 0 1 fun i j=>dsAt [] (0+(0+i)*1+j))),
      .ok (SV.row 3 0 0 (0+n) 1),.ok (iv (0:Int)),.unk,.unk,.unk,.unk,.unk,.unk,.unk,.unk,.unk,.unk,.unk,.unk,.unk,.unk,.unk,
      .unk,.unk,.unk,.unk,.unk,.unk,.unk],
    hp:=[none,none,none,some (.row (0+n) 1 fun a_1 b=>DV.x (.int .i64 (a (a_1-(0:Nat)))))],next:=4,hint:=.nil }))
theorem ITimes_eq(n:Nat)(a:Nat->Int)(m:Nat)(b:Nat->Int):entT [0] 3 [(.slot 6,3)] [1,5,6,7] [0,1] 4 .nil (sub [0] (tTimes n a m b))=ITimes n a m b:=by kernel_rfl
theorem entT_gc{α:Type}{P:Program}{ls:List Nat}{n0:Nat}{roots:List (Root×Nat)}{keep drop:List Nat}{nx:Nat}{h:Hint}{t:Tree α}{X:AS}(hs:Sat P (entT ls n0 roots keep drop nx h t) (Is X)):Gc n0 (ups (codeS t) n0) X:=by
 obtain⟨hps,hs⟩:=needT_sat hs.ok
 split at hs
 ·rename_i s he
  rw[frcO_eq] at he
  have hs:s=X:=hs
  subst hs
  exact fun p μ0 a w h0 hsim=>gcA_sound he p μ0 a w h0 (frz_sim P hsim hps)
 ·exact hs.elim
def shiftC(c:Nat->Int)(j:Nat):Int:=if j<1 then 0 else c (j-1)
theorem valN_shift{c:Nat->Int}:∀l,valN (shiftC c) (l+1)=2*valN c l
 |0=>by simp[valN,shiftC]
 |l+1=>by
  rw[valN,valN_shift l]
  conv=>rhs;rw[valN]
  simp only[shiftC]
  rw[if_neg (by omega),Nat.add_sub_cancel,Nat.pow_succ,Nat.mul_add,Nat.mul_comm (2^l) 2,<- Nat.mul_assoc,<- Nat.mul_assoc,Nat.mul_comm _ 2]
theorem bits_shift{c:Nat->Int}{l:Nat}(h:Bits l c):Bits (l+1) (shiftC c):=fun i hi=>by
 unfold shiftC
 split
 ·exact .inl rfl
 ·exact h _ (by omega)
theorem invTimes_gc{m:Nat}{b:Nat->Int}{s:SV}{l:Nat}{c':Nat->Nat->DV}{c:Nat->Int}{i:Int}{v:Nat}(hs:leSV 3 [(3,3)] [] s (bitsSV v))(h:∀i j,i<l->j<1->c' i j=.x (.int .i64 (c i))) :
  Gc 3 ⟨[.unk,.ok (ro64 m b),.unk,.unk,.unk,.ok s,.ok (.row 3 0 0 l 1),.ok (iv i)]++List.replicate 22 .unk,[none,none,none,some (.row l 1 c')],4,.nil⟩ (invTimes m b v l c i):=by
 refine gc_sound [(3,3)] [] rfl ?_ ?_
 ·simp[invTimes,leTm,leTV,leSV,leSVs,rn,iv,leD,List.replicate,ro64]
  exact hs
 ·simp[invTimes,leHp,leBlk,leSVs,leSV,rn,iv,leD,srcOf,hget]
  intro i hi;exact h i 0 hi (by omega)
theorem le_bits{v w:Nat}(h:v=w){n0:Nat}{ρ:List (Nat×Nat)}:leSV n0 ρ [] (bitsSV v) (bitsSV w):=by
 subst h;simp[bitsSV,ro64,leSV,leD]
theorem times_sat{n:Nat}{a:Nat->Int}{m:Nat}{b:Nat->Int}(hn:n<=1000)(hm:m<=1000)(ha:Bits n a)(hb:Bits m b):Sat Tryz.prog (tTimes n a m b) (·=bitsSV (valN a n*valN b m)):=by
 constructor
 rw[LTimes_eq];unfold LTimes
 refine⟨⟨by omega,trivial,by omega⟩,?_⟩
 refine code_satS C2_ok D2_ok (n:=200) (n0:=3) (nx:=4) (roots:=[(.slot 6,3)]) (keep:=[1,5,6,7]) (drop:=[]) (h:=.nil) (c:=codeC (sub [0] (tTimes n a m b))) (st:=codeS (sub [0] (tTimes n a m b))) (k:=codeK (sub [0] (tTimes n a m b))) (body:=bodyTimes) (by kernel_rfl) (by kernel_rfl)
  (fun q s=>∃(k l:Nat) (c:Nat->Int),q=m-k/\k<=m/\l=n+k/\Bits l c/\valN c l=valN a n*2^k/\s=invTimes m b (valN a n*(valN b m%2^k)) l c k)
  (fun e s=>e=.exit 0/\∃l c i,s=invTimes m b (valN a n*valN b m) l c i)
  ⟨_,_,⟨0,n,a,rfl,by omega,rfl,ha,by simp,rfl⟩,?_⟩ ?_ ?_
 ·refine(entT_gc (P:=Tryz.prog) (ls:=[0]) (n0:=3) (roots:=[(.slot 6,3)]) (keep:=[1,5,6,7]) (drop:=[0,1]) (nx:=4) (h:=.nil) (t:=sub [0] (tTimes n a m b)) (X:=⟨[.unk,.ok (ro64 m b),.unk,.unk,.unk,.ok (.d (.ro 0 1 fun i j=>dsAt [] (0+(0+i)*1+j))),.ok (.row 3 0 0 (0+n) 1),.ok (iv 0)]++List.replicate 22 .unk,[none,none,none,some (.row (0+n) 1 fun i j=>.x (.int .i64 (a (i-0))))],4,.nil⟩) (Sat.of_eq (ITimes_eq n a m b) ⟨by unfold ITimes;exact⟨by omega,by omega,rfl⟩⟩)).trans ?_
  rw[Nat.zero_add,Nat.pow_zero,Nat.mod_one,Nat.mul_zero]
  refine invTimes_gc ?_ fun i j hi hj=>rfl
  simp[bitsSV,ro64,leSV,leD,blen_zero]
 ·rintro q s ⟨k,l,c,hq,hk,hl,hc,hv,rfl⟩
  refine Sat.of_eq (BTimes_eq m b _ l c _) ?_
  constructor
  unfold BTimes
  have e3:w64 ((k:Int)+1)=((k+1:Nat):Int):=by rw[w64_of (by omega) (by omega)];omega
  have hva:=valN_lt ha
  have hvb:=valN_lt hb
  have hvl:valN a n*(valN b m%2^k)<2^(n+m):=by
   rw[Nat.pow_add]
   have h1:valN b m%2^k<=valN b m:=Nat.mod_le _ _
   exact Nat.mul_lt_mul_of_lt_of_le hva (by omega) (Nat.pow_pos (by omega))
  have hbl:blen (valN a n*(valN b m%2^k))<=2000:=Nat.le_trans (blen_le.2 hvl) (by omega)
  have hcell:∀i j,i<1+l->j<1->selD (decide (i<1)) (dsAt [DV.x (Value.int .i64 0)] (0+(0+i)*1+j)) (DV.x (Value.int .i64 (c (0+(i-1)))))=.x (.int .i64 (shiftC c i)):=by
   intro i j hi hj
   obtain rfl:j=0:=by omega
   rw[selD_eq]
   by_cases h:i<1
   ·obtain rfl:i=0:=by omega
    rfl
   ·simp[shiftC,h]
  have hbit:=bitN_valN hb (i:=k)
  have hms:=mul_step (valN a n) (valN b m) k
  have hsh:valN (shiftC c) (1+l)=valN a n*2^(k+1):=by
   rw[Nat.add_comm,valN_shift,hv,Nat.pow_succ];simp[Nat.mul_comm,Nat.mul_assoc,Nat.mul_left_comm]
  have hbs:Bits (1+l) (shiftC c):=by rw[Nat.add_comm];exact bits_shift hc
  rw[Int.toNat_natCast,e3]
  refine⟨fun hlt=>?_,fun hlt=>?_⟩
  ·have hlt:k<m:=by simpa using hlt
   have hbit:=hbit hlt
   refine⟨by omega,fun h1=>?_,fun h1=>?_⟩
   ·have h1:b k=1:=by simpa using h1
    rw[h1] at hbit
    have hbit:bitN (valN b m) k=1:=by omega
    refine⟨by omega,by omega,⟨by omega,by omega,fun i hi=>bitN_cell _ i,?_⟩,⟨by omega,trivial,by omega⟩,m-(k+1),_,by omega,⟨k+1,1+l,shiftC c,rfl,hlt,by omega,hbs,hsh,rfl⟩,?_⟩
    ·simp only[Nat.zero_add];exact bitC_of hc
    ·refine invTimes_gc (s:=bitsSV _) (le_bits ?_) hcell
     rw[valN_bits,hms,hbit,Nat.one_mul,<- hv]
     simp only[Nat.zero_add]
   ·have h1:¬b k=1:=by simpa using h1
    have hbit:bitN (valN b m) k=0:=by
     rcases hb k hlt with h|h
     ·omega
     ·exact absurd h h1
    refine⟨⟨by omega,by omega,by omega⟩,m-(k+1),_,by omega,⟨k+1,1+l,shiftC c,rfl,hlt,by omega,hbs,hsh,rfl⟩,?_⟩
    refine invTimes_gc (s:=bitsSV _) (le_bits ?_) hcell
    rw[hms,hbit,Nat.zero_mul,Nat.add_zero]
  ·have hlt:¬k<m:=by simpa using hlt
   obtain rfl:k=m:=by omega
   refine⟨_,⟨rfl,l,c,(k:Int),rfl⟩,?_⟩
   rw[Nat.mod_eq_of_lt hvb]
   exact Gc.refl _ _
 ·rintro e s ⟨rfl,l,c,i,rfl⟩
  exact Sat.of_eq (KTimes_eq n a m b _ l c i) ⟨rfl⟩
noncomputable def cTimesL:Ctr:=fun ss=>match ss with
 |[.d (.ro n 1 cell),.d (.ro m 1 cel2)]=>.need (n<=1000/\m<=1000/\BitC n cell/\BitC m cel2) (.ret (bitsSV (valN (intCell cell) n*valN (intCell cel2) m)))
 |_=>.fail
theorem cTimesL_ok:CtrOK Tryz.prog 132 cTimesL:=by
 refine ctrOK_leS C2_ok D2_ok (by kernel_rfl) (by kernel_rfl) fun ss r h=>?_
 unfold cTimesL at h
 split at h
 ·rename_i n cell m cel2
  obtain⟨⟨h1,h2,h3,h4⟩,rfl⟩:=h
  refine⟨[ro64 n (intCell cell),ro64 m (intCell cel2)],200,.nil,?_,times_sat h1 h2 h3.bits h4.bits⟩
  simp only[leSVs,leSV,ro64,leD,and_true,true_and]
  exact⟨h3.le,h4.le⟩
 ·exact h.elim
noncomputable def cMade:Ctr:=fun ss=>match ss with
 |[.d (.x (.int .i64 n)),.d (.x (.int .i64 d))]=>.need ((-4611686018427387904<=n/\n<=4611686018427387904)/\(1<=d/\d<=4611686018427387904)) (.ret (.agg [iv (ratOf n d).num,iv (ratOf n d).den]))
 |_=>.fail
theorem C2r_ok:CtxOK Tryz.prog (ctxN Tryz.prog man2 (fun _=>false) 200 .run 6):=ctxN_ok mixed man2_ok 6
theorem cMade_ok:CtrOK Tryz.prog 40 cMade:=(autoC_ok C2r_ok mixed 200 40 .run).mono fun ss r h=>by
 unfold cMade at h
 split at h
 ·rename_i n d
  show(tMadeR n d).ev r
  rw[LMadeR_eq];exact h
 ·exact h.elim
noncomputable def man3:FuncId->Option Ctr:=fun k=>match k with
 |98=>some cGcd
 |99=>some cSize
 |133=>some cBits
 |134=>some cPlusL
 |135=>some cCmpL
 |136=>some cMinusL
 |77=>some cMake
 |132=>some cTimesL
 |40=>some cMade
 |_=>none
theorem man3_ok(k:Nat)(c:Ctr)(h:man3 k=some c):CtrOK Tryz.prog k c/\goodF Tryz.prog k=true:=by
 unfold man3 at h
 split at h<;>first|(cases h;done)|(cases h)
 ·exact⟨cGcd_ok,by kernel_rfl⟩
 ·exact⟨cSize_ok,by kernel_rfl⟩
 ·exact⟨cBits_ok,by kernel_rfl⟩
 ·exact⟨cPlusL_ok,by kernel_rfl⟩
 ·exact⟨cCmpL_ok,by kernel_rfl⟩
 ·exact⟨cMinusL_ok,by kernel_rfl⟩
 ·exact⟨cMake_ok,by kernel_rfl⟩
 ·exact⟨cTimesL_ok,by kernel_rfl⟩
 ·exact⟨cMade_ok,by kernel_rfl⟩
noncomputable def C3:Ctx:=ctxN Tryz.prog man3 (fun _=>false) 200 .nil 6
theorem C3_ok:CtxOK Tryz.prog C3:=ctxN_ok mixed man3_ok 6
noncomputable def D3:Dr:=fun _=>drawn Tryz.prog C3
theorem D3_ok:DrOK Tryz.prog C3 D3:=drawn_ok C3_ok mixed
noncomputable def T3(k:Nat)(args:List SV):Tree SV:=fnT Tryz.prog C3 D3 200 (fnOf Tryz.prog k) (bodyOf Tryz.prog k) args .nil
noncomputable def LProd(a b:Int):Tree SV :=
 .need ((-9223372036854775807:Int)<=a/\a<=(9223372036854775807:Int))
 (.need ((0:Int)<=(↑(Int.natAbs a):Int)/\(↑(Int.natAbs a):Int)<=(9223372036854775807:Int))
  (.need ((-9223372036854775807:Int)<=b/\b<=(9223372036854775807:Int))
   (.need ((0:Int)<=(↑(Int.natAbs b):Int)/\(↑(Int.natAbs b):Int)<=(9223372036854775807:Int))
    (.need
     (blen (Int.toNat (↑(Int.natAbs a):Int))<=1000 /\
      blen (Int.toNat (↑(Int.natAbs b):Int))<=1000 /\
       (BitC (blen (Int.toNat (↑(Int.natAbs a):Int))) fun i x=>DV.x (.int .i64 ((fun i=>(↑(bitN (Int.toNat (↑(Int.natAbs a):Int)) i):Int)) i))) /\
        BitC (blen (Int.toNat (↑(Int.natAbs b):Int))) fun i x=>DV.x (.int .i64 ((fun i=>(↑(bitN (Int.toNat (↑(Int.natAbs b):Int)) i):Int)) i)))
     (.ret
      (SV.agg
       [bv !decide (a<(0:Int))==decide (b<(0:Int)),
        SV.d
         (DV.ro
          (blen
           (valN (fun i=>(↑(bitN (Int.toNat (↑(Int.natAbs a):Int)) i):Int)) (blen (Int.toNat (↑(Int.natAbs a):Int))) *
            valN (fun i=>(↑(bitN (Int.toNat (↑(Int.natAbs b):Int)) i):Int)) (blen (Int.toNat (↑(Int.natAbs b):Int)))))
          1 fun i x =>
          DV.x
           (.int .i64
            (↑(bitN
               (valN (fun i=>(↑(bitN (Int.toNat (↑(Int.natAbs a):Int)) i):Int)) (blen (Int.toNat (↑(Int.natAbs a):Int))) *
                valN (fun i=>(↑(bitN (Int.toNat (↑(Int.natAbs b):Int)) i):Int)) (blen (Int.toNat (↑(Int.natAbs b):Int))))
               i) :
             Int)))]))))))
theorem LProd_eq(a b:Int):T3 128 [iv a,iv b]=LProd a b:=by kernel_rfl
noncomputable def LSum(s:Bool)(n:Nat)(a:Nat->Int)(t:Bool)(m:Nat)(b:Nat->Int):Tree SV :=
 .ite (s==t)
 (.need (n<=500000/\m<=500000/\(BitC n fun i x=>DV.x (.int .i64 (a i)))/\BitC m fun i x=>DV.x (.int .i64 (b i)))
  (.ret (SV.agg [bv s,SV.d (DV.ro (blen (valN (fun i=>a i) n+valN (fun i=>b i) m)) 1 fun i x=>DV.x (.int .i64 (↑(bitN (valN (fun i=>a i) n+valN (fun i=>b i) m) i):Int)))])))
 (.need (n<=1000000/\m<=1000000/\(BitC n fun i x=>DV.x (.int .i64 (a i)))/\BitC m fun i x=>DV.x (.int .i64 (b i)))
  (.ite (decide (sgnN (valN (fun i=>a i) n) (valN (fun i=>b i) m)>=(0:Int)))
   (.need (n<=500000/\(BitC n fun i x=>DV.x (.int .i64 (a i)))/\(BitC m fun i x=>DV.x (.int .i64 (b i)))/\valN (fun i=>b i) m<=valN (fun i=>a i) n)
    (.ret (SV.agg [bv s,SV.d (DV.ro (blen (valN (fun i=>a i) n-valN (fun i=>b i) m)) 1 fun i x=>DV.x (.int .i64 (↑(bitN (valN (fun i=>a i) n-valN (fun i=>b i) m) i):Int)))])))
   (.need (m<=500000/\(BitC m fun i x=>DV.x (.int .i64 (b i)))/\(BitC n fun i x=>DV.x (.int .i64 (a i)))/\valN (fun i=>a i) n<=valN (fun i=>b i) m)
    (.ret (SV.agg [bv t,SV.d (DV.ro (blen (valN (fun i=>b i) m-valN (fun i=>a i) n)) 1 fun i x=>DV.x (.int .i64 (↑(bitN (valN (fun i=>b i) m-valN (fun i=>a i) n) i):Int)))])))))
theorem LSum_eq(s:Bool)(n:Nat)(a:Nat->Int)(t:Bool)(m:Nat)(b:Nat->Int):T3 129 [.agg [bv s,ro64 n a],.agg [bv t,ro64 m b]]=LSum s n a t m b:=by kernel_rfl
theorem blen63{v:Nat}(h:v<=9223372036854775807):blen v<=63:=blen_le.2 (by omega)
theorem bitC_bits(v n:Nat):BitC n fun i x=>.x (.int .i64 (bitN v i:Int)):=fun i _=>bitN_cell v i
noncomputable def cProd:Ctr:=fun ss=>match ss with
 |[.d (.x (.int .i64 a)),.d (.x (.int .i64 b))]=>.need ((-9223372036854775807<=a/\a<=9223372036854775807)/\(-9223372036854775807<=b/\b<=9223372036854775807)) (.ret (.agg [bv (!(decide (a<0)==decide (b<0))),bitsSV (a.natAbs*b.natAbs)]))
 |_=>.fail
theorem cProd_ok:CtrOK Tryz.prog 128 cProd:=by
 refine ctrOK_leS C3_ok D3_ok (by kernel_rfl) (by kernel_rfl) fun ss r h=>?_
 unfold cProd at h
 split at h
 ·rename_i a b
  obtain⟨⟨h1,h2⟩,rfl⟩:=h
  refine⟨[iv a,iv b],200,.nil,by simp[leSVs,leSV,iv,leD],Sat.of_eq (LProd_eq a b) ⟨?_⟩⟩
  unfold LProd
  have b1:=blen63 (v:=(a.natAbs:Int).toNat) (by omega)
  have b2:=blen63 (v:=(b.natAbs:Int).toNat) (by omega)
  refine⟨h1,by omega,h2,by omega,⟨by omega,by omega,bitC_bits _ _,bitC_bits _ _⟩,?_⟩
  rw[valN_bits,valN_bits,Int.toNat_natCast,Int.toNat_natCast]
  exact rfl
 ·exact h.elim
def sN(s:Bool)(x:Nat)(t:Bool)(y:Nat):Bool:=if s=t then s else if y<=x then s else t
def sV(s:Bool)(x:Nat)(t:Bool)(y:Nat):Nat:=if s=t then x+y else if y<=x then x-y else y-x
def sg(s:Bool)(x:Nat):Int:=if s=true then -(x:Int) else x
theorem sum_sg(s:Bool)(x:Nat)(t:Bool)(y:Nat):sV s x t y=(sg s x+sg t y).natAbs/\(sV s x t y≠0->sN s x t y=decide (sg s x+sg t y<0))/\sg (sN s x t y) (sV s x t y)=sg s x+sg t y:=by
 unfold sN sV sg
 by_cases h:y<=x<;>cases s<;>cases t<;>simp[h]<;>omega
theorem sgn_ge{x y:Nat}:y<=x ↔ sgnN x y>=0:=by
 unfold sgnN
 split
 ·omega
 ·split<;>omega
noncomputable def cSum:Ctr:=fun ss=>match ss with
 |[.agg [.d (.x (.bool s)),.d (.ro n 1 cell)],.agg [.d (.x (.bool t)),.d (.ro m 1 cel2)]]=>.need (n<=500000/\m<=500000/\BitC n cell/\BitC m cel2) (.ret (.agg [bv (sN s (valN (intCell cell) n) t (valN (intCell cel2) m)),bitsSV (sV s (valN (intCell cell) n) t (valN (intCell cel2) m))]))
 |_=>.fail
theorem cSum_ok:CtrOK Tryz.prog 129 cSum:=by
 refine ctrOK_leS C3_ok D3_ok (by kernel_rfl) (by kernel_rfl) fun ss r h=>?_
 unfold cSum at h
 split at h
 ·rename_i s n cell t m cel2
  obtain⟨⟨h1,h2,h3,h4⟩,rfl⟩:=h
  refine⟨[.agg [bv s,ro64 n (intCell cell)],.agg [bv t,ro64 m (intCell cel2)]],200,.nil,?_,Sat.of_eq (LSum_eq s n (intCell cell) t m (intCell cel2)) ⟨?_⟩⟩
  ·simp only[leSVs,leSV,ro64,bv,leD,and_true,true_and]
   exact⟨h3.le,h4.le⟩
  have c1:=bitC_of h3.bits
  have c2:=bitC_of h4.bits
  unfold LSum
  refine⟨fun hc=>⟨⟨h1,h2,c1,c2⟩,?_⟩,fun hc=>⟨⟨by omega,by omega,c1,c2⟩,fun hs=>?_,fun hs=>?_⟩⟩
  ·have hc:s=t:=by simpa using hc
   simp only[Tree.sat,sN,sV,hc,if_true];exact rfl
  ·have hc:s≠t:=by simpa using hc
   have hs:valN (intCell cel2) m<=valN (intCell cell) n:=sgn_ge.2 (of_decide_eq_true hs)
   refine⟨⟨h1,c1,c2,hs⟩,?_⟩
   simp only[Tree.sat,sN,sV,if_neg hc,if_pos hs];exact rfl
  ·have hc:s≠t:=by simpa using hc
   have hs:¬valN (intCell cel2) m<=valN (intCell cell) n:=fun h=>of_decide_eq_false hs (sgn_ge.1 h)
   refine⟨⟨h2,c2,c1,Nat.le_of_lt (Nat.lt_of_not_le hs)⟩,?_⟩
   simp only[Tree.sat,sN,sV,if_neg hc,if_neg hs];exact rfl
 ·exact h.elim
noncomputable def man4:FuncId->Option Ctr:=fun k=>match k with
 |98=>some cGcd
 |99=>some cSize
 |133=>some cBits
 |132=>some cTimesL
 |128=>some cProd
 |129=>some cSum
 |_=>none
theorem man4_ok(k:Nat)(c:Ctr)(h:man4 k=some c):CtrOK Tryz.prog k c/\goodF Tryz.prog k=true:=by
 unfold man4 at h
 split at h<;>first|(cases h;done)|(cases h)
 ·exact⟨cGcd_ok,by kernel_rfl⟩
 ·exact⟨cSize_ok,by kernel_rfl⟩
 ·exact⟨cBits_ok,by kernel_rfl⟩
 ·exact⟨cTimesL_ok,by kernel_rfl⟩
 ·exact⟨cProd_ok,by kernel_rfl⟩
 ·exact⟨cSum_ok,by kernel_rfl⟩
noncomputable def C4:Ctx:=ctxN Tryz.prog man4 (fun _=>false) 200 .nil 6
theorem C4_ok:CtxOK Tryz.prog C4:=ctxN_ok mixed man4_ok 6
noncomputable def D4:Dr:=fun _=>drawn Tryz.prog C4
theorem D4_ok:DrOK Tryz.prog C4 D4:=drawn_ok C4_ok mixed
noncomputable def T4(k:Nat)(args:List SV):Tree SV:=fnT Tryz.prog C4 D4 200 (fnOf Tryz.prog k) (bodyOf Tryz.prog k) args .nil
noncomputable def LCmpR(a b c d:Int):Tree SV :=
 .need (((-9223372036854775807:Int)<=a/\a<=(9223372036854775807:Int))/\(-9223372036854775807:Int)<=d/\d<=(9223372036854775807:Int))
 (.need (((-9223372036854775807:Int)<=c/\c<=(9223372036854775807:Int))/\(-9223372036854775807:Int)<=b/\b<=(9223372036854775807:Int))
  (.need
   (blen (Int.natAbs a*Int.natAbs d)<=500000 /\
    blen (Int.natAbs c*Int.natAbs b)<=500000 /\
     (BitC (blen (Int.natAbs a*Int.natAbs d)) fun i x=>DV.x (.int .i64 ((fun i=>(↑(bitN (Int.natAbs a*Int.natAbs d) i):Int)) i))) /\
      BitC (blen (Int.natAbs c*Int.natAbs b)) fun i x=>DV.x (.int .i64 ((fun i=>(↑(bitN (Int.natAbs c*Int.natAbs b) i):Int)) i)))
   (.ite
    ((↑(blen
        (sV (!decide (a<(0:Int))==decide (d<(0:Int))) (valN (fun i=>(↑(bitN (Int.natAbs a*Int.natAbs d) i):Int)) (blen (Int.natAbs a*Int.natAbs d))) (!!decide (c<(0:Int))==decide (b<(0:Int)))
         (valN (fun i=>(↑(bitN (Int.natAbs c*Int.natAbs b) i):Int)) (blen (Int.natAbs c*Int.natAbs b))))) :
      Int) ==
     (0:Int))
    (.ret (iv (0:Int)))
    (.ite
     (sN (!decide (a<(0:Int))==decide (d<(0:Int))) (valN (fun i=>(↑(bitN (Int.natAbs a*Int.natAbs d) i):Int)) (blen (Int.natAbs a*Int.natAbs d))) (!!decide (c<(0:Int))==decide (b<(0:Int)))
      (valN (fun i=>(↑(bitN (Int.natAbs c*Int.natAbs b) i):Int)) (blen (Int.natAbs c*Int.natAbs b))))
     (.ret (iv (-1:Int))) (.ret (iv (1:Int)))))))
theorem LCmpR_eq(a b c d:Int):T4 121 [.agg [iv a,iv b],.agg [iv c,iv d]]=LCmpR a b c d:=by kernel_rfl
noncomputable def LValR(a b:Int):Tree SV :=
 .need
 ((decide (b>=(1:Int))&&decide (b<=(4611686018427387904:Int))&&decide (a>=(-4611686018427387904:Int))&&decide (a<=(4611686018427387904:Int)))=true->(-9223372036854775807:Int)<=a/\a<=(9223372036854775807:Int))
 (.need ((decide (b>=(1:Int))&&decide (b<=(4611686018427387904:Int))&&decide (a>=(-4611686018427387904:Int))&&decide (a<=(4611686018427387904:Int)))=true->(0:Int)<=(↑(Int.natAbs a):Int)/\(0:Int)<=b)
  (.ret (bv (decide (b>=(1:Int))&&decide (b<=(4611686018427387904:Int))&&decide (a>=(-4611686018427387904:Int))&&decide (a<=(4611686018427387904:Int))&&(↑(Int.gcd (↑(Int.natAbs a):Int) b):Int)==(1:Int)))))
theorem LValR_eq(a b:Int):T4 112 [.agg [iv a,iv b]]=LValR a b:=by kernel_rfl
theorem valN_cell(v:Nat):valN (intCell fun i x=>.x (.int .i64 (bitN v i:Int))) (blen v)=v:=valN_bits v
theorem nat_neg(x:Nat):decide ((x:Int)<0)=false:=by simp
theorem natAbs_cast(x:Nat):Int.natAbs (x:Int)=x:=rfl
theorem blen_two{x y:Nat}(hx:x<=4611686018427387904)(hy:y<=4611686018427387904):blen (x*y)<=500000:=by
 have h1:x*y<=4611686018427387904*4611686018427387904:=Nat.mul_le_mul hx hy
 have:blen (x*y)<=130:=blen_le.2 (by omega)
 omega
theorem blen0{v:Nat}:(((blen v:Nat):Int)==0)=decide (v=0):=by
 by_cases h:v=0
 ·subst h;simp[blen_zero]
 ·have:blen v≠0:=by rw[blen_pos h];omega
  rw[decide_eq_false h];simp;omega
def fitsR(r:Rat):Prop:=r.num.natAbs<=4611686018427387904/\r.den<=4611686018427387904
instance (r : Rat) : Decidable (fitsR r) := by unfold fitsR; infer_instance
def rN(r:Rat):Int:=if fitsR r then r.num else 0
def rD(r:Rat):Int:=if fitsR r then r.den else 0
def rE(r:Rat):Int:=if fitsR r then 0 else 2
def cmpR(p q:Rat):Int:=if p<q then -1 else if p=q then 0 else 1
theorem sg_prod(a:Int)(m:Nat):sg (!(decide (a<0)==false)) (a.natAbs*m)=a*m:=by
 unfold sg
 by_cases h:a<0
 ·have:a=-(a.natAbs:Int):=by omega
  simp only[h,decide_true]
  rw[if_pos (by rfl),Int.natCast_mul]
  conv=>rhs;rw[this]
  rw[Int.neg_mul]
 ·have:a=(a.natAbs:Int):=by omega
  simp only[h,decide_false]
  rw[if_neg (by decide),Int.natCast_mul,<- this]
theorem sg_neg(s:Bool)(x:Nat):sg (!s) x=- sg s x:=by cases s<;>simp[sg]
theorem sg_prod2(a:Int)(m:Nat):sg (!!(decide (a<0)==false)) (a.natAbs*m)=-(a*m):=by rw[sg_neg,sg_prod]
theorem cmpR_sat(p q:Rat)(hp:fitsR p)(hq:fitsR q):Sat Tryz.prog (T4 121 [.agg [iv p.num,iv p.den],.agg [iv q.num,iv q.den]]) (·=iv (cmpR p q)):=by
 obtain⟨p1,p2⟩:=hp
 obtain⟨q1,q2⟩:=hq
 constructor
 rw[LCmpR_eq];unfold LCmpR
 simp only[valN_bits,valN_cell,nat_neg,natAbs_cast,blen0]
 obtain⟨s1,s2,s3⟩:=sum_sg (!(decide (p.num<0)==false)) (p.num.natAbs*q.den) (!!(decide (q.num<0)==false)) (q.num.natAbs*p.den)
 rw[sg_prod2,sg_prod] at s1 s2
 obtain⟨hlt,heq⟩:=rat_cmp p q
 refine⟨by omega,by omega,⟨blen_two p1 q2,blen_two q1 p2,bitC_bits _ _,bitC_bits _ _⟩,fun hc=>?_,fun hc=>⟨fun hs=>?_,fun hs=>?_⟩⟩
 ·have hc:=of_decide_eq_true hc
  rw[hc] at s1
  have:p=q:=heq.2 (by omega)
  rw[cmpR,if_neg (by rw[this];exact Rat.lt_irrefl),if_pos this];exact rfl
 ·have hc:=of_decide_eq_false hc
  rw[s2 hc] at hs
  have hs:=of_decide_eq_true hs
  rw[cmpR,if_pos (hlt.2 (by omega))];exact rfl
 ·have hc:=of_decide_eq_false hc
  rw[s2 hc] at hs
  have hs:=of_decide_eq_false hs
  rw[s1] at hc
  rw[cmpR,if_neg (fun h=>hs (by have:=hlt.1 h;omega)),if_neg (fun h=>hc (by have:=heq.1 h;omega))];exact rfl
theorem r_zero:rN 0=0/\rD 0=1/\rE 0=0:=by
 have:fitsR 0:=by unfold fitsR;decide
 unfold rN rD rE
 rw[if_pos this,if_pos this,if_pos this];exact⟨rfl,rfl,rfl⟩
structure VF(n d:Int):Prop where
 low:Low n d
 n:n.natAbs<=4611686018427387904
 d:d<=4611686018427387904
theorem VF.fits{n d:Int}(h:VF n d):fitsR (ratOf n d):=by
 have h1:=h.low.num
 have h2:=h.low.den
 have:=h.n
 have:=h.d
 exact⟨by rw[h1];exact h.n,by omega⟩
theorem VF.of{q:Rat}(h:fitsR q):VF q.num q.den:=⟨low_rat q,h.1,by have:=h.2;omega⟩
noncomputable def cAddR:Ctr:=fun ss=>match ss with
 |[.agg [.d (.x (.int .i64 a)),.d (.x (.int .i64 b))],.agg [.d (.x (.int .i64 c)),.d (.x (.int .i64 d))]]=>.need (VF a b/\VF c d) (.ret (.agg [iv (rN (ratOf a b+ratOf c d)),iv (rD (ratOf a b+ratOf c d)),iv (rE (ratOf a b+ratOf c d))]))
 |_=>.fail
noncomputable def cCmpR:Ctr:=fun ss=>match ss with
 |[.agg [.d (.x (.int .i64 a)),.d (.x (.int .i64 b))],.agg [.d (.x (.int .i64 c)),.d (.x (.int .i64 d))]]=>.need (VF a b/\VF c d) (.ret (iv (cmpR (ratOf a b) (ratOf c d))))
 |_=>.fail
theorem cCmpR_ok:CtrOK Tryz.prog 121 cCmpR:=by
 refine ctrOK_leS C4_ok D4_ok (by kernel_rfl) (by kernel_rfl) fun ss r h=>?_
 unfold cCmpR at h
 split at h
 ·rename_i a b c d
  obtain⟨⟨h1,h2⟩,rfl⟩:=h
  have:=cmpR_sat _ _ h1.fits h2.fits
  rw[h1.low.num,h1.low.den,h2.low.num,h2.low.den] at this
  exact⟨[.agg [iv a,iv b],.agg [iv c,iv d]],200,.nil,by simp[leSVs,leSV,iv,leD],this⟩
 ·exact h.elim
def vB(a b:Int):Bool:=decide (1<=b)&&decide (b<=4611686018427387904)&&decide (a.natAbs<=4611686018427387904)&&decide (a.natAbs.gcd b.toNat=1)
theorem vB_iff{a b:Int}:vB a b=true ↔ VF a b:=by
 unfold vB
 simp only[Bool.and_eq_true,decide_eq_true_eq]
 constructor
 ·rintro⟨⟨⟨h1,h2⟩,h3⟩,h4⟩;exact⟨⟨h1,h4⟩,h3,h2⟩
 ·rintro⟨⟨h1,h4⟩,h3,h2⟩;exact⟨⟨⟨h1,h2⟩,h3⟩,h4⟩
noncomputable def cValR:Ctr:=fun ss=>match ss with
 |[.agg [.d (.x (.int .i64 a)),.d (.x (.int .i64 b))]]=>.ret (bv (vB a b))
 |_=>.fail
theorem cValR_ok:CtrOK Tryz.prog 112 cValR:=by
 refine ctrOK_leS C4_ok D4_ok (by kernel_rfl) (by kernel_rfl) fun ss r h=>?_
 unfold cValR at h
 split at h
 ·rename_i a b
  obtain rfl:=h
  refine⟨[.agg [iv a,iv b]],200,.nil,by simp[leSVs,leSV,iv,leD],Sat.of_eq (LValR_eq a b) ⟨?_⟩⟩
  unfold LValR
  refine⟨fun h=>?_,fun h=>?_,?_⟩
  ·simp only[Bool.and_eq_true,decide_eq_true_eq] at h;omega
  ·simp only[Bool.and_eq_true,decide_eq_true_eq] at h;omega
  ·show bv _=bv _
   refine congrArg bv ?_
   rw[Bool.eq_iff_iff]
   unfold vB
   simp only[Bool.and_eq_true,decide_eq_true_eq,beq_iff_eq]
   constructor
   ·rintro⟨⟨⟨⟨h1,h2⟩,h3⟩,h4⟩,h5⟩
    refine⟨⟨⟨h1,h2⟩,by omega⟩,?_⟩
    have:Int.gcd (a.natAbs:Int) b=a.natAbs.gcd b.toNat:=by rw[Int.gcd];congr 1;omega
    omega
   ·rintro⟨⟨⟨h1,h2⟩,h3⟩,h5⟩
    refine⟨⟨⟨⟨h1,h2⟩,by omega⟩,by omega⟩,?_⟩
    have:Int.gcd (a.natAbs:Int) b=a.natAbs.gcd b.toNat:=by rw[Int.gcd];congr 1;omega
    omega
 ·exact h.elim
def u6(n:Int):SV:=.d (.x (.int .u64 n))
noncomputable def rou(n:Nat)(c:Nat->Int):SV:=.d (.ro n 1 fun i _=>.x (.int .u64 (c i)))
noncomputable def tG(c:Nat->Int):Tree SV:=T0 109 [rou 2 c]
noncomputable def LG(c:Nat->Int):Tree SV :=
 .need ((0:Int)<=(0:Int)/\(0:Int)<(2:Int))
 (.need (True/\(0:Int)<=(1:Int)/\1<=2) (.code (codeC (sub [(0:Nat),(0:Nat)] (tG c))) (codeS (sub [(0:Nat),(0:Nat)] (tG c))) (codeK (sub [(0:Nat),(0:Nat)] (tG c)))))
theorem LG_eq(c:Nat->Int):tG c=LG c:=by kernel_rfl
noncomputable def LAbs(n:Int):Tree SV :=
 .ite (decide (n<(0:Int))) (.ret (SV.d (DV.x (.int .u64 (IntKind.wrap .u64 ((0:Int)-IntKind.wrap .u64 n)))))) (.ret (SV.d (DV.x (.int .u64 (IntKind.wrap .u64 n)))))
theorem LAbs_eq(n:Int):T0 110 [iv n]=LAbs n:=by kernel_rfl
noncomputable def invG1(x:Int)(c:Nat->Int)(k:Int):AS:=⟨[.unk,.unk,.unk,.ok (u6 x),.unk,.unk,.unk,.unk,.unk,.unk,.ok (rou 1 c),.ok (iv 1),.ok (iv k)]++List.replicate 11 .unk,[],0,.nil⟩
noncomputable def invG2(x y:Int)(c:Nat->Int)(k:Int):AS:=⟨[.unk,.unk,.unk,.ok (u6 x),.unk,.ok (u6 y),.unk,.unk,.unk,.unk,.ok (rou 1 c),.ok (iv 1),.ok (iv k)]++List.replicate 11 .unk,[],0,.nil⟩
noncomputable def bodyG1:Code:=loopN (bodyOf Tryz.prog 109) 0
noncomputable def bodyG2:Code:=loopN (bodyOf Tryz.prog 109) 1
noncomputable def bG1(x:Int)(c:Nat->Int)(k:Int):Tree (Ex×AS):=cutT 0 [] [3,10,11,12] [] 0 .nil (exec Tryz.prog C0 D0 200 bodyG1 (invG1 x c k))
noncomputable def BG1(x:Int)(c:Nat->Int)(k:Int):Tree (Ex×AS) :=
 .ite (decide (k<(1:Int))) (.need ((0:Int)<=k/\k<(1:Int)) (.code (codeC (sub [(0:Nat),(0:Nat)] (bG1 x c k))) (codeS (sub [(0:Nat),(0:Nat)] (bG1 x c k))) (codeK (sub [(0:Nat),(0:Nat)] (bG1 x c k)))))
 (.ret
  (.exit 0,
   {
    tm :=
     [.unk,.unk,.unk,.ok (SV.d (DV.x (.int .u64 x))),.unk,.unk,.unk,.unk,.unk,.unk,.ok (SV.d (DV.ro 1 1 fun i x=>DV.x (.int .u64 (c i)))),
      .ok (iv (1:Int)),.ok (iv k),.unk,.unk,.unk,.unk,.unk,.unk,.unk,.unk,.unk,.unk,.unk],
    hp:=[],next:=0,hint:=.nil }))
theorem BG1_eq(x:Int)(c:Nat->Int)(k:Int):bG1 x c k=BG1 x c k:=by kernel_rfl
noncomputable def BG2(x y:Int)(c:Nat->Int)(k:Int):Tree (Ex×AS) :=
 .ite (decide (y>(0:Int)))
 (.need (y≠(0:Int))
  (.ret
   (.normal,
    {
     tm :=
      [.unk,.unk,.unk,.ok (SV.d (DV.x (.int .u64 y))),.unk,.ok (SV.d (DV.x (.int .u64 (Int.tmod x y)))),.unk,.unk,.unk,.unk,
       .ok (SV.d (DV.ro 1 1 fun i x=>DV.x (.int .u64 (c i)))),.ok (iv (1:Int)),.ok (iv k),.unk,.unk,.unk,.unk,.unk,.unk,.unk,.unk,.unk,.unk,.unk],
     hp:=[],next:=0,hint:=.nil })))
 (.ret
  (.exit 2,
   {
    tm :=
     [.unk,.unk,.unk,.ok (SV.d (DV.x (.int .u64 x))),.unk,.ok (SV.d (DV.x (.int .u64 y))),.unk,.unk,.unk,.unk,
      .ok (SV.d (DV.ro 1 1 fun i x=>DV.x (.int .u64 (c i)))),.ok (iv (1:Int)),.ok (iv k),.unk,.unk,.unk,.unk,.unk,.unk,.unk,.unk,.unk,.unk,.unk],
    hp:=[],next:=0,hint:=.nil }))
theorem BG2_eq(x y:Int)(c:Nat->Int)(k:Int):cutT 0 [] [3,5,10,11,12] [] 0 .nil (exec Tryz.prog C0 D0 200 bodyG2 (invG2 x y c k))=BG2 x y c k:=by kernel_rfl
noncomputable def KG(d:Nat->Int)(x:Int)(c:Nat->Int)(k:Int):Tree SV :=
 .ret (SV.d (DV.x (.int .u64 x)))
theorem KG_eq(d:Nat->Int)(x:Int)(c:Nat->Int)(k:Int):codeK (sub [0,0] (tG d)) (.exit 0) (invG1 x c k)=KG d x c k:=by kernel_rfl
noncomputable def KG2(x:Int)(c:Nat->Int)(k:Int)(x2 y2:Int):Tree (Ex×AS) :=
 .ret
 (.normal,
  {
   tm :=
    [.unk,.unk,.unk,.ok (SV.d (DV.x (.int .u64 x2))),.unk,.unk,.unk,.unk,.unk,.unk,.ok (SV.d (DV.ro 1 1 fun i x=>DV.x (.int .u64 (c i)))),
     .ok (iv (1:Int)),.ok (iv (w64 (k+(1:Int)))),.unk,.unk,.unk,.unk,.unk,.unk,.unk,.unk,.unk,.unk,.unk],
   hp:=[],next:=0,hint:=.nil })
theorem KG2_eq(x:Int)(c:Nat->Int)(k:Int)(x2 y2:Int):codeK (sub [0,0] (bG1 x c k)) (.exit 2) (invG2 x2 y2 c k)=KG2 x c k x2 y2:=by kernel_rfl
theorem wu(n:Int):IntKind.wrap .u64 n=n%18446744073709551616:=by
 unfold IntKind.wrap
 simp[IntKind.signed,IntKind.bits]
theorem wu_of{n:Int}(h1:0<=n)(h2:n<18446744073709551616):IntKind.wrap .u64 n=n:=by rw[wu];omega
noncomputable def cAbsU:Ctr:=fun ss=>match ss with
 |[.d (.x (.int .i64 n))]=>.need (-9223372036854775808<=n/\n<=9223372036854775807) (.ret (u6 n.natAbs))
 |_=>.fail
theorem cAbsU_ok:CtrOK Tryz.prog 110 cAbsU:=by
 refine ctrOK_leS C0_ok D0_ok (by kernel_rfl) (by kernel_rfl) fun ss r h=>?_
 unfold cAbsU at h
 split at h
 ·rename_i n
  obtain⟨⟨h1,h2⟩,rfl⟩:=h
  refine⟨[iv n],200,.nil,by simp[leSVs,leSV,iv,leD],Sat.of_eq (LAbs_eq n) ⟨?_⟩⟩
  unfold LAbs
  refine⟨fun hc=>?_,fun hc=>?_⟩
  ·have hc:n<0:=by simpa using hc
   rw[wu,wu,show(0-n%18446744073709551616)%18446744073709551616=(n.natAbs:Int) by omega];exact rfl
  ·have hc:¬n<0:=by simpa using hc
   rw[wu,show n%18446744073709551616=(n.natAbs:Int) by omega];exact rfl
 ·exact h.elim
theorem gcdU_sat{c:Nat->Int}(h0:0<=c 0)(h1:0<=c 1):Sat Tryz.prog (tG c) (·=u6 (Int.gcd (c 0) (c 1))):=by
 constructor
 rw[LG_eq];unfold LG
 refine⟨by omega,⟨trivial,by omega,by omega⟩,?_⟩
 refine code_satS C0_ok D0_ok (n:=200) (n0:=0) (nx:=0) (roots:=[]) (keep:=[3,10,11,12]) (drop:=[]) (h:=.nil) (c:=codeC (sub [0,0] (tG c))) (st:=codeS (sub [0,0] (tG c))) (k:=codeK (sub [0,0] (tG c))) (body:=bodyG1) (by kernel_rfl) (by kernel_rfl)
  (fun q s=>(q=1/\s=invG1 (c 0) (fun i=>c (1+i)) 0)\/(q=0/\s=invG1 (Int.gcd (c 0) (c 1)) (fun i=>c (1+i)) 1))
  (fun e s=>e=.exit 0/\s=invG1 (Int.gcd (c 0) (c 1)) (fun i=>c (1+i)) 1)
  ⟨1,_,.inl ⟨rfl,rfl⟩,?_⟩ ?_ ?_
 ·exact entA_sound (roots:=[]) (keep:=[3,10,11,12]) (drop:=[]) (nx:=0) (h:=.nil) (by kernel_rfl)
 ·rintro q s (⟨rfl,rfl⟩|⟨rfl,rfl⟩)
  ·refine Sat.of_eq (BG1_eq (c 0) _ 0) ?_
   constructor
   unfold BG1
   refine⟨fun hc=>?_,fun hc=>by simp at hc⟩
   refine⟨by omega,?_⟩
   refine code_satS C0_ok D0_ok (n:=200) (n0:=0) (nx:=0) (roots:=[]) (keep:=[3,5,10,11,12]) (drop:=[]) (h:=.nil) (c:=codeC (sub [0,0] (bG1 (c 0) (fun i=>c (1+i)) 0))) (st:=codeS (sub [0,0] (bG1 (c 0) (fun i=>c (1+i)) 0))) (k:=codeK (sub [0,0] (bG1 (c 0) (fun i=>c (1+i)) 0))) (body:=bodyG2) (by kernel_rfl) (by kernel_rfl)
    (fun q s=>∃x y:Int,q=y.toNat/\0<=x/\0<=y/\Int.gcd x y=Int.gcd (c 0) (c 1)/\s=invG2 x y (fun i=>c (1+i)) 0)
    (fun e s=>e=.exit 2/\s=invG2 (Int.gcd (c 0) (c 1)) 0 (fun i=>c (1+i)) 0)
    ⟨(c 1).toNat,invG2 (c 0) (c 1) (fun i=>c (1+i)) 0,⟨c 0,c 1,rfl,h0,h1,rfl,rfl⟩,?_⟩ ?_ ?_
   ·exact entA_sound (roots:=[]) (keep:=[3,5,10,11,12]) (drop:=[]) (nx:=0) (h:=.nil) (by kernel_rfl)
   ·rintro q s ⟨x,y,hq,hx,hy,hg,rfl⟩
    refine Sat.of_eq (BG2_eq x y _ 0) ?_
    constructor
    unfold BG2
    refine⟨fun hc=>?_,fun hc=>?_⟩
    ·have hc:0<y:=by simpa using hc
     have e1:Int.tmod x y=x%y:=tmod_lit hx y
     have e2:=Int.emod_nonneg x (show y≠0 by omega)
     have e3:=Int.emod_lt_of_pos x hc
     refine⟨by omega,(Int.tmod x y).toNat,_,by omega,⟨y,Int.tmod x y,rfl,hy,by omega,?_,rfl⟩,Gc.refl _ _⟩
     rw[e1,<- hg];exact(gcd_emod hx hy).symm
    ·have hc:y=0:=by simp at hc;omega
     subst hc
     have:x=(Int.gcd (c 0) (c 1):Int):=by rw[<- hg,Int.gcd_zero_right];omega
     exact⟨_,⟨rfl,rfl⟩,by rw[this];exact Gc.refl _ _⟩
   ·rintro e s ⟨rfl,rfl⟩
    refine Sat.of_eq (KG2_eq (c 0) (fun i=>c (1+i)) 0 _ 0) ⟨?_⟩
    exact⟨0,_,by omega,.inr ⟨rfl,rfl⟩,by rw[show w64 ((0:Int)+1)=1 by rw[w64_of (by omega) (by omega)];rfl];exact Gc.refl _ _⟩
  ·refine Sat.of_eq (BG1_eq _ _ 1) ?_
   constructor
   unfold BG1
   refine⟨fun hc=>by simp at hc,fun hc=>?_⟩
   exact⟨_,⟨rfl,rfl⟩,Gc.refl _ _⟩
 ·rintro e s ⟨rfl,rfl⟩
  exact Sat.of_eq (KG_eq c _ _ _) ⟨rfl⟩
noncomputable def cGcdU:Ctr:=fun ss=>match ss with
 |[.d (.ro 2 1 cell)]=>.need (∃a b:Int,cell 0 0=.x (.int .u64 a)/\cell 1 0=.x (.int .u64 b)/\0<=a/\0<=b) (.ret (u6 (Int.gcd (intCell cell 0) (intCell cell 1))))
 |_=>.fail
theorem cGcdU_ok:CtrOK Tryz.prog 109 cGcdU:=by
 refine ctrOK_leS C0_ok D0_ok (by kernel_rfl) (by kernel_rfl) fun ss r h=>?_
 unfold cGcdU at h
 split at h
 ·rename_i cell
  obtain⟨⟨a,b,h1,h2,h3,h4⟩,rfl⟩:=h
  have e1:intCell cell 0=a:=by simp[intCell,h1,intOf1]
  have e2:intCell cell 1=b:=by simp[intCell,h2,intOf1]
  refine⟨[rou 2 (intCell cell)],200,.nil,?_,gcdU_sat (by omega) (by omega)⟩
  simp only[leSVs,leSV,rou,leD,and_true,true_and]
  intro i j hi hj
  obtain rfl:j=0:=by omega
  have:i=0\/i=1:=by omega
  rcases this with rfl|rfl
  ·rw[h1,e1]
  ·rw[h2,e2]
 ·exact h.elim
noncomputable def LM64(x y:Int):Tree SV :=
 .need ((0:Int)<=(32:Int))
 (.need ((0:Int)<=(32:Int))
  (.need ((0:Int)<=(32:Int))
   (.need ((0:Int)<=(32:Int))
    (.need ((0:Int)<=(32:Int))
     (.ret
      (SV.tup
       [SV.d
         (DV.x
          (.int .u64
           (IntKind.wrap .u64
            (IntKind.wrap .u64
              (IntKind.wrap .u64 (Int.fdiv x (4294967296:Int)*Int.fdiv y (4294967296:Int)) +
               Int.fdiv
                (IntKind.wrap .u64
                 (IntKind.wrap .u64 (Int.fdiv x (4294967296:Int)*IntKind.wrap .u64 (↑(BitVec.toNat (BitVec.ofInt 64 y &&& BitVec.ofInt 64 (4294967295:Int))):Int)) +
                  Int.fdiv
                   (IntKind.wrap .u64
                    (IntKind.wrap .u64 (↑(BitVec.toNat (BitVec.ofInt 64 x &&& BitVec.ofInt 64 (4294967295:Int))):Int) *
                     IntKind.wrap .u64 (↑(BitVec.toNat (BitVec.ofInt 64 y &&& BitVec.ofInt 64 (4294967295:Int))):Int)))
                   (4294967296:Int)))
                (4294967296:Int)) +
             Int.fdiv
              (IntKind.wrap .u64
               (IntKind.wrap .u64
                 (↑(BitVec.toNat
                    (BitVec.ofInt 64
                      (IntKind.wrap .u64
                       (IntKind.wrap .u64 (Int.fdiv x (4294967296:Int)*IntKind.wrap .u64 (↑(BitVec.toNat (BitVec.ofInt 64 y &&& BitVec.ofInt 64 (4294967295:Int))):Int)) +
                        Int.fdiv
                         (IntKind.wrap .u64
                          (IntKind.wrap .u64 (↑(BitVec.toNat (BitVec.ofInt 64 x &&& BitVec.ofInt 64 (4294967295:Int))):Int) *
                           IntKind.wrap .u64 (↑(BitVec.toNat (BitVec.ofInt 64 y &&& BitVec.ofInt 64 (4294967295:Int))):Int)))
                         (4294967296:Int))) &&&
                     BitVec.ofInt 64 (4294967295:Int))) :
                  Int) +
                IntKind.wrap .u64 (IntKind.wrap .u64 (↑(BitVec.toNat (BitVec.ofInt 64 x &&& BitVec.ofInt 64 (4294967295:Int))):Int)*Int.fdiv y (4294967296:Int))))
              (4294967296:Int))))),
        SV.d (DV.x (.int .u64 (IntKind.wrap .u64 (x*y))))]))))))
theorem LM64_eq(x y:Int):T0 137 [u6 x,u6 y]=LM64 x y:=by kernel_rfl
theorem mask32{x:Int}(h1:0<=x)(h2:x<18446744073709551616):((BitVec.toNat (BitVec.ofInt 64 x &&& BitVec.ofInt 64 4294967295):Nat):Int)=x%4294967296:=by
 rw[BitVec.toNat_and,BitVec.toNat_ofInt,BitVec.toNat_ofInt]
 have e1:(x%((2^64:Nat):Int)).toNat=x.toNat:=by
  rw[show((2^64:Nat):Int)=18446744073709551616 by decide];omega
 have e2:((4294967295:Int)%((2^64:Nat):Int)).toNat=2^32-1:=by decide
 rw[e1,e2,Nat.and_two_pow_sub_one_eq_mod]
 omega
theorem mul_split{x y x0 x1 y0 y1 p00 p10 p01 p11:Int}(hx:x=x1*4294967296+x0)(hy:y=y1*4294967296+y0)(h00:p00=x0*y0)(h10:p10=x1*y0)(h01:p01=x0*y1)(h11:p11=x1*y1) :
  x*y=p11*18446744073709551616+(p10+p01)*4294967296+p00:=by
 subst hx;subst hy;subst h00;subst h10;subst h01;subst h11
 simp only[Int.add_mul,Int.mul_add]
 have e1:x1*4294967296*(y1*4294967296)=x1*y1*18446744073709551616:=by
  rw[Int.mul_assoc,Int.mul_left_comm 4294967296,<- Int.mul_assoc];rfl
 have e2:x1*4294967296*y0=x1*y0*4294967296:=by rw[Int.mul_assoc,Int.mul_comm 4294967296,<- Int.mul_assoc]
 have e3:x0*(y1*4294967296)=x0*y1*4294967296:=by rw[<- Int.mul_assoc]
 rw[e1,e2,e3];omega
theorem mul_bd{a b:Int}(ha:0<=a/\a<=4294967295)(hb:0<=b/\b<=4294967295):0<=a*b/\a*b<=18446744065119617025:=by
 refine⟨Int.mul_nonneg ha.1 hb.1,?_⟩
 have:=Int.mul_le_mul ha.2 hb.2 hb.1 (by omega)
 omega
noncomputable def cMul64:Ctr:=fun ss=>match ss with
 |[.d (.x (.int .u64 x)),.d (.x (.int .u64 y))]=>.need ((0<=x/\x<18446744073709551616)/\(0<=y/\y<18446744073709551616)) (.ret (.tup [u6 (x*y / 18446744073709551616),u6 (x*y%18446744073709551616)]))
 |_=>.fail
theorem cMul64_ok:CtrOK Tryz.prog 137 cMul64:=by
 refine ctrOK_leS C0_ok D0_ok (by kernel_rfl) (by kernel_rfl) fun ss r h=>?_
 unfold cMul64 at h
 split at h
 ·rename_i x y
  obtain⟨⟨⟨hx0,hx1⟩,⟨hy0,hy1⟩⟩,rfl⟩:=h
  refine⟨[u6 x,u6 y],200,.nil,by simp[leSVs,leSV,u6,leD],Sat.of_eq (LM64_eq x y) ⟨?_⟩⟩
  unfold LM64
  rw[mask32 hx0 hx1,mask32 hy0 hy1,Int.fdiv_eq_ediv_of_nonneg (x) (by decide),Int.fdiv_eq_ediv_of_nonneg (y) (by decide)]
  have hm:=mul_split (x:=x) (y:=y) (x0:=x%4294967296) (x1:=x / 4294967296) (y0:=y%4294967296) (y1:=y / 4294967296) (by omega) (by omega) rfl rfl rfl rfl
  have b00:=mul_bd (a:=x%4294967296) (b:=y%4294967296) (by omega) (by omega)
  have b10:=mul_bd (a:=x / 4294967296) (b:=y%4294967296) (by omega) (by omega)
  have b01:=mul_bd (a:=x%4294967296) (b:=y / 4294967296) (by omega) (by omega)
  have b11:=mul_bd (a:=x / 4294967296) (b:=y / 4294967296) (by omega) (by omega)
  rw[wu_of (n:=x%4294967296) (by omega) (by omega),wu_of (n:=y%4294967296) (by omega) (by omega)]
  generalize x%4294967296*(y%4294967296)=p00 at *
  generalize x / 4294967296*(y%4294967296)=p10 at *
  generalize x%4294967296*(y / 4294967296)=p01 at *
  generalize x / 4294967296*(y / 4294967296)=p11 at *
  rw[wu_of (n:=p00) (by omega) (by omega),wu_of (n:=p10) (by omega) (by omega),wu_of (n:=p01) (by omega) (by omega),wu_of (n:=p11) (by omega) (by omega)]
  rw[Int.fdiv_eq_ediv_of_nonneg (p00) (by decide)]
  rw[wu_of (n:=p10+p00 / 4294967296) (by omega) (by omega),mask32 (x:=p10+p00 / 4294967296) (by omega) (by omega)]
  rw[Int.fdiv_eq_ediv_of_nonneg (p10+p00 / 4294967296) (by decide)]
  rw[wu_of (n:=(p10+p00 / 4294967296)%4294967296 ) (by omega) (by omega)]
  rw[wu_of (n:=(p10+p00 / 4294967296)%4294967296+p01) (by omega) (by omega),Int.fdiv_eq_ediv_of_nonneg ((p10+p00 / 4294967296)%4294967296+p01) (by decide)]
  rw[wu_of (n:=p11+(p10+p00 / 4294967296) / 4294967296) (by omega) (by omega),wu_of (n:=p11+(p10+p00 / 4294967296) / 4294967296+((p10+p00 / 4294967296)%4294967296+p01) / 4294967296) (by omega) (by omega)]
  rw[wu,show p11+(p10+p00 / 4294967296) / 4294967296+((p10+p00 / 4294967296)%4294967296+p01) / 4294967296=x*y / 18446744073709551616 by omega]
  exact⟨by decide,by decide,by decide,by decide,by decide,rfl⟩
 ·exact h.elim
noncomputable def man6:FuncId->Option Ctr:=fun k=>match k with
 |110=>some cAbsU
 |109=>some cGcdU
 |137=>some cMul64
 |_=>none
theorem man6_ok(k:Nat)(c:Ctr)(h:man6 k=some c):CtrOK Tryz.prog k c/\goodF Tryz.prog k=true:=by
 unfold man6 at h
 split at h<;>first|(cases h;done)|(cases h)
 ·exact⟨cAbsU_ok,by kernel_rfl⟩
 ·exact⟨cGcdU_ok,by kernel_rfl⟩
 ·exact⟨cMul64_ok,by kernel_rfl⟩
noncomputable def C6:Ctx:=ctxN Tryz.prog man6 (fun _=>false) 200 .nil 6
theorem C6_ok:CtxOK Tryz.prog C6:=ctxN_ok mixed man6_ok 6
noncomputable def D6:Dr:=fun _=>drawn Tryz.prog C6
theorem D6_ok:DrOK Tryz.prog C6 D6:=drawn_ok C6_ok mixed
noncomputable def T6(k:Nat)(args:List SV):Tree SV:=fnT Tryz.prog C6 D6 200 (fnOf Tryz.prog k) (bodyOf Tryz.prog k) args .nil
noncomputable def LTm(a b:Int):Tree SV :=
 .need ((-9223372036854775808:Int)<=a/\a<=(9223372036854775807:Int))
 (.need ((-9223372036854775808:Int)<=b/\b<=(9223372036854775807:Int))
  (.need (((0:Int)<=(↑(Int.natAbs a):Int)/\(↑(Int.natAbs a):Int)<(18446744073709551616:Int))/\(0:Int)<=(↑(Int.natAbs b):Int)/\(↑(Int.natAbs b):Int)<(18446744073709551616:Int))
   (.ret
    (SV.agg
     [bv !decide (a<(0:Int))==decide (b<(0:Int)),SV.d (DV.x (.int .u64 ((↑(Int.natAbs a):Int)*(↑(Int.natAbs b):Int) / (18446744073709551616:Int)))),
      SV.d (DV.x (.int .u64 ((↑(Int.natAbs a):Int)*(↑(Int.natAbs b):Int)%(18446744073709551616:Int))))]))))
theorem LTm_eq(a b:Int):T6 130 [iv a,iv b]=LTm a b:=by kernel_rfl
noncomputable def LPl(s:Bool)(h1 l1:Int)(t:Bool)(h2 l2:Int):Tree SV :=
 .ite (s==t)
 (.need ((0:Int)<=l1/\(0:Int)<=l2/\(0:Int)<=(0:Int)/\(0:Int)<=(1:Int))
  (.need ((0:Int)<=h1/\(0:Int)<=h2/\(0:Int)<=(l1+l2+(0:Int)) / (18446744073709551616:Int)/\(l1+l2+(0:Int)) / (18446744073709551616:Int)<=(1:Int))
   (.ret
    (SV.agg
     [bv s,SV.d (DV.x (.int .u64 ((h1+h2+(l1+l2+(0:Int)) / (18446744073709551616:Int))%(18446744073709551616:Int)))),
      SV.d (DV.x (.int .u64 ((l1+l2+(0:Int))%(18446744073709551616:Int))))]))))
 (.ite (!(decide (h1>h2)||h1==h2&&decide (l1>=l2)))
  (.need ((0:Int)<=l2/\(0:Int)<=l1/\l1<(18446744073709551616:Int)/\(0:Int)<=(0:Int)/\(0:Int)<=(1:Int))
   (.need ((0:Int)<=h2/\(0:Int)<=h1/\h1<(18446744073709551616:Int)/\((0:Int)<=if l2<l1+(0:Int) then(1:Int) else(0:Int))/\(if l2<l1+(0:Int) then(1:Int) else(0:Int))<=(1:Int))
    (.ret
     (SV.agg
      [bv t,SV.d (DV.x (.int .u64 ((h2+(18446744073709551616:Int)-h1-if l2<l1+(0:Int) then(1:Int) else(0:Int))%(18446744073709551616:Int)))),
       SV.d (DV.x (.int .u64 ((l2+(18446744073709551616:Int)-l1-(0:Int))%(18446744073709551616:Int))))]))))
  (.need ((0:Int)<=l1/\(0:Int)<=l2/\l2<(18446744073709551616:Int)/\(0:Int)<=(0:Int)/\(0:Int)<=(1:Int))
   (.need ((0:Int)<=h1/\(0:Int)<=h2/\h2<(18446744073709551616:Int)/\((0:Int)<=if l1<l2+(0:Int) then(1:Int) else(0:Int))/\(if l1<l2+(0:Int) then(1:Int) else(0:Int))<=(1:Int))
    (.ret
     (SV.agg
      [bv s,SV.d (DV.x (.int .u64 ((h1+(18446744073709551616:Int)-h2-if l1<l2+(0:Int) then(1:Int) else(0:Int))%(18446744073709551616:Int)))),
       SV.d (DV.x (.int .u64 ((l1+(18446744073709551616:Int)-l2-(0:Int))%(18446744073709551616:Int))))])))))
theorem LPl_eq(s:Bool)(h1 l1:Int)(t:Bool)(h2 l2:Int):T6 131 [.agg [bv s,u6 h1,u6 l1],.agg [bv t,u6 h2,u6 l2]]=LPl s h1 l1 t h2 l2:=by kernel_rfl
noncomputable def wSV(s:Bool)(T:Nat):SV:=.agg [bv s,u6 (T / 18446744073709551616:Nat),u6 (T%18446744073709551616:Nat)]
def wN(h l:Int):Nat:=h.toNat*18446744073709551616+l.toNat
noncomputable def cTm:Ctr:=fun ss=>match ss with
 |[.d (.x (.int .i64 a)),.d (.x (.int .i64 b))]=>.need ((-9223372036854775808<=a/\a<=9223372036854775807)/\(-9223372036854775808<=b/\b<=9223372036854775807)) (.ret (wSV (!(decide (a<0)==decide (b<0))) (a.natAbs*b.natAbs)))
 |_=>.fail
theorem cTm_ok:CtrOK Tryz.prog 130 cTm:=by
 refine ctrOK_leS C6_ok D6_ok (by kernel_rfl) (by kernel_rfl) fun ss r h=>?_
 unfold cTm at h
 split at h
 ·rename_i a b
  obtain⟨⟨h1,h2⟩,rfl⟩:=h
  refine⟨[iv a,iv b],200,.nil,by simp[leSVs,leSV,iv,leD],Sat.of_eq (LTm_eq a b) ⟨?_⟩⟩
  unfold LTm
  refine⟨h1,h2,⟨by omega,by omega⟩,?_⟩
  rw[<- Int.natCast_mul]
  exact rfl
 ·exact h.elim
noncomputable def cPl:Ctr:=fun ss=>match ss with
 |[.agg [.d (.x (.bool s)),.d (.x (.int .u64 h1)),.d (.x (.int .u64 l1))],.agg [.d (.x (.bool t)),.d (.x (.int .u64 h2)),.d (.x (.int .u64 l2))]] =>
  .need ((0<=h1/\h1<9223372036854775808)/\(0<=l1/\l1<18446744073709551616)/\(0<=h2/\h2<9223372036854775808)/\(0<=l2/\l2<18446744073709551616)) (.ret (wSV (sN s (wN h1 l1) t (wN h2 l2)) (sV s (wN h1 l1) t (wN h2 l2))))
 |_=>.fail
theorem cPl_ok:CtrOK Tryz.prog 131 cPl:=by
 refine ctrOK_leS C6_ok D6_ok (by kernel_rfl) (by kernel_rfl) fun ss r h=>?_
 unfold cPl at h
 split at h
 ·rename_i s h1 l1 t h2 l2
  obtain⟨⟨a1,a2,a3,a4⟩,rfl⟩:=h
  refine⟨[.agg [bv s,u6 h1,u6 l1],.agg [bv t,u6 h2,u6 l2]],200,.nil,by simp[leSVs,leSV,u6,bv,leD],Sat.of_eq (LPl_eq s h1 l1 t h2 l2) ⟨?_⟩⟩
  unfold LPl
  have key:∀(S:Bool) (T:Nat) (x y:Int),x=(T / 18446744073709551616:Nat)->y=(T%18446744073709551616:Nat)->SV.agg [bv S,.d (.x (.int .u64 x)),.d (.x (.int .u64 y))]=wSV S T:=fun S T x y hx hy=>by rw[hx,hy];rfl
  refine⟨fun hc=>⟨by omega,by omega,?_⟩,fun hc=>⟨fun hs=>?_,fun hs=>?_⟩⟩
  ·have hc:s=t:=by simpa using hc
   simp only[Tree.sat,sN,sV,if_pos hc]
   refine key _ _ _ _ ?_ ?_
   ·unfold wN;omega
   ·unfold wN;omega
  ·have hc:s≠t:=by simpa using hc
   have hs:¬wN h2 l2<=wN h1 l1:=by
    simp only[Bool.not_eq_true',Bool.or_eq_false_iff,Bool.and_eq_false_iff,decide_eq_false_iff_not,beq_eq_false_iff_ne] at hs
    unfold wN;omega
   refine⟨by omega,⟨by omega,by omega,by omega,by split<;>omega,by split<;>omega⟩,?_⟩
   simp only[Tree.sat,sN,sV,if_neg hc,if_neg hs]
   refine key _ _ _ _ ?_ ?_
   ·unfold wN at *;split<;>omega
   ·unfold wN at *;omega
  ·have hc:s≠t:=by simpa using hc
   have hs:wN h2 l2<=wN h1 l1:=by
    simp only[Bool.not_eq_false',Bool.or_eq_true,Bool.and_eq_true,decide_eq_true_eq,beq_iff_eq] at hs
    unfold wN;omega
   refine⟨by omega,⟨by omega,by omega,by omega,by split<;>omega,by split<;>omega⟩,?_⟩
   simp only[Tree.sat,sN,sV,if_neg hc,if_pos hs]
   refine key _ _ _ _ ?_ ?_
   ·unfold wN at *;split<;>omega
   ·unfold wN at *;omega
 ·exact h.elim
theorem wb8(n:Int):IntKind.wrap .u8 n=n%256:=by
 unfold IntKind.wrap
 simp[IntKind.signed,IntKind.bits]
theorem wu_nonneg(n:Int):0<=IntKind.wrap .u64 n:=by rw[wu];omega
noncomputable def cDiv64:Ctr:=fun ss=>match ss with
 |[.d (.x (.int .u64 y)),.d (.x (.int .u64 x)),.d (.x (.int .u64 d))]=>.need ((0<=y/\y<d)/\(0<=x/\x<18446744073709551616)/\d<18446744073709551616) (.ret (.tup [u6 ((y*18446744073709551616+x) / d),u6 ((y*18446744073709551616+x)%d)]))
 |_=>.fail
noncomputable def gcd2:DV->DV->Tr SV:=fun p q=>match p,q with
 |.x (.int .u64 a),.x (.int .u64 b)=>.need (0<=a/\0<=b) (.ret (u6 (Int.gcd a b)))
 |_,_=>.fail
noncomputable def cGcdV:Ctr:=fun ss=>match ss with
 |[.d (.ro 2 1 cell)]=>gcd2 (cell 0 0) (cell 1 0)
 |_=>.fail
theorem cGcdV_ok:CtrOK Tryz.prog 109 cGcdV:=cGcdU_ok.mono fun ss r h=>by
 unfold cGcdV at h
 split at h
 ·rename_i cell
  unfold gcd2 at h
  split at h
  ·rename_i a b e1 e2
   obtain⟨⟨h1,h2⟩,rfl⟩:=h
   have f1:intCell cell 0=a:=by simp[intCell,e1,intOf1]
   have f2:intCell cell 1=b:=by simp[intCell,e2,intOf1]
   refine⟨⟨a,b,e1,e2,h1,h2⟩,?_⟩
   rw[f1,f2];exact rfl
  ·exact h.elim
 ·exact h.elim
noncomputable def man7:FuncId->Option Ctr:=fun k=>match k with
 |110=>some cAbsU
 |109=>some cGcdV
 |137=>some cMul64
 |130=>some cTm
 |131=>some cPl
 |_=>none
theorem man7_ok(k:Nat)(c:Ctr)(h:man7 k=some c):CtrOK Tryz.prog k c/\goodF Tryz.prog k=true:=by
 unfold man7 at h
 split at h<;>first|(cases h;done)|(cases h)
 ·exact⟨cAbsU_ok,by kernel_rfl⟩
 ·exact⟨cGcdV_ok,by kernel_rfl⟩
 ·exact⟨cMul64_ok,by kernel_rfl⟩
 ·exact⟨cTm_ok,by kernel_rfl⟩
 ·exact⟨cPl_ok,by kernel_rfl⟩
noncomputable def C7:Ctx:=ctxN Tryz.prog man7 (fun _=>false) 200 .nil 6
theorem C7_ok:CtxOK Tryz.prog C7:=ctxN_ok mixed man7_ok 6
noncomputable def D7:Dr:=fun _=>drawn Tryz.prog C7
theorem D7_ok:DrOK Tryz.prog C7 D7:=drawn_ok C7_ok mixed
noncomputable def T7(k:Nat)(args:List SV):Tree SV:=fnT Tryz.prog C7 D7 200 (fnOf Tryz.prog k) (bodyOf Tryz.prog k) args .nil
noncomputable def LCp(a b c d:Int):Tree SV :=
 .ite (a==c&&(b==d&&true)) (.ret (iv (0:Int)))
 (.need (((-9223372036854775808:Int)<=c/\c<=(9223372036854775807:Int))/\(-9223372036854775808:Int)<=b/\b<=(9223372036854775807:Int))
  (.need (((-9223372036854775808:Int)<=a/\a<=(9223372036854775807:Int))/\(-9223372036854775808:Int)<=d/\d<=(9223372036854775807:Int))
   (.need
    (((0:Int)<=(↑(Int.natAbs a*Int.natAbs d / 18446744073709551616):Int)/\(↑(Int.natAbs a*Int.natAbs d / 18446744073709551616):Int)<(9223372036854775808:Int)) /\
     ((0:Int)<=(↑(Int.natAbs a*Int.natAbs d%18446744073709551616):Int)/\(↑(Int.natAbs a*Int.natAbs d%18446744073709551616):Int)<(18446744073709551616:Int)) /\
      ((0:Int)<=(↑(Int.natAbs c*Int.natAbs b / 18446744073709551616):Int)/\(↑(Int.natAbs c*Int.natAbs b / 18446744073709551616):Int)<(9223372036854775808:Int)) /\
       (0:Int)<=(↑(Int.natAbs c*Int.natAbs b%18446744073709551616):Int)/\(↑(Int.natAbs c*Int.natAbs b%18446744073709551616):Int)<(18446744073709551616:Int))
    (.ite
     (sN (!decide (a<(0:Int))==decide (d<(0:Int))) (wN (↑(Int.natAbs a*Int.natAbs d / 18446744073709551616):Int) (↑(Int.natAbs a*Int.natAbs d%18446744073709551616):Int))
      (!!decide (c<(0:Int))==decide (b<(0:Int))) (wN (↑(Int.natAbs c*Int.natAbs b / 18446744073709551616):Int) (↑(Int.natAbs c*Int.natAbs b%18446744073709551616):Int)))
     (.ret (iv (-1:Int))) (.ret (iv (1:Int)))))))
theorem LCp_eq(a b c d:Int):T7 122 [.agg [iv a,iv b],.agg [iv c,iv d]]=LCp a b c d:=by kernel_rfl
noncomputable def LVd(a b:Int):Tree SV :=
 .ite (decide (b>=(1:Int))&&decide (b<=(4611686018427387904:Int))&&decide (a>=(-4611686018427387904:Int))&&decide (a<=(4611686018427387904:Int)))
 (.need ((-9223372036854775808:Int)<=a/\a<=(9223372036854775807:Int))
  (.need (2<=List.length [SV.d (DV.x (.int .u64 (↑(Int.natAbs a):Int))),SV.d (DV.x (.int .u64 (IntKind.wrap .u64 b)))])
   (.need ((0:Int)<=(↑(Int.natAbs a):Int)/\(0:Int)<=IntKind.wrap .u64 b) (.ret (bv ((↑(Int.gcd (↑(Int.natAbs a):Int) (IntKind.wrap .u64 b)):Int)==(1:Int)))))))
 (.ret (bv false))
theorem LVd_eq(a b:Int):T7 83 [.agg [iv a,iv b]]=LVd a b:=by kernel_rfl
theorem wN_parts(T:Nat):wN ((T / 18446744073709551616:Nat):Int) ((T%18446744073709551616:Nat):Int)=T:=by unfold wN;omega
theorem len2(a b:SV):2<=[a,b].length:=by simp
theorem parts_b{T:Nat}(h:T<=42535295865117307932921825928971026432):(0<=((T / 18446744073709551616:Nat):Int)/\((T / 18446744073709551616:Nat):Int)<9223372036854775808)/\0<=((T%18446744073709551616:Nat):Int)/\((T%18446744073709551616:Nat):Int)<18446744073709551616:=by omega
theorem mul_b{x y:Nat}(hx:x<=4611686018427387904)(hy:y<=4611686018427387904):x*y<=21267647932558653966460912964485513216:=by
 have:=Nat.mul_le_mul hx hy;omega
theorem cmpU_sat(p q:Rat)(hp:fitsR p)(hq:fitsR q):Sat Tryz.prog (T7 122 [.agg [iv p.num,iv p.den],.agg [iv q.num,iv q.den]]) (·=iv (cmpR p q)):=by
 obtain⟨p1,p2⟩:=hp
 obtain⟨q1,q2⟩:=hq
 constructor
 rw[LCp_eq];unfold LCp
 simp only[wN_parts,nat_neg,natAbs_cast]
 obtain⟨s1,s2,s3⟩:=sum_sg (!(decide (p.num<0)==false)) (p.num.natAbs*q.den) (!!(decide (q.num<0)==false)) (q.num.natAbs*p.den)
 rw[sg_prod2,sg_prod] at s1 s2
 obtain⟨hlt,heq⟩:=rat_cmp p q
 have b1:=parts_b (T:=p.num.natAbs*q.den) (Nat.le_trans (mul_b p1 q2) (by decide))
 have b2:=parts_b (T:=q.num.natAbs*p.den) (Nat.le_trans (mul_b q1 p2) (by decide))
 refine⟨fun hc=>?_,fun hc=>⟨by omega,by omega,⟨b1.1,b1.2,b2.1,b2.2⟩,?_⟩⟩
 ·have hc:p.num=q.num/\p.den=q.den:=by
   simp only[Bool.and_true,Bool.and_eq_true,beq_iff_eq] at hc;exact⟨hc.1,by omega⟩
  have:p=q:=Rat.ext hc.1 hc.2
  rw[cmpR,if_neg (by rw[this];exact Rat.lt_irrefl),if_pos this];exact rfl
 ·have hne:p.num*↑q.den+-(q.num*↑p.den)≠0:=by
   intro h
   have:p=q:=heq.2 (by omega)
   subst this
   simp at hc
  have hs0:sV (!(decide (p.num<0)==false)) (p.num.natAbs*q.den) (!!(decide (q.num<0)==false)) (q.num.natAbs*p.den)≠0:=by rw[s1];omega
  rw[s2 hs0]
  refine⟨fun hs=>?_,fun hs=>?_⟩
  ·have hs:=of_decide_eq_true hs
   rw[cmpR,if_pos (hlt.2 (by omega))];exact rfl
  ·have hs:=of_decide_eq_false hs
   rw[cmpR,if_neg (fun h=>hs (by have:=hlt.1 h;omega)),if_neg (fun h=>hne (by have:=heq.1 h;omega))];exact rfl
noncomputable def cAddU:Ctr:=fun ss=>match ss with
 |[.agg [.d (.x (.int .i64 a)),.d (.x (.int .i64 b))],.agg [.d (.x (.int .i64 c)),.d (.x (.int .i64 d))]]=>.need (VF a b/\VF c d) (.ret (.tup [.agg [iv (rN (ratOf a b+ratOf c d)),iv (rD (ratOf a b+ratOf c d))],iv (rE (ratOf a b+ratOf c d))]))
 |_=>.fail
noncomputable def cCmpU:Ctr:=fun ss=>match ss with
 |[.agg [.d (.x (.int .i64 a)),.d (.x (.int .i64 b))],.agg [.d (.x (.int .i64 c)),.d (.x (.int .i64 d))]]=>.need (VF a b/\VF c d) (.ret (iv (cmpR (ratOf a b) (ratOf c d))))
 |_=>.fail
theorem cCmpU_ok:CtrOK Tryz.prog 122 cCmpU:=by
 refine ctrOK_leS C7_ok D7_ok (by kernel_rfl) (by kernel_rfl) fun ss r h=>?_
 unfold cCmpU at h
 split at h
 ·rename_i a b c d
  obtain⟨⟨h1,h2⟩,rfl⟩:=h
  have:=cmpU_sat _ _ h1.fits h2.fits
  rw[h1.low.num,h1.low.den,h2.low.num,h2.low.den] at this
  exact⟨[.agg [iv a,iv b],.agg [iv c,iv d]],200,.nil,by simp[leSVs,leSV,iv,leD],this⟩
 ·exact h.elim
noncomputable def cValU:Ctr:=fun ss=>match ss with
 |[.agg [.d (.x (.int .i64 a)),.d (.x (.int .i64 b))]]=>.ret (bv (vB a b))
 |_=>.fail
theorem cValU_ok:CtrOK Tryz.prog 83 cValU:=by
 refine ctrOK_leS C7_ok D7_ok (by kernel_rfl) (by kernel_rfl) fun ss r h=>?_
 unfold cValU at h
 split at h
 ·rename_i a b
  obtain rfl:=h
  refine⟨[.agg [iv a,iv b]],200,.nil,by simp[leSVs,leSV,iv,leD],Sat.of_eq (LVd_eq a b) ⟨?_⟩⟩
  unfold LVd
  refine⟨fun h=>⟨?_,len2 _ _,?_,?_⟩,fun h=>?_⟩
  ·simp only[Bool.and_eq_true,decide_eq_true_eq] at h;omega
  ·have:=wu_nonneg b;omega
  ·show bv _=bv _
   refine congrArg bv ?_
   rw[Bool.eq_iff_iff]
   unfold vB
   simp only[Bool.and_eq_true,decide_eq_true_eq,beq_iff_eq] at h ⊢
   rw[wu_of (n:=b) (by omega) (by omega)]
   have:Int.gcd (a.natAbs:Int) b=a.natAbs.gcd b.toNat:=by rw[Int.gcd];congr 1;omega
   constructor
   ·intro h5;exact⟨⟨⟨by omega,by omega⟩,by omega⟩,by omega⟩
   ·rintro⟨_,h5⟩;omega
  ·show bv _=bv _
   refine congrArg bv ?_
   symm
   rw[Bool.eq_false_iff]
   unfold vB
   intro h2
   simp only[Bool.and_eq_true,decide_eq_true_eq] at h2
   rw[Bool.eq_false_iff] at h
   refine h ?_
   simp only[Bool.and_eq_true,decide_eq_true_eq]
   omega
 ·exact h.elim
noncomputable def man9:FuncId->Option Ctr:=fun k=>match k with
 |122=>some cCmpU
 |83=>some cValU
 |121=>some cCmpR
 |112=>some cValR
 |40=>some cMade
 |77=>some cMake
 |_=>none
theorem man9_ok(k:Nat)(c:Ctr)(h:man9 k=some c):CtrOK Tryz.prog k c/\goodF Tryz.prog k=true:=by
 unfold man9 at h
 split at h<;>first|(cases h;done)|(cases h)
 ·exact⟨cCmpU_ok,by kernel_rfl⟩
 ·exact⟨cValU_ok,by kernel_rfl⟩
 ·exact⟨cCmpR_ok,by kernel_rfl⟩
 ·exact⟨cValR_ok,by kernel_rfl⟩
 ·exact⟨cMade_ok,by kernel_rfl⟩
 ·exact⟨cMake_ok,by kernel_rfl⟩
noncomputable def C9:Ctx:=ctxN Tryz.prog man9 (fun _=>false) 200 .nil 6
theorem C9_ok:CtxOK Tryz.prog C9:=ctxN_ok mixed man9_ok 6
noncomputable def D9:Dr:=fun _=>drawn Tryz.prog C9
theorem D9_ok:DrOK Tryz.prog C9 D9:=drawn_ok C9_ok mixed
noncomputable def T9(h:Hint)(k:Nat)(args:List SV):Tree SV:=fnT Tryz.prog C9 D9 200 (fnOf Tryz.prog k) (bodyOf Tryz.prog k) args h
def uN:Nat->Hint->Hint
 |0,h=>.u (.f h)
 |n+1,h=>.u (.t (uN n h))
noncomputable def LMinR(a b c d:Int):Tree SV :=
 .need (VF c d/\VF a b) (.ite (decide (cmpR (ratOf c d) (ratOf a b)<(0:Int))) (.ret (SV.agg [iv c,iv d])) (.ret (SV.agg [iv a,iv b])))
theorem LMinR_eq(a b c d:Int):T9 .nil 96 [.agg [iv a,iv b],.agg [iv c,iv d]]=LMinR a b c d:=by kernel_rfl
noncomputable def LMaxR(a b c d:Int):Tree SV :=
 .need (VF c d/\VF a b) (.ite (decide (cmpR (ratOf c d) (ratOf a b)>(0:Int))) (.ret (SV.agg [iv c,iv d])) (.ret (SV.agg [iv a,iv b])))
theorem LMaxR_eq(a b c d:Int):T9 .nil 97 [.agg [iv a,iv b],.agg [iv c,iv d]]=LMaxR a b c d:=by kernel_rfl
noncomputable def LFrac(a b:Int):Tree SV :=
 .need ((41:Int)≠(0:Int))
 (.need ((6:Int)≠(0:Int))
  (.need
   (((-4611686018427387904:Int)<=w64 (Int.tmod a (41:Int)-(20:Int))/\w64 (Int.tmod a (41:Int)-(20:Int))<=(4611686018427387904:Int)) /\
    (1:Int)<=w64 ((1:Int)+Int.tmod b (6:Int))/\w64 ((1:Int)+Int.tmod b (6:Int))<=(4611686018427387904:Int))
   (.ret
    (SV.agg
     [iv (Rat.num (ratOf (w64 (Int.tmod a (41:Int)-(20:Int))) (w64 ((1:Int)+Int.tmod b (6:Int))))),iv (↑(Rat.den (ratOf (w64 (Int.tmod a (41:Int)-(20:Int))) (w64 ((1:Int)+Int.tmod b (6:Int))))):Int)]))))
theorem LFrac_eq(a b:Int):T9 .nil 95 [iv a,iv b]=LFrac a b:=by kernel_rfl
noncomputable def LAt8(n:Nat)(c:Nat->Int)(i:Int):Tree SV :=
 .ite ((↑n:Int)==(0:Int)) (.ret (iv (0:Int)))
 (.need ((↑n:Int)≠(0:Int)) (.need ((0:Int)<=Int.tmod i (↑n:Int)/\Int.tmod i (↑n:Int)<(↑n:Int)) (.ret (iv (w64 (c (Int.toNat (Int.tmod i (↑n:Int)))))))))
theorem LAt8_eq(n:Nat)(c:Nat->Int)(i:Int):T9 .nil 38 [ro8 n c,iv i]=LAt8 n c i:=by kernel_rfl
noncomputable def oN:Option Rat->Int|some r=>r.num|none=>0
noncomputable def oD:Option Rat->Int|some r=>r.den|none=>0
theorem rN_of{r:Rat}(h:fitsR r):rN r=r.num:=if_pos h
theorem rD_of{r:Rat}(h:fitsR r):rD r=r.den:=if_pos h
theorem rE_of{r:Rat}(h:fitsR r):rE r=0:=if_pos h
theorem rE_no{r:Rat}(h:¬fitsR r):rE r=2:=if_neg h
theorem rN_no{r:Rat}(h:¬fitsR r):rN r=0:=if_neg h
theorem rD_no{r:Rat}(h:¬fitsR r):rD r=0:=if_neg h
noncomputable def hN(o:Option (Rat×Rat)):Int:=oN (o.map Prod.snd)
noncomputable def hD(o:Option (Rat×Rat)):Int:=oD (o.map Prod.snd)
theorem intsOf_eq{k:IntKind}:∀{l:List SV} {ns:List Int},intsOf k l=some ns->l=ns.map fun n=>.d (.x (.int k n))
 |[],ns,h=>by simp[intsOf] at h;subst h;rfl
 |s::r,ns,h=>by
  unfold intsOf at h
  split at h
  ·contradiction
  ·rename_i k' n r' heq
   simp only[List.cons.injEq] at heq
   obtain⟨rfl,rfl⟩:=heq
   split at h
   ·rename_i hk;subst hk
    rw[Option.map_eq_some_iff] at h
    obtain⟨ns',h1,rfl⟩:=h
    rw[intsOf_eq h1];rfl
   ·cases h
  ·cases h
noncomputable def mn(p q:Rat):Rat:=if q<p then q else p
noncomputable def mx(p q:Rat):Rat:=if p<q then q else p
theorem cmpR_pos{p q:Rat}:decide (cmpR p q>0)=decide (q<p):=by
 rw[decide_eq_decide];unfold cmpR
 by_cases h:p<q
 ·rw[if_pos h];exact⟨fun h=>by omega,fun h2=>absurd h2 (Rat.not_lt.2 (Rat.le_of_lt h))⟩
 ·rw[if_neg h]
  by_cases e:p=q
  ·subst e;rw[if_pos rfl];exact⟨fun h=>by omega,fun h2=>absurd h2 Rat.lt_irrefl⟩
  ·rw[if_neg e];exact⟨fun _=>Rat.lt_of_le_of_ne (Rat.not_lt.1 h) (fun e2=>e e2.symm),fun _=>by omega⟩
theorem cmpR_neg{p q:Rat}:decide (cmpR p q<0)=decide (p<q):=by
 rw[decide_eq_decide];unfold cmpR
 by_cases h:p<q
 ·rw[if_pos h];exact⟨fun _=>h,fun _=>by omega⟩
 ·rw[if_neg h]
  by_cases e:p=q
  ·subst e;rw[if_pos rfl];exact⟨fun h=>by omega,fun h2=>absurd h2 h⟩
  ·rw[if_neg e];exact⟨fun h=>by omega,fun h2=>absurd h2 h⟩
theorem cmpR_le{p q:Rat}:decide (cmpR p q<=0)=decide (p<=q):=by
 have:=cmpR_pos (p:=p) (q:=q)
 rw[decide_eq_decide] at this ⊢
 rw[<- Rat.not_lt,<- this];omega
noncomputable def cMin:Ctr:=fun ss=>match ss with
 |[.agg [.d (.x (.int .i64 a)),.d (.x (.int .i64 b))],.agg [.d (.x (.int .i64 c)),.d (.x (.int .i64 d))]]=>.need (VF a b/\VF c d) (.ret (.agg [iv (mn (ratOf a b) (ratOf c d)).num,iv (mn (ratOf a b) (ratOf c d)).den]))
 |_=>.fail
noncomputable def cMax:Ctr:=fun ss=>match ss with
 |[.agg [.d (.x (.int .i64 a)),.d (.x (.int .i64 b))],.agg [.d (.x (.int .i64 c)),.d (.x (.int .i64 d))]]=>.need (VF a b/\VF c d) (.ret (.agg [iv (mx (ratOf a b) (ratOf c d)).num,iv (mx (ratOf a b) (ratOf c d)).den]))
 |_=>.fail
theorem VF.out{a b:Int}(h:VF a b):iv (ratOf a b).num=iv a/\iv ((ratOf a b).den:Int)=iv b:=by rw[h.low.num,h.low.den];exact⟨rfl,rfl⟩
theorem cMinR_ok:CtrOK Tryz.prog 96 cMin:=by
 refine ctrOK_leS C9_ok D9_ok (by kernel_rfl) (by kernel_rfl) fun ss r h=>?_
 unfold cMin at h
 split at h
 ·rename_i a b c d
  obtain⟨⟨h1,h2⟩,rfl⟩:=h
  refine⟨[.agg [iv a,iv b],.agg [iv c,iv d]],200,.nil,by simp[leSVs,leSV,iv,leD],Sat.of_eq (LMinR_eq a b c d) ⟨?_⟩⟩
  unfold LMinR mn
  rw[cmpR_neg]
  refine⟨⟨h2,h1⟩,fun h=>?_,fun h=>?_⟩
  ·rw[if_pos (of_decide_eq_true h),h2.out.1,h2.out.2];exact rfl
  ·rw[if_neg (of_decide_eq_false h),h1.out.1,h1.out.2];exact rfl
 ·exact h.elim
theorem cMaxR_ok:CtrOK Tryz.prog 97 cMax:=by
 refine ctrOK_leS C9_ok D9_ok (by kernel_rfl) (by kernel_rfl) fun ss r h=>?_
 unfold cMax at h
 split at h
 ·rename_i a b c d
  obtain⟨⟨h1,h2⟩,rfl⟩:=h
  refine⟨[.agg [iv a,iv b],.agg [iv c,iv d]],200,.nil,by simp[leSVs,leSV,iv,leD],Sat.of_eq (LMaxR_eq a b c d) ⟨?_⟩⟩
  unfold LMaxR mx
  rw[cmpR_pos]
  refine⟨⟨h2,h1⟩,fun h=>?_,fun h=>?_⟩
  ·rw[if_pos (of_decide_eq_true h),h2.out.1,h2.out.2];exact rfl
  ·rw[if_neg (of_decide_eq_false h),h1.out.1,h1.out.2];exact rfl
 ·exact h.elim
def Byt(n:Nat)(cell:Nat->Nat->DV):Prop:=n<=9223372036854775807/\∀i,i<n->∃b,cell i 0=.x (.int .u8 b)/\0<=b/\b<256
theorem le_ro8{n:Nat}{cell:Nat->Nat->DV}(hb:Byt n cell):∀i j,i<n->j<1->cell i j=.x (.int .u8 (intCell cell i)):=by
 intro i j hi hj
 obtain rfl:j=0:=by omega
 obtain⟨b,e,_⟩:=hb.2 i hi
 simp[intCell,e,intOf1]
theorem Byt.get{n:Nat}{cell:Nat->Nat->DV}(hb:Byt n cell){i:Nat}(hi:i<n):0<=intCell cell i/\intCell cell i<256:=by
 obtain⟨b,e,h⟩:=hb.2 i hi
 simp only[intCell,e,intOf1];exact h
def at8(n:Nat)(c:Nat->Int)(i:Int):Int:=if n=0 then 0 else c (i.toNat%n)
theorem at8_b{n:Nat}{cell:Nat->Nat->DV}(hb:Byt n cell)(i:Int):0<=at8 n (intCell cell) i/\at8 n (intCell cell) i<256:=by
 unfold at8;split
 ·omega
 ·exact hb.get (Nat.mod_lt _ (by omega))
noncomputable def cAt8:Ctr:=fun ss=>match ss with
 |[.d (.ro n 1 cell),.d (.x (.int .i64 i))]=>.need (Byt n cell/\0<=i) (.ret (iv (at8 n (intCell cell) i)))
 |_=>.fail
theorem cAt8_ok:CtrOK Tryz.prog 38 cAt8:=by
 refine ctrOK_leS C9_ok D9_ok (by kernel_rfl) (by kernel_rfl) fun ss r h=>?_
 unfold cAt8 at h
 split at h
 ·rename_i n cell i
  obtain⟨⟨h1,h2⟩,rfl⟩:=h
  refine⟨[ro8 n (intCell cell),iv i],200,.nil,?_,Sat.of_eq (LAt8_eq n (intCell cell) i) ⟨?_⟩⟩
  ·simp only[leSVs,leSV,ro8,iv,leD,and_true,true_and]
   exact le_ro8 h1
  ·unfold LAt8
   refine⟨fun h=>?_,fun h=>?_⟩
   ·have h:n=0:=by simp at h;omega
    rw[at8,if_pos h];exact rfl
   ·have h:n≠0:=by simp at h;omega
    have e:Int.tmod i n=((i.toNat%n:Nat):Int):=by
     rw[tmod_lit h2,Int.natCast_emod];congr 1;omega
    have hl:=Nat.mod_lt i.toNat (show n>0 by omega)
    rw[e,Int.toNat_natCast]
    have hb:=h1.get hl
    rw[w64_of (by omega) (by omega)]
    refine⟨by omega,by omega,?_⟩
    rw[at8,if_neg h];exact rfl
 ·exact h.elim
noncomputable def frQ(a b:Int):Rat:=ratOf (a%41-20) (1+b%6)
noncomputable def cFrac:Ctr:=fun ss=>match ss with
 |[.d (.x (.int .i64 a)),.d (.x (.int .i64 b))]=>.need ((0<=a/\a<256)/\0<=b/\b<256) (.ret (.agg [iv (frQ a b).num,iv (frQ a b).den]))
 |_=>.fail
theorem cFrac_ok:CtrOK Tryz.prog 95 cFrac:=by
 refine ctrOK_leS C9_ok D9_ok (by kernel_rfl) (by kernel_rfl) fun ss r h=>?_
 unfold cFrac at h
 split at h
 ·rename_i a b
  obtain⟨⟨⟨a1,a2⟩,b1,b2⟩,rfl⟩:=h
  refine⟨[iv a,iv b],200,.nil,by simp[leSVs,leSV,iv,leD],Sat.of_eq (LFrac_eq a b) ⟨?_⟩⟩
  unfold LFrac
  rw[tmod_lit a1,tmod_lit b1,w64_of (n:=a%41-20) (by omega) (by omega),w64_of (n:=1+b%6) (by omega) (by omega)]
  exact⟨by decide,by decide,by omega,rfl⟩
 ·exact h.elim
noncomputable def manA:FuncId->Option Ctr:=fun k=>match k with
 |96=>some cMin
 |97=>some cMax
 |38=>some cAt8
 |95=>some cFrac
 |k=>man9 k
theorem manA_ok(k:Nat)(c:Ctr)(h:manA k=some c):CtrOK Tryz.prog k c/\goodF Tryz.prog k=true:=by
 unfold manA at h
 split at h
 ·cases h;exact⟨cMinR_ok,by kernel_rfl⟩
 ·cases h;exact⟨cMaxR_ok,by kernel_rfl⟩
 ·cases h;exact⟨cAt8_ok,by kernel_rfl⟩
 ·cases h;exact⟨cFrac_ok,by kernel_rfl⟩
 ·exact man9_ok _ _ h
noncomputable def CA:Ctx:=ctxN Tryz.prog manA (fun _=>false) 200 .nil 6
theorem CA_ok:CtxOK Tryz.prog CA:=ctxN_ok mixed manA_ok 6
noncomputable def DA:Dr:=fun _=>drawn Tryz.prog CA
theorem DA_ok:DrOK Tryz.prog CA DA:=drawn_ok CA_ok mixed
noncomputable def TA(h:Hint)(k:Nat)(args:List SV):Tree SV:=fnT Tryz.prog CA DA 200 (fnOf Tryz.prog k) (bodyOf Tryz.prog k) args h
noncomputable def LIvl(n:Nat)(c:Nat->Int)(i:Int):Tree SV :=
 .need ((Byt n fun i x=>DV.x (.int .u8 (c i)))/\(0:Int)<=i)
 (.need ((Byt n fun i x=>DV.x (.int .u8 (c i)))/\(0:Int)<=w64 (i+(1:Int)))
  (.need (((0:Int)<=at8 n (fun i=>c i) i/\at8 n (fun i=>c i) i<(256:Int))/\(0:Int)<=at8 n (fun i=>c i) (w64 (i+(1:Int)))/\at8 n (fun i=>c i) (w64 (i+(1:Int)))<(256:Int))
   (.need ((Byt n fun i x=>DV.x (.int .u8 (c i)))/\(0:Int)<=w64 (i+(2:Int)))
    (.need ((Byt n fun i x=>DV.x (.int .u8 (c i)))/\(0:Int)<=w64 (i+(3:Int)))
     (.need
      (((0:Int)<=at8 n (fun i=>c i) (w64 (i+(2:Int)))/\at8 n (fun i=>c i) (w64 (i+(2:Int)))<(256:Int)) /\
       (0:Int)<=at8 n (fun i=>c i) (w64 (i+(3:Int)))/\at8 n (fun i=>c i) (w64 (i+(3:Int)))<(256:Int))
      (.need
       (VF (Rat.num (frQ (at8 n (fun i=>c i) i) (at8 n (fun i=>c i) (w64 (i+(1:Int)))))) (↑(Rat.den (frQ (at8 n (fun i=>c i) i) (at8 n (fun i=>c i) (w64 (i+(1:Int)))))):Int) /\
        VF (Rat.num (frQ (at8 n (fun i=>c i) (w64 (i+(2:Int)))) (at8 n (fun i=>c i) (w64 (i+(3:Int)))))) (↑(Rat.den (frQ (at8 n (fun i=>c i) (w64 (i+(2:Int)))) (at8 n (fun i=>c i) (w64 (i+(3:Int)))))):Int))
       (.need
        (VF (Rat.num (frQ (at8 n (fun i=>c i) i) (at8 n (fun i=>c i) (w64 (i+(1:Int)))))) (↑(Rat.den (frQ (at8 n (fun i=>c i) i) (at8 n (fun i=>c i) (w64 (i+(1:Int)))))):Int) /\
         VF (Rat.num (frQ (at8 n (fun i=>c i) (w64 (i+(2:Int)))) (at8 n (fun i=>c i) (w64 (i+(3:Int))))))
          (↑(Rat.den (frQ (at8 n (fun i=>c i) (w64 (i+(2:Int)))) (at8 n (fun i=>c i) (w64 (i+(3:Int)))))):Int))
        (.ret
         (SV.agg
          [iv
            (Rat.num
             (mn (ratOf (Rat.num (frQ (at8 n (fun i=>c i) i) (at8 n (fun i=>c i) (w64 (i+(1:Int)))))) (↑(Rat.den (frQ (at8 n (fun i=>c i) i) (at8 n (fun i=>c i) (w64 (i+(1:Int)))))):Int))
              (ratOf (Rat.num (frQ (at8 n (fun i=>c i) (w64 (i+(2:Int)))) (at8 n (fun i=>c i) (w64 (i+(3:Int))))))
               (↑(Rat.den (frQ (at8 n (fun i=>c i) (w64 (i+(2:Int)))) (at8 n (fun i=>c i) (w64 (i+(3:Int)))))):Int)))),
           iv
            (↑(Rat.den
               (mn (ratOf (Rat.num (frQ (at8 n (fun i=>c i) i) (at8 n (fun i=>c i) (w64 (i+(1:Int)))))) (↑(Rat.den (frQ (at8 n (fun i=>c i) i) (at8 n (fun i=>c i) (w64 (i+(1:Int)))))):Int))
                (ratOf (Rat.num (frQ (at8 n (fun i=>c i) (w64 (i+(2:Int)))) (at8 n (fun i=>c i) (w64 (i+(3:Int))))))
                 (↑(Rat.den (frQ (at8 n (fun i=>c i) (w64 (i+(2:Int)))) (at8 n (fun i=>c i) (w64 (i+(3:Int)))))):Int)))) :
             Int),
           iv
            (Rat.num
             (mx (ratOf (Rat.num (frQ (at8 n (fun i=>c i) i) (at8 n (fun i=>c i) (w64 (i+(1:Int)))))) (↑(Rat.den (frQ (at8 n (fun i=>c i) i) (at8 n (fun i=>c i) (w64 (i+(1:Int)))))):Int))
              (ratOf (Rat.num (frQ (at8 n (fun i=>c i) (w64 (i+(2:Int)))) (at8 n (fun i=>c i) (w64 (i+(3:Int))))))
               (↑(Rat.den (frQ (at8 n (fun i=>c i) (w64 (i+(2:Int)))) (at8 n (fun i=>c i) (w64 (i+(3:Int)))))):Int)))),
           iv
            (↑(Rat.den
               (mx (ratOf (Rat.num (frQ (at8 n (fun i=>c i) i) (at8 n (fun i=>c i) (w64 (i+(1:Int)))))) (↑(Rat.den (frQ (at8 n (fun i=>c i) i) (at8 n (fun i=>c i) (w64 (i+(1:Int)))))):Int))
                (ratOf (Rat.num (frQ (at8 n (fun i=>c i) (w64 (i+(2:Int)))) (at8 n (fun i=>c i) (w64 (i+(3:Int))))))
                 (↑(Rat.den (frQ (at8 n (fun i=>c i) (w64 (i+(2:Int)))) (at8 n (fun i=>c i) (w64 (i+(3:Int)))))):Int)))) :
             Int)])))))))))
theorem LIvl_eq(n:Nat)(c:Nat->Int)(i:Int):TA .nil 76 [ro8 n c,iv i]=LIvl n c i:=by kernel_rfl
end Go.Proofs.YtanlnopgadbpjaaGreat
namespace Go.Sx
structure Sm(D M:Nat)(q:Rat):Prop where
 pos:0<D
 ex:∃n:Int,q*((D:Int):Rat)=(n:Rat)/\n.natAbs<=M*D
theorem natR_ne{D:Nat}(h:0<D):((D:Int):Rat)≠0:=by
 intro h2
 have:((D:Int):Rat)=((0:Int):Rat):=h2
 rw[Rat.intCast_inj] at this;omega
theorem Sm.eq{D M:Nat}{q:Rat}{n:Int}(hD:0<D)(h:q*((D:Int):Rat)=(n:Rat)):q=mkRat n D:=by
 rw[Rat.mkRat_eq_div]
 have h0:=natR_ne hD
 rw[<- h]
 exact(Rat.mul_div_cancel h0).symm
theorem Sm.bounds{D M:Nat}{q:Rat}(h:Sm D M q):q.num.natAbs<=M*D/\q.den<=D:=by
 obtain⟨hD,n,h1,h2⟩:=h
 have e:=Sm.eq (M:=M) hD h1
 rw[e,Rat.num_mkRat,Rat.den_mkRat,if_neg (by omega),if_neg (by omega)]
 constructor
 ·refine Nat.le_trans ?_ h2
  rw[Int.natAbs_ediv_of_dvd (by rw[Int.ofNat_dvd_left];exact Nat.gcd_dvd_right _ _)]
  exact Nat.div_le_self _ _
 ·exact Nat.div_le_self _ _
theorem ratOf_mul{n d:Int}(hd:1<=d):ratOf n d*(d:Rat)=n:=by
 unfold ratOf
 rw[Rat.mkRat_eq_div]
 have e:((d.toNat:Nat):Rat)=(d:Rat):=by
  rw[<- Rat.intCast_natCast];congr 1;omega
 rw[e]
 refine Rat.div_mul_cancel ?_
 intro h
 have:(d:Rat)=((0:Int):Rat):=h
 rw[Rat.intCast_inj] at this;omega
theorem Sm.ratOf{n d:Int}{D M:Nat}(hd:1<=d)(hD:0<D)(hdv:d.toNat ∣ D)(hn:n.natAbs<=M*d.toNat):Sm D M (ratOf n d):=by
 obtain⟨k,rfl⟩:=hdv
 refine⟨hD,n*k,?_,?_⟩
 ·rw[Int.natCast_mul,Rat.intCast_mul,<- Rat.mul_assoc,Int.toNat_of_nonneg (by omega),ratOf_mul hd,<- Rat.intCast_mul]
 ·rw[Int.natAbs_mul,Int.natAbs_natCast,<- Nat.mul_assoc];exact Nat.mul_le_mul_right _ hn
end Go.Sx
namespace Go.Proofs.YtanlnopgadbpjaaGreat
open Go.Sx
theorem _root_.Go.Sx.Sm.fits{D M:Nat}{q:Rat}(h:Sm D M q)(h1:D<=4611686018427387904)(h2:M*D<=4611686018427387904):fitsR q :=
 ⟨Nat.le_trans h.bounds.1 h2,Nat.le_trans h.bounds.2 h1⟩
theorem _root_.Go.Sx.Sm.mn{D M:Nat}{p q:Rat}(h:Sm D M p)(k:Sm D M q):Sm D M (mn p q):=by unfold Proofs.YtanlnopgadbpjaaGreat.mn;split<;>assumption
theorem _root_.Go.Sx.Sm.mx{D M:Nat}{p q:Rat}(h:Sm D M p)(k:Sm D M q):Sm D M (mx p q):=by unfold Proofs.YtanlnopgadbpjaaGreat.mx;split<;>assumption
theorem dvd60{b:Int}(h1:0<=b):(1+b%6).toNat ∣ 60:=by
 have:b%6=0\/b%6=1\/b%6=2\/b%6=3\/b%6=4\/b%6=5:=by omega
 rcases this with h|h|h|h|h|h<;>rw[h]<;>decide
theorem frQ_sm{a b:Int}(ha:0<=a)(hb:0<=b):Sm 60 20 (frQ a b):=by
 unfold frQ
 refine Sm.ratOf (by omega) (by decide) (dvd60 hb) ?_
 have:1<=(1+b%6).toNat:=by omega
 omega
noncomputable def linQ(n:Nat)(c:Nat->Int)(j:Nat):Rat:=frQ (at8 n c (2*j:Nat)) (at8 n c (2*j+1:Nat))
theorem linQ_sm{n:Nat}{cell:Nat->Nat->DV}(h:Byt n cell)(j:Nat):Sm 60 20 (linQ n (intCell cell) j):=frQ_sm (at8_b h _).1 (at8_b h _).1
theorem linQ_fits{n:Nat}{cell:Nat->Nat->DV}(h:Byt n cell)(j:Nat):fitsR (linQ n (intCell cell) j):=(linQ_sm h j).fits (by decide) (by decide)
noncomputable def loQ(n:Nat)(c:Nat->Int)(j:Nat):Rat:=mn (linQ n c (2*j)) (linQ n c (2*j+1))
noncomputable def hiQ(n:Nat)(c:Nat->Int)(j:Nat):Rat:=mx (linQ n c (2*j)) (linQ n c (2*j+1))
theorem loQ_sm{n:Nat}{cell:Nat->Nat->DV}(h:Byt n cell)(j:Nat):Sm 60 20 (loQ n (intCell cell) j):=(linQ_sm h _).mn (linQ_sm h _)
theorem hiQ_sm{n:Nat}{cell:Nat->Nat->DV}(h:Byt n cell)(j:Nat):Sm 60 20 (hiQ n (intCell cell) j):=(linQ_sm h _).mx (linQ_sm h _)
theorem mn_le{p q:Rat}:mn p q<=p/\mn p q<=q:=by unfold mn;split<;>grind
theorem le_mx{p q:Rat}:p<=mx p q/\q<=mx p q:=by unfold mx;split<;>grind
theorem mn_mx{p q:Rat}:mn p q<=mx p q:=Rat.le_trans mn_le.1 le_mx.1
theorem loQ_le{n:Nat}{c:Nat->Int}(j:Nat):loQ n c j<=hiQ n c j:=mn_mx
theorem byt_ro{n:Nat}{cell:Nat->Nat->DV}(h:Byt n cell):Byt n fun i x=>.x (.int .u8 (intCell cell i)):=⟨h.1,fun i hi=>⟨_,rfl,h.get hi⟩⟩
theorem at8_ro{n:Nat}{cell:Nat->Nat->DV}(h:Byt n cell)(i:Int):0<=at8 n (fun i=>intCell cell i) i/\at8 n (fun i=>intCell cell i) i<256:=at8_b h i
noncomputable def cLin:Ctr:=fun ss=>match ss with
 |[.d (.ro n 1 cell)]=>.need (Byt n cell) (.ret (.agg [iv (linQ n (intCell cell) 0).num,iv (linQ n (intCell cell) 0).den,iv (linQ n (intCell cell) 1).num,iv (linQ n (intCell cell) 1).den,iv (linQ n (intCell cell) 2).num,iv (linQ n (intCell cell) 2).den,iv (linQ n (intCell cell) 3).num,iv (linQ n (intCell cell) 3).den]))
 |_=>.fail
noncomputable def cIvl:Ctr:=fun ss=>match ss with
 |[.d (.ro n 1 cell),.d (.x (.int .i64 i))]=>.need (Byt n cell/\0<=i/\i<1000000/\i%4=0) (.ret (.agg [iv (loQ n (intCell cell) (i / 4).toNat).num,iv (loQ n (intCell cell) (i / 4).toNat).den,iv (hiQ n (intCell cell) (i / 4).toNat).num,iv (hiQ n (intCell cell) (i / 4).toNat).den]))
 |_=>.fail
theorem cIvl_ok:CtrOK Tryz.prog 76 cIvl:=by
 refine ctrOK_leS CA_ok DA_ok (by kernel_rfl) (by kernel_rfl) fun ss r h=>?_
 unfold cIvl at h
 split at h
 ·rename_i n cell i
  obtain⟨⟨h1,i0,i1,i4⟩,rfl⟩:=h
  refine⟨[ro8 n (intCell cell),iv i],200,.nil,?_,Sat.of_eq (LIvl_eq n (intCell cell) i) ⟨?_⟩⟩
  ·simp only[leSVs,leSV,ro8,iv,leD,and_true,true_and]
   exact le_ro8 h1
  ·unfold LIvl
   have a:=at8_ro h1
   have b:=byt_ro h1
   obtain⟨j,hj⟩:∃j:Nat,i=4*j:=⟨(i / 4).toNat,by omega⟩
   have ej:(i / 4).toNat=j:=by omega
   rw[ej,w64_of (n:=i+1) (by omega) (by omega),w64_of (n:=i+2) (by omega) (by omega),w64_of (n:=i+3) (by omega) (by omega)]
   have e1:frQ (at8 n (fun i=>intCell cell i) i) (at8 n (fun i=>intCell cell i) (i+1))=linQ n (intCell cell) (2*j):=by
    unfold linQ;rw[show(i:Int)=((2*(2*j):Nat):Int) by omega];rfl
   have e2:frQ (at8 n (fun i=>intCell cell i) (i+2)) (at8 n (fun i=>intCell cell i) (i+3))=linQ n (intCell cell) (2*j+1):=by
    unfold linQ;rw[show i+2=((2*(2*j+1):Nat):Int) by omega,show i+3=((2*(2*j+1)+1:Nat):Int) by omega]
   simp only[e1,e2,ratOf_rat]
   have v1:=VF.of (linQ_fits h1 (2*j))
   have v2:=VF.of (linQ_fits h1 (2*j+1))
   exact⟨⟨b,by omega⟩,⟨b,by omega⟩,⟨a _,a _⟩,⟨b,by omega⟩,⟨b,by omega⟩,⟨a _,a _⟩,⟨v1,v2⟩,⟨v1,v2⟩,rfl⟩
 ·exact h.elim
noncomputable def manB:FuncId->Option Ctr:=fun k=>match k with
 |76=>some cIvl
 |k=>manA k
theorem manB_ok(k:Nat)(c:Ctr)(h:manB k=some c):CtrOK Tryz.prog k c/\goodF Tryz.prog k=true:=by
 unfold manB at h
 split at h
 ·cases h;exact⟨cIvl_ok,by kernel_rfl⟩
 ·exact manA_ok _ _ h
instance (a b : Int) : Decidable (VF a b) := decidable_of_iff _ vB_iff
noncomputable def CB:Ctx:=ctxN Tryz.prog manB (fun _=>false) 200 .nil 6
theorem CB_ok:CtxOK Tryz.prog CB:=ctxN_ok mixed manB_ok 6
noncomputable def DB:Dr:=fun _=>drawn Tryz.prog CB
theorem DB_ok:DrOK Tryz.prog CB DB:=drawn_ok CB_ok mixed
noncomputable def TB(h:Hint)(k:Nat)(args:List SV):Tree SV:=fnT Tryz.prog CB DB 200 (fnOf Tryz.prog k) (bodyOf Tryz.prog k) args h
noncomputable def LVi(a b c d:Int):Tree SV :=
 .need ((vB a b&&vB c d)=true->VF a b/\VF c d) (.ret (bv (vB a b&&vB c d&&decide (cmpR (ratOf a b) (ratOf c d)<=(0:Int)))))
theorem LVi_eq(a b c d:Int):TB .nil 108 [.agg [iv a,iv b,iv c,iv d]]=LVi a b c d:=by kernel_rfl
noncomputable def LViR(a b c d:Int):Tree SV :=
 .need ((vB a b&&vB c d)=true->VF a b/\VF c d) (.ret (bv (vB a b&&vB c d&&decide (cmpR (ratOf a b) (ratOf c d)<=(0:Int)))))
theorem LViR_eq(a b c d:Int):TB .nil 123 [.agg [iv a,iv b,iv c,iv d]]=LViR a b c d:=by kernel_rfl
noncomputable def cCont:Ctr:=fun ss=>match ss with
 |[.agg [.d (.x (.int .i64 a)),.d (.x (.int .i64 b)),.d (.x (.int .i64 c)),.d (.x (.int .i64 d))],.agg [.d (.x (.int .i64 e)),.d (.x (.int .i64 f))]]=>.need (VF a b/\VF c d/\VF e f)
   (.ret (bv (decide (ratOf a b<=ratOf e f)&&decide (ratOf e f<=ratOf c d))))
 |_=>.fail
noncomputable def cVi:Ctr:=fun ss=>match ss with
 |[.agg [.d (.x (.int .i64 a)),.d (.x (.int .i64 b)),.d (.x (.int .i64 c)),.d (.x (.int .i64 d))]]=>.ret (bv (vB a b&&vB c d&&decide (ratOf a b<=ratOf c d)))
 |_=>.fail
theorem cVi_ok:CtrOK Tryz.prog 108 cVi:=by
 refine ctrOK_leS CB_ok DB_ok (by kernel_rfl) (by kernel_rfl) fun ss r h=>?_
 unfold cVi at h
 split at h
 ·rename_i a b c d
  obtain rfl:=h
  refine⟨[.agg [iv a,iv b,iv c,iv d]],200,.nil,by simp[leSVs,leSV,iv,leD],Sat.of_eq (LVi_eq a b c d) ⟨?_⟩⟩
  unfold LVi
  rw[cmpR_le]
  refine⟨fun h=>?_,rfl⟩
  rw[Bool.and_eq_true] at h;exact⟨vB_iff.1 h.1,vB_iff.1 h.2⟩
 ·exact h.elim
theorem cViR_ok:CtrOK Tryz.prog 123 cVi:=by
 refine ctrOK_leS CB_ok DB_ok (by kernel_rfl) (by kernel_rfl) fun ss r h=>?_
 unfold cVi at h
 split at h
 ·rename_i a b c d
  obtain rfl:=h
  refine⟨[.agg [iv a,iv b,iv c,iv d]],200,.nil,by simp[leSVs,leSV,iv,leD],Sat.of_eq (LViR_eq a b c d) ⟨?_⟩⟩
  unfold LViR
  rw[cmpR_le]
  refine⟨fun h=>?_,rfl⟩
  rw[Bool.and_eq_true] at h;exact⟨vB_iff.1 h.1,vB_iff.1 h.2⟩
 ·exact h.elim
noncomputable def manC:FuncId->Option Ctr:=fun k=>match k with
 |108=>some cVi
 |123=>some cVi
 |k=>manB k
theorem manC_ok(k:Nat)(c:Ctr)(h:manC k=some c):CtrOK Tryz.prog k c/\goodF Tryz.prog k=true:=by
 unfold manC at h
 split at h
 ·cases h;exact⟨cVi_ok,by kernel_rfl⟩
 ·cases h;exact⟨cViR_ok,by kernel_rfl⟩
 ·exact manB_ok _ _ h
noncomputable def CC:Ctx:=ctxN Tryz.prog manC (fun _=>false) 200 .nil 6
theorem CC_ok:CtxOK Tryz.prog CC:=ctxN_ok mixed manC_ok 6
noncomputable def DC:Dr:=fun _=>drawn Tryz.prog CC
theorem DC_ok:DrOK Tryz.prog CC DC:=drawn_ok CC_ok mixed
noncomputable def TC(h:Hint)(k:Nat)(args:List SV):Tree SV:=fnT Tryz.prog CC DC 200 (fnOf Tryz.prog k) (bodyOf Tryz.prog k) args h
noncomputable def LBox(n:Nat)(c:Nat->Int):Tree SV :=
 .need ((Byt n fun i x=>DV.x (.int .u8 (c i)))/\(0:Int)<=(0:Int)/\(0:Int)<(1000000:Int)/\(0:Int)=(0:Int))
 (.need ((Byt n fun i x=>DV.x (.int .u8 (c i)))/\(0:Int)<=(4:Int)/\(4:Int)<(1000000:Int)/\(0:Int)=(0:Int))
  (.need ((Byt n fun i x=>DV.x (.int .u8 (c i)))/\(0:Int)<=(8:Int)/\(8:Int)<(1000000:Int)/\(0:Int)=(0:Int))
   (.ret
    (SV.agg
     [iv (Rat.num (loQ n (fun i=>c i) 0)),iv (↑(Rat.den (loQ n (fun i=>c i) 0)):Int),iv (Rat.num (hiQ n (fun i=>c i) 0)),iv (↑(Rat.den (hiQ n (fun i=>c i) 0)):Int),
      iv (Rat.num (loQ n (fun i=>c i) 1)),iv (↑(Rat.den (loQ n (fun i=>c i) 1)):Int),iv (Rat.num (hiQ n (fun i=>c i) 1)),iv (↑(Rat.den (hiQ n (fun i=>c i) 1)):Int),
      iv (Rat.num (loQ n (fun i=>c i) 2)),iv (↑(Rat.den (loQ n (fun i=>c i) 2)):Int),iv (Rat.num (hiQ n (fun i=>c i) 2)),iv (↑(Rat.den (hiQ n (fun i=>c i) 2)):Int)]))))
theorem LBox_eq(n:Nat)(c:Nat->Int):TC .nil 39 [ro8 n c]=LBox n c:=by kernel_rfl
noncomputable def cWi:Ctr:=fun ss=>match ss with
 |[.agg [.d (.x (.int .i64 a)),.d (.x (.int .i64 b)),.d (.x (.int .i64 c)),.d (.x (.int .i64 d))],.agg [.d (.x (.int .i64 e)),.d (.x (.int .i64 f)),.d (.x (.int .i64 g)),.d (.x (.int .i64 h))]]=>.need (VF a b/\VF c d/\VF e f/\VF g h)
   (.ret (bv (decide (ratOf e f<=ratOf a b)&&decide (ratOf a b<=ratOf g h)&&(decide (ratOf e f<=ratOf c d)&&decide (ratOf c d<=ratOf g h)))))
 |_=>.fail
noncomputable def cBox:Ctr:=fun ss=>match ss with
 |[.d (.ro n 1 cell)]=>.need (Byt n cell) (.ret (.agg [iv (loQ n (intCell cell) 0).num,iv (loQ n (intCell cell) 0).den,iv (hiQ n (intCell cell) 0).num,iv (hiQ n (intCell cell) 0).den,
   iv (loQ n (intCell cell) 1).num,iv (loQ n (intCell cell) 1).den,iv (hiQ n (intCell cell) 1).num,iv (hiQ n (intCell cell) 1).den,
   iv (loQ n (intCell cell) 2).num,iv (loQ n (intCell cell) 2).den,iv (hiQ n (intCell cell) 2).num,iv (hiQ n (intCell cell) 2).den]))
 |_=>.fail
theorem cBox_ok:CtrOK Tryz.prog 39 cBox:=by
 refine ctrOK_leS CC_ok DC_ok (by kernel_rfl) (by kernel_rfl) fun ss r h=>?_
 unfold cBox at h
 split at h
 ·rename_i n cell
  obtain⟨h1,rfl⟩:=h
  refine⟨[ro8 n (intCell cell)],200,.nil,?_,Sat.of_eq (LBox_eq n (intCell cell)) ⟨?_⟩⟩
  ·simp only[leSVs,leSV,ro8,leD,and_true,true_and]
   exact le_ro8 h1
  ·unfold LBox
   have b:=byt_ro h1
   exact⟨⟨b,by decide⟩,⟨b,by decide⟩,⟨b,by decide⟩,rfl⟩
 ·exact h.elim
noncomputable def manE:FuncId->Option Ctr:=fun k=>match k with
 |39=>some cBox
 |k=>manC k
theorem manE_ok(k:Nat)(c:Ctr)(h:manE k=some c):CtrOK Tryz.prog k c/\goodF Tryz.prog k=true:=by
 unfold manE at h
 split at h
 ·cases h;exact⟨cBox_ok,by kernel_rfl⟩
 ·exact manC_ok _ _ h
noncomputable def manF:FuncId->Option Ctr:=fun k=>manE k
theorem manF_ok(k:Nat)(c:Ctr)(h:manF k=some c):CtrOK Tryz.prog k c/\goodF Tryz.prog k=true:=by
 unfold manF at h
 exact manE_ok _ _ h
theorem wf_u8{i:Int}(h:(Lit.int .u8 i).wf=true):0<=i/\i<256:=by
 simp[Lit.wf,IntKind.min,IntKind.max,IntKind.signed,IntKind.bits] at h;omega
theorem cells5:Tryz.prog.cellsOf 5=1:=by kernel_rfl
theorem okBytes{ds:List DV}{n:Nat}(h:okT Tryz.prog (n+2) 22 ds):∃m cell,Byt m cell/\ds=[.ro m 1 cell]:=by
 simp[okT,Tryz.underlying22,Tryz.underlying5,cells5] at h
 obtain⟨m,hm,cell,rfl,hc⟩:=h
 refine⟨m,cell,⟨hm,fun i hi=>?_⟩,by rfl⟩
 obtain⟨b,hb,e⟩:=hc i hi
 exact⟨b,by simpa using e,wf_u8 hb⟩
theorem sat_need{α:Type}{P:Program}{p:Prop}{t:Tree α}{Q:α->Prop}:(Tree.need p t).sat P Q=(p/\t.sat P Q):=rfl
theorem sat_ite{α:Type}{P:Program}{b:Bool}{t e:Tree α}{Q:α->Prop}:(Tree.ite b t e).sat P Q=((b=true->t.sat P Q)/\(b=false->e.sat P Q)):=rfl
theorem sat_ret{α:Type}{P:Program}{a:α}{Q:α->Prop}:(Tree.ret a).sat P Q=Q a:=rfl
noncomputable def inlG(k:Nat):Bool:=k==134||k==107||k==70163
noncomputable def CG:Ctx:=ctxN Tryz.prog manF inlG 200 .nil 6
theorem CG_ok:CtxOK Tryz.prog CG:=ctxN_ok mixed manF_ok 6
noncomputable def DG:Dr:=fun _=>drawn Tryz.prog CG
theorem DG_ok:DrOK Tryz.prog CG DG:=drawn_ok CG_ok mixed
noncomputable def TG(h:Hint)(k:Nat)(args:List SV):Tree SV:=fnT Tryz.prog CG DG 200 (fnOf Tryz.prog k) (bodyOf Tryz.prog k) args h
def eachH:Nat->Hint
 |0=>.u (.f .nil)
 |n+1=>.u (.t (.br .nil (eachH n)))
noncomputable def LVx_q1(a0:Int)(a1:Int):Rat :=
 ratOf a0 a1
noncomputable def LVx_q2(a2:Int)(a3:Int):Rat :=
 ratOf a2 a3
noncomputable def LVx_q3(b0:Int)(b1:Int):Rat :=
 ratOf b0 b1
noncomputable def LVx_q4(b2:Int)(b3:Int):Rat :=
 ratOf b2 b3
noncomputable def LVx_q5(c0:Int)(c1:Int):Rat :=
 ratOf c0 c1
noncomputable def LVx_q6(c2:Int)(c3:Int):Rat :=
 ratOf c2 c3
noncomputable def LVx(a0 a1 a2 a3 b0 b1 b2 b3 c0 c1 c2 c3:Int):Tree SV :=
  .need (True/\True)
  (.need (true=true)
   (.need ((0:Int)<=(0:Int)/\(0:Int)<(3:Int))
   (.need (0<3)
   (.ite (!(vB a0 a1&&vB a2 a3&&decide (LVx_q1 a0 a1<=LVx_q2 a2 a3))) (.ret (bv false))
   (.need (true=true)
   (.need ((0:Int)<=(1:Int)/\(1:Int)<(3:Int))
   (.need (1<3)
   (.ite (!(vB b0 b1&&vB b2 b3&&decide (LVx_q3 b0 b1<=LVx_q4 b2 b3))) (.ret (bv false))
   (.need (true=true)
   (.need ((0:Int)<=(2:Int)/\(2:Int)<(3:Int))
   (.need (2<3) (.ite (!(vB c0 c1&&vB c2 c3&&decide (LVx_q5 c0 c1<=LVx_q6 c2 c3))) (.ret (bv false)) (.need (false=false) (.ret (bv true)))))))))))))))
theorem LVx_eq(a0 a1 a2 a3 b0 b1 b2 b3 c0 c1 c2 c3:Int):TG (eachH 3) 82 [.agg [iv a0,iv a1,iv a2,iv a3,iv b0,iv b1,iv b2,iv b3,iv c0,iv c1,iv c2,iv c3]]=LVx a0 a1 a2 a3 b0 b1 b2 b3 c0 c1 c2 c3:=by kernel_rfl
noncomputable def LVxR_q1(a0:Int)(a1:Int):Rat :=
 ratOf a0 a1
noncomputable def LVxR_q2(a2:Int)(a3:Int):Rat :=
 ratOf a2 a3
noncomputable def LVxR_q3(b0:Int)(b1:Int):Rat :=
 ratOf b0 b1
noncomputable def LVxR_q4(b2:Int)(b3:Int):Rat :=
 ratOf b2 b3
noncomputable def LVxR_q5(c0:Int)(c1:Int):Rat :=
 ratOf c0 c1
noncomputable def LVxR_q6(c2:Int)(c3:Int):Rat :=
 ratOf c2 c3
noncomputable def LVxR(a0 a1 a2 a3 b0 b1 b2 b3 c0 c1 c2 c3:Int):Tree SV :=
  .ret
  (bv
   (vB a0 a1&&vB a2 a3&&decide (LVxR_q1 a0 a1<=LVxR_q2 a2 a3)&&(vB b0 b1&&vB b2 b3&&decide (LVxR_q3 b0 b1<=LVxR_q4 b2 b3)) &&
   (vB c0 c1&&vB c2 c3&&decide (LVxR_q5 c0 c1<=LVxR_q6 c2 c3))))
theorem LVxR_eq(a0 a1 a2 a3 b0 b1 b2 b3 c0 c1 c2 c3:Int):TG .nil 111 [.agg [iv a0,iv a1,iv a2,iv a3,iv b0,iv b1,iv b2,iv b3,iv c0,iv c1,iv c2,iv c3]]=LVxR a0 a1 a2 a3 b0 b1 b2 b3 c0 c1 c2 c3:=by kernel_rfl
noncomputable def quad:Option Rat->Option Rat->Option Rat->Option Rat->Option (Rat×Rat×Rat×Rat)
 |some a,some b,some c,some d=>some (a,b,c,d)
 |_,_,_,_=>none
noncomputable def k0(o:Option (Rat×Rat×Rat×Rat)):Option Rat:=o.map fun x=>x.1
noncomputable def k1(o:Option (Rat×Rat×Rat×Rat)):Option Rat:=o.map fun x=>x.2.1
noncomputable def k2(o:Option (Rat×Rat×Rat×Rat)):Option Rat:=o.map fun x=>x.2.2.1
noncomputable def lnI(b:Bool)(x:Int):Int:=bif b then x else 0
noncomputable def cLn:Ctr:=fun ss=>match ss with
 |[.agg l]=>match intsOf .i64 l with
  |some [a,b,c,d,e,f,g,h,i,j,k,l]=>.ret (.agg [iv (lnI (c==0&&f==0&&i==0&&l==0) a),iv (lnI (c==0&&f==0&&i==0&&l==0) b),iv (lnI (c==0&&f==0&&i==0&&l==0) d),iv (lnI (c==0&&f==0&&i==0&&l==0) e),
    iv (lnI (c==0&&f==0&&i==0&&l==0) g),iv (lnI (c==0&&f==0&&i==0&&l==0) h),iv (lnI (c==0&&f==0&&i==0&&l==0) j),iv (lnI (c==0&&f==0&&i==0&&l==0) k),iv (bif (c==0&&f==0&&i==0&&l==0) then 0 else 2)])
  |_=>.fail
 |_=>.fail
noncomputable def viB(a b c d:Int):Bool:=vB a b&&vB c d&&decide (ratOf a b<=ratOf c d)
noncomputable def cVbx:Ctr:=fun ss=>match ss with
 |[.agg l]=>match intsOf .i64 l with
  |some [a0,a1,a2,a3,b0,b1,b2,b3,c0,c1,c2,c3]=>.ret (bv (viB a0 a1 a2 a3&&viB b0 b1 b2 b3&&viB c0 c1 c2 c3))
  |_=>.fail
 |_=>.fail
theorem cVbx_ok:CtrOK Tryz.prog 82 cVbx:=by
 refine ctrOK_leS CG_ok DG_ok (by kernel_rfl) (by kernel_rfl) fun ss r hh=>?_
 unfold cVbx at hh
 split at hh
 ·split at hh
  ·rename_i a0 a1 a2 a3 b0 b1 b2 b3 c0 c1 c2 c3 e1
   obtain rfl:=hh
   rw[intsOf_eq e1]
   refine⟨_,200,eachH 3,by simp[leSVs,leSV,iv,leD],Sat.of_eq (LVx_eq a0 a1 a2 a3 b0 b1 b2 b3 c0 c1 c2 c3) ⟨?_⟩⟩
   unfold LVx
   simp only[sat_need,sat_ite,sat_ret]
   rw[show viB a0 a1 a2 a3=(vB a0 a1&&vB a2 a3&&decide (LVx_q1 a0 a1<=LVx_q2 a2 a3)) from rfl,show viB b0 b1 b2 b3=(vB b0 b1&&vB b2 b3&&decide (LVx_q3 b0 b1<=LVx_q4 b2 b3)) from rfl,show viB c0 c1 c2 c3=(vB c0 c1&&vB c2 c3&&decide (LVx_q5 c0 c1<=LVx_q6 c2 c3)) from rfl]
   generalize (vB a0 a1&&vB a2 a3&&decide (LVx_q1 a0 a1<=LVx_q2 a2 a3))=x
   generalize (vB b0 b1&&vB b2 b3&&decide (LVx_q3 b0 b1<=LVx_q4 b2 b3))=y
   generalize (vB c0 c1&&vB c2 c3&&decide (LVx_q5 c0 c1<=LVx_q6 c2 c3))=z
   cases x<;>cases y<;>cases z<;>simp
  ·exact hh.elim
 ·exact hh.elim
theorem cVbxR_ok:CtrOK Tryz.prog 111 cVbx:=by
 refine ctrOK_leS CG_ok DG_ok (by kernel_rfl) (by kernel_rfl) fun ss r hh=>?_
 unfold cVbx at hh
 split at hh
 ·split at hh
  ·rename_i a0 a1 a2 a3 b0 b1 b2 b3 c0 c1 c2 c3 e1
   obtain rfl:=hh
   rw[intsOf_eq e1]
   exact⟨_,200,.nil,by simp[leSVs,leSV,iv,leD],Sat.of_eq (LVxR_eq a0 a1 a2 a3 b0 b1 b2 b3 c0 c1 c2 c3) ⟨rfl⟩⟩
  ·exact hh.elim
 ·exact hh.elim
noncomputable def manH:FuncId->Option Ctr:=fun k=>match k with
 |82=>some cVbx
 |111=>some cVbx
 |k=>manF k
theorem manH_ok(k:Nat)(c:Ctr)(h:manH k=some c):CtrOK Tryz.prog k c/\goodF Tryz.prog k=true:=by
 unfold manH at h
 split at h
 ·cases h;exact⟨cVbx_ok,by kernel_rfl⟩
 ·cases h;exact⟨cVbxR_ok,by kernel_rfl⟩
 ·exact manF_ok _ _ h
noncomputable def manI:FuncId->Option Ctr:=fun k=>manH k
theorem manI_ok(k:Nat)(c:Ctr)(h:manI k=some c):CtrOK Tryz.prog k c/\goodF Tryz.prog k=true:=by
 unfold manI at h
 exact manH_ok _ _ h
def qR(n d:Int):Rat:=if d<0 then ratOf (-n) (-d) else ratOf n d
theorem qR_half{a b:Int}(hb:b≠0)(h1:a%2=0)(h2:b%2=0):qR (a / 2) (b / 2)=qR a b:=by
 unfold qR
 by_cases h:b<0
 ·rw[if_pos h,if_pos (by omega),<- ratOf_half (a:=-a) (b:=-b) (by omega) (by omega) (by omega)]
  congr 1<;>omega
 ·rw[if_neg h,if_neg (by omega)]
  exact ratOf_half (by omega) h1 h2
theorem qR_zero{b:Int}:qR 0 b=0:=by
 unfold qR;split<;>(unfold ratOf;exact Rat.zero_mkRat _)
theorem qR_parts{a b:Int}(hb:b≠0):(qR a b).num.natAbs=a.natAbs / a.natAbs.gcd b.natAbs/\(qR a b).den=b.natAbs / a.natAbs.gcd b.natAbs/\((decide (a<0) != decide (b<0))=true->(qR a b).num<=0)/\((decide (a<0) != decide (b<0))=false->0<=(qR a b).num):=by
 have key:∀{n d:Int},0<d->(ratOf n d).num.natAbs=n.natAbs / n.natAbs.gcd d.natAbs/\(ratOf n d).den=d.natAbs / n.natAbs.gcd d.natAbs/\(n<=0->(ratOf n d).num<=0)/\(0<=n->0<=(ratOf n d).num):=by
  intro n d hd
  obtain⟨r1,r2⟩:=ratOf_red (n:=n) hd rfl
  have e:d.toNat=d.natAbs:=by omega
  rw[e] at r1 r2
  refine⟨by rw[r1,Int.natAbs_tdiv];rfl,?_,fun h=>?_,fun h=>?_⟩
  ·have hd0:0<=d:=by omega
   rw[Int.tdiv_eq_ediv_of_nonneg hd0] at r2
   obtain⟨D,rfl⟩:=Int.eq_ofNat_of_zero_le hd0
   rw[Int.natAbs_natCast] at *
   rw[<- Int.natCast_ediv] at r2
   omega
  ·rw[r1]
   have:=Int.tdiv_nonneg (a:=-n) (b:=((n.natAbs.gcd d.natAbs:Nat):Int)) (by omega) (by omega)
   rw[Int.neg_tdiv] at this;omega
  ·rw[r1];exact Int.tdiv_nonneg h (Int.natCast_nonneg _)
 unfold qR
 by_cases h:b<0
 ·rw[if_pos h]
  obtain⟨k1,k2,k3,k4⟩:=key (n:=-a) (d:=-b) (by omega)
  rw[Int.natAbs_neg,Int.natAbs_neg] at k1 k2
  refine⟨k1,k2,fun hx=>k3 ?_,fun hx=>k4 ?_⟩
  ·simp only[h,decide_true,bne_iff_ne,ne_eq,decide_eq_true_eq] at hx
   simp at hx;omega
  ·simp only[h,decide_true] at hx
   simp at hx;omega
 ·rw[if_neg h]
  obtain⟨k1,k2,k3,k4⟩:=key (n:=a) (d:=b) (by omega)
  refine⟨k1,k2,fun hx=>k3 ?_,fun hx=>k4 ?_⟩
  ·simp only[h,decide_false] at hx
   simp at hx;omega
  ·simp only[h,decide_false] at hx
   simp at hx;omega
theorem odd_gcd{n:Nat}(h:n%2=1):(9223372036854775808:Nat).gcd n=1:=by
 rw[show(9223372036854775808:Nat)=2^63 by decide]
 have:Nat.Coprime 2 n:=by
  unfold Nat.Coprime
  rw[Nat.gcd_rec,h];decide
 exact Nat.Coprime.pow_left 63 this
abbrev I64(n:Int):Prop:=-9223372036854775808<=n/\n<=9223372036854775807
theorem makeG_sat{n d:Int}(hn:I64 n)(hd:I64 d)(h0:d≠0):Sat Tryz.prog (tMake n d) (·=.agg [iv (rN (qR n d)),iv (rD (qR n d)),iv (rE (qR n d))]):=by
 constructor
 rw[LMake_eq];unfold LMake
 refine⟨fun hc=>by simp only[beq_iff_eq] at hc;omega,fun hc=>?_⟩
 refine code_satS C1_ok D1_ok (n:=200) (n0:=1) (nx:=1) (roots:=[]) (keep:=[4,5,6]) (drop:=[]) (h:=.nil) (c:=codeC (sub [1] (tMake n d))) (st:=codeS (sub [1] (tMake n d))) (k:=codeK (sub [1] (tMake n d))) (body:=bodyMake) (by kernel_rfl) (by kernel_rfl)
  (fun q s=>∃a b:Int,q=b.natAbs/\I64 a/\I64 b/\b≠0/\qR a b=qR n d/\s=invMake a b)
  (fun e s=>∃a b:Int,e=.exit 0/\I64 a/\I64 b/\b≠0/\(a≠0->¬(a%2=0/\b%2=0))/\qR a b=qR n d/\s=invMake a b)
  ⟨_,_,⟨n,d,rfl,hn,hd,h0,rfl,rfl⟩,?_⟩ ?_ ?_
 ·exact entA_sound (roots:=[]) (keep:=[4,5,6]) (drop:=[]) (nx:=1) (h:=.nil) (by kernel_rfl)
 ·rintro q s ⟨a,b,hq,ha,hb,hb0,he,rfl⟩
  refine Sat.of_eq (BMake_eq a b) ?_
  constructor
  unfold BMake
  refine⟨by decide,fun _=>by decide,fun hc=>?_,fun hc=>?_⟩
  ·simp only[Bool.and_eq_true,beq_iff_eq,bne_iff_ne,ne_eq,tmod2] at hc
   obtain⟨⟨h1,h2⟩,h3⟩:=hc
   rw[tdiv2 h1,tdiv2 h2,w64_of (n:=a / 2) (by omega) (by omega),w64_of (n:=b / 2) (by omega) (by omega)]
   exact⟨by decide,by decide,(b / 2).natAbs,_,by omega,⟨a / 2,b / 2,rfl,by omega,by omega,by omega,by rw[qR_half hb0 h1 h2,he],rfl⟩,Gc.refl _ _⟩
  ·refine⟨_,⟨a,b,rfl,ha,hb,hb0,fun hx ⟨h1,h2⟩=>?_,he,rfl⟩,Gc.refl _ _⟩
   have:(Int.tmod a 2==0&&Int.tmod b 2==0&&a != 0)=true:=by
    simp only[Bool.and_eq_true,beq_iff_eq,bne_iff_ne,ne_eq,tmod2];exact⟨⟨h1,h2⟩,hx⟩
   rw[this] at hc;cases hc
 ·rintro e s ⟨a,b,rfl,ha,hb,hb0,hev,he,rfl⟩
  refine Sat.of_eq (KMake_eq n d a b) ⟨?_⟩
  unfold KMake
  rw[<- he]
  have hg:((Int.gcd (a.natAbs:Int) (b.natAbs:Int):Nat):Int)=((a.natAbs.gcd b.natAbs:Nat):Int):=by rw[Int.gcd_natCast_natCast]
  have hgp:0<a.natAbs.gcd b.natAbs:=Nat.gcd_pos_of_pos_right _ (by omega)
  obtain⟨r1,r2,r3,r4⟩:=qR_parts (a:=a) hb0
  have ga:=Nat.div_le_self a.natAbs (a.natAbs.gcd b.natAbs)
  have gb:=Nat.div_le_self b.natAbs (a.natAbs.gcd b.natAbs)
  refine⟨fun hz=>?_,fun hz=>?_⟩
  ·have hz:a=0:=by simpa using hz
   subst hz
   rw[qR_zero,r_zero.1,r_zero.2.1,r_zero.2.2];exact rfl
  have hz:a≠0:=by simpa using hz
  have hev:=hev hz
  refine⟨fun hl=>?_,fun hl=>?_⟩
  ·have hnf:¬fitsR (qR a b):=by
    rintro⟨f1,f2⟩
    rw[r1] at f1;rw[r2] at f2
    simp only[Bool.or_eq_true,beq_iff_eq] at hl
    rcases hl with rfl|rfl
    ·have hb2:b.natAbs%2=1:=by omega
     rw[show(-9223372036854775808:Int).natAbs=9223372036854775808 by decide,odd_gcd hb2] at f1
     omega
    ·have ha2:a.natAbs%2=1:=by omega
     rw[show(-9223372036854775808:Int).natAbs=9223372036854775808 by decide,Nat.gcd_comm,odd_gcd ha2] at f2
     omega
   rw[rN_no hnf,rD_no hnf,rE_no hnf];exact rfl
  ·simp only[Bool.or_eq_false_iff,beq_eq_false_iff_ne,ne_eq] at hl
   rw[hg,Int.toNat_natCast]
   refine⟨by omega,by omega,by omega,⟨by omega,by omega,by omega⟩,⟨by omega,by omega,by omega⟩,fun hm=>?_,fun hm=>?_⟩
   ·have hnf:¬fitsR (qR a b):=by
     rintro⟨f1,f2⟩
     simp only[Bool.or_eq_true,decide_eq_true_eq] at hm
     omega
    rw[rN_no hnf,rD_no hnf,rE_no hnf];exact rfl
   ·have hf:fitsR (qR a b):=by
     simp only[Bool.or_eq_false_iff,decide_eq_false_iff_not] at hm
     exact⟨by omega,by omega⟩
    rw[rN_of hf,rD_of hf,rE_of hf]
    have hxor:(!decide (a<0)==decide (b<0))=(decide (a<0) != decide (b<0)):=by cases decide (a<0)<;>cases decide (b<0)<;>rfl
    refine⟨fun hs=>?_,fun hs=>?_⟩
    ·rw[hxor] at hs
     have:=r3 hs
     rw[w64_of (by omega) (by omega)]
     simp only[Tree.sat]
     rw[<- r1,<- r2,show(0:Int)-((qR a b).num.natAbs:Int)=(qR a b).num by omega]
    ·rw[hxor] at hs
     have:=r4 hs
     simp only[Tree.sat]
     rw[<- r1,<- r2,show((qR a b).num.natAbs:Int)=(qR a b).num by omega]
noncomputable def cMakeG:Ctr:=fun ss=>match ss with
 |[.d (.x (.int .i64 n)),.d (.x (.int .i64 d))]=>.need (I64 n/\I64 d)
   (.ret (.agg [iv (if d=0 then 0 else rN (qR n d)),iv (if d=0 then 0 else rD (qR n d)),iv (if d=0 then 3 else rE (qR n d))]))
 |_=>.fail
theorem cMakeG_ok:CtrOK Tryz.prog 77 cMakeG:=by
 refine ctrOK_leS C1_ok D1_ok (by kernel_rfl) (by kernel_rfl) fun ss r h=>?_
 unfold cMakeG at h
 split at h
 ·rename_i n d
  obtain⟨⟨h1,h2⟩,rfl⟩:=h
  by_cases h0:d=0
  ·subst h0
   refine⟨[iv n,iv 0],200,.nil,by simp[leSVs,leSV,iv,leD],Sat.of_eq (LMake_eq n 0) ⟨?_⟩⟩
   unfold LMake
   exact⟨fun _=>rfl,fun h=>(by cases h)⟩
  ·rw[if_neg h0,if_neg h0,if_neg h0]
   exact⟨[iv n,iv d],200,.nil,by simp[leSVs,leSV,iv,leD],makeG_sat h1 h2 h0⟩
 ·exact h.elim
noncomputable def manJ:FuncId->Option Ctr:=fun k=>match k with
 |77=>some cMakeG
 |_=>none
theorem manJ_ok(k:Nat)(c:Ctr)(h:manJ k=some c):CtrOK Tryz.prog k c/\goodF Tryz.prog k=true:=by
 unfold manJ at h
 split at h
 ·cases h;exact⟨cMakeG_ok,by kernel_rfl⟩
 ·cases h
noncomputable def CJ:Ctx:=ctxN Tryz.prog manJ (fun _=>false) 200 .nil 6
theorem CJ_ok:CtxOK Tryz.prog CJ:=ctxN_ok mixed manJ_ok 6
noncomputable def DJ:Dr:=fun _=>drawn Tryz.prog CJ
theorem DJ_ok:DrOK Tryz.prog CJ DJ:=drawn_ok CJ_ok mixed
noncomputable def TJ(h:Hint)(k:Nat)(args:List SV):Tree SV:=fnT Tryz.prog CJ DJ 200 (fnOf Tryz.prog k) (bodyOf Tryz.prog k) args h
noncomputable def LMdA(n d:Int):Tree SV :=
 .need (I64 n/\I64 d) (.code (codeC (sub [(0:Nat)] (TJ .nil (40:Nat) [iv n,iv d]))) (codeS (sub [(0:Nat)] (TJ .nil (40:Nat) [iv n,iv d]))) (codeK (sub [(0:Nat)] (TJ .nil (40:Nat) [iv n,iv d]))))
theorem LMdA_eq(n d:Int):TJ .nil 40 [iv n,iv d]=LMdA n d:=by kernel_rfl
noncomputable def tMd(n d:Int):Tree SV:=TJ .nil 40 [iv n,iv d]
noncomputable def invMd(n d x y z:Int):AS:=⟨[.ok (iv n),.ok (iv d),.unk,.unk,.ok (.ptr 0 0),.ok (.ptr 1 0)]++List.replicate 17 .unk,[some (.cells [iv 0,iv 0]),some (.cells [iv x,iv y,iv z]),none],3,.nil⟩
noncomputable def bodyMd:Code:=loopN (bodyOf Tryz.prog 40) 0
noncomputable def BMdA(n d x y z:Int):Tree (Ex×AS) :=
  .ite (z != (0:Int))
  (.need ((2:Int)≠(0:Int))
   (.need ((2:Int)≠(0:Int))
   (.ite (w64 (Int.tdiv d (2:Int))==(0:Int))
   (.need (I64 (w64 (Int.tdiv n (2:Int)))/\I64 (1:Int))
   (.ret
   (.normal,
   {
   tm :=
   [.ok (iv (w64 (Int.tdiv n (2:Int)))),.ok (iv (1:Int)),.unk,.unk,.ok (SV.ptr 0 0),.ok (SV.ptr 1 0),.unk,.unk,.unk,.unk,.unk,.unk,.unk,
   .unk,.unk,.unk,.unk,.unk,.unk,.unk,.unk,.unk,.unk],
   hp :=
   [some (.cells [iv (0:Int),iv (0:Int)]),
   some (.cells [iv (rN (qR (w64 (Int.tdiv n (2:Int))) (1:Int))),iv (rD (qR (w64 (Int.tdiv n (2:Int))) (1:Int))),iv (rE (qR (w64 (Int.tdiv n (2:Int))) (1:Int)))]),none],
   next:=3,hint:=.nil })))
   (.need (I64 (w64 (Int.tdiv n (2:Int)))/\I64 (w64 (Int.tdiv d (2:Int))))
   (.ret
   (.normal,
   {
   tm :=
   [.ok (iv (w64 (Int.tdiv n (2:Int)))),.ok (iv (w64 (Int.tdiv d (2:Int)))),.unk,.unk,.ok (SV.ptr 0 0),.ok (SV.ptr 1 0),.unk,.unk,.unk,.unk,.unk,
   .unk,.unk,.unk,.unk,.unk,.unk,.unk,.unk,.unk,.unk,.unk,.unk],
   hp :=
   [some (.cells [iv (0:Int),iv (0:Int)]),
   some
   (.cells
   [iv (if w64 (Int.tdiv d (2:Int))=(0:Int) then(0:Int) else rN (qR (w64 (Int.tdiv n (2:Int))) (w64 (Int.tdiv d (2:Int))))),
   iv (if w64 (Int.tdiv d (2:Int))=(0:Int) then(0:Int) else rD (qR (w64 (Int.tdiv n (2:Int))) (w64 (Int.tdiv d (2:Int))))),
   iv (if w64 (Int.tdiv d (2:Int))=(0:Int) then(3:Int) else rE (qR (w64 (Int.tdiv n (2:Int))) (w64 (Int.tdiv d (2:Int)))))]),
   none],
   next:=3,hint:=.nil }))))))
  (.ret
   (.exit 0,
   {
   tm :=
   [.ok (iv n),.ok (iv d),.unk,.unk,.ok (SV.ptr 0 0),.ok (SV.ptr 1 0),.unk,.unk,.unk,.unk,.unk,.unk,.unk,.unk,.unk,.unk,.unk,.unk,.unk,
   .unk,.unk,.unk,.unk],
   hp:=[some (.cells [iv (0:Int),iv (0:Int)]),some (.cells [iv x,iv y,iv z]),none],next:=3,hint:=.nil }))
theorem BMdA_eq(n d x y z:Int):cutT 3 [] [0,1,4,5] [2] 3 .nil (exec Tryz.prog CJ DJ 200 bodyMd (invMd n d x y z))=BMdA n d x y z:=by kernel_rfl
noncomputable def KMdA(n d a b x y z:Int):Tree SV :=
 .ret (SV.agg [iv x,iv y])
theorem KMdA_eq(n d a b x y z:Int):codeK (sub [0] (tMd n d)) (.exit 0) (invMd a b x y z)=KMdA n d a b x y z:=by kernel_rfl
def nxD(d:Int):Int:=if Int.tdiv d 2=0 then 1 else Int.tdiv d 2
noncomputable def mdF:Nat->Int->Int->Rat
 |0,_,_=>0
 |k+1,n,d=>if d≠0/\fitsR (qR n d) then qR n d else mdF k (Int.tdiv n 2) (nxD d)
def mdM(n d:Int):Nat:=n.natAbs+d.natAbs+if d=0 then 2 else 0
noncomputable def mdQ(n d:Int):Rat:=mdF (mdM n d+1) n d
theorem mdQ_of{n d:Int}(h0:d≠0)(h:fitsR (qR n d)):mdQ n d=qR n d:=by unfold mdQ mdF;rw[if_pos ⟨h0,h⟩]
theorem fits_zero:fitsR 0:=by decide +kernel
theorem md_step{n d:Int}(h:¬(d≠0/\fitsR (qR n d))):mdM (Int.tdiv n 2) (nxD d)<mdM n d:=by
 have hn:(Int.tdiv n 2).natAbs=n.natAbs / 2:=by rw[Int.natAbs_tdiv];rfl
 have hd:(Int.tdiv d 2).natAbs=d.natAbs / 2:=by rw[Int.natAbs_tdiv];rfl
 unfold mdM nxD
 by_cases h0:d=0
 ·subst h0
  rw[if_pos (by decide),if_neg (by decide),if_pos rfl];omega
 ·have hn0:n≠0:=by
   rintro rfl
   exact h ⟨h0,by rw[qR_zero];exact fits_zero⟩
  have e1:(1:Int).natAbs=1:=rfl
  (repeat' split)<;>omega
def mdC(n d:Int)(x y z:Int):Prop:=x=(if d=0 then 0 else rN (qR n d))/\y=(if d=0 then 0 else rD (qR n d))/\z=(if d=0 then 3 else rE (qR n d))
theorem tdiv2_b{n:Int}(h:I64 n):I64 (Int.tdiv n 2)/\w64 (Int.tdiv n 2)=Int.tdiv n 2:=by
 have hn:(Int.tdiv n 2).natAbs=n.natAbs / 2:=by rw[Int.natAbs_tdiv];rfl
 have:I64 (Int.tdiv n 2):=⟨by omega,by omega⟩
 exact⟨this,w64_of this.1 this.2⟩
theorem madeG_sat{n d:Int}(hn:I64 n)(hd:I64 d):Sat Tryz.prog (tMd n d) (·=.agg [iv (mdQ n d).num,iv (mdQ n d).den]):=by
 constructor
 rw[show tMd n d=LMdA n d from LMdA_eq n d];unfold LMdA
 refine⟨⟨hn,hd⟩,?_⟩
 refine code_satS CJ_ok DJ_ok (n:=200) (n0:=3) (nx:=3) (roots:=[]) (keep:=[0,1,4,5]) (drop:=[2]) (h:=.nil) (c:=codeC (sub [0] (tMd n d))) (st:=codeS (sub [0] (tMd n d))) (k:=codeK (sub [0] (tMd n d))) (body:=bodyMd) (by kernel_rfl) (by kernel_rfl)
  (fun q s=>∃a b x y z:Int,I64 a/\I64 b/\mdM a b<q/\mdF q a b=mdQ n d/\mdC a b x y z/\s=invMd a b x y z)
  (fun e s=>∃a b y z:Int,∃r:Rat,e=.exit 0/\mdQ n d=r/\s=invMd a b r.num r.den z)
  ⟨_,_,⟨n,d,_,_,_,hn,hd,Nat.lt_succ_self _,rfl,⟨rfl,rfl,rfl⟩,rfl⟩,?_⟩ ?_ ?_
 ·exact entA_sound (roots:=[]) (keep:=[0,1,4,5]) (drop:=[2]) (nx:=3) (h:=.nil) (by kernel_rfl)
 ·rintro q s ⟨a,b,x,y,z,ha,hb,hq,he,⟨rfl,rfl,rfl⟩,rfl⟩
  refine Sat.of_eq (BMdA_eq _ _ _ _ _) ?_
  constructor
  unfold BMdA
  obtain⟨a1,a2⟩:=tdiv2_b ha
  obtain⟨b1,b2⟩:=tdiv2_b hb
  have hI1:I64 1:=⟨by decide,by decide⟩
  obtain⟨q,rfl⟩:∃p,q=p+1:=⟨q-1,by omega⟩
  by_cases hok:b≠0/\fitsR (qR a b)
  ·have e1:mdF (q+1) a b=qR a b:=by unfold mdF;rw[if_pos hok]
   rw[e1] at he
   rw[if_neg hok.1,if_neg hok.1,if_neg hok.1,rE_of hok.2,rN_of hok.2,rD_of hok.2]
   exact⟨fun h=>(by cases h),fun _=>⟨_,⟨a,b,0,0,qR a b,rfl,he.symm,rfl⟩,Gc.refl _ _⟩⟩
  ·have e1:mdF (q+1) a b=mdF q (Int.tdiv a 2) (nxD b):=by
    show(if b≠0/\fitsR (qR a b) then qR a b else mdF q (Int.tdiv a 2) (nxD b))=_
    rw[if_neg hok]
   rw[e1] at he
   have hst:=md_step hok
   rw[a2,b2]
   refine⟨fun _=>⟨by decide,by decide,fun h1=>?_,fun h1=>?_⟩,fun h=>?_⟩
   ·have h1:Int.tdiv b 2=0:=by simpa using h1
    have h2:nxD b=1:=by unfold nxD;rw[if_pos h1]
    rw[h2] at he hst
    exact⟨⟨a1,hI1⟩,q,_,Nat.lt_succ_self _,⟨Int.tdiv a 2,1,_,_,_,a1,hI1,by omega,he,⟨by rw[if_neg (by decide)],by rw[if_neg (by decide)],by rw[if_neg (by decide)]⟩,rfl⟩,Gc.refl _ _⟩
   ·have h1:Int.tdiv b 2≠0:=by simpa using h1
    have h2:nxD b=Int.tdiv b 2:=by unfold nxD;rw[if_neg h1]
    rw[h2] at he hst
    exact⟨⟨a1,b1⟩,q,_,Nat.lt_succ_self _,⟨Int.tdiv a 2,Int.tdiv b 2,_,_,_,a1,b1,by omega,he,⟨rfl,rfl,rfl⟩,rfl⟩,Gc.refl _ _⟩
   ·exfalso
    by_cases hb0:b=0
    ·rw[if_pos hb0] at h;cases h
    ·rw[if_neg hb0,rE_no (fun hf=>hok ⟨hb0,hf⟩)] at h;cases h
 ·rintro e s ⟨a,b,y,z,r,rfl,he,rfl⟩
  refine Sat.of_eq (KMdA_eq n d a b _ _ _) ⟨?_⟩
  unfold KMdA
  rw[he];exact rfl
noncomputable def cMadeG:Ctr:=fun ss=>match ss with
 |[.d (.x (.int .i64 n)),.d (.x (.int .i64 d))]=>.need (I64 n/\I64 d) (.ret (.agg [iv (mdQ n d).num,iv (mdQ n d).den]))
 |_=>.fail
theorem cMadeG_ok:CtrOK Tryz.prog 40 cMadeG:=by
 refine ctrOK_leS CJ_ok DJ_ok (by kernel_rfl) (by kernel_rfl) fun ss r h=>?_
 unfold cMadeG at h
 split at h
 ·rename_i n d
  obtain⟨⟨h1,h2⟩,rfl⟩:=h
  exact⟨[iv n,iv d],200,.nil,by simp[leSVs,leSV,iv,leD],madeG_sat h1 h2⟩
 ·exact h.elim
noncomputable def manK:FuncId->Option Ctr:=fun k=>match k with
 |40=>some cMadeG
 |77=>some cMakeG
 |k=>manI k
theorem manK_ok(k:Nat)(c:Ctr)(h:manK k=some c):CtrOK Tryz.prog k c/\goodF Tryz.prog k=true:=by
 unfold manK at h
 split at h
 ·cases h;exact⟨cMadeG_ok,by kernel_rfl⟩
 ·cases h;exact⟨cMakeG_ok,by kernel_rfl⟩
 ·exact manI_ok _ _ h
def i64d(k:Int):DV:=.x (.int .i64 k)
def u64v(n:Int):SV:=.d (.x (.int .u64 n))
def rou64(n:Nat)(c:Nat->Int):SV:=.d (.ro n 1 fun i _=>.x (.int .u64 (c i)))
noncomputable def inlR(k:Nat):Bool:=k==122||k==81
noncomputable def CR:Ctx:=ctxN Tryz.prog manK inlR 200 .nil 6
theorem CR_ok:CtxOK Tryz.prog CR:=ctxN_ok mixed manK_ok 6
noncomputable def DR:Dr:=fun _=>drawn Tryz.prog CR
theorem DR_ok:DrOK Tryz.prog CR DR:=drawn_ok CR_ok mixed
noncomputable def TR(h:Hint)(k:Nat)(args:List SV):Tree SV:=fnT Tryz.prog CR DR 200 (fnOf Tryz.prog k) (bodyOf Tryz.prog k) args h
noncomputable def tWo(n:Nat)(c:Nat->Int):Tree SV:=TR .nil 45 [ro64 n c]
noncomputable def LWo(n:Nat)(c:Nat->Int):Tree SV :=
 .code (codeC (sub [] (tWo n c))) (codeS (sub [] (tWo n c))) (codeK (sub [] (tWo n c)))
theorem LWo_eq(n:Nat)(c:Nat->Int):tWo n c=LWo n c:=by kernel_rfl
noncomputable def invWo(n:Nat)(c:Nat->Int)(k:Nat)(s:Int)(h:Hint):AS:=⟨[.ok (ro64 n c),.unk,.unk,.ok (.ptr 0 0),.ok (.fn (.func 81) [.ptr 0 0] []),.unk,.unk,.unk,.ok (ro64 n c),.ok (iv n),.ok (iv k)]++List.replicate 16 .unk,[some (.cells [u64v s]),none],2,h⟩
noncomputable def bodyWo:Code:=loopN (bodyOf Tryz.prog 45) 0
noncomputable def BWo(n:Nat)(c:Nat->Int)(k:Nat)(s:Int):Tree (Ex×AS) :=
  .ite (decide ((↑k:Int)<(↑n:Int)))
  (.need ((0:Int)<=(↑k:Int)/\(↑k:Int)<(↑n:Int))
   (.need (true=true)
   (.need ((0:Int)<=(0:Int)/\(0:Int)<(1:Int))
   (.need (0<1)
   (.need ((0:Int)<=(32:Int))
   (.need (false=false)
   (.ret
   (.normal,
   {
   tm :=
   [.ok (SV.d (DV.ro n 1 fun i x=>DV.x (.int .i64 (c i)))),.unk,.unk,.ok (SV.ptr 0 0),.ok (SV.fn (Fn.func 81) [SV.ptr 0 0] []),
   .unk,.unk,.unk,.ok (SV.d (DV.ro n 1 fun i x=>DV.x (.int .i64 (c i)))),.ok (iv (↑n:Int)),.ok (iv (w64 ((↑k:Int)+(1:Int)))),.unk,.unk,.unk,.unk,.unk,
   .unk,.unk,.unk,.unk,.unk,.unk,.unk,.unk,.unk,.unk,.unk],
   hp :=
   [some
   (.cells
   [SV.d
   (DV.x
   (.int .u64
   (IntKind.wrap .u64
   (IntKind.wrap .u64
   (↑(BitVec.toNat
   (BitVec.ofInt 64
   (IntKind.wrap .u64
   (IntKind.wrap .u64 (↑(BitVec.toNat (BitVec.ofInt 64 s ^^^ BitVec.ofInt 64 (IntKind.wrap .u64 (c (Int.toNat (↑k:Int)))))):Int) *
   (15485907386658061715:Int))) ^^^
   BitVec.ofInt 64
   (Int.fdiv
   (IntKind.wrap .u64
   (IntKind.wrap .u64 (↑(BitVec.toNat (BitVec.ofInt 64 s ^^^ BitVec.ofInt 64 (IntKind.wrap .u64 (c (Int.toNat (↑k:Int)))))):Int) *
   (15485907386658061715:Int)))
   (4294967296:Int)))) :
   Int) *
   (11562461410679940143:Int)))))]),
   none],
   next:=2,hint:=.u (.t (.u (.f .nil))) }))))))))
  (.ret
   (.exit 0,
   {
   tm :=
   [.ok (SV.d (DV.ro n 1 fun i x=>DV.x (.int .i64 (c i)))),.unk,.unk,.ok (SV.ptr 0 0),.ok (SV.fn (Fn.func 81) [SV.ptr 0 0] []),.unk,.unk,
   .unk,.ok (SV.d (DV.ro n 1 fun i x=>DV.x (.int .i64 (c i)))),.ok (iv (↑n:Int)),.ok (iv (↑k:Int)),.unk,.unk,.unk,.unk,.unk,.unk,.unk,.unk,.unk,.unk,.unk,
   .unk,.unk,.unk,.unk,.unk],
   hp:=[some (.cells [SV.d (DV.x (.int .u64 s))]),none],next:=2,hint:=.u (.t (.u (.f .nil))) }))
theorem BWo_eq(n:Nat)(c:Nat->Int)(k:Nat)(s:Int):cutT 2 [] [0,3,4,8,9,10] [1] 2 (uN 1 .nil) (exec Tryz.prog CR DR 200 bodyWo (invWo n c k s (uN 1 .nil)))=BWo n c k s:=by kernel_rfl
noncomputable def KWo(n:Nat)(c:Nat->Int)(k:Nat)(s:Int):Tree SV :=
  .need (true=true)
  (.need ((0:Int)<=(0:Int)/\(0:Int)<(1:Int))
   (.need (0<1)
   (.need ((0:Int)<=(32:Int))
   (.need (false=false)
   (.ret
   (SV.d
   (DV.x
   (.int .u64
   (IntKind.wrap .u64
   (IntKind.wrap .u64
   (↑(BitVec.toNat
   (BitVec.ofInt 64
   (IntKind.wrap .u64
   (IntKind.wrap .u64 (↑(BitVec.toNat (BitVec.ofInt 64 s ^^^ BitVec.ofInt 64 (IntKind.wrap .u64 (↑n:Int)))):Int)*(15485907386658061715:Int))) ^^^
   BitVec.ofInt 64
   (Int.fdiv
   (IntKind.wrap .u64
   (IntKind.wrap .u64 (↑(BitVec.toNat (BitVec.ofInt 64 s ^^^ BitVec.ofInt 64 (IntKind.wrap .u64 (↑n:Int)))):Int)*(15485907386658061715:Int)))
   (4294967296:Int)))) :
   Int) *
   (11562461410679940143:Int)))))))))))
theorem KWo_eq(n:Nat)(c:Nat->Int)(k:Nat)(s:Int):codeK (sub [] (tWo n c)) (.exit 0) (invWo n c k s (uN 1 .nil))=KWo n c k s:=by kernel_rfl
noncomputable def tWr(n:Nat)(c:Nat->Int):Tree SV:=TR .nil 92 [ro64 n c]
noncomputable def LWr(n:Nat)(c:Nat->Int):Tree SV :=
 .code (codeC (sub [] (tWr n c))) (codeS (sub [] (tWr n c))) (codeK (sub [] (tWr n c)))
theorem LWr_eq(n:Nat)(c:Nat->Int):tWr n c=LWr n c:=by kernel_rfl
noncomputable def invWr(n:Nat)(c:Nat->Int)(k:Nat)(s:Int):AS:=⟨[.ok (ro64 n c),.unk,.unk,.ok (u64v s),.ok (iv k)]++List.replicate 18 .unk,[],0,.nil⟩
noncomputable def bodyWr:Code:=loopN (bodyOf Tryz.prog 92) 0
noncomputable def BWr(n:Nat)(c:Nat->Int)(k:Nat)(s:Int):Tree (Ex×AS) :=
  .ite (decide ((↑k:Int)<(↑n:Int)))
  (.need ((0:Int)<=(↑k:Int)/\(↑k:Int)<(↑n:Int))
   (.need ((0:Int)<=(32:Int))
   (.ret
   (.normal,
   {
   tm :=
   [.ok (SV.d (DV.ro n 1 fun i x=>DV.x (.int .i64 (c i)))),.unk,.unk,
   .ok
   (SV.d
   (DV.x
   (.int .u64
   (IntKind.wrap .u64
   (IntKind.wrap .u64
   (↑(BitVec.toNat
   (BitVec.ofInt 64
   (IntKind.wrap .u64
   (IntKind.wrap .u64 (↑(BitVec.toNat (BitVec.ofInt 64 s ^^^ BitVec.ofInt 64 (IntKind.wrap .u64 (c (Int.toNat (↑k:Int)))))):Int) *
   (15485907386658061715:Int))) ^^^
   BitVec.ofInt 64
   (Int.fdiv
   (IntKind.wrap .u64
   (IntKind.wrap .u64 (↑(BitVec.toNat (BitVec.ofInt 64 s ^^^ BitVec.ofInt 64 (IntKind.wrap .u64 (c (Int.toNat (↑k:Int)))))):Int)*(15485907386658061715:Int)))
   (4294967296:Int)))) :
   Int) *
   (11562461410679940143:Int)))))),
   .ok (iv (w64 ((↑k:Int)+(1:Int)))),.unk,.unk,.unk,.unk,.unk,.unk,.unk,.unk,.unk,.unk,.unk,.unk,.unk,.unk,.unk,.unk,.unk,.unk],
   hp:=[],next:=0,hint:=.nil }))))
  (.ret
   (.exit 0,
   {
   tm :=
   [.ok (SV.d (DV.ro n 1 fun i x=>DV.x (.int .i64 (c i)))),.unk,.unk,.ok (SV.d (DV.x (.int .u64 s))),.ok (iv (↑k:Int)),.unk,.unk,.unk,.unk,.unk,.unk,.unk,
   .unk,.unk,.unk,.unk,.unk,.unk,.unk,.unk,.unk,.unk,.unk],
   hp:=[],next:=0,hint:=.nil }))
theorem BWr_eq(n:Nat)(c:Nat->Int)(k:Nat)(s:Int):cutT 0 [] [0,3,4] [] 0 .nil (exec Tryz.prog CR DR 200 bodyWr (invWr n c k s))=BWr n c k s:=by kernel_rfl
noncomputable def KWr(n:Nat)(c:Nat->Int)(k:Nat)(s:Int):Tree SV :=
  .need ((0:Int)<=(32:Int))
  (.ret
   (SV.d
   (DV.x
   (.int .u64
   (IntKind.wrap .u64
   (IntKind.wrap .u64
   (↑(BitVec.toNat
   (BitVec.ofInt 64
   (IntKind.wrap .u64 (IntKind.wrap .u64 (↑(BitVec.toNat (BitVec.ofInt 64 s ^^^ BitVec.ofInt 64 (IntKind.wrap .u64 (↑n:Int)))):Int)*(15485907386658061715:Int))) ^^^
   BitVec.ofInt 64
   (Int.fdiv
   (IntKind.wrap .u64 (IntKind.wrap .u64 (↑(BitVec.toNat (BitVec.ofInt 64 s ^^^ BitVec.ofInt 64 (IntKind.wrap .u64 (↑n:Int)))):Int)*(15485907386658061715:Int)))
   (4294967296:Int)))) :
   Int) *
   (11562461410679940143:Int)))))))
theorem KWr_eq(n:Nat)(c:Nat->Int)(k:Nat)(s:Int):codeK (sub [] (tWr n c)) (.exit 0) (invWr n c k s)=KWr n c k s:=by kernel_rfl
def stp(s w:Int):Int :=
 IntKind.wrap .u64 (IntKind.wrap .u64 ((BitVec.toNat (BitVec.ofInt 64 (IntKind.wrap .u64 (IntKind.wrap .u64 ((BitVec.toNat (BitVec.ofInt 64 s ^^^ BitVec.ofInt 64 w):Nat):Int)*15485907386658061715)) ^^^
  BitVec.ofInt 64 (Int.fdiv (IntKind.wrap .u64 (IntKind.wrap .u64 ((BitVec.toNat (BitVec.ofInt 64 s ^^^ BitVec.ofInt 64 w):Nat):Int)*15485907386658061715)) 4294967296)):Nat):Int)*11562461410679940143)
def wU(n:Int):Int:=IntKind.wrap .u64 n
def dgF(c:Nat->Int):Nat->Int
 |0=>512970876019
 |k+1=>stp (dgF c k) (wU (c k))
def dgW(n:Nat)(c:Nat->Int):Int:=stp (dgF c n) (wU n)
theorem dgF_congr{c d:Nat->Int}:∀{n:Nat},(∀i,i<n->c i=d i)->dgF c n=dgF d n
 |0,_=>rfl
 |n+1,h=>by
  show stp (dgF c n) (wU (c n))=stp (dgF d n) (wU (d n))
  rw[dgF_congr (fun i hi=>h i (by omega)),h n (by omega)]
theorem dgW_congr{n:Nat}{c d:Nat->Int}(h:∀i,i<n->c i=d i):dgW n c=dgW n d:=by unfold dgW;rw[dgF_congr h]
theorem wo_sat{n:Nat}{c:Nat->Int}(hn:n<=9223372036854775807):Sat Tryz.prog (tWo n c) (·=u64v (dgW n c)):=by
 constructor
 rw[LWo_eq];unfold LWo
 refine code_satS CR_ok DR_ok (n:=200) (n0:=2) (nx:=2) (roots:=[]) (keep:=[0,3,4,8,9,10]) (drop:=[1]) (h:=uN 1 .nil) (c:=codeC (sub [] (tWo n c))) (st:=codeS (sub [] (tWo n c))) (k:=codeK (sub [] (tWo n c))) (body:=bodyWo) (by kernel_rfl) (by kernel_rfl)
  (fun q s=>∃k:Nat,q=n-k/\k<=n/\s=invWo n c k (dgF c k) (uN 1 .nil))
  (fun e s=>e=.exit 0/\s=invWo n c n (dgF c n) (uN 1 .nil))
  ⟨_,_,⟨0,rfl,by omega,rfl⟩,?_⟩ ?_ ?_
 ·exact entA_sound (roots:=[]) (keep:=[0,3,4,8,9,10]) (drop:=[1]) (nx:=2) (h:=uN 1 .nil) (by kernel_rfl)
 ·rintro q s ⟨k,rfl,hk,rfl⟩
  refine Sat.of_eq (BWo_eq n c k _) ?_
  constructor
  unfold BWo
  refine⟨fun hc=>?_,fun hc=>?_⟩
  ·have hc:k<n:=by simp only[decide_eq_true_eq] at hc;omega
   refine⟨by omega,rfl,by decide,by decide,by decide,rfl,n-(k+1),_,by omega,⟨k+1,rfl,by omega,rfl⟩,?_⟩
   rw[w64_of (n:=(k:Int)+1) (by omega) (by omega),Int.toNat_natCast]
   exact Gc.refl _ _
  ·have hc:k=n:=by simp only[decide_eq_false_iff_not] at hc;omega
   subst hc
   exact⟨_,⟨rfl,rfl⟩,Gc.refl _ _⟩
 ·rintro e s ⟨rfl,rfl⟩
  refine Sat.of_eq (KWo_eq n c n _) ⟨?_⟩
  exact⟨rfl,by decide,by decide,by decide,rfl,rfl⟩
theorem wr_sat{n:Nat}{c:Nat->Int}(hn:n<=9223372036854775807):Sat Tryz.prog (tWr n c) (·=u64v (dgW n c)):=by
 constructor
 rw[LWr_eq];unfold LWr
 refine code_satS CR_ok DR_ok (n:=200) (n0:=0) (nx:=0) (roots:=[]) (keep:=[0,3,4]) (drop:=[]) (h:=.nil) (c:=codeC (sub [] (tWr n c))) (st:=codeS (sub [] (tWr n c))) (k:=codeK (sub [] (tWr n c))) (body:=bodyWr) (by kernel_rfl) (by kernel_rfl)
  (fun q s=>∃k:Nat,q=n-k/\k<=n/\s=invWr n c k (dgF c k))
  (fun e s=>e=.exit 0/\s=invWr n c n (dgF c n))
  ⟨_,_,⟨0,rfl,by omega,rfl⟩,?_⟩ ?_ ?_
 ·exact entA_sound (roots:=[]) (keep:=[0,3,4]) (drop:=[]) (nx:=0) (h:=.nil) (by kernel_rfl)
 ·rintro q s ⟨k,rfl,hk,rfl⟩
  refine Sat.of_eq (BWr_eq n c k _) ?_
  constructor
  unfold BWr
  refine⟨fun hc=>?_,fun hc=>?_⟩
  ·have hc:k<n:=by simp only[decide_eq_true_eq] at hc;omega
   refine⟨by omega,by decide,n-(k+1),_,by omega,⟨k+1,rfl,by omega,rfl⟩,?_⟩
   rw[w64_of (n:=(k:Int)+1) (by omega) (by omega),Int.toNat_natCast]
   exact Gc.refl _ _
  ·have hc:k=n:=by simp only[decide_eq_false_iff_not] at hc;omega
   subst hc
   exact⟨_,⟨rfl,rfl⟩,Gc.refl _ _⟩
 ·rintro e s ⟨rfl,rfl⟩
  refine Sat.of_eq (KWr_eq n c n _) ⟨?_⟩
  exact⟨by decide,rfl⟩
def rowD(esz:Nat):DV->Option (Nat×(Nat->Nat->DV))
 |.ro n e c=>if e=esz then some (n,c) else none
 |.x (.slice none 0 0)=>some (0,fun _ _=>.x undef)
 |_=>none
theorem rowD_cases{esz n:Nat}{d:DV}{c:Nat->Nat->DV}(h:rowD esz d=some (n,c)):d=.ro n esz c\/(d=.x (.slice none 0 0)/\n=0):=by
 unfold rowD at h
 split at h
 ·split at h
  ·rename_i he
   simp only[Option.some.injEq,Prod.mk.injEq] at h
   obtain⟨rfl,rfl⟩:=h
   subst he;exact .inl rfl
  ·cases h
 ·simp only[Option.some.injEq,Prod.mk.injEq] at h
  exact .inr ⟨rfl,h.1.symm⟩
 ·cases h
theorem rowD_le{esz n:Nat}{d:DV}{c c':Nat->Nat->DV}(h:rowD esz d=some (n,c))(hc:∀i j,i<n->j<esz->c i j=c' i j):leD d (.ro n esz c'):=by
 rcases rowD_cases h with rfl|⟨rfl,rfl⟩
 ·exact⟨rfl,rfl,hc⟩
 ·exact⟨rfl,rfl⟩
def I64C(n:Nat)(cell:Nat->Nat->DV):Prop:=n<=9223372036854775807/\∀i,i<n->cell i 0=.x (.int .i64 (intCell cell i))
noncomputable def cWords:Ctr:=fun ss=>match ss with
 |[.d d]=>match rowD 1 d with
  |some (n,cell)=>.need (I64C n cell) (.ret (u64v (dgW n (intCell cell))))
  |none=>.fail
 |_=>.fail
theorem I64C.le{n:Nat}{d:DV}{cell:Nat->Nat->DV}(h:rowD 1 d=some (n,cell))(k:I64C n cell):leSVs 0 [] [] [.d d] [ro64 n (intCell cell)]:=by
 simp only[leSVs,leSV,ro64,and_true]
 exact rowD_le h fun i j hi hj=>by
  obtain rfl:j=0:=by omega
  exact k.2 i hi
theorem cWords_ok:CtrOK Tryz.prog 45 cWords:=by
 refine ctrOK_leS CR_ok DR_ok (by kernel_rfl) (by kernel_rfl) fun ss r h=>?_
 unfold cWords at h
 split at h
 ·split at h
  ·rename_i n cell hr
   obtain⟨h1,rfl⟩:=h
   exact⟨[ro64 n (intCell cell)],200,.nil,h1.le hr,wo_sat h1.1⟩
  ·exact h.elim
 ·exact h.elim
theorem cWordsR_ok:CtrOK Tryz.prog 92 cWords:=by
 refine ctrOK_leS CR_ok DR_ok (by kernel_rfl) (by kernel_rfl) fun ss r h=>?_
 unfold cWords at h
 split at h
 ·split at h
  ·rename_i n cell hr
   obtain⟨h1,rfl⟩:=h
   exact⟨[ro64 n (intCell cell)],200,.nil,h1.le hr,wr_sat h1.1⟩
  ·exact h.elim
 ·exact h.elim
end Go.Proofs.YtanlnopgadbpjaaGreat
namespace Go.Proofs.YtanlnopgadbpjaaGreat.Rm
open Go.Sx
noncomputable def cellI(L:List Int):Nat->Nat->DV:=fun i _=>.x (.int .i64 (L.getD i 0))
def numD(d:DV):Int:=match d with|.x (.int _ n)=>n|_=>0
def lsI(n:Nat)(f:Nat->Nat->DV):List Int:=(List.range n).map fun i=>numD (f i 0)
def IsI(n:Nat)(f:Nat->Nat->DV):Prop:=∀i,i<n->f i 0=.x (.int .i64 (numD (f i 0)))
theorem lsI_len(n:Nat)(f:Nat->Nat->DV):(lsI n f).length=n:=by unfold lsI;simp
theorem lsI_get{n:Nat}{f:Nat->Nat->DV}{i:Nat}(h:i<n):(lsI n f).getD i 0=numD (f i 0):=by
 unfold lsI;simp[List.getD_eq_getElem?_getD,h]
theorem row_lsI{n:Nat}{f:Nat->Nat->DV}(h:IsI n f):BlkLe (.row n 1 f) (.row (lsI n f).length 1 (cellI (lsI n f))):=by
 rw[lsI_len]
 refine .row fun i j hi hj=>?_
 obtain rfl:j=0:=by omega
 unfold cellI
 rw[lsI_get hi];exact h i hi
theorem row_apps{L vs:List Int}{f:Nat->Nat->DV}{k:Nat}(hk:vs.length=k)(h:∀a,a<L.length+k->f a 0=.x (.int .i64 ((L++vs).getD a 0))):BlkLe (.row (L.length+k) 1 f) (.row (L++vs).length 1 (cellI (L++vs))):=by
 rw[List.length_append,hk]
 refine .row fun i j hi hj=>?_
 obtain rfl:j=0:=by omega
 exact h i hi
theorem sel_apps(L vs:List Int)(a:Nat)(h:a<L.length+vs.length):selD (decide (a<L.length)) (.x (.int .i64 (L.getD (0+a) 0))) (dsAt (vs.map fun v=>.x (.int .i64 v)) (0+(0+(a-L.length))*1+0))=.x (.int .i64 ((L++vs).getD a 0)):=by
 have e:0+(0+(a-L.length))*1+0=a-L.length:=by omega
 rw[e,Nat.zero_add]
 rcases Nat.lt_or_ge a L.length with h1|h1
 ·rw[decide_eq_true h1]
  have e2:(L++vs).getD a 0=L.getD a 0:=by rw[List.getD_eq_getElem?_getD,List.getElem?_append_left h1,<- List.getD_eq_getElem?_getD]
  rw[e2]
  unfold selD
  split<;>simp_all
 ·rw[decide_eq_false (by omega)]
  have hv:a-L.length<vs.length:=by omega
  have e2:(L++vs).getD a 0=vs.getD (a-L.length) 0:=by rw[List.getD_eq_getElem?_getD,List.getElem?_append_right h1,<- List.getD_eq_getElem?_getD]
  have e3:dsAt (vs.map fun v=>DV.x (.int .i64 v)) (a-L.length)=.x (.int .i64 (vs.getD (a-L.length) 0)):=by
   rw[dsAt_eq (by simpa using hv)]
   simp[List.getD_eq_getElem?_getD,List.getElem?_eq_getElem hv]
  rw[e2,e3]
  unfold selD
  simp
end Go.Proofs.YtanlnopgadbpjaaGreat.Rm
namespace Go.Sx
inductive Xp where
 |no
 |mk (op:Int) (nm:ByteArray) (kn:Int) (kp:ByteArray) (wn:Int) (wp:ByteArray) (n:Nat) (args:Nat->Xp)
namespace Xp
def op:Xp->Int|mk a _ _ _ _ _ _ _=>a|no=>0
def nm:Xp->ByteArray|mk _ a _ _ _ _ _ _=>a|no=>⟨#[]⟩
def kn:Xp->Int|mk _ _ a _ _ _ _ _=>a|no=>0
def kp:Xp->ByteArray|mk _ _ _ a _ _ _ _=>a|no=>⟨#[]⟩
def wn:Xp->Int|mk _ _ _ _ a _ _ _=>a|no=>0
def wp:Xp->ByteArray|mk _ _ _ _ _ a _ _=>a|no=>⟨#[]⟩
def n:Xp->Nat|mk _ _ _ _ _ _ a _=>a|no=>0
def args:Xp->Nat->Xp|mk _ _ _ _ _ _ _ a=>a|no=>fun _=>no
end Xp
def exJ(e:Xp)(n:Nat)(sub:Nat->Nat->DV):Nat->DV
 |0=>.x (.int .i64 e.op)
 |1=>.x (.string e.nm)
 |2=>.x (.int .i64 e.kn)
 |3=>.x (.string e.kp)
 |4=>.x (.int .i64 e.wn)
 |5=>.x (.string e.wp)
 |6=>.ro n 7 sub
 |_=>.x undef
def nOf(d:Nat)(e:Xp):Nat:=Nat.rec (motive:=fun _=>Nat) 0 (fun _ _=>e.n) d
def subC(d:Nat):Xp->Nat->Nat->DV:=Nat.rec (motive:=fun _=>Xp->Nat->Nat->DV) (fun _ _ _=>.x undef) (fun d ih e i j=>exJ (e.args i) (nOf d (e.args i)) (ih (e.args i)) j) d
def textL(s:List UInt8):List Int:=(s.length:Int)::s.map fun b=>(b.toNat:Int)
def numV(d:DV):Int:=match d with|.x (.int _ n)=>n|_=>0
def lenV(d:DV):Nat:=match d with|.ro n _ _=>n|_=>0
def cellV(d:DV):Nat->Nat->DV:=match d with|.ro _ _ c=>c|_=>fun _ _=>.x undef
def appC(n:Nat)(f:Nat->Nat->DV)(N:List Int):Nat->Nat->DV:=fun a _=>.x (.int .i64 (if a<n then numV (f a 0) else N.getD (a-n) 0))
end Go.Sx
namespace Go.Proofs.YtanlnopgadbpjaaGreat.Rm
open Go.Sx
theorem hpLe_refl:∀hp:Heap,hpLe hp hp
 |[]=>trivial
 |none::r=>⟨.inl rfl,hpLe_refl r⟩
 |some b::r=>⟨.inr ⟨b,b,rfl,rfl,.refl _⟩,hpLe_refl r⟩
def _root_.Go.Proofs.RowI(n n':Nat)(f:Nat->Nat->DV)(m:Nat):Prop:=n=n'/\IsI n f/\n+m<=1000000000
theorem appC_cellI(L N:List Int):appC L.length (cellI L) N=cellI (L++N):=by
 funext a b
 unfold appC cellI numV
 by_cases h:a<L.length
 ·rw[if_pos h,List.getD_eq_getElem?_getD (l:=L++N),List.getElem?_append_left h,<- List.getD_eq_getElem?_getD]
 ·rw[if_neg h,List.getD_eq_getElem?_getD (l:=L++N),List.getElem?_append_right (by omega),<- List.getD_eq_getElem?_getD]
theorem appC_lsI{n:Nat}{f:Nat->Nat->DV}(h:IsI n f)(N:List Int):appC n f N=cellI (lsI n f++N):=by
 rw[<- appC_cellI,lsI_len]
 funext a b
 unfold appC
 by_cases h1:a<n
 ·rw[if_pos h1,if_pos h1]
  congr 2
  unfold cellI
  rw[lsI_get h1];rfl
 ·rw[if_neg h1,if_neg h1]
theorem isI_cellI(L:List Int):IsI L.length (cellI L):=fun i hi=>rfl
noncomputable def C00:Ctx:=ctxN Tryz.prog (fun _=>none) (fun _=>false) 200 .nil 6
theorem C00_ok:CtxOK Tryz.prog C00:=ctxN_ok mixed (fun k c h=>by cases h) 6
noncomputable def D00:Dr:=drawnL Tryz.prog C00
theorem D00_ok:DrOK Tryz.prog C00 D00:=drawnL_ok C00_ok mixed
noncomputable def hpA(L:List Int)(vs:List SV):Heap:=[some (.cells [.row 1 0 0 L.length 1]),some (.row L.length 1 (cellI L)),some (.cells vs)]
noncomputable def tAd(L:List Int)(vs:List SV)(k:Nat):Tree (SV×AS):=inlT Tryz.prog C00 D00 200 42 [.ptr 0 0,.row 2 0 0 k 1] ⟨[],hpA L vs,3,.nil⟩
noncomputable def tAn(vs:List SV)(k:Nat):Tree (SV×AS):=inlT Tryz.prog C00 D00 200 42 [.ptr 0 0,.row 1 0 0 k 1] ⟨[],[some (.cells [.d (.x (.slice none 0 0))]),some (.cells vs)],2,.nil⟩
noncomputable def LAd1_q1(L:List Int)(v1:Int)(a:Nat)(b:Nat):DV :=
 selD (decide (a<List.length L)) (DV.x (.int .i64 (List.getD L (0+a) (0:Int)))) (dsAt [DV.x (.int .i64 v1)] (0+(0+(a-List.length L))*1+b))
noncomputable def LAd1(L:List Int)(v1:Int):Tree (SV×AS) :=
  .need (0+List.length L<=List.length L/\1<=1/\(List.length L+1)*8<=140737488355328)
  (.ret
   (SV.tup [],
   {
   tm :=
   [.ok (SV.ptr 0 0),.ok (SV.row 2 0 0 1 1),.unk,.unk,.ok (SV.ptr 0 0),.ok (SV.ptr 0 0),
   .ok (SV.ptr 0 0),.ok (SV.row 1 0 0 (List.length L) 1),.ok (SV.row 2 0 0 1 1),
   .ok (SV.row 3 0 0 (List.length L+1) 1),.ok (SV.ptr 0 0)],
   hp:=[some (.cells [SV.row 3 0 0 (List.length L+1) 1]),none,some (.cells [iv v1]),some (.row (List.length L+1) 1 (LAd1_q1 L v1))],
   next:=5,hint:=.nil }))
theorem LAd1_eq(L:List Int)(v1:Int):tAd L [iv v1] 1=LAd1 L v1:=by kernel_rfl
noncomputable def LAd2_q1(L:List Int)(v1:Int)(v2:Int)(a:Nat)(b:Nat):DV :=
 selD (decide (a<List.length L)) (DV.x (.int .i64 (List.getD L (0+a) (0:Int))))
 (dsAt [DV.x (.int .i64 v1),DV.x (.int .i64 v2)] (0+(0+(a-List.length L))*1+b))
noncomputable def LAd2(L:List Int)(v1 v2:Int):Tree (SV×AS) :=
  .need (0+List.length L<=List.length L/\2<=2/\(List.length L+2)*8<=140737488355328)
  (.ret
   (SV.tup [],
   {
   tm :=
   [.ok (SV.ptr 0 0),.ok (SV.row 2 0 0 2 1),.unk,.unk,.ok (SV.ptr 0 0),.ok (SV.ptr 0 0),
   .ok (SV.ptr 0 0),.ok (SV.row 1 0 0 (List.length L) 1),.ok (SV.row 2 0 0 2 1),
   .ok (SV.row 3 0 0 (List.length L+2) 1),.ok (SV.ptr 0 0)],
   hp :=
   [some (.cells [SV.row 3 0 0 (List.length L+2) 1]),none,some (.cells [iv v1,iv v2]),some (.row (List.length L+2) 1 (LAd2_q1 L v1 v2))],
   next:=5,hint:=.nil }))
theorem LAd2_eq(L:List Int)(v1 v2:Int):tAd L [iv v1,iv v2] 2=LAd2 L v1 v2:=by kernel_rfl
noncomputable def LAd4_q1(L:List Int)(v1:Int)(v2:Int)(v3:Int)(v4:Int)(a:Nat)(b:Nat):DV :=
 selD (decide (a<List.length L)) (DV.x (.int .i64 (List.getD L (0+a) (0:Int))))
 (dsAt [DV.x (.int .i64 v1),DV.x (.int .i64 v2),DV.x (.int .i64 v3),DV.x (.int .i64 v4)] (0+(0+(a-List.length L))*1+b))
noncomputable def LAd4(L:List Int)(v1 v2 v3 v4:Int):Tree (SV×AS) :=
  .need (0+List.length L<=List.length L/\4<=4/\(List.length L+4)*8<=140737488355328)
  (.ret
   (SV.tup [],
   {
   tm :=
   [.ok (SV.ptr 0 0),.ok (SV.row 2 0 0 4 1),.unk,.unk,.ok (SV.ptr 0 0),.ok (SV.ptr 0 0),
   .ok (SV.ptr 0 0),.ok (SV.row 1 0 0 (List.length L) 1),.ok (SV.row 2 0 0 4 1),
   .ok (SV.row 3 0 0 (List.length L+4) 1),.ok (SV.ptr 0 0)],
   hp :=
   [some (.cells [SV.row 3 0 0 (List.length L+4) 1]),none,some (.cells [iv v1,iv v2,iv v3,iv v4]),
   some (.row (List.length L+4) 1 (LAd4_q1 L v1 v2 v3 v4))],
   next:=5,hint:=.nil }))
theorem LAd4_eq(L:List Int)(v1 v2 v3 v4:Int):tAd L [iv v1,iv v2,iv v3,iv v4] 4=LAd4 L v1 v2 v3 v4:=by kernel_rfl
noncomputable def LAn1_q1(v1:Int)(a:Nat)(b:Nat):DV :=
 DV.x (.int .i64 v1)
noncomputable def LAn1(v1:Int):Tree (SV×AS) :=
  .need (True/\1<=1/\8<=140737488355328)
  (.ret
   (SV.tup [],
   {
   tm :=
   [.ok (SV.ptr 0 0),.ok (SV.row 1 0 0 1 1),.unk,.unk,.ok (SV.ptr 0 0),.ok (SV.ptr 0 0),
   .ok (SV.ptr 0 0),.ok (SV.d (DV.x (.slice none 0 0))),.ok (SV.row 1 0 0 1 1),
   .ok (SV.row 2 0 0 1 1),.ok (SV.ptr 0 0)],
   hp:=[some (.cells [SV.row 2 0 0 1 1]),some (.cells [iv v1]),some (.row 1 1 (LAn1_q1 v1))],next:=4,hint:=.nil }))
theorem LAn1_eq(v1:Int):tAn [iv v1] 1=LAn1 v1:=by kernel_rfl
noncomputable def hpB(n:Nat)(f:Nat->Nat->DV)(N:List Int):Heap:=[some (.cells [.row 3 0 0 (n+N.length) 1]),none,none,some (.row (n+N.length) 1 (appC n f N))]
noncomputable def adM:MCtr:=fun args hp nx=>match args,hp,nx with
 |[.ptr 0 0,.row 2 0 0 1 1],[some (.cells [.row 1 0 0 n 1]),some (.row n' 1 f),some (.cells [.d (.x (.int .i64 a))])],3=>.need (RowI n n' f 1) (.ret (.tup [],hpB n f [a],4))
 |[.ptr 0 0,.row 2 0 0 2 1],[some (.cells [.row 1 0 0 n 1]),some (.row n' 1 f),some (.cells [.d (.x (.int .i64 a)),.d (.x (.int .i64 b))])],3=>.need (RowI n n' f 2) (.ret (.tup [],hpB n f [a,b],4))
 |[.ptr 0 0,.row 2 0 0 4 1],[some (.cells [.row 1 0 0 n 1]),some (.row n' 1 f),some (.cells [.d (.x (.int .i64 a)),.d (.x (.int .i64 b)),.d (.x (.int .i64 c)),.d (.x (.int .i64 d))])],3=>.need (RowI n n' f 4) (.ret (.tup [],hpB n f [a,b,c,d],4))
 |[.ptr 0 0,.row 1 0 0 1 1],[some (.cells [.d (.x (.slice none 0 0))]),some (.cells [.d (.x (.int .i64 a))])],2=>.ret (.tup [],[some (.cells [.row 2 0 0 1 1]),none,some (.row 1 1 (cellI [a]))],3)
 |_,_,_=>.fail
theorem hpB_eq{n:Nat}{f:Nat->Nat->DV}(h:IsI n f)(N:List Int):hpB n f N=[some (.cells [.row 3 0 0 (lsI n f++N).length 1]),none,none,some (.row (lsI n f++N).length 1 (cellI (lsI n f++N)))]:=by
 unfold hpB
 rw[appC_lsI h,List.length_append,lsI_len]
theorem ad_leaf{L vs:List Int}{k:Nat}(hk:vs.length=k){s:SV×AS}{g:Nat->Nat->DV}(hg:∀a,a<L.length+k->g a 0=.x (.int .i64 ((L++vs).getD a 0)))
  (he:gcA 3 [(.cell (.base 0) 0,3)] [0] [1,2] 4 .nil ⟨[.ok s.1],s.2.hp,s.2.next,.nil⟩=some ⟨[.ok (.tup [])],[some (.cells [.row 3 0 0 (L.length+k) 1]),none,none,some (.row (L.length+k) 1 g)],4,.nil⟩) :
  Gc 3 ⟨[.ok s.1],s.2.hp,s.2.next,.nil⟩ ⟨[.ok (.tup [])],[some (.cells [.row 3 0 0 (L++vs).length 1]),none,none,some (.row (L++vs).length 1 (cellI (L++vs)))],4,.nil⟩:=by
 refine(gcA_sound he).trans ?_
 refine gc_hp rfl rfl ⟨.inr ⟨_,_,rfl,by rw[List.length_append,hk],.refl _⟩,.inl rfl,.inl rfl,.inr ⟨_,_,rfl,rfl,row_apps hk hg⟩,trivial⟩
theorem ad_bl{n:Nat}{f:Nat->Nat->DV}(h:IsI n f)(cs:List SV):hpLe [some (.cells [.row 1 0 0 n 1]),some (.row n 1 f),some (.cells cs)] (hpA (lsI n f) cs) :=
 ⟨.inr ⟨_,_,rfl,by rw[lsI_len],.refl _⟩,.inr ⟨_,_,rfl,rfl,row_lsI h⟩,.inr ⟨_,_,rfl,rfl,.refl _⟩,trivial⟩
theorem adM_ok:MuOK Tryz.prog 42 adM:=by
 refine muOK_walk C00_ok D00_ok fun args hp nx r hr=>?_
 unfold adM at hr
 split at hr
 ·rename_i n n' f a
  obtain⟨⟨rfl,hI,hl⟩,rfl⟩:=hr
  have h1:=lsI_len n f
  refine⟨_,_,200,.nil,ad_bl hI [iv a],fun _ _ _ _ h=>h,Sat.of_eq (LAd1_eq (lsI n f) a) ⟨?_⟩⟩
  unfold LAd1
  rw[hpB_eq hI]
  exact⟨⟨by omega,by omega,by omega⟩,ad_leaf (vs:=[a]) (g:=LAd1_q1 (lsI n f) a) rfl (fun i hi=>sel_apps (lsI n f) [a] i hi) (by kernel_rfl)⟩
 ·rename_i n n' f a b
  obtain⟨⟨rfl,hI,hl⟩,rfl⟩:=hr
  have h1:=lsI_len n f
  refine⟨_,_,200,.nil,ad_bl hI [iv a,iv b],fun _ _ _ _ h=>h,Sat.of_eq (LAd2_eq (lsI n f) a b) ⟨?_⟩⟩
  unfold LAd2
  rw[hpB_eq hI]
  exact⟨⟨by omega,by omega,by omega⟩,ad_leaf (vs:=[a,b]) (g:=LAd2_q1 (lsI n f) a b) rfl (fun i hi=>sel_apps (lsI n f) [a,b] i hi) (by kernel_rfl)⟩
 ·rename_i n n' f a b c d
  obtain⟨⟨rfl,hI,hl⟩,rfl⟩:=hr
  have h1:=lsI_len n f
  refine⟨_,_,200,.nil,ad_bl hI [iv a,iv b,iv c,iv d],fun _ _ _ _ h=>h,Sat.of_eq (LAd4_eq (lsI n f) a b c d) ⟨?_⟩⟩
  unfold LAd4
  rw[hpB_eq hI]
  exact⟨⟨by omega,by omega,by omega⟩,ad_leaf (vs:=[a,b,c,d]) (g:=LAd4_q1 (lsI n f) a b c d) rfl (fun i hi=>sel_apps (lsI n f) [a,b,c,d] i hi) (by kernel_rfl)⟩
 ·rename_i a
  have hr:=hr
  subst hr
  refine⟨_,_,200,.nil,hpLe_refl _,fun _ _ _ _ h=>h,Sat.of_eq (LAn1_eq a) ⟨?_⟩⟩
  unfold LAn1
  refine⟨⟨trivial,by omega,by omega⟩,(gcA_sound (n0:=2) (roots:=[(.cell (.base 0) 0,2)]) (keep:=[0]) (drop:=[1]) (nx:=3) (h:=.nil) (s':=⟨[.ok (.tup [])],[some (.cells [.row 2 0 0 1 1]),none,some (.row 1 1 (LAn1_q1 a))],3,.nil⟩) (by kernel_rfl)).trans ?_⟩
  refine gc_hp rfl rfl ⟨.inr ⟨_,_,rfl,rfl,.refl _⟩,.inl rfl,.inr ⟨_,_,rfl,rfl,.row fun i j hi hj=>?_⟩,trivial⟩
  obtain rfl:i=0:=by omega
  rfl
 ·exact hr.elim
noncomputable def selA:List SV->Heap->Option (List Nat):=fun args hp=>match args with
 |[.ptr l 0,.row l2 _ _ _ _]=>(match hget hp l with
  |some (.cells [.row l1 _ _ _ _])=>some [l,l1,l2]
  |some (.cells [.d (.x (.slice none 0 0))])=>some [l,l2]
  |_=>none)
 |_=>none
noncomputable def mAd:MCtr:=mcB selA adM
theorem mAd_ok:MuOK Tryz.prog 42 mAd:=mcB_ok adM_ok
end Go.Proofs.YtanlnopgadbpjaaGreat.Rm
namespace Go.Sx
structure XT where
 op:Int
 nm:ByteArray
 kn:Int
 kp:ByteArray
 wn:Int
 wp:ByteArray
 n:Nat
 a:Nat->Nat->DV
def xtC(x:XT):Nat->DV
 |0=>.x (.int .i64 x.op)
 |1=>.x (.string x.nm)
 |2=>.x (.int .i64 x.kn)
 |3=>.x (.string x.kp)
 |4=>.x (.int .i64 x.wn)
 |5=>.x (.string x.wp)
 |6=>.ro x.n 7 x.a
 |_=>.x undef
structure TkT where
 ch:Int
 w:Int
 wh:XT
def tkC(t:TkT):Nat->DV
 |0=>.x (.int .i64 t.ch)
 |1=>.x (.int .i64 t.w)
 |2=>xtC t.wh 0
 |3=>xtC t.wh 1
 |4=>xtC t.wh 2
 |5=>xtC t.wh 3
 |6=>xtC t.wh 4
 |7=>xtC t.wh 5
 |8=>xtC t.wh 6
 |_=>.x undef
end Go.Sx
namespace Go.Proofs.YtanlnopgadbpjaaGreat.Rm
open Go.Sx
inductive It where
 |n (A:List Int)
 |x (p:Prop) (A:List Int)
def It.l:It->List Int
 |.n A=>A
 |.x _ A=>A
def It.ok:It->Prop
 |.n _=>True
 |.x p _=>p
def rowsT{α:Type}(k:Nat->(Nat->Nat->Sx.DV)->Tree α):List It->Nat->(Nat->Nat->Sx.DV)->Tree α
 |[],n,f=>k n f
 |.n A::r,n,f=>.need (RowI n n f A.length) (rowsT k r (n+A.length) (appC n f A))
 |.x p A::r,n,f=>.need p (.need (RowI n n f A.length) (rowsT k r (n+A.length) (appC n f A)))
def itsN(l:List It):List Int:=l.flatMap It.l
theorem rowsT_sat{α:Type}{P:Program}{Q:α->Prop}{k:Nat->(Nat->Nat->Sx.DV)->Tree α}:∀{l:List It} {L:List Int},L.length+(itsN l).length<=1000000000->(∀x∈l,x.ok)->(k (L++itsN l).length (cellI (L++itsN l))).sat P Q->(rowsT k l L.length (cellI L)).sat P Q
 |[],L,_,_,h=>by
  have e:L++itsN []=L:=by unfold itsN;simp
  rw[e] at h;exact h
 |.n A::r,L,hl,ho,h=>by
  have e:itsN (.n A::r)=A++itsN r:=rfl
  rw[e,List.length_append] at hl
  rw[e,<- List.append_assoc] at h
  refine⟨⟨rfl,isI_cellI L,by omega⟩,?_⟩
  rw[appC_cellI,<- List.length_append]
  exact rowsT_sat (by rw[List.length_append];omega) (fun x hx=>ho x (List.mem_cons_of_mem _ hx)) h
 |.x p A::r,L,hl,ho,h=>by
  have e:itsN (.x p A::r)=A++itsN r:=rfl
  rw[e,List.length_append] at hl
  rw[e,<- List.append_assoc] at h
  refine⟨ho (.x p A) List.mem_cons_self,⟨rfl,isI_cellI L,by omega⟩,?_⟩
  rw[appC_cellI,<- List.length_append]
  exact rowsT_sat (by rw[List.length_append];omega) (fun x hx=>ho x (List.mem_cons_of_mem _ hx)) h
noncomputable def atCode{α:Type}(t:Tree α):Tree α:=.code (codeC t) (codeS t) (codeK t)
noncomputable def _root_.Go.Sx.dgV(n:Nat)(f:Nat->Nat->Sx.DV):Int:=dgW n (intCell f)
noncomputable def _root_.Go.Sx.dgL(L:List Int):Int:=dgW L.length fun i=>L.getD i 0
theorem dgV_cellI(L:List Int):dgV L.length (cellI L)=dgL L:=rfl
def _root_.Go.Proofs.WdOK(n:Nat)(f:Nat->Nat->Sx.DV):Prop:=I64C n f
theorem wdOK_cellI{L:List Int}(h:L.length<=1000000000):WdOK L.length (cellI L):=⟨by omega,fun i hi=>rfl⟩
noncomputable def hpS(s:Int)(g:Nat->Int):Heap:=[some (.cells [u64v s]),some (.row 2 1 fun i _=>.x (.int .u64 (g i)))]
noncomputable def tSm(s:Int)(g:Nat->Int):Tree (SV×AS):=inlT Tryz.prog C00 D00 200 81 [.ptr 0 0,.row 1 0 0 2 1] ⟨[],hpS s g,2,.nil⟩
theorem LSm_eq(s:Int)(g:Nat->Int):tSm s g=atCode (sub [] (tSm s g)):=by kernel_rfl
noncomputable def stS(s:Int)(g:Nat->Int)(k:Int):AS:=⟨[.ok (.ptr 0 0)]++List.replicate 6 .unk++[.ok (.row 1 0 0 2 1),.ok (iv 2),.ok (iv k)]++List.replicate 17 .unk,hpS s g,2,.nil⟩
noncomputable def bodySm:Code:=loopN (bodyOf Tryz.prog 81) 0
noncomputable def BSm(s:Int)(g:Nat->Int)(k:Int):Tree (Ex×AS) :=
 .ite (decide (k<2)) (.need (0<=k/\k<2) (.need (0+k.toNat<2) (.need ((0:Int)<=32) (.ret (.normal,stS (stp s (g (0+k.toNat))) g (w64 (k+1))))))) (.ret (.exit 0,stS s g k))
theorem BSm_eq(s:Int)(g:Nat->Int)(k:Int):cutT 2 [] [0,7,8,9] [] 2 .nil (exec Tryz.prog C00 D00 200 bodySm (stS s g k))=BSm s g k:=by kernel_rfl
theorem KSm_eq(s:Int)(g:Nat->Int)(s':Int)(k:Int):codeK (sub [] (tSm s g)) (.exit 0) (stS s' g k)=.ret (.tup [],stS s' g k):=by kernel_rfl
theorem sm_sat{s:Int}{g:Nat->Int}:Sat Tryz.prog (tSm s g) fun q=>Gc 2 ⟨[.ok q.1],q.2.hp,q.2.next,.nil⟩ ⟨[.ok (.tup [])],[some (.cells [u64v (stp (stp s (g 0)) (g 1))]),none],2,.nil⟩:=by
 refine Sat.of_eq (LSm_eq s g) ⟨?_⟩
 refine code_satS C00_ok D00_ok (n:=200) (n0:=2) (nx:=2) (roots:=[]) (keep:=[0,7,8,9]) (drop:=[]) (h:=.nil) (c:=codeC (sub [] (tSm s g))) (st:=codeS (sub [] (tSm s g))) (k:=codeK (sub [] (tSm s g))) (body:=bodySm) (by kernel_rfl) (by kernel_rfl)
  (fun q t=>(q=2/\t=stS s g 0)\/(q=1/\t=stS (stp s (g 0)) g 1)\/(q=0/\t=stS (stp (stp s (g 0)) (g 1)) g 2))
  (fun e t=>e=.exit 0/\∃k,t=stS (stp (stp s (g 0)) (g 1)) g k)
  ⟨_,_,.inl ⟨rfl,rfl⟩,?_⟩ ?_ ?_
 ·exact entA_sound (s':=stS s g 0) (roots:=[]) (keep:=[0,7,8,9]) (drop:=[]) (nx:=2) (h:=.nil) (by kernel_rfl)
 ·rintro q t (⟨rfl,rfl⟩|⟨rfl,rfl⟩|⟨rfl,rfl⟩)
  ·refine Sat.of_eq (BSm_eq s g 0) ⟨?_⟩
   exact⟨fun _=>⟨by omega,by decide,by omega,1,_,by omega,.inr (.inl ⟨rfl,rfl⟩),Gc.refl _ _⟩,fun h=>by simp at h⟩
  ·refine Sat.of_eq (BSm_eq (stp s (g 0)) g 1) ⟨?_⟩
   exact⟨fun _=>⟨by omega,by decide,by omega,0,_,by omega,.inr (.inr ⟨rfl,rfl⟩),Gc.refl _ _⟩,fun h=>by simp at h⟩
  ·refine Sat.of_eq (BSm_eq (stp (stp s (g 0)) (g 1)) g 2) ⟨?_⟩
   exact⟨fun h=>by simp at h,fun _=>⟨_,⟨rfl,_,rfl⟩,Gc.refl _ _⟩⟩
 ·rintro e t ⟨rfl,k,rfl⟩
  refine Sat.of_eq (KSm_eq s g _ k) ⟨?_⟩
  exact gcA_sound (n0:=2) (roots:=[]) (keep:=[0]) (drop:=[1]) (nx:=2) (h:=.nil) (by kernel_rfl)
noncomputable def smM:MCtr:=fun args hp nx=>match args,hp,nx with
 |[.ptr 0 0,.row 1 0 0 2 1],[some (.cells [.d (.x (.int .u64 s))]),some (.cells [.d (.x (.int .u64 a)),.d (.x (.int .u64 b))])],2=>.ret (.tup [],[some (.cells [u64v (stp (stp s a) b)]),none],2)
 |_,_,_=>.fail
theorem smM_ok:MuOK Tryz.prog 81 smM:=by
 refine muOK_walk C00_ok D00_ok fun args hp nx r hr=>?_
 unfold smM at hr
 split at hr
 ·rename_i s a b
  have hr:=hr
  subst hr
  refine⟨_,hpS s fun i=>if i=0 then a else b,200,.nil,?_,fun _ _ _ _ h=>h,sm_sat (s:=s) (g:=fun i=>if i=0 then a else b)⟩
  refine⟨.inr ⟨_,_,rfl,rfl,.refl _⟩,.inr ⟨_,_,rfl,rfl,.cells rfl fun i j hi hj=>?_⟩,trivial⟩
  obtain rfl:j=0:=by omega
  have:i=0\/i=1:=by omega
  rcases this with rfl|rfl<;>rfl
 ·exact hr.elim
noncomputable def selS:List SV->Heap->Option (List Nat):=fun args hp=>match args with
 |[.ptr l 0,.row l2 _ _ _ _]=>some [l,l2]
 |_=>none
noncomputable def mSm:MCtr:=mcB selS smM
theorem mSm_ok:MuOK Tryz.prog 81 mSm:=mcB_ok smM_ok
noncomputable def muN:FuncId->Option MCtr:=fun k=>match k with
 |81=>some mSm
 |_=>none
theorem muN_ok(k:FuncId)(m:MCtr)(hk:muN k=some m):MuOK Tryz.prog k m:=by
 unfold muN at hk
 split at hk
 ·cases hk;exact mSm_ok
 ·cases hk
noncomputable def CNb:Ctx:=ctxN Tryz.prog (fun _=>none) (fun k=>k==81) 200 .nil 6
theorem CNb_ok:CtxOK Tryz.prog CNb:=ctxN_ok mixed (fun k c h=>by cases h) 6
noncomputable def CN1:Ctx:=withMu Tryz.prog CNb muN
theorem CN1_ok:CtxOK Tryz.prog CN1:=withMu_ok CNb_ok muN_ok
noncomputable def DN1:Dr:=drawnL Tryz.prog CN1
theorem DN1_ok:DrOK Tryz.prog CN1 DN1:=drawnL_ok CN1_ok mixed
def _root_.Go.Sx.jnV(a b:Int):Int:=stp (stp 1852793957 a) b
theorem LJn_eq(a b:Int):fnT Tryz.prog CN1 DN1 200 (fnOf Tryz.prog 103) (bodyOf Tryz.prog 103) [u64v a,u64v b] .nil=.ret (u64v (jnV a b)):=by kernel_rfl
theorem LHf2_eq:fnT Tryz.prog CN1 DN1 200 (fnOf Tryz.prog 102) (bodyOf Tryz.prog 102) [iv 2] .run=.ret (iv 1):=by kernel_rfl
theorem LHf3_eq:fnT Tryz.prog CN1 DN1 200 (fnOf Tryz.prog 102) (bodyOf Tryz.prog 102) [iv 3] .run=.ret (iv 2):=by kernel_rfl
theorem LHf4_eq:fnT Tryz.prog CN1 DN1 200 (fnOf Tryz.prog 102) (bodyOf Tryz.prog 102) [iv 4] .run=.ret (iv 2):=by kernel_rfl
noncomputable def cJn:Ctr:=fun ss=>match ss with
 |[.d (.x (.int .u64 a)),.d (.x (.int .u64 b))]=>.ret (u64v (jnV a b))
 |_=>.fail
theorem cJn_ok:CtrOK Tryz.prog 103 cJn:=ctrOK_S CN1_ok DN1_ok (by kernel_rfl) (by kernel_rfl) fun ss r h=>by
 unfold cJn at h
 split at h
 ·rename_i a b
  have h:=h
  subst h
  exact⟨200,.nil,Sat.of_eq (LJn_eq a b) ⟨rfl⟩⟩
 ·exact h.elim
noncomputable def cHf:Ctr:=fun ss=>match ss with
 |[.d (.x (.int .i64 2))]=>.ret (iv 1)
 |[.d (.x (.int .i64 3))]=>.ret (iv 2)
 |[.d (.x (.int .i64 4))]=>.ret (iv 2)
 |_=>.fail
theorem cHf_ok:CtrOK Tryz.prog 102 cHf:=ctrOK_S CN1_ok DN1_ok (by kernel_rfl) (by kernel_rfl) fun ss r h=>by
 unfold cHf at h
 split at h
 ·have h:=h
  subst h;exact⟨200,.run,Sat.of_eq LHf2_eq ⟨rfl⟩⟩
 ·have h:=h
  subst h;exact⟨200,.run,Sat.of_eq LHf3_eq ⟨rfl⟩⟩
 ·have h:=h
  subst h;exact⟨200,.run,Sat.of_eq LHf4_eq ⟨rfl⟩⟩
 ·exact h.elim
noncomputable def cWd0:Ctr:=fun ss=>match ss with
 |[.d (.x (.slice none 0 0))]=>.ret (u64v (dgL []))
 |[.d (.ro n 1 f)]=>.need (WdOK n f) (.ret (u64v (dgV n f)))
 |_=>.fail
theorem cWd0_ok:CtrOK Tryz.prog 45 cWd0:=cWords_ok.mono fun ss r h=>by
 unfold cWd0 at h
 split at h
 ·have h:=h
  subst h
  exact⟨⟨by omega,fun i hi=>absurd hi (Nat.not_lt_zero _)⟩,rfl⟩
 ·exact h
 ·exact h.elim
def _root_.Go.Proofs.UOK(n:Nat)(c:Nat->Nat->Sx.DV):Prop:=∀i,i<n->c i 0=.x (.int .u64 (numV (c i 0)))
noncomputable def ruV(n:Nat)(g:Nat->Int):SV:=.d (.ro n 1 fun i _=>.x (.int .u64 (g i)))
theorem uOK_le{n:Nat}{c:Nat->Nat->Sx.DV}(h:UOK n c):leSVs 0 [] [] [.d (.ro n 1 c)] [ruV n fun i=>numV (c i 0)]:=by
 simp only[leSVs,leSV,ruV,leD,and_true,true_and]
 intro i j hi hj
 obtain rfl:j=0:=by omega
 exact h i hi
noncomputable def mnO(c2:Option Ctr):FuncId->Option Ctr:=fun k=>match k with
 |45=>some cWd0
 |102=>some cHf
 |103=>some cJn
 |78=>c2
 |_=>none
theorem mnO_ok{c2:Option Ctr}(h:∀c,c2=some c->CtrOK Tryz.prog 78 c)(k:Nat)(c:Ctr)(hk:mnO c2 k=some c):CtrOK Tryz.prog k c/\goodF Tryz.prog k=true:=by
 unfold mnO at hk
 split at hk
 ·cases hk;exact⟨cWd0_ok,by kernel_rfl⟩
 ·cases hk;exact⟨cHf_ok,by kernel_rfl⟩
 ·cases hk;exact⟨cJn_ok,by kernel_rfl⟩
 ·exact⟨h c hk,by kernel_rfl⟩
 ·cases hk
noncomputable def CO(c2:Option Ctr):Ctx:=ctxN Tryz.prog (mnO c2) (fun _=>false) 200 .run 6
theorem CO_ok{c2:Option Ctr}(h:∀c,c2=some c->CtrOK Tryz.prog 78 c):CtxOK Tryz.prog (CO c2):=ctxN_ok mixed (mnO_ok h) 6
noncomputable def DO'(c2:Option Ctr):Dr:=drawnL Tryz.prog (CO c2)
theorem DO_ok{c2:Option Ctr}(h:∀c,c2=some c->CtrOK Tryz.prog 78 c):DrOK Tryz.prog (CO c2) (DO' c2):=drawnL_ok (CO_ok h) mixed
noncomputable def tRt(c2:Option Ctr)(n:Nat)(g:Nat->Int):Tree SV:=fnT Tryz.prog (CO c2) (DO' c2) 200 (fnOf Tryz.prog 78) (bodyOf Tryz.prog 78) [ruV n g] .run
theorem LRt0_eq(g:Nat->Int):tRt none 0 g=.ret (u64v (dgL [])):=by kernel_rfl
theorem LRt1_eq(g:Nat->Int):tRt none 1 g=.ret (u64v (g 0)):=by kernel_rfl
noncomputable def cR1:Ctr:=fun ss=>match ss with
 |[.d (.ro 1 1 c)]=>.need (UOK 1 c) (.ret (u64v (numV (c 0 0))))
 |_=>.fail
theorem noO:∀c:Ctr,(none:Option Ctr)=some c->CtrOK Tryz.prog 78 c:=fun c h=>by cases h
theorem someO{d:Ctr}(hd:CtrOK Tryz.prog 78 d):∀c:Ctr,some d=some c->CtrOK Tryz.prog 78 c:=fun c h=>by cases h;exact hd
theorem cR1_ok:CtrOK Tryz.prog 78 cR1:=ctrOK_leS (CO_ok noO) (DO_ok noO) (by kernel_rfl) (by kernel_rfl) fun ss r h=>by
 unfold cR1 at h
 split at h
 ·rename_i c
  obtain⟨h1,rfl⟩:=h
  exact⟨[ruV 1 fun i=>numV (c i 0)],200,.run,uOK_le h1,Sat.of_eq (LRt1_eq fun i=>numV (c i 0)) ⟨rfl⟩⟩
 ·exact h.elim
noncomputable def LRt2(g:Nat->Int):Tree SV:=.need (((0:Int)<=1/\1<=2)/\True) (.need (UOK 1 fun i _=>.x (.int .u64 (g (0+i)))) (.need (True/\(0:Int)<=1/\1<=2) (.need (UOK 1 fun i _=>.x (.int .u64 (g (1+i)))) (.ret (u64v (jnV (g 0) (g 1)))))))
theorem LRt2_eq(g:Nat->Int):tRt (some cR1) 2 g=LRt2 g:=by kernel_rfl
noncomputable def cR2:Ctr:=fun ss=>match ss with
 |[.d (.ro 1 1 c)]=>.need (UOK 1 c) (.ret (u64v (numV (c 0 0))))
 |[.d (.ro 2 1 c)]=>.need (UOK 2 c) (.ret (u64v (jnV (numV (c 0 0)) (numV (c 1 0)))))
 |_=>.fail
theorem cR2_ok:CtrOK Tryz.prog 78 cR2:=by
 intro ss vs w F r hF hgl hr hev
 unfold cR2 at hev
 split at hev
 ·exact cR1_ok _ vs w F r hF hgl hr hev
 ·rename_i c
  refine(ctrOK_leS (c:=fun s=>.need (s=[.d (.ro 2 1 c)]/\UOK 2 c) (.ret (u64v (jnV (numV (c 0 0)) (numV (c 1 0)))))) (CO_ok (someO cR1_ok)) (DO_ok (someO cR1_ok)) (by kernel_rfl) (by kernel_rfl) fun ss r h=>?_) _ vs w F r hF hgl hr ⟨⟨rfl,hev.1⟩,hev.2⟩
  obtain⟨⟨rfl,h1⟩,rfl⟩:=h
  refine⟨[ruV 2 fun i=>numV (c i 0)],200,.run,uOK_le h1,Sat.of_eq (LRt2_eq fun i=>numV (c i 0)) ⟨?_⟩⟩
  exact⟨⟨⟨by omega,by omega⟩,trivial⟩,fun i hi=>rfl,⟨trivial,by omega,by omega⟩,fun i hi=>rfl,rfl⟩
 ·exact hev.elim
noncomputable def LRt3(g:Nat->Int):Tree SV:=.need (((0:Int)<=2/\2<=3)/\True) (.need (UOK 2 fun i _=>.x (.int .u64 (g (0+i)))) (.need (True/\(0:Int)<=2/\2<=3) (.need (UOK 1 fun i _=>.x (.int .u64 (g (2+i)))) (.ret (u64v (jnV (jnV (g 0) (g 1)) (g 2)))))))
theorem LRt3_eq(g:Nat->Int):tRt (some cR2) 3 g=LRt3 g:=by kernel_rfl
noncomputable def LRt4(g:Nat->Int):Tree SV:=.need (((0:Int)<=2/\2<=4)/\True) (.need (UOK 2 fun i _=>.x (.int .u64 (g (0+i)))) (.need (True/\(0:Int)<=2/\2<=4) (.need (UOK 2 fun i _=>.x (.int .u64 (g (2+i)))) (.ret (u64v (jnV (jnV (g 0) (g 1)) (jnV (g 2) (g 3))))))))
theorem LRt4_eq(g:Nat->Int):tRt (some cR2) 4 g=LRt4 g:=by kernel_rfl
noncomputable def _root_.Go.Sx.rtG(n:Nat)(g:Nat->Int):Int:=match n with
 |0=>dgL []
 |1=>g 0
 |2=>jnV (g 0) (g 1)
 |3=>jnV (jnV (g 0) (g 1)) (g 2)
 |_=>jnV (jnV (g 0) (g 1)) (jnV (g 2) (g 3))
noncomputable def _root_.Go.Sx.rtV(n:Nat)(c:Nat->Nat->Sx.DV):Int:=rtG n fun i=>numV (c i 0)
noncomputable def cRt:Ctr:=fun ss=>match ss with
 |[.d (.ro n 1 c)]=>.need (n<=4/\UOK n c) (.ret (u64v (rtV n c)))
 |_=>.fail
theorem cRt_ok:CtrOK Tryz.prog 78 cRt:=by
 intro ss vs w F r hF hgl hr hev
 unfold cRt at hev
 split at hev
 ·rename_i n c
  obtain⟨⟨hn,hu⟩,hv⟩:=hev
  have one:∀{c2:Option Ctr} (h2:∀c,c2=some c->CtrOK Tryz.prog 78 c) (t:Tree SV),tRt c2 n (fun i=>numV (c i 0))=t->Sat Tryz.prog t (·=u64v (rtV n c))->Calls Tryz.prog 78 vs w fun e w'=>∃v,e=.returned v/\Out w emp F [] (fun x=>True) [] v r w':=by
   intro c2 h2 t ht hs
   refine(ctrOK_leS (c:=fun s=>.need (s=[.d (.ro n 1 c)]/\UOK n c) (.ret (u64v (rtV n c)))) (CO_ok h2) (DO_ok h2) (by kernel_rfl) (by kernel_rfl) fun ss r h=>?_) _ vs w F r hF hgl hr ⟨⟨rfl,hu⟩,hv⟩
   obtain⟨⟨rfl,h1⟩,rfl⟩:=h
   exact⟨[ruV n fun i=>numV (c i 0)],200,.run,uOK_le h1,Sat.of_eq ht hs⟩
  have hn':n=0\/n=1\/n=2\/n=3\/n=4:=by omega
  rcases hn' with rfl|rfl|rfl|rfl|rfl
  ·exact one noO _ (LRt0_eq _) ⟨rfl⟩
  ·exact one noO _ (LRt1_eq _) ⟨rfl⟩
  ·exact one (someO cR1_ok) _ (LRt2_eq _) ⟨⟨⟨⟨by omega,by omega⟩,trivial⟩,fun i hi=>rfl,⟨trivial,by omega,by omega⟩,fun i hi=>rfl,rfl⟩⟩
  ·exact one (someO cR2_ok) _ (LRt3_eq _) ⟨⟨⟨⟨by omega,by omega⟩,trivial⟩,fun i hi=>rfl,⟨trivial,by omega,by omega⟩,fun i hi=>rfl,rfl⟩⟩
  ·exact one (someO cR2_ok) _ (LRt4_eq _) ⟨⟨⟨⟨by omega,by omega⟩,trivial⟩,fun i hi=>rfl,⟨trivial,by omega,by omega⟩,fun i hi=>rfl,rfl⟩⟩
 ·exact hev.elim
end Go.Proofs.YtanlnopgadbpjaaGreat.Rm
namespace Go.Sx
structure FrT where
 n:Nat
 w:Nat->Int
def fmC(f:FrT):Nat->DV
 |0=>.ro f.n 1 fun j _=>.x (.int .u64 (f.w j))
 |_+1=>.x undef
def fmN(f:FrT):List Int:=(List.range f.n).map fun j=>w64 (f.w j)
end Go.Sx
namespace Go.Proofs.YtanlnopgadbpjaaGreat.Rm
open Go.Sx
noncomputable def muP:FuncId->Option MCtr:=fun k=>match k with
 |42=>some mAd
 |_=>none
theorem muP_ok(k:FuncId)(m:MCtr)(hk:muP k=some m):MuOK Tryz.prog k m:=by
 unfold muP at hk
 split at hk
 ·cases hk;exact mAd_ok
 ·cases hk
noncomputable def manP:FuncId->Option Ctr:=fun k=>match k with
 |45=>some cWd0
 |78=>some cRt
 |_=>none
theorem manP_ok(k:Nat)(c:Ctr)(hk:manP k=some c):CtrOK Tryz.prog k c/\goodF Tryz.prog k=true:=by
 unfold manP at hk
 split at hk
 ·cases hk;exact⟨cWd0_ok,by kernel_rfl⟩
 ·cases hk;exact⟨cRt_ok,by kernel_rfl⟩
 ·cases hk
noncomputable def CPb:Ctx:=ctxN Tryz.prog manP (fun k=>k==42) 200 .nil 6
theorem CPb_ok:CtxOK Tryz.prog CPb:=ctxN_ok mixed manP_ok 6
noncomputable def CP:Ctx:=withMu Tryz.prog CPb muP
theorem CP_ok:CtxOK Tryz.prog CP:=withMu_ok CPb_ok muP_ok
noncomputable def DP:Dr:=drawnL Tryz.prog CP
theorem DP_ok:DrOK Tryz.prog CP DP:=drawnL_ok CP_ok mixed
noncomputable def fmS(n:Nat)(f:Nat->FrT):SV:=.d (.ro n 1 fun i j=>fmC (f i) j)
noncomputable def tFr(n:Nat)(f:Nat->FrT):Tree SV:=fnT Tryz.prog CP DP 200 (fnOf Tryz.prog 41) (bodyOf Tryz.prog 41) [fmS n f] .nil
theorem LFr_eq(n:Nat)(f:Nat->FrT):tFr n f=atCode (sub [] (tFr n f)):=by kernel_rfl
noncomputable def slF(l:List (Nat×SV)):List TV:=(List.range 35).map fun k=>match l.find? (fun e=>Nat.beq e.1 k) with|some e=>.ok e.2|none=>.unk
noncomputable def cellU(L:List Int):Nat->Nat->Sx.DV:=fun i _=>.x (.int .u64 (L.getD i 0))
noncomputable def stF1(n:Nat)(f:Nat->FrT)(m:Nat)(c:Nat->Nat->Sx.DV)(i:Int):AS:=⟨slF [(3,.row 0 0 0 m 1),(9,fmS n f),(10,iv n),(11,iv i)],[some (.row m 1 c)],1,.nil⟩
noncomputable def bodyF1:Code:=loopN (bodyOf Tryz.prog 41) 0
noncomputable def bF1(n:Nat)(f:Nat->FrT)(L:List Int)(i:Int):Tree (Ex×AS):=cutT 0 [(.slot 3,0)] [3,9,10,11] [] 1 .nil (exec Tryz.prog CP DP 200 bodyF1 (stF1 n f L.length (cellU L) i))
noncomputable def wdS(f:FrT):SV:=.d (.ro f.n 1 fun j _=>.x (.int .u64 (f.w j)))
noncomputable def stF2(n:Nat)(f:Nat->FrT)(m:Nat)(c:Nat->Nat->Sx.DV)(i:Int)(x:FrT)(q:Nat)(d:Nat->Nat->Sx.DV)(j:Int):AS:=⟨slF [(3,.row 0 0 0 m 1),(6,.ptr 3 0),(9,fmS n f),(10,iv n),(11,iv i),(16,wdS x),(17,iv x.n),(18,iv j)],[some (.row m 1 c),none,none,some (.cells [.row 4 0 0 q 1]),some (.row q 1 d)],5,.nil⟩
noncomputable def bodyF2:Code:=loopN (bodyOf Tryz.prog 41) 1
noncomputable def BF2(n:Nat)(f:Nat->FrT)(L:List Int)(i:Int)(x:FrT)(M:List Int)(j:Int):Tree (Ex×AS) :=
 .ite (decide (j<(x.n:Int)))
  (.need (0<=j/\j<(x.n:Int)) (rowsT (fun q d=>.ret (.normal,stF2 n f L.length (cellU L) i x q d (w64 (j+1)))) [.n [w64 (x.w j.toNat)]] M.length (cellI M)))
  (.ret (.exit 2,stF2 n f L.length (cellU L) i x M.length (cellI M) j))
theorem BF2_eq(n:Nat)(f:Nat->FrT)(L:List Int)(i:Int)(x:FrT)(M:List Int)(j:Int):cutT 4 [(.cell (.base 3) 0,4)] [3,6,9,10,11,16,17,18] [1,2] 5 .nil (exec Tryz.prog CP DP 200 bodyF2 (stF2 n f L.length (cellU L) i x M.length (cellI M) j))=BF2 n f L i x M j:=by kernel_rfl
noncomputable def BF1(n:Nat)(f:Nat->FrT)(L:List Int)(i:Int):Tree (Ex×AS) :=
 .ite (decide (i<(n:Int))) (.need (0<=i/\i<(n:Int)) (atCode (sub [0,0] (bF1 n f L i)))) (.ret (.exit 0,stF1 n f L.length (cellU L) i))
theorem BF1_eq(n:Nat)(f:Nat->FrT)(L:List Int)(i:Int):bF1 n f L i=BF1 n f L i:=by kernel_rfl
noncomputable def selU(L:List Int)(v:Int)(a b:Nat):Sx.DV:=selD (decide (a<L.length)) (.x (.int .u64 (L.getD (0+a) 0))) (dsAt [.x (.int .u64 v)] (0+(0+(a-L.length))*1+b))
noncomputable def cell0(M:List Int):Nat->Nat->Sx.DV:=fun i _=>.x (.int .i64 (M.getD (0+i) 0))
noncomputable def KF2(n:Nat)(f:Nat->FrT)(L:List Int)(i:Int)(M:List Int):Tree (Ex×AS) :=
 .need (0+M.length<=M.length) (.need (WdOK M.length (cell0 M)) (.need (0+L.length<=L.length/\1<=1/\(L.length+1)*8<=140737488355328) (.ret (.normal,stF1 n f (L.length+1) (selU L (dgV M.length (cell0 M))) (w64 (i+1))))))
theorem KF2_eq(n:Nat)(f:Nat->FrT)(L:List Int)(i:Int)(x:FrT)(M:List Int)(j:Int):codeK (sub [0,0] (bF1 n f L i)) (.exit 2) (stF2 n f L.length (cellU L) i x M.length (cellI M) j)=KF2 n f L i M:=by kernel_rfl
noncomputable def KF1_q1(L:List Int)(i:Nat)(j:Nat):Sx.DV :=
 DV.x (.int .u64 (List.getD L (0+i) (0:Int)))
noncomputable def KF1(n:Nat)(f:Nat->FrT)(L:List Int)(i:Int):Tree SV :=
 .need (0+List.length L<=List.length L) (.need (List.length L<=4/\UOK (List.length L) (KF1_q1 L)) (.ret (SV.d (DV.x (.int .u64 (rtV (List.length L) (KF1_q1 L)))))))
theorem KF1_eq(n:Nat)(f:Nat->FrT)(L:List Int)(i:Int):codeK (sub [] (tFr n f)) (.exit 0) (stF1 n f L.length (cellU L) i)=KF1 n f L i:=by kernel_rfl
end Go.Proofs.YtanlnopgadbpjaaGreat.Rm
