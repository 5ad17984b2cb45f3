/-
  An abstract program logic, contracts of functions, and laws of terms and rules (part 5).
-/
import Derived.Test.YticgcpebdldbgaaGreatDoorAbTwo
import Derived.Test.YticgcpebdldbgaaGreatDoorAbFour
set_option linter.unusedVariables false
set_option linter.unusedSimpArgs false
set_option maxHeartbeats 4000000
set_option maxRecDepth 4000
namespace Go.Proofs.YticgcpebdldbgaaGreatDoor.Ab
open Go.Proofs
def lowB(c:UInt8):Bool:=decide (97<=c.toNat/\c.toNat<=122)
def upB(c:UInt8):Bool:=decide (65<=c.toNat/\c.toNat<=90\/c.toNat=95)
theorem Qfm(c:UInt8):isL c=(lowB c||upB c):=by
 unfold isL lowB upB
 rw[Bool.eq_iff_iff]
 simp only[Qwl,QwW]
theorem Qab(c:UInt8):Pure Tryz.prog 72 [.v (.int .u8 (c.toNat:Nat))] (.b (lowB c)):=by
 intro h
 have hc:=c.toNat_lt
 refine Qa Tryz.func72 rfl Tryz.call72 Tryz.ntmps72 Tryz.results72 (by simp) ?_
 by_cases h1:97<=c.toNat
 ·have y1:((c.toNat:Nat):Int)>=97:=by omega
  have y1':(97:Int)<=((c.toNat:Nat):Int):=by omega
  by_cases h2:c.toNat<=122
  ·have y2:((c.toNat:Nat):Int)<=122:=by omega
   have e:lowB c=true:=Qwc ⟨h1,h2⟩
   repeat refine Qb ?_;simp only[go_sem,seval,y1,y2]
   (refine Qc QvT (.keep (.v _)) ⟨by rw[e],rfl⟩)
  ·have y2:¬((c.toNat:Nat):Int)<=122:=by omega
   have e:lowB c=false:=Qv6 (by omega)
   repeat refine Qb ?_;simp only[go_sem,seval,y1,y2]
   (refine Qc QvT (.keep (.v _)) ⟨by rw[e],rfl⟩)
 ·have y1:¬((c.toNat:Nat):Int)>=97:=by omega
  have y1':¬(97:Int)<=((c.toNat:Nat):Int):=by omega
  have e:lowB c=false:=Qv6 (by omega)
  repeat refine Qb ?_;simp only[go_sem,seval,y1]
  (refine Qc QvT (.keep (.v _)) ⟨by rw[e],rfl⟩)
theorem ZN(c:UInt8):Pure Tryz.prog 74 [.v (.int .u8 (c.toNat:Nat))] (.b (isD c)):=by
 intro h
 have hc:=c.toNat_lt
 refine Qa Tryz.func74 rfl Tryz.call74 Tryz.ntmps74 Tryz.results74 (by simp) ?_
 by_cases h1:48<=c.toNat
 ·have y1:((c.toNat:Nat):Int)>=48:=by omega
  have y1':(48:Int)<=((c.toNat:Nat):Int):=by omega
  by_cases h2:c.toNat<=57
  ·have y2:((c.toNat:Nat):Int)<=57:=by omega
   have e:isD c=true:=Qwc ⟨h1,h2⟩
   repeat refine Qb ?_;simp only[go_sem,seval,y1,y2]
   (refine Qc QvT (.keep (.v _)) ⟨by rw[e],rfl⟩)
  ·have y2:¬((c.toNat:Nat):Int)<=57:=by omega
   have e:isD c=false:=Qv6 (by omega)
   repeat refine Qb ?_;simp only[go_sem,seval,y1,y2]
   (refine Qc QvT (.keep (.v _)) ⟨by rw[e],rfl⟩)
 ·have y1:¬((c.toNat:Nat):Int)>=48:=by omega
  have y1':¬(48:Int)<=((c.toNat:Nat):Int):=by omega
  have e:isD c=false:=Qv6 (by omega)
  repeat refine Qb ?_;simp only[go_sem,seval,y1]
  (refine Qc QvT (.keep (.v _)) ⟨by rw[e],rfl⟩)
theorem Qa6(c:UInt8):Pure Tryz.prog 73 [.v (.int .u8 (c.toNat:Nat))] (.b (upB c)):=by
 intro h
 have hc:=c.toNat_lt
 refine Qa Tryz.func73 rfl Tryz.call73 Tryz.ntmps73 Tryz.results73 (by simp) ?_
 by_cases h1:65<=c.toNat
 ·have y1:((c.toNat:Nat):Int)>=65:=by omega
  have y1':(65:Int)<=((c.toNat:Nat):Int):=by omega
  by_cases h2:c.toNat<=90
  ·have y2:((c.toNat:Nat):Int)<=90:=by omega
   have e:upB c=true:=Qwc (.inl ⟨h1,h2⟩)
   repeat refine Qb ?_;simp only[go_sem,seval,y1,y2]
   (refine Qc QvT (.keep (.v _)) ⟨by rw[e],rfl⟩)
  ·have y2:¬((c.toNat:Nat):Int)<=90:=by omega
   by_cases h3:c.toNat=95
   ·have y3:(((c.toNat:Nat):Int)==95)=true:=by simp;omega
    have e:upB c=true:=Qwc (.inr h3)
    repeat refine Qb ?_;simp only[go_sem,seval,y1,y2,y3]
    (refine Qc QvT (.keep (.v _)) ⟨by rw[e],rfl⟩)
   ·have y3:(((c.toNat:Nat):Int)==95)=false:=by simp;omega
    have e:upB c=false:=Qv6 (by omega)
    repeat refine Qb ?_;simp only[go_sem,seval,y1,y2,y3]
    (refine Qc QvT (.keep (.v _)) ⟨by rw[e],rfl⟩)
 ·have y1:¬((c.toNat:Nat):Int)>=65:=by omega
  have y1':¬(65:Int)<=((c.toNat:Nat):Int):=by omega
  have y3:(((c.toNat:Nat):Int)==95)=false:=by simp;omega
  have e:upB c=false:=Qv6 (by omega)
  repeat refine Qb ?_;simp only[go_sem,seval,y1,y3]
  (refine Qc QvT (.keep (.v _)) ⟨by rw[e],rfl⟩)
theorem QkJ(c:UInt8):Pure Tryz.prog 92 [.v (.int .u8 (c.toNat:Nat))] (.b (isSp c)):=by
 intro h
 refine Qa Tryz.func92 rfl Tryz.call92 Tryz.ntmps92 Tryz.results92 (by simp) ?_
 by_cases h1:c.toNat=32
 ·have y1:(((c.toNat:Nat):Int)==32)=true:=by simp;omega
  have e:isSp c=true:=Qwc (by omega)
  repeat refine Qb ?_;simp only[go_sem,seval,y1]
  (refine Qc QvT (.keep (.v _)) ⟨by rw[e],rfl⟩)
 ·have y1:(((c.toNat:Nat):Int)==32)=false:=by simp;omega
  by_cases h2:c.toNat=9
  ·have y2:(((c.toNat:Nat):Int)==9)=true:=by simp;omega
   have e:isSp c=true:=Qwc (by omega)
   repeat refine Qb ?_;simp only[go_sem,seval,y1,y2]
   (refine Qc QvT (.keep (.v _)) ⟨by rw[e],rfl⟩)
  ·have y2:(((c.toNat:Nat):Int)==9)=false:=by simp;omega
   by_cases h3:c.toNat=10
   ·have y3:(((c.toNat:Nat):Int)==10)=true:=by simp;omega
    have e:isSp c=true:=Qwc (by omega)
    repeat refine Qb ?_;simp only[go_sem,seval,y1,y2,y3]
    (refine Qc QvT (.keep (.v _)) ⟨by rw[e],rfl⟩)
   ·have y3:(((c.toNat:Nat):Int)==10)=false:=by simp;omega
    by_cases h4:c.toNat=13
    ·have y4:(((c.toNat:Nat):Int)==13)=true:=by simp;omega
     have e:isSp c=true:=Qwc (by omega)
     repeat refine Qb ?_;simp only[go_sem,seval,y1,y2,y3,y4]
     (refine Qc QvT (.keep (.v _)) ⟨by rw[e],rfl⟩)
    ·have y4:(((c.toNat:Nat):Int)==13)=false:=by simp;omega
     have e:isSp c=false:=Qv6 (by omega)
     repeat refine Qb ?_;simp only[go_sem,seval,y1,y2,y3,y4]
     (refine Qc QvT (.keep (.v _)) ⟨by rw[e],rfl⟩)
section
variable(l:List UInt8)(hl:l.length<=16384)
include hl
theorem Z1(k:Nat)(hk:k<=l.length):Pure Tryz.prog 71 [.v (.string (mkB l)),.i k] (.i ((l.length - (QK false (l.drop k)).length:Nat):Int)):=by
 intro h
 have hsl:=fun b=>XG Tryz.prog 9 3 (by kernel_rfl) b
 refine Qa Tryz.func71 rfl Tryz.call71 Tryz.ntmps71 Tryz.results71 (by simp) ?_
 repeat refine Qb ?_;simp only[go_sem,seval]
 obtain⟨I,hI⟩:∃I:Nat->AS->Prop,I=fun m' s=>∃j:Nat,m'=l.length - j/\j<=l.length/\QK false (l.drop j)=QK false (l.drop k)/\s.tm 0 = .v (.string (mkB l))/\s.tm 1 = .i j/\s.h=h:=⟨_,rfl⟩;refine Qk I ?_ (m:=l.length - k) ?_
 ·intro m' s hs;rw[hI]at hs;obtain⟨tm,hp⟩:=s;dsimp only at hs;obtain⟨j,rfl,hj,he,t0,t1,rfl⟩:=hs
  by_cases hlt:j<l.length
  ·have z1:(((j:Nat):Int)<((l.length:Nat):Int)):=by omega
   have hix:=Xe Tryz.prog 9 (by kernel_rfl) (mkB l) j (by rw[Qj];exact hlt)
   rw[XE l j hlt]at hix
   have cp:=QkJ l[j]
   have hd:=drop_cons hlt
   rw[hd,QK]at he
   cases hc:isSp l[j]with
   |true =>
    rw[hc]at cp
    rw[QvY hc]at he
    repeat (first|refine Qd cp ?_|refine Qb ?_);simp only[go_sem,seval,t0,t1,hsl,Qj,z1,hix]
    refine Qs.mk (m':=l.length - (j+1)) (by omega) ?_
    rw[hI]
    refine⟨j+1,rfl,hlt,he,t0,?_,rfl⟩
    simp only[upd,↓reduceIte]
    rw[Qz (by omega)]
   |false =>
    rw[hc]at cp
    rw[QvU (by rw[hc];decide)]at he
    by_cases h35:(l[j]).toNat=35
    ·rw[QvY h35]at he
     have z3:((((l[j]).toNat:Nat):Int)==35)=true:=by rw[h35];rfl
     have hI0:=hI
     repeat (first|refine Qd cp ?_|refine Qb ?_);simp only[go_sem,seval,t0,t1,hsl,Qj,z1,hix,z3]
     obtain⟨I,hI⟩:∃I:Nat->AS->Prop,I=fun m' s=>∃i:Nat,m'=l.length - i/\i<=l.length/\j<=i/\(i=j\/QK true (l.drop i)=QK false (l.drop k))/\s.tm 0 = .v (.string (mkB l))/\s.tm 1 = .i i/\s.h=hp:=⟨_,rfl⟩;refine Qk I ?_ (m:=l.length - j) ?_
     ·intro m' s hs;rw[hI]at hs;obtain⟨tm,hp⟩:=s;dsimp only at hs;obtain⟨i,rfl,hi,hji,he2,u0,u1,rfl⟩:=hs
      by_cases hlt2:i<l.length
      ·have y1:(((i:Nat):Int)<((l.length:Nat):Int)):=by omega
       have hix2:=Xe Tryz.prog 9 (by kernel_rfl) (mkB l) i (by rw[Qj];exact hlt2)
       rw[XE l i hlt2]at hix2
       have hd2:=drop_cons hlt2
       by_cases h10:(l[i]).toNat=10
       ·have y2:((((l[i]).toNat:Nat):Int) != 10)=false:=by rw[h10];rfl
        have hne:i≠j:=by rintro rfl;omega
        have he3:=he2.resolve_left hne
        rw[hd2,QK,QvY h10]at he3
        repeat refine Qb ?_;simp only[go_sem,seval,u0,u1,hsl,Qj,y1,hix2,y2]
        refine Qs.mk (m':=l.length - i) (by omega) ?_
        rw[hI0]
        refine⟨i,rfl,hi,?_,u0,u1,rfl⟩
        rw[hd2,QK,QvY (show isSp l[i]=true by unfold isSp;exact Qwc (by omega))];exact he3
       ·have y2:((((l[i]).toNat:Nat):Int) != 10)=true:=by simpa using fun e=>h10 (by omega)
        repeat refine Qb ?_;simp only[go_sem,seval,u0,u1,hsl,Qj,y1,hix2,y2]
        refine Qs.mk (m':=l.length - (i+1)) (by omega) ?_
        rw[hI]
        refine⟨i+1,rfl,hlt2,by omega,.inr ?_,u0,?_,rfl⟩
        ·rcases he2 with rfl|he2
         ·exact he
         ·rw[hd2,QK,QvU h10]at he2;exact he2
        ·simp only[upd,↓reduceIte]
         rw[Qz (by omega)]
      ·have hil:i=l.length:=by omega
       have y1:¬(((i:Nat):Int)<((l.length:Nat):Int)):=by omega
       have hne:i≠j:=by omega
       have he3:=he2.resolve_left hne
       repeat refine Qb ?_;simp only[go_sem,seval,u0,u1,hsl,Qj,y1]
       refine Qs.mk (m':=l.length - i) (by omega) ?_
       rw[hI0]
       refine⟨i,rfl,hi,?_,u0,u1,rfl⟩
       rw[hil,Qwq]at he3 ⊢
       rw[<-he3,QK,QK]
     ·rw[hI]
      exact⟨j,rfl,hj,QvV _,.inl rfl,t0,t1,rfl⟩
    ·rw[QvU h35]at he
     have z3:((((l[j]).toNat:Nat):Int)==35)=false:=by simpa using fun e=>h35 (by omega)
     repeat (first|refine Qd cp ?_|refine Qb ?_);simp only[go_sem,seval,t0,t1,hsl,Qj,z1,hix,z3]
     exact Qc QvT (.keep (.v _)) ⟨by rw[<-he,Qva,Qwe];congr 3;omega,rfl⟩
  ·have hjl:j=l.length:=by omega
   have z1:¬(((j:Nat):Int)<((l.length:Nat):Int)):=by omega
   rw[hjl,Qwq,QK]at he
   repeat refine Qb ?_;simp only[go_sem,seval,t0,t1,hsl,Qj,z1]
   exact Qc QvT (.keep (.v _)) ⟨by rw[<-he,hjl];rfl,rfl⟩
 ·rw[hI]
  exact⟨k,rfl,hk,rfl,rfl,rfl,rfl⟩
end
theorem QkM(l:List UInt8)(hd:∀c∈l,isD c=true)(hl:l.length<=16384):Pure Tryz.prog 75 [.v (.string (mkB l))] (.i (min (numVal l) 2147483649:Nat)):=by
 intro h
 have hsl:=fun b=>XG Tryz.prog 9 3 (by kernel_rfl) b
 refine Qa Tryz.func75 rfl Tryz.call75 Tryz.ntmps75 Tryz.results75 (by simp) ?_
 repeat refine Qb ?_;simp only[go_sem,seval]
 obtain⟨I,hI⟩:∃I:Nat->AS->Prop,I=fun m' s=>∃p:Nat,m'=l.length - p/\p<=l.length/\s.tm 0 = .v (.string (mkB l))/\s.tm 3 = .i (min (numVal (l.take p)) 2147483649:Nat)/\s.tm 4 = .i p/\s.h=h:=⟨_,rfl⟩;refine Qk I ?_ (m:=l.length) ?_
 ·intro m' s hs;rw[hI]at hs;obtain⟨tm,hp⟩:=s;dsimp only at hs;obtain⟨p,rfl,hp',t0,t3,t4,rfl⟩:=hs
  by_cases hlt:p<l.length
  ·have y1:(((p:Nat):Int)<((l.length:Nat):Int)):=by omega
   have hix:=Xe Tryz.prog 9 (by kernel_rfl) (mkB l) p (by rw[Qj];exact hlt)
   rw[XE l p hlt]at hix
   have d2:=hd l[p] (Qww hlt)
   have hcd:48<=(l[p]).toNat/\(l[p]).toNat<=57:=by unfold isD at d2;simpa using d2
   obtain⟨n1,n2⟩:=QaY hlt
   obtain⟨v,hv⟩:∃v,v=min (numVal (l.take p)) 2147483649:=⟨_,rfl⟩
   rw[<-hv]at t3
   have w1:IntKind.i64.wrap (((v:Nat):Int) * 10)=((v * 10:Nat):Int):=by rw[QS (by omega)];omega
   have w2:IntKind.u8.wrap ((((l[p]).toNat:Nat):Int) - 48)=(((l[p]).toNat - 48:Nat):Int):=by rw[QrJ (by omega)];omega
   have w3:=Qry (((l[p]).toNat - 48:Nat):Int) (by omega)
   have w4:IntKind.i64.wrap (((v * 10:Nat):Int)+(((l[p]).toNat - 48:Nat):Int))=((v * 10+((l[p]).toNat - 48):Nat):Int):=by rw[QS (by omega)];omega
   have w5:IntKind.i64.wrap (((p:Nat):Int)+1)=((p+1:Nat):Int):=Qz (by omega)
   repeat refine Qb ?_;simp only[go_sem,seval,t0,t3,t4,hsl,Qj,y1,hix,w1,w2,w3,w4,w5]
   refine Qs.mk (m':=l.length - (p+1)) (by omega) ?_
   rw[hI]
   refine⟨p+1,rfl,hlt,t0,?_,rfl,rfl⟩
   simp only[upd,↓reduceIte,Nat.reduceEqDiff]
   congr 3
   rw[n1]
   split <;> omega
  ·have y1:¬(((p:Nat):Int)<((l.length:Nat):Int)):=by omega
   have e:l.take p=l:=Qw8 (by omega)
   rw[e]at t3
   repeat refine Qb ?_;simp only[go_sem,seval,t0,t3,t4,hsl,Qj,y1]
   (refine Qc QvT (.keep (.v _)) ⟨rfl,rfl⟩)
 ·rw[hI]
  exact⟨0,rfl,Qv2 _,rfl,rfl,rfl,rfl⟩
end Go.Proofs.YticgcpebdldbgaaGreatDoor.Ab

