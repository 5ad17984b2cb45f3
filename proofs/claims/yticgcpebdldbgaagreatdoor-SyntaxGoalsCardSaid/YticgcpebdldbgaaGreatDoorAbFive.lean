/-
  An abstract program logic, contracts of functions, and laws of terms and rules (part 5).
-/
import Derived.Test.YticgcpebdldbgaaGreatDoorAbFour
set_option linter.unusedVariables false
set_option linter.unusedSimpArgs false
set_option maxHeartbeats 4000000
set_option maxRecDepth 4000
namespace Go.Proofs.YticgcpebdldbgaaGreatDoor.Ab
open Go.Proofs
def ZV:List (List UInt8):=[[64],[44],[46],[40],[41],[124],[47],[92],[43],[45],[42],[37],[61],[61,61],[92,61],[60],[61,60],[62],[62,61],[61,58,61],[61,92,61],[60,61,62],[61,61,62]]
def stepS(q b x:List UInt8):List UInt8:=if x.isPrefixOf q=true/\b.length<x.length then x else b
def QdJ(q:List UInt8)(m:List (List UInt8)):List UInt8:=m.foldl (stepS q) []
theorem Qk9(q:List UInt8)(m:List (List UInt8))(x:List UInt8):QdJ q (m++[x])=stepS q (QdJ q m) x:=by rw[QdJ,List.foldl_append];rfl
theorem QgE(q:List UInt8):∀(m:List (List UInt8)) (b:List UInt8),(m.foldl (stepS q) b=b\/(m.foldl (stepS q) b∈m/\(m.foldl (stepS q) b).isPrefixOf q=true))/\b.length<=(m.foldl (stepS q) b).length/\∀x∈m,x.isPrefixOf q=true->x.length<=(m.foldl (stepS q) b).length
 |[],b=>⟨.inl rfl,QuD _,fun x h=>(QuS h).elim⟩
 |y::m,b=>by
  obtain⟨h1,h2,h3⟩:=QgE q m (stepS q b y)
  rw[List.foldl_cons]
  have hb:b.length<=(stepS q b y).length:=by unfold stepS;split <;> omega
  have hy:y.isPrefixOf q=true->y.length<=(stepS q b y).length:=fun hp=>by
   unfold stepS;split
   ·exact QuD _
   ·rename_i hc
    exact Nat.le_of_not_lt fun q=>hc ⟨hp,q⟩
  refine⟨?_,Qu1 hb h2,fun x hx hp=>?_⟩
  ·rcases h1 with h1|⟨h1,h4⟩
   ·rw[h1]
    unfold stepS
    split
    ·rename_i hc;exact .inr ⟨by simp,hc.1⟩
    ·exact .inl rfl
   ·exact .inr ⟨Qwr _ h1,h4⟩
  ·rcases QuL.1 hx with rfl|hx
   ·exact Qu1 (hy hp) h2
   ·exact h3 x hx hp
theorem pre_eq{a b q:List UInt8}(ha:a.isPrefixOf q=true)(hb:b.isPrefixOf q=true)(h:a.length=b.length):a=b:=by
 rw[QbT,Qvx]at ha hb
 rw[<-ha,<-hb,h]
theorem Qpm:(∀x∈ZV,x∈Yn)/\(∀x∈Yn,x∈ZV)/\Yn.Pairwise (fun a b=>b.length<=a.length)/\∀x∈ZV,0<x.length:=by decide
theorem Qok(q:List UInt8):QdJ q ZV=(QeH q).getD []:=by
 obtain⟨p1,p2,p3,p4⟩:=Qpm
 obtain⟨h1,h2,h3⟩:=QgE q ZV []
 change (QdJ q ZV=[]\/(QdJ q ZV∈ZV/\(QdJ q ZV).isPrefixOf q=true))at h1
 change ∀x∈ZV,x.isPrefixOf q=true->x.length<=(QdJ q ZV).length at h3
 generalize QdJ q ZV=b at *
 cases hs:QeH q with
 |none =>
  rcases h1 with h1|⟨h1,h4⟩
  ·exact h1
  ·have:=(List.find?_eq_none.1 hs) b (p1 b h1)
   exact absurd h4 this
 |some x =>
  obtain⟨hx,l1,l2,hl,hno⟩:=List.find?_eq_some_iff_append.1 hs
  have hxm:x∈Yn:=by rw[hl];simp
  have hxb:=h3 x (p2 x hxm) hx
  rcases h1 with h1|⟨h1,h4⟩
  ·have:=p4 x (p2 x hxm)
   rw[h1]at hxb
   simp at hxb
   rw[hxb]at this
   simp at this
  ·have hbm:=p1 b h1
   have hle:b.length<=x.length:=by
    rw[hl]at hbm p3
    rcases Qvh.1 hbm with hb|hb
    ·have:=hno b hb
     rw[h4]at this
     cases this
    ·rcases QuL.1 hb with rfl|hb
     ·exact QuD _
     ·have:=(List.pairwise_append.1 p3).2.1
      exact(Qwa.1 this).1 b hb
   exact pre_eq h4 hx (Nat.le_antisymm hle hxb)
theorem QlV:Pure Tryz.prog 93 [] (.sl 1 (strs (ZV.map mkB)) none):=by
 intro h
 have r23:([0,1,2,3,4,5,6,7,8,9,10,11,12,13,14,15,16,17,18,19,20,21,22]:List Nat)=List.range 23:=by decide
 refine Qa Tryz.func93 rfl Tryz.call93 Tryz.ntmps93 Tryz.results93 (by simp) ?_
 with_reducible repeat first|refine Qd fun K E hK hE=>?_;simp -implicitDefEqProofs only[QQ,QB,QN,OpW,aop,undef,AS.ev,QO,XC,QR,XL,XJ,AV.QsU,Xs,QtZ,Qt0,QM,Qt1,↓reduceIte,QtS,QtT,Nat.reduceLT,Nat.reduceLeDiff,Nat.reduceEqDiff,Nat.reduceMul,QtR,Qud,QF,QtU,QtY,QtN,XQ,Nat.reducePow,zi9,ei33,r23]|refine Xy ?_|refine hK _ ?_;clear hK
 simp only[Qbm,Zr,Zm,upd,↓reduceIte,QtL,QtP];(refine Qc QuA (.keep (.sl 1 _ none (QbE _ (ZV.map mkB)) (fun b hb=>by cases hb))) ⟨rfl,rfl⟩)
theorem Qex(l:List UInt8)(hl:l.length<=16384)(k:Nat)(hk:k<=l.length):Pure Tryz.prog 76 [.v (.string (mkB l)),.i k] (.v (.string (mkB ((QeH (l.drop k)).getD [])))):=by
 intro h
 have hsl:=fun b=>Y5 Tryz.prog 9 3 (by kernel_rfl) b
 have z1:¬((k:Nat):Int)<0:=by omega
 have z2:¬((l.length:Nat):Int)<((k:Nat):Int):=by omega
 have z3:¬((k:Nat):Int)>((l.length:Nat):Int):=by omega
 have cs:=QlV
 have hlen2:(strs (ZV.map mkB)).length=ZV.length:=by rw[Yp,Qu6]
 rw[<-Qok]
 have hm3:∀x∈ZV,x.length<=3:=by decide
 refine Qa Tryz.func76 rfl Tryz.call76 Tryz.ntmps76 Tryz.results76 (by simp) ?_
 with_reducible repeat first|(first|refine Qd fun K E hK hE=>?_|refine Qe cs ?_);simp -implicitDefEqProofs only[QQ,QB,QN,OpW,YH,aop,undef,AS.ev,QO,Xu,XC,XL,XJ,QtM,Qt5,↓reduceIte,Nat.reduceLT,Nat.reduceEqDiff,aBin,aLen,QtF,QtG,QtH,QtK,QtI,QtY,YC,Zk,goInt,Quc,QtN,QtJ,hsl,Qv,z1,z2]|refine Qq fun K hK=>?_|refine Qu ?_|refine QE ?_|refine Qg ?_|refine hK _ ?_;clear hK|refine Qm rfl ?_;simp only[↓reduceIte,QtJ]
 obtain⟨I,hI⟩:∃I:Nat->AS->Prop,I=fun m' s=>∃j:Nat,m'=ZV.length - j/\j<=ZV.length/\s.tm 0 = .v (.string (mkB l))/\s.tm 1 = .i k/\s.tm 5 = .v (.string (mkB (QdJ (l.drop k) (ZV.take j))))/\s.tm 6 = .sl 1 (strs (ZV.map mkB)) none/\s.tm 7 = .i j/\s.h=h:=⟨_,rfl⟩;refine QD I ?_ (m:=ZV.length) ?_
 ·intro m' s hs;rw[hI]at hs;obtain⟨tm,hp⟩:=s;dsimp only at hs;obtain⟨j,rfl,hj,t0,t1,t5,t6,t7,rfl⟩:=hs
  by_cases hlt:j<ZV.length
  ·have y1:((j:Nat):Int)<((ZV.length:Nat):Int):=by omega
   have hat:(strs (ZV.map mkB))[j]? = some (.v (.string (mkB ZV[j]))):=by rw[strs,Qu2,Qu2,QuC hlt];rfl
   have hx3:=hm3 _ (Qvk hlt)
   have htk:QdJ (l.drop k) (ZV.take (j+1))=stepS (l.drop k) (QdJ (l.drop k) (ZV.take j)) ZV[j]:=by rw[Qu4 hlt,Qk9]
   generalize hb:QdJ (l.drop k) (ZV.take j)=b at *
   generalize ZV[j]=x at *
   have w1:IntKind.i64.wrap (((l.length:Nat):Int) - ((k:Nat):Int))=((l.length - k:Nat):Int):=by rw[Ya (by omega)];omega
   have w2:IntKind.i64.wrap (((k:Nat):Int)+((x.length:Nat):Int))=((k+x.length:Nat):Int):=by rw[Ya (by omega)];omega
   have w3:IntKind.i64.wrap (((j:Nat):Int)+1)=((j+1:Nat):Int):=XM (by have:ZV.length=23:=rfl;omega)
   by_cases hle:x.length<=l.length - k
   ·have y2:((x.length:Nat):Int)<=((l.length - k:Nat):Int):=by omega
    have hsp:=Qai Tryz.prog 9 (by kernel_rfl) (mkB l) (some (.i64,(k:Nat))) (some (.i64,(k+x.length:Nat))) k (k+x.length) ⟨by omega,by rw[Qv];omega,by omega⟩ ⟨by omega,by omega,by omega⟩
    simp only[QtH]at hsp
    have hq:(((mkB l).extract k (k+x.length)).toList==(mkB x).toList)=x.isPrefixOf (l.drop k):=by rw[QdQ l k _ (by omega),Qen,QbT]
    cases hc:x.isPrefixOf (l.drop k)with
    |true =>
     rw[hc]at hq
     by_cases hg:b.length<x.length
     ·have y4:((x.length:Nat):Int)>((b.length:Nat):Int):=by omega
      have y5:((b.length:Nat):Int)<((x.length:Nat):Int):=by omega
      repeat first|(first|with_reducible (first|refine Qd fun K E hK hE=>?_|refine Qj fun K E hK hE=>?_)|refine Qi (id:=9) [(0,0),(1,0),(2,0),(3,0),(4,0),(5,0),(6,0),(7,0),(8,0),(9,0),(10,0),(11,0),(12,0),(13,0),(14,0),(15,0),(16,0),(17,0),(18,0),(19,0),(20,0),(21,0),(22,0),(23,0),(24,0)] mixed (by kernel_rfl) fun K hK=>?_);simp -implicitDefEqProofs only[XT,XF,Yj,QQ,QB,QN,OpW,aop,AS.ev,QO,Xu,XL,Xs,↓reduceIte,Nat.reduceLT,Nat.reduceLeDiff,Nat.reduceEqDiff,Qud,Zl,Zq,Xa,aBin,YS,aLen,QtF,QtG,QtH,QtK,QtI,YC,QiT,Zk,YK,QiU,Yx,goInt,Qub,QtN,Qui,Quh,ti9,ei9,ei33,un33,t0,t1,t5,t6,t7,hsl,Qv,hlen2,y1,hat,w1,w2,w3,y2,hsp,hq,y4]|with_reducible (first|refine Qq fun K hK=>?_|refine Qu ?_|refine QE ?_|refine Qg ?_|refine Qn ?_|refine hK _ ?_;clear hK|refine Qm rfl ?_;simp only[↓reduceIte])
      refine XB.mk (m':=ZV.length - (j+1)) (by omega) ?_
      rw[hI]
      refine⟨j+1,rfl,hlt,t0,t1,?_,t6,rfl,rfl⟩
      rw[htk,stepS,QuH ⟨hc,hg⟩];rfl
     ·have y4:¬((x.length:Nat):Int)>((b.length:Nat):Int):=by omega
      have y5:¬((b.length:Nat):Int)<((x.length:Nat):Int):=by omega
      repeat first|(first|with_reducible (first|refine Qd fun K E hK hE=>?_|refine Qj fun K E hK hE=>?_)|refine Qi (id:=9) [(0,0),(1,0),(2,0),(3,0),(4,0),(5,0),(6,0),(7,0),(8,0),(9,0),(10,0),(11,0),(12,0),(13,0),(14,0),(15,0),(16,0),(17,0),(18,0),(19,0),(20,0),(21,0),(22,0),(23,0),(24,0)] mixed (by kernel_rfl) fun K hK=>?_);simp -implicitDefEqProofs only[XT,XF,Yj,QQ,QB,QN,OpW,aop,AS.ev,QO,Xu,XL,Xs,↓reduceIte,Nat.reduceLT,Nat.reduceLeDiff,Nat.reduceEqDiff,Qud,Zl,Zq,Xa,aBin,YS,aLen,QtF,QtG,QtH,QtK,QtI,YC,QiT,Zk,YK,QiU,Yx,goInt,Qub,Quc,QtN,Qui,Quh,ti9,ei9,ei33,un33,t0,t1,t5,t6,t7,hsl,Qv,hlen2,y1,hat,w1,w2,w3,y2,hsp,hq,y4]|with_reducible (first|refine Qq fun K hK=>?_|refine Qu ?_|refine QE ?_|refine Qg ?_|refine Qn ?_|refine hK _ ?_;clear hK|refine Qm rfl ?_;simp only[↓reduceIte,QtJ])
      refine XB.mk (m':=ZV.length - (j+1)) (by omega) ?_
      rw[hI]
      refine⟨j+1,rfl,hlt,t0,t1,?_,t6,rfl,rfl⟩
      rw[htk,stepS,QuE (by rintro⟨_,q⟩;exact hg q)];exact t5
    |false =>
     rw[hc]at hq
     repeat first|(first|with_reducible (first|refine Qd fun K E hK hE=>?_|refine Qj fun K E hK hE=>?_)|refine Qi (id:=9) [(0,0),(1,0),(2,0),(3,0),(4,0),(5,0),(6,0),(7,0),(8,0),(9,0),(10,0),(11,0),(12,0),(13,0),(14,0),(15,0),(16,0),(17,0),(18,0),(19,0),(20,0),(21,0),(22,0),(23,0),(24,0)] mixed (by kernel_rfl) fun K hK=>?_);simp -implicitDefEqProofs only[XT,XF,Yj,QQ,QB,QN,OpW,aop,undef,AS.ev,QO,Xu,Xk,XL,Xs,↓reduceIte,Nat.reduceLT,Nat.reduceLeDiff,Nat.reduceEqDiff,Qud,Zl,Zq,Xa,aBin,YS,aLen,QtF,QtG,QtH,QtK,QtI,YC,QiT,YK,QiU,Yx,goInt,Qub,QtN,Qui,Quh,QtJ,beq_true,ti9,ei9,ei33,un33,t0,t1,t6,t7,hsl,Qv,hlen2,y1,hat,w1,w2,w3,y2,hsp,hq]|with_reducible (first|refine Qq fun K hK=>?_|refine Qu ?_|refine QE ?_|refine Qg ?_|refine Qn ?_|refine hK _ ?_;clear hK|refine Qm rfl ?_;simp only[↓reduceIte,QtJ])
     refine XB.mk (m':=ZV.length - (j+1)) (by omega) ?_
     rw[hI]
     refine⟨j+1,rfl,hlt,t0,t1,?_,t6,rfl,rfl⟩
     rw[htk,stepS,QuE (by rintro⟨q,_⟩;rw[hc]at q;cases q)];exact t5
   ·have y2:¬((x.length:Nat):Int)<=((l.length - k:Nat):Int):=by omega
    have hc:x.isPrefixOf (l.drop k)=false:=by
     rw[QbT,QvQ]
     intro e
     have:=Qvq List.length e
     rw[QuY,QuX]at this
     omega
    repeat first|(first|with_reducible (first|refine Qd fun K E hK hE=>?_|refine Qj fun K E hK hE=>?_)|refine Qi (id:=9) [(0,0),(1,0),(2,0),(3,0),(4,0),(5,0),(6,0),(7,0),(8,0),(9,0),(10,0),(11,0),(12,0),(13,0),(14,0),(15,0),(16,0),(17,0),(18,0),(19,0),(20,0),(21,0),(22,0),(23,0),(24,0)] mixed (by kernel_rfl) fun K hK=>?_);simp -implicitDefEqProofs only[XT,XF,Yj,QQ,QB,QN,OpW,aop,undef,AS.ev,QO,Xu,Xk,XL,Xs,↓reduceIte,Nat.reduceLT,Nat.reduceLeDiff,Nat.reduceEqDiff,Qud,Zl,Zq,Xa,aBin,aLen,QtF,QtG,QtH,QtK,QtI,YC,QiT,YK,QiU,goInt,Qub,Quc,Qui,Quh,QtJ,beq_true,ti9,ei33,un33,t0,t1,t6,t7,hsl,Qv,hlen2,y1,hat,w1,w3,y2]|with_reducible (first|refine Qq fun K hK=>?_|refine Qu ?_|refine QE ?_|refine Qg ?_|refine Qn ?_|refine hK _ ?_;clear hK|refine Qm rfl ?_;simp only[↓reduceIte,QtJ])
    refine XB.mk (m':=ZV.length - (j+1)) (by omega) ?_
    rw[hI]
    refine⟨j+1,rfl,hlt,t0,t1,?_,t6,rfl,rfl⟩
    rw[htk,stepS,QuE (by rintro⟨q,_⟩;rw[hc]at q;cases q)];exact t5
  ·have hjl:j=ZV.length:=by omega
   have y1:¬((j:Nat):Int)<((ZV.length:Nat):Int):=by omega
   rw[hjl,QuA]at t5
   with_reducible repeat first|refine Qd fun K E hK hE=>?_;simp -implicitDefEqProofs only[QQ,QB,QN,OpW,aop,AS.ev,QO,XL,↓reduceIte,Nat.reduceLT,Nat.reduceEqDiff,aBin,aLen,QtH,YC,goInt,Quc,un33,t5,t6,t7,hlen2,y1]|refine Qq fun K hK=>?_|refine Xy ?_|refine Xb ?_|refine Qg ?_|refine QK ?_|refine QJ ?_|refine hK _ ?_;clear hK|clear hK;refine hK _ ?_;clear hK|refine Qm rfl ?_;simp only[↓reduceIte,QtJ]
   simp only[Qbm,Zr,Zm,upd,↓reduceIte,QtL,QtP];(refine Qc QuA (.keep (.v _)) ⟨rfl,rfl⟩)
 ·rw[hI]
  exact⟨0,rfl,QuG _,rfl,rfl,rfl,rfl,rfl,rfl⟩
end Go.Proofs.YticgcpebdldbgaaGreatDoor.Ab

