/-
  An abstract program logic, contracts of functions, and laws of terms and rules (part 6).
-/
import Derived.Test.YticgcpebdldbgaaGreatDoorAbFive
set_option linter.unusedVariables false
set_option linter.unusedSimpArgs false
set_option maxHeartbeats 4000000
set_option maxRecDepth 4000
namespace Go.Proofs.YticgcpebdldbgaaGreatDoor.Ab
open Go.Proofs
def Ym:List (List UInt8):=[[64],[44],[46],[40],[41],[124],[47],[92],[43],[45],[42],[37],[61],[61,61],[92,61],[60],[61,60],[62],[62,61],[61,58,61],[61,92,61],[60,61,62],[61,61,62]]
def stepS(q b x:List UInt8):List UInt8:=if x.isPrefixOf q=true/\b.length<x.length then x else b
def Qdm(q:List UInt8)(m:List (List UInt8)):List UInt8:=m.foldl (stepS q) []
theorem Ql6(q:List UInt8)(m:List (List UInt8))(x:List UInt8):Qdm q (m++[x])=stepS q (Qdm q m) x:=by rw[Qdm,List.foldl_append];rfl
theorem QgL(q:List UInt8):∀(m:List (List UInt8)) (b:List UInt8),(m.foldl (stepS q) b=b\/(m.foldl (stepS q) b∈m/\(m.foldl (stepS q) b).isPrefixOf q=true))/\b.length<=(m.foldl (stepS q) b).length/\∀x∈m,x.isPrefixOf q=true->x.length<=(m.foldl (stepS q) b).length
 |[],b=>⟨.inl rfl,QvV _,fun x h=>(Qv7 h).elim⟩
 |y::m,b=>by
  obtain⟨h1,h2,h3⟩:=QgL q m (stepS q b y)
  rw[List.foldl_cons]
  have hb:b.length<=(stepS q b y).length:=by unfold stepS;split <;> omega
  have hy:y.isPrefixOf q=true->y.length<=(stepS q b y).length:=fun hp=>by
   unfold stepS;split
   ·exact QvV _
   ·rename_i hc
    exact Nat.le_of_not_lt fun q=>hc ⟨hp,q⟩
  refine⟨?_,Qwh hb h2,fun x hx hp=>?_⟩
  ·rcases h1 with h1|⟨h1,h4⟩
   ·rw[h1]
    unfold stepS
    split
    ·rename_i hc;exact .inr ⟨by simp,hc.1⟩
    ·exact .inl rfl
   ·exact .inr ⟨QxK _ h1,h4⟩
  ·rcases Qv5.1 hx with rfl|hx
   ·exact Qwh (hy hp) h2
   ·exact h3 x hx hp
theorem pre_eq{a b q:List UInt8}(ha:a.isPrefixOf q=true)(hb:b.isPrefixOf q=true)(h:a.length=b.length):a=b:=by
 rw[Qa0,QwO]at ha hb
 rw[<-ha,<-hb,h]
theorem Qql:(∀x∈Ym,x∈Q3)/\(∀x∈Q3,x∈Ym)/\Q3.Pairwise (fun a b=>b.length<=a.length)/\∀x∈Ym,0<x.length:=by decide
theorem Qpo(q:List UInt8):Qdm q Ym=(Qeo q).getD []:=by
 obtain⟨p1,p2,p3,p4⟩:=Qql
 obtain⟨h1,h2,h3⟩:=QgL q Ym []
 change (Qdm q Ym=[]\/(Qdm q Ym∈Ym/\(Qdm q Ym).isPrefixOf q=true))at h1
 change ∀x∈Ym,x.isPrefixOf q=true->x.length<=(Qdm q Ym).length at h3
 generalize Qdm q Ym=b at *
 cases hs:Qeo q with
 |none =>
  rcases h1 with h1|⟨h1,h4⟩
  ·exact h1
  ·have:=(List.find?_eq_none.1 hs) b (p1 b h1)
   exact absurd h4 this
 |some x =>
  obtain⟨hx,l1,l2,hl,hno⟩:=List.find?_eq_some_iff_append.1 hs
  have hxm:x∈Q3:=by rw[hl];simp
  have hxb:=h3 x (p2 x hxm) hx
  rcases h1 with h1|⟨h1,h4⟩
  ·have:=p4 x (p2 x hxm)
   rw[h1]at hxb
   simp at hxb
   rw[hxb]at this
   simp at this
  ·have hbm:=p1 b h1
   have hle:b.length<=x.length:=by
    rw[hl]at hbm p3
    rcases Qwz.1 hbm with hb|hb
    ·have:=hno b hb
     rw[h4]at this
     cases this
    ·rcases Qv5.1 hb with rfl|hb
     ·exact QvV _
     ·have:=(List.pairwise_append.1 p3).2.1
      exact(Qxt.1 this).1 b hb
   exact pre_eq h4 hx (Nat.le_antisymm hle hxb)
theorem QmL:Pure Tryz.prog 93 [] (.sl 1 (strs (Ym.map mkB)) none):=by
 intro h
 have r23:([0,1,2,3,4,5,6,7,8,9,10,11,12,13,14,15,16,17,18,19,20,21,22]:List Nat)=List.range 23:=by decide
 refine Qa Tryz.func93 rfl Tryz.call93 Tryz.ntmps93 Tryz.results93 (by simp) ?_
 with_reducible repeat first|refine Qf fun K E hK hE=>?_;simp -implicitDefEqProofs only[XW,XA,Q1,OpW,aop,undef,AS.ev,XT,QhZ,QcX,ZU,Zr,AV.Qub,Zx,Qvh,Qvi,ZG,Qvj,↓reduceIte,Qva,Qvb,Nat.reduceLT,Nat.reduceLeDiff,Nat.reduceEqDiff,Nat.reduceMul,Qu9,Qvv,QN,Qvc,Qvg,Qu5,Qbm,Nat.reducePow,zi9,ei33,r23]|refine Zg ?_|refine hK _ ?_;clear hK
 simp only[Qcn,Zz,YW,upd,↓reduceIte,Qu3,Qu7];(refine Qc QvT (.keep (.sl 1 _ none (QbR _ (Ym.map mkB)) (fun b hb=>by cases hb))) ⟨rfl,rfl⟩)
theorem Qd7(l:List UInt8)(hl:l.length<=16384)(k:Nat)(hk:k<=l.length):Pure Tryz.prog 76 [.v (.string (mkB l)),.i k] (.v (.string (mkB ((Qeo (l.drop k)).getD [])))):=by
 intro h
 have hsl:=fun b=>XG Tryz.prog 9 3 (by kernel_rfl) b
 have z1:¬((k:Nat):Int)<0:=by omega
 have z2:¬((l.length:Nat):Int)<((k:Nat):Int):=by omega
 have z3:¬((k:Nat):Int)>((l.length:Nat):Int):=by omega
 have cs:=QmL
 have hlen2:(strs (Ym.map mkB)).length=Ym.length:=by rw[Xg,Qwn]
 rw[<-Qpo]
 have hm3:∀x∈Ym,x.length<=3:=by decide
 refine Qa Tryz.func76 rfl Tryz.call76 Tryz.ntmps76 Tryz.results76 (by simp) ?_
 with_reducible repeat first|(first|refine Qf fun K E hK hE=>?_|refine Qd cs ?_);simp -implicitDefEqProofs only[XW,XA,Q1,OpW,Qnv,aop,undef,AS.ev,XT,ZR,QhZ,ZU,Zr,Qu4,Qvn,↓reduceIte,Nat.reduceLT,Nat.reduceEqDiff,aBin,aLen,QuX,QuY,QuZ,Qu2,Qu0,Qvg,QaE,QlB,goInt,Qvu,Qu5,Qu1,hsl,Qj,z1,z2]|refine Qn fun K hK=>?_|refine QA ?_|refine QG ?_|refine Qi ?_|refine hK _ ?_;clear hK|refine Qm rfl ?_;simp only[↓reduceIte,Qu1]
 obtain⟨I,hI⟩:∃I:Nat->AS->Prop,I=fun m' s=>∃j:Nat,m'=Ym.length - j/\j<=Ym.length/\s.tm 0 = .v (.string (mkB l))/\s.tm 1 = .i k/\s.tm 5 = .v (.string (mkB (Qdm (l.drop k) (Ym.take j))))/\s.tm 6 = .sl 1 (strs (Ym.map mkB)) none/\s.tm 7 = .i j/\s.h=h:=⟨_,rfl⟩;refine Qk I ?_ (m:=Ym.length) ?_
 ·intro m' s hs;rw[hI]at hs;obtain⟨tm,hp⟩:=s;dsimp only at hs;obtain⟨j,rfl,hj,t0,t1,t5,t6,t7,rfl⟩:=hs
  by_cases hlt:j<Ym.length
  ·have y1:((j:Nat):Int)<((Ym.length:Nat):Int):=by omega
   have hat:(strs (Ym.map mkB))[j]? = some (.v (.string (mkB Ym[j]))):=by rw[strs,Qwk,Qwk,QvW hlt];rfl
   have hx3:=hm3 _ (Qww hlt)
   have htk:Qdm (l.drop k) (Ym.take (j+1))=stepS (l.drop k) (Qdm (l.drop k) (Ym.take j)) Ym[j]:=by rw[Qws hlt,Ql6]
   generalize hb:Qdm (l.drop k) (Ym.take j)=b at *
   generalize Ym[j]=x at *
   have w1:IntKind.i64.wrap (((l.length:Nat):Int) - ((k:Nat):Int))=((l.length - k:Nat):Int):=by rw[QS (by omega)];omega
   have w2:IntKind.i64.wrap (((k:Nat):Int)+((x.length:Nat):Int))=((k+x.length:Nat):Int):=by rw[QS (by omega)];omega
   have w3:IntKind.i64.wrap (((j:Nat):Int)+1)=((j+1:Nat):Int):=Qz (by have:Ym.length=23:=rfl;omega)
   by_cases hle:x.length<=l.length - k
   ·have y2:((x.length:Nat):Int)<=((l.length - k:Nat):Int):=by omega
    have hsp:=YS Tryz.prog 9 (by kernel_rfl) (mkB l) (some (.i64,(k:Nat))) (some (.i64,(k+x.length:Nat))) k (k+x.length) ⟨by omega,by rw[Qj];omega,by omega⟩ ⟨by omega,by omega,by omega⟩
    simp only[QuZ]at hsp
    have hq:(((mkB l).extract k (k+x.length)).toList==(mkB x).toList)=x.isPrefixOf (l.drop k):=by rw[Qdt l k _ (by omega),QdY,Qa0]
    cases hc:x.isPrefixOf (l.drop k)with
    |true =>
     rw[hc]at hq
     by_cases hg:b.length<x.length
     ·have y4:((x.length:Nat):Int)>((b.length:Nat):Int):=by omega
      have y5:((b.length:Nat):Int)<((x.length:Nat):Int):=by omega
      repeat first|(first|with_reducible (first|refine Qf fun K E hK hE=>?_|refine Qr fun K E hK hE=>?_)|refine Qh (id:=9) [(0,0),(1,0),(2,0),(3,0),(4,0),(5,0),(6,0),(7,0),(8,0),(9,0),(10,0),(11,0),(12,0),(13,0),(14,0),(15,0),(16,0),(17,0),(18,0),(19,0),(20,0),(21,0),(22,0),(23,0),(24,0)] mixed (by kernel_rfl) fun K hK=>?_);simp -implicitDefEqProofs only[ZA,Zf,QaL,XW,XA,Q1,OpW,aop,AS.ev,XT,ZR,ZU,Zx,↓reduceIte,Nat.reduceLT,Nat.reduceLeDiff,Nat.reduceEqDiff,Qvv,Qbg,Qbj,Xp,aBin,XD,aLen,QuX,QuY,QuZ,Qu2,Qu0,QaE,Qjv,QlB,Qcg,Qjx,QfN,goInt,Qvt,Qu5,QvA,Qvz,ti9,ei9,ei33,un33,t0,t1,t5,t6,t7,hsl,Qj,hlen2,y1,hat,w1,w2,w3,y2,hsp,hq,y4]|with_reducible (first|refine Qn fun K hK=>?_|refine QA ?_|refine QG ?_|refine Qi ?_|refine QP ?_|refine hK _ ?_;clear hK|refine Qm rfl ?_;simp only[↓reduceIte])
      refine Qs.mk (m':=Ym.length - (j+1)) (by omega) ?_
      rw[hI]
      refine⟨j+1,rfl,hlt,t0,t1,?_,t6,rfl,rfl⟩
      rw[htk,stepS,QvY ⟨hc,hg⟩];rfl
     ·have y4:¬((x.length:Nat):Int)>((b.length:Nat):Int):=by omega
      have y5:¬((b.length:Nat):Int)<((x.length:Nat):Int):=by omega
      repeat first|(first|with_reducible (first|refine Qf fun K E hK hE=>?_|refine Qr fun K E hK hE=>?_)|refine Qh (id:=9) [(0,0),(1,0),(2,0),(3,0),(4,0),(5,0),(6,0),(7,0),(8,0),(9,0),(10,0),(11,0),(12,0),(13,0),(14,0),(15,0),(16,0),(17,0),(18,0),(19,0),(20,0),(21,0),(22,0),(23,0),(24,0)] mixed (by kernel_rfl) fun K hK=>?_);simp -implicitDefEqProofs only[ZA,Zf,QaL,XW,XA,Q1,OpW,aop,AS.ev,XT,ZR,ZU,Zx,↓reduceIte,Nat.reduceLT,Nat.reduceLeDiff,Nat.reduceEqDiff,Qvv,Qbg,Qbj,Xp,aBin,XD,aLen,QuX,QuY,QuZ,Qu2,Qu0,QaE,Qjv,QlB,Qcg,Qjx,QfN,goInt,Qvt,Qvu,Qu5,QvA,Qvz,ti9,ei9,ei33,un33,t0,t1,t5,t6,t7,hsl,Qj,hlen2,y1,hat,w1,w2,w3,y2,hsp,hq,y4]|with_reducible (first|refine Qn fun K hK=>?_|refine QA ?_|refine QG ?_|refine Qi ?_|refine QP ?_|refine hK _ ?_;clear hK|refine Qm rfl ?_;simp only[↓reduceIte,Qu1])
      refine Qs.mk (m':=Ym.length - (j+1)) (by omega) ?_
      rw[hI]
      refine⟨j+1,rfl,hlt,t0,t1,?_,t6,rfl,rfl⟩
      rw[htk,stepS,QvU (by rintro⟨_,q⟩;exact hg q)];exact t5
    |false =>
     rw[hc]at hq
     repeat first|(first|with_reducible (first|refine Qf fun K E hK hE=>?_|refine Qr fun K E hK hE=>?_)|refine Qh (id:=9) [(0,0),(1,0),(2,0),(3,0),(4,0),(5,0),(6,0),(7,0),(8,0),(9,0),(10,0),(11,0),(12,0),(13,0),(14,0),(15,0),(16,0),(17,0),(18,0),(19,0),(20,0),(21,0),(22,0),(23,0),(24,0)] mixed (by kernel_rfl) fun K hK=>?_);simp -implicitDefEqProofs only[ZA,Zf,QaL,XW,XA,Q1,OpW,aop,undef,AS.ev,XT,ZR,QeF,ZU,Zx,↓reduceIte,Nat.reduceLT,Nat.reduceLeDiff,Nat.reduceEqDiff,Qvv,Qbg,Qbj,Xp,aBin,XD,aLen,QuX,QuY,QuZ,Qu2,Qu0,QaE,Qjv,Qcg,Qjx,QfN,goInt,Qvt,Qu5,QvA,Qvz,Qu1,beq_true,ti9,ei9,ei33,un33,t0,t1,t6,t7,hsl,Qj,hlen2,y1,hat,w1,w2,w3,y2,hsp,hq]|with_reducible (first|refine Qn fun K hK=>?_|refine QA ?_|refine QG ?_|refine Qi ?_|refine QP ?_|refine hK _ ?_;clear hK|refine Qm rfl ?_;simp only[↓reduceIte,Qu1])
     refine Qs.mk (m':=Ym.length - (j+1)) (by omega) ?_
     rw[hI]
     refine⟨j+1,rfl,hlt,t0,t1,?_,t6,rfl,rfl⟩
     rw[htk,stepS,QvU (by rintro⟨q,_⟩;rw[hc]at q;cases q)];exact t5
   ·have y2:¬((x.length:Nat):Int)<=((l.length - k:Nat):Int):=by omega
    have hc:x.isPrefixOf (l.drop k)=false:=by
     rw[Qa0,Qxa]
     intro e
     have:=QwN List.length e
     rw[Qwi,Qwe]at this
     omega
    repeat first|(first|with_reducible (first|refine Qf fun K E hK hE=>?_|refine Qr fun K E hK hE=>?_)|refine Qh (id:=9) [(0,0),(1,0),(2,0),(3,0),(4,0),(5,0),(6,0),(7,0),(8,0),(9,0),(10,0),(11,0),(12,0),(13,0),(14,0),(15,0),(16,0),(17,0),(18,0),(19,0),(20,0),(21,0),(22,0),(23,0),(24,0)] mixed (by kernel_rfl) fun K hK=>?_);simp -implicitDefEqProofs only[ZA,Zf,QaL,XW,XA,Q1,OpW,aop,undef,AS.ev,XT,ZR,QeF,ZU,Zx,↓reduceIte,Nat.reduceLT,Nat.reduceLeDiff,Nat.reduceEqDiff,Qvv,Qbg,Qbj,Xp,aBin,aLen,QuX,QuY,QuZ,Qu2,Qu0,QaE,Qjv,Qcg,Qjx,goInt,Qvt,Qvu,QvA,Qvz,Qu1,beq_true,ti9,ei33,un33,t0,t1,t6,t7,hsl,Qj,hlen2,y1,hat,w1,w3,y2]|with_reducible (first|refine Qn fun K hK=>?_|refine QA ?_|refine QG ?_|refine Qi ?_|refine QP ?_|refine hK _ ?_;clear hK|refine Qm rfl ?_;simp only[↓reduceIte,Qu1])
    refine Qs.mk (m':=Ym.length - (j+1)) (by omega) ?_
    rw[hI]
    refine⟨j+1,rfl,hlt,t0,t1,?_,t6,rfl,rfl⟩
    rw[htk,stepS,QvU (by rintro⟨q,_⟩;rw[hc]at q;cases q)];exact t5
  ·have hjl:j=Ym.length:=by omega
   have y1:¬((j:Nat):Int)<((Ym.length:Nat):Int):=by omega
   rw[hjl,QvT]at t5
   with_reducible repeat first|refine Qf fun K E hK hE=>?_;simp -implicitDefEqProofs only[XW,XA,Q1,OpW,aop,AS.ev,XT,ZU,↓reduceIte,Nat.reduceLT,Nat.reduceEqDiff,aBin,aLen,QuZ,QaE,goInt,Qvu,un33,t5,t6,t7,hlen2,y1]|refine Qn fun K hK=>?_|refine Zg ?_|refine Yp ?_|refine Qi ?_|refine XY ?_|refine XX ?_|refine hK _ ?_;clear hK|clear hK;refine hK _ ?_;clear hK|refine Qm rfl ?_;simp only[↓reduceIte,Qu1]
   simp only[Qcn,Zz,YW,upd,↓reduceIte,Qu3,Qu7];(refine Qc QvT (.keep (.v _)) ⟨rfl,rfl⟩)
 ·rw[hI]
  exact⟨0,rfl,Qv2 _,rfl,rfl,rfl,rfl,rfl,rfl⟩
end Go.Proofs.YticgcpebdldbgaaGreatDoor.Ab

