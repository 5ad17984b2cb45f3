/-
  An abstract program logic, contracts of functions, and laws of terms and rules (part 4).
-/
import Derived.Test.YtenheconhibonaaGreatDoorAbThree
import Derived.Test.YtenheconhibonaaGreatDoorAbTwo
set_option linter.unusedVariables false
set_option linter.unusedSimpArgs false
set_option maxHeartbeats 4000000
set_option maxRecDepth 4000
namespace Go.Proofs.YtenheconhibonaaGreatDoor.Ab
open Go.Proofs
theorem QgI(l:List T):avs l=vs T.av l:=QbK l
theorem QkZ(t:T):t.av.isAgg=true/\t.av.cells.length=4/\t.av.cells.all AV.cell1=true:=by cases t;exact⟨rfl,rfl,rfl⟩
theorem Qih(n:Nat)(t:T):∀a∈t.av.cells,Below n a:=fun a ha=>QcA n [t] a (by rw[Qrp,Xc];exact Qxf.2 (.inl ha))
mutual
theorem T.Qu2:∀(t:T),t.vars.length<=t.nds
 | .mk k i n l=>by
  simp only[T.vars,T.nds]
  split
  ·simp
  ·split
   ·have:=Qct l;omega
   ·simp
theorem Qct:∀(l:List T),(Xd l).length<=ndsL l
 |[]=>by simp[Xd,ndsL]
 |t::l=>by
  have h1:=T.Qu2 t
  have h2:=Qct l
  simp only[Xd,ndsL,QwG];omega
end
abbrev nT(s:List Int)(t:T):T×List Int:=T.mapS gNum s t
theorem QkG(s:List Int)(t:T):(nT s t).2.length<=s.length+t.nds:=by
 rw[nT,T.Qvl s t []]
 have:=Y2 s t.vars
 have:=T.Qu2 t
 simp only
 omega
theorem QhX(l:List T):(l.map T.nds).sum=ndsL l:=by
 induction l with
 |nil=>rfl
 |cons t l ih=>rw[List.map_cons,List.sum_cons,ih];rfl
def NIh(m:Nat)(t:T):Prop:=∀(h:AH) (s:List Int),m<h.length->s.length+t.nds<=1000000->FunW Tryz.prog (.fn (.func 97) [.mp m] []) [t.av] (hs h m (mapB s)) fun o h'=>o = .ret ((nT s t).1).av/\h'=hs h m (mapB (nT s t).2)
theorem Qjo(m:Nat)(t:T)(hl:t.args.length<=1000000)(ih:∀a∈t.args,NIh m a)(h:AH)(s:List Int)(hm:m<h.length)(hs0:s.length+t.nds<=1000000) :
  QT Tryz.prog 97 [.mp m,t.av] (hs h m (mapB s)) fun o h'=>o = .ret ((nT s t).1).av/\h'=hs h m (mapB (nT s t).2):=by
 have eav:t.av = .agg [.i t.kind,.i t.int,.v (.string t.name),.sl 4 (avs t.args) none]:=by cases t;rfl
 have en:nT s t=if t.kind=1 then(.mk t.kind (gNum s t.int).1 t.name t.args,(gNum s t.int).2)else if t.kind=2 then(.mk t.kind t.int t.name (XJ gNum s t.args).1,(XJ gNum s t.args).2)else(t,s):=T.Qu7 gNum s t
 have f1:=fun x=>ZD h m x
 have f2:=fun x L=>Qcf (h:=h) (i:=m) x L
 have f3:=fun x L k=>Qg0 (h:=h) (i:=m) x L k
 have f4:=fun x y L=>QcE (h:=h) (i:=m) x y L
 have f5:=fun x y L k=>QdY (h:=h) (i:=m) x y L k
 have f6:∀s L,(hs h m (mapB s)++L)[m]? = some (.map (imap (Zg s))):=fun s L=>Qkv hm _ L
 have f7:∀s s' L,(hs h m (mapB s)++L).set m (.map (imap (Zg s')))=hs h m (mapB s')++L:=fun s s' L=>Qkw hm _ _ L
 by_cases k1:t.kind=1
 ·rw[QwN k1]at en
  rw[k1]at eav
  by_cases hmem:t.int∈s
  ·have hf:QfB (.int .i64) (.int .i64 t.int) (imap (Zg s))=some (some (.i (plc s t.int:Nat))):=by rw[Qcc,QfY,QwN hmem]
   have e1:ins s t.int=s:=QwN hmem
   rw[eav,en]
   refine Qb Tryz.func97 rfl Tryz.call97 Tryz.ntmps97 Tryz.results97 (by simp) ?_
   with_reducible repeat first|(first|refine Qa fun K E hK hE=>?_|refine Ql fun K E hK hE=>?_);simp only[Qh,Qe,Qk,OpW,aop,undef,AS.ev,Qg,QX,Qu,Qr,QG,QvW,Qwf,AV.QuX,Qo,Q6,QD,Xx,Qv9,Qwa,QE,QA,QM,QP,Qwb,Qwc,↓reduceIte,Qv2,Qv3,Nat.reduceAdd,Nat.reduceLT,Nat.reduceLeDiff,Nat.reduceEqDiff,Qv1,Qwe,Qwn,Qm,QQ,QR,Xf,QY,aBin,Y5,Qaj,hlen,happ,QvP,QvQ,Qwj,Qwk,QvR,Qwh,Qwg,Qv0,Qv7,QvY,Qv6,Q1,Ya,QvX,QvT,ti3,ti69,XR,Yw,zi69,mi92,f1,f2,f3,f4,f5,f6,hf]|refine Qf fun K hK=>?_|refine Qj ?_|refine Qp ?_|refine Qw ?_|refine Qd ?_|refine Qt ?_|refine hK _ ?_;clear hK|refine Qi rfl ?_;simp only[↓reduceIte,QvT]
   simp only[Qr,Qo,QD,↓reduceIte,Qv2,Qv3,Nat.reduceAdd,Nat.reduceEqDiff,Qv1,Qwn,QQ,QR,QvP,QvQ,QvV,ti69,f3,QS,Qq,Qz,QvZ]
   refine Xq (Zo _ _) (.keep ?_) ?_
   exact T.Qu8 _ (.mk _ _ _ _)
   exact⟨by simp only[gNum,e1,k1];rfl,by simp only[gNum,e1]⟩
  ·have hf:QfB (.int .i64) (.int .i64 t.int) (imap (Zg s))=some none:=by rw[Qcc,QfY,QwJ hmem]
   have e1:ins s t.int=s++[t.int]:=QwJ hmem
   have hu:updA (.int .i64) (.int .i64 t.int) (.i s.length) (imap (Zg s))=some (imap (Zg (s++[t.int]))):=by
    rw[Qim _ _ _ (by rw[QfY,QwJ hmem]),QfV]
   rw[eav,en]
   refine Qb Tryz.func97 rfl Tryz.call97 Tryz.ntmps97 Tryz.results97 (by simp) ?_
   with_reducible repeat first|(first|refine Qa fun K E hK hE=>?_|refine Ql fun K E hK hE=>?_);simp only[Qh,Qe,Qk,OpW,aop,undef,AS.ev,Qg,QX,Qu,Qr,QG,QvW,Qwf,AV.QuX,Qo,Q6,QD,Xx,Qv9,Qwa,QE,QA,QM,QP,Qwb,Qwd,↓reduceIte,Qv2,Qv3,Nat.reduceAdd,Nat.reduceLT,Nat.reduceLeDiff,Nat.reduceEqDiff,Qv1,Qwe,Qwn,Qm,QQ,QR,Xf,QY,aBin,Y5,aLen,Qaj,Zk,hlen,happ,QvP,QvQ,Qwj,Qwk,QvR,Qwh,Qwg,Qv0,Qv7,QvY,Qv6,Q1,Ya,goInt,QvX,QvT,ti3,zi3,ti69,XR,Yw,zi69,mi92,un92,f1,f2,f3,f4,f5,f6,f7,hf,hu,Qdw]|refine Qf fun K hK=>?_|refine Qj ?_|refine Qp ?_|refine Qd ?_|refine Qt ?_|refine hK _ ?_;clear hK|refine Qi rfl ?_;simp only[↓reduceIte]
   simp only[Qr,Qo,QD,↓reduceIte,Qv2,Qv3,Nat.reduceAdd,Nat.reduceEqDiff,Qv1,Qwn,QQ,QR,QvP,QvQ,QvV,ti69,f3,QS,Qq,Qz,QvZ]
   refine Xq (Zo _ _) (.keep ?_) ?_
   exact T.Qu8 _ (.mk _ _ _ _)
   exact⟨by simp only[gNum,e1,k1,Qbq [] hmem];rfl,by simp only[gNum,e1]⟩
 ·rw[QwJ k1]at en
  have z1:(t.kind==1)=false:=by simpa using k1
  by_cases k2:t.kind=2
  ·rw[QwN k2]at en
   have hnd:s.length+ndsL t.args<=1000000:=by cases t;simp only[T.nds]at hs0;simp only[T.args];omega
   rw[k2]at eav
   have z2:((2:Int)==1)=false:=by decide
   have c:=Qcl T.av (.fn (.func 97) [.mp m] []) QkZ Qih nT T.nds QkG t.args hl m (h++[AB.cells 69 4 [t.av],AB.cells 69 4 [.agg [.i 0,.i 0,.v (.string {data:=#[]}),.v (.slice none 0 0)]]]) (by rw[QwG];omega) s (by rw[QhX];exact hnd) ih
   rw[<-QgI,<-QgI,<-QbS,Qbe hm,Qbe hm,eav]at c
   rw[eav,en]
   refine Qb Tryz.func97 rfl Tryz.call97 Tryz.ntmps97 Tryz.results97 (by simp) ?_
   with_reducible repeat first|(first|refine Qa fun K E hK hE=>?_|refine Ql fun K E hK hE=>?_|refine FunW.QuW c ?_);simp only[Qh,Qe,Qk,OpW,Q7,aop,undef,AS.ev,Qg,QX,Qu,Qr,QG,QvW,Qwf,AV.QuX,Qo,XV,QD,Yn,Qv9,Qwa,QE,QA,QM,QP,Qwb,↓reduceIte,Qv2,Qv3,Nat.reduceAdd,Nat.reduceLT,Nat.reduceLeDiff,Nat.reduceEqDiff,Qv1,Qwe,Qwn,Qm,QQ,QR,Xf,QY,aBin,hlen,happ,QvP,QvQ,Qwj,Qwk,QvR,Qv4,Qv8,Qwh,Qwg,Qwi,Qv0,Qv7,QvY,Qv6,Q1,QvX,QvT,ti3,ti44,ti69,XR,Yh,zi69,f1,f2,f3,f4,f5,z2]|refine Qf fun K hK=>?_|refine Qj ?_|refine Qp ?_|refine Qd ?_|refine Qt ?_|refine hK _ ?_;clear hK|refine Qi rfl ?_;simp only[↓reduceIte,QvT]
   simp only[Qr,Qo,QD,↓reduceIte,Qv2,Qv3,Nat.reduceAdd,Nat.reduceEqDiff,Qv1,Qwn,QQ,QR,QvP,QvQ,QvV,ti69,f3,QS,Qq,Qz,QvZ]
   refine Xq (Zo _ _) (.keep ?_) ?_
   exact T.Qu8 _ (.mk _ _ _ _)
   exact⟨by simp only[k2];rfl,rfl⟩
  ·rw[QwJ k2]at en
   have z2:(t.kind==2)=false:=by simpa using k2
   rw[eav,en]
   refine Qb Tryz.func97 rfl Tryz.call97 Tryz.ntmps97 Tryz.results97 (by simp) ?_
   with_reducible repeat first|refine Qa fun K E hK hE=>?_;simp only[Qh,Qe,Qk,OpW,aop,undef,AS.ev,Qg,QX,Qu,Qr,QG,QvW,Qwf,AV.QuX,Qo,QD,Qv9,Qwa,QE,QA,QM,QP,Qwb,↓reduceIte,Qv2,Qv3,Nat.reduceAdd,Nat.reduceLT,Nat.reduceEqDiff,Qv1,Qwe,Qwn,Qm,QQ,QR,Xf,QY,aBin,hlen,happ,QvP,QvQ,Qwj,Qwk,QvR,Qwh,Qwg,Q1,ti3,ti69,XR,zi69,f1,f2,f3,f5,z1,z2]|refine Qf fun K hK=>?_|refine Qj ?_|refine Qp ?_|refine Qw ?_|refine Qd ?_|refine Qt ?_|refine hK _ ?_;clear hK|refine Qi rfl ?_;simp only[↓reduceIte,QvT]
   simp only[Qr,Qo,QD,↓reduceIte,Qv2,Qv3,Nat.reduceAdd,Nat.reduceEqDiff,Qv1,Qwn,QQ,QR,QvP,QvQ,QvV,ti69,f3,QS,Qq,Qz,QvZ]
   refine Xq (Zo _ _) (.keep ?_) ?_
   exact T.Qu8 _ (.mk _ _ _ _)
   exact⟨by rw[<-eav],rfl⟩
mutual
theorem T.Qvw:∀(t:T),t.nds<=1000000->∀m,NIh m t
 | .mk k i n l,hn,m=>fun h s hm hs0=>by
  refine FunW.fn ?_
  have hnl:ndsL l<=1000000:=by simp only[T.nds]at hn;omega
  exact Qjo m (.mk k i n l) (by have:=X5 l;simp only[T.args];omega) (Qdx l hnl m) h s hm hs0
theorem Qdx:∀(l:List T),ndsL l<=1000000->∀m,∀a∈l,NIh m a
 |[],_,_,a,ha=>by cases ha
 |t::l,hn,m,a,ha=>by
  simp only[ndsL]at hn
  have h1:=T.Qvw t (by omega) m
  have h2:=Qdx l (by omega) m
  rcases QwS.1 ha with e|e
  ·rw[e];exact h1
  ·exact h2 a e
end
def nG(s:List Int)(g:G):G×List Int:=({g with args:=(XJ gNum s g.args).1},(XJ gNum s g.args).2)
def G.nds(g:G):Nat:=ndsL g.args
theorem Qd7(s:List Int)(g:G):(nG s g).2.length<=s.length+g.nds:=by
 rw[nG,QaT s g.args []]
 have:=Y2 s (Xd g.args)
 have:=Qct g.args
 simp only[G.nds]
 omega
theorem Qjm(m:Nat)(g:G)(hn:g.nds<=1000000)(h:AH)(s:List Int)(hm:m<h.length)(hs0:s.length+g.nds<=1000000) :
  QT Tryz.prog 48 [.mp m,g.atom] (hs h m (mapB s)) fun o h'=>o = .ret ((nG s g).1).atom/\h'=hs h m (mapB (nG s g).2):=by
 have f1:=fun x=>ZD h m x
 have f2:=fun x L=>Qcf (h:=h) (i:=m) x L
 have f3:=fun x L k=>Qg0 (h:=h) (i:=m) x L k
 have f4:=fun x y L=>QcE (h:=h) (i:=m) x y L
 have f5:=fun x y L k=>QdY (h:=h) (i:=m) x y L k
 have c:=Qcl T.av (.fn (.func 97) [.mp m] []) QkZ Qih nT T.nds QkG g.args (by have:=X5 g.args;simp only[G.nds]at hn;omega) m (h++[AB.cells 66 2 [g.atom],AB.cells 66 2 [.agg [.v (.string {data:=#[]}),.v (.slice none 0 0)]]]) (by rw[QwG];omega) s (by rw[QhX];exact hs0) (Qdx g.args hn m)
 rw[<-QgI,<-QgI,<-QbS,Qbe hm,Qbe hm]at c
 refine Qb Tryz.func48 rfl Tryz.call48 Tryz.ntmps48 Tryz.results48 (by simp) ?_
 with_reducible repeat first|(first|refine Qa fun K E hK hE=>?_|refine FunW.QuW c ?_);simp only[Qh,Qe,Qk,OpW,Q7,aop,undef,AS.ev,Qg,QX,Qr,QG,QvW,Qwf,AV.QuX,Qo,XV,QD,Yn,Qv9,Qwa,QA,QM,QP,Qwb,↓reduceIte,Qv2,Qv3,Nat.reduceAdd,Nat.reduceLT,Nat.reduceLeDiff,Nat.reduceEqDiff,Qv1,Qwn,Qm,QQ,QR,Xf,QY,hlen,happ,QvP,QvQ,Qwj,Qwk,QvR,Qv4,Qv8,Qwh,Qwg,Qwi,Qv0,Qv7,QvY,Qv6,QvT,ti44,ti66,QiT,zi66,f1,f2,f3,f4,f5,ZX,QdS]|refine Qp ?_|refine hK _ ?_;clear hK
 simp only[Qr,Qo,QD,↓reduceIte,Qv2,Qv3,Nat.reduceAdd,Nat.reduceEqDiff,Qv1,Qwn,QQ,QR,QvP,QvQ,QvV,ti66,f3,QS,Qq,Qz,QvZ]
 refine Xq (Zo _ _) (.keep ?_) ?_
 ·exact .agg _ (QbJ _ (nG s g).1)
 ·exact⟨rfl,rfl⟩
theorem Qjn(m:Nat)(g:G)(hn:g.nds<=1000000)(h:AH)(s:List Int)(hm:m<h.length)(hs0:s.length+g.nds<=1000000) :
  QT Tryz.prog 50 [.mp m,g.goal] (hs h m (mapB s)) fun o h'=>o = .ret ((nG s g).1).goal/\h'=hs h m (mapB (nG s g).2):=by
 have f1:=fun x=>ZD h m x
 have f2:=fun x L=>Qcf (h:=h) (i:=m) x L
 have f3:=fun x L k=>Qg0 (h:=h) (i:=m) x L k
 have f4:=fun x y L=>QcE (h:=h) (i:=m) x y L
 have f5:=fun x y L k=>QdY (h:=h) (i:=m) x y L k
 have c:=Qcl T.av (.fn (.func 97) [.mp m] []) QkZ Qih nT T.nds QkG g.args (by have:=X5 g.args;simp only[G.nds]at hn;omega) m (h++[AB.cells 53 3 [g.goal],AB.cells 53 3 [.agg [.i 0,.v (.string {data:=#[]}),.v (.slice none 0 0)]]]) (by rw[QwG];omega) s (by rw[QhX];exact hs0) (Qdx g.args hn m)
 rw[<-QgI,<-QgI,<-QbS,Qbe hm,Qbe hm]at c
 refine Qb Tryz.func50 rfl Tryz.call50 Tryz.ntmps50 Tryz.results50 (by simp) ?_
 with_reducible repeat first|(first|refine Qa fun K E hK hE=>?_|refine FunW.QuW c ?_);simp only[Qh,Qe,Qk,OpW,Q7,aop,undef,AS.ev,Qg,QX,Qr,QG,QvW,Qwf,AV.QuX,Qo,XV,QD,Yn,Qv9,Qwa,QE,QA,QM,QP,Qwb,↓reduceIte,Qv2,Qv3,Nat.reduceAdd,Nat.reduceLT,Nat.reduceLeDiff,Nat.reduceEqDiff,Qv1,Qwn,Qm,QQ,QR,Xf,QY,hlen,happ,QvP,QvQ,Qwj,Qwk,QvR,Qv4,Qv8,Qwh,Qwg,Qwi,Qv0,Qv7,QvY,Qv6,QvT,ti44,ti53,ZC,zi53,f1,f2,f3,f4,f5,Q4,Z1]|refine Qp ?_|refine hK _ ?_;clear hK
 simp only[Qr,Qo,QD,↓reduceIte,Qv2,Qv3,Nat.reduceAdd,Nat.reduceEqDiff,Qv1,Qwn,QQ,QR,QvP,QvQ,QvV,ti53,f3,QS,Qq,Qz,QvZ]
 refine Xq (Zo _ _) (.keep ?_) ?_
 ·exact .agg _ (Qbd _ (nG s g).1)
 ·exact⟨rfl,rfl⟩
theorem QbD{X:Type}(g:List Int->X->X×List Int)(w:X->Nat)(hw:∀s x,(g s x).2.length<=s.length+w x):∀(l:List X) (s:List Int),(Xh g s l).2.length<=s.length+(l.map w).sum
 |[],s=>by simp[Xh]
 |x::l,s=>by
  rw[Xh,List.map_cons,List.sum_cons]
  have:=QbD g w hw l (g s x).2
  have:=hw s x
  simp only
  omega
def wG(l:List G):Nat:=(l.map G.nds).sum
theorem Qpw:∀{l:List G} {g:G},g∈l->g.nds<=wG l
 |x::l,g,h=>by
  simp only[wG,Qv4,List.sum_cons]
  rcases QwS.1 h with rfl|h
  ·omega
  ·have:=Qpw h;simp only[wG]at this;omega
def numR(r:Rl):Rl :=
 ⟨r.name,(Xh nG [] r.keep).1,(Xh nG (Xh nG [] r.keep).2 r.remove).1,(Xh nG (Xh nG (Xh nG [] r.keep).2 r.remove).2 r.guard).1,
  (Xh nG (Xh nG (Xh nG (Xh nG [] r.keep).2 r.remove).2 r.guard).2 r.body).1,(Xh nG (Xh nG (Xh nG (Xh nG [] r.keep).2 r.remove).2 r.guard).2 r.body).2.length⟩
theorem QpI(n:Nat)(r:Rl):Below n r.av:=by
 refine .agg _ fun a ha=>?_
 simp only[QwS,Qw4,QxK]at ha
 rcases ha with rfl|rfl|rfl|rfl|rfl|rfl
 ·exact .v _
 ·exact Qbj _ n 2 (QbJ n) _
 ·exact Qbj _ n 2 (QbJ n) _
 ·exact Qbj _ n 3 (Qbd n) _
 ·exact Qbj _ n 3 (Qbd n) _
 ·exact .v _
theorem QfZ(r:Rl)(h1:r.keep.length<=100000)(h2:r.remove.length<=100000)(h3:r.guard.length<=100000)(h4:r.body.length<=100000)(hw:wG r.keep+wG r.remove+wG r.guard+wG r.body<=1000000) :
  Pure Tryz.prog 13 [r.av] (numR r).av:=by
 intro h
 obtain⟨s1,es1⟩:∃s,s=(Xh nG [] r.keep).2:=⟨_,rfl⟩
 obtain⟨s2,es2⟩:∃s,s=(Xh nG s1 r.remove).2:=⟨_,rfl⟩
 obtain⟨s3,es3⟩:∃s,s=(Xh nG s2 r.guard).2:=⟨_,rfl⟩
 obtain⟨s4,es4⟩:∃s,s=(Xh nG s3 r.body).2:=⟨_,rfl⟩
 obtain⟨l1,el1⟩:∃s,s=(Xh nG [] r.keep).1:=⟨_,rfl⟩
 obtain⟨l2,el2⟩:∃s,s=(Xh nG s1 r.remove).1:=⟨_,rfl⟩
 obtain⟨l3,el3⟩:∃s,s=(Xh nG s2 r.guard).1:=⟨_,rfl⟩
 obtain⟨l4,el4⟩:∃s,s=(Xh nG s3 r.body).1:=⟨_,rfl⟩
 have en:numR r=⟨r.name,l1,l2,l3,l4,s4.length⟩:=by rw[numR,<-es1,<-es2,<-es3,<-es4,<-el1,<-el2,<-el3,<-el4]
 have w1:s1.length<=wG r.keep:=by rw[es1];have:=QbD nG G.nds Qd7 r.keep [];simpa [wG]using this
 have w2:s2.length<=s1.length+wG r.remove:=by rw[es2];exact QbD nG G.nds Qd7 r.remove s1
 have w3:s3.length<=s2.length+wG r.guard:=by rw[es3];exact QbD nG G.nds Qd7 r.guard s2
 have w4:s4.length<=s3.length+wG r.body:=by rw[es4];exact QbD nG G.nds Qd7 r.body s3
 obtain⟨zv,hz⟩:∃z,z=AB.cells 25 6 [.agg [.v (.string {data:=#[]}),.v (.slice none 0 0),.v (.slice none 0 0),.v (.slice none 0 0),.v (.slice none 0 0),.v (.int .i64 0)]]:=⟨_,rfl⟩
 have e:∀x y z,hs (h++[x,y,AB.dead]) (h.length+2) z=h++[x,y,z]:=fun x y z=>by simp[hs]
 have hlt:∀x y:AB,h.length+2<(h++[x,y,AB.dead]).length:=fun x y=>by simp
 have cA:=fun(l:List G) (hl:l.length<=100000) (s:List Int) (hs0:s.length+wG l<=1000000) x=>Qjd G.atom (.fn (.func 48) [.mp (h.length+2)] []) Qhx QbJ nG G.nds Qd7 l (by omega) (h.length+2) (h++[x,zv,AB.dead]) (hlt _ _) s hs0
  (fun g hg h s hm hs1=>FunW.fn (Qjm _ g (by have:=Qpw hg;omega) h s hm hs1))
 have cG:=fun(l:List G) (hl:l.length<=100000) (s:List Int) (hs0:s.length+wG l<=1000000) x=>Qje G.goal (.fn (.func 50) [.mp (h.length+2)] []) QfF Qbd nG G.nds Qd7 l (by omega) (h.length+2) (h++[x,zv,AB.dead]) (hlt _ _) s hs0
  (fun g hg h s hm hs1=>FunW.fn (Qjn _ g (by have:=Qpw hg;omega) h s hm hs1))
 have c1:=cA r.keep h1 [] (by simp only[Qv3];omega) (.cells 25 6 [.agg [.v (.string r.name),.sl 2 (vs G.atom r.keep) none,.sl 2 (vs G.atom r.remove) none,.sl 3 (vs G.goal r.guard) none,.sl 3 (vs G.goal r.body) none,.v (.int .i64 r.vars)]])
 have c2:=cA r.remove h2 s1 (by omega) (.cells 25 6 [.agg [.v (.string r.name),.sl 2 (vs G.atom l1) none,.sl 2 (vs G.atom r.remove) none,.sl 3 (vs G.goal r.guard) none,.sl 3 (vs G.goal r.body) none,.v (.int .i64 r.vars)]])
 have c3:=cG r.guard h3 s2 (by omega) (.cells 25 6 [.agg [.v (.string r.name),.sl 2 (vs G.atom l1) none,.sl 2 (vs G.atom l2) none,.sl 3 (vs G.goal r.guard) none,.sl 3 (vs G.goal r.body) none,.v (.int .i64 r.vars)]])
 have c4:=cG r.body h4 s3 (by omega) (.cells 25 6 [.agg [.v (.string r.name),.sl 2 (vs G.atom l1) none,.sl 2 (vs G.atom l2) none,.sl 3 (vs G.goal l3) none,.sl 3 (vs G.goal r.body) none,.v (.int .i64 r.vars)]])
 rw[e,e,<-es1,<-el1,show mapB [] = .map []from rfl,hz]at c1
 rw[e,e,<-es2,<-el2,hz]at c2
 rw[e,e,<-es3,<-el3,hz]at c3
 rw[e,e,<-es4,<-el4,hz]at c4
 have mb:mapB s4 = .map (imap (Zg s4)):=rfl
 rw[en]
 refine Qb Tryz.func13 rfl Tryz.call13 Tryz.ntmps13 Tryz.results13 (by simp) ?_
 rw[show r.av=AV.agg [.v (.string r.name),.sl 2 (vs G.atom r.keep) none,.sl 2 (vs G.atom r.remove) none,.sl 3 (vs G.goal r.guard) none,.sl 3 (vs G.goal r.body) none,.v (.int .i64 r.vars)]from rfl]
 with_reducible repeat first|(first|refine Qa fun K E hK hE=>?_|refine FunW.QuW c1 ?_|refine FunW.QuW c2 ?_|refine FunW.QuW c3 ?_|refine FunW.QuW c4 ?_);simp only[Qh,Qe,Qk,OpW,Q7,aop,undef,AS.ev,Qg,QX,Qr,QG,QvW,AV.QuX,Qo,Q6,XV,QD,Xx,Yn,Qv9,Qwa,QE,QA,QM,QP,Qwb,↓reduceIte,Qv2,Qv3,Nat.reduceAdd,Nat.reduceLT,Nat.reduceLeDiff,Nat.reduceEqDiff,Qv1,Qwn,Qm,QQ,QR,Xf,QY,aLen,Q8,hget,Yd,hset,hlen,happ,QvP,QvQ,Qwj,Qwk,QvR,Qwu,Qv4,Qv8,Qwh,Qwg,Qwi,Qv0,Qv7,QvY,Qv6,goInt,QvT,ti3,ti22,ti23,ti25,QcY,QcZ,QaN,QaX,QqU,zi25,un92,mb,Qdw]|refine Qp ?_|refine hK _ ?_;clear hK
 simp only[Qr,Qo,QD,↓reduceIte,Qv2,Qv3,Nat.reduceAdd,Nat.reduceEqDiff,Qv1,Qwn,QQ,QR,hget,QvP,QvQ,QvV,ti25,QS,Qq,Qz,QvZ]
 exact Qc (htake _ _) (.keep (QpI _ ⟨r.name,l1,l2,l3,l4,s4.length⟩)) ⟨rfl,rfl⟩
def Qh2:List G->Bool
 |[g]=>g.op==1
 |_=>false
theorem Qf1{l:List G}(h:l.length=1)(h0:0<l.length):Qh2 l=(l[0].op==1):=by
 match l,h with
 |[g],_=>rfl
def preR(r:Rl):Bool:=(Ym r.name||YF r.name)&&(decide (0<r.keep.length+r.remove.length/\r.keep.length+r.remove.length<=4)&&(decide (r.guard.length<=12/\r.body.length<=12)&&!Qh2 r.body))
def Yi(r:Rl):Bool:=preR r&&(r.keep.all Xa&&(r.remove.all Xa&&(r.guard.all QL&&r.body.all QL)))
theorem Qic(r:Rl)(h1:r.keep.length<=100000)(h2:r.remove.length<=100000)(h3:r.guard.length<=100000)(h4:r.body.length<=100000) :
  Pure Tryz.prog 33 [r.av] (.b (Yi r)):=by
 intro h
 have er:r.av=AV.agg [.v (.string r.name),.sl 2 (vs G.atom r.keep) none,.sl 2 (vs G.atom r.remove) none,.sl 3 (vs G.goal r.guard) none,.sl 3 (vs G.goal r.body) none,.v (.int .i64 r.vars)]:=rfl
 have cn:Pure Tryz.prog 55 [.v (.string r.name)] (.b (YF r.name)):=QcL r.name
 have hadd:IntKind.i64.wrap ((r.keep.length:Int)+r.remove.length)=((r.keep.length+r.remove.length:Nat):Int):=by rw[Yg (by omega)];omega
 obtain⟨n,en⟩:∃n:Nat,n=r.keep.length+r.remove.length:=⟨_,rfl⟩
 rw[<-en]at hadd
 refine Qb Tryz.func33 rfl Tryz.call33 Tryz.ntmps33 Tryz.results33 (by simp) ?_
 rw[er]
 iterate 4 (try (first|(((with_reducible refine Qa fun K E hK hE=>?_));simp only[Qh,Qe,Qk,OpW,aop,undef,AS.ev,Qg,QC,Qr,QG,QvW,AV.QuX,Qo,Qv9,Qwa,QE,QA,QP,Qwb,↓reduceIte,Qv2,Qv3,Nat.reduceAdd,Nat.reduceLT,Nat.reduceEqDiff,Qv1,Qm,QQ,QR,aBin,aLen,Q8,QvP,QvQ,QvR,Yc,goInt,ti22,un22,QcY,QcZ,QN,hadd])|((with_reducible refine hK _ ?_);clear hK)))
 refine Yt (fun s=>preR r=true/\s.tm 1 = .ptr h.length 0 0/\s.h=h++[.cells 25 6 [.agg [.v (.string r.name),.sl 2 (vs G.atom r.keep) none,.sl 2 (vs G.atom r.remove) none,.sl 3 (vs G.goal r.guard) none,.sl 3 (vs G.goal r.body) none,.v (.int .i64 r.vars)]]]) ?_ ?_
 ·rintro⟨tm,hp⟩ ⟨hpr,t1,hh⟩
  dsimp only at t1 hh
  subst hh
  have a1:=fun h=>Qiz G.atom Xa (.fn (.func 80) [] []) Qhx r.keep (by omega) h (fun g _ h=>FunW.call (Qaw g h))
  have a2:=fun h=>Qiz G.atom Xa (.fn (.func 80) [] []) Qhx r.remove (by omega) h (fun g _ h=>FunW.call (Qaw g h))
  have a3:=fun h=>Qfe G.goal QL (.fn (.func 61) [] []) QfF r.guard (by omega) h (fun g _ h=>FunW.call (ZJ g h))
  have a4:=fun h=>Qfe G.goal QL (.fn (.func 61) [] []) QfF r.body (by omega) h (fun g _ h=>FunW.call (ZJ g h))
  obtain⟨b1,w1⟩:∃b,b=(r.keep.all Xa):=⟨_,rfl⟩
  rw[<-w1]at a1
  cases b1
  ·have v1:(r.keep.all Xa)=false:=w1.symm
   have R:Yi r=false:=by rw[Yi,hpr,v1];rfl
   with_reducible repeat first|(first|refine Qa fun K E hK hE=>?_|refine FunW.QuW (a1 _) ?_);simp only[Qh,Qe,Qk,OpW,Q7,aop,undef,AS.ev,Qg,QC,Qr,Qo,↓reduceIte,Nat.reduceLT,Nat.reduceEqDiff,Qv1,Qm,QQ,QR,Q8,QvP,QvQ,QvR,QvU,QvS,Qv4,Qv8,QvT,beq_true,ti22,QcY,t1]|refine Qp ?_|refine hK _ ?_;clear hK
   simp only[QS,Qq,Qz,upd,↓reduceIte,QvV,QvZ];first|refine Qc (htake _ _) (.keep (.v _)) ⟨by rw[R],rfl⟩|refine Qc QwH (.keep (.v _)) ⟨by rw[R],rfl⟩
  have v1:(r.keep.all Xa)=true:=w1.symm
  obtain⟨b2,w2⟩:∃b,b=(r.remove.all Xa):=⟨_,rfl⟩
  rw[<-w2]at a2
  cases b2
  ·have v2:(r.remove.all Xa)=false:=w2.symm
   have R:Yi r=false:=by rw[Yi,hpr,v1,v2];rfl
   with_reducible repeat first|(first|refine Qa fun K E hK hE=>?_|refine FunW.QuW (a1 _) ?_|refine FunW.QuW (a2 _) ?_);simp only[Qh,Qe,Qk,OpW,Q7,aop,undef,AS.ev,Qg,QC,Qr,Qo,↓reduceIte,Nat.reduceLT,Nat.reduceEqDiff,Qv1,Qm,QQ,QR,Q8,QvP,QvQ,QvR,QvU,QvS,Qv4,Qv8,QvX,QvT,beq_true,ti22,QcY,QcZ,t1]|refine Qp ?_|refine hK _ ?_;clear hK
   simp only[QS,Qq,Qz,upd,↓reduceIte,QvV,QvZ];first|refine Qc (htake _ _) (.keep (.v _)) ⟨by rw[R],rfl⟩|refine Qc QwH (.keep (.v _)) ⟨by rw[R],rfl⟩
  have v2:(r.remove.all Xa)=true:=w2.symm
  obtain⟨b3,w3⟩:∃b,b=(r.guard.all QL):=⟨_,rfl⟩
  rw[<-w3]at a3
  cases b3
  ·have v3:(r.guard.all QL)=false:=w3.symm
   have R:Yi r=false:=by rw[Yi,hpr,v1,v2,v3];rfl
   with_reducible repeat first|(first|refine Qa fun K E hK hE=>?_|refine FunW.QuW (a1 _) ?_|refine FunW.QuW (a2 _) ?_|refine FunW.QuW (a3 _) ?_);simp only[Qh,Qe,Qk,OpW,Q7,aop,undef,AS.ev,Qg,QC,Qr,Qo,↓reduceIte,Nat.reduceLT,Nat.reduceEqDiff,Qv1,Qm,QQ,QR,Q8,QvP,QvQ,QvR,QvU,QvS,Qv4,Qv8,QvX,QvT,beq_true,ti22,ti23,QcY,QcZ,QaN,t1]|refine Qp ?_|refine hK _ ?_;clear hK
   simp only[QS,Qq,Qz,upd,↓reduceIte,QvV,QvZ];first|refine Qc (htake _ _) (.keep (.v _)) ⟨by rw[R],rfl⟩|refine Qc QwH (.keep (.v _)) ⟨by rw[R],rfl⟩
  have v3:(r.guard.all QL)=true:=w3.symm
  obtain⟨b4,w4⟩:∃b,b=(r.body.all QL):=⟨_,rfl⟩
  rw[<-w4]at a4
  cases b4
  ·have v4:(r.body.all QL)=false:=w4.symm
   have R:Yi r=false:=by rw[Yi,hpr,v1,v2,v3,v4];rfl
   with_reducible repeat first|(first|refine Qa fun K E hK hE=>?_|refine FunW.QuW (a1 _) ?_|refine FunW.QuW (a2 _) ?_|refine FunW.QuW (a3 _) ?_|refine FunW.QuW (a4 _) ?_);simp only[Qh,Qe,Qk,OpW,Q7,aop,AS.ev,Qg,Qr,Qo,↓reduceIte,Nat.reduceLT,Nat.reduceEqDiff,Qv1,Qm,QQ,QR,Q8,QvP,QvQ,QvR,QvU,QvS,Qv4,Qv8,QvX,ti22,ti23,QcY,QcZ,QaN,QaX,t1]|refine Qp ?_|refine hK _ ?_;clear hK
   simp only[QS,Qq,Qz,upd,↓reduceIte,QvV,QvZ];first|refine Qc (htake _ _) (.keep (.v _)) ⟨by rw[R],rfl⟩|refine Qc QwH (.keep (.v _)) ⟨by rw[R],rfl⟩
  have v4:(r.body.all QL)=true:=w4.symm
  have R:Yi r=true:=by rw[Yi,hpr,v1,v2,v3,v4];rfl
  with_reducible repeat first|(first|refine Qa fun K E hK hE=>?_|refine FunW.QuW (a1 _) ?_|refine FunW.QuW (a2 _) ?_|refine FunW.QuW (a3 _) ?_|refine FunW.QuW (a4 _) ?_);simp only[Qh,Qe,Qk,OpW,Q7,aop,AS.ev,Qg,Qr,Qo,↓reduceIte,Nat.reduceLT,Nat.reduceEqDiff,Qv1,Qm,QQ,QR,Q8,QvP,QvQ,QvR,QvU,QvS,Qv4,Qv8,QvX,ti22,ti23,QcY,QcZ,QaN,QaX,t1]|refine Qp ?_|refine hK _ ?_;clear hK
  simp only[QS,Qq,Qz,upd,↓reduceIte,QvV,QvZ];first|refine Qc (htake _ _) (.keep (.v _)) ⟨by rw[R],rfl⟩|refine Qc QwH (.keep (.v _)) ⟨by rw[R],rfl⟩
 ·have ee:(r.name.toList==({data:=#[]}:ByteArray).toList)=Ym r.name:=rfl
  have hgg:∀k:Nat,((r.guard.length:Int)>12)=(12<r.guard.length):=fun _=>by rw[eq_iff_iff];omega
  cases ce:Ym r.name
  ·rw[ce]at ee
   cases cr:YF r.name
   ·have R:Yi r=false:=by rw[Yi,preR,ce,cr];rfl
    rw[cr]at cn
    with_reducible repeat first|(first|refine Qa fun K E hK hE=>?_|refine Qy cn ?_);simp only[Qh,Qe,Qk,OpW,Q7,aop,AS.ev,Qg,QC,QI,Qr,Qo,Qwd,↓reduceIte,Nat.reduceLT,Nat.reduceEqDiff,Qwe,Qm,QQ,QR,aBin,Q8,QvP,QvQ,QvR,QvU,QvS,Qv4,Qv8,Ya,YM,QvX,ti9,QaD,ee]|refine Qf fun K hK=>?_|refine Qj ?_|refine Qp ?_|refine Qw ?_|refine Qd ?_|refine QB ?_|refine QF ?_|refine hK _ ?_;clear hK|refine Qi rfl ?_;simp only[↓reduceIte]
    simp only[QS,Qq,Qz,upd,↓reduceIte,QvV,QvZ];first|refine Qc (htake _ _) (.keep (.v _)) ⟨by rw[R],rfl⟩|refine Qc QwH (.keep (.v _)) ⟨by rw[R],rfl⟩
   ·have hn:(Ym r.name||YF r.name)=true:=by rw[ce,cr];rfl
    rw[cr]at cn
    by_cases n0:n=0
    ·have R:Yi r=false:=by rw[Yi,preR,hn,QwY (by omega)];rfl
     have m0:((n:Int)==0)=true:=by simp[n0]
     with_reducible repeat first|(first|refine Qa fun K E hK hE=>?_|refine Qy cn ?_);simp only[Qh,Qe,Qk,OpW,Q7,aop,AS.ev,Qg,Qu,QC,QI,Qr,Qo,Qwc,Qwd,↓reduceIte,Nat.reduceLT,Nat.reduceEqDiff,Qwe,Qm,QQ,QR,aBin,Q8,QvP,QvQ,QvR,QvU,QvS,Qv4,Qv8,Q1,Ya,YM,QvX,ti9,QaD,ee,m0]|refine Qf fun K hK=>?_|refine Qj ?_|refine Qp ?_|refine Qw ?_|refine Qd ?_|refine QB ?_|refine QF ?_|refine hK _ ?_;clear hK|refine Qi rfl ?_;simp only[↓reduceIte,QvT]
     simp only[QS,Qq,Qz,upd,↓reduceIte,QvV,QvZ];first|refine Qc (htake _ _) (.keep (.v _)) ⟨by rw[R],rfl⟩|refine Qc QwH (.keep (.v _)) ⟨by rw[R],rfl⟩
    have m0:((n:Int)==0)=false:=by simp;omega
    by_cases n4:n>4
    ·have R:Yi r=false:=by rw[Yi,preR,hn,QwY (by omega)];rfl
     have m4:(n:Int)>4:=by omega
     with_reducible repeat first|(first|refine Qa fun K E hK hE=>?_|refine Ql fun K E hK hE=>?_|refine Qy cn ?_);simp only[Qh,Qe,Qk,OpW,Q7,aop,AS.ev,Qg,Qu,QC,QI,Qr,Qo,Qwc,Qwd,↓reduceIte,Nat.reduceLT,Nat.reduceEqDiff,Qwe,Qm,QQ,QR,aBin,Q8,QvP,QvQ,QvR,QvU,QvS,Qv4,Qv8,Q1,Xw,Ya,YM,Qwl,QvX,ti9,QaD,ee,m0,m4]|refine Qf fun K hK=>?_|refine Qj ?_|refine Qp ?_|refine Qd ?_|refine QB ?_|refine QF ?_|refine hK _ ?_;clear hK|refine Qi rfl ?_;simp only[↓reduceIte,QvT]
     simp only[QS,Qq,Qz,upd,↓reduceIte,QvV,QvZ];first|refine Qc (htake _ _) (.keep (.v _)) ⟨by rw[R],rfl⟩|refine Qc QwH (.keep (.v _)) ⟨by rw[R],rfl⟩
    have m4:¬(n:Int)>4:=by omega
    have hh:decide (0<r.keep.length+r.remove.length/\r.keep.length+r.remove.length<=4)=true:=Qw7 (by omega)
    by_cases g0:r.guard.length>12
    ·have R:Yi r=false:=by rw[Yi,preR,hn,hh,QwY (by omega)];rfl
     have mg:(r.guard.length:Int)>12:=by omega
     with_reducible repeat first|(first|refine Qa fun K E hK hE=>?_|refine Ql fun K E hK hE=>?_|refine Qy cn ?_);simp only[Qh,Qe,Qk,OpW,Q7,aop,AS.ev,Qg,Qu,QC,QI,Qr,Qo,Qwc,Qwd,↓reduceIte,Nat.reduceLT,Nat.reduceEqDiff,Qv1,Qwe,Qm,QQ,QR,aBin,aLen,Q8,QvP,QvQ,QvR,QvU,QvS,Qv4,Qv8,Q1,Xw,Ya,YM,goInt,Qwl,Qwm,QvX,ti9,ti23,un23,QaD,QaN,ee,m0,m4,mg,QN]|refine Qf fun K hK=>?_|refine Qj ?_|refine Qp ?_|refine Qw ?_|refine Qd ?_|refine QB ?_|refine QF ?_|refine hK _ ?_;clear hK|refine Qi rfl ?_;simp only[↓reduceIte,QvT]
     simp only[QS,Qq,Qz,upd,↓reduceIte,QvV,QvZ];first|refine Qc (htake _ _) (.keep (.v _)) ⟨by rw[R],rfl⟩|refine Qc QwH (.keep (.v _)) ⟨by rw[R],rfl⟩
    have mg:¬(r.guard.length:Int)>12:=by omega
    by_cases b0:r.body.length>12
    ·have R:Yi r=false:=by rw[Yi,preR,hn,hh,QwY (by omega)];rfl
     have mb:(r.body.length:Int)>12:=by omega
     with_reducible repeat first|(first|refine Qa fun K E hK hE=>?_|refine Ql fun K E hK hE=>?_|refine Qy cn ?_);simp only[Qh,Qe,Qk,OpW,Q7,aop,AS.ev,Qg,Qu,QC,QI,Qr,Qo,Qwc,Qwd,↓reduceIte,Nat.reduceLT,Nat.reduceEqDiff,Qv1,Qwe,Qm,QQ,QR,aBin,aLen,Q8,QvP,QvQ,QvR,QvU,QvS,Qv4,Qv8,Q1,Xw,Ya,YM,goInt,Qwl,Qwm,QvX,ti9,ti23,un23,QaD,QaN,QaX,ee,m0,m4,mg,mb,QN]|refine Qf fun K hK=>?_|refine Qj ?_|refine Qp ?_|refine Qd ?_|refine QB ?_|refine QF ?_|refine hK _ ?_;clear hK|refine Qi rfl ?_;simp only[↓reduceIte,QvT]
     simp only[QS,Qq,Qz,upd,↓reduceIte,QvV,QvZ];first|refine Qc (htake _ _) (.keep (.v _)) ⟨by rw[R],rfl⟩|refine Qc QwH (.keep (.v _)) ⟨by rw[R],rfl⟩
    have mb:¬(r.body.length:Int)>12:=by omega
    have hgb:decide (r.guard.length<=12/\r.body.length<=12)=true:=Qw7 (by omega)
    by_cases b1:r.body.length=1
    ·have hb0:0<r.body.length:=by omega
     have m1:((r.body.length:Int)==1)=true:=by simp;omega
     have m2:(0:Int)<r.body.length:=by omega
     have hg0:=QaK G.goal hb0
     have hone:=Qf1 b1 hb0
     cases co:(r.body[0].op==1)
     ·have P:preR r=true:=by rw[preR,hn,hh,hgb,hone,co];rfl
      with_reducible repeat first|(first|refine Qa fun K E hK hE=>?_|refine Ql fun K E hK hE=>?_|refine Qy cn ?_);simp only[Qh,Qe,Qk,OpW,Q7,aop,AS.ev,Qg,Qu,QI,Qr,Qo,Qwc,Qwd,↓reduceIte,Nat.reduceLT,Nat.reduceEqDiff,Qv1,Qwe,Qwn,Qm,QQ,QR,QJ,aBin,aLen,Q8,QvP,QvQ,QvR,QvU,QvS,Qv4,Qv8,Q1,Xw,Ya,YM,goInt,Qwm,QvX,Int.toNat_zero,ti3,ti9,ti23,ei23,un23,QaD,QaN,QaX,YG,QwC,ee,m0,m4,mg,mb,m1,m2,hg0,co,QN,Q4]|refine Qf fun K hK=>?_|refine Qj ?_|refine Qw ?_|refine Qd ?_|refine Qt ?_|refine hK _ ?_;clear hK|refine Qi rfl ?_;simp only[↓reduceIte,QvT]
      exact⟨P,rfl,rfl⟩
     ·have R:Yi r=false:=by rw[Yi,preR,hn,hh,hgb,hone,co];rfl
      with_reducible repeat first|(first|refine Qa fun K E hK hE=>?_|refine Ql fun K E hK hE=>?_|refine Qy cn ?_);simp only[Qh,Qe,Qk,OpW,Q7,aop,AS.ev,Qg,Qu,QC,QI,Qr,Qo,Qwc,Qwd,↓reduceIte,Nat.reduceLT,Nat.reduceEqDiff,Qv1,Qwe,Qwn,Qm,QQ,QR,QJ,aBin,aLen,Q8,QvP,QvQ,QvR,QvU,QvS,Qv4,Qv8,Q1,Xw,Ya,YM,goInt,Qwm,QvX,Int.toNat_zero,ti3,ti9,ti23,ei23,un23,QaD,QaN,QaX,YG,QwC,ee,m0,m4,mg,mb,m1,m2,hg0,co,QN,Q4]|refine Qf fun K hK=>?_|refine Qj ?_|refine Qp ?_|refine Qd ?_|refine QB ?_|refine QF ?_|refine hK _ ?_;clear hK|refine Qi rfl ?_;simp only[↓reduceIte,QvT]
      simp only[QS,Qq,Qz,upd,↓reduceIte,QvV,QvZ];first|refine Qc (htake _ _) (.keep (.v _)) ⟨by rw[R],rfl⟩|refine Qc QwH (.keep (.v _)) ⟨by rw[R],rfl⟩
    ·have m1:((r.body.length:Int)==1)=false:=by simp;omega
     have hone:Qh2 r.body=false:=by
      match hq:r.body,b1 with
      |[],_=>rfl
      |[g],b1=>exact absurd rfl b1
      |_::_::_,_=>rfl
     have P:preR r=true:=by rw[preR,hn,hh,hgb,hone];rfl
     with_reducible repeat first|(first|refine Qa fun K E hK hE=>?_|refine Ql fun K E hK hE=>?_|refine Qy cn ?_);simp only[Qh,Qe,Qk,OpW,Q7,aop,undef,AS.ev,Qg,Qu,QC,QI,Qr,Qo,Qwc,Qwd,↓reduceIte,Nat.reduceLT,Nat.reduceEqDiff,Qv1,Qwe,Qm,QQ,QR,aBin,aLen,Q8,QvP,QvQ,QvR,QvU,QvS,Qv4,Qv8,Q1,Xw,Ya,YM,goInt,Qwm,QvX,QvT,beq_true,ti9,ti23,un23,QaD,QaN,QaX,ee,m0,m4,mg,mb,m1,QN]|refine Qf fun K hK=>?_|refine Qj ?_|refine Qw ?_|refine Qd ?_|refine Qt ?_|refine hK _ ?_;clear hK|refine Qi rfl ?_;simp only[↓reduceIte,QvT]
     exact⟨P,rfl,rfl⟩
  ·rw[ce]at ee
   have hn:(Ym r.name||YF r.name)=true:=by rw[ce];rfl
   by_cases n0:n=0
   ·have R:Yi r=false:=by rw[Yi,preR,hn,QwY (by omega)];rfl
    have m0:((n:Int)==0)=true:=by simp[n0]
    with_reducible repeat first|refine Qa fun K E hK hE=>?_;simp only[Qh,Qe,Qk,OpW,aop,undef,AS.ev,Qg,Qu,QC,QI,Qr,Qo,Qwc,↓reduceIte,Nat.reduceLT,Nat.reduceEqDiff,Qwe,Qm,QQ,QR,aBin,Q8,QvP,QvQ,QvR,QvU,QvS,Q1,YM,QvT,beq_true,ti9,QaD,ee,m0]|refine Qf fun K hK=>?_|refine Qj ?_|refine Qp ?_|refine Qw ?_|refine Qd ?_|refine QB ?_|refine QF ?_|refine hK _ ?_;clear hK|refine Qi rfl ?_;simp only[↓reduceIte,QvT]
    simp only[QS,Qq,Qz,upd,↓reduceIte,QvV,QvZ];first|refine Qc (htake _ _) (.keep (.v _)) ⟨by rw[R],rfl⟩|refine Qc QwH (.keep (.v _)) ⟨by rw[R],rfl⟩
   have m0:((n:Int)==0)=false:=by simp;omega
   by_cases n4:n>4
   ·have R:Yi r=false:=by rw[Yi,preR,hn,QwY (by omega)];rfl
    have m4:(n:Int)>4:=by omega
    with_reducible repeat first|(first|refine Qa fun K E hK hE=>?_|refine Ql fun K E hK hE=>?_);simp only[Qh,Qe,Qk,OpW,aop,undef,AS.ev,Qg,Qu,QC,QI,Qr,Qo,Qwc,↓reduceIte,Nat.reduceLT,Nat.reduceEqDiff,Qwe,Qm,QQ,QR,aBin,Q8,QvP,QvQ,QvR,QvU,QvS,Q1,Xw,YM,Qwl,QvT,beq_true,ti9,QaD,ee,m0,m4]|refine Qf fun K hK=>?_|refine Qj ?_|refine Qp ?_|refine Qd ?_|refine QB ?_|refine QF ?_|refine hK _ ?_;clear hK|refine Qi rfl ?_;simp only[↓reduceIte,QvT]
    simp only[QS,Qq,Qz,upd,↓reduceIte,QvV,QvZ];first|refine Qc (htake _ _) (.keep (.v _)) ⟨by rw[R],rfl⟩|refine Qc QwH (.keep (.v _)) ⟨by rw[R],rfl⟩
   have m4:¬(n:Int)>4:=by omega
   have hh:decide (0<r.keep.length+r.remove.length/\r.keep.length+r.remove.length<=4)=true:=Qw7 (by omega)
   by_cases g0:r.guard.length>12
   ·have R:Yi r=false:=by rw[Yi,preR,hn,hh,QwY (by omega)];rfl
    have mg:(r.guard.length:Int)>12:=by omega
    with_reducible repeat first|(first|refine Qa fun K E hK hE=>?_|refine Ql fun K E hK hE=>?_);simp only[Qh,Qe,Qk,OpW,aop,undef,AS.ev,Qg,Qu,QC,QI,Qr,Qo,Qwc,↓reduceIte,Nat.reduceLT,Nat.reduceEqDiff,Qv1,Qwe,Qm,QQ,QR,aBin,aLen,Q8,QvP,QvQ,QvR,QvU,QvS,Q1,Xw,YM,goInt,Qwl,Qwm,QvT,beq_true,ti9,ti23,un23,QaD,QaN,ee,m0,m4,mg,QN]|refine Qf fun K hK=>?_|refine Qj ?_|refine Qp ?_|refine Qw ?_|refine Qd ?_|refine QB ?_|refine QF ?_|refine hK _ ?_;clear hK|refine Qi rfl ?_;simp only[↓reduceIte,QvT]
    simp only[QS,Qq,Qz,upd,↓reduceIte,QvV,QvZ];first|refine Qc (htake _ _) (.keep (.v _)) ⟨by rw[R],rfl⟩|refine Qc QwH (.keep (.v _)) ⟨by rw[R],rfl⟩
   have mg:¬(r.guard.length:Int)>12:=by omega
   by_cases b0:r.body.length>12
   ·have R:Yi r=false:=by rw[Yi,preR,hn,hh,QwY (by omega)];rfl
    have mb:(r.body.length:Int)>12:=by omega
    with_reducible repeat first|(first|refine Qa fun K E hK hE=>?_|refine Ql fun K E hK hE=>?_);simp only[Qh,Qe,Qk,OpW,aop,undef,AS.ev,Qg,Qu,QC,QI,Qr,Qo,Qwc,↓reduceIte,Nat.reduceLT,Nat.reduceEqDiff,Qv1,Qwe,Qm,QQ,QR,aBin,aLen,Q8,QvP,QvQ,QvR,QvU,QvS,Q1,Xw,YM,goInt,Qwl,Qwm,QvT,beq_true,ti9,ti23,un23,QaD,QaN,QaX,ee,m0,m4,mg,mb,QN]|refine Qf fun K hK=>?_|refine Qj ?_|refine Qp ?_|refine Qd ?_|refine QB ?_|refine QF ?_|refine hK _ ?_;clear hK|refine Qi rfl ?_;simp only[↓reduceIte,QvT]
    simp only[QS,Qq,Qz,upd,↓reduceIte,QvV,QvZ];first|refine Qc (htake _ _) (.keep (.v _)) ⟨by rw[R],rfl⟩|refine Qc QwH (.keep (.v _)) ⟨by rw[R],rfl⟩
   have mb:¬(r.body.length:Int)>12:=by omega
   have hgb:decide (r.guard.length<=12/\r.body.length<=12)=true:=Qw7 (by omega)
   by_cases b1:r.body.length=1
   ·have hb0:0<r.body.length:=by omega
    have m1:((r.body.length:Int)==1)=true:=by simp;omega
    have m2:(0:Int)<r.body.length:=by omega
    have hg0:=QaK G.goal hb0
    have hone:=Qf1 b1 hb0
    cases co:(r.body[0].op==1)
    ·have P:preR r=true:=by rw[preR,hn,hh,hgb,hone,co];rfl
     with_reducible repeat first|(first|refine Qa fun K E hK hE=>?_|refine Ql fun K E hK hE=>?_);simp only[Qh,Qe,Qk,OpW,aop,undef,AS.ev,Qg,Qu,QC,QI,Qr,Qo,Qwc,↓reduceIte,Nat.reduceLT,Nat.reduceEqDiff,Qv1,Qwe,Qwn,Qm,QQ,QR,QJ,aBin,aLen,Q8,QvP,QvQ,QvR,QvU,QvS,Q1,Xw,YM,goInt,Qwm,QvX,Int.toNat_zero,QvT,beq_true,ti3,ti9,ti23,ei23,un23,QaD,QaN,QaX,YG,QwC,ee,m0,m4,mg,mb,m1,m2,hg0,co,QN,Q4]|refine Qf fun K hK=>?_|refine Qj ?_|refine Qw ?_|refine Qd ?_|refine Qt ?_|refine hK _ ?_;clear hK|refine Qi rfl ?_;simp only[↓reduceIte,QvT]
     exact⟨P,rfl,rfl⟩
    ·have R:Yi r=false:=by rw[Yi,preR,hn,hh,hgb,hone,co];rfl
     with_reducible repeat first|(first|refine Qa fun K E hK hE=>?_|refine Ql fun K E hK hE=>?_);simp only[Qh,Qe,Qk,OpW,aop,undef,AS.ev,Qg,Qu,QC,QI,Qr,Qo,Qwc,↓reduceIte,Nat.reduceLT,Nat.reduceEqDiff,Qv1,Qwe,Qwn,Qm,QQ,QR,QJ,aBin,aLen,Q8,QvP,QvQ,QvR,QvU,QvS,Q1,Xw,YM,goInt,Qwm,QvX,Int.toNat_zero,QvT,beq_true,ti3,ti9,ti23,ei23,un23,QaD,QaN,QaX,YG,QwC,ee,m0,m4,mg,mb,m1,m2,hg0,co,QN,Q4]|refine Qf fun K hK=>?_|refine Qj ?_|refine Qp ?_|refine Qd ?_|refine QB ?_|refine QF ?_|refine hK _ ?_;clear hK|refine Qi rfl ?_;simp only[↓reduceIte,QvT]
     simp only[QS,Qq,Qz,upd,↓reduceIte,QvV,QvZ];first|refine Qc (htake _ _) (.keep (.v _)) ⟨by rw[R],rfl⟩|refine Qc QwH (.keep (.v _)) ⟨by rw[R],rfl⟩
   ·have m1:((r.body.length:Int)==1)=false:=by simp;omega
    have hone:Qh2 r.body=false:=by
     match hq:r.body,b1 with
     |[],_=>rfl
     |[g],b1=>exact absurd rfl b1
     |_::_::_,_=>rfl
    have P:preR r=true:=by rw[preR,hn,hh,hgb,hone];rfl
    with_reducible repeat first|(first|refine Qa fun K E hK hE=>?_|refine Ql fun K E hK hE=>?_);simp only[Qh,Qe,Qk,OpW,aop,undef,AS.ev,Qg,Qu,QC,QI,Qr,Qo,Qwc,↓reduceIte,Nat.reduceLT,Nat.reduceEqDiff,Qv1,Qwe,Qm,QQ,QR,aBin,aLen,Q8,QvP,QvQ,QvR,QvU,QvS,Q1,Xw,YM,goInt,Qwm,QvT,beq_true,ti9,ti23,un23,QaD,QaN,QaX,ee,m0,m4,mg,mb,m1,QN]|refine Qf fun K hK=>?_|refine Qj ?_|refine Qw ?_|refine Qd ?_|refine Qt ?_|refine hK _ ?_;clear hK|refine Qi rfl ?_;simp only[↓reduceIte,QvT]
    exact⟨P,rfl,rfl⟩
theorem Qtj{l:List ByteArray}(h:∀x∈l,x.size<=15000):(l.map fun x=>x.size+2).sum<=15002 * l.length:=by
 induction l with
 |nil=>simp
 |cons x l ih =>
  rw[List.map_cons,List.sum_cons,Qv2]
  have:=h x (by simp)
  have:=ih fun y hy=>h y (by simp[hy])
  omega
theorem QbC{X:Type}(tx:X->ByteArray)(l:List X)(h:∀x∈l,1<=(tx x).size/\(tx x).size<=15000):(X1 true (l.map tx)).size<=15002 * l.length/\(0<l.length->0<(X1 true (l.map tx)).size):=by
 have h1:=QhT (l.map tx) true
 have h2:=Qtj (l:=l.map tx) fun x hx=>by obtain⟨y,hy,rfl⟩:=Qxa.1 hx;exact(h y hy).2
 rw[Qxj]at h2
 refine⟨by omega,fun h0=>?_⟩
 match l,h0 with
 |x::l,_ =>
  have:=(h x (by simp)).1
  rw[List.map_cons,Qg3 true _ (tx x) (l.map tx) rfl]
  omega
theorem Qpr{g:G}(h:Xa g=true):1<=(txtA g).size/\(txtA g).size<=15000:=by
 rw[txtA,QwN h];exact⟨(Qdj h).2.2.1,(Qdj h).2.2.2⟩
theorem Qpt{g:G}(h:QL g=true):1<=(txtG g).size/\(txtG g).size<=15000:=by
 rw[txtG,QwN h];exact⟨(Qdo h).2.2.1,(Qdo h).2.2.2.1⟩
def jA(l:List G):ByteArray:=X1 true (l.map txtA)
def jG(l:List G):ByteArray:=X1 true (l.map txtG)
theorem Qoe{l:List G}(hv:l.all Xa=true):(jA l).size<=15002 * l.length:=(QbC txtA l fun x hx=>Qpr (Qxc.1 hv x hx)).1
theorem Qof{l:List G}(hv:l.all QL=true):(jG l).size<=15002 * l.length:=(QbC txtG l fun x hx=>Qpt (Qxc.1 hv x hx)).1
theorem Qky(l:List G)(hv:l.all Xa=true)(hl:l.length<=100000)(h:AH)(hG:XE h) :
  QT Tryz.prog 36 [.sl 2 (vs G.atom l) none,.fn (.func 37) [] []] h fun o h'=>o = .ret (.v (.string (jA l)))/\h'=h:=by
 cases l with
 |nil=>exact QkA _ h
 |cons x l =>
  have hj:=QbC txtA (x::l) fun x hx=>Qpr (Qxc.1 hv x hx)
  refine Qi4 G.atom txtA _ Qhx (x::l) (by simp) (by omega) h hG (fun g hg h hG=>FunW.call (Qii g ?_ h hG)) (hj.2 (by simp)) (by omega)
  have:=(Qdj (Qxc.1 hv g hg)).2.1
  omega
theorem Qkz(l:List G)(hv:l.all QL=true)(hl:l.length<=100000)(h:AH)(hG:XE h) :
  QT Tryz.prog 38 [.sl 3 (vs G.goal l) none,.fn (.func 39) [] []] h fun o h'=>o = .ret (.v (.string (jG l)))/\h'=h:=by
 cases l with
 |nil=>exact QkC _ h
 |cons x l =>
  have hj:=QbC txtG (x::l) fun x hx=>Qpt (Qxc.1 hv x hx)
  refine Qi6 G.goal txtG _ QfF (x::l) (by simp) (by omega) h hG (fun g hg h hG=>FunW.call (Qij g ?_ h hG)) (hj.2 (by simp)) (by omega)
  have:=(Qdo (Qxc.1 hv g hg)).2.1
  omega
abbrev atB:ByteArray:={data:=#[32,64,32]}
abbrev impB:ByteArray:={data:=#[32,61,61,62,32]}
abbrev bsB:ByteArray:={data:=#[32,92,32]}
abbrev simB:ByteArray:={data:=#[32,60,61,62,32]}
abbrev barB:ByteArray:={data:=#[32,124,32]}
abbrev dotB:ByteArray:={data:=#[46]}
def t1R(x:Rl):ByteArray:=if Ym x.name=true then .empty else x.name++atB
def t3R(x:Rl)(t:ByteArray):ByteArray:=if x.remove=[]then t++impB else(if x.keep=[]then t else t++bsB)++(jA x.remove++simB)
def t4R(x:Rl)(t:ByteArray):ByteArray:=if x.guard=[]then t else t++(jG x.guard++barB)
def t5R(x:Rl)(t:ByteArray):ByteArray:=if x.body=[]then t++Qil else t
def t2R(x:Rl):ByteArray:=t1R x++jA x.keep
def Qhy(x:Rl):ByteArray:=t5R x (t4R x (t3R x (t2R x)))++(jG x.body++dotB)
def QdH(r:Rl):ByteArray:=if Yi (numR r)=true then QbG (Qhy (numR r))else{data:=#[]}
theorem Qga(r:Rl)(h1:r.keep.length<=100000)(h2:r.remove.length<=100000)(h3:r.guard.length<=100000)(h4:r.body.length<=100000)(hw:wG r.keep+wG r.remove+wG r.guard+wG r.body<=1000000)
  (h:AH) (hG:XE h):QT Tryz.prog 10 [r.av] h fun o h'=>o = .ret (.v (.string (QdH r)))/\h'=h:=by
 have cn:=QfZ r h1 h2 h3 h4 hw
 obtain⟨x,ex⟩:∃x,x=numR r:=⟨_,rfl⟩
 rw[<-ex]at cn
 have l1:x.keep.length<=100000:=by rw[ex];simp only[numR,QaF];exact h1
 have l2:x.remove.length<=100000:=by rw[ex];simp only[numR,QaF];exact h2
 have l3:x.guard.length<=100000:=by rw[ex];simp only[numR,QaF];exact h3
 have l4:x.body.length<=100000:=by rw[ex];simp only[numR,QaF];exact h4
 have cr:=Qic x l1 l2 l3 l4
 have exv:x.av=AV.agg [.v (.string x.name),.sl 2 (vs G.atom x.keep) none,.sl 2 (vs G.atom x.remove) none,.sl 3 (vs G.goal x.guard) none,.sl 3 (vs G.goal x.body) none,.v (.int .i64 x.vars)]:=rfl
 have erv:r.av=AV.agg [.v (.string r.name),.sl 2 (vs G.atom r.keep) none,.sl 2 (vs G.atom r.remove) none,.sl 3 (vs G.goal r.guard) none,.sl 3 (vs G.goal r.body) none,.v (.int .i64 r.vars)]:=rfl
 rw[exv,erv]at cn
 rw[exv]at cr
 rw[QdH,<-ex,erv]
 cases hr:Yi x with
 |false =>
  rw[hr]at cr
  rw[QwJ (by decide)]
  refine Qb Tryz.func10 rfl Tryz.call10 Tryz.ntmps10 Tryz.results10 (by simp) ?_
  with_reducible repeat first|(first|refine Qa fun K E hK hE=>?_|refine Qy cn ?_|refine Qy cr ?_);simp only[Qh,Qe,Qk,OpW,Q7,aop,undef,AS.ev,Qg,QX,QI,Qr,QG,QvW,AV.QuX,Qo,QD,Qv9,Qwa,QE,QA,QP,Qwb,Qwd,↓reduceIte,Qv2,Qv3,Nat.reduceAdd,Nat.reduceLT,Nat.reduceEqDiff,Qv1,Qwn,QQ,QR,Xf,QY,Q8,Yd,QvP,Qwj,QvR,Qv4,Qv8,Ya,ti25]|refine Qf fun K hK=>?_|refine Qp ?_|refine QB ?_|refine hK _ ?_;clear hK|refine Qi rfl ?_;simp only[↓reduceIte]
  simp only[QS,Qq,Qz,upd,↓reduceIte,QvV,QvZ];first|refine Qc (htake _ _) (.keep (.v _)) ⟨rfl,rfl⟩|refine Qc QwH (.keep (.v _)) ⟨rfl,rfl⟩
 |true =>
  rw[hr]at cr
  rw[QwN rfl]
  have hr':=hr
  simp only[Yi,QwQ]at hr'
  obtain⟨hpre,v1,v2,v3,v4⟩:=hr'
  have hnx:x.name.size<=140737488:=by
   rw[preR,QwQ,Qxx]at hpre
   rcases hpre.1 with e|e
   ·have:=QaW e;omega
   ·have:=(Qa6 e).2;omega
  have k1:=Qoe v1
  have k2:=Qoe v2
  have k3:=Qof v3
  have k4:=Qof v4
  obtain⟨H0,eH⟩:∃H:AH,H=h++[AB.cells 25 6 [.agg [.v (.string x.name),.sl 2 (vs G.atom x.keep) none,.sl 2 (vs G.atom x.remove) none,.sl 3 (vs G.goal x.guard) none,.sl 3 (vs G.goal x.body) none,.v (.int .i64 x.vars)]]]:=⟨_,rfl⟩
  have hl0:H0.length=h.length+1:=by rw[eH];simp
  have hi:h.length+1<(H0++[AB.dead,AB.dead]).length:=by rw[QwG,hl0];simp
  have hj:h.length+2<(H0++[AB.dead,AB.dead]).length:=by rw[QwG,hl0];simp
  have hij:h.length+1≠h.length+2:=by omega
  have g0:∀u tx,(HS (H0++[AB.dead,AB.dead]) (h.length+1) (h.length+2) u tx)[h.length]? = some (AB.cells 25 6 [.agg [.v (.string x.name),.sl 2 (vs G.atom x.keep) none,.sl 2 (vs G.atom x.remove) none,.sl 3 (vs G.goal x.guard) none,.sl 3 (vs G.goal x.body) none,.v (.int .i64 x.vars)]]):=fun u tx=>by
   rw[HS,YD _ _ (by omega) (by omega),eH];simp
  have hGs:∀u tx,XE (HS (H0++[AB.dead,AB.dead]) (h.length+1) (h.length+2) u tx):=fun u tx=>by
   have:=Qit (h:=H0) (by rw[eH];exact HasG.app hG _) [AB.dead,AB.dead] rfl u tx
   rwa [hl0]at this
  have put:=fun(l:List ByteArray) (hl:0<l.length) (hl2:l.length<=1000000) (u:Bool) (tx:ByteArray) (hs:tx.size+(catB l).size<=140737488355328)=>FunW.fn (first:=[]) (args:=[.sl 1 (QjI l) none]) (cap:=[.ptr (h.length+1) 0 0]) (Qqs hi hj hij l hl hl2 u tx hs)
  have put1:=fun(a:ByteArray) (u:Bool) (tx:ByteArray) (hs:tx.size+a.size<=140737488355328) =>
   show FunW Tryz.prog (.fn (.func 34) [] [.ptr (h.length+1) 0 0]) [.sl 1 [.v (.string a)] none] (HS (H0++[AB.dead,AB.dead]) (h.length+1) (h.length+2) u tx) (fun o h'=>o = .ret (.tup [])/\h'=HS (H0++[AB.dead,AB.dead]) (h.length+1) (h.length+2) true (tx++a))from by
    have:=put [a] (by simp) (by simp) u tx (by simp only[catB,ByteArray.append_empty];exact hs)
    simp only[catB,ByteArray.append_empty]at this
    exact this
  have put2:=fun(a b:ByteArray) (u:Bool) (tx:ByteArray) (hs:tx.size+a.size+b.size<=140737488355328) =>
   show FunW Tryz.prog (.fn (.func 34) [] [.ptr (h.length+1) 0 0]) [.sl 1 [.v (.string a),.v (.string b)] none] (HS (H0++[AB.dead,AB.dead]) (h.length+1) (h.length+2) u tx) (fun o h'=>o = .ret (.tup [])/\h'=HS (H0++[AB.dead,AB.dead]) (h.length+1) (h.length+2) true (tx++(a++b)))from by
    have:=put [a,b] (by simp) (by simp) u tx (by simp only[catB,ByteArray.append_empty,Qs];omega)
    simp only[catB,ByteArray.append_empty]at this
    exact this
  have s1:(t1R x).size<=140737492:=by rw[t1R];split <;> first|decide|(rw[Qs];have:atB.size=3:=rfl;omega)
  have s2:(t2R x).size<=2000000000:=by rw[t2R,Qs];omega
  have s3:(t3R x (t2R x)).size<=4000000000:=by
   have i1:impB.size=5:=rfl
   have i2:bsB.size=3:=rfl
   have i3:simB.size=5:=rfl
   rw[t3R];split
   ·rw[Qs];omega
   ·split <;> simp only[Qs] <;> omega
  have s4:(t4R x (t3R x (t2R x))).size<=6000000000:=by
   have i1:barB.size=3:=rfl
   rw[t4R];split
   ·omega
   ·simp only[Qs];omega
  have s5:(t5R x (t4R x (t3R x (t2R x)))).size<=7000000000:=by
   have i1:Qil.size=4:=rfl
   rw[t5R];split
   ·simp only[Qs];omega
   ·omega
  have sa:atB.size=3:=rfl
  have si:impB.size=5:=rfl
  have sb:bsB.size=3:=rfl
  have ss:simB.size=5:=rfl
  have sr:barB.size=3:=rfl
  have sd:dotB.size=1:=rfl
  have st:Qil.size=4:=rfl
  obtain⟨J,eJ⟩:∃J:Bool->ByteArray->AS->Prop,J=fun u tx s=>s.tm 1 = .ptr h.length 0 0/\s.tm 3 = .ptr (h.length+1) 0 0/\s.tm 4 = .fn (.func 34) [] [.ptr (h.length+1) 0 0]/\s.h=HS (H0++[AB.dead,AB.dead]) (h.length+1) (h.length+2) u tx:=⟨_,rfl⟩
  refine Qb Tryz.func10 rfl Tryz.call10 Tryz.ntmps10 Tryz.results10 (by simp) ?_
  iterate 17 (try (first|((first|(with_reducible (first|refine Qa fun K E hK hE=>?_|refine Qy cn ?_|refine Qy cr ?_)));simp only[Qh,Qe,Qk,OpW,Q7,aop,undef,AS.ev,Qg,QX,QI,Qr,QG,QvW,AV.QuX,Qo,QD,Qv9,Qwa,QE,QA,QM,Xi,QP,Qwb,Qwc,↓reduceIte,Qv2,Qv3,Nat.reduceAdd,Nat.reduceLT,Nat.reduceEqDiff,Qv1,Qwn,QQ,QR,Xf,QY,Q8,Yd,hlen,happ,QvP,Qwj,QvR,Qv4,Qv8,Qwh,Qwg,Ya,ti25,zi74])|(with_reducible (first|refine Qf fun K hK=>?_|refine Qw ?_|refine Qd ?_))|((with_reducible refine hK _ ?_);clear hK)|(refine Qi rfl ?_;simp only[↓reduceIte,QvT])))
  refine QaA (h.length+1) 74 5 (.pointer none) (by simp) ?_
  have e0:((h++[AB.cells 25 6 [.agg [.v (.string x.name),.sl 2 (vs G.atom x.keep) none,.sl 2 (vs G.atom x.remove) none,.sl 3 (vs G.goal x.guard) none,.sl 3 (vs G.goal x.body) none,.v (.int .i64 x.vars)]],AB.cells 74 2 [.agg [.v (.pointer none),.v (.slice none 0 0)]]])++[AB.grow 5 1 0]).set (h.length+1)
    (AB.cells 74 2 [.agg [.v (.pointer none),.sl 1 [] (some (h++[AB.cells 25 6 [.agg [.v (.string x.name),.sl 2 (vs G.atom x.keep) none,.sl 2 (vs G.atom x.remove) none,.sl 3 (vs G.goal x.guard) none,.sl 3 (vs G.goal x.body) none,.v (.int .i64 x.vars)]],AB.cells 74 2 [.agg [.v (.pointer none),.v (.slice none 0 0)]]]).length)]])=HS (H0++[AB.dead,AB.dead]) (h.length+1) (h.length+2) false .empty:=by
   rw[eH];simp[HS,hs2,bw];rfl
  rw[e0]
  refine Yt (J (!Ym x.name) (t1R x)) ?_ ?_
  rotate_left
  ·have ee:(x.name.toList==({data:=#[]}:ByteArray).toList)=Ym x.name:=rfl
   cases ce:Ym x.name
   ·rw[ce]at ee
    have p:=put2 x.name atB false .empty (by have:ByteArray.empty.size=0:=rfl;omega)
    rw[ByteArray.empty_append]at p
    with_reducible repeat first|(first|refine Qa fun K E hK hE=>?_|refine Ql fun K E hK hE=>?_|refine FunW.ret p ?_);simp only[Qh,Qe,Qk,OpW,Q7,aop,undef,AS.ev,Qg,QI,Qr,QG,AV.QuX,Qo,Q6,Qv9,Qwa,QA,Qwb,Qwd,↓reduceIte,Qv2,Qv3,Nat.reduceLT,Nat.reduceLeDiff,Nat.reduceEqDiff,Nat.reduceMul,Qv1,Qwe,Qwn,Qm,QQ,QR,aBin,QW,QvP,QvR,Qv4,Qv8,YM,QvX,rng2,Xg,Nat.reducePow,ti9,zi9,QaD,ei48,g0,ee]|refine Qd ?_|refine hK _ ?_;clear hK|refine Qi rfl ?_;simp only[↓reduceIte]
    rw[eJ,t1R,ce]
    exact⟨rfl,rfl,rfl,rfl⟩
   ·rw[ce]at ee
    with_reducible repeat first|refine Qa fun K E hK hE=>?_;simp only[Qh,Qe,Qk,OpW,aop,AS.ev,Qg,QI,Qr,Qo,Qwc,↓reduceIte,Nat.reduceLT,Nat.reduceEqDiff,Qwe,Qm,QQ,QR,aBin,QvP,QvR,YM,ti9,QaD,g0,ee]|refine Qw ?_|refine Qd ?_|refine hK _ ?_;clear hK|refine Qi rfl ?_;simp only[↓reduceIte,QvT]
    rw[eJ,t1R,ce]
    exact⟨rfl,rfl,rfl,rfl⟩
  rintro⟨tm,hp⟩ hJ
  rw[eJ]at hJ
  obtain⟨t1,t3,t4,hh⟩:=hJ
  dsimp only at t1 t3 t4 hh
  subst hh
  refine Yt (J true (t2R x)) ?_ ?_
  rotate_left
  ·have c:=Qky x.keep v1 l1 _ (hGs (!Ym x.name) (t1R x))
   have p:=put1 (jA x.keep) (!Ym x.name) (t1R x) (by omega)
   with_reducible repeat first|(first|refine Ql fun K E hK hE=>?_|refine FunW.QuW c ?_|refine FunW.ret p ?_);simp only[Qh,Qe,Qk,OpW,Q7,aop,AS.ev,Qg,Qr,AV.QuX,Qo,Q6,Qv9,Qwa,QA,Qwb,↓reduceIte,Qv2,Qv3,Nat.reduceLT,Nat.reduceLeDiff,Nat.reduceEqDiff,Nat.reduceMul,Qv1,Qwn,Qm,QQ,QR,QW,QvP,QvQ,QvR,Qv4,Qv8,QvX,rng1,Xg,Nat.reducePow,zi9,ti22,QcY,ei48,g0,t1,t4]|refine Qd ?_|refine hK _ ?_;clear hK
   rw[eJ,t2R]
   exact⟨t1,t3,t4,rfl⟩
  clear t1 t3 t4
  rintro⟨tm,hp⟩ hJ
  rw[eJ]at hJ
  obtain⟨t1,t3,t4,hh⟩:=hJ
  dsimp only at t1 t3 t4 hh
  subst hh
  refine Yt (J true (t3R x (t2R x))) ?_ ?_
  rotate_left
  ·by_cases q0:x.remove=[]
   ·have z0:((x.remove.length:Int)==0)=true:=by rw[q0];rfl
    have p:=put1 impB true (t2R x) (by omega)
    with_reducible repeat first|(first|refine Qa fun K E hK hE=>?_|refine FunW.ret p ?_);simp only[Qh,Qe,Qk,OpW,Q7,aop,AS.ev,Qg,Qu,QI,Qr,AV.QuX,Qo,Q6,Qv9,Qwa,QA,Qwb,↓reduceIte,Qv2,Qv3,Nat.reduceLT,Nat.reduceLeDiff,Nat.reduceEqDiff,Nat.reduceMul,Qv1,Qwn,Qm,QQ,QR,aBin,QW,aLen,QvP,QvQ,QvR,Qv4,Qv8,Q1,goInt,QvX,rng1,Xg,Nat.reducePow,zi9,ti22,un22,QcZ,ei48,g0,t1,t4,z0,QN]|refine Qf fun K hK=>?_|refine Qj ?_|refine Q3 ?_|refine Qd ?_|refine QV ?_|refine QU ?_|refine Zp rfl ?_|refine hK _ ?_;clear hK|clear hK;clear hK;refine hK _ ?_;clear hK|refine Qi rfl ?_;simp only[↓reduceIte]
    rw[eJ,t3R,QwN q0]
    exact⟨t1,t3,t4,rfl⟩
   ·have hq:x.remove.length≠0:=fun e=>q0 (List.length_eq_zero_iff.1 e)
    have z0:((x.remove.length:Int)==0)=false:=by simp;omega
    by_cases q1:x.keep=[]
    ·have z1:¬(x.keep.length:Int)>0:=by rw[q1];decide
     have c:=Qky x.remove v2 l2 _ (hGs true (t2R x))
     have p:=put2 (jA x.remove) simB true (t2R x) (by omega)
     with_reducible repeat first|(first|refine Qa fun K E hK hE=>?_|refine FunW.QuW c ?_|refine FunW.ret p ?_);simp only[Qh,Qe,Qk,OpW,Q7,aop,AS.ev,Qg,Qu,QI,Qr,AV.QuX,Qo,Q6,Qv9,Qwa,QA,Qwb,↓reduceIte,Qv2,Qv3,Nat.reduceLT,Nat.reduceLeDiff,Nat.reduceEqDiff,Nat.reduceMul,Qv1,Qwn,Qm,QQ,QR,aBin,QW,aLen,QvP,QvQ,QvR,Qv4,Qv8,Q1,Xw,goInt,Qwm,QvX,rng2,Xg,Nat.reducePow,zi9,ti22,un22,QcY,QcZ,ei48,g0,t1,t4,z0,z1,QN]|refine Qf fun K hK=>?_|refine Qj ?_|refine Qw ?_|refine Q3 ?_|refine Qd ?_|refine QV ?_|refine QU ?_|refine Zp rfl ?_|refine hK _ ?_;clear hK|clear hK;clear hK;refine hK _ ?_;clear hK|refine Qi rfl ?_;simp only[↓reduceIte,QvT]
     rw[eJ,t3R,QwJ q0,QwN q1]
     exact⟨t1,t3,t4,rfl⟩
    ·have hq1:x.keep.length≠0:=fun e=>q1 (List.length_eq_zero_iff.1 e)
     have z1:(x.keep.length:Int)>0:=by omega
     have p1:=put1 bsB true (t2R x) (by omega)
     have c:=Qky x.remove v2 l2 _ (hGs true (t2R x++bsB))
     have p:=put2 (jA x.remove) simB true (t2R x++bsB) (by rw[Qs];omega)
     with_reducible repeat first|(first|refine Qa fun K E hK hE=>?_|refine Ql fun K E hK hE=>?_|refine FunW.QuW c ?_|refine FunW.ret p ?_|refine FunW.ret p1 ?_);simp only[Qh,Qe,Qk,OpW,Q7,aop,AS.ev,Qg,Qu,QI,Qr,AV.QuX,Qo,Q6,Qv9,Qwa,QA,Qwb,↓reduceIte,Qv2,Qv3,Nat.reduceLT,Nat.reduceLeDiff,Nat.reduceEqDiff,Nat.reduceMul,Qv1,Qwn,Qm,QQ,QR,aBin,QW,aLen,QvP,QvQ,QvR,Qv4,Qv8,Q1,Xw,goInt,Qwl,QvX,rng1,rng2,Xg,Nat.reducePow,zi9,ti22,un22,QcY,QcZ,ei48,g0,t1,t4,z0,z1,QN]|refine Qf fun K hK=>?_|refine Qj ?_|refine Qw ?_|refine Q3 ?_|refine Qd ?_|refine QV ?_|refine Qt ?_|refine QU ?_|refine Zp rfl ?_|refine hK _ ?_;clear hK|clear hK;clear hK;refine hK _ ?_;clear hK|refine Qi rfl ?_;simp only[↓reduceIte,QvT]
     rw[eJ,t3R,QwJ q0,QwJ q1]
     exact⟨t1,t3,t4,rfl⟩
  clear t1 t3 t4
  rintro⟨tm,hp⟩ hJ
  rw[eJ]at hJ
  obtain⟨t1,t3,t4,hh⟩:=hJ
  dsimp only at t1 t3 t4 hh
  subst hh
  refine Yt (J true (t4R x (t3R x (t2R x)))) ?_ ?_
  rotate_left
  ·by_cases q0:x.guard=[]
   ·have z0:¬(x.guard.length:Int)>0:=by rw[q0];decide
    with_reducible repeat first|refine Qa fun K E hK hE=>?_;simp only[Qh,Qe,Qk,OpW,aop,AS.ev,Qg,Qu,Qr,Qo,↓reduceIte,Nat.reduceLT,Qv1,Qm,QQ,QR,aBin,aLen,QvP,QvQ,QvR,Xw,goInt,Qwm,ti23,un23,QaN,g0,t1,z0,QN]|refine Qw ?_|refine Qd ?_|refine hK _ ?_;clear hK|refine Qi rfl ?_;simp only[↓reduceIte,QvT]
    rw[eJ,t4R,QwN q0]
    exact⟨t1,t3,t4,rfl⟩
   ·have hq:x.guard.length≠0:=fun e=>q0 (List.length_eq_zero_iff.1 e)
    have z0:(x.guard.length:Int)>0:=by omega
    have c:=Qkz x.guard v3 l3 _ (hGs true (t3R x (t2R x)))
    have p:=put2 (jG x.guard) barB true (t3R x (t2R x)) (by omega)
    with_reducible repeat first|(first|refine Qa fun K E hK hE=>?_|refine Ql fun K E hK hE=>?_|refine FunW.QuW c ?_|refine FunW.ret p ?_);simp only[Qh,Qe,Qk,OpW,Q7,aop,AS.ev,Qg,Qu,QI,Qr,AV.QuX,Qo,Q6,Qv9,Qwa,QA,Qwb,↓reduceIte,Qv2,Qv3,Nat.reduceLT,Nat.reduceLeDiff,Nat.reduceEqDiff,Nat.reduceMul,Qv1,Qwn,Qm,QQ,QR,aBin,QW,aLen,QvP,QvQ,QvR,Qv4,Qv8,Xw,goInt,Qwl,QvX,rng2,Xg,Nat.reducePow,zi9,ti23,un23,QaN,ei48,g0,t1,t4,z0,QN]|refine Qd ?_|refine hK _ ?_;clear hK|refine Qi rfl ?_;simp only[↓reduceIte]
    rw[eJ,t4R,QwJ q0]
    exact⟨t1,t3,t4,rfl⟩
  clear t1 t3 t4
  rintro⟨tm,hp⟩ hJ
  rw[eJ]at hJ
  obtain⟨t1,t3,t4,hh⟩:=hJ
  dsimp only at t1 t3 t4 hh
  subst hh
  refine Yt (J true (t5R x (t4R x (t3R x (t2R x))))) ?_ ?_
  rotate_left
  ·by_cases q0:x.body=[]
   ·have z0:((x.body.length:Int)==0)=true:=by rw[q0];rfl
    have p:=put1 Qil true (t4R x (t3R x (t2R x))) (by omega)
    with_reducible repeat first|(first|refine Qa fun K E hK hE=>?_|refine Ql fun K E hK hE=>?_|refine FunW.ret p ?_);simp only[Qh,Qe,Qk,OpW,Q7,aop,AS.ev,Qg,Qu,QI,Qr,AV.QuX,Qo,Q6,Qv9,Qwa,QA,Qwb,↓reduceIte,Qv2,Qv3,Nat.reduceLT,Nat.reduceLeDiff,Nat.reduceEqDiff,Nat.reduceMul,Qv1,Qwn,Qm,QQ,QR,aBin,QW,aLen,QvP,QvQ,QvR,Qv4,Qv8,Q1,goInt,QvX,rng1,Xg,Nat.reducePow,zi9,ti23,un23,QaX,ei48,g0,t1,t4,z0,QN]|refine Qd ?_|refine hK _ ?_;clear hK|refine Qi rfl ?_;simp only[↓reduceIte]
    rw[eJ,t5R,QwN q0]
    exact⟨t1,t3,t4,rfl⟩
   ·have hq:x.body.length≠0:=fun e=>q0 (List.length_eq_zero_iff.1 e)
    have z0:((x.body.length:Int)==0)=false:=by simp;omega
    with_reducible repeat first|refine Qa fun K E hK hE=>?_;simp only[Qh,Qe,Qk,OpW,aop,AS.ev,Qg,Qu,Qr,Qo,↓reduceIte,Nat.reduceLT,Qv1,Qm,QQ,QR,aBin,aLen,QvP,QvQ,QvR,Q1,goInt,ti23,un23,QaX,g0,t1,z0,QN]|refine Qw ?_|refine Qd ?_|refine hK _ ?_;clear hK|refine Qi rfl ?_;simp only[↓reduceIte,QvT]
    rw[eJ,t5R,QwJ q0]
    exact⟨t1,t3,t4,rfl⟩
  clear t1 t3 t4
  rintro⟨tm,hp⟩ hJ
  rw[eJ]at hJ
  obtain⟨t1,t3,t4,hh⟩:=hJ
  dsimp only at t1 t3 t4 hh
  subst hh
  have c:=Qkz x.body v4 l4 _ (hGs true (t5R x (t4R x (t3R x (t2R x)))))
  have p:=put2 (jG x.body) dotB true (t5R x (t4R x (t3R x (t2R x)))) (by omega)
  have sz:(Qhy x).size<=9000000000/\0<(Qhy x).size:=by rw[Qhy,Qs,Qs];omega
  have c2:=QcP (ty:=74) (i:=h.length+1) (j:=h.length+2) hij (Qhy x) sz.2 (by omega) (H0++[AB.dead,AB.dead]) hi hj
  have e2:hs2 (H0++[AB.dead,AB.dead]) (h.length+1) (bw 74 (h.length+1) (h.length+2) true (Qhy x)) (h.length+2) .gone=h++[AB.cells 25 6 [.agg [.v (.string x.name),.sl 2 (vs G.atom x.keep) none,.sl 2 (vs G.atom x.remove) none,.sl 3 (vs G.goal x.guard) none,.sl 3 (vs G.goal x.body) none,.v (.int .i64 x.vars)]],bw 74 (h.length+1) (h.length+2) true (Qhy x),AB.gone]:=by
   rw[eH];simp[hs2]
  rw[e2,<-HS]at c2
  rw[<-Qhy]at p
  have c3:=QcN (Qhy x)
  with_reducible repeat first|(first|refine Qa fun K E hK hE=>?_|refine FunW.QuW c ?_|refine FunW.ret p ?_|refine FunW.QuW c2 ?_|refine Qy c3 ?_);simp only[Qh,Qe,Qk,OpW,Q7,aop,AS.ev,Qg,QI,Qr,AV.QuX,Qo,Q6,Qv9,Qwa,QA,Qwb,↓reduceIte,Qv2,Qv3,Nat.reduceLT,Nat.reduceLeDiff,Nat.reduceEqDiff,Nat.reduceMul,Qv1,Qwn,Qm,QQ,QR,QW,QvP,QvQ,QvR,Qv4,Qv8,QvX,rng2,Xg,Nat.reducePow,zi9,ti23,QaX,ei48,g0,t1,t3,t4]|refine Qp ?_|refine hK _ ?_;clear hK
  simp only[QS,Qq,Qz,upd,↓reduceIte,QvV,QvZ];first|refine Qc (htake _ _) (.keep (.v _)) ⟨rfl,rfl⟩|refine Qc QwH (.keep (.v _)) ⟨rfl,rfl⟩
def Qa2(l:List G):ByteArray:=if 40<l.length then{data:=#[]} else if l.all QL=true then QbG (jG l)else{data:=#[]}
theorem QgZ(l:List G)(hl:l.length<=100000)(h:AH)(hG:XE h):QT Tryz.prog 18 [.sl 3 (vs G.goal l) none] h fun o h'=>o = .ret (.v (.string (Qa2 l)))/\h'=h:=by
 by_cases q:40<l.length
 ·have z:(l.length:Int)>40:=by omega
  refine Qb Tryz.func18 rfl Tryz.call18 Tryz.ntmps18 Tryz.results18 (by simp) ?_
  with_reducible repeat first|refine Qa fun K E hK hE=>?_;simp only[Qh,Qe,Qk,OpW,aop,undef,AS.ev,Qg,Qu,QC,QI,Qr,QG,QvW,Qwc,↓reduceIte,Nat.reduceLT,Nat.reduceEqDiff,aBin,aLen,QvP,QvQ,QvR,QvU,QvS,Xw,goInt,Qwl,beq_false,un23,z,QN]|refine Qf fun K hK=>?_|refine Qp ?_|refine QB ?_|refine hK _ ?_;clear hK|refine Qi rfl ?_;simp only[↓reduceIte]
  simp only[QS,Qq,Qz,upd,↓reduceIte,QvV,QvZ];first|refine Qc (htake _ _) (.keep (.v _)) ⟨by rw[Qa2,QwN q],rfl⟩|refine Qc QwH (.keep (.v _)) ⟨by rw[Qa2,QwN q],rfl⟩
 ·have z:¬(l.length:Int)>40:=by omega
  have a:=Qfe G.goal QL (.fn (.func 61) [] []) QfF l (by omega) h (fun g _ h=>FunW.call (ZJ g h))
  cases hv:l.all QL with
  |false =>
   rw[hv]at a
   refine Qb Tryz.func18 rfl Tryz.call18 Tryz.ntmps18 Tryz.results18 (by simp) ?_
   with_reducible repeat first|(first|refine Qa fun K E hK hE=>?_|refine FunW.QuW a ?_);simp only[Qh,Qe,Qk,OpW,Q7,aop,undef,AS.ev,Qg,Qu,QI,Qr,QG,QvW,Qwd,↓reduceIte,Nat.reduceLT,Nat.reduceEqDiff,aBin,aLen,QvP,QvQ,QvR,QvU,QvS,Qv4,Qv8,Xw,Ya,goInt,Qwm,QvX,QvT,un23,z,QN]|refine Qf fun K hK=>?_|refine Qp ?_|refine QB ?_|refine hK _ ?_;clear hK|refine Qi rfl ?_;simp only[↓reduceIte]
   simp only[QS,Qq,Qz,upd,↓reduceIte,QvV,QvZ];first|refine Qc (htake _ _) (.keep (.v _)) ⟨by rw[Qa2,QwJ q,hv];rfl,rfl⟩|refine Qc QwH (.keep (.v _)) ⟨by rw[Qa2,QwJ q,hv];rfl,rfl⟩
  |true =>
   rw[hv]at a
   have c:=Qkz l hv hl h hG
   have c3:=QcN (jG l)
   refine Qb Tryz.func18 rfl Tryz.call18 Tryz.ntmps18 Tryz.results18 (by simp) ?_
   with_reducible repeat first|(first|refine Qa fun K E hK hE=>?_|refine FunW.QuW a ?_|refine FunW.QuW c ?_|refine Qy c3 ?_);simp only[Qh,Qe,Qk,OpW,Q7,aop,undef,AS.ev,Qg,Qu,QI,Qr,QG,QvW,Qwc,↓reduceIte,Nat.reduceLT,Nat.reduceEqDiff,aBin,aLen,QvP,QvQ,QvR,QvU,QvS,Qv4,Qv8,Xw,Ya,goInt,Qwm,QvX,QvT,un23,z,QN]|refine Qf fun K hK=>?_|refine Qp ?_|refine Qw ?_|refine Qd ?_|refine hK _ ?_;clear hK|refine Qi rfl ?_;simp only[↓reduceIte,QvT]
   simp only[QS,Qq,Qz,upd,↓reduceIte,QvV,QvZ];first|refine Qc (htake _ _) (.keep (.v _)) ⟨by rw[Qa2,QwJ q,QwN hv],rfl⟩|refine Qc QwH (.keep (.v _)) ⟨by rw[Qa2,QwJ q,QwN hv],rfl⟩
def QaI(d:Dc):Bool:=YF d.name&&decide (0<=d.arity/\d.arity<=6)
theorem Qkg(d:Dc):Pure Tryz.prog 54 [d.av] (.b (QaI d)):=by
 intro h
 have cn:Pure Tryz.prog 55 [.v (.string d.name)] (.b (YF d.name)):=QcL d.name
 have ed:d.av=AV.agg [.v (.string d.name),.v (.int .i64 d.arity)]:=rfl
 cases hr:YF d.name with
 |false =>
  have R:QaI d=false:=by rw[QaI,hr];rfl
  rw[hr]at cn
  refine Qb Tryz.func54 rfl Tryz.call54 Tryz.ntmps54 Tryz.results54 (by simp) ?_
  rw[ed]
  with_reducible repeat first|(first|refine Qa fun K E hK hE=>?_|refine Qy cn ?_);simp only[Qh,Qe,Qk,OpW,Q7,aop,undef,AS.ev,Qg,QC,Qr,QG,QvW,AV.QuX,Qo,Qv9,Qwa,QE,QA,Qwb,↓reduceIte,Qv2,Qv3,Nat.reduceAdd,Nat.reduceLT,Nat.reduceEqDiff,Qv1,Qwe,Qm,QQ,QR,Q8,QvP,QvQ,QvR,QvU,QvS,Qv4,Qv8,QvT,beq_true,ti9,QiQ]|refine Qp ?_|refine hK _ ?_;clear hK
  simp only[QS,Qq,Qz,upd,↓reduceIte,QvV,QvZ];first|refine Qc (htake _ _) (.keep (.v _)) ⟨by rw[R],rfl⟩|refine Qc QwH (.keep (.v _)) ⟨by rw[R],rfl⟩
 |true =>
  rw[hr]at cn
  by_cases a0:d.arity>=0
  ·by_cases a6:d.arity<=6
   ·have R:QaI d=true:=by rw[QaI,hr,Qw7 (by omega)];rfl
    refine Qb Tryz.func54 rfl Tryz.call54 Tryz.ntmps54 Tryz.results54 (by simp) ?_
    rw[ed]
    with_reducible repeat first|(first|refine Qa fun K E hK hE=>?_|refine Qy cn ?_);simp only[Qh,Qe,Qk,OpW,Q7,aop,undef,AS.ev,Qg,Qu,QC,Qr,QG,QvW,AV.QuX,Qo,Qv9,Qwa,QE,QA,Qwb,↓reduceIte,Qv2,Qv3,Nat.reduceAdd,Nat.reduceLT,Nat.reduceEqDiff,Qv1,Qwe,Qm,QQ,QR,aBin,Q8,QvP,QvQ,QvR,QvU,QvS,Qv4,Qv8,YT,Qah,Qwl,QvX,ti3,ti9,QiQ,QiR,a0,a6]|refine Qp ?_|refine hK _ ?_;clear hK
    simp only[QS,Qq,Qz,upd,↓reduceIte,QvV,QvZ];first|refine Qc (htake _ _) (.keep (.v _)) ⟨by rw[R],rfl⟩|refine Qc QwH (.keep (.v _)) ⟨by rw[R],rfl⟩
   ·have R:QaI d=false:=by rw[QaI,hr,QwY (by omega)];rfl
    refine Qb Tryz.func54 rfl Tryz.call54 Tryz.ntmps54 Tryz.results54 (by simp) ?_
    rw[ed]
    with_reducible repeat first|(first|refine Qa fun K E hK hE=>?_|refine Qy cn ?_);simp only[Qh,Qe,Qk,OpW,Q7,aop,undef,AS.ev,Qg,Qu,QC,Qr,QG,QvW,AV.QuX,Qo,Qv9,Qwa,QE,QA,Qwb,↓reduceIte,Qv2,Qv3,Nat.reduceAdd,Nat.reduceLT,Nat.reduceEqDiff,Qv1,Qwe,Qm,QQ,QR,aBin,Q8,QvP,QvQ,QvR,QvU,QvS,Qv4,Qv8,YT,Qah,Qwl,Qwm,QvX,ti3,ti9,QiQ,QiR,a0,a6]|refine Qp ?_|refine hK _ ?_;clear hK
    simp only[QS,Qq,Qz,upd,↓reduceIte,QvV,QvZ];first|refine Qc (htake _ _) (.keep (.v _)) ⟨by rw[R],rfl⟩|refine Qc QwH (.keep (.v _)) ⟨by rw[R],rfl⟩
  ·have R:QaI d=false:=by rw[QaI,hr,QwY (by omega)];rfl
   refine Qb Tryz.func54 rfl Tryz.call54 Tryz.ntmps54 Tryz.results54 (by simp) ?_
   rw[ed]
   with_reducible repeat first|(first|refine Qa fun K E hK hE=>?_|refine Qy cn ?_);simp only[Qh,Qe,Qk,OpW,Q7,aop,undef,AS.ev,Qg,Qu,QC,Qr,QG,QvW,AV.QuX,Qo,Qv9,Qwa,QE,QA,Qwb,↓reduceIte,Qv2,Qv3,Nat.reduceAdd,Nat.reduceLT,Nat.reduceEqDiff,Qv1,Qwe,Qm,QQ,QR,aBin,Q8,QvP,QvQ,QvR,QvU,QvS,Qv4,Qv8,Qah,Qwm,QvX,QvT,beq_true,ti3,ti9,QiQ,QiR,a0]|refine Qp ?_|refine hK _ ?_;clear hK
   simp only[QS,Qq,Qz,upd,↓reduceIte,QvV,QvZ];first|refine Qc (htake _ _) (.keep (.v _)) ⟨by rw[R],rfl⟩|refine Qc QwH (.keep (.v _)) ⟨by rw[R],rfl⟩
abbrev slB:ByteArray:={data:=#[47]}
def txtD(d:Dc):ByteArray:=(d.name++slB)++decZ d.arity
theorem QhF(d:Dc)(hn:d.name.size<=1000)(ha:0<=d.arity/\d.arity<=6)(h:AH)(hG:XE h):QT Tryz.prog 57 [d.av] h fun o h'=>o = .ret (.v (.string (txtD d)))/\h'=h:=by
 have ed:d.av=AV.agg [.v (.string d.name),.v (.int .i64 d.arity)]:=rfl
 have c:=Qg2 d.arity (by omega) (by omega) (h++[.cells 38 2 [.agg [.v (.string d.name),.v (.int .i64 d.arity)]]]) (hG.app _)
 have ss:slB.size=1:=rfl
 have hz:=Qfw d.arity (by omega) (by omega)
 have hsa1:=fun xo yo=>QaL Tryz.prog 9 xo yo d.name slB (by omega)
 have hsa2:=fun xo yo=>QaL Tryz.prog 9 xo yo (d.name++slB) (decZ d.arity) (by rw[Qs];omega)
 refine Qb Tryz.func57 rfl Tryz.call57 Tryz.ntmps57 Tryz.results57 (by simp) ?_
 rw[ed]
 repeat first|(first|with_reducible (first|refine Qa fun K E hK hE=>?_|refine Xl (FunW.call c) (QfJ _) ?_)|refine QH (id:=1) [(0,0),(1,0),(2,0),(3,0),(4,0),(5,3),(6,0),(7,0)] mixed (by kernel_rfl) fun K hK=>?_);simp only[XQ,Xz,Yo,Qh,Qe,Qk,OpW,aop,undef,AS.ev,Qg,QI,Qr,QG,QvW,AV.QuX,Qo,Qv9,Qwa,QE,QA,Qwb,↓reduceIte,Qv2,Qv3,Nat.reduceAdd,Nat.reduceLT,Nat.reduceLeDiff,Nat.reduceEqDiff,Qv1,Qwe,Qm,QQ,QR,aBin,Q8,QvP,QvQ,QvR,QvS,Qv4,Qv8,ti3,ti9,QiQ,QiR,hsa1,hsa2]|with_reducible (first|refine Qp ?_|refine hK _ ?_;clear hK)
 simp only[QS,Qq,Qz,upd,↓reduceIte,QvV,QvZ];first|refine Qc (htake _ _) (.keep (.v _)) ⟨rfl,rfl⟩|refine Qc QwH (.keep (.v _)) ⟨rfl,rfl⟩
theorem QnP(d:Dc):d.av.isAgg=true/\d.av.cells.length=2/\d.av.cells.all AV.cell1=true:=⟨rfl,rfl,rfl⟩
abbrev conB:ByteArray:={data:=#[99,111,110,115,116,114,97,105,110,116,32]}
abbrev endB:ByteArray:={data:=#[46,10]}
abbrev nlB:ByteArray:={data:=#[10]}
def jD(l:List Dc):ByteArray:=X1 true (l.map txtD)
theorem Qps{d:Dc}(h:QaI d=true):1<=(txtD d).size/\(txtD d).size<=15000:=by
 rw[QaI,QwQ,Qw1]at h
 have hn:=Qa6 h.1
 have hz:=Qfw d.arity (by omega) (by omega)
 have ss:slB.size=1:=rfl
 rw[txtD,Qs,Qs]
 omega
theorem QrM{l:List Dc}(hv:l.all QaI=true):(jD l).size<=15002 * l.length:=(QbC txtD l fun x hx=>Qps (Qxc.1 hv x hx)).1
theorem QrL(l:List Dc)(hv:l.all QaI=true)(hl:l.length<=100000)(h:AH)(hG:XE h) :
  QT Tryz.prog 56 [.sl 2 (vs Dc.av l) none,.fn (.func 57) [] []] h fun o h'=>o = .ret (.v (.string (jD l)))/\h'=h:=by
 cases l with
 |nil=>exact QkB _ h
 |cons x l =>
  have hj:=QbC txtD (x::l) fun x hx=>Qps (Qxc.1 hv x hx)
  refine Qi5 Dc.av txtD _ QnP (x::l) (by simp) (by omega) h hG (fun d hd h hG=>FunW.call (QhF d ?_ ?_ h hG)) (hj.2 (by simp)) (by omega)
  all_goals
   have hr:=Qxc.1 hv d hd
   rw[QaI,QwQ,Qw1]at hr
  ·have:=(Qa6 hr.1).2;omega
  ·exact hr.2
def QhE(l:List Dc):ByteArray:=if l=[]then .empty else(conB++jD l)++endB
def Qg7:List Rl->ByteArray
 |[]=>.empty
 |r::l=>(QdH r++nlB)++Qg7 l
def Qcx(l:List Rl):Bool:=l.all fun r=>!Ym (QdH r)
def Qc9(p:Pg):ByteArray:=if 30<p.decls.length\/40<p.rules.length then{data:=#[]} else if p.decls.all QaI=true then(if Qcx p.rules=true then QbG (QhE p.decls++Qg7 p.rules)else{data:=#[]})else{data:=#[]}
def Rl.fits(r:Rl):Prop:=r.keep.length<=100000/\r.remove.length<=100000/\r.guard.length<=100000/\r.body.length<=100000/\wG r.keep+wG r.remove+wG r.guard+wG r.body<=1000000
theorem QmX(r:Rl):(QdH r).size<=16384:=by
 rw[QdH]
 split
 ·rw[QbG];split
  ·decide
  ·omega
 ·decide
theorem Qr7(r:Rl):r.av.isAgg=true/\r.av.cells.length=6/\r.av.cells.all AV.cell1=true:=⟨rfl,rfl,rfl⟩
theorem Qju(p:Pg)(hd:p.decls.length<=100000)(hr:p.rules.length<=100000)(hf:∀r∈p.rules,r.fits)(h:AH)(hG:XE h) :
  QT Tryz.prog 16 [p.av] h fun o h'=>o = .ret (.v (.string (Qc9 p)))/\h'=h:=by
 have epv:p.av=AV.agg [.sl 2 (vs Dc.av p.decls) none,.sl 6 (vs Rl.av p.rules) none]:=rfl
 rw[epv]
 by_cases q1:30<p.decls.length
 ·have z1:(p.decls.length:Int)>30:=by omega
  refine Qb Tryz.func16 rfl Tryz.call16 Tryz.ntmps16 Tryz.results16 (by simp) ?_
  with_reducible repeat first|refine Qa fun K E hK hE=>?_;simp only[Qh,Qe,Qk,OpW,aop,undef,AS.ev,Qg,Qu,QC,QI,Qr,QG,QvW,AV.QuX,Qo,Qv9,Qwa,QP,Qwb,Qwc,↓reduceIte,Qv2,Qv3,Nat.reduceAdd,Nat.reduceLT,Nat.reduceEqDiff,Qv1,Qwe,Qm,QQ,QR,aBin,aLen,Q8,QvP,QvQ,QvR,QvU,QvS,Xw,goInt,Qwl,beq_false,ti33,un33,Qes,z1,QN]|refine Qf fun K hK=>?_|refine Qp ?_|refine QB ?_|refine hK _ ?_;clear hK|refine Qi rfl ?_;simp only[↓reduceIte]
  simp only[QS,Qq,Qz,upd,↓reduceIte,QvV,QvZ];first|refine Qc (htake _ _) (.keep (.v _)) ⟨by rw[Qc9,QwN (.inl q1)],rfl⟩|refine Qc QwH (.keep (.v _)) ⟨by rw[Qc9,QwN (.inl q1)],rfl⟩
 have z1:¬(p.decls.length:Int)>30:=by omega
 by_cases q2:40<p.rules.length
 ·have z2:(p.rules.length:Int)>40:=by omega
  refine Qb Tryz.func16 rfl Tryz.call16 Tryz.ntmps16 Tryz.results16 (by simp) ?_
  with_reducible repeat first|refine Qa fun K E hK hE=>?_;simp only[Qh,Qe,Qk,OpW,aop,undef,AS.ev,Qg,Qu,QI,Qr,QG,QvW,AV.QuX,Qo,Qv9,Qwa,QP,Qwb,↓reduceIte,Qv2,Qv3,Nat.reduceAdd,Nat.reduceLT,Nat.reduceEqDiff,Qv1,Qwe,Qm,QQ,QR,aBin,aLen,Q8,QvP,QvQ,QvR,QvU,QvS,Xw,goInt,Qwl,Qwm,QvX,QvT,ti27,un27,ti33,un33,Qes,QgW,z1,z2,QN]|refine Qf fun K hK=>?_|refine Qp ?_|refine QB ?_|refine hK _ ?_;clear hK|refine Qi rfl ?_;simp only[↓reduceIte]
  simp only[QS,Qq,Qz,upd,↓reduceIte,QvV,QvZ];first|refine Qc (htake _ _) (.keep (.v _)) ⟨by rw[Qc9,QwN (.inr q2)],rfl⟩|refine Qc QwH (.keep (.v _)) ⟨by rw[Qc9,QwN (.inr q2)],rfl⟩
 have z2:¬(p.rules.length:Int)>40:=by omega
 have hno:¬(30<p.decls.length\/40<p.rules.length):=by omega
 have a:=Qnm Dc.av QaI (.fn (.func 54) [] []) QnP p.decls (by omega) (h++[AB.cells 35 2 [.agg [.sl 2 (vs Dc.av p.decls) none,.sl 6 (vs Rl.av p.rules) none]]]) (fun d _ h=>FunW.call (Qkg d h))
 cases hv:p.decls.all QaI with
 |false =>
  rw[hv]at a
  refine Qb Tryz.func16 rfl Tryz.call16 Tryz.ntmps16 Tryz.results16 (by simp) ?_
  with_reducible repeat first|(first|refine Qa fun K E hK hE=>?_|refine FunW.QuW a ?_);simp only[Qh,Qe,Qk,OpW,Q7,aop,undef,AS.ev,Qg,Qu,QI,Qr,QG,QvW,AV.QuX,Qo,Qv9,Qwa,QP,Qwb,Qwd,↓reduceIte,Qv2,Qv3,Nat.reduceAdd,Nat.reduceLT,Nat.reduceEqDiff,Qv1,Qwe,Qm,QQ,QR,aBin,aLen,Q8,QvP,QvQ,QvR,QvU,QvS,Qv4,Qv8,Xw,Ya,goInt,Qwm,QvX,QvT,ti27,un27,ti33,un33,Qes,QgW,z1,z2,QN]|refine Qf fun K hK=>?_|refine Qp ?_|refine Qw ?_|refine Qd ?_|refine QB ?_|refine hK _ ?_;clear hK|refine Qi rfl ?_;simp only[↓reduceIte,QvT]
  simp only[QS,Qq,Qz,upd,↓reduceIte,QvV,QvZ];first|refine Qc (htake _ _) (.keep (.v _)) ⟨by rw[Qc9,QwJ hno,hv];rfl,rfl⟩|refine Qc QwH (.keep (.v _)) ⟨by rw[Qc9,QwJ hno,hv];rfl,rfl⟩
 |true =>
 rw[hv]at a
 by_cases q3:p.decls=[]/\p.rules=[]
 ·obtain⟨e1,e2⟩:=q3
  have R:Qc9 p={data:=#[]}:=by rw[Qc9,QwJ hno,QwN hv,e1,e2];rfl
  rw[e1,e2]at a ⊢
  have c:=QbX (ty:=74) (i:=h.length+1) (h++[AB.cells 35 2 [.agg [.sl 2 (vs Dc.av []) none,.sl 6 (vs Rl.av []) none]],AB.dead]) (by simp)
  have e:hs (h++[AB.cells 35 2 [.agg [.sl 2 (vs Dc.av []) none,.sl 6 (vs Rl.av []) none]],AB.dead]) (h.length+1) (bw00 74)=h++[AB.cells 35 2 [.agg [.sl 2 (vs Dc.av []) none,.sl 6 (vs Rl.av []) none]],bw00 74]:=by simp[hs]
  rw[e,bw00]at c
  simp only[Qrc]at a c
  have c3:=QcN .empty
  have y1:¬((0:Int)>30):=by decide
  have y2:¬((0:Int)>40):=by decide
  have y3:¬((0:Int)>0):=by decide
  have y4:¬((0:Int)<0):=by decide
  rw[R]
  refine Qb Tryz.func16 rfl Tryz.call16 Tryz.ntmps16 Tryz.results16 (by simp) ?_
  with_reducible repeat first|(first|refine Qa fun K E hK hE=>?_|refine FunW.QuW a ?_);simp only[Qh,Qe,Qk,OpW,Q7,aop,undef,AS.ev,Qg,Qu,QI,Qr,QG,QvW,AV.QuX,Qo,Qv9,Qwa,QM,Xi,QP,Qwb,Qwc,↓reduceIte,Qv2,Qv3,Nat.reduceAdd,Nat.reduceLT,Nat.reduceEqDiff,Qv1,Qwe,Qm,QQ,QR,aBin,aLen,Q8,hlen,happ,QvP,QvQ,QvR,QvU,QvS,Qv4,Qv8,Qwh,Qwg,Xw,Ya,goInt,Qwm,QvX,QwB,QvT,ti27,un27,ti33,un33,Qes,QgW,zi74,y1,y2,y3,Qrc]|refine Qf fun K hK=>?_|refine Qj ?_|refine Qw ?_|refine Qd ?_|refine hK _ ?_;clear hK|refine Qi rfl ?_;simp only[↓reduceIte,QvT]
  obtain⟨I,hI⟩:∃I:Nat->AS->Prop,I=fun m' s=>m'=0/\s.tm 3 = .ptr (h.length+1) 0 0/\s.tm 33 = .i 0/\s.tm 34 = .i 0/\s.h=h++[AB.cells 35 2 [.agg [.sl 2 [] none,.sl 6 [] none]],.cells 74 2 [.agg [.v (.pointer none),.v (.slice none 0 0)]]]:=⟨_,rfl⟩;refine QZ I ?_ (m:=0) ?_
  ·intro m' s hs;rw[hI]at hs;obtain⟨tm,hp⟩:=s;dsimp only at hs;obtain⟨rfl,t3,t33,t34,rfl⟩:=hs
   with_reducible repeat first|(first|refine Qa fun K E hK hE=>?_|refine FunW.QuW c ?_|refine Qy c3 ?_);simp only[Qh,Qe,Qk,OpW,Q7,aop,AS.ev,Qg,Qr,↓reduceIte,Nat.reduceLT,Nat.reduceEqDiff,aBin,QvR,Qv4,Qv8,Q5,Qwm,t3,t33,t34,y4]|refine Qf fun K hK=>?_|refine Qp ?_|refine Q3 ?_|refine Qd ?_|refine QV ?_|refine QU ?_|refine hK _ ?_;clear hK|clear hK;refine hK _ ?_;clear hK|refine Qi rfl ?_;simp only[↓reduceIte,QvT]
   simp only[QS,Qq,Qz,upd,↓reduceIte,QvV,QvZ];first|refine Qc (htake _ _) (.keep (.v _)) ⟨rfl,rfl⟩|refine Qc QwH (.keep (.v _)) ⟨rfl,rfl⟩
  ·rw[hI]
   exact⟨rfl,rfl,rfl,rfl,rfl⟩
 ·have k1:=QrM hv
  have hb1:conB.size=11:=rfl
  have hb2:endB.size=2:=rfl
  have hb3:nlB.size=1:=rfl
  have s1:(QhE p.decls).size<=2000000000:=by
   rw[QhE];split
   ·decide
   ·simp only[Qs];omega
  obtain⟨H0,eH⟩:∃H:AH,H=h++[AB.cells 35 2 [.agg [.sl 2 (vs Dc.av p.decls) none,.sl 6 (vs Rl.av p.rules) none]]]:=⟨_,rfl⟩
  have hl0:H0.length=h.length+1:=by rw[eH];simp
  have hi:h.length+1<(H0++[AB.dead,AB.dead]).length:=by rw[QwG,hl0];simp
  have hj:h.length+2<(H0++[AB.dead,AB.dead]).length:=by rw[QwG,hl0];simp
  have hle:(H0++[AB.dead,AB.dead]).length=h.length+3:=by rw[QwG,hl0];rfl
  have hij:h.length+1≠h.length+2:=by omega
  have g0:∀u tx,(HS (H0++[AB.dead,AB.dead]) (h.length+1) (h.length+2) u tx)[h.length]? = some (AB.cells 35 2 [.agg [.sl 2 (vs Dc.av p.decls) none,.sl 6 (vs Rl.av p.rules) none]]):=fun u tx=>by
   rw[HS,YD _ _ (by omega) (by omega),eH];simp
  have hGs:∀u tx,XE (HS (H0++[AB.dead,AB.dead]) (h.length+1) (h.length+2) u tx):=fun u tx=>by
   have:=Qit (h:=H0) (by rw[eH];exact HasG.app hG _) [AB.dead,AB.dead] rfl u tx
   rwa [hl0]at this
  obtain⟨u1,eu⟩:∃u:Bool,u=!decide (p.decls=[]):=⟨_,rfl⟩
  refine Qb Tryz.func16 rfl Tryz.call16 Tryz.ntmps16 Tryz.results16 (by simp) ?_
  iterate 19 (try (first|((first|(with_reducible (first|refine Qa fun K E hK hE=>?_|refine FunW.QuW a ?_)));simp only[Qh,Qe,Qk,OpW,Q7,aop,undef,AS.ev,Qg,Qu,QI,Qr,QG,QvW,AV.QuX,Qo,Qv9,Qwa,QM,Xi,QP,Qwb,Qwc,↓reduceIte,Qv2,Qv3,Nat.reduceAdd,Nat.reduceLT,Nat.reduceEqDiff,Qv1,Qwe,Qm,QQ,QR,aBin,aLen,Q8,hlen,happ,QvP,QvQ,QvR,QvU,QvS,Qv4,Qv8,Qwh,Qwg,Xw,Ya,goInt,Qwm,QvX,QvT,ti27,un27,ti33,un33,Qes,QgW,zi74,z1,z2,QN])|(with_reducible (first|refine Qf fun K hK=>?_|refine Qw ?_|refine Qd ?_))|((with_reducible refine hK _ ?_);clear hK)|(refine Qi rfl ?_;simp only[↓reduceIte,QvT])))
  refine QaA (h.length+1) 74 5 (.pointer none) (by simp) ?_
  have e0:((h++[AB.cells 35 2 [.agg [.sl 2 (vs Dc.av p.decls) none,.sl 6 (vs Rl.av p.rules) none]],AB.cells 74 2 [.agg [.v (.pointer none),.v (.slice none 0 0)]]])++[AB.grow 5 1 0]).set (h.length+1)
    (AB.cells 74 2 [.agg [.v (.pointer none),.sl 1 [] (some (h++[AB.cells 35 2 [.agg [.sl 2 (vs Dc.av p.decls) none,.sl 6 (vs Rl.av p.rules) none]],AB.cells 74 2 [.agg [.v (.pointer none),.v (.slice none 0 0)]]]).length)]])=HS (H0++[AB.dead,AB.dead]) (h.length+1) (h.length+2) false .empty:=by
   rw[eH];simp[HS,hs2,bw];rfl
  rw[e0]
  refine Yt (fun s=>s.tm 1 = .ptr h.length 0 0/\s.tm 3 = .ptr (h.length+1) 0 0/\s.h=HS (H0++[AB.dead,AB.dead]) (h.length+1) (h.length+2) u1 (QhE p.decls)) ?_ ?_
  rotate_left
  ·by_cases q0:p.decls=[]
   ·have z0:¬(p.decls.length:Int)>0:=by rw[q0];decide
    have eu1:u1=false:=by rw[eu,Qw7 q0];rfl
    with_reducible repeat first|refine Qa fun K E hK hE=>?_;simp only[Qh,Qe,Qk,OpW,aop,AS.ev,Qg,Qu,Qr,Qo,↓reduceIte,Nat.reduceLT,Nat.reduceEqDiff,Qwe,Qm,QQ,QR,aBin,aLen,QvP,QvR,Xw,goInt,Qwm,ti33,un33,Qes,g0,z0,QN]|refine Qw ?_|refine Qd ?_|refine hK _ ?_;clear hK|refine Qi rfl ?_;simp only[↓reduceIte,QvT]
    rw[eu1,QhE,QwN q0]
    exact⟨rfl,rfl,rfl⟩
   ·have hq:p.decls.length≠0:=fun e=>q0 (List.length_eq_zero_iff.1 e)
    have z0:(p.decls.length:Int)>0:=by omega
    have eu1:u1=true:=by rw[eu,QwY q0];rfl
    have c:=QrL p.decls hv hd _ (hGs false .empty)
    have hsa1:=fun xo yo=>QaL Tryz.prog 9 xo yo conB (jD p.decls) (by omega)
    have hsa2:=fun xo yo=>QaL Tryz.prog 9 xo yo (conB++jD p.decls) endB (by rw[Qs];omega)
    have w:=sstr hi hj hij false .empty ((conB++jD p.decls)++endB) (by simp only[Qs];have:ByteArray.empty.size=0:=rfl;omega)
    rw[ByteArray.empty_append]at w
    with_reducible repeat first|(first|refine Qa fun K E hK hE=>?_|refine Ql fun K E hK hE=>?_|refine FunW.QuW c ?_|refine FunW.QuW w ?_);simp only[Qh,Qe,Qk,OpW,Q7,aop,AS.ev,Qg,Qu,QI,Qr,Qo,↓reduceIte,Nat.reduceLT,Nat.reduceEqDiff,Qwe,Qm,QQ,QR,aBin,aLen,QvP,QvR,Qv4,Qv8,Xw,goInt,Qwl,ti33,un33,Qes,g0,z0,QN,hsa1,hsa2]|refine Qd ?_|refine hK _ ?_;clear hK|refine Qi rfl ?_;simp only[↓reduceIte]
    rw[eu1,QhE,QwJ q0]
    exact⟨rfl,rfl,rfl⟩
  rintro⟨tm,hp⟩ ⟨t1,t3,hh⟩
  dsimp only at t1 t3 hh
  subst hh
  have f1:=fun u tx=>(Qk6 (H0++[AB.dead,AB.dead]) (h.length+1) (h.length+2) u tx).trans hle
  have f3:∀u tx L k,(HS (H0++[AB.dead,AB.dead]) (h.length+1) (h.length+2) u tx++L)[h.length+3+k]? = L[k]? := fun u tx L k=>by rw[<-hle];exact Qk7 _ _ _ u tx L k
  have f2:∀u tx L,(HS (H0++[AB.dead,AB.dead]) (h.length+1) (h.length+2) u tx++L)[h.length+3]? = L[0]? := fun u tx L=>f3 u tx L 0
  have f5:∀u tx z L k,(HS (H0++[AB.dead,AB.dead]) (h.length+1) (h.length+2) u tx++L).set (h.length+3+k) z=HS (H0++[AB.dead,AB.dead]) (h.length+1) (h.length+2) u tx++L.set k z:=fun u tx z L k=>by rw[<-hle];exact Qho _ _ _ u tx z L k
  have f4:∀u tx z L,(HS (H0++[AB.dead,AB.dead]) (h.length+1) (h.length+2) u tx++L).set (h.length+3) z=HS (H0++[AB.dead,AB.dead]) (h.length+1) (h.length+2) u tx++L.set 0 z:=fun u tx z L=>f5 u tx z L 0
  have gapp:=fun u tx L=>Qk5 (h:=H0++[AB.dead,AB.dead]) (i:=h.length+1) (j:=h.length+2) hi hj u tx L
  have htk:∀u tx L,(HS (H0++[AB.dead,AB.dead]) (h.length+1) (h.length+2) u tx++L)=h++([AB.cells 35 2 [.agg [.sl 2 (vs Dc.av p.decls) none,.sl 6 (vs Rl.av p.rules) none]],bw 74 (h.length+1) (h.length+2) u tx,AB.grow 5 1 tx.size]++L):=fun u tx L=>by
   rw[<-QwM];congr 1;rw[eH];simp[HS,hs2]
  with_reducible repeat first|refine Qa fun K E hK hE=>?_;simp only[Qh,Qe,Qk,OpW,aop,AS.ev,Qg,Qu,Qr,Qo,↓reduceIte,Nat.reduceLT,Qv1,Qm,QQ,QR,aLen,QvP,QvQ,QvR,goInt,ti27,un27,QgW,g0,t1,QN]|refine Qf fun K hK=>?_|refine Qj ?_|refine hK _ ?_;clear hK
  obtain⟨I,hI⟩:∃I:Nat->AS->Prop,I=fun m' s=>∃(k:Nat) (cur:ByteArray),m'=p.rules.length - k/\k<=p.rules.length/\cur++Qg7 (p.rules.drop k)=QhE p.decls++Qg7 p.rules/\Qcx p.rules=Qcx (p.rules.drop k)/\cur.size<=2000000000+16385 * k/\((u1||decide (0<k))=true->0<cur.size)/\s.tm 3 = .ptr (h.length+1) 0 0/\s.tm 32 = .sl 6 (vs Rl.av p.rules) none/\s.tm 33 = .i p.rules.length/\s.tm 34 = .i k/\(∃L,s.h=HS (H0++[AB.dead,AB.dead]) (h.length+1) (h.length+2) (u1||decide (0<k)) cur++L):=⟨_,rfl⟩;refine QZ I ?_ (m:=p.rules.length) ?_
  ·intro m' s hs;rw[hI]at hs;obtain⟨tm,hp⟩:=s;dsimp only at hs;obtain⟨k,cur,rfl,hk,he,hal,hcs,hcu,t3,t32,t33,t34,L,rfl⟩:=hs
   by_cases hlt:k<p.rules.length
   ·have hg:=QaK Rl.av hlt
    have y1:(k:Int)<p.rules.length:=by omega
    obtain⟨hag,hcl,hc1⟩:=Qr7 p.rules[k]
    obtain⟨b1,b2,b3,b4,b5⟩:=hf p.rules[k] (Qxk hlt)
    have c:=Qga p.rules[k] b1 b2 b3 b4 b5 (HS (H0++[AB.dead,AB.dead]) (h.length+1) (h.length+2) (u1||decide (0<k)) cur++(L++[AB.cells 25 6 [(p.rules[k]).av]])) (HasG.app (hGs _ _) _)
    have hsz:=QmX p.rules[k]
    have hd1:p.rules.drop k=p.rules[k]::p.rules.drop (k+1):=QwU hlt
    rw[hd1]at he hal
    rw[Qg7]at he
    simp only[Qcx,Qv9]at hal
    have ee:((QdH p.rules[k]).toList==({data:=#[]}:ByteArray).toList)=Ym (QdH p.rules[k]):=rfl
    cases ce:Ym (QdH p.rules[k])
    ·rw[ce]at ee hal
     have glen:h.length+1<(H0++[AB.dead,AB.dead]++(L++[AB.cells 25 6 [(p.rules[k]).av]])).length/\h.length+2<(H0++[AB.dead,AB.dead]++(L++[AB.cells 25 6 [(p.rules[k]).av]])).length:=by rw[QwG];omega
     have w:=sstr glen.1 glen.2 hij (u1||decide (0<k)) cur (QdH p.rules[k]++nlB) (by rw[Qs];omega)
     rw[gapp,gapp]at w
     have hsa:=fun xo yo=>QaL Tryz.prog 9 xo yo (QdH p.rules[k]) nlB (by omega)
     with_reducible repeat first|(first|refine Qa fun K E hK hE=>?_|refine Ql fun K E hK hE=>?_|refine FunW.QuW c ?_|refine FunW.QuW w ?_);simp only[Qh,Qe,Qk,OpW,Q7,aop,undef,AS.ev,Qg,QX,Qu,QI,Qr,AV.QuX,Qo,QD,Qv9,Qwa,QE,QA,QM,Qwb,↓reduceIte,Qv2,Qv3,Nat.reduceAdd,Nat.reduceLT,Nat.reduceEqDiff,Qv1,Qwn,QQ,QR,Xf,QY,QJ,aBin,Q8,Yd,hlen,happ,QvP,Qwj,QvR,Qv4,Qv8,Q5,Yc,Xv,Qwl,Qws,Qwr,ti25,zi25,ei27,t3,t32,t33,t34,y1,hg,hag,hcl,hc1,f1,f3,f5,QN,ee,hsa]|refine Qf fun K hK=>?_|refine Qj ?_|refine Qw ?_|refine Qd ?_|refine Qt ?_|refine hK _ ?_;clear hK|refine Qi rfl ?_;simp only[↓reduceIte,QvT]
     refine Xo.mk (m':=p.rules.length - (k+1)) (by omega) ?_
     rw[hI]
     refine⟨k+1,cur++(QdH p.rules[k]++nlB),rfl,hlt,by rw[ByteArray.append_assoc];exact he,by rw[Qcx,hal];rfl,by rw[Qs,Qs];omega,fun _=>by rw[Qs,Qs];omega,t3,t32,t33,?_,_,by rw[Qw7 (Nat.succ_pos k),QxN]⟩
     simp only[upd,↓reduceIte]
     rw[Xe (by omega)]
    ·rw[ce]at ee hal
     have R:Qc9 p={data:=#[]}:=by
      rw[Qc9,QwJ hno,QwN hv,QwJ]
      rw[Qcx,hal];simp
     with_reducible repeat first|(first|refine Qa fun K E hK hE=>?_|refine FunW.QuW c ?_);simp only[Qh,Qe,Qk,OpW,Q7,aop,undef,AS.ev,Qg,QX,QI,Qr,AV.QuX,Qo,QD,Qv9,Qwa,QE,QA,QM,Qwb,↓reduceIte,Qv2,Qv3,Nat.reduceAdd,Nat.reduceLT,Nat.reduceEqDiff,Qv1,Qwn,QQ,QR,Xf,QY,QJ,aBin,Q8,Yd,hlen,happ,QvP,Qwj,QvR,Qv4,Qv8,Q5,Xv,Qwl,Qws,Qwr,ti25,zi25,ei27,t32,t33,t34,y1,hg,hag,hcl,hc1,f1,f3,f5,QN,ee]|refine Qf fun K hK=>?_|refine Qj ?_|refine Qp ?_|refine Qw ?_|refine Qd ?_|refine QB ?_|refine QF ?_|refine hK _ ?_;clear hK|refine Qi rfl ?_;simp only[↓reduceIte]
     simp only[htk]
     simp only[QS,Qq,Qz,upd,↓reduceIte,QvV,QvZ];first|refine Qc (htake _ _) (.keep (.v _)) ⟨by rw[R],rfl⟩|refine Qc QwH (.keep (.v _)) ⟨by rw[R],rfl⟩
   ·have hkn:k=p.rules.length:=by omega
    subst hkn
    have y1:¬((p.rules.length:Nat):Int)<p.rules.length:=by omega
    rw[Qxb]at he hal
    rw[Qg7,ByteArray.append_empty]at he
    have hu:(u1||decide (0<p.rules.length))=true:=by
     rw[eu]
     by_cases q0:p.decls=[]
     ·have:p.rules.length≠0:=fun e=>q3 ⟨q0,List.length_eq_zero_iff.1 e⟩
      rw[Qw7 (show 0<p.rules.length by omega),QxN]
     ·rw[QwY q0];rfl
    rw[hu]
    have h0:=hcu hu
    have c:=(QcP (ty:=74) (i:=h.length+1) (j:=h.length+2) hij cur h0 (by omega)).app (h:=H0++[AB.dead,AB.dead]) hi hj L
    rw[<-HS]at c
    have e2:hs2 (H0++[AB.dead,AB.dead]) (h.length+1) (bw 74 (h.length+1) (h.length+2) true cur) (h.length+2) .gone++L=h++([AB.cells 35 2 [.agg [.sl 2 (vs Dc.av p.decls) none,.sl 6 (vs Rl.av p.rules) none]],bw 74 (h.length+1) (h.length+2) true cur,AB.gone]++L):=by
     rw[<-QwM];congr 1;rw[eH];simp[hs2]
    rw[e2]at c
    have c3:=QcN cur
    have R:Qc9 p=QbG cur:=by
     rw[Qc9,QwJ hno,QwN hv,QwN (by rw[hal];rfl),he]
    with_reducible repeat first|(first|refine Qa fun K E hK hE=>?_|refine FunW.QuW c ?_|refine Qy c3 ?_);simp only[Qh,Qe,Qk,OpW,Q7,aop,AS.ev,Qg,Qr,↓reduceIte,Nat.reduceLT,Nat.reduceEqDiff,aBin,QvR,Qv4,Qv8,Qwh,Qwg,Q5,Qwm,t3,t33,t34,y1]|refine Qf fun K hK=>?_|refine Qp ?_|refine Q3 ?_|refine Qd ?_|refine QV ?_|refine QU ?_|refine hK _ ?_;clear hK|clear hK;refine hK _ ?_;clear hK|refine Qi rfl ?_;simp only[↓reduceIte,QvT]
    simp only[QS,Qq,Qz,upd,↓reduceIte,QvV,QvZ];first|refine Qc (htake _ _) (.keep (.v _)) ⟨by rw[R],rfl⟩|refine Qc QwH (.keep (.v _)) ⟨by rw[R],rfl⟩
  ·rw[hI]
   refine⟨0,QhE p.decls,rfl,by omega,rfl,rfl,by omega,fun hu=>?_,t3,rfl,rfl,rfl,[],by rw[QwY (Nat.lt_irrefl 0),QxO,Qwi]⟩
   rw[QwY (Nat.lt_irrefl 0),QxO,eu]at hu
   rw[QhE,QwJ (by simpa using hu),Qs,Qs]
   omega
abbrev leqB:ByteArray:={data:=#[108,101,113]}
def vT(i:Int):T:=.mk 1 i {data:=#[]} []
def leqG(x y:Int):G:=⟨0,leqB,[vT x,vT y]⟩
def exR:Rl:=⟨{data:=#[]},[],[leqG 3 4,leqG 4 3],[],[⟨3,{data:=#[]},[vT 3,vT 4]⟩],0⟩
def exP:Pg:=⟨[⟨leqB,2⟩],[exR]⟩
def exN:Rl:=⟨{data:=#[]},[],[],[],[],0⟩
theorem QsG:numR exR=⟨{data:=#[]},[],[leqG 0 1,leqG 1 0],[],[⟨3,{data:=#[]},[vT 0,vT 1]⟩],2⟩:=by kernel_rfl
theorem Qru:QdH exN={data:=#[]}:=by kernel_rfl
theorem Qrw:QdH exR={data:=#[108,101,113,40,86,48,44,32,86,49,41,44,32,108,101,113,40,86,49,44,32,86,48,41,32,60,61,62,32,86,48,32,61,32,86,49,46]}:=by kernel_rfl
theorem Qrv:Qc9 exP={data:=#[99,111,110,115,116,114,97,105,110,116,32,108,101,113,47,50,46,10,108,101,113,40,86,48,44,32,86,49,41,44,32,108,101,113,40,86,49,44,32,86,48,41,32,60,61,62,32,86,48,32,61,32,86,49,46,10]}:=by kernel_rfl
theorem QpV:Qa2 exR.body={data:=#[86,51,32,61,32,86,52]}:=by kernel_rfl
theorem Qe5(i:Int):Pure Tryz.prog 32 [.i i] (vT i).av:=by
 intro h
 refine Qb Tryz.func32 rfl Tryz.call32 Tryz.ntmps32 Tryz.results32 (by simp) ?_
 with_reducible repeat first|refine Qa fun K E hK hE=>?_;simp only[Qh,Qe,Qk,OpW,aop,undef,AS.ev,Qg,QX,Qu,Qr,QG,QvW,AV.QuX,Qo,Q6,QD,Qv9,Qwa,QE,QA,QM,Qwb,↓reduceIte,Qv2,Qv3,Nat.reduceAdd,Nat.reduceLT,Nat.reduceLeDiff,Nat.reduceEqDiff,Qv1,Qwn,Xf,QY,Zs,ZR,Q8,Yd,QvP,QvQ,Qwj,QvR,Qv4,Qv8,Qwh,Qwg,Qv0,Qv7,QvY,Qv6,ti69,zi69,sp69]|refine Qp ?_|refine hK _ ?_;clear hK
 simp only[Qr,Qo,QD,↓reduceIte,Qv2,Qv3,Nat.reduceAdd,Nat.reduceEqDiff,Qv1,Qwn,Q8,QvP,QvV,ti69,QQ,QR,Q8,QS,Qq,Qz,QvZ]
 refine Qc (r':=(vT i).av) (htake _ _) ?_ ⟨rfl,rfl⟩
 exact .agg rfl (QhO (.keep (.v _)) (QhO (.keep (.v _)) (QhO (.keep (.v _)) (QrC (.nil 4)))))
theorem Qlz(x y:Int):Pure Tryz.prog 31 [.i x,.i y] (leqG x y).atom:=by
 intro h
 have c1:=Qe5 x
 have c2:=Qe5 y
 refine Qb Tryz.func31 rfl Tryz.call31 Tryz.ntmps31 Tryz.results31 (by simp) ?_
 with_reducible repeat first|(first|refine Qa fun K E hK hE=>?_|refine Qy c1 ?_|refine Qy c2 ?_);simp only[Qh,Qe,Qk,OpW,Q7,aop,undef,AS.ev,Qg,QX,QI,Qr,QG,QvW,Qwf,AV.QuX,Qo,Q6,XV,QD,Qv9,Qwa,QE,QA,QM,QP,Qwb,↓reduceIte,Qv2,Qv3,Nat.reduceAdd,Nat.reduceLT,Nat.reduceLeDiff,Nat.reduceEqDiff,Nat.reduceMul,Qv1,Qwn,Xf,QY,Zs,ZR,QW,Q8,Yd,QvP,QvQ,Qwj,QvR,Qv4,Qv8,Qwh,Qwg,Qwi,Qv0,Qv7,QvY,Qv6,QvX,rng2,Xg,Nat.reducePow,T.QuV,ei44,ti66,zi66,sp66,zi69,T.QuV]|refine Qp ?_|refine hK _ ?_;clear hK
 simp only[Qr,Qo,QD,↓reduceIte,Qv2,Qv3,Nat.reduceAdd,Nat.reduceEqDiff,Qv1,Qwn,Q8,QvP,QvV,ti66,QQ,QR,Q8,QS,Qq,Qz,QvZ]
 refine Qc (r':=(leqG x y).atom) (htake _ _) ?_ ⟨rfl,rfl⟩
 exact .keep (.agg _ (QbJ _ (leqG x y)))
theorem Qrt:WkL (flat [.agg [.v (.string {data:=#[]}),.v (.slice none 0 0),.sl 2 [(leqG 3 4).atom,(leqG 4 3).atom] none,.v (.slice none 0 0),.sl 3 [.agg [.i 3,.v (.string {data:=#[]}),.sl 4 [(vT 3).av,(vT 4).av] none]] none,.i 0]]) (flat [exR.av]) :=
 .cons (.refl _) (.cons (.nilS 2) (.cons (.refl _) (.cons (.nilS 3) (.cons (.refl _) (.cons (.refl _) .nil)))))
theorem Qlj:exR.fits:=by refine⟨?_,?_,?_,?_,?_⟩ <;> decide
theorem QpU:exN.fits:=by refine⟨?_,?_,?_,?_,?_⟩ <;> decide
theorem Qer(h:AH)(hG:XE h):QT Tryz.prog 9 [] h fun o h'=>o = .ret (.b true)/\h'=h:=by
 have v3:=Qe5 3
 have v4:=Qe5 4
 have q1:=Qlz 3 4
 have q2:=Qlz 4 3
 obtain⟨a1,a2,a3,a4,a5⟩:=Qlj
 obtain⟨b1,b2,b3,b4,b5⟩:=QpU
 have cn:=QfZ exR a1 a2 a3 a4 a5
 rw[QsG]at cn
 have c1:=fun L=>Qga exR a1 a2 a3 a4 a5 (h++L) (hG.app L)
 have c2:=fun L=>Qmg (args:=[.agg [.v (.string {data:=#[]}),.v (.slice none 0 0),.v (.slice none 0 0),.v (.slice none 0 0),.v (.slice none 0 0),.i 0]]) (.cons (.agg (.cons (.refl _) (.cons (.nilS 2) (.cons (.nilS 2) (.cons (.nilS 3) (.cons (.nilS 3) (.cons (.refl _) .nil))))))) .nil) (Qga exN b1 b2 b3 b4 b5 (h++L) (hG.app L))
 have c3:∀L,QT Tryz.prog 16 [.agg [.sl 2 [.agg [.v (.string leqB),.i 2]] none,.sl 6 [exR.av] none]] (h++L) fun o h'=>o = .ret (.v (.string (Qc9 exP)))/\h'=h++L :=
  fun L=>Qju exP (by decide) (by decide) (by intro r hr;rw[QxG.1 hr];exact Qlj) (h++L) (hG.app L)
 have c4:=fun L=>QgZ exR.body a4 (h++L) (hG.app L)
 rw[Qrw]at c1
 rw[Qru]at c2
 rw[Qrv]at c3
 rw[QpV]at c4
 refine Qb Tryz.func9 rfl Tryz.call9 Tryz.ntmps9 Tryz.results9 (by simp) ?_
 iterate 8 (try (first|((first|(with_reducible (first|refine Qa fun K E hK hE=>?_|refine Qy v3 ?_|refine Qy v4 ?_|refine Qy q1 ?_|refine Qy q2 ?_)));simp only[Qh,Qe,Qk,OpW,Q7,aop,undef,AS.ev,Qg,QX,Qu,QC,Qr,QG,AV.QuX,Qo,Q6,XV,QD,Qv9,Qwa,QE,QA,QM,QP,Qwb,↓reduceIte,Qv2,Qv3,Nat.reduceAdd,Nat.reduceLT,Nat.reduceLeDiff,Nat.reduceEqDiff,Nat.reduceMul,Qv1,Qwn,Xf,QY,Zs,ZR,QW,Q8,Yd,QvP,QvQ,Qwj,QvR,Qv4,Qv8,Qwh,Qwg,Qwi,Qv0,Qv7,QvY,Qv6,QvX,rng1,rng2,Xg,Nat.reducePow,T.QuV,ei22,ei23,ti25,zi25,sp25,ei44,zi53,sp53,zi66,zi69,T.QuV,ZX])|((with_reducible refine hK _ ?_);clear hK)))
 refine Qgv h.length 25 6 _ [exR.av] (by simp only[Q8,QvP]) (by intro x hx;simp at hx;subst hx;rfl) Qrt ?_
 simp only[Yd,Qwj]
 clear v3 v4 q1 q2
 iterate 5 (try (first|((first|(with_reducible (first|refine Qa fun K E hK hE=>?_|refine Qy cn ?_)));simp only[Qh,Qe,Qk,OpW,Q7,aop,undef,AS.ev,Qg,QX,Qu,QI,Qr,QG,AV.QuX,Qo,Q6,XV,QD,Qv9,Qwa,QE,QA,QM,QP,Qwb,↓reduceIte,Qv2,Qv3,Nat.reduceAdd,Nat.reduceLT,Nat.reduceLeDiff,Nat.reduceEqDiff,Nat.reduceMul,Qv1,Qwn,QQ,QR,Xf,QY,Zs,ZR,QW,Q8,hget,hset,hlen,happ,QvP,QvQ,Qwj,Qwk,QvR,Qv4,Qv8,Qwh,Qwg,Qwi,Qv0,Qv7,QvY,Qv6,QvX,rng1,Xg,Nat.reducePow,ti25,zi25,ei27,ei33,ti35,zi35,sp35,zi38,sp38,Rl.cells,Rl.isAgg])|((with_reducible refine hK _ ?_);clear hK)))
 have z2:((2:Int)==2)=true:=by decide
 have z2':(((2:Nat):Int)==2)=true:=by decide
 (with_reducible refine Qa fun K E hK hE=>?_)
 (try simp only[Qwq]);refine XC 4 (fun K1 hK1=>?_);simp only[Qe,Qk,OpW,aop,AS.ev,Qg,Qr,↓reduceIte,Qv2,Qv3,Nat.reduceAdd,Nat.reduceLT,Nat.reduceEqDiff,Qv1,Qwn,QQ,QR,Q8,QvP,QvR,Qv4,Qv8,Qv0,Qv7,ti25,Rl.cells,Rl.isAgg];(repeat ((((with_reducible refine FunW.QuW (c1 _) ?_));simp only[Qh,Qe,Qk,OpW,Q7,aop,AS.ev,Qg,QI,Qr,↓reduceIte,Nat.reduceLT,aBin,QvR,Xv,QvX])));refine hK1 _ ?_;clear hK1
 (try simp only[QvY,Qv6]);refine XC 5 (fun K1 hK1=>?_);simp only[Qh,Qe,Qk,OpW,aop,AS.ev,Qg,Qu,Qr,↓reduceIte,Nat.reduceLT,Nat.reduceEqDiff,Qv1,Qm,QQ,QR,aBin,hget,QvP,QvQ,QvR,QvU,QvS,Qv0,Qv7,Q1,QvX,ti3,QqU,Rl.cells];refine hK1 _ ?_;clear hK1
 (try simp only[QvY,Qv6]);refine XC 5 (fun K1 hK1=>?_);simp only[Qh,Qe,Qk,OpW,aop,AS.ev,Qg,Qu,Qr,↓reduceIte,Qv2,Qv3,Nat.reduceAdd,Nat.reduceLT,Nat.reduceEqDiff,Qv1,Qm,QQ,QR,aBin,aLen,hget,QvP,QvQ,QvR,QvU,QvS,Qv0,Qv7,Q1,goInt,QvX,ti22,un22,QcZ,Rl.cells,QN,z2'];refine hK1 _ ?_;clear hK1
 (try simp only[QvY,Qv6]);refine XC 5 (fun K1 hK1=>?_);simp only[Qe,Qk,OpW,aop,AS.ev,Qg,Qr,Qo,QD,↓reduceIte,Qv2,Qv3,Nat.reduceAdd,Nat.reduceLT,Nat.reduceEqDiff,Qv1,Qwn,QQ,QR,hget,QvP,QvQ,QvR,QvU,QvS,Qv4,Qv8,Qv0,Qv7,QvX,ti35];(repeat ((((with_reducible refine FunW.QuW (c3 _) ?_));simp only[Qh,Qe,Qk,OpW,Q7,aop,AS.ev,Qg,QI,Qr,↓reduceIte,Nat.reduceLT,Nat.reduceEqDiff,aBin,QvP,QvQ,QvR,QvU,QvS,Xv,QvX])));refine hK1 _ ?_;clear hK1
 (try simp only[QvY,Qv6]);refine XC 6 (fun K1 hK1=>?_);simp only[Qe,Qk,OpW,aop,AS.ev,Qg,Qr,↓reduceIte,Nat.reduceLT,Nat.reduceEqDiff,Qv1,Qm,QQ,QR,Q8,QvP,QvQ,QvR,QvU,QvS,Qv4,Qv8,Qv0,Qv7,QvX,ti23,QaX,Rl.cells];(repeat ((((with_reducible refine FunW.QuW (c4 _) ?_));simp only[Qh,Qe,Qk,OpW,Q7,aop,AS.ev,Qg,QI,Qr,↓reduceIte,Nat.reduceLT,Nat.reduceEqDiff,aBin,QvP,QvQ,QvR,QvU,QvS,Xv,QvX])));refine hK1 _ ?_;clear hK1
 (try simp only[QvY,Qv6])
 simp only[Qe,Qk,OpW,aop,undef,AS.ev,Qg,Qr,QG,AV.QuX,Qo,QD,Qv9,Qwa,QE,QA,QM,Qwb,↓reduceIte,Nat.reduceLT,Nat.reduceEqDiff,Qwn,Zs,ZR,QvP,QvQ,QvR,QvU,QvS,Qv4,Qv8,QvX,zi25,sp25]
 with_reducible repeat first|refine FunW.QuW (c2 _) ?_;simp only[Qh,Qe,Qk,OpW,Q7,aop,AS.ev,Qg,QI,Qr,↓reduceIte,Nat.reduceLT,Nat.reduceEqDiff,aBin,QvP,QvQ,QvR,QvU,QvS,Xv,QvX]|refine Qp ?_|refine hK _ ?_;clear hK
 simp only[QS,Qq,Qz,upd,↓reduceIte,QvV,QvZ]
 exact Qc (htake _ _) (.keep (.v _)) ⟨rfl,rfl⟩
def i64(n:Int):Prop := -9223372036854775808<=n/\n<=9223372036854775807
mutual
def T.ok:T->Prop
 | .mk k i n l=>i64 k/\i64 i/\n.size<=9223372036854775807/\oks l
def oks:List T->Prop
 |[]=>True
 |t::l=>t.ok/\oks l
end
theorem T.ok_eq(t:T):t.ok↔i64 t.kind/\i64 t.int/\t.name.size<=9223372036854775807/\oks t.args:=by cases t;simp only[T.ok,T.kind,T.int,T.name,T.args]
theorem QoD:∀{l:List T} {k:Nat} (h:k<l.length),oks l->(l[k]).ok
 |t::l,0,_,h=>h.1
 |t::l,k+1,h,ho=>QoD (l:=l) (by simpa using h) ho.2
theorem QoV(P:Program)(t:TypeId)(xo yo:Operand)(a:Int):pv P (do eqGuard .quo t xo yo (.int .i64 a) (.int .i64 8);binOp .quo t (.int .i64 a) (.int .i64 8))=some (.int .i64 (IntKind.i64.wrap (a.tdiv 8))):=rfl
def weighs(w:List T->Int->Int):List T->Int->Int
 |[],n=>n
 |t::l,n=>if n<0 then n else weighs w l (w t.args (n - 1 - (t.name.size / 8:Nat)))
def weigh:Nat->List T->Int->Int
 |0,_,_ => -1
 |d+1,l,n=>if (l.length:Int)>n then -1 else weighs (weigh d) l n
theorem QeE(w:List T->Int->Int)(hw:∀l n,-1<=w l n/\(w l n<=n\/w l n = -1)):∀(l:List T) (n:Int),-1<=n -> -1<=weighs w l n/\weighs w l n<=n
 |[],n,h=>⟨h,Int.le_refl _⟩
 |t::l,n,h=>by
  simp only[weighs]
  split
  ·exact⟨h,Int.le_refl _⟩
  ·obtain⟨h1,h2⟩:=hw t.args (n - 1 - (t.name.size / 8:Nat))
   obtain⟨h3,h4⟩:=QeE w hw l _ h1
   refine⟨h3,?_⟩
   omega
theorem Qb1:∀(d:Nat) (l:List T) (n:Int),-1<=weigh d l n/\(weigh d l n<=n\/weigh d l n = -1)
 |0,l,n=>⟨Int.le_refl _,.inr rfl⟩
 |d+1,l,n=>by
  simp only[weigh]
  split
  ·exact⟨Int.le_refl _,.inr rfl⟩
  ·obtain⟨h1,h2⟩:=QeE (weigh d) (Qb1 d) l n (by omega)
   exact⟨h1,.inl h2⟩
theorem Qhm(w:List T->Int->Int)(hb:∀l n,-1<=w l n)(hw:∀l n,0<=w l n->(ndsL l:Int)+w l n<=n):∀(l:List T) (n:Int),0<=weighs w l n->(ndsL l:Int)+weighs w l n<=n
 |[],n,h=>by simp[weighs,ndsL]
 |t::l,n,h=>by
  simp only[weighs]at h ⊢
  split at h
  ·omega
  ·rename_i hn
   rw[QwJ hn]
   have h1:=Qhm w hb hw l _ h
   have h2:=hw t.args (n - 1 - (t.name.size / 8:Nat)) (by
    rcases Int.lt_or_le (w t.args (n - 1 - (t.name.size / 8:Nat))) 0 with h0|h0
    ·exfalso
     have:weighs w l (w t.args (n - 1 - (t.name.size / 8:Nat)))=w t.args (n - 1 - (t.name.size / 8:Nat)):=by
      cases l with
      |nil=>rfl
      |cons a l=>simp only[weighs,QwN h0]
     omega
    ·exact h0)
   have h3:=T.Qu6 t
   simp only[ndsL]
   omega
theorem QjU:∀(d:Nat) (l:List T) (n:Int),0<=weigh d l n->(ndsL l:Int)+weigh d l n<=n
 |0,l,n,h=>by simp only[weigh]at h;omega
 |d+1,l,n,h=>by
  simp only[weigh]at h ⊢
  split at h
  ·omega
  ·rename_i hn
   rw[QwJ hn]
   exact Qhm (weigh d) (fun l n=>(Qb1 d l n).1) (QjU d) l n h
theorem Qk2(w:List T->Int->Int){r:List T}{n:Int}(h:n<0):weighs w r n=n:=by
 cases r with
 |nil=>rfl
 |cons a r=>simp only[weighs,QwN h]
theorem Qhl:∀(d:Nat),d<=64->∀(l:List T) (n:Int),oks l -> -2305843009213693952<=n->n<=1000000->Pure Tryz.prog 52 [.sl 4 (avs l) none,.i n,.i d] (.i (weigh d l n))
 |0,_,l,n,ho,hn1,hn2=>by
  intro h
  refine Qb Tryz.func52 rfl Tryz.call52 Tryz.ntmps52 Tryz.results52 (by simp) ?_
  with_reducible repeat first|refine Qa fun K E hK hE=>?_;simp only[Qh,Qe,Qk,OpW,aop,undef,AS.ev,Qg,Qu,QC,Qr,QG,QvW,Qwf,Qwc,↓reduceIte,Nat.reduceLT,Nat.reduceEqDiff,aBin,QvP,QvQ,QvR,QvU,QvS,Q1,QvX,QwB,beq_false]|refine Qf fun K hK=>?_|refine Qp ?_|refine QB ?_|refine hK _ ?_;clear hK|refine Qi rfl ?_;simp only[↓reduceIte]
  simp only[QS,Qq,Qz,upd,↓reduceIte,QvV,QvZ];first|refine Qc (htake _ _) (.keep (.v _)) ⟨rfl,rfl⟩|refine Qc QwH (.keep (.v _)) ⟨rfl,rfl⟩
 |d+1,hd,l,n,ho,hn1,hn2=>by
  intro h
  have hd0:(((d+1:Nat):Int)==0)=false:=by rw[QxU];omega
  have hwd:IntKind.i64.wrap (((d+1:Nat):Int) - 1)=(d:Int):=by rw[Yg (by omega)];omega
  by_cases hc:(l.length:Int)>n
  ·refine Qb Tryz.func52 rfl Tryz.call52 Tryz.ntmps52 Tryz.results52 (by simp) ?_
   with_reducible repeat first|refine Qa fun K E hK hE=>?_;simp only[Qh,Qe,Qk,OpW,aop,undef,AS.ev,Qg,Qu,Qr,QG,QvW,Qwf,↓reduceIte,Nat.reduceLT,Nat.reduceEqDiff,aBin,aLen,QvP,QvQ,QvR,QvU,QvS,Q1,Xw,goInt,Qwl,QvX,QvT,QK,un44,hd0,hc]|refine Qf fun K hK=>?_|refine Qp ?_|refine QB ?_|refine hK _ ?_;clear hK|refine Qi rfl ?_;simp only[↓reduceIte]
   simp only[QS,Qq,Qz,upd,↓reduceIte,QvV,QvZ];first|refine Qc (htake _ _) (.keep (.v _)) ⟨by simp only[weigh,QwN hc],rfl⟩|refine Qc QwH (.keep (.v _)) ⟨by simp only[weigh,QwN hc],rfl⟩
  ·have hw:weigh (d+1) l n=weighs (weigh d) l n:=by simp only[weigh,QwJ hc]
   refine Qb Tryz.func52 rfl Tryz.call52 Tryz.ntmps52 Tryz.results52 (by simp) ?_
   with_reducible repeat first|refine Qa fun K E hK hE=>?_;simp only[Qh,Qe,Qk,OpW,aop,undef,AS.ev,Qg,Qu,Qr,QG,QvW,Qwf,↓reduceIte,Nat.reduceLT,Nat.reduceEqDiff,aBin,aLen,QvP,QvQ,QvR,QvU,QvS,Q1,Xw,goInt,Qwm,QvX,QvT,QK,un44,hd0,hc]|refine Qf fun K hK=>?_|refine Qj ?_|refine Qw ?_|refine Qd ?_|refine hK _ ?_;clear hK|refine Qi rfl ?_;simp only[↓reduceIte,QvT]
   obtain⟨I,hI⟩:∃I:Nat->AS->Prop,I=fun m' s=>∃(j:Nat) (a:Int),m'=l.length - j/\j<=l.length /\ -1<=a/\a<=n/\weighs (weigh d) l n=weighs (weigh d) (l.drop j) a/\s.tm 0 = .sl 4 (avs l) none/\s.tm 1 = .i a/\s.tm 2 = .i ((d+1:Nat):Int)/\s.tm 7 = .i j/\s.h=h:=⟨_,rfl⟩;refine QZ I ?_ (m:=l.length) ?_
   ·intro m' s hs;rw[hI]at hs;obtain⟨tm,hp⟩:=s;dsimp only at hs;obtain⟨j,a,rfl,hj,ha1,ha2,he,t0,t1,t2,t7,rfl⟩:=hs
    by_cases hlt:j<l.length
    ·rw[QwU hlt]at he
     by_cases ha:a>=0
     ·obtain⟨o1,o2,o3,o4⟩:=(T.ok_eq _).1 (QoD hlt ho)
      simp only[weighs,QwJ (show ¬a<0 by omega)]at he
      have hq:((l[j].name.size:Int)).tdiv 8=((l[j].name.size / 8:Nat):Int):=by
       rw[Int.tdiv_eq_ediv_of_nonneg (by omega)];omega
      have hw1:IntKind.i64.wrap (a - 1)=a - 1:=Yg (by omega)
      have hw2:IntKind.i64.wrap (((l[j].name.size / 8:Nat):Int))=((l[j].name.size / 8:Nat):Int):=Yg (by omega)
      have hw3:IntKind.i64.wrap (a - 1 - ((l[j].name.size / 8:Nat):Int))=a - 1 - ((l[j].name.size / 8:Nat):Int):=Yg (by omega)
      have hr:=Qhl d (by omega) l[j].args (a - 1 - ((l[j].name.size / 8:Nat):Int)) o4 (by omega) (by omega)
      have hrb:=Qb1 d l[j].args (a - 1 - ((l[j].name.size / 8:Nat):Int))
      have hsl:=fun s=>ZU Tryz.prog 9 3 (by kernel_rfl) s
      repeat first|(first|with_reducible (first|refine Qa fun K E hK hE=>?_|refine Ql fun K E hK hE=>?_|refine QO hr ?_)|refine Xu (id:=6) [(0,0),(1,0),(2,0),(3,0),(4,0),(5,0),(6,0),(7,0),(8,0),(9,0),(10,0),(11,0),(12,0),(13,0),(14,0),(15,0),(16,0),(17,1),(18,0)] mixed (by kernel_rfl) fun K hK=>?_);simp only[XQ,Xz,Yo,Qh,Qe,Qk,OpW,aop,AS.ev,Qg,Qu,Qr,↓reduceIte,Nat.reduceLT,Nat.reduceLeDiff,Nat.reduceEqDiff,Qv1,Qwn,Qm,QQ,QR,QJ,aBin,aLen,QvP,QvQ,QvR,QvU,QvS,Qv4,Qv8,Q5,Qah,Yc,Zi,goInt,Qwl,QvX,Qws,Qwr,QwD,T.QuV,QK,ti9,ti44,ei44,un44,Yx,Yh,t0,t1,t2,t7,hlt,ha,Qaa hlt,hsl,QoV,hq,hw1,hw2,hw3,hwd]|with_reducible (first|refine Qf fun K hK=>?_|refine Qj ?_|refine Qw ?_|refine Qd ?_|refine Qt ?_|refine hK _ ?_;clear hK|refine Qi rfl ?_;simp only[↓reduceIte])
      refine Xo.mk (m':=l.length - (j+1)) (by omega) ?_
      rw[hI]
      refine⟨j+1,_,rfl,hlt,?_,?_,he,t0,rfl,t2,?_,rfl⟩
      ·exact hrb.1
      ·omega
      ·simp only[upd,↓reduceIte]
       rw[Xe (by omega)]
     ·have he2:weigh (d+1) l n=a:=by rw[hw,he,Qk2 _ (by omega)]
      with_reducible repeat first|refine Qa fun K E hK hE=>?_;simp only[Qh,Qe,Qk,OpW,aop,AS.ev,Qg,Qu,Qr,↓reduceIte,Nat.reduceLT,Nat.reduceEqDiff,aBin,aLen,QvP,QvQ,QvR,QvU,QvS,Q5,Qah,goInt,Qwl,Qwm,QvX,QwD,QK,un44,t0,t1,t7,hlt,ha]|refine Qf fun K hK=>?_|refine Qp ?_|refine Q3 ?_|refine Qd ?_|refine QV ?_|refine QU ?_|refine hK _ ?_;clear hK|clear hK;refine hK _ ?_;clear hK|refine Qi rfl ?_;simp only[↓reduceIte,QvT]
      simp only[QS,Qq,Qz,upd,↓reduceIte,QvV,QvZ]
      exact Qc QwH (.keep (.v _)) ⟨by rw[he2],rfl⟩
    ·have hjl:j=l.length:=by omega
     have he2:weigh (d+1) l n=a:=by rw[hw,he,hjl,Qxb];rfl
     with_reducible repeat first|refine Qa fun K E hK hE=>?_;simp only[Qh,Qe,Qk,OpW,aop,undef,AS.ev,Qg,QC,Qr,↓reduceIte,Nat.reduceLT,Nat.reduceEqDiff,aBin,aLen,QvP,QvQ,QvR,QvU,QvS,Q5,goInt,Qwm,QwD,QvT,beq_true,QK,un44,t0,t1,t7,hlt]|refine Qf fun K hK=>?_|refine Qp ?_|refine Q3 ?_|refine Qd ?_|refine QV ?_|refine QU ?_|refine hK _ ?_;clear hK|clear hK;refine hK _ ?_;clear hK|refine Qi rfl ?_;simp only[↓reduceIte,QvT]
     simp only[QS,Qq,Qz,upd,↓reduceIte,QvV,QvZ]
     exact Qc QwH (.keep (.v _)) ⟨by rw[he2],rfl⟩
   ·rw[hI]
    exact⟨0,n,by omega,Qw3 _,by omega,Int.le_refl _,by rw[Qv6],rfl,rfl,rfl,rfl,rfl⟩
def G.ok(g:G):Prop:=i64 g.op/\g.name.size<=9223372036854775807/\oks g.args
def QbH:List G->Int->Int
 |[],n=>n
 |g::l,n=>if n<0 then n else QbH l (weigh 64 g.args (n - 1 - (g.name.size / 8:Nat)))
def ndsG:List G->Nat
 |[]=>0
 |g::l=>ndsL g.args+ndsG l
theorem QjT:∀(l:List G) (n:Int),0<=QbH l n->(ndsG l:Int)<=n
 |[],n,h=>by simpa [QbH,ndsG]using h
 |g::l,n,h=>by
  simp only[QbH]at h
  split at h
  ·omega
  ·have h1:=QjT l _ h
   have h2:=QjU 64 g.args (n - 1 - (g.name.size / 8:Nat)) (by omega)
   simp only[ndsG]
   omega
theorem Qk1{l:List G}{n:Int}(h:n<0):QbH l n=n:=by
 cases l with
 |nil=>rfl
 |cons g l=>simp only[QbH,QwN h]
theorem QfH(l:List G)(n:Int)(ho:∀g∈l,g.ok)(hb:l.length<=9223372036854775807)(hn1 : -1<=n)(hn2:n<=1000000):Pure Tryz.prog 15 [.sl 3 (vs G.goal l) none,.i n] (.b (decide (QbH l n<0))):=by
 intro h
 refine Qb Tryz.func15 rfl Tryz.call15 Tryz.ntmps15 Tryz.results15 (by simp) ?_
 with_reducible repeat first|refine Qa fun K E hK hE=>?_;simp only[Qh,Qe,Qk,OpW,aop,AS.ev,Qg,Qu,QC,Nat.reduceLT]|refine Qf fun K hK=>?_|refine Qj ?_|refine hK _ ?_;clear hK
 obtain⟨I,hI⟩:∃I:Nat->AS->Prop,I=fun m' s=>∃(j:Nat) (a:Int),m'=l.length - j/\j<=l.length /\ -1<=a/\a<=n/\QbH l n=QbH (l.drop j) a/\s.tm 0 = .sl 3 (vs G.goal l) none/\s.tm 1 = .i a/\s.tm 5 = .i j/\s.h=h:=⟨_,rfl⟩;refine QZ I ?_ (m:=l.length) ?_
 ·intro m' s hs;rw[hI]at hs;obtain⟨tm,hp⟩:=s;dsimp only at hs;obtain⟨j,a,rfl,hj,ha1,ha2,he,t0,t1,t5,rfl⟩:=hs
  by_cases hlt:j<l.length
  ·rw[QwU hlt]at he
   by_cases ha:a>=0
   ·obtain⟨_,o3,o4⟩:=ho _ (Qxk hlt)
    simp only[QbH,QwJ (show ¬a<0 by omega)]at he
    have hq:((l[j].name.size:Int)).tdiv 8=((l[j].name.size / 8:Nat):Int):=by
     rw[Int.tdiv_eq_ediv_of_nonneg (by omega)];omega
    have hw1:IntKind.i64.wrap (a - 1)=a - 1:=Yg (by omega)
    have hw2:IntKind.i64.wrap (((l[j].name.size / 8:Nat):Int))=((l[j].name.size / 8:Nat):Int):=Yg (by omega)
    have hw3:IntKind.i64.wrap (a - 1 - ((l[j].name.size / 8:Nat):Int))=a - 1 - ((l[j].name.size / 8:Nat):Int):=Yg (by omega)
    have hr:=Qhl 64 (by omega) l[j].args (a - 1 - ((l[j].name.size / 8:Nat):Int)) o4 (by omega) (by omega)
    have hrb:=Qb1 64 l[j].args (a - 1 - ((l[j].name.size / 8:Nat):Int))
    have hsl:=fun s=>ZU Tryz.prog 9 3 (by kernel_rfl) s
    have h64:((64:Nat):Int)=64:=rfl
    rw[h64]at hr
    repeat first|(first|with_reducible (first|refine Qa fun K E hK hE=>?_|refine Ql fun K E hK hE=>?_|refine QO hr ?_)|refine Xu (id:=4) [(0,0),(1,0),(2,0),(3,0),(4,0),(5,0),(6,0),(7,0),(8,0),(9,0),(10,0),(11,0),(12,0),(13,0),(14,0),(15,1),(16,0)] mixed (by kernel_rfl) fun K hK=>?_);simp only[XQ,Xz,Yo,Qh,Qe,Qk,OpW,aop,AS.ev,Qg,Qu,Qr,Qo,↓reduceIte,Nat.reduceLT,Nat.reduceLeDiff,Nat.reduceEqDiff,Qv1,Qwn,Qm,QQ,QR,QJ,aBin,aLen,QvP,QvQ,QvR,QvU,QvS,Qv4,Qv8,Q5,Qah,Yc,Zi,goInt,Qwl,QvX,Qws,Qwr,QwD,ti9,ei23,un23,ti44,QaY,ZC,t0,t1,t5,hlt,ha,QN,QaK G.goal hlt,G.goal,hsl,QoV,hq,hw1,hw2,hw3]|with_reducible (first|refine Qf fun K hK=>?_|refine Qj ?_|refine Qw ?_|refine Qd ?_|refine Qt ?_|refine hK _ ?_;clear hK|refine Qi rfl ?_;simp only[↓reduceIte])
    refine Xo.mk (m':=l.length - (j+1)) (by omega) ?_
    rw[hI]
    refine⟨j+1,_,rfl,hlt,?_,?_,he,t0,rfl,?_,rfl⟩
    ·exact hrb.1
    ·omega
    ·simp only[upd,↓reduceIte]
     rw[Xe (by omega)]
   ·have he2:QbH l n=a:=by rw[he,Qk1 (by omega)]
    with_reducible repeat first|refine Qa fun K E hK hE=>?_;simp only[Qh,Qe,Qk,OpW,aop,AS.ev,Qg,Qu,Qr,↓reduceIte,Nat.reduceLT,Nat.reduceEqDiff,aBin,aLen,QvP,QvQ,QvR,QvU,QvS,Q5,Qah,goInt,Qwl,Qwm,QvX,QwD,un23,t0,t1,t5,hlt,ha,QN]|refine Qf fun K hK=>?_|refine Qp ?_|refine Q3 ?_|refine Qd ?_|refine QV ?_|refine QU ?_|refine hK _ ?_;clear hK|clear hK;refine hK _ ?_;clear hK|refine Qi rfl ?_;simp only[↓reduceIte,QvT]
    simp only[QS,Qq,Qz,upd,↓reduceIte,QvV,QvZ]
    exact Qc QwH (.keep (.v _)) ⟨by rw[he2],rfl⟩
  ·have hjl:l.drop j=[]:=Qx1 (by omega)
   have he2:QbH l n=a:=by rw[he,hjl];rfl
   with_reducible repeat first|refine Qa fun K E hK hE=>?_;simp only[Qh,Qe,Qk,OpW,aop,undef,AS.ev,Qg,Qu,QC,Qr,↓reduceIte,Nat.reduceLT,Nat.reduceEqDiff,aBin,aLen,QvP,QvQ,QvR,QvU,QvS,Q5,goInt,Qwm,QwD,QvT,beq_true,un23,t0,t1,t5,hlt,QN]|refine Qf fun K hK=>?_|refine Qp ?_|refine Q3 ?_|refine Qd ?_|refine QV ?_|refine QU ?_|refine hK _ ?_;clear hK|clear hK;refine hK _ ?_;clear hK|refine Qi rfl ?_;simp only[↓reduceIte,QvT]
   simp only[QS,Qq,Qz,upd,↓reduceIte,QvV,QvZ]
   exact Qc QwH (.keep (.v _)) ⟨by rw[he2],rfl⟩
 ·rw[hI]
  exact⟨0,n,by omega,Qw3 _,hn1,Int.le_refl _,by rw[Qv6],rfl,rfl,rfl,rfl⟩
def Rl.ok(r:Rl):Prop:=r.name.size<=9223372036854775807/\r.keep.length<=9223372036854775807/\r.remove.length<=9223372036854775807/\r.guard.length<=9223372036854775807/\r.body.length<=9223372036854775807 /\
 (∀g∈r.keep,g.ok)/\(∀g∈r.remove,g.ok)/\(∀g∈r.guard,g.ok)/\(∀g∈r.body,g.ok)
theorem QnJ(n:Int):cmpI n n=0:=by simp[cmpI]
theorem QcU:∀l:List UInt8,Op.bytesLess l l=false
 |[]=>rfl
 |a::l=>by simp[Op.bytesLess,QcU l]
theorem QnL(s:ByteArray):cmpS s s=0:=by simp[cmpS,QcU]
mutual
theorem QnM:∀t:T,cmpT t t=0
 | .mk k i n l=>by
  have h0:((0:Int) != 0)=false:=rfl
  simp only[cmpT,QnJ,QnL,Qfo l,h0,QvT,↓reduceIte,or3,orL,ite_self]
theorem Qfo:∀l:List T,cmpL l l=0
 |[]=>by simp[cmpL]
 |t::l=>by simp[cmpL,QnM t,Qfo l]
end
def gN:List G->Nat
 |[]=>0
 |p::l=>1+ndsL p.args+gN l
theorem QnY:∀{l:List G} {k:Nat} (h:k<l.length),ndsL (l[k]).args<=gN l
 |p::l,0,_=>by simp only[List.getElem_cons_zero,gN];omega
 |p::l,k+1,h=>by
  have:=QnY (l:=l) (k:=k) (by simpa using h)
  simp only[Qyr,gN];omega
theorem QfE:∀l:List G,l.length<=gN l
 |[]=>by simp[gN]
 |p::l=>by
  have:=QfE l
  simp only[gN,Qv2];omega
theorem Qid(p:G)(hn:ndsL p.args<=1000000):Pure Tryz.prog 70 [p.goal,p.goal] (.b true):=by
 intro h
 have c1:=QgE p.args p.args hn
 rw[Qfo]at c1
 have z0:((0:Int)==0)=true:=rfl
 simp only[z0]at c1
 have z1:(p.op==p.op)=true:=by simp
 have z2:(p.name.toList==p.name.toList)=true:=by simp
 have z3:((p.args.length:Int)==(p.args.length:Int))=true:=by simp
 refine Qb Tryz.func70 rfl Tryz.call70 Tryz.ntmps70 Tryz.results70 (by simp) ?_
 (with_reducible refine Qa fun K E hK hE=>?_)
 simp only[Qh,Qe,Qk,OpW,aop,undef,AS.ev,Qg,QC,Qr,QG,QvW,Qwf,AV.QuX,Qv9,Qwa,QE,QA,QP,Qwb,↓reduceIte,Qv2,Qv3,Nat.reduceAdd,Nat.reduceLT,Nat.reduceEqDiff,Qv1,hlen,happ,Qwh,Qwg,Q4]
 (with_reducible refine hK _ ?_)
 clear hK
 (with_reducible refine Qa fun K E hK hE=>?_)
 (try simp only[Qwq]);refine XC 6 (fun K1 hK1=>?_);simp only[Qh,Qe,Qk,OpW,aop,AS.ev,Qg,Qr,↓reduceIte,Nat.reduceLT,Nat.reduceEqDiff,Qwe,Qm,QQ,QR,aBin,Q8,hget,QvP,QvQ,QvR,Qv0,Qv7,Q1,QvX,ti3,YG,Q4];(repeat ((((with_reducible refine Qa fun K E hK hE=>?_));simp only[Qh,Qe,Qk,OpW,Q7,aop,undef,Qa4,Qwv,Qww,QcX,Qar,Qbm,AS.ev,Qg,QX,Qu,QC,QI,XM,Qan,Yq,YK,X9,Qbp,Qr,QG,QvW,Qwf,AV.QuX,Qo,Q6,XV,ZA,XH,Zy,ZM,Qaq,Zz,QD,Xx,Yn,ZG,Ze,ZE,ZO,Qat,ZF,Qv9,Qwa,QE,Y0,QA,QM,Zw,Xi,Yj,X4,QP,Zx,XG,Zu,ZL,Qap,Zv,Qwb,Qwy,Qwz,Qwc,Qwd,↓reduceIte,Qv2,Qv3,Nat.reduceAdd,Nat.reduceLT,Nat.reduceLeDiff,Nat.reduceEqDiff,Nat.reduceSub,Nat.reduceMul,Qv1,Qwe,Qwo,Qwp,Qwn,Yr,Yu,Qm,QQ,QR,aBin,aLen,Q8,hget,Yd,hset,hlen,happ,QvP,QvQ,QwF,Qwj,Qwk,QvR,Qwu,QvU,Qwt,QvV,Qwq,QvS,Qv4,Qv8,Qwh,Qwg,Qwi,Qv0,Qv7,QvY,Qv6,Q1,Xv,goInt,Qwl,Qwm,QvX,QwA,Qws,Int.toNat_zero,Int.toNat_one,Qwr,QwD,QwE,QwB,QvT,Qwx,beq_true,beq_false,rng0,rng1,rng2,rng3,rng4,rng5,rng6,rng7,rng8,Xg,Nat.reducePow,Qw3,QxW,T.QuV,T.QuY,QK,Xn,ti0,zi0,ti3,zi3,un3,ti4,zi4,un4,ti9,ei9,zi9,un9,ti44,ei44,ai44,zi44,un44,ti53,YG,QaY,ZC,zi53,sp53,ti69,XR,Yw,Yx,Yh,zi69,sp69,QwC,Int.sub_zero,QcS,Q2,Q4,Z1,z1,z2,z3])));refine hK1 _ ?_;clear hK1
 (try simp only[QvY,Qv6]);refine XC 6 (fun K1 hK1=>?_);simp only[Qh,Qe,Qk,OpW,aop,AS.ev,Qg,Qr,↓reduceIte,Nat.reduceLT,Nat.reduceEqDiff,Qv1,Qm,QQ,QR,aBin,Q8,hget,QvP,QvQ,QvR,QvU,QvS,Qv0,Qv7,Xv,QvX,ti9,QaY,Q4];(repeat ((((with_reducible refine Qa fun K E hK hE=>?_));simp only[Qh,Qe,Qk,OpW,Q7,aop,undef,Qa4,Qwv,Qww,QcX,Qar,Qbm,AS.ev,Qg,QX,Qu,QC,QI,XM,Qan,Yq,YK,X9,Qbp,Qr,QG,QvW,Qwf,AV.QuX,Qo,Q6,XV,ZA,XH,Zy,ZM,Qaq,Zz,QD,Xx,Yn,ZG,Ze,ZE,ZO,Qat,ZF,Qv9,Qwa,QE,Y0,QA,QM,Zw,Xi,Yj,X4,QP,Zx,XG,Zu,ZL,Qap,Zv,Qwb,Qwy,Qwz,Qwc,Qwd,↓reduceIte,Qv2,Qv3,Nat.reduceAdd,Nat.reduceLT,Nat.reduceLeDiff,Nat.reduceEqDiff,Nat.reduceSub,Nat.reduceMul,Qv1,Qwe,Qwo,Qwp,Qwn,Yr,Yu,Qm,QQ,QR,aBin,aLen,Q8,hget,Yd,hset,hlen,happ,QvP,QvQ,QwF,Qwj,Qwk,QvR,Qwu,QvU,Qwt,QvV,Qwq,QvS,Qv4,Qv8,Qwh,Qwg,Qwi,Qv0,Qv7,QvY,Qv6,Q1,Xv,goInt,Qwl,Qwm,QvX,QwA,Qws,Int.toNat_zero,Int.toNat_one,Qwr,QwD,QwE,QwB,QvT,Qwx,beq_true,beq_false,rng0,rng1,rng2,rng3,rng4,rng5,rng6,rng7,rng8,Xg,Nat.reducePow,Qw3,QxW,T.QuV,T.QuY,QK,Xn,ti0,zi0,ti3,zi3,un3,ti4,zi4,un4,ti9,ei9,zi9,un9,ti44,ei44,ai44,zi44,un44,ti53,YG,QaY,ZC,zi53,sp53,ti69,XR,Yw,Yx,Yh,zi69,sp69,QwC,Int.sub_zero,QcS,Q2,Q4,Z1,z1,z2,z3])));refine hK1 _ ?_;clear hK1
 (try simp only[QvY,Qv6]);refine XC 6 (fun K1 hK1=>?_);simp only[Qh,Qe,Qk,OpW,aop,AS.ev,Qg,Qr,↓reduceIte,Nat.reduceLT,Nat.reduceEqDiff,Qv1,Qm,QQ,QR,aLen,Q8,hget,QvP,QvQ,QvR,QvU,QvS,Qv0,Qv7,goInt,QvX,QK,ti44,un44,ZC,Q4];(repeat ((((with_reducible refine Qa fun K E hK hE=>?_));simp only[Qh,Qe,Qk,OpW,Q7,aop,undef,Qa4,Qwv,Qww,QcX,Qar,Qbm,AS.ev,Qg,QX,Qu,QC,QI,XM,Qan,Yq,YK,X9,Qbp,Qr,QG,QvW,Qwf,AV.QuX,Qo,Q6,XV,ZA,XH,Zy,ZM,Qaq,Zz,QD,Xx,Yn,ZG,Ze,ZE,ZO,Qat,ZF,Qv9,Qwa,QE,Y0,QA,QM,Zw,Xi,Yj,X4,QP,Zx,XG,Zu,ZL,Qap,Zv,Qwb,Qwy,Qwz,Qwc,Qwd,↓reduceIte,Qv2,Qv3,Nat.reduceAdd,Nat.reduceLT,Nat.reduceLeDiff,Nat.reduceEqDiff,Nat.reduceSub,Nat.reduceMul,Qv1,Qwe,Qwo,Qwp,Qwn,Yr,Yu,Qm,QQ,QR,aBin,aLen,Q8,hget,Yd,hset,hlen,happ,QvP,QvQ,QwF,Qwj,Qwk,QvR,Qwu,QvU,Qwt,QvV,Qwq,QvS,Qv4,Qv8,Qwh,Qwg,Qwi,Qv0,Qv7,QvY,Qv6,Q1,Xv,goInt,Qwl,Qwm,QvX,QwA,Qws,Int.toNat_zero,Int.toNat_one,Qwr,QwD,QwE,QwB,QvT,Qwx,beq_true,beq_false,rng0,rng1,rng2,rng3,rng4,rng5,rng6,rng7,rng8,Xg,Nat.reducePow,Qw3,QxW,T.QuV,T.QuY,QK,Xn,ti0,zi0,ti3,zi3,un3,ti4,zi4,un4,ti9,ei9,zi9,un9,ti44,ei44,ai44,zi44,un44,ti53,YG,QaY,ZC,zi53,sp53,ti69,XR,Yw,Yx,Yh,zi69,sp69,QwC,Int.sub_zero,QcS,Q2,Q4,Z1,z1,z2,z3])));refine hK1 _ ?_;clear hK1
 (try simp only[QvY,Qv6]);refine XC 6 (fun K1 hK1=>?_);simp only[Qh,Qe,Qk,OpW,aop,AS.ev,Qg,Qr,↓reduceIte,Nat.reduceLT,Nat.reduceEqDiff,Qv1,Qm,QQ,QR,aBin,aLen,Q8,QvP,QvQ,QvR,QvU,QvS,Qv0,Qv7,Q1,goInt,QvX,QK,ti44,un44,ZC,Q4];(repeat ((((with_reducible refine Qa fun K E hK hE=>?_));simp only[Qh,Qe,Qk,OpW,Q7,aop,undef,Qa4,Qwv,Qww,QcX,Qar,Qbm,AS.ev,Qg,QX,Qu,QC,QI,XM,Qan,Yq,YK,X9,Qbp,Qr,QG,QvW,Qwf,AV.QuX,Qo,Q6,XV,ZA,XH,Zy,ZM,Qaq,Zz,QD,Xx,Yn,ZG,Ze,ZE,ZO,Qat,ZF,Qv9,Qwa,QE,Y0,QA,QM,Zw,Xi,Yj,X4,QP,Zx,XG,Zu,ZL,Qap,Zv,Qwb,Qwy,Qwz,Qwc,Qwd,↓reduceIte,Qv2,Qv3,Nat.reduceAdd,Nat.reduceLT,Nat.reduceLeDiff,Nat.reduceEqDiff,Nat.reduceSub,Nat.reduceMul,Qv1,Qwe,Qwo,Qwp,Qwn,Yr,Yu,Qm,QQ,QR,aBin,aLen,Q8,hget,Yd,hset,hlen,happ,QvP,QvQ,QwF,Qwj,Qwk,QvR,Qwu,QvU,Qwt,QvV,Qwq,QvS,Qv4,Qv8,Qwh,Qwg,Qwi,Qv0,Qv7,QvY,Qv6,Q1,Xv,goInt,Qwl,Qwm,QvX,QwA,Qws,Int.toNat_zero,Int.toNat_one,Qwr,QwD,QwE,QwB,QvT,Qwx,beq_true,beq_false,rng0,rng1,rng2,rng3,rng4,rng5,rng6,rng7,rng8,Xg,Nat.reducePow,Qw3,QxW,T.QuV,T.QuY,QK,Xn,ti0,zi0,ti3,zi3,un3,ti4,zi4,un4,ti9,ei9,zi9,un9,ti44,ei44,ai44,zi44,un44,ti53,YG,QaY,ZC,zi53,sp53,ti69,XR,Yw,Yx,Yh,zi69,sp69,QwC,Int.sub_zero,QcS,Q2,Q4,Z1,z1,z2,z3])));refine hK1 _ ?_;clear hK1
 simp only[QvY,Qv6]
 simp only[Qe,Qk,OpW,aop,AS.ev,Qg,Qr,↓reduceIte,Nat.reduceLT,Nat.reduceEqDiff,Qv1,Qm,QQ,QR,hget,QvP,QvQ,QvR,QvU,QvS,Qv4,Qv8,QvX,ti44,ZC,Q4]
 with_reducible repeat first|refine Qy c1 ?_;simp only[Qh,Qe,Qk,OpW,Q7,aop,AS.ev,Qg,Qr,↓reduceIte,Nat.reduceLT,Nat.reduceEqDiff]|refine Qp ?_|refine hK _ ?_;clear hK
 simp only[QS,Qq,Qz,upd,↓reduceIte,QvV,QvZ];first|refine Qc (htake _ _) (.keep (.v _)) ⟨rfl,rfl⟩|refine Qc QwH (.keep (.v _)) ⟨rfl,rfl⟩
theorem QgD(l:List G)(hn:gN l<=1000000):Pure Tryz.prog 24 [.sl 3 (vs G.goal l) none,.sl 3 (vs G.goal l) none] (.b true):=by
 intro h
 have hll:=QfE l
 have hb:((l.length:Int) != (l.length:Int))=false:=by simp
 refine Qb Tryz.func24 rfl Tryz.call24 Tryz.ntmps24 Tryz.results24 (by simp) ?_
 with_reducible repeat first|refine Qa fun K E hK hE=>?_;simp only[Qh,Qe,Qk,OpW,aop,undef,AS.ev,Qg,Qu,QC,Qr,QG,QvW,Qwf,↓reduceIte,Nat.reduceLT,Nat.reduceEqDiff,aBin,aLen,QvR,YH,goInt,QwA,un23,QN]|refine Qf fun K hK=>?_|refine Qj ?_|refine Qw ?_|refine Qd ?_|refine hK _ ?_;clear hK|refine Qi rfl ?_;simp only[↓reduceIte,QvT]
 obtain⟨I,hI⟩:∃I:Nat->AS->Prop,I=fun m' s=>∃j:Nat,m'=l.length - j/\j<=l.length/\s.tm 0 = .sl 3 (vs G.goal l) none/\s.tm 1 = .sl 3 (vs G.goal l) none/\s.tm 5 = .i j/\s.h=h:=⟨_,rfl⟩;refine QZ I ?_ (m:=l.length) ?_
 ·intro m' s hs;rw[hI]at hs;obtain⟨tm,hp⟩:=s;dsimp only at hs;obtain⟨j,rfl,hj,t0,t1,t5,rfl⟩:=hs
  by_cases hlt:j<l.length
  ·have hc:=Qid l[j] (Qw8 (QnY hlt) hn)
   repeat first|(first|with_reducible (first|refine Qa fun K E hK hE=>?_|refine Ql fun K E hK hE=>?_|refine QO hc ?_)|refine QH (id:=6) [(0,0),(1,0),(2,0),(3,0),(4,0),(5,0),(6,0),(7,0),(8,1),(9,0)] mixed (by kernel_rfl) fun K hK=>?_);simp only[XQ,Xz,Yo,Qh,Qe,Qk,OpW,aop,AS.ev,Qg,Qu,Qr,Qwc,↓reduceIte,Qv2,Qv3,Nat.reduceAdd,Nat.reduceLT,Nat.reduceLeDiff,Nat.reduceEqDiff,Qv1,Qwn,QQ,QR,QJ,aBin,aLen,QvP,QvQ,QvR,QvU,QvS,Qv4,Qv8,Q5,Yc,Ya,goInt,Qwl,QvX,Qws,Qwr,QwD,ei23,un23,ti53,t0,t1,t5,hlt,QN,QaK G.goal hlt,Q4,Z1]|with_reducible (first|refine Qf fun K hK=>?_|refine Qj ?_|refine Qw ?_|refine Qd ?_|refine Qt ?_|refine hK _ ?_;clear hK|refine Qi rfl ?_;simp only[↓reduceIte,QvT])
   refine Xo.mk (m':=l.length - (j+1)) (by omega) ?_
   rw[hI]
   refine⟨j+1,rfl,hlt,t0,t1,?_,rfl⟩
   simp only[upd,↓reduceIte]
   rw[Xe (by omega)]
  ·with_reducible repeat first|refine Qa fun K E hK hE=>?_;simp only[Qh,Qe,Qk,OpW,aop,undef,AS.ev,Qg,QC,Qr,↓reduceIte,Nat.reduceLT,Nat.reduceEqDiff,aBin,aLen,QvP,QvQ,QvR,QvU,QvS,Q5,goInt,Qwm,QwD,QvT,beq_true,un23,t0,t5,hlt,QN]|refine Qf fun K hK=>?_|refine Qp ?_|refine Q3 ?_|refine Qd ?_|refine QV ?_|refine QU ?_|refine hK _ ?_;clear hK|clear hK;refine hK _ ?_;clear hK|refine Qi rfl ?_;simp only[↓reduceIte,QvT]
   simp only[QS,Qq,Qz,upd,↓reduceIte,QvV,QvZ];first|refine Qc (htake _ _) (.keep (.v _)) ⟨rfl,rfl⟩|refine Qc QwH (.keep (.v _)) ⟨rfl,rfl⟩
 ·rw[hI]
  exact⟨0,by omega,Qw3 _,rfl,rfl,rfl,rfl⟩
mutual
def T.dep:T->Nat
 | .mk k _ _ l=>1+(if k=2 then deps l else 0)
def deps:List T->Nat
 |[]=>0
 |t::l=>max t.dep (deps l)
end
theorem T.QvK(t:T):t.dep=1+deps t.uses:=by
 cases t with|mk k i n l =>
 show T.dep (.mk k i n l)=1+deps (if k=2 then l else[])
 simp only[T.dep]
 by_cases h:k=2
 ·simp[h]
 ·simp[h,deps]
theorem Qjw(t:T):Pure Tryz.prog 103 [t.av] (.sl 4 (avs t.uses) none):=by
 intro h
 refine Qb Tryz.func103 rfl Tryz.call103 Tryz.ntmps103 Tryz.results103 (by simp) ?_
 by_cases hk:t.kind=2
 ·have hb:(t.kind==2)=true:=by simpa using hk
  with_reducible repeat first|refine Qa fun K E hK hE=>?_;simp only[Qh,Qe,Qk,OpW,aop,undef,AS.ev,Qg,Qu,XM,Qr,QG,QvW,AV.QuX,Qv9,Qwa,QE,QA,QP,Qwb,↓reduceIte,Qv2,Qv3,Nat.reduceAdd,Nat.reduceLT,Nat.reduceEqDiff,Qv1,Qwe,Qm,QQ,QR,aBin,Q8,QvP,QvQ,QvR,Q1,T.QuV,ti3,ti44,XR,Yh,hb,T.QuV]|refine Qf fun K hK=>?_|refine Qp ?_|refine QB ?_|refine hK _ ?_;clear hK|refine Qi rfl ?_;simp only[↓reduceIte]
  simp only[QS,Qq,Qz,upd,↓reduceIte,QvV,QvZ]
  refine Qc (htake _ _) (.keep (Qfj _ _)) ⟨by rw[T.uses,QwN hk],rfl⟩
 ·have hb:(t.kind==2)=false:=by simpa using hk
  with_reducible repeat first|refine Qa fun K E hK hE=>?_;simp only[Qh,Qe,Qk,OpW,aop,undef,AS.ev,Qg,Qu,XM,Qr,QG,QvW,AV.QuX,Qv9,Qwa,QE,QA,QP,Qwb,↓reduceIte,Qv2,Qv3,Nat.reduceAdd,Nat.reduceLT,Nat.reduceEqDiff,Qv1,Qwe,Qm,QQ,QR,aBin,Q8,QvP,QvR,Q1,T.QuV,ti3,XR,hb,T.QuV]|refine Qf fun K hK=>?_|refine Qp ?_|refine Qw ?_|refine Qd ?_|refine hK _ ?_;clear hK|refine Qi rfl ?_;simp only[↓reduceIte,QvT]
  simp only[QS,Qq,Qz,upd,↓reduceIte,QvV,QvZ]
  refine Qc (htake _ _) (.nil 4) ⟨by rw[T.uses,QwJ hk];rfl,rfl⟩
theorem Qp4(u:List Int)(own:Option Nat)(n:Int)(hb:u.length<=1000000):Pure Tryz.prog 102 [.sl 1 (ints u) own,.i n] (.b (decide (n∈u))):=by
 intro h
 refine Qb Tryz.func102 rfl Tryz.call102 Tryz.ntmps102 Tryz.results102 (by simp) ?_
 with_reducible repeat first|refine Qa fun K E hK hE=>?_;simp only[Qh,Qe,Qk,OpW,aop,AS.ev,Qg,Qu,QC,Nat.reduceLT]|refine Qf fun K hK=>?_|refine Qj ?_|refine hK _ ?_;clear hK
 obtain⟨I,hI⟩:∃I:Nat->AS->Prop,I=fun m' s=>∃j:Nat,m'=u.length - j/\j<=u.length/\(n∈u↔n∈u.drop j)/\s.tm 0 = .sl 1 (ints u) own/\s.tm 1 = .i n/\s.tm 5 = .i j/\s.h=h:=⟨_,rfl⟩;refine QZ I ?_ (m:=u.length) ?_
 ·intro m' s hs;rw[hI]at hs;obtain⟨tm,hp⟩:=s;dsimp only at hs;obtain⟨j,rfl,hj,he,t0,t1,t5,rfl⟩:=hs
  by_cases hlt:j<u.length
  ·rw[QwU hlt,QwS]at he
   by_cases hz:u[j]=n
   ·have hb1:(u[j]==n)=true:=by simpa using hz
    have hm:n∈u:=he.2 (.inl hz.symm)
    with_reducible repeat first|refine Qa fun K E hK hE=>?_;simp only[Qh,Qe,Qk,OpW,aop,AS.ev,Qg,QC,Qr,Q6,↓reduceIte,Nat.reduceLT,Nat.reduceEqDiff,Qwn,QQ,QR,QJ,aBin,aLen,QvP,QvR,Q1,Q5,goInt,Qwl,Qws,Qwr,QwD,Xn,ti3,ei42,un42,t0,t1,t5,hlt,QeS hlt,hb1]|refine Qf fun K hK=>?_|refine Qj ?_|refine Qp ?_|refine Qw ?_|refine Qd ?_|refine QB ?_|refine QF ?_|refine hK _ ?_;clear hK|refine Qi rfl ?_;simp only[↓reduceIte]
    simp only[QS,Qq,Qz,upd,↓reduceIte,QvV,QvZ]
    exact Qc QwH (.keep (.v _)) ⟨by rw[Qw7 hm],rfl⟩
   ·have hb1:(u[j]==n)=false:=by simpa using hz
    with_reducible repeat first|(first|refine Qa fun K E hK hE=>?_|refine Ql fun K E hK hE=>?_);simp only[Qh,Qe,Qk,OpW,aop,AS.ev,Qg,Qu,Qr,Q6,↓reduceIte,Nat.reduceLT,Nat.reduceEqDiff,Qwn,QQ,QR,QJ,aBin,aLen,QvP,QvR,Q1,Q5,Yc,goInt,Qwl,Qws,Qwr,QwD,Xn,ti3,ei42,un42,t0,t1,t5,hlt,QeS hlt,hb1]|refine Qf fun K hK=>?_|refine Qj ?_|refine Qw ?_|refine Qd ?_|refine Qt ?_|refine hK _ ?_;clear hK|refine Qi rfl ?_;simp only[↓reduceIte,QvT]
    refine Xo.mk (m':=u.length - (j+1)) (by omega) ?_
    rw[hI]
    refine⟨j+1,rfl,hlt,he.trans ⟨fun h=>h.elim (fun e=>absurd e.symm hz) id,.inr⟩,t0,t1,?_,rfl⟩
    simp only[upd,↓reduceIte]
    rw[Xe (by omega)]
  ·have hjl:j=u.length:=by omega
   rw[hjl,Qxb]at he
   have hm:¬n∈u:=fun h=>by simpa using he.1 h
   with_reducible repeat first|refine Qa fun K E hK hE=>?_;simp only[Qh,Qe,Qk,OpW,aop,AS.ev,Qg,QC,Qr,↓reduceIte,Nat.reduceLT,Nat.reduceEqDiff,aBin,aLen,QvR,Q5,goInt,Qwm,QwD,Xn,un42,t0,t5,hlt]|refine Qf fun K hK=>?_|refine Qp ?_|refine Q3 ?_|refine Qd ?_|refine QV ?_|refine QU ?_|refine hK _ ?_;clear hK|clear hK;refine hK _ ?_;clear hK|refine Qi rfl ?_;simp only[↓reduceIte,QvT]
   simp only[QS,Qq,Qz,upd,↓reduceIte,QvV,QvZ]
   exact Qc QwH (.keep (.v _)) ⟨by rw[QwY hm],rfl⟩
 ·rw[hI]
  exact⟨0,by omega,Qw3 _,by simp,rfl,rfl,rfl,rfl⟩
theorem Qjj(t:T):ndsL t.uses<=ndsL t.args:=by
 unfold T.uses
 split
 ·exact QwP _
 ·simp[ndsL]
structure TokGr (H:Nat->AH) (m k e s:Nat):Prop where
 len:∀n,(H n).length=m
 lt:k<m
 get:∀n,(H n)[k]? = some (.grow e s n)
 set:∀n n',(H n).set k (.grow e s n')=H n'
theorem TokGr.old{H:Nat->AH}{m k e s:Nat}(V:TokGr H m k e s):∀n n' (i:Nat) b,(H n')[i]? = some b->(H n)[i]? = some b\/b.Below m:=by
 intro n n' i b hb
 rw[<-V.set n n']at hb
 by_cases hi:k=i
 ·subst hi
  rw[QwR (by rw[V.len];exact V.lt)]at hb
  cases hb
  exact .inr trivial
 ·rw[QwL hi]at hb
  exact .inl hb
theorem Qd3{σ:Type}{H:σ->AH}{m:Nat}(hm:∀s,(H s).length=m)(hH:∀s s' (i:Nat) b,(H s')[i]? = some b->(H s)[i]? = some b\/b.Below m){s s2:σ}{L own:AH}{r r':AV}{Q:AV->AH->Prop}
  (hf:Frz (H s2++(L++own)) (m+L.length) r r') (hq:Q r' (H s2++L)):Leaves (H s++L) (H s2++(L++own)) r Q:=by
 have ht:(H s2++(L++own)).take (m+L.length)=H s2++L:=by
  rw[<-QwM,<-hm s2,<-QwG,List.take_left]
 refine .inl ⟨m+L.length,r',by rw[QwG,hm];exact QwP _,by simp[hm],.inr fun i b hb=>?_,hf,by rw[ht];exact hq⟩
 rw[ht]at hb
 rcases Qyd i m with hi|hi
 ·rw[QwI (by rw[hm];exact hi)]at hb
  rcases hH s s2 i b hb with h|h
  ·exact .inl (by rw[QwI (by rw[hm];exact hi)];exact h)
  ·exact .inr (h.mono (by omega))
 ·rw[QwO (by rw[hm];exact hi),hm]at hb
  exact .inl (by rw[QwO (by rw[hm];exact hi),hm];exact hb)
theorem T.Qvu(t:T):t.vars=if t.kind=1 then[t.int]else Xd t.uses:=by
 cases t with|mk k i n l =>
 show T.vars (.mk k i n l)=if k=1 then[i]else Xd (if k=2 then l else[])
 simp only[T.vars]
 by_cases h1:k=1
 ·rw[QwN h1,QwN h1]
 ·rw[QwJ h1,QwJ h1]
  by_cases h2:k=2
  ·rw[QwN h2,QwN h2]
  ·rw[QwJ h2,QwJ h2];rfl
theorem QbU{H:Nat->AH}{m k:Nat}(V:TokGr H m k 3 1):∀n,n<=1000000->∀(t:T) (u:List Int) (L:AH),t.nds<=n->u.length+t.nds<=1000000 ->
  QT Tryz.prog 62 [.sl 1 (ints u) (some k),t.av] (H u.length++L) fun o h'=>o = .ret (.sl 1 (ints (ded u t.vars)) (some k))/\h'=H (ded u t.vars).length++L
 |0,_,t,_,_,hn,_=>by have:=T.Qu6 t;omega
 |n+1,hb,t,u,L,hn,hu=>by
  have e:=T.Qvu t
  have hnd:=T.Qu6 t
  have hm:=V.len
  have gk:∀(n:Nat) (L:AH) (k:Nat),(H n++L)[m+k]? = L[k]? := fun u L k=>by rw[<-hm u];exact hget _ _ _
  have sk:∀(n:Nat) (L:AH) (k:Nat) (b:AB),(H n++L).set (m+k) b=H n++L.set k b:=fun u L k b=>by rw[<-hm u];exact hset _ _ _ _
  have gt:∀(n:Nat) (L:AH),(H n++L)[k]? = some (.grow 3 1 n):=fun n L=>by rw[QwI (by rw[hm];exact V.lt)];exact V.get n
  have st:∀(n n':Nat) (L:AH),(H n++L).set k (.grow 3 1 n')=H n'++L:=fun n n' L=>by rw[Qw2 _ _ (by rw[hm];exact V.lt),V.set]
  have ca:=Qjw t
  have ch:=Qp4 u (some k) t.int (by omega)
  have hlu:=X5 t.uses
  have hul:=Qjj t
  by_cases h1:t.kind=1
  ·have b1:(t.kind==1)=true:=by simpa using h1
   have hus:t.uses=[]:=by unfold T.uses;rw[QwJ (by omega)]
   rw[QwN h1]at e
   by_cases hmem:t.int∈u
   ·have hed:ded u t.vars=ded u (Xd (t.uses.drop 0)):=by rw[e,hus];exact QwN hmem
    have hlen':u.length+ndsL (t.uses.drop 0)<=1000000:=by rw[Qv6];omega
    rw[Qw7 hmem]at ch
    refine Qb Tryz.func62 rfl Tryz.call62 Tryz.ntmps62 Tryz.results62 (by simp) ?_
    with_reducible repeat first|(first|refine Qa fun K E hK hE=>?_|refine Qy ca ?_|refine Qy ch ?_);simp only[Qh,Qe,Qk,OpW,Q7,aop,undef,AS.ev,Qg,Qu,XM,Qr,QG,QvW,Qwf,AV.QuX,Qv9,Qwa,QE,QA,QP,Qwb,Qwc,↓reduceIte,Qv2,Qv3,Nat.reduceAdd,Nat.reduceLT,Nat.reduceEqDiff,Qv1,Qwe,Qwn,Qm,QQ,QR,aBin,Q8,hlen,happ,QvP,QvQ,QvR,QvU,QvS,Qv4,Qv8,Q1,Ya,QvX,T.QuV,T.QuY,ti3,ti69,XR,Yw,b1,hm,gk]|refine Qf fun K hK=>?_|refine Qj ?_|refine Qw ?_|refine Qd ?_|refine hK _ ?_;clear hK|refine Qi rfl ?_;simp only[↓reduceIte,QvT]
    obtain⟨I,hI⟩:∃I:Nat->AS->Prop,I=fun m' s=>∃(j:Nat) (v:List Int) (M:AH),m'=t.uses.length - j/\j<=t.uses.length/\ded u t.vars=ded v (Xd (t.uses.drop j))/\v.length+ndsL (t.uses.drop j)<=1000000/\s.tm 0 = .sl 1 (ints v) (some k)/\s.tm 5 = .sl 4 (avs t.uses) none/\s.tm 6 = .i j/\s.h=H v.length++(L++M):=⟨_,rfl⟩;refine QZ I ?_ (m:=t.uses.length) ?_
    ·intro m' s hs;rw[hI]at hs;obtain⟨tm,hp⟩:=s;dsimp only at hs;obtain⟨j,v,M,rfl,hj,hw,hv,t0,t5,t6,rfl⟩:=hs
     by_cases hlt:j<t.uses.length
     ·rw[QwU hlt]at hw hv
      simp only[Xd,ZY]at hw
      simp only[ndsL]at hv
      have hcc:=fun L=>QbU V n (by omega) t.uses[j] v L (Qw8 (QaQ hlt) (by omega)) (by omega)
      have hdl:=Y2 v (t.uses[j]).vars
      have hvl:=T.Qu2 t.uses[j]
      with_reducible repeat first|(first|refine Qa fun K E hK hE=>?_|refine Ql fun K E hK hE=>?_|refine FunW.QuW (hcc _) ?_);simp only[Qh,Qe,Qk,OpW,Q7,aop,AS.ev,Qg,Qu,Qr,↓reduceIte,Qv2,Qv3,Nat.reduceAdd,Nat.reduceLT,Nat.reduceEqDiff,Qv1,Qwn,QQ,QR,QJ,aBin,aLen,QvR,Qv4,Qv8,Q5,Yc,goInt,Qwl,Qws,Qwr,QwD,T.QuV,T.QuY,QK,ei44,un44,ti69,t0,t5,t6,hlt,Qaa hlt]|refine Qf fun K hK=>?_|refine Qj ?_|refine Qw ?_|refine Qd ?_|refine Qt ?_|refine hK _ ?_;clear hK|refine Qi rfl ?_;simp only[↓reduceIte]
      refine Xo.mk (m':=t.uses.length - (j+1)) (by omega) ?_
      rw[hI]
      refine⟨j+1,_,_,rfl,hlt,hw,by omega,rfl,t5,?_,rfl⟩
      simp only[upd,↓reduceIte]
      rw[Xe (by omega)]
     ·have hjl:j=t.uses.length:=by omega
      rw[hjl,Qxb]at hw
      simp only[Xd,ded]at hw
      with_reducible repeat first|refine Qa fun K E hK hE=>?_;simp only[Qh,Qe,Qk,OpW,aop,AS.ev,Qg,Qr,↓reduceIte,Nat.reduceLT,Nat.reduceEqDiff,aBin,aLen,QvR,Q5,goInt,Qwm,QwD,QK,un44,t0,t5,t6,hlt]|refine Qf fun K hK=>?_|refine Qp ?_|refine Q3 ?_|refine Qd ?_|refine QV ?_|refine QU ?_|refine hK _ ?_;clear hK|clear hK;refine hK _ ?_;clear hK|refine Qi rfl ?_;simp only[↓reduceIte,QvT]
      simp only[QS,Qq,Qz,upd,↓reduceIte,QvV,QvZ]
      exact Qd3 V.len V.old (.keep (.sl 1 _ _ (Qcg _ _) (fun b hb=>by cases hb;have:=V.lt;omega))) ⟨by rw[hw],by rw[hw]⟩
    ·rw[hI]
     exact⟨0,_,_,by omega,Qw3 _,hed,hlen',rfl,rfl,rfl,rfl⟩
   ·have hed:ded u t.vars=ded (u++[t.int]) (Xd (t.uses.drop 0)):=by rw[e,hus];exact QwJ hmem
    have hlen':(u++[t.int]).length+ndsL (t.uses.drop 0)<=1000000:=by rw[hus,QwG];simp only[List.drop_nil,ndsL,Qyc];omega
    rw[QwY hmem]at ch
    have hb1:u.length+1<=maxLen:=by simp only[maxLen];omega
    have hb2:(u.length+1) * 8<=140737488355328:=by omega
    refine Qb Tryz.func62 rfl Tryz.call62 Tryz.ntmps62 Tryz.results62 (by simp) ?_
    with_reducible repeat first|(first|refine Qa fun K E hK hE=>?_|refine Ql fun K E hK hE=>?_|refine Qy ca ?_|refine Qy ch ?_);simp only[Qh,Qe,Qk,OpW,Q7,aop,undef,AS.ev,Qg,Qu,XM,Qr,QG,QvW,Qwf,AV.QuX,Q6,Qv9,Qwa,QE,QA,QP,Qwb,Qwd,↓reduceIte,Qv2,Qv3,Nat.reduceAdd,Nat.reduceLT,Nat.reduceLeDiff,Nat.reduceEqDiff,Nat.reduceMul,Qv1,Qwe,Qwn,Qm,QQ,QR,aBin,QW,Y4,Zj,Q8,hlen,happ,QvP,QvQ,QvR,QvU,QvS,Qv4,Qv8,Q1,Ya,QvX,rng1,Xg,Nat.reducePow,T.QuV,T.QuY,Xn,ti3,zi3,ei42,ai42,ti69,XR,Yw,b1,hm,gk,gt,st,hb1,hb2]|refine Qf fun K hK=>?_|refine Qj ?_|refine Qd ?_|refine hK _ ?_;clear hK|refine Qi rfl ?_;simp only[↓reduceIte]
    obtain⟨I,hI⟩:∃I:Nat->AS->Prop,I=fun m' s=>∃(j:Nat) (v:List Int) (M:AH),m'=t.uses.length - j/\j<=t.uses.length/\ded u t.vars=ded v (Xd (t.uses.drop j))/\v.length+ndsL (t.uses.drop j)<=1000000/\s.tm 0 = .sl 1 (ints v) (some k)/\s.tm 5 = .sl 4 (avs t.uses) none/\s.tm 6 = .i j/\s.h=H v.length++(L++M):=⟨_,rfl⟩;refine QZ I ?_ (m:=t.uses.length) ?_
    ·intro m' s hs;rw[hI]at hs;obtain⟨tm,hp⟩:=s;dsimp only at hs;obtain⟨j,v,M,rfl,hj,hw,hv,t0,t5,t6,rfl⟩:=hs
     by_cases hlt:j<t.uses.length
     ·rw[QwU hlt]at hw hv
      simp only[Xd,ZY]at hw
      simp only[ndsL]at hv
      have hcc:=fun L=>QbU V n (by omega) t.uses[j] v L (Qw8 (QaQ hlt) (by omega)) (by omega)
      have hdl:=Y2 v (t.uses[j]).vars
      have hvl:=T.Qu2 t.uses[j]
      with_reducible repeat first|(first|refine Qa fun K E hK hE=>?_|refine Ql fun K E hK hE=>?_|refine FunW.QuW (hcc _) ?_);simp only[Qh,Qe,Qk,OpW,Q7,aop,AS.ev,Qg,Qu,Qr,↓reduceIte,Qv2,Qv3,Nat.reduceAdd,Nat.reduceLT,Nat.reduceEqDiff,Qv1,Qwn,QQ,QR,QJ,aBin,aLen,QvR,Qv4,Qv8,Q5,Yc,goInt,Qwl,Qws,Qwr,QwD,T.QuV,T.QuY,QK,ei44,un44,ti69,t0,t5,t6,hlt,Qaa hlt]|refine Qf fun K hK=>?_|refine Qj ?_|refine Qw ?_|refine Qd ?_|refine Qt ?_|refine hK _ ?_;clear hK|refine Qi rfl ?_;simp only[↓reduceIte]
      refine Xo.mk (m':=t.uses.length - (j+1)) (by omega) ?_
      rw[hI]
      refine⟨j+1,_,_,rfl,hlt,hw,by omega,rfl,t5,?_,rfl⟩
      simp only[upd,↓reduceIte]
      rw[Xe (by omega)]
     ·have hjl:j=t.uses.length:=by omega
      rw[hjl,Qxb]at hw
      simp only[Xd,ded]at hw
      with_reducible repeat first|refine Qa fun K E hK hE=>?_;simp only[Qh,Qe,Qk,OpW,aop,AS.ev,Qg,Qr,↓reduceIte,Nat.reduceLT,Nat.reduceEqDiff,aBin,aLen,QvR,Q5,goInt,Qwm,QwD,QK,un44,t0,t5,t6,hlt]|refine Qf fun K hK=>?_|refine Qp ?_|refine Q3 ?_|refine Qd ?_|refine QV ?_|refine QU ?_|refine hK _ ?_;clear hK|clear hK;refine hK _ ?_;clear hK|refine Qi rfl ?_;simp only[↓reduceIte,QvT]
      simp only[QS,Qq,Qz,upd,↓reduceIte,QvV,QvZ]
      exact Qd3 V.len V.old (.keep (.sl 1 _ _ (Qcg _ _) (fun b hb=>by cases hb;have:=V.lt;omega))) ⟨by rw[hw],by rw[hw]⟩
    ·rw[hI]
     exact⟨0,_,_,by omega,Qw3 _,hed,hlen',by rw[Qkx,Qp7];rfl,rfl,rfl,by rw[QwG];rfl⟩
  ·have b1:(t.kind==1)=false:=by simpa using h1
   rw[QwJ h1]at e
   have hed:ded u t.vars=ded u (Xd (t.uses.drop 0)):=by rw[e,Qv6]
   have hlen':u.length+ndsL (t.uses.drop 0)<=1000000:=by rw[Qv6];omega
   refine Qb Tryz.func62 rfl Tryz.call62 Tryz.ntmps62 Tryz.results62 (by simp) ?_
   with_reducible repeat first|(first|refine Qa fun K E hK hE=>?_|refine Qy ca ?_);simp only[Qh,Qe,Qk,OpW,Q7,aop,undef,AS.ev,Qg,Qu,QC,XM,Qr,QG,QvW,Qwf,AV.QuX,Qv9,Qwa,QE,QA,QP,Qwb,↓reduceIte,Qv2,Qv3,Nat.reduceAdd,Nat.reduceLT,Nat.reduceEqDiff,Qv1,Qwe,Qwn,Qm,QQ,QR,aBin,Q8,hlen,happ,QvP,QvQ,QvR,QvU,QvS,Qv4,Qv8,Q1,QvT,beq_true,T.QuV,T.QuY,ti3,ti69,XR,b1,hm,gk]|refine Qf fun K hK=>?_|refine Qj ?_|refine Qw ?_|refine Qd ?_|refine hK _ ?_;clear hK|refine Qi rfl ?_;simp only[↓reduceIte,QvT]
   obtain⟨I,hI⟩:∃I:Nat->AS->Prop,I=fun m' s=>∃(j:Nat) (v:List Int) (M:AH),m'=t.uses.length - j/\j<=t.uses.length/\ded u t.vars=ded v (Xd (t.uses.drop j))/\v.length+ndsL (t.uses.drop j)<=1000000/\s.tm 0 = .sl 1 (ints v) (some k)/\s.tm 5 = .sl 4 (avs t.uses) none/\s.tm 6 = .i j/\s.h=H v.length++(L++M):=⟨_,rfl⟩;refine QZ I ?_ (m:=t.uses.length) ?_
   ·intro m' s hs;rw[hI]at hs;obtain⟨tm,hp⟩:=s;dsimp only at hs;obtain⟨j,v,M,rfl,hj,hw,hv,t0,t5,t6,rfl⟩:=hs
    by_cases hlt:j<t.uses.length
    ·rw[QwU hlt]at hw hv
     simp only[Xd,ZY]at hw
     simp only[ndsL]at hv
     have hcc:=fun L=>QbU V n (by omega) t.uses[j] v L (Qw8 (QaQ hlt) (by omega)) (by omega)
     have hdl:=Y2 v (t.uses[j]).vars
     have hvl:=T.Qu2 t.uses[j]
     with_reducible repeat first|(first|refine Qa fun K E hK hE=>?_|refine Ql fun K E hK hE=>?_|refine FunW.QuW (hcc _) ?_);simp only[Qh,Qe,Qk,OpW,Q7,aop,AS.ev,Qg,Qu,Qr,↓reduceIte,Qv2,Qv3,Nat.reduceAdd,Nat.reduceLT,Nat.reduceEqDiff,Qv1,Qwn,QQ,QR,QJ,aBin,aLen,QvR,Qv4,Qv8,Q5,Yc,goInt,Qwl,Qws,Qwr,QwD,T.QuV,T.QuY,QK,ei44,un44,ti69,t0,t5,t6,hlt,Qaa hlt]|refine Qf fun K hK=>?_|refine Qj ?_|refine Qw ?_|refine Qd ?_|refine Qt ?_|refine hK _ ?_;clear hK|refine Qi rfl ?_;simp only[↓reduceIte]
     refine Xo.mk (m':=t.uses.length - (j+1)) (by omega) ?_
     rw[hI]
     refine⟨j+1,_,_,rfl,hlt,hw,by omega,rfl,t5,?_,rfl⟩
     simp only[upd,↓reduceIte]
     rw[Xe (by omega)]
    ·have hjl:j=t.uses.length:=by omega
     rw[hjl,Qxb]at hw
     simp only[Xd,ded]at hw
     with_reducible repeat first|refine Qa fun K E hK hE=>?_;simp only[Qh,Qe,Qk,OpW,aop,AS.ev,Qg,Qr,↓reduceIte,Nat.reduceLT,Nat.reduceEqDiff,aBin,aLen,QvR,Q5,goInt,Qwm,QwD,QK,un44,t0,t5,t6,hlt]|refine Qf fun K hK=>?_|refine Qp ?_|refine Q3 ?_|refine Qd ?_|refine QV ?_|refine QU ?_|refine hK _ ?_;clear hK|clear hK;refine hK _ ?_;clear hK|refine Qi rfl ?_;simp only[↓reduceIte,QvT]
     simp only[QS,Qq,Qz,upd,↓reduceIte,QvV,QvZ]
     exact Qd3 V.len V.old (.keep (.sl 1 _ _ (Qcg _ _) (fun b hb=>by cases hb;have:=V.lt;omega))) ⟨by rw[hw],by rw[hw]⟩
   ·rw[hI]
    exact⟨0,_,_,by omega,Qw3 _,hed,hlen',rfl,rfl,rfl,rfl⟩
theorem Qpm(h:AH)(e s:Nat):TokGr (fun n=>h++[.grow e s n]) (h.length+1) h.length e s where
 len:=fun n=>by simp
 lt:=by omega
 get:=fun n=>by rw[Q8];rfl
 set:=fun n n'=>by rw[Yd];rfl
theorem QgA(l:List T)(hn:ndsL l<=1000000):Pure Tryz.prog 20 [.sl 4 (avs l) none] (.sl 1 (ints (ded [] (Xd l))) none):=by
 intro h
 have hll:=X5 l
 refine Qb Tryz.func20 rfl Tryz.call20 Tryz.ntmps20 Tryz.results20 (by simp) ?_
 with_reducible repeat first|refine Qa fun K E hK hE=>?_;simp only[Qh,Qe,Qk,OpW,aop,AS.ev,Qg,Qu,XM,Nat.reduceLT]|refine Qf fun K hK=>?_|refine Qj ?_|refine hK _ ?_;clear hK
 refine YB 3 3 1 rfl ?_
 obtain⟨I,hI⟩:∃I:Nat->AS->Prop,I=fun m' s=>∃(j:Nat) (v:List Int) (M:AH),m'=l.length - j/\j<=l.length/\ded [] (Xd l)=ded v (Xd (l.drop j))/\v.length+ndsL (l.drop j)<=1000000/\s.tm 0 = .sl 4 (avs l) none/\s.tm 3 = .sl 1 (ints v) (some h.length)/\s.tm 4 = .i j/\s.h=h++([.grow 3 1 v.length]++M):=⟨_,rfl⟩;refine QZ I ?_ (m:=l.length) ?_
 ·intro m' s hs;rw[hI]at hs;obtain⟨tm,hp⟩:=s;dsimp only at hs;obtain⟨j,v,M,rfl,hj,hw,hv,t0,t3,t4,rfl⟩:=hs
  by_cases hlt:j<l.length
  ·rw[QwU hlt]at hw hv
   simp only[Xd,ZY]at hw
   simp only[ndsL]at hv
   have hcc:=fun L=>QbU (Qpm h 3 1) 1000000 (QwP _) l[j] v L (Qw8 (QaQ hlt) (by omega)) (by omega)
   simp only[QwM,Qwh,Qwg]at hcc
   have hdl:=Y2 v (l[j]).vars
   have hvl:=T.Qu2 l[j]
   with_reducible repeat first|(first|refine Qa fun K E hK hE=>?_|refine Ql fun K E hK hE=>?_|refine FunW.QuW (hcc _) ?_);simp only[Qh,Qe,Qk,OpW,Q7,aop,AS.ev,Qg,Qu,Qr,↓reduceIte,Qv2,Qv3,Nat.reduceAdd,Nat.reduceLT,Nat.reduceEqDiff,Qv1,Qwn,QQ,QR,QJ,aBin,aLen,QvR,Qv4,Qv8,Qwh,Qwg,Q5,Yc,goInt,Qwl,Qws,Qwr,QwD,T.QuV,T.QuY,QK,ei44,un44,ti69,t0,t3,t4,hlt,Qaa hlt]|refine Qf fun K hK=>?_|refine Qj ?_|refine Qw ?_|refine Qd ?_|refine Qt ?_|refine hK _ ?_;clear hK|refine Qi rfl ?_;simp only[↓reduceIte]
   refine Xo.mk (m':=l.length - (j+1)) (by omega) ?_
   rw[hI]
   refine⟨j+1,_,_,rfl,hlt,hw,by omega,t0,rfl,?_,rfl⟩
   simp only[upd,↓reduceIte]
   rw[Xe (by omega)]
  ·have hjl:j=l.length:=by omega
   rw[hjl,Qxb]at hw
   simp only[Xd,ded]at hw
   with_reducible repeat first|refine Qa fun K E hK hE=>?_;simp only[Qh,Qe,Qk,OpW,aop,AS.ev,Qg,Qr,↓reduceIte,Nat.reduceLT,Nat.reduceEqDiff,aBin,aLen,QvR,Qwh,Qwg,Q5,goInt,Qwm,QwD,QK,un44,t0,t3,t4,hlt]|refine Qf fun K hK=>?_|refine Qp ?_|refine Q3 ?_|refine Qd ?_|refine QV ?_|refine QU ?_|refine hK _ ?_;clear hK|clear hK;refine hK _ ?_;clear hK|refine Qi rfl ?_;simp only[↓reduceIte,QvT]
   simp only[QS,Qq,Qz,upd,↓reduceIte,QvV,QvZ]
   exact Qc (htake _ _) (.tok (Qcg _ _)) ⟨by rw[hw],rfl⟩
 ·rw[hI]
  exact⟨0,[],[],by omega,Qw3 _,rfl,by simpa using hn,rfl,rfl,rfl,rfl⟩
def Zt(l:List G):List T:=l.flatMap G.args
theorem T.map_eq(g:Int->Int)(t:T):t.map g=if t.kind=1 then .mk t.kind (g t.int) t.name t.args else if t.kind=2 then .mk t.kind t.int t.name (maps g t.args)else t:=by
 cases t;simp only[T.map,T.kind,T.int,T.name,T.args];rfl
theorem Qdv(g:Int->Int):∀l:List T,maps g l=l.map (T.map g)
 |[]=>rfl
 |t::l=>by simp only[maps,Qv4,Qdv g l]
theorem Qgx{g:Int->Int}{l:List T}{k:Nat}(h:k<l.length):maps g (l.take (k+1))=maps g (l.take k)++[(l[k]).map g]:=by
 rw[Qdv,Qdv,Qxq h,Qxs];rfl
def G.mapV(f:Int->Int)(g:G):G:={g with args:=maps f g.args}
def Rl.mapV(f:Int->Int)(r:Rl):Rl:=⟨r.name,r.keep.map (G.mapV f),r.remove.map (G.mapV f),r.guard.map (G.mapV f),r.body.map (G.mapV f),r.vars⟩
theorem YZ(g:G)(l:List G):Zt (g::l)=g.args++Zt l:=rfl
theorem QsS(s:List Int)(g:G)(r:List Int):nG s g=(g.mapV fun n=>((plc (ded s (Xd g.args)++r) n:Nat):Int),ded s (Xd g.args)):=by
 rw[nG,QaT s g.args r];rfl
theorem QlC:∀(s:List Int) (l:List G) (r:List Int),Xh nG s l=(l.map (G.mapV fun n=>((plc (ded s (Xd (Zt l))++r) n:Nat):Int)),ded s (Xd (Zt l)))
 |s,[],r=>rfl
 |s,g::l,r=>by
  obtain⟨q,hq⟩:=QhH (ded s (Xd g.args)) (Xd (Zt l))
  rw[Xh,QsS s g (q++r)]
  simp only
  rw[QlC _ l r]
  simp only[YZ,Z5,ZY,hq,QwM,Qv4]
theorem QiC(f:Int->Int):∀l:List G,Zt (l.map (G.mapV f))=maps f (Zt l)
 |[]=>rfl
 |g::l=>by rw[List.map_cons,YZ,YZ,QiC f l];simp only[G.mapV,Qdv,Qxs]
def QpH(f:Int->Int)(l:List Int):Prop:=∀a∈l,∀b∈l,f a=f b->a=b
theorem QrI{f:Int->Int}{s:List Int}{n:Int}(h:∀a∈s,f a=f n->a=n):ins (s.map f) (f n)=(ins s n).map f:=by
 unfold ins
 by_cases hn:n∈s
 ·rw[QwN hn,QwN (List.mem_map_of_mem hn)]
 ·rw[QwJ hn,QwJ,Qxs]
  ·rfl
  ·intro hm
   obtain⟨a,ha,e⟩:=Qxa.1 hm
   exact hn (h a ha e▸ha)
theorem QnR{f:Int->Int}:∀{l s:List Int},QpH f (s++l)->ded (s.map f) (l.map f)=(ded s l).map f
 |[],s,h=>rfl
 |n::l,s,h=>by
  rw[List.map_cons,ded,ded,QrI fun a ha e=>h a (by simp[ha]) n (by simp) e]
  refine QnR fun a ha b hb e=>h a ?_ b ?_ e
  ·simp only[Qxf,QfS,QwS]at ha ⊢;rcases ha with(h|h)|h <;> simp[h]
  ·simp only[Qxf,QfS,QwS]at hb ⊢;rcases hb with(h|h)|h <;> simp[h]
theorem QoP{f:Int->Int}{n:Int}:∀{s:List Int},(∀a∈s,f a=f n->a=n)->plc (s.map f) (f n)=plc s n
 |[],h=>rfl
 |a::s,h=>by
  rw[List.map_cons,plc,plc]
  by_cases e:a=n
  ·rw[QwN e,QwN (by rw[e])]
  ·rw[QwJ e,QwJ (fun e'=>e (h a (by simp) e')),QoP fun b hb=>h b (by simp[hb])]
theorem G.Qve(f g:Int->Int)(x:G):(x.mapV f).mapV g=x.mapV fun n=>g (f n):=by simp only[G.mapV,QfR]
theorem Qve(f g:Int->Int)(r:Rl):(r.mapV f).mapV g=r.mapV fun n=>g (f n):=by
 simp only[Rl.mapV,QxV]
 congr 1 <;> (apply QxB;intro x _;exact G.Qve f g x)
theorem Qr1(s:List Int):QpH (fun n=>((plc s n:Nat):Int)) s:=by
 intro a ha b hb e
 have e':plc s a=plc s b:=Int.ofNat.inj e
 have h1:=QkN ha
 have h2:=QkN hb
 rw[<-h1,<-h2]
 congr 1
mutual
theorem T.QvD{g:Int->Int}:∀(t:T),(t.map g).nds=t.nds
 | .mk k i n l=>by
  simp only[T.map]
  split
  ·simp only[T.nds]
  ·split
   ·simp only[T.nds,QhV l]
   ·rfl
theorem QhV{g:Int->Int}:∀(l:List T),ndsL (maps g l)=ndsL l
 |[]=>rfl
 |t::l=>by simp only[maps,ndsL,T.QvD t,QhV l]
end
theorem Qkr:∀l:List G,gN l=l.length+ndsG l
 |[]=>rfl
 |g::l=>by rw[gN,Qkr l,Qv2,ndsG];omega
theorem Qpx:∀l:List G,wG l=ndsG l
 |[]=>rfl
 |g::l=>by have:=Qpx l;simp only[wG,Qv4,List.sum_cons,ndsG]at this ⊢;rw[this];rfl
theorem QlM(f:Int->Int):∀l:List G,ndsG (l.map (G.mapV f))=ndsG l
 |[]=>rfl
 |g::l=>by rw[List.map_cons,ndsG,ndsG,QlM f l,G.mapV,QhV]
def Rl.small(r:Rl):Prop:=(r.keep.length<=300/\r.remove.length<=300/\r.guard.length<=300/\r.body.length<=300)/\ndsG r.keep<=300/\ndsG r.remove<=300/\ndsG r.guard<=300/\ndsG r.body<=300
theorem Rl.small.fits{r:Rl}(h:r.small):r.fits:=by
 obtain⟨⟨a,b,c,d⟩,e,f,g,i⟩:=h
 refine⟨by omega,by omega,by omega,by omega,?_⟩
 simp only[Qpx];omega
def Dc.ok(d:Dc):Prop:=d.name.size<=9223372036854775807/\i64 d.arity
def Pg.ok(p:Pg):Prop:=p.decls.length<=9223372036854775807/\p.rules.length<=9223372036854775807/\(∀d∈p.decls,d.ok)/\(∀r∈p.rules,r.ok)
theorem Qn8{n:Int}(h:(Lit.int .i64 n).wf=true):i64 n:=by
 simpa [Lit.wf,IntKind.min,IntKind.max,IntKind.signed,IntKind.bits,i64]using h
theorem QoE:∀(l:List T),(∀t∈l,t.ok)->oks l
 |[],_=>trivial
 |t::l,h=>⟨h t (by simp),QoE l fun x hx=>h x (by simp[hx])⟩
theorem Qq7{n:Nat}(h:n<=maxLen):n<=9223372036854775807:=by simp only[maxLen]at h;omega
theorem QmT{c:Cx}{s:Nat}{xs:List AV}{own:Option Nat}{u:Value}(h:Rel c (.sl s xs own) u):xs.length<=9223372036854775807:=by
 cases h with
 |slnil=>exact Qw3 _
 |slzero=>exact Qw3 _
 |sl _ _ _ B o cap f hs hcap hmax hc hr ht=>simp only[maxLen]at hmax;omega
theorem Qee{X:Type}{f:X->AV}{c:Cx}{s:Nat}{xs:List X}{own:Option Nat}{u:Value}(h:Rel c (.sl s (xs.map f) own) u):xs.length<=9223372036854775807:=by
 have:=QmT h;rwa [Qxj]at this
theorem Qo3{H:Type}(enc:TypeId×Value->H)(W:World):∀(fuel:Nat) (cs:List Value) (y:DataW H×List MemPlace),DataW.trod enc Tryz.prog W 0 (fun _=>true) true fuel 69 cs=some y->∃p:T,T.ok p/\Reads W (T.av p) cs:=by
 intro fuel
 induction fuel using Nat.strongRecOn with
 |_ fuel ih =>
 intro cs y h
 obtain⟨xs,fu,hfu,_,hl,hlen,hf⟩:=DataW.trod_struct Tryz.underlying69 h
 have hC:Tryz.prog.cellsOf 69=4:=by kernel_rfl
 rw[hC]at hl
 have hlenN:xs.length=4:=hlen
 obtain⟨y0,l1,rfl,k1⟩:=Y7 hlenN
 obtain⟨y1,l2,rfl,k2⟩:=Y7 k1
 obtain⟨y2,l3,rfl,k3⟩:=Y7 k2
 obtain⟨y3,l4,rfl,k4⟩:=Y7 k3
 obtain rfl:=len_nil k4
 obtain⟨c0,l1,rfl,k1⟩:=Y7 hl
 obtain⟨c1,l2,rfl,k2⟩:=Y7 k1
 obtain⟨c2,l3,rfl,k3⟩:=Y7 k2
 obtain⟨c3,l4,rfl,k4⟩:=Y7 k3
 obtain rfl:=len_nil k4
 have g0:DataW.trod enc Tryz.prog W 0 (fun _=>true) true fu 3 (([c0,c1,c2,c3].drop 0).take (Tryz.prog.cellsOf 3))=some y0:=hf 0 _ rfl
 rw[show Tryz.prog.cellsOf 3=1 by kernel_rfl]at g0
 have g1:DataW.trod enc Tryz.prog W 0 (fun _=>true) true fu 3 (([c0,c1,c2,c3].drop 1).take (Tryz.prog.cellsOf 3))=some y1:=hf 1 _ rfl
 rw[show Tryz.prog.cellsOf 3=1 by kernel_rfl]at g1
 have g2:DataW.trod enc Tryz.prog W 0 (fun _=>true) true fu 9 (([c0,c1,c2,c3].drop 2).take (Tryz.prog.cellsOf 9))=some y2:=hf 2 _ rfl
 rw[show Tryz.prog.cellsOf 9=1 by kernel_rfl]at g2
 have g3:DataW.trod enc Tryz.prog W 0 (fun _=>true) true fu 44 (([c0,c1,c2,c3].drop 3).take (Tryz.prog.cellsOf 44))=some y3:=hf 3 _ rfl
 rw[show Tryz.prog.cellsOf 44=1 by kernel_rfl]at g3
 clear hf
 simp only[Qv6,QvY,Qv0,Qv7]at g0 g1 g2 g3
 obtain⟨f0,e0,_,w0⟩:=DataW.trod_int Tryz.underlying3 g0
 obtain⟨f1,e1,_,w1⟩:=DataW.trod_int Tryz.underlying3 g1
 obtain⟨f2,e2,_,w2⟩:=DataW.trod_string Tryz.underlying9 g2
 obtain⟨f3,u3,q3,e3,hu3,hr3⟩:=Qed (X:=T) (val:=T.av) (Good:=T.ok) (s:=4) Tryz.underlying44 (by kernel_rfl) (by omega) (fun t=>by rw[T.QuV];rfl) (fun m cs y hm hy=>ih m (by omega) cs y hy) g3
 have n3:=Qee hr3
 rw[<-QbK]at hr3
 cases e0
 cases e1
 cases e2
 cases e3
 refine⟨.mk f0 f1 f2 f3,by simp only[T.ok];exact⟨Qn8 w0,Qn8 w1,Qq7 w2,QoE _ q3⟩,rfl,fun j x v hx hv=>?_⟩
 rw[T.QuV]at hx
 simp only[T.kind,T.int,T.name,T.args]at hx
 match j,hx,hv with
 |0,hx,hv=>simp at hx hv;subst hx;subst hv;exact⟨.v _,rfl⟩
 |1,hx,hv=>simp at hx hv;subst hx;subst hv;exact⟨.v _,rfl⟩
 |2,hx,hv=>simp at hx hv;subst hx;subst hv;exact⟨.v _,rfl⟩
 |3,hx,hv=>simp at hx hv;subst hx;subst hv;exact⟨hr3,hu3⟩
 |j+4,hx,hv=>simp at hx
theorem Qo2{H:Type}(enc:TypeId×Value->H)(W:World)(fuel:Nat)(cs:List Value)(y:DataW H×List MemPlace)(h:DataW.trod enc Tryz.prog W 0 (fun _=>true) true fuel 53 cs=some y):∃p:G,G.ok p/\Reads W (G.goal p) cs:=by
 obtain⟨xs,fu,hfu,_,hl,hlen,hf⟩:=DataW.trod_struct Tryz.underlying53 h
 have hC:Tryz.prog.cellsOf 53=3:=by kernel_rfl
 rw[hC]at hl
 have hlenN:xs.length=3:=hlen
 obtain⟨y0,l1,rfl,k1⟩:=Y7 hlenN
 obtain⟨y1,l2,rfl,k2⟩:=Y7 k1
 obtain⟨y2,l3,rfl,k3⟩:=Y7 k2
 obtain rfl:=len_nil k3
 obtain⟨c0,l1,rfl,k1⟩:=Y7 hl
 obtain⟨c1,l2,rfl,k2⟩:=Y7 k1
 obtain⟨c2,l3,rfl,k3⟩:=Y7 k2
 obtain rfl:=len_nil k3
 have g0:DataW.trod enc Tryz.prog W 0 (fun _=>true) true fu 3 (([c0,c1,c2].drop 0).take (Tryz.prog.cellsOf 3))=some y0:=hf 0 _ rfl
 rw[show Tryz.prog.cellsOf 3=1 by kernel_rfl]at g0
 have g1:DataW.trod enc Tryz.prog W 0 (fun _=>true) true fu 9 (([c0,c1,c2].drop 1).take (Tryz.prog.cellsOf 9))=some y1:=hf 1 _ rfl
 rw[show Tryz.prog.cellsOf 9=1 by kernel_rfl]at g1
 have g2:DataW.trod enc Tryz.prog W 0 (fun _=>true) true fu 44 (([c0,c1,c2].drop 2).take (Tryz.prog.cellsOf 44))=some y2:=hf 2 _ rfl
 rw[show Tryz.prog.cellsOf 44=1 by kernel_rfl]at g2
 clear hf
 simp only[Qv6,QvY,Qv0,Qv7]at g0 g1 g2
 obtain⟨f0,e0,_,w0⟩:=DataW.trod_int Tryz.underlying3 g0
 obtain⟨f1,e1,_,w1⟩:=DataW.trod_string Tryz.underlying9 g1
 obtain⟨f2,u2,q2,e2,hu2,hr2⟩:=Qed (X:=T) (val:=T.av) (Good:=T.ok) (s:=4) Tryz.underlying44 (by kernel_rfl) (by omega) (fun t=>by rw[T.QuV];rfl) (fun m cs y _ hy=>Qo3 enc W m cs y hy) g2
 have n2:=Qee hr2
 rw[<-QbK]at hr2
 cases e0
 cases e1
 cases e2
 refine⟨⟨f0,f1,f2⟩,⟨Qn8 w0,Qq7 w1,QoE _ q2⟩,rfl,fun j x v hx hv=>?_⟩
 rw[Q4]at hx
 match j,hx,hv with
 |0,hx,hv=>simp at hx hv;subst hx;subst hv;exact⟨.v _,rfl⟩
 |1,hx,hv=>simp at hx hv;subst hx;subst hv;exact⟨.v _,rfl⟩
 |2,hx,hv=>simp at hx hv;subst hx;subst hv;exact⟨hr2,hu2⟩
 |j+3,hx,hv=>simp at hx
mutual
def T.Qu4:T->Bool
 | .mk k i n l =>
  if k=0 then decide (-2147483648<=i/\i<=2147483648)&&Ym n&&l.isEmpty else
  if k=1 then decide (0<=i/\i<=1048576)&&Ym n&&l.isEmpty else
  if k=2 then(if i≠0\/6<l.length then false else if (!YF n&&!(opB n&&decide (l.length=2)))=true then false else Qby l)else false
def Qby:List T->Bool
 |[]=>true
 |t::l=>t.Qu4&&Qby l
end
theorem T.Qvg(t:T):t.Qu4=if t.kind=0 then decide (-2147483648<=t.int/\t.int<=2147483648)&&Ym t.name&&t.args.isEmpty else
  if t.kind=1 then decide (0<=t.int/\t.int<=1048576)&&Ym t.name&&t.args.isEmpty else
  if t.kind=2 then(if t.int≠0\/6<t.args.length then false else if (!YF t.name&&!(opB t.name&&decide (t.args.length=2)))=true then false else Qby t.args)else false:=by
 cases t;rw[T.Qu4];rfl
mutual
theorem T.Qvy:∀(t:T) (b d:Int),(t.run b d).1=(t.Qu4&&decide ((t.size:Int)<=b/\(t.dep:Int)<=d))/\((t.run b d).1=true->(t.run b d).2=b - t.size)
 | .mk k i n l,b,d=>by
  have hs:=size_pos (.mk k i n l)
  have hd:1<=(T.mk k i n l).dep:=by rw[T.QvK];omega
  rw[T.run,T.Qu4]
  by_cases h1:b - 1<0\/d<1
  ·rw[QwN h1,QwY (show ¬(((T.mk k i n l).size:Int)<=b/\((T.mk k i n l).dep:Int)<=d) by omega),QyA]
   exact⟨rfl,fun h=>by cases h⟩
  rw[QwJ h1]
  have one:k≠2->(T.mk k i n l).size=1/\(T.mk k i n l).dep=1:=fun h=>by simp only[T.size,T.dep,QwJ h];exact⟨trivial,trivial⟩
  by_cases k0:k=0
  ·obtain⟨e1,e2⟩:=one (by omega)
   rw[QwN k0,QwN k0,e1,e2,Qw7 (show((1:Nat):Int)<=b/\((1:Nat):Int)<=d by omega),Bool.and_true]
   exact⟨rfl,fun _=>rfl⟩
  rw[QwJ k0,QwJ k0]
  by_cases k1:k=1
  ·obtain⟨e1,e2⟩:=one (by omega)
   rw[QwN k1,QwN k1,e1,e2,Qw7 (show((1:Nat):Int)<=b/\((1:Nat):Int)<=d by omega),Bool.and_true]
   exact⟨rfl,fun _=>rfl⟩
  rw[QwJ k1,QwJ k1]
  by_cases k2:k=2
  ·rw[QwN k2,QwN k2]
   by_cases h2:i≠0\/6<l.length
   ·rw[QwN h2,QwN h2];exact⟨rfl,fun h=>by cases h⟩
   rw[QwJ h2,QwJ h2]
   by_cases h3:(!YF n&&!(opB n&&decide (l.length=2)))=true
   ·rw[QwN h3,QwN h3];exact⟨rfl,fun h=>by cases h⟩
   rw[QwJ h3,QwJ h3]
   have e1:(T.mk k i n l).size=1+sizes l:=by simp only[T.size,QwN k2]
   have e2:(T.mk k i n l).dep=1+deps l:=by simp only[T.dep,QwN k2]
   obtain⟨r1,r2⟩:=QdI l (b - 1) (d - 1) (by omega) (by omega)
   rw[e1,e2]
   refine⟨?_,fun h=>by rw[r2 h];omega⟩
   rw[r1]
   congr 1
   exact decide_eq_decide.2 (by omega)
  ·rw[QwJ k2,QwJ k2];exact⟨rfl,fun h=>by cases h⟩
theorem QdI:∀(l:List T) (b d:Int),0<=b->0<=d->(runL l b d).1=(Qby l&&decide ((sizes l:Int)<=b/\(deps l:Int)<=d))/\((runL l b d).1=true->(runL l b d).2=b - sizes l)
 |[],b,d,hb,hd=>by
  rw[runL,Qby,sizes,deps,Qw7 (show((0:Nat):Int)<=b/\((0:Nat):Int)<=d by omega)]
  exact⟨rfl,fun _=>by omega⟩
 |t::l,b,d,hb,hd=>by
  obtain⟨r1,r2⟩:=T.Qvy t b d
  rw[runL,Qby,sizes,deps]
  by_cases h:(t.run b d).1=true
  ·rw[QwN h]
   have e:=r2 h
   rw[r1,QwQ,Qw1]at h
   obtain⟨hf,h1,h2⟩:=h
   obtain⟨q1,q2⟩:=QdI l (t.run b d).2 d (by omega) hd
   rw[hf,Qwz]
   refine⟨?_,fun h=>by rw[q2 h];omega⟩
   rw[q1]
   congr 1
   exact decide_eq_decide.2 (by omega)
  ·rw[QwJ h]
   refine⟨?_,fun h=>by cases h⟩
   rw[r1]at h
   cases hf:t.Qu4 with
   |false=>rfl
   |true =>
    rw[hf,Qwz,Qw1]at h
    rw[QwY (by omega),QyA]
end
theorem Qlg:∀(l:List UInt8) (a n:Nat),Lib.decFrom a l=some n->(∀c∈l,isD c=true)/\l.foldl (fun n c=>10 * n+(c.toNat - 48)) a=n
 |[],a,n,h=>by
  rw[Lib.decFrom]at h;cases h;exact⟨fun c hc=>(by cases hc),rfl⟩
 |c::l,a,n,h=>by
  rw[Lib.decFrom]at h
  cases hd:Lib.digitVal c with
  |none=>rw[hd]at h;cases h
  |some d =>
   rw[hd]at h
   have ih:=Qlg l _ n h
   rw[Lib.digitVal]at hd
   split at hd
   ·rename_i hc
    cases hd
    refine⟨fun x hx=>?_,?_⟩
    ·rcases QwS.1 hx with rfl|hx
     ·rw[isD,Qw1];exact hc
     ·exact ih.1 x hx
    ·rw[List.foldl_cons,<-ih.2];congr 1;omega
   ·cases hd
theorem QjM{p:UInt8->Bool}{l r:List UInt8}(h:∀c∈l,p c=true)(hr:∀c q,r=c::q->p c=false):(l++r).takeWhile p=l/\(l++r).dropWhile p=r:=by
 induction l with
 |nil =>
  cases r with
  |nil=>exact⟨rfl,rfl⟩
  |cons c q =>
   have:=hr c q rfl
   simp[Qym,List.dropWhile_cons,this]
 |cons c l ih =>
  have hc:=h c (by simp)
  have ih:=ih fun x hx=>h x (by simp[hx])
  rw[Qwh,Qym,List.dropWhile_cons,QwN hc,QwN hc,ih.1,ih.2]
  exact⟨rfl,rfl⟩
theorem QcB(n:Nat):(∀c∈Lib.decDigits n,isD c=true)/\numVal (Lib.decDigits n)=n:=Qlg _ _ _ (Qft n)
theorem Qlh(n:Nat):∃d r,Lib.decDigits n=d::r/\isD d=true/\(0<n->d.toNat≠48):=by
 induction n using Nat.strongRecOn with
 |_ n ih =>
  have hd:=(QcB n).1
  by_cases hn:n<10
  ·have e:Lib.decDigits n=[UInt8.ofNat (48+n)]:=by rw[Lib.decDigits,dif_pos hn]
   rw[e]at hd
   refine⟨_,_,e,hd _ (by simp),fun h=>?_⟩
   have:(UInt8.ofNat (48+n)).toNat=48+n:=by simp[UInt8.toNat_ofNat'];omega
   omega
  ·have e:Lib.decDigits n=Lib.decDigits (n / 10)++[UInt8.ofNat (48+n % 10)]:=by rw[Lib.decDigits,dif_neg hn]
   obtain⟨d,r,e2,h1,h2⟩:=ih (n / 10) (by omega)
   exact⟨d,r++[UInt8.ofNat (48+n % 10)],by rw[e,e2];rfl,h1,fun _=>h2 (by omega)⟩
theorem Qq3(s:ByteArray):mkB s.data.toList=s:=by cases s;rfl
theorem Ql4(k:Nat)(hk:k<=1048576):varV (vOf (decN k))=some k:=by
 have e:(vOf (decN k)).data.toList=86::(decN k).data.toList:=XT _ _
 rw[varV,e,List.drop_succ_cons,Qv6,QaB,Qft]
 simp only
 rw[QwN ⟨hk,by rw[e,QaB]⟩]
theorem QsW{s:ByteArray}(h:opB s=false):ofB s=0:=by
 simp only[opB,Bool.or_eq_false_iff]at h
 obtain⟨⟨⟨⟨h1,h2⟩,h3⟩,h4⟩,h5⟩:=h
 rw[ofB,h1,h2,h3,h4,h5];rfl
theorem QrV{s:ByteArray}(h:opB s=true):ofB s=if ((s.toList==({data:=#[43]}:ByteArray).toList)||(s.toList==({data:=#[45]}:ByteArray).toList))=true then 1 else 2:=by
 rw[ofB]
 cases h1:(s.toList==({data:=#[43]}:ByteArray).toList)||(s.toList==({data:=#[45]}:ByteArray).toList)with
 |true=>rfl
 |false =>
  simp only[opB,h1,QyG]at h
  rw[QwJ (by simp),QwN h,QwJ (by simp)]
theorem T.Qvd{t:T}(hf:t.Qu4=true)(k2:t.kind=2):t.int=0/\t.args.length<=6/\(YF t.name=true\/opB t.name=true/\t.args.length=2)/\Qby t.args=true:=by
 rw[T.Qvg,QwJ (by omega),QwJ (by omega),QwN k2]at hf
 split at hf
 ·cases hf
 rename_i h1
 split at hf
 ·cases hf
 rename_i h2
 refine⟨by omega,by omega,?_,hf⟩
 cases hr:YF t.name with
 |true=>exact .inl rfl
 |false =>
  refine .inr ?_
  rw[hr]at h2
  cases ho:opB t.name with
  |false=>rw[ho]at h2;exact absurd rfl h2
  |true =>
   rw[ho]at h2
   refine⟨rfl,?_⟩
   apply Classical.byContradiction
   intro hc
   rw[QwY hc]at h2
   exact h2 rfl
theorem T.Qvx(t:T):t.oper=0\/t.oper=1\/t.oper=2:=by
 rw[T.oper];split
 ·exact .inl rfl
 ·rw[ofB];split
  ·exact .inr (.inl rfl)
  ·split
   ·exact .inr (.inr rfl)
   ·exact .inl rfl
theorem ZZ:∀{l:List T},Qby l=true->∀t∈l,t.Qu4=true
 |x::l,h,t,ht=>by
  simp only[Qby,QwQ]at h
  rcases QwS.1 ht with rfl|ht
  ·exact h.1
  ·exact ZZ h.2 t ht
theorem QkS{s:ByteArray}(h:YF s=true):∃c q,s.data.toList=c::q/\(97<=c.toNat/\c.toNat<=122)/\∀x∈s.data.toList,isW x=true:=by
 rw[YF,QwQ,Qw1]at h
 obtain⟨⟨h1,h2,h3,h4⟩,_⟩:=h
 have hl:0<s.data.toList.length:=by rw[<-Lib.size_eq];omega
 obtain⟨c,q,e⟩:∃c q,s.data.toList=c::q:=by
  cases hh:s.data.toList with
  |nil=>rw[hh]at hl;cases hl
  |cons c q=>exact⟨c,q,rfl⟩
 refine⟨c,q,e,?_,fun x hx=>?_⟩
 ·have hb:byteAt s 0=(c.toNat:Nat):=by rw[byteAt,e];rfl
  rw[hb]at h3
  unfold ofN at h3
  split at h3
  ·omega
  ·split at h3
   ·cases h3
   ·split at h3 <;> cases h3
 ·obtain⟨k,hk,ek⟩:=List.getElem_of_mem hx
  have:=h4 k (by rw[Lib.size_eq];exact hk)
  have hb:byteAt s k=(x.toNat:Nat):=by rw[byteAt,Qxe,QwK hk,ek];rfl
  rw[hb,Qkn]at this
  rw[isW,isL,isD,Qxx,Qw1,Qw1]
  omega
def C(op:List UInt8->Res T)(st:Int)(t:T)(r:List UInt8):Res T:=QnF op st (r.length+1) t r
structure After (r:List UInt8):Prop where
 word:∀c q,r=c::q->isW c=false
 par:∀c q,skipSp r=c::q->c.toNat≠40
abbrev O(s:Bool)(n:Nat):List UInt8->Res T:=Qs2 s (QsZ s n)
def tlT(t:T):List UInt8:=t.txt.data.toList
def Sc(tot:Nat)(w:List UInt8)(ts:List Tk):Prop:=∀m,w.length<m->Qbb tot m w = .inl ts
theorem Sc.nil(tot:Nat):Sc tot [] [⟨0,((tot:Nat):Int),eB⟩]:=by
 intro m hm
 obtain⟨m,rfl⟩:∃k,m=k+1:=⟨m - 1,by simp at hm;omega⟩
 rfl
theorem Sc.sp{tot:Nat}{w:List UInt8}{ts:List Tk}{c:UInt8}(hc:isSp c=true)(h:Sc tot w ts):Sc tot (c::w) ts:=by
 intro m hm
 obtain⟨m,rfl⟩:∃k,m=k+1:=⟨m - 1,by simp at hm;omega⟩
 have e:XP false (c::w)=XP false w:=by rw[XP,QwN hc]
 have:=h (m+1) (by simp only[Qv2]at hm;omega)
 rw[Qbb]at this ⊢
 rw[e];exact this
theorem Qm0{x w:List UInt8}{k:Int}(hx:ZK (x++w) = .inl (k,x))(hk:k≠0):x≠[]/\XP false (x++w)=x++w:=by
 rcases Qik hx with⟨h,_⟩|⟨_,h1,_⟩
 ·exact absurd h hk
 refine⟨h1,?_⟩
 cases x with
 |nil=>exact absurd rfl h1
 |cons c r =>
  rw[Qwh,XP,QwJ,QwJ]
  ·intro h
   rw[Qwh,Qpn _ (.inr h)]at hx;cases hx
  ·intro h
   rw[Qwh,Qpn _ (.inl h)]at hx;cases hx
theorem Sc.tok{tot:Nat}{w:List UInt8}{ts:List Tk}{k:Int}{x:List UInt8}(hx:ZK (x++w) = .inl (k,x))(hk:k≠0)(h:Sc tot w ts):Sc tot (x++w) (⟨k,((tot - (x++w).length:Nat):Int),mkB x⟩::ts):=by
 intro m hm
 obtain⟨m,rfl⟩:∃k,m=k+1:=⟨m - 1,by omega⟩
 obtain⟨h1,h2⟩:=Qm0 hx hk
 have hl:0<x.length:=Qx9.2 h1
 rw[Qbb,h2,hx]
 simp only
 rw[QwJ hk,List.drop_left,h m (by rw[QwG]at hm;omega)]
theorem Sc.ne{tot:Nat}{w:List UInt8}{ts:List Tk}(h:Sc tot w ts):ts≠[]:=by
 have:=h (w.length+1) (QyB _)
 rw[Qbb]at this
 intro e
 subst e
 split at this
 ·cases this
 ·split at this
  ·cases this
  ·split at this <;> cases this
theorem knx{t:Tk}{ts:List Tk}(h:ts≠[])(N:List ByteArray):PS.nx ⟨t::ts,N⟩=⟨ts,N⟩:=by
 cases ts with
 |nil=>exact absurd rfl h
 |cons u r=>rfl
def symT(tot:Nat)(x w:List UInt8):Tk:=⟨4,((tot - (x++w).length:Nat):Int),mkB x⟩
theorem Sc.sym{tot:Nat}{w:List UInt8}{ts:List Tk}(x:List UInt8)(h0:∀c r,x=c::r->isL c=false/\isD c=false)(hne:x≠[])(hx:Qgg (x++w)=some x)(h:Sc tot w ts):Sc tot (x++w) (symT tot x w::ts):=by
 refine Sc.tok ?_ (by decide) h
 cases x with
 |nil=>exact absurd rfl hne
 |cons c r =>
  obtain⟨h1,h2⟩:=h0 c r rfl
  rw[Qwh]at hx ⊢
  rw[ZK,QwJ (by rw[h1];decide),QwJ (by rw[h2];decide),hx]
theorem Qag(tot:Nat)(x w:List UInt8)(ts:List Tk)(N:List ByteArray)(b:List UInt8):PS.is ⟨symT tot x w::ts,N⟩ b=(x==b):=by
 show(((4:Int)==4)&&((mkB x).toList==b))=_
 rw[Qav];rfl
theorem QcQ(tot:Nat)(x w:List UInt8)(ts:List Tk)(N:List ByteArray)(ops:List (List UInt8)):PS.oneOf ⟨symT tot x w::ts,N⟩ ops=ops.any fun b=>x==b:=by
 unfold PS.oneOf
 congr 1
 funext b
 exact Qag tot x w ts N b
theorem Sc.word{tot:Nat}{w:List UInt8}{ts:List Tk}{c:UInt8}{q:List UInt8}(hc:isL c=true)(hw:∀x∈c::q,isW x=true)(hl:(c::q).length<=40)(ha:∀d r,w=d::r->isW d=false)(h:Sc tot w ts) :
  Sc tot ((c::q)++w) (⟨if 97<=c.toNat then 1 else 2,((tot - ((c::q)++w).length:Nat):Int),mkB (c::q)⟩::ts):=by
 refine Sc.tok ?_ (by split <;> decide) h
 have e:=(QjM (r:=w) hw ha).1
 rw[Qwh]at e ⊢
 rw[ZK,QwN hc,e,QwJ (by omega)]
theorem Sc.digits{tot:Nat}{w:List UInt8}{ts:List Tk}{c:UInt8}{q:List UInt8}(hw:∀x∈c::q,isD x=true)(hl:numVal (c::q)<=2147483648)(ha:∀d r,w=d::r->isD d=false)(h:Sc tot w ts) :
  Sc tot ((c::q)++w) (⟨3,((tot - ((c::q)++w).length:Nat):Int),mkB (c::q)⟩::ts):=by
 refine Sc.tok ?_ (by decide) h
 have e:=(QjM (r:=w) hw ha).1
 have hd:isD c=true:=hw c (by simp)
 have hL:isL c=false:=by
  rw[isD,Qw1]at hd
  rw[isL,decide_eq_false_iff_not];omega
 rw[Qwh]at e ⊢
 rw[ZK,QwJ (by rw[hL];decide),QwN hd,e,QwJ (by omega)]
theorem Sc.wf{tot:Nat}{w:List UInt8}{ts:List Tk}(h:Sc tot w ts)(N:List ByteArray):PS.wf ⟨ts,N⟩:=by
 have:∀(m:Nat) (w:List UInt8) (ts:List Tk),w.length<m->Qbb tot m w = .inl ts->PS.wf ⟨ts,N⟩:=by
  intro m
  induction m with
  |zero=>intro w ts hm;omega
  |succ m ih =>
   intro w ts hm hs
   rw[Qbb]at hs
   have hsk:=QcO false w
   cases ht:ZK (XP false w)with
   |inr e=>rw[ht]at hs;cases hs
   |inl p =>
    obtain⟨k,x⟩:=p
    rw[ht]at hs
    simp only at hs
    split at hs
    ·cases hs
     exact⟨[],_,rfl,rfl,fun t ht=>by cases ht⟩
    ·rename_i k0
     rcases Qik ht with⟨k1,_,_⟩|⟨k1,hx1,r,hx2⟩
     ·exact absurd k1 k0
     ·have hpos:0<x.length:=Qx9.2 hx1
      have hlen:x.length<=(XP false w).length:=by rw[hx2,QwG];omega
      cases h2:Qbb tot m ((XP false w).drop x.length)with
      |inr e=>rw[h2]at hs;cases hs
      |inl us =>
       rw[h2]at hs
       cases hs
       obtain⟨l,e,h3,h4,h5⟩:=ih _ us (by rw[Qxi];omega) h2
       refine⟨_::l,e,by rw[show us=l++[e]from h3];rfl,h4,fun t ht=>?_⟩
       rcases QwS.1 ht with rfl|ht
       ·exact k0
       ·exact h5 t ht
 exact this (w.length+1) w ts (QyB _) (h _ (QyB _))
theorem Qkh{ex ex':PS->PR T}(hE:Eat 0 ex){N:Nat}(hx:∀s,s.wf->s.toks.length<=N->ex s=ex' s){s:PS}(hs:s.wf)(h:s.toks.length<=N+1):XN (XN (pOpT ex) XK) YA s=XN (XN (pOpT ex') XK) YA s:=by
 have hop:∀s,s.wf->s.toks.length<=N+1->pOpT ex s=pOpT ex' s:=fun s hs h=>by
  rw[pOpT,pOpT]
  split
  ·rfl
  split
  ·rfl
  split
  ·rename_i hk
   congr 1
   rw[ZH,ZH]
   refine bind_congr fun x s1 h1=>?_
   obtain⟨w1,l1⟩:=QeV s hs x s1 h1
   split
   ·rename_i hc
    have hl:=YU w1 (by rw[Qu1 hc];decide)
    rw[Qfh hE (ex':=ex') (N:=N) hx s1.toks.length s1.toks.length [] s1.nx (QaR w1) (by omega) (by omega) (by omega)]
   ·rfl
  split
  ·rfl
  split
  ·rename_i hc
   have hl:=YU hs (by rw[Qu1 hc];decide)
   rw[hx s.nx (QaR hs) (by omega)]
  ·rfl
 have hO:=(Qf2 hE).less (Qw3 1)
 have hmul:∀s,s.wf->s.toks.length<=N+1->XN (pOpT ex) XK s=XN (pOpT ex') XK s:=fun s hs h=>by
  rw[XN,XN,<-hop s hs h]
  refine bind_congr fun t s1 h1=>?_
  obtain⟨w1,l1⟩:=hO s hs t s1 h1
  exact Qak hO XK hop _ _ t s1 w1 (by omega) (by omega) (by omega)
 have hM:=Qbw hO XK
 show(XN (pOpT ex) XK s).bind (fun t s=>XX (XN (pOpT ex) XK) YA s.toks.length t s)=(XN (pOpT ex') XK s).bind (fun t s=>XX (XN (pOpT ex') XK) YA s.toks.length t s)
 rw[<-hmul s hs h]
 refine bind_congr fun t s1 h1=>?_
 obtain⟨w1,l1⟩:=hM s hs t s1 h1
 exact Qak hM YA hmul _ _ t s1 w1 (by omega) (by omega) (by omega)
abbrev OKt:PS->PR T:=pOpT X7
abbrev MKt:PS->PR T:=XN OKt XK
def CC(op:PS->PR T)(ops:List (List UInt8))(t:T)(s:PS):PR T:=XX op ops s.toks.length t s
theorem Qni:Eat 0 OKt:=(Qf2 (Qcs.less (Qw3 1))).less (Qw3 1)
theorem Qri:Eat 0 MKt:=Qbw Qni XK
theorem Qif{s:PS}(hs:s.wf):X7 s=(MKt s).bind fun t s=>CC MKt YA t s:=by
 have h1:X7 s=YE (s.toks.length+2) s:=(Qeg hs (by omega)).symm
 rw[h1]
 show XN (XN (pOpT (YE (s.toks.length+1))) XK) YA s=XN (XN (pOpT X7) XK) YA s
 exact Qkh ((Qcb _).less (Qw3 1)) (N:=s.toks.length) (fun s' hs' hl=>Qeg hs' (by omega)) hs (by omega)
theorem Qiu(s:PS):MKt s=(OKt s).bind fun t s=>CC OKt XK t s:=rfl
theorem Qc3{op:PS->PR T}{ops:List (List UInt8)}{t:T}{s:PS}(h:s.oneOf ops=false):CC op ops t s = .ok t s:=by
 unfold CC
 cases s.toks.length with
 |zero=>rfl
 |succ m=>rw[XX,QwJ (by rw[h];decide)]
theorem Qng{op:PS->PR T}(H:Eat 0 op){ops:List (List UInt8)}{t u:T}{s s2:PS}(hs:s.wf)(h:s.oneOf ops=true)(ho:op s.nx = .ok u s2):CC op ops t s=CC op ops (.mk 2 0 s.tk.text [t,u]) s2:=by
 have hl:=YU hs (by rw[Qd8 h];decide)
 obtain⟨w2,l2⟩:=H s.nx (QaR hs) u s2 ho
 unfold CC
 rw[<-hl,XX,QwN h,ho]
 exact Qak H ops (N:=s.nx.toks.length) (fun _ _ _=>rfl) _ _ _ s2 w2 (by omega) (by omega) (QwP _)
def labB(v:Int):ByteArray:=vOf (decN v.toNat)
def labs(u:List Int):List ByteArray:=u.map labB
def okV(u:List Int):Prop:=∀v∈u,0<=v/\v<=1048576
theorem okV.ins{u:List Int}(h:okV u){v:Int}(hv:0<=v/\v<=1048576):okV (ins u v):=fun w hw=>by
 rcases QfS.1 hw with h1|rfl
 ·exact h w h1
 ·exact hv
theorem Qlv(v:Int):(labB v).toList=86::(decN v.toNat).data.toList:=by rw[Lib.toList_data];exact XT _ _
theorem QrR{v w:Int}(hv:0<=v/\v<=1048576)(hw:0<=w/\w<=1048576)(h:(labB v).toList=(labB w).toList):v=w:=by
 rw[Lib.toList_data,Lib.toList_data]at h
 have e:labB v=labB w:=by
  cases hx:labB v with|mk a =>
  cases hy:labB w with|mk b =>
  rw[hx,hy]at h
  have:a=b:=Array.toList_inj.1 h
  rw[this]
 have h1:=Ql4 v.toNat (by omega)
 have h2:=Ql4 w.toNat (by omega)
 rw[show vOf (decN v.toNat)=labB v from rfl,e]at h1
 rw[show vOf (decN w.toNat)=labB w from rfl]at h2
 rw[h1]at h2
 have:=Qyb h2
 omega
theorem QfT{v:Int}(hv:0<=v/\v<=1048576):∀{u:List Int},okV u->nameAt (labs u) (labB v)=plc u v
 |[],_=>rfl
 |a::u,h=>by
  have ha:=h a (by simp)
  have ih:=QfT hv (u:=u) fun w hw=>h w (by simp[hw])
  show List.findIdx _ (labB a::labs u)=_
  rw[List.findIdx_cons,plc]
  by_cases e:a=v
  ·subst e
   rw[QwN rfl,beq_self_eq_true];rfl
  ·have:((labB a).toList==(labB v).toList)=false:=by
    rw[QxU]
    exact fun q=>e (QrR ha hv q)
   rw[QwJ e,this]
   show nameAt (labs u) (labB v)+1=_
   rw[ih]
theorem Qlw(u:List Int):(labs u).length=u.length:=Qxj _
theorem QqM{v:Int}(hv:0<=v/\v<=1048576){u:List Int}(hu:okV u)(ts:List Tk):pVari (labB v) ⟨ts,labs u⟩=(.mk 1 (gNum u v).1 eB [],⟨ts,labs (gNum u v).2⟩):=by
 have h95:(labB v).toList≠[95]:=by rw[Qlv];intro h;cases h
 unfold pVari
 simp only[gNum]
 rw[QfT hv hu,Qlw]
 by_cases hm:v∈u
 ·rw[QwN ⟨Qjt hm,h95⟩]
  rw[show ins u v=u from QwN hm]
 ·rw[QwJ (by rw[QoQ hm];omega)]
  rw[show ins u v=u++[v]from QwJ hm,Qbq [] hm]
  simp only[labs,Qxs,Qv4,Qv8]
def tails:List T->List UInt8
 |[]=>[]
 |t::l=>44::32::(tlT t++tails l)
theorem Qhh:∀l:List T,(X1 false (txts l)).data.toList=tails l
 |[]=>rfl
 |t::l=>by
  rw[txts,X1,XT,Qhh l,QwJ (by simp),XT]
  rfl
theorem QoH{t:T}(hf:t.Qu4=true)(h0:t.oper≠0):∃(c:UInt8) (x y:T),t = .mk 2 0 (mkB [c]) [x,y]/\ofB (mkB [c])=t.oper/\x.Qu4=true/\y.Qu4=true /\
  tlT t=(encB ((x.oper==1)&&(t.oper==2)) x.txt).data.toList++32::c::32::(encB ((y.oper != 0)&&((y.oper==1)||(t.oper==2))) y.txt).data.toList:=by
 have k2:t.kind=2:=by
  apply Classical.byContradiction;intro h;exact h0 (by rw[T.oper,QwN (.inl h)])
 have hl:t.args.length=2:=by
  apply Classical.byContradiction;intro h;exact h0 (by rw[T.oper,QwN (.inr h)])
 have er:t.oper=ofB t.name:=by rw[T.oper,QwJ (by omega)]
 obtain⟨hi,_,_,hfs⟩:=T.Qvd hf k2
 obtain⟨x,y,hxy⟩:∃x y,t.args=[x,y]:=by
  match hh:t.args,hl with
  |[x,y],_=>exact⟨x,y,rfl⟩
 have hop:opB t.name=true:=by
  cases h:opB t.name with
  |true=>rfl
  |false=>exact absurd (by rw[er,QsW h]) h0
 obtain⟨c,ec⟩:∃c,t.name=mkB [c]:=by
  simp only[opB,Qxx,QxL,Lib.toList_data]at hop
  rcases hop with(((h|h)|h)|h)|h
  all_goals exact⟨_,by rw[<-Qq3 t.name,h]⟩
 rw[hxy]at hfs
 refine⟨c,x,y,?_,?_,ZZ hfs x (by simp),ZZ hfs y (by simp),?_⟩
 ·cases t with|mk k i nm l=>simp only[T.kind,T.int,T.name,T.args]at k2 hi ec hxy;rw[k2,hi,ec,hxy]
 ·rw[er,ec]
 ·have:t.txt=binT (ofB t.name) t.name x.oper y.oper x.txt y.txt:=by
   cases t with|mk k i nm l =>
   simp only[T.args]at hxy
   subst hxy
   rw[T.txt,QwN h0];rfl
  rw[tlT,this,binT,<-er,ec]
  simp only[XT]
  show _++([32]++[c]++[32])++_=_
  simp
theorem QbP(b:Bool)(x:ByteArray):(encB b x).data.toList=if b=true then 40::(x.data.toList++[41])else x.data.toList:=by
 rw[encB];split
 ·rw[XT,XT];rfl
 ·rfl
abbrev nX(u:List Int)(t:T):T×List Int:=T.mapS gNum u t
abbrev nXs(u:List Int)(l:List T):List T×List Int:=XJ gNum u l
def KWd(w:List UInt8):Prop:=∀c q,w=c::q->isW c=false
structure Aft (w:List UInt8) (ts:List Tk):Prop where
 word:KWd w
 par:∀N,PS.is ⟨ts,N⟩ sLp=false
def NoS(ts:List Tk):Prop:=∀N,PS.oneOf ⟨ts,N⟩ XK=false
def NoA(ts:List Tk):Prop:=∀N,PS.oneOf ⟨ts,N⟩ YA=false
theorem KWd.dig{w:List UInt8}(h:KWd w):∀c q,w=c::q->isD c=false:=fun c q e=>by
 have:=h c q e
 rw[isW,Bool.or_eq_false_iff]at this
 exact this.2
theorem KWd.sp(w:List UInt8):KWd (32::w):=fun c q e=>by cases e;decide
def KO(t:T):Prop:=t.oper=0->∀(tot:Nat) (w:List UInt8) (ts:List Tk) (u:List Int),Sc tot w ts->Aft w ts->okV u->(tlT t).length+w.length<=tot ->
 ∃ts',Sc tot (tlT t++w) ts'/\okV (nX u t).2/\OKt ⟨ts',labs u⟩ = .ok (nX u t).1 ⟨ts,labs (nX u t).2⟩
def KP(t:T):Prop:=t.oper≠1->∀(tot:Nat) (w:List UInt8) (ts:List Tk) (u:List Int),Sc tot w ts->Aft w ts->okV u->(tlT t).length+w.length<=tot ->
 ∃ts',Sc tot (tlT t++w) ts'/\okV (nX u t).2/\MKt ⟨ts',labs u⟩=CC OKt XK (nX u t).1 ⟨ts,labs (nX u t).2⟩
def KE(t:T):Prop:=∀(tot:Nat) (w:List UInt8) (ts:List Tk) (u:List Int),Sc tot w ts->Aft w ts->NoS ts->okV u->(tlT t).length+w.length<=tot ->
 ∃ts',Sc tot (tlT t++w) ts'/\okV (nX u t).2/\X7 ⟨ts',labs u⟩=CC MKt YA (nX u t).1 ⟨ts,labs (nX u t).2⟩
theorem QkX{tot:Nat}{w:List UInt8}{ts:List Tk}{c:UInt8}{x:List UInt8}(hc:isW c=false)(h1:((c::x)==sLp)=false)(h2:XK.any (fun b=>(c::x)==b)=false)(h3:YA.any (fun b=>(c::x)==b)=false) :
  Aft ((c::x)++w) (symT tot (c::x) w::ts)/\NoS (symT tot (c::x) w::ts)/\NoA (symT tot (c::x) w::ts):=by
 refine⟨⟨fun d q e=>by cases e;exact hc,fun N=>by rw[Qag];exact h1⟩,fun N=>?_,fun N=>?_⟩
 ·rw[QcQ];exact h2
 ·rw[QcQ];exact h3
theorem QqE{tot:Nat}{w:List UInt8}{ts:List Tk}(h:Sc tot w ts):Sc tot (41::w) (symT tot [41] w::ts):=Sc.sym [41] (fun c r e=>by cases e;decide) (by simp) rfl h
theorem Qr8{tot:Nat}{w:List UInt8}{ts:List Tk}(h:Sc tot w ts):Sc tot (40::w) (symT tot [40] w::ts):=Sc.sym [40] (fun c r e=>by cases e;decide) (by simp) rfl h
theorem QlW{tot:Nat}{w:List UInt8}{ts:List Tk}(h:Sc tot w ts):Sc tot (44::w) (symT tot [44] w::ts):=Sc.sym [44] (fun c r e=>by cases e;decide) (by simp) rfl h
theorem Qdq{t:T}(H:KE t){c:UInt8}(hc:c=41\/c=44){tot:Nat}{w:List UInt8}{ts:List Tk}{u:List Int}(h:Sc tot (c::w) (symT tot [c] w::ts))(hu:okV u)(hl:(tlT t).length+w.length+1<=tot) :
  ∃ts',Sc tot (tlT t++c::w) ts'/\okV (nX u t).2/\X7 ⟨ts',labs u⟩ = .ok (nX u t).1 ⟨symT tot [c] w::ts,labs (nX u t).2⟩:=by
 have ha:Aft (c::w) (symT tot [c] w::ts)/\NoS (symT tot [c] w::ts)/\NoA (symT tot [c] w::ts):=by
  rcases hc with rfl|rfl
  ·exact QkX (x:=[]) (by decide) (by decide) (by decide) (by decide)
  ·exact QkX (x:=[]) (by decide) (by decide) (by decide) (by decide)
 obtain⟨ts',h1,h2,h3⟩:=H tot (c::w) _ u h ha.1 ha.2.1 hu (by rw[Qv2];omega)
 exact⟨ts',h1,h2,by rw[h3,Qc3 (ha.2.2 _)]⟩
theorem Qoj{t:T}(H:KE t){tot:Nat}{w:List UInt8}{ts:List Tk}{u:List Int}(h:Sc tot w ts)(hu:okV u)(hl:(tlT t).length+w.length+2<=tot) :
  ∃ts',Sc tot (40::(tlT t++41::w)) ts'/\okV (nX u t).2/\OKt ⟨ts',labs u⟩ = .ok (nX u t).1 ⟨ts,labs (nX u t).2⟩:=by
 obtain⟨ts1,h1,h2,h3⟩:=Qdq H (.inl rfl) (QqE h) hu (by omega)
 refine⟨_,Qr8 h1,h2,?_⟩
 have k1:=Qag tot [40] (tlT t++41::w) ts1 (labs u)
 have k2:=Qag tot [41] w ts (labs (nX u t).2)
 rw[OKt,pOpT,QwJ (by show(4:Int)≠3;decide),QwJ (by show(4:Int)≠2;decide),QwJ (by show(4:Int)≠1;decide),QwJ (by rw[k1];decide),QwN (by rw[k1];decide),knx h1.ne,h3]
 show(Z8 sRp _).bind _=_
 rw[Z8,QwN (by rw[k2];decide),knx h.ne];rfl
theorem Qg4:∀(l:List T) (t:T) (acc:List T) (tot:Nat) (w:List UInt8) (ts:List Tk) (u:List Int),(∀x∈t::l,KE x)->Sc tot w ts->okV u->(tlT t).length+(tails l).length+w.length+1<=tot ->
  ∃ts',Sc tot (tlT t++(tails l++41::w)) ts'/\okV (nXs u (t::l)).2/\∀m,ts'.length<m->Zh X7 m acc ⟨ts',labs u⟩ = .ok (acc++(nXs u (t::l)).1) ⟨ts,labs (nXs u (t::l)).2⟩
 |[],t,acc,tot,w,ts,u,H,h,hu,hl=>by
  obtain⟨ts1,h1,h2,h3⟩:=Qdq (H t (by simp)) (.inl rfl) (QqE h) hu (by simp only[tails,Qv3]at hl;omega)
  refine⟨ts1,h1,h2,fun m hm=>?_⟩
  obtain⟨m,rfl⟩:∃k,m=k+1:=⟨m - 1,by omega⟩
  have k2:=Qag tot [41] w ts (labs (nX u t).2)
  rw[Zh,h3]
  show(if PS.is ⟨_,_⟩ Qa7=true then _ else _)=_
  rw[QwJ (by rw[k2];decide)]
  show(Z8 sRp _).bind _=_
  rw[Z8,QwN (by rw[k2];decide),knx h.ne];rfl
 |x::l,t,acc,tot,w,ts,u,H,h,hu,hl=>by
  have hlen:(tails (x::l)).length=2+(tlT x).length+(tails l).length:=by simp[tails];omega
  have e:∀r,tails (x::l)++r=44::32::(tlT x++(tails l++r)):=fun r=>by simp[tails]
  -- what is behind the first
  have hu1:okV (nX u t).2:=by
   obtain⟨_,_,h2,_⟩:=Qdq (H t (by simp)) (.inl rfl) (QqE (Sc.nil tot)) hu (by simp only[Qv3];omega)
   exact h2
  obtain⟨ts1,h1,h2,h3⟩:=Qg4 l x (acc++[(nX u t).1]) tot w ts (nX u t).2 (fun y hy=>H y (QxT _ hy)) h hu1 (by omega)
  have hsc:=QlW (Sc.sp (c:=32) (by decide) h1)
  have hw1:(tlT x++(tails l++41::w)).length=(tlT x).length+(tails l).length+w.length+1:=by simp only[QwG,Qv2];omega
  obtain⟨ts2,h4,_,h5⟩:=Qdq (H t (by simp)) (.inr rfl) hsc hu (by rw[Qv2,hw1];omega)
  refine⟨ts2,by rw[e];exact h4,h2,fun m hm=>?_⟩
  obtain⟨m,rfl⟩:∃k,m=k+1:=⟨m - 1,by omega⟩
  have k2:=Qag tot [44] (32::(tlT x++(tails l++41::w))) ts1 (labs (nX u t).2)
  have hl2:=(Qcs _ (h4.wf (labs u)) _ _ h5).2
  simp only[Qv2]at hl2
  rw[Zh,h5]
  show(if PS.is ⟨_,_⟩ Qa7=true then _ else _)=_
  rw[QwN (by rw[k2];decide),knx h1.ne,h3 m (by omega),QwM]
  rfl
theorem Qd0(name:ByteArray)(t:T)(l:List T):(funT name (txts (t::l))).data.toList=name.data.toList++40::(tlT t++(tails l++[41])):=by
 rw[funT,encB,QwN (by simp[txts]),XT,XT,XT,txts,X1,QwN rfl,XT,Qhh]
 show _++(40::_++[41])=_
 simp[tlT]
theorem Qmy(name:ByteArray):(funT name (txts [])).data.toList=name.data.toList:=by
 rw[funT,encB,QwJ (by simp[txts]),txts,X1,XT];simp
theorem Qo8{s:ByteArray}(h:YF s=true):resB s=false/\s.data.toList.length<=40:=by
 rw[YF,QwQ,Qw1]at h
 obtain⟨⟨h1,h2,h3,h4⟩,h5⟩:=h
 refine⟨by simpa using h5,?_⟩
 rw[<-Lib.size_eq];omega
theorem Qg5(name:ByteArray)(hr:YF name=true)(l:List T)(H:∀t∈l,KE t){tot:Nat}{w:List UInt8}{ts:List Tk}{u:List Int}(h:Sc tot w ts)(ha:Aft w ts)(hu:okV u)(hl:(funT name (txts l)).data.toList.length+w.length<=tot) :
  ∃ts',Sc tot ((funT name (txts l)).data.toList++w) ts'/\okV (nXs u l).2/\(∃p r,ts'=⟨1,p,name⟩::r/\r≠[]/\((∀N,PS.is ⟨ts,N⟩ sAt=false)->∀N,PS.is ⟨r,N⟩ sAt=false))/\ZH X7 ⟨ts',labs u⟩ = .ok ⟨0,name,(nXs u l).1⟩ ⟨ts,labs (nXs u l).2⟩:=by
 obtain⟨c,q,e,hc,hall⟩:=QkS hr
 obtain⟨hres,h40⟩:=Qo8 hr
 have hL:isL c=true:=by rw[isL,Qw1];omega
 have hk:(if 97<=c.toNat then(1:Int)else 2)=1:=QwN hc.1
 have hname:mkB (c::q)=name:=by rw[<-e];cases name;rfl
 rw[e]at hall h40
 cases l with
 |nil =>
  have hs:=Sc.word hL hall h40 ha.word h
  rw[hk,hname]at hs
  refine⟨_,by rw[Qmy,e];exact hs,hu,⟨_,_,rfl,h.ne,fun q=>q⟩,?_⟩
  rw[ZH,Qco,QwJ (by show ¬((1:Int)≠1);decide),QwJ (by show ¬resB name=true;rw[hres];decide),knx h.ne]
  show(if PS.is ⟨ts,_⟩ sLp=true then _ else _)=_
  rw[QwJ (by rw[ha.par];decide)];rfl
 |cons t l =>
  rw[Qd0]at hl
  simp only[QwG,Qv2,Qv3]at hl
  obtain⟨ts1,h1,h2,h3⟩:=Qg4 l t [] tot w ts u H h hu (by omega)
  have hs1:=Qr8 h1
  have hs:=Sc.word hL hall h40 (fun d r e=>by cases e;decide) hs1
  rw[hk,hname]at hs
  refine⟨_,by rw[Qd0,e];simpa using hs,h2,⟨_,_,rfl,by simp,fun _ N=>by rw[Qag];decide⟩,?_⟩
  have k1:=Qag tot [40] (tlT t++(tails l++41::w)) ts1 (labs u)
  rw[ZH,Qco,QwJ (by show ¬((1:Int)≠1);decide),QwJ (by show ¬resB name=true;rw[hres];decide),knx (by simp)]
  show(if PS.is ⟨_,_⟩ sLp=true then _ else _)=_
  rw[QwN (by rw[k1];decide),knx h1.ne,h3 _ (by simp)];rfl
theorem Qrr{n:Nat}(h:n<10000000000):(Lib.decDigits n).length<=10:=by
 rw[Lib.decDigits_length]
 exact Qbg 9 n (Qxg h (by decide))
theorem QrQ{t:T}(hf:t.Qu4=true)(H:∀a∈t.args,KE a):KO t:=by
 intro h0 tot w ts u hS ha hu hl
 have et:∀(e:t.oper=0),t.txt=if t.kind=0 then decZ t.int else if t.kind=1 then vOf (decN t.int.toNat)else funT t.name (txts t.args):=fun e=>by
  cases t with|mk k i nm l=>rw[T.txt,QwJ (by rw[e];simp)];rfl
 have hfe:=hf
 rw[T.Qvg]at hfe
 have simple:∀{k:Int},t.kind=k->(Ym t.name&&t.args.isEmpty)=true->t = .mk k t.int eB []:=fun hk he=>by
  rw[QwQ]at he
  have e1:t.name=eB:=by
   have:=QaW he.1
   cases hh:t.name with|mk d =>
   rw[hh]at this
   have:d.size=0:=this
   have:d=#[]:=Array.eq_empty_of_size_eq_zero this
   rw[this];rfl
  have e2:t.args=[]:=by simpa using he.2
  cases t with|mk k' i nm l=>simp only[T.kind,T.name,T.args,T.int]at hk e1 e2 ⊢;rw[hk,e1,e2]
 by_cases k0:t.kind=0
 ·rw[QwN k0]at hfe
  simp only[Bool.and_assoc,QwQ,Qw1]at hfe
  have es:=simple k0 (by rw[QwQ];exact hfe.2)
  have e2:tlT t=(decZ t.int).data.toList:=by rw[tlT,et h0,QwN k0]
  have hn:nX u t=(t,u):=by rw[nX,T.Qu7,QwJ (by omega),QwJ (by omega)]
  rw[hn]
  by_cases hi:t.int<0
  ·obtain⟨d,q,ed,hd,_⟩:=Qlh t.int.natAbs
   obtain⟨hall,hv⟩:=QcB t.int.natAbs
   have e3:tlT t=45::(d::q):=by rw[e2,decZ,QwN hi,XT,QaB,ed];rfl
   rw[ed]at hall hv
   have h1:=Sc.digits hall (by rw[hv];omega) ha.word.dig hS
   have h2:Sc tot ([45]++((d::q)++w)) (symT tot [45] ((d::q)++w)::_):=Sc.sym [45] (fun c r e=>by cases e;decide) (by simp) rfl h1
   refine⟨_,by rw[e3];exact h2,hu,?_⟩
   have k1:=Qag tot [45] ((d::q)++w) (⟨3,((tot - ((d::q)++w).length:Nat):Int),mkB (d::q)⟩::ts) (labs u)
   rw[e3]at hl
   simp only[Qv2]at hl
   have hpos:((tot - ((d::q)++w).length:Nat):Int)=((tot - ([45]++((d::q)++w)).length:Nat):Int)+1:=by
    simp only[QwG,Qv2,Qv3];omega
   rw[OKt,pOpT,QwJ (by show(4:Int)≠3;decide),QwJ (by show(4:Int)≠2;decide),QwJ (by show(4:Int)≠1;decide),QwN (by rw[k1];decide),knx (by simp),QwJ (by
    rintro(h|h)
    ·exact h rfl
    ·exact h hpos),knx hS.ne]
   show PR.ok (T.mk 0 (-valT (mkB (d::q))) eB []) _=_
   have:t = .mk 0 (-valT (mkB (d::q))) eB []:=by
    rw[es,valT,Qav,hv];congr 1;show t.int=_;omega
   rw[<-this]
  ·obtain⟨d,q,ed,hd,_⟩:=Qlh t.int.toNat
   obtain⟨hall,hv⟩:=QcB t.int.toNat
   have e3:tlT t=d::q:=by rw[e2,decZ,QwJ hi,QaB,ed]
   rw[ed]at hall hv
   have h1:=Sc.digits hall (by rw[hv];omega) ha.word.dig hS
   refine⟨_,by rw[e3];exact h1,hu,?_⟩
   rw[OKt,pOpT,QwN (by rfl),knx hS.ne]
   show PR.ok (T.mk 0 (valT (mkB (d::q))) eB []) _=_
   have:t = .mk 0 (valT (mkB (d::q))) eB []:=by
    rw[es,valT,Qav,hv];congr 1;show t.int=_;omega
   rw[<-this]
 by_cases k1:t.kind=1
 ·rw[QwJ k0,QwN k1]at hfe
  simp only[Bool.and_assoc,QwQ,Qw1]at hfe
  have es:=simple k1 (by rw[QwQ];exact hfe.2)
  have e2:tlT t=(labB t.int).data.toList:=by rw[tlT,et h0,QwJ k0,QwN k1];rfl
  have hr:0<=t.int/\t.int<=1048576:=hfe.1
  have hn:nX u t=(.mk 1 (gNum u t.int).1 eB [],(gNum u t.int).2):=by
   rw[nX,T.Qu7,QwN k1,k1]
   have h1:t.name=eB:=Qxm T.name es
   have h2:t.args=[]:=Qxm T.args es
   rw[h1,h2]
  rw[hn]
  have e3:tlT t=86::Lib.decDigits t.int.toNat:=by rw[e2,<-Lib.toList_data,Qlv,QaB]
  have hall:∀c∈(86:UInt8)::Lib.decDigits t.int.toNat,isW c=true:=by
   intro c hc
   rcases QwS.1 hc with rfl|hc
   ·decide
   ·rw[isW,(QcB t.int.toNat).1 c hc,QxN]
  have hlen:=Qrr (n:=t.int.toNat) (by omega)
  have h1:=Sc.word (by decide) hall (by rw[Qv2];omega) ha.word hS
  have hlab:mkB (86::Lib.decDigits t.int.toNat)=labB t.int:=by
   rw[<-e3,e2];cases labB t.int;rfl
  rw[hlab]at h1
  refine⟨_,by rw[e3];exact h1,hu.ins hr,?_⟩
  rw[OKt,pOpT,QwJ (by show ¬(2:Int)=3;decide),QwN (by rfl),knx hS.ne]
  show PR.ok (pVari (labB t.int) ⟨ts,labs u⟩).1 (pVari (labB t.int) ⟨ts,labs u⟩).2=_
  rw[QqM hr hu ts]
 have k2:t.kind=2:=by
  apply Classical.byContradiction
  intro k2
  rw[QwJ k0,QwJ k1,QwJ k2]at hfe
  cases hfe
 obtain⟨hi,_,hnm,_⟩:=T.Qvd hf k2
 have hr:YF t.name=true:=by
  rcases hnm with h|⟨h,hl⟩
  ·exact h
  ·exfalso
   rw[T.oper,QwJ (by omega),QrV h]at h0
   split at h0 <;> cases h0
 have e2:tlT t=(funT t.name (txts t.args)).data.toList:=by rw[tlT,et h0,QwJ k0,QwJ k1]
 rw[e2]at hl ⊢
 obtain⟨ts',h1,h2,⟨p,r,rfl,_,_⟩,h4⟩:=Qg5 t.name hr t.args H hS ha hu hl
 have hn:nX u t=(.mk 2 0 t.name (nXs u t.args).1,(nXs u t.args).2):=by
  rw[nX,T.Qu7,QwJ k1,QwN k2,k2,hi]
 rw[hn]
 refine⟨_,h1,h2,?_⟩
 rw[OKt,pOpT,QwJ (by show ¬(1:Int)=3;decide),QwJ (by show ¬(1:Int)=2;decide),QwN (by rfl),h4];rfl
theorem QlX{tot:Nat}{w:List UInt8}{ts:List Tk}{x:List UInt8}(h0:∀c r,x=c::r->isL c=false/\isD c=false)(hne:x≠[])(hx:Qgg x=some x)(h:Sc tot w ts):Sc tot (x++32::w) (symT tot x (32::w)::ts) :=
 Sc.sym x h0 hne (by rw[Qsb (by decide)];exact hx) (Sc.sp (by decide) h)
theorem Qt2{c:UInt8}{st:Int}(h:ofB (mkB [c])=st)(h0:st≠0):(c=43\/c=45\/c=42\/c=47\/c=37)/\(st=1->c=43\/c=45)/\(st=2->c=42\/c=47\/c=37):=by
 have hc:c=43\/c=45\/c=42\/c=47\/c=37:=by
  apply Classical.byContradiction
  intro hn
  have e:∀d:UInt8,c≠d->(((mkB [c]).toList==({data:=#[d]}:ByteArray).toList)=false):=fun d h1=>by
   rw[Lib.toList_data,Lib.toList_data,QxU]
   intro hh
   have:c=d:=by simpa [mkB]using hh
   exact h1 this
  rw[ofB,e 43 (fun q=>hn (.inl q)),e 45 (fun q=>hn (.inr (.inl q))),e 42 (fun q=>hn (.inr (.inr (.inl q)))),e 47 (fun q=>hn (.inr (.inr (.inr (.inl q))))),e 37 (fun q=>hn (.inr (.inr (.inr (.inr q)))))]at h
  exact h0 h.symm
 refine⟨hc,fun h1=>?_,fun h2=>?_⟩
 ·rcases hc with rfl|rfl|rfl|rfl|rfl
  ·exact .inl rfl
  ·exact .inr rfl
  all_goals (exfalso;rw[<-h]at h1;revert h1;decide +kernel)
 ·rcases hc with rfl|rfl|rfl|rfl|rfl
  ·exfalso;rw[<-h]at h2;revert h2;decide +kernel
  ·exfalso;rw[<-h]at h2;revert h2;decide +kernel
  ·exact .inl rfl
  ·exact .inr (.inl rfl)
  ·exact .inr (.inr rfl)
theorem QqD{tot:Nat}{w:List UInt8}{ts:List Tk}{c:UInt8}{st:Int}(hc:ofB (mkB [c])=st)(h0:st≠0)(h:Sc tot w ts) :
  Sc tot (32::c::32::w) (symT tot [c] (32::w)::ts)/\Aft (32::c::32::w) (symT tot [c] (32::w)::ts)/\(∀N,PS.oneOf ⟨symT tot [c] (32::w)::ts,N⟩ XK=decide (st=2))/\(∀N,PS.oneOf ⟨symT tot [c] (32::w)::ts,N⟩ YA=decide (st=1)):=by
 obtain⟨h1,h2,h3⟩:=Qt2 hc h0
 have hst:st=1\/st=2:=by
  rw[<-hc,ofB]
  rw[<-hc,ofB]at h0
  split
  ·exact .inl rfl
  ·rename_i q
   rw[QwJ q]at h0
   split
   ·exact .inr rfl
   ·rename_i q2
    rw[QwJ q2]at h0
    exact absurd rfl h0
 refine⟨?_,⟨KWd.sp _,fun N=>?_⟩,fun N=>?_,fun N=>?_⟩
 ·refine Sc.sp (by decide) (QlX (x:=[c]) (fun d r e=>?_) (by simp) ?_ h)
  ·cases e;rcases h1 with rfl|rfl|rfl|rfl|rfl <;> exact⟨by decide,by decide⟩
  ·rcases h1 with rfl|rfl|rfl|rfl|rfl <;> rfl
 ·rw[Qag];rcases h1 with rfl|rfl|rfl|rfl|rfl <;> decide
 ·rw[QcQ]
  rcases hst with rfl|rfl
  ·rcases h2 rfl with rfl|rfl <;> decide
  ·rcases h3 rfl with rfl|rfl|rfl <;> decide
 ·rw[QcQ]
  rcases hst with rfl|rfl
  ·rcases h2 rfl with rfl|rfl <;> decide
  ·rcases h3 rfl with rfl|rfl|rfl <;> decide
theorem QsT(u:List Int)(n:ByteArray)(x y:T):nX u (.mk 2 0 n [x,y])=(.mk 2 0 n [(nX u x).1,(nX (nX u x).2 y).1],(nX (nX u x).2 y).2):=by
 rw[nX,T.Qu7,QwJ (by show ¬(2:Int)=1;decide),QwN (by rfl)];rfl
theorem Qok:∀(k:Nat) (t:T),t.nds<=k->t.Qu4=true->KO t/\KP t/\KE t:=by
 intro k
 induction k with
 |zero=>intro t hn;have:=T.Qu6 t;omega
 |succ k ih =>
  intro t hn hf
  have hnd:=T.Qu6 t
  have sub:∀a∈t.args,a.Qu4=true->KO a/\KP a/\KE a:=fun a ha hfa=>by
   obtain⟨j,hj,e⟩:=List.getElem_of_mem ha
   have:=QaQ hj
   rw[e]at this
   exact ih a (by omega) hfa
  have hro:KO t:=by
   refine QrQ hf fun a ha=>(sub a ha ?_).2.2
   by_cases k2:t.kind=2
   ·exact ZZ (T.Qvd hf k2).2.2.2 a ha
   ·exfalso
    rw[T.Qvg]at hf
    by_cases k0:t.kind=0
    ·rw[QwN k0]at hf
     simp only[QwQ]at hf
     have:t.args=[]:=by simpa using hf.2
     rw[this]at ha;cases ha
    ·rw[QwJ k0]at hf
     by_cases k1:t.kind=1
     ·rw[QwN k1]at hf
      simp only[QwQ]at hf
      have:t.args=[]:=by simpa using hf.2
      rw[this]at ha;cases ha
     ·rw[QwJ k1,QwJ k2]at hf;cases hf
  have hrp:KP t:=by
   intro h1 tot w ts u hS ha hu hl
   by_cases h0:t.oper=0
   ·obtain⟨ts',e1,e2,e3⟩:=hro h0 tot w ts u hS ha hu hl
    exact⟨ts',e1,e2,by rw[Qiu,e3];rfl⟩
   have h2:t.oper=2:=by have:=T.Qvx t;omega
   obtain⟨c,x,y,et,eo,hfx,hfy,etl⟩:=QoH hf h0
   have hx:=sub x (by rw[et];simp[T.args]) hfx
   have hy:=sub y (by rw[et];simp[T.args]) hfy
   rw[h2]at eo etl
   obtain⟨YL,eYL⟩:∃YL,YL=(encB ((y.oper != 0)&&((y.oper==1)||((2:Int)==2))) y.txt).data.toList:=⟨_,rfl⟩
   obtain⟨XL,eXL⟩:∃XL,XL=(encB ((x.oper==1)&&((2:Int)==2)) x.txt).data.toList:=⟨_,rfl⟩
   rw[<-eYL,<-eXL]at etl
   have hlen:=Qxm List.length etl
   simp only[QwG,Qv2]at hlen
   -- the right operand
   have ry:∀v,okV v->∃ts',Sc tot (YL++w) ts'/\okV (nX v y).2/\OKt ⟨ts',labs v⟩ = .ok (nX v y).1 ⟨ts,labs (nX v y).2⟩:=fun v hv=>by
    by_cases hy0:y.oper=0
    ·have eY:YL=tlT y:=by rw[eYL,QbP,QwJ (by rw[hy0];simp)];rfl
     rw[eY]at hlen ⊢
     exact hy.1 hy0 tot w ts v hS ha hv (by omega)
    ·have eY:YL=40::(tlT y++[41]):=by rw[eYL,QbP,QwN (by simp[hy0])];rfl
     rw[eY]at hlen ⊢
     simp only[QwG,Qv2,Qv3]at hlen
     have:=Qoj hy.2.2 hS hv (by omega)
     simpa using this
   -- the left one
   have rx:∀ts2,Sc tot (32::c::32::(YL++w)) ts2->Aft (32::c::32::(YL++w)) ts2->∃ts',Sc tot (XL++32::c::32::(YL++w)) ts'/\okV (nX u x).2/\MKt ⟨ts',labs u⟩=CC OKt XK (nX u x).1 ⟨ts2,labs (nX u x).2⟩:=fun ts2 h2 ha2=>by
    by_cases hx1:x.oper=1
    ·have eX:XL=40::(tlT x++[41]):=by rw[eXL,QbP,QwN (by rw[hx1];rfl)];rfl
     rw[eX]at hlen ⊢
     simp only[QwG,Qv2,Qv3]at hlen
     obtain⟨ts',e1,e2,e3⟩:=Qoj hx.2.2 h2 hu (by simp only[QwG,Qv2];omega)
     exact⟨ts',by simpa using e1,e2,by rw[Qiu,e3];rfl⟩
    ·have eX:XL=tlT x:=by rw[eXL,QbP,QwJ (by simp[hx1])];rfl
     rw[eX]at hlen ⊢
     exact hx.2.1 hx1 tot _ ts2 u h2 ha2 hu (by simp only[QwG,Qv2];omega)
   obtain⟨_,b1,_⟩:=ry [] (fun v hv=>by cases hv)
   obtain⟨o1,o2,_⟩:=QqD eo (by decide) b1
   obtain⟨_,_,hux,_⟩:=rx _ o1 o2
   obtain⟨ty,c1,c2,c3⟩:=ry (nX u x).2 hux
   obtain⟨o3,o4,o5,_⟩:=QqD eo (by decide) c1
   obtain⟨tx,d1,_,d3⟩:=rx _ o3 o4
   have e4:=o3.wf (labs (nX u x).2)
   rw[etl,QwM,Qwh,Qwh,Qwh]
   rw[et,QsT]
   refine⟨tx,d1,c2,?_⟩
   rw[d3,Qng Qni e4 (by rw[o5];rfl) (by rw[knx c1.ne];exact c3)];rfl
  refine⟨hro,hrp,?_⟩
  intro tot w ts u hS ha hns hu hl
  by_cases h1:t.oper=1
  ·obtain⟨c,x,y,et,eo,hfx,hfy,etl⟩:=QoH hf (by omega)
   have hx:=sub x (by rw[et];simp[T.args]) hfx
   have hy:=sub y (by rw[et];simp[T.args]) hfy
   rw[h1]at eo etl
   obtain⟨YL,eYL⟩:∃YL,YL=(encB ((y.oper != 0)&&((y.oper==1)||((1:Int)==2))) y.txt).data.toList:=⟨_,rfl⟩
   have eX:(encB ((x.oper==1)&&((1:Int)==2)) x.txt).data.toList=tlT x:=by rw[QbP,QwJ (by simp)];rfl
   rw[<-eYL,eX]at etl
   have hlen:=Qxm List.length etl
   simp only[QwG,Qv2]at hlen
   have ry:∀v,okV v->∃ts',Sc tot (YL++w) ts'/\okV (nX v y).2/\MKt ⟨ts',labs v⟩ = .ok (nX v y).1 ⟨ts,labs (nX v y).2⟩:=fun v hv=>by
    by_cases hy1:y.oper=1
    ·have eY:YL=40::(tlT y++[41]):=by rw[eYL,QbP,QwN (by rw[hy1];rfl)];rfl
     rw[eY]at hlen ⊢
     simp only[QwG,Qv2,Qv3]at hlen
     obtain⟨ts',e1,e2,e3⟩:=Qoj hy.2.2 hS hv (by omega)
     refine⟨ts',by simpa using e1,e2,?_⟩
     rw[Qiu,e3]
     exact Qc3 (hns _)
    ·have eY:YL=tlT y:=by rw[eYL,QbP,QwJ (by simp[hy1])];rfl
     rw[eY]at hlen ⊢
     obtain⟨ts',e1,e2,e3⟩:=hy.2.1 hy1 tot w ts v hS ha hv (by omega)
     exact⟨ts',e1,e2,by rw[e3];exact Qc3 (hns _)⟩
   have rx:∀ts2,Sc tot (32::c::32::(YL++w)) ts2->Aft (32::c::32::(YL++w)) ts2->NoS ts2->∃ts',Sc tot (tlT x++32::c::32::(YL++w)) ts'/\okV (nX u x).2/\X7 ⟨ts',labs u⟩=CC MKt YA (nX u x).1 ⟨ts2,labs (nX u x).2⟩:=fun ts2 h2 ha2 hn2 =>
    hx.2.2 tot _ ts2 u h2 ha2 hn2 hu (by simp only[QwG,Qv2];omega)
   obtain⟨_,b1,_⟩:=ry [] (fun v hv=>by cases hv)
   obtain⟨o1,o2,o5,_⟩:=QqD eo (by decide) b1
   obtain⟨_,_,hux,_⟩:=rx _ o1 o2 (fun N=>by rw[o5];rfl)
   obtain⟨ty,c1,c2,c3⟩:=ry (nX u x).2 hux
   obtain⟨o3,o4,o6,o7⟩:=QqD eo (by decide) c1
   obtain⟨tx,d1,_,d3⟩:=rx _ o3 o4 (fun N=>by rw[o6];rfl)
   have e4:=o3.wf (labs (nX u x).2)
   rw[etl,QwM,Qwh,Qwh,Qwh]
   rw[et,QsT]
   refine⟨tx,d1,c2,?_⟩
   rw[d3,Qng Qri e4 (by rw[o7];rfl) (by rw[knx c1.ne];exact c3)];rfl
  ·obtain⟨ts',e1,e2,e3⟩:=hrp h1 tot w ts u hS ha hu hl
   refine⟨ts',e1,e2,?_⟩
   rw[Qif (e1.wf _),e3,Qc3 (hns _)];rfl
theorem Qd2{t:T}(hf:t.Qu4=true):KE t:=(Qok t.nds t (QwP _) hf).2.2
mutual
/-- a valid term stays one when its variables are renamed -/
theorem T.run_map{f:Int->Int}:∀(t:T) (b d:Int),(∀v∈t.vars,0<=f v/\f v<=1048576)->(t.run b d).1=true->(t.map f).run b d=t.run b d
 | .mk k i n l,b,d,hf,h=>by
  rw[T.run]at h
  rw[T.map]
  rw[T.vars]at hf
  by_cases k1:k=1
  ·rw[QwN k1]at hf ⊢
   have hi:=hf i (by simp)
   rw[T.run,T.run]
   split at h
   ·cases h
   ·rename_i hb
    rw[QwJ hb,QwJ hb]
    have k0:¬k=0:=by omega
    rw[QwJ k0,QwJ k0,QwN k1,QwN k1]
    simp only[QwJ k0]at h
    simp only[QwQ,Qw1]at h
    rw[h.1.2,h.2,Qw7 hi,Qw7 h.1.1]
  ·by_cases k2:k=2
   ·rw[QwJ k1,QwN k2]at hf ⊢
    rw[T.run,T.run]
    split at h
    ·cases h
    ·rename_i hb
     rw[QwJ hb,QwJ hb]
     have k0:¬k=0:=by omega
     simp only[QwJ k0]at h
     rw[QwJ k0,QwJ k0,QwJ k1,QwJ k1,QwN k2,QwN k2,Qdu]
     split at h
     ·cases h
     ·rename_i h6
      rw[QwJ h6,QwJ h6]
      split at h
      ·cases h
      ·rename_i hn
       rw[QwJ hn,QwJ hn]
       exact QeY l _ _ hf h
   ·rw[QwJ k1,QwJ k2]
theorem QeY{f:Int->Int}:∀(l:List T) (b d:Int),(∀v∈Xd l,0<=f v/\f v<=1048576)->(runL l b d).1=true->runL (maps f l) b d=runL l b d
 |[],_,_,_,_=>rfl
 |t::l,b,d,hf,h=>by
  rw[Xd]at hf
  rw[runL]at h
  split at h
  ·rename_i ht
   rw[maps,runL,runL,T.run_map t b d (fun v hv=>hf v (Qxf.2 (.inl hv))) ht,QwN ht,QwN ht]
   exact QeY l _ _ (fun v hv=>hf v (Qxf.2 (.inr hv))) h
  ·cases h
theorem Qdu{f:Int->Int}:∀l:List T,(maps f l).length=l.length
 |[]=>rfl
 |t::l=>by rw[maps,Qv2,Qv2,Qdu l]
end
def kG(u:List Int)(g:G):G×List Int:=(⟨g.op,g.name,(nXs u g.args).1⟩,(nXs u g.args).2)
theorem Qjh(u:List Int)(l:List T):nXs u l=(maps (fun n=>((plc (ded u (Xd l)) n:Nat):Int)) l,ded u (Xd l)):=by
 have:=QaT u l []
 rwa [Qwi]at this
theorem QqY(u:List Int)(g:G):(kG u g).2.length<=u.length+ndsL g.args:=by
 rw[kG,Qjh]
 have h1:=Y2 u (Xd g.args)
 have h2:(Xd g.args).length<=ndsL g.args:=by
  have:∀l:List T,(Xd l).length<=ndsL l:=fun l=>by
   induction l with
   |nil=>exact QwP _
   |cons t l ih=>rw[Xd,ndsL,QwG];have:=T.Qu2 t;omega
  exact this _
 show(ded u (Xd g.args)).length<=_
 omega
theorem Qlt{u:List Int}{g:G}(hb:u.length+ndsL g.args<=1000000):∀v∈Xd g.args,0<=((plc (ded u (Xd g.args)) v:Nat):Int)/\((plc (ded u (Xd g.args)) v:Nat):Int)<=1048576:=fun v hv=>by
 have h1:=Qjt (s:=ded u (Xd g.args)) (Qd6.2 (.inr hv))
 have h2:=QqY u g
 rw[kG,Qjh]at h2
 have h3:(ded u (Xd g.args)).length<=u.length+ndsL g.args:=h2
 omega
theorem QrO{u:List Int}{g:G}(hb:u.length+ndsL g.args<=1000000)(h:Xa g=true):Xa (kG u g).1=true:=by
 rw[Xa,QwQ,QwQ]at h ⊢
 obtain⟨h1,h2,h3⟩:=h
 rw[kG,Qjh]
 refine⟨h1,?_,?_⟩
 ·show decide ((maps _ g.args).length<=6)=true
  rw[Qdu];exact h2
 ·show(runL (maps _ g.args) 200 20).1=true
  rw[QeY _ _ _ (Qlt hb) h3];exact h3
theorem Qog{u:List Int}{g:G}(hb:u.length+ndsL g.args<=1000000)(h:QL g=true):QL (kG u g).1=true:=by
 by_cases k0:g.op=0
 ·rw[QL,QwN k0]at h
  have:=QrO (u:=u) (g:=⟨0,g.name,g.args⟩) hb h
  rw[QL,QwN (by exact k0)];exact this
 ·rw[QL,QwJ k0]at h
  rw[QL,QwJ (by exact k0)]
  simp only[QwQ]at h ⊢
  obtain⟨h1,h2,h3,h4⟩:=h
  rw[kG,Qjh]
  refine⟨h1,h2,?_,?_⟩
  ·show decide (((maps _ g.args).length:Int)=_)=true
   rw[Qdu];exact h3
  ·show(runL (maps _ g.args) 200 20).1=true
   rw[QeY _ _ _ (Qlt hb) h4];exact h4
theorem QgX{g:G}(h:QL g=true):Qby g.args=true/\g.args.length<=6/\(g.op=0->YF g.name=true)/\(g.op≠0->g.name=eB/\0<g.op/\g.op<=12/\(g.args.length:Int)=Qa1 g.op):=by
 by_cases k0:g.op=0
 ·rw[QL,QwN k0,Xa,QwQ,QwQ,Qw1]at h
  obtain⟨h1,h2,h3⟩:=h
  have h5:=(QdI g.args 200 20 (by decide) (by decide)).1
  rw[h5,QwQ]at h3
  exact⟨h3.1,h2,fun _=>h1,fun q=>absurd k0 q⟩
 ·rw[QL,QwJ k0]at h
  simp only[QwQ,Qw1]at h
  obtain⟨h1,h2,h3,h4⟩:=h
  have h5:=(QdI g.args 200 20 (by decide) (by decide)).1
  rw[h5,QwQ]at h4
  have hnm:g.name=eB:=by
   have:=QaW h2
   cases hh:g.name with|mk d =>
   rw[hh]at this
   have:d.size=0:=this
   have:d=#[]:=Array.eq_empty_of_size_eq_zero this
   rw[this];rfl
  have hn:Qa1 g.op<=6:=by
   have:g.op=1\/g.op=2\/g.op=3\/g.op=4\/g.op=5\/g.op=6\/g.op=7\/g.op=8\/g.op=9\/g.op=10\/g.op=11\/g.op=12:=by omega
   rcases this with h|h|h|h|h|h|h|h|h|h|h|h <;> rw[h] <;> decide
  exact⟨h4.1,by omega,fun q=>absurd q k0,fun _=>⟨hnm,h1.1,h1.2,h3⟩⟩
structure GA (w:List UInt8) (ts:List Tk):Prop where
 a:Aft w ts
 s:NoS ts
 p:NoA ts
 c:∀N,cmpOp ⟨ts,N⟩=none
theorem QjN{s s2:PS}{t:T}(hs:s.wf)(h:X7 s = .ok t s2):¬(s.tk.kind=1/\resB s.tk.text=true):=by
 rintro⟨h1,h2⟩
 have e:OKt s = .err s.tk.pos 7:=by
  rw[OKt,pOpT,QwJ (by omega),QwJ (by omega),QwN h1,ZH,Qco,QwJ (by omega),QwN h2];rfl
 rw[Qif hs,Qiu,e]at h
 cases h
theorem QfL{t:T}(hf:t.Qu4=true){tot:Nat}{w:List UInt8}{ts:List Tk}{u:List Int}(h:Sc tot w ts)(ha:Aft w ts)(hs:NoS ts)(hp:NoA ts)(hu:okV u)(hl:(tlT t).length+w.length<=tot) :
  ∃ts',Sc tot (tlT t++w) ts'/\okV (nX u t).2/\X7 ⟨ts',labs u⟩ = .ok (nX u t).1 ⟨ts,labs (nX u t).2⟩:=by
 obtain⟨ts',h1,h2,h3⟩:=Qd2 hf tot w ts u h ha hs hu hl
 exact⟨ts',h1,h2,by rw[h3,Qc3 (hp _)]⟩
def tG(g:G):List UInt8:=(Qac g).data.toList
theorem Qpc{tot:Nat}{w:List UInt8}{ts:List Tk}{c:UInt8}{q:List UInt8}(hc:isL c=true)(h97:97<=c.toNat)(hw:∀x∈c::q,isW x=true)(hl:(c::q).length<=40)(ha:KWd w)(h:Sc tot w ts) :
  Sc tot ((c::q)++w) (⟨1,((tot - ((c::q)++w).length:Nat):Int),mkB (c::q)⟩::ts):=by
 have:=Sc.word hc hw hl ha h
 rwa [QwN h97]at this
theorem QrD(n:ByteArray)(x:T):(funT n (txts [x])).data.toList=n.data.toList++40::(tlT x++[41]):=by
 rw[Qd0];simp[tails]
theorem Qqk{x:T}(hf:x.Qu4=true)(op:Int){tot:Nat}{w:List UInt8}{ts:List Tk}{u:List Int}(h:Sc tot w ts)(hu:okV u)(hl:(tlT x).length+w.length+2<=tot) :
  ∃ts',Sc tot (40::(tlT x++41::w)) ts'/\okV (nX u x).2/\Qcp op ⟨ts',labs u⟩ = .ok ⟨op,eB,[(nX u x).1]⟩ ⟨ts,labs (nX u x).2⟩:=by
 obtain⟨ts1,h1,h2,h3⟩:=Qdq (Qd2 hf) (.inl rfl) (QqE h) hu (by omega)
 have k1:=Qag tot [40] (tlT x++41::w) ts1 (labs u)
 have k2:=Qag tot [41] w ts (labs (nX u x).2)
 refine⟨_,Qr8 h1,h2,?_⟩
 rw[Qcp,Z8,QwN (by rw[k1];decide),knx h1.ne]
 show(X7 _).bind _=_
 rw[h3]
 show(Z8 sRp _).bind _=_
 rw[Z8,QwN (by rw[k2];decide),knx h.ne];rfl
theorem Qq6{tot:Nat}{w:List UInt8}{ts:List Tk}{op:Int}(h3:3<=op)(h10:op<=10)(h:Sc tot w ts) :
  ∃t0,Sc tot (32::((QeI op).data.toList++32::w)) (t0::ts)/\Aft (32::((QeI op).data.toList++32::w)) (t0::ts)/\NoS (t0::ts)/\NoA (t0::ts)/\∀N,cmpOp ⟨t0::ts,N⟩=some (op,false):=by
 have hs:Sc tot (32::w) ts:=Sc.sp (by decide) h
 have sy:∀(c:UInt8) (r:List UInt8),(isL c=false/\isD c=false)->Qgg (c::r)=some (c::r)->((c::r)==sLp)=false->XK.any (fun b=>(c::r)==b)=false->YA.any (fun b=>(c::r)==b)=false ->
   (∀N,cmpOp ⟨symT tot (c::r) (32::w)::ts,N⟩=some (op,false))->∃t0,Sc tot (32::((c::r)++32::w)) (t0::ts)/\Aft (32::((c::r)++32::w)) (t0::ts)/\NoS (t0::ts)/\NoA (t0::ts)/\∀N,cmpOp ⟨t0::ts,N⟩=some (op,false):=fun c r h1 h2 h3 h4 h5 h6 =>
  ⟨_,Sc.sp (by decide) (QlX (fun d q e=>by cases e;exact h1) (by simp) h2 h),⟨KWd.sp _,fun N=>by rw[Qag];exact h3⟩,fun N=>by rw[QcQ];exact h4,fun N=>by rw[QcQ];exact h5,h6⟩
 have cm:∀(x:List UInt8) N,cmpOp ⟨symT tot x (32::w)::ts,N⟩=if x=[61]then some (3,false)else if x=[61,61]then some (5,false)else if x=[92,61]then some (6,false)else if x=[60]then some (7,false)else if x=[61,60]then some (8,false)else if x=[62]then some (7,true)else
   if x=[62,61]then some (8,true)else if x=[61,58,61]then some (9,false)else if x=[61,92,61]then some (10,false)else none:=fun x N=>by
  have e:(PS.tk ⟨symT tot x (32::w)::ts,N⟩).text.toList=x:=by show(mkB x).toList=x;rw[Qav]
  rw[cmpOp,QwJ (by show ¬(4:Int)=1;decide),QwJ (by show ¬(4:Int)≠4;decide),e]
 have:op=3\/op=4\/op=5\/op=6\/op=7\/op=8\/op=9\/op=10:=by omega
 rcases this with rfl|rfl|rfl|rfl|rfl|rfl|rfl|rfl
 ·exact sy 61 [] ⟨by decide,by decide⟩ rfl (by decide) (by decide) (by decide) (fun N=>by rw[cm];rfl)
 ·have h1:=Qpc (tot:=tot) (c:=105) (q:=[115]) (by decide) (by decide) (by decide) (by decide) (KWd.sp w) hs
  refine⟨_,Sc.sp (by decide) h1,⟨KWd.sp _,fun N=>rfl⟩,fun N=>rfl,fun N=>rfl,fun N=>?_⟩
  rw[cmpOp,QwN (by rfl),QwN (by show(mkB [105,115]).toList=_;rw[Qav])]
 ·exact sy 61 [61] ⟨by decide,by decide⟩ rfl (by decide) (by decide) (by decide) (fun N=>by rw[cm];rfl)
 ·exact sy 92 [61] ⟨by decide,by decide⟩ rfl (by decide) (by decide) (by decide) (fun N=>by rw[cm];rfl)
 ·exact sy 60 [] ⟨by decide,by decide⟩ rfl (by decide) (by decide) (by decide) (fun N=>by rw[cm];rfl)
 ·exact sy 61 [60] ⟨by decide,by decide⟩ rfl (by decide) (by decide) (by decide) (fun N=>by rw[cm];rfl)
 ·exact sy 61 [58,61] ⟨by decide,by decide⟩ rfl (by decide) (by decide) (by decide) (fun N=>by rw[cm];rfl)
 ·exact sy 61 [92,61] ⟨by decide,by decide⟩ rfl (by decide) (by decide) (by decide) (fun N=>by rw[cm];rfl)
theorem Qov(u:List Int)(x y:T):nXs u [x,y]=([(nX u x).1,(nX (nX u x).2 y).1],(nX (nX u x).2 y).2):=rfl
theorem Qd1{g:G}(hr:QL g=true){tot:Nat}{w:List UInt8}{ts:List Tk}{u:List Int}(h:Sc tot w ts)(ha:GA w ts)(hu:okV u)(hl:(tG g).length+w.length<=tot) :
  ∃ts',Sc tot (tG g++w) ts'/\okV (nXs u g.args).2/\Y9 ⟨ts',labs u⟩ = .ok (kG u g).1 ⟨ts,labs (kG u g).2⟩:=by
 obtain⟨hfs,h6,hn0,hn1⟩:=QgX hr
 by_cases k0:g.op=0
 ·have hnm:=hn0 k0
  have et:tG g=(funT g.name (txts g.args)).data.toList:=by rw[tG,Qac,QwN k0]
  rw[et]at hl ⊢
  obtain⟨ts',h1,h2,⟨p,r,rfl,_,_⟩,h4⟩:=Qg5 g.name hnm g.args (fun t ht=>Qd2 (ZZ hfs t ht)) h ha.a hu hl
  have hop:OKt ⟨⟨1,p,g.name⟩::r,labs u⟩ = .ok (.mk 2 0 g.name (nXs u g.args).1) ⟨ts,labs (nXs u g.args).2⟩:=by
   rw[OKt,pOpT,QwJ (by show ¬(1:Int)=3;decide),QwJ (by show ¬(1:Int)=2;decide),QwN (by rfl),h4];rfl
  refine⟨_,h1,h2,?_⟩
  have ht:X7 ⟨⟨1,p,g.name⟩::r,labs u⟩ = .ok (.mk 2 0 g.name (nXs u g.args).1) ⟨ts,labs (nXs u g.args).2⟩:=by
   rw[Qif (h1.wf _),Qiu,hop]
   show(CC OKt XK _ _).bind _=_
   rw[Qc3 (ha.s _)]
   show CC MKt YA _ _=_
   rw[Qc3 (ha.p _)]
  rw[Y9,QwJ (QjN (h1.wf _) ht),ht]
  show(match cmpOp ⟨ts,_⟩with|some (op,turn)=>_|none=>_)=_
  rw[ha.c]
  show(if (1:Int)=1/\g.name.toList=g.name.toList then PR.ok (⟨0,g.name,(nXs u g.args).1⟩:G) _ else _)=_
  rw[QwN ⟨rfl,rfl⟩,kG,k0]
 obtain⟨enm,hp0,hp12,hgn⟩:=hn1 k0
 have word0:∀(c:UInt8) (q:List UInt8) (op:Int),isL c=true->97<=c.toNat->(∀x∈c::q,isW x=true)->(c::q).length<=40->resB (mkB (c::q))=true->g.args=[]->tG g=c::q->g.op=op ->
   (∀s:PS,s.tk.kind=1->s.tk.text=mkB (c::q)->Y9 s = .ok ⟨op,eB,[]⟩ s.nx)->∃ts',Sc tot (tG g++w) ts'/\okV (nXs u g.args).2/\Y9 ⟨ts',labs u⟩ = .ok (kG u g).1 ⟨ts,labs (kG u g).2⟩:=fun c q op q1 q2 q3 q4 q5 q6 q7 q8 q9=>by
  have h1:=Qpc (tot:=tot) q1 q2 q3 q4 ha.a.word h
  refine⟨_,by rw[q7];exact h1,by rw[q6];exact hu,?_⟩
  rw[q9 _ rfl rfl,knx h.ne,kG,q6,q8,enm];rfl
 by_cases k1:g.op=1
 ·have ea:g.args=[]:=by
   have:(g.args.length:Int)=0:=by rw[hgn,k1];rfl
   exact List.length_eq_zero_iff.1 (by omega)
  exact word0 116 [114,117,101] 1 (by decide) (by decide) (by decide) (by decide) (by decide +kernel) ea (by rw[tG,Qac,QwJ k0,QwN k1]) k1 (fun s e1 e2=>by
   rw[Y9,QwN ⟨e1,by rw[e2];decide +kernel⟩,e2,QwN (by rw[Qav])])
 by_cases k2:g.op=2
 ·have ea:g.args=[]:=by
   have:(g.args.length:Int)=0:=by rw[hgn,k2];rfl
   exact List.length_eq_zero_iff.1 (by omega)
  exact word0 102 [97,105,108] 2 (by decide) (by decide) (by decide) (by decide) (by decide +kernel) ea (by rw[tG,Qac,QwJ k0,QwJ k1,QwN k2]) k2 (fun s e1 e2=>by
   rw[Y9,QwN ⟨e1,by rw[e2];decide +kernel⟩,e2,Qav,QwJ (by decide),QwN rfl])
 have word1:∀(c:UInt8) (q:List UInt8) (op:Int),isL c=true->97<=c.toNat->(∀x∈c::q,isW x=true)->(c::q).length<=40->(g.args.length:Int)=1->tG g=(funT (mkB (c::q)) (txts g.args)).data.toList->g.op=op ->
   (∀s:PS,s.tk.kind=1->s.tk.text=mkB (c::q)->Y9 s=Qcp op s.nx)->∃ts',Sc tot (tG g++w) ts'/\okV (nXs u g.args).2/\Y9 ⟨ts',labs u⟩ = .ok (kG u g).1 ⟨ts,labs (kG u g).2⟩:=fun c q op q1 q2 q3 q4 q6 q7 q8 q9=>by
  obtain⟨x,ex⟩:=List.length_eq_one_iff.1 (show g.args.length=1 by omega)
  have hfx:=ZZ hfs x (by rw[ex];simp)
  rw[ex,QrD]at q7
  have q7':tG g++w=(c::q)++(40::(tlT x++41::w)):=by rw[q7];show(((mkB (c::q)).data.toList++_)++w)=_;simp[mkB]
  have hlen:=Qxm List.length q7'
  simp only[QwG,Qv2]at hlen
  obtain⟨ts1,h1,h2,h3⟩:=Qqk hfx op h hu (by omega)
  have h4:=Qpc (tot:=tot) q1 q2 q3 q4 (fun d r e=>by cases e;decide) h1
  refine⟨_,by rw[q7'];exact h4,by rw[ex];exact h2,?_⟩
  rw[q9 _ rfl rfl,knx h1.ne,h3,kG,ex,q8,enm];rfl
 by_cases k11:g.op=11
 ·exact word1 105 [110,116] 11 (by decide) (by decide) (by decide) (by decide) (by rw[hgn,k11];rfl) (by rw[tG,Qac,QwJ k0,QwJ k1,QwJ k2,QwN k11];rfl) k11 (fun s e1 e2=>by
   rw[Y9,QwN ⟨e1,by rw[e2];decide +kernel⟩,e2,Qav,QwJ (by decide),QwJ (by decide),QwN rfl])
 by_cases k12:g.op=12
 ·exact word1 103 [114,111,117,110,100] 12 (by decide) (by decide) (by decide) (by decide) (by rw[hgn,k12];rfl) (by rw[tG,Qac,QwJ k0,QwJ k1,QwJ k2,QwJ k11,QwN k12];rfl) k12 (fun s e1 e2=>by
   rw[Y9,QwN ⟨e1,by rw[e2];decide +kernel⟩,e2,Qav,QwJ (by decide),QwJ (by decide),QwJ (by decide),QwN rfl])
 have h3:3<=g.op:=by omega
 have h10:g.op<=10:=by omega
 have hg2:(g.args.length:Int)=2:=by
  rw[hgn]
  have:g.op=3\/g.op=4\/g.op=5\/g.op=6\/g.op=7\/g.op=8\/g.op=9\/g.op=10:=by omega
  rcases this with h|h|h|h|h|h|h|h <;> rw[h] <;> rfl
 obtain⟨x,y,exy⟩:∃x y,g.args=[x,y]:=by
  match hh:g.args,hg2 with
  |[x,y],_=>exact⟨x,y,rfl⟩
  |[],h=>exact absurd h (by decide)
  |[_],h=>exact absurd h (by simp)
  |_::_::_::_,h=>simp only[Qv2]at h;omega
 have hfx:=ZZ hfs x (by rw[exy];simp)
 have hfy:=ZZ hfs y (by rw[exy];simp)
 have et:tG g++w=tlT x++32::((QeI g.op).data.toList++32::(tlT y++w)):=by
  rw[tG,Qac,QwJ k0,QwJ k1,QwJ k2,QwJ k11,QwJ k12,exy]
  show((x.txt++(({data:=#[32]}:ByteArray)++QeI g.op++{data:=#[32]}))++y.txt).data.toList++w=_
  rw[XT,XT,XT,XT]
  show((tlT x++(([32]++_)++[32]))++tlT y)++w=_
  simp
 have hlen:=Qxm List.length et
 simp only[QwG,Qv2]at hlen
 have ry:=fun v (hv:okV v)=>QfL hfy h ha.a ha.s ha.p hv (by omega)
 obtain⟨_,b1,_⟩:=ry [] (fun v hv=>by cases hv)
 obtain⟨t0,o1,o2,o3,o4,_⟩:=Qq6 h3 h10 b1
 obtain⟨_,_,hux,_⟩:=QfL hfx o1 o2 o3 o4 hu (by simp only[QwG,Qv2];omega)
 obtain⟨ty,c1,c2,c3⟩:=ry (nX u x).2 hux
 obtain⟨t1,p1,p2,p3,p4,p5⟩:=Qq6 h3 h10 c1
 obtain⟨tx,d1,_,d3⟩:=QfL hfx p1 p2 p3 p4 hu (by simp only[QwG,Qv2];omega)
 refine⟨tx,by rw[et];exact d1,by rw[exy,Qov];exact c2,?_⟩
 rw[Y9,QwJ (QjN (d1.wf _) d3),d3]
 show(match cmpOp ⟨t1::ty,_⟩with|some (op,turn)=>_|none=>_)=_
 rw[p5]
 show(X7 (PS.nx ⟨t1::ty,_⟩)).bind _=_
 rw[knx c1.ne,c3,kG,exy,Qov,enm];rfl
end Go.Proofs.YtenheconhibonaaGreatDoor.Ab
namespace Go.Proofs.YtenheconhibonaaGreatDoor.Ab
def AncE(ops:Array Oper)(E:List (Nat×Nat))(i j:Nat):Prop:=Anc ops i j\/∃p∈E,(i=p.1\/Anc ops i p.1)/\(j=p.2\/Anc ops p.2 j)
theorem AncE.good{ops:Array Oper}{E:List (Nat×Nat)}{S:Nat->Bool}(hd:Down ops S)(hE:∀p∈E,S p.2=true->S p.1=true){i j:Nat}(h:AncE ops E i j)(hj:S j=true):S i=true:=by
 rcases h with h|⟨p,hp,h1,h2⟩
 ·exact hd.anc h hj
 ·have hy:S p.2=true:=by
   rcases h2 with rfl|h2
   ·exact hj
   ·exact hd.anc h2 hj
  rcases h1 with rfl|h1
  ·exact hE p hp hy
  ·exact hd.anc h1 (hE p hp hy)
def Qnt(ms:List Nat)(E:List (Nat×Nat))(i j:Nat):Bool:=(ms.getD j 0).testBit i||E.any fun p=>(i==p.1||(ms.getD p.1 0).testBit i)&&(j==p.2||(ms.getD j 0).testBit p.2)
def QlR(ops:Array Oper)(ms:List Nat)(E:List (Nat×Nat)):List (Nat×Nat)->Bool
 |[]=>true
 |(i,ci)::l=>(l.all fun p=>match ops[i]?,ops[p.1]? with
   |some a,some b=>!clash ops a b ci p.2||Qnt ms E i p.1
   |_,_=>false)&&QlR ops ms E l
theorem Qf4{ops:Array Oper}{ms:List Nat}{E:List (Nat×Nat)}(hm:∀(k i:Nat),(ms.getD k 0).testBit i=true->Anc ops i k):∀(tr:List Tr),QlR ops ms E (tr.map fun t=>(t.i,t.c))=true->(∀t∈tr,ops[t.i]? = some t.o) ->
  tr.Pairwise (fun a b=>clash ops a.o b.o a.c b.c=true->AncE ops E a.i b.i)
 |[],_,_=>.nil
 |t::l,h,ho=>by
  simp only[Qv4,QlR,QwQ,Qxc]at h
  refine Qys.2 ⟨fun b hb hc=>?_,Qf4 hm l h.2 fun t ht=>ho t (by simp[ht])⟩
  have:=h.1 (b.i,b.c) (Qxa.2 ⟨b,hb,rfl⟩)
  simp only[ho t (by simp),ho b (by simp[hb]),hc,Qwc,QyG,Qnt,Qxx,QyJ,QwQ,QxL]at this
  rcases this with h1|⟨p,hp,h1,h2⟩
  ·exact .inl (hm _ _ h1)
  ·exact .inr ⟨p,hp,h1.imp id (hm _ _),h2.imp id (hm _ _)⟩
def okE(ops:Array Oper)(E:List (Nat×Nat))(π:List (Nat×Nat)):Bool :=
 π.length==ops.size&&QlR ops (masks ops.toList []) E π&&topo ops [] π&&QmJ (π.map (·.1))&&((List.range ops.size).all fun i=>(π.map (·.1)).contains i) &&
 π.all fun p=>match ops[p.1]? with|some o=>kindOk o p.2|none=>false
structure FitE (ops:Array Oper) (E:List (Nat×Nat)) (tr:List Tr):Prop where
 len:tr.length=ops.size
 pairs:tr.Pairwise (fun a b=>clash ops a.o b.o a.c b.c=true->AncE ops E a.i b.i)
 topo:topo ops [] (tr.map fun t=>(t.i,t.c))=true
 nodup:(tr.map (·.i)).Nodup
 all:∀i,i<ops.size->∃t∈tr,t.i=i
 kind:∀t∈tr,kindOk t.o t.c=true
theorem Qqj{P:Program}{N:Nat}{ops:Array Oper}{E:List (Nat×Nat)}{tr:List Tr}{tm:Nat->AV}{h:AH}(hruns:Runs P N ops tr tm h)(hok:okE ops E (tr.map fun t=>(t.i,t.c))=true):FitE ops E tr:=by
 simp only[okE,QwQ]at hok
 obtain⟨⟨⟨⟨⟨hp0,hp1⟩,hp2⟩,hp3⟩,hp4⟩,hp5⟩:=hok
 have hops:=QcM hruns
 refine⟨by have:=QxL.1 hp0;simpa using this,Qf4 (QbE ops.toList [] (fun j o h=>by simpa using h) (fun k i h=>by simp at h)) tr hp1 hops,hp2,?_,?_,?_⟩
 ·have:=QcG hp3
  rw[QxV]at this
  exact this
 ·intro i hi
  have:=Qxc.1 hp4 i (List.mem_range.2 hi)
  have:i∈(tr.map fun t=>(t.i,t.c)).map (·.1):=by simpa using this
  rw[QxV]at this
  obtain⟨t,ht,rfl⟩:=Qxa.1 this
  exact⟨t,ht,rfl⟩
 ·intro t ht
  have:=Qxc.1 hp5 (t.i,t.c) (Qxa.2 ⟨t,ht,rfl⟩)
  simpa [hops t ht]using this
inductive TT where
 |leaf (t:List Tr)
 |node (ρ:List Tr) (y u:Nat) (A B:TT)
def TT.first:TT->List Tr
 | .leaf t=>t
 | .node ρ _ _ A _=>ρ++A.first
def TT.e1:TT->List (Nat×Nat)->List (Nat×Nat)
 | .leaf _,E=>E
 | .node _ y u A _,E=>A.e1 ((y,u)::E)
def TT.all:TT->List Nat
 | .leaf t=>t.map (·.i)
 | .node ρ _ _ A B=>ρ.map (·.i)++(A.all++B.all)
def TT.ends:TT->List Nat
 | .leaf _=>[]
 | .node _ y u A B=>y::u::(A.ends++B.ends)
def TT.root:TT->List Nat
 | .leaf _=>[]
 | .node _ y u _ _=>[y,u]
def Beh(ops:Array Oper)(y u i:Nat):Prop:=∀S:Nat->Bool,Down ops S->S y=false->S u=false->S i=false
def FitT(ops:Array Oper):TT->List Tr->List (Nat×Nat)->Prop
 | .leaf t,π,E=>FitE ops E (π++t)
 | .node ρ y u A B,π,E=>y≠u/\y∉A.ends/\u∉B.ends/\(∀i∈A.all++B.all,Beh ops y u i)/\(∀i∈A.ends++B.ends,Beh ops y u i)/\FitT ops A (π++ρ) ((y,u)::E)/\FitT ops B (π++ρ) ((u,y)::E)
def AllL(R:List Tr->Prop):TT->List Tr->Prop
 | .leaf t,π=>R (π++t)
 | .node ρ _ _ A B,π=>AllL R A (π++ρ)/\AllL R B (π++ρ)
theorem AllL.mono{R R':List Tr->Prop}(h:∀l,R l->R' l):∀{T:TT} {π:List Tr},AllL R T π->AllL R' T π
 | .leaf t,π,H=>h _ H
 | .node ρ y u A B,π,H=>⟨AllL.mono h H.1,AllL.mono h H.2⟩
theorem AllL.first{R:List Tr->Prop}:∀{T:TT} {π:List Tr},AllL R T π->R (π++T.first)
 | .leaf t,π,H=>H
 | .node ρ y u A B,π,H=>by
  have:=AllL.first H.1
  rw[QwM]at this
  exact this
theorem FitT.first{ops:Array Oper}:∀{T:TT} {π:List Tr} {E:List (Nat×Nat)},FitT ops T π E->FitE ops (T.e1 E) (π++T.first)
 | .leaf t,π,E,H=>H
 | .node ρ y u A B,π,E,H=>by
  have:=FitT.first H.2.2.2.2.2.1
  rw[QwM]at this
  exact this
theorem FitT.all{ops:Array Oper}:∀{T:TT} {π:List Tr} {E:List (Nat×Nat)},FitT ops T π E->AllL (fun l=>∀i,i<ops.size->∃t∈l,t.i=i) T π
 | .leaf t,π,E,H=>FitE.all H
 | .node ρ y u A B,π,E,H=>⟨FitT.all H.2.2.2.2.2.1,FitT.all H.2.2.2.2.2.2⟩
theorem AllL.and{R R':List Tr->Prop}:∀{T:TT} {π:List Tr},AllL R T π->AllL R' T π->AllL (fun l=>R l/\R' l) T π
 | .leaf t,π,H,H'=>⟨H,H'⟩
 | .node ρ y u A B,π,H,H'=>⟨AllL.and H.1 H'.1,AllL.and H.2 H'.2⟩
theorem TT.Qvc:∀(T:TT) (E:List (Nat×Nat)),∀p∈T.e1 E,p∈E\/p.2∈T.ends
 | .leaf t,E,p,h=>.inl h
 | .node ρ y u A B,E,p,h=>by
  rcases TT.Qvc A _ p h with h|h
  ·rcases QwS.1 h with rfl|h
   ·exact .inr (by simp[TT.ends])
   ·exact .inl h
  ·exact .inr (by simp[TT.ends,h])
theorem TT.Qu9(T:TT):∀i∈T.root,i∈T.ends:=by
 cases T with
 |leaf t=>intro i h;cases h
 |node ρ y u A B=>intro i h;simp only[TT.root,QwS,Qw4,QxK]at h;simp only[TT.ends,QwS];rcases h with rfl|rfl <;> simp
theorem TT.Qvj(T:TT):∀t∈T.first,t.i∈T.all:=by
 induction T with
 |leaf t=>intro x h;exact Qxa.2 ⟨x,h,rfl⟩
 |node ρ y u A B ihA ihB =>
  intro x h
  rcases Qxf.1 h with h|h
  ·exact QxM _ (Qxa.2 ⟨x,h,rfl⟩)
  ·exact Qx5 _ (QxM _ (ihA x h))
section
variable{P:Program}{N:Nat}{base:Bs×Fence}{ops:Array Oper}{F:Fence}{n:Nat}(hF:WF F){Qx:Exit->Act->World->Prop}{tm0:Nat->AV}{h0:AH}
include hF
theorem Qne:∀(T:TT) (π:List Tr) (E:List (Nat×Nat)),FitT ops T π E->AllL (fun l=>Runs P N ops l tm0 h0) T π ->
  ∀(fuel:Nat) (listed:Array Bool) (c:Cx) (a:Act),listed.size=ops.size->Down ops (fun i=>listed.getD i false)->(∀p∈E,listed.getD p.1 false=true)->(∀i∈T.root,listed.getD i false=false)->St c ->
   SR N base c ⟨tmS N (fun i=>listed.getD i false) (π++T.first) tm0,hS (fun i=>listed.getD i false) (π++T.first) h0⟩ a->AllL (fun l=>l.countP (fun t=>!listed.getD t.i false)<=fuel) T π ->
   AllL (fun l=>∀c' a',Ev c c'->St c'->SR N base c' ⟨tmS N (fun _=>true) l tm0,hS (fun _=>true) l h0⟩ a'->Qx .normal a' c'.w) T π->wpAnyIn F n P .any ops Qx fuel listed a c.w:=by
 intro T
 induction T with
 |leaf t =>
  intro π E hfit hruns fuel
  have hfit:FitE ops E (π++t):=hfit
  have hruns:Runs P N ops (π++t) tm0 h0:=hruns
  induction fuel with
  |zero =>
   intro listed c a hsz hd hE hx hst hr hc hQ
   have hl:∀u∈π++t,listed.getD u.i false=true:=fun u hu=>by
    have:=List.countP_eq_zero.1 (Nat.le_zero.1 hc) u hu
    simpa using this
   exact⟨any_zero hsz hfit.all hl,QeP hst hr hQ hl⟩
  |succ fuel ih =>
   intro listed c a hsz hd hE hx hst hr hc hQ
   refine⟨fun h=>QeP hst hr hQ fun u hu=>QdO hsz h _ [] hfit.topo (fun i hi=>by cases hi) (u.i,u.c) (Qxa.2 ⟨u,hu,rfl⟩),fun i hi=>?_⟩
   have hi':=hi
   obtain⟨h1,o,ho,_⟩:=mem_ready.1 hi'
   have hlt:i<ops.size:=(QwX.1 ho).1
   obtain⟨u,hu,hui⟩:=hfit.all i hlt
   have hd':=Qfx hsz hd hi
   have hE':∀p∈E,(listed.setIfInBounds i true).getD p.1 false=true:=fun p hp=>by rw[Qas (by omega),hE p hp];simp
   exact Qdi hF hruns hfit.pairs hfit.nodup hfit.kind hi hu hui hsz (fun i j h hj=>AncE.good hd (fun p hp _=>hE p hp) h hj) (fun i j h hj=>AncE.good hd' (fun p hp _=>hE' p hp) h hj) hst hr fun c' a' hev hst' hr' =>
    ih _ c' a' (by simpa using hsz) hd' hE' (fun i hi=>by cases hi) hst' hr' (QdV hsz ⟨u,hu,hui⟩ hi hc) fun c2 a2 e2 s2 r2=>hQ c2 a2 (Ev.trans hst hev e2) s2 r2
 |node ρ y u A B ihA ihB =>
  intro π E hfit hruns fuel
  obtain⟨hyu,hyA,huB,hbeh,hends,hfA,hfB⟩:=hfit
  obtain⟨hrA,hrB⟩:=hruns
  have hf1:=hfA.first
  have hr1:=hrA.first
  induction fuel with
  |zero =>
   intro listed c a hsz hd hE hx hst hr0 hc hQ
   have hr9:SR N base c ⟨tmS N (fun i=>listed.getD i false) (π++ρ++A.first) tm0,hS (fun i=>listed.getD i false) (π++ρ++A.first) h0⟩ a:=by rw[QwM];exact hr0
   have hl:∀t∈(π++ρ)++A.first,listed.getD t.i false=true:=fun t ht=>by
    have:=List.countP_eq_zero.1 (Nat.le_zero.1 hc.1.first) t ht
    simpa using this
   exact⟨any_zero hsz hf1.all hl,QeP hst hr9 hQ.1.first hl⟩
  |succ fuel ih =>
   intro listed c a hsz hd hE hx hst hr0 hc hQ
   have hr9:SR N base c ⟨tmS N (fun i=>listed.getD i false) (π++ρ++A.first) tm0,hS (fun i=>listed.getD i false) (π++ρ++A.first) h0⟩ a:=by rw[QwM];exact hr0
   refine⟨fun h=>QeP hst hr9 hQ.1.first fun t ht=>QdO hsz h _ [] hf1.topo (fun i hi=>by cases hi) (t.i,t.c) (Qxa.2 ⟨t,ht,rfl⟩),fun i hi=>?_⟩
   have hi':=hi
   obtain⟨h1,o,ho,_⟩:=mem_ready.1 hi'
   have hlt:i<ops.size:=(QwX.1 ho).1
   have hd':=Qfx hsz hd hi
   have hset:∀j,(listed.setIfInBounds i true).getD j false=(decide (j=i)||listed.getD j false):=fun j=>Qas (by omega)
   have hy:listed.getD y false=false:=hx y (by simp[TT.root])
   have hu:listed.getD u false=false:=hx u (by simp[TT.root])
   have hE':∀p∈E,(listed.setIfInBounds i true).getD p.1 false=true:=fun p hp=>by rw[hset,hE p hp];simp
   have hnA:∀t∈A.first,listed.getD t.i false=false:=fun t ht=>hbeh _ (QxM _ (A.Qvj t ht)) _ hd hy hu
   have hnB:∀t∈B.first,listed.getD t.i false=false:=fun t ht=>hbeh _ (Qx5 _ (B.Qvj t ht)) _ hd hy hu
   have hcn:∀{T:TT},AllL (fun l=>∀i,i<ops.size->∃t∈l,t.i=i) T (π++ρ)->AllL (fun l=>l.countP (fun t=>!listed.getD t.i false)<=fuel+1) T (π++ρ)->AllL (fun l=>l.countP (fun t=>!(listed.setIfInBounds i true).getD t.i false)<=fuel) T (π++ρ) :=
    fun h1 h2=>(h1.and h2).mono fun l h=>QdV hsz (h.1 i hlt) hi h.2
   by_cases hiy:i=y
   ·subst hiy
    obtain⟨t,ht,hti⟩:=hf1.all i hlt
    have hy':(listed.setIfInBounds i true).getD i false=true:=by rw[hset];simp
    have g1:∀p∈A.e1 ((i,u)::E),listed.getD p.2 false=true->listed.getD p.1 false=true:=fun p hp h2=>by
     rcases A.Qvc _ p hp with hp|hp
     ·rcases QwS.1 hp with rfl|hp
      ·rw[hu]at h2;cases h2
      ·exact hE p hp
     ·have h3:listed.getD p.2 false=false:=hends _ (QxM _ hp) _ hd hy hu
      rw[h3]at h2;cases h2
    have g2:∀p∈A.e1 ((i,u)::E),(listed.setIfInBounds i true).getD p.2 false=true->(listed.setIfInBounds i true).getD p.1 false=true:=fun p hp h2=>by
     rcases A.Qvc _ p hp with hp|hp
     ·rcases QwS.1 hp with rfl|hp
      ·exact hy'
      ·exact hE' p hp
     ·have h3:listed.getD p.2 false=false:=hends _ (QxM _ hp) _ hd hy hu
      have:p.2≠i:=fun e=>hyA (e▸hp)
      rw[hset,h3]at h2
      simp[this]at h2
    refine Qdi hF hr1 hf1.pairs hf1.nodup hf1.kind hi ht hti hsz (fun j k h hk=>AncE.good hd g1 h hk) (fun j k h hk=>AncE.good hd' g2 h hk) hst hr9 fun c' a' hev hst' hr'=>?_
    refine ihA (π++ρ) ((i,u)::E) hfA hrA fuel _ c' a' (by simpa using hsz) hd' ?_ ?_ hst' hr' (hcn hfA.all hc.1) (hQ.1.mono fun l h c2 a2 e2 s2 r2=>h c2 a2 (Ev.trans hst hev e2) s2 r2)
    ·intro p hp
     rcases QwS.1 hp with rfl|hp
     ·exact hy'
     ·exact hE' p hp
    ·intro j hj
     have h3:listed.getD j false=false:=hends _ (QxM _ (A.Qu9 j hj)) _ hd hy hu
     rw[hset,h3]
     have:j≠i:=fun e=>hyA (e▸A.Qu9 j hj)
     simp[this]
   ·by_cases hiu:i=u
    ·subst hiu
     have hf2:=hfB.first
     have hr2:=hrB.first
     obtain⟨t,ht,hti⟩:=hf2.all i hlt
     have skip1:tmS N (fun i=>listed.getD i false) (π++ρ++A.first) tm0=tmS N (fun i=>listed.getD i false) (π++ρ++B.first) tm0:=by
      funext z
      have k1:∀t∈A.first,listed.getD t.i false=true->t.o.dst≠some z:=fun t ht hs _=>by rw[hnA t ht]at hs;cases hs
      have k2:∀t∈B.first,listed.getD t.i false=true->t.o.dst≠some z:=fun t ht hs _=>by rw[hnB t ht]at hs;cases hs
      rw[Qa8 N _ (π++ρ) A.first,Qa8 N _ (π++ρ) B.first,ZQ (S:=fun i=>listed.getD i false) k1,ZQ (S:=fun i=>listed.getD i false) k2]
     have skip2:hS (fun i=>listed.getD i false) (π++ρ++A.first) h0=hS (fun i=>listed.getD i false) (π++ρ++B.first) h0:=by
      rw[QbA _ (π++ρ) A.first,QbA _ (π++ρ) B.first,Qa3 (S:=fun i=>listed.getD i false) fun t ht _=>hnA t ht,Qa3 (S:=fun i=>listed.getD i false) fun t ht _=>hnB t ht]
     rw[skip1,skip2]at hr9
     have hu':(listed.setIfInBounds i true).getD i false=true:=by rw[hset];simp
     have g1:∀p∈B.e1 ((i,y)::E),listed.getD p.2 false=true->listed.getD p.1 false=true:=fun p hp h2=>by
      rcases B.Qvc _ p hp with hp|hp
      ·rcases QwS.1 hp with rfl|hp
       ·rw[hy]at h2;cases h2
       ·exact hE p hp
      ·have h3:listed.getD p.2 false=false:=hends _ (Qx5 _ hp) _ hd hy hu
       rw[h3]at h2;cases h2
     have g2:∀p∈B.e1 ((i,y)::E),(listed.setIfInBounds i true).getD p.2 false=true->(listed.setIfInBounds i true).getD p.1 false=true:=fun p hp h2=>by
      rcases B.Qvc _ p hp with hp|hp
      ·rcases QwS.1 hp with rfl|hp
       ·exact hu'
       ·exact hE' p hp
      ·have h3:listed.getD p.2 false=false:=hends _ (Qx5 _ hp) _ hd hy hu
       have:p.2≠i:=fun e=>huB (e▸hp)
       rw[hset,h3]at h2
       simp[this]at h2
     refine Qdi hF hr2 hf2.pairs hf2.nodup hf2.kind hi ht hti hsz (fun j k h hk=>AncE.good hd g1 h hk) (fun j k h hk=>AncE.good hd' g2 h hk) hst hr9 fun c' a' hev hst' hr'=>?_
     refine ihB (π++ρ) ((i,y)::E) hfB hrB fuel _ c' a' (by simpa using hsz) hd' ?_ ?_ hst' hr' (hcn hfB.all hc.2) (hQ.2.mono fun l h c2 a2 e2 s2 r2=>h c2 a2 (Ev.trans hst hev e2) s2 r2)
     ·intro p hp
      rcases QwS.1 hp with rfl|hp
      ·exact hu'
      ·exact hE' p hp
     ·intro j hj
      have h3:listed.getD j false=false:=hends _ (Qx5 _ (B.Qu9 j hj)) _ hd hy hu
      rw[hset,h3]
      have:j≠i:=fun e=>huB (e▸B.Qu9 j hj)
      simp[this]
    ·obtain⟨t,ht,hti⟩:=hf1.all i hlt
     have hy':(listed.setIfInBounds i true).getD y false=false:=by rw[hset,hy];simp;exact fun h=>hiy h.symm
     have hu':(listed.setIfInBounds i true).getD u false=false:=by rw[hset,hu];simp;exact fun h=>hiu h.symm
     have g1:∀p∈A.e1 ((y,u)::E),listed.getD p.2 false=true->listed.getD p.1 false=true:=fun p hp h2=>by
      rcases A.Qvc _ p hp with hp|hp
      ·rcases QwS.1 hp with rfl|hp
       ·rw[hu]at h2;cases h2
       ·exact hE p hp
      ·have h3:listed.getD p.2 false=false:=hends _ (QxM _ hp) _ hd hy hu
       rw[h3]at h2;cases h2
     have g2:∀p∈A.e1 ((y,u)::E),(listed.setIfInBounds i true).getD p.2 false=true->(listed.setIfInBounds i true).getD p.1 false=true:=fun p hp h2=>by
      rcases A.Qvc _ p hp with hp|hp
      ·rcases QwS.1 hp with rfl|hp
       ·rw[hu']at h2;cases h2
       ·exact hE' p hp
      ·have h3:(listed.setIfInBounds i true).getD p.2 false=false:=hends _ (QxM _ hp) _ hd' hy' hu'
       rw[h3]at h2;cases h2
     refine Qdi hF hr1 hf1.pairs hf1.nodup hf1.kind hi ht hti hsz (fun j k h hk=>AncE.good hd g1 h hk) (fun j k h hk=>AncE.good hd' g2 h hk) hst hr9 fun c' a' hev hst' hr'=>?_
     refine ih _ c' a' (by simpa using hsz) hd' hE' ?_ hst' (by have h9:=hr';rw[QwM]at h9;exact h9) ⟨hcn hfA.all hc.1,hcn hfB.all hc.2⟩ (hQ.mono fun l h c2 a2 e2 s2 r2=>h c2 a2 (Ev.trans hst hev e2) s2 r2)
     intro j hj
     simp only[TT.root,QwS,Qw4,QxK]at hj
     rcases hj with rfl|rfl
     ·exact hy'
     ·exact hu'
end
inductive OT where
 |leaf (σ:List (Nat×Nat))
 |node (ρ:List (Nat×Nat)) (y u:Nat) (A B:OT)
def OT.walk(P:Program)(N:Nat)(ops:Array Oper)(K:AS->Prop):OT->AS->Prop
 | .leaf σ,s=>AnyW P N ops σ K s
 | .node ρ _ _ A B,s=>AnyW P N ops ρ (fun s=>OT.walk P N ops K A s/\OT.walk P N ops K B s) s
def OT.all:OT->List Nat
 | .leaf σ=>σ.map (·.1)
 | .node ρ _ _ A B=>ρ.map (·.1)++(A.all++B.all)
def OT.ends:OT->List Nat
 | .leaf _=>[]
 | .node _ y u A B=>y::u::(A.ends++B.ends)
def OT.ok(ops:Array Oper):OT->List (Nat×Nat)->List (Nat×Nat)->Bool
 | .leaf σ,π,E=>okE ops E (π++σ)&&Qoh ops σ
 | .node ρ y u A B,π,E=>(y != u&&!A.ends.contains y&&!B.ends.contains u&&(A.all++B.all).all (behind ops y u)&&(A.ends++B.ends).all (behind ops y u)&&Qoh ops ρ)&&(OT.ok ops A (π++ρ) ((y,u)::E)&&OT.ok ops B (π++ρ) ((u,y)::E))
theorem QgJ{ops:Array Oper}{x y i:Nat}(hi:behind ops x y i=true):Beh ops x y i:=by
 intro S hd hx hy
 have hm':∀(k i:Nat),((masks ops.toList []).getD k 0).testBit i=true->Anc ops i k:=QbE ops.toList [] (fun j o h=>by simpa using h) (fun k i h=>by simp at h)
 cases hS:S i with
 |false=>rfl
 |true =>
  exfalso
  simp only[behind,Qxx,QxL]at hi
  rcases hi with((rfl|rfl)|h)|h
  ·rw[hx]at hS;cases hS
  ·rw[hy]at hS;cases hS
  ·have:=hd.anc (hm' _ _ h) hS;rw[hx]at this;cases this
  ·have:=hd.anc (hm' _ _ h) hS;rw[hy]at this;cases this
theorem Qgi{P:Program}{N:Nat}{ops:Array Oper}{K:AS->Prop}{tm0:Nat->AV}{h0:AH}:∀(O:OT) (π:List Tr) (E:List (Nat×Nat)),Runs P N ops π tm0 h0->OT.walk P N ops K O ⟨tmS N (fun _=>true) π tm0,hS (fun _=>true) π h0⟩->OT.ok ops O (π.map fun t=>(t.i,t.c)) E=true ->
  ∃T:TT,T.all=O.all/\T.ends=O.ends/\FitT ops T π E/\AllL (fun l=>Runs P N ops l tm0 h0) T π/\AllL (fun l=>K ⟨tmS N (fun _=>true) l tm0,hS (fun _=>true) l h0⟩) T π
 | .leaf σ,π,E,hr,H,hok=>by
  simp only[OT.ok,QwQ]at hok
  obtain⟨t,rfl,hρ,hK⟩:=Qb4 H hok.2
  have hrr:=hr.append hρ
  have h1:=hok.1
  rw[<-Qxs]at h1
  refine⟨.leaf t,by simp[TT.all,OT.all],rfl,Qqj hrr h1,hrr,?_⟩
  show K _
  rw[Qa8,QbA]
  exact hK
 | .node ρ y u A B,π,E,hr,H,hok=>by
  simp only[OT.ok,QwQ,bne_iff_ne,ne_eq,Qyz,Qxc]at hok
  obtain⟨⟨⟨⟨⟨⟨h1,h2⟩,h3⟩,h4⟩,h5⟩,h6⟩,hA,hB⟩:=hok
  obtain⟨t,rfl,hρ,hK⟩:=Qb4 H h6
  have hrr:=hr.append hρ
  have e:(⟨tmS N (fun _=>true) t (tmS N (fun _=>true) π tm0),hS (fun _=>true) t (hS (fun _=>true) π h0)⟩:AS)=⟨tmS N (fun _=>true) (π++t) tm0,hS (fun _=>true) (π++t) h0⟩:=by rw[Qa8,QbA]
  rw[e]at hK
  rw[<-Qxs]at hA hB
  obtain⟨TA,a1,a2,a3,a4,a5⟩:=Qgi A (π++t) ((y,u)::E) hrr hK.1 hA
  obtain⟨TB,b1,b2,b3,b4,b5⟩:=Qgi B (π++t) ((u,y)::E) hrr hK.2 hB
  refine⟨.node t y u TA TB,by simp[TT.all,OT.all,a1,b1],by simp[TT.ends,OT.ends,a2,b2],⟨h1,?_,?_,?_,?_,a3,b3⟩,⟨a4,b4⟩,⟨a5,b5⟩⟩
  ·rw[a2];simpa using h2
  ·rw[b2];simpa using h3
  ·rw[a1,b1];exact fun i hi=>QgJ (h4 i hi)
  ·rw[a2,b2];exact fun i hi=>QgJ (h5 i hi)
theorem Qal{P:Program}{N:Nat}{Q:AExit->AS->Prop}{s:AS}{id:Nat}{ops:Array Oper}(O:OT)(hm:P.follows .mixedOrders=true)(hok:OT.ok ops O [] []=true)
  (H:∀(K:AS->Prop),(∀s,Q .normal s->K s)->OT.walk P N ops K O s):XO P N (.region id ops true) Q s:=by
 intro F n base c a hF hst hr R hR
 refine wpIn_region_any hm ?_
 obtain⟨tm,hp⟩:=s
 obtain⟨T,_,_,hfit,hruns,hQ⟩:=Qgi (tm0:=tm) (h0:=hp) O [] [] (.nil _ _) (H (fun s=>Q .normal s) (fun s h=>h)) hok
 have hev:Ev c (c.to {c.w with drawn:=c.w.drawn+1}):=Ev.idle hst (Ev.refl c) rfl rfl rfl rfl fun k=>.inl rfl
 have hst':St (c.to {c.w with drawn:=c.w.drawn+1}):=hst.idle rfl fun k o hk=>.inl hk
 have hr':SR N (base,F) (c.to {c.w with drawn:=c.w.drawn+1}) ⟨tm,hp⟩ a:=⟨hr.h,hr.size,Qw8 hr.above hev.size,hr.defers.ev hev,RoundOk.ev hev hr.round,fun t=>(hr.tm t).ev hst hev⟩
 have hnone:∀j,(Array.replicate ops.size false).getD j false=false:=fun j=>by
  rw[QwW,QxR]
  split <;> rfl
 have hlen:AllL (fun l=>l.length=ops.size) T []:=by
  have:∀(T:TT) (π:List Tr) (E:List (Nat×Nat)),FitT ops T π E->AllL (fun l=>l.length=ops.size) T π:=by
   intro T
   induction T with
   |leaf t=>exact fun π E h=>FitE.len h
   |node ρ y u A B ihA ihB=>exact fun π E h=>⟨ihA _ _ h.2.2.2.2.2.1,ihB _ _ h.2.2.2.2.2.2⟩
  exact this T [] [] hfit
 refine Qne (base:=(base,F)) hF T [] [] hfit hruns _ _ (c.to {c.w with drawn:=c.w.drawn+1}) a (by simp) ?_ (fun p hp=>by cases hp) (fun i _=>hnone i) hst' ?_ (hlen.mono fun l h=>Qw8 List.countP_le_length (Qyl h)) (hQ.mono fun l h c' a' h1 h2 h3=>hR .normal _ c' a' .normal h (Ev.trans hst hev h1) h2 h3 rfl)
 ·intro j o ho hj
  simp only at hj
  rw[hnone]at hj;cases hj
 ·have e1:tmS N (fun i=>(Array.replicate ops.size false).getD i false) ([]++T.first) tm=tm:=funext fun x=>ZQ fun t _ h=>by rw[hnone]at h;cases h
  have e2:hS (fun i=>(Array.replicate ops.size false).getD i false) ([]++T.first) hp=hp:=Qa3 fun t _ _=>hnone _
  rw[e1,e2];exact hr'
end Go.Proofs.YtenheconhibonaaGreatDoor.Ab
set_option linter.unusedSectionVars false
namespace Go.Proofs.YtenheconhibonaaGreatDoor.Ab
open Go.Proofs
def In(n:Int)(p:Int):Prop:=0<=p/\p<=n
def PS.inn(n:Int)(s:PS):Prop:=∀t∈s.toks,In n t.pos
def PsOk{α:Type}(n:Int)(x:PR α):Prop:=match x with
 | .ok _ s2=>s2.inn n
 | .err p _=>In n p
def Ps{α:Type}(n:Int)(f:PS->PR α):Prop:=∀s,s.inn n->PsOk n (f s)
theorem QbB{n:Int}{s:PS}(h:s.inn n):s.nx.inn n:=by
 unfold PS.nx
 split
 ·rename_i t u r e
  intro x hx
  exact h x (by rw[e];exact QxT _ hx)
 ·exact h
theorem Qg1{n:Int}(hn:0<=n){s:PS}(h:s.inn n):In n s.tk.pos:=by
 unfold PS.tk
 cases e:s.toks with
 |nil=>exact⟨Int.le_refl _,hn⟩
 |cons t l=>exact h t (by rw[e];simp)
theorem Qae{α:Type}{n:Int}(f:PS->α):Ps n fun s=>.ok (f s) s:=fun s h=>h
theorem Qad{α:Type}{n:Int}(hn:0<=n)(e:Int):Ps n fun s=>(.err s.tk.pos e:PR α):=fun s h=>Qg1 hn h
theorem QdB{α β:Type}{n:Int}{F:PS->PR α}{f:PS->α->PS->PR β}(hF:Ps n F)(hf:∀s0,s0.inn n->∀a,Ps n (f s0 a)):Ps n fun s=>(F s).bind (f s):=fun s h=>by
 have h1:=hF s h
 show PsOk n ((F s).bind (f s))
 cases e:F s with
 |ok a s2=>rw[e]at h1;exact hf s h a s2 h1
 |err p c=>rw[e]at h1;exact h1
theorem XY{α β:Type}{n:Int}{F:PS->PR α}{f:PS->α->PS->PR β}(hF:Ps n F)(hf:∀s0 a,Ps n (f s0 a)):Ps n fun s=>(F s).bind (f s):=QdB hF fun s0 _=>hf s0
theorem QkO{α:Type}{n p:Int}(h:In n p)(e:Int):Ps n fun _=>(.err p e:PR α):=fun _ _=>h
theorem Yb{α:Type}{n:Int}{c:PS->Prop}[∀s,Decidable (c s)]{f g:PS->PR α}(hf:Ps n f)(hg:Ps n g):Ps n fun s=>if c s then f s else g s:=fun s h=>by
 show PsOk n (if c s then f s else g s)
 split
 ·exact hf s h
 ·exact hg s h
theorem Qa5{α:Type}{n:Int}{f:PS->PR α}(hf:Ps n f):Ps n fun s=>f s.nx:=fun s h=>hf s.nx (QbB h)
theorem QdC{α:Type}{n:Int}{f:PS->PS->PR α}(hf:∀s0,Ps n (f s0)):Ps n fun s=>f s s:=fun s h=>hf s s h
variable{n:Int}(hn:0<=n)
include hn
theorem Qb0(b:List UInt8):Ps n (Z8 b):=Yb (c:=fun s=>s.is b=true) (Qa5 (Qae fun _=>())) (Qad hn 16)
theorem name_ps:Ps n Qco:=Yb (c:=fun s=>s.tk.kind≠1) (Qad hn 16) (Yb (c:=fun s=>resB s.tk.text=true) (Qad hn 7) fun s h=>QbB h)
theorem Qfi{ex:PS->PR T}(H:Ps n ex):∀(m:Nat) (l:List T),Ps n (Zh ex m l)
 |0,_=>Qad hn 16
 |m+1,l=>XY H fun _ t=>Yb (c:=fun s=>s.is Qa7=true) (Qa5 (Qfi H m _)) (XY (Qb0 hn _) fun _ _=>Qae _)
theorem Qj5{ex:PS->PR T}(H:Ps n ex):Ps n (ZH ex):=XY (name_ps hn) fun _ x=>Yb (c:=fun s=>s.is sLp=true) (QdC (f:=fun s0 s=>(Zh ex s0.toks.length [] s.nx).bind fun l s=>.ok (⟨0,x,l⟩:G) s) fun s0=>XY (Qa5 (Qfi hn H _ _)) fun _ _=>Qae fun _=>_) (Qae _)
theorem opT_ps{ex:PS->PR T}(H:Ps n ex):Ps n (pOpT ex) :=
 Yb (c:=fun s=>s.tk.kind=3) (fun s h=>QbB h) (Yb (c:=fun s=>s.tk.kind=2) (fun s h=>by
  show(pVari s.tk.text s.nx).2.inn n
  intro t ht
  rw[Qgl]at ht
  exact QbB h t ht) (Yb (c:=fun s=>s.tk.kind=1) (XY (Qj5 hn H) fun _ _=>Qae _)
  (Yb (c:=fun s=>s.is Qgc=true) (Yb (c:=fun s=>s.nx.tk.kind≠3\/s.nx.tk.pos≠s.tk.pos+1) (fun s h=>Qg1 hn (QbB h)) fun s h=>QbB (QbB h))
  (Yb (c:=fun s=>s.is sLp=true) (XY (Qa5 H) fun _ t=>XY (Qb0 hn _) fun _ _=>Qae _) (Qad hn 16)))))
theorem Qb9{op:PS->PR T}(H:Ps n op)(ops:List (List UInt8)):∀(m:Nat) (t:T),Ps n (XX op ops m t)
 |0,t=>Qae fun _=>t
 |m+1,t=>Yb (c:=fun s=>s.oneOf ops=true) (XY (f:=fun s u s2=>XX op ops m (.mk 2 0 s.tk.text [t,u]) s2) (Qa5 H) fun _ _=>Qb9 H ops m _) (Qae fun _=>t)
theorem chain_ps{op:PS->PR T}(H:Ps n op)(ops:List (List UInt8)):Ps n (XN op ops):=XY H fun _ t=>QdC (f:=fun s0 s=>XX op ops s0.toks.length t s) fun s0=>Qb9 hn H ops _ t
theorem exprT_ps:∀m,Ps n (YE m)
 |0=>Qad hn 16
 |m+1=>chain_ps hn (chain_ps hn (opT_ps hn (exprT_ps m)) XK) YA
theorem termT_ps:Ps n X7:=QdC (f:=fun s0 s=>YE (s0.toks.length+1) s) fun s0=>exprT_ps hn _
theorem Qf0(op:Int):Ps n (Qcp op):=XY (Qb0 hn _) fun _ _=>XY (termT_ps hn) fun _ _=>XY (Qb0 hn _) fun _ _=>Qae _
theorem goalT_ps:Ps n Y9:=Yb (c:=fun s=>s.tk.kind=1/\resB s.tk.text=true)
 (Yb (c:=fun s=>s.tk.text.toList=[116,114,117,101]) (Qa5 (Qae fun _=>_)) (Yb (c:=fun s=>s.tk.text.toList=[102,97,105,108]) (Qa5 (Qae fun _=>_))
  (Yb (c:=fun s=>s.tk.text.toList=[105,110,116]) (Qa5 (Qf0 hn _)) (Yb (c:=fun s=>s.tk.text.toList=[103,114,111,117,110,100]) (Qa5 (Qf0 hn _)) (Qad hn 7)))))
 (XY (termT_ps hn) fun s t s2 h=>by
  cases hc:cmpOp s2 with
  |some x =>
   obtain⟨op,turn⟩:=x
   simp only
   exact(XY (f:=fun _ u s3=>.ok (⟨op,eB,if turn then[u,t]else[t,u]⟩:G) s3) (Qa5 (termT_ps hn)) fun _ _=>Qae fun _=>_) s2 h
  |none =>
   simp only
   by_cases hc:s.tk.kind=1/\t.name.toList=s.tk.text.toList
   ·rw[QwN hc];exact h
   ·rw[QwJ hc];exact Qg1 hn h)
theorem Qce(most:Nat):∀(m:Nat) (l:List G),Ps n (YS most m l)
 |0,_=>Qad hn 16
 |m+1,l=>Yb (c:=fun _=>most<=l.length) (Qad hn 6) (QdB (goalT_ps hn) fun s0 h0 g=>Yb (c:=fun _=>QL g=false) (QkO (Qg1 hn h0) 6) (Yb (c:=fun s=>s.is Qa7=true) (Qa5 (Qce most m _)) (Qae _)))
theorem goals_ps(most:Nat):Ps n (QbF most):=QdC (f:=fun s0 s=>YS most (s0.toks.length+1) [] s) fun s0=>Qce hn most _ _
end Go.Proofs.YtenheconhibonaaGreatDoor.Ab
set_option linter.unusedSectionVars false
namespace Go.Proofs.YtenheconhibonaaGreatDoor.Ab
open Go.Proofs
structure Wd where
 W:PS->Prop
 nx:∀s,W s->W s.nx
 vr:∀s,W s->s.tk.kind=2->W (pVari s.tk.text s.nx).2
 cl:∀s,W s->W ⟨s.toks,[]⟩
namespace Kp
def In(n:Wd)(p:Int):Prop:=True
def inn(n:Wd)(s:PS):Prop:=n.W s
def PsOk{α:Type}(n:Wd)(x:PR α):Prop:=match x with
 | .ok _ s2=>n.W s2
 | .err _ e=>e≠0
def Ps{α:Type}(n:Wd)(f:PS->PR α):Prop:=∀s,n.W s->PsOk n (f s)
theorem Ps.ok{α:Type}{n:Wd}{f:PS->PR α}(H:Ps n f){s:PS}(h:n.W s){a:α}{s2:PS}(e:f s = .ok a s2):n.W s2:=by
 have:=H s h
 rw[e]at this
 exact this
theorem Ps.err{α:Type}{n:Wd}{f:PS->PR α}(H:Ps n f){s:PS}(h:n.W s){p c:Int}(e:f s = .err p c):c≠0:=by
 have:=H s h
 rw[e]at this
 exact this
theorem QbB{n:Wd}{s:PS}(h:n.W s):n.W s.nx:=n.nx s h
theorem Qg1{n:Wd}(hn:True){s:PS}(h:n.W s):In n s.tk.pos:=trivial
theorem Qae{α:Type}{n:Wd}(f:PS->α):Ps n fun s=>.ok (f s) s:=fun s h=>h
theorem Qad{α:Type}{n:Wd}(hn:True)(e:Int)(he:e≠0:=by decide):Ps n fun s=>(.err s.tk.pos e:PR α):=fun s h=>he
theorem QdB{α β:Type}{n:Wd}{F:PS->PR α}{f:PS->α->PS->PR β}(hF:Ps n F)(hf:∀s0,n.W s0->∀a,Ps n (f s0 a)):Ps n fun s=>(F s).bind (f s):=fun s h=>by
 have h1:=hF s h
 show PsOk n ((F s).bind (f s))
 cases e:F s with
 |ok a s2=>rw[e]at h1;exact hf s h a s2 h1
 |err p c=>rw[e]at h1;exact h1
theorem XY{α β:Type}{n:Wd}{F:PS->PR α}{f:PS->α->PS->PR β}(hF:Ps n F)(hf:∀s0 a,Ps n (f s0 a)):Ps n fun s=>(F s).bind (f s):=QdB hF fun s0 _=>hf s0
theorem QkO{α:Type}{n:Wd}{p:Int}(h:In n p)(e:Int)(he:e≠0:=by decide):Ps n fun _=>(.err p e:PR α):=fun _ _=>he
theorem Yb{α:Type}{n:Wd}{c:PS->Prop}[∀s,Decidable (c s)]{f g:PS->PR α}(hf:Ps n f)(hg:Ps n g):Ps n fun s=>if c s then f s else g s:=fun s h=>by
 show PsOk n (if c s then f s else g s)
 split
 ·exact hf s h
 ·exact hg s h
theorem Qa5{α:Type}{n:Wd}{f:PS->PR α}(hf:Ps n f):Ps n fun s=>f s.nx:=fun s h=>hf s.nx (QbB h)
theorem QdC{α:Type}{n:Wd}{f:PS->PS->PR α}(hf:∀s0,Ps n (f s0)):Ps n fun s=>f s s:=fun s h=>hf s s h
variable{n:Wd}(hn:True)
include hn
theorem Qb0(b:List UInt8):Ps n (Z8 b):=Yb (c:=fun s=>s.is b=true) (Qa5 (Qae fun _=>())) (Qad hn 16)
theorem name_ps:Ps n Qco:=Yb (c:=fun s=>s.tk.kind≠1) (Qad hn 16) (Yb (c:=fun s=>resB s.tk.text=true) (Qad hn 7) fun s h=>QbB h)
theorem Qfi{ex:PS->PR T}(H:Ps n ex):∀(m:Nat) (l:List T),Ps n (Zh ex m l)
 |0,_=>Qad hn 16
 |m+1,l=>XY H fun _ t=>Yb (c:=fun s=>s.is Qa7=true) (Qa5 (Qfi H m _)) (XY (Qb0 hn _) fun _ _=>Qae _)
theorem Qj5{ex:PS->PR T}(H:Ps n ex):Ps n (ZH ex):=XY (name_ps hn) fun _ x=>Yb (c:=fun s=>s.is sLp=true) (QdC (f:=fun s0 s=>(Zh ex s0.toks.length [] s.nx).bind fun l s=>.ok (⟨0,x,l⟩:G) s) fun s0=>XY (Qa5 (Qfi hn H _ _)) fun _ _=>Qae fun _=>_) (Qae _)
theorem QsR:Ps n fun s=>if s.nx.tk.kind≠3\/s.nx.tk.pos≠s.tk.pos+1 then(.err s.nx.tk.pos 16:PR T)else .ok (.mk 0 (-valT s.nx.tk.text) eB []) s.nx.nx:=fun s h=>by
 have _u:=hn
 show PsOk n (if s.nx.tk.kind≠3\/s.nx.tk.pos≠s.tk.pos+1 then _ else _)
 split
 ·show(16:Int)≠0;decide
 ·exact QbB (QbB h)
theorem opT_ps{ex:PS->PR T}(H:Ps n ex):Ps n (pOpT ex) :=
 Yb (c:=fun s=>s.tk.kind=3) (fun s h=>QbB h) (fun s h=>by
  show PsOk n (if s.tk.kind=2 then _ else _)
  by_cases hk:s.tk.kind=2
  ·rw[if_pos hk];exact n.vr s h hk
  ·rw[if_neg hk]
   by_cases h1:s.tk.kind=1
   ·rw[if_pos h1]
    exact(XY (F:=ZH ex) (f:=fun _ a s=>(.ok (.mk 2 0 a.name a.args) s:PR T)) (Qj5 hn H) fun _ _=>Qae fun _=>_) s h
   ·rw[if_neg h1]
    by_cases h2:s.is Qgc=true
    ·rw[if_pos h2];exact QsR hn s h
    ·rw[if_neg h2]
     by_cases h3:s.is sLp=true
     ·rw[if_pos h3]
      exact(XY (F:=fun s=>ex s.nx) (f:=fun _ t s=>(Z8 sRp s).bind fun _ s=>(.ok t s:PR T)) (Qa5 H) fun _ t=>XY (F:=Z8 sRp) (f:=fun _ _ s=>(.ok t s:PR T)) (Qb0 hn _) fun _ _=>Qae fun _=>t) s h
     ·rw[if_neg h3];show(16:Int)≠0;decide)
theorem Qb9{op:PS->PR T}(H:Ps n op)(ops:List (List UInt8)):∀(m:Nat) (t:T),Ps n (XX op ops m t)
 |0,t=>Qae fun _=>t
 |m+1,t=>Yb (c:=fun s=>s.oneOf ops=true) (XY (f:=fun s u s2=>XX op ops m (.mk 2 0 s.tk.text [t,u]) s2) (Qa5 H) fun _ _=>Qb9 H ops m _) (Qae fun _=>t)
theorem chain_ps{op:PS->PR T}(H:Ps n op)(ops:List (List UInt8)):Ps n (XN op ops):=XY H fun _ t=>QdC (f:=fun s0 s=>XX op ops s0.toks.length t s) fun s0=>Qb9 hn H ops _ t
theorem exprT_ps:∀m,Ps n (YE m)
 |0=>Qad hn 16
 |m+1=>chain_ps hn (chain_ps hn (opT_ps hn (exprT_ps m)) XK) YA
theorem termT_ps:Ps n X7:=QdC (f:=fun s0 s=>YE (s0.toks.length+1) s) fun s0=>exprT_ps hn _
theorem Qf0(op:Int):Ps n (Qcp op):=XY (Qb0 hn _) fun _ _=>XY (termT_ps hn) fun _ _=>XY (Qb0 hn _) fun _ _=>Qae _
theorem goalT_ps:Ps n Y9:=Yb (c:=fun s=>s.tk.kind=1/\resB s.tk.text=true)
 (Yb (c:=fun s=>s.tk.text.toList=[116,114,117,101]) (Qa5 (Qae fun _=>_)) (Yb (c:=fun s=>s.tk.text.toList=[102,97,105,108]) (Qa5 (Qae fun _=>_))
  (Yb (c:=fun s=>s.tk.text.toList=[105,110,116]) (Qa5 (Qf0 hn _)) (Yb (c:=fun s=>s.tk.text.toList=[103,114,111,117,110,100]) (Qa5 (Qf0 hn _)) (Qad hn 7)))))
 (XY (termT_ps hn) fun s t s2 h=>by
  cases hc:cmpOp s2 with
  |some x =>
   obtain⟨op,turn⟩:=x
   simp only
   exact(XY (f:=fun _ u s3=>.ok (⟨op,eB,if turn then[u,t]else[t,u]⟩:G) s3) (Qa5 (termT_ps hn)) fun _ _=>Qae fun _=>_) s2 h
  |none =>
   simp only
   by_cases hc:s.tk.kind=1/\t.name.toList=s.tk.text.toList
   ·rw[if_pos hc];exact h
   ·rw[if_neg hc];exact(by decide:(16:Int)≠0))
theorem Qce(most:Nat):∀(m:Nat) (l:List G),Ps n (YS most m l)
 |0,_=>Qad hn 16
 |m+1,l=>Yb (c:=fun _=>most<=l.length) (Qad hn 6) (QdB (goalT_ps hn) fun s0 h0 g=>Yb (c:=fun _=>QL g=false) (QkO (Qg1 hn h0) 6) (Yb (c:=fun s=>s.is Qa7=true) (Qa5 (Qce most m _)) (Qae _)))
theorem goals_ps(most:Nat):Ps n (QbF most):=QdC (f:=fun s0 s=>YS most (s0.toks.length+1) [] s) fun s0=>Qce hn most _ _
theorem QsF:Ps n pEnd:=Yb (c:=fun s=>s.tk.kind=0) (Qae fun _=>()) (Qad hn 16)
theorem query_ps:Ps n Qf3:=XY (goals_ps hn 40) fun _ l=>XY (QsF hn) fun _ _=>Qae fun _=>_
end Kp
theorem Qq8(s:PS):s.nx.toks <:+ s.toks:=by
 unfold PS.nx
 split
 ·rename_i t u r e;rw[e];exact List.suffix_cons _ _
 ·exact List.suffix_refl _
theorem Qnd(x:ByteArray)(s:PS):(pVari x s).2.names.length<=s.names.length+1:=by
 unfold pVari
 split
 ·exact Nat.le_succ _
 ·simp
theorem Qpy{s s':PS}(e:s.toks=s'.toks)(h:s.wf):s'.wf:=by
 obtain⟨l,x,h1,h2,h3⟩:=h
 exact⟨l,x,e▸h1,h2,h3⟩
structure Wst (all:List Tk) (s:PS):Prop where
 wf:s.wf
 suf:s.toks <:+ all
 nms:s.names.length+s.toks.length<=all.length
theorem Wst.nx{all:List Tk}{s:PS}(h:Wst all s):Wst all s.nx :=
 ⟨QaR h.wf,(Qq8 s).trans h.suf,by have:=Qtu h.wf;have:=h.nms;show s.names.length+_<=_;omega⟩
theorem Wst.vr{all:List Tk}{s:PS}(h:Wst all s)(hk:s.tk.kind≠0):Wst all (pVari s.tk.text s.nx).2:=by
 have e:=Qgl s.tk.text s.nx
 refine⟨Qpy e.symm (QaR h.wf),by rw[e];exact(Qq8 s).trans h.suf,?_⟩
 have h1:=Qnd s.tk.text s.nx
 have h2:=YU h.wf hk
 have h3:=h.nms
 have h4:s.nx.names=s.names:=rfl
 rw[e];rw[h4]at h1;omega
def wdOf(all:List Tk):Wd:=⟨Wst all,fun s h=>h.nx,fun s h hk=>h.vr (by rw[hk];decide),fun s h=>⟨Qpy rfl h.wf,h.suf,by have:=h.suf.length_le;simpa using this⟩⟩
end Go.Proofs.YtenheconhibonaaGreatDoor.Ab
namespace Go.Proofs.YtenheconhibonaaGreatDoor.Ab
theorem Qrk{c:Cx}(hs:St c){s:Nat}{k:AB}(hk:k = .dead\/∃e,k = .grow e s 0):Ev c (c.add c.w k none)/\St (c.add c.w k none):=by
 have hg:=Grows.refl c.w
 have ho:∀B,(none:Option Nat)=some B->c.w.heap.size<=B:=fun B h=>by cases h
 have hρ:(c.add c.w k none).ρ c.h.length=none:=by simp[Cx.add]
 refine⟨Ev.add hs hg k none ho,St.add hs hg _ _ ho ?_⟩
 rcases hk with rfl|⟨e,rfl⟩
 ·trivial
 ·exact fun B hB=>by rw[hρ]at hB;cases hB
theorem Qsh{c:Cx}(hst:St c){id ty n s:Nat}{k:AB}(hk:k = .dead\/∃e,k = .grow e s 0){xs xs':List AV}{j:Nat}(hb:c.h[id]? = some (.cells ty n xs))(hj:(flat xs)[j]? = some (.v (.slice none 0 0)))
  (hf:flat xs'=(flat xs).set j (.sl s [] (some c.h.length))) (hc:∀x∈xs',x.cells.length=n) :
  ∃c2,Ev c c2/\St c2/\c2.h=(c.h++[k]).set id (AB.cells ty n xs')/\c2.w=c.w:=by
 obtain⟨hev,hst1⟩:=Qrk hst hk
 have hlt:=Qv hb
 have hb1:(c.add c.w k none).h[id]? = some (.cells ty n xs):=by
  simp only[Cx.add];rw[QwI hlt];exact hb
 obtain⟨B,cur,hρ,hcur,h3,h4⟩:=hst1.blocks id _ hb1
 have hev2:=Ev.turn (b':=.cells ty n xs') hst1 hb1 rfl hρ (w:=c.w) rfl rfl rfl rfl (fun _ _=>rfl) (.inr ⟨_,rfl,rfl,fun _ cur _ h=>⟨cur,h,rfl⟩⟩)
 have htok:((c.add c.w k none).turn c.w id (.cells ty n xs')).tokNil c.h.length s:=by
  refine⟨by simp[Cx.turn,Cx.add],fun e2 s2 n2 hg2=>?_⟩
  simp only[Cx.turn,Cx.add]at hg2
  rw[QwL (by omega),QwO (QwP _),Qxy]at hg2
  rcases hk with rfl|⟨e,rfl⟩
  ·simp at hg2
  ·simp at hg2
   exact⟨hg2.2.1.symm,fun _=>by simp[Cx.turn,Cx.add]⟩
 have hst2:=St.turn (b':=.cells ty n xs') hst1 hb1 rfl hρ (w:=c.w) (fun _ _=>rfl) hev2 ⟨B,cur,hρ,hcur,hc,by
  intro i a' hi
  rw[hf]at hi
  by_cases e:j=i
  ·subst e
   rw[QwR (Qv hj)]at hi
   cases hi
   obtain⟨u,g1,g2,g3⟩:=h4 j _ hj
   cases g3
   exact⟨_,g1,g2,.slnil _ _ fun b hb=>by cases hb;exact htok⟩
  ·rw[QwL e]at hi
   obtain⟨u,g1,g2,g3⟩:=h4 i _ hi
   exact⟨u,g1,g2,g3.ev hst1 hev2⟩⟩
 exact⟨_,Ev.trans hst hev hev2,hst2,rfl,rfl⟩
theorem QaP{P:Program}{N:Nat}{code:Code}{Q:AExit->AS->Prop}{tm:Nat->AV}{h:AH}(id ty n s:Nat)(k:AB)(hk:k = .dead\/∃e,k = .grow e s 0)(xs xs':List AV)(j:Nat)(hb:h[id]? = some (.cells ty n xs))
  (hj:(flat xs)[j]? = some (.v (.slice none 0 0))) (hf:flat xs'=(flat xs).set j (.sl s [] (some h.length))) (hc:∀x∈xs',x.cells.length=n)
  (H:XO P N code Q ⟨tm,(h++[k]).set id (AB.cells ty n xs')⟩):XO P N code Q ⟨tm,h⟩:=by
 intro F m base c a hF hst hr R hR
 have hh:c.h=h:=hr.h
 subst hh
 obtain⟨c2,hev,hst2,hh2,hw⟩:=Qsh hst hk hb hj hf hc
 rw[<-hw]
 exact H F m base c2 a hF hst2 ⟨hh2,hr.size,Qw8 hr.above hev.size,hr.defers.ev hev,RoundOk.ev hev hr.round,fun t=>(hr.tm t).ev hst hev⟩ R fun e' s' c' a' ex hq h1 h2 h3 h4=>hR e' s' c' a' ex hq (Ev.trans hst hev h1) h2 h3 h4
theorem QhB{P:Program}{N:Nat}{code:Code}{Q:AExit->AS->Prop}{tm:Nat->AV}{h:AH}(d:Nat){v w:AV}(hd:tm d=v)(hw:Wk v w)(H:XO P N code Q ⟨upd tm d w,h⟩):XO P N code Q ⟨tm,h⟩:=by
 subst hd
 intro F n base c a hF hst hr R hR
 refine H F n base c a hF hst ⟨hr.h,hr.size,hr.above,hr.defers,hr.round,fun t=>?_⟩ R hR
 by_cases e:t=d
 ·subst e
  show Rel c (upd tm t w t) _
  rw[show upd tm t w t=w by simp[upd]]
  exact hw _ _ (hr.tm t)
 ·show Rel c (upd tm d w t) _
  rw[upd_ne _ _ e]
  exact hr.tm t
def ArrW(P:Program)(N:Nat)(ops:Array Oper)(o:Oper)(K:AS->Prop)(s:AS):Prop :=
 match Qk ops s.tm o with
 |some true=>(match o.op with
  | .buildSlice t len ps=>(match Xp P t with
   |some (e,n)=>(QW P t len (ps.toList.map fun p=>(p.1,s.ev p.2)) s.h).isSome=true/\K (AS.put N {s with h:=s.h++[.cells e n (ps.toList.map fun p=>s.ev p.2)]} o.dst (.arr s.h.length 0 len))
   |none=>False)
  |_=>False)
 |some false=>K (AS.put N s o.dst (.v undef))
 |none=>False
theorem QeL{P:Program}{N:Nat}{Q:AExit->AS->Prop}{s:AS}{id:Nat}{ops:Array Oper}(i:Nat){o:Oper}(ho:ops.toList[i]? = some o)
  (H:∀(K:AS->Prop) (E:AV->AS->Prop),(∀s,Q .normal s->K s)->(∀r s,Q (.panic r) s->E r s)->OpsW P N ops (ops.toList.take i) (ArrW P N ops o (OpsW P N ops (ops.toList.drop (i+1)) K E)) E s):XO P N (.region id ops false) Q s:=by
 intro F n base c a hF hst hr R hR
 refine wpIn_region ?_
 have hlt:=Qv ho
 have hH:=H (fun s'=>Q .normal s') (fun r s'=>Q (.panic r) s') (fun _ h=>h) (fun _ _ h=>h)
 have hi:(ops.toList.take i).length=i:=by rw[Qw9];omega
 have hrange:List.range ops.size=List.range' 0 (ops.toList.take i).length++(i::(List.range' (i+1) (ops.toList.drop (i+1)).length++[])):=by
  rw[hi,Qwi,Qxi,Qx0,<-Qxn]
  have:ops.toList.length=i+(1+(ops.toList.length - (i+1))):=by omega
  conv=>lhs;rw[this]
  rw[<-Qx6,Qv1,<-Qx6]
  rfl
 have hget:∀j,(ops.toList.drop (i+1))[j]? = ops[i+1+j]? := fun j=>by rw[Qxl];simp
 rw[hrange]
 refine Qcn hF (ops.toList.take i) 0 s c a (fun j hj=>by rw[Qyf,QwN (by omega)];simp) hH hst hr ?_ ?_
 ·intro s1 c1 a1 h1 h2 h3 h4
  have h0:ops[i]? = some o:=by rw[<-ho];simp
  have hrest:∀s2 c2 a2,OpsW P N ops (ops.toList.drop (i+1)) (fun s'=>Q .normal s') (fun r s'=>Q (.panic r) s') s2->Ev c c2->St c2->SR N (base,F) c2 s2 a2->wpOpsIn F n P ops R (List.range' (i+1) (ops.toList.drop (i+1)).length++[]) a2 c2.w:=by
   intro s2 c2 a2 hq he2 hst2 hr2
   refine Qcn hF _ (i+1) s2 c2 a2 (fun j _=>hget j) hq hst2 hr2 ?_ ?_
   ·intro s' c' a' hQ k1 k2 k3
    simp only[wpOpsIn]
    exact hR _ s' c' a' _ hQ (Ev.trans hst he2 k1) k2 k3 rfl
   ·intro r s' c' a' x hQ k1 k2 k3 hx
    exact hR _ s' c' a' _ hQ (Ev.trans hst he2 k1) k2 k3 ⟨x,rfl,hx⟩
  simp only[wpOpsIn,h0]
  unfold ArrW at h1
  split at h1
  ·rename_i hw
   rw[Xt h4 hw]
   simp only[QxP]
   split at h1
   ·rename_i t len ps hop
    split at h1
    ·rename_i e m he
     exact QgH hop he h1.1 h1.2 hF h3 h4 fun s' c' a' hK k1 k2 k3=>hrest s' c' a' hK (Ev.trans hst h2 k1) k2 k3
    ·exact h1.elim
   ·exact h1.elim
  ·rename_i hw
   rw[Xt h4 hw]
   simp only[QvT,QxC]
   refine⟨fun f _=>hF.fn f,?_⟩
   have hr':=h4.put h3 (Ev.refl c1) o.dst (.v undef)
   rw[h4.h]at hr'
   exact hrest _ c1 _ h1 h2 h3 hr'
  ·exact h1.elim
 ·intro r s' c' a' x hQ h1 h2 h3 hx
  exact hR _ s' c' a' _ hQ h1 h2 h3 ⟨x,rfl,hx⟩
theorem Zm{P:Program}{N:Nat}{Q:AExit->AS->Prop}{s:AS}{id:Nat}{ops:Array Oper}{y:Code}(i:Nat){o:Oper}(ho:ops.toList[i]? = some o)
  (H:∀(K:AS->Prop) (E:AV->AS->Prop),(∀s,XO P N y Q s->K s)->(∀r s,Q (.panic r) s->E r s)->OpsW P N ops (ops.toList.take i) (ArrW P N ops o (OpsW P N ops (ops.toList.drop (i+1)) K E)) E s):XO P N (.seq (.region id ops false) y) Q s :=
 Qaz (QeL i ho (fun K E hK hE=>H K E hK hE))
theorem Ev.Qvp{c c':Cx}(hev:Ev (c.cut 0) c'){B:Nat}(h:B<c.w.heap.size):c'.w.heap[B]? = c.w.heap[B]? :=
 hev.frame B h fun⟨id,b,hb,_⟩=>by simp[Cx.cut]at hb
inductive Melt (h:AH) (m:Nat):AV->AV->Prop
 |keep {a:AV} (hb:Below m a):Melt h m a a
 |nil (s:Nat):Melt h m (.v (.slice none 0 0)) (.sl s [] none)
 |agg {l l':List AV} (hl:l'.length=l.length) (hp:∀(j:Nat) a a',l[j]? = some a->l'[j]? = some a'->Melt h m a a'):Melt h m (.agg l) (.agg l')
 |sl {s:Nat} {xs ys:List AV} {own:Option Nat} (hl:ys.length=xs.length) (hs:∀y∈ys,y.cells.length=s) (hf:(flat ys).length=(flat xs).length)
   (hp:∀(j:Nat) a a',(flat xs)[j]? = some a->(flat ys)[j]? = some a'->Melt h m a a'):Melt h m (.sl s xs own) (.sl s ys none)
 |arr {id len s:Nat} {ty:TypeId} {xs ys:List AV} (hi:m<=id) (hg:h[id]? = some (.cells ty s xs)) (hl:ys.length=len) (hs:∀y∈ys,y.cells.length=s) (hf:(flat ys).length<=(flat xs).length)
   (hp:∀(j:Nat) a a',(flat xs)[j]? = some a->(flat ys)[j]? = some a'->Melt h m a a'):Melt h m (.arr id 0 len) (.sl s ys none)
theorem Melt.rel{c:Cx}(hs:St c){m:Nat}(hm:m<=c.h.length){a a':AV}(h:Melt c.h m a a'):∀{x:Value},Rel c a x->Rel (c.cut m) a' x:=by
 induction h with
 |keep hb=>exact fun hr=>hr.cut hm hb
 |nil s=>intro x hr;cases hr;exact .slnil s none fun b hb=>by cases hb
 |@agg l l' hl _ ih =>
  intro x hr
  cases hr with
  |agg _ cs hl' hr =>
   refine .agg _ cs (by omega) fun j a' u ha' hu=>?_
   obtain⟨a,ha⟩:∃a,l[j]? = some a:=⟨_,QwK (by rw[<-hl];exact Qv ha')⟩
   exact ih j a a' ha ha' (hr j a u ha hu)
 |@sl s xs ys own hl hs' hf _ ih =>
  intro x hr
  have old:∀(j:Nat) a',(flat ys)[j]? = some a'->∃a,(flat xs)[j]? = some a:=fun j a' ha=>⟨_,QwK (by rw[<-hf];exact Qv ha)⟩
  cases hr with
  |slnil _ _ ht =>
   cases ys with
   |nil=>exact .slnil s none fun b hb=>by cases hb
   |cons y ys=>simp at hl
  |slzero _ _ ba ht =>
   cases ys with
   |nil=>exact .slzero s none ba fun b hb=>by cases hb
   |cons y ys=>simp at hl
  |sl _ _ _ B o cap f hs0 hcap hmax hc hr ht =>
   rw[<-hl]at hcap ⊢
   refine .sl s ys none B o cap f hs' hcap hmax (fun j a' ha=>?_) (fun j a' ha=>?_) fun b hb=>by cases hb
   ·obtain⟨a,h1⟩:=old j a' ha
    exact⟨⟨(hc j a h1).1.1,QeW (hc j a h1).1.2⟩,(hc j a h1).2⟩
   ·obtain⟨a,h1⟩:=old j a' ha
    exact ih j a a' h1 ha (hr j a h1)
 |@arr id len s ty xs ys hi hg hl hs' hf _ ih =>
  intro x hr
  have old:∀(j:Nat) a',(flat ys)[j]? = some a'->∃a,(flat xs)[j]? = some a:=fun j a' ha=>⟨_,QwK (Qxg (Qv ha) hf)⟩
  cases hr with
  |arr _ _ _ x hid ho h1 =>
   obtain⟨B,cap,hρ,rfl,h2,h3,_⟩:=h1 _ _ _ hg
   obtain⟨B',cur,g1,g2,g3,g4⟩:=hs.blocks id _ hg
   rw[hρ]at g1;cases g1
   subst hl
   rw[QxW]
   refine .sl s ys none B 0 cap (fun j=>cur.getD j undef) hs' h2 h3 (fun j a' ha=>?_) (fun j a' ha=>?_) fun b hb=>by cases hb
   ·obtain⟨a,h4⟩:=old j a' ha
    obtain⟨u,h5,h6,h7⟩:=g4 j a h4
    have e:cur.getD j undef=u:=by rw[QwW,h5];rfl
    show(c.cut m).cellP B (0+j) (cur.getD j undef)/\(cur.getD j undef).oneCell'=true
    rw[e]
    refine⟨⟨by show c.w.cell? _=_;rw[Qv1,XS g2];exact h5,hs.lt hg rfl hρ,fun id' b' hb' hl' hρ'=>?_⟩,h6⟩
    obtain⟨hlt,hb2⟩:=Zb hb'
    have:=hs.inj id' id b' _ B hb2 hg hl' rfl hρ' hρ
    omega
   ·obtain⟨a,h4⟩:=old j a' ha
    obtain⟨u,h5,h6,h7⟩:=g4 j a h4
    have e:cur.getD j undef=u:=by rw[QwW,h5];rfl
    show Rel (c.cut m) a' (cur.getD j undef)
    rw[e]
    exact ih j a a' h4 ha h7
theorem Qmf{P:Program}{f:FuncId}{args args':List AV}{h:AH}{v:Value}(hl:args'.length=args.length)(hm:∀(j:Nat) a a',args[j]? = some a->args'[j]? = some a'->Melt h 0 a a')
  (H:QT P f args' [] fun o h'=>o = .ret (.v v)/\h'=[]):QT P f args h fun o h'=>o = .ret (.v v)/\h'=h:=by
 refine⟨H.1,fun F n c vals hF hs hh hvs=>?_⟩
 subst hh
 have hst0:St (c.cut 0):=hs.cut (Qw3 _) (by simp)
 have hargs:RelL (c.cut 0) args' vals:=by
  refine⟨hvs.1.trans hl.symm,fun j a' u h1 h2=>?_⟩
  obtain⟨a,ha⟩:∃a,args[j]? = some a:=⟨_,QwK (by rw[<-hl];exact Qv h1)⟩
  exact(hm j a a' ha h1).rel hs (Qw3 _) (hvs.2 j a u ha h2)
 refine(H.2 F n (c.cut 0) vals hF hst0 (by simp[Cx.cut]) hargs).mono ?_
 rintro e w' ⟨o,c',⟨rfl,hh'⟩,hev,hst,hw,hex⟩
 obtain⟨x,rfl,hr⟩:=hex
 cases hr
 have hmem:∀{B:Nat},B<c.w.heap.size->c'.w.heap[B]? = c.w.heap[B]? := fun h=>hev.Qvp h
 let c2:Cx:={ρ:=c.ρ,h:=c.h,w:=c'.w}
 have hlt0:∀{i B0:Nat} {b:AB},c.h[i]? = some b->b.live=true->c.ρ i=some B0->B0<c.w.heap.size:=fun h1 h2 h3=>hs.lt h1 h2 h3
 have hm:∀{B0:Nat} {o:Obj},c.w.heap[B0]? = some o->c2.w.heap[B0]? = some o:=fun{B0 o} h=>(hmem (QwX.1 h).1).trans h
 have hev2:Ev c c2:=by
  refine⟨hev.os,hev.tape,hev.output,hev.size,QwP _,fun B0 h1 _=>hmem h1,fun id b hb=>⟨b,hb,?_⟩,fun id B0 b h1 h2 hl h3=>?_⟩
  ·cases b with
   |cells ty s xs=>exact .inr ⟨xs,rfl,rfl,fun B cur hρ hc=>⟨cur,hm hc,rfl⟩⟩
   |grow e s n=>exact .inr ⟨n,rfl,QwP _,fun _=>rfl,fun B hB=>.inl hB,fun B cur hρ hc=>⟨cur,hm hc,rfl,fun _ _=>rfl⟩⟩
   |map es=>exact⟨es,rfl,rfl⟩
   |loop i=>exact⟨i,rfl,rfl⟩
   |iter s p=>exact⟨p,rfl,rfl⟩
   |glob g cs ty fr=>exact⟨rfl,rfl,fun B hρ=>hmem (hlt0 hb rfl hρ)⟩
   |dead=>rfl
   |gone=>rfl
  ·have:=Qv h2
   simp only[c2]at this
   omega
 have hst2:St c2:=⟨fun id b hb=>(hs.blocks id b hb).ev hs hev2 rfl fun B0 hl hρ=>hmem (hlt0 hb hl hρ),hs.inj⟩
 exact⟨.ret (.v v),c2,⟨rfl,rfl⟩,hev2,hst2,hw,_,rfl,.v _⟩
end Go.Proofs.YtenheconhibonaaGreatDoor.Ab
namespace Go.Proofs.YtenheconhibonaaGreatDoor.Ab
inductive Pk (n:Nat) (τ:Nat->Nat) (h2:AH):AV->AV->Prop
 |keep {a:AV} (hb:Below n a):Pk n τ h2 a a
 |agg {l l':List AV} (hl:l'.length=l.length) (hp:∀(j:Nat) a a',l[j]? = some a->l'[j]? = some a'->Pk n τ h2 a a'):Pk n τ h2 (.agg l) (.agg l')
 |tup {l l':List AV} (hl:l'.length=l.length) (hp:∀(j:Nat) a a',l[j]? = some a->l'[j]? = some a'->Pk n τ h2 a a'):Pk n τ h2 (.tup l) (.tup l')
 |sl {s:Nat} {xs ys:List AV} {own:Option Nat} (hl:ys.length=xs.length) (hs:∀y∈ys,y.cells.length=s) (hf:(flat ys).length=(flat xs).length)
   (hp:∀(j:Nat) a a',(flat xs)[j]? = some a->(flat ys)[j]? = some a'->Pk n τ h2 a a'):Pk n τ h2 (.sl s xs own) (.sl s ys none)
 |arr {id old lo len:Nat} (ho:old=τ id) (hi:n<=id) (hl:id<h2.length):Pk n τ h2 (.arr old lo len) (.arr id lo len)
structure Pack (n:Nat) (τ:Nat->Nat) (h h2:AH):Prop where
 len:n<=h2.length
 len':n<=h.length
 id:∀i,i<n->τ i=i
 old:∀i,i<n->h2[i]? = h[i]?
 below:∀(i:Nat) b,i<n->h[i]? = some b->b.Below n
 lo:∀i,n<=i->i<h2.length->n<=τ i
 inj:∀i j,n<=i->i<h2.length->n<=j->j<h2.length->τ i=τ j->i=j
 new:∀(i:Nat) b,n<=i->h2[i]? = some b->b = .dead\/∃ty s xs ys,b = .cells ty s ys/\h[τ i]? = some (.cells ty s xs)/\(∀y∈ys,y.cells.length=s)/\(flat ys).length<=(flat xs).length /\
  ∀(j:Nat) a a',(flat xs)[j]? = some a->(flat ys)[j]? = some a'->Pk n τ h2 a a'
def Cx.pack(c:Cx)(τ:Nat->Nat)(h2:AH):Cx:={ρ:=fun i=>c.ρ (τ i),h:=h2,w:=c.w}
section
variable{c:Cx}{n:Nat}{τ:Nat->Nat}{h2:AH}(K:Pack n τ c.h h2)
include K
theorem Pack.get{i:Nat}{b:AB}(hb:h2[i]? = some b):(i<n/\c.h[i]? = some b/\τ i=i/\b.Below n)\/(n<=i/\(b = .dead\/∃ty s xs ys,b = .cells ty s ys/\c.h[τ i]? = some (.cells ty s xs)/\(∀y∈ys,y.cells.length=s)/\(flat ys).length<=(flat xs).length /\
  ∀(j:Nat) a a',(flat xs)[j]? = some a->(flat ys)[j]? = some a'->Pk n τ h2 a a')):=by
 rcases Qyd i n with h|h
 ·have:=K.old i h
  rw[hb]at this
  exact .inl ⟨h,this.symm,K.id i h,K.below i b h this.symm⟩
 ·exact .inr ⟨h,K.new i b h hb⟩
theorem Pack.low{i:Nat}{b:AB}(hi:i<n)(hb:c.h[i]? = some b):h2[i]? = some b:=(K.old i hi).trans hb
theorem Pack.live{i:Nat}{b:AB}(hb:h2[i]? = some b)(hl:b.live=true):∃b',c.h[τ i]? = some b'/\b'.live=true/\(b'=b\/∃ty s xs,b' = .cells ty s xs):=by
 rcases K.get hb with⟨_,h1,h3,_⟩|⟨_,rfl|⟨ty,s,xs,ys,rfl,h1,_⟩⟩
 ·exact⟨b,by rw[h3];exact h1,hl,.inl rfl⟩
 ·cases hl
 ·exact⟨_,h1,rfl,.inr ⟨_,_,_,rfl⟩⟩
theorem Pack.prot{B o:Nat}(h:c.prot B o):(c.pack τ h2).prot B o:=by
 refine⟨h.1,fun id b hb hl hρ=>?_⟩
 obtain⟨b',h1,h3,h4⟩:=K.live hb hl
 have h5:=h.2 (τ id) b' h1 h3 hρ
 rcases h4 with rfl|⟨ty,s,xs,rfl⟩
 ·exact h5
 ·rcases h5 with⟨_,_,_,h5,_⟩|⟨_,_,_,_,h5⟩ <;> cases h5
theorem Pack.ρ{i:Nat}(hi:i<n):(c.pack τ h2).ρ i=c.ρ i:=by show c.ρ (τ i)=c.ρ i;rw[K.id i hi]
theorem Pack.back{i:Nat}{b:AB}(hi:i<n)(hb:(c.pack τ h2).h[i]? = some b):c.h[i]? = some b:=(K.old i hi).symm.trans hb
theorem Pack.keep{a:AV}{x:Value}(h:Rel c a x)(hb:Below n a):Rel (c.pack τ h2) a x:=by
 have hlt:∀{i:Nat},i<n->i<(c.pack τ h2).h.length:=fun h=>Qxg h K.len
 induction h with
 |v x=>exact .v x
 |junk x=>exact .junk x
 |agg l cs hl _ ih=>cases hb with|agg _ h=>exact .agg l cs hl fun j a u h1 h2=>ih j a u h1 h2 (h a (QwV h1))
 |tup l cs hl _ ih=>cases hb with|tup _ h=>exact .tup l cs hl fun j a u h1 h2=>ih j a u h1 h2 (h a (QwV h1))
 |slnil s own ht =>
  cases hb with
  |sl _ _ _ h hown =>
   refine .slnil s own fun b hb=>⟨hlt (hown b hb),fun e s' m hg=>?_⟩
   rw[K.ρ (hown b hb)]
   exact(ht b hb).2 e s' m (K.back (hown b hb) hg)
 |slzero s own ba ht =>
  cases hb with
  |sl _ _ _ h hown =>
   refine .slzero s own ba fun b hb=>⟨hlt (hown b hb),fun e s' m hg=>?_⟩
   rw[K.ρ (hown b hb)]
   exact(ht b hb).2 e s' m (K.back (hown b hb) hg)
 |sl s xs own B o cap f hs hcap hmax hc _ ht ih =>
  cases hb with
  |sl _ _ _ h hown =>
   refine .sl s xs own B o cap f hs hcap hmax (fun j a hj=>⟨⟨(hc j a hj).1.1,K.prot (hc j a hj).1.2⟩,(hc j a hj).2⟩) (fun j a hj=>ih j a hj (h a (QwV hj)))
    fun b hb=>⟨⟨hlt (hown b hb),let ⟨x,g1,g2⟩:=(ht b hb).1.2;⟨x,K.low (hown b hb) g1,g2⟩⟩,fun e s' m hg=>?_⟩
   rw[K.ρ (hown b hb)]
   exact(ht b hb).2 e s' m (K.back (hown b hb) hg)
 |pin s xs k off B o f hs hc _ ih =>
  cases hb with
  |pin _ _ _ _ h =>
   exact .pin s xs k off B o f hs (fun j a hj=>⟨⟨(hc j a hj).1.1,K.prot (hc j a hj).1.2⟩,(hc j a hj).2⟩) (fun j a hj=>ih j a hj (h a (QwV hj)))
 |ptr id k off x hid ho h1 =>
  cases hb with
  |ptr _ _ _ h=>exact .ptr id k off x (hlt h) ho fun ty s xs hg=>by rw[K.ρ h];exact h1 ty s xs (K.back h hg)
 |arr id lo len x hid ho h1 =>
  cases hb with
  |arr _ _ _ h=>exact .arr id lo len x (hlt h) ho fun ty s xs hg=>by rw[K.ρ h];exact h1 ty s xs (K.back h hg)
 |row id lo len cap x hid ho h1 =>
  cases hb with
  |row _ _ _ _ h=>exact .row id lo len cap x (hlt h) ho fun ty s xs hg=>by rw[K.ρ h];exact h1 ty s xs (K.back h hg)
 |mp id x hid ho h1 =>
  cases hb with
  |mp _ h=>exact .mp id x (hlt h) ho ⟨fun es hg=>by rw[K.ρ h];exact h1.1 es (K.back h hg),fun i hg=>by rw[K.ρ h];exact h1.2.1 i (K.back h hg),fun s p hg=>by rw[K.ρ h];exact h1.2.2 s p (K.back h hg)⟩
 |fn f first cap vs ws e1 e2 _ _ ih1 ih2 =>
  cases hb with
  |fn _ _ _ h1 h2=>exact .fn f first cap vs ws e1 e2 (fun j a u h3 h4=>ih1 j a u h3 h4 (h1 a (QwV h3))) (fun j a u h3 h4=>ih2 j a u h3 h4 (h2 a (QwV h3)))
 |ifc t a u _ ih=>cases hb with|ifc _ _ h=>exact .ifc t a u (ih h)
 |spt s xs own p n k _ ih=>cases hb with|spt _ _ _ h=>exact .spt s xs own p n k (ih h)
theorem Pack.rel{a a':AV}(h:Pk n τ h2 a a'):∀{x:Value},Rel c a x->Rel (c.pack τ h2) a' x:=by
 induction h with
 |keep hb=>exact fun hr=>K.keep hr hb
 |@agg l l' hl _ ih =>
  intro x hr
  cases hr with
  |agg _ cs hl' hr =>
   refine .agg _ cs (by omega) fun j a' u ha' hu=>?_
   obtain⟨a,ha⟩:∃a,l[j]? = some a:=⟨_,QwK (by rw[<-hl];exact Qv ha')⟩
   exact ih j a a' ha ha' (hr j a u ha hu)
 |@tup l l' hl _ ih =>
  intro x hr
  cases hr with
  |tup _ cs hl' hr =>
   refine .tup _ cs (by omega) fun j a' u ha' hu=>?_
   obtain⟨a,ha⟩:∃a,l[j]? = some a:=⟨_,QwK (by rw[<-hl];exact Qv ha')⟩
   exact ih j a a' ha ha' (hr j a u ha hu)
 |@sl s xs ys own hl hs' hf _ ih =>
  intro x hr
  have old:∀(j:Nat) a',(flat ys)[j]? = some a'->∃a,(flat xs)[j]? = some a:=fun j a' ha=>⟨_,QwK (by rw[<-hf];exact Qv ha)⟩
  cases hr with
  |slnil _ _ ht =>
   cases ys with
   |nil=>exact .slnil s none fun b hb=>by cases hb
   |cons y ys=>simp at hl
  |slzero _ _ ba ht =>
   cases ys with
   |nil=>exact .slzero s none ba fun b hb=>by cases hb
   |cons y ys=>simp at hl
  |sl _ _ _ B o cap f hs0 hcap hmax hc hr ht =>
   rw[<-hl]at hcap ⊢
   refine .sl s ys none B o cap f hs' hcap hmax (fun j a' ha=>?_) (fun j a' ha=>?_) fun b hb=>by cases hb
   ·obtain⟨a,h1⟩:=old j a' ha
    exact⟨⟨(hc j a h1).1.1,K.prot (hc j a h1).1.2⟩,(hc j a h1).2⟩
   ·obtain⟨a,h1⟩:=old j a' ha
    exact ih j a a' h1 ha (hr j a h1)
 |@arr id old lo len ho hi hl =>
  intro x hr
  subst ho
  cases hr with
  |arr _ _ _ x hid ho h1 =>
   refine .arr id lo len x hl ho fun ty s ys hg=>?_
   rcases K.get hg with⟨h,_⟩|⟨_,e|⟨ty',s',xs,ys',e,h3,_⟩⟩
   ·omega
   ·cases e
   ·cases e
    exact h1 _ _ _ h3
theorem Pack.st(hs:St c):St (c.pack τ h2):=by
 refine⟨fun id b hb=>?_,fun i j a b B hi hj hla hlb hρi hρj=>?_⟩
 ·rcases K.get hb with⟨h1,h3,h4,hbl⟩|⟨h1,rfl|⟨ty,s,xs,ys,rfl,h3,h4,h5,h6⟩⟩
  ·have h0:=hs.blocks id b h3
   have hρ:=K.ρ h1
   cases b with
   |cells ty s xs =>
    obtain⟨B,cur,g1,g2,g3,g4⟩:=h0
    exact⟨B,cur,hρ.trans g1,g2,g3,fun j a hj=>let ⟨u,h5,h6,h7⟩:=g4 j a hj;⟨u,h5,h6,K.keep h7 (hbl a (QwV hj))⟩⟩
   |grow e s m=>exact fun B hB=>h0 B (hρ.symm.trans hB)
   |map es =>
    obtain⟨B,ents,clock,g1,g2,g3,g4⟩:=h0
    exact⟨B,ents,clock,hρ.trans g1,g2,g3,fun j kv e hj he=>⟨(g4 j kv e hj he).1,K.keep (g4 j kv e hj he).2 (hbl kv (QwV hj))⟩⟩
   |loop i =>
    obtain⟨B,r,g1,g2,g3,g4⟩:=h0
    exact⟨B,r,hρ.trans g1,g2,g3,fun t=>K.keep (g4 t) (hbl t)⟩
   |iter s p =>
    obtain⟨B,g1,g2⟩:=h0
    exact⟨B,hρ.trans g1,g2⟩
   |glob g cs ty fr=>exact⟨hρ.trans h0.1,h0.2⟩
   |dead=>trivial
   |gone=>trivial
  ·trivial
  ·obtain⟨B,cur,g1,g2,g3,g4⟩:=hs.blocks _ _ h3
   refine⟨B,cur,g1,g2,h4,fun j a' hj=>?_⟩
   obtain⟨a,ha⟩:∃a,(flat xs)[j]? = some a:=⟨_,QwK (Qxg (Qv hj) h5)⟩
   obtain⟨u,k1,k2,k3⟩:=g4 j a ha
   exact⟨u,k1,k2,K.rel (h6 j a a' ha hj) k3⟩
 ·obtain⟨a',h1,h3,_⟩:=K.live hi hla
  obtain⟨b',h4,h5,_⟩:=K.live hj hlb
  have h6:=hs.inj (τ i) (τ j) a' b' B h1 h4 h3 h5 hρi hρj
  rcases K.get hi with⟨g1,_,g2,_⟩|⟨g1,_⟩
  ·rcases K.get hj with⟨g3,_,g4,_⟩|⟨g3,_⟩
   ·omega
   ·have:=K.lo j g3 (Qv hj);omega
  ·rcases K.get hj with⟨g3,_,g4,_⟩|⟨g3,_⟩
   ·have:=K.lo i g1 (Qv hi);omega
   ·exact K.inj i j g1 (Qv hi) g3 (Qv hj) h6
theorem Pack.ev{c0:Cx}(hn:c0.h.length=n)(hev:Ev c0 c):Ev c0 (c.pack τ h2):=by
 subst hn
 refine⟨hev.os,hev.tape,hev.output,hev.size,K.len,hev.frame,fun id b hb=>?_,fun id B b h1 h3 hl hρ=>?_⟩
 ·obtain⟨b',hb',hk⟩:=hev.kin id b hb
  have hi:=Qv hb
  have hρ:=K.ρ hi
  refine⟨b',K.low hi hb',?_⟩
  cases b <;> simp only[Kin,hρ]at hk ⊢ <;> exact hk
 ·obtain⟨b',h4,h5,_⟩:=K.live h3 hl
  rcases hev.fresh (τ id) B b' (K.lo id h1 (Qv h3)) h4 h5 hρ with h6|⟨i,ty,s,xs,a1,a2,a3⟩
  ·exact .inl h6
  ·exact .inr ⟨i,ty,s,xs,a1,a2,K.low (Qv a1) a3⟩
end
theorem Qbv{P:Program}{f:FuncId}{args:List AV}{h:AH}{Q Q0:AOut->AH->Prop}(H:QT P f args h Q0)
  (hp:(∀(i:Nat) b,h[i]? = some b->b.Below h.length)->∀o h',Q0 o h'->Q o h'\/∃r r2 τ h2,o = .ret r/\Pack h.length τ h' h2/\Pk h.length τ h2 r r2/\Q (.ret r2) h2):QT P f args h Q:=by
 refine⟨H.1,fun F n c vals hF hs hh hvs=>(H.2 F n c vals hF hs hh hvs).mono ?_⟩
 rintro e w' ⟨o,c',hQ,hev,hst,hw,hex⟩
 rcases hp (fun i b hb=>by subst hh;exact hs.below hb) o c'.h hQ with hq|⟨r,r2,τ,h2,rfl,K,hk,hq⟩
 ·exact⟨o,c',hq,hev,hst,hw,hex⟩
 ·obtain⟨x,rfl,hr⟩:=hex
  exact⟨.ret r2,c'.pack τ h2,hq,K.ev (by rw[hh]) hev,K.st hst,hw,x,rfl,K.rel hk hr⟩
end Go.Proofs.YtenheconhibonaaGreatDoor.Ab
namespace Go.Proofs.YtenheconhibonaaGreatDoor.Ab
mutual
def T.sz:T->Nat
 | .mk _ _ _ bs=>szs bs
def szs:List T->Nat
 |[]=>0
 |t::l=>t.sz+1+szs l
end
def T.lv(n:Nat):T->AV
 | .mk k i s bs=>.agg [.v (.int .i64 k),.v (.int .i64 i),.v (.string s),if bs.isEmpty then .v (.slice none 0 0)else .arr (n+szs bs - 1) 0 bs.length]
def lvs(n:Nat):List T->List AV
 |[]=>[]
 |t::l=>t.lv n::lvs (n+t.sz+1) l
def lsl(n:Nat)(bs:List T):AV:=if bs.isEmpty then .v (.slice none 0 0)else .arr (n+szs bs - 1) 0 bs.length
mutual
/-- the blocks of a term from n on: behind the blocks of each argument one that is dead,behind the last the row of the arguments -/
def T.lay(tt:TypeId)(n:Nat):T->AH
 | .mk _ _ _ bs=>lays tt n (.cells tt 4 (lvs n bs)) bs
def lays(tt:TypeId)(n:Nat)(r:AB):List T->AH
 |[]=>[]
 |t::l=>t.lay tt n++(if l.isEmpty then r else .dead)::lays tt (n+t.sz+1) r l
end
def layA(tt:TypeId)(n:Nat)(bs:List T):AH:=lays tt n (.cells tt 4 (lvs n bs)) bs
theorem T.Qvn(n:Nat)(t:T):t.lv n = .agg [.v (.int .i64 t.kind),.v (.int .i64 t.int),.v (.string t.name),lsl n t.args]:=by cases t;rfl
theorem T.Qva(tt:TypeId)(n:Nat)(t:T):t.lay tt n=layA tt n t.args:=by cases t;rw[T.lay];rfl
theorem T.Qvf(t:T):t.sz=szs t.args:=by cases t;rw[T.sz];rfl
theorem T.Qu0(n:Nat)(t:T):(t.lv n).cells=[.v (.int .i64 t.kind),.v (.int .i64 t.int),.v (.string t.name),lsl n t.args]:=by rw[T.Qvn];rfl
theorem T.Qu3(n:Nat)(t:T):(t.lv n).isAgg=true:=by rw[T.Qvn];rfl
theorem Q9(n:Nat)(bs:List T):(lsl n bs).cell1=true:=by unfold lsl;split <;> rfl
theorem QfO(n:Nat)(bs:List T):(lsl n bs).cells=[lsl n bs]:=by unfold lsl;split <;> rfl
theorem QfP(n:Nat)(bs:List T):(lsl n bs).isAgg=false:=by unfold lsl;split <;> rfl
theorem T.Qu5(n:Nat)(t:T):(t.lv n).cells.length=4:=by rw[T.Qu0];rfl
theorem Z3:∀(n:Nat) (l:List T),(lvs n l).length=l.length
 |_,[]=>rfl
 |n,t::l=>by rw[lvs,Qv2,Z3];rfl
theorem QlF:∀(n:Nat) (l:List T),∀y∈lvs n l,y.cells.length=4
 |_,[],y,h=>by simp[lvs]at h
 |n,t::l,y,h=>by
  rw[lvs,QwS]at h
  rcases h with rfl|h
  ·exact T.Qu5 _ _
  ·exact QlF _ l y h
theorem Y3:∀(l m:List T),szs (l++m)=szs l+szs m
 |[],m=>by simp[szs]
 |t::l,m=>by rw[Qwh,szs,szs,Y3 l m];omega
theorem Qsc(t:T):szs [t]=t.sz+1:=by simp[szs]
theorem Qd4:∀(n:Nat) (l m:List T),lvs n (l++m)=lvs n l++lvs (n+szs l) m
 |n,[],m=>by simp[lvs,szs]
 |n,t::l,m=>by
  rw[Qwh,lvs,lvs,Qd4 _ l m,szs]
  simp only[Qwh]
  rw[show n+t.sz+1+szs l=n+(t.sz+1+szs l) by omega]
mutual
theorem T.QuZ(tt:TypeId):∀(n:Nat) (t:T),(t.lay tt n).length=t.sz
 |n,.mk _ _ _ bs=>by rw[T.lay,T.sz];exact Zn tt n _ bs
theorem Zn(tt:TypeId):∀(n:Nat) (r:AB) (l:List T),(lays tt n r l).length=szs l
 |n,r,[]=>by rw[lays,szs];rfl
 |n,r,t::l=>by rw[lays,szs,QwG,Qv2,T.QuZ tt n t,Zn tt _ r l];omega
end
theorem YJ(tt:TypeId)(n:Nat)(l:List T):(layA tt n l).length=szs l:=Zn tt n _ l
theorem Qdr(tt:TypeId):∀(n:Nat) (r:AB) (l:List T) (u:T),lays tt n r (l++[u])=lays tt n .dead l++(u.lay tt (n+szs l)++[r])
 |n,r,[],u=>by simp[lays,szs]
 |n,r,t::l,u=>by
  have e:(l++[u]).isEmpty=false:=by cases l <;> rfl
  rw[Qwh,lays,lays,Qdr tt _ r l u,e,szs]
  simp only[QvT,QxC,ite_self,QwM,Qwh]
  rw[show n+t.sz+1+szs l=n+(t.sz+1+szs l) by omega]
theorem QbQ(tt:TypeId):∀(n:Nat) (r:AB) (l:List T) (u:T) (m:List T),lays tt n r (l++u::m)=lays tt n .dead l++lays tt (n+szs l) r (u::m)
 |n,r,[],u,m=>by simp[lays,szs]
 |n,r,t::l,u,m=>by
  have e:(l++u::m).isEmpty=false:=by cases l <;> rfl
  rw[Qwh,lays,QbQ tt _ r l u m,e]
  conv=>rhs;rw[lays]
  rw[szs]
  simp only[QvT,QxC,ite_self,QwM,Qwh]
  rw[show n+t.sz+1+szs l=n+(t.sz+1+szs l) by omega]
theorem Qdd{l:List T}(h:l≠[]):0<szs l:=by
 cases l with
 |nil=>exact(h rfl).elim
 |cons t l=>rw[szs];omega
theorem Qi9(tt:TypeId)(n:Nat)(l:List T)(u:T):layA tt n (l++[u])=lays tt n .dead l++(u.lay tt (n+szs l)++[.cells tt 4 (lvs n l++[u.lv (n+szs l)])]):=by
 rw[layA,Qdr,Qd4];rfl
theorem Qch(tt:TypeId)(n:Nat)(r:AB)(l:List T)(h:l≠[]):(lays tt n r l)[szs l - 1]? = some r/\(lays tt n r l).set (szs l - 1) .dead=lays tt n .dead l:=by
 obtain⟨l,u,rfl⟩:∃l' u,l=l'++[u]:=⟨_,_,(List.dropLast_concat_getLast h).symm⟩
 rw[Qdr,Qdr,<-QwM,<-QwM,Y3,Qsc]
 have e:szs l+(u.sz+1) - 1=(lays tt n .dead l++u.lay tt (n+szs l)).length:=by rw[QwG,Zn,T.QuZ];omega
 rw[e]
 constructor
 ·rw[QwO (QwP _),Qxy];rfl
 ·rw[QxH _ _ (QwP _),Qxy];rfl
theorem Qi8(tt:TypeId)(n:Nat)(l:List T)(h:l≠[]):(layA tt n l)[szs l - 1]? = some (.cells tt 4 (lvs n l))/\(layA tt n l).set (szs l - 1) .dead=lays tt n .dead l:=Qch tt n _ l h
theorem QnW{R:AV->AV->Prop}:∀{xs ys:List AV},xs.length=ys.length->(∀(j:Nat) x y,xs[j]? = some x->ys[j]? = some y->x.cells.length=y.cells.length/\∀(i:Nat) a b,x.cells[i]? = some a->y.cells[i]? = some b->R a b) ->
  (flat ys).length=(flat xs).length/\∀(j:Nat) a b,(flat xs)[j]? = some a->(flat ys)[j]? = some b->R a b
 |[],[],_,_=>⟨rfl,fun j a b h=>by simp[flat]at h⟩
 |[],y::ys,h,_=>by simp at h
 |x::xs,[],h,_=>by simp at h
 |x::xs,y::ys,h,hp=>by
  obtain⟨h1,h2⟩:=hp 0 x y rfl rfl
  obtain⟨h3,h4⟩:=QnW (xs:=xs) (ys:=ys) (by simpa using h) fun j x y hx hy=>hp (j+1) x y (by simpa using hx) (by simpa using hy)
  refine⟨by rw[Xc,Xc,QwG,QwG,h1,h3],fun j a b ha hb=>?_⟩
  rw[Xc,Qw6]at ha hb
  rw[<-h1]at hb
  split at ha
  ·rename_i hj;rw[QwN hj]at hb;exact h2 j a b ha hb
  ·rename_i hj;rw[QwJ hj]at hb;exact h4 _ a b ha hb
def At(h:AH)(n:Nat)(L:AH):Prop:=∀(j:Nat) b,L[j]? = some b->b.live=true->h[n+j]? = some b
theorem At.mid(A L B:AH){n:Nat}(hn:A.length=n):At (A++(L++B)) n L:=fun j b hb _=>by
 subst hn
 rw[QwO (by omega),QxX,QwI (Qv hb)];exact hb
theorem At.left{h:AH}{n:Nat}{L M:AH}(H:At h n (L++M)):At h n L:=fun j b hb hl=>H j b (by rw[QwI (Qv hb)];exact hb) hl
theorem At.right{h:AH}{n:Nat}{L M:AH}(H:At h n (L++M)){m:Nat}(hm:m=n+L.length):At h m M:=fun j b hb hl=>by
 have:=H (L.length+j) b (by rw[QwO (by omega),QxX];exact hb) hl
 subst hm
 rw[Qx2];exact this
theorem At.both{h:AH}{n:Nat}{L M:AH}(H1:At h n L)(H2:At h (n+L.length) M):At h n (L++M):=fun j b hb hl=>by
 rw[Qw6]at hb
 split at hb
 ·exact H1 j b hb hl
 ·rename_i hj
  have:=H2 _ b hb hl
  rw[show n+L.length+(j - L.length)=n+j by omega]at this
  exact this
theorem At.cons{h:AH}{n:Nat}{x:AB}{M:AH}(H1:x.live=true->h[n]? = some x)(H2:At h (n+1) M):At h n (x::M):=fun j b hb hl=>by
 cases j with
 |zero=>cases hb;exact H1 hl
 |succ j =>
  have:=H2 j b hb hl
  rw[show n+1+j=n+(j+1) by omega]at this
  exact this
theorem At.nil(h:AH)(n:Nat):At h n []:=fun j b hb=>by simp at hb
theorem At.app{h:AH}{n:Nat}{L:AH}(H:At h n L)(M:AH):At (h++M) n L:=fun j b hb hl=>by
 have:=H j b hb hl
 rw[QwI (Qv this)];exact this
theorem At.get{h:AH}{n:Nat}{L:AH}(H:At h n L){j:Nat}{b:AB}(hb:L[j]? = some b)(hl:b.live=true){k:Nat}(hk:k=n+j):h[k]? = some b:=by subst hk;exact H j b hb hl
theorem At.all(L:AH):At L 0 L:=fun j b hb _=>by rw[Qv1];exact hb
theorem At.tail{x:AB}{L M:AH}{k:Nat}(H:At L k M):At (x::L) (k+1) M:=fun j b hb hl=>by
 have:=H j b hb hl
 rw[show k+1+j=(k+j)+1 by omega,QvQ];exact this
theorem At.off{A L M:AH}{n k:Nat}(H:At L k M)(hA:n=A.length+k)(B:AH):At (A++(L++B)) n M:=fun j b hb hl=>by
 have h1:=H j b hb hl
 have:=Qv h1
 rw[QwO (by omega),QwI (by omega),show n+j - A.length=k+j by omega];exact h1
theorem At.set{h:AH}{n:Nat}{L:AH}(H:At h n L){k:Nat}{x:AB}(hk:∀b,L[k - n]? = some b->n<=k->b.live=false):At (h.set k x) n L:=fun j b hb hl=>by
 have h1:=H j b hb hl
 rw[QwL]
 ·exact h1
 ·intro e
  have:=hk b (by rw[show k - n=j by omega];exact hb) (by omega)
  rw[this]at hl;cases hl
theorem QlH{tt:TypeId}{h:AH}{m:Nat}(n:Nat)(bs:List T)(hm:m<=n)(H:At h n (lays tt n (.cells tt 4 (lvs n bs)) bs))
  (hpt:(flat (avs bs)).length=(flat (lvs n bs)).length/\∀(j:Nat) a a',(flat (lvs n bs))[j]? = some a->(flat (avs bs))[j]? = some a'->Melt h m a a'):Melt h m (lsl n bs) (.sl 4 (avs bs) none):=by
 cases bs with
 |nil=>exact .nil 4
 |cons t bs =>
  have hne:t::bs≠[]:=by simp
  have hl:=(Qch tt n (.cells tt 4 (lvs n (t::bs))) (t::bs) hne).1
  have hp:=Qdd hne
  show Melt h m (.arr (n+szs (t::bs) - 1) 0 (t::bs).length) _
  refine .arr (by omega) (H.get hl rfl (by omega)) (QK _) (fun y hy=>?_) (Qyl hpt.1) hpt.2
  rw[QbK]at hy
  obtain⟨u,_,rfl⟩:=Qxa.1 hy
  rw[T.QuV];rfl
section
variable{tt:TypeId}{h:AH}{m:Nat}
mutual
theorem T.QvO:∀(t:T) (n:Nat),m<=n->At h n (t.lay tt n)->∀(j:Nat) a a',(t.lv n).cells[j]? = some a->t.av.cells[j]? = some a'->Melt h m a a'
 | .mk k i s bs,n,hm,H,j,a,a',h1,h2=>by
  rw[T.lay]at H
  have h3:=QlH n bs hm H (QkF bs n _ hm H)
  rw[T.Qu0]at h1
  rw[T.QuV]at h2
  match j,h1,h2 with
  |0,h1,h2=>cases h1;cases h2;exact .keep (.v _)
  |1,h1,h2=>cases h1;cases h2;exact .keep (.v _)
  |2,h1,h2=>cases h1;cases h2;exact .keep (.v _)
  |3,h1,h2=>cases h1;cases h2;exact h3
  |j+4,h1,h2=>simp at h1
theorem QkF:∀(bs:List T) (n:Nat) (r:AB),m<=n->At h n (lays tt n r bs)->(flat (avs bs)).length=(flat (lvs n bs)).length/\∀(j:Nat) a a',(flat (lvs n bs))[j]? = some a->(flat (avs bs))[j]? = some a'->Melt h m a a'
 |[],n,r,hm,H=>⟨rfl,fun j a a' h1=>by simp[lvs,flat]at h1⟩
 |t::bs,n,r,hm,H=>by
  rw[lays]at H
  have h1:=T.QvO t n hm H.left
  have h2:At h (n+t.sz+1) (lays tt (n+t.sz+1) r bs):=by
   have:=H.right (m:=n+t.sz) (by rw[T.QuZ])
   exact At.right (L:=[if bs.isEmpty then r else .dead]) this rfl
  obtain⟨h3,h4⟩:=QkF bs (n+t.sz+1) r (Qw8 hm (by omega)) h2
  have hc:t.av.cells.length=(t.lv n).cells.length:=by rw[T.QuV,T.Qu0];rfl
  refine⟨by rw[avs,lvs,Xc,Xc,QwG,QwG,h3,hc],fun j a a' ha hb=>?_⟩
  rw[lvs,Xc,Qw6]at ha
  rw[avs,Xc,Qw6,hc]at hb
  split at ha
  ·rename_i hj
   rw[QwN hj]at hb
   exact h1 j a a' ha hb
  ·rename_i hj
   rw[QwJ hj]at hb
   exact h4 _ a a' ha hb
end
theorem Qot{n:Nat}{bs:List T}(hm:m<=n)(H:At h n (layA tt n bs)):Melt h m (lsl n bs) (.sl 4 (avs bs) none):=QlH n bs hm H (QkF bs n _ hm H)
end
def PkB(n:Nat)(τ:Nat->Nat)(h2:AH)(b b':AB):Prop:=b' = .dead\/∃ty s xs ys,b' = .cells ty s ys/\b = .cells ty s xs/\(∀y∈ys,y.cells.length=s)/\(flat ys).length<=(flat xs).length /\
  ∀(j:Nat) a a',(flat xs)[j]? = some a->(flat ys)[j]? = some a'->Pk n τ h2 a a'
def Sh(n:Nat)(τ:Nat->Nat)(h2:AH)(m m' len:Nat):Prop:=n<=m'/\m'+len<=h2.length/\∀j,j<len->τ (m'+j)=m+j
theorem Sh.sub{n:Nat}{τ:Nat->Nat}{h2:AH}{m m' len:Nat}(H:Sh n τ h2 m m' len){k l:Nat}(hl:k+l<=len){a b:Nat}(ha:a=m+k)(hb:b=m'+k):Sh n τ h2 a b l:=by
 subst ha;subst hb
 obtain⟨h1,h3,h4⟩:=H
 exact⟨by omega,by omega,fun j hj=>by rw[Qx2,h4 _ (by omega),Qx2]⟩
theorem QoM{n:Nat}{τ:Nat->Nat}{h2:AH}{m m':Nat}{bs:List T}(H:Sh n τ h2 m m' (szs bs)):Pk n τ h2 (lsl m bs) (lsl m' bs):=by
 unfold lsl
 cases bs with
 |nil=>exact .keep (.v _)
 |cons t bs =>
  have hp:0<szs (t::bs):=Qdd (by simp)
  obtain⟨h1,h3,h4⟩:=H
  refine .arr ?_ (by omega) (by omega)
  have:=h4 (szs (t::bs) - 1) (by omega)
  rw[show m'+szs (t::bs) - 1=m'+(szs (t::bs) - 1) by omega,this];omega
theorem T.Qvb{n:Nat}{τ:Nat->Nat}{h2:AH}{m m':Nat}{t:T}(H:Sh n τ h2 m m' t.sz):∀(j:Nat) a a',(t.lv m).cells[j]? = some a->(t.lv m').cells[j]? = some a'->Pk n τ h2 a a':=by
 intro j a a' h1 h3
 rw[T.Qu0]at h1 h3
 match j,h1,h3 with
 |0,h1,h3=>cases h1;cases h3;exact .keep (.v _)
 |1,h1,h3=>cases h1;cases h3;exact .keep (.v _)
 |2,h1,h3=>cases h1;cases h3;exact .keep (.v _)
 |3,h1,h3=>cases h1;cases h3;exact QoM (by rw[<-T.Qvf];exact H)
 |j+4,h1,h3=>simp at h1
theorem T.pk{n:Nat}{τ:Nat->Nat}{h2:AH}{m m':Nat}{t:T}(H:Sh n τ h2 m m' t.sz):Pk n τ h2 (t.lv m) (t.lv m'):=by
 have:=T.Qvb H
 rw[T.Qu0,T.Qu0]at this
 rw[T.Qvn,T.Qvn]
 exact .agg rfl this
theorem QoN{n:Nat}{τ:Nat->Nat}{h2:AH}:∀{m m':Nat} {bs:List T},Sh n τ h2 m m' (szs bs)->(flat (lvs m' bs)).length=(flat (lvs m bs)).length/\∀(j:Nat) a a',(flat (lvs m bs))[j]? = some a->(flat (lvs m' bs))[j]? = some a'->Pk n τ h2 a a'
 |m,m',[],H=>⟨rfl,fun j a a' h1=>by simp[lvs,flat]at h1⟩
 |m,m',t::bs,H=>by
  rw[szs]at H
  have h1:=T.Qvb (H.sub (k:=0) (l:=t.sz) (by omega) rfl rfl)
  obtain⟨h3,h4⟩:=QoN (bs:=bs) (H.sub (k:=t.sz+1) (l:=szs bs) (a:=m+t.sz+1) (b:=m'+t.sz+1) (by omega) (by omega) (by omega))
  have hc:(t.lv m').cells.length=(t.lv m).cells.length:=by rw[T.Qu5,T.Qu5]
  refine⟨by rw[lvs,lvs,Xc,Xc,QwG,QwG,h3,hc],fun j a a' ha hb=>?_⟩
  rw[lvs,Xc,Qw6]at ha hb
  rw[hc]at hb
  split at ha
  ·rename_i hj
   rw[QwN hj]at hb
   exact h1 j a a' ha hb
  ·rename_i hj
   rw[QwJ hj]at hb
   exact h4 _ a a' ha hb
theorem QkM{n:Nat}{τ:Nat->Nat}{h2:AH}{tt:TypeId}{m m':Nat}{bs:List T}(H:Sh n τ h2 m m' (szs bs)):PkB n τ h2 (.cells tt 4 (lvs m bs)) (.cells tt 4 (lvs m' bs)) :=
 .inr ⟨tt,4,_,_,rfl,rfl,QlF _ _,Qyl (QoN H).1,(QoN H).2⟩
mutual
theorem T.pkB{n:Nat}{τ:Nat->Nat}{h2:AH}{tt:TypeId}:∀{m m':Nat} (t:T),Sh n τ h2 m m' t.sz->∀(j:Nat) b b',(t.lay tt m)[j]? = some b->(t.lay tt m')[j]? = some b'->PkB n τ h2 b b'
 |m,m',.mk k i s bs,H,j,b,b',h1,h3=>by
  rw[T.sz]at H
  rw[T.lay]at h1 h3
  exact QeU bs (QkM H) H j b b' h1 h3
theorem QeU{n:Nat}{τ:Nat->Nat}{h2:AH}{tt:TypeId}{r r':AB}:∀{m m':Nat} (bs:List T),PkB n τ h2 r r'->Sh n τ h2 m m' (szs bs)->∀(j:Nat) b b',(lays tt m r bs)[j]? = some b->(lays tt m' r' bs)[j]? = some b'->PkB n τ h2 b b'
 |m,m',[],hr,H,j,b,b',h1,h3=>by simp[lays]at h1
 |m,m',t::bs,hr,H,j,b,b',h1,h3=>by
  rw[szs]at H
  rw[lays,Qw6,T.QuZ]at h1 h3
  split at h1
  ·rename_i hj
   rw[QwN hj]at h3
   exact T.pkB t (H.sub (k:=0) (l:=t.sz) (by omega) rfl rfl) j b b' h1 h3
  ·rename_i hj
   rw[QwJ hj]at h3
   cases hk:j - t.sz with
   |zero =>
    rw[hk,QvP]at h1 h3
    cases h1;cases h3
    split
    ·exact hr
    ·exact .inl rfl
   |succ k =>
    rw[hk,QvQ]at h1 h3
    exact QeU bs hr (H.sub (k:=t.sz+1) (l:=szs bs) (a:=m+t.sz+1) (b:=m'+t.sz+1) (by omega) (by omega) (by omega)) k b b' h1 h3
end
theorem QlQ{A N L':AH}{n:Nat}{τ:Nat->Nat}(hn:A.length=n)(hb:∀b∈A,b.Below n)(hid:∀i,i<n->τ i=i)(hlo:∀i,n<=i->i<n+L'.length->n<=τ i)
  (hin:∀i j,n<=i->i<n+L'.length->n<=j->j<n+L'.length->τ i=τ j->i=j)
  (hB:∀(j:Nat) b',L'[j]? = some b'->b' = .dead\/∃b,(A++N)[τ (n+j)]? = some b/\PkB n τ (A++L') b b'):Pack n τ (A++N) (A++L'):=by
 have hl:(A++L').length=n+L'.length:=by rw[QwG,hn]
 refine⟨by omega,by rw[QwG];omega,hid,fun i hi=>?_,fun i b hi hg=>?_,fun i h1 h3=>hlo i h1 (by omega),fun i j h1 h2 h3 h4 he=>hin i j h1 (by omega) h3 (by omega) he,fun i b h1 hg=>?_⟩
 ·rw[QwI (by omega),QwI (by omega)]
 ·rw[QwI (by omega)]at hg
  exact hb b (QwV hg)
 ·rw[QwO (by omega),hn]at hg
  rcases hB (i - n) b hg with h3|⟨b0,h3,h4⟩
  ·exact .inl h3
  ·rw[show n+(i - n)=i by omega]at h3
   rcases h4 with h4|⟨ty,s,xs,ys,rfl,rfl,h5,h6,h7⟩
   ·exact .inl h4
   ·exact .inr ⟨ty,s,xs,ys,rfl,h3,h5,h6,h7⟩
def tauG(n g:Nat):Nat->Nat:=fun i=>if i<n then i else i+g
theorem shG{A L':AH}{n:Nat}(hn:A.length=n)(g:Nat):Sh n (tauG n g) (A++L') (n+g) n L'.length :=
 ⟨QwP _,by rw[QwG];omega,fun j hj=>by unfold tauG;rw[QwJ (by omega)];omega⟩
theorem Qhd{A N C L':AH}{n g:Nat}(hn:A.length=n)(hb:∀b∈A,b.Below n)(hC:C.length=L'.length)(hN:At N g C)
  (hP:Sh n (tauG n g) (A++L') (n+g) n L'.length->∀(j:Nat) b b',C[j]? = some b->L'[j]? = some b'->PkB n (tauG n g) (A++L') b b') (hlive:∀(j:Nat) b b',C[j]? = some b->L'[j]? = some b'->b.live=false->b' = .dead):Pack n (tauG n g) (A++N) (A++L'):=by
 refine QlQ hn hb (fun i hi=>by unfold tauG;rw[QwN hi]) (fun i h1 _=>by unfold tauG;rw[QwJ (by omega)];omega) (fun i j h1 _ h3 _ he=>?_) fun j b' hj=>?_
 ·unfold tauG at he
  rw[QwJ (by omega),QwJ (by omega)]at he
  omega
 ·obtain⟨b,hb1⟩:∃b,C[j]? = some b:=⟨_,QwK (by have:=Qv hj;omega)⟩
  cases hl:b.live with
  |false=>exact .inl (hlive j b b' hb1 hj hl)
  |true =>
   refine .inr ⟨b,?_,hP (shG hn g) j b b' hb1 hj⟩
   have:=hN j b hb1 hl
   unfold tauG
   rw[QwJ (by omega),QwO (by omega),show n+j+g - A.length=g+j by omega];exact this
mutual
theorem T.Qvh{tt:TypeId}:∀{m m':Nat} (t:T) (j:Nat) (b b':AB),(t.lay tt m)[j]? = some b->(t.lay tt m')[j]? = some b'->b.live=false->b' = .dead
 |m,m',.mk k i s bs,j,b,b',h1,h2,hl=>by
  rw[T.lay]at h1 h2
  exact QfM bs (fun h=>by cases h) j b b' h1 h2 hl
theorem QfM{tt:TypeId}{r r':AB}:∀{m m':Nat} (bs:List T),(r.live=false->r' = .dead)->∀(j:Nat) (b b':AB),(lays tt m r bs)[j]? = some b->(lays tt m' r' bs)[j]? = some b'->b.live=false->b' = .dead
 |m,m',[],hr,j,b,b',h1,h2,hl=>by simp[lays]at h1
 |m,m',t::bs,hr,j,b,b',h1,h2,hl=>by
  rw[lays,Qw6,T.QuZ]at h1 h2
  split at h1
  ·rename_i hj
   rw[QwN hj]at h2
   exact T.Qvh t j b b' h1 h2 hl
  ·rename_i hj
   rw[QwJ hj]at h2
   cases hk:j - t.sz with
   |zero =>
    rw[hk,QvP]at h1 h2
    cases h1;cases h2
    split
    ·rename_i he
     rw[QwN he]at hl
     exact hr hl
    ·rfl
   |succ k =>
    rw[hk,QvQ]at h1 h2
    exact QfM bs hr k b b' h1 h2 hl
end
theorem Qi7{tt:TypeId}{m m':Nat}(bs:List T)(j:Nat)(b b':AB)(h1:(layA tt m bs)[j]? = some b)(h2:(layA tt m' bs)[j]? = some b')(hl:b.live=false):b' = .dead:=QfM bs (fun h=>by cases h) j b b' h1 h2 hl
theorem Qqo{tt:TypeId}{A N:AH}{n:Nat}(hn:A.length=n)(hb:∀b∈A,b.Below n)(g:Nat)(bs:List T)(hN:At N g (layA tt (n+g) bs)) :
  Pack n (tauG n g) (A++N) (A++layA tt n bs)/\Pk n (tauG n g) (A++layA tt n bs) (lsl (n+g) bs) (lsl n bs):=by
 have hsh:=shG (L':=layA tt n bs) hn g
 rw[YJ]at hsh
 refine⟨Qhd hn hb (by rw[YJ,YJ]) hN (fun h j b b' h1 h2=>QeU bs (QkM hsh) hsh j b b' h1 h2) (fun j b b' h1 h2 hl=>Qi7 bs j b b' h1 h2 hl),QoM hsh⟩
theorem Qt6{tt:TypeId}{A N:AH}{n:Nat}(hn:A.length=n)(hb:∀b∈A,b.Below n)(g:Nat)(t:T)(hN:At N g (t.lay tt (n+g))) :
  Pack n (tauG n g) (A++N) (A++t.lay tt n)/\Pk n (tauG n g) (A++t.lay tt n) (t.lv (n+g)) (t.lv n):=by
 have hsh:=shG (L':=t.lay tt n) hn g
 rw[T.QuZ]at hsh
 rw[T.Qva]at hN
 have:=Qqo (tt:=tt) hn hb g t.args hN
 rw[<-T.Qva]at this
 exact⟨this.1,T.pk hsh⟩
end Go.Proofs.YtenheconhibonaaGreatDoor.Ab
namespace Go.Proofs.YtenheconhibonaaGreatDoor.Ab
def smap(l:List (ByteArray×AV)):List (Value×AV):=l.map fun p=>(.string p.1,p.2)
def sget(x:ByteArray):List (ByteArray×AV)->Option AV
 |[]=>none
 |p::l=>if x=p.1 then some p.2 else sget x l
def supd(x:ByteArray)(v:AV):List (ByteArray×AV)->List (ByteArray×AV)
 |[]=>[(x,v)]
 |p::l=>if x=p.1 then(x,v)::l else p::supd x v l
theorem Qsy(a b:ByteArray):(a==b)=decide (a=b):=by
 have h:(a==b)=true↔a=b:=by
  obtain⟨x⟩:=a
  obtain⟨y⟩:=b
  constructor
  ·intro h
   have e:x=y:=by simpa using(show(x==y)=true from h)
   rw[e]
  ·intro h
   cases h
   show(x==x)=true
   simp
 by_cases e:a=b
 ·rw[Qw7 e];exact h.2 e
 ·rw[QwY e]
  cases hb:a==b with
  |false=>rfl
  |true=>exact(e (h.1 hb)).elim
theorem QlV(a b:ByteArray):Instr.sameNow .string (.string a) (.string b)=some (decide (a=b)):=by
 rw[<-Qsy];rfl
theorem QiV(x:ByteArray):∀l:List (ByteArray×AV),QfB .string (.string x) (smap l)=some (sget x l)
 |[]=>rfl
 |p::l=>by
  have e:smap (p::l)=(.string p.1,p.2)::smap l:=rfl
  rw[e]
  simp only[QfB,sget,QlV]
  by_cases hk:x=p.1
  ·simp only[hk,Qwl,QxP]
  ·simp only[hk,Qwm,QxC];exact QiV x l
theorem Ql3(x:ByteArray)(v:AV):∀l:List (ByteArray×AV),updA .string (.string x) v (smap l)=some (smap (supd x v l))
 |[]=>rfl
 |p::l=>by
  have e:smap (p::l)=(.string p.1,p.2)::smap l:=rfl
  rw[e]
  simp only[updA,supd,QlV]
  by_cases hk:x=p.1
  ·simp only[hk,Qwl,QxP];rfl
  ·simp only[hk,Qwm,QxC,Ql3 x v l];rfl
theorem QjC(x y:ByteArray)(v:AV):∀l:List (ByteArray×AV),sget y (supd x v l)=if y=x then some v else sget y l
 |[]=>rfl
 |p::l=>by
  simp only[supd]
  split
  ·rename_i h
   subst h
   simp only[sget]
   split <;> rfl
  ·rename_i h
   simp only[sget,QjC x y v l]
   by_cases hy:y=p.1
   ·rw[QwN hy,QwN hy,QwJ (by rintro rfl;exact h hy)]
   ·rw[QwJ hy,QwJ hy]
theorem Qm1(l:List (ByteArray×AV))(n:Nat)(h:∀p∈l,Below n p.2):(AB.map (smap l)).Below n:=by
 intro kv hkv
 simp only[smap,Qxa]at hkv
 obtain⟨p,hp,rfl⟩:=hkv
 exact h p hp
end Go.Proofs.YtenheconhibonaaGreatDoor.Ab

