/-
  An abstract program logic, contracts of functions, and laws of terms and rules (part 6).
-/
import Derived.Test.YticgcpebdldbgaaGreatDoorAbTwo
import Derived.Test.YticgcpebdldbgaaGreatDoorAbThree
import Derived.Test.YticgcpebdldbgaaGreatDoorAbFive
import Derived.Test.YticgcpebdldbgaaGreatDoorAbFour
import Derived.Test.YticgcpebdldbgaaGreatDoorAbOne
set_option linter.unusedVariables false
set_option linter.unusedSimpArgs false
set_option maxHeartbeats 4000000
set_option maxRecDepth 4000
namespace Go.Proofs.YticgcpebdldbgaaGreatDoor.Ab
open Go.Proofs
def rh(h:AH)(i g:Nat)(all:List Tk)(s:PS)(pos e:Int):AH:=hs2 h i (rdB all (some g) s pos e) g (gB s)
structure IG (h:AH) (i g:Nat):Prop where
 il:i<h.length
 gl:g<h.length
 ig:i≠g
theorem IG.app{h:AH}{i g:Nat}(H:IG h i g)(L:AH):IG (h++L) i g:=⟨by rw[Quw];have:=H.il;omega,by rw[Quw];have:=H.gl;omega,H.ig⟩
def R2(P:Program)(f:FuncId)(args:List AV)(i g:Nat)(all:List Tk)(s:PS)(r:AV)(s':PS)(pos e:Int):Prop :=
 ∀h:AH,IG h i g->QA P f args (rh h i g all s 0 0) fun o h'=>o = .ret r/\h'=rh h i g all s' pos e
section
variable{h:AH}{i g:Nat}(H:IG h i g)(all:List Tk)(s:PS)(pos e:Int)
theorem Qcv(h:AH)(i g:Nat)(all:List Tk)(s:PS)(pos e:Int):(rh h i g all s pos e).length=h.length:=Qay ..
theorem Qd6(h:AH)(i g:Nat)(all:List Tk)(s:PS)(pos e:Int)(L:AH):(rh h i g all s pos e++L)[h.length]? = L[0]? := Qko ..
theorem QgZ(h:AH)(i g:Nat)(all:List Tk)(s:PS)(pos e:Int)(L:AH)(k:Nat):(rh h i g all s pos e++L)[h.length+k]? = L[k]? := Qqe ..
theorem QcJ(h:AH)(i g:Nat)(all:List Tk)(s:PS)(pos e:Int)(z:AB)(L:AH):(rh h i g all s pos e++L).set h.length z=rh h i g all s pos e++L.set 0 z:=Qiy ..
theorem Qd5(h:AH)(i g:Nat)(all:List Tk)(s:PS)(pos e:Int)(z:AB)(L:AH)(k:Nat):(rh h i g all s pos e++L).set (h.length+k) z=rh h i g all s pos e++L.set k z:=Qoz ..
include H
theorem QgY(L:AH):rh (h++L) i g all s pos e=rh h i g all s pos e++L:=Qjz H.il H.gl _ _ L
theorem QkM:(rdB all (some g) s pos e).Below h.length:=Qbe _ (fun k hk=>by cases hk;exact H.gl) _ _ _
theorem XO{s0:PS}{p0 e0:Int}{L:AH}{r r':AV}{Q:AV->AH->Prop}(hf:Frz (rh h i g all s pos e++L) h.length r r')(hq:Q r' (rh h i g all s pos e)):Leaves (rh h i g all s0 p0 e0) (rh h i g all s pos e++L) r Q :=
 QdU H.ig (QkM H all s pos e) (show(gB s).Below h.length from trivial) hf hq
end
theorem R2.app{P:Program}{f:FuncId}{args:List AV}{i g:Nat}{all:List Tk}{s s':PS}{r:AV}{pos e:Int}(H:R2 P f args i g all s r s' pos e){h:AH}(HI:IG h i g)(L:AH) :
  QA P f args (rh h i g all s 0 0++L) fun o h'=>o = .ret r/\h'=rh h i g all s' pos e++L:=by
 have:=H (h++L) (HI.app L)
 rwa [QgY HI,QgY HI]at this
theorem QpB{h:AH}{i g:Nat}(hig:i≠g)(x y:AB):hs (h.set g y) i x=hs2 h i x g y:=by
 simp only[hs,hs2]
 rw[Qwp _ _ (fun e=>hig e.symm)]
theorem RC.two{P:Program}{f:FuncId}{args:List AV}{i g:Nat}{all:List Tk}{s s':PS}{r:AV}{pos e:Int}(H:RC P f args i (some g) (rdB all (some g) s 0 0) r (rdB all (some g) s' pos e))(hn:s'.names=s.names):R2 P f args i g all s r s' pos e:=by
 intro h HI
 have:=H (h.set g (gB s)) (by simpa using HI.il) (fun k hk=>by cases hk;simpa using HI.gl)
 rw[QpB HI.ig,QpB HI.ig]at this
 have e:gB s'=gB s:=by simp only[gB,hn]
 unfold rh
 rw[e];exact this
theorem Qn3(H:AH)(m:Nat)(k n:Int):Frz H m (.agg [.i k,.i n,.v (.string {data:=#[]}),.v (.slice none 0 0)]) (T.mk k n eB []).av :=
 .agg rfl (Qbo (.keep (.v _)) (Qbo (.keep (.v _)) (Qbo (.keep (.v _)) (Qfg (.nil 4)))))
theorem Qje(l:List UInt8)(hd:∀c∈l,isD c=true)(hl:l.length<=1000000)(hb:numVal l<=2147483648):Pure Tryz.prog 56 [.v (.string (mkB l))] (.i (numVal l:Nat)):=by
 intro h
 have hsl:=fun b=>Y5 Tryz.prog 9 3 (by kernel_rfl) b
 refine Qa Tryz.func56 rfl Tryz.call56 Tryz.ntmps56 Tryz.results56 (by simp) ?_
 repeat refine Qb ?_;simp only[go_sem,seval]
 obtain⟨I,hI⟩:∃I:Nat->AS->Prop,I=fun m' s=>∃p:Nat,m'=l.length - p/\p<=l.length/\s.tm 0 = .v (.string (mkB l))/\s.tm 3 = .i (numVal (l.take p):Nat)/\s.tm 4 = .i p/\s.h=h:=⟨_,rfl⟩;refine QD I ?_ (m:=l.length) ?_
 ·intro m' s hs;rw[hI]at hs;obtain⟨tm,hp⟩:=s;dsimp only at hs;obtain⟨p,rfl,hp',t0,t3,t4,rfl⟩:=hs
  by_cases hlt:p<l.length
  ·have y1:(((p:Nat):Int)<((l.length:Nat):Int)):=by omega
   have hix:=Yv Tryz.prog 9 (by kernel_rfl) (mkB l) p (by rw[Qv];exact hlt)
   rw[YT l p hlt]at hix
   have d2:=hd l[p] (Qvk hlt)
   have hcd:48<=(l[p]).toNat/\(l[p]).toNat<=57:=by unfold isD at d2;simpa using d2
   obtain⟨n1,n2⟩:=QbR hlt
   obtain⟨v,hv⟩:∃v,v=numVal (l.take p):=⟨_,rfl⟩
   have w1:IntKind.i64.wrap (10 * ((v:Nat):Int))=((10 * v:Nat):Int):=by rw[Ya (by omega)];omega
   have w2:IntKind.u8.wrap ((((l[p]).toNat:Nat):Int) - 48)=(((l[p]).toNat - 48:Nat):Int):=by rw[QqE (by omega)];omega
   have w3:=Qqu (((l[p]).toNat - 48:Nat):Int) (by omega)
   have w4:IntKind.i64.wrap (((10 * v:Nat):Int)+(((l[p]).toNat - 48:Nat):Int))=((10 * v+((l[p]).toNat - 48):Nat):Int):=by rw[Ya (by omega)];omega
   have w5:IntKind.i64.wrap (((p:Nat):Int)+1)=((p+1:Nat):Int):=XM (by omega)
   rw[<-hv]at t3
   repeat refine Qb ?_;simp only[go_sem,seval,t0,t3,t4,hsl,Qv,y1,hix,w1,w2,w3,w4,w5]
   refine XB.mk (m':=l.length - (p+1)) (by omega) ?_
   rw[hI]
   refine⟨p+1,rfl,hlt,t0,?_,rfl,rfl⟩
   simp only[upd,↓reduceIte,Nat.reduceEqDiff]
   congr 3
   rw[n1]
   omega
  ·have y1:¬(((p:Nat):Int)<((l.length:Nat):Int)):=by omega
   have e:l.take p=l:=QvY (by omega)
   rw[e]at t3
   repeat refine Qb ?_;simp only[go_sem,seval,t0,t3,t4,hsl,Qv,y1]
   (refine Qc QuA (.keep (.v _)) ⟨rfl,rfl⟩)
 ·rw[hI]
  exact⟨0,rfl,QuG _,rfl,rfl,rfl,rfl⟩
theorem strs_get{l:List ByteArray}{k:Nat}(h:k<l.length):(strs l)[k]? = some (.v (.string l[k])):=by
 rw[strs,Qu2,QuC h];rfl
theorem Qsc{h:AH}{i g:Nat}(hi:i<h.length)(hig:i≠g)(all:List Tk)(q:PS)(pos e:Int)(L:AH):(hs2 h i (rdB all (some g) q pos e) g (gB q)++L)[i]? = some (.cells 69 5 [.agg [.sl 3 (tks all) none,.i ((all.length - q.toks.length:Nat):Int),.sl 1 (strs q.names) (some g),.i pos,.i e]]):=Qiw hi hig _ _ L
theorem Qsb{h:AH}{i g:Nat}(hg:g<h.length)(all:List Tk)(q:PS)(pos e:Int)(L:AH):(hs2 h i (rdB all (some g) q pos e) g (gB q)++L)[g]? = some (.grow 9 1 q.names.length):=Qix hg _ _ L
def rawT:AV:=.agg [.i 0,.i 0,.v (.string {data:=#[]}),.v (.slice none 0 0)]
section
variable{all:List Tk}{q:PS}(hN:all.length<=1000000)(hS:q.names.length<all.length)(i g:Nat)(x:ByteArray)
include hN hS
theorem Qpf:R2 Tryz.prog 125 [.ptr i 0 0,.v (.string x)] i g all q (pVari x q).1.av (pVari x q).2 0 0:=by
 intro h HI
 unfold rh
 have hi:=HI.il
 have hg:=HI.gl
 have hig:=HI.ig
 have f1:=fun x y=>Qay h i x g y
 have f2:=Qsc hi hig all q 0 0
 have f3:=Qsb (i:=i) hg all q 0 0
 have f4:=fun x y L=>Qko (h:=h) (i:=i) (j:=g) x y L
 have f6:=fun x y z L=>Qiy (h:=h) (i:=i) (j:=g) x y z L
 have f7:=fun x y z L=>QmO (h:=h) (j:=g) hi hig x y z L
 have f8:=fun x y z L=>QmP (h:=h) (i:=i) hg x y z L
 have f9:=fun x y L=>Qiw (h:=h) (j:=g) hi hig x y L
 have f10:=fun x y L=>Qix (h:=h) (i:=i) hg x y L
 have e95:(ByteArray.toList {data:=#[95]})=[95]:=by rw[Lib.toList_data]
 obtain⟨N,hNN⟩:∃N,N=(if nameAt q.names x<q.names.length/\x.toList≠[95]then nameAt q.names x else q.names.length):=⟨_,rfl⟩
 have hNl:N<=q.names.length:=by rw[hNN];split <;> omega
 have hno:∀j (hj:j<q.names.length),j<N->x.toList≠[95]->(q.names[j].toList==x.toList)=false:=fun j hj hlt hx=>by
  have h1:j<nameAt q.names x:=by
   rw[hNN]at hlt
   split at hlt
   ·exact hlt
   ·rename_i hc
    have:¬nameAt q.names x<q.names.length:=fun hk=>hc ⟨hk,hx⟩
    omega
  have:=List.not_of_lt_findIdx h1
  simpa using this
 refine Qa Tryz.func125 rfl Tryz.call125 Tryz.ntmps125 Tryz.results125 (by simp) ?_
 with_reducible repeat first|refine Qd fun K E hK hE=>?_;simp only[go_sem,seval,f1]|refine Qq fun K hK=>?_|refine Qu ?_|refine hK _ ?_;clear hK
 obtain⟨I,hI⟩:∃I:Nat->AS->Prop,I=fun m' s=>∃j:Nat,m'=q.names.length - j/\j<=N/\s.tm 0 = .ptr i 0 0/\s.tm 1 = .v (.string x)/\s.tm 4 = .ptr h.length 0 0/\s.tm 5 = .i j/\s.h=hs2 h i (rdB all (some g) q 0 0) g (gB q)++[.cells 48 4 [rawT]]:=⟨_,rfl⟩;refine QD I ?_ (m:=q.names.length) ?_
 ·intro m' s hs;rw[hI]at hs;obtain⟨tm,hp⟩:=s;dsimp only at hs;obtain⟨j,rfl,hj,t0,t1,t4,t5,rfl⟩:=hs
  have wj:IntKind.i64.wrap (((j:Nat):Int)+1)=((j+1:Nat):Int):=XM (by omega)
  by_cases hjN:j<N
  ·have hlt:j<q.names.length:=by omega
   have y1:((j:Nat):Int)<((q.names.length:Nat):Int):=by omega
   have hat:=strs_get hlt
   by_cases hx:x.toList=[95]
   ·have z1:(x.toList==ByteArray.toList {data:=#[95]})=true:=by rw[e95,hx];rfl
    cases hz:(q.names[j].toList==x.toList)with
    |true =>
     with_reducible repeat first|(first|refine Qd fun K E hK hE=>?_|refine Qj fun K E hK hE=>?_);simp only[go_sem,seval,t0,t1,t5,f2,Yp,y1,hat,hz,z1,wj]|refine Qq fun K hK=>?_|refine Qu ?_|refine QE ?_|refine Qg ?_|refine Qn ?_|refine hK _ ?_;clear hK|refine Qm rfl ?_;simp only[↓reduceIte,QtJ]
     refine XB.mk (m':=q.names.length - (j+1)) (by omega) ?_
     rw[hI]
     exact⟨j+1,rfl,hjN,t0,t1,t4,rfl,rfl⟩
    |false =>
     with_reducible repeat first|(first|refine Qd fun K E hK hE=>?_|refine Qj fun K E hK hE=>?_);simp only[go_sem,seval,t0,t1,t5,f2,Yp,y1,hat,hz,wj]|refine Qq fun K hK=>?_|refine Qu ?_|refine QE ?_|refine Qg ?_|refine Qn ?_|refine hK _ ?_;clear hK|refine Qm rfl ?_;simp only[↓reduceIte,QtJ]
     refine XB.mk (m':=q.names.length - (j+1)) (by omega) ?_
     rw[hI]
     exact⟨j+1,rfl,hjN,t0,t1,t4,rfl,rfl⟩
   ·have hz:=hno j hlt hjN hx
    with_reducible repeat first|(first|refine Qd fun K E hK hE=>?_|refine Qj fun K E hK hE=>?_);simp only[go_sem,seval,t0,t1,t5,f2,Yp,y1,hat,hz,wj]|refine Qq fun K hK=>?_|refine Qu ?_|refine QE ?_|refine Qg ?_|refine Qn ?_|refine hK _ ?_;clear hK|refine Qm rfl ?_;simp only[↓reduceIte,QtJ]
    refine XB.mk (m':=q.names.length - (j+1)) (by omega) ?_
    rw[hI]
    exact⟨j+1,rfl,hjN,t0,t1,t4,rfl,rfl⟩
  ·have hjN2:j=N:=by omega
   subst hjN2
   by_cases hc:nameAt q.names x<q.names.length/\x.toList≠[95]
   ·rw[QuH hc]at hNN
    have hlt:j<q.names.length:=by omega
    have y1:((j:Nat):Int)<((q.names.length:Nat):Int):=by omega
    have hat:=strs_get hlt
    have z1:(x.toList==ByteArray.toList {data:=#[95]})=false:=by rw[e95];simpa using hc.2
    have hz:(q.names[j].toList==x.toList)=true:=by
     subst hNN
     exact List.findIdx_getElem (p:=fun y:ByteArray=>y.toList==x.toList) (xs:=q.names) (w:=hc.1)
    have hv:pVari x q=(.mk 1 (j:Nat) eB [],q):=by unfold pVari;rw[QuH hc,hNN]
    rw[hv]
    with_reducible repeat first|refine Qd fun K E hK hE=>?_;simp only[go_sem,seval,t0,t1,t4,t5,f2,f4,f6,rawT,Yp,y1,hat,hz,z1]|refine Qq fun K hK=>?_|refine Qu ?_|refine Xy ?_|refine QE ?_|refine Qg ?_|refine Xm ?_|refine Q8 ?_|refine hK _ ?_;clear hK|refine Qm rfl ?_;simp only[↓reduceIte]
    simp only[go_sem,seval,t4,f4]
    refine QdU (x':=rdB all (some g) q 0 0) (y':=gB q) hig (Qbe _ (fun k hk=>by cases hk;exact hg) _ _ _) trivial (Qn3 _ _ _ _) ?_
    exact⟨rfl,rfl⟩
   ·rw[QuE hc]at hNN
    have y1:¬((j:Nat):Int)<((q.names.length:Nat):Int):=by omega
    have hv:pVari x q=(.mk 1 (q.names.length:Nat) eB [],⟨q.toks,q.names++[x]⟩):=by unfold pVari;rw[QuE hc]
    rw[hv]
    have hm:(q.names.length+1) * 16<=140737488355328:=by omega
    have hm2:q.names.length+1<=maxLen:=by simp only[maxLen];omega
    have hln:(strs q.names++[AV.v (.string x)]).length=q.names.length+1:=by rw[Quw,Yp];rfl
    have w1:IntKind.i64.wrap (((q.names.length+1:Nat):Int) - 1)=((q.names.length:Nat):Int):=by rw[Ya (by omega)];omega
    have es:∀L,hs2 h i (.cells 69 5 [.agg [.sl 3 (tks all) none,.i ((all.length - q.toks.length:Nat):Int),.sl 1 (strs q.names++[.v (.string x)]) (some g),.i 0,.i 0]]) g (.grow 9 1 (q.names.length+1))++L=hs2 h i (rdB all (some g) ⟨q.toks,q.names++[x]⟩ 0 0) g (gB ⟨q.toks,q.names++[x]⟩)++L:=fun L=>by
     simp only[rdB,gB,Qbh,QkU,Quw,QvE]
    with_reducible repeat first|refine Qd fun K E hK hE=>?_;simp only[go_sem,seval,t0,t1,t4,t5,rdB,gB,f4,f6,f7,f8,f9,f10,rawT,Yp,y1,hm,hm2,hln,w1]|refine Qq fun K hK=>?_|refine Xy ?_|refine Xb ?_|refine Qg ?_|refine QK ?_|refine QJ ?_|refine hK _ ?_;clear hK|clear hK;refine hK _ ?_;clear hK|refine Qm rfl ?_;simp only[↓reduceIte,QtJ]
    simp only[go_sem,seval,t4,f4]
    rw[es]
    refine QdU (x':=rdB all (some g) ⟨q.toks,q.names++[x]⟩ 0 0) (y':=gB ⟨q.toks,q.names++[x]⟩) hig (Qbe _ (fun k hk=>by cases hk;exact hg) _ _ _) trivial (Qn3 _ _ _ _) ?_
    exact⟨by rw[hv],by rw[hv]⟩
 ·rw[hI]
  exact⟨0,rfl,QuG _,rfl,rfl,rfl,rfl,rfl⟩
end
end Go.Proofs.YticgcpebdldbgaaGreatDoor.Ab
namespace Go.Proofs.YticgcpebdldbgaaGreatDoor.Ab
open Go.Proofs
def QRd(all:List Tk)(i g:Nat)(f:FuncId)(q:PS->RR T)(N:Nat):Prop :=
 ∀s:PS,s.toks.length<N->Wst all s->R2 Tryz.prog f [.ptr i 0 0] i g all s (.tup [(q s).v.av,.b ((q s).e==0)]) (q s).s (q s).pos (q s).e
theorem XZ{H:AH}{m:Nat}{a a':AV}(b:Bool)(h:Frz H m a a'):Frz H m (.tup [a,.b b]) (.tup [a',.b b]):=.tup rfl (Qbo h (Qfg (.keep (.v _))))
theorem Qjm(H:AH)(m:Nat)(x:ByteArray)(o:Int):Frz H m (.agg [.v (.string x),.v (.slice none 0 0)]) (G.atom ⟨o,x,[]⟩):=.agg rfl (Qbo (.keep (.v _)) (Qfg (.nil 4)))
theorem Qoh(H:AH)(m:Nat)(x:ByteArray)(o:Int)(l:List T)(k:Nat):Frz H m (.agg [.v (.string x),.sl 4 (avs l) (some k)]) (G.atom ⟨o,x,l⟩):=.agg rfl (Qbo (.keep (.v _)) (Qfg (.tok (Qdc _ _))))
theorem QjU(b:List UInt8)(s:PS):(Qal b s).s.names=s.names:=by unfold Qal;split <;> rfl
theorem QjS(s:PS):(QaT s).s.names=s.names:=by
 unfold QaT
 split
 ·rfl
 ·split <;> rfl
section
variable{all:List Tk}{i g:Nat}{qx:PS->RR T}{px:PS->PR T}{Nn:Nat}(HR:QRd all i g 84 qx Nn)(HQ:IsF qx px)(hEat:Eat 0 px)(hKp:Kp.Ps (wdOf all) px)(hN:all.length<=1000000)
section
variable{q:PS}(hW:Wst all q){h:AH}(HI:IG h i g)(L:AH)
include hW HI
theorem QhS:QA Tryz.prog 26 [.ptr i 0 0] (rh h i g all q 0 0++L) fun o h'=>o = .ret q.tk.av/\h'=rh h i g all q 0 0++L:=(RC.two (Qd7 hW i 0 0) rfl).app HI L
theorem risL(b:ByteArray):QA Tryz.prog 52 [.ptr i 0 0,.v (.string b)] (rh h i g all q 0 0++L) fun o h'=>o = .ret (.b (q.is b.toList))/\h'=rh h i g all q 0 0++L:=(RC.two (QpO hW i 0 0 b) rfl).app HI L
theorem Qev(x c:Int):QA Tryz.prog 33 [.ptr i 0 0,.i x,.i c] (rh h i g all q 0 0++L) fun o h'=>o = .ret (.b false)/\h'=rh h i g all q x c++L:=by
 have _u:=hW
 exact(RC.two (QhN i x c) rfl).app HI L
include hN
theorem Qew:QA Tryz.prog 53 [.ptr i 0 0] (rh h i g all q 0 0++L) fun o h'=>o = .ret (.tup [])/\h'=rh h i g all q.nx 0 0++L:=(RC.two (QhP hW hN i 0 0) rfl).app HI L
theorem QkP(b:ByteArray):QA Tryz.prog 55 [.ptr i 0 0,.v (.string b)] (rh h i g all q 0 0++L) fun o h'=>o = .ret (.b ((Qal b.toList q).e==0))/\h'=rh h i g all (Qal b.toList q).s (Qal b.toList q).pos (Qal b.toList q).e++L:=(RC.two (Qpg hW hN i b) (QjU _ _)).app HI L
theorem Qrx:QA Tryz.prog 54 [.ptr i 0 0] (rh h i g all q 0 0++L) fun o h'=>o = .ret (.tup [.v (.string (QaT q).v),.b ((QaT q).e==0)])/\h'=rh h i g all (QaT q).s (QaT q).pos (QaT q).e++L:=(RC.two (Qo9 hW hN i) (QjS _)).app HI L
end
include HR HQ hEat hKp hN
theorem Qo4{q:PS}(hs:q.toks.length<Nn+1)(hW:Wst all q):R2 Tryz.prog 94 [.ptr i 0 0] i g all q (.tup [(Qdo qx q).v.atom,.b ((Qdo qx q).e==0)]) (Qdo qx q).s (Qdo qx q).pos (Qdo qx q).e:=by
 intro h HI
 have f1:=Qcv h i g all
 have f3:=Qd6 h i g all
 have f4:=QgZ h i g all
 have f5:=QcJ h i g all
 have f6:=Qd5 h i g all
 have cn:=Qrx hN hW HI
 unfold Qdo
 have his:=Qnd q
 cases hn:QaC q with
 |err p e =>
  rw[hn]at his
  have hne:=his.2.1▸his.2.2
  have z:((QaT q).e==0)=false:=by simpa using hne
  rw[z]at cn
  rw[QuH hne,z]
  refine Qa Tryz.func94 rfl Tryz.call94 Tryz.ntmps94 Tryz.results94 (by simp) ?_
  repeat first|(first|refine FunW.QsR (cn _) ?_|refine Qb ?_);simp only[go_sem,seval,f1,f3,f5]|refine hK _ ?_;clear hK
  exact XO HI all _ _ _ (XZ _ (Qjm _ _ _ _)) ⟨rfl,rfl⟩
 |ok x s1 =>
  rw[hn]at his
  have hq:=RR.okE his
  have hW1:Wst all s1:=Kp.Ps.ok (n:=wdOf all) (Kp.name_ps trivial) hW hn
  have hl1:=(QcE q hW.wf x s1 hn).2
  have c1:=risL hW1 HI
  rw[hq]at cn ⊢
  rw[QuE (by simp)]
  have e40:(ByteArray.toList {data:=#[40]})=sLp:=by rw[Lib.toList_data];rfl
  cases hp:s1.is sLp with
  |false =>
   have c1:=fun L=>c1 L {data:=#[40]}
   rw[e40,hp]at c1
   rw[QuE (by simp)]
   refine Qa Tryz.func94 rfl Tryz.call94 Tryz.ntmps94 Tryz.results94 (by simp) ?_
   repeat first|(first|refine FunW.QsR (cn _) ?_|refine FunW.QsR (c1 _) ?_|refine Qb ?_);simp only[go_sem,seval,f1,f3,f4,f5,f6]|refine hK _ ?_;clear hK
   exact XO HI all _ _ _ (XZ _ (Qjm _ _ _ _)) ⟨rfl,rfl⟩
  |true =>
   have c1:=fun L=>c1 L {data:=#[40]}
   rw[e40,hp]at c1
   rw[QuH rfl]
   generalize hR:QjR qx x s1.toks.length [] s1.nx=R
   refine Qa Tryz.func94 rfl Tryz.call94 Tryz.ntmps94 Tryz.results94 (by simp) ?_
   repeat first|(first|refine FunW.QsR (cn _) ?_|refine FunW.QsR (c1 _) ?_|refine Qb ?_);simp only[go_sem,seval,f1,f4,f6]|refine hK _ ?_;clear hK
   refine YY (h.length+1) 105 2 4 (.grow 48 4 0) (.inr ⟨_,rfl⟩) [.agg [.v (.string x),.v (.slice none 0 0)]] [.agg [.v (.string x),.sl 4 [] (some (h.length+2))]] 1 (by rw[f4];rfl) rfl (by rw[Quw,Qcv];rfl) (by simp[AV.cells]) ?_
   rw[Quz,f6]
   iterate 2 (try ((((with_reducible refine Qd fun K E hK hE=>?_));simp only[go_sem,seval])))
   have e41:(ByteArray.toList {data:=#[41]})=sRp:=by rw[Lib.toList_data];rfl
   have e44:(ByteArray.toList {data:=#[44]})=Zt:=by rw[Lib.toList_data];rfl
   obtain⟨I,hI⟩:∃I:Nat->AS->Prop,I=fun m' s=>∃(b:Bool) (l:List T) (s2:PS) (Y:AH),m'=s2.toks.length/\Wst all s2/\l.length+s2.toks.length<=all.length/\(b=true->s2.tk.kind≠0/\s2.toks.length<Nn+1/\∃k,s2.toks.length<=k+1/\QjR qx x k l s2.nx=R)/\(b=false->(⟨⟨0,x,l⟩,(Qal sRp s2).s,(Qal sRp s2).pos,(Qal sRp s2).e⟩:RR G)=R)/\s.tm 0 = .ptr i 0 0/\s.tm 2 = .ptr h.length 0 0/\s.tm 6 = .ptr (h.length+1) 0 0/\s.tm 7 = .b b /\
    s.h=rh h i g all s2 0 0++(cA0 :: .cells 105 2 [.agg [.v (.string x),.sl 4 (avs l) (some (h.length+2))]] :: .grow 48 4 l.length::Y):=⟨_,rfl⟩;refine QD I ?_ (m:=s1.toks.length) ?_
   ·intro m' s hs;rw[hI]at hs;obtain⟨tm,hp⟩:=s;dsimp only at hs;obtain⟨b,l,s2,Y,rfl,hW2,hbd,hA,hB,t0,t2,t6,t7,rfl⟩:=hs
    cases b with
    |false =>
     have hR2:=hB rfl
     subst hR2
     have cw:=fun L=>QkP hN hW2 HI L {data:=#[41]}
     rw[e41]at cw
     repeat first|refine Qb ?_;simp only[go_sem,seval,t7]|refine hK _ ?_;clear hK|clear hK;refine hK _ ?_;clear hK
     refine Qbn (h.length+1) 6 0 0 (by rw[f4];rfl) (by exact t6) ?_
     simp only[f6,Qt9,Qua]
     refine Qh (id:=15) [(0,1),(1,1),(2,2),(3,2),(4,0)] mixed (by kernel_rfl) fun K hK=>?_
     simp only[go_sem,seval,t0]
     repeat first|(first|refine Yt (FunW.call (cw _)) Qah ?_|refine Qb ?_);simp only[go_sem,seval,t2,f3,f5]|refine hK _ ?_;clear hK
     exact XO HI all _ _ _ (XZ _ (Qoh _ _ _ _ _ _)) ⟨rfl,rfl⟩
    |true =>
     obtain⟨hk2,hl2,k,hk,hR2⟩:=hA rfl
     have hln2:=Yg hW2.wf hk2
     have hpos:0<s2.nx.toks.length:=by
      have:=Qjf (Qam hW2.wf)
      exact QvZ.2 this
     obtain⟨k,rfl⟩:∃k',k=k'+1:=⟨k - 1,by omega⟩
     have cx:=Qew hN hW2 HI
     have ce:=(HR s2.nx (by omega) hW2.nx).app HI
     have hqx:=HQ s2.nx
     rw[QjR]at hR2
     cases hpx:px s2.nx with
     |err p e =>
      rw[hpx]at hqx
      have hne:=hqx.2.1▸hqx.2.2
      have z:((qx s2.nx).e==0)=false:=by simpa using hne
      rw[QuH hne]at hR2
      subst hR2
      rw[z]at ce
      have hu1:=T.QsS (qx s2.nx).v
      have hu2:=T.QsT (qx s2.nx).v
      rw[show(({v:=zGl,s:=(qx s2.nx).s,pos:=(qx s2.nx).pos,e:=(qx s2.nx).e}:RR G).e==0)=false from z]
      repeat first|(first|refine FunW.QsR (cx _) ?_|refine FunW.QsR (ce _) ?_|refine Qb ?_);simp only[go_sem,seval,t0,t2,t7,f1,f3,f4,f5,f6,hu1,hu2]|refine hK _ ?_;clear hK
      exact XO HI all _ _ _ (XZ _ (Qjm _ _ _ _)) ⟨rfl,rfl⟩
     |ok u s3 =>
      rw[hpx]at hqx
      have hq3:=RR.okE hqx
      have hW3:Wst all s3:=Kp.Ps.ok hKp hW2.nx hpx
      have hl3:=(hEat s2.nx hW2.nx.wf u s3 hpx).2
      rw[hq3]at ce hR2
      rw[QuE (by simp)]at hR2
      have c4:=fun L=>risL hW3 HI L {data:=#[44]}
      rw[e44]at c4
      have hm:(l.length+1) * 56<=140737488355328:=by omega
      have hm2:l.length+1<=maxLen:=by simp only[maxLen];omega
      have ev:avs (l++[u])=avs l++[u.av]:=by rw[QdI];rfl
      have hu1:=T.QsS u
      have hu2:=T.QsT u
      repeat first|(first|refine FunW.QsR (cx _) ?_|refine FunW.QsR (ce _) ?_|refine FunW.QsR (c4 _) ?_|refine Qb ?_);simp only[go_sem,seval,t0,t6,t7,f1,f4,f6,hu1,hu2,hm,hm2]|refine hK _ ?_;clear hK
      refine XB.mk (m':=s3.toks.length) (by omega) ?_
      rw[hI]
      refine⟨s3.is Zt,l++[u],s3,Y++[.cells 48 4 [u.av]],rfl,hW3,by simp;omega,fun hc=>?_,fun hc=>?_,t0,t2,t6,rfl,?_⟩
      ·rw[QuH hc]at hR2
       exact⟨by rw[QsV hc];decide,by omega,k,by omega,hR2⟩
      ·rw[QuE (by rw[hc];simp)]at hR2
       exact hR2
      ·rw[ev,Quw];rfl
   ·rw[hI]
    refine⟨true,[],s1,[],rfl,hW1,by have:=hW1.suf.length_le;simpa using this,fun _=>⟨by rw[QsV hp];decide,by omega,s1.toks.length,by omega,hR⟩,fun h=>(by cases h),rfl,rfl,rfl,rfl,rfl⟩
end
end Go.Proofs.YticgcpebdldbgaaGreatDoor.Ab
namespace Go.Proofs.YticgcpebdldbgaaGreatDoor.Ab
open Go.Proofs
theorem QfZ(H:AH)(m:Nat)(k n:Int):Frz H m (.agg [.i k,.i n,.v (.string {data:=#[]}),.v (.slice none 0 0)]) (T.mk k n eB []).av:=Qn3 H m k n
theorem Qi2{all:List Tk}(hD:TkOk all)(hN:all.length<=1000000){q:PS}(hW:Wst all q)(hk:q.tk.kind=3)(hz:q.tk.text.toList.length<=1000000):Pure Tryz.prog 56 [.v (.string q.tk.text)] (.i (valT q.tk.text))/\0<=valT q.tk.text/\valT q.tk.text<=2147483648:=by
 obtain⟨h1,h2⟩:=hD.int _ (QdA hW) hk
 have:=Qje q.tk.text.toList h1 hz h2
 rw[QgO]at this
 exact⟨this,by unfold valT;omega,by unfold valT;omega⟩
theorem QoN{all:List Tk}{q:PS}(hW:Wst all q):q.names.length<all.length:=by
 have h1:=hW.nms
 have h2:=QvZ.2 (Qjf hW.wf)
 omega
def TxOk(all:List Tk):Prop:=∀t∈all,t.text.toList.length<=1000000
section
variable{all:List Tk}{i g:Nat}{qx:PS->RR T}{px:PS->PR T}{Nn:Nat}(HR:QRd all i g 84 qx Nn)(HQ:IsF qx px)(hEat:Eat 0 px)(hKp:Kp.Ps (wdOf all) px)(hN:all.length<=1000000)(hD:TkOk all)(hX:TxOk all)
include HR HQ hEat hKp hN hD hX
theorem QjY:QRd all i g 111 (qOp qx) (Nn+1):=by
 intro q hs hW h HI
 have f1:=Qcv h i g all
 have f3:=Qd6 h i g all
 have f4:=QgZ h i g all
 have f5:=QcJ h i g all
 have f6:=Qd5 h i g all
 have ct:=QhS hW HI
 have ct0:=ct []
 rw[Qt8]at ct0
 have cx:=Qew hN hW HI
 have e1:=Tk.QsS q.tk
 have e2:=Tk.QsT q.tk
 have hz:=hX _ (QdA hW)
 unfold qOp
 by_cases h3:q.tk.kind=3
 ·rw[QuH h3]
  have z1:(q.tk.kind==3)=true:=by simpa using h3
  obtain⟨cv,v1,v2⟩:=Qi2 hD hN hW h3 hz
  refine Qa Tryz.func111 rfl Tryz.call111 Tryz.ntmps111 Tryz.results111 (by simp) ?_
  repeat first|(first|refine Qe cv ?_|refine FunW.QsR (ct _) ?_|refine FunW.QsR (cx _) ?_|refine Qb ?_);simp only[go_sem,seval,f1,f3,f4,f5,f6,e1,e2,z1]|refine hK _ ?_;clear hK
  exact XO HI all _ _ _ (XZ _ (QfZ _ _ _ _)) ⟨rfl,rfl⟩
 ·rw[QuE h3]
  have z1:(q.tk.kind==3)=false:=by simpa using h3
  by_cases h2:q.tk.kind=2
  ·rw[QuH h2]
   have z2:(q.tk.kind==2)=true:=by simpa using h2
   have cv:=(Qpf hN (QoN hW.nx) i g q.tk.text).app HI
   have u1:=T.QsS (pVari q.tk.text q.nx).1
   have u2:=T.QsT (pVari q.tk.text q.nx).1
   refine Qa Tryz.func111 rfl Tryz.call111 Tryz.ntmps111 Tryz.results111 (by simp) ?_
   repeat first|(first|refine FunW.QsR (ct _) ?_|refine FunW.QsR (cx _) ?_|refine FunW.QsR (cv _) ?_|refine Qb ?_);simp only[go_sem,seval,f1,f3,f4,f5,f6,e1,e2,z1,z2,u1,u2]|refine hK _ ?_;clear hK
   exact XO HI all _ _ _ (XZ _ (.keep (T.Qs2 _ _))) ⟨rfl,rfl⟩
  ·rw[QuE h2]
   have z2:(q.tk.kind==2)=false:=by simpa using h2
   by_cases h1:q.tk.kind=1
   ·rw[QuH h1]
    have z3:(q.tk.kind==1)=true:=by simpa using h1
    have ca:=(Qo4 HR HQ hEat hKp hN hs hW).app HI
    generalize Qdo qx q=r at *
    have u1:r.v.atom.cells=[.v (.string r.v.name),.sl 4 (avs r.v.args) none]:=rfl
    have u2:r.v.atom.isAgg=true:=rfl
    refine Qa Tryz.func111 rfl Tryz.call111 Tryz.ntmps111 Tryz.results111 (by simp) ?_
    repeat first|(first|refine FunW.QsR (ct _) ?_|refine FunW.QsR (ca _) ?_|refine Qb ?_);simp only[go_sem,seval,f1,f3,f4,f5,f6,e1,e2,z1,z2,z3,u1,u2]|refine hK _ ?_;clear hK
    exact XO HI all _ _ _ (XZ _ (.keep (T.Qs2 _ (.mk 2 0 r.v.name r.v.args)))) ⟨rfl,rfl⟩
   ·rw[QuE h1]
    have z3:(q.tk.kind==1)=false:=by simpa using h1
    have e45:(ByteArray.toList {data:=#[45]})=QcT:=by rw[Lib.toList_data];rfl
    have e40:(ByteArray.toList {data:=#[40]})=sLp:=by rw[Lib.toList_data];rfl
    have e41:(ByteArray.toList {data:=#[41]})=sRp:=by rw[Lib.toList_data];rfl
    have c45:=fun L=>risL hW HI L {data:=#[45]}
    have c40:=fun L=>risL hW HI L {data:=#[40]}
    rw[e45]at c45
    rw[e40]at c40
    cases hm:q.is QcT with
    |true =>
     rw[hm]at c45
     rw[QuH rfl]
     have hn1:=Yg hW.wf (by rw[QsV hm];decide)
     have ct2:=QhS hW.nx HI
     have cx2:=Qew hN hW.nx HI
     have k1:=Tk.QsS q.nx.tk
     have k2:=Tk.QsT q.nx.tk
     have hz2:=hX _ (QdA hW.nx)
     have hp:=hD.pos _ (QdA hW)
     have wp:IntKind.i64.wrap (q.tk.pos+1)=q.tk.pos+1:=Ya (by omega)
     by_cases h4:q.nx.tk.kind=3
     ·have z4:(q.nx.tk.kind != 3)=false:=by simpa using h4
      by_cases h5:q.nx.tk.pos=q.tk.pos+1
      ·have z5:(q.nx.tk.pos != q.tk.pos+1)=false:=by simpa using h5
       rw[QuE (by rintro(h|h);exact h h4;exact h h5)]
       obtain⟨cv,v1,v2⟩:=Qi2 hD hN hW.nx h4 hz2
       have wn:IntKind.i64.wrap (0 - valT q.nx.tk.text) = -valT q.nx.tk.text:=by rw[Ya (by omega)];omega
       refine Qa Tryz.func111 rfl Tryz.call111 Tryz.ntmps111 Tryz.results111 (by simp) ?_
       repeat first|(first|refine Qe cv ?_|refine FunW.QsR (ct _) ?_|refine FunW.QsR (ct2 _) ?_|refine FunW.QsR (cx _) ?_|refine FunW.QsR (cx2 _) ?_|refine FunW.QsR (c45 _) ?_|refine Qb ?_);simp only[go_sem,seval,f1,f3,f4,f5,f6,e1,e2,z1,z2,z3,k1,k2,z4,z5,wp,wn]|refine hK _ ?_;clear hK
       exact XO HI all _ _ _ (XZ _ (QfZ _ _ _ _)) ⟨rfl,rfl⟩
      ·have z5:(q.nx.tk.pos != q.tk.pos+1)=true:=by simpa using h5
       rw[QuH (.inr h5)]
       have cf:=Qev hW.nx HI
       refine Qa Tryz.func111 rfl Tryz.call111 Tryz.ntmps111 Tryz.results111 (by simp) ?_
       repeat first|(first|refine FunW.QsR (ct _) ?_|refine FunW.QsR (ct2 _) ?_|refine FunW.QsR (cx _) ?_|refine FunW.QsR (cf _ _ _) ?_|refine FunW.QsR (c45 _) ?_|refine Qb ?_);simp only[go_sem,seval,f1,f3,f4,f5,f6,e1,e2,z1,z2,z3,k1,k2,z4,z5,wp]|refine hK _ ?_;clear hK
       exact XO HI all _ _ _ (XZ _ (QfZ _ _ _ _)) ⟨rfl,rfl⟩
     ·have z4:(q.nx.tk.kind != 3)=true:=by simpa using h4
      rw[QuH (.inl h4)]
      have cf:=Qev hW.nx HI
      refine Qa Tryz.func111 rfl Tryz.call111 Tryz.ntmps111 Tryz.results111 (by simp) ?_
      repeat first|(first|refine FunW.QsR (ct _) ?_|refine FunW.QsR (ct2 _) ?_|refine FunW.QsR (cx _) ?_|refine FunW.QsR (cf _ _ _) ?_|refine FunW.QsR (c45 _) ?_|refine Qb ?_);simp only[go_sem,seval,f1,f3,f4,f5,f6,e1,e2,z1,z2,z3,k1,k2,z4]|refine hK _ ?_;clear hK
      exact XO HI all _ _ _ (XZ _ (QfZ _ _ _ _)) ⟨rfl,rfl⟩
    |false =>
     rw[hm]at c45
     rw[QuE (by simp)]
     cases hp:q.is sLp with
     |true =>
      rw[hp]at c40
      rw[QuH rfl]
      have hn1:=Yg hW.wf (by rw[QsV hp];decide)
      have ce:=(HR q.nx (by omega) hW.nx).app HI
      have hqx:=HQ q.nx
      cases hpx:px q.nx with
      |err p e =>
       rw[hpx]at hqx
       have hne:=hqx.2.1▸hqx.2.2
       have z:((qx q.nx).e==0)=false:=by simpa using hne
       rw[QuH hne]
       rw[z]at ce ⊢
       have u1:=T.QsS (qx q.nx).v
       have u2:=T.QsT (qx q.nx).v
       refine Qa Tryz.func111 rfl Tryz.call111 Tryz.ntmps111 Tryz.results111 (by simp) ?_
       repeat first|(first|refine FunW.QsR (ct _) ?_|refine FunW.QsR (cx _) ?_|refine FunW.QsR (c45 _) ?_|refine FunW.QsR (c40 _) ?_|refine FunW.QsR (ce _) ?_|refine Qh (id:=21) [(0,0),(1,0),(2,0),(3,0),(4,1),(5,1),(6,2),(7,0)] mixed (by kernel_rfl) fun K hK=>?_|refine Qb ?_);simp only[go_sem,seval,f1,f4,f6,e1,e2,z1,z2,z3,u1,u2,f3,f5]|refine hK _ ?_;clear hK
       exact XO HI all _ _ _ (XZ _ (.keep (T.Qs2 _ _))) ⟨rfl,rfl⟩
      |ok u s3 =>
       rw[hpx]at hqx
       have hq3:=RR.okE hqx
       have hW3:Wst all s3:=Kp.Ps.ok hKp hW.nx hpx
       rw[hq3]at ce ⊢
       rw[QuE (by simp)]
       have cw:=fun L=>QkP hN hW3 HI L {data:=#[41]}
       rw[e41]at cw
       have u1:=T.QsS u
       have u2:=T.QsT u
       refine Qa Tryz.func111 rfl Tryz.call111 Tryz.ntmps111 Tryz.results111 (by simp) ?_
       repeat first|(first|refine FunW.QsR (ct _) ?_|refine FunW.QsR (cx _) ?_|refine FunW.QsR (c45 _) ?_|refine FunW.QsR (c40 _) ?_|refine FunW.QsR (ce _) ?_|refine Qb ?_);simp only[go_sem,seval,f1,f4,f6,e1,e2,z1,z2,z3,u1,u2]|refine hK _ ?_;clear hK
       refine Qbn (h.length+2) 8 0 0 (by rw[f4];rfl) rfl ?_
       simp only[f6,Qt9,Qua]
       refine Qh (id:=21) [(0,1),(1,1),(2,1),(3,1),(4,2),(5,1),(6,2),(7,0)] mixed (by kernel_rfl) fun K hK=>?_
       simp only[go_sem,seval,u1,u2]
       repeat first|(first|refine Yt (FunW.call (cw _)) Qah ?_|refine Qb ?_);simp only[go_sem,seval,f3,f5,u1,u2]|refine hK _ ?_;clear hK
       exact XO HI all _ _ _ (XZ _ (.keep (T.Qs2 _ _))) ⟨rfl,rfl⟩
     |false =>
      rw[hp]at c40
      rw[QuE (by simp)]
      have cf:=Qev hW HI
      refine Qa Tryz.func111 rfl Tryz.call111 Tryz.ntmps111 Tryz.results111 (by simp) ?_
      repeat first|(first|refine FunW.QsR (ct _) ?_|refine FunW.QsR (cf _ _ _) ?_|refine FunW.QsR (c45 _) ?_|refine FunW.QsR (c40 _) ?_|refine Qb ?_);simp only[go_sem,seval,f1,f3,f4,f5,f6,e1,e2,z1,z2,z3]|refine hK _ ?_;clear hK
      exact XO HI all _ _ _ (XZ _ (QfZ _ _ _ _)) ⟨rfl,rfl⟩
end
end Go.Proofs.YticgcpebdldbgaaGreatDoor.Ab
namespace Go.Proofs.YticgcpebdldbgaaGreatDoor.Ab
open Go.Proofs
abbrev cT0:AB:=.cells 48 4 [.agg [.i 0,.i 0,.v (.string {data:=#[]}),.v (.slice none 0 0)]]
section
variable{all:List Tk}{i g:Nat}{qo:PS->RR T}{po:PS->PR T}{Nn:Nat}(HO:QRd all i g 111 qo Nn)(HQ:IsF qo po)(hEat:Eat 0 po)(hKp:Kp.Ps (wdOf all) po)(hN:all.length<=1000000)
include HO HQ hEat hKp hN
theorem QjZ:QRd all i g 99 (Qer qo YJ) Nn:=by
 intro q hs hW h HI
 have f1:=Qcv h i g all
 have f3:=Qd6 h i g all
 have f4:=QgZ h i g all
 have f5:=QcJ h i g all
 have f6:=Qd5 h i g all
 have e42:(ByteArray.toList {data:=#[42]})=[42]:=by rw[Lib.toList_data]
 have e47:(ByteArray.toList {data:=#[47]})=[47]:=by rw[Lib.toList_data]
 have e37:(ByteArray.toList {data:=#[37]})=[37]:=by rw[Lib.toList_data]
 have c0:=(HO q hs hW).app HI
 unfold Qer
 generalize hR:Qad qo YJ (qo q).s.toks.length (qo q)=R
 have hok:(qo q).e≠0\/(∃u s2,qo q=⟨u,s2,0,0⟩/\Wst all s2/\s2.toks.length<=q.toks.length):=by
  have h1:=HQ q
  cases hp:po q with
  |err p e=>rw[hp]at h1;exact .inl (h1.2.1▸h1.2.2)
  |ok u s2=>rw[hp]at h1;exact .inr ⟨u,s2,h1,Kp.Ps.ok hKp hW hp,(hEat q hW.wf u s2 hp).2⟩
 generalize qo q=r0 at *
 have u1:=T.QsS r0.v
 have u2:=T.QsT r0.v
 refine Qa Tryz.func99 rfl Tryz.call99 Tryz.ntmps99 Tryz.results99 (by simp) ?_
 repeat first|(first|refine FunW.QsR (c0 _) ?_|refine Qb ?_);simp only[go_sem,seval,f1,f4,f6,u1,u2]|refine hK _ ?_;clear hK
 obtain⟨I,hI⟩:∃I:Nat->AS->Prop,I=fun m' s=>∃(r:RR T) (Y:AH),m'=(if r.e=0 then r.s.toks.length else 0)/\(r.e≠0\/∃u s2,r=⟨u,s2,0,0⟩/\Wst all s2/\s2.toks.length<=q.toks.length)/\(∃k,(r.e=0->r.s.toks.length<=k)/\Qad qo YJ k r=R)/\s.tm 0 = .ptr i 0 0/\s.tm 2 = .ptr h.length 0 0/\s.tm 4 = .ptr (h.length+1) 0 0/\s.tm 5 = .b (r.e==0)/\s.h=rh h i g all r.s r.pos r.e++(cT0 :: .cells 48 4 [r.v.av]::Y):=⟨_,rfl⟩;refine QD I ?_ (m:=if r0.e=0 then r0.s.toks.length else 0) ?_
 ·intro m' s hs;rw[hI]at hs;obtain⟨tm,hp⟩:=s;dsimp only at hs;obtain⟨r,Y,rfl,hr,⟨k,hk,hR2⟩,t0,t2,t4,t5,rfl⟩:=hs
  have v1:=T.QsS r.v
  have v2:=T.QsT r.v
  rcases hr with hr|⟨u,s2,rfl,hW2,hl2⟩
  ·rw[QdL _ _ _ hr]at hR2
   subst hR2
   have z:(r.e==0)=false:=by simpa using hr
   rw[z]at t5
   repeat first|refine Qb ?_;simp only[go_sem,seval,t2,t4,t5,f3,f4,f5,v1,v2]|refine hK _ ?_;clear hK|clear hK;refine hK _ ?_;clear hK
   exact XO HI all _ _ _ (XZ _ (.keep (T.Qs2 _ _))) ⟨by rw[z],rfl⟩
  ·have hk:s2.toks.length<=k:=hk rfl
   simp only at v1 v2
   have c42:=fun L=>risL hW2 HI L {data:=#[42]}
   rw[e42]at c42
   have c47:=fun L=>risL hW2 HI L {data:=#[47]}
   rw[e47]at c47
   have c37:=fun L=>risL hW2 HI L {data:=#[37]}
   rw[e37]at c37
   have hone:s2.oneOf YJ=(s2.is [42]||(s2.is [47]||(s2.is [37]||false))):=rfl
   (with_reducible refine Qq fun K hK=>?_)
   refine Yb (fun s=>s.tm 25 = .b (s2.oneOf YJ)/\s.tm 0 = .ptr i 0 0/\s.tm 2 = .ptr h.length 0 0/\s.tm 4 = .ptr (h.length+1) 0 0/\s.tm 5 = .b true/\s.h=rh h i g all s2 0 0++(cT0 :: .cells 48 4 [u.av]::Y)) ?_ ?_
   ·rintro⟨tm,hp⟩ ⟨tc,t0,t2,t4,t5,rfl⟩
    dsimp only at tc t0 t2 t4 t5
    cases ho:s2.oneOf YJ with
    |false =>
     rw[ho]at tc
     have hR3:R=⟨u,s2,0,0⟩:=by
      rw[<-hR2]
      cases k with
      |zero=>rfl
      |succ k=>rw[Qad,QuE (by simp),QuE (by simp only;rw[ho];simp)]
     subst hR3
     refine Qm (by exact tc) ?_
     simp only[↓reduceIte,QtJ]
     repeat first|refine Qb ?_;simp only[go_sem,seval,t2,t4,t5,f3,f4,f5,v1,v2]|refine hK _ ?_;clear hK|clear hK;refine hK _ ?_;clear hK
     exact XO HI all _ _ _ (XZ _ (.keep (T.Qs2 _ _))) ⟨rfl,rfl⟩
    |true =>
     rw[ho]at tc
     have hln:=Yg hW2.wf (by rw[Qbz ho];decide)
     have hpos:=QvZ.2 (Qjf (Qam hW2.wf))
     obtain⟨k,rfl⟩:∃k',k=k'+1:=⟨k - 1,by omega⟩
     rw[Qad,QuE (by simp),QuH (by simp only;rw[ho])]at hR2
     simp only at hR2
     have ct:=QhS hW2 HI
     have cx:=Qew hN hW2 HI
     have co:=(HO s2.nx (by omega) hW2.nx).app HI
     have e1:=Tk.QsS s2.tk
     have e2:=Tk.QsT s2.tk
     have hok2:(qo s2.nx).e≠0\/(∃w s3,qo s2.nx=⟨w,s3,0,0⟩/\Wst all s3/\s3.toks.length<=s2.nx.toks.length):=by
      have h1:=HQ s2.nx
      cases hp:po s2.nx with
      |err p e=>rw[hp]at h1;exact .inl (h1.2.1▸h1.2.2)
      |ok w s3=>rw[hp]at h1;exact .inr ⟨w,s3,h1,Kp.Ps.ok hKp hW2.nx hp,(hEat s2.nx hW2.nx.wf w s3 hp).2⟩
     generalize qo s2.nx=y at *
     have w1:=T.QsS y.v
     have w2:=T.QsT y.v
     refine Qm (by exact tc) ?_
     simp only[↓reduceIte]
     repeat first|(first|refine FunW.QsR (ct _) ?_|refine FunW.QsR (cx _) ?_|refine FunW.QsR (co _) ?_|refine Qb ?_);simp only[go_sem,seval,t0,t4,f1,f4,f6,v1,v2,e1,e2,w1,w2]|refine hK _ ?_;clear hK
     refine XB.mk (m':=if y.e=0 then y.s.toks.length else 0) ?_ ?_
     ·rcases hok2 with he|⟨w,s3,rfl,_,h3⟩
      ·simp only[QuE he,QvB];omega
      ·simp only[QvB];omega
     rw[hI]
     refine⟨⟨.mk 2 0 s2.tk.text [u,y.v],y.s,y.pos,y.e⟩,Y++[.cells 48 4 [y.v.av]],rfl,?_,⟨k,?_,hR2⟩,t0,t2,t4,rfl,?_⟩
     ·rcases hok2 with he|⟨w,s3,rfl,h3,h4⟩
      ·exact .inl he
      ·exact .inr ⟨_,s3,rfl,h3,by omega⟩
     ·intro he
      rcases hok2 with he2|⟨w,s3,rfl,h3,h4⟩
      ·exact absurd he he2
      ·simp only;omega
     ·rfl
   ·skip
    cases h42:s2.is [42]with
    |true =>
     rw[h42]at c42
     repeat first|refine owN ?_|(first|refine FunW.QsR (c42 _) ?_|refine owK fun K hK=>?_|refine nwcS fun K hK=>?_|refine nwcR fun K hK=>?_|refine Qb ?_);simp only[go_sem,seval,t0,t5]|refine hK _ ?_;clear hK
     exact⟨by rw[hone,h42];rfl,t0,t2,t4,t5,rfl⟩
    |false =>
     rw[h42]at c42
     cases h47:s2.is [47]with
     |true =>
      rw[h47]at c47
      repeat first|refine owN ?_|(first|refine FunW.QsR (c42 _) ?_|refine FunW.QsR (c47 _) ?_|refine owK fun K hK=>?_|refine nwcS fun K hK=>?_|refine nwcR fun K hK=>?_|refine Qb ?_);simp only[go_sem,seval,t0,t5]|refine hK _ ?_;clear hK
      exact⟨by rw[hone,h42,h47];rfl,t0,t2,t4,t5,rfl⟩
     |false =>
      rw[h47]at c47
      cases h37:s2.is [37]with
      |true =>
       rw[h37]at c37
       repeat first|refine owN ?_|(first|refine FunW.QsR (c42 _) ?_|refine FunW.QsR (c47 _) ?_|refine FunW.QsR (c37 _) ?_|refine owK fun K hK=>?_|refine nwcS fun K hK=>?_|refine nwcR fun K hK=>?_|refine Qb ?_);simp only[go_sem,seval,t0,t5]|refine hK _ ?_;clear hK
       exact⟨by rw[hone,h42,h47,h37];rfl,t0,t2,t4,t5,rfl⟩
      |false =>
       rw[h37]at c37
       repeat first|refine owN ?_|(first|refine FunW.QsR (c42 _) ?_|refine FunW.QsR (c47 _) ?_|refine FunW.QsR (c37 _) ?_|refine owK fun K hK=>?_|refine nwcS fun K hK=>?_|refine nwcR fun K hK=>?_|refine Qb ?_);simp only[go_sem,seval,t0,t5]|refine hK _ ?_;clear hK
       exact⟨by rw[hone,h42,h47,h37];rfl,t0,t2,t4,t5,rfl⟩
 ·rw[hI]
  refine⟨r0,[],rfl,?_,⟨_,fun _=>QuD _,hR⟩,rfl,rfl,rfl,rfl,rfl⟩
  rcases hok with he|⟨u,s2,rfl,h1,h2⟩
  ·exact .inl he
  ·exact .inr ⟨_,_,rfl,h1,h2⟩
end
section
variable{all:List Tk}{i g:Nat}{qo:PS->RR T}{po:PS->PR T}{Nn:Nat}(HO:QRd all i g 99 qo Nn)(HQ:IsF qo po)(hEat:Eat 0 po)(hKp:Kp.Ps (wdOf all) po)(hN:all.length<=1000000)
include HO HQ hEat hKp hN
theorem QjX:QRd all i g 84 (Qer qo ZY) Nn:=by
 intro q hs hW h HI
 have f1:=Qcv h i g all
 have f3:=Qd6 h i g all
 have f4:=QgZ h i g all
 have f5:=QcJ h i g all
 have f6:=Qd5 h i g all
 have e43:(ByteArray.toList {data:=#[43]})=[43]:=by rw[Lib.toList_data]
 have e45:(ByteArray.toList {data:=#[45]})=[45]:=by rw[Lib.toList_data]
 have c0:=(HO q hs hW).app HI
 unfold Qer
 generalize hR:Qad qo ZY (qo q).s.toks.length (qo q)=R
 have hok:(qo q).e≠0\/(∃u s2,qo q=⟨u,s2,0,0⟩/\Wst all s2/\s2.toks.length<=q.toks.length):=by
  have h1:=HQ q
  cases hp:po q with
  |err p e=>rw[hp]at h1;exact .inl (h1.2.1▸h1.2.2)
  |ok u s2=>rw[hp]at h1;exact .inr ⟨u,s2,h1,Kp.Ps.ok hKp hW hp,(hEat q hW.wf u s2 hp).2⟩
 generalize qo q=r0 at *
 have u1:=T.QsS r0.v
 have u2:=T.QsT r0.v
 refine Qa Tryz.func84 rfl Tryz.call84 Tryz.ntmps84 Tryz.results84 (by simp) ?_
 repeat first|(first|refine FunW.QsR (c0 _) ?_|refine Qb ?_);simp only[go_sem,seval,f1,f4,f6,u1,u2]|refine hK _ ?_;clear hK
 obtain⟨I,hI⟩:∃I:Nat->AS->Prop,I=fun m' s=>∃(r:RR T) (Y:AH),m'=(if r.e=0 then r.s.toks.length else 0)/\(r.e≠0\/∃u s2,r=⟨u,s2,0,0⟩/\Wst all s2/\s2.toks.length<=q.toks.length)/\(∃k,(r.e=0->r.s.toks.length<=k)/\Qad qo ZY k r=R)/\s.tm 0 = .ptr i 0 0/\s.tm 2 = .ptr h.length 0 0/\s.tm 4 = .ptr (h.length+1) 0 0/\s.tm 5 = .b (r.e==0)/\s.h=rh h i g all r.s r.pos r.e++(cT0 :: .cells 48 4 [r.v.av]::Y):=⟨_,rfl⟩;refine QD I ?_ (m:=if r0.e=0 then r0.s.toks.length else 0) ?_
 ·intro m' s hs;rw[hI]at hs;obtain⟨tm,hp⟩:=s;dsimp only at hs;obtain⟨r,Y,rfl,hr,⟨k,hk,hR2⟩,t0,t2,t4,t5,rfl⟩:=hs
  have v1:=T.QsS r.v
  have v2:=T.QsT r.v
  rcases hr with hr|⟨u,s2,rfl,hW2,hl2⟩
  ·rw[QdL _ _ _ hr]at hR2
   subst hR2
   have z:(r.e==0)=false:=by simpa using hr
   rw[z]at t5
   repeat first|refine Qb ?_;simp only[go_sem,seval,t2,t4,t5,f3,f4,f5,v1,v2]|refine hK _ ?_;clear hK|clear hK;refine hK _ ?_;clear hK
   exact XO HI all _ _ _ (XZ _ (.keep (T.Qs2 _ _))) ⟨by rw[z],rfl⟩
  ·have hk:s2.toks.length<=k:=hk rfl
   simp only at v1 v2
   have c43:=fun L=>risL hW2 HI L {data:=#[43]}
   rw[e43]at c43
   have c45:=fun L=>risL hW2 HI L {data:=#[45]}
   rw[e45]at c45
   have hone:s2.oneOf ZY=(s2.is [43]||(s2.is [45]||false)):=rfl
   (with_reducible refine Qq fun K hK=>?_)
   refine Yb (fun s=>s.tm 21 = .b (s2.oneOf ZY)/\s.tm 0 = .ptr i 0 0/\s.tm 2 = .ptr h.length 0 0/\s.tm 4 = .ptr (h.length+1) 0 0/\s.tm 5 = .b true/\s.h=rh h i g all s2 0 0++(cT0 :: .cells 48 4 [u.av]::Y)) ?_ ?_
   ·rintro⟨tm,hp⟩ ⟨tc,t0,t2,t4,t5,rfl⟩
    dsimp only at tc t0 t2 t4 t5
    cases ho:s2.oneOf ZY with
    |false =>
     rw[ho]at tc
     have hR3:R=⟨u,s2,0,0⟩:=by
      rw[<-hR2]
      cases k with
      |zero=>rfl
      |succ k=>rw[Qad,QuE (by simp),QuE (by simp only;rw[ho];simp)]
     subst hR3
     refine Qm (by exact tc) ?_
     simp only[↓reduceIte,QtJ]
     repeat first|refine Qb ?_;simp only[go_sem,seval,t2,t4,t5,f3,f4,f5,v1,v2]|refine hK _ ?_;clear hK|clear hK;refine hK _ ?_;clear hK
     exact XO HI all _ _ _ (XZ _ (.keep (T.Qs2 _ _))) ⟨rfl,rfl⟩
    |true =>
     rw[ho]at tc
     have hln:=Yg hW2.wf (by rw[Qbz ho];decide)
     have hpos:=QvZ.2 (Qjf (Qam hW2.wf))
     obtain⟨k,rfl⟩:∃k',k=k'+1:=⟨k - 1,by omega⟩
     rw[Qad,QuE (by simp),QuH (by simp only;rw[ho])]at hR2
     simp only at hR2
     have ct:=QhS hW2 HI
     have cx:=Qew hN hW2 HI
     have co:=(HO s2.nx (by omega) hW2.nx).app HI
     have e1:=Tk.QsS s2.tk
     have e2:=Tk.QsT s2.tk
     have hok2:(qo s2.nx).e≠0\/(∃w s3,qo s2.nx=⟨w,s3,0,0⟩/\Wst all s3/\s3.toks.length<=s2.nx.toks.length):=by
      have h1:=HQ s2.nx
      cases hp:po s2.nx with
      |err p e=>rw[hp]at h1;exact .inl (h1.2.1▸h1.2.2)
      |ok w s3=>rw[hp]at h1;exact .inr ⟨w,s3,h1,Kp.Ps.ok hKp hW2.nx hp,(hEat s2.nx hW2.nx.wf w s3 hp).2⟩
     generalize qo s2.nx=y at *
     have w1:=T.QsS y.v
     have w2:=T.QsT y.v
     refine Qm (by exact tc) ?_
     simp only[↓reduceIte]
     repeat first|(first|refine FunW.QsR (ct _) ?_|refine FunW.QsR (cx _) ?_|refine FunW.QsR (co _) ?_|refine Qb ?_);simp only[go_sem,seval,t0,t4,f1,f4,f6,v1,v2,e1,e2,w1,w2]|refine hK _ ?_;clear hK
     refine XB.mk (m':=if y.e=0 then y.s.toks.length else 0) ?_ ?_
     ·rcases hok2 with he|⟨w,s3,rfl,_,h3⟩
      ·simp only[QuE he,QvB];omega
      ·simp only[QvB];omega
     rw[hI]
     refine⟨⟨.mk 2 0 s2.tk.text [u,y.v],y.s,y.pos,y.e⟩,Y++[.cells 48 4 [y.v.av]],rfl,?_,⟨k,?_,hR2⟩,t0,t2,t4,rfl,?_⟩
     ·rcases hok2 with he|⟨w,s3,rfl,h3,h4⟩
      ·exact .inl he
      ·exact .inr ⟨_,s3,rfl,h3,by omega⟩
     ·intro he
      rcases hok2 with he2|⟨w,s3,rfl,h3,h4⟩
      ·exact absurd he he2
      ·simp only;omega
     ·rfl
   ·skip
    cases h43:s2.is [43]with
    |true =>
     rw[h43]at c43
     repeat first|refine owN ?_|(first|refine FunW.QsR (c43 _) ?_|refine owK fun K hK=>?_|refine nwcS fun K hK=>?_|refine nwcR fun K hK=>?_|refine Qb ?_);simp only[go_sem,seval,t0,t5]|refine hK _ ?_;clear hK
     exact⟨by rw[hone,h43];rfl,t0,t2,t4,t5,rfl⟩
    |false =>
     rw[h43]at c43
     cases h45:s2.is [45]with
     |true =>
      rw[h45]at c45
      repeat first|refine owN ?_|(first|refine FunW.QsR (c43 _) ?_|refine FunW.QsR (c45 _) ?_|refine owK fun K hK=>?_|refine nwcS fun K hK=>?_|refine nwcR fun K hK=>?_|refine Qb ?_);simp only[go_sem,seval,t0,t5]|refine hK _ ?_;clear hK
      exact⟨by rw[hone,h43,h45];rfl,t0,t2,t4,t5,rfl⟩
     |false =>
      rw[h45]at c45
      repeat first|refine owN ?_|(first|refine FunW.QsR (c43 _) ?_|refine FunW.QsR (c45 _) ?_|refine owK fun K hK=>?_|refine nwcS fun K hK=>?_|refine nwcR fun K hK=>?_|refine Qb ?_);simp only[go_sem,seval,t0,t5]|refine hK _ ?_;clear hK
      exact⟨by rw[hone,h43,h45];rfl,t0,t2,t4,t5,rfl⟩
 ·rw[hI]
  refine⟨r0,[],rfl,?_,⟨_,fun _=>QuD _,hR⟩,rfl,rfl,rfl,rfl,rfl⟩
  rcases hok with he|⟨u,s2,rfl,h1,h2⟩
  ·exact .inl he
  ·exact .inr ⟨_,_,rfl,h1,h2⟩
end
theorem QkL{all:List Tk}(i g:Nat)(hN:all.length<=1000000)(hD:TkOk all)(hX:TxOk all):∀n,QRd all i g 84 (Qo3 n) n
 |0=>fun s hs=>by omega
 |n+1=>by
  have ih:=QkL i g hN hD hX n
  have ho:=QjY ih (Qfb n) ((Qbb n).less (QuG _)) (Kp.exprT_ps trivial n) hN hD hX
  have hp:=QjZ ho (Qqm (Qfb n)) ((QfE ((Qbb n).less (QuG _))).less (QuG _)) (Kp.opT_ps trivial (Kp.exprT_ps trivial n)) hN
  exact QjX hp (Qhi (Qqm (Qfb n)) YJ) ((Qce (QfE ((Qbb n).less (QuG _))) YJ).less (QuG _)) (Kp.chain_ps trivial (Kp.opT_ps trivial (Kp.exprT_ps trivial n)) YJ) hN
theorem QhR{all:List Tk}(i g:Nat)(hN:all.length<=1000000)(hD:TkOk all)(hX:TxOk all){q:PS}(hW:Wst all q):R2 Tryz.prog 84 [.ptr i 0 0] i g all q (.tup [(Qae q).v.av,.b ((Qae q).e==0)]) (Qae q).s (Qae q).pos (Qae q).e:=QkL i g hN hD hX _ q (Nat.lt_succ_self _) hW
end Go.Proofs.YticgcpebdldbgaaGreatDoor.Ab
namespace Go.Proofs.YticgcpebdldbgaaGreatDoor.Ab
open Go.Proofs
def cmpR (s : PS) : Int × Bool := match QaP s with
  | some p => p
  | none => (0, false)
theorem Qop : ∀ b1 b2 b3 b4 b5 b6 b7 b8 b9 : Bool, b1 = true \/ b1 = false /\ b2 = true \/ b1 = false /\ b2 = false /\ b3 = true \/ b1 = false /\ b2 = false /\ b3 = false /\ b4 = true \/ b1 = false /\ b2 = false /\ b3 = false /\ b4 = false /\ b5 = true \/ b1 = false /\ b2 = false /\ b3 = false /\ b4 = false /\ b5 = false /\ b6 = true \/ b1 = false /\ b2 = false /\ b3 = false /\ b4 = false /\ b5 = false /\ b6 = false /\ b7 = true \/ b1 = false /\ b2 = false /\ b3 = false /\ b4 = false /\ b5 = false /\ b6 = false /\ b7 = false /\ b8 = true \/ b1 = false /\ b2 = false /\ b3 = false /\ b4 = false /\ b5 = false /\ b6 = false /\ b7 = false /\ b8 = false /\ b9 = true \/ b1 = false /\ b2 = false /\ b3 = false /\ b4 = false /\ b5 = false /\ b6 = false /\ b7 = false /\ b8 = false /\ b9 = false := by
  intro b1 b2 b3 b4 b5 b6 b7 b8 b9
  cases b1 <;> simp
  cases b2 <;> simp
  cases b3 <;> simp
  cases b4 <;> simp
  cases b5 <;> simp
  cases b6 <;> simp
  cases b7 <;> simp
  cases b8 <;> simp
theorem QmA {q : PS} (hk : q.tk.kind = 4) {b1 b2 b3 b4 b5 b6 b7 b8 b9 : Bool} (w1 : (q.tk.text.toList = [61]) = (b1 = true)) (w2 : (q.tk.text.toList = [61, 61]) = (b2 = true)) (w3 : (q.tk.text.toList = [92, 61]) = (b3 = true)) (w4 : (q.tk.text.toList = [60]) = (b4 = true)) (w5 : (q.tk.text.toList = [61, 60]) = (b5 = true)) (w6 : (q.tk.text.toList = [62]) = (b6 = true)) (w7 : (q.tk.text.toList = [62, 61]) = (b7 = true)) (w8 : (q.tk.text.toList = [61, 58, 61]) = (b8 = true)) (w9 : (q.tk.text.toList = [61, 92, 61]) = (b9 = true)) : cmpR q = (if b1 = true then (3, false) else if b2 = true then (5, false) else if b3 = true then (6, false) else if b4 = true then (7, false) else if b5 = true then (8, false) else if b6 = true then (7, true) else if b7 = true then (8, true) else if b8 = true then (9, false) else if b9 = true then (10, false) else (0, false)) := by
  unfold cmpR QaP
  rw [QuE (by rw [hk]; decide), QuE (by simpa using hk)]
  simp only [w1, w2, w3, w4, w5, w6, w7, w8, w9]
  repeat' split
  all_goals first | rfl | simp_all
section
variable {all : List Tk} {i g : Nat} (hN : all.length <= 1000000)
theorem QnC {q : PS} (hW : Wst all q) {h : AH} (HI : IG h i g) (L : AH) : QA Tryz.prog 85 [.ptr i 0 0] (rh h i g all q 0 0 ++ L) fun o h' => o = .ret (.tup [.i (cmpR q).1, .b (cmpR q).2]) /\ h' = rh h i g all q 0 0 ++ L := by
  have cw := (RC.two (Qph (tok := some g) hW i 0 0 { data := #[105, 115] }) rfl).app HI L
  have ct := QhS hW HI L
  have e1 := Tk.QsS q.tk
  have e2 := Tk.QsT q.tk
  by_cases h1 : q.tk.kind = 1
  · have z4 : (q.tk.kind != 4) = true := by rw [h1]; rfl
    by_cases hi : q.tk.text.toList = [105, 115]
    · have e : q.wrd (ByteArray.toList { data := #[105, 115] }) = true := by rw [PS.wrd, h1, Lib.toList_data { data := #[105, 115] }, hi]; rfl
      have ec : cmpR q = (4, false) := by unfold cmpR QaP; rw [QuH h1, QuH hi]
      rw [e] at cw
      rw [ec]
      refine Qa Tryz.func85 rfl Tryz.call85 Tryz.ntmps85 Tryz.results85 (by simp) ?_
      repeat (first | refine FunW.QsR cw ?_ | refine Qb ?_); simp only [go_sem, seval]
      exact .inr ⟨rfl, rfl⟩
    · have e : q.wrd (ByteArray.toList { data := #[105, 115] }) = false := by rw [PS.wrd, h1, Lib.toList_data { data := #[105, 115] }]; simpa using hi
      have ec : cmpR q = (0, false) := by unfold cmpR QaP; rw [QuH h1, QuE hi]
      rw [e] at cw
      rw [ec]
      refine Qa Tryz.func85 rfl Tryz.call85 Tryz.ntmps85 Tryz.results85 (by simp) ?_
      repeat (first | refine FunW.QsR cw ?_ | refine FunW.QsR ct ?_ | refine Qb ?_); simp only [go_sem, seval, e1, e2, z4]
      exact .inr ⟨rfl, rfl⟩
  · have e : q.wrd (ByteArray.toList { data := #[105, 115] }) = false := by rw [PS.wrd, show (q.tk.kind == 1) = false by simpa using h1]; rfl
    rw [e] at cw
    by_cases h4 : q.tk.kind = 4
    · have z4 : (q.tk.kind != 4) = false := by rw [h4]; rfl
      obtain ⟨b1, u1⟩ : ∃ b, (q.tk.text.toList == ByteArray.toList { data := #[61] }) = b := ⟨_, rfl⟩
      obtain ⟨b2, u2⟩ : ∃ b, (q.tk.text.toList == ByteArray.toList { data := #[61, 61] }) = b := ⟨_, rfl⟩
      obtain ⟨b3, u3⟩ : ∃ b, (q.tk.text.toList == ByteArray.toList { data := #[92, 61] }) = b := ⟨_, rfl⟩
      obtain ⟨b4, u4⟩ : ∃ b, (q.tk.text.toList == ByteArray.toList { data := #[60] }) = b := ⟨_, rfl⟩
      obtain ⟨b5, u5⟩ : ∃ b, (q.tk.text.toList == ByteArray.toList { data := #[61, 60] }) = b := ⟨_, rfl⟩
      obtain ⟨b6, u6⟩ : ∃ b, (q.tk.text.toList == ByteArray.toList { data := #[62] }) = b := ⟨_, rfl⟩
      obtain ⟨b7, u7⟩ : ∃ b, (q.tk.text.toList == ByteArray.toList { data := #[62, 61] }) = b := ⟨_, rfl⟩
      obtain ⟨b8, u8⟩ : ∃ b, (q.tk.text.toList == ByteArray.toList { data := #[61, 58, 61] }) = b := ⟨_, rfl⟩
      obtain ⟨b9, u9⟩ : ∃ b, (q.tk.text.toList == ByteArray.toList { data := #[61, 92, 61] }) = b := ⟨_, rfl⟩
      have w1 : (q.tk.text.toList = [61]) = (b1 = true) := by rw [<- u1, Lib.toList_data { data := #[61] }]; simp
      have w2 : (q.tk.text.toList = [61, 61]) = (b2 = true) := by rw [<- u2, Lib.toList_data { data := #[61, 61] }]; simp
      have w3 : (q.tk.text.toList = [92, 61]) = (b3 = true) := by rw [<- u3, Lib.toList_data { data := #[92, 61] }]; simp
      have w4 : (q.tk.text.toList = [60]) = (b4 = true) := by rw [<- u4, Lib.toList_data { data := #[60] }]; simp
      have w5 : (q.tk.text.toList = [61, 60]) = (b5 = true) := by rw [<- u5, Lib.toList_data { data := #[61, 60] }]; simp
      have w6 : (q.tk.text.toList = [62]) = (b6 = true) := by rw [<- u6, Lib.toList_data { data := #[62] }]; simp
      have w7 : (q.tk.text.toList = [62, 61]) = (b7 = true) := by rw [<- u7, Lib.toList_data { data := #[62, 61] }]; simp
      have w8 : (q.tk.text.toList = [61, 58, 61]) = (b8 = true) := by rw [<- u8, Lib.toList_data { data := #[61, 58, 61] }]; simp
      have w9 : (q.tk.text.toList = [61, 92, 61]) = (b9 = true) := by rw [<- u9, Lib.toList_data { data := #[61, 92, 61] }]; simp
      rw [QmA h4 w1 w2 w3 w4 w5 w6 w7 w8 w9]
      rcases Qop b1 b2 b3 b4 b5 b6 b7 b8 b9 with rfl | ⟨rfl, rfl⟩ | ⟨rfl, rfl, rfl⟩ | ⟨rfl, rfl, rfl, rfl⟩ | ⟨rfl, rfl, rfl, rfl, rfl⟩ | ⟨rfl, rfl, rfl, rfl, rfl, rfl⟩ | ⟨rfl, rfl, rfl, rfl, rfl, rfl, rfl⟩ | ⟨rfl, rfl, rfl, rfl, rfl, rfl, rfl, rfl⟩ | ⟨rfl, rfl, rfl, rfl, rfl, rfl, rfl, rfl, rfl⟩ | ⟨rfl, rfl, rfl, rfl, rfl, rfl, rfl, rfl, rfl⟩ <;>
      (refine Qa Tryz.func85 rfl Tryz.call85 Tryz.ntmps85 Tryz.results85 (by simp) ?_
       repeat (first | refine FunW.QsR cw ?_ | refine FunW.QsR ct ?_ | refine Qb ?_); simp only [go_sem, seval, e1, e2, z4, u1, u2, u3, u4, u5, u6, u7, u8, u9]
       exact .inr ⟨rfl, rfl⟩)
    · have z4 : (q.tk.kind != 4) = true := by simpa using h4
      have ec : cmpR q = (0, false) := by unfold cmpR QaP; rw [QuE h1, QuH h4]
      rw [ec]
      refine Qa Tryz.func85 rfl Tryz.call85 Tryz.ntmps85 Tryz.results85 (by simp) ?_
      repeat (first | refine FunW.QsR cw ?_ | refine FunW.QsR ct ?_ | refine Qb ?_); simp only [go_sem, seval, e1, e2, z4]
      exact .inr ⟨rfl, rfl⟩
end
end Go.Proofs.YticgcpebdldbgaaGreatDoor.Ab
namespace Go.Proofs.YticgcpebdldbgaaGreatDoor.Ab
open Go.Proofs
abbrev cG0:AB:=.cells 46 3 [.agg [.i 0,.v (.string {data:=#[]}),.v (.slice none 0 0)]]
theorem QbL(H:AH)(m:Nat)(o:Int)(x:ByteArray):Frz H m (.agg [.i o,.v (.string x),.v (.slice none 0 0)]) (G.goal ⟨o,x,[]⟩):=.agg rfl (Qbo (.keep (.v _)) (Qbo (.keep (.v _)) (Qfg (.nil 4))))
theorem Qch(H:AH)(m:Nat)(a:G):Frz H m a.goal a.goal:=.keep (.agg _ fun x hx=>by
 simp only[QuL,QuS,Qvz]at hx
 rcases hx with rfl|rfl|rfl
 ·exact .v _
 ·exact .v _
 ·exact Qca _ _)
theorem Qmy{s:PS}{o:Int}{t:Bool}(h:QaP s=some (o,t)):o≠0:=by
 unfold QaP at h
 repeat' split at h
 all_goals first|(cases h;decide)|cases h
section
variable{all:List Tk}{i g:Nat}(hN:all.length<=1000000)(hD:TkOk all)(hX:TxOk all)
include hN hD hX
theorem QfN{q:PS}(hW:Wst all q):(∃r,Qae q=r/\r.e≠0)\/∃u s2,Qae q=⟨u,s2,0,0⟩/\Wst all s2/\s2.toks.length<=q.toks.length:=by
 have _u:=hN;have _v:=hD;have _w:=hX
 have h1:=QhW q
 cases hp:YP q with
 |err p e=>rw[hp]at h1;exact .inl ⟨_,rfl,h1.2.1▸h1.2.2⟩
 |ok u s2 =>
  rw[hp]at h1
  exact .inr ⟨u,s2,h1,Kp.Ps.ok (n:=wdOf all) (Kp.termT_ps trivial) hW hp,((Qbi.less (QuG _)) q hW.wf u s2 hp).2⟩
theorem QnP{q:PS}(hW:Wst all q):R2 Tryz.prog 61 [.ptr i 0 0] i g all q (.tup [(Qge q).v.goal,.b ((Qge q).e==0)]) (Qge q).s (Qge q).pos (Qge q).e:=by
 intro h HI
 have f1:=Qcv h i g all
 have f3:=Qd6 h i g all
 have f4:=QgZ h i g all
 have f5:=QcJ h i g all
 have f6:=Qd5 h i g all
 have ct:=QhS hW HI
 have cx:=Qew hN hW HI
 have cf:=Qev hW HI
 have e1:=Tk.QsS q.tk
 have e2:=Tk.QsT q.tk
 have cr:=QaX q.tk.text
 have e40:(ByteArray.toList {data:=#[40]})=sLp:=by rw[Lib.toList_data];rfl
 have e41:(ByteArray.toList {data:=#[41]})=sRp:=by rw[Lib.toList_data];rfl
 unfold Qge
 by_cases hk:q.tk.kind=1/\resB q.tk.text=true
 ·rw[QuH hk]
  rw[hk.2]at cr
  have z1:(q.tk.kind==1)=true:=by simpa using hk.1
  obtain⟨b1,u1⟩:∃b,(q.tk.text.toList==ByteArray.toList {data:=#[116,114,117,101]})=b:=⟨_,rfl⟩
  have w1:(q.tk.text.toList=[116,114,117,101])=(b1=true):=by rw[<-u1,Lib.toList_data {data:=#[116,114,117,101]}];simp
  obtain⟨b2,u2⟩:∃b,(q.tk.text.toList==ByteArray.toList {data:=#[102,97,105,108]})=b:=⟨_,rfl⟩
  have w2:(q.tk.text.toList=[102,97,105,108])=(b2=true):=by rw[<-u2,Lib.toList_data {data:=#[102,97,105,108]}];simp
  obtain⟨b3,u3⟩:∃b,(q.tk.text.toList==ByteArray.toList {data:=#[105,110,116]})=b:=⟨_,rfl⟩
  have w3:(q.tk.text.toList=[105,110,116])=(b3=true):=by rw[<-u3,Lib.toList_data {data:=#[105,110,116]}];simp
  obtain⟨b4,u4⟩:∃b,(q.tk.text.toList==ByteArray.toList {data:=#[103,114,111,117,110,100]})=b:=⟨_,rfl⟩
  have w4:(q.tk.text.toList=[103,114,111,117,110,100])=(b4=true):=by rw[<-u4,Lib.toList_data {data:=#[103,114,111,117,110,100]}];simp
  simp only[w1,w2,w3,w4]
  cases b1 with
  |true =>
   rw[QuH rfl]
   refine Qa Tryz.func61 rfl Tryz.call61 Tryz.ntmps61 Tryz.results61 (by simp) ?_
   repeat first|(first|refine Qe cr ?_|refine FunW.QsR (ct _) ?_|refine FunW.QsR (cx _) ?_|refine Qb ?_);simp only[go_sem,seval,f1,f3,f4,f5,f6,e1,e2,z1,u1]|refine hK _ ?_;clear hK
   exact XO HI all _ _ _ (XZ _ (QbL _ _ _ _)) ⟨rfl,rfl⟩
  |false =>
   rw[QuE (by simp)]
   cases b2 with
   |true =>
    rw[QuH rfl]
    refine Qa Tryz.func61 rfl Tryz.call61 Tryz.ntmps61 Tryz.results61 (by simp) ?_
    repeat first|(first|refine Qe cr ?_|refine FunW.QsR (ct _) ?_|refine FunW.QsR (cx _) ?_|refine Qb ?_);simp only[go_sem,seval,f1,f3,f4,f5,f6,e1,e2,z1,u1,u2]|refine hK _ ?_;clear hK
    exact XO HI all _ _ _ (XZ _ (QbL _ _ _ _)) ⟨rfl,rfl⟩
   |false =>
    rw[QuE (by simp)]
    by_cases h34:b3=false/\b4=false
    ·obtain⟨rfl,rfl⟩:=h34
     rw[QuE (by simp),QuE (by simp)]
     refine Qa Tryz.func61 rfl Tryz.call61 Tryz.ntmps61 Tryz.results61 (by simp) ?_
     repeat first|(first|refine Qe cr ?_|refine FunW.QsR (ct _) ?_|refine FunW.QsR (cf _ _ _) ?_|refine Qb ?_);simp only[go_sem,seval,f1,f3,f4,f5,f6,e1,e2,z1,u1,u2,u3,u4]|refine hK _ ?_;clear hK
     exact XO HI all _ _ _ (XZ _ (QbL _ _ _ _)) ⟨rfl,rfl⟩
    ·obtain⟨op,hop⟩:∃op:Int,op=(if b3=true then 11 else 12):=⟨_,rfl⟩
     have hq:(if b3=true then qOne 11 q.nx else if b4=true then qOne 12 q.nx else⟨zGl,q,q.tk.pos,7⟩)=qOne op q.nx:=by
      cases b3 with
      |true=>rw[hop];rfl
      |false=>cases b4 with
       |true=>rw[hop];rfl
       |false=>exact absurd ⟨rfl,rfl⟩ h34
     rw[hq]
     have hln:=Yg hW.wf (by rw[hk.1];decide)
     have cw:=fun L=>QkP hN hW.nx HI L {data:=#[40]}
     rw[e40]at cw
     unfold qOne
     obtain⟨W,hWW⟩:∃W:AS->Prop,W=fun s=>s.tm 0 = .ptr i 0 0/\s.tm 2 = .ptr h.length 0 0/\s.tm 5 = .ptr (h.length+2) 0 0/\s.h=rh h i g all q 0 0++[cG0,.cells 54 3 [q.tk.av],.cells 46 3 [.agg [.i op,.v (.string {data:=#[]}),.v (.slice none 0 0)]]]:=⟨_,rfl⟩
     refine Qa Tryz.func61 rfl Tryz.call61 Tryz.ntmps61 Tryz.results61 (by simp) ?_
     iterate 12 (try (first|((first|(with_reducible (first|refine Qd fun K E hK hE=>?_|refine Qe cr ?_|refine FunW.QsR (ct _) ?_)));simp only[go_sem,seval,f1,f4,f6,e1,e2,z1])|(with_reducible refine Qq fun K hK=>?_)|((with_reducible refine hK _ ?_);clear hK)|(refine Qm rfl ?_;simp only[↓reduceIte])))
     refine Yb W ?_ ?_
     ·rintro⟨tm,hp⟩ hw
      rw[hWW]at hw
      obtain⟨t0,t2,t5,rfl⟩:=hw
      dsimp only at t0 t2 t5
      have hwi:=Qf1 sLp q.nx
      cases hwt:YM sLp q.nx with
      |err p e =>
       rw[hwt]at hwi
       have hne:=hwi.2.1▸hwi.2.2
       have z:((Qal sLp q.nx).e==0)=false:=by simpa using hne
       rw[QuH hne]
       rw[z]at cw
       repeat first|(first|refine FunW.QsR (cx _) ?_|refine FunW.QsR (cw _) ?_|refine Qb ?_);simp only[go_sem,seval,f3,f5,t0,t2]|refine hK _ ?_;clear hK
       exact XO HI all _ _ _ (XZ _ (QbL _ _ _ _)) ⟨by rw[z] <;> rfl,rfl⟩
      |ok v s1 =>
       rw[hwt]at hwi
       have hq1:=RR.okE hwi
       have hW1:Wst all s1:=Kp.Ps.ok (n:=wdOf all) (Kp.want_ps trivial _) hW.nx hwt
       rw[hq1]at cw ⊢
       rw[QuE (by simp)]
       have ce:=(QhR i g hN hD hX hW1).app HI
       rcases QfN hN hD hX hW1 with⟨r,hr,hne⟩|⟨u,s2,hr,hW2,hl2⟩
       ·simp only[hr]at ce ⊢
        have z:(r.e==0)=false:=by simpa using hne
        rw[QuH hne]
        rw[z]at ce
        have v1:=T.QsS r.v
        have v2:=T.QsT r.v
        repeat first|(first|refine FunW.QsR (cx _) ?_|refine FunW.QsR (cw _) ?_|refine FunW.QsR (ce _) ?_|refine Qi (id:=21) [(0,0),(1,0),(2,0),(3,0),(4,1),(5,1),(6,2),(7,0)] mixed (by kernel_rfl) fun K hK=>?_|refine Qb ?_);simp only[go_sem,seval,f1,f3,f4,f5,f6,t0,t2,t5,v1,v2]|refine hK _ ?_;clear hK
        exact XO HI all _ _ _ (XZ _ (Qch _ _ ⟨op,eB,[r.v]⟩)) ⟨by rw[z] <;> rfl,rfl⟩
       ·simp only[hr]at ce ⊢
        rw[QuE (by simp)]
        have cw2:=fun L=>QkP hN hW2 HI L {data:=#[41]}
        rw[e41]at cw2
        have v1:=T.QsS u
        have v2:=T.QsT u
        repeat first|(first|refine FunW.QsR (cx _) ?_|refine FunW.QsR (cw _) ?_|refine FunW.QsR (ce _) ?_|refine Qb ?_);simp only[go_sem,seval,f1,f4,f6,t0,t5,v1,v2]|refine hK _ ?_;clear hK
        refine Qbn (h.length+2) 5 0 0 (by rw[f4];rfl) (by exact t5) ?_
        simp only[f6,Qt9,Qua]
        refine Qh (id:=21) [(0,1),(1,1),(2,1),(3,1),(4,2),(5,1),(6,2),(7,0)] mixed (by kernel_rfl) fun K hK=>?_
        simp only[go_sem,seval,t0]
        repeat first|(first|refine Yt (FunW.call (cw2 _)) Qah ?_|refine Qb ?_);simp only[go_sem,seval,f3,f5,t2]|refine hK _ ?_;clear hK
        exact XO HI all _ _ _ (XZ _ (Qch _ _ ⟨op,eB,[u]⟩)) ⟨rfl,rfl⟩
     ·cases b3 with
      |true =>
       repeat first|refine Qb ?_;simp only[go_sem,seval,f4,f6,e1,u1,u2,u3]|refine hK _ ?_;clear hK
       (try (refine hK _ ?_;rw[Ql]))
       rw[hWW]
       exact⟨rfl,rfl,rfl,by rw[hop];rfl⟩
      |false =>
       cases b4 with
       |true =>
        repeat first|refine Qb ?_;simp only[go_sem,seval,f4,f6,e1,u1,u2,u3,u4]|refine hK _ ?_;clear hK
        (try (refine hK _ ?_;rw[Ql]))
        rw[hWW]
        exact⟨rfl,rfl,rfl,by rw[hop];rfl⟩
       |false=>exact absurd ⟨rfl,rfl⟩ h34
 ·rw[QuE hk]
  have hkk:(q.tk.kind==1)=false\/((q.tk.kind==1)=true/\resB q.tk.text=false):=by
   cases h1:(q.tk.kind==1)with
   |false=>exact .inl rfl
   |true=>exact .inr ⟨rfl,by cases h2:resB q.tk.text with
    |false=>rfl
    |true=>exact absurd ⟨by simpa using h1,h2⟩ hk⟩
  obtain⟨W,hWW⟩:∃W:AS->Prop,W=fun s=>s.tm 0 = .ptr i 0 0/\s.tm 2 = .ptr h.length 0 0/\s.tm 4 = .ptr (h.length+1) 0 0/\s.h=rh h i g all q 0 0++[cG0,.cells 54 3 [q.tk.av]]:=⟨_,rfl⟩
  refine Qa Tryz.func61 rfl Tryz.call61 Tryz.ntmps61 Tryz.results61 (by simp) ?_
  iterate 5 (try (first|((first|(with_reducible (first|refine Qd fun K E hK hE=>?_|refine FunW.QsR (ct _) ?_)));simp only[go_sem,seval,f1,f4,f6,e1,e2])|((with_reducible refine hK _ ?_);clear hK)))
  refine Yb W ?_ ?_
  ·rintro⟨tm,hp⟩ hw
   rw[hWW]at hw
   obtain⟨t0,t2,t4,rfl⟩:=hw
   dsimp only at t0 t2 t4
   have ce:=(QhR i g hN hD hX hW).app HI
   rcases QfN hN hD hX hW with⟨r,hr,hne⟩|⟨u,s2,hr,hW2,hl2⟩
   ·simp only[hr]at ce ⊢
    have z:(r.e==0)=false:=by simpa using hne
    rw[QuH hne]
    rw[z]at ce
    have v1:=T.QsS r.v
    have v2:=T.QsT r.v
    repeat first|(first|refine FunW.QsR (ce _) ?_|refine Qb ?_);simp only[go_sem,seval,f1,f3,f4,f5,f6,t0,t2,v1,v2]|refine hK _ ?_;clear hK
    exact XO HI all _ _ _ (XZ _ (QbL _ _ _ _)) ⟨by rw[z] <;> rfl,rfl⟩
   ·simp only[hr]at ce ⊢
    rw[QuE (by simp)]
    have v1:=T.QsS u
    have v2:=T.QsT u
    have cc:=QnC hW2 HI
    cases hc:QaP s2 with
    |none =>
     have ec:cmpR s2=(0,false):=by unfold cmpR;rw[hc]
     rw[ec]at cc
     have ct2:=QhS hW2 HI
     have cf2:=Qev hW2 HI
     have k1:=Tk.QsS s2.tk
     have k2:=Tk.QsT s2.tk
     by_cases h1:q.tk.kind=1
     ·have z1:(q.tk.kind != 1)=false:=by simpa using h1
      by_cases h2:u.name.toList=q.tk.text.toList
      ·have z2:(u.name.toList==q.tk.text.toList)=true:=by simpa using h2
       rw[QuH ⟨h1,h2⟩]
       repeat first|(first|refine FunW.QsR (ce _) ?_|refine FunW.QsR (cc _) ?_|refine Qb ?_);simp only[go_sem,seval,f1,f3,f4,f5,f6,t0,t2,t4,v1,v2,e1,z1,z2]|refine hK _ ?_;clear hK
       exact XO HI all _ _ _ (XZ _ (Qch _ _ ⟨0,u.name,u.args⟩)) ⟨rfl,rfl⟩
      ·have z2:(u.name.toList==q.tk.text.toList)=false:=by simpa using h2
       rw[QuE (fun h=>h2 h.2)]
       repeat first|(first|refine FunW.QsR (ce _) ?_|refine FunW.QsR (cc _) ?_|refine FunW.QsR (ct2 _) ?_|refine FunW.QsR (cf2 _ _ _) ?_|refine Qb ?_);simp only[go_sem,seval,f1,f3,f4,f5,f6,t0,t2,t4,v1,v2,e1,z1,z2,k1,k2]|refine hK _ ?_;clear hK
       exact XO HI all _ _ _ (XZ _ (QbL _ _ _ _)) ⟨rfl,rfl⟩
     ·have z1:(q.tk.kind != 1)=true:=by simpa using h1
      rw[QuE (fun h=>h1 h.1)]
      repeat first|(first|refine FunW.QsR (ce _) ?_|refine FunW.QsR (cc _) ?_|refine FunW.QsR (ct2 _) ?_|refine FunW.QsR (cf2 _ _ _) ?_|refine Qb ?_);simp only[go_sem,seval,f1,f3,f4,f5,f6,t0,t2,t4,v1,v2,e1,z1,k1,k2]|refine hK _ ?_;clear hK
      exact XO HI all _ _ _ (XZ _ (QbL _ _ _ _)) ⟨rfl,rfl⟩
    |some ot =>
     obtain⟨o,t⟩:=ot
     have ec:cmpR s2=(o,t):=by unfold cmpR;rw[hc]
     rw[ec]at cc
     have zo:(o==0)=false:=by simpa using Qmy hc
     have cx2:=Qew hN hW2 HI
     have ce2:=(QhR i g hN hD hX hW2.nx).app HI
     generalize Qae s2.nx=y at *
     have y1:=T.QsS y.v
     have y2:=T.QsT y.v
     cases t with
     |true =>
      repeat first|(first|refine FunW.QsR (ce _) ?_|refine FunW.QsR (cc _) ?_|refine FunW.QsR (cx2 _) ?_|refine FunW.QsR (ce2 _) ?_|refine Qb ?_);simp only[go_sem,seval,f1,f3,f4,f5,f6,t0,t2,v1,v2,zo,y1,y2]|refine hK _ ?_;clear hK
      exact XO HI all _ _ _ (XZ _ (Qch _ _ ⟨o,eB,[y.v,u]⟩)) ⟨rfl,rfl⟩
     |false =>
      repeat first|(first|refine FunW.QsR (ce _) ?_|refine FunW.QsR (cc _) ?_|refine FunW.QsR (cx2 _) ?_|refine FunW.QsR (ce2 _) ?_|refine Qb ?_);simp only[go_sem,seval,f1,f3,f4,f5,f6,t0,t2,v1,v2,zo,y1,y2]|refine hK _ ?_;clear hK
      exact XO HI all _ _ _ (XZ _ (Qch _ _ ⟨o,eB,[u,y.v]⟩)) ⟨rfl,rfl⟩
  ·rcases hkk with hk1|⟨hk1,hk2⟩
   ·repeat first|refine Qb ?_;simp only[go_sem,seval,f4,e1,hk1]|refine hK _ ?_;clear hK
    (try (refine hK _ ?_;rw[Ql]))
    rw[hWW]
    exact⟨rfl,rfl,rfl,rfl⟩
   ·rw[hk2]at cr
    repeat first|(first|refine Qe cr ?_|refine Qb ?_);simp only[go_sem,seval,f4,e1,hk1]|refine hK _ ?_;clear hK
    (try (refine hK _ ?_;rw[Ql]))
    rw[hWW]
    exact⟨rfl,rfl,rfl,rfl⟩
end
end Go.Proofs.YticgcpebdldbgaaGreatDoor.Ab
namespace Go.Proofs.YticgcpebdldbgaaGreatDoor.Ab
open Go.Proofs
def i64(n:Int):Prop := -9223372036854775808<=n/\n<=9223372036854775807
mutual
def T.ok:T->Prop
 | .mk k i n l=>i64 k/\i64 i/\n.size<=9223372036854775807/\oks l
def oks:List T->Prop
 |[]=>True
 |t::l=>t.ok/\oks l
end
theorem T.ok_eq(t:T):t.ok↔i64 t.kind/\i64 t.int/\t.name.size<=9223372036854775807/\oks t.args:=by cases t;simp only[T.ok,T.kind,T.int,T.name,T.args]
theorem QjL:∀{l:List T} {k:Nat} (h:k<l.length),oks l->(l[k]).ok
 |t::l,0,_,h=>h.1
 |t::l,k+1,h,ho=>QjL (l:=l) (by simpa using h) ho.2
def G.ok(g:G):Prop:=i64 g.op/\g.name.size<=9223372036854775807/\oks g.args
mutual
def T.QsY:T->Bool
 | .mk k i n l =>
  if k=0 then decide (-2147483648<=i/\i<=2147483648)&&QaQ n&&l.isEmpty else
  if k=1 then decide (0<=i/\i<=1048576)&&QaQ n&&l.isEmpty else
  if k=2 then(if i≠0\/6<l.length then false else if (!Qbf n&&!(opB n&&decide (l.length=2)))=true then false else Qbc l)else false
def Qbc:List T->Bool
 |[]=>true
 |t::l=>t.QsY&&Qbc l
end
theorem T.Qs0(t:T):t.QsY=if t.kind=0 then decide (-2147483648<=t.int/\t.int<=2147483648)&&QaQ t.name&&t.args.isEmpty else
  if t.kind=1 then decide (0<=t.int/\t.int<=1048576)&&QaQ t.name&&t.args.isEmpty else
  if t.kind=2 then(if t.int≠0\/6<t.args.length then false else if (!Qbf t.name&&!(opB t.name&&decide (t.args.length=2)))=true then false else Qbc t.args)else false:=by
 cases t;rw[T.QsY];rfl
theorem Qju{l:List T}{k:Nat}(h:k<l.length):Qbc (l.drop k)=((l[k]).QsY&&Qbc (l.drop (k+1))):=by
 rw[QuQ h];simp only[Qbc]
theorem Qe8{p q:Prop}[Decidable p][Decidable q]:(decide p&&decide q)=decide (p/\q):=by
 by_cases hp:p <;> by_cases hq:q <;> simp[hp,hq]
mutual
theorem T.Qs8:∀(t:T) (b d:Int),(t.run b d).1=(t.QsY&&decide ((t.size:Int)<=b/\(t.dep:Int)<=d))/\((t.run b d).1=true->(t.run b d).2=b - t.size)
 | .mk k i n l,b,d=>by
  have hs:=size_pos (.mk k i n l)
  have hd:1<=(T.mk k i n l).dep:=by rw[T.Qtt];omega
  rw[T.run,T.QsY]
  by_cases h1:b - 1<0\/d<1
  ·rw[QuH h1,QuM (show ¬(((T.mk k i n l).size:Int)<=b/\((T.mk k i n l).dep:Int)<=d) by omega),Qv6]
   exact⟨rfl,fun h=>by cases h⟩
  rw[QuE h1]
  have one:k≠2->(T.mk k i n l).size=1/\(T.mk k i n l).dep=1:=fun h=>by simp only[T.size,T.dep,QuE h];exact⟨trivial,trivial⟩
  by_cases k0:k=0
  ·obtain⟨e1,e2⟩:=one (by omega)
   rw[QuH k0,QuH k0,e1,e2,QuU (show((1:Nat):Int)<=b/\((1:Nat):Int)<=d by omega),Bool.and_true]
   exact⟨rfl,fun _=>rfl⟩
  rw[QuE k0,QuE k0]
  by_cases k1:k=1
  ·obtain⟨e1,e2⟩:=one (by omega)
   rw[QuH k1,QuH k1,e1,e2,QuU (show((1:Nat):Int)<=b/\((1:Nat):Int)<=d by omega),Bool.and_true]
   exact⟨rfl,fun _=>rfl⟩
  rw[QuE k1,QuE k1]
  by_cases k2:k=2
  ·rw[QuH k2,QuH k2]
   by_cases h2:i≠0\/6<l.length
   ·rw[QuH h2,QuH h2];exact⟨rfl,fun h=>by cases h⟩
   rw[QuE h2,QuE h2]
   by_cases h3:(!Qbf n&&!(opB n&&decide (l.length=2)))=true
   ·rw[QuH h3,QuH h3];exact⟨rfl,fun h=>by cases h⟩
   rw[QuE h3,QuE h3]
   have e1:(T.mk k i n l).size=1+sizes l:=by simp only[T.size,QuH k2]
   have e2:(T.mk k i n l).dep=1+deps l:=by simp only[T.dep,QuH k2]
   obtain⟨r1,r2⟩:=Qi0 l (b - 1) (d - 1) (by omega) (by omega)
   rw[e1,e2]
   refine⟨?_,fun h=>by rw[r2 h];omega⟩
   rw[r1]
   congr 1
   exact Qws.2 (by omega)
  ·rw[QuE k2,QuE k2];exact⟨rfl,fun h=>by cases h⟩
theorem Qi0:∀(l:List T) (b d:Int),0<=b->0<=d->(runL l b d).1=(Qbc l&&decide ((sizes l:Int)<=b/\(deps l:Int)<=d))/\((runL l b d).1=true->(runL l b d).2=b - sizes l)
 |[],b,d,hb,hd=>by
  rw[runL,Qbc,sizes,deps,QuU (show((0:Nat):Int)<=b/\((0:Nat):Int)<=d by omega)]
  exact⟨rfl,fun _=>by omega⟩
 |t::l,b,d,hb,hd=>by
  obtain⟨r1,r2⟩:=T.Qs8 t b d
  rw[runL,Qbc,sizes,deps]
  by_cases h:(t.run b d).1=true
  ·rw[QuH h]
   have e:=r2 h
   rw[r1,QuR,Qvi]at h
   obtain⟨hf,h1,h2⟩:=h
   obtain⟨q1,q2⟩:=Qi0 l (t.run b d).2 d (by omega) hd
   rw[hf,Qup]
   refine⟨?_,fun h=>by rw[q2 h];omega⟩
   rw[q1]
   congr 1
   exact Qws.2 (by omega)
  ·rw[QuE h]
   refine⟨?_,fun h=>by cases h⟩
   rw[r1]at h
   cases hf:t.QsY with
   |false=>rfl
   |true =>
    rw[hf,Qup,Qvi]at h
    rw[QuM (by omega),Qv6]
end
theorem T.Qtp(t:T):(t.run 200 20).1=(t.QsY&&(decide (t.size<=200)&&decide (t.dep<=20))):=by
 rw[(T.Qs8 t 200 20).1,Qe8]
 congr 1
 exact Qws.2 (by omega)
def rargs:List T->Nat->Bool
 |[],n=>decide (n<=200)
 |t::l,n=>(t.run 200 20).1&&rargs l (n+t.size)
theorem QkI:∀(l:List T) (n:Nat),200<n->rargs l n=false
 |[],n,h=>by rw[rargs,QuM (by omega)]
 |t::l,n,h=>by rw[rargs,QkI l _ (by omega),Qv6]
theorem QiV:∀(l:List T) (n:Nat),n<=200->rargs l n=(runL l (200 - n) 20).1
 |[],n,h=>by rw[rargs,runL,QuU h]
 |t::l,n,h=>by
  obtain⟨r1,_⟩:=T.Qs8 t 200 20
  obtain⟨q1,q2⟩:=T.Qs8 t (200 - n) 20
  rw[rargs,runL,r1]
  by_cases hq:(t.run (200 - n) 20).1=true
  ·rw[QuH hq,q2 hq]
   rw[q1,QuR,Qvi]at hq
   rw[hq.1,QuU (by omega),Qup,Qup,QiV l (n+t.size) (by omega)]
   congr 2;omega
  ·rw[QuE hq]
   rw[q1]at hq
   cases hf:t.QsY with
   |false=>rfl
   |true =>
    rw[hf,Qup,Qvi]at hq
    by_cases h2:n+t.size<=200
    ·rw[QuM (by omega)];rfl
    ·rw[QkI l _ (by omega),Qv6]
theorem QnB(l:List T):rargs l 0=(runL l 200 20).1:=by
 have:=QiV l 0 (by omega)
 simpa using this
mutual
theorem T.Qtc:∀t:T,t.size<=t.nds
 | .mk k i n l=>by
  simp only[T.size,T.nds]
  have:=QfS l
  split <;> omega
theorem QfS:∀l:List T,sizes l<=ndsL l
 |[]=>QuD _
 |t::l=>by
  simp only[sizes,ndsL]
  have:=T.Qtc t
  have:=QfS l
  omega
end
theorem Qor(t:T)(k0:t.kind=0):Pure Tryz.prog 114 [t.av] (.b t.QsY):=by
 intro h
 have z0:(t.kind==0)=true:=by simp[k0]
 by_cases c1:t.int >= -2147483648
 rotate_left
 ·have e1:¬-2147483648<=t.int:=by omega
  have R:t.QsY=false:=by
   rw[T.Qs0,QuH k0];simp[e1]
  rw[R]
  refine Qa Tryz.func114 rfl Tryz.call114 Tryz.ntmps114 Tryz.results114 (by simp) ?_
  repeat refine Qb ?_;simp only[go_sem,seval,z0,c1]
  (refine Qc (htake _ _) (.keep (.v _)) ⟨rfl,rfl⟩)
 have e1 : -2147483648<=t.int:=by omega
 by_cases c2:t.int<=2147483648
 rotate_left
 ·skip
  have R:t.QsY=false:=by
   rw[T.Qs0,QuH k0];simp[e1,c2]
  rw[R]
  refine Qa Tryz.func114 rfl Tryz.call114 Tryz.ntmps114 Tryz.results114 (by simp) ?_
  repeat refine Qb ?_;simp only[go_sem,seval,z0,c1,c2]
  (refine Qc (htake _ _) (.keep (.v _)) ⟨rfl,rfl⟩)
 cases c3:QaQ t.name with
 |false =>
  have c3':(t.name.toList==({data:=#[]}:ByteArray).toList)=false:=c3
  have R:t.QsY=false:=by
   rw[T.Qs0,QuH k0];simp[e1,c2,c3]
  rw[R]
  refine Qa Tryz.func114 rfl Tryz.call114 Tryz.ntmps114 Tryz.results114 (by simp) ?_
  repeat refine Qb ?_;simp only[go_sem,seval,z0,c1,c2,c3']
  (refine Qc (htake _ _) (.keep (.v _)) ⟨rfl,rfl⟩)
 |true =>
  have c3':(t.name.toList==({data:=#[]}:ByteArray).toList)=true:=c3
  cases hl:t.args with
  |nil =>
   have c4:((0:Int)==0)=true:=rfl
   have R:t.QsY=true:=by
    rw[T.Qs0,QuH k0];simp[e1,c2,c3,hl]
   rw[R]
   refine Qa Tryz.func114 rfl Tryz.call114 Tryz.ntmps114 Tryz.results114 (by simp) ?_
   repeat refine Qb ?_;simp only[go_sem,seval,z0,c1,c2,c3',hl,QeZ]
   (refine Qc (htake _ _) (.keep (.v _)) ⟨rfl,rfl⟩)
  |cons a l =>
   have c4:(((l.length+1:Nat):Int)==0)=false:=by simp;omega
   have R:t.QsY=false:=by
    rw[T.Qs0,QuH k0];simp[e1,c2,c3,hl]
   rw[R]
   refine Qa Tryz.func114 rfl Tryz.call114 Tryz.ntmps114 Tryz.results114 (by simp) ?_
   repeat refine Qb ?_;simp only[go_sem,seval,z0,c1,c2,c3',hl,c4]
   (refine Qc (htake _ _) (.keep (.v _)) ⟨rfl,rfl⟩)
theorem Qos(t:T)(k1:t.kind=1):Pure Tryz.prog 114 [t.av] (.b t.QsY):=by
 intro h
 have k0:¬t.kind=0:=by omega
 have z0:(t.kind==0)=false:=by simp[k1]
 have z1:(t.kind==1)=true:=by simp[k1]
 by_cases c1:t.int>=0
 rotate_left
 ·have e1:¬0<=t.int:=by omega
  have R:t.QsY=false:=by
   rw[T.Qs0,QuE k0,QuH k1];simp[e1]
  rw[R]
  refine Qa Tryz.func114 rfl Tryz.call114 Tryz.ntmps114 Tryz.results114 (by simp) ?_
  repeat refine Qb ?_;simp only[go_sem,seval,z0,z1,c1]
  (refine Qc (htake _ _) (.keep (.v _)) ⟨rfl,rfl⟩)
 have e1:0<=t.int:=by omega
 by_cases c2:t.int<=1048576
 rotate_left
 ·skip
  have R:t.QsY=false:=by
   rw[T.Qs0,QuE k0,QuH k1];simp[e1,c2]
  rw[R]
  refine Qa Tryz.func114 rfl Tryz.call114 Tryz.ntmps114 Tryz.results114 (by simp) ?_
  repeat refine Qb ?_;simp only[go_sem,seval,z0,z1,c1,c2]
  (refine Qc (htake _ _) (.keep (.v _)) ⟨rfl,rfl⟩)
 cases c3:QaQ t.name with
 |false =>
  have c3':(t.name.toList==({data:=#[]}:ByteArray).toList)=false:=c3
  have R:t.QsY=false:=by
   rw[T.Qs0,QuE k0,QuH k1];simp[e1,c2,c3]
  rw[R]
  refine Qa Tryz.func114 rfl Tryz.call114 Tryz.ntmps114 Tryz.results114 (by simp) ?_
  repeat refine Qb ?_;simp only[go_sem,seval,z0,z1,c1,c2,c3']
  (refine Qc (htake _ _) (.keep (.v _)) ⟨rfl,rfl⟩)
 |true =>
  have c3':(t.name.toList==({data:=#[]}:ByteArray).toList)=true:=c3
  cases hl:t.args with
  |nil =>
   have c4:((0:Int)==0)=true:=rfl
   have R:t.QsY=true:=by
    rw[T.Qs0,QuE k0,QuH k1];simp[e1,c2,c3,hl]
   rw[R]
   refine Qa Tryz.func114 rfl Tryz.call114 Tryz.ntmps114 Tryz.results114 (by simp) ?_
   repeat refine Qb ?_;simp only[go_sem,seval,z0,z1,c1,c2,c3',hl,QeZ]
   (refine Qc (htake _ _) (.keep (.v _)) ⟨rfl,rfl⟩)
  |cons a l =>
   have c4:(((l.length+1:Nat):Int)==0)=false:=by simp;omega
   have R:t.QsY=false:=by
    rw[T.Qs0,QuE k0,QuH k1];simp[e1,c2,c3,hl]
   rw[R]
   refine Qa Tryz.func114 rfl Tryz.call114 Tryz.ntmps114 Tryz.results114 (by simp) ?_
   repeat refine Qb ?_;simp only[go_sem,seval,z0,z1,c1,c2,c3',hl,c4]
   (refine Qc (htake _ _) (.keep (.v _)) ⟨rfl,rfl⟩)
theorem Qln(t:T)(k0:¬t.kind=0)(k1:¬t.kind=1)(k2:¬t.kind=2):Pure Tryz.prog 114 [t.av] (.b t.QsY):=by
 intro h
 have z0:(t.kind==0)=false:=by simp[k0]
 have z1:(t.kind==1)=false:=by simp[k1]
 have z2:(t.kind==2)=false:=by simp[k2]
 have R:t.QsY=false:=by
  rw[T.Qs0,QuE k0,QuE k1,QuE k2]
 rw[R]
 refine Qa Tryz.func114 rfl Tryz.call114 Tryz.ntmps114 Tryz.results114 (by simp) ?_
 repeat refine Qb ?_;simp only[go_sem,seval,z0,z1,z2]
 (refine Qc (htake _ _) (.keep (.v _)) ⟨rfl,rfl⟩)
theorem Qoq(n:Nat)(hb:n<=1000000)(ih:∀t:T,t.nds<=n->t.ok->Pure Tryz.prog 114 [t.av] (.b t.QsY))(t:T)(hn:t.nds<=n+1)(ho:t.ok)(k2:t.kind=2) :
  Pure Tryz.prog 114 [t.av] (.b t.QsY):=by
 intro h
 have k0:¬t.kind=0:=by omega
 have k1:¬t.kind=1:=by omega
 have z0:(t.kind==0)=false:=by simp[k2]
 have z1:(t.kind==1)=false:=by simp[k2]
 have z2:(t.kind==2)=true:=by simp[k2]
 obtain⟨o1,o2,o3,o4⟩:=(T.ok_eq t).1 ho
 have hnd:=T.Qs4 t
 have hll:=YZ t.args
 have co:=QeG t.name
 have cr:Pure Tryz.prog 100 [.v (.string t.name)] (.b (Qbf t.name)):=Qdq t.name (by simp only[maxLen];omega)
 refine Qa Tryz.func114 rfl Tryz.call114 Tryz.ntmps114 Tryz.results114 (by simp) ?_
 iterate 15 (try (first|(((with_reducible refine Qd fun K E hK hE=>?_));simp only[go_sem,seval,z0,z1,z2])|(with_reducible (first|refine Qq fun K hK=>?_|refine Qu ?_))|((with_reducible refine hK _ ?_);clear hK)|(refine Qm rfl ?_;simp only[↓reduceIte,QtJ])))
 refine Yb (fun s=>s.tm 3 = .b (opB t.name&&decide (t.args.length=2))/\s.tm 1 = .ptr h.length 0 0/\s.h=h++[.cells 48 4 [t.av]]) ?_ ?_
 rotate_left
 ·cases ho:opB t.name with
  |false =>
   rw[ho]at co
   repeat first|(first|refine Qe co ?_|refine Qb ?_);simp only[go_sem,seval]|refine hK _ ?_;clear hK
   exact⟨rfl,rfl,rfl⟩
  |true =>
   rw[ho]at co
   by_cases hl2:t.args.length=2
   ·have h2:((t.args.length:Int)==2)=true:=by rw[hl2];rfl
    rw[QuU hl2]
    repeat first|(first|refine Qe co ?_|refine Qb ?_);simp only[go_sem,seval,h2]|refine hK _ ?_;clear hK
    exact⟨rfl,rfl,rfl⟩
   ·have h2:((t.args.length:Int)==2)=false:=by rw[QvQ];omega
    rw[QuM hl2]
    repeat first|(first|refine Qe co ?_|refine Qb ?_);simp only[go_sem,seval,h2]|refine hK _ ?_;clear hK
    exact⟨rfl,rfl,rfl⟩
 rintro⟨tm,hp⟩ ⟨t3,t1,hh⟩
 dsimp only at t3 t1 hh
 subst hh
 obtain⟨p,ep⟩:∃p,p=(opB t.name&&decide (t.args.length=2)):=⟨_,rfl⟩
 rw[<-ep]at t3
 have RR:t.QsY=if t.int≠0\/6<t.args.length then false else if (!Qbf t.name&&!p)=true then false else Qbc t.args:=by rw[T.Qs0,QuE k0,QuE k1,QuH k2,<-ep]
 refine Yb (fun s=>t.QsY=Qbc t.args/\t.args.length<=6/\s.tm 1 = .ptr h.length 0 0/\s.h=h++[.cells 48 4 [t.av]]) ?_ ?_
 rotate_left
 ·by_cases i0:t.int=0
  rotate_left
  ·have y0:(t.int != 0)=true:=by simp[i0]
   have R:t.QsY=false:=by rw[RR,QuH (.inl i0)]
   rw[R]
   repeat first|refine Qb ?_;simp only[go_sem,seval,t1,y0]|refine hK _ ?_;clear hK
   (refine Qc (htake _ _) (.keep (.v _)) ⟨rfl,rfl⟩)
  have y0:(t.int != 0)=false:=by simp[i0]
  cases p with
  |true =>
   have hl2:t.args.length=2:=by
    have:=ep.symm;rw[QuR,Qvi]at this;exact this.2
   have R:t.QsY=Qbc t.args:=by rw[RR,QuE (by omega),QuE (by simp)]
   repeat first|refine Qb ?_;simp only[go_sem,seval,t1,t3,y0]|refine hK _ ?_;clear hK
   exact⟨R,by omega,t1,rfl⟩
  |false =>
   cases hr:Qbf t.name with
   |false =>
    rw[hr]at cr
    have R:t.QsY=false:=by rw[RR];split;rfl;rw[QuH (by rw[hr];rfl)]
    rw[R]
    repeat first|(first|refine Qe cr ?_|refine Qb ?_);simp only[go_sem,seval,t1,t3,y0]|refine hK _ ?_;clear hK
    (refine Qc (htake _ _) (.keep (.v _)) ⟨rfl,rfl⟩)
   |true =>
    rw[hr]at cr
    by_cases a6:t.args.length>6
    ·have y6:(t.args.length:Int)>6:=by omega
     have R:t.QsY=false:=by rw[RR,QuH (.inr a6)]
     rw[R]
     repeat first|(first|refine Qe cr ?_|refine Qb ?_);simp only[go_sem,seval,t1,t3,y0,y6]|refine hK _ ?_;clear hK
     (refine Qc (htake _ _) (.keep (.v _)) ⟨rfl,rfl⟩)
    ·have y6:¬(t.args.length:Int)>6:=by omega
     have R:t.QsY=Qbc t.args:=by rw[RR,QuE (by omega),QuE (by rw[hr];simp)]
     repeat first|(first|refine Qe cr ?_|refine Qb ?_);simp only[go_sem,seval,t1,t3,y0,y6]|refine hK _ ?_;clear hK
     exact⟨R,by omega,t1,rfl⟩
 rintro⟨tm,hp⟩ ⟨R,hl6,t1,hh⟩
 dsimp only at t1 hh
 subst hh
 rw[R]
 repeat first|refine Qb ?_;simp only[go_sem,seval]|refine hK _ ?_;clear hK
 obtain⟨I,hI⟩:∃I:Nat->AS->Prop,I=fun m' s=>∃(k:Nat),m'=t.args.length - k/\k<=t.args.length/\Qbc t.args=Qbc (t.args.drop k)/\s.tm 1 = .ptr h.length 0 0/\s.tm 4 = .i k/\s.h=h++[AB.cells 48 4 [t.av]]:=⟨_,rfl⟩;refine QD I ?_ (m:=t.args.length) ?_
 ·intro m' s hs;rw[hI]at hs;obtain⟨tm,hp⟩:=s;dsimp only at hs;obtain⟨k,rfl,hk,he,t1,t4,rfl⟩:=hs
  by_cases hlt:k<t.args.length
  ·have hg:=QaW hlt
   have z9:(k:Int)<t.args.length:=by omega
   have c:=ih t.args[k] (by have:=QaL hlt;omega) (QjL hlt o4)
   rw[Qju hlt]at he
   cases hr:(t.args[k]).QsY with
   |true =>
    rw[hr]at c he
    repeat first|(first|refine Qe c ?_|refine Qb ?_);simp only[go_sem,seval,t1,t4,z9,hg]|refine hK _ ?_;clear hK
    refine XB.mk (m':=t.args.length - (k+1)) (by omega) ?_
    rw[hI]
    refine⟨k+1,rfl,hlt,by rw[he];rfl,t1,?_,rfl⟩
    simp only[upd,↓reduceIte]
    rw[XM (by omega)]
   |false =>
    rw[hr]at c he
    repeat first|(first|refine Qe c ?_|refine Qb ?_);simp only[go_sem,seval,t1,t4,z9,hg]|refine hK _ ?_;clear hK
    (refine Qc (htake _ _) (.keep (.v _)) ⟨by rw[he];rfl,rfl⟩)
  ·have z9:¬(k:Int)<t.args.length:=by omega
   have hkl:k=t.args.length:=by omega
   rw[hkl,Qvb]at he
   repeat first|refine Qb ?_;simp only[go_sem,seval,t1,t4,z9]|refine hK _ ?_;clear hK|clear hK;refine hK _ ?_;clear hK
   (refine Qc (htake _ _) (.keep (.v _)) ⟨by rw[he];rfl,rfl⟩)
 ·rw[hI]
  exact⟨0,by omega,QuG _,by rw[QtW],t1,rfl,rfl⟩
theorem QiX(n:Nat):n<=1000000->∀t:T,t.nds<=n->t.ok->Pure Tryz.prog 114 [t.av] (.b t.QsY):=by
 induction n with
 |zero=>intro _ t hn _;have:=T.Qs4 t;omega
 |succ n ih =>
  intro hb t hn ho
  by_cases k0:t.kind=0
  ·exact Qor t k0
  by_cases k1:t.kind=1
  ·exact Qos t k1
  by_cases k2:t.kind=2
  ·exact Qoq n (by omega) (ih (by omega)) t hn ho k2
  ·exact Qln t k0 k1 k2
theorem Qgf(t:T)(hn:t.nds<=1000000)(ho:t.ok):Pure Tryz.prog 101 [t.av] (.b (t.run 200 20).1):=by
 intro h
 have hs:=T.Qtc t
 have c1:=QiX 1000000 (QuD _) t hn ho
 have c2:=Qes 1000000 t (by omega) (QuD _)
 have c3:=QhI 1000000 t (by omega) (QuD _)
 rw[T.Qtp]
 cases hf:t.QsY with
 |false =>
  rw[hf]at c1
  refine Qa Tryz.func101 rfl Tryz.call101 Tryz.ntmps101 Tryz.results101 (by simp) ?_
  repeat (first|refine Qe c1 ?_|refine Qb ?_);simp only[go_sem,seval]
  (refine Qc (htake _ _) (.keep (.v _)) ⟨rfl,rfl⟩)
 |true =>
  rw[hf]at c1
  by_cases q1:t.size<=200
  ·have z1:(t.size:Int)<=200:=by omega
   by_cases q2:t.dep<=20
   ·have z2:(t.dep:Int)<=20:=by omega
    rw[QuU q1,QuU q2]
    refine Qa Tryz.func101 rfl Tryz.call101 Tryz.ntmps101 Tryz.results101 (by simp) ?_
    repeat (first|refine Qe c1 ?_|refine Qe c2 ?_|refine Qe c3 ?_|refine Qb ?_);simp only[go_sem,seval,z1,z2]
    (refine Qc (htake _ _) (.keep (.v _)) ⟨rfl,rfl⟩)
   ·have z2:¬(t.dep:Int)<=20:=by omega
    rw[QuU q1,QuM q2]
    refine Qa Tryz.func101 rfl Tryz.call101 Tryz.ntmps101 Tryz.results101 (by simp) ?_
    repeat (first|refine Qe c1 ?_|refine Qe c2 ?_|refine Qe c3 ?_|refine Qb ?_);simp only[go_sem,seval,z1,z2]
    (refine Qc (htake _ _) (.keep (.v _)) ⟨rfl,rfl⟩)
  ·have z1:¬(t.size:Int)<=200:=by omega
   rw[QuM q1]
   refine Qa Tryz.func101 rfl Tryz.call101 Tryz.ntmps101 Tryz.results101 (by simp) ?_
   repeat (first|refine Qe c1 ?_|refine Qe c2 ?_|refine Qb ?_);simp only[go_sem,seval,z1]
   (refine Qc (htake _ _) (.keep (.v _)) ⟨rfl,rfl⟩)
theorem QbC(l:List T)(hn:ndsL l<=1000000)(ho:oks l):Pure Tryz.prog 88 [.sl 4 (avs l) none] (.b (runL l 200 20).1):=by
 intro h
 have hll:=YZ l
 rw[<-QnB]
 refine Qa Tryz.func88 rfl Tryz.call88 Tryz.ntmps88 Tryz.results88 (by simp) ?_
 repeat refine Qb ?_;simp only[go_sem,seval]
 obtain⟨I,hI⟩:∃I:Nat->AS->Prop,I=fun m' s=>∃(k n:Nat),m'=l.length - k/\k<=l.length/\n+sizes (l.drop k)<=1000000/\rargs l 0=rargs (l.drop k) n/\s.tm 0 = .sl 4 (avs l) none/\s.tm 3 = .i n/\s.tm 4 = .i k/\s.h=h:=⟨_,rfl⟩;refine QD I ?_ (m:=l.length) ?_
 ·intro m' s hs;rw[hI]at hs;obtain⟨tm,hp⟩:=s;dsimp only at hs;obtain⟨k,n,rfl,hk,hs,he,t0,t3,t4,rfl⟩:=hs
  by_cases hlt:k<l.length
  ·have hg:=QaW hlt
   have z9:(k:Int)<l.length:=by omega
   have hnk:(l[k]).nds<=1000000:=by have:=QaL hlt;omega
   have c:=Qgf l[k] hnk (QjL hlt ho)
   have c2:=Qes 1000000 l[k] (by have:=T.Qtc l[k];omega) (QuD _)
   rw[QuQ hlt,rargs]at he
   rw[QuQ hlt,sizes]at hs
   have hw:IntKind.i64.wrap ((n:Int)+((l[k]).size:Nat))=((n+(l[k]).size:Nat):Int):=by rw[Ya (by omega)];omega
   cases hr:((l[k]).run 200 20).1 with
   |true =>
    rw[hr]at c he
    repeat (first|refine Qe c ?_|refine Qe c2 ?_|refine Qb ?_);simp only[go_sem,seval,t0,t3,t4,z9,hg,hw]
    refine XB.mk (m':=l.length - (k+1)) (by omega) ?_
    rw[hI]
    refine⟨k+1,n+(l[k]).size,rfl,hlt,by omega,by rw[he];rfl,t0,rfl,?_,rfl⟩
    simp only[upd,↓reduceIte]
    rw[XM (by omega)]
   |false =>
    rw[hr]at c he
    repeat (first|refine Qe c ?_|refine Qb ?_);simp only[go_sem,seval,t0,t4,z9,hg]
    exact Qc (QmS _) (.keep (.v _)) ⟨by rw[he];rfl,rfl⟩
  ·have z9:¬(k:Int)<l.length:=by omega
   have hkl:k=l.length:=by omega
   rw[hkl,Qvb,rargs]at he
   by_cases q:n<=200
   ·have z1:(n:Int)<=200:=by omega
    repeat refine Qb ?_;simp only[go_sem,seval,t0,t3,t4,z9,z1]
    exact Qc (QmS _) (.keep (.v _)) ⟨by rw[he,QuU q],rfl⟩
   ·have z1:¬(n:Int)<=200:=by omega
    repeat refine Qb ?_;simp only[go_sem,seval,t0,t3,t4,z9,z1]
    exact Qc (QmS _) (.keep (.v _)) ⟨by rw[he,QuM q],rfl⟩
 ·rw[hI]
  exact⟨0,0,by omega,QuG _,by have:=QfS l;simp only[QtW];omega,by rw[QtW],rfl,rfl,rfl,rfl⟩
theorem Qd3(g:G)(hn:ndsL g.args<=1000000)(ho:g.ok):Pure Tryz.prog 86 [g.atom] (.b (Ye g)):=by
 intro h
 obtain⟨o1,o2,o3⟩:=ho
 have cr:Pure Tryz.prog 100 [.v (.string g.name)] (.b (Qbf g.name)):=Qdq g.name (by simp only[maxLen];omega)
 have ca:=QbC g.args hn o3
 cases hr:Qbf g.name with
 |false =>
  rw[hr]at cr
  refine Qa Tryz.func86 rfl Tryz.call86 Tryz.ntmps86 Tryz.results86 (by simp) ?_
  repeat (first|refine Qe cr ?_|refine Qb ?_);simp only[go_sem,seval,QaF]
  (refine Qc (htake _ _) (.keep (.v _)) ⟨by rw[Ye,hr];rfl,rfl⟩)
 |true =>
  rw[hr]at cr
  by_cases q:g.args.length<=6
  ·have z:(g.args.length:Int)<=6:=by omega
   refine Qa Tryz.func86 rfl Tryz.call86 Tryz.ntmps86 Tryz.results86 (by simp) ?_
   repeat (first|refine Qe cr ?_|refine Qe ca ?_|refine Qb ?_);simp only[go_sem,seval,QaF,z]
   (refine Qc (htake _ _) (.keep (.v _)) ⟨by rw[Ye,hr,QuU q];rfl,rfl⟩)
  ·have z:¬(g.args.length:Int)<=6:=by omega
   refine Qa Tryz.func86 rfl Tryz.call86 Tryz.ntmps86 Tryz.results86 (by simp) ?_
   repeat (first|refine Qe cr ?_|refine Qb ?_);simp only[go_sem,seval,QaF,z]
   (refine Qc (htake _ _) (.keep (.v _)) ⟨by rw[Ye,hr,QuM q];rfl,rfl⟩)
def Qaf(op:Int):Int:=if op=1\/op=2 then 0 else if op=11\/op=12 then 1 else if 2<op/\op<11 then 2 else -1
theorem Qk7(op:Int):Pure Tryz.prog 87 [.i op] (.i (Qaf op)):=by
 intro h
 by_cases k1:op=1
 ·have z1:(op==1)=true:=by simp[k1]
  have R:Qaf op=0:=by simp[Qaf,k1]
  rw[R]
  refine Qa Tryz.func87 rfl Tryz.call87 Tryz.ntmps87 Tryz.results87 (by simp) ?_
  repeat refine Qb ?_;simp only[go_sem,seval,z1]
  (refine Qc QuA (.keep (.v _)) ⟨rfl,rfl⟩)
 have z1:(op==1)=false:=by simp[k1]
 by_cases k2:op=2
 ·have z2:(op==2)=true:=by simp[k2]
  have R:Qaf op=0:=by simp[Qaf,k2]
  rw[R]
  refine Qa Tryz.func87 rfl Tryz.call87 Tryz.ntmps87 Tryz.results87 (by simp) ?_
  repeat refine Qb ?_;simp only[go_sem,seval,z1,z2]
  (refine Qc QuA (.keep (.v _)) ⟨rfl,rfl⟩)
 have z2:(op==2)=false:=by simp[k2]
 by_cases k11:op=11
 ·have z11:(op==11)=true:=by simp[k11]
  have R:Qaf op=1:=by simp[Qaf,k11]
  rw[R]
  refine Qa Tryz.func87 rfl Tryz.call87 Tryz.ntmps87 Tryz.results87 (by simp) ?_
  repeat refine Qb ?_;simp only[go_sem,seval,z1,z2,z11]
  (refine Qc QuA (.keep (.v _)) ⟨rfl,rfl⟩)
 have z11:(op==11)=false:=by simp[k11]
 by_cases k12:op=12
 ·have z12:(op==12)=true:=by simp[k12]
  have R:Qaf op=1:=by simp[Qaf,k12]
  rw[R]
  refine Qa Tryz.func87 rfl Tryz.call87 Tryz.ntmps87 Tryz.results87 (by simp) ?_
  repeat refine Qb ?_;simp only[go_sem,seval,z1,z2,z11,z12]
  (refine Qc QuA (.keep (.v _)) ⟨rfl,rfl⟩)
 have z12:(op==12)=false:=by simp[k12]
 by_cases g1:op>2
 ·by_cases g2:op<11
  ·have R:Qaf op=2:=by rw[Qaf,QuE (by omega),QuE (by omega),QuH (by omega)]
   rw[R]
   refine Qa Tryz.func87 rfl Tryz.call87 Tryz.ntmps87 Tryz.results87 (by simp) ?_
   repeat refine Qb ?_;simp only[go_sem,seval,z1,z2,z11,z12,g1,g2]
   (refine Qc QuA (.keep (.v _)) ⟨rfl,rfl⟩)
  ·have R:Qaf op = -1:=by rw[Qaf,QuE (by omega),QuE (by omega),QuE (by omega)]
   rw[R]
   refine Qa Tryz.func87 rfl Tryz.call87 Tryz.ntmps87 Tryz.results87 (by simp) ?_
   repeat refine Qb ?_;simp only[go_sem,seval,z1,z2,z11,z12,g1,g2]
   (refine Qc QuA (.keep (.v _)) ⟨rfl,rfl⟩)
 ·have R:Qaf op = -1:=by rw[Qaf,QuE (by omega),QuE (by omega),QuE (by omega)]
  rw[R]
  refine Qa Tryz.func87 rfl Tryz.call87 Tryz.ntmps87 Tryz.results87 (by simp) ?_
  repeat refine Qb ?_;simp only[go_sem,seval,z1,z2,z11,z12,g1]
  (refine Qc QuA (.keep (.v _)) ⟨rfl,rfl⟩)
theorem Qk6(op:Int)(n:Nat):decide (Qaf op=(n:Int))=(decide (0<op/\op<=12)&&decide ((n:Int)=QbK op)):=by
  rw[Qe8]
  apply Qws.2
  rw[Qaf,QbK]
  by_cases h1:op=1\/op=2
  ·rw[QuH h1,QuH h1];omega
  rw[QuE h1,QuE h1]
  by_cases h2:op=11\/op=12
  ·rw[QuH h2,QuH h2];omega
  rw[QuE h2,QuE h2]
  split <;> omega
theorem Qd4(g:G)(hn:ndsL g.args<=1000000)(ho:g.ok):Pure Tryz.prog 62 [g.goal] (.b (XI g)):=by
  intro h
  by_cases k0:g.op=0
  ·have z0:(g.op==0)=true:=by simp[k0]
   have c:=Qd3 ⟨0,g.name,g.args⟩ hn ⟨by show i64 0;unfold i64;omega,ho.2.1,ho.2.2⟩
   rw[show G.atom ⟨0,g.name,g.args⟩=AV.agg [.v (.string g.name),.sl 4 (avs g.args) none]from rfl]at c
   rw[XI,QuH k0]
   refine Qa Tryz.func62 rfl Tryz.call62 Tryz.ntmps62 Tryz.results62 (by simp) ?_
   repeat (first|refine Qe c ?_|refine Qb ?_);simp only[go_sem,seval,Yk,z0]
   (refine Qc (htake _ _) (.keep (.v _)) ⟨rfl,rfl⟩)
  have z0:(g.op==0)=false:=by simp[k0]
  have ca:=QbC g.args hn ho.2.2
  have cy:=Qk7 g.op
  have key:=Qk6 g.op g.args.length
  have R:XI g=(QaQ g.name&&(decide (Qaf g.op=(g.args.length:Int))&&(runL g.args 200 20).1)):=by
   rw[XI,QuE k0,key]
   cases QaQ g.name <;> cases decide (0<g.op/\g.op<=12) <;> simp
  rw[R]
  cases c3:QaQ g.name with
  |false =>
   have c3':(g.name.toList==({data:=#[]}:ByteArray).toList)=false:=c3
   refine Qa Tryz.func62 rfl Tryz.call62 Tryz.ntmps62 Tryz.results62 (by simp) ?_
   repeat first|(first|refine Qi (id:=3) [(0,0),(1,0),(2,0),(3,0),(4,0),(5,0),(6,1),(7,0),(8,0),(9,0),(10,0),(11,0),(12,0),(13,0),(14,0),(15,1),(16,0),(17,0)] mixed (by kernel_rfl) fun K hK=>?_|refine Qb ?_);simp only[go_sem,seval,Yk,z0,c3']|refine hK _ ?_;clear hK
   (refine Qc (htake _ _) (.keep (.v _)) ⟨rfl,rfl⟩)
  |true =>
   have c3':(g.name.toList==({data:=#[]}:ByteArray).toList)=true:=c3
   by_cases q:Qaf g.op=(g.args.length:Int)
   ·have q':(Qaf g.op==(g.args.length:Int))=true:=by simp[q]
    rw[QuU q]
    refine Qa Tryz.func62 rfl Tryz.call62 Tryz.ntmps62 Tryz.results62 (by simp) ?_
    repeat first|(first|refine ZJ ca ?_|refine ZJ cy ?_|refine Qi (id:=3) [(0,0),(1,0),(2,0),(3,0),(4,0),(5,0),(6,1),(7,0),(8,0),(9,0),(10,0),(11,0),(12,0),(13,0),(14,0),(15,1),(16,0),(17,0)] mixed (by kernel_rfl) fun K hK=>?_|refine Qb ?_);simp only[go_sem,seval,Yk,z0,c3',q']|refine hK _ ?_;clear hK
    (refine Qc (htake _ _) (.keep (.v _)) ⟨rfl,rfl⟩)
   ·have q':(Qaf g.op==(g.args.length:Int))=false:=by simp[q]
    rw[QuM q]
    refine Qa Tryz.func62 rfl Tryz.call62 Tryz.ntmps62 Tryz.results62 (by simp) ?_
    repeat first|(first|refine ZJ cy ?_|refine Qi (id:=3) [(0,0),(1,0),(2,0),(3,0),(4,0),(5,0),(6,1),(7,0),(8,0),(9,0),(10,0),(11,0),(12,0),(13,0),(14,0),(15,1),(16,0),(17,0)] mixed (by kernel_rfl) fun K hK=>?_|refine Qb ?_);simp only[go_sem,seval,Yk,z0,c3',q']|refine hK _ ?_;clear hK
    (refine Qc (htake _ _) (.keep (.v _)) ⟨rfl,rfl⟩)
end Go.Proofs.YticgcpebdldbgaaGreatDoor.Ab
namespace Go.Proofs.YticgcpebdldbgaaGreatDoor.Ab
open Go.Proofs
theorem Qnf:∀a b:List T,ndsL (a++b)=ndsL a+ndsL b
 |[],b=>by rw[Qt6,ndsL,QtR]
 |t::a,b=>by rw[Qt7,ndsL,ndsL,Qnf a b];omega
theorem QpI:∀{a b:List T},oks a->oks b->oks (a++b)
 |[],_,_,h=>h
 |t::a,b,h1,h2=>by
  rw[oks]at h1
  rw[Qt7,oks]
  exact⟨h1.1,QpI h1.2 h2⟩
def Qmd(all:List Tk)(ex:PS->PR T):Prop:=∀s,Wst all s->∀t s2,ex s = .ok t s2->t.ok/\t.nds+s2.toks.length<=s.toks.length
section
variable{all:List Tk}(hN:all.length<=1000000)(hD:TkOk all)(hX:TxOk all)
include hX in
theorem QkW{s:PS}(hW:Wst all s):s.tk.text.size<=9223372036854775807:=by
 have h:=hX _ (QdA hW)
 have:s.tk.text.size=s.tk.text.toList.length:=by rw[Lib.toList_data];show s.tk.text.data.size=_;simp
 omega
include hD in
theorem QmT{s:PS}(hW:Wst all s)(hk:s.tk.kind=3):0<=valT s.tk.text/\valT s.tk.text<=2147483648:=by
 have h2:=(hD.int _ (QdA hW) hk).2
 exact⟨by unfold valT;omega,by unfold valT;omega⟩
theorem Qmz{s:PS}{o:Int}{t:Bool}(h:QaP s=some (o,t)):0<=o/\o<=12:=by
 unfold QaP at h
 repeat' split at h
 all_goals first|(cases h;decide)|cases h
theorem Qnc{k i:Int}{n:ByteArray}{l:List T}(hk:0<=k/\k<=2)(hi : -2147483648<=i/\i<=2147483648)(hn:n.size<=9223372036854775807)(hl:oks l):(T.mk k i n l).ok:=by
 rw[T.ok]
 exact⟨⟨by omega,by omega⟩,⟨by omega,by omega⟩,hn,hl⟩
theorem QcX:eB.size<=9223372036854775807:=by decide
variable{ex:PS->PR T}(H:Qmd all ex)(hKp:Kp.Ps (wdOf all) ex)
include H hKp
theorem Qib:∀(m:Nat) (l:List T) (s:PS),Wst all s->oks l->∀a s2,Z1 ex m l s = .ok a s2->oks a/\ndsL a+s2.toks.length<=ndsL l+s.toks.length
 |0,_,s,_,_,a,s2,e=>by cases e
 |m+1,l,s,hW,hl,a,s2,e=>by
  rw[Z1]at e
  obtain⟨t,s1,h1,h2⟩:=bind_ok e
  obtain⟨g1,g2⟩:=H s hW t s1 h1
  have hW1:Wst all s1:=Kp.Ps.ok hKp hW h1
  have ho:oks (l++[t]):=QpI hl (by rw[oks,oks];exact⟨g1,trivial⟩)
  have hn:ndsL (l++[t])=ndsL l+t.nds:=by rw[Qnf];rfl
  split at h2
  ·obtain⟨i1,i2⟩:=Qib m _ s1.nx hW1.nx ho a s2 h2
   have:=Ql9 hW1.wf
   exact⟨i1,by omega⟩
  ·obtain⟨u,s3,h3,h4⟩:=bind_ok h2
   cases h4
   have:=(Qa3 _ s1 hW1.wf u _ h3).2
   exact⟨ho,by omega⟩
include hX in
theorem Qmo{s:PS}(hW:Wst all s){a:G}{s2:PS}(e:ZU ex s = .ok a s2):a.ok/\1+ndsL a.args+s2.toks.length<=s.toks.length:=by
 rw[ZU]at e
 obtain⟨x,s1,h1,h2⟩:=bind_ok e
 have hW1:Wst all s1:=Kp.Ps.ok (n:=wdOf all) (Kp.name_ps trivial) hW h1
 have l1:=(QcE s hW.wf x s1 h1).2
 have hx:x.size<=9223372036854775807:=by
  unfold QaC at h1
  split at h1
  ·cases h1
  ·split at h1
   ·cases h1
   ·cases h1;exact QkW hX hW
 split at h2
 ·obtain⟨l,s3,h3,h4⟩:=bind_ok h2
  cases h4
  obtain⟨i1,i2⟩:=Qib H hKp _ [] s1.nx hW1.nx (by rw[oks];trivial) l _ h3
  have:=Ql9 hW1.wf
  rw[show ndsL []=0 from rfl]at i2
  exact⟨⟨⟨by show -9223372036854775808<=(0:Int);omega,by show(0:Int)<=9223372036854775807;omega⟩,hx,i1⟩,by show 1+ndsL l+_<=_;omega⟩
 ·cases h2
  exact⟨⟨⟨by show -9223372036854775808<=(0:Int);omega,by show(0:Int)<=9223372036854775807;omega⟩,hx,by show oks [];rw[oks];trivial⟩,by show 1+ndsL []+_<=_;rw[show ndsL []=0 from rfl];omega⟩
include hN hD hX in
theorem QoS:Qmd all (pOpT ex):=fun s hW t s2 e=>by
 have hnil:oks ([]:List T):=by rw[oks];trivial
 rw[pOpT]at e
 split at e
 ·rename_i h
  cases e
  have hv:=QmT hD hW h
  exact⟨Qnc (by omega) (by omega) QcX hnil,by have:=Yg hW.wf (by rw[h];decide);rw[T.nds];show 1+0+_<=_;omega⟩
 split at e
 ·rename_i h
  cases e
  have hk:s.tk.kind≠0:=by rw[h];decide
  have ht:=QdE s.tk.text s.nx
  have hl:=Yg hW.wf hk
  have hnm:=hW.nms
  have hb:∃k:Nat,k<=s.names.length/\(pVari s.tk.text s.nx).1 = .mk 1 (k:Nat) eB []:=by
   unfold pVari
   split
   ·rename_i hc;exact⟨_,Nat.le_of_lt hc.1,rfl⟩
   ·exact⟨_,QuD _,rfl⟩
  obtain⟨k,k1,k2⟩:=hb
  rw[k2,ht]
  exact⟨Qnc (by omega) (by omega) QcX hnil,by rw[T.nds];show 1+0+_<=_;omega⟩
 split at e
 ·obtain⟨g,s1,h1,h2⟩:=bind_ok e
  cases h2
  obtain⟨a1,a2⟩:=Qmo hX H hKp hW h1
  exact⟨Qnc (by omega) (by omega) a1.2.1 a1.2.2,by rw[T.nds];exact a2⟩
 split at e
 ·rename_i h
  split at e
  ·cases e
  ·rename_i hn
   cases e
   have h3:s.nx.tk.kind=3:=by
    by_cases q:s.nx.tk.kind=3
    ·exact q
    ·exact absurd (.inl q) hn
   have hv:=QmT hD hW.nx h3
   have hl:=Yg hW.wf (by rw[QsV h];decide)
   have hl2:=Yg hW.nx.wf (by rw[h3];decide)
   exact⟨Qnc (by omega) (by omega) QcX hnil,by rw[T.nds];show 1+0+_<=_;omega⟩
 split at e
 ·rename_i h
  have hl:=Yg hW.wf (by rw[QsV h];decide)
  obtain⟨u,s1,h1,h2⟩:=bind_ok e
  obtain⟨g1,g2⟩:=H s.nx hW.nx u s1 h1
  have hW1:Wst all s1:=Kp.Ps.ok hKp hW.nx h1
  obtain⟨v,s3,h3,h4⟩:=bind_ok h2
  cases h4
  have:=(Qa3 _ s1 hW1.wf v _ h3).2
  exact⟨g1,by omega⟩
 ·cases e
include hX in
theorem Qe3(ops:List (List UInt8)):∀(m:Nat) (t:T) (s:PS),Wst all s->t.ok->∀a s2,YA ex ops m t s = .ok a s2->a.ok/\a.nds+s2.toks.length<=t.nds+s.toks.length
 |0,t,s,hW,ht,a,s2,e=>by cases e;exact⟨ht,QuD _⟩
 |m+1,t,s,hW,ht,a,s2,e=>by
  rw[YA]at e
  split at e
  ·rename_i hc
   obtain⟨u,s1,h1,h2⟩:=bind_ok e
   obtain⟨g1,g2⟩:=H s.nx hW.nx u s1 h1
   have hW1:Wst all s1:=Kp.Ps.ok hKp hW.nx h1
   have hl:=Yg hW.wf (by rw[Qbz hc];decide)
   obtain⟨i1,i2⟩:=Qe3 ops m _ s1 hW1 (Qnc (by omega) (by omega) (QkW hX hW) (by rw[oks,oks,oks];exact⟨ht,g1,trivial⟩)) a s2 h2
   rw[T.nds,ndsL,ndsL,ndsL]at i2
   exact⟨i1,by omega⟩
  ·cases e;exact⟨ht,QuD _⟩
include hX in
theorem Qgw(ops:List (List UInt8)):Qmd all (YV ex ops):=fun s hW t s2 e=>by
 rw[YV]at e
 obtain⟨u,s1,h1,h2⟩:=bind_ok e
 obtain⟨g1,g2⟩:=H s hW u s1 h1
 have hW1:Wst all s1:=Kp.Ps.ok hKp hW h1
 obtain⟨i1,i2⟩:=Qe3 hX H hKp ops _ u s1 hW1 g1 t s2 h2
 exact⟨i1,by omega⟩
end
section
variable{all:List Tk}(hN:all.length<=1000000)(hD:TkOk all)(hX:TxOk all)
include hN hD hX
theorem Qim:∀n,Qmd all (Zf n)
 |0=>fun s hW t s2 e=>by cases e
 |n+1=>by
  have k1:=Kp.opT_ps (n:=wdOf all) trivial (Kp.exprT_ps trivial n)
  exact Qgw hX (Qgw hX (QoS hN hD hX (Qim n) (Kp.exprT_ps trivial n)) k1 YJ) (Kp.chain_ps trivial k1 YJ) ZY
theorem QfW:Qmd all YP:=fun s hW t s2 e=>Qim hN hD hX _ s hW t s2 e
theorem QmJ{s:PS}(hW:Wst all s){a:G}{s2:PS}(e:QaD s = .ok a s2):a.ok/\ndsL a.args<=1000000:=by
 have hsl:=hW.suf.length_le
 have hnil:oks ([]:List T):=by rw[oks];trivial
 have hi:∀o:Int,0<=o->o<=12->i64 o:=fun o h1 h2=>⟨by omega,by omega⟩
 have hone:∀(op:Int) (s:PS),Wst all s->0<=op->op<=12->Qb6 op s = .ok a s2->a.ok/\ndsL a.args<=1000000:=fun op s hW h0 h1 e=>by
  rw[Qb6]at e
  obtain⟨u,s1,e1,e2⟩:=bind_ok e
  have hW1:Wst all s1:=Kp.Ps.ok (n:=wdOf all) (Kp.want_ps trivial _) hW e1
  obtain⟨t,s3,e3,e4⟩:=bind_ok e2
  obtain⟨g1,g2⟩:=QfW hN hD hX s1 hW1 t s3 e3
  obtain⟨v,s4,e5,e6⟩:=bind_ok e4
  cases e6
  have:=hW1.suf.length_le
  exact⟨⟨hi _ h0 h1,QcX,by rw[oks,oks];exact⟨g1,trivial⟩⟩,by show ndsL [t]<=_;rw[ndsL,ndsL];omega⟩
 rw[QaD]at e
 split at e
 ·split at e
  ·cases e;exact⟨⟨hi 1 (by omega) (by omega),QcX,hnil⟩,QuG _⟩
  ·split at e
   ·cases e;exact⟨⟨hi 2 (by omega) (by omega),QcX,hnil⟩,QuG _⟩
   ·split at e
    ·exact hone 11 _ hW.nx (by omega) (by omega) e
    ·split at e
     ·exact hone 12 _ hW.nx (by omega) (by omega) e
     ·cases e
 ·obtain⟨t,s1,e1,e2⟩:=bind_ok e
  have hW1:Wst all s1:=Kp.Ps.ok (n:=wdOf all) (Kp.termT_ps trivial) hW e1
  obtain⟨g1,g2⟩:=QfW hN hD hX s hW t s1 e1
  split at e2
  ·rename_i op turn hc
   obtain⟨u,s3,e3,e4⟩:=bind_ok e2
   cases e4
   obtain⟨g3,g4⟩:=QfW hN hD hX s1.nx hW1.nx u _ e3
   have hle:=Ql9 hW1.wf
   have ho:=Qmz hc
   refine⟨⟨hi _ ho.1 ho.2,QcX,?_⟩,?_⟩
   ·show oks (if turn=true then[u,t]else[t,u])
    split <;> (rw[oks,oks,oks];first|exact⟨g3,g1,trivial⟩|exact⟨g1,g3,trivial⟩)
   ·show ndsL (if turn=true then[u,t]else[t,u])<=_
    split <;> (rw[ndsL,ndsL,ndsL];omega)
  ·split at e2
   ·cases e2
    have h1:=(T.ok_eq t).1 g1
    rw[T.Qs4]at g2
    exact⟨⟨hi 0 (by omega) (by omega),h1.2.2.1,h1.2.2.2⟩,by show ndsL t.args<=_;omega⟩
   ·cases e2
end
end Go.Proofs.YticgcpebdldbgaaGreatDoor.Ab
namespace Go.Proofs.YticgcpebdldbgaaGreatDoor.Ab
open Go.Proofs
theorem Qqo{A N:AH}{n k:Nat}(hn:A.length=n)(hb:∀b∈A,b.Below n){ty s:Nat}{xs:List AV}(hk:N[k]? = some (.cells ty s xs))(hc:∀y∈xs,y.cells.length=s)(hx:∀a∈flat xs,Below n a)(m:Nat) :
  Pack n (fun i=>if i<n then i else n+k) (A++N) (A++[.cells ty s xs])/\Pk n (fun i=>if i<n then i else n+k) (A++[.cells ty s xs]) (.arr (n+k) 0 m) (.arr n 0 m):=by
 have hl:(A++[AB.cells ty s xs]).length=n+1:=by rw[Quw,hn];rfl
 refine⟨⟨by omega,by rw[Quw];omega,fun i hi=>QuH hi,fun i hi=>?_,fun i b hi h=>?_,fun i h1 h2=>by show n<=if i<n then i else n+k;rw[QuE (by omega)];omega,fun i j h1 h2 h3 h4 _=>by omega,fun i b h1 h2=>?_⟩,.arr (by show n+k=if n<n then n else n+k;rw[QuE (Nat.lt_irrefl _)]) (QuD _) (by omega)⟩
 ·rw[Qux (by omega),Qux (by omega)]
 ·rw[Qux (by omega)]at h
  exact hb b (QuK h)
 ·have hin:i=n:=by
   have:=Qf h2
   omega
  subst hin
  rw[QuB (by omega),hn,Qu9]at h2
  cases h2
  refine .inr ⟨ty,s,xs,xs,rfl,?_,hc,QuD _,fun j a a' e1 e2=>?_⟩
  ·show(A++N)[if i<i then i else i+k]? = _
   rw[QuE (Nat.lt_irrefl _),QuB (by omega),hn,Qvc]
   exact hk
  ·rw[e1]at e2
   cases e2
   exact .keep (hx a (QuK e1))
def RwQ(h:AH)(i g:Nat)(all:List Tk)(vw:G->AV)(ty w:Nat):PR (List G)->AOut->AH->Prop
 | .ok l s,o,h'=>o = .ret (.tup [.arr h.length 0 l.length,.b true])/\h'=rh h i g all s 0 0++[.cells ty w (vs vw l)]
 | .err p e,o,h'=>o = .ret (.tup [.v (.slice none 0 0),.b false])/\∃s,h'=rh h i g all s p e
def RwC(h:AH)(i g:Nat)(all:List Tk)(vw:G->AV)(ty w:Nat):PR (List G)->AOut->AH->Prop
 | .ok l s,o,h'=>∃Y k,o = .ret (.tup [.arr (h.length+k) 0 l.length,.b true])/\h'=rh h i g all s 0 0++Y/\Y[k]? = some (.cells ty w (vs vw l))
 | .err p e,o,h'=>o = .ret (.tup [.v (.slice none 0 0),.b false])/\∃s,h'=rh h i g all s p e
theorem Qrw{h:AH}{i g:Nat}(HI:IG h i g)(all:List Tk)(s s2:PS)(hb:∀(k:Nat) b,(rh h i g all s 0 0)[k]? = some b->b.Below h.length):∀b∈rh h i g all s2 0 0,b.Below h.length:=fun b hb2=>by
 obtain⟨k,hk⟩:=Qaa hb2
 have hlt:=Qf hk
 rw[Qcv]at hlt
 unfold rh at hk hb
 by_cases h1:g=k
 ·subst h1;rw[Qhp hlt]at hk;cases hk;exact trivial
 ·by_cases h2:i=k
  ·subst h2;rw[Qho hlt HI.ig]at hk;cases hk;exact QkM HI all _ _ _
  ·rw[Qfl _ _ h2 h1]at hk
   exact hb k b (by rw[Qfl _ _ h2 h1];exact hk)
theorem QkO{f:FuncId}{args:List AV}{h:AH}{i g:Nat}{all:List Tk}{s:PS}(HI:IG h i g){vw:G->AV}{ty w:Nat}(hw:∀a,(vw a).cells.length=w)(hv:∀n a,∀x∈(vw a).cells,Below n x){r:PR (List G)}(C:QA Tryz.prog f args (rh h i g all s 0 0) (RwC h i g all vw ty w r)):QA Tryz.prog f args (rh h i g all s 0 0) (RwQ h i g all vw ty w r):=by
 refine Qa4 C fun hb0 o h' hQ=>?_
 cases r with
 |err p e=>exact .inl hQ
 |ok l s2 =>
  rw[Qcv]at hb0 ⊢
  obtain⟨Y,k,rfl,rfl,hk⟩:=hQ
  obtain⟨K,hp⟩:=Qqo (Qcv h i g all s2 0 0) (Qrw HI all s s2 hb0) hk (fun y hy=>by obtain⟨x,_,rfl⟩:=QuZ.1 hy;exact hw x) (fun a ha=>by
   obtain⟨x,hx,hxa⟩:=Qv1.1 ha
   obtain⟨y,_,rfl⟩:=QuZ.1 hx
   exact hv _ y a hxa) l.length
  exact .inr ⟨_,.tup [.arr h.length 0 l.length,.b true],_,_,rfl,K,.tup rfl fun j a a' h1 h2=>(by
   match j,h1,h2 with
   |0,h1,h2=>cases h1;cases h2;exact hp
   |1,h1,h2=>cases h1;cases h2;exact .keep (.v _)
   |j+2,h1,h2=>simp at h1),rfl,rfl⟩
def rowV(w d k:Nat)(l:List G):AV:=if l.isEmpty then .sl w [] (some d)else .arr k 0 l.length
theorem G.Qtl(a:G):a.goal.cells=[.i a.op,.v (.string a.name),.sl 4 (avs a.args) none]:=rfl
section
variable{all:List Tk}{i g:Nat}(hN:all.length<=1000000)(hD:TkOk all)(hX:TxOk all)
include hN hD hX
theorem QgX(most:Nat)(hmost:most<=100){q:PS}(hW:Wst all q){h:AH}(HI:IG h i g):QA Tryz.prog 32 [.ptr i 0 0,.i (most:Nat)] (rh h i g all q 0 0) (RwC h i g all G.goal 46 3 (Y8 most q)):=by
 have f1:=Qcv h i g all
 have f3:=Qd6 h i g all
 have f4:=QgZ h i g all
 have f5:=QcJ h i g all
 have f6:=Qd5 h i g all
 have e44:(ByteArray.toList {data:=#[44]})=Zt:=by rw[Lib.toList_data];rfl
 generalize hR:Y8 most q=R
 unfold Y8 at hR
 refine Qa Tryz.func32 rfl Tryz.call32 Tryz.ntmps32 Tryz.results32 (by simp) ?_
 repeat first|refine Qb ?_;simp only[go_sem,seval]|refine hK _ ?_;clear hK
 refine Qik 6 3 rfl ?_
 obtain⟨I,hI⟩:∃I:Nat->AS->Prop,I=fun m' s=>∃(l:List G) (s2:PS) (Y:AH) (k:Nat),m'=s2.toks.length/\Wst all s2/\l.length<=100/\(∃k,s2.toks.length+1<=k/\Zg most k l s2=R)/\(l≠[]->Y[k]? = some (.cells 46 3 (vs G.goal l)))/\s.tm 0 = .ptr i 0 0/\s.tm 1 = .i (most:Nat)/\s.tm 6=rowV 3 h.length (h.length+(k+1)) l/\s.h=rh h i g all s2 0 0++(.dead::Y):=⟨_,rfl⟩;refine QD I ?_ (m:=q.toks.length) ?_
 ·intro m' s hs;rw[hI]at hs;obtain⟨tm,hp⟩:=s;dsimp only at hs;obtain⟨l,s2,Y,k,rfl,hW2,hl100,⟨j,hj,hR2⟩,hY,t0,t1,t6,rfl⟩:=hs
  obtain⟨j,rfl⟩:∃j',j=j'+1:=⟨j - 1,by omega⟩
  have ct:=QhS hW2 HI
  have cf:=Qev hW2 HI
  have e1:=Tk.QsS s2.tk
  have e2:=Tk.QsT s2.tk
  iterate 4 (try (first|((first|(with_reducible (first|refine Qd fun K E hK hE=>?_|refine FunW.QsR (ct _) ?_)));simp only[go_sem,seval,t0,e1,e2])|(with_reducible refine Qu ?_)|((with_reducible refine hK _ ?_);clear hK)))
  refine Yb (fun s=>(¬most<=l.length)/\s.tm 0 = .ptr i 0 0/\s.tm 1 = .i (most:Nat)/\s.tm 6=rowV 3 h.length (h.length+(k+1)) l/\s.tm 7 = .i s2.tk.pos/\s.h=rh h i g all s2 0 0++(.dead::Y)) ?_ ?_
  ·rintro⟨tm,hp⟩ ⟨hfull,t0,t1,t6,t7,rfl⟩
   dsimp only at t0 t1 t6 t7
   rw[Zg,QuE hfull]at hR2
   have ce:=(QnP hN hD hX hW2).app HI
   have his:=Qqb s2
   cases hp:QaD s2 with
   |err x c =>
    rw[hp]at hR2 his
    have hRR:R = .err x c:=hR2.symm
    subst hRR
    obtain⟨i1,i2,i3⟩:=his
    have z:((Qge s2).e==0)=false:=by rw[i2];simpa using i3
    rw[z,i1,i2]at ce
    generalize Qge s2=r at *
    have k1:r.v.goal.isAgg=true:=rfl
    have k2:=G.Qtl r.v
    repeat first|(first|refine FunW.QsR (ce _) ?_|refine Qb ?_);simp only[go_sem,seval,f1,f4,f6,t0,k1,k2]|refine hK _ ?_;clear hK
    exact XO HI all _ _ _ (XZ _ (.keep (.v _))) ⟨rfl,r.s,rfl⟩
   |ok a s3 =>
    rw[hp]at hR2 his
    have hq3:=RR.okE his
    obtain⟨g1,g2⟩:=QmJ hN hD hX hW2 hp
    have hW3:Wst all s3:=Kp.Ps.ok (n:=wdOf all) (Kp.goalT_ps trivial) hW2 hp
    have hl3:=(Qfi s2 hW2.wf a s3 hp).2
    have cR:=Qd4 a g2 g1
    have k1:a.goal.isAgg=true:=rfl
    have k2:=G.Qtl a
    rw[hq3]at ce
    have hR3:(if XI a=false then PR.err s2.tk.pos 6 else if s3.is Zt=true then Zg most j (l++[a]) s3.nx else .ok (l++[a]) s3)=R:=hR2
    cases hc:XI a with
    |false =>
     rw[QuH hc]at hR3
     subst hR3
     rw[hc]at cR
     have cf3:=Qev hW3 HI
     repeat first|(first|refine Qe cR ?_|refine FunW.QsR (ce _) ?_|refine FunW.QsR (cf3 _ _ _) ?_|refine Qb ?_);simp only[go_sem,seval,f1,f4,f6,t0,t7,k1,k2]|refine hK _ ?_;clear hK
     exact XO HI all _ _ _ (XZ _ (.keep (.v _))) ⟨rfl,s3,rfl⟩
    |true =>
     rw[QuE (by rw[hc];simp)]at hR3
     rw[hc]at cR
     iterate 18 (try (first|((first|(with_reducible (first|refine Qd fun K E hK hE=>?_|refine Qe cR ?_|refine FunW.QsR (ce _) ?_)));simp only[go_sem,seval,f1,f4,f6,t0,k1,k2])|(with_reducible (first|refine Qq fun K hK=>?_|refine QE ?_|refine Qg ?_))|((with_reducible refine hK _ ?_);clear hK)|(refine Qm rfl ?_;simp only[↓reduceIte,QtJ])))
     refine Yb (fun s=>∃(Z:AH) (k:Nat),Z[k]? = some (.cells 46 3 (vs G.goal (l++[a])))/\s.tm 0 = .ptr i 0 0/\s.tm 1 = .i (most:Nat)/\s.tm 6 = .arr (h.length+(k+1)) 0 (l.length+1)/\s.h=rh h i g all s3 0 0++(.dead::Z)) ?_ ?_
     ·rintro⟨tm,hp⟩ ⟨Z,k,hZ,t0,t1,t6,rfl⟩
      dsimp only at t0 t1 t6
      have c4:=fun L=>risL hW3 HI L {data:=#[44]}
      rw[e44]at c4
      cases hcm:s3.is Zt with
      |true =>
       rw[QuH hcm]at hR3
       rw[hcm]at c4
       have hln:=Yg hW3.wf (by rw[QsV hcm];decide)
       have cx:=Qew hN hW3 HI
       repeat first|(first|refine FunW.QsR (c4 _) ?_|refine FunW.QsR (cx _) ?_|refine Qb ?_);simp only[go_sem,seval,t0]|refine hK _ ?_;clear hK
       refine XB.mk (m':=s3.nx.toks.length) (by omega) ?_
       rw[hI]
       refine⟨l++[a],s3.nx,Z,k,rfl,hW3.nx,by simp;omega,⟨j,by omega,hR3⟩,fun _=>hZ,t0,t1,?_,rfl⟩
       rw[rowV,QuE (by simp),Quw]
       exact t6
      |false =>
       rw[QuE (by rw[hcm];simp)]at hR3
       subst hR3
       rw[hcm]at c4
       repeat first|(first|refine FunW.QsR (c4 _) ?_|refine Qb ?_);simp only[go_sem,seval,t0,t6]|refine hK _ ?_;clear hK
       exact .inr ⟨.dead::Z,k+1,by rw[Quw];rfl,rfl,hZ⟩
     ·have ev:vs G.goal (l++[a])=vs G.goal l++[a.goal]:=by rw[QdF];rfl
      have evl:(vs G.goal l).length=l.length:=Z5 _ _
      have hm:(l.length+1) * 48<=140737488355328:=by omega
      have hm2:l.length+1<=maxLen:=by simp only[maxLen];omega
      rcases l with _|⟨b,l⟩
      ·rw[rowV,Qul,QuH rfl]at t6
       repeat first|refine Qb ?_;simp only[go_sem,seval,aopR,Qcy,f1,f3,f4,t6,k1,k2]|refine hK _ ?_;clear hK
       (try (refine hK _ ?_;rw[Ql]))
       exact⟨_,Y.length+1,by rw[QuB (by omega),Qvc];rfl,t0,t1,rfl,rfl⟩
      ·rw[rowV,Qum,QuE (by simp)]at t6
       have y1:∀Z:AH,(Y++Z)[k]? = some (.cells 46 3 (vs G.goal (b::l))):=fun Z=>by rw[Qux (Qf (hY (by simp)))];exact hY (by simp)
       have y2:∀(Z:AH) x,(Y++Z).set k x=Y.set k x++Z:=fun Z x=>QuN _ _ (Qf (hY (by simp)))
       rw[QtS]at hm hm2
       repeat first|refine Qb ?_;simp only[go_sem,seval,aopR,QbF,f1,f4,f6,t6,k1,k2,y1,y2,evl,hm,hm2]|refine hK _ ?_;clear hK
       (try (refine hK _ ?_;rw[Ql]))
       exact⟨_,Y.length+1,by rw[QuB (by rw[QuI];omega),QuI,Qvc,ev];rfl,t0,t1,rfl,rfl⟩
  ·rcases l with _|⟨a,l⟩
   ·rw[rowV,Qul,QuH rfl]at t6
    by_cases hf:most<=([]:List G).length
    ·rw[Zg,QuH hf]at hR2
     subst hR2
     have z1:(0:Int)>=((most:Nat):Int):=by rw[QtT]at hf;omega
     repeat first|(first|refine FunW.QsR (cf _ _ _) ?_|refine Qb ?_);simp only[go_sem,seval,t0,t1,t6,z1]|refine hK _ ?_;clear hK
     exact XO HI all _ _ _ (XZ _ (.keep (.v _))) ⟨rfl,s2,rfl⟩
    ·have z1:¬(0:Int)>=((most:Nat):Int):=by rw[QtT]at hf;omega
     repeat first|refine Qb ?_;simp only[go_sem,seval,t1,t6,z1]|refine hK _ ?_;clear hK
     (try (refine hK _ ?_;rw[Ql]))
     exact⟨hf,t0,t1,t6,rfl,rfl⟩
   ·rw[rowV,Qum,QuE (by simp)]at t6
    have y0:=hY (by simp)
    by_cases hf:most<=(a::l).length
    ·rw[Zg,QuH hf]at hR2
     subst hR2
     have z1:(((l.length+1:Nat)):Int)>=((most:Nat):Int):=by rw[QtS]at hf;omega
     repeat first|(first|refine FunW.QsR (cf _ _ _) ?_|refine Qb ?_);simp only[go_sem,seval,f4,t0,t1,t6,y0,z1]|refine hK _ ?_;clear hK
     exact XO HI all _ _ _ (XZ _ (.keep (.v _))) ⟨rfl,s2,rfl⟩
    ·have z1:¬(((l.length+1:Nat)):Int)>=((most:Nat):Int):=by rw[QtS]at hf;omega
     repeat first|refine Qb ?_;simp only[go_sem,seval,f4,t1,t6,y0,z1]|refine hK _ ?_;clear hK
     (try (refine hK _ ?_;rw[Ql]))
     exact⟨hf,t0,t1,t6,rfl,rfl⟩
 ·rw[hI]
  exact⟨[],q,[],0,rfl,hW,by simp,⟨_,QuD _,hR⟩,fun h=>absurd rfl h,rfl,rfl,by rw[rowV,Qul,QuH rfl];show AV.sl 3 [] (some (rh h i g all q 0 0).length)=_;rw[Qcv],rfl⟩
end
section
variable{all:List Tk}{i g:Nat}(hN:all.length<=1000000)(hD:TkOk all)(hX:TxOk all)
include hN hD hX
end
end Go.Proofs.YticgcpebdldbgaaGreatDoor.Ab
namespace Go.Proofs.YticgcpebdldbgaaGreatDoor.Ab
open Go.Proofs
structure RlPre (r:Rl):Prop where
 ka:atomsOk r.keep
 ra:atomsOk r.remove
 ga:goalsOk r.guard
 ba:goalsOk r.body
 h1:1<=r.keep.length+r.remove.length
 h4:r.keep.length+r.remove.length<=4
 g12:r.guard.length<=12
 b12:r.body.length<=12
def vwOk(vw:G->AV)(w:Nat):Prop:=(∀a,(vw a).cells.length=w)/\∀n a,∀x∈(vw a).cells,Below n x
theorem Qfj:vwOk G.goal 3:=⟨fun _=>rfl,fun n a x hx=>by
 rw[G.Qtl]at hx
 simp only[QuL,QuS,Qvz]at hx
 rcases hx with rfl|rfl|rfl
 ·exact .v _
 ·exact .v _
 ·exact Qca _ _⟩
def c1ok(y:AV):Prop:=y.cells=[y]/\y.isAgg=false/\y.cell1=true
end Go.Proofs.YticgcpebdldbgaaGreatDoor.Ab
namespace Go.Proofs.YticgcpebdldbgaaGreatDoor.Ab
open Go.Proofs
def RowY(Y:AH)(b:Nat)(vw:G->AV)(ty w:Nat)(l:List G)(v:AV)(k:Nat):Prop:=(l=[]/\v=nilV)\/(l≠[]/\v = .arr (b+(k+3)) 0 l.length/\Y[k]? = some (.cells ty w (vs vw l)))
theorem RowY.ext{Y:AH}{b:Nat}{vw:G->AV}{ty w:Nat}{l:List G}{v:AV}{k:Nat}(h:RowY Y b vw ty w l v k)(Z:AH):RowY (Y++Z) b vw ty w l v k:=by
 rcases h with h|⟨h1,h2,h3⟩
 ·exact .inl h
 ·exact .inr ⟨h1,h2,by rw[Qux (Qf h3)];exact h3⟩
theorem RowY.cell{Y:AH}{b:Nat}{vw:G->AV}{ty w:Nat}{l:List G}{v:AV}{k:Nat}(h:RowY Y b vw ty w l v k):v.cells=[v]/\v.isAgg=false/\v.cell1=true:=by
 rcases h with⟨_,rfl⟩|⟨_,rfl,_⟩
 ·exact⟨rfl,rfl,rfl⟩
 ·exact⟨rfl,rfl,rfl⟩
theorem RowY.nil(Y:AH)(b:Nat)(vw:G->AV)(ty w k:Nat):RowY Y b vw ty w [] nilV k:=.inl ⟨rfl,rfl⟩
theorem RowY.new(Y:AH)(b:Nat)(vw:G->AV)(ty w:Nat){l:List G}(hl:l≠[])(Z:AH):RowY (Y++(.cells ty w (vs vw l)::Z)) b vw ty w l (.arr (b+(Y.length+3)) 0 l.length) Y.length:=.inr ⟨hl,rfl,by rw[QuB (QuD _),Qu9];rfl⟩
section
variable{all:List Tk}{i g:Nat}(hN:all.length<=1000000)(hD:TkOk all)(hX:TxOk all)
include hN hD hX
section
variable{q:PS}(hW:Wst all q){h:AH}(HI:IG h i g)(L:AH)
include hW HI
theorem QnK(most:Nat)(hm:most<=100){l:List G}{s2:PS}(e:Y8 most q = .ok l s2){k:Nat}(hk:k=h.length+L.length):QA Tryz.prog 32 [.ptr i 0 0,.i (most:Nat)] (rh h i g all q 0 0++L) fun o h'=>o = .ret (.tup [.arr k 0 l.length,.b true])/\h'=rh h i g all s2 0 0++(L++[.cells 46 3 (vs G.goal l)]):=by
 have:=QkO (HI.app L) Qfj.1 Qfj.2 (QgX hN hD hX most hm hW (HI.app L))
 rw[e,QgY HI]at this
 subst hk
 exact this.mono fun o h' q=>by simpa only[RwQ,QgY HI,Quw,Quz]using q
theorem QlP(most:Nat)(hm:most<=100){p c:Int}(e:Y8 most q = .err p c):QA Tryz.prog 32 [.ptr i 0 0,.i (most:Nat)] (rh h i g all q 0 0++L) fun o h'=>o = .ret (.tup [.v (.slice none 0 0),.b false])/\∃s:PS,h'=rh h i g all s p c++L:=by
 have:=QkO (HI.app L) Qfj.1 Qfj.2 (QgX hN hD hX most hm hW (HI.app L))
 rw[e,QgY HI]at this
 exact this.mono fun o h' q=>by simpa only[RwQ,QgY HI]using q
end
end
end Go.Proofs.YticgcpebdldbgaaGreatDoor.Ab
namespace Go.Proofs.YticgcpebdldbgaaGreatDoor.Ab
open Go.Proofs
mutual
theorem T.Qs1:∀(t:T),t.vars.length<=t.nds
 | .mk k i n l=>by
  simp only[T.vars,T.nds]
  split
  ·simp
  ·split
   ·have:=QeB l;omega
   ·simp
theorem QeB:∀(l:List T),(Yd l).length<=ndsL l
 |[]=>by simp[Yd,ndsL]
 |t::l=>by
  have h1:=T.Qs1 t
  have h2:=QeB l
  simp only[Yd,ndsL,Quw];omega
end
theorem Qow(u:List Int)(own:Option Nat)(n:Int)(hb:u.length<=1000000):Pure Tryz.prog 103 [.sl 1 (ints u) own,.i n] (.b (decide (n∈u))):=by
 intro h
 refine Qa Tryz.func103 rfl Tryz.call103 Tryz.ntmps103 Tryz.results103 (by simp) ?_
 repeat refine Qb ?_;simp only[go_sem,seval]
 obtain⟨I,hI⟩:∃I:Nat->AS->Prop,I=fun m' s=>∃j:Nat,m'=u.length - j/\j<=u.length/\(n∈u↔n∈u.drop j)/\s.tm 0 = .sl 1 (ints u) own/\s.tm 1 = .i n/\s.tm 5 = .i j/\s.h=h:=⟨_,rfl⟩;refine QD I ?_ (m:=u.length) ?_
 ·intro m' s hs;rw[hI]at hs;obtain⟨tm,hp⟩:=s;dsimp only at hs;obtain⟨j,rfl,hj,he,t0,t1,t5,rfl⟩:=hs
  by_cases hlt:j<u.length
  ·rw[QuQ hlt,QuL]at he
   by_cases hz:u[j]=n
   ·have hb1:(u[j]==n)=true:=by simpa using hz
    have hm:n∈u:=he.2 (.inl hz.symm)
    repeat refine Qb ?_;simp only[go_sem,seval,t0,t1,t5,hlt,QbM hlt,hb1]
    exact Qc QuA (.keep (.v _)) ⟨by rw[QuU hm],rfl⟩
   ·have hb1:(u[j]==n)=false:=by simpa using hz
    repeat refine Qb ?_;simp only[go_sem,seval,t0,t1,t5,hlt,QbM hlt,hb1]
    refine XB.mk (m':=u.length - (j+1)) (by omega) ?_
    rw[hI]
    refine⟨j+1,rfl,hlt,he.trans ⟨fun h=>h.elim (fun e=>absurd e.symm hz) id,.inr⟩,t0,t1,?_,rfl⟩
    simp only[upd,↓reduceIte]
    rw[XM (by omega)]
  ·have hjl:j=u.length:=by omega
   rw[hjl,Qvb]at he
   have hm:¬n∈u:=fun h=>by simpa using he.1 h
   repeat refine Qb ?_;simp only[go_sem,seval,t0,t5,hlt]
   exact Qc QuA (.keep (.v _)) ⟨by rw[QuM hm],rfl⟩
 ·rw[hI]
  exact⟨0,by omega,QuG _,by simp,rfl,rfl,rfl,rfl⟩
theorem QiJ(t:T):ndsL t.uses<=ndsL t.args:=by
 unfold T.uses
 split
 ·exact QuD _
 ·simp[ndsL]
structure TokGr (H:Nat->AH) (m k e s:Nat):Prop where
 len:∀n,(H n).length=m
 lt:k<m
 get:∀n,(H n)[k]? = some (.grow e s n)
 set:∀n n',(H n).set k (.grow e s n')=H n'
theorem TokGr.old{H:Nat->AH}{m k e s:Nat}(V:TokGr H m k e s):∀n n' (i:Nat) b,(H n')[i]? = some b->(H n)[i]? = some b\/b.Below m:=by
 intro n n' i b hb
 rw[<-V.set n n']at hb
 by_cases hi:k=i
 ·subst hi
  rw[QuF (by rw[V.len];exact V.lt)]at hb
  cases hb
  exact .inr trivial
 ·rw[Quy hi]at hb
  exact .inl hb
theorem QdV{σ:Type}{H:σ->AH}{m:Nat}(hm:∀s,(H s).length=m)(hH:∀s s' (i:Nat) b,(H s')[i]? = some b->(H s)[i]? = some b\/b.Below m){s s2:σ}{L own:AH}{r r':AV}{Q:AV->AH->Prop}
  (hf:Frz (H s2++(L++own)) (m+L.length) r r') (hq:Q r' (H s2++L)):Leaves (H s++L) (H s2++(L++own)) r Q:=by
 have ht:(H s2++(L++own)).take (m+L.length)=H s2++L:=by
  rw[<-Quz,<-hm s2,<-Quw,List.take_left]
 refine .inl ⟨m+L.length,r',by rw[Quw,hm];exact QuD _,by simp[hm],.inr fun i b hb=>?_,hf,by rw[ht];exact hq⟩
 rw[ht]at hb
 rcases Qv5 i m with hi|hi
 ·rw[Qux (by rw[hm];exact hi)]at hb
  rcases hH s s2 i b hb with h|h
  ·exact .inl (by rw[Qux (by rw[hm];exact hi)];exact h)
  ·exact .inr (h.mono (by omega))
 ·rw[QuB (by rw[hm];exact hi),hm]at hb
  exact .inl (by rw[QuB (by rw[hm];exact hi),hm];exact hb)
theorem T.QtA(t:T):t.vars=if t.kind=1 then[t.int]else Yd t.uses:=by
 cases t with|mk k i n l =>
 show T.vars (.mk k i n l)=if k=1 then[i]else Yd (if k=2 then l else[])
 simp only[T.vars]
 by_cases h1:k=1
 ·rw[QuH h1,QuH h1]
 ·rw[QuE h1,QuE h1]
  by_cases h2:k=2
  ·rw[QuH h2,QuH h2]
  ·rw[QuE h2,QuE h2];rfl
theorem QbV{H:Nat->AH}{m k:Nat}(V:TokGr H m k 3 1):∀n,n<=1000000->∀(t:T) (u:List Int) (L:AH),t.nds<=n->u.length+t.nds<=1000000 ->
  QA Tryz.prog 89 [.sl 1 (ints u) (some k),t.av] (H u.length++L) fun o h'=>o = .ret (.sl 1 (ints (ded u t.vars)) (some k))/\h'=H (ded u t.vars).length++L
 |0,_,t,_,_,hn,_=>by have:=T.Qs4 t;omega
 |n+1,hb,t,u,L,hn,hu=>by
  have e:=T.QtA t
  have hnd:=T.Qs4 t
  have hm:=V.len
  have gk:∀(n:Nat) (L:AH) (k:Nat),(H n++L)[m+k]? = L[k]? := fun u L k=>by rw[<-hm u];exact hget _ _ _
  have sk:∀(n:Nat) (L:AH) (k:Nat) (b:AB),(H n++L).set (m+k) b=H n++L.set k b:=fun u L k b=>by rw[<-hm u];exact hset _ _ _ _
  have gt:∀(n:Nat) (L:AH),(H n++L)[k]? = some (.grow 3 1 n):=fun n L=>by rw[Qux (by rw[hm];exact V.lt)];exact V.get n
  have st:∀(n n':Nat) (L:AH),(H n++L).set k (.grow 3 1 n')=H n'++L:=fun n n' L=>by rw[QuN _ _ (by rw[hm];exact V.lt),V.set]
  have ca:=Qcu t
  have ch:=Qow u (some k) t.int (by omega)
  have hlu:=YZ t.uses
  have hul:=QiJ t
  by_cases h1:t.kind=1
  ·have b1:(t.kind==1)=true:=by simpa using h1
   have hus:t.uses=[]:=by unfold T.uses;rw[QuE (by omega)]
   rw[QuH h1]at e
   by_cases hmem:t.int∈u
   ·have hed:ded u t.vars=ded u (Yd (t.uses.drop 0)):=by rw[e,hus];exact QuH hmem
    have hlen':u.length+ndsL (t.uses.drop 0)<=1000000:=by rw[QtW];omega
    rw[QuU hmem]at ch
    refine Qa Tryz.func89 rfl Tryz.call89 Tryz.ntmps89 Tryz.results89 (by simp) ?_
    repeat (first|refine Qe ca ?_|refine Qe ch ?_|refine Qb ?_);simp only[go_sem,seval,b1,hm,gk]
    obtain⟨I,hI⟩:∃I:Nat->AS->Prop,I=fun m' s=>∃(j:Nat) (v:List Int) (M:AH),m'=t.uses.length - j/\j<=t.uses.length/\ded u t.vars=ded v (Yd (t.uses.drop j))/\v.length+ndsL (t.uses.drop j)<=1000000/\s.tm 0 = .sl 1 (ints v) (some k)/\s.tm 5 = .sl 4 (avs t.uses) none/\s.tm 6 = .i j/\s.h=H v.length++(L++M):=⟨_,rfl⟩;refine QD I ?_ (m:=t.uses.length) ?_
    ·intro m' s hs;rw[hI]at hs;obtain⟨tm,hp⟩:=s;dsimp only at hs;obtain⟨j,v,M,rfl,hj,hw,hv,t0,t5,t6,rfl⟩:=hs
     by_cases hlt:j<t.uses.length
     ·rw[QuQ hlt]at hw hv
      simp only[Yd,Zo]at hw
      simp only[ndsL]at hv
      have hcc:=fun L=>QbV V n (by omega) t.uses[j] v L (Qu1 (QaL hlt) (by omega)) (by omega)
      have hdl:=Z7 v (t.uses[j]).vars
      have hvl:=T.Qs1 t.uses[j]
      repeat (first|refine FunW.QsR (hcc _) ?_|refine Qb ?_);simp only[go_sem,seval,t0,t5,t6,hlt,QaW hlt]
      refine XB.mk (m':=t.uses.length - (j+1)) (by omega) ?_
      rw[hI]
      refine⟨j+1,_,_,rfl,hlt,hw,by omega,rfl,t5,?_,rfl⟩
      simp only[upd,↓reduceIte]
      rw[XM (by omega)]
     ·have hjl:j=t.uses.length:=by omega
      rw[hjl,Qvb]at hw
      simp only[Yd,ded]at hw
      repeat refine Qb ?_;simp only[go_sem,seval,t0,t5,t6,hlt]
      exact QdV V.len V.old (.keep (.sl 1 _ _ (Qcl _ _) (fun b hb=>by cases hb;have:=V.lt;omega))) ⟨by rw[hw],by rw[hw]⟩
    ·rw[hI]
     exact⟨0,_,_,by omega,QuG _,hed,hlen',rfl,rfl,rfl,rfl⟩
   ·have hed:ded u t.vars=ded (u++[t.int]) (Yd (t.uses.drop 0)):=by rw[e,hus];exact QuE hmem
    have hlen':(u++[t.int]).length+ndsL (t.uses.drop 0)<=1000000:=by rw[hus,Quw];simp only[List.drop_nil,ndsL,QvE];omega
    rw[QuM hmem]at ch
    have hb1:u.length+1<=maxLen:=by simp only[maxLen];omega
    have hb2:(u.length+1) * 8<=140737488355328:=by omega
    refine Qa Tryz.func89 rfl Tryz.call89 Tryz.ntmps89 Tryz.results89 (by simp) ?_
    repeat (first|refine Qe ca ?_|refine Qe ch ?_|refine Qb ?_);simp only[go_sem,seval,b1,hm,gk,gt,st,hb1,hb2]
    obtain⟨I,hI⟩:∃I:Nat->AS->Prop,I=fun m' s=>∃(j:Nat) (v:List Int) (M:AH),m'=t.uses.length - j/\j<=t.uses.length/\ded u t.vars=ded v (Yd (t.uses.drop j))/\v.length+ndsL (t.uses.drop j)<=1000000/\s.tm 0 = .sl 1 (ints v) (some k)/\s.tm 5 = .sl 4 (avs t.uses) none/\s.tm 6 = .i j/\s.h=H v.length++(L++M):=⟨_,rfl⟩;refine QD I ?_ (m:=t.uses.length) ?_
    ·intro m' s hs;rw[hI]at hs;obtain⟨tm,hp⟩:=s;dsimp only at hs;obtain⟨j,v,M,rfl,hj,hw,hv,t0,t5,t6,rfl⟩:=hs
     by_cases hlt:j<t.uses.length
     ·rw[QuQ hlt]at hw hv
      simp only[Yd,Zo]at hw
      simp only[ndsL]at hv
      have hcc:=fun L=>QbV V n (by omega) t.uses[j] v L (Qu1 (QaL hlt) (by omega)) (by omega)
      have hdl:=Z7 v (t.uses[j]).vars
      have hvl:=T.Qs1 t.uses[j]
      repeat (first|refine FunW.QsR (hcc _) ?_|refine Qb ?_);simp only[go_sem,seval,t0,t5,t6,hlt,QaW hlt]
      refine XB.mk (m':=t.uses.length - (j+1)) (by omega) ?_
      rw[hI]
      refine⟨j+1,_,_,rfl,hlt,hw,by omega,rfl,t5,?_,rfl⟩
      simp only[upd,↓reduceIte]
      rw[XM (by omega)]
     ·have hjl:j=t.uses.length:=by omega
      rw[hjl,Qvb]at hw
      simp only[Yd,ded]at hw
      repeat refine Qb ?_;simp only[go_sem,seval,t0,t5,t6,hlt]
      exact QdV V.len V.old (.keep (.sl 1 _ _ (Qcl _ _) (fun b hb=>by cases hb;have:=V.lt;omega))) ⟨by rw[hw],by rw[hw]⟩
    ·rw[hI]
     exact⟨0,_,_,by omega,QuG _,hed,hlen',by rw[Qfn,Qks];rfl,rfl,rfl,by rw[Quw];rfl⟩
  ·have b1:(t.kind==1)=false:=by simpa using h1
   rw[QuE h1]at e
   have hed:ded u t.vars=ded u (Yd (t.uses.drop 0)):=by rw[e,QtW]
   have hlen':u.length+ndsL (t.uses.drop 0)<=1000000:=by rw[QtW];omega
   refine Qa Tryz.func89 rfl Tryz.call89 Tryz.ntmps89 Tryz.results89 (by simp) ?_
   repeat (first|refine Qe ca ?_|refine Qb ?_);simp only[go_sem,seval,b1,hm,gk]
   obtain⟨I,hI⟩:∃I:Nat->AS->Prop,I=fun m' s=>∃(j:Nat) (v:List Int) (M:AH),m'=t.uses.length - j/\j<=t.uses.length/\ded u t.vars=ded v (Yd (t.uses.drop j))/\v.length+ndsL (t.uses.drop j)<=1000000/\s.tm 0 = .sl 1 (ints v) (some k)/\s.tm 5 = .sl 4 (avs t.uses) none/\s.tm 6 = .i j/\s.h=H v.length++(L++M):=⟨_,rfl⟩;refine QD I ?_ (m:=t.uses.length) ?_
   ·intro m' s hs;rw[hI]at hs;obtain⟨tm,hp⟩:=s;dsimp only at hs;obtain⟨j,v,M,rfl,hj,hw,hv,t0,t5,t6,rfl⟩:=hs
    by_cases hlt:j<t.uses.length
    ·rw[QuQ hlt]at hw hv
     simp only[Yd,Zo]at hw
     simp only[ndsL]at hv
     have hcc:=fun L=>QbV V n (by omega) t.uses[j] v L (Qu1 (QaL hlt) (by omega)) (by omega)
     have hdl:=Z7 v (t.uses[j]).vars
     have hvl:=T.Qs1 t.uses[j]
     repeat (first|refine FunW.QsR (hcc _) ?_|refine Qb ?_);simp only[go_sem,seval,t0,t5,t6,hlt,QaW hlt]
     refine XB.mk (m':=t.uses.length - (j+1)) (by omega) ?_
     rw[hI]
     refine⟨j+1,_,_,rfl,hlt,hw,by omega,rfl,t5,?_,rfl⟩
     simp only[upd,↓reduceIte]
     rw[XM (by omega)]
    ·have hjl:j=t.uses.length:=by omega
     rw[hjl,Qvb]at hw
     simp only[Yd,ded]at hw
     repeat refine Qb ?_;simp only[go_sem,seval,t0,t5,t6,hlt]
     exact QdV V.len V.old (.keep (.sl 1 _ _ (Qcl _ _) (fun b hb=>by cases hb;have:=V.lt;omega))) ⟨by rw[hw],by rw[hw]⟩
   ·rw[hI]
    exact⟨0,_,_,by omega,QuG _,hed,hlen',rfl,rfl,rfl,rfl⟩
theorem QnW(h:AH)(e s:Nat):TokGr (fun n=>h++[.grow e s n]) (h.length+1) h.length e s where
 len:=fun n=>by simp
 lt:=by omega
 get:=fun n=>by rw[X8];rfl
 set:=fun n n'=>by rw[Yh];rfl
theorem QhK(t:T)(hn:t.nds<=1000000):Pure Tryz.prog 63 [t.av] (.sl 1 (ints (ded [] t.vars)) none):=by
 intro h
 refine Qa Tryz.func63 rfl Tryz.call63 Tryz.ntmps63 Tryz.results63 (by simp) ?_
 repeat refine Qb ?_;simp only[go_sem,seval]
 refine Qjw 3 1 ?_
 have hcc:=QbV (QnW (h++[.cells 48 4 [t.av]]) 3 1) 1000000 (QuD _) t [] [] hn (by simpa using hn)
 simp only[Quz,Qt7,Qt6,Qt8,QoB,QtT]at hcc
 (try simp only[QtS,QtT,QtR,hlen,happ,Qt7,Qt6])
 (try simp only[hlen,QtS,QtT,QtR]at hcc)
 repeat (first|refine FunW.QsR hcc ?_|refine Qb ?_);simp only[go_sem,seval]
 (refine Qc (htake _ _) (.tok (Qcl _ _)) ⟨rfl,rfl⟩)
theorem QmE:∀(l a s:List Int),ded s (ded a l)=ded (ded s a) l
 |[],a,s=>rfl
 |x::l,a,s=>by
  show ded s (ded (ins a x) l)=ded (ins (ded s a) x) l
  rw[QmE l (ins a x) s]
  congr 1
  unfold ins
  by_cases hx:x∈a
  ·rw[QuH hx,QuH (Qfz.2 (.inr hx))]
  ·rw[QuE hx,Zo]
   show ded (ins (ded s a) x) []=_
   rfl
def plcR(u:List Int)(n:Int):Int:=if n∈u then((plc u n:Nat):Int)else -1
theorem QiR{n:Int}:∀{u:List Int} {k:Nat},(∀j,j<k->∀h:j<u.length,u[j]≠n)->k<=u.length->plc u n=k+plc (u.drop k) n
 |u,0,_,_=>by rw[QtW,QtR]
 |[],k+1,_,hk=>by simp at hk
 |a::u,k+1,h,hk=>by
  have h0:a≠n:=h 0 (by omega) (by simp)
  rw[List.drop_succ_cons,plc,QuE h0,QiR (u:=u) (k:=k) (fun j hj hl=>by have:=h (j+1) (by omega) (by simpa using hl);simpa using this) (by simpa using hk)]
  omega
theorem Qep(u:List Int)(own:Option Nat)(n:Int)(hb:u.length<=1000000):Pure Tryz.prog 64 [.sl 1 (ints u) own,.i n] (.i (plcR u n)):=by
 intro h
 refine Qa Tryz.func64 rfl Tryz.call64 Tryz.ntmps64 Tryz.results64 (by simp) ?_
 repeat refine Qb ?_;simp only[go_sem,seval]
 obtain⟨I,hI⟩:∃I:Nat->AS->Prop,I=fun m' s=>∃k:Nat,m'=u.length - k/\k<=u.length/\(∀j,j<k->∀h:j<u.length,u[j]≠n)/\s.tm 0 = .sl 1 (ints u) own/\s.tm 1 = .i n/\s.tm 5 = .i k/\s.h=h:=⟨_,rfl⟩;refine QD I ?_ (m:=u.length) ?_
 ·intro m' s hs;rw[hI]at hs;obtain⟨tm,hp⟩:=s;dsimp only at hs;obtain⟨k,rfl,hk,he,t0,t1,t5,rfl⟩:=hs
  by_cases hlt:k<u.length
  ·have hg:=QbM hlt
   have z9:(k:Int)<u.length:=by omega
   by_cases q:u[k]=n
   ·have z:(u[k]==n)=true:=by simp[q]
    repeat refine Qb ?_;simp only[go_sem,seval,t0,t1,t5,z9,hg,z]
    (refine Qc QuA (.keep (.v _)) ⟨by rw[plcR,QuH (q▸Qvk hlt),QiR he hk,QuQ hlt,plc,QuH q];rfl,rfl⟩)
   ·have z:(u[k]==n)=false:=by simp[q]
    have wk:IntKind.i64.wrap (((k:Nat):Int)+1)=((k+1:Nat):Int):=XM (by omega)
    repeat refine Qb ?_;simp only[go_sem,seval,t0,t1,t5,z9,hg,z,wk]
    refine XB.mk (m':=u.length - (k+1)) (by omega) ?_
    rw[hI]
    refine⟨k+1,rfl,hlt,?_,t0,t1,rfl,rfl⟩
    intro j hj hl
    by_cases hjk:j=k
    ·subst hjk;exact q
    ·exact he j (by omega) hl
  ·have z9:¬(k:Int)<u.length:=by omega
   have hm:n∉u:=fun hm=>by
    obtain⟨j,hj,e⟩:=List.getElem_of_mem hm
    exact he j (by omega) hj e
   repeat refine Qb ?_;simp only[go_sem,seval,t0,t5,z9]
   (refine Qc QuA (.keep (.v _)) ⟨by rw[plcR,QuE hm],rfl⟩)
 ·rw[hI]
  exact⟨0,by omega,QuG _,fun j hj=>by omega,rfl,rfl,rfl,rfl⟩
def plcN(u:List Int)(n:Int):Int:=((plc u n:Nat):Int)
theorem Qrf(f:Int->Int){t:T}(h:t.ps):t.map f = .mk t.kind (if t.kind=1 then f t.int else t.int) t.name (maps f t.args)/\pss t.args/\(∀v∈Yd t.args,v∈t.vars)/\(t.kind=1->t.int∈t.vars):=by
 obtain⟨k,i,n,l⟩:=t
 rw[T.ps]at h
 obtain⟨h1,h2,h3⟩:=h
 rw[T.map]
 show _/\pss l/\(∀v∈Yd l,v∈T.vars (.mk k i n l))/\(k=1->i∈T.vars (.mk k i n l))
 rw[T.vars]
 refine⟨?_,h3,?_,?_⟩
 ·by_cases k1:k=1
  ·have:l=[]:=h2 (by omega)
   subst this
   rw[QuH k1]
   show _=T.mk k (if k=1 then f i else i) n []
   rw[QuH k1]
  ·rw[QuE k1]
   show _=T.mk k (if k=1 then f i else i) n (maps f l)
   rw[QuE k1]
   by_cases k2:k=2
   ·rw[QuH k2]
   ·rw[QuE k2,h2 k2];rfl
 ·intro v hv
  by_cases k2:k=2
  ·rw[QuE (by omega),QuH k2];exact hv
  ·rw[h2 k2]at hv;cases hv
 ·intro k1;rw[QuH k1];simp
theorem Qg4:∀{l:List T} {j:Nat} (hlt:j<l.length),∀v∈(l[j]).vars,v∈Yd l
 |t::l,0,_,v,hv=>by rw[Yd];exact Qvh.2 (.inl (by simpa using hv))
 |t::l,j+1,h,v,hv=>by rw[Yd];exact Qvh.2 (.inr (Qg4 (l:=l) (j:=j) (by simpa using h) v (by simpa using hv)))
theorem QkH:∀{l:List T} {j:Nat} (hlt:j<l.length),pss l->(l[j]).ps
 |t::l,0,_,h=>by rw[pss]at h;exact h.1
 |t::l,j+1,hl,h=>by rw[pss]at h;exact QkH (l:=l) (j:=j) (by simpa using hl) h.2
theorem QoG(f:Int->Int):∀l:List T,maps f l=l.map (T.map f)
 |[]=>rfl
 |t::l=>by rw[maps,QoG f l];rfl
theorem Qlx{f:Int->Int}{l:List T}{j:Nat}(h:j<l.length):maps f (l.take (j+1))=maps f (l.take j)++[(l[j]).map f]:=by
 rw[QoG,QoG,Qu4 h,Qvr];rfl
theorem QiZ(u:List Int)(own:Option Nat)(hu:u.length<=1000000):∀n,n<=1000000->∀l:List T,ndsL l<=n->pss l->(∀v∈Yd l,v∈u)->Pure Tryz.prog 35 [.sl 1 (ints u) own,.sl 4 (avs l) none] (.sl 4 (avs (maps (plcN u) l)) none):=by
 intro n
 induction n with
 |zero =>
  intro _ l hn hp hv h
  have hl:l=[]:=by
   cases l with
   |nil=>rfl
   |cons t l=>have:=T.Qs4 t;simp only[ndsL]at hn;omega
  subst hl
  refine Qa Tryz.func35 rfl Tryz.call35 Tryz.ntmps35 Tryz.results35 (by simp) ?_
  repeat refine Qb ?_;simp only[go_sem,seval]
  refine Zu 5 48 4 rfl ?_
  repeat refine Qb ?_;simp only[go_sem,seval]
  obtain⟨I,hI⟩:∃I:Nat->AS->Prop,I=fun m' s=>m'=0/\s.tm 1 = .sl 4 (avs []) none/\s.tm 5 = .sl 4 (avs []) (some h.length)/\s.tm 6 = .i 0/\s.h=h++[.grow 48 4 0]:=⟨_,rfl⟩;refine QD I ?_ (m:=0) ?_
  ·intro m' s hs;rw[hI]at hs;obtain⟨tm,hp⟩:=s;dsimp only at hs;obtain⟨rfl,t1,t5,t6,rfl⟩:=hs
   have z9:¬(0:Int)<0:=by decide
   repeat refine Qb ?_;simp only[go_sem,seval,t1,t5,t6,z9,QeZ]
   exact Qc (htake _ _) (.tok fun a ha=>by simp[flat]at ha) ⟨rfl,rfl⟩
  ·rw[hI]
   exact⟨rfl,rfl,rfl,rfl,rfl⟩
 |succ n ih =>
  intro hb l hn hp hv h
  have hll:=YZ l
  refine Qa Tryz.func35 rfl Tryz.call35 Tryz.ntmps35 Tryz.results35 (by simp) ?_
  repeat refine Qb ?_;simp only[go_sem,seval]
  refine Zu 5 48 4 rfl ?_
  repeat refine Qb ?_;simp only[go_sem,seval]
  obtain⟨I,hI⟩:∃I:Nat->AS->Prop,I=fun m' s=>∃(j:Nat) (L:AH),m'=l.length - j/\j<=l.length/\s.tm 0 = .sl 1 (ints u) own/\s.tm 1 = .sl 4 (avs l) none/\s.tm 5 = .sl 4 (avs (maps (plcN u) (l.take j))) (some h.length)/\s.tm 6 = .i j/\s.h=h++(.grow 48 4 j::L):=⟨_,rfl⟩;refine QD I ?_ (m:=l.length) ?_
  ·intro m' s hs;rw[hI]at hs;obtain⟨tm,hp⟩:=s;dsimp only at hs;obtain⟨j,L,rfl,hj,t0,t1,t5,t6,rfl⟩:=hs
   by_cases hlt:j<l.length
   ·have hg:=QaW hlt
    have z9:(j:Int)<l.length:=by omega
    have hml:(maps (plcN u) (l.take j)).length=j:=by rw[QoG,Qu6,QuY];omega
    have hb1:j+1<=maxLen:=by simp only[maxLen];omega
    have hb2:(j+1) * 56<=140737488355328:=by omega
    have wj:IntKind.i64.wrap (((j:Nat):Int)+1)=((j+1:Nat):Int):=XM (by omega)
    have fL:∀x:AB,(L++[x])[L.length]? = some x:=fun x=>List.getElem?_concat_length
    have fS:∀x y:AB,(L++[x]).set L.length y=L++[y]:=fun x y=>by rw[Qva _ _ (QuD _),Qu9];rfl
    obtain⟨t,et⟩:∃t,t=l[j]:=⟨_,rfl⟩
    have hvt:=Qg4 hlt
    have hts:=Qlx (f:=plcN u) hlt
    have hpt:=QkH hlt hp
    have hnt:t.nds<=n+1:=by rw[et];exact Qu1 (QaL hlt) hn
    rw[<-et]at hg hvt hts hpt
    have hnd:=T.Qs4 t
    obtain⟨em,hpa,hva,hvi⟩:=Qrf (plcN u) hpt
    have c2:=ih (by omega) t.args (by omega) hpa (fun v hv'=>hv v (hvt v (hva v hv')))
    by_cases k1:t.kind=1
    ·have z1:(t.kind==1)=true:=by simp[k1]
     rw[QuH k1]at em
     have c:=Qep u own t.int hu
     have hmem:=hv _ (hvt _ (hvi k1))
     rw[plcR,QuH hmem]at c
     repeat (first|refine Qe c ?_|refine Qe c2 ?_|refine Qb ?_);simp only[go_sem,seval,t0,t1,t5,t6,z9,hg,z1,hml,hb1,hb2,fL,fS,wj]
     refine XB.mk (m':=l.length - (j+1)) (by omega) ?_
     rw[hI]
     refine⟨j+1,_,rfl,hlt,t0,t1,?_,rfl,rfl⟩
     rw[hts,QdI,em];rfl
    ·have z1:(t.kind==1)=false:=by simp[k1]
     rw[QuE k1]at em
     repeat (first|refine Qe c2 ?_|refine Qb ?_);simp only[go_sem,seval,t0,t1,t5,t6,z9,hg,z1,hml,hb1,hb2,fL,fS,wj]
     refine XB.mk (m':=l.length - (j+1)) (by omega) ?_
     rw[hI]
     refine⟨j+1,_,rfl,hlt,t0,t1,?_,rfl,rfl⟩
     rw[hts,QdI,em];rfl
   ·have z9:¬(j:Int)<l.length:=by omega
    have hjl:j=l.length:=by omega
    repeat refine Qb ?_;simp only[go_sem,seval,t1,t5,t6,z9]
    (refine Qc (htake _ _) (.tok (Qdc _ _)) ⟨by rw[hjl,QuA],rfl⟩)
  ·rw[hI]
   exact⟨0,[],by omega,QuG _,rfl,rfl,rfl,rfl,rfl⟩
theorem QiN{H:Nat->AH}{m k:Nat}(V:TokGr H m k 3 1)(l:List T)(u:List Int)(L:AH)(hb:u.length+ndsL l<=1000000) :
  QA Tryz.prog 34 [.sl 1 (ints u) (some k),.sl 4 (avs l) none] (H u.length++L) fun o h'=>o = .ret (.sl 1 (ints (ded u (Yd l))) (some k))/\h'=H (ded u (Yd l)).length++L:=by
 have hm:=V.len
 have gk:∀(n:Nat) (L:AH) (k:Nat),(H n++L)[m+k]? = L[k]? := fun u L k=>by rw[<-hm u];exact hget _ _ _
 have sk:∀(n:Nat) (L:AH) (k:Nat) (b:AB),(H n++L).set (m+k) b=H n++L.set k b:=fun u L k b=>by rw[<-hm u];exact hset _ _ _ _
 have gt:∀(n:Nat) (L:AH),(H n++L)[k]? = some (.grow 3 1 n):=fun n L=>by rw[Qux (by rw[hm];exact V.lt)];exact V.get n
 have st:∀(n n':Nat) (L:AH),(H n++L).set k (.grow 3 1 n')=H n'++L:=fun n n' L=>by rw[QuN _ _ (by rw[hm];exact V.lt),V.set]
 have hll:=YZ l
 refine Qa Tryz.func34 rfl Tryz.call34 Tryz.ntmps34 Tryz.results34 (by simp) ?_
 repeat refine Qb ?_;simp only[go_sem,seval]
 obtain⟨I,hI⟩:∃I:Nat->AS->Prop,I=fun m' s=>∃(j:Nat) (v:List Int),m'=l.length - j/\j<=l.length/\ded v (Yd (l.drop j))=ded u (Yd l)/\v.length+ndsL (l.drop j)<=1000000/\s.tm 0 = .sl 1 (ints v) (some k)/\s.tm 1 = .sl 4 (avs l) none/\s.tm 5 = .i j/\s.h=H v.length++L:=⟨_,rfl⟩;refine QD I ?_ (m:=l.length) ?_
 ·intro m' s hs;rw[hI]at hs;obtain⟨tm,hp⟩:=s;dsimp only at hs;obtain⟨j,v,rfl,hj,he,hvb,t0,t1,t5,rfl⟩:=hs
  by_cases hlt:j<l.length
  ·have wj:IntKind.i64.wrap (((j:Nat):Int)+1)=((j+1:Nat):Int):=XM (by omega)
   rw[QuQ hlt,Yd,Zo]at he
   rw[QuQ hlt,ndsL]at hvb
   have cv:=QhK l[j] (by omega)
   have hwl:=Z7 [] (l[j]).vars
   have hwl2:=T.Qs1 l[j]
   have e2:ded v (ded [] (l[j]).vars)=ded v (l[j]).vars:=QmE _ [] v
   rw[QtT]at hwl
   generalize hw:ded [] (l[j]).vars=w at *
   repeat (first|refine Qe cv ?_|refine Qb ?_);simp only[go_sem,seval,t1,t5,hlt,QaW hlt]
   have hIo:=hI
   obtain⟨I,hI⟩:∃I:Nat->AS->Prop,I=fun m' s=>∃(p:Nat) (x:List Int),m'=w.length - p/\p<=w.length/\ded x (w.drop p)=ded v w/\x.length+(w.length - p)+ndsL (l.drop (j+1))<=1000000/\s.tm 0 = .sl 1 (ints x) (some k)/\s.tm 1 = .sl 4 (avs l) none/\s.tm 5 = .i j/\s.tm 6 = .sl 1 (ints w) none/\s.tm 7 = .i p/\s.h=H x.length++L:=⟨_,rfl⟩;refine QD I ?_ (m:=w.length) ?_
   ·intro m' s hs;rw[hI]at hs;obtain⟨tm,hp⟩:=s;dsimp only at hs;obtain⟨p,x,rfl,hp,hx,hxb,t0,t1,t5,t6,t7,rfl⟩:=hs
    by_cases hlp:p<w.length
    ·have wp:IntKind.i64.wrap (((p:Nat):Int)+1)=((p+1:Nat):Int):=XM (by omega)
     have cp:=Qep x (some k) w[p] (by omega)
     rw[QuQ hlp]at hx
     have hb1:x.length+1<=maxLen:=by simp only[maxLen];omega
     have hb2:(x.length+1) * 8<=140737488355328:=by omega
     by_cases hmem:w[p]∈x
     ·have hx2:ded x (w.drop (p+1))=ded v w:=by rw[<-hx,ded];show _=ded (ins x w[p]) _;rw[ins,QuH hmem]
      rw[plcR,QuH hmem]at cp
      have z:¬((plc x w[p]:Nat):Int)<0:=by omega
      repeat (first|refine Qe cp ?_|refine Qb ?_);simp only[go_sem,seval,t0,t6,t7,hlp,QbM hlp,z,wp]
      refine XB.mk (m':=w.length - (p+1)) (by omega) ?_
      rw[hI]
      exact⟨p+1,x,rfl,hlp,hx2,by omega,t0,t1,t5,t6,rfl,rfl⟩
     ·have hx2:ded (x++[w[p]]) (w.drop (p+1))=ded v w:=by rw[<-hx,ded];show _=ded (ins x w[p]) _;rw[ins,QuE hmem]
      rw[plcR,QuE hmem]at cp
      have z:(-1:Int)<0:=by decide
      repeat (first|refine Qe cp ?_|refine Qb ?_);simp only[go_sem,seval,t0,t6,t7,hlp,QbM hlp,z,wp,gt,st,hb1,hb2]
      refine XB.mk (m':=w.length - (p+1)) (by omega) ?_
      rw[hI]
      exact⟨p+1,x++[w[p]],rfl,hlp,hx2,by rw[Quw,QvE];omega,by rw[Qfn,Qks];rfl,t1,t5,t6,rfl,by rw[Quw];rfl⟩
    ·have hpl:p=w.length:=by omega
     have hx2:x=ded v w:=by rw[<-hx,hpl,Qvb];rfl
     repeat refine Qb ?_;simp only[go_sem,seval,t5,t6,t7,hlp,wj]
     refine XB.mk (m':=l.length - (j+1)) (by omega) ?_
     rw[hIo]
     refine⟨j+1,x,rfl,hlt,?_,by omega,t0,t1,rfl,rfl⟩
     rw[hx2,e2];exact he
   ·rw[hI]
    exact⟨0,v,rfl,QuG _,rfl,by omega,t0,t1,t5,rfl,rfl,rfl⟩
  ·have hjl:j=l.length:=by omega
   rw[hjl,Qvb]at he
   simp only[Yd,ded]at he
   repeat refine Qb ?_;simp only[go_sem,seval,t0,t1,t5,hlt]
   exact .inr ⟨by rw[he],by rw[he]⟩
 ·rw[hI]
  exact⟨0,u,by omega,QuG _,rfl,by simpa using hb,rfl,rfl,rfl,rfl⟩
structure OneTk (tot:Nat) (t:Tk):Prop where
 int:t.kind=3->(∀c∈t.text.toList,isD c=true)/\numVal t.text.toList<=2147483648
 pos:0<=t.pos/\t.pos<=tot
 nam:t.kind=1->opB t.text=false
theorem QoU{x:ByteArray}(h:opB x=true):∃c,x.toList=[c]/\isL c=false:=by
 rcases QhC.1 h with h|h
 ·simp only[YJ,QuL,QuS,Qvz]at h
  rcases h with h|h|h <;> exact⟨_,h,by decide⟩
 ·simp only[ZY,QuL,QuS,Qvz]at h
  rcases h with h|h <;> exact⟨_,h,by decide⟩
theorem QqA{q x:List UInt8}{k:Int}(h:Zn q = .inl (k,x)):(k=3->(∀c∈x,isD c=true)/\numVal x<=2147483648)/\(k=1->opB (mkB x)=false):=by
 cases q with
 |nil=>cases h;exact⟨fun e=>absurd e (by decide),fun e=>absurd e (by decide)⟩
 |cons c r =>
  rw[Zn]at h
  split at h
  ·rename_i hL
   split at h
   ·cases h
   ·cases h
    refine⟨fun e=>by split at e <;> exact absurd e (by decide),fun _=>?_⟩
    cases ho:opB (mkB ((c::r).takeWhile isW))with
    |false=>rfl
    |true =>
     obtain⟨d,h1,h2⟩:=QoU ho
     have hw:isW c=true:=by unfold isW;rw[hL];rfl
     rw[Qen,QvR,QuH hw,List.cons.injEq]at h1
     rw[h1.1]at hL
     rw[hL]at h2;cases h2
  ·split at h
   ·split at h
    ·cases h
    ·rename_i hb
     cases h
     exact⟨fun _=>⟨fun d hd=>Qvg.1 List.all_takeWhile d hd,by omega⟩,fun e=>absurd e (by decide)⟩
   ·split at h
    ·cases h;exact⟨fun e=>absurd e (by decide),fun e=>absurd e (by decide)⟩
    ·cases h
theorem QkR(tot:Nat):∀(m:Nat) (q:List UInt8) (ts:List Tk),QaZ tot m q = .inl ts->q.length<m->(∀t∈ts,OneTk tot t)/\(∃a e,ts=a++[e]/\e.kind=0/\∀t∈a,t.kind≠0)/\ts.length<=q.length+1
 |0,_,_,_,h=>by omega
 |m+1,q,ts,h,hm=>by
  rw[QaZ]at h
  have hsk:=QcL false q
  cases ht:Zn (XS false q)with
  |inr e=>rw[ht]at h;cases h
  |inl p =>
   obtain⟨k,x⟩:=p
   rw[ht]at h
   simp only at h
   obtain⟨h1,h2⟩:=QqA ht
   split at h
   ·rename_i k0
    cases h
    refine⟨fun t hm=>?_,⟨[],_,rfl,rfl,fun t h=>(QuS h).elim⟩,by simp⟩
    rw[Qvt]at hm
    subst hm
    exact⟨fun e=>absurd (show(0:Int)=3 from e) (by decide),⟨by show(0:Int)<=((tot - _:Nat):Int);omega,by show((tot - _:Nat):Int)<=_;omega⟩,fun e=>absurd (show(0:Int)=1 from e) (by decide)⟩
   ·rename_i k0
    rcases Qh0 ht with⟨k1,_,_⟩|⟨k1,hx1,r,hx2⟩
    ·exact absurd k1 k0
    ·have hxl:0<x.length:=QvZ.2 hx1
     have hxr:x.length<=(XS false q).length:=by rw[hx2,Quw];omega
     cases hs:QaZ tot m ((XS false q).drop x.length)with
     |inr e=>rw[hs]at h;cases h
     |inl us =>
      rw[hs]at h
      cases h
      obtain⟨a1,⟨a,e,a2,a3,a4⟩,a5⟩:=QkR tot m _ us hs (by rw[QuX];omega)
      rw[QuX]at a5
      refine⟨fun t hm=>?_,⟨⟨k,_,mkB x⟩::a,e,by rw[a2];rfl,a3,fun t hm=>?_⟩,by simp only[QtS];omega⟩
      ·rw[QuL]at hm
       rcases hm with rfl|hm
       ·exact⟨fun e=>by rw[Qen];exact h1 e,⟨by show(0:Int)<=((tot - _:Nat):Int);omega,by show((tot - _:Nat):Int)<=_;omega⟩,h2⟩
       ·exact a1 t hm
      ·rw[QuL]at hm
       rcases hm with rfl|hm
       ·exact k1
       ·exact a4 t hm
theorem Qd8{l:List UInt8}{ts:List Tk}(h:Zx l = .inl ts):TkOk ts/\Wst ts ⟨ts,[]⟩/\ts.length<=1000000/\l.length<=16384:=by
 rw[Zx]at h
 split at h
 ·cases h
 ·rename_i hl
  obtain⟨h1,⟨a,e,h2,h3,h4⟩,h5⟩:=QkR l.length (l.length+1) l ts h (by omega)
  exact⟨⟨fun t ht=>(h1 t ht).int,fun t ht=>⟨(h1 t ht).pos.1,by have:=(h1 t ht).pos.2;omega⟩,fun t ht=>(h1 t ht).nam⟩,⟨⟨a,e,h2,h3,h4⟩,List.suffix_refl _,by simp⟩,by omega,by omega⟩
end Go.Proofs.YticgcpebdldbgaaGreatDoor.Ab
namespace Go.Proofs.YticgcpebdldbgaaGreatDoor.Ab
open Go.Proofs
theorem Qi5(tot:Nat):∀(m:Nat) (q:List UInt8) (p:Int×Int),QaZ tot m q = .inr p->p.2≠0
 |0,_,_,h=>by cases h
 |m+1,q,p,h=>by
  rw[QaZ]at h
  cases ht:Zn (XS false q)with
  |inr e=>rw[ht]at h;cases h;exact QhZ ht
  |inl y =>
   obtain⟨k,x⟩:=y
   rw[ht]at h
   simp only at h
   split at h
   ·cases h
   ·cases hs:QaZ tot m ((XS false q).drop x.length)with
    |inr e=>rw[hs]at h;cases h;exact Qi5 tot m _ _ hs
    |inl us=>rw[hs]at h;cases h
theorem Qbr{l:List UInt8}{p:Int×Int}(h:Zx l = .inr p):p.2≠0:=by
 rw[Zx]at h
 split at h
 ·cases h;decide
 ·exact Qi5 _ _ _ _ h
theorem Qjb{l:List UInt8}{ts:List Tk}(hs:Zx l = .inl ts)(h:AH)(hG:QaN h):QA Tryz.prog 40 [.v (.string (mkB l))] h fun o h'=>o = .ret (.agg [.sl 3 (tks ts) none,.i 0])/\h'=h:=by
 have cs:=fun L=>Qi4 l (h++L) (hG.app L)
 rw[hs,scR]at cs
 have e0:((0:Int) != 0)=false:=rfl
 refine Qa Tryz.func40 rfl Tryz.call40 Tryz.ntmps40 Tryz.results40 (by simp) ?_
 repeat (first|refine FunW.QsR (cs _) ?_|refine Qb ?_);simp only[go_sem,seval]
 refine Qc (htake _ _) (.keep (.agg _ fun a ha=>?_)) ⟨rfl,rfl⟩
 simp only[QuL,QuS,Qvz]at ha
 rcases ha with rfl|rfl
 ·exact .sl 3 _ none (Qb0 _ _) (fun b hb=>by cases hb)
 ·exact .v _
theorem Ql0{l:List UInt8}{p e:Int}(hs:Zx l = .inr (p,e))(h:AH)(hG:QaN h):QA Tryz.prog 40 [.v (.string (mkB l))] h fun o h'=>o = .panic (Fl p e)/\h'=h:=by
 have cs:=fun L=>Qi4 l (h++L) (hG.app L)
 rw[hs,scR]at cs
 have e0:(e != 0)=true:=by simpa using Qbr hs
 have hu:=Tryz.underlying90
 refine Qa Tryz.func40 rfl Tryz.call40 Tryz.ntmps40 Tryz.results40 (by simp) ?_
 repeat (first|refine FunW.QsR (cs _) ?_|refine Qb ?_);simp only[go_sem,seval,e0,hu]
 exact Qc (htake _ _) (.keep (QcA _ _ _)) ⟨rfl,rfl⟩
def P0(h:AH)(ts:List Tk):Pz:=⟨ts,h.length+2,h.length+4,h.length+3⟩
def hp0(h:AH)(ts:List Tk):AH:=ph (h++[iC 0,eC 0,.cells 61 4 [.agg [.sl 3 (tks ts) none,.i 0,.v (.slice none 0 0),.v (.map none)]]]++[.dead,.dead]) (P0 h ts) ⟨ts,[]⟩
theorem QqH(h:AH)(ts:List Tk)(x:AB):(P0 h ts).ok (h++[iC 0,eC 0,x]++[.dead,.dead]):=by
 refine⟨?_,?_,?_,?_,?_,?_⟩ <;> simp only[P0,Quw,QtS,QtT] <;> omega
theorem Qpu(h:AH)(ts:List Tk):QA Tryz.prog 41 [.ptr (h.length+2) 0 0] (h++[iC 0,eC 0,.cells 61 4 [.agg [.sl 3 (tks ts) none,.i 0,.v (.slice none 0 0),.v (.map none)]]]) fun o h'=>o = .ret (.tup [])/\h'=hp0 h ts:=by
 have:=Qjq (X:=h++[iC 0,eC 0,.cells 61 4 [.agg [.sl 3 (tks ts) none,.i 0,.v (.slice none 0 0),.v (.map none)]]]) (P:=P0 h ts) (s:=⟨ts,[]⟩) (by
  show(h++_)[h.length+2]? = _
  rw[hget]
  simp only[P0,Qu9];rfl) (by simp[P0])
 refine this.mono ?_
 rintro o h' ⟨rfl,rfl⟩
 refine⟨rfl,?_⟩
 rw[hp0]
 congr 1
 simp[P0,Pz.to]
theorem panQ{P:Program}{rs:List ResultVar}{h H:AH}{Q:AOut->AH->Prop}{tm:Nat->AV}{p e a0 e0:Int}{k:Nat}(hP:P=Tryz.prog)(hk:H[k]? = some (iC a0))(hk1:H[k+1]? = some (eC e0))(hq:∀L,Qbm P rs h Q .ret ⟨tm,(H.set k (iC p)).set (k+1) (eC e)++L⟩) :
  Qg5 P rs h Q [(39,[.ptr k 0 0,.ptr (k+1) 0 0])] (.pan (Fl p e) false) ⟨tm,H⟩:=by
 subst hP
 simp only[Qg5]
 refine Qb2.mono (QnE hk hk1 p e) ?_
 rintro m' h' ⟨rfl,L,rfl⟩
 exact hq L
theorem rtQ{P:Program}{rs:List ResultVar}{h H:AH}{Q:AOut->AH->Prop}{tm:Nat->AV}{k:Nat}(hP:P=Tryz.prog)(hq:Qbm P rs h Q .ret ⟨tm,H⟩) :
  Qg5 P rs h Q [(39,[.ptr k 0 0,.ptr (k+1) 0 0])] .ret ⟨tm,H⟩:=by
 subst hP
 simp only[Qg5]
 refine Qb2.mono QnF ?_
 rintro m' h' ⟨rfl,rfl⟩
 exact hq
theorem Ql7(n:Nat)(a b:Int):Below n (.tup [.i a,.i b]):=.tup _ fun x hx=>by
 simp only[QuL,QuS,Qvz]at hx
 rcases hx with rfl|rfl <;> exact .v _
theorem QiW{l:List UInt8}{p e:Int}(hs:Zx l = .inr (p,e))(fv:AV)(h:AH)(hG:QaN h):QA Tryz.prog 17 [.v (.string (mkB l)),fv] h fun o h'=>o = .ret (.tup [.i p,.i e])/\h'=h:=by
 have cs:=fun L=>Ql0 hs (h++L) (hG.app L)
 refine Qbt Tryz.func17 rfl Tryz.call17 Tryz.ntmps17 (Qvq Array.toList Tryz.results17) (by simp) ?_
 refine Z8 (ZR ?_)
 repeat refine Qb ?_;simp only[go_sem,seval]
 show DefW _ _ _ _ _ _
 refine Z8 (QcW 1 rfl rfl rfl ?_)
 simp only[go_sem,seval]
 refine⟨_,_,_,rfl,?_⟩
 show DefW _ _ _ _ _ _
 refine Z8 (ZR ?_)
 repeat (first|refine FunW.pan (FunW.call (cs _)) ?_|refine Qb ?_);simp only[go_sem,seval]
 simp only[AExit.Qtz,Qmc]
 refine panQ (a0:=0) (e0:=0) rfl (by rw[X8];rfl) (by rw[hget];rfl) fun L=>?_
 rw[Yh,hset]
 simp only[go_sem,seval,Quz]
 exact Qc (htake _ _) (.keep (Ql7 _ _ _)) ⟨rfl,rfl⟩
section
variable{l:List UInt8}{ts:List Tk}(hs:Zx l = .inl ts)(fv:AV)(h:AH)(hG:QaN h)(Ok:AH->Prop)(hOk:∀Y a b L,h.length+1<Y.length->Ok Y->Ok ((Y.set h.length a).set (h.length+1) b++L))
include hs hG hOk
theorem QnG(HF:FunW Tryz.prog fv [.ptr (h.length+2) 0 0] (hp0 h ts) fun o h'=>o = .ret (.tup [])/\∃Y:{Y:AH // Y[h.length]? = some (iC 0)/\Y[h.length+1]? = some (eC 0)/\Ok Y},h'=Y.1) :
  QA Tryz.prog 17 [.v (.string (mkB l)),fv] h fun o h'=>o = .ret (.tup [.i 0,.i 0])/\∃Y:{Y:AH // Ok Y},h'=Y.1:=by
 have cs:=fun L=>Qjb hs (h++L) (hG.app L)
 have cc:=Qpu h ts
 refine Qbt Tryz.func17 rfl Tryz.call17 Tryz.ntmps17 (Qvq Array.toList Tryz.results17) (by simp) ?_
 refine Z8 (ZR ?_)
 repeat refine Qb ?_;simp only[go_sem,seval]
 show DefW _ _ _ _ _ _
 refine Z8 (QcW 1 rfl rfl rfl ?_)
 simp only[go_sem,seval]
 refine⟨_,_,_,rfl,?_⟩
 show DefW _ _ _ _ _ _
 refine Z8 (ZR ?_)
 repeat (first|refine FunW.QsR (cs _) ?_|refine Qb ?_);simp only[go_sem,seval]
 show DefW _ _ _ _ _ _
 refine Z8 (ZR ?_)
 repeat (first|refine FunW.QsR cc ?_|refine Qb ?_);simp only[go_sem,seval]
 show DefW _ _ _ _ _ _
 refine Z8 (ZR ?_)
 repeat (first|refine FunW.retE HF fun Y=>?_|refine Qb ?_);simp only[go_sem,seval]
 have hY:=Y.2
 generalize Y.1=Y1 at *
 obtain⟨y1,y2,y3⟩:=hY
 have l1:=Qf y1
 have l2:=Qf y2
 repeat refine Qb ?_;simp only[go_sem,seval]
 show DefW _ _ _ _ _ _
 refine ZR ?_
 have u1:∀y,(Y1.set h.length y)[h.length+1]? = some (eC 0):=fun y=>by rw[Quy (by omega)];exact y2
 have u2:∀y z,((Y1.set h.length y).set (h.length+1) z)[h.length]? = some y:=fun y z=>by rw[Quy (by omega),QuF l1]
 have u3:∀y z,((Y1.set h.length y).set (h.length+1) z)[h.length+1]? = some z:=fun y z=>QuF (by rw[QuI];exact l2)
 repeat refine Qb ?_;simp only[go_sem,seval,y1,u1]
 simp only[Qmc]
 refine rtQ rfl ?_
 simp only[go_sem,seval,u2,u3]
 have:=hOk Y1 (iC 0) (eC 0) [] l2 y3
 rw[Qt8]at this
 exact .inr ⟨rfl,⟨_,this⟩,rfl⟩
theorem QkJ{p e:Int}(HF:FunW Tryz.prog fv [.ptr (h.length+2) 0 0] (hp0 h ts) fun o h'=>o = .panic (Fl p e)/\∃Y:{Y:AH // Y[h.length]? = some (iC 0)/\Y[h.length+1]? = some (eC 0)/\Ok Y},h'=Y.1) :
  QA Tryz.prog 17 [.v (.string (mkB l)),fv] h fun o h'=>o = .ret (.tup [.i p,.i e])/\∃Y:{Y:AH // Ok Y},h'=Y.1:=by
 have cs:=fun L=>Qjb hs (h++L) (hG.app L)
 have cc:=Qpu h ts
 refine Qbt Tryz.func17 rfl Tryz.call17 Tryz.ntmps17 (Qvq Array.toList Tryz.results17) (by simp) ?_
 refine Z8 (ZR ?_)
 repeat refine Qb ?_;simp only[go_sem,seval]
 show DefW _ _ _ _ _ _
 refine Z8 (QcW 1 rfl rfl rfl ?_)
 simp only[go_sem,seval]
 refine⟨_,_,_,rfl,?_⟩
 show DefW _ _ _ _ _ _
 refine Z8 (ZR ?_)
 repeat (first|refine FunW.QsR (cs _) ?_|refine Qb ?_);simp only[go_sem,seval]
 show DefW _ _ _ _ _ _
 refine Z8 (ZR ?_)
 repeat (first|refine FunW.QsR cc ?_|refine Qb ?_);simp only[go_sem,seval]
 show DefW _ _ _ _ _ _
 refine Z8 (ZR ?_)
 repeat (first|refine FunW.panE HF fun Y=>?_|refine Qb ?_);simp only[go_sem,seval]
 have hY:=Y.2
 generalize Y.1=Y1 at *
 obtain⟨y1,y2,y3⟩:=hY
 have l1:=Qf y1
 have l2:=Qf y2
 simp only[AExit.Qtz,Qmc]
 refine panQ rfl y1 y2 fun L=>?_
 have u2:∀y z,((Y1.set h.length y).set (h.length+1) z++L)[h.length]? = some y:=fun y z=>by rw[Qux (by simp only[QuI];exact l1),Quy (by omega),QuF l1]
 have u3:∀y z,((Y1.set h.length y).set (h.length+1) z++L)[h.length+1]? = some z:=fun y z=>by rw[Qux (by simp only[QuI];exact l2)];exact QuF (by rw[QuI];exact l2)
 simp only[go_sem,seval,u2,u3]
 exact .inr ⟨rfl,⟨_,hOk Y1 (iC p) (eC e) L l2 y3⟩,rfl⟩
end
end Go.Proofs.YticgcpebdldbgaaGreatDoor.Ab
namespace Go.Proofs.YticgcpebdldbgaaGreatDoor.Ab
open Go.Proofs
theorem FunW.cl{P:Program}{f:FuncId}{args cap:List AV}{h:AH}{Q:AOut->AH->Prop}(H:QA P f (args++cap) h Q):FunW P (.fn (.func f) [] cap) args h Q:=FunW.fn (by rw[Qt6];exact H)
def psR:Pg ⊕ (Int×Int)->AV
 | .inl p=>.tup [p.av,.i 0,.i 0]
 | .inr e=>.tup [(⟨[],[]⟩:Pg).av,.i e.1,.i e.2]
theorem QpM(n:Nat)(p:Pg):Below n p.av:=.agg _ fun a ha=>by
 simp only[QuL,QuS,Qvz]at ha
 rcases ha with rfl|rfl
 ·exact QcN Dc.av n 2 (fun d=>Dc.bel n d) _
 ·exact QcN Rl.av n 6 (fun r=>Rl.bel n r) _
theorem Qnv(n:Nat)(r:Pg ⊕ (Int×Int)):Below n (psR r):=by
 cases r with
 |inl p=>exact Qa6 (QpM n p) _ _
 |inr e=>exact Qa6 (QpM n _) _ _
theorem Qnw{H:AH}{m:Nat}(p e:Int):Frz H m (.tup [.agg [.v (.slice none 0 0),.v (.slice none 0 0)],.i p,.i e]) (psR (.inr (p,e))):=by
 refine .tup rfl fun j a a' h1 h2=>?_
 match j,h1,h2 with
 |0,h1,h2 =>
  cases h1;cases h2
  refine .agg rfl fun j a a' h1 h2=>?_
  match j,h1,h2 with
  |0,h1,h2=>cases h1;cases h2;exact .nil 2
  |1,h1,h2=>cases h1;cases h2;exact .nil 6
  |j+2,h1,h2=>simp at h1
 |1,h1,h2=>cases h1;cases h2;exact .keep (.v _)
 |2,h1,h2=>cases h1;cases h2;exact .keep (.v _)
 |j+3,h1,h2=>simp at h1
theorem QlG{all:List Tk}{s:PS}(hW:Wst all s){p e:Int}(h:QjN s = .err p e):e≠0:=Kp.Ps.err (n:=wdOf all) (Kp.prog_ps trivial) hW h
section
variable(l:List UInt8)(h:AH)(hG:QaN h)
include hG
theorem Qd0:QA Tryz.prog 7 [.v (.string (mkB l))] h fun o h'=>o = .ret (psR (QkF l))/\h'=h:=by
 rw[QkF]
 cases hs:Zx l with
 |inr q =>
  obtain⟨p,e⟩:=q
  have cr:=fun fv L=>QiW hs fv (h++L) (hG.app L)
  have e0:(e != 0)=true:=by simpa using Qbr hs
  refine Qa Tryz.func7 rfl Tryz.call7 Tryz.ntmps7 Tryz.results7 (by simp) ?_
  repeat first|(first|refine FunW.QsR (cr _ _) ?_|refine Qb ?_);simp only[go_sem,seval,e0]|refine hK _ ?_;clear hK
  exact Qc (htake _ _) (Qnw _ _) ⟨rfl,rfl⟩
 |inl ts =>
  obtain⟨hD,hW,hN,hl⟩:=Qd8 hs
  obtain⟨H,hH⟩:∃H,H=h++[pgB nilV nilV,pgB nilV nilV]:=⟨_,rfl⟩
  have hHl:H.length=h.length+2:=by rw[hH];simp
  have hHG:QaN H:=by rw[hH];exact hG.app _
  have hPo:=QqH H ts (.cells 61 4 [.agg [.sl 3 (tks ts) none,.i 0,.v (.slice none 0 0),.v (.map none)]])
  have hout:∀i,i<h.length->(H++[iC 0,eC 0,.cells 61 4 [.agg [.sl 3 (tks ts) none,.i 0,.v (.slice none 0 0),.v (.map none)]]]++[.dead,.dead])[i]? = h[i]? := fun i hi=>by
   rw[Quz,Qux (by omega),hH,Qux hi]
  have hlen:(H++[iC 0,eC 0,.cells 61 4 [.agg [.sl 3 (tks ts) none,.i 0,.v (.slice none 0 0),.v (.map none)]]]++[AB.dead,.dead]).length=h.length+7:=by simp only[Quw,QtS,QtT,hHl]
  have cf:=QlK (P:=P0 H ts) (s:=⟨ts,[]⟩) hW hPo hN hD (o:=h.length+1) (by omega) (by simp only[P0];omega) (by simp only[P0];omega) (by simp only[P0];omega)
   (by rw[Quz,Qux (by omega),hH,hget];rfl)
  have hst:∀(K:AH->Prop) (Y:AH) a b L,H.length+1<Y.length->(∀i,i<h.length->Y[i]? = h[i]?)->∀i,i<h.length->((Y.set H.length a).set (H.length+1) b++L)[i]? = h[i]? := fun K Y a b L hl hy i hi=>by
   rw[Qux (by simp only[QuI];omega),Quy (by omega),Quy (by omega)];exact hy i hi
  have hc0:∀Y,KpO (H++[iC 0,eC 0,.cells 61 4 [.agg [.sl 3 (tks ts) none,.i 0,.v (.slice none 0 0),.v (.map none)]]]++[AB.dead,.dead]) (P0 H ts) (h.length+1) Y->Y[H.length]? = some (iC 0)/\Y[H.length+1]? = some (eC 0)/\h.length+7<=Y.length/\(∀i,i<h.length->Y[i]? = h[i]?)/\Y[h.length]? = some (pgB nilV nilV):=fun Y hY=>by
   refine⟨?_,?_,by have:=hY.long;omega,fun i hi=>?_,?_⟩
   ·rw[hY.out H.length (by omega) (by omega) (by simp only[P0];omega) (by simp only[P0];omega) (by simp only[P0];omega),Quz,X8];rfl
   ·rw[hY.out (H.length+1) (by omega) (by omega) (by simp only[P0];omega) (by simp only[P0];omega) (by simp only[P0];omega),Quz,hget];rfl
   ·rw[hY.out i (by omega) (by omega) (by simp only[P0];omega) (by simp only[P0];omega) (by simp only[P0];omega)];exact hout i hi
   ·rw[hY.out h.length (by omega) (by omega) (by simp only[P0];omega) (by simp only[P0];omega) (by simp only[P0];omega),Quz,Qux (by omega),hH,X8];rfl
  cases hp:QjN ⟨ts,[]⟩with
  |err p e =>
   rw[hp]at cf
   have e0:(e != 0)=true:=by simpa using QlG hW hp
   have cr:=QkJ hs (.fn (.func 18) [] [.ptr (h.length+1) 0 0]) H hHG (fun Y=>h.length+2<=Y.length/\(∀i,i<h.length->Y[i]? = h[i]?)/\Y[h.length]? = some (pgB nilV nilV))
    (fun Y a b L hl hy=>⟨by simp only[Quw,QuI];omega,hst (fun _=>True) Y a b L hl hy.2.1,by rw[Qux (by simp only[QuI];omega),Quy (by omega),Quy (by omega)];exact hy.2.2⟩) (p:=p) (e:=e)
    (FunW.cl (cf.mono fun o h' q=>by
     obtain⟨q1,⟨Y,hY⟩,q2⟩:=q
     obtain⟨y1,y2,y3,y4,y5⟩:=hc0 Y hY
     exact⟨q1,⟨Y,y1,y2,by omega,y4,y5⟩,q2⟩))
   rw[hH]at cr
   refine Qa Tryz.func7 rfl Tryz.call7 Tryz.ntmps7 Tryz.results7 (by simp) ?_
   repeat first|(first|refine FunW.retE (FunW.call cr) fun Y=>?_|refine Qb ?_);simp only[go_sem,seval,e0,Quw]|refine hK _ ?_;clear hK
   have hY:=Y.2
   generalize Y.1=Y1 at *
   obtain⟨y0,y1,y2⟩:=hY
   have u1:∀y,(Y1.set h.length y)[h.length]? = some y:=fun y=>QuF (by omega)
   have ht:∀y,(Y1.set h.length y).take h.length=h:=fun y=>Qvs fun i=>by
    by_cases hi:i<h.length
    ·rw[QuW hi,Quy (by omega)];exact y1 i hi
    ·rw[QvX (by omega),Qvf (by omega)]
   simp only[QC,QI,↓reduceIte,QtS,QtT,Nat.reduceAdd,QtR,Qud,QtF,Qt9,QtH,y2]
   repeat first|refine Qb ?_;simp only[go_sem,seval]|refine hK _ ?_;clear hK
   simp only[go_sem,seval,u1]
   exact Qc (ht _) (Qnw _ _) ⟨by simp only[hp],rfl⟩
  |ok pg s2 =>
   rw[hp]at cf
   have e0:((0:Int) != 0)=false:=rfl
   obtain⟨D,hDe⟩:∃D,D=pgB (.sl 2 (vs Dc.av pg.decls) none) (.sl 6 (vs Rl.av pg.rules) none):=⟨_,rfl⟩
   have cr:=QnG hs (.fn (.func 18) [] [.ptr (h.length+1) 0 0]) H hHG (fun Y=>h.length+2<=Y.length/\(∀i,i<h.length->Y[i]? = h[i]?)/\Y[h.length]? = some (pgB nilV nilV)/\Y[h.length+1]? = some D)
    (fun Y a b L hl hy=>⟨by simp only[Quw,QuI];omega,hst (fun _=>True) Y a b L hl hy.2.1,by rw[Qux (by simp only[QuI];omega),Quy (by omega),Quy (by omega)];exact hy.2.2.1,by rw[Qux (by simp only[QuI];omega),Quy (by omega),Quy (by omega)];exact hy.2.2.2⟩)
    (FunW.cl (cf.mono fun o h' q=>by
     obtain⟨q1,⟨Y,hY,hY2⟩,q2⟩:=q
     obtain⟨y1,y2,y3,y4,y5⟩:=hc0 Y hY
     exact⟨q1,⟨Y,y1,y2,by omega,y4,y5,by rw[hDe];exact hY2⟩,q2⟩))
   rw[hH]at cr
   refine Qa Tryz.func7 rfl Tryz.call7 Tryz.ntmps7 Tryz.results7 (by simp) ?_
   repeat first|(first|refine FunW.retE (FunW.call cr) fun Y=>?_|refine Qb ?_);simp only[go_sem,seval,Quw]|refine hK _ ?_;clear hK
   have hY:=Y.2
   generalize Y.1=Y1 at *
   obtain⟨y0,y1,y2,y3⟩:=hY
   rw[hDe]at y3
   have u1:∀y,(Y1.set h.length y)[h.length]? = some y:=fun y=>QuF (by omega)
   have ht:∀y,(Y1.set h.length y).take h.length=h:=fun y=>Qvs fun i=>by
    by_cases hi:i<h.length
    ·rw[QuW hi,Quy (by omega)];exact y1 i hi
    ·rw[QvX (by omega),Qvf (by omega)]
   simp only[QC,QI,QtZ,Qt0,Xc,Qt1,↓reduceIte,QtS,QtT,Nat.reduceAdd,QtR,Qud,QtF,Qt9,QtH,y2,y3]
   repeat first|refine Qb ?_;simp only[go_sem,seval]|refine hK _ ?_;clear hK
   simp only[go_sem,seval,u1]
   exact Qc (ht _) (.keep (Qnv _ (.inl pg))) ⟨by simp only[hp];rfl,rfl⟩
end
end Go.Proofs.YticgcpebdldbgaaGreatDoor.Ab
namespace Go.Proofs.YticgcpebdldbgaaGreatDoor.Ab
open Go.Proofs
def tvB(n:Nat)(l:List Int):Prop:=∀v∈l,0<=v/\v<n
theorem tvB.mono{n m:Nat}{l:List Int}(h:tvB n l)(hn:n<=m):tvB m l:=fun v hv=>by have:=h v hv;omega
theorem tvB.app{n:Nat}{l m:List Int}(h:tvB n l)(k:tvB n m):tvB n (l++m):=fun v hv=>(Qvh.1 hv).elim (h v) (k v)
theorem Qbk(n:Nat):tvB n []:=fun v hv=>(QuS hv).elim
def VbT(f:PS->PR T):Prop:=∀s t s2,f s = .ok t s2->s.names.length<=s2.names.length/\tvB s2.names.length t.vars/\tvB s2.names.length (Yd t.args)
theorem QcO{b:List UInt8}{s s2:PS}{u:Unit}(h:YM b s = .ok u s2):s2.names=s.names:=by
 unfold YM at h
 split at h
 ·cases h;rfl
 ·cases h
theorem Qly{s s2:PS}{x:ByteArray}(h:QaC s = .ok x s2):s2.names=s.names:=by
 unfold QaC at h
 split at h
 ·cases h
 ·split at h
  ·cases h
  ·cases h;rfl
theorem Qk0(t:T):Yd [t]=t.vars:=by simp[Yd]
section
variable{ex:PS->PR T}(H:VbT ex)
include H
theorem Qmm:∀(m:Nat) (l:List T) (s:PS) (a:List T) (s2:PS),tvB s.names.length (Yd l)->Z1 ex m l s = .ok a s2->s.names.length<=s2.names.length/\tvB s2.names.length (Yd a)
 |0,_,_,_,_,_,h=>by cases h
 |m+1,l,s,a,s2,hl,h=>by
  rw[Z1]at h
  obtain⟨t,s1,h1,h⟩:=bind_ok h
  obtain⟨a1,a2,_⟩:=H s t s1 h1
  have hl2:tvB s1.names.length (Yd (l++[t])):=by rw[QeA,Qk0];exact(hl.mono a1).app a2
  split at h
  ·obtain⟨b1,b2⟩:=Qmm m (l++[t]) s1.nx a s2 hl2 h
   exact⟨Qu1 a1 b1,b2⟩
  ·obtain⟨u,s3,h3,h⟩:=bind_ok h
   have e:=QcO h3
   cases h
   rw[e];exact⟨a1,hl2⟩
theorem Qp4{s s2:PS}{g:G}(h:ZU ex s = .ok g s2):s.names.length<=s2.names.length/\tvB s2.names.length (Yd g.args):=by
 rw[ZU]at h
 obtain⟨x,s1,h1,h⟩:=bind_ok h
 have e:=Qly h1
 split at h
 ·obtain⟨l,s3,h3,h⟩:=bind_ok h
  obtain⟨b1,b2⟩:=Qmm H _ [] s1.nx l s3 (by rw[Yd];exact Qbk _) h3
  cases h
  exact⟨by rw[<-e];exact b1,b2⟩
 ·cases h
  exact⟨by rw[e];exact QuD _,by show tvB _ (Yd []);rw[Yd];exact Qbk _⟩
theorem Qrj:VbT (pOpT ex):=fun s t s2 h=>by
 unfold pOpT at h
 split at h
 ·cases h;exact⟨QuD _,by simp only[T.vars];exact Qbk _,Qbk _⟩
 ·split at h
  ·unfold pVari at h
   split at h
   ·rename_i hv
    cases h
    refine⟨QuD _,?_,Qbk _⟩
    show tvB s.nx.names.length [_]
    intro v hm
    rw[Qvt]at hm
    subst hm
    omega
   ·cases h
    refine⟨by show s.names.length<=(s.nx.names++[_]).length;rw[Quw];exact Nat.le_add_right _ _,?_,Qbk _⟩
    show tvB (s.nx.names++[_]).length [_]
    intro v hm
    rw[Qvt]at hm
    subst hm
    rw[Quw,QvE]
    omega
  ·split at h
   ·obtain⟨a,s1,h1,h⟩:=bind_ok h
    obtain⟨b1,b2⟩:=Qp4 H h1
    cases h
    refine⟨b1,?_,b2⟩
    simp only[T.vars]
    exact b2
   ·split at h
    ·split at h
     ·cases h
     ·cases h;exact⟨QuD _,by simp only[T.vars];exact Qbk _,Qbk _⟩
    ·split at h
     ·obtain⟨t1,s1,h1,h⟩:=bind_ok h
      obtain⟨u,s3,h3,h⟩:=bind_ok h
      obtain⟨a1,a2⟩:=H _ _ _ h1
      have e:=QcO h3
      cases h
      rw[e];exact⟨a1,a2⟩
     ·cases h
end
theorem Qii{op:PS->PR T}(H:VbT op)(ops:List (List UInt8)):∀(m:Nat) (t:T) (s:PS) (a:T) (s2:PS),tvB s.names.length t.vars->tvB s.names.length (Yd t.args)->YA op ops m t s = .ok a s2->s.names.length<=s2.names.length/\tvB s2.names.length a.vars/\tvB s2.names.length (Yd a.args)
 |0,t,s,a,s2,ht,hk,h=>by cases h;exact⟨QuD _,ht,hk⟩
 |m+1,t,s,a,s2,ht,hk,h=>by
  rw[YA]at h
  split at h
  ·obtain⟨u,s3,h3,h⟩:=bind_ok h
   obtain⟨a1,a2,_⟩:=H _ _ _ h3
   have a1':s.names.length<=s3.names.length:=a1
   have hv:tvB s3.names.length (Yd [t,u]):=by simp only[Yd,Qt8];exact(ht.mono a1').app a2
   obtain⟨b1,b2⟩:=Qii H ops m (.mk 2 0 s.tk.text [t,u]) s3 a s2 (by simp only[T.vars];exact hv) hv h
   exact⟨Qu1 a1' b1,b2⟩
  ·cases h;exact⟨QuD _,ht,hk⟩
theorem Qkc{op:PS->PR T}(H:VbT op)(ops:List (List UInt8)):VbT (YV op ops):=fun s t s2 h=>by
 rw[YV]at h
 obtain⟨u,s1,h1,h⟩:=bind_ok h
 obtain⟨a1,a2,a3⟩:=H _ _ _ h1
 obtain⟨b1,b2⟩:=Qii H ops _ u s1 t s2 a2 a3 h
 exact⟨Qu1 a1 b1,b2⟩
theorem Qke:∀n:Nat,VbT (Zf n)
 |0=>fun s t s2 h=>by cases h
 |n+1=>Qkc (Qkc (Qrj (Qke n)) YJ) ZY
theorem QhV:VbT YP:=fun s t s2 h=>Qke _ s t s2 h
theorem Qno{op:Int}{s s2:PS}{g:G}(h:Qb6 op s = .ok g s2):s.names.length<=s2.names.length/\tvB s2.names.length (Yd g.args):=by
 rw[Qb6]at h
 obtain⟨u,s1,h1,h⟩:=bind_ok h
 obtain⟨t,s3,h3,h⟩:=bind_ok h
 obtain⟨w,s4,h4,h⟩:=bind_ok h
 obtain⟨a1,a2,_⟩:=QhV _ _ _ h3
 have e1:=QcO h1
 have e4:=QcO h4
 cases h
 rw[e4]
 exact⟨by rw[<-e1];exact a1,by show tvB _ (Yd [t]);rw[Qk0];exact a2⟩
theorem Qou{s s2:PS}{g:G}(h:QaD s = .ok g s2):s.names.length<=s2.names.length/\tvB s2.names.length (Yd g.args):=by
 have e0:Yd []=[]:=rfl
 unfold QaD at h
 split at h
 ·split at h
  ·cases h;exact⟨QuD _,by show tvB _ (Yd []);rw[e0];exact Qbk _⟩
  ·split at h
   ·cases h;exact⟨QuD _,by show tvB _ (Yd []);rw[e0];exact Qbk _⟩
   ·split at h
    ·exact Qno (s:=s.nx) h
    ·split at h
     ·exact Qno (s:=s.nx) h
     ·cases h
 ·obtain⟨t,s1,h1,h⟩:=bind_ok h
  obtain⟨a1,a2,a3⟩:=QhV _ _ _ h1
  split at h
  ·rename_i op turn hc
   obtain⟨u,s3,h3,h⟩:=bind_ok h
   obtain⟨b1,b2,_⟩:=QhV _ _ _ h3
   have b1':s1.names.length<=s3.names.length:=b1
   cases h
   refine⟨Qu1 a1 b1',?_⟩
   show tvB s2.names.length (Yd (if turn=true then[u,t]else[t,u]))
   split
   ·simp only[Yd,Qt8];exact b2.app (a2.mono b1')
   ·simp only[Yd,Qt8];exact(a2.mono b1').app b2
  ·split at h
   ·cases h
    exact⟨a1,a3⟩
   ·cases h
theorem Qjy(l:List G)(g:G):XN (l++[g])=XN l++Yd g.args:=by simp[XN]
theorem Qis(most:Nat):∀(m:Nat) (l:List G) (s:PS) (a:List G) (s2:PS),tvB s.names.length (XN l)->Zg most m l s = .ok a s2->s.names.length<=s2.names.length/\tvB s2.names.length (XN a)
 |0,_,_,_,_,_,h=>by cases h
 |m+1,l,s,a,s2,hl,h=>by
  rw[Zg]at h
  split at h
  ·cases h
  ·obtain⟨g,s1,h1,h⟩:=bind_ok h
   obtain⟨a1,a2⟩:=Qou h1
   have hl2:tvB s1.names.length (XN (l++[g])):=by rw[Qjy];exact(hl.mono a1).app a2
   split at h
   ·cases h
   ·split at h
    ·obtain⟨b1,b2⟩:=Qis most m _ s1.nx a s2 hl2 h
     exact⟨Qu1 a1 b1,b2⟩
    ·cases h;exact⟨a1,hl2⟩
theorem Qkl{most:Nat}{s s2:PS}{a:List G}(h:Y8 most s = .ok a s2):tvB s2.names.length (XN a):=(Qis most _ [] s a s2 (Qbk _) h).2
end Go.Proofs.YticgcpebdldbgaaGreatDoor.Ab
namespace Go.Proofs.YticgcpebdldbgaaGreatDoor.Ab
open Go.Proofs
structure KpG (h:AH) (P:Pz) (o o2:Nat) (Y:AH):Prop where
 long:h.length<=Y.length
 out:∀i,i<h.length->i≠o->i≠o2->i≠P.i->i≠P.j->i≠P.g->Y[i]? = h[i]?
def GfQ(h:AH)(P:Pz)(o o2:Nat):PR (List G×List ByteArray)->AOut->AH->Prop
 | .ok q _,x,h'=>x = .ret (.tup [])/\∃Y:{Y:AH // KpG h P o o2 Y/\Y[o]? = some (.cells 32 1 [.sl 3 (lvG gv h.length q.1) none])/\At Y h.length (layG 48 h.length q.1)/\Y[o2]? = some (.cells 33 1 [.sl 1 (strs q.2) none])},h'=Y.1
 | .err p e,x,h'=>x = .panic (Fl p e)/\∃Y:{Y:AH // KpG h P o o2 Y/\Y[o2]? = h[o2]?},h'=Y.1
def qV(l:List G):List G:=l.map fun g=>⟨g.op,g.name,maps (fun v=>((plc (ded [] (XN l)) v:Nat):Int)) g.args⟩
def qN(s:PS)(l:List G):List ByteArray:=(ded [] (XN l)).map fun v=>s.names.getD v.toNat eB
theorem QfF(s:PS):Qeo s=(Y8 40 s).bind fun l s=>(pEnd s).bind fun _ s=>.ok (qV l,qN s l) s:=rfl
theorem Qnz(l:List G):Ym gG [] l=(qV l,ded [] (XN l)):=by
 have:=QcD [] l []
 simp only[Qt8]at this
 exact this
mutual
theorem T.Qts:∀t:T,t.vars.length<=t.nds
 | .mk k i x l=>by
  have:=Qf0 l
  simp only[T.vars,T.nds]
  split
  ·simp
  ·split
   ·omega
   ·simp
theorem Qf0:∀l:List T,(Yd l).length<=ndsL l
 |[]=>by simp[Yd]
 |t::l=>by
  have h1:=T.Qts t
  have h2:=Qf0 l
  simp only[Yd,ndsL,Quw]
  omega
end
theorem QgH:∀l:List G,(XN l).length<=ndG l
 |[]=>QuD _
 |g::l=>by
  have h1:=Qf0 g.args
  have h2:=QgH l
  have e:XN (g::l)=Yd g.args++XN l:=by simp[XN]
  rw[e,Quw,ndG];omega
section
variable{P:Pz}{s:PS}(hW:Wst P.all s){h:AH}(H:P.ok h)(hN:P.all.length<=1000000)(hD:TkOk P.all){o o2:Nat}(hol:o<h.length)(hoi:o≠P.i)(hoj:o≠P.j)(hog:o≠P.g)
 (hpl:o2<h.length) (hpi:o2≠P.i) (hpj:o2≠P.j) (hpg:o2≠P.g) (hoo:o≠o2)
include hW H hN hD hol hoi hoj hog hpl hpi hpj hpg hoo
theorem QjT(hob:h[o]? = some (.cells 32 1 [nilV]))(hob2:h[o2]? = some (.cells 33 1 [nilV])):QA Tryz.prog 28 [.ptr P.i 0 0,.ptr o 0 0,.ptr o2 0 0] (ph h P s) (GfQ h P o o2 (Qeo s)):=by
 have cg:=QdS hW H hN hD 40 (by omega)
 rw[QfF]
 cases hr:Y8 40 s with
 |err p e =>
  rw[hr]at cg
  have cg2:QA Tryz.prog 29 [.ptr P.i 0 0,.i 40] (ph h P s) fun o h'=>o = .panic (Fl p e)/\∃s2:PS,h'=ph h P s2:=cg
  refine Qa Tryz.func28 rfl Tryz.call28 Tryz.ntmps28 Tryz.results28 (by simp) ?_
  with_reducible repeat first|(first|refine Qd fun K E hK hE=>?_|refine FunW.panE (FunW.call cg2) fun r=>?_);simp only[go_sem,seval]|refine hE _ _ ?_
  exact .inr ⟨rfl,⟨_,⟨by rw[Xv];exact QuD _,fun i h1 h2 h3 h4 h5 h6=>by rw[Qaz H h4 h5 h6]⟩,by rw[Qaz H hpi hpj hpg]⟩,rfl⟩
 |ok l s2 =>
  rw[hr]at cg
  have cg2:QA Tryz.prog 29 [.ptr P.i 0 0,.i 40] (ph h P s) fun o h'=>o = .ret (.sl 3 (lvG gv h.length l) none)/\h'=ph h P s2++layG 48 h.length l:=cg
  have hW2:Wst P.all s2:=Kp.Ps.ok (n:=wdOf P.all) (Kp.goals_ps trivial 40) hW hr
  have hl0:=QeK hr
  have f1:=Xv h P s2
  obtain⟨X,hX⟩:∃X,X=(ph h P s2++layG 48 h.length l).set o (.cells 32 1 [.sl 3 (lvG gv h.length l) none]):=⟨_,rfl⟩
  have hXl:X.length=h.length+gsz l:=by rw[hX,QuI,Quw,Xv,Xd]
  have g0:(ph h P s2++layG 48 h.length l)[o]? = some (.cells 32 1 [nilV]):=by rw[Qux (by omega),Qaz H hoi hoj hog];exact hob
  have hXo:X[o]? = some (.cells 32 1 [.sl 3 (lvG gv h.length l) none]):=by rw[hX];exact QuF (by rw[Quw];omega)
  have hXi:X[P.i]? = some (pN P s2 (some P.g)):=by rw[hX,Quy hoi,Qux (by rw[f1];exact H.i),YW H];rfl
  have hXlow:∀i,i<h.length->i≠o->i≠P.i->i≠P.j->i≠P.g->X[i]? = h[i]? := fun i h1 h2 h3 h4 h5=>by rw[hX,Quy (Qvw h2),Qux (by omega),Qaz H h3 h4 h5]
  have hXA:At X h.length (layG 48 h.length l):=by
   have:=At.base (At.mid [] (layG 48 h.length l) [] rfl) f1
   rw[Qt6,Qt8]at this
   refine At.keep this fun i i1 i2=>?_
   rw[hX,Quy (by omega)]
  have hi3:=hXi
  rw[pN]at hi3
  by_cases hk:s2.tk.kind=0
  ·have ce:=Qoo hW2 hXi hk
   have hE:((PR.ok l s2).bind fun l s=>(pEnd s).bind fun _ s=>PR.ok (qV l,qN s l) s) = .ok (qV l,qN s2 l) s2:=by
    have:pEnd s2 = .ok () s2:=by rw[pEnd,QuH hk]
    show(pEnd s2).bind _=_
    rw[this];rfl
   rw[hE]
   rw[hX]at ce hi3
   refine Qa Tryz.func28 rfl Tryz.call28 Tryz.ntmps28 Tryz.results28 (by simp) ?_
   iterate 6 (try (first|((first|(with_reducible (first|refine Qd fun K E hK hE=>?_|refine FunW.QsR cg2 ?_|refine FunW.QsR ce ?_)));simp only[go_sem,seval,g0,hi3])|((with_reducible refine hK _ ?_);clear hK)))
   rw[<-hX]
   have hXo2:X[o2]? = some (.cells 33 1 [nilV]):=by rw[hXlow o2 hpl (Qvw hoo) hpi hpj hpg];exact hob2
   refine YY o2 33 1 1 (.grow 9 1 0) (.inr ⟨_,rfl⟩) [nilV] [.sl 1 [] (some X.length)] 0 hXo2 rfl rfl (by simp[AV.cells]) ?_
   obtain⟨X2,hX2⟩:∃X2,X2=(X++[AB.grow 9 1 0]).set o2 (.cells 33 1 [.sl 1 [] (some X.length)]):=⟨_,rfl⟩
   rw[<-hX2]
   have hX2l:X2.length=X.length+1:=by rw[hX2,QuI,Quw];rfl
   have hX2e:∀i,i<X.length->i≠o2->X2[i]? = X[i]? := fun i h1 h2=>by rw[hX2,Quy (Qvw h2),Qux h1]
   have hX2p:X2[o2]? = some (.cells 33 1 [.sl 1 [] (some X.length)]):=by rw[hX2];exact QuF (by rw[Quw];omega)
   have hX2t:X2[X.length]? = some (.grow 9 1 0):=by rw[hX2,Quy (by omega),QuB (QuD _),Qu9];rfl
   iterate 2 (try (first|(((with_reducible refine Qd fun K E hK hE=>?_));simp only[go_sem,seval])|((with_reducible refine hK _ ?_);clear hK)))
   refine YY X2.length 80 2 1 (.grow 3 1 0) (.inr ⟨_,rfl⟩) [.agg [.v (.map none),.v (.slice none 0 0)]] [.agg [.v (.map none),.sl 1 [] (some (X2.length+1))]] 1 (by rw[QuB (QuD _),Qu9];rfl) rfl (by rw[Quw];rfl) (by simp[AV.cells]) ?_
   have hZ:((X2++[AB.cells 80 2 [.agg [.v (.map none),.v (.slice none 0 0)]]])++[AB.grow 3 1 0]).set X2.length (AB.cells 80 2 [.agg [.v (.map none),.sl 1 [] (some (X2.length+1))]])=X2++[AB.cells 80 2 [.agg [.v (.map none),.sl 1 [] (some (X2.length+1))]],AB.grow 3 1 0]:=by
    rw[Quz,Qva _ _ (QuD _),Qu9];rfl
   have hN0:NSt (X2++[AB.cells 80 2 [.agg [.v (.map none),.sl 1 [] (some (X2.length+1))]],.grow 3 1 0]) X2.length []:=⟨.v (.map none),by rw[QuB (QuD _),Qu9];rfl,by rw[QuB (by omega),Qvc];rfl,.inl ⟨rfl,rfl⟩⟩
   rw[hZ]
   obtain⟨Z0,hZ0⟩:∃Z0,Z0=X2++[AB.cells 80 2 [.agg [.v (.map none),.sl 1 [] (some (X2.length+1))]],AB.grow 3 1 0]:=⟨_,rfl⟩
   rw[<-hZ0]at hN0
   rw[<-hZ0]
   have hZl:Z0.length=X2.length+2:=by rw[hZ0,Quw];rfl
   have hZe:∀i,i<X2.length->Z0[i]? = X2[i]? := fun i h1=>by rw[hZ0,Qux h1]
   obtain⟨hok,hl40⟩:=QcC hr
   have hps:∀g∈l,pss g.args:=fun g hg=>(QcB (hok g hg)).1
   have hnd:∀m:List G,(∀g∈m,ndsL g.args<=200)->ndG m<=200 * m.length:=fun m=>by
    induction m with
    |nil=>intro _;exact QuD _
    |cons g m ih =>
     intro hm
     have h1:=hm g (by simp)
     have h2:=ih fun x hx=>hm x (by simp[hx])
     rw[ndG,QtS];omega
   have hnl:=hnd l fun g hg=>(QcB (hok g hg)).2
   have hZA:At Z0 h.length (layG 48 h.length l):=hXA.keep fun i i1 i2=>by rw[Xd]at i2;rw[hZe i (by omega),hX2e i (by omega) (by omega)]
   have hZo:Z0[o]? = some (.cells 32 1 [.sl 3 (lvG gv h.length l) none]):=by rw[hZe o (by omega),hX2e o (by omega) hoo];exact hXo
   have c1:=retQ (Qfh l hps Z0 X2.length h.length [] (by omega) (by simp only[QtT];omega) (by omega) (by omega) hN0 hZA)
   rw[Qgl gv 3 h.length hl0]at c1
   with_reducible repeat first|(first|refine Qd fun K E hK hE=>?_|refine FunW.retE (FunW.call c1) fun Y=>?_);simp only[go_sem,seval,hZo]|refine hK _ ?_;clear hK
   have hY:=Y.2
   generalize Y.1=Y1 at *
   obtain⟨_,p1,n1,a1⟩:=hY
   rw[Qnz]at n1 a1
   simp only at n1 a1
   obtain⟨toV,z1,z2,z3⟩:=n1
   have hvb:=Qkl hr
   generalize hOr:ded [] (XN l)=ord at *
   have hord:∀v∈ord,0<=v/\v<s2.names.length:=fun v hv=>hvb v (by rw[<-hOr,Qfz]at hv;exact hv.resolve_left (QuS))
   have hl1:X2.length+1<Y1.length:=Qf z2
   have hYe:∀i,i<X2.length->¬(h.length<=i/\i<h.length+gsz l)->Y1[i]? = X2[i]? := fun i h1 h2=>by rw[p1.out i h1 h2,hZe i h1]
   have hYi:Y1[P.i]? = some (pN P s2 (some P.g)):=by rw[hYe P.i (by have:=H.i;omega) (by have:=H.i;omega),hX2e P.i (by have:=H.i;omega) (Qvw hpi)];exact hXi
   have hYo:Y1[o]? = some (.cells 32 1 [.sl 3 (lvG gv h.length l) none]):=by rw[hYe o (by omega) (by omega),hX2e o (by omega) hoo];exact hXo
   have hYp:Y1[o2]? = some (.cells 33 1 [.sl 1 [] (some X.length)]):=by rw[hYe o2 (by omega) (by omega)];exact hX2p
   have hYt:Y1[X.length]? = some (.grow 9 1 0):=by rw[hYe X.length (by omega) (by omega)];exact hX2t
   have hYk:KpG h P o o2 Y1:=⟨by omega,fun i h1 h2 h3 h4 h5 h6=>by rw[hYe i (by omega) (by omega),hX2e i (by omega) h3];exact hXlow i h1 h2 h4 h5 h6⟩
   have hqn:qN s2 l=ord.map fun v=>s2.names.getD v.toNat eB:=by rw[qN,hOr]
   have hnm:(qN s2 l).length=ord.length:=by rw[hqn,Qu6]
   have hob:ord.length<=1000000:=by
    have:=Z7 [] (XN l)
    have h3:(XN l).length<=ndG l:=QgH l
    rw[hOr]at this
    simp only[QtT]at this
    omega
   simp only[QC,QtF,QtG,QtH,Qs,z1,Qs]
   iterate 1 (try (((with_reducible refine hK _ ?_);clear hK)))
   iterate 2 (try ((with_reducible refine Qu ?_)))
   obtain⟨I,hI⟩:∃I:Nat->AS->Prop,I=fun m' s=>∃j:Nat,m'=ord.length - j/\j<=ord.length/\s.h.length=Y1.length/\(∀i,i≠o2->i≠X.length->s.h[i]? = Y1[i]?)/\s.h[o2]? = some (.cells 33 1 [.sl 1 (strs ((qN s2 l).take j)) (some X.length)])/\s.h[X.length]? = some (.grow 9 1 j)/\s.tm 0 = .ptr P.i 0 0/\s.tm 2 = .ptr o2 0 0/\s.tm 16 = .sl 1 (ints ord) (some (X2.length+1))/\s.tm 17 = .i ord.length/\s.tm 18 = .i j:=⟨_,rfl⟩;refine QD I ?_ (m:=ord.length) ?_
   ·intro m' s hs;rw[hI]at hs;obtain⟨tm,hp⟩:=s;dsimp only at hs;obtain⟨j,rfl,hj,hle,hfr,hs2,hst,t0,t2,t16,t17,t18⟩:=hs
    have hpi2:hp[P.i]? = some (pN P s2 (some P.g)):=by rw[hfr P.i (Qvw hpi) (by have:=H.i;omega)];exact hYi
    rw[pN]at hpi2
    by_cases hlt:j<ord.length
    ·have y1:((j:Nat):Int)<((ord.length:Nat):Int):=by omega
     have hv:=hord _ (Qvk hlt)
     obtain⟨k,hk⟩:∃k:Nat,ord[j]=(k:Int):=⟨ord[j].toNat,by omega⟩
     have hat:(ints ord)[j]? = some (.i ((k:Nat):Int)):=by rw[<-hk];exact QbM hlt
     rw[hk]at hv
     have hkl:k<s2.names.length:=by omega
     have hnk:(strs s2.names)[k]? = some (.v (.string s2.names[k])):=by rw[strs,Qu2,QuC hkl];rfl
     have w1:IntKind.i64.wrap (((j:Nat):Int)+1)=((j+1:Nat):Int):=XM (by omega)
     have htl:(strs ((qN s2 l).take j)).length=j:=by rw[Yp,QuY,hnm];omega
     have hm1:(j+1) * 16<=140737488355328:=by omega
     have hm2:j+1<=maxLen:=by simp only[maxLen];omega
     have hX9:X.length<hp.length:=Qf hst
     have u1:∀y,(hp.set X.length y)[o2]? = some (.cells 33 1 [.sl 1 (strs ((qN s2 l).take j)) (some X.length)]):=fun y=>by rw[Quy (by omega)];exact hs2
     have hnext:strs ((qN s2 l).take (j+1))=strs ((qN s2 l).take j)++[.v (.string s2.names[k])]:=by
      rw[Qu4 (by omega),Qbh]
      congr 1
      simp only[hqn,List.getElem_map,hk,Qui,strs,QtU,QtY]
      rw[Qu8,QuC hkl];rfl
     repeat first|(first|with_reducible (first|refine Qd fun K E hK hE=>?_|refine Qj fun K E hK hE=>?_)|refine Qh (id:=7) [(0,0),(1,0),(2,0),(3,0),(4,0),(5,0),(6,0),(7,0),(8,0),(9,2),(10,2)] mixed (by kernel_rfl) fun K hK=>?_);simp only[go_sem,seval,t0,t2,t16,t17,t18,y1,hat,hs2,hst,hpi2,hkl,hnk,Yp,htl,hm1,hm2,u1,w1]|with_reducible (first|refine Qq fun K hK=>?_|refine Qu ?_|refine QE ?_|refine Qg ?_|refine Qn ?_|refine hK _ ?_;clear hK|refine Qm rfl ?_;simp only[↓reduceIte])
     refine XB.mk (m':=ord.length - (j+1)) (by omega) ?_
     rw[hI]
     refine⟨j+1,rfl,hlt,by simp only[QuI];exact hle,fun i h1 h2=>by rw[Quy (Qvw h1),Quy (Qvw h2)];exact hfr i h1 h2,?_,?_,t0,t2,t16,t17,rfl⟩
     ·rw[hnext];exact QuF (by rw[QuI];omega)
     ·rw[Quy (by omega)];exact QuF hX9
    ·have hjl:j=ord.length:=by omega
     have y1:¬((j:Nat):Int)<((ord.length:Nat):Int):=by omega
     have hX9:X.length<hp.length:=Qf hst
     refine Qcf o2 33 1 [.sl 1 (strs ((qN s2 l).take j)) (some X.length)] [.sl 1 (strs ((qN s2 l).take j)) none] 0
      (Wk.sl rfl (fun y hy=>by obtain⟨x,_,rfl⟩:=QuZ.1 hy;rfl) (WkL.refl _)) hs2 rfl rfl (fun x hx=>by rw[Qvt]at hx;subst hx;rfl) ?_
     with_reducible repeat first|refine Qd fun K E hK hE=>?_;simp only[go_sem,seval,t17,t18,y1]|refine Qq fun K hK=>?_|refine Xb ?_|refine QK ?_|refine QJ ?_|refine hK _ ?_;clear hK|refine Qm rfl ?_;simp only[↓reduceIte,QtJ]
     simp only[go_sem]
     have elv:lvG gv h.length (qV l)=lvG gv h.length l:=by
      have:=QjD Qpy h.length [] l
      rw[Qnz]at this
      exact this
     have egs:gsz (qV l)=gsz l:=by
      have:=ZH [] l
      rw[Qnz]at this
      exact this
     have htk:(qN s2 l).take j=qN s2 l:=QvY (by omega)
     refine .inr ⟨rfl,⟨_,⟨by rw[QuI,hle];exact hYk.long,fun i h1 h2 h3 h4 h5 h6=>?_⟩,?_,?_,?_⟩,rfl⟩
     ·rw[Quy (Qvw h3),hfr i h3 (by omega)];exact hYk.out i h1 h2 h3 h4 h5 h6
     ·rw[Quy (Qvw hoo),hfr o hoo (by omega),elv];exact hYo
     ·refine a1.keep fun i i1 i2=>?_
      rw[Xd,egs]at i2
      rw[Quy (by omega),hfr i (by omega) (by omega)]
     ·rw[htk];exact QuF (by omega)
   ·rw[hI]
    exact⟨0,rfl,QuG _,rfl,fun _ _ _=>rfl,hYp,hYt,rfl,rfl,rfl,rfl,rfl⟩
  ·have ce:=Qp6 hW2 hXi hk
   have hE:((PR.ok l s2).bind fun l s=>(pEnd s).bind fun _ s=>PR.ok (qV l,qN s l) s) = .err s2.tk.pos 16:=by
    have:pEnd s2 = .err s2.tk.pos 16:=by rw[pEnd,QuE hk]
    show(pEnd s2).bind _=_
    rw[this];rfl
   rw[hE]
   rw[hX]at ce hi3
   refine Qa Tryz.func28 rfl Tryz.call28 Tryz.ntmps28 Tryz.results28 (by simp) ?_
   with_reducible repeat first|(first|refine Qd fun K E hK hE=>?_|refine FunW.QsR cg2 ?_|refine FunW.pan (FunW.call ce) ?_);simp only[go_sem,seval,g0,hi3]|refine hK _ ?_;clear hK|refine hE _ _ ?_
   refine .inr ⟨rfl,⟨_,?_⟩,rfl⟩
   rw[<-hX]
   exact⟨⟨by omega,fun i h1 h2 h3 h4 h5 h6=>hXlow i h1 h2 h4 h5 h6⟩,hXlow o2 hpl (Qvw hoo) hpi hpj hpg⟩
end
end Go.Proofs.YticgcpebdldbgaaGreatDoor.Ab
namespace Go.Proofs.YticgcpebdldbgaaGreatDoor.Ab
open Go.Proofs
abbrev cG(v:AV):AB:=.cells 32 1 [v]
abbrev cS(v:AV):AB:=.cells 33 1 [v]
def Qct(l:List UInt8):(List G×List ByteArray) ⊕ (Int×Int):=match Zx l with
 | .inr e=>.inr e
 | .inl ts=>match Qeo ⟨ts,[]⟩with
  | .ok p _=>.inl p
  | .err p e=>.inr (p,e)
theorem QjO{all:List Tk}{s:PS}(hW:Wst all s){p e:Int}(h:Qeo s = .err p e):e≠0:=Kp.Ps.err (n:=wdOf all) (Kp.query_ps trivial) hW h
def SqQ(h:AH):(List G×List ByteArray) ⊕ (Int×Int)->AOut->AH->Prop
 | .inl q,o,h'=>∃n,h.length<=n/\o = .ret (.tup [.sl 3 (lvG gv n q.1) none,.sl 1 (strs q.2) none,.i 0,.i 0])/\At h' n (layG 48 n q.1)/\h.length<=h'.length/\h'.take h.length=h
 | .inr e,o,h'=>o = .ret (.tup [nilV,nilV,.i e.1,.i e.2])/\h'=h
def sqR:(List G×List ByteArray) ⊕ (Int×Int)->AV
 | .inl q=>.tup [.sl 3 (vs G.goal q.1) none,.sl 1 (strs q.2) none,.i 0,.i 0]
 | .inr e=>.tup [nilV,nilV,.i e.1,.i e.2]
theorem Qdz(n:Nat)(a b:Int):Below n (.tup [nilV,nilV,.i a,.i b]):=.tup _ fun x hx=>by
 simp only[QuL,QuS,Qvz]at hx
 rcases hx with rfl|rfl|rfl|rfl <;> exact .v _
theorem Qe2{P:Program}{f:FuncId}{args:List AV}{h:AH}{Q Q0:AOut->AH->Prop}(H:QA P f args h Q0)
  (hp:(∀(i:Nat) b,h[i]? = some b->b.Below h.length)->∀o h',Q0 o h'->Q o h'\/∃l l',o = .ret (.tup l)/\h.length<=h'.length/\(∀b∈h'.take h.length,b.Below h.length)/\l'.length=l.length/\(∀(j:Nat) a a',l[j]? = some a->l'[j]? = some a'->Melt h' h.length a a')/\Q (.ret (.tup l')) (h'.take h.length)):QA P f args h Q:=by
 refine⟨H.1,fun F n c vals hF hs hh hvs=>(H.2 F n c vals hF hs hh hvs).mono ?_⟩
 rintro e w' ⟨o,c',hQ,hev,hst,hw,hex⟩
 rcases hp (fun i b hb=>by subst hh;exact hs.below hb) o c'.h hQ with hq|⟨l,l',rfl,h1,h2,hl,h3,h4⟩
 ·exact⟨o,c',hq,hev,hst,hw,hex⟩
 ·obtain⟨x,rfl,hr⟩:=hex
  refine⟨.ret (.tup l'),c'.cut h.length,h4,hev.cut (by rw[hh];exact QuD _) h1,hst.cut h1 h2,hw,x,rfl,?_⟩
  cases hr with
  |tup _ cs hl' hr =>
   refine .tup _ cs (by omega) fun j a' u ha' hu=>?_
   obtain⟨a,ha⟩:∃a,l[j]? = some a:=⟨_,QuC (by rw[<-hl];exact Qf ha')⟩
   exact(h3 j a a' ha ha').rel hst h1 (hr j a u ha hu)
section
variable(l:List UInt8)(h:AH)(hG:QaN h)
include hG
theorem QnA:QA Tryz.prog 10 [.v (.string (mkB l))] h (SqQ h (Qct l)):=by
 rw[Qct]
 cases hs:Zx l with
 |inr q =>
  obtain⟨p,e⟩:=q
  have cr:=fun fv L=>QiW hs fv (h++L) (hG.app L)
  have e0:(e != 0)=true:=by simpa using Qbr hs
  refine Qa Tryz.func10 rfl Tryz.call10 Tryz.ntmps10 Tryz.results10 (by simp) ?_
  repeat first|(first|refine FunW.QsR (cr _ _) ?_|refine Qb ?_);simp only[go_sem,seval,e0]|refine hK _ ?_;clear hK
  exact Qc (htake _ _) (.keep (Qdz _ _ _)) ⟨rfl,rfl⟩
 |inl ts =>
  obtain⟨hD,hW,hN,hl⟩:=Qd8 hs
  obtain⟨H,hH⟩:∃H,H=h++[cS nilV,cG nilV]:=⟨_,rfl⟩
  have hHl:H.length=h.length+2:=by rw[hH];simp
  have hHG:QaN H:=by rw[hH];exact hG.app _
  have hPo:=QqH H ts (.cells 61 4 [.agg [.sl 3 (tks ts) none,.i 0,.v (.slice none 0 0),.v (.map none)]])
  have hout:∀i,i<h.length->(H++[iC 0,eC 0,.cells 61 4 [.agg [.sl 3 (tks ts) none,.i 0,.v (.slice none 0 0),.v (.map none)]]]++[.dead,.dead])[i]? = h[i]? := fun i hi=>by
   rw[Quz,Qux (by omega),hH,Qux hi]
  have hlen:(H++[iC 0,eC 0,.cells 61 4 [.agg [.sl 3 (tks ts) none,.i 0,.v (.slice none 0 0),.v (.map none)]]]++[AB.dead,.dead]).length=h.length+7:=by simp only[Quw,QtS,QtT,hHl]
  have cf:=QjT (P:=P0 H ts) (s:=⟨ts,[]⟩) hW hPo hN hD (o:=h.length+1) (o2:=h.length) (by omega) (by simp only[P0];omega) (by simp only[P0];omega) (by simp only[P0];omega) (by omega) (by simp only[P0];omega) (by simp only[P0];omega) (by simp only[P0];omega) (by omega)
   (by rw[Quz,Qux (by omega),hH,hget];rfl) (by rw[Quz,Qux (by omega),hH,X8];rfl)
  have hst:∀(K:AH->Prop) (Y:AH) a b L,H.length+1<Y.length->(∀i,i<h.length->Y[i]? = h[i]?)->∀i,i<h.length->((Y.set H.length a).set (H.length+1) b++L)[i]? = h[i]? := fun K Y a b L hl hy i hi=>by
   rw[Qux (by simp only[QuI];omega),Quy (by omega),Quy (by omega)];exact hy i hi
  have hc0:∀Y,KpG (H++[iC 0,eC 0,.cells 61 4 [.agg [.sl 3 (tks ts) none,.i 0,.v (.slice none 0 0),.v (.map none)]]]++[AB.dead,.dead]) (P0 H ts) (h.length+1) h.length Y->Y[H.length]? = some (iC 0)/\Y[H.length+1]? = some (eC 0)/\h.length+7<=Y.length/\(∀i,i<h.length->Y[i]? = h[i]?):=fun Y hY=>by
   refine⟨?_,?_,by have:=hY.long;omega,fun i hi=>?_⟩
   ·rw[hY.out H.length (by omega) (by omega) (by omega) (by simp only[P0];omega) (by simp only[P0];omega) (by simp only[P0];omega),Quz,X8];rfl
   ·rw[hY.out (H.length+1) (by omega) (by omega) (by omega) (by simp only[P0];omega) (by simp only[P0];omega) (by simp only[P0];omega),Quz,hget];rfl
   ·rw[hY.out i (by omega) (by omega) (by omega) (by simp only[P0];omega) (by simp only[P0];omega) (by simp only[P0];omega)];exact hout i hi
  cases hp:Qeo ⟨ts,[]⟩with
  |err p e =>
   rw[hp]at cf
   have e0:(e != 0)=true:=by simpa using QjO hW hp
   have cr:=QkJ hs (.fn (.func 28) [] [.ptr (h.length+1) 0 0,.ptr h.length 0 0]) H hHG (fun Y=>h.length+2<=Y.length/\(∀i,i<h.length->Y[i]? = h[i]?)/\Y[h.length]? = some (cS nilV))
    (fun Y a b L hl hy=>⟨by simp only[Quw,QuI];omega,hst (fun _=>True) Y a b L hl hy.2.1,by rw[Qux (by simp only[QuI];omega),Quy (by omega),Quy (by omega)];exact hy.2.2⟩) (p:=p) (e:=e)
    (FunW.cl (cf.mono fun o h' q=>by
     obtain⟨q1,⟨Y,hY,hY2⟩,q2⟩:=q
     obtain⟨y1,y2,y3,y4⟩:=hc0 Y hY
     exact⟨q1,⟨Y,y1,y2,by omega,y4,by rw[hY2,Quz,Qux (by omega),hH,X8];rfl⟩,q2⟩))
   rw[hH]at cr
   refine Qa Tryz.func10 rfl Tryz.call10 Tryz.ntmps10 Tryz.results10 (by simp) ?_
   repeat first|(first|refine FunW.retE (FunW.call cr) fun Y=>?_|refine Qb ?_);simp only[go_sem,seval,e0,Quw]|refine hK _ ?_;clear hK
   have hY:=Y.2
   generalize Y.1=Y1 at *
   obtain⟨y0,y1,y2⟩:=hY
   have u1:∀y,(Y1.set h.length y)[h.length]? = some y:=fun y=>QuF (by omega)
   have ht:∀y,(Y1.set h.length y).take h.length=h:=fun y=>Qvs fun i=>by
    by_cases hi:i<h.length
    ·rw[QuW hi,Quy (by omega)];exact y1 i hi
    ·rw[QvX (by omega),Qvf (by omega)]
   simp only[Xs,Xz,↓reduceIte,QtS,QtT,QtR,Qud,QtF,Qt9,QtH,y2]
   repeat first|refine Qb ?_;simp only[go_sem,seval]|refine hK _ ?_;clear hK
   simp only[go_sem,seval,u1]
   refine Qc (ht _) (.keep (Qdz _ _ _)) ?_
   simp only[hp];exact⟨rfl,rfl⟩
  |ok pg s2 =>
   rw[hp]at cf
   have e0:((0:Int) != 0)=false:=rfl
   have cr:=QnG hs (.fn (.func 28) [] [.ptr (h.length+1) 0 0,.ptr h.length 0 0]) H hHG (fun Y=>h.length+7<=Y.length/\(∀i,i<h.length->Y[i]? = h[i]?)/\Y[h.length+1]? = some (cG (.sl 3 (lvG gv (h.length+7) pg.1) none))/\At Y (h.length+7) (layG 48 (h.length+7) pg.1)/\Y[h.length]? = some (cS (.sl 1 (strs pg.2) none)))
    (fun Y a b L hl hy=>⟨by simp only[Quw,QuI];omega,hst (fun _=>True) Y a b L hl hy.2.1,by rw[Qux (by simp only[QuI];omega),Quy (by omega),Quy (by omega)];exact hy.2.2.1,
     (hy.2.2.2.1.keep fun i i1 i2=>by rw[Quy (by omega),Quy (by omega)]).app L,
     by rw[Qux (by simp only[QuI];omega),Quy (by omega),Quy (by omega)];exact hy.2.2.2.2⟩)
    (FunW.cl (cf.mono fun o h' q=>by
     obtain⟨q1,⟨Y,hY,hY1,hY2,hY3⟩,q2⟩:=q
     rw[hlen]at hY1 hY2
     obtain⟨y1,y2,y3,y4⟩:=hc0 Y hY
     exact⟨q1,⟨Y,y1,y2,y3,y4,hY1,hY2,hY3⟩,q2⟩))
   rw[hH]at cr
   refine Qa Tryz.func10 rfl Tryz.call10 Tryz.ntmps10 Tryz.results10 (by simp) ?_
   repeat first|(first|refine FunW.retE (FunW.call cr) fun Y=>?_|refine Qi (id:=5) [(0,0),(1,0),(2,0),(3,2),(4,0),(5,0)] mixed (by kernel_rfl) fun K hK=>?_|refine Qb ?_);simp only[go_sem,seval,Quw]|refine hK _ ?_;clear hK
   have hY:=Y.2
   generalize Y.1=Y1 at *
   obtain⟨y0,y1,y2,y3,y4⟩:=hY
   have u1:∀y,(Y1.set h.length y)[h.length]? = some y:=fun y=>QuF (by omega)
   have u2:∀y,(Y1.set h.length y)[h.length+1]? = some (cG (.sl 3 (lvG gv (h.length+7) pg.1) none)):=fun y=>by rw[Quy (by omega)];exact y2
   simp only[Xe,Xf,QtZ,Qt0,Xc,Qt1,↓reduceIte,QtS,QtT,QtR,Qud,QtF,Qt9,QtH,y2,y4]
   repeat first|refine Qb ?_;simp only[go_sem,seval]|refine hK _ ?_;clear hK
   simp only[go_sem,seval,u1]
   simp only[Qjg,hp]
   refine .inr ⟨h.length+7,by omega,rfl,y3.keep fun i i1 i2=>?_,by rw[QuI];omega,?_⟩
   ·rw[Quy (by omega)]
   ·exact Qvs fun i=>by
     by_cases hi:i<h.length
     ·rw[QuW hi,Quy (by omega)];exact y1 i hi
     ·rw[QvX (by omega),Qvf (by omega)]
theorem QfI:QA Tryz.prog 10 [.v (.string (mkB l))] h fun o h'=>o = .ret (sqR (Qct l))/\h'=h:=by
 refine Qe2 (QnA l h hG) fun hbel o h' q=>?_
 cases hq:Qct l with
 |inr e=>rw[hq]at q;exact .inl q
 |inl g =>
  rw[hq]at q
  obtain⟨n,hn,rfl,hA,hl,ht⟩:=q
  refine .inr ⟨_,[.sl 3 (vs G.goal g.1) none,.sl 1 (strs g.2) none,.i 0,.i 0],rfl,hl,fun b hb=>?_,rfl,fun j a a' h1 h2=>?_,rfl,ht⟩
  ·rw[ht]at hb
   obtain⟨k,hk⟩:=List.mem_iff_getElem?.1 hb
   exact hbel k b hk
  ·match j,h1,h2 with
   |0,h1,h2 =>
    cases h1;cases h2
    obtain⟨e1,e2⟩:=Qhu (m:=h.length) (w:=3) (vw:=gv) (vA:=G.goal) (fun _ _=>rfl) (fun _=>rfl) (fun n g hm hA j a a' h1 h3=>by
     match j,h1,h3 with
     |0,h1,h3=>cases h1;cases h3;exact .keep (.v _)
     |1,h1,h3=>cases h1;cases h3;exact .keep (.v _)
     |2,h1,h3=>cases h1;cases h3;exact Qfy hm hA
     |j+3,h1,h3=>simp[gv,AV.cells]at h1) n g.1 hn hA
    exact .sl (by rw[Z5,ZM]) (fun y hy=>by obtain⟨x,_,rfl⟩:=QuZ.1 hy;rfl) e1 e2
   |1,h1,h2=>cases h1;cases h2;exact .keep (.sl 1 _ none (QbE _ _) (fun b hb=>by cases hb))
   |2,h1,h2=>cases h1;cases h2;exact .keep (.v _)
   |3,h1,h2=>cases h1;cases h2;exact .keep (.v _)
   |j+4,h1,h2=>simp at h1
end
end Go.Proofs.YticgcpebdldbgaaGreatDoor.Ab
namespace Go.Proofs.YticgcpebdldbgaaGreatDoor.Ab
open Go.Proofs
def mixG(f:Int->Int)(l:List G)(j:Nat):List G:=mG f (l.take j)++l.drop j
theorem Qna(f:Int->Int)(l:List G):mixG f l 0=l:=by simp[mixG,mG]
theorem QoJ(f:Int->Int)(l:List G):mixG f l l.length=mG f l:=by simp[mixG]
theorem QoL(f:Int->Int)(l:List G){j:Nat}(h:j<=l.length):(mixG f l j).length=l.length:=by
 simp only[mixG,mG,Quw,Qu6,QuY,QuX];omega
theorem QoK(f:Int->Int)(vw:G->AV){l:List G}{j:Nat}(h:j<l.length):(vs vw (mixG f l j))[j]? = some (vw l[j]):=by
 have h1:(mG f (l.take j)).length=j:=by simp only[mG,Qu6,QuY];omega
 rw[vs,Qu2,mixG,QuB (by omega),h1,Qu9,QuQ h];rfl
theorem QoM(f:Int->Int)(vw:G->AV){l:List G}{j:Nat}(h:j<l.length):(vs vw (mixG f l j)).set j (vw ⟨(l[j]).op,(l[j]).name,maps f (l[j]).args⟩)=vs vw (mixG f l (j+1)):=by
 have h1:(mG f (l.take j)).length=j:=by simp only[mG,Qu6,QuY];omega
 rw[mixG,mixG,QuQ h,Qu4 h,QdF,Qva _ _ (by rw[Z5];omega),Z5,h1,Qu9]
 simp only[mG,Qvr,vs,QtU,QtY,Qt9,Quz,Qt7,Qt6]
theorem QmL{l:List G}{j:Nat}(h:j<l.length):XN (l.drop j)=Yd (l[j]).args++XN (l.drop (j+1)):=by
 rw[QuQ h];unfold XN;rw[Qwc]
theorem Qrh{l:List G}{j:Nat}(h:j<l.length):ndG (l.drop j)=ndsL (l[j]).args+ndG (l.drop (j+1)):=by
 rw[QuQ h,ndG]
theorem Qlp{l:List G}{j:Nat}(h:j<l.length):∀v∈Yd (l[j]).args,v∈XN l:=fun v hv=>by
 unfold XN
 rw[Qv1]
 exact⟨l[j],Qvk h,hv⟩
structure EW where
 x:ByteArray
 a:AV
 b:AV
 c:AV
 d:AV
 s:PS
 Y:AH
 ha:c1ok a
 hb:c1ok b
 hc:c1ok c
 hd:c1ok d
theorem Qeb:∀l:List T,(Yd l).length<=ndsL l
 |[]=>QuD _
 |t::l=>by rw[Yd,ndsL,Quw];have:=T.Qs1 t;have:=Qeb l;omega
theorem QcZ:∀l:List G,(XN l).length<=ndG l
 |[]=>QuD _
 |g::l=>by
  have h1:=Qeb g.args
  have h2:=QcZ l
  have e:XN (g::l)=Yd g.args++XN l:=by unfold XN;rw[Qwc]
  rw[e,Quw,ndG];omega
section
variable{h:AH}{i:Nat}(hi:i<h.length)(all:List Tk)
include hi
end
section
variable{all:List Tk}{i:Nat}(hN:all.length<=1000000)(hD:TkOk all)(hX:TxOk all)
include hN hD hX
end
end Go.Proofs.YticgcpebdldbgaaGreatDoor.Ab
namespace Go.Proofs.YticgcpebdldbgaaGreatDoor.Ab
open Go.Proofs
section
variable(l:List UInt8)(hl:l.length<=16384)(k0:Nat)(hk0:k0<=l.length)(h:AH)(k:Nat)(hk:k=l.length - (XS false (l.drop k0)).length)(he:XS false (l.drop k0)=l.drop k)
include hl hk0 hk he
theorem QnL(hk2:k=l.length):QA Tryz.prog 51 [.v (.string (mkB l)),.i k0] h fun o h'=>o = .ret (rdT k (Zn (l.drop k)))/\h'=h:=by
 have hsl:=fun b=>Y5 Tryz.prog 9 3 (by kernel_rfl) b
 have z1:¬((k0:Nat):Int)<0:=by omega
 have z2:¬((l.length:Nat):Int)<((k0:Nat):Int):=by omega
 have z3:¬((k0:Nat):Int)>((l.length:Nat):Int):=by omega
 have z4:¬((l.length:Nat):Int)>16384:=by omega
 have z5:¬(16384:Int)<((l.length:Nat):Int):=by omega
 have cs:=Qa5 l hl k0 hk0
 rw[<-hk]at cs
 have _u:=he
 have y1:(((k:Nat):Int)==((l.length:Nat):Int))=true:=by rw[hk2];simp
 have e:rdT k (Zn (l.drop k)) = .tup [tkv 0 k [],.i k,.i 0]:=by rw[hk2,Qvb];rfl
 have hsp:=Qai Tryz.prog 9 (by kernel_rfl) (mkB l) (some (.i64,(k:Nat))) (some (.i64,(k:Nat))) k (k+0) ⟨by omega,by rw[Qv];omega,by omega⟩ ⟨by omega,by omega,by omega⟩
 simp only[QtH]at hsp
 rw[ZP l k 0 (by omega),List.take_zero]at hsp
 rw[e]
 refine Qa Tryz.func51 rfl Tryz.call51 Tryz.ntmps51 Tryz.results51 (by simp) ?_
 repeat (first|refine Qe cs ?_|refine Qb ?_);simp only[go_sem,seval,YS,hsl,Qv,z1,z2,z4,y1,hsp]
 exact Qc (htake _ _) (.keep (Qa6 (QdB _ _ _ _) _ _)) ⟨rfl,rfl⟩
theorem QnN(hk2:k<l.length)(hL:lowB l[k]=true):QA Tryz.prog 51 [.v (.string (mkB l)),.i k0] h fun o h'=>o = .ret (rdT k (Zn (l.drop k)))/\h'=h:=by
 have hsl:=fun b=>Y5 Tryz.prog 9 3 (by kernel_rfl) b
 have z1:¬((k0:Nat):Int)<0:=by omega
 have z2:¬((l.length:Nat):Int)<((k0:Nat):Int):=by omega
 have z3:¬((k0:Nat):Int)>((l.length:Nat):Int):=by omega
 have z4:¬((l.length:Nat):Int)>16384:=by omega
 have z5:¬(16384:Int)<((l.length:Nat):Int):=by omega
 have cs:=Qa5 l hl k0 hk0
 rw[<-hk]at cs
 have _u:=he
 have y1:(((k:Nat):Int)==((l.length:Nat):Int))=false:=by simp;omega
 have hix:=Yv Tryz.prog 9 (by kernel_rfl) (mkB l) k (by rw[Qv];exact hk2)
 rw[YT l k hk2]at hix
 have cl:=Qbg l[k]
 have cu:=QbX l[k]
 have cd:=QaU l[k]
 have hd:=drop_cons hk2
 have hlu:=Qfo l[k]
 rw[hL]at cl hlu
 rw[QvL]at hlu
 have h97:97<=l[k].toNat:=(Qwo hL).1
 obtain⟨w,hw⟩:∃w,w=(l.drop k).takeWhile isW:=⟨_,rfl⟩
 have hn:w.length<=l.length - k:=by rw[hw,<-QuX];exact(Qvu _).length_le
 have ht:Zn (l.drop k)=if 40<w.length then .inr 7 else .inl (1,w):=by rw[hw,hd,Zn,QuH hlu,QuH h97]
 have hwt:(l.drop k).take w.length=w:=by rw[hw];exact(QvV.1 (Qvu isW)).symm
 refine Qa Tryz.func51 rfl Tryz.call51 Tryz.ntmps51 Tryz.results51 (by simp) ?_
 repeat first|(first|refine Qe cs ?_|refine Qe cl ?_|refine Qb ?_);simp only[go_sem,seval,hsl,Qv,z1,z2,z4,y1,hix]|refine hK _ ?_;clear hK
 obtain⟨I,hI⟩:∃I:Nat->AS->Prop,I=fun m' s=>∃j:Nat,m'=w.length - j/\j<=w.length/\j+((l.drop (k+j)).takeWhile isW).length=w.length/\s.tm 0 = .v (.string (mkB l))/\s.tm 1 = .i k/\s.tm 4 = .ptr h.length 0 0/\s.tm 7 = .i ((k+j:Nat):Int)/\s.tm 8 = .i 1/\s.h=h++[.cells 54 3 [zTok]]:=⟨_,rfl⟩;refine QD I ?_ (m:=w.length) ?_
 ·intro m' s hs;rw[hI]at hs;obtain⟨tm,hp⟩:=s;dsimp only at hs;obtain⟨j,rfl,hj,hw2,t0,t1,t4,t7,t8,rfl⟩:=hs
  (with_reducible refine Qq fun K hK=>?_)
  refine Yb (fun s=>s.tm 78 = .b (decide (j<w.length))/\s.tm 0 = .v (.string (mkB l))/\s.tm 1 = .i k/\s.tm 4 = .ptr h.length 0 0/\s.tm 7 = .i ((k+j:Nat):Int)/\s.tm 8 = .i 1/\s.h=h++[.cells 54 3 [zTok]]) ?_ ?_
  ·rintro⟨tm,hq⟩ ⟨t78,t0,t1,t4,t7,t8,rfl⟩
   dsimp only at t78 t0 t1 t4 t7 t8
   by_cases hjw:j<w.length
   ·rw[QuU hjw]at t78
    have hlt:k+j<l.length:=by omega
    have w5:IntKind.i64.wrap (((k+j:Nat):Int)+1)=((k+(j+1):Nat):Int):=by rw[Ya (by omega)];omega
    rw[drop_cons hlt,QvR]at hw2
    have hc:isW l[k+j]=true:=by
     cases q:isW l[k+j]with
     |true=>rfl
     |false =>
      rw[q]at hw2
      simp at hw2;omega
    rw[QuH hc,QtS]at hw2
    refine Qm (by exact t78) ?_
    simp only[↓reduceIte]
    repeat first|refine Qb ?_;simp only[go_sem,seval,t7,w5]|refine hK _ ?_;clear hK
    refine XB.mk (m':=w.length - (j+1)) (by omega) ?_
    rw[hI]
    exact⟨j+1,rfl,by omega,by rw[show k+(j+1)=k+j+1 by omega];omega,t0,t1,t4,rfl,t8,rfl⟩
   ·rw[QuM hjw]at t78
    have hje:j=w.length:=by omega
    subst hje
    have hsp:=Qai Tryz.prog 9 (by kernel_rfl) (mkB l) (some (.i64,(k:Nat))) (some (.i64,(k+w.length:Nat))) k (k+w.length) ⟨by omega,by rw[Qv];omega,by omega⟩ ⟨by omega,by omega,by omega⟩
    have w6:IntKind.i64.wrap (((k+w.length:Nat):Int) - ((k:Nat):Int))=((w.length:Nat):Int):=by rw[Ya (by omega)];omega
    simp only[QtH]at hsp
    rw[ZP l k _ (by omega),hwt]at hsp
    refine Qm (by exact t78) ?_
    simp only[↓reduceIte,QtJ]
    by_cases h40:40<w.length
    ·have x1:((w.length:Nat):Int)>40:=by omega
     have x2:(40:Int)<((w.length:Nat):Int):=by omega
     repeat first|refine Qb ?_;simp only[go_sem,seval,t1,t4,t7,zTok,w6,x1]|refine hK _ ?_;clear hK|clear hK;refine hK _ ?_;clear hK
     exact Qc (htake _ _) (.keep (Yz _ k (.inr 7))) ⟨by rw[ht,QuH h40];rfl,rfl⟩
    ·have x1:¬((w.length:Nat):Int)>40:=by omega
     have x2:¬(40:Int)<((w.length:Nat):Int):=by omega
     repeat first|refine Qb ?_;simp only[go_sem,seval,YS,t0,t1,t4,t7,t8,zTok,w6,x1,hsp]|refine hK _ ?_;clear hK|clear hK;refine hK _ ?_;clear hK
     exact Qc (htake _ _) (.keep (Yz _ k (.inl (1,w)))) ⟨by rw[ht,QuE h40];rfl,rfl⟩
  ·skip
   by_cases hlt:k+j<l.length
   ·have y2:((k+j:Nat):Int)<((l.length:Nat):Int):=by omega
    have hix2:=Yv Tryz.prog 9 (by kernel_rfl) (mkB l) (k+j) (by rw[Qv];exact hlt)
    rw[YT l (k+j) hlt]at hix2
    have bl:=Qbg l[k+j]
    have bu:=QbX l[k+j]
    have bd:=QaU l[k+j]
    have hisW:isW l[k+j]=((lowB l[k+j]||upB l[k+j])||isD l[k+j]):=by rw[<-Qfo];rfl
    have hjw:decide (j<w.length)=isW l[k+j]:=by
     rw[drop_cons hlt,QvR]at hw2
     cases q:isW l[k+j]with
     |true=>rw[QuH q,QtS]at hw2;exact QuU (by omega)
     |false=>rw[q]at hw2;simp at hw2;exact QuM (by omega)
    cases q1:lowB l[k+j]with
    |true =>
     rw[q1]at bl
     repeat first|refine owN ?_|(first|refine Qe bl ?_|refine owK fun K hK=>?_|refine nwcS fun K hK=>?_|refine nwcR fun K hK=>?_|refine Qb ?_);simp only[go_sem,seval,t0,t7,hsl,Qv,y2,YS,X1,t1,t4,t8,hix2]|refine hK _ ?_;clear hK
     exact⟨by rw[hjw,hisW,q1];rfl,t0,t1,t4,t7,t8,rfl⟩
    |false =>
     rw[q1]at bl
     cases q2:upB l[k+j]with
     |true =>
      rw[q2]at bu
      repeat first|refine owN ?_|(first|refine Qe bl ?_|refine Qe bu ?_|refine owK fun K hK=>?_|refine nwcS fun K hK=>?_|refine nwcR fun K hK=>?_|refine Qb ?_);simp only[go_sem,seval,t0,t7,hsl,Qv,y2,YS,X1,t1,t4,t8,hix2]|refine hK _ ?_;clear hK
      exact⟨by rw[hjw,hisW,q1,q2];rfl,t0,t1,t4,t7,t8,rfl⟩
     |false =>
      rw[q2]at bu
      cases q3:isD l[k+j]with
      |true =>
       rw[q3]at bd
       repeat first|refine owN ?_|(first|refine Qe bl ?_|refine Qe bu ?_|refine Qe bd ?_|refine owK fun K hK=>?_|refine nwcS fun K hK=>?_|refine nwcR fun K hK=>?_|refine Qb ?_);simp only[go_sem,seval,t0,t7,hsl,Qv,y2,YS,X1,t1,t4,t8,hix2]|refine hK _ ?_;clear hK
       exact⟨by rw[hjw,hisW,q1,q2,q3];rfl,t0,t1,t4,t7,t8,rfl⟩
      |false =>
       rw[q3]at bd
       repeat first|refine owN ?_|(first|refine Qe bl ?_|refine Qe bu ?_|refine Qe bd ?_|refine owK fun K hK=>?_|refine nwcS fun K hK=>?_|refine nwcR fun K hK=>?_|refine Qb ?_);simp only[go_sem,seval,t0,t7,hsl,Qv,y2,YS,X1,t1,t4,t8,hix2]|refine hK _ ?_;clear hK
       exact⟨by rw[hjw,hisW,q1,q2,q3];rfl,t0,t1,t4,t7,t8,rfl⟩
   ·have y2:¬((k+j:Nat):Int)<((l.length:Nat):Int):=by omega
    have hjw:decide (j<w.length)=false:=by
     rw[QvI (by omega),List.takeWhile_nil,QtT,Qt4]at hw2
     exact QuM (by omega)
    repeat first|refine owN ?_|(first|refine owK fun K hK=>?_|refine nwcS fun K hK=>?_|refine nwcR fun K hK=>?_|refine Qb ?_);simp only[go_sem,seval,t0,t7,hsl,Qv,y2,YS,X1,t1,t4,t8]|refine hK _ ?_;clear hK
    exact⟨by rw[hjw];rfl,t0,t1,t4,t7,t8,rfl⟩
 ·rw[hI]
  exact⟨0,rfl,QuG _,by rw[Qt4,<-hw,QtR],rfl,rfl,rfl,rfl,rfl,rfl⟩
theorem Qpa(hk2:k<l.length)(hL:lowB l[k]=false)(hU:upB l[k]=true):QA Tryz.prog 51 [.v (.string (mkB l)),.i k0] h fun o h'=>o = .ret (rdT k (Zn (l.drop k)))/\h'=h:=by
 have hsl:=fun b=>Y5 Tryz.prog 9 3 (by kernel_rfl) b
 have z1:¬((k0:Nat):Int)<0:=by omega
 have z2:¬((l.length:Nat):Int)<((k0:Nat):Int):=by omega
 have z3:¬((k0:Nat):Int)>((l.length:Nat):Int):=by omega
 have z4:¬((l.length:Nat):Int)>16384:=by omega
 have z5:¬(16384:Int)<((l.length:Nat):Int):=by omega
 have cs:=Qa5 l hl k0 hk0
 rw[<-hk]at cs
 have _u:=he
 have y1:(((k:Nat):Int)==((l.length:Nat):Int))=false:=by simp;omega
 have hix:=Yv Tryz.prog 9 (by kernel_rfl) (mkB l) k (by rw[Qv];exact hk2)
 rw[YT l k hk2]at hix
 have cl:=Qbg l[k]
 have cu:=QbX l[k]
 have cd:=QaU l[k]
 have hd:=drop_cons hk2
 have hlu:=Qfo l[k]
 rw[hL]at cl hlu
 rw[hU]at cu hlu
 rw[QvN]at hlu
 have h97:¬97<=l[k].toNat:=fun q=>by
  have h1:=Qwo hU
  have h2:=of_decide_eq_false hL
  omega
 obtain⟨w,hw⟩:∃w,w=(l.drop k).takeWhile isW:=⟨_,rfl⟩
 have hn:w.length<=l.length - k:=by rw[hw,<-QuX];exact(Qvu _).length_le
 have ht:Zn (l.drop k)=if 40<w.length then .inr 7 else .inl (2,w):=by rw[hw,hd,Zn,QuH hlu,QuE h97]
 have hwt:(l.drop k).take w.length=w:=by rw[hw];exact(QvV.1 (Qvu isW)).symm
 refine Qa Tryz.func51 rfl Tryz.call51 Tryz.ntmps51 Tryz.results51 (by simp) ?_
 repeat first|(first|refine Qe cs ?_|refine Qe cl ?_|refine Qe cu ?_|refine Qb ?_);simp only[go_sem,seval,hsl,Qv,z1,z2,z4,y1,hix]|refine hK _ ?_;clear hK
 obtain⟨I,hI⟩:∃I:Nat->AS->Prop,I=fun m' s=>∃j:Nat,m'=w.length - j/\j<=w.length/\j+((l.drop (k+j)).takeWhile isW).length=w.length/\s.tm 0 = .v (.string (mkB l))/\s.tm 1 = .i k/\s.tm 4 = .ptr h.length 0 0/\s.tm 7 = .i ((k+j:Nat):Int)/\s.tm 8 = .i 2/\s.h=h++[.cells 54 3 [zTok]]:=⟨_,rfl⟩;refine QD I ?_ (m:=w.length) ?_
 ·intro m' s hs;rw[hI]at hs;obtain⟨tm,hp⟩:=s;dsimp only at hs;obtain⟨j,rfl,hj,hw2,t0,t1,t4,t7,t8,rfl⟩:=hs
  (with_reducible refine Qq fun K hK=>?_)
  refine Yb (fun s=>s.tm 78 = .b (decide (j<w.length))/\s.tm 0 = .v (.string (mkB l))/\s.tm 1 = .i k/\s.tm 4 = .ptr h.length 0 0/\s.tm 7 = .i ((k+j:Nat):Int)/\s.tm 8 = .i 2/\s.h=h++[.cells 54 3 [zTok]]) ?_ ?_
  ·rintro⟨tm,hq⟩ ⟨t78,t0,t1,t4,t7,t8,rfl⟩
   dsimp only at t78 t0 t1 t4 t7 t8
   by_cases hjw:j<w.length
   ·rw[QuU hjw]at t78
    have hlt:k+j<l.length:=by omega
    have w5:IntKind.i64.wrap (((k+j:Nat):Int)+1)=((k+(j+1):Nat):Int):=by rw[Ya (by omega)];omega
    rw[drop_cons hlt,QvR]at hw2
    have hc:isW l[k+j]=true:=by
     cases q:isW l[k+j]with
     |true=>rfl
     |false =>
      rw[q]at hw2
      simp at hw2;omega
    rw[QuH hc,QtS]at hw2
    refine Qm (by exact t78) ?_
    simp only[↓reduceIte]
    repeat first|refine Qb ?_;simp only[go_sem,seval,t7,w5]|refine hK _ ?_;clear hK
    refine XB.mk (m':=w.length - (j+1)) (by omega) ?_
    rw[hI]
    exact⟨j+1,rfl,by omega,by rw[show k+(j+1)=k+j+1 by omega];omega,t0,t1,t4,rfl,t8,rfl⟩
   ·rw[QuM hjw]at t78
    have hje:j=w.length:=by omega
    subst hje
    have hsp:=Qai Tryz.prog 9 (by kernel_rfl) (mkB l) (some (.i64,(k:Nat))) (some (.i64,(k+w.length:Nat))) k (k+w.length) ⟨by omega,by rw[Qv];omega,by omega⟩ ⟨by omega,by omega,by omega⟩
    have w6:IntKind.i64.wrap (((k+w.length:Nat):Int) - ((k:Nat):Int))=((w.length:Nat):Int):=by rw[Ya (by omega)];omega
    simp only[QtH]at hsp
    rw[ZP l k _ (by omega),hwt]at hsp
    refine Qm (by exact t78) ?_
    simp only[↓reduceIte,QtJ]
    by_cases h40:40<w.length
    ·have x1:((w.length:Nat):Int)>40:=by omega
     have x2:(40:Int)<((w.length:Nat):Int):=by omega
     repeat first|refine Qb ?_;simp only[go_sem,seval,t1,t4,t7,zTok,w6,x1]|refine hK _ ?_;clear hK|clear hK;refine hK _ ?_;clear hK
     exact Qc (htake _ _) (.keep (Yz _ k (.inr 7))) ⟨by rw[ht,QuH h40];rfl,rfl⟩
    ·have x1:¬((w.length:Nat):Int)>40:=by omega
     have x2:¬(40:Int)<((w.length:Nat):Int):=by omega
     repeat first|refine Qb ?_;simp only[go_sem,seval,YS,t0,t1,t4,t7,t8,zTok,w6,x1,hsp]|refine hK _ ?_;clear hK|clear hK;refine hK _ ?_;clear hK
     exact Qc (htake _ _) (.keep (Yz _ k (.inl (2,w)))) ⟨by rw[ht,QuE h40];rfl,rfl⟩
  ·skip
   by_cases hlt:k+j<l.length
   ·have y2:((k+j:Nat):Int)<((l.length:Nat):Int):=by omega
    have hix2:=Yv Tryz.prog 9 (by kernel_rfl) (mkB l) (k+j) (by rw[Qv];exact hlt)
    rw[YT l (k+j) hlt]at hix2
    have bl:=Qbg l[k+j]
    have bu:=QbX l[k+j]
    have bd:=QaU l[k+j]
    have hisW:isW l[k+j]=((lowB l[k+j]||upB l[k+j])||isD l[k+j]):=by rw[<-Qfo];rfl
    have hjw:decide (j<w.length)=isW l[k+j]:=by
     rw[drop_cons hlt,QvR]at hw2
     cases q:isW l[k+j]with
     |true=>rw[QuH q,QtS]at hw2;exact QuU (by omega)
     |false=>rw[q]at hw2;simp at hw2;exact QuM (by omega)
    cases q1:lowB l[k+j]with
    |true =>
     rw[q1]at bl
     repeat first|refine owN ?_|(first|refine Qe bl ?_|refine owK fun K hK=>?_|refine nwcS fun K hK=>?_|refine nwcR fun K hK=>?_|refine Qb ?_);simp only[go_sem,seval,t0,t7,hsl,Qv,y2,YS,X1,t1,t4,t8,hix2]|refine hK _ ?_;clear hK
     exact⟨by rw[hjw,hisW,q1];rfl,t0,t1,t4,t7,t8,rfl⟩
    |false =>
     rw[q1]at bl
     cases q2:upB l[k+j]with
     |true =>
      rw[q2]at bu
      repeat first|refine owN ?_|(first|refine Qe bl ?_|refine Qe bu ?_|refine owK fun K hK=>?_|refine nwcS fun K hK=>?_|refine nwcR fun K hK=>?_|refine Qb ?_);simp only[go_sem,seval,t0,t7,hsl,Qv,y2,YS,X1,t1,t4,t8,hix2]|refine hK _ ?_;clear hK
      exact⟨by rw[hjw,hisW,q1,q2];rfl,t0,t1,t4,t7,t8,rfl⟩
     |false =>
      rw[q2]at bu
      cases q3:isD l[k+j]with
      |true =>
       rw[q3]at bd
       repeat first|refine owN ?_|(first|refine Qe bl ?_|refine Qe bu ?_|refine Qe bd ?_|refine owK fun K hK=>?_|refine nwcS fun K hK=>?_|refine nwcR fun K hK=>?_|refine Qb ?_);simp only[go_sem,seval,t0,t7,hsl,Qv,y2,YS,X1,t1,t4,t8,hix2]|refine hK _ ?_;clear hK
       exact⟨by rw[hjw,hisW,q1,q2,q3];rfl,t0,t1,t4,t7,t8,rfl⟩
      |false =>
       rw[q3]at bd
       repeat first|refine owN ?_|(first|refine Qe bl ?_|refine Qe bu ?_|refine Qe bd ?_|refine owK fun K hK=>?_|refine nwcS fun K hK=>?_|refine nwcR fun K hK=>?_|refine Qb ?_);simp only[go_sem,seval,t0,t7,hsl,Qv,y2,YS,X1,t1,t4,t8,hix2]|refine hK _ ?_;clear hK
       exact⟨by rw[hjw,hisW,q1,q2,q3];rfl,t0,t1,t4,t7,t8,rfl⟩
   ·have y2:¬((k+j:Nat):Int)<((l.length:Nat):Int):=by omega
    have hjw:decide (j<w.length)=false:=by
     rw[QvI (by omega),List.takeWhile_nil,QtT,Qt4]at hw2
     exact QuM (by omega)
    repeat first|refine owN ?_|(first|refine owK fun K hK=>?_|refine nwcS fun K hK=>?_|refine nwcR fun K hK=>?_|refine Qb ?_);simp only[go_sem,seval,t0,t7,hsl,Qv,y2,YS,X1,t1,t4,t8]|refine hK _ ?_;clear hK
    exact⟨by rw[hjw];rfl,t0,t1,t4,t7,t8,rfl⟩
 ·rw[hI]
  exact⟨0,rfl,QuG _,by rw[Qt4,<-hw,QtR],rfl,rfl,rfl,rfl,rfl,rfl⟩
theorem QnM(hk2:k<l.length)(hL:lowB l[k]=false)(hU:upB l[k]=false)(hD:isD l[k]=true):QA Tryz.prog 51 [.v (.string (mkB l)),.i k0] h fun o h'=>o = .ret (rdT k (Zn (l.drop k)))/\h'=h:=by
 have hsl:=fun b=>Y5 Tryz.prog 9 3 (by kernel_rfl) b
 have z1:¬((k0:Nat):Int)<0:=by omega
 have z2:¬((l.length:Nat):Int)<((k0:Nat):Int):=by omega
 have z3:¬((k0:Nat):Int)>((l.length:Nat):Int):=by omega
 have z4:¬((l.length:Nat):Int)>16384:=by omega
 have z5:¬(16384:Int)<((l.length:Nat):Int):=by omega
 have cs:=Qa5 l hl k0 hk0
 rw[<-hk]at cs
 have _u:=he
 have y1:(((k:Nat):Int)==((l.length:Nat):Int))=false:=by simp;omega
 have hix:=Yv Tryz.prog 9 (by kernel_rfl) (mkB l) k (by rw[Qv];exact hk2)
 rw[YT l k hk2]at hix
 have cl:=Qbg l[k]
 have cu:=QbX l[k]
 have cd:=QaU l[k]
 have hd:=drop_cons hk2
 have hlu:=Qfo l[k]
 rw[hL]at cl hlu
 rw[hU]at cu hlu
 rw[hD]at cd
 obtain⟨w,hw⟩:∃w,w=(l.drop k).takeWhile isD:=⟨_,rfl⟩
 have hn:w.length<=l.length - k:=by rw[hw,<-QuX];exact(Qvu _).length_le
 have ht:Zn (l.drop k)=if 2147483648<numVal w then .inr 5 else .inl (3,w):=by rw[hw,hd,Zn,QuE (by rw[hlu];decide),QuH hD]
 have hwt:(l.drop k).take w.length=w:=by rw[hw];exact(QvV.1 (Qvu isD)).symm
 have hwd:∀c∈w,isD c=true:=fun c hc=>by
  rw[hw]at hc
  exact Qvg.1 List.all_takeWhile c hc
 have cv:=Qj3 w hwd (by omega)
 refine Qa Tryz.func51 rfl Tryz.call51 Tryz.ntmps51 Tryz.results51 (by simp) ?_
 repeat (first|refine Qe cs ?_|refine Qe cl ?_|refine Qe cu ?_|refine Qe cd ?_|refine Qb ?_);simp only[go_sem,seval,hsl,Qv,z1,z2,z4,y1,hix]
 obtain⟨I,hI⟩:∃I:Nat->AS->Prop,I=fun m' s=>∃j:Nat,m'=w.length - j/\j<=w.length/\j+((l.drop (k+j)).takeWhile isD).length=w.length/\s.tm 0 = .v (.string (mkB l))/\s.tm 1 = .i k/\s.tm 4 = .ptr h.length 0 0/\s.tm 7 = .i ((k+j:Nat):Int)/\s.tm 8 = .i 3/\s.h=h++[.cells 54 3 [zTok]]:=⟨_,rfl⟩;refine QD I ?_ (m:=w.length) ?_
 ·intro m' s hs;rw[hI]at hs;obtain⟨tm,hp⟩:=s;dsimp only at hs;obtain⟨j,rfl,hj,hw2,t0,t1,t4,t7,t8,rfl⟩:=hs
  by_cases hlt:k+j<l.length
  ·have y2:((k+j:Nat):Int)<((l.length:Nat):Int):=by omega
   have hix2:=Yv Tryz.prog 9 (by kernel_rfl) (mkB l) (k+j) (by rw[Qv];exact hlt)
   rw[YT l (k+j) hlt]at hix2
   have bd:=QaU l[k+j]
   have w5:IntKind.i64.wrap (((k+j:Nat):Int)+1)=((k+(j+1):Nat):Int):=by rw[Ya (by omega)];omega
   have hd2:=drop_cons hlt
   rw[hd2,QvR]at hw2
   cases q3:isD l[k+j]with
   |true =>
    rw[q3]at bd
    rw[QuH q3,QtS]at hw2
    repeat (first|refine Qe bd ?_|refine Qb ?_);simp only[go_sem,seval,t0,t7,hsl,zTok,Qv,y2,hix2,w5]
    refine XB.mk (m':=w.length - (j+1)) (by omega) ?_
    rw[hI]
    exact⟨j+1,rfl,by omega,by rw[show k+(j+1)=k+j+1 by omega];omega,t0,t1,t4,rfl,t8,rfl⟩
   |false =>
    rw[q3]at bd
    rw[QuE (by rw[q3];decide),QtT,Qt4]at hw2
    subst hw2
    have hsp:=Qai Tryz.prog 9 (by kernel_rfl) (mkB l) (some (.i64,(k:Nat))) (some (.i64,(k+w.length:Nat))) k (k+w.length) ⟨by omega,by rw[Qv];omega,by omega⟩ ⟨by omega,by omega,by omega⟩
    simp only[QtH]at hsp
    rw[ZP l k _ (by omega),hwt]at hsp
    by_cases hb:2147483648<numVal w
    ·have x1:((min (numVal w) 2147483649:Nat):Int)>2147483648:=by omega
     have x2:(2147483648:Int)<((min (numVal w) 2147483649:Nat):Int):=by omega
     repeat (first|refine Qe bd ?_|refine Qe cv ?_|refine Qb ?_);simp only[go_sem,seval,YS,t0,t1,t4,t7,hsl,zTok,Qv,y2,hix2,hsp,x1]
     exact Qc (htake _ _) (.keep (Yz _ k (.inr 5))) ⟨by rw[ht,QuH hb];rfl,rfl⟩
    ·have x1:¬((min (numVal w) 2147483649:Nat):Int)>2147483648:=by omega
     have x2:¬(2147483648:Int)<((min (numVal w) 2147483649:Nat):Int):=by omega
     repeat (first|refine Qe bd ?_|refine Qe cv ?_|refine Qb ?_);simp only[go_sem,seval,YS,t0,t1,t4,t7,t8,hsl,zTok,Qv,y2,hix2,hsp,x1]
     exact Qc (htake _ _) (.keep (Yz _ k (.inl (3,w)))) ⟨by rw[ht,QuE hb];rfl,rfl⟩
  ·have y2:¬((k+j:Nat):Int)<((l.length:Nat):Int):=by omega
   rw[QvI (by omega),List.takeWhile_nil,QtT,Qt4]at hw2
   subst hw2
   have hsp:=Qai Tryz.prog 9 (by kernel_rfl) (mkB l) (some (.i64,(k:Nat))) (some (.i64,(k+w.length:Nat))) k (k+w.length) ⟨by omega,by rw[Qv];omega,by omega⟩ ⟨by omega,by omega,by omega⟩
   simp only[QtH]at hsp
   rw[ZP l k _ (by omega),hwt]at hsp
   by_cases hb:2147483648<numVal w
   ·have x1:((min (numVal w) 2147483649:Nat):Int)>2147483648:=by omega
    have x2:(2147483648:Int)<((min (numVal w) 2147483649:Nat):Int):=by omega
    repeat (first|refine Qe cv ?_|refine Qb ?_);simp only[go_sem,seval,YS,t0,t1,t4,t7,hsl,zTok,Qv,y2,hsp,x1]
    exact Qc (htake _ _) (.keep (Yz _ k (.inr 5))) ⟨by rw[ht,QuH hb];rfl,rfl⟩
   ·have x1:¬((min (numVal w) 2147483649:Nat):Int)>2147483648:=by omega
    have x2:¬(2147483648:Int)<((min (numVal w) 2147483649:Nat):Int):=by omega
    repeat (first|refine Qe cv ?_|refine Qb ?_);simp only[go_sem,seval,YS,t0,t1,t4,t7,t8,hsl,zTok,Qv,y2,hsp,x1]
    exact Qc (htake _ _) (.keep (Yz _ k (.inl (3,w)))) ⟨by rw[ht,QuE hb];rfl,rfl⟩
 ·rw[hI]
  exact⟨0,rfl,QuG _,by rw[Qt4,<-hw,QtR],rfl,rfl,rfl,rfl,rfl,rfl⟩
theorem QlR(hk2:k<l.length)(hL:lowB l[k]=false)(hU:upB l[k]=false)(hD:isD l[k]=false)(hs:QeH (l.drop k)=none):QA Tryz.prog 51 [.v (.string (mkB l)),.i k0] h fun o h'=>o = .ret (rdT k (Zn (l.drop k)))/\h'=h:=by
 have hsl:=fun b=>Y5 Tryz.prog 9 3 (by kernel_rfl) b
 have z1:¬((k0:Nat):Int)<0:=by omega
 have z2:¬((l.length:Nat):Int)<((k0:Nat):Int):=by omega
 have z3:¬((k0:Nat):Int)>((l.length:Nat):Int):=by omega
 have z4:¬((l.length:Nat):Int)>16384:=by omega
 have z5:¬(16384:Int)<((l.length:Nat):Int):=by omega
 have cs:=Qa5 l hl k0 hk0
 rw[<-hk]at cs
 have _u:=he
 have y1:(((k:Nat):Int)==((l.length:Nat):Int))=false:=by simp;omega
 have hix:=Yv Tryz.prog 9 (by kernel_rfl) (mkB l) k (by rw[Qv];exact hk2)
 rw[YT l k hk2]at hix
 have cl:=Qbg l[k]
 have cu:=QbX l[k]
 have cd:=QaU l[k]
 have hd:=drop_cons hk2
 have hlu:=Qfo l[k]
 rw[hL]at cl hlu
 rw[hU]at cu hlu
 rw[hD]at cd
 have cy:=Qex l hl k (by omega)
 rw[hs]at cy
 simp only[Option.getD_none]at cy
 have hs2:=hs
 rw[hd]at hs2
 have ht:Zn (l.drop k) = .inr 16:=by rw[hd,Zn,QuE (by rw[hlu];decide),QuE (by rw[hD];decide),hs2]
 have w1:IntKind.i64.wrap (((k:Nat):Int)+(([]:List UInt8).length:Nat))=((k:Nat):Int):=by rw[Ya (by simp only[QtT];omega)];simp
 have w2:IntKind.i64.wrap (((k:Nat):Int)+0)=((k:Nat):Int):=by rw[Ya (by omega)];omega
 rw[ht]
 refine Qa Tryz.func51 rfl Tryz.call51 Tryz.ntmps51 Tryz.results51 (by simp) ?_
 repeat (first|refine Qe cs ?_|refine Qe cl ?_|refine Qe cu ?_|refine Qe cd ?_|refine Qe cy ?_|refine Qb ?_);simp only[go_sem,seval,hsl,Qv,z1,z2,z4,y1,hix,w2]
 exact Qc (htake _ _) (.keep (Yz _ k (.inr 16))) ⟨rfl,rfl⟩
theorem QlS(hk2:k<l.length)(hL:lowB l[k]=false)(hU:upB l[k]=false)(hD:isD l[k]=false)(x:List UInt8)(hs:QeH (l.drop k)=some x):QA Tryz.prog 51 [.v (.string (mkB l)),.i k0] h fun o h'=>o = .ret (rdT k (Zn (l.drop k)))/\h'=h:=by
 have hsl:=fun b=>Y5 Tryz.prog 9 3 (by kernel_rfl) b
 have z1:¬((k0:Nat):Int)<0:=by omega
 have z2:¬((l.length:Nat):Int)<((k0:Nat):Int):=by omega
 have z3:¬((k0:Nat):Int)>((l.length:Nat):Int):=by omega
 have z4:¬((l.length:Nat):Int)>16384:=by omega
 have z5:¬(16384:Int)<((l.length:Nat):Int):=by omega
 have cs:=Qa5 l hl k0 hk0
 rw[<-hk]at cs
 have _u:=he
 have y1:(((k:Nat):Int)==((l.length:Nat):Int))=false:=by simp;omega
 have hix:=Yv Tryz.prog 9 (by kernel_rfl) (mkB l) k (by rw[Qv];exact hk2)
 rw[YT l k hk2]at hix
 have cl:=Qbg l[k]
 have cu:=QbX l[k]
 have cd:=QaU l[k]
 have hd:=drop_cons hk2
 have hlu:=Qfo l[k]
 rw[hL]at cl hlu
 rw[hU]at cu hlu
 rw[hD]at cd
 have cy:=Qex l hl k (by omega)
 rw[hs]at cy
 simp only[Qwh]at cy
 have hs2:=hs
 rw[hd]at hs2
 have ht:Zn (l.drop k) = .inl (4,x):=by rw[hd,Zn,QuE (by rw[hlu];decide),QuE (by rw[hD];decide),hs2]
 obtain⟨x1,x3,xp⟩:=QfV hs
 rw[QbT,Qvx]at xp
 have xl:x.length<=l.length - k:=by have:=Qvq List.length xp;rw[QuY,QuX]at this;omega
 have w1:IntKind.i64.wrap (((k:Nat):Int)+((x.length:Nat):Int))=((k+x.length:Nat):Int):=by rw[Ya (by omega)];omega
 have q1:(((k+x.length:Nat):Int)==((k:Nat):Int))=false:=by simp;omega
 have hsp:=Qai Tryz.prog 9 (by kernel_rfl) (mkB l) (some (.i64,(k:Nat))) (some (.i64,(k+x.length:Nat))) k (k+x.length) ⟨by omega,by rw[Qv];omega,by omega⟩ ⟨by omega,by omega,by omega⟩
 simp only[QtH]at hsp
 rw[ZP l k _ (by omega),xp]at hsp
 rw[ht]
 refine Qa Tryz.func51 rfl Tryz.call51 Tryz.ntmps51 Tryz.results51 (by simp) ?_
 repeat (first|refine Qe cs ?_|refine Qe cl ?_|refine Qe cu ?_|refine Qe cd ?_|refine Qe cy ?_|refine Qb ?_);simp only[go_sem,seval,YS,hsl,Qv,z1,z2,z4,y1,hix,w1,q1,hsp]
 exact Qc (htake _ _) (.keep (Yz _ k (.inl (4,x)))) ⟨rfl,rfl⟩
end
theorem QlQ(l:List UInt8)(hl:l.length<=16384)(k0:Nat)(hk0:k0<=l.length)(h:AH):QA Tryz.prog 51 [.v (.string (mkB l)),.i k0] h fun o h'=>o = .ret (QfA l.length (l.drop k0))/\h'=h:=by
 obtain⟨j,j1,j2⟩:=Qdy (l.drop k0)
 have e1:XS false (l.drop k0)=l.drop (l.length - (XS false (l.drop k0)).length):=by
  rw[QuX]at j1
  rw[j2,Qwj,QuX]
  congr 1;omega
 have en:QfA l.length (l.drop k0)=rdT (l.length - (XS false (l.drop k0)).length) (Zn (l.drop (l.length - (XS false (l.drop k0)).length))):=by rw[QfA,<-e1]
 rw[en]
 generalize hk:l.length - (XS false (l.drop k0)).length=k at *
 by_cases e:k=l.length
 ·exact QnL l hl k0 hk0 h k hk.symm e1 e
 ·have hlt:k<l.length:=by omega
  cases hL:lowB l[k]with
  |true=>exact QnN l hl k0 hk0 h k hk.symm e1 hlt hL
  |false =>
   cases hU:upB l[k]with
   |true=>exact Qpa l hl k0 hk0 h k hk.symm e1 hlt hL hU
   |false =>
    cases hD:isD l[k]with
    |true=>exact QnM l hl k0 hk0 h k hk.symm e1 hlt hL hU hD
    |false =>
     cases hs:QeH (l.drop k)with
     |none=>exact QlR l hl k0 hk0 h k hk.symm e1 hlt hL hU hD hs
     |some x=>exact QlS l hl k0 hk0 h k hk.symm e1 hlt hL hU hD x hs
end Go.Proofs.YticgcpebdldbgaaGreatDoor.Ab
namespace Go.Proofs.YticgcpebdldbgaaGreatDoor.Ab
open Go.Proofs
theorem QlU(l:List UInt8)(hl:l.length<=16384)(h:AH):QA Tryz.prog 23 [.v (.string (mkB l))] h fun o h'=>o = .ret (scR (Zx l))/\h'=h:=by
 have hsl0:=fun b=>Y5 Tryz.prog 9 3 (by kernel_rfl) b
 have w0:IntKind.i64.wrap (((l.length:Nat):Int)+1)=((l.length+1:Nat):Int):=XM (by omega)
 rw[Zx,QuE (by omega)]
 generalize hR:QaZ l.length (l.length+1) l=R
 refine Qa Tryz.func23 rfl Tryz.call23 Tryz.ntmps23 Tryz.results23 (by simp) ?_
 iterate 6 (try (first|(((with_reducible refine Qd fun K E hK hE=>?_));simp only[go_sem,seval])|((with_reducible refine hK _ ?_);clear hK)))
 refine Zu 5 54 3 rfl ?_
 repeat first|refine Qb ?_;simp only[go_sem,seval,hsl0,Qv,w0]|refine hK _ ?_;clear hK
 obtain⟨I,hI⟩:∃I:Nat->AS->Prop,I=fun m' s=>∃(ts:List Tk) (k:Nat) (G:AH),m'=l.length - k/\k<=l.length/\ts.length<=k/\(∃m,l.length - k<m/\scJ ts (QaZ l.length m (l.drop k))=R)/\s.tm 0 = .v (.string (mkB l))/\s.tm 5 = .sl 3 (tks ts) (some h.length)/\s.tm 6 = .i k/\s.tm 12 = .i ((l.length+1:Nat):Int)/\s.tm 13 = .i ts.length/\s.h=h++(.grow 54 3 ts.length::G):=⟨_,rfl⟩;refine QD I ?_ (m:=l.length) ?_
 ·intro m' s hs;rw[hI]at hs;obtain⟨tm,hp⟩:=s;dsimp only at hs;obtain⟨ts,k,G,rfl,hk,htl,⟨m,hm,hR2⟩,t0,t5,t6,t12,t13,rfl⟩:=hs
  have yl:((ts.length:Nat):Int)<((l.length+1:Nat):Int):=by omega
  have wl:IntKind.i64.wrap (((ts.length:Nat):Int)+1)=((ts.length+1:Nat):Int):=XM (by omega)
  have hm1:m=m - 1+1:=by omega
  rw[hm1,QaZ]at hR2
  have cn:=fun L=>QlQ l hl k hk (h++L)
  obtain⟨j,j1,j2⟩:=Qdy (l.drop k)
  have hsl:(XS false (l.drop k)).length<=l.length - k:=by rw[j2,QuX,QuX];omega
  have e1:XS false (l.drop k)=l.drop (l.length - (XS false (l.drop k)).length):=by
   rw[QuX]at j1
   rw[j2,Qwj,QuX]
   congr 1;omega
  rw[QfA]at cn
  have x1:∀(Y:AH),(G++Y)[G.length]? = Y[0]? := fun Y=>X8 _ _
  have x2:∀(Y:AH) k,(G++Y)[G.length+k]? = Y[k]? := fun Y k=>hget _ _ _
  have x3:∀(Y:AH) y,(G++Y).set G.length y=G++Y.set 0 y:=fun Y y=>Yh _ _ _
  have ev:(tks ts).length=ts.length:=Qas _
  cases ht:Zn (XS false (l.drop k))with
  |inr e =>
   rw[ht]at hR2 cn
   have hR3:Sum.inr (((l.length - (XS false (l.drop k)).length:Nat):Int),e)=R:=hR2
   subst hR3
   have he:(e != 0)=true:=by
    have:=QhZ ht
    simpa using this
   repeat first|(first|refine FunW.QsR (cn _) ?_|refine Qb ?_);simp only[go_sem,seval,t0,t6,t12,t13,yl,rdT,zTok,he]|refine hK _ ?_;clear hK
   exact Qc (htake _ _) (.keep (QfQ _ (.inr (_,e)))) ⟨rfl,rfl⟩
  |inl p =>
   obtain⟨kd,x⟩:=p
   rw[ht]at hR2 cn
   have hm2:(ts.length+1) * 32<=140737488355328:=by omega
   have hm3:ts.length+1<=maxLen:=by simp only[maxLen];omega
   have e0:((0:Int) != 0)=false:=rfl
   rcases Qh0 ht with⟨k0,hx1,hx2⟩|⟨k0,hx1,r,hx2⟩
   ·subst k0
    subst hx2
    have hR3:Sum.inl (ts++[⟨0,((l.length - (XS false (l.drop k)).length:Nat):Int),eB⟩])=R:=hR2
    subst hR3
    have z1:((0:Int)==0)=true:=rfl
    generalize l.length - (XS false (l.drop k)).length=i at *
    have evs:tks (ts++[⟨0,((i:Nat):Int),eB⟩])=tks ts++[.agg [.i 0,.i i,.v (.string (mkB []))]]:=by rw[tks,Qvr];rfl
    repeat first|(first|refine FunW.QsR (cn _) ?_|refine Qb ?_);simp only[go_sem,seval,t0,t5,t6,t12,t13,yl,rdT,tkv,x1,x3,ev,hm2,hm3,Quz]|refine hK _ ?_;clear hK
    refine Qc (htake _ _) (r':=.tup [.sl 3 (tks ts++[.agg [.i 0,.i i,.v (.string (mkB []))]]) none,.i 0,.i 0]) (Frz.tup rfl fun j a a' h1 h2=>?_) ⟨by rw[scR,evs],rfl⟩
    match j,h1,h2 with
    |0,h1,h2=>cases h1;cases h2;exact .tok (by rw[<-evs];exact Qb0 _ _)
    |1,h1,h2=>cases h1;cases h2;exact .keep (.v _)
    |2,h1,h2=>cases h1;cases h2;exact .keep (.v _)
    |j+3,h1,h2=>simp at h1
   ·have hR3:scJ (ts++[⟨kd,((l.length - (XS false (l.drop k)).length:Nat):Int),mkB x⟩]) (QaZ l.length (m - 1) ((XS false (l.drop k)).drop x.length))=R:=by
     rw[<-hR2]
     show _=scJ ts (if kd=0 then _ else match QaZ l.length (m - 1) ((XS false (l.drop k)).drop x.length)with | .inl ts=>_ | .inr e=>_)
     rw[QuE k0]
     cases QaZ l.length (m - 1) ((XS false (l.drop k)).drop x.length)with
     |inl us=>simp[scJ]
     |inr e=>rfl
    have hxl:0<x.length:=QvZ.2 hx1
    have hxr:x.length<=(XS false (l.drop k)).length:=by rw[hx2,Quw];omega
    have e9:(XS false (l.drop k)).drop x.length=l.drop (l.length - (XS false (l.drop k)).length+x.length):=by
     conv=>lhs;rw[e1]
     rw[Qwj]
    rw[e9]at hR3
    generalize (XS false (l.drop k)).length=u at *
    have z1:(kd==0)=false:=by simpa using k0
    have evs:tks (ts++[⟨kd,((l.length - u:Nat):Int),mkB x⟩])=tks ts++[.agg [.i kd,.i ((l.length - u:Nat):Int),.v (.string (mkB x))]]:=by rw[tks,Qvr];rfl
    repeat first|(first|refine FunW.QsR (cn _) ?_|refine Qb ?_);simp only[go_sem,seval,t0,t5,t6,t12,t13,yl,wl,rdT,tkv,z1,x1,x3,ev,hm2,hm3,Quz]|refine hK _ ?_;clear hK
    refine XB.mk (m':=l.length - (l.length - u+x.length)) (by omega) ?_
    rw[hI]
    refine⟨ts++[⟨kd,((l.length - u:Nat):Int),mkB x⟩],l.length - u+x.length,G++[.cells 54 3 [tkv kd ((l.length - u:Nat):Int) x]],rfl,by omega,by simp;omega,⟨m - 1,by omega,hR3⟩,t0,?_,rfl,t12,?_,?_⟩
    ·rw[evs];rfl
    ·rw[Quw];rfl
    ·rw[Quw];rfl
 ·rw[hI]
  exact⟨[],0,[],rfl,QuG _,QuD _,⟨l.length+1,by omega,by rw[<-hR];cases h0:QaZ l.length (l.length+1) l <;> simp[scJ,h0]⟩,rfl,rfl,rfl,rfl,rfl,rfl⟩
end Go.Proofs.YticgcpebdldbgaaGreatDoor.Ab
namespace Go.Proofs.YticgcpebdldbgaaGreatDoor.Ab
open Go.Proofs
def txs:List Tk->Nat
 |[]=>0
 |t::l=>t.text.toList.length+txs l
theorem Qn0:∀{l:List Tk} {t:Tk},t∈l->t.text.toList.length<=txs l
 |u::l,t,h=>by
  rw[txs]
  rcases QuL.1 h with rfl|h
  ·omega
  ·have:=Qn0 h;omega
theorem QkS(tot:Nat):∀(m:Nat) (q:List UInt8) (ts:List Tk),QaZ tot m q = .inl ts->txs ts<=q.length
 |0,_,_,h=>by cases h;exact QuG _
 |m+1,q,ts,h=>by
  rw[QaZ]at h
  have hsk:=QcL false q
  cases ht:Zn (XS false q)with
  |inr e=>rw[ht]at h;cases h
  |inl p =>
   obtain⟨k,x⟩:=p
   rw[ht]at h
   simp only at h
   split at h
   ·cases h
    show eB.toList.length+0<=_
    rw[show eB.toList=[]from by rw[Lib.toList_data];rfl]
    exact QuG _
   ·rename_i k0
    rcases Qh0 ht with⟨k1,_,_⟩|⟨k1,hx1,r,hx2⟩
    ·exact absurd k1 k0
    ·cases hs:QaZ tot m ((XS false q).drop x.length)with
     |inr e=>rw[hs]at h;cases h
     |inl us =>
      rw[hs]at h
      cases h
      have h1:=QkS tot m _ us hs
      have h2:x.length<=(XS false q).length:=by rw[hx2,Quw];omega
      rw[QuX]at h1
      show(mkB x).toList.length+txs us<=_
      rw[Qen];omega
theorem Qqy{l:List UInt8}{ts:List Tk}(h:Zx l = .inl ts)(hl:l.length<=1000000):TxOk ts:=by
 rw[Zx]at h
 split at h
 ·cases h
 ·have:=QkS _ _ _ _ h
  exact fun t ht=>Qu1 (Qn0 ht) (by omega)
theorem QpC(h:AH)(a x y:AB)(L:AH):hs (h++[a,x]) (h.length+1) y++L=h++(a::y::L):=by
 unfold hs
 rw[Qva _ _ (by omega),Qvc]
 simp
theorem Qrd(h:AH)(a x:AB):h.length+1<(h++[a,x]).length:=by simp
theorem RC.lit{P:Program}{f:FuncId}{args:List AV}{x y:AB}{r:AV}{h:AH}(H:RC P f args (h.length+1) none x r y)(a:AB)(L:AH):QA P f args (h++(a::x::L)) fun o h'=>o = .ret r/\h'=h++(a::y::L):=by
 have:=H.app (h:=h++[a,x]) (Qrd h a x) (fun g hg=>by cases hg) L
 rwa [QpC,QpC]at this
section
variable{all:List Tk}(hN:all.length<=1000000)(hD:TkOk all)(hX:TxOk all)
include hN hD hX
end
end Go.Proofs.YticgcpebdldbgaaGreatDoor.Ab

