/-
  An abstract program logic, contracts of functions, and laws of terms and rules (part 7).
-/
import Derived.Test.YticgcpebdldbgaaGreatDoorAbTwo
import Derived.Test.YticgcpebdldbgaaGreatDoorAbThree
import Derived.Test.YticgcpebdldbgaaGreatDoorAbSix
import Derived.Test.YticgcpebdldbgaaGreatDoorAbFour
import Derived.Test.YticgcpebdldbgaaGreatDoorAbOne
set_option linter.unusedVariables false
set_option linter.unusedSimpArgs false
set_option maxHeartbeats 4000000
set_option maxRecDepth 4000
namespace Go.Proofs.YticgcpebdldbgaaGreatDoor.Ab
open Go.Proofs
def rh(h:AH)(i g:Nat)(all:List Tk)(s:PS)(pos e:Int):AH:=hs2 h i (rdB all (some g) s pos e) g (gB s)
structure IG (h:AH) (i g:Nat):Prop where
 il:i<h.length
 gl:g<h.length
 ig:i≠g
theorem IG.app{h:AH}{i g:Nat}(H:IG h i g)(L:AH):IG (h++L) i g:=⟨by rw[QvO];have:=H.il;omega,by rw[QvO];have:=H.gl;omega,H.ig⟩
def R2(P:Program)(f:FuncId)(args:List AV)(i g:Nat)(all:List Tk)(s:PS)(r:AV)(s':PS)(pos e:Int):Prop :=
 ∀h:AH,IG h i g->Ql P f args (rh h i g all s 0 0) fun o h'=>o = .ret r/\h'=rh h i g all s' pos e
section
variable{h:AH}{i g:Nat}(H:IG h i g)(all:List Tk)(s:PS)(pos e:Int)
theorem YK(h:AH)(i g:Nat)(all:List Tk)(s:PS)(pos e:Int):(rh h i g all s pos e).length=h.length:=Zk ..
theorem Qa5(h:AH)(i g:Nat)(all:List Tk)(s:PS)(pos e:Int)(L:AH):(rh h i g all s pos e++L)[h.length]? = L[0]? := Qlf ..
theorem Qc6(h:AH)(i g:Nat)(all:List Tk)(s:PS)(pos e:Int)(L:AH)(k:Nat):(rh h i g all s pos e++L)[h.length+k]? = L[k]? := Qri ..
theorem ZX(h:AH)(i g:Nat)(all:List Tk)(s:PS)(pos e:Int)(z:AB)(L:AH):(rh h i g all s pos e++L).set h.length z=rh h i g all s pos e++L.set 0 z:=Qi5 ..
theorem Qa4(h:AH)(i g:Nat)(all:List Tk)(s:PS)(pos e:Int)(z:AB)(L:AH)(k:Nat):(rh h i g all s pos e++L).set (h.length+k) z=rh h i g all s pos e++L.set k z:=QpE ..
include H
theorem Qch(L:AH):rh (h++L) i g all s pos e=rh h i g all s pos e++L:=Qkf H.il H.gl _ _ L
theorem QlI:(rdB all (some g) s pos e).Below h.length:=ZM _ (fun k hk=>by cases hk;exact H.gl) _ _ _
theorem QD{s0:PS}{p0 e0:Int}{L:AH}{r r':AV}{Q:AV->AH->Prop}(hf:Frz (rh h i g all s pos e++L) h.length r r')(hq:Q r' (rh h i g all s pos e)):Leaves (rh h i g all s0 p0 e0) (rh h i g all s pos e++L) r Q :=
 Qdx H.ig (QlI H all s pos e) (show(gB s).Below h.length from trivial) hf hq
end
theorem R2.app{P:Program}{f:FuncId}{args:List AV}{i g:Nat}{all:List Tk}{s s':PS}{r:AV}{pos e:Int}(H:R2 P f args i g all s r s' pos e){h:AH}(HI:IG h i g)(L:AH) :
  Ql P f args (rh h i g all s 0 0++L) fun o h'=>o = .ret r/\h'=rh h i g all s' pos e++L:=by
 have:=H (h++L) (HI.app L)
 rwa [Qch HI,Qch HI]at this
theorem QqD{h:AH}{i g:Nat}(hig:i≠g)(x y:AB):hs (h.set g y) i x=hs2 h i x g y:=by
 simp only[hs,hs2]
 rw[QxI _ _ (fun e=>hig e.symm)]
theorem RC.two{P:Program}{f:FuncId}{args:List AV}{i g:Nat}{all:List Tk}{s s':PS}{r:AV}{pos e:Int}(H:RC P f args i (some g) (rdB all (some g) s 0 0) r (rdB all (some g) s' pos e))(hn:s'.names=s.names):R2 P f args i g all s r s' pos e:=by
 intro h HI
 have:=H (h.set g (gB s)) (by simpa using HI.il) (fun k hk=>by cases hk;simpa using HI.gl)
 rw[QqD HI.ig,QqD HI.ig]at this
 have e:gB s'=gB s:=by simp only[gB,hn]
 unfold rh
 rw[e];exact this
theorem Qo8(H:AH)(m:Nat)(k n:Int):Frz H m (.agg [.i k,.i n,.v (.string {data:=#[]}),.v (.slice none 0 0)]) (T.mk k n eB []).av :=
 .agg rfl (Zj (.keep (.v _)) (Zj (.keep (.v _)) (Zj (.keep (.v _)) (Qct (.nil 4)))))
theorem QjV(l:List UInt8)(hd:∀c∈l,isD c=true)(hl:l.length<=1000000)(hb:numVal l<=2147483648):Pure Tryz.prog 56 [.v (.string (mkB l))] (.i (numVal l:Nat)):=by
 intro h
 have hsl:=fun b=>XG Tryz.prog 9 3 (by kernel_rfl) b
 refine Qa Tryz.func56 rfl Tryz.call56 Tryz.ntmps56 Tryz.results56 (by simp) ?_
 repeat refine Qb ?_;simp only[go_sem,seval]
 obtain⟨I,hI⟩:∃I:Nat->AS->Prop,I=fun m' s=>∃p:Nat,m'=l.length - p/\p<=l.length/\s.tm 0 = .v (.string (mkB l))/\s.tm 3 = .i (numVal (l.take p):Nat)/\s.tm 4 = .i p/\s.h=h:=⟨_,rfl⟩;refine Qk I ?_ (m:=l.length) ?_
 ·intro m' s hs;rw[hI]at hs;obtain⟨tm,hp⟩:=s;dsimp only at hs;obtain⟨p,rfl,hp',t0,t3,t4,rfl⟩:=hs
  by_cases hlt:p<l.length
  ·have y1:(((p:Nat):Int)<((l.length:Nat):Int)):=by omega
   have hix:=Xe Tryz.prog 9 (by kernel_rfl) (mkB l) p (by rw[Qj];exact hlt)
   rw[XE l p hlt]at hix
   have d2:=hd l[p] (Qww hlt)
   have hcd:48<=(l[p]).toNat/\(l[p]).toNat<=57:=by unfold isD at d2;simpa using d2
   obtain⟨n1,n2⟩:=QaY hlt
   obtain⟨v,hv⟩:∃v,v=numVal (l.take p):=⟨_,rfl⟩
   have w1:IntKind.i64.wrap (10 * ((v:Nat):Int))=((10 * v:Nat):Int):=by rw[QS (by omega)];omega
   have w2:IntKind.u8.wrap ((((l[p]).toNat:Nat):Int) - 48)=(((l[p]).toNat - 48:Nat):Int):=by rw[QrJ (by omega)];omega
   have w3:=Qry (((l[p]).toNat - 48:Nat):Int) (by omega)
   have w4:IntKind.i64.wrap (((10 * v:Nat):Int)+(((l[p]).toNat - 48:Nat):Int))=((10 * v+((l[p]).toNat - 48):Nat):Int):=by rw[QS (by omega)];omega
   have w5:IntKind.i64.wrap (((p:Nat):Int)+1)=((p+1:Nat):Int):=Qz (by omega)
   rw[<-hv]at t3
   repeat refine Qb ?_;simp only[go_sem,seval,t0,t3,t4,hsl,Qj,y1,hix,w1,w2,w3,w4,w5]
   refine Qs.mk (m':=l.length - (p+1)) (by omega) ?_
   rw[hI]
   refine⟨p+1,rfl,hlt,t0,?_,rfl,rfl⟩
   simp only[upd,↓reduceIte,Nat.reduceEqDiff]
   congr 3
   rw[n1]
   omega
  ·have y1:¬(((p:Nat):Int)<((l.length:Nat):Int)):=by omega
   have e:l.take p=l:=Qw8 (by omega)
   rw[e]at t3
   repeat refine Qb ?_;simp only[go_sem,seval,t0,t3,t4,hsl,Qj,y1]
   (refine Qc QvT (.keep (.v _)) ⟨rfl,rfl⟩)
 ·rw[hI]
  exact⟨0,rfl,Qv2 _,rfl,rfl,rfl,rfl⟩
theorem strs_get{l:List ByteArray}{k:Nat}(h:k<l.length):(strs l)[k]? = some (.v (.string l[k])):=by
 rw[strs,Qwk,QvW h];rfl
theorem Qp6{h:AH}{i g:Nat}(hi:i<h.length)(hig:i≠g)(all:List Tk)(q:PS)(pos e:Int)(L:AH):(hs2 h i (rdB all (some g) q pos e) g (gB q)++L)[i]? = some (.cells 69 5 [.agg [.sl 3 (tks all) none,.i ((all.length - q.toks.length:Nat):Int),.sl 1 (strs q.names) (some g),.i pos,.i e]]):=Qi3 hi hig _ _ L
theorem Qtp{h:AH}{i g:Nat}(hg:g<h.length)(all:List Tk)(q:PS)(pos e:Int)(L:AH):(hs2 h i (rdB all (some g) q pos e) g (gB q)++L)[g]? = some (.grow 9 1 q.names.length):=Qi4 hg _ _ L
def rawT:AV:=.agg [.i 0,.i 0,.v (.string {data:=#[]}),.v (.slice none 0 0)]
section
variable{all:List Tk}{q:PS}(hN:all.length<=1000000)(hS:q.names.length<all.length)(i g:Nat)(x:ByteArray)
include hN hS
theorem Qqe:R2 Tryz.prog 125 [.ptr i 0 0,.v (.string x)] i g all q (pVari x q).1.av (pVari x q).2 0 0:=by
 intro h HI
 unfold rh
 have hi:=HI.il
 have hg:=HI.gl
 have hig:=HI.ig
 have f1:=fun x y=>Zk h i x g y
 have f2:=Qp6 hi hig all q 0 0
 have f3:=Qtp (i:=i) hg all q 0 0
 have f4:=fun x y L=>Qlf (h:=h) (i:=i) (j:=g) x y L
 have f6:=fun x y z L=>Qi5 (h:=h) (i:=i) (j:=g) x y z L
 have f7:=fun x y z L=>QnL (h:=h) (j:=g) hi hig x y z L
 have f8:=fun x y z L=>QnM (h:=h) (i:=i) hg x y z L
 have f9:=fun x y L=>Qi3 (h:=h) (j:=g) hi hig x y L
 have f10:=fun x y L=>Qi4 (h:=h) (i:=i) hg x y L
 have e95:(ByteArray.toList {data:=#[95]})=[95]:=by rw[Lib.toList_data]
 obtain⟨N,hNN⟩:∃N,N=(if nameAt q.names x<q.names.length/\x.toList≠[95]then nameAt q.names x else q.names.length):=⟨_,rfl⟩
 have hNl:N<=q.names.length:=by rw[hNN];split <;> omega
 have hno:∀j (hj:j<q.names.length),j<N->x.toList≠[95]->(q.names[j].toList==x.toList)=false:=fun j hj hlt hx=>by
  have h1:j<nameAt q.names x:=by
   rw[hNN]at hlt
   split at hlt
   ·exact hlt
   ·rename_i hc
    have:¬nameAt q.names x<q.names.length:=fun hk=>hc ⟨hk,hx⟩
    omega
  have:=List.not_of_lt_findIdx h1
  simpa using this
 refine Qa Tryz.func125 rfl Tryz.call125 Tryz.ntmps125 Tryz.results125 (by simp) ?_
 with_reducible repeat first|refine Qf fun K E hK hE=>?_;simp only[go_sem,seval,f1]|refine Qn fun K hK=>?_|refine QA ?_|refine hK _ ?_;clear hK
 obtain⟨I,hI⟩:∃I:Nat->AS->Prop,I=fun m' s=>∃j:Nat,m'=q.names.length - j/\j<=N/\s.tm 0 = .ptr i 0 0/\s.tm 1 = .v (.string x)/\s.tm 4 = .ptr h.length 0 0/\s.tm 5 = .i j/\s.h=hs2 h i (rdB all (some g) q 0 0) g (gB q)++[.cells 48 4 [rawT]]:=⟨_,rfl⟩;refine Qk I ?_ (m:=q.names.length) ?_
 ·intro m' s hs;rw[hI]at hs;obtain⟨tm,hp⟩:=s;dsimp only at hs;obtain⟨j,rfl,hj,t0,t1,t4,t5,rfl⟩:=hs
  have wj:IntKind.i64.wrap (((j:Nat):Int)+1)=((j+1:Nat):Int):=Qz (by omega)
  by_cases hjN:j<N
  ·have hlt:j<q.names.length:=by omega
   have y1:((j:Nat):Int)<((q.names.length:Nat):Int):=by omega
   have hat:=strs_get hlt
   by_cases hx:x.toList=[95]
   ·have z1:(x.toList==ByteArray.toList {data:=#[95]})=true:=by rw[e95,hx];rfl
    cases hz:(q.names[j].toList==x.toList)with
    |true =>
     with_reducible repeat first|(first|refine Qf fun K E hK hE=>?_|refine Qr fun K E hK hE=>?_);simp only[go_sem,seval,t0,t1,t5,f2,Xg,y1,hat,hz,z1,wj]|refine Qn fun K hK=>?_|refine QA ?_|refine QG ?_|refine Qi ?_|refine QP ?_|refine hK _ ?_;clear hK|refine Qm rfl ?_;simp only[↓reduceIte,Qu1]
     refine Qs.mk (m':=q.names.length - (j+1)) (by omega) ?_
     rw[hI]
     exact⟨j+1,rfl,hjN,t0,t1,t4,rfl,rfl⟩
    |false =>
     with_reducible repeat first|(first|refine Qf fun K E hK hE=>?_|refine Qr fun K E hK hE=>?_);simp only[go_sem,seval,t0,t1,t5,f2,Xg,y1,hat,hz,wj]|refine Qn fun K hK=>?_|refine QA ?_|refine QG ?_|refine Qi ?_|refine QP ?_|refine hK _ ?_;clear hK|refine Qm rfl ?_;simp only[↓reduceIte,Qu1]
     refine Qs.mk (m':=q.names.length - (j+1)) (by omega) ?_
     rw[hI]
     exact⟨j+1,rfl,hjN,t0,t1,t4,rfl,rfl⟩
   ·have hz:=hno j hlt hjN hx
    with_reducible repeat first|(first|refine Qf fun K E hK hE=>?_|refine Qr fun K E hK hE=>?_);simp only[go_sem,seval,t0,t1,t5,f2,Xg,y1,hat,hz,wj]|refine Qn fun K hK=>?_|refine QA ?_|refine QG ?_|refine Qi ?_|refine QP ?_|refine hK _ ?_;clear hK|refine Qm rfl ?_;simp only[↓reduceIte,Qu1]
    refine Qs.mk (m':=q.names.length - (j+1)) (by omega) ?_
    rw[hI]
    exact⟨j+1,rfl,hjN,t0,t1,t4,rfl,rfl⟩
  ·have hjN2:j=N:=by omega
   subst hjN2
   by_cases hc:nameAt q.names x<q.names.length/\x.toList≠[95]
   ·rw[QvY hc]at hNN
    have hlt:j<q.names.length:=by omega
    have y1:((j:Nat):Int)<((q.names.length:Nat):Int):=by omega
    have hat:=strs_get hlt
    have z1:(x.toList==ByteArray.toList {data:=#[95]})=false:=by rw[e95];simpa using hc.2
    have hz:(q.names[j].toList==x.toList)=true:=by
     subst hNN
     exact List.findIdx_getElem (p:=fun y:ByteArray=>y.toList==x.toList) (xs:=q.names) (w:=hc.1)
    have hv:pVari x q=(.mk 1 (j:Nat) eB [],q):=by unfold pVari;rw[QvY hc,hNN]
    rw[hv]
    with_reducible repeat first|refine Qf fun K E hK hE=>?_;simp only[go_sem,seval,t0,t1,t4,t5,f2,f4,f6,rawT,Xg,y1,hat,hz,z1]|refine Qn fun K hK=>?_|refine QA ?_|refine Zg ?_|refine QG ?_|refine Qi ?_|refine QcA ?_|refine Qd9 ?_|refine hK _ ?_;clear hK|refine Qm rfl ?_;simp only[↓reduceIte]
    simp only[go_sem,seval,t4,f4]
    refine Qdx (x':=rdB all (some g) q 0 0) (y':=gB q) hig (ZM _ (fun k hk=>by cases hk;exact hg) _ _ _) trivial (Qo8 _ _ _ _) ?_
    exact⟨rfl,rfl⟩
   ·rw[QvU hc]at hNN
    have y1:¬((j:Nat):Int)<((q.names.length:Nat):Int):=by omega
    have hv:pVari x q=(.mk 1 (q.names.length:Nat) eB [],⟨q.toks,q.names++[x]⟩):=by unfold pVari;rw[QvU hc]
    rw[hv]
    have hm:(q.names.length+1) * 16<=140737488355328:=by omega
    have hm2:q.names.length+1<=maxLen:=by simp only[maxLen];omega
    have hln:(strs q.names++[AV.v (.string x)]).length=q.names.length+1:=by rw[QvO,Xg];rfl
    have w1:IntKind.i64.wrap (((q.names.length+1:Nat):Int) - 1)=((q.names.length:Nat):Int):=by rw[QS (by omega)];omega
    have es:∀L,hs2 h i (.cells 69 5 [.agg [.sl 3 (tks all) none,.i ((all.length - q.toks.length:Nat):Int),.sl 1 (strs q.names++[.v (.string x)]) (some g),.i 0,.i 0]]) g (.grow 9 1 (q.names.length+1))++L=hs2 h i (rdB all (some g) ⟨q.toks,q.names++[x]⟩ 0 0) g (gB ⟨q.toks,q.names++[x]⟩)++L:=fun L=>by
     simp only[rdB,gB,Qa8,Qqk,QvO,QwG]
    with_reducible repeat first|refine Qf fun K E hK hE=>?_;simp only[go_sem,seval,t0,t1,t4,t5,rdB,gB,f4,f6,f7,f8,f9,f10,rawT,Xg,y1,hm,hm2,hln,w1]|refine Qn fun K hK=>?_|refine Zg ?_|refine Yp ?_|refine Qi ?_|refine XY ?_|refine XX ?_|refine hK _ ?_;clear hK|clear hK;refine hK _ ?_;clear hK|refine Qm rfl ?_;simp only[↓reduceIte,Qu1]
    simp only[go_sem,seval,t4,f4]
    rw[es]
    refine Qdx (x':=rdB all (some g) ⟨q.toks,q.names++[x]⟩ 0 0) (y':=gB ⟨q.toks,q.names++[x]⟩) hig (ZM _ (fun k hk=>by cases hk;exact hg) _ _ _) trivial (Qo8 _ _ _ _) ?_
    exact⟨by rw[hv],by rw[hv]⟩
 ·rw[hI]
  exact⟨0,rfl,Qv2 _,rfl,rfl,rfl,rfl,rfl⟩
end
end Go.Proofs.YticgcpebdldbgaaGreatDoor.Ab
namespace Go.Proofs.YticgcpebdldbgaaGreatDoor.Ab
open Go.Proofs
def QRd(all:List Tk)(i g:Nat)(f:FuncId)(q:PS->RR T)(N:Nat):Prop :=
 ∀s:PS,s.toks.length<N->Wst all s->R2 Tryz.prog f [.ptr i 0 0] i g all s (.tup [(q s).v.av,.b ((q s).e==0)]) (q s).s (q s).pos (q s).e
theorem QM{H:AH}{m:Nat}{a a':AV}(b:Bool)(h:Frz H m a a'):Frz H m (.tup [a,.b b]) (.tup [a',.b b]):=.tup rfl (Zj h (Qct (.keep (.v _))))
theorem Qj2(H:AH)(m:Nat)(x:ByteArray)(o:Int):Frz H m (.agg [.v (.string x),.v (.slice none 0 0)]) (G.atom ⟨o,x,[]⟩):=.agg rfl (Zj (.keep (.v _)) (Qct (.nil 4)))
theorem Qpm(H:AH)(m:Nat)(x:ByteArray)(o:Int)(l:List T)(k:Nat):Frz H m (.agg [.v (.string x),.sl 4 (avs l) (some k)]) (G.atom ⟨o,x,l⟩):=.agg rfl (Zj (.keep (.v _)) (Qct (.tok (QcH _ _))))
theorem QkC(b:List UInt8)(s:PS):(YI b s).s.names=s.names:=by unfold YI;split <;> rfl
theorem QkA(s:PS):(Zq s).s.names=s.names:=by
 unfold Zq
 split
 ·rfl
 ·split <;> rfl
section
variable{all:List Tk}{i g:Nat}{qx:PS->RR T}{px:PS->PR T}{Nn:Nat}(HR:QRd all i g 84 qx Nn)(HQ:IsF qx px)(hEat:Eat 0 px)(hKp:Kp.Ps (wdOf all) px)(hN:all.length<=1000000)
section
variable{q:PS}(hW:Wst all q){h:AH}(HI:IG h i g)(L:AH)
include hW HI
theorem Qel:Ql Tryz.prog 26 [.ptr i 0 0] (rh h i g all q 0 0++L) fun o h'=>o = .ret q.tk.av/\h'=rh h i g all q 0 0++L:=(RC.two (Qau hW i 0 0) rfl).app HI L
theorem risL(b:ByteArray):Ql Tryz.prog 52 [.ptr i 0 0,.v (.string b)] (rh h i g all q 0 0++L) fun o h'=>o = .ret (.b (q.is b.toList))/\h'=rh h i g all q 0 0++L:=(RC.two (QoM hW i 0 0 b) rfl).app HI L
theorem QbL(x c:Int):Ql Tryz.prog 33 [.ptr i 0 0,.i x,.i c] (rh h i g all q 0 0++L) fun o h'=>o = .ret (.b false)/\h'=rh h i g all q x c++L:=by
 have _u:=hW
 exact(RC.two (Qb5 i x c) rfl).app HI L
include hN
theorem QaH:Ql Tryz.prog 53 [.ptr i 0 0] (rh h i g all q 0 0++L) fun o h'=>o = .ret (.tup [])/\h'=rh h i g all q.nx 0 0++L:=(RC.two (Qc7 hW hN i 0 0) rfl).app HI L
theorem QjI(b:ByteArray):Ql Tryz.prog 55 [.ptr i 0 0,.v (.string b)] (rh h i g all q 0 0++L) fun o h'=>o = .ret (.b ((YI b.toList q).e==0))/\h'=rh h i g all (YI b.toList q).s (YI b.toList q).pos (YI b.toList q).e++L:=(RC.two (Qib hW hN i b) (QkC _ _)).app HI L
theorem QqV:Ql Tryz.prog 54 [.ptr i 0 0] (rh h i g all q 0 0++L) fun o h'=>o = .ret (.tup [.v (.string (Zq q).v),.b ((Zq q).e==0)])/\h'=rh h i g all (Zq q).s (Zq q).pos (Zq q).e++L:=(RC.two (QlJ hW hN i) (QkA _)).app HI L
end
include HR HQ hEat hKp hN
theorem QlD{q:PS}(hs:q.toks.length<Nn+1)(hW:Wst all q):R2 Tryz.prog 94 [.ptr i 0 0] i g all q (.tup [(Qas qx q).v.atom,.b ((Qas qx q).e==0)]) (Qas qx q).s (Qas qx q).pos (Qas qx q).e:=by
 intro h HI
 have f1:=YK h i g all
 have f3:=Qa5 h i g all
 have f4:=Qc6 h i g all
 have f5:=ZX h i g all
 have f6:=Qa4 h i g all
 have cn:=QqV hN hW HI
 unfold Qas
 have his:=QhU q
 cases hn:YE q with
 |err p e =>
  rw[hn]at his
  have hne:=his.2.1▸his.2.2
  have z:((Zq q).e==0)=false:=by simpa using hne
  rw[z]at cn
  rw[QvY hne,z]
  refine Qa Tryz.func94 rfl Tryz.call94 Tryz.ntmps94 Tryz.results94 (by simp) ?_
  repeat first|(first|refine FunW.Qt4 (cn _) ?_|refine Qb ?_);simp only[go_sem,seval,f1,f3,f5]|refine hK _ ?_;clear hK
  exact QD HI all _ _ _ (QM _ (Qj2 _ _ _ _)) ⟨rfl,rfl⟩
 |ok x s1 =>
  rw[hn]at his
  have hq:=RR.okE his
  have hW1:Wst all s1:=Kp.Ps.ok (n:=wdOf all) (Kp.name_ps trivial) hW hn
  have hl1:=(Qaj q hW.wf x s1 hn).2
  have c1:=risL hW1 HI
  rw[hq]at cn ⊢
  rw[QvU (by simp)]
  have e40:(ByteArray.toList {data:=#[40]})=sLp:=by rw[Lib.toList_data];rfl
  cases hp:s1.is sLp with
  |false =>
   have c1:=fun L=>c1 L {data:=#[40]}
   rw[e40,hp]at c1
   rw[QvU (by simp)]
   refine Qa Tryz.func94 rfl Tryz.call94 Tryz.ntmps94 Tryz.results94 (by simp) ?_
   repeat first|(first|refine FunW.Qt4 (cn _) ?_|refine FunW.Qt4 (c1 _) ?_|refine Qb ?_);simp only[go_sem,seval,f1,f3,f4,f5,f6]|refine hK _ ?_;clear hK
   exact QD HI all _ _ _ (QM _ (Qj2 _ _ _ _)) ⟨rfl,rfl⟩
  |true =>
   have c1:=fun L=>c1 L {data:=#[40]}
   rw[e40,hp]at c1
   rw[QvY rfl]
   generalize hR:Qkz qx x s1.toks.length [] s1.nx=R
   refine Qa Tryz.func94 rfl Tryz.call94 Tryz.ntmps94 Tryz.results94 (by simp) ?_
   repeat first|(first|refine FunW.Qt4 (cn _) ?_|refine FunW.Qt4 (c1 _) ?_|refine Qb ?_);simp only[go_sem,seval,f1,f4,f6]|refine hK _ ?_;clear hK
   refine Xl (h.length+1) 105 2 4 (.grow 48 4 0) (.inr ⟨_,rfl⟩) [.agg [.v (.string x),.v (.slice none 0 0)]] [.agg [.v (.string x),.sl 4 [] (some (h.length+2))]] 1 (by rw[f4];rfl) rfl (by rw[QvO,YK];rfl) (by simp[AV.cells]) ?_
   rw[QvS,f6]
   iterate 2 (try ((((with_reducible refine Qf fun K E hK hE=>?_));simp only[go_sem,seval])))
   have e41:(ByteArray.toList {data:=#[41]})=sRp:=by rw[Lib.toList_data];rfl
   have e44:(ByteArray.toList {data:=#[44]})=Xx:=by rw[Lib.toList_data];rfl
   obtain⟨I,hI⟩:∃I:Nat->AS->Prop,I=fun m' s=>∃(b:Bool) (l:List T) (s2:PS) (Y:AH),m'=s2.toks.length/\Wst all s2/\l.length+s2.toks.length<=all.length/\(b=true->s2.tk.kind≠0/\s2.toks.length<Nn+1/\∃k,s2.toks.length<=k+1/\Qkz qx x k l s2.nx=R)/\(b=false->(⟨⟨0,x,l⟩,(YI sRp s2).s,(YI sRp s2).pos,(YI sRp s2).e⟩:RR G)=R)/\s.tm 0 = .ptr i 0 0/\s.tm 2 = .ptr h.length 0 0/\s.tm 6 = .ptr (h.length+1) 0 0/\s.tm 7 = .b b /\
    s.h=rh h i g all s2 0 0++(cA0 :: .cells 105 2 [.agg [.v (.string x),.sl 4 (avs l) (some (h.length+2))]] :: .grow 48 4 l.length::Y):=⟨_,rfl⟩;refine Qk I ?_ (m:=s1.toks.length) ?_
   ·intro m' s hs;rw[hI]at hs;obtain⟨tm,hp⟩:=s;dsimp only at hs;obtain⟨b,l,s2,Y,rfl,hW2,hbd,hA,hB,t0,t2,t6,t7,rfl⟩:=hs
    cases b with
    |false =>
     have hR2:=hB rfl
     subst hR2
     have cw:=fun L=>QjI hN hW2 HI L {data:=#[41]}
     rw[e41]at cw
     repeat first|refine Qb ?_;simp only[go_sem,seval,t7]|refine hK _ ?_;clear hK|clear hK;refine hK _ ?_;clear hK
     refine XL (h.length+1) 6 0 0 (by rw[f4];rfl) (by exact t6) ?_
     simp only[f6,Qvr,Qvs]
     refine Qg (id:=15) [(0,1),(1,1),(2,2),(3,2),(4,0)] mixed (by kernel_rfl) fun K hK=>?_
     simp only[go_sem,seval,t0]
     repeat first|(first|refine QY (FunW.call (cw _)) Yo ?_|refine Qb ?_);simp only[go_sem,seval,t2,f3,f5]|refine hK _ ?_;clear hK
     exact QD HI all _ _ _ (QM _ (Qpm _ _ _ _ _ _)) ⟨rfl,rfl⟩
    |true =>
     obtain⟨hk2,hl2,k,hk,hR2⟩:=hA rfl
     have hln2:=QR hW2.wf hk2
     have hpos:0<s2.nx.toks.length:=by
      have:=Qik (Yw hW2.wf)
      exact QwE.2 this
     obtain⟨k,rfl⟩:∃k',k=k'+1:=⟨k - 1,by omega⟩
     have cx:=QaH hN hW2 HI
     have ce:=(HR s2.nx (by omega) hW2.nx).app HI
     have hqx:=HQ s2.nx
     rw[Qkz]at hR2
     cases hpx:px s2.nx with
     |err p e =>
      rw[hpx]at hqx
      have hne:=hqx.2.1▸hqx.2.2
      have z:((qx s2.nx).e==0)=false:=by simpa using hne
      rw[QvY hne]at hR2
      subst hR2
      rw[z]at ce
      have hu1:=T.Qt5 (qx s2.nx).v
      have hu2:=T.Qt6 (qx s2.nx).v
      rw[show(({v:=zGl,s:=(qx s2.nx).s,pos:=(qx s2.nx).pos,e:=(qx s2.nx).e}:RR G).e==0)=false from z]
      repeat first|(first|refine FunW.Qt4 (cx _) ?_|refine FunW.Qt4 (ce _) ?_|refine Qb ?_);simp only[go_sem,seval,t0,t2,t7,f1,f3,f4,f5,f6,hu1,hu2]|refine hK _ ?_;clear hK
      exact QD HI all _ _ _ (QM _ (Qj2 _ _ _ _)) ⟨rfl,rfl⟩
     |ok u s3 =>
      rw[hpx]at hqx
      have hq3:=RR.okE hqx
      have hW3:Wst all s3:=Kp.Ps.ok hKp hW2.nx hpx
      have hl3:=(hEat s2.nx hW2.nx.wf u s3 hpx).2
      rw[hq3]at ce hR2
      rw[QvU (by simp)]at hR2
      have c4:=fun L=>risL hW3 HI L {data:=#[44]}
      rw[e44]at c4
      have hm:(l.length+1) * 56<=140737488355328:=by omega
      have hm2:l.length+1<=maxLen:=by simp only[maxLen];omega
      have ev:avs (l++[u])=avs l++[u.av]:=by rw[Qdk];rfl
      have hu1:=T.Qt5 u
      have hu2:=T.Qt6 u
      repeat first|(first|refine FunW.Qt4 (cx _) ?_|refine FunW.Qt4 (ce _) ?_|refine FunW.Qt4 (c4 _) ?_|refine Qb ?_);simp only[go_sem,seval,t0,t6,t7,f1,f4,f6,hu1,hu2,hm,hm2]|refine hK _ ?_;clear hK
      refine Qs.mk (m':=s3.toks.length) (by omega) ?_
      rw[hI]
      refine⟨s3.is Xx,l++[u],s3,Y++[.cells 48 4 [u.av]],rfl,hW3,by simp;omega,fun hc=>?_,fun hc=>?_,t0,t2,t6,rfl,?_⟩
      ·rw[QvY hc]at hR2
       exact⟨by rw[Qt7 hc];decide,by omega,k,by omega,hR2⟩
      ·rw[QvU (by rw[hc];simp)]at hR2
       exact hR2
      ·rw[ev,QvO];rfl
   ·rw[hI]
    refine⟨true,[],s1,[],rfl,hW1,by have:=hW1.suf.length_le;simpa using this,fun _=>⟨by rw[Qt7 hp];decide,by omega,s1.toks.length,by omega,hR⟩,fun h=>(by cases h),rfl,rfl,rfl,rfl,rfl⟩
end
end Go.Proofs.YticgcpebdldbgaaGreatDoor.Ab
namespace Go.Proofs.YticgcpebdldbgaaGreatDoor.Ab
open Go.Proofs
theorem Qf5(H:AH)(m:Nat)(k n:Int):Frz H m (.agg [.i k,.i n,.v (.string {data:=#[]}),.v (.slice none 0 0)]) (T.mk k n eB []).av:=Qo8 H m k n
theorem QfV{all:List Tk}(hD:TkOk all)(hN:all.length<=1000000){q:PS}(hW:Wst all q)(hk:q.tk.kind=3)(hz:q.tk.text.toList.length<=1000000):Pure Tryz.prog 56 [.v (.string q.tk.text)] (.i (valT q.tk.text))/\0<=valT q.tk.text/\valT q.tk.text<=2147483648:=by
 obtain⟨h1,h2⟩:=hD.int _ (Qcm hW) hk
 have:=QjV q.tk.text.toList h1 hz h2
 rw[QgX]at this
 exact⟨this,by unfold valT;omega,by unfold valT;omega⟩
theorem QpN{all:List Tk}{q:PS}(hW:Wst all q):q.names.length<all.length:=by
 have h1:=hW.nms
 have h2:=QwE.2 (Qik hW.wf)
 omega
def TxOk(all:List Tk):Prop:=∀t∈all,t.text.toList.length<=1000000
section
variable{all:List Tk}{i g:Nat}{qx:PS->RR T}{px:PS->PR T}{Nn:Nat}(HR:QRd all i g 84 qx Nn)(HQ:IsF qx px)(hEat:Eat 0 px)(hKp:Kp.Ps (wdOf all) px)(hN:all.length<=1000000)(hD:TkOk all)(hX:TxOk all)
include HR HQ hEat hKp hN hD hX
theorem QkH:QRd all i g 111 (qOp qx) (Nn+1):=by
 intro q hs hW h HI
 have f1:=YK h i g all
 have f3:=Qa5 h i g all
 have f4:=Qc6 h i g all
 have f5:=ZX h i g all
 have f6:=Qa4 h i g all
 have ct:=Qel hW HI
 have ct0:=ct []
 rw[Qvq]at ct0
 have cx:=QaH hN hW HI
 have e1:=Tk.Qt5 q.tk
 have e2:=Tk.Qt6 q.tk
 have hz:=hX _ (Qcm hW)
 unfold qOp
 by_cases h3:q.tk.kind=3
 ·rw[QvY h3]
  have z1:(q.tk.kind==3)=true:=by simpa using h3
  obtain⟨cv,v1,v2⟩:=QfV hD hN hW h3 hz
  refine Qa Tryz.func111 rfl Tryz.call111 Tryz.ntmps111 Tryz.results111 (by simp) ?_
  repeat first|(first|refine Qd cv ?_|refine FunW.Qt4 (ct _) ?_|refine FunW.Qt4 (cx _) ?_|refine Qb ?_);simp only[go_sem,seval,f1,f3,f4,f5,f6,e1,e2,z1]|refine hK _ ?_;clear hK
  exact QD HI all _ _ _ (QM _ (Qf5 _ _ _ _)) ⟨rfl,rfl⟩
 ·rw[QvU h3]
  have z1:(q.tk.kind==3)=false:=by simpa using h3
  by_cases h2:q.tk.kind=2
  ·rw[QvY h2]
   have z2:(q.tk.kind==2)=true:=by simpa using h2
   have cv:=(Qqe hN (QpN hW.nx) i g q.tk.text).app HI
   have u1:=T.Qt5 (pVari q.tk.text q.nx).1
   have u2:=T.Qt6 (pVari q.tk.text q.nx).1
   refine Qa Tryz.func111 rfl Tryz.call111 Tryz.ntmps111 Tryz.results111 (by simp) ?_
   repeat first|(first|refine FunW.Qt4 (ct _) ?_|refine FunW.Qt4 (cx _) ?_|refine FunW.Qt4 (cv _) ?_|refine Qb ?_);simp only[go_sem,seval,f1,f3,f4,f5,f6,e1,e2,z1,z2,u1,u2]|refine hK _ ?_;clear hK
   exact QD HI all _ _ _ (QM _ (.keep (T.Quf _ _))) ⟨rfl,rfl⟩
  ·rw[QvU h2]
   have z2:(q.tk.kind==2)=false:=by simpa using h2
   by_cases h1:q.tk.kind=1
   ·rw[QvY h1]
    have z3:(q.tk.kind==1)=true:=by simpa using h1
    have ca:=(QlD HR HQ hEat hKp hN hs hW).app HI
    generalize Qas qx q=r at *
    have u1:r.v.atom.cells=[.v (.string r.v.name),.sl 4 (avs r.v.args) none]:=rfl
    have u2:r.v.atom.isAgg=true:=rfl
    refine Qa Tryz.func111 rfl Tryz.call111 Tryz.ntmps111 Tryz.results111 (by simp) ?_
    repeat first|(first|refine FunW.Qt4 (ct _) ?_|refine FunW.Qt4 (ca _) ?_|refine Qb ?_);simp only[go_sem,seval,f1,f3,f4,f5,f6,e1,e2,z1,z2,z3,u1,u2]|refine hK _ ?_;clear hK
    exact QD HI all _ _ _ (QM _ (.keep (T.Quf _ (.mk 2 0 r.v.name r.v.args)))) ⟨rfl,rfl⟩
   ·rw[QvU h1]
    have z3:(q.tk.kind==1)=false:=by simpa using h1
    have e45:(ByteArray.toList {data:=#[45]})=Qck:=by rw[Lib.toList_data];rfl
    have e40:(ByteArray.toList {data:=#[40]})=sLp:=by rw[Lib.toList_data];rfl
    have e41:(ByteArray.toList {data:=#[41]})=sRp:=by rw[Lib.toList_data];rfl
    have c45:=fun L=>risL hW HI L {data:=#[45]}
    have c40:=fun L=>risL hW HI L {data:=#[40]}
    rw[e45]at c45
    rw[e40]at c40
    cases hm:q.is Qck with
    |true =>
     rw[hm]at c45
     rw[QvY rfl]
     have hn1:=QR hW.wf (by rw[Qt7 hm];decide)
     have ct2:=Qel hW.nx HI
     have cx2:=QaH hN hW.nx HI
     have k1:=Tk.Qt5 q.nx.tk
     have k2:=Tk.Qt6 q.nx.tk
     have hz2:=hX _ (Qcm hW.nx)
     have hp:=hD.pos _ (Qcm hW)
     have wp:IntKind.i64.wrap (q.tk.pos+1)=q.tk.pos+1:=QS (by omega)
     by_cases h4:q.nx.tk.kind=3
     ·have z4:(q.nx.tk.kind != 3)=false:=by simpa using h4
      by_cases h5:q.nx.tk.pos=q.tk.pos+1
      ·have z5:(q.nx.tk.pos != q.tk.pos+1)=false:=by simpa using h5
       rw[QvU (by rintro(h|h);exact h h4;exact h h5)]
       obtain⟨cv,v1,v2⟩:=QfV hD hN hW.nx h4 hz2
       have wn:IntKind.i64.wrap (0 - valT q.nx.tk.text) = -valT q.nx.tk.text:=by rw[QS (by omega)];omega
       refine Qa Tryz.func111 rfl Tryz.call111 Tryz.ntmps111 Tryz.results111 (by simp) ?_
       repeat first|(first|refine Qd cv ?_|refine FunW.Qt4 (ct _) ?_|refine FunW.Qt4 (ct2 _) ?_|refine FunW.Qt4 (cx _) ?_|refine FunW.Qt4 (cx2 _) ?_|refine FunW.Qt4 (c45 _) ?_|refine Qb ?_);simp only[go_sem,seval,f1,f3,f4,f5,f6,e1,e2,z1,z2,z3,k1,k2,z4,z5,wp,wn]|refine hK _ ?_;clear hK
       exact QD HI all _ _ _ (QM _ (Qf5 _ _ _ _)) ⟨rfl,rfl⟩
      ·have z5:(q.nx.tk.pos != q.tk.pos+1)=true:=by simpa using h5
       rw[QvY (.inr h5)]
       have cf:=QbL hW.nx HI
       refine Qa Tryz.func111 rfl Tryz.call111 Tryz.ntmps111 Tryz.results111 (by simp) ?_
       repeat first|(first|refine FunW.Qt4 (ct _) ?_|refine FunW.Qt4 (ct2 _) ?_|refine FunW.Qt4 (cx _) ?_|refine FunW.Qt4 (cf _ _ _) ?_|refine FunW.Qt4 (c45 _) ?_|refine Qb ?_);simp only[go_sem,seval,f1,f3,f4,f5,f6,e1,e2,z1,z2,z3,k1,k2,z4,z5,wp]|refine hK _ ?_;clear hK
       exact QD HI all _ _ _ (QM _ (Qf5 _ _ _ _)) ⟨rfl,rfl⟩
     ·have z4:(q.nx.tk.kind != 3)=true:=by simpa using h4
      rw[QvY (.inl h4)]
      have cf:=QbL hW.nx HI
      refine Qa Tryz.func111 rfl Tryz.call111 Tryz.ntmps111 Tryz.results111 (by simp) ?_
      repeat first|(first|refine FunW.Qt4 (ct _) ?_|refine FunW.Qt4 (ct2 _) ?_|refine FunW.Qt4 (cx _) ?_|refine FunW.Qt4 (cf _ _ _) ?_|refine FunW.Qt4 (c45 _) ?_|refine Qb ?_);simp only[go_sem,seval,f1,f3,f4,f5,f6,e1,e2,z1,z2,z3,k1,k2,z4]|refine hK _ ?_;clear hK
      exact QD HI all _ _ _ (QM _ (Qf5 _ _ _ _)) ⟨rfl,rfl⟩
    |false =>
     rw[hm]at c45
     rw[QvU (by simp)]
     cases hp:q.is sLp with
     |true =>
      rw[hp]at c40
      rw[QvY rfl]
      have hn1:=QR hW.wf (by rw[Qt7 hp];decide)
      have ce:=(HR q.nx (by omega) hW.nx).app HI
      have hqx:=HQ q.nx
      cases hpx:px q.nx with
      |err p e =>
       rw[hpx]at hqx
       have hne:=hqx.2.1▸hqx.2.2
       have z:((qx q.nx).e==0)=false:=by simpa using hne
       rw[QvY hne]
       rw[z]at ce ⊢
       have u1:=T.Qt5 (qx q.nx).v
       have u2:=T.Qt6 (qx q.nx).v
       refine Qa Tryz.func111 rfl Tryz.call111 Tryz.ntmps111 Tryz.results111 (by simp) ?_
       repeat first|(first|refine FunW.Qt4 (ct _) ?_|refine FunW.Qt4 (cx _) ?_|refine FunW.Qt4 (c45 _) ?_|refine FunW.Qt4 (c40 _) ?_|refine FunW.Qt4 (ce _) ?_|refine Qg (id:=21) [(0,0),(1,0),(2,0),(3,0),(4,1),(5,1),(6,2),(7,0)] mixed (by kernel_rfl) fun K hK=>?_|refine Qb ?_);simp only[go_sem,seval,f1,f4,f6,e1,e2,z1,z2,z3,u1,u2,f3,f5]|refine hK _ ?_;clear hK
       exact QD HI all _ _ _ (QM _ (.keep (T.Quf _ _))) ⟨rfl,rfl⟩
      |ok u s3 =>
       rw[hpx]at hqx
       have hq3:=RR.okE hqx
       have hW3:Wst all s3:=Kp.Ps.ok hKp hW.nx hpx
       rw[hq3]at ce ⊢
       rw[QvU (by simp)]
       have cw:=fun L=>QjI hN hW3 HI L {data:=#[41]}
       rw[e41]at cw
       have u1:=T.Qt5 u
       have u2:=T.Qt6 u
       refine Qa Tryz.func111 rfl Tryz.call111 Tryz.ntmps111 Tryz.results111 (by simp) ?_
       repeat first|(first|refine FunW.Qt4 (ct _) ?_|refine FunW.Qt4 (cx _) ?_|refine FunW.Qt4 (c45 _) ?_|refine FunW.Qt4 (c40 _) ?_|refine FunW.Qt4 (ce _) ?_|refine Qb ?_);simp only[go_sem,seval,f1,f4,f6,e1,e2,z1,z2,z3,u1,u2]|refine hK _ ?_;clear hK
       refine XL (h.length+2) 8 0 0 (by rw[f4];rfl) rfl ?_
       simp only[f6,Qvr,Qvs]
       refine Qg (id:=21) [(0,1),(1,1),(2,1),(3,1),(4,2),(5,1),(6,2),(7,0)] mixed (by kernel_rfl) fun K hK=>?_
       simp only[go_sem,seval,u1,u2]
       repeat first|(first|refine QY (FunW.call (cw _)) Yo ?_|refine Qb ?_);simp only[go_sem,seval,f3,f5,u1,u2]|refine hK _ ?_;clear hK
       exact QD HI all _ _ _ (QM _ (.keep (T.Quf _ _))) ⟨rfl,rfl⟩
     |false =>
      rw[hp]at c40
      rw[QvU (by simp)]
      have cf:=QbL hW HI
      refine Qa Tryz.func111 rfl Tryz.call111 Tryz.ntmps111 Tryz.results111 (by simp) ?_
      repeat first|(first|refine FunW.Qt4 (ct _) ?_|refine FunW.Qt4 (cf _ _ _) ?_|refine FunW.Qt4 (c45 _) ?_|refine FunW.Qt4 (c40 _) ?_|refine Qb ?_);simp only[go_sem,seval,f1,f3,f4,f5,f6,e1,e2,z1,z2,z3]|refine hK _ ?_;clear hK
      exact QD HI all _ _ _ (QM _ (Qf5 _ _ _ _)) ⟨rfl,rfl⟩
end
end Go.Proofs.YticgcpebdldbgaaGreatDoor.Ab
namespace Go.Proofs.YticgcpebdldbgaaGreatDoor.Ab
open Go.Proofs
abbrev cT0:AB:=.cells 48 4 [.agg [.i 0,.i 0,.v (.string {data:=#[]}),.v (.slice none 0 0)]]
section
variable{all:List Tk}{i g:Nat}{qo:PS->RR T}{po:PS->PR T}{Nn:Nat}(HO:QRd all i g 111 qo Nn)(HQ:IsF qo po)(hEat:Eat 0 po)(hKp:Kp.Ps (wdOf all) po)(hN:all.length<=1000000)
include HO HQ hEat hKp hN
theorem QkI:QRd all i g 99 (Qd3 qo Xs) Nn:=by
 intro q hs hW h HI
 have f1:=YK h i g all
 have f3:=Qa5 h i g all
 have f4:=Qc6 h i g all
 have f5:=ZX h i g all
 have f6:=Qa4 h i g all
 have e42:(ByteArray.toList {data:=#[42]})=[42]:=by rw[Lib.toList_data]
 have e47:(ByteArray.toList {data:=#[47]})=[47]:=by rw[Lib.toList_data]
 have e37:(ByteArray.toList {data:=#[37]})=[37]:=by rw[Lib.toList_data]
 have c0:=(HO q hs hW).app HI
 unfold Qd3
 generalize hR:YM qo Xs (qo q).s.toks.length (qo q)=R
 have hok:(qo q).e≠0\/(∃u s2,qo q=⟨u,s2,0,0⟩/\Wst all s2/\s2.toks.length<=q.toks.length):=by
  have h1:=HQ q
  cases hp:po q with
  |err p e=>rw[hp]at h1;exact .inl (h1.2.1▸h1.2.2)
  |ok u s2=>rw[hp]at h1;exact .inr ⟨u,s2,h1,Kp.Ps.ok hKp hW hp,(hEat q hW.wf u s2 hp).2⟩
 generalize qo q=r0 at *
 have u1:=T.Qt5 r0.v
 have u2:=T.Qt6 r0.v
 refine Qa Tryz.func99 rfl Tryz.call99 Tryz.ntmps99 Tryz.results99 (by simp) ?_
 repeat first|(first|refine FunW.Qt4 (c0 _) ?_|refine Qb ?_);simp only[go_sem,seval,f1,f4,f6,u1,u2]|refine hK _ ?_;clear hK
 obtain⟨I,hI⟩:∃I:Nat->AS->Prop,I=fun m' s=>∃(r:RR T) (Y:AH),m'=(if r.e=0 then r.s.toks.length else 0)/\(r.e≠0\/∃u s2,r=⟨u,s2,0,0⟩/\Wst all s2/\s2.toks.length<=q.toks.length)/\(∃k,(r.e=0->r.s.toks.length<=k)/\YM qo Xs k r=R)/\s.tm 0 = .ptr i 0 0/\s.tm 2 = .ptr h.length 0 0/\s.tm 4 = .ptr (h.length+1) 0 0/\s.tm 5 = .b (r.e==0)/\s.h=rh h i g all r.s r.pos r.e++(cT0 :: .cells 48 4 [r.v.av]::Y):=⟨_,rfl⟩;refine Qk I ?_ (m:=if r0.e=0 then r0.s.toks.length else 0) ?_
 ·intro m' s hs;rw[hI]at hs;obtain⟨tm,hp⟩:=s;dsimp only at hs;obtain⟨r,Y,rfl,hr,⟨k,hk,hR2⟩,t0,t2,t4,t5,rfl⟩:=hs
  have v1:=T.Qt5 r.v
  have v2:=T.Qt6 r.v
  rcases hr with hr|⟨u,s2,rfl,hW2,hl2⟩
  ·rw[Qdo _ _ _ hr]at hR2
   subst hR2
   have z:(r.e==0)=false:=by simpa using hr
   rw[z]at t5
   repeat first|refine Qb ?_;simp only[go_sem,seval,t2,t4,t5,f3,f4,f5,v1,v2]|refine hK _ ?_;clear hK|clear hK;refine hK _ ?_;clear hK
   exact QD HI all _ _ _ (QM _ (.keep (T.Quf _ _))) ⟨by rw[z],rfl⟩
  ·have hk:s2.toks.length<=k:=hk rfl
   simp only at v1 v2
   have c42:=fun L=>risL hW2 HI L {data:=#[42]}
   rw[e42]at c42
   have c47:=fun L=>risL hW2 HI L {data:=#[47]}
   rw[e47]at c47
   have c37:=fun L=>risL hW2 HI L {data:=#[37]}
   rw[e37]at c37
   have hone:s2.oneOf Xs=(s2.is [42]||(s2.is [47]||(s2.is [37]||false))):=rfl
   (with_reducible refine Qn fun K hK=>?_)
   refine Qt (fun s=>s.tm 25 = .b (s2.oneOf Xs)/\s.tm 0 = .ptr i 0 0/\s.tm 2 = .ptr h.length 0 0/\s.tm 4 = .ptr (h.length+1) 0 0/\s.tm 5 = .b true/\s.h=rh h i g all s2 0 0++(cT0 :: .cells 48 4 [u.av]::Y)) ?_ ?_
   ·rintro⟨tm,hp⟩ ⟨tc,t0,t2,t4,t5,rfl⟩
    dsimp only at tc t0 t2 t4 t5
    cases ho:s2.oneOf Xs with
    |false =>
     rw[ho]at tc
     have hR3:R=⟨u,s2,0,0⟩:=by
      rw[<-hR2]
      cases k with
      |zero=>rfl
      |succ k=>rw[YM,QvU (by simp),QvU (by simp only;rw[ho];simp)]
     subst hR3
     refine Qm (by exact tc) ?_
     simp only[↓reduceIte,Qu1]
     repeat first|refine Qb ?_;simp only[go_sem,seval,t2,t4,t5,f3,f4,f5,v1,v2]|refine hK _ ?_;clear hK|clear hK;refine hK _ ?_;clear hK
     exact QD HI all _ _ _ (QM _ (.keep (T.Quf _ _))) ⟨rfl,rfl⟩
    |true =>
     rw[ho]at tc
     have hln:=QR hW2.wf (by rw[QaC ho];decide)
     have hpos:=QwE.2 (Qik (Yw hW2.wf))
     obtain⟨k,rfl⟩:∃k',k=k'+1:=⟨k - 1,by omega⟩
     rw[YM,QvU (by simp),QvY (by simp only;rw[ho])]at hR2
     simp only at hR2
     have ct:=Qel hW2 HI
     have cx:=QaH hN hW2 HI
     have co:=(HO s2.nx (by omega) hW2.nx).app HI
     have e1:=Tk.Qt5 s2.tk
     have e2:=Tk.Qt6 s2.tk
     have hok2:(qo s2.nx).e≠0\/(∃w s3,qo s2.nx=⟨w,s3,0,0⟩/\Wst all s3/\s3.toks.length<=s2.nx.toks.length):=by
      have h1:=HQ s2.nx
      cases hp:po s2.nx with
      |err p e=>rw[hp]at h1;exact .inl (h1.2.1▸h1.2.2)
      |ok w s3=>rw[hp]at h1;exact .inr ⟨w,s3,h1,Kp.Ps.ok hKp hW2.nx hp,(hEat s2.nx hW2.nx.wf w s3 hp).2⟩
     generalize qo s2.nx=y at *
     have w1:=T.Qt5 y.v
     have w2:=T.Qt6 y.v
     refine Qm (by exact tc) ?_
     simp only[↓reduceIte]
     repeat first|(first|refine FunW.Qt4 (ct _) ?_|refine FunW.Qt4 (cx _) ?_|refine FunW.Qt4 (co _) ?_|refine Qb ?_);simp only[go_sem,seval,t0,t4,f1,f4,f6,v1,v2,e1,e2,w1,w2]|refine hK _ ?_;clear hK
     refine Qs.mk (m':=if y.e=0 then y.s.toks.length else 0) ?_ ?_
     ·rcases hok2 with he|⟨w,s3,rfl,_,h3⟩
      ·simp only[QvU he,QwV];omega
      ·simp only[QwV];omega
     rw[hI]
     refine⟨⟨.mk 2 0 s2.tk.text [u,y.v],y.s,y.pos,y.e⟩,Y++[.cells 48 4 [y.v.av]],rfl,?_,⟨k,?_,hR2⟩,t0,t2,t4,rfl,?_⟩
     ·rcases hok2 with he|⟨w,s3,rfl,h3,h4⟩
      ·exact .inl he
      ·exact .inr ⟨_,s3,rfl,h3,by omega⟩
     ·intro he
      rcases hok2 with he2|⟨w,s3,rfl,h3,h4⟩
      ·exact absurd he he2
      ·simp only;omega
     ·rfl
   ·skip
    cases h42:s2.is [42]with
    |true =>
     rw[h42]at c42
     repeat first|refine owN ?_|(first|refine FunW.Qt4 (c42 _) ?_|refine owK fun K hK=>?_|refine nwcS fun K hK=>?_|refine nwcR fun K hK=>?_|refine Qb ?_);simp only[go_sem,seval,t0,t5]|refine hK _ ?_;clear hK
     exact⟨by rw[hone,h42];rfl,t0,t2,t4,t5,rfl⟩
    |false =>
     rw[h42]at c42
     cases h47:s2.is [47]with
     |true =>
      rw[h47]at c47
      repeat first|refine owN ?_|(first|refine FunW.Qt4 (c42 _) ?_|refine FunW.Qt4 (c47 _) ?_|refine owK fun K hK=>?_|refine nwcS fun K hK=>?_|refine nwcR fun K hK=>?_|refine Qb ?_);simp only[go_sem,seval,t0,t5]|refine hK _ ?_;clear hK
      exact⟨by rw[hone,h42,h47];rfl,t0,t2,t4,t5,rfl⟩
     |false =>
      rw[h47]at c47
      cases h37:s2.is [37]with
      |true =>
       rw[h37]at c37
       repeat first|refine owN ?_|(first|refine FunW.Qt4 (c42 _) ?_|refine FunW.Qt4 (c47 _) ?_|refine FunW.Qt4 (c37 _) ?_|refine owK fun K hK=>?_|refine nwcS fun K hK=>?_|refine nwcR fun K hK=>?_|refine Qb ?_);simp only[go_sem,seval,t0,t5]|refine hK _ ?_;clear hK
       exact⟨by rw[hone,h42,h47,h37];rfl,t0,t2,t4,t5,rfl⟩
      |false =>
       rw[h37]at c37
       repeat first|refine owN ?_|(first|refine FunW.Qt4 (c42 _) ?_|refine FunW.Qt4 (c47 _) ?_|refine FunW.Qt4 (c37 _) ?_|refine owK fun K hK=>?_|refine nwcS fun K hK=>?_|refine nwcR fun K hK=>?_|refine Qb ?_);simp only[go_sem,seval,t0,t5]|refine hK _ ?_;clear hK
       exact⟨by rw[hone,h42,h47,h37];rfl,t0,t2,t4,t5,rfl⟩
 ·rw[hI]
  refine⟨r0,[],rfl,?_,⟨_,fun _=>QvV _,hR⟩,rfl,rfl,rfl,rfl,rfl⟩
  rcases hok with he|⟨u,s2,rfl,h1,h2⟩
  ·exact .inl he
  ·exact .inr ⟨_,_,rfl,h1,h2⟩
end
section
variable{all:List Tk}{i g:Nat}{qo:PS->RR T}{po:PS->PR T}{Nn:Nat}(HO:QRd all i g 99 qo Nn)(HQ:IsF qo po)(hEat:Eat 0 po)(hKp:Kp.Ps (wdOf all) po)(hN:all.length<=1000000)
include HO HQ hEat hKp hN
theorem QkG:QRd all i g 84 (Qd3 qo Ys) Nn:=by
 intro q hs hW h HI
 have f1:=YK h i g all
 have f3:=Qa5 h i g all
 have f4:=Qc6 h i g all
 have f5:=ZX h i g all
 have f6:=Qa4 h i g all
 have e43:(ByteArray.toList {data:=#[43]})=[43]:=by rw[Lib.toList_data]
 have e45:(ByteArray.toList {data:=#[45]})=[45]:=by rw[Lib.toList_data]
 have c0:=(HO q hs hW).app HI
 unfold Qd3
 generalize hR:YM qo Ys (qo q).s.toks.length (qo q)=R
 have hok:(qo q).e≠0\/(∃u s2,qo q=⟨u,s2,0,0⟩/\Wst all s2/\s2.toks.length<=q.toks.length):=by
  have h1:=HQ q
  cases hp:po q with
  |err p e=>rw[hp]at h1;exact .inl (h1.2.1▸h1.2.2)
  |ok u s2=>rw[hp]at h1;exact .inr ⟨u,s2,h1,Kp.Ps.ok hKp hW hp,(hEat q hW.wf u s2 hp).2⟩
 generalize qo q=r0 at *
 have u1:=T.Qt5 r0.v
 have u2:=T.Qt6 r0.v
 refine Qa Tryz.func84 rfl Tryz.call84 Tryz.ntmps84 Tryz.results84 (by simp) ?_
 repeat first|(first|refine FunW.Qt4 (c0 _) ?_|refine Qb ?_);simp only[go_sem,seval,f1,f4,f6,u1,u2]|refine hK _ ?_;clear hK
 obtain⟨I,hI⟩:∃I:Nat->AS->Prop,I=fun m' s=>∃(r:RR T) (Y:AH),m'=(if r.e=0 then r.s.toks.length else 0)/\(r.e≠0\/∃u s2,r=⟨u,s2,0,0⟩/\Wst all s2/\s2.toks.length<=q.toks.length)/\(∃k,(r.e=0->r.s.toks.length<=k)/\YM qo Ys k r=R)/\s.tm 0 = .ptr i 0 0/\s.tm 2 = .ptr h.length 0 0/\s.tm 4 = .ptr (h.length+1) 0 0/\s.tm 5 = .b (r.e==0)/\s.h=rh h i g all r.s r.pos r.e++(cT0 :: .cells 48 4 [r.v.av]::Y):=⟨_,rfl⟩;refine Qk I ?_ (m:=if r0.e=0 then r0.s.toks.length else 0) ?_
 ·intro m' s hs;rw[hI]at hs;obtain⟨tm,hp⟩:=s;dsimp only at hs;obtain⟨r,Y,rfl,hr,⟨k,hk,hR2⟩,t0,t2,t4,t5,rfl⟩:=hs
  have v1:=T.Qt5 r.v
  have v2:=T.Qt6 r.v
  rcases hr with hr|⟨u,s2,rfl,hW2,hl2⟩
  ·rw[Qdo _ _ _ hr]at hR2
   subst hR2
   have z:(r.e==0)=false:=by simpa using hr
   rw[z]at t5
   repeat first|refine Qb ?_;simp only[go_sem,seval,t2,t4,t5,f3,f4,f5,v1,v2]|refine hK _ ?_;clear hK|clear hK;refine hK _ ?_;clear hK
   exact QD HI all _ _ _ (QM _ (.keep (T.Quf _ _))) ⟨by rw[z],rfl⟩
  ·have hk:s2.toks.length<=k:=hk rfl
   simp only at v1 v2
   have c43:=fun L=>risL hW2 HI L {data:=#[43]}
   rw[e43]at c43
   have c45:=fun L=>risL hW2 HI L {data:=#[45]}
   rw[e45]at c45
   have hone:s2.oneOf Ys=(s2.is [43]||(s2.is [45]||false)):=rfl
   (with_reducible refine Qn fun K hK=>?_)
   refine Qt (fun s=>s.tm 21 = .b (s2.oneOf Ys)/\s.tm 0 = .ptr i 0 0/\s.tm 2 = .ptr h.length 0 0/\s.tm 4 = .ptr (h.length+1) 0 0/\s.tm 5 = .b true/\s.h=rh h i g all s2 0 0++(cT0 :: .cells 48 4 [u.av]::Y)) ?_ ?_
   ·rintro⟨tm,hp⟩ ⟨tc,t0,t2,t4,t5,rfl⟩
    dsimp only at tc t0 t2 t4 t5
    cases ho:s2.oneOf Ys with
    |false =>
     rw[ho]at tc
     have hR3:R=⟨u,s2,0,0⟩:=by
      rw[<-hR2]
      cases k with
      |zero=>rfl
      |succ k=>rw[YM,QvU (by simp),QvU (by simp only;rw[ho];simp)]
     subst hR3
     refine Qm (by exact tc) ?_
     simp only[↓reduceIte,Qu1]
     repeat first|refine Qb ?_;simp only[go_sem,seval,t2,t4,t5,f3,f4,f5,v1,v2]|refine hK _ ?_;clear hK|clear hK;refine hK _ ?_;clear hK
     exact QD HI all _ _ _ (QM _ (.keep (T.Quf _ _))) ⟨rfl,rfl⟩
    |true =>
     rw[ho]at tc
     have hln:=QR hW2.wf (by rw[QaC ho];decide)
     have hpos:=QwE.2 (Qik (Yw hW2.wf))
     obtain⟨k,rfl⟩:∃k',k=k'+1:=⟨k - 1,by omega⟩
     rw[YM,QvU (by simp),QvY (by simp only;rw[ho])]at hR2
     simp only at hR2
     have ct:=Qel hW2 HI
     have cx:=QaH hN hW2 HI
     have co:=(HO s2.nx (by omega) hW2.nx).app HI
     have e1:=Tk.Qt5 s2.tk
     have e2:=Tk.Qt6 s2.tk
     have hok2:(qo s2.nx).e≠0\/(∃w s3,qo s2.nx=⟨w,s3,0,0⟩/\Wst all s3/\s3.toks.length<=s2.nx.toks.length):=by
      have h1:=HQ s2.nx
      cases hp:po s2.nx with
      |err p e=>rw[hp]at h1;exact .inl (h1.2.1▸h1.2.2)
      |ok w s3=>rw[hp]at h1;exact .inr ⟨w,s3,h1,Kp.Ps.ok hKp hW2.nx hp,(hEat s2.nx hW2.nx.wf w s3 hp).2⟩
     generalize qo s2.nx=y at *
     have w1:=T.Qt5 y.v
     have w2:=T.Qt6 y.v
     refine Qm (by exact tc) ?_
     simp only[↓reduceIte]
     repeat first|(first|refine FunW.Qt4 (ct _) ?_|refine FunW.Qt4 (cx _) ?_|refine FunW.Qt4 (co _) ?_|refine Qb ?_);simp only[go_sem,seval,t0,t4,f1,f4,f6,v1,v2,e1,e2,w1,w2]|refine hK _ ?_;clear hK
     refine Qs.mk (m':=if y.e=0 then y.s.toks.length else 0) ?_ ?_
     ·rcases hok2 with he|⟨w,s3,rfl,_,h3⟩
      ·simp only[QvU he,QwV];omega
      ·simp only[QwV];omega
     rw[hI]
     refine⟨⟨.mk 2 0 s2.tk.text [u,y.v],y.s,y.pos,y.e⟩,Y++[.cells 48 4 [y.v.av]],rfl,?_,⟨k,?_,hR2⟩,t0,t2,t4,rfl,?_⟩
     ·rcases hok2 with he|⟨w,s3,rfl,h3,h4⟩
      ·exact .inl he
      ·exact .inr ⟨_,s3,rfl,h3,by omega⟩
     ·intro he
      rcases hok2 with he2|⟨w,s3,rfl,h3,h4⟩
      ·exact absurd he he2
      ·simp only;omega
     ·rfl
   ·skip
    cases h43:s2.is [43]with
    |true =>
     rw[h43]at c43
     repeat first|refine owN ?_|(first|refine FunW.Qt4 (c43 _) ?_|refine owK fun K hK=>?_|refine nwcS fun K hK=>?_|refine nwcR fun K hK=>?_|refine Qb ?_);simp only[go_sem,seval,t0,t5]|refine hK _ ?_;clear hK
     exact⟨by rw[hone,h43];rfl,t0,t2,t4,t5,rfl⟩
    |false =>
     rw[h43]at c43
     cases h45:s2.is [45]with
     |true =>
      rw[h45]at c45
      repeat first|refine owN ?_|(first|refine FunW.Qt4 (c43 _) ?_|refine FunW.Qt4 (c45 _) ?_|refine owK fun K hK=>?_|refine nwcS fun K hK=>?_|refine nwcR fun K hK=>?_|refine Qb ?_);simp only[go_sem,seval,t0,t5]|refine hK _ ?_;clear hK
      exact⟨by rw[hone,h43,h45];rfl,t0,t2,t4,t5,rfl⟩
     |false =>
      rw[h45]at c45
      repeat first|refine owN ?_|(first|refine FunW.Qt4 (c43 _) ?_|refine FunW.Qt4 (c45 _) ?_|refine owK fun K hK=>?_|refine nwcS fun K hK=>?_|refine nwcR fun K hK=>?_|refine Qb ?_);simp only[go_sem,seval,t0,t5]|refine hK _ ?_;clear hK
      exact⟨by rw[hone,h43,h45];rfl,t0,t2,t4,t5,rfl⟩
 ·rw[hI]
  refine⟨r0,[],rfl,?_,⟨_,fun _=>QvV _,hR⟩,rfl,rfl,rfl,rfl,rfl⟩
  rcases hok with he|⟨u,s2,rfl,h1,h2⟩
  ·exact .inl he
  ·exact .inr ⟨_,_,rfl,h1,h2⟩
end
theorem QlH{all:List Tk}(i g:Nat)(hN:all.length<=1000000)(hD:TkOk all)(hX:TxOk all):∀n,QRd all i g 84 (Qp5 n) n
 |0=>fun s hs=>by omega
 |n+1=>by
  have ih:=QlH i g hN hD hX n
  have ho:=QkH ih (Qe9 n) ((Z6 n).less (Qv2 _)) (Kp.exprT_ps trivial n) hN hD hX
  have hp:=QkI ho (Qrr (Qe9 n)) ((QfG ((Z6 n).less (Qv2 _))).less (Qv2 _)) (Kp.opT_ps trivial (Kp.exprT_ps trivial n)) hN
  exact QkG hp (QhC (Qrr (Qe9 n)) Xs) ((Qbt (QfG ((Z6 n).less (Qv2 _))) Xs).less (Qv2 _)) (Kp.chain_ps trivial (Kp.opT_ps trivial (Kp.exprT_ps trivial n)) Xs) hN
theorem QeJ{all:List Tk}(i g:Nat)(hN:all.length<=1000000)(hD:TkOk all)(hX:TxOk all){q:PS}(hW:Wst all q):R2 Tryz.prog 84 [.ptr i 0 0] i g all q (.tup [(Ye q).v.av,.b ((Ye q).e==0)]) (Ye q).s (Ye q).pos (Ye q).e:=QlH i g hN hD hX _ q (Qxp _) hW
end Go.Proofs.YticgcpebdldbgaaGreatDoor.Ab
namespace Go.Proofs.YticgcpebdldbgaaGreatDoor.Ab
open Go.Proofs
def cmpR (s : PS) : Int × Bool := match ZI s with
  | some p => p
  | none => (0, false)
theorem Qpt : ∀ b1 b2 b3 b4 b5 b6 b7 b8 b9 : Bool, b1 = true \/ b1 = false /\ b2 = true \/ b1 = false /\ b2 = false /\ b3 = true \/ b1 = false /\ b2 = false /\ b3 = false /\ b4 = true \/ b1 = false /\ b2 = false /\ b3 = false /\ b4 = false /\ b5 = true \/ b1 = false /\ b2 = false /\ b3 = false /\ b4 = false /\ b5 = false /\ b6 = true \/ b1 = false /\ b2 = false /\ b3 = false /\ b4 = false /\ b5 = false /\ b6 = false /\ b7 = true \/ b1 = false /\ b2 = false /\ b3 = false /\ b4 = false /\ b5 = false /\ b6 = false /\ b7 = false /\ b8 = true \/ b1 = false /\ b2 = false /\ b3 = false /\ b4 = false /\ b5 = false /\ b6 = false /\ b7 = false /\ b8 = false /\ b9 = true \/ b1 = false /\ b2 = false /\ b3 = false /\ b4 = false /\ b5 = false /\ b6 = false /\ b7 = false /\ b8 = false /\ b9 = false := by
  intro b1 b2 b3 b4 b5 b6 b7 b8 b9
  cases b1 <;> simp
  cases b2 <;> simp
  cases b3 <;> simp
  cases b4 <;> simp
  cases b5 <;> simp
  cases b6 <;> simp
  cases b7 <;> simp
  cases b8 <;> simp
theorem Qns {q : PS} (hk : q.tk.kind = 4) {b1 b2 b3 b4 b5 b6 b7 b8 b9 : Bool} (w1 : (q.tk.text.toList = [61]) = (b1 = true)) (w2 : (q.tk.text.toList = [61, 61]) = (b2 = true)) (w3 : (q.tk.text.toList = [92, 61]) = (b3 = true)) (w4 : (q.tk.text.toList = [60]) = (b4 = true)) (w5 : (q.tk.text.toList = [61, 60]) = (b5 = true)) (w6 : (q.tk.text.toList = [62]) = (b6 = true)) (w7 : (q.tk.text.toList = [62, 61]) = (b7 = true)) (w8 : (q.tk.text.toList = [61, 58, 61]) = (b8 = true)) (w9 : (q.tk.text.toList = [61, 92, 61]) = (b9 = true)) : cmpR q = (if b1 = true then (3, false) else if b2 = true then (5, false) else if b3 = true then (6, false) else if b4 = true then (7, false) else if b5 = true then (8, false) else if b6 = true then (7, true) else if b7 = true then (8, true) else if b8 = true then (9, false) else if b9 = true then (10, false) else (0, false)) := by
  unfold cmpR ZI
  rw [QvU (by rw [hk]; decide), QvU (by simpa using hk)]
  simp only [w1, w2, w3, w4, w5, w6, w7, w8, w9]
  repeat' split
  all_goals first | rfl | simp_all
section
variable {all : List Tk} {i g : Nat} (hN : all.length <= 1000000)
theorem QoG {q : PS} (hW : Wst all q) {h : AH} (HI : IG h i g) (L : AH) : Ql Tryz.prog 85 [.ptr i 0 0] (rh h i g all q 0 0 ++ L) fun o h' => o = .ret (.tup [.i (cmpR q).1, .b (cmpR q).2]) /\ h' = rh h i g all q 0 0 ++ L := by
  have cw := (RC.two (QlN (tok := some g) hW i 0 0 { data := #[105, 115] }) rfl).app HI L
  have ct := Qel hW HI L
  have e1 := Tk.Qt5 q.tk
  have e2 := Tk.Qt6 q.tk
  by_cases h1 : q.tk.kind = 1
  · have z4 : (q.tk.kind != 4) = true := by rw [h1]; rfl
    by_cases hi : q.tk.text.toList = [105, 115]
    · have e : q.wrd (ByteArray.toList { data := #[105, 115] }) = true := by rw [PS.wrd, h1, Lib.toList_data { data := #[105, 115] }, hi]; rfl
      have ec : cmpR q = (4, false) := by unfold cmpR ZI; rw [QvY h1, QvY hi]
      rw [e] at cw
      rw [ec]
      refine Qa Tryz.func85 rfl Tryz.call85 Tryz.ntmps85 Tryz.results85 (by simp) ?_
      repeat (first | refine FunW.Qt4 cw ?_ | refine Qb ?_); simp only [go_sem, seval]
      exact .inr ⟨rfl, rfl⟩
    · have e : q.wrd (ByteArray.toList { data := #[105, 115] }) = false := by rw [PS.wrd, h1, Lib.toList_data { data := #[105, 115] }]; simpa using hi
      have ec : cmpR q = (0, false) := by unfold cmpR ZI; rw [QvY h1, QvU hi]
      rw [e] at cw
      rw [ec]
      refine Qa Tryz.func85 rfl Tryz.call85 Tryz.ntmps85 Tryz.results85 (by simp) ?_
      repeat (first | refine FunW.Qt4 cw ?_ | refine FunW.Qt4 ct ?_ | refine Qb ?_); simp only [go_sem, seval, e1, e2, z4]
      exact .inr ⟨rfl, rfl⟩
  · have e : q.wrd (ByteArray.toList { data := #[105, 115] }) = false := by rw [PS.wrd, show (q.tk.kind == 1) = false by simpa using h1]; rfl
    rw [e] at cw
    by_cases h4 : q.tk.kind = 4
    · have z4 : (q.tk.kind != 4) = false := by rw [h4]; rfl
      obtain ⟨b1, u1⟩ : ∃ b, (q.tk.text.toList == ByteArray.toList { data := #[61] }) = b := ⟨_, rfl⟩
      obtain ⟨b2, u2⟩ : ∃ b, (q.tk.text.toList == ByteArray.toList { data := #[61, 61] }) = b := ⟨_, rfl⟩
      obtain ⟨b3, u3⟩ : ∃ b, (q.tk.text.toList == ByteArray.toList { data := #[92, 61] }) = b := ⟨_, rfl⟩
      obtain ⟨b4, u4⟩ : ∃ b, (q.tk.text.toList == ByteArray.toList { data := #[60] }) = b := ⟨_, rfl⟩
      obtain ⟨b5, u5⟩ : ∃ b, (q.tk.text.toList == ByteArray.toList { data := #[61, 60] }) = b := ⟨_, rfl⟩
      obtain ⟨b6, u6⟩ : ∃ b, (q.tk.text.toList == ByteArray.toList { data := #[62] }) = b := ⟨_, rfl⟩
      obtain ⟨b7, u7⟩ : ∃ b, (q.tk.text.toList == ByteArray.toList { data := #[62, 61] }) = b := ⟨_, rfl⟩
      obtain ⟨b8, u8⟩ : ∃ b, (q.tk.text.toList == ByteArray.toList { data := #[61, 58, 61] }) = b := ⟨_, rfl⟩
      obtain ⟨b9, u9⟩ : ∃ b, (q.tk.text.toList == ByteArray.toList { data := #[61, 92, 61] }) = b := ⟨_, rfl⟩
      have w1 : (q.tk.text.toList = [61]) = (b1 = true) := by rw [<- u1, Lib.toList_data { data := #[61] }]; simp
      have w2 : (q.tk.text.toList = [61, 61]) = (b2 = true) := by rw [<- u2, Lib.toList_data { data := #[61, 61] }]; simp
      have w3 : (q.tk.text.toList = [92, 61]) = (b3 = true) := by rw [<- u3, Lib.toList_data { data := #[92, 61] }]; simp
      have w4 : (q.tk.text.toList = [60]) = (b4 = true) := by rw [<- u4, Lib.toList_data { data := #[60] }]; simp
      have w5 : (q.tk.text.toList = [61, 60]) = (b5 = true) := by rw [<- u5, Lib.toList_data { data := #[61, 60] }]; simp
      have w6 : (q.tk.text.toList = [62]) = (b6 = true) := by rw [<- u6, Lib.toList_data { data := #[62] }]; simp
      have w7 : (q.tk.text.toList = [62, 61]) = (b7 = true) := by rw [<- u7, Lib.toList_data { data := #[62, 61] }]; simp
      have w8 : (q.tk.text.toList = [61, 58, 61]) = (b8 = true) := by rw [<- u8, Lib.toList_data { data := #[61, 58, 61] }]; simp
      have w9 : (q.tk.text.toList = [61, 92, 61]) = (b9 = true) := by rw [<- u9, Lib.toList_data { data := #[61, 92, 61] }]; simp
      rw [Qns h4 w1 w2 w3 w4 w5 w6 w7 w8 w9]
      rcases Qpt b1 b2 b3 b4 b5 b6 b7 b8 b9 with rfl | ⟨rfl, rfl⟩ | ⟨rfl, rfl, rfl⟩ | ⟨rfl, rfl, rfl, rfl⟩ | ⟨rfl, rfl, rfl, rfl, rfl⟩ | ⟨rfl, rfl, rfl, rfl, rfl, rfl⟩ | ⟨rfl, rfl, rfl, rfl, rfl, rfl, rfl⟩ | ⟨rfl, rfl, rfl, rfl, rfl, rfl, rfl, rfl⟩ | ⟨rfl, rfl, rfl, rfl, rfl, rfl, rfl, rfl, rfl⟩ | ⟨rfl, rfl, rfl, rfl, rfl, rfl, rfl, rfl, rfl⟩ <;>
      (refine Qa Tryz.func85 rfl Tryz.call85 Tryz.ntmps85 Tryz.results85 (by simp) ?_
       repeat (first | refine FunW.Qt4 cw ?_ | refine FunW.Qt4 ct ?_ | refine Qb ?_); simp only [go_sem, seval, e1, e2, z4, u1, u2, u3, u4, u5, u6, u7, u8, u9]
       exact .inr ⟨rfl, rfl⟩)
    · have z4 : (q.tk.kind != 4) = true := by simpa using h4
      have ec : cmpR q = (0, false) := by unfold cmpR ZI; rw [QvU h1, QvY h4]
      rw [ec]
      refine Qa Tryz.func85 rfl Tryz.call85 Tryz.ntmps85 Tryz.results85 (by simp) ?_
      repeat (first | refine FunW.Qt4 cw ?_ | refine FunW.Qt4 ct ?_ | refine Qb ?_); simp only [go_sem, seval, e1, e2, z4]
      exact .inr ⟨rfl, rfl⟩
end
end Go.Proofs.YticgcpebdldbgaaGreatDoor.Ab
namespace Go.Proofs.YticgcpebdldbgaaGreatDoor.Ab
open Go.Proofs
abbrev cG0:AB:=.cells 46 3 [.agg [.i 0,.v (.string {data:=#[]}),.v (.slice none 0 0)]]
theorem QaS(H:AH)(m:Nat)(o:Int)(x:ByteArray):Frz H m (.agg [.i o,.v (.string x),.v (.slice none 0 0)]) (G.goal ⟨o,x,[]⟩):=.agg rfl (Zj (.keep (.v _)) (Zj (.keep (.v _)) (Qct (.nil 4))))
theorem Qbw(H:AH)(m:Nat)(a:G):Frz H m a.goal a.goal:=.keep (.agg _ fun x hx=>by
 simp only[Qv5,Qv7,QwQ]at hx
 rcases hx with rfl|rfl|rfl
 ·exact .v _
 ·exact .v _
 ·exact Qav _ _)
theorem Qnq{s:PS}{o:Int}{t:Bool}(h:ZI s=some (o,t)):o≠0:=by
 unfold ZI at h
 repeat' split at h
 all_goals first|(cases h;decide)|cases h
section
variable{all:List Tk}{i g:Nat}(hN:all.length<=1000000)(hD:TkOk all)(hX:TxOk all)
include hN hD hX
theorem QfT{q:PS}(hW:Wst all q):(∃r,Ye q=r/\r.e≠0)\/∃u s2,Ye q=⟨u,s2,0,0⟩/\Wst all s2/\s2.toks.length<=q.toks.length:=by
 have _u:=hN;have _v:=hD;have _w:=hX
 have h1:=QdK q
 cases hp:Xn q with
 |err p e=>rw[hp]at h1;exact .inl ⟨_,rfl,h1.2.1▸h1.2.2⟩
 |ok u s2 =>
  rw[hp]at h1
  exact .inr ⟨u,s2,h1,Kp.Ps.ok (n:=wdOf all) (Kp.termT_ps trivial) hW hp,((Zp.less (Qv2 _)) q hW.wf u s2 hp).2⟩
theorem QoR{q:PS}(hW:Wst all q):R2 Tryz.prog 61 [.ptr i 0 0] i g all q (.tup [(Qgj q).v.goal,.b ((Qgj q).e==0)]) (Qgj q).s (Qgj q).pos (Qgj q).e:=by
 intro h HI
 have f1:=YK h i g all
 have f3:=Qa5 h i g all
 have f4:=Qc6 h i g all
 have f5:=ZX h i g all
 have f6:=Qa4 h i g all
 have ct:=Qel hW HI
 have cx:=QaH hN hW HI
 have cf:=QbL hW HI
 have e1:=Tk.Qt5 q.tk
 have e2:=Tk.Qt6 q.tk
 have cr:=ZS q.tk.text
 have e40:(ByteArray.toList {data:=#[40]})=sLp:=by rw[Lib.toList_data];rfl
 have e41:(ByteArray.toList {data:=#[41]})=sRp:=by rw[Lib.toList_data];rfl
 unfold Qgj
 by_cases hk:q.tk.kind=1/\resB q.tk.text=true
 ·rw[QvY hk]
  rw[hk.2]at cr
  have z1:(q.tk.kind==1)=true:=by simpa using hk.1
  obtain⟨b1,u1⟩:∃b,(q.tk.text.toList==ByteArray.toList {data:=#[116,114,117,101]})=b:=⟨_,rfl⟩
  have w1:(q.tk.text.toList=[116,114,117,101])=(b1=true):=by rw[<-u1,Lib.toList_data {data:=#[116,114,117,101]}];simp
  obtain⟨b2,u2⟩:∃b,(q.tk.text.toList==ByteArray.toList {data:=#[102,97,105,108]})=b:=⟨_,rfl⟩
  have w2:(q.tk.text.toList=[102,97,105,108])=(b2=true):=by rw[<-u2,Lib.toList_data {data:=#[102,97,105,108]}];simp
  obtain⟨b3,u3⟩:∃b,(q.tk.text.toList==ByteArray.toList {data:=#[105,110,116]})=b:=⟨_,rfl⟩
  have w3:(q.tk.text.toList=[105,110,116])=(b3=true):=by rw[<-u3,Lib.toList_data {data:=#[105,110,116]}];simp
  obtain⟨b4,u4⟩:∃b,(q.tk.text.toList==ByteArray.toList {data:=#[103,114,111,117,110,100]})=b:=⟨_,rfl⟩
  have w4:(q.tk.text.toList=[103,114,111,117,110,100])=(b4=true):=by rw[<-u4,Lib.toList_data {data:=#[103,114,111,117,110,100]}];simp
  simp only[w1,w2,w3,w4]
  cases b1 with
  |true =>
   rw[QvY rfl]
   refine Qa Tryz.func61 rfl Tryz.call61 Tryz.ntmps61 Tryz.results61 (by simp) ?_
   repeat first|(first|refine Qd cr ?_|refine FunW.Qt4 (ct _) ?_|refine FunW.Qt4 (cx _) ?_|refine Qb ?_);simp only[go_sem,seval,f1,f3,f4,f5,f6,e1,e2,z1,u1]|refine hK _ ?_;clear hK
   exact QD HI all _ _ _ (QM _ (QaS _ _ _ _)) ⟨rfl,rfl⟩
  |false =>
   rw[QvU (by simp)]
   cases b2 with
   |true =>
    rw[QvY rfl]
    refine Qa Tryz.func61 rfl Tryz.call61 Tryz.ntmps61 Tryz.results61 (by simp) ?_
    repeat first|(first|refine Qd cr ?_|refine FunW.Qt4 (ct _) ?_|refine FunW.Qt4 (cx _) ?_|refine Qb ?_);simp only[go_sem,seval,f1,f3,f4,f5,f6,e1,e2,z1,u1,u2]|refine hK _ ?_;clear hK
    exact QD HI all _ _ _ (QM _ (QaS _ _ _ _)) ⟨rfl,rfl⟩
   |false =>
    rw[QvU (by simp)]
    by_cases h34:b3=false/\b4=false
    ·obtain⟨rfl,rfl⟩:=h34
     rw[QvU (by simp),QvU (by simp)]
     refine Qa Tryz.func61 rfl Tryz.call61 Tryz.ntmps61 Tryz.results61 (by simp) ?_
     repeat first|(first|refine Qd cr ?_|refine FunW.Qt4 (ct _) ?_|refine FunW.Qt4 (cf _ _ _) ?_|refine Qb ?_);simp only[go_sem,seval,f1,f3,f4,f5,f6,e1,e2,z1,u1,u2,u3,u4]|refine hK _ ?_;clear hK
     exact QD HI all _ _ _ (QM _ (QaS _ _ _ _)) ⟨rfl,rfl⟩
    ·obtain⟨op,hop⟩:∃op:Int,op=(if b3=true then 11 else 12):=⟨_,rfl⟩
     have hq:(if b3=true then qOne 11 q.nx else if b4=true then qOne 12 q.nx else⟨zGl,q,q.tk.pos,7⟩)=qOne op q.nx:=by
      cases b3 with
      |true=>rw[hop];rfl
      |false=>cases b4 with
       |true=>rw[hop];rfl
       |false=>exact absurd ⟨rfl,rfl⟩ h34
     rw[hq]
     have hln:=QR hW.wf (by rw[hk.1];decide)
     have cw:=fun L=>QjI hN hW.nx HI L {data:=#[40]}
     rw[e40]at cw
     unfold qOne
     obtain⟨W,hWW⟩:∃W:AS->Prop,W=fun s=>s.tm 0 = .ptr i 0 0/\s.tm 2 = .ptr h.length 0 0/\s.tm 5 = .ptr (h.length+2) 0 0/\s.h=rh h i g all q 0 0++[cG0,.cells 54 3 [q.tk.av],.cells 46 3 [.agg [.i op,.v (.string {data:=#[]}),.v (.slice none 0 0)]]]:=⟨_,rfl⟩
     refine Qa Tryz.func61 rfl Tryz.call61 Tryz.ntmps61 Tryz.results61 (by simp) ?_
     iterate 12 (try (first|((first|(with_reducible (first|refine Qf fun K E hK hE=>?_|refine Qd cr ?_|refine FunW.Qt4 (ct _) ?_)));simp only[go_sem,seval,f1,f4,f6,e1,e2,z1])|(with_reducible refine Qn fun K hK=>?_)|((with_reducible refine hK _ ?_);clear hK)|(refine Qm rfl ?_;simp only[↓reduceIte])))
     refine Qt W ?_ ?_
     ·rintro⟨tm,hp⟩ hw
      rw[hWW]at hw
      obtain⟨t0,t2,t5,rfl⟩:=hw
      dsimp only at t0 t2 t5
      have hwi:=QbS sLp q.nx
      cases hwt:Xc sLp q.nx with
      |err p e =>
       rw[hwt]at hwi
       have hne:=hwi.2.1▸hwi.2.2
       have z:((YI sLp q.nx).e==0)=false:=by simpa using hne
       rw[QvY hne]
       rw[z]at cw
       repeat first|(first|refine FunW.Qt4 (cx _) ?_|refine FunW.Qt4 (cw _) ?_|refine Qb ?_);simp only[go_sem,seval,f3,f5,t0,t2]|refine hK _ ?_;clear hK
       exact QD HI all _ _ _ (QM _ (QaS _ _ _ _)) ⟨by rw[z] <;> rfl,rfl⟩
      |ok v s1 =>
       rw[hwt]at hwi
       have hq1:=RR.okE hwi
       have hW1:Wst all s1:=Kp.Ps.ok (n:=wdOf all) (Kp.want_ps trivial _) hW.nx hwt
       rw[hq1]at cw ⊢
       rw[QvU (by simp)]
       have ce:=(QeJ i g hN hD hX hW1).app HI
       rcases QfT hN hD hX hW1 with⟨r,hr,hne⟩|⟨u,s2,hr,hW2,hl2⟩
       ·simp only[hr]at ce ⊢
        have z:(r.e==0)=false:=by simpa using hne
        rw[QvY hne]
        rw[z]at ce
        have v1:=T.Qt5 r.v
        have v2:=T.Qt6 r.v
        repeat first|(first|refine FunW.Qt4 (cx _) ?_|refine FunW.Qt4 (cw _) ?_|refine FunW.Qt4 (ce _) ?_|refine Qh (id:=21) [(0,0),(1,0),(2,0),(3,0),(4,1),(5,1),(6,2),(7,0)] mixed (by kernel_rfl) fun K hK=>?_|refine Qb ?_);simp only[go_sem,seval,f1,f3,f4,f5,f6,t0,t2,t5,v1,v2]|refine hK _ ?_;clear hK
        exact QD HI all _ _ _ (QM _ (Qbw _ _ ⟨op,eB,[r.v]⟩)) ⟨by rw[z] <;> rfl,rfl⟩
       ·simp only[hr]at ce ⊢
        rw[QvU (by simp)]
        have cw2:=fun L=>QjI hN hW2 HI L {data:=#[41]}
        rw[e41]at cw2
        have v1:=T.Qt5 u
        have v2:=T.Qt6 u
        repeat first|(first|refine FunW.Qt4 (cx _) ?_|refine FunW.Qt4 (cw _) ?_|refine FunW.Qt4 (ce _) ?_|refine Qb ?_);simp only[go_sem,seval,f1,f4,f6,t0,t5,v1,v2]|refine hK _ ?_;clear hK
        refine XL (h.length+2) 5 0 0 (by rw[f4];rfl) (by exact t5) ?_
        simp only[f6,Qvr,Qvs]
        refine Qg (id:=21) [(0,1),(1,1),(2,1),(3,1),(4,2),(5,1),(6,2),(7,0)] mixed (by kernel_rfl) fun K hK=>?_
        simp only[go_sem,seval,t0]
        repeat first|(first|refine QY (FunW.call (cw2 _)) Yo ?_|refine Qb ?_);simp only[go_sem,seval,f3,f5,t2]|refine hK _ ?_;clear hK
        exact QD HI all _ _ _ (QM _ (Qbw _ _ ⟨op,eB,[u]⟩)) ⟨rfl,rfl⟩
     ·cases b3 with
      |true =>
       repeat first|refine Qb ?_;simp only[go_sem,seval,f4,f6,e1,u1,u2,u3]|refine hK _ ?_;clear hK
       (try (refine hK _ ?_;rw[Qp]))
       rw[hWW]
       exact⟨rfl,rfl,rfl,by rw[hop];rfl⟩
      |false =>
       cases b4 with
       |true =>
        repeat first|refine Qb ?_;simp only[go_sem,seval,f4,f6,e1,u1,u2,u3,u4]|refine hK _ ?_;clear hK
        (try (refine hK _ ?_;rw[Qp]))
        rw[hWW]
        exact⟨rfl,rfl,rfl,by rw[hop];rfl⟩
       |false=>exact absurd ⟨rfl,rfl⟩ h34
 ·rw[QvU hk]
  have hkk:(q.tk.kind==1)=false\/((q.tk.kind==1)=true/\resB q.tk.text=false):=by
   cases h1:(q.tk.kind==1)with
   |false=>exact .inl rfl
   |true=>exact .inr ⟨rfl,by cases h2:resB q.tk.text with
    |false=>rfl
    |true=>exact absurd ⟨by simpa using h1,h2⟩ hk⟩
  obtain⟨W,hWW⟩:∃W:AS->Prop,W=fun s=>s.tm 0 = .ptr i 0 0/\s.tm 2 = .ptr h.length 0 0/\s.tm 4 = .ptr (h.length+1) 0 0/\s.h=rh h i g all q 0 0++[cG0,.cells 54 3 [q.tk.av]]:=⟨_,rfl⟩
  refine Qa Tryz.func61 rfl Tryz.call61 Tryz.ntmps61 Tryz.results61 (by simp) ?_
  iterate 5 (try (first|((first|(with_reducible (first|refine Qf fun K E hK hE=>?_|refine FunW.Qt4 (ct _) ?_)));simp only[go_sem,seval,f1,f4,f6,e1,e2])|((with_reducible refine hK _ ?_);clear hK)))
  refine Qt W ?_ ?_
  ·rintro⟨tm,hp⟩ hw
   rw[hWW]at hw
   obtain⟨t0,t2,t4,rfl⟩:=hw
   dsimp only at t0 t2 t4
   have ce:=(QeJ i g hN hD hX hW).app HI
   rcases QfT hN hD hX hW with⟨r,hr,hne⟩|⟨u,s2,hr,hW2,hl2⟩
   ·simp only[hr]at ce ⊢
    have z:(r.e==0)=false:=by simpa using hne
    rw[QvY hne]
    rw[z]at ce
    have v1:=T.Qt5 r.v
    have v2:=T.Qt6 r.v
    repeat first|(first|refine FunW.Qt4 (ce _) ?_|refine Qb ?_);simp only[go_sem,seval,f1,f3,f4,f5,f6,t0,t2,v1,v2]|refine hK _ ?_;clear hK
    exact QD HI all _ _ _ (QM _ (QaS _ _ _ _)) ⟨by rw[z] <;> rfl,rfl⟩
   ·simp only[hr]at ce ⊢
    rw[QvU (by simp)]
    have v1:=T.Qt5 u
    have v2:=T.Qt6 u
    have cc:=QoG hW2 HI
    cases hc:ZI s2 with
    |none =>
     have ec:cmpR s2=(0,false):=by unfold cmpR;rw[hc]
     rw[ec]at cc
     have ct2:=Qel hW2 HI
     have cf2:=QbL hW2 HI
     have k1:=Tk.Qt5 s2.tk
     have k2:=Tk.Qt6 s2.tk
     by_cases h1:q.tk.kind=1
     ·have z1:(q.tk.kind != 1)=false:=by simpa using h1
      by_cases h2:u.name.toList=q.tk.text.toList
      ·have z2:(u.name.toList==q.tk.text.toList)=true:=by simpa using h2
       rw[QvY ⟨h1,h2⟩]
       repeat first|(first|refine FunW.Qt4 (ce _) ?_|refine FunW.Qt4 (cc _) ?_|refine Qb ?_);simp only[go_sem,seval,f1,f3,f4,f5,f6,t0,t2,t4,v1,v2,e1,z1,z2]|refine hK _ ?_;clear hK
       exact QD HI all _ _ _ (QM _ (Qbw _ _ ⟨0,u.name,u.args⟩)) ⟨rfl,rfl⟩
      ·have z2:(u.name.toList==q.tk.text.toList)=false:=by simpa using h2
       rw[QvU (fun h=>h2 h.2)]
       repeat first|(first|refine FunW.Qt4 (ce _) ?_|refine FunW.Qt4 (cc _) ?_|refine FunW.Qt4 (ct2 _) ?_|refine FunW.Qt4 (cf2 _ _ _) ?_|refine Qb ?_);simp only[go_sem,seval,f1,f3,f4,f5,f6,t0,t2,t4,v1,v2,e1,z1,z2,k1,k2]|refine hK _ ?_;clear hK
       exact QD HI all _ _ _ (QM _ (QaS _ _ _ _)) ⟨rfl,rfl⟩
     ·have z1:(q.tk.kind != 1)=true:=by simpa using h1
      rw[QvU (fun h=>h1 h.1)]
      repeat first|(first|refine FunW.Qt4 (ce _) ?_|refine FunW.Qt4 (cc _) ?_|refine FunW.Qt4 (ct2 _) ?_|refine FunW.Qt4 (cf2 _ _ _) ?_|refine Qb ?_);simp only[go_sem,seval,f1,f3,f4,f5,f6,t0,t2,t4,v1,v2,e1,z1,k1,k2]|refine hK _ ?_;clear hK
      exact QD HI all _ _ _ (QM _ (QaS _ _ _ _)) ⟨rfl,rfl⟩
    |some ot =>
     obtain⟨o,t⟩:=ot
     have ec:cmpR s2=(o,t):=by unfold cmpR;rw[hc]
     rw[ec]at cc
     have zo:(o==0)=false:=by simpa using Qnq hc
     have cx2:=QaH hN hW2 HI
     have ce2:=(QeJ i g hN hD hX hW2.nx).app HI
     generalize Ye s2.nx=y at *
     have y1:=T.Qt5 y.v
     have y2:=T.Qt6 y.v
     cases t with
     |true =>
      repeat first|(first|refine FunW.Qt4 (ce _) ?_|refine FunW.Qt4 (cc _) ?_|refine FunW.Qt4 (cx2 _) ?_|refine FunW.Qt4 (ce2 _) ?_|refine Qb ?_);simp only[go_sem,seval,f1,f3,f4,f5,f6,t0,t2,v1,v2,zo,y1,y2]|refine hK _ ?_;clear hK
      exact QD HI all _ _ _ (QM _ (Qbw _ _ ⟨o,eB,[y.v,u]⟩)) ⟨rfl,rfl⟩
     |false =>
      repeat first|(first|refine FunW.Qt4 (ce _) ?_|refine FunW.Qt4 (cc _) ?_|refine FunW.Qt4 (cx2 _) ?_|refine FunW.Qt4 (ce2 _) ?_|refine Qb ?_);simp only[go_sem,seval,f1,f3,f4,f5,f6,t0,t2,v1,v2,zo,y1,y2]|refine hK _ ?_;clear hK
      exact QD HI all _ _ _ (QM _ (Qbw _ _ ⟨o,eB,[u,y.v]⟩)) ⟨rfl,rfl⟩
  ·rcases hkk with hk1|⟨hk1,hk2⟩
   ·repeat first|refine Qb ?_;simp only[go_sem,seval,f4,e1,hk1]|refine hK _ ?_;clear hK
    (try (refine hK _ ?_;rw[Qp]))
    rw[hWW]
    exact⟨rfl,rfl,rfl,rfl⟩
   ·rw[hk2]at cr
    repeat first|(first|refine Qd cr ?_|refine Qb ?_);simp only[go_sem,seval,f4,e1,hk1]|refine hK _ ?_;clear hK
    (try (refine hK _ ?_;rw[Qp]))
    rw[hWW]
    exact⟨rfl,rfl,rfl,rfl⟩
end
end Go.Proofs.YticgcpebdldbgaaGreatDoor.Ab
namespace Go.Proofs.YticgcpebdldbgaaGreatDoor.Ab
open Go.Proofs
def i64(n:Int):Prop := -9223372036854775808<=n/\n<=9223372036854775807
mutual
def T.ok:T->Prop
 | .mk k i n l=>i64 k/\i64 i/\n.size<=9223372036854775807/\oks l
def oks:List T->Prop
 |[]=>True
 |t::l=>t.ok/\oks l
end
theorem T.ok_eq(t:T):t.ok↔i64 t.kind/\i64 t.int/\t.name.size<=9223372036854775807/\oks t.args:=by cases t;simp only[T.ok,T.kind,T.int,T.name,T.args]
theorem Qkt:∀{l:List T} {k:Nat} (h:k<l.length),oks l->(l[k]).ok
 |t::l,0,_,h=>h.1
 |t::l,k+1,h,ho=>Qkt (l:=l) (by simpa using h) ho.2
def G.ok(g:G):Prop:=i64 g.op/\g.name.size<=9223372036854775807/\oks g.args
mutual
def T.Qua:T->Bool
 | .mk k i n l =>
  if k=0 then decide (-2147483648<=i/\i<=2147483648)&&ZJ n&&l.isEmpty else
  if k=1 then decide (0<=i/\i<=1048576)&&ZJ n&&l.isEmpty else
  if k=2 then(if i≠0\/6<l.length then false else if (!Qaa n&&!(opB n&&decide (l.length=2)))=true then false else YJ l)else false
def YJ:List T->Bool
 |[]=>true
 |t::l=>t.Qua&&YJ l
end
theorem T.Qud(t:T):t.Qua=if t.kind=0 then decide (-2147483648<=t.int/\t.int<=2147483648)&&ZJ t.name&&t.args.isEmpty else
  if t.kind=1 then decide (0<=t.int/\t.int<=1048576)&&ZJ t.name&&t.args.isEmpty else
  if t.kind=2 then(if t.int≠0\/6<t.args.length then false else if (!Qaa t.name&&!(opB t.name&&decide (t.args.length=2)))=true then false else YJ t.args)else false:=by
 cases t;rw[T.Qua];rfl
theorem Qka{l:List T}{k:Nat}(h:k<l.length):YJ (l.drop k)=((l[k]).Qua&&YJ (l.drop (k+1))):=by
 rw[Qwb h];simp only[YJ]
theorem Qe6{p q:Prop}[Decidable p][Decidable q]:(decide p&&decide q)=decide (p/\q):=by
 by_cases hp:p <;> by_cases hq:q <;> simp[hp,hq]
mutual
theorem T.Qul:∀(t:T) (b d:Int),(t.run b d).1=(t.Qua&&decide ((t.size:Int)<=b/\(t.dep:Int)<=d))/\((t.run b d).1=true->(t.run b d).2=b - t.size)
 | .mk k i n l,b,d=>by
  have hs:=size_pos (.mk k i n l)
  have hd:1<=(T.mk k i n l).dep:=by rw[T.QuK];omega
  rw[T.run,T.Qua]
  by_cases h1:b - 1<0\/d<1
  ·rw[QvY h1,Qv6 (show ¬(((T.mk k i n l).size:Int)<=b/\((T.mk k i n l).dep:Int)<=d) by omega),Qxn]
   exact⟨rfl,fun h=>by cases h⟩
  rw[QvU h1]
  have one:k≠2->(T.mk k i n l).size=1/\(T.mk k i n l).dep=1:=fun h=>by simp only[T.size,T.dep,QvU h];exact⟨trivial,trivial⟩
  by_cases k0:k=0
  ·obtain⟨e1,e2⟩:=one (by omega)
   rw[QvY k0,QvY k0,e1,e2,Qwc (show((1:Nat):Int)<=b/\((1:Nat):Int)<=d by omega),Bool.and_true]
   exact⟨rfl,fun _=>rfl⟩
  rw[QvU k0,QvU k0]
  by_cases k1:k=1
  ·obtain⟨e1,e2⟩:=one (by omega)
   rw[QvY k1,QvY k1,e1,e2,Qwc (show((1:Nat):Int)<=b/\((1:Nat):Int)<=d by omega),Bool.and_true]
   exact⟨rfl,fun _=>rfl⟩
  rw[QvU k1,QvU k1]
  by_cases k2:k=2
  ·rw[QvY k2,QvY k2]
   by_cases h2:i≠0\/6<l.length
   ·rw[QvY h2,QvY h2];exact⟨rfl,fun h=>by cases h⟩
   rw[QvU h2,QvU h2]
   by_cases h3:(!Qaa n&&!(opB n&&decide (l.length=2)))=true
   ·rw[QvY h3,QvY h3];exact⟨rfl,fun h=>by cases h⟩
   rw[QvU h3,QvU h3]
   have e1:(T.mk k i n l).size=1+sizes l:=by simp only[T.size,QvY k2]
   have e2:(T.mk k i n l).dep=1+deps l:=by simp only[T.dep,QvY k2]
   obtain⟨r1,r2⟩:=Qac l (b - 1) (d - 1) (by omega) (by omega)
   rw[e1,e2]
   refine⟨?_,fun h=>by rw[r2 h];omega⟩
   rw[r1]
   congr 1
   exact QxL.2 (by omega)
  ·rw[QvU k2,QvU k2];exact⟨rfl,fun h=>by cases h⟩
theorem Qac:∀(l:List T) (b d:Int),0<=b->0<=d->(runL l b d).1=(YJ l&&decide ((sizes l:Int)<=b/\(deps l:Int)<=d))/\((runL l b d).1=true->(runL l b d).2=b - sizes l)
 |[],b,d,hb,hd=>by
  rw[runL,YJ,sizes,deps,Qwc (show((0:Nat):Int)<=b/\((0:Nat):Int)<=d by omega)]
  exact⟨rfl,fun _=>by omega⟩
 |t::l,b,d,hb,hd=>by
  obtain⟨r1,r2⟩:=T.Qul t b d
  rw[runL,YJ,sizes,deps]
  by_cases h:(t.run b d).1=true
  ·rw[QvY h]
   have e:=r2 h
   rw[r1,Qv0,Qwl]at h
   obtain⟨hf,h1,h2⟩:=h
   obtain⟨q1,q2⟩:=Qac l (t.run b d).2 d (by omega) hd
   rw[hf,QvH]
   refine⟨?_,fun h=>by rw[q2 h];omega⟩
   rw[q1]
   congr 1
   exact QxL.2 (by omega)
  ·rw[QvU h]
   refine⟨?_,fun h=>by cases h⟩
   rw[r1]at h
   cases hf:t.Qua with
   |false=>rfl
   |true =>
    rw[hf,QvH,Qwl]at h
    rw[Qv6 (by omega),Qxn]
end
theorem T.QuE(t:T):(t.run 200 20).1=(t.Qua&&(decide (t.size<=200)&&decide (t.dep<=20))):=by
 rw[(T.Qul t 200 20).1,Qe6]
 congr 1
 exact QxL.2 (by omega)
def rargs:List T->Nat->Bool
 |[],n=>decide (n<=200)
 |t::l,n=>(t.run 200 20).1&&rargs l (n+t.size)
theorem QlC:∀(l:List T) (n:Nat),200<n->rargs l n=false
 |[],n,h=>by rw[rargs,Qv6 (by omega)]
 |t::l,n,h=>by rw[rargs,QlC l _ (by omega),Qxn]
theorem Qjy:∀(l:List T) (n:Nat),n<=200->rargs l n=(runL l (200 - n) 20).1
 |[],n,h=>by rw[rargs,runL,Qwc h]
 |t::l,n,h=>by
  obtain⟨r1,_⟩:=T.Qul t 200 20
  obtain⟨q1,q2⟩:=T.Qul t (200 - n) 20
  rw[rargs,runL,r1]
  by_cases hq:(t.run (200 - n) 20).1=true
  ·rw[QvY hq,q2 hq]
   rw[q1,Qv0,Qwl]at hq
   rw[hq.1,Qwc (by omega),QvH,QvH,Qjy l (n+t.size) (by omega)]
   congr 2;omega
  ·rw[QvU hq]
   rw[q1]at hq
   cases hf:t.Qua with
   |false=>rfl
   |true =>
    rw[hf,QvH,Qwl]at hq
    by_cases h2:n+t.size<=200
    ·rw[Qv6 (by omega)];rfl
    ·rw[QlC l _ (by omega),Qxn]
theorem QoE(l:List T):rargs l 0=(runL l 200 20).1:=by
 have:=Qjy l 0 (by omega)
 simpa using this
mutual
theorem T.Qup:∀t:T,t.size<=t.nds
 | .mk k i n l=>by
  simp only[T.size,T.nds]
  have:=QfY l
  split <;> omega
theorem QfY:∀l:List T,sizes l<=ndsL l
 |[]=>QvV _
 |t::l=>by
  simp only[sizes,ndsL]
  have:=T.Qup t
  have:=QfY l
  omega
end
theorem Qpv(t:T)(k0:t.kind=0):Pure Tryz.prog 114 [t.av] (.b t.Qua):=by
 intro h
 have z0:(t.kind==0)=true:=by simp[k0]
 by_cases c1:t.int >= -2147483648
 rotate_left
 ·have e1:¬-2147483648<=t.int:=by omega
  have R:t.Qua=false:=by
   rw[T.Qud,QvY k0];simp[e1]
  rw[R]
  refine Qa Tryz.func114 rfl Tryz.call114 Tryz.ntmps114 Tryz.results114 (by simp) ?_
  repeat refine Qb ?_;simp only[go_sem,seval,z0,c1]
  (refine Qc (htake _ _) (.keep (.v _)) ⟨rfl,rfl⟩)
 have e1 : -2147483648<=t.int:=by omega
 by_cases c2:t.int<=2147483648
 rotate_left
 ·skip
  have R:t.Qua=false:=by
   rw[T.Qud,QvY k0];simp[e1,c2]
  rw[R]
  refine Qa Tryz.func114 rfl Tryz.call114 Tryz.ntmps114 Tryz.results114 (by simp) ?_
  repeat refine Qb ?_;simp only[go_sem,seval,z0,c1,c2]
  (refine Qc (htake _ _) (.keep (.v _)) ⟨rfl,rfl⟩)
 cases c3:ZJ t.name with
 |false =>
  have c3':(t.name.toList==({data:=#[]}:ByteArray).toList)=false:=c3
  have R:t.Qua=false:=by
   rw[T.Qud,QvY k0];simp[e1,c2,c3]
  rw[R]
  refine Qa Tryz.func114 rfl Tryz.call114 Tryz.ntmps114 Tryz.results114 (by simp) ?_
  repeat refine Qb ?_;simp only[go_sem,seval,z0,c1,c2,c3']
  (refine Qc (htake _ _) (.keep (.v _)) ⟨rfl,rfl⟩)
 |true =>
  have c3':(t.name.toList==({data:=#[]}:ByteArray).toList)=true:=c3
  cases hl:t.args with
  |nil =>
   have c4:((0:Int)==0)=true:=rfl
   have R:t.Qua=true:=by
    rw[T.Qud,QvY k0];simp[e1,c2,c3,hl]
   rw[R]
   refine Qa Tryz.func114 rfl Tryz.call114 Tryz.ntmps114 Tryz.results114 (by simp) ?_
   repeat refine Qb ?_;simp only[go_sem,seval,z0,c1,c2,c3',hl,QeW]
   (refine Qc (htake _ _) (.keep (.v _)) ⟨rfl,rfl⟩)
  |cons a l =>
   have c4:(((l.length+1:Nat):Int)==0)=false:=by simp;omega
   have R:t.Qua=false:=by
    rw[T.Qud,QvY k0];simp[e1,c2,c3,hl]
   rw[R]
   refine Qa Tryz.func114 rfl Tryz.call114 Tryz.ntmps114 Tryz.results114 (by simp) ?_
   repeat refine Qb ?_;simp only[go_sem,seval,z0,c1,c2,c3',hl,c4]
   (refine Qc (htake _ _) (.keep (.v _)) ⟨rfl,rfl⟩)
theorem Qpw(t:T)(k1:t.kind=1):Pure Tryz.prog 114 [t.av] (.b t.Qua):=by
 intro h
 have k0:¬t.kind=0:=by omega
 have z0:(t.kind==0)=false:=by simp[k1]
 have z1:(t.kind==1)=true:=by simp[k1]
 by_cases c1:t.int>=0
 rotate_left
 ·have e1:¬0<=t.int:=by omega
  have R:t.Qua=false:=by
   rw[T.Qud,QvU k0,QvY k1];simp[e1]
  rw[R]
  refine Qa Tryz.func114 rfl Tryz.call114 Tryz.ntmps114 Tryz.results114 (by simp) ?_
  repeat refine Qb ?_;simp only[go_sem,seval,z0,z1,c1]
  (refine Qc (htake _ _) (.keep (.v _)) ⟨rfl,rfl⟩)
 have e1:0<=t.int:=by omega
 by_cases c2:t.int<=1048576
 rotate_left
 ·skip
  have R:t.Qua=false:=by
   rw[T.Qud,QvU k0,QvY k1];simp[e1,c2]
  rw[R]
  refine Qa Tryz.func114 rfl Tryz.call114 Tryz.ntmps114 Tryz.results114 (by simp) ?_
  repeat refine Qb ?_;simp only[go_sem,seval,z0,z1,c1,c2]
  (refine Qc (htake _ _) (.keep (.v _)) ⟨rfl,rfl⟩)
 cases c3:ZJ t.name with
 |false =>
  have c3':(t.name.toList==({data:=#[]}:ByteArray).toList)=false:=c3
  have R:t.Qua=false:=by
   rw[T.Qud,QvU k0,QvY k1];simp[e1,c2,c3]
  rw[R]
  refine Qa Tryz.func114 rfl Tryz.call114 Tryz.ntmps114 Tryz.results114 (by simp) ?_
  repeat refine Qb ?_;simp only[go_sem,seval,z0,z1,c1,c2,c3']
  (refine Qc (htake _ _) (.keep (.v _)) ⟨rfl,rfl⟩)
 |true =>
  have c3':(t.name.toList==({data:=#[]}:ByteArray).toList)=true:=c3
  cases hl:t.args with
  |nil =>
   have c4:((0:Int)==0)=true:=rfl
   have R:t.Qua=true:=by
    rw[T.Qud,QvU k0,QvY k1];simp[e1,c2,c3,hl]
   rw[R]
   refine Qa Tryz.func114 rfl Tryz.call114 Tryz.ntmps114 Tryz.results114 (by simp) ?_
   repeat refine Qb ?_;simp only[go_sem,seval,z0,z1,c1,c2,c3',hl,QeW]
   (refine Qc (htake _ _) (.keep (.v _)) ⟨rfl,rfl⟩)
  |cons a l =>
   have c4:(((l.length+1:Nat):Int)==0)=false:=by simp;omega
   have R:t.Qua=false:=by
    rw[T.Qud,QvU k0,QvY k1];simp[e1,c2,c3,hl]
   rw[R]
   refine Qa Tryz.func114 rfl Tryz.call114 Tryz.ntmps114 Tryz.results114 (by simp) ?_
   repeat refine Qb ?_;simp only[go_sem,seval,z0,z1,c1,c2,c3',hl,c4]
   (refine Qc (htake _ _) (.keep (.v _)) ⟨rfl,rfl⟩)
theorem Qmj(t:T)(k0:¬t.kind=0)(k1:¬t.kind=1)(k2:¬t.kind=2):Pure Tryz.prog 114 [t.av] (.b t.Qua):=by
 intro h
 have z0:(t.kind==0)=false:=by simp[k0]
 have z1:(t.kind==1)=false:=by simp[k1]
 have z2:(t.kind==2)=false:=by simp[k2]
 have R:t.Qua=false:=by
  rw[T.Qud,QvU k0,QvU k1,QvU k2]
 rw[R]
 refine Qa Tryz.func114 rfl Tryz.call114 Tryz.ntmps114 Tryz.results114 (by simp) ?_
 repeat refine Qb ?_;simp only[go_sem,seval,z0,z1,z2]
 (refine Qc (htake _ _) (.keep (.v _)) ⟨rfl,rfl⟩)
theorem Qpu(n:Nat)(hb:n<=1000000)(ih:∀t:T,t.nds<=n->t.ok->Pure Tryz.prog 114 [t.av] (.b t.Qua))(t:T)(hn:t.nds<=n+1)(ho:t.ok)(k2:t.kind=2) :
  Pure Tryz.prog 114 [t.av] (.b t.Qua):=by
 intro h
 have k0:¬t.kind=0:=by omega
 have k1:¬t.kind=1:=by omega
 have z0:(t.kind==0)=false:=by simp[k2]
 have z1:(t.kind==1)=false:=by simp[k2]
 have z2:(t.kind==2)=true:=by simp[k2]
 obtain⟨o1,o2,o3,o4⟩:=(T.ok_eq t).1 ho
 have hnd:=T.Quh t
 have hll:=XK t.args
 have co:=Qek t.name
 have cr:Pure Tryz.prog 100 [.v (.string t.name)] (.b (Qaa t.name)):=Qc2 t.name (by simp only[maxLen];omega)
 refine Qa Tryz.func114 rfl Tryz.call114 Tryz.ntmps114 Tryz.results114 (by simp) ?_
 iterate 15 (try (first|(((with_reducible refine Qf fun K E hK hE=>?_));simp only[go_sem,seval,z0,z1,z2])|(with_reducible (first|refine Qn fun K hK=>?_|refine QA ?_))|((with_reducible refine hK _ ?_);clear hK)|(refine Qm rfl ?_;simp only[↓reduceIte,Qu1])))
 refine Qt (fun s=>s.tm 3 = .b (opB t.name&&decide (t.args.length=2))/\s.tm 1 = .ptr h.length 0 0/\s.h=h++[.cells 48 4 [t.av]]) ?_ ?_
 rotate_left
 ·cases ho:opB t.name with
  |false =>
   rw[ho]at co
   repeat first|(first|refine Qd co ?_|refine Qb ?_);simp only[go_sem,seval]|refine hK _ ?_;clear hK
   exact⟨rfl,rfl,rfl⟩
  |true =>
   rw[ho]at co
   by_cases hl2:t.args.length=2
   ·have h2:((t.args.length:Int)==2)=true:=by rw[hl2];rfl
    rw[Qwc hl2]
    repeat first|(first|refine Qd co ?_|refine Qb ?_);simp only[go_sem,seval,h2]|refine hK _ ?_;clear hK
    exact⟨rfl,rfl,rfl⟩
   ·have h2:((t.args.length:Int)==2)=false:=by rw[Qxa];omega
    rw[Qv6 hl2]
    repeat first|(first|refine Qd co ?_|refine Qb ?_);simp only[go_sem,seval,h2]|refine hK _ ?_;clear hK
    exact⟨rfl,rfl,rfl⟩
 rintro⟨tm,hp⟩ ⟨t3,t1,hh⟩
 dsimp only at t3 t1 hh
 subst hh
 obtain⟨p,ep⟩:∃p,p=(opB t.name&&decide (t.args.length=2)):=⟨_,rfl⟩
 rw[<-ep]at t3
 have RR:t.Qua=if t.int≠0\/6<t.args.length then false else if (!Qaa t.name&&!p)=true then false else YJ t.args:=by rw[T.Qud,QvU k0,QvU k1,QvY k2,<-ep]
 refine Qt (fun s=>t.Qua=YJ t.args/\t.args.length<=6/\s.tm 1 = .ptr h.length 0 0/\s.h=h++[.cells 48 4 [t.av]]) ?_ ?_
 rotate_left
 ·by_cases i0:t.int=0
  rotate_left
  ·have y0:(t.int != 0)=true:=by simp[i0]
   have R:t.Qua=false:=by rw[RR,QvY (.inl i0)]
   rw[R]
   repeat first|refine Qb ?_;simp only[go_sem,seval,t1,y0]|refine hK _ ?_;clear hK
   (refine Qc (htake _ _) (.keep (.v _)) ⟨rfl,rfl⟩)
  have y0:(t.int != 0)=false:=by simp[i0]
  cases p with
  |true =>
   have hl2:t.args.length=2:=by
    have:=ep.symm;rw[Qv0,Qwl]at this;exact this.2
   have R:t.Qua=YJ t.args:=by rw[RR,QvU (by omega),QvU (by simp)]
   repeat first|refine Qb ?_;simp only[go_sem,seval,t1,t3,y0]|refine hK _ ?_;clear hK
   exact⟨R,by omega,t1,rfl⟩
  |false =>
   cases hr:Qaa t.name with
   |false =>
    rw[hr]at cr
    have R:t.Qua=false:=by rw[RR];split;rfl;rw[QvY (by rw[hr];rfl)]
    rw[R]
    repeat first|(first|refine Qd cr ?_|refine Qb ?_);simp only[go_sem,seval,t1,t3,y0]|refine hK _ ?_;clear hK
    (refine Qc (htake _ _) (.keep (.v _)) ⟨rfl,rfl⟩)
   |true =>
    rw[hr]at cr
    by_cases a6:t.args.length>6
    ·have y6:(t.args.length:Int)>6:=by omega
     have R:t.Qua=false:=by rw[RR,QvY (.inr a6)]
     rw[R]
     repeat first|(first|refine Qd cr ?_|refine Qb ?_);simp only[go_sem,seval,t1,t3,y0,y6]|refine hK _ ?_;clear hK
     (refine Qc (htake _ _) (.keep (.v _)) ⟨rfl,rfl⟩)
    ·have y6:¬(t.args.length:Int)>6:=by omega
     have R:t.Qua=YJ t.args:=by rw[RR,QvU (by omega),QvU (by rw[hr];simp)]
     repeat first|(first|refine Qd cr ?_|refine Qb ?_);simp only[go_sem,seval,t1,t3,y0,y6]|refine hK _ ?_;clear hK
     exact⟨R,by omega,t1,rfl⟩
 rintro⟨tm,hp⟩ ⟨R,hl6,t1,hh⟩
 dsimp only at t1 hh
 subst hh
 rw[R]
 repeat first|refine Qb ?_;simp only[go_sem,seval]|refine hK _ ?_;clear hK
 obtain⟨I,hI⟩:∃I:Nat->AS->Prop,I=fun m' s=>∃(k:Nat),m'=t.args.length - k/\k<=t.args.length/\YJ t.args=YJ (t.args.drop k)/\s.tm 1 = .ptr h.length 0 0/\s.tm 4 = .i k/\s.h=h++[AB.cells 48 4 [t.av]]:=⟨_,rfl⟩;refine Qk I ?_ (m:=t.args.length) ?_
 ·intro m' s hs;rw[hI]at hs;obtain⟨tm,hp⟩:=s;dsimp only at hs;obtain⟨k,rfl,hk,he,t1,t4,rfl⟩:=hs
  by_cases hlt:k<t.args.length
  ·have hg:=ZQ hlt
   have z9:(k:Int)<t.args.length:=by omega
   have c:=ih t.args[k] (by have:=ZD hlt;omega) (Qkt hlt o4)
   rw[Qka hlt]at he
   cases hr:(t.args[k]).Qua with
   |true =>
    rw[hr]at c he
    repeat first|(first|refine Qd c ?_|refine Qb ?_);simp only[go_sem,seval,t1,t4,z9,hg]|refine hK _ ?_;clear hK
    refine Qs.mk (m':=t.args.length - (k+1)) (by omega) ?_
    rw[hI]
    refine⟨k+1,rfl,hlt,by rw[he];rfl,t1,?_,rfl⟩
    simp only[upd,↓reduceIte]
    rw[Qz (by omega)]
   |false =>
    rw[hr]at c he
    repeat first|(first|refine Qd c ?_|refine Qb ?_);simp only[go_sem,seval,t1,t4,z9,hg]|refine hK _ ?_;clear hK
    (refine Qc (htake _ _) (.keep (.v _)) ⟨by rw[he];rfl,rfl⟩)
  ·have z9:¬(k:Int)<t.args.length:=by omega
   have hkl:k=t.args.length:=by omega
   rw[hkl,Qwq]at he
   repeat first|refine Qb ?_;simp only[go_sem,seval,t1,t4,z9]|refine hK _ ?_;clear hK|clear hK;refine hK _ ?_;clear hK
   (refine Qc (htake _ _) (.keep (.v _)) ⟨by rw[he];rfl,rfl⟩)
 ·rw[hI]
  exact⟨0,by omega,Qv2 _,by rw[Qve],t1,rfl,rfl⟩
theorem Qjz(n:Nat):n<=1000000->∀t:T,t.nds<=n->t.ok->Pure Tryz.prog 114 [t.av] (.b t.Qua):=by
 induction n with
 |zero=>intro _ t hn _;have:=T.Quh t;omega
 |succ n ih =>
  intro hb t hn ho
  by_cases k0:t.kind=0
  ·exact Qpv t k0
  by_cases k1:t.kind=1
  ·exact Qpw t k1
  by_cases k2:t.kind=2
  ·exact Qpu n (by omega) (ih (by omega)) t hn ho k2
  ·exact Qmj t k0 k1 k2
theorem Qgk(t:T)(hn:t.nds<=1000000)(ho:t.ok):Pure Tryz.prog 101 [t.av] (.b (t.run 200 20).1):=by
 intro h
 have hs:=T.Qup t
 have c1:=Qjz 1000000 (QvV _) t hn ho
 have c2:=Qd4 1000000 t (by omega) (QvV _)
 have c3:=Qh4 1000000 t (by omega) (QvV _)
 rw[T.QuE]
 cases hf:t.Qua with
 |false =>
  rw[hf]at c1
  refine Qa Tryz.func101 rfl Tryz.call101 Tryz.ntmps101 Tryz.results101 (by simp) ?_
  repeat (first|refine Qd c1 ?_|refine Qb ?_);simp only[go_sem,seval]
  (refine Qc (htake _ _) (.keep (.v _)) ⟨rfl,rfl⟩)
 |true =>
  rw[hf]at c1
  by_cases q1:t.size<=200
  ·have z1:(t.size:Int)<=200:=by omega
   by_cases q2:t.dep<=20
   ·have z2:(t.dep:Int)<=20:=by omega
    rw[Qwc q1,Qwc q2]
    refine Qa Tryz.func101 rfl Tryz.call101 Tryz.ntmps101 Tryz.results101 (by simp) ?_
    repeat (first|refine Qd c1 ?_|refine Qd c2 ?_|refine Qd c3 ?_|refine Qb ?_);simp only[go_sem,seval,z1,z2]
    (refine Qc (htake _ _) (.keep (.v _)) ⟨rfl,rfl⟩)
   ·have z2:¬(t.dep:Int)<=20:=by omega
    rw[Qwc q1,Qv6 q2]
    refine Qa Tryz.func101 rfl Tryz.call101 Tryz.ntmps101 Tryz.results101 (by simp) ?_
    repeat (first|refine Qd c1 ?_|refine Qd c2 ?_|refine Qd c3 ?_|refine Qb ?_);simp only[go_sem,seval,z1,z2]
    (refine Qc (htake _ _) (.keep (.v _)) ⟨rfl,rfl⟩)
  ·have z1:¬(t.size:Int)<=200:=by omega
   rw[Qv6 q1]
   refine Qa Tryz.func101 rfl Tryz.call101 Tryz.ntmps101 Tryz.results101 (by simp) ?_
   repeat (first|refine Qd c1 ?_|refine Qd c2 ?_|refine Qb ?_);simp only[go_sem,seval,z1]
   (refine Qc (htake _ _) (.keep (.v _)) ⟨rfl,rfl⟩)
theorem QaF(l:List T)(hn:ndsL l<=1000000)(ho:oks l):Pure Tryz.prog 88 [.sl 4 (avs l) none] (.b (runL l 200 20).1):=by
 intro h
 have hll:=XK l
 rw[<-QoE]
 refine Qa Tryz.func88 rfl Tryz.call88 Tryz.ntmps88 Tryz.results88 (by simp) ?_
 repeat refine Qb ?_;simp only[go_sem,seval]
 obtain⟨I,hI⟩:∃I:Nat->AS->Prop,I=fun m' s=>∃(k n:Nat),m'=l.length - k/\k<=l.length/\n+sizes (l.drop k)<=1000000/\rargs l 0=rargs (l.drop k) n/\s.tm 0 = .sl 4 (avs l) none/\s.tm 3 = .i n/\s.tm 4 = .i k/\s.h=h:=⟨_,rfl⟩;refine Qk I ?_ (m:=l.length) ?_
 ·intro m' s hs;rw[hI]at hs;obtain⟨tm,hp⟩:=s;dsimp only at hs;obtain⟨k,n,rfl,hk,hs,he,t0,t3,t4,rfl⟩:=hs
  by_cases hlt:k<l.length
  ·have hg:=ZQ hlt
   have z9:(k:Int)<l.length:=by omega
   have hnk:(l[k]).nds<=1000000:=by have:=ZD hlt;omega
   have c:=Qgk l[k] hnk (Qkt hlt ho)
   have c2:=Qd4 1000000 l[k] (by have:=T.Qup l[k];omega) (QvV _)
   rw[Qwb hlt,rargs]at he
   rw[Qwb hlt,sizes]at hs
   have hw:IntKind.i64.wrap ((n:Int)+((l[k]).size:Nat))=((n+(l[k]).size:Nat):Int):=by rw[QS (by omega)];omega
   cases hr:((l[k]).run 200 20).1 with
   |true =>
    rw[hr]at c he
    repeat (first|refine Qd c ?_|refine Qd c2 ?_|refine Qb ?_);simp only[go_sem,seval,t0,t3,t4,z9,hg,hw]
    refine Qs.mk (m':=l.length - (k+1)) (by omega) ?_
    rw[hI]
    refine⟨k+1,n+(l[k]).size,rfl,hlt,by omega,by rw[he];rfl,t0,rfl,?_,rfl⟩
    simp only[upd,↓reduceIte]
    rw[Qz (by omega)]
   |false =>
    rw[hr]at c he
    repeat (first|refine Qd c ?_|refine Qb ?_);simp only[go_sem,seval,t0,t4,z9,hg]
    exact Qc (QnP _) (.keep (.v _)) ⟨by rw[he];rfl,rfl⟩
  ·have z9:¬(k:Int)<l.length:=by omega
   have hkl:k=l.length:=by omega
   rw[hkl,Qwq,rargs]at he
   by_cases q:n<=200
   ·have z1:(n:Int)<=200:=by omega
    repeat refine Qb ?_;simp only[go_sem,seval,t0,t3,t4,z9,z1]
    exact Qc (QnP _) (.keep (.v _)) ⟨by rw[he,Qwc q],rfl⟩
   ·have z1:¬(n:Int)<=200:=by omega
    repeat refine Qb ?_;simp only[go_sem,seval,t0,t3,t4,z9,z1]
    exact Qc (QnP _) (.keep (.v _)) ⟨by rw[he,Qv6 q],rfl⟩
 ·rw[hI]
  exact⟨0,0,by omega,Qv2 _,by have:=QfY l;simp only[Qve];omega,by rw[Qve],rfl,rfl,rfl,rfl⟩
theorem QaG(g:G)(hn:ndsL g.args<=1000000)(ho:g.ok):Pure Tryz.prog 86 [g.atom] (.b (QC g)):=by
 intro h
 obtain⟨o1,o2,o3⟩:=ho
 have cr:Pure Tryz.prog 100 [.v (.string g.name)] (.b (Qaa g.name)):=Qc2 g.name (by simp only[maxLen];omega)
 have ca:=QaF g.args hn o3
 cases hr:Qaa g.name with
 |false =>
  rw[hr]at cr
  refine Qa Tryz.func86 rfl Tryz.call86 Tryz.ntmps86 Tryz.results86 (by simp) ?_
  repeat (first|refine Qd cr ?_|refine Qb ?_);simp only[go_sem,seval,Y5]
  (refine Qc (htake _ _) (.keep (.v _)) ⟨by rw[QC,hr];rfl,rfl⟩)
 |true =>
  rw[hr]at cr
  by_cases q:g.args.length<=6
  ·have z:(g.args.length:Int)<=6:=by omega
   refine Qa Tryz.func86 rfl Tryz.call86 Tryz.ntmps86 Tryz.results86 (by simp) ?_
   repeat (first|refine Qd cr ?_|refine Qd ca ?_|refine Qb ?_);simp only[go_sem,seval,Y5,z]
   (refine Qc (htake _ _) (.keep (.v _)) ⟨by rw[QC,hr,Qwc q];rfl,rfl⟩)
  ·have z:¬(g.args.length:Int)<=6:=by omega
   refine Qa Tryz.func86 rfl Tryz.call86 Tryz.ntmps86 Tryz.results86 (by simp) ?_
   repeat (first|refine Qd cr ?_|refine Qb ?_);simp only[go_sem,seval,Y5,z]
   (refine Qc (htake _ _) (.keep (.v _)) ⟨by rw[QC,hr,Qv6 q];rfl,rfl⟩)
def YN(op:Int):Int:=if op=1\/op=2 then 0 else if op=11\/op=12 then 1 else if 2<op/\op<11 then 2 else -1
theorem Ql4(op:Int):Pure Tryz.prog 87 [.i op] (.i (YN op)):=by
 intro h
 by_cases k1:op=1
 ·have z1:(op==1)=true:=by simp[k1]
  have R:YN op=0:=by simp[YN,k1]
  rw[R]
  refine Qa Tryz.func87 rfl Tryz.call87 Tryz.ntmps87 Tryz.results87 (by simp) ?_
  repeat refine Qb ?_;simp only[go_sem,seval,z1]
  (refine Qc QvT (.keep (.v _)) ⟨rfl,rfl⟩)
 have z1:(op==1)=false:=by simp[k1]
 by_cases k2:op=2
 ·have z2:(op==2)=true:=by simp[k2]
  have R:YN op=0:=by simp[YN,k2]
  rw[R]
  refine Qa Tryz.func87 rfl Tryz.call87 Tryz.ntmps87 Tryz.results87 (by simp) ?_
  repeat refine Qb ?_;simp only[go_sem,seval,z1,z2]
  (refine Qc QvT (.keep (.v _)) ⟨rfl,rfl⟩)
 have z2:(op==2)=false:=by simp[k2]
 by_cases k11:op=11
 ·have z11:(op==11)=true:=by simp[k11]
  have R:YN op=1:=by simp[YN,k11]
  rw[R]
  refine Qa Tryz.func87 rfl Tryz.call87 Tryz.ntmps87 Tryz.results87 (by simp) ?_
  repeat refine Qb ?_;simp only[go_sem,seval,z1,z2,z11]
  (refine Qc QvT (.keep (.v _)) ⟨rfl,rfl⟩)
 have z11:(op==11)=false:=by simp[k11]
 by_cases k12:op=12
 ·have z12:(op==12)=true:=by simp[k12]
  have R:YN op=1:=by simp[YN,k12]
  rw[R]
  refine Qa Tryz.func87 rfl Tryz.call87 Tryz.ntmps87 Tryz.results87 (by simp) ?_
  repeat refine Qb ?_;simp only[go_sem,seval,z1,z2,z11,z12]
  (refine Qc QvT (.keep (.v _)) ⟨rfl,rfl⟩)
 have z12:(op==12)=false:=by simp[k12]
 by_cases g1:op>2
 ·by_cases g2:op<11
  ·have R:YN op=2:=by rw[YN,QvU (by omega),QvU (by omega),QvY (by omega)]
   rw[R]
   refine Qa Tryz.func87 rfl Tryz.call87 Tryz.ntmps87 Tryz.results87 (by simp) ?_
   repeat refine Qb ?_;simp only[go_sem,seval,z1,z2,z11,z12,g1,g2]
   (refine Qc QvT (.keep (.v _)) ⟨rfl,rfl⟩)
  ·have R:YN op = -1:=by rw[YN,QvU (by omega),QvU (by omega),QvU (by omega)]
   rw[R]
   refine Qa Tryz.func87 rfl Tryz.call87 Tryz.ntmps87 Tryz.results87 (by simp) ?_
   repeat refine Qb ?_;simp only[go_sem,seval,z1,z2,z11,z12,g1,g2]
   (refine Qc QvT (.keep (.v _)) ⟨rfl,rfl⟩)
 ·have R:YN op = -1:=by rw[YN,QvU (by omega),QvU (by omega),QvU (by omega)]
  rw[R]
  refine Qa Tryz.func87 rfl Tryz.call87 Tryz.ntmps87 Tryz.results87 (by simp) ?_
  repeat refine Qb ?_;simp only[go_sem,seval,z1,z2,z11,z12,g1]
  (refine Qc QvT (.keep (.v _)) ⟨rfl,rfl⟩)
theorem Ql3(op:Int)(n:Nat):decide (YN op=(n:Int))=(decide (0<op/\op<=12)&&decide ((n:Int)=QaR op)):=by
  rw[Qe6]
  apply QxL.2
  rw[YN,QaR]
  by_cases h1:op=1\/op=2
  ·rw[QvY h1,QvY h1];omega
  rw[QvU h1,QvU h1]
  by_cases h2:op=11\/op=12
  ·rw[QvY h2,QvY h2];omega
  rw[QvU h2,QvU h2]
  split <;> omega
theorem QdI(g:G)(hn:ndsL g.args<=1000000)(ho:g.ok):Pure Tryz.prog 62 [g.goal] (.b (Qy g)):=by
  intro h
  by_cases k0:g.op=0
  ·have z0:(g.op==0)=true:=by simp[k0]
   have c:=QaG ⟨0,g.name,g.args⟩ hn ⟨by show i64 0;unfold i64;omega,ho.2.1,ho.2.2⟩
   rw[show G.atom ⟨0,g.name,g.args⟩=AV.agg [.v (.string g.name),.sl 4 (avs g.args) none]from rfl]at c
   rw[Qy,QvY k0]
   refine Qa Tryz.func62 rfl Tryz.call62 Tryz.ntmps62 Tryz.results62 (by simp) ?_
   repeat (first|refine Qd c ?_|refine Qb ?_);simp only[go_sem,seval,Q5,z0]
   (refine Qc (htake _ _) (.keep (.v _)) ⟨rfl,rfl⟩)
  have z0:(g.op==0)=false:=by simp[k0]
  have ca:=QaF g.args hn ho.2.2
  have cy:=Ql4 g.op
  have key:=Ql3 g.op g.args.length
  have R:Qy g=(ZJ g.name&&(decide (YN g.op=(g.args.length:Int))&&(runL g.args 200 20).1)):=by
   rw[Qy,QvU k0,key]
   cases ZJ g.name <;> cases decide (0<g.op/\g.op<=12) <;> simp
  rw[R]
  cases c3:ZJ g.name with
  |false =>
   have c3':(g.name.toList==({data:=#[]}:ByteArray).toList)=false:=c3
   refine Qa Tryz.func62 rfl Tryz.call62 Tryz.ntmps62 Tryz.results62 (by simp) ?_
   repeat first|(first|refine Qh (id:=3) [(0,0),(1,0),(2,0),(3,0),(4,0),(5,0),(6,1),(7,0),(8,0),(9,0),(10,0),(11,0),(12,0),(13,0),(14,0),(15,1),(16,0),(17,0)] mixed (by kernel_rfl) fun K hK=>?_|refine Qb ?_);simp only[go_sem,seval,Q5,z0,c3']|refine hK _ ?_;clear hK
   (refine Qc (htake _ _) (.keep (.v _)) ⟨rfl,rfl⟩)
  |true =>
   have c3':(g.name.toList==({data:=#[]}:ByteArray).toList)=true:=c3
   by_cases q:YN g.op=(g.args.length:Int)
   ·have q':(YN g.op==(g.args.length:Int))=true:=by simp[q]
    rw[Qwc q]
    refine Qa Tryz.func62 rfl Tryz.call62 Tryz.ntmps62 Tryz.results62 (by simp) ?_
    repeat first|(first|refine Xq ca ?_|refine Xq cy ?_|refine Qh (id:=3) [(0,0),(1,0),(2,0),(3,0),(4,0),(5,0),(6,1),(7,0),(8,0),(9,0),(10,0),(11,0),(12,0),(13,0),(14,0),(15,1),(16,0),(17,0)] mixed (by kernel_rfl) fun K hK=>?_|refine Qb ?_);simp only[go_sem,seval,Q5,z0,c3',q']|refine hK _ ?_;clear hK
    (refine Qc (htake _ _) (.keep (.v _)) ⟨rfl,rfl⟩)
   ·have q':(YN g.op==(g.args.length:Int))=false:=by simp[q]
    rw[Qv6 q]
    refine Qa Tryz.func62 rfl Tryz.call62 Tryz.ntmps62 Tryz.results62 (by simp) ?_
    repeat first|(first|refine Xq cy ?_|refine Qh (id:=3) [(0,0),(1,0),(2,0),(3,0),(4,0),(5,0),(6,1),(7,0),(8,0),(9,0),(10,0),(11,0),(12,0),(13,0),(14,0),(15,1),(16,0),(17,0)] mixed (by kernel_rfl) fun K hK=>?_|refine Qb ?_);simp only[go_sem,seval,Q5,z0,c3',q']|refine hK _ ?_;clear hK
    (refine Qc (htake _ _) (.keep (.v _)) ⟨rfl,rfl⟩)
end Go.Proofs.YticgcpebdldbgaaGreatDoor.Ab
namespace Go.Proofs.YticgcpebdldbgaaGreatDoor.Ab
open Go.Proofs
theorem Qn8:∀a b:List T,ndsL (a++b)=ndsL a+ndsL b
 |[],b=>by rw[Qvo,ndsL,Qu9]
 |t::a,b=>by rw[Qvp,ndsL,ndsL,Qn8 a b];omega
theorem QqK:∀{a b:List T},oks a->oks b->oks (a++b)
 |[],_,_,h=>h
 |t::a,b,h1,h2=>by
  rw[oks]at h1
  rw[Qvp,oks]
  exact⟨h1.1,QqK h1.2 h2⟩
def Qm3(all:List Tk)(ex:PS->PR T):Prop:=∀s,Wst all s->∀t s2,ex s = .ok t s2->t.ok/\t.nds+s2.toks.length<=s.toks.length
section
variable{all:List Tk}(hN:all.length<=1000000)(hD:TkOk all)(hX:TxOk all)
include hX in
theorem QlT{s:PS}(hW:Wst all s):s.tk.text.size<=9223372036854775807:=by
 have h:=hX _ (Qcm hW)
 have:s.tk.text.size=s.tk.text.toList.length:=by rw[Lib.toList_data];show s.tk.text.data.size=_;simp
 omega
include hD in
theorem QnQ{s:PS}(hW:Wst all s)(hk:s.tk.kind=3):0<=valT s.tk.text/\valT s.tk.text<=2147483648:=by
 have h2:=(hD.int _ (Qcm hW) hk).2
 exact⟨by unfold valT;omega,by unfold valT;omega⟩
theorem Qnr{s:PS}{o:Int}{t:Bool}(h:ZI s=some (o,t)):0<=o/\o<=12:=by
 unfold ZI at h
 repeat' split at h
 all_goals first|(cases h;decide)|cases h
theorem Qn7{k i:Int}{n:ByteArray}{l:List T}(hk:0<=k/\k<=2)(hi : -2147483648<=i/\i<=2147483648)(hn:n.size<=9223372036854775807)(hl:oks l):(T.mk k i n l).ok:=by
 rw[T.ok]
 exact⟨⟨by omega,by omega⟩,⟨by omega,by omega⟩,hn,hl⟩
theorem Qcs:eB.size<=9223372036854775807:=by decide
variable{ex:PS->PR T}(H:Qm3 all ex)(hKp:Kp.Ps (wdOf all) ex)
include H hKp
theorem Qiu:∀(m:Nat) (l:List T) (s:PS),Wst all s->oks l->∀a s2,Yu ex m l s = .ok a s2->oks a/\ndsL a+s2.toks.length<=ndsL l+s.toks.length
 |0,_,s,_,_,a,s2,e=>by cases e
 |m+1,l,s,hW,hl,a,s2,e=>by
  rw[Yu]at e
  obtain⟨t,s1,h1,h2⟩:=bind_ok e
  obtain⟨g1,g2⟩:=H s hW t s1 h1
  have hW1:Wst all s1:=Kp.Ps.ok hKp hW h1
  have ho:oks (l++[t]):=QqK hl (by rw[oks,oks];exact⟨g1,trivial⟩)
  have hn:ndsL (l++[t])=ndsL l+t.nds:=by rw[Qn8];rfl
  split at h2
  ·obtain⟨i1,i2⟩:=Qiu m _ s1.nx hW1.nx ho a s2 h2
   have:=QkQ hW1.wf
   exact⟨i1,by omega⟩
  ·obtain⟨u,s3,h3,h4⟩:=bind_ok h2
   cases h4
   have:=(YV _ s1 hW1.wf u _ h3).2
   exact⟨ho,by omega⟩
include hX in
theorem Qix{s:PS}(hW:Wst all s){a:G}{s2:PS}(e:Yc ex s = .ok a s2):a.ok/\1+ndsL a.args+s2.toks.length<=s.toks.length:=by
 rw[Yc]at e
 obtain⟨x,s1,h1,h2⟩:=bind_ok e
 have hW1:Wst all s1:=Kp.Ps.ok (n:=wdOf all) (Kp.name_ps trivial) hW h1
 have l1:=(Qaj s hW.wf x s1 h1).2
 have hx:x.size<=9223372036854775807:=by
  unfold YE at h1
  split at h1
  ·cases h1
  ·split at h1
   ·cases h1
   ·cases h1;exact QlT hX hW
 split at h2
 ·obtain⟨l,s3,h3,h4⟩:=bind_ok h2
  cases h4
  obtain⟨i1,i2⟩:=Qiu H hKp _ [] s1.nx hW1.nx (by rw[oks];trivial) l _ h3
  have:=QkQ hW1.wf
  rw[show ndsL []=0 from rfl]at i2
  exact⟨⟨⟨by show -9223372036854775808<=(0:Int);omega,by show(0:Int)<=9223372036854775807;omega⟩,hx,i1⟩,by show 1+ndsL l+_<=_;omega⟩
 ·cases h2
  exact⟨⟨⟨by show -9223372036854775808<=(0:Int);omega,by show(0:Int)<=9223372036854775807;omega⟩,hx,by show oks [];rw[oks];trivial⟩,by show 1+ndsL []+_<=_;rw[show ndsL []=0 from rfl];omega⟩
include hN hD hX in
theorem QpS:Qm3 all (pOpT ex):=fun s hW t s2 e=>by
 have hnil:oks ([]:List T):=by rw[oks];trivial
 rw[pOpT]at e
 split at e
 ·rename_i h
  cases e
  have hv:=QnQ hD hW h
  exact⟨Qn7 (by omega) (by omega) Qcs hnil,by have:=QR hW.wf (by rw[h];decide);rw[T.nds];show 1+0+_<=_;omega⟩
 split at e
 ·rename_i h
  cases e
  have hk:s.tk.kind≠0:=by rw[h];decide
  have ht:=Qdh s.tk.text s.nx
  have hl:=QR hW.wf hk
  have hnm:=hW.nms
  have hb:∃k:Nat,k<=s.names.length/\(pVari s.tk.text s.nx).1 = .mk 1 (k:Nat) eB []:=by
   unfold pVari
   split
   ·rename_i hc;exact⟨_,Nat.le_of_lt hc.1,rfl⟩
   ·exact⟨_,QvV _,rfl⟩
  obtain⟨k,k1,k2⟩:=hb
  rw[k2,ht]
  exact⟨Qn7 (by omega) (by omega) Qcs hnil,by rw[T.nds];show 1+0+_<=_;omega⟩
 split at e
 ·obtain⟨g,s1,h1,h2⟩:=bind_ok e
  cases h2
  obtain⟨a1,a2⟩:=Qix hX H hKp hW h1
  exact⟨Qn7 (by omega) (by omega) a1.2.1 a1.2.2,by rw[T.nds];exact a2⟩
 split at e
 ·rename_i h
  split at e
  ·cases e
  ·rename_i hn
   cases e
   have h3:s.nx.tk.kind=3:=by
    by_cases q:s.nx.tk.kind=3
    ·exact q
    ·exact absurd (.inl q) hn
   have hv:=QnQ hD hW.nx h3
   have hl:=QR hW.wf (by rw[Qt7 h];decide)
   have hl2:=QR hW.nx.wf (by rw[h3];decide)
   exact⟨Qn7 (by omega) (by omega) Qcs hnil,by rw[T.nds];show 1+0+_<=_;omega⟩
 split at e
 ·rename_i h
  have hl:=QR hW.wf (by rw[Qt7 h];decide)
  obtain⟨u,s1,h1,h2⟩:=bind_ok e
  obtain⟨g1,g2⟩:=H s.nx hW.nx u s1 h1
  have hW1:Wst all s1:=Kp.Ps.ok hKp hW.nx h1
  obtain⟨v,s3,h3,h4⟩:=bind_ok h2
  cases h4
  have:=(YV _ s1 hW1.wf v _ h3).2
  exact⟨g1,by omega⟩
 ·cases e
include hX in
theorem Qe0(ops:List (List UInt8)):∀(m:Nat) (t:T) (s:PS),Wst all s->t.ok->∀a s2,Xj ex ops m t s = .ok a s2->a.ok/\a.nds+s2.toks.length<=t.nds+s.toks.length
 |0,t,s,hW,ht,a,s2,e=>by cases e;exact⟨ht,QvV _⟩
 |m+1,t,s,hW,ht,a,s2,e=>by
  rw[Xj]at e
  split at e
  ·rename_i hc
   obtain⟨u,s1,h1,h2⟩:=bind_ok e
   obtain⟨g1,g2⟩:=H s.nx hW.nx u s1 h1
   have hW1:Wst all s1:=Kp.Ps.ok hKp hW.nx h1
   have hl:=QR hW.wf (by rw[QaC hc];decide)
   obtain⟨i1,i2⟩:=Qe0 ops m _ s1 hW1 (Qn7 (by omega) (by omega) (QlT hX hW) (by rw[oks,oks,oks];exact⟨ht,g1,trivial⟩)) a s2 h2
   rw[T.nds,ndsL,ndsL,ndsL]at i2
   exact⟨i1,by omega⟩
  ·cases e;exact⟨ht,QvV _⟩
include hX in
theorem QgB(ops:List (List UInt8)):Qm3 all (XH ex ops):=fun s hW t s2 e=>by
 rw[XH]at e
 obtain⟨u,s1,h1,h2⟩:=bind_ok e
 obtain⟨g1,g2⟩:=H s hW u s1 h1
 have hW1:Wst all s1:=Kp.Ps.ok hKp hW h1
 obtain⟨i1,i2⟩:=Qe0 hX H hKp ops _ u s1 hW1 g1 t s2 h2
 exact⟨i1,by omega⟩
end
section
variable{all:List Tk}(hN:all.length<=1000000)(hD:TkOk all)(hX:TxOk all)
include hN hD hX
theorem QiR:∀n,Qm3 all (XP n)
 |0=>fun s hW t s2 e=>by cases e
 |n+1=>by
  have k1:=Kp.opT_ps (n:=wdOf all) trivial (Kp.exprT_ps trivial n)
  exact QgB hX (QgB hX (QpS hN hD hX (QiR n) (Kp.exprT_ps trivial n)) k1 Xs) (Kp.chain_ps trivial k1 Xs) Ys
theorem Qdd:Qm3 all Xn:=fun s hW t s2 e=>QiR hN hD hX _ s hW t s2 e
theorem Ql5{s:PS}(hW:Wst all s){a:G}{s2:PS}(e:Yc Xn s = .ok a s2):a.ok/\ndsL a.args<=1000000:=by
 obtain⟨h1,h2⟩:=Qix hX (Qdd hN hD hX) (Kp.termT_ps trivial) hW e
 have:=hW.suf.length_le
 exact⟨h1,by omega⟩
theorem QnH{s:PS}(hW:Wst all s){a:G}{s2:PS}(e:Zs s = .ok a s2):a.ok/\ndsL a.args<=1000000:=by
 have hsl:=hW.suf.length_le
 have hnil:oks ([]:List T):=by rw[oks];trivial
 have hi:∀o:Int,0<=o->o<=12->i64 o:=fun o h1 h2=>⟨by omega,by omega⟩
 have hone:∀(op:Int) (s:PS),Wst all s->0<=op->op<=12->Qbh op s = .ok a s2->a.ok/\ndsL a.args<=1000000:=fun op s hW h0 h1 e=>by
  rw[Qbh]at e
  obtain⟨u,s1,e1,e2⟩:=bind_ok e
  have hW1:Wst all s1:=Kp.Ps.ok (n:=wdOf all) (Kp.want_ps trivial _) hW e1
  obtain⟨t,s3,e3,e4⟩:=bind_ok e2
  obtain⟨g1,g2⟩:=Qdd hN hD hX s1 hW1 t s3 e3
  obtain⟨v,s4,e5,e6⟩:=bind_ok e4
  cases e6
  have:=hW1.suf.length_le
  exact⟨⟨hi _ h0 h1,Qcs,by rw[oks,oks];exact⟨g1,trivial⟩⟩,by show ndsL [t]<=_;rw[ndsL,ndsL];omega⟩
 rw[Zs]at e
 split at e
 ·split at e
  ·cases e;exact⟨⟨hi 1 (by omega) (by omega),Qcs,hnil⟩,Qv2 _⟩
  ·split at e
   ·cases e;exact⟨⟨hi 2 (by omega) (by omega),Qcs,hnil⟩,Qv2 _⟩
   ·split at e
    ·exact hone 11 _ hW.nx (by omega) (by omega) e
    ·split at e
     ·exact hone 12 _ hW.nx (by omega) (by omega) e
     ·cases e
 ·obtain⟨t,s1,e1,e2⟩:=bind_ok e
  have hW1:Wst all s1:=Kp.Ps.ok (n:=wdOf all) (Kp.termT_ps trivial) hW e1
  obtain⟨g1,g2⟩:=Qdd hN hD hX s hW t s1 e1
  split at e2
  ·rename_i op turn hc
   obtain⟨u,s3,e3,e4⟩:=bind_ok e2
   cases e4
   obtain⟨g3,g4⟩:=Qdd hN hD hX s1.nx hW1.nx u _ e3
   have hle:=QkQ hW1.wf
   have ho:=Qnr hc
   refine⟨⟨hi _ ho.1 ho.2,Qcs,?_⟩,?_⟩
   ·show oks (if turn=true then[u,t]else[t,u])
    split <;> (rw[oks,oks,oks];first|exact⟨g3,g1,trivial⟩|exact⟨g1,g3,trivial⟩)
   ·show ndsL (if turn=true then[u,t]else[t,u])<=_
    split <;> (rw[ndsL,ndsL,ndsL];omega)
  ·split at e2
   ·cases e2
    have h1:=(T.ok_eq t).1 g1
    rw[T.Quh]at g2
    exact⟨⟨hi 0 (by omega) (by omega),h1.2.2.1,h1.2.2.2⟩,by show ndsL t.args<=_;omega⟩
   ·cases e2
end
end Go.Proofs.YticgcpebdldbgaaGreatDoor.Ab
namespace Go.Proofs.YticgcpebdldbgaaGreatDoor.Ab
open Go.Proofs
theorem Qrs{A N:AH}{n k:Nat}(hn:A.length=n)(hb:∀b∈A,b.Below n){ty s:Nat}{xs:List AV}(hk:N[k]? = some (.cells ty s xs))(hc:∀y∈xs,y.cells.length=s)(hx:∀a∈flat xs,Below n a)(m:Nat) :
  Pack n (fun i=>if i<n then i else n+k) (A++N) (A++[.cells ty s xs])/\Pk n (fun i=>if i<n then i else n+k) (A++[.cells ty s xs]) (.arr (n+k) 0 m) (.arr n 0 m):=by
 have hl:(A++[AB.cells ty s xs]).length=n+1:=by rw[QvO,hn];rfl
 refine⟨⟨by omega,by rw[QvO];omega,fun i hi=>QvY hi,fun i hi=>?_,fun i b hi h=>?_,fun i h1 h2=>by show n<=if i<n then i else n+k;rw[QvU (by omega)];omega,fun i j h1 h2 h3 h4 _=>by omega,fun i b h1 h2=>?_⟩,.arr (by show n+k=if n<n then n else n+k;rw[QvU (Nat.lt_irrefl _)]) (QvV _) (by omega)⟩
 ·rw[QvP (by omega),QvP (by omega)]
 ·rw[QvP (by omega)]at h
  exact hb b (Qv3 h)
 ·have hin:i=n:=by
   have:=Qe h2
   omega
  subst hin
  rw[QvR (by omega),hn,Qwm]at h2
  cases h2
  refine .inr ⟨ty,s,xs,xs,rfl,?_,hc,QvV _,fun j a a' e1 e2=>?_⟩
  ·show(A++N)[if i<i then i else i+k]? = _
   rw[QvU (Nat.lt_irrefl _),QvR (by omega),hn,Qwf]
   exact hk
  ·rw[e1]at e2
   cases e2
   exact .keep (hx a (Qv3 e1))
def RwQ(h:AH)(i g:Nat)(all:List Tk)(vw:G->AV)(ty w:Nat):PR (List G)->AOut->AH->Prop
 | .ok l s,o,h'=>o = .ret (.tup [.arr h.length 0 l.length,.b true])/\h'=rh h i g all s 0 0++[.cells ty w (vs vw l)]
 | .err p e,o,h'=>o = .ret (.tup [.v (.slice none 0 0),.b false])/\∃s,h'=rh h i g all s p e
def RwC(h:AH)(i g:Nat)(all:List Tk)(vw:G->AV)(ty w:Nat):PR (List G)->AOut->AH->Prop
 | .ok l s,o,h'=>∃Y k,o = .ret (.tup [.arr (h.length+k) 0 l.length,.b true])/\h'=rh h i g all s 0 0++Y/\Y[k]? = some (.cells ty w (vs vw l))
 | .err p e,o,h'=>o = .ret (.tup [.v (.slice none 0 0),.b false])/\∃s,h'=rh h i g all s p e
theorem QqT{h:AH}{i g:Nat}(HI:IG h i g)(all:List Tk)(s s2:PS)(hb:∀(k:Nat) b,(rh h i g all s 0 0)[k]? = some b->b.Below h.length):∀b∈rh h i g all s2 0 0,b.Below h.length:=fun b hb2=>by
 obtain⟨k,hk⟩:=YC hb2
 have hlt:=Qe hk
 rw[YK]at hlt
 unfold rh at hk hb
 by_cases h1:g=k
 ·subst h1;rw[QhL hlt]at hk;cases hk;exact trivial
 ·by_cases h2:i=k
  ·subst h2;rw[QhK hlt HI.ig]at hk;cases hk;exact QlI HI all _ _ _
  ·rw[Qfi _ _ h2 h1]at hk
   exact hb k b (by rw[Qfi _ _ h2 h1];exact hk)
theorem QeK{f:FuncId}{args:List AV}{h:AH}{i g:Nat}{all:List Tk}{s:PS}(HI:IG h i g){vw:G->AV}{ty w:Nat}(hw:∀a,(vw a).cells.length=w)(hv:∀n a,∀x∈(vw a).cells,Below n x){r:PR (List G)}(C:Ql Tryz.prog f args (rh h i g all s 0 0) (RwC h i g all vw ty w r)):Ql Tryz.prog f args (rh h i g all s 0 0) (RwQ h i g all vw ty w r):=by
 refine Zw C fun hb0 o h' hQ=>?_
 cases r with
 |err p e=>exact .inl hQ
 |ok l s2 =>
  rw[YK]at hb0 ⊢
  obtain⟨Y,k,rfl,rfl,hk⟩:=hQ
  obtain⟨K,hp⟩:=Qrs (YK h i g all s2 0 0) (QqT HI all s s2 hb0) hk (fun y hy=>by obtain⟨x,_,rfl⟩:=Qwg.1 hy;exact hw x) (fun a ha=>by
   obtain⟨x,hx,hxa⟩:=Qw6.1 ha
   obtain⟨y,_,rfl⟩:=Qwg.1 hx
   exact hv _ y a hxa) l.length
  exact .inr ⟨_,.tup [.arr h.length 0 l.length,.b true],_,_,rfl,K,.tup rfl fun j a a' h1 h2=>(by
   match j,h1,h2 with
   |0,h1,h2=>cases h1;cases h2;exact hp
   |1,h1,h2=>cases h1;cases h2;exact .keep (.v _)
   |j+2,h1,h2=>simp at h1),rfl,rfl⟩
def rowV(w d k:Nat)(l:List G):AV:=if l.isEmpty then .sl w [] (some d)else .arr k 0 l.length
theorem G.Qur(a:G):a.goal.cells=[.i a.op,.v (.string a.name),.sl 4 (avs a.args) none]:=rfl
theorem G.Qus(a:G):a.atom.cells=[.v (.string a.name),.sl 4 (avs a.args) none]:=rfl
section
variable{all:List Tk}{i g:Nat}(hN:all.length<=1000000)(hD:TkOk all)(hX:TxOk all)
include hN hD hX
theorem Qhb(most:Nat)(hmost:most<=100){q:PS}(hW:Wst all q){h:AH}(HI:IG h i g):Ql Tryz.prog 32 [.ptr i 0 0,.i (most:Nat)] (rh h i g all q 0 0) (RwC h i g all G.goal 46 3 (Xt most q)):=by
 have f1:=YK h i g all
 have f3:=Qa5 h i g all
 have f4:=Qc6 h i g all
 have f5:=ZX h i g all
 have f6:=Qa4 h i g all
 have e44:(ByteArray.toList {data:=#[44]})=Xx:=by rw[Lib.toList_data];rfl
 generalize hR:Xt most q=R
 unfold Xt at hR
 refine Qa Tryz.func32 rfl Tryz.call32 Tryz.ntmps32 Tryz.results32 (by simp) ?_
 repeat first|refine Qb ?_;simp only[go_sem,seval]|refine hK _ ?_;clear hK
 refine QdQ 6 3 rfl ?_
 obtain⟨I,hI⟩:∃I:Nat->AS->Prop,I=fun m' s=>∃(l:List G) (s2:PS) (Y:AH) (k:Nat),m'=s2.toks.length/\Wst all s2/\l.length<=100/\(∃k,s2.toks.length+1<=k/\XQ most k l s2=R)/\(l≠[]->Y[k]? = some (.cells 46 3 (vs G.goal l)))/\s.tm 0 = .ptr i 0 0/\s.tm 1 = .i (most:Nat)/\s.tm 6=rowV 3 h.length (h.length+(k+1)) l/\s.h=rh h i g all s2 0 0++(.dead::Y):=⟨_,rfl⟩;refine Qk I ?_ (m:=q.toks.length) ?_
 ·intro m' s hs;rw[hI]at hs;obtain⟨tm,hp⟩:=s;dsimp only at hs;obtain⟨l,s2,Y,k,rfl,hW2,hl100,⟨j,hj,hR2⟩,hY,t0,t1,t6,rfl⟩:=hs
  obtain⟨j,rfl⟩:∃j',j=j'+1:=⟨j - 1,by omega⟩
  have ct:=Qel hW2 HI
  have cf:=QbL hW2 HI
  have e1:=Tk.Qt5 s2.tk
  have e2:=Tk.Qt6 s2.tk
  iterate 4 (try (first|((first|(with_reducible (first|refine Qf fun K E hK hE=>?_|refine FunW.Qt4 (ct _) ?_)));simp only[go_sem,seval,t0,e1,e2])|(with_reducible refine QA ?_)|((with_reducible refine hK _ ?_);clear hK)))
  refine Qt (fun s=>(¬most<=l.length)/\s.tm 0 = .ptr i 0 0/\s.tm 1 = .i (most:Nat)/\s.tm 6=rowV 3 h.length (h.length+(k+1)) l/\s.tm 7 = .i s2.tk.pos/\s.h=rh h i g all s2 0 0++(.dead::Y)) ?_ ?_
  ·rintro⟨tm,hp⟩ ⟨hfull,t0,t1,t6,t7,rfl⟩
   dsimp only at t0 t1 t6 t7
   rw[XQ,QvU hfull]at hR2
   have ce:=(QoR hN hD hX hW2).app HI
   have his:=Qrf s2
   cases hp:Zs s2 with
   |err x c =>
    rw[hp]at hR2 his
    have hRR:R = .err x c:=hR2.symm
    subst hRR
    obtain⟨i1,i2,i3⟩:=his
    have z:((Qgj s2).e==0)=false:=by rw[i2];simpa using i3
    rw[z,i1,i2]at ce
    generalize Qgj s2=r at *
    have k1:r.v.goal.isAgg=true:=rfl
    have k2:=G.Qur r.v
    repeat first|(first|refine FunW.Qt4 (ce _) ?_|refine Qb ?_);simp only[go_sem,seval,f1,f4,f6,t0,k1,k2]|refine hK _ ?_;clear hK
    exact QD HI all _ _ _ (QM _ (.keep (.v _))) ⟨rfl,r.s,rfl⟩
   |ok a s3 =>
    rw[hp]at hR2 his
    have hq3:=RR.okE his
    obtain⟨g1,g2⟩:=QnH hN hD hX hW2 hp
    have hW3:Wst all s3:=Kp.Ps.ok (n:=wdOf all) (Kp.goalT_ps trivial) hW2 hp
    have hl3:=(Qff s2 hW2.wf a s3 hp).2
    have cR:=QdI a g2 g1
    have k1:a.goal.isAgg=true:=rfl
    have k2:=G.Qur a
    rw[hq3]at ce
    have hR3:(if Qy a=false then PR.err s2.tk.pos 6 else if s3.is Xx=true then XQ most j (l++[a]) s3.nx else .ok (l++[a]) s3)=R:=hR2
    cases hc:Qy a with
    |false =>
     rw[QvY hc]at hR3
     subst hR3
     rw[hc]at cR
     have cf3:=QbL hW3 HI
     repeat first|(first|refine Qd cR ?_|refine FunW.Qt4 (ce _) ?_|refine FunW.Qt4 (cf3 _ _ _) ?_|refine Qb ?_);simp only[go_sem,seval,f1,f4,f6,t0,t7,k1,k2]|refine hK _ ?_;clear hK
     exact QD HI all _ _ _ (QM _ (.keep (.v _))) ⟨rfl,s3,rfl⟩
    |true =>
     rw[QvU (by rw[hc];simp)]at hR3
     rw[hc]at cR
     iterate 18 (try (first|((first|(with_reducible (first|refine Qf fun K E hK hE=>?_|refine Qd cR ?_|refine FunW.Qt4 (ce _) ?_)));simp only[go_sem,seval,f1,f4,f6,t0,k1,k2])|(with_reducible (first|refine Qn fun K hK=>?_|refine QG ?_|refine Qi ?_))|((with_reducible refine hK _ ?_);clear hK)|(refine Qm rfl ?_;simp only[↓reduceIte,Qu1])))
     refine Qt (fun s=>∃(Z:AH) (k:Nat),Z[k]? = some (.cells 46 3 (vs G.goal (l++[a])))/\s.tm 0 = .ptr i 0 0/\s.tm 1 = .i (most:Nat)/\s.tm 6 = .arr (h.length+(k+1)) 0 (l.length+1)/\s.h=rh h i g all s3 0 0++(.dead::Z)) ?_ ?_
     ·rintro⟨tm,hp⟩ ⟨Z,k,hZ,t0,t1,t6,rfl⟩
      dsimp only at t0 t1 t6
      have c4:=fun L=>risL hW3 HI L {data:=#[44]}
      rw[e44]at c4
      cases hcm:s3.is Xx with
      |true =>
       rw[QvY hcm]at hR3
       rw[hcm]at c4
       have hln:=QR hW3.wf (by rw[Qt7 hcm];decide)
       have cx:=QaH hN hW3 HI
       repeat first|(first|refine FunW.Qt4 (c4 _) ?_|refine FunW.Qt4 (cx _) ?_|refine Qb ?_);simp only[go_sem,seval,t0]|refine hK _ ?_;clear hK
       refine Qs.mk (m':=s3.nx.toks.length) (by omega) ?_
       rw[hI]
       refine⟨l++[a],s3.nx,Z,k,rfl,hW3.nx,by simp;omega,⟨j,by omega,hR3⟩,fun _=>hZ,t0,t1,?_,rfl⟩
       rw[rowV,QvU (by simp),QvO]
       exact t6
      |false =>
       rw[QvU (by rw[hcm];simp)]at hR3
       subst hR3
       rw[hcm]at c4
       repeat first|(first|refine FunW.Qt4 (c4 _) ?_|refine Qb ?_);simp only[go_sem,seval,t0,t6]|refine hK _ ?_;clear hK
       exact .inr ⟨.dead::Z,k+1,by rw[QvO];rfl,rfl,hZ⟩
     ·have ev:vs G.goal (l++[a])=vs G.goal l++[a.goal]:=by rw[Qaf];rfl
      have evl:(vs G.goal l).length=l.length:=QL _ _
      have hm:(l.length+1) * 48<=140737488355328:=by omega
      have hm2:l.length+1<=maxLen:=by simp only[maxLen];omega
      rcases l with _|⟨b,l⟩
      ·rw[rowV,QvD,QvY rfl]at t6
       repeat first|refine Qb ?_;simp only[go_sem,seval,aopR,QaJ,f1,f3,f4,t6,k1,k2]|refine hK _ ?_;clear hK
       (try (refine hK _ ?_;rw[Qp]))
       exact⟨_,Y.length+1,by rw[QvR (by omega),Qwf];rfl,t0,t1,rfl,rfl⟩
      ·rw[rowV,QvE,QvU (by simp)]at t6
       have y1:∀Z:AH,(Y++Z)[k]? = some (.cells 46 3 (vs G.goal (b::l))):=fun Z=>by rw[QvP (Qe (hY (by simp)))];exact hY (by simp)
       have y2:∀(Z:AH) x,(Y++Z).set k x=Y.set k x++Z:=fun Z x=>Qv1 _ _ (Qe (hY (by simp)))
       rw[Qva]at hm hm2
       repeat first|refine Qb ?_;simp only[go_sem,seval,aopR,Qai,f1,f4,f6,t6,k1,k2,y1,y2,evl,hm,hm2]|refine hK _ ?_;clear hK
       (try (refine hK _ ?_;rw[Qp]))
       exact⟨_,Y.length+1,by rw[QvR (by rw[QvZ];omega),QvZ,Qwf,ev];rfl,t0,t1,rfl,rfl⟩
  ·rcases l with _|⟨a,l⟩
   ·rw[rowV,QvD,QvY rfl]at t6
    by_cases hf:most<=([]:List G).length
    ·rw[XQ,QvY hf]at hR2
     subst hR2
     have z1:(0:Int)>=((most:Nat):Int):=by rw[Qvb]at hf;omega
     repeat first|(first|refine FunW.Qt4 (cf _ _ _) ?_|refine Qb ?_);simp only[go_sem,seval,t0,t1,t6,z1]|refine hK _ ?_;clear hK
     exact QD HI all _ _ _ (QM _ (.keep (.v _))) ⟨rfl,s2,rfl⟩
    ·have z1:¬(0:Int)>=((most:Nat):Int):=by rw[Qvb]at hf;omega
     repeat first|refine Qb ?_;simp only[go_sem,seval,t1,t6,z1]|refine hK _ ?_;clear hK
     (try (refine hK _ ?_;rw[Qp]))
     exact⟨hf,t0,t1,t6,rfl,rfl⟩
   ·rw[rowV,QvE,QvU (by simp)]at t6
    have y0:=hY (by simp)
    by_cases hf:most<=(a::l).length
    ·rw[XQ,QvY hf]at hR2
     subst hR2
     have z1:(((l.length+1:Nat)):Int)>=((most:Nat):Int):=by rw[Qva]at hf;omega
     repeat first|(first|refine FunW.Qt4 (cf _ _ _) ?_|refine Qb ?_);simp only[go_sem,seval,f4,t0,t1,t6,y0,z1]|refine hK _ ?_;clear hK
     exact QD HI all _ _ _ (QM _ (.keep (.v _))) ⟨rfl,s2,rfl⟩
    ·have z1:¬(((l.length+1:Nat)):Int)>=((most:Nat):Int):=by rw[Qva]at hf;omega
     repeat first|refine Qb ?_;simp only[go_sem,seval,f4,t1,t6,y0,z1]|refine hK _ ?_;clear hK
     (try (refine hK _ ?_;rw[Qp]))
     exact⟨hf,t0,t1,t6,rfl,rfl⟩
 ·rw[hI]
  exact⟨[],q,[],0,rfl,hW,by simp,⟨_,QvV _,hR⟩,fun h=>absurd rfl h,rfl,rfl,by rw[rowV,QvD,QvY rfl];show AV.sl 3 [] (some (rh h i g all q 0 0).length)=_;rw[YK],rfl⟩
end
section
variable{all:List Tk}{i g:Nat}(hN:all.length<=1000000)(hD:TkOk all)(hX:TxOk all)
include hN hD hX
theorem QmD{q:PS}(hW:Wst all q):R2 Tryz.prog 94 [.ptr i 0 0] i g all q (.tup [(Qas Ye q).v.atom,.b ((Qas Ye q).e==0)]) (Qas Ye q).s (Qas Ye q).pos (Qas Ye q).e :=
 QlD (px:=Xn) (Nn:=q.toks.length) (fun s _ hWs=>QeJ i g hN hD hX hWs) QdK (Zp.less (Qv2 _)) (Kp.termT_ps trivial) hN (Qxp _) hW
theorem Qhd(pre:Nat)(hpre:pre<=100){q:PS}(hW:Wst all q){h:AH}(HI:IG h i g):Ql Tryz.prog 78 [.ptr i 0 0,.i (pre:Nat)] (rh h i g all q 0 0) (RwC h i g all G.atom 105 2 (XI pre q)):=by
 have f1:=YK h i g all
 have f3:=Qa5 h i g all
 have f4:=Qc6 h i g all
 have f5:=ZX h i g all
 have f6:=Qa4 h i g all
 have e44:(ByteArray.toList {data:=#[44]})=Xx:=by rw[Lib.toList_data];rfl
 generalize hR:XI pre q=R
 unfold XI at hR
 refine Qa Tryz.func78 rfl Tryz.call78 Tryz.ntmps78 Tryz.results78 (by simp) ?_
 repeat first|refine Qb ?_;simp only[go_sem,seval]|refine hK _ ?_;clear hK
 refine QdQ 6 2 rfl ?_
 obtain⟨I,hI⟩:∃I:Nat->AS->Prop,I=fun m' s=>∃(l:List G) (s2:PS) (Y:AH) (k:Nat),m'=s2.toks.length/\Wst all s2/\l.length<=100/\(∃k,s2.toks.length+1<=k/\XZ pre k l s2=R)/\(l≠[]->Y[k]? = some (.cells 105 2 (vs G.atom l)))/\s.tm 0 = .ptr i 0 0/\s.tm 1 = .i (pre:Nat)/\s.tm 6=rowV 2 h.length (h.length+(k+1)) l/\s.h=rh h i g all s2 0 0++(.dead::Y):=⟨_,rfl⟩;refine Qk I ?_ (m:=q.toks.length) ?_
 ·intro m' s hs;rw[hI]at hs;obtain⟨tm,hp⟩:=s;dsimp only at hs;obtain⟨l,s2,Y,k,rfl,hW2,hl100,⟨j,hj,hR2⟩,hY,t0,t1,t6,rfl⟩:=hs
  obtain⟨j,rfl⟩:∃j',j=j'+1:=⟨j - 1,by omega⟩
  have ct:=Qel hW2 HI
  have cf:=QbL hW2 HI
  have e1:=Tk.Qt5 s2.tk
  have e2:=Tk.Qt6 s2.tk
  have wp0:IntKind.i64.wrap (((pre:Nat):Int)+0)=((pre:Nat):Int):=by rw[Int.add_zero,QS (by omega)]
  have wp1:∀n:Nat,n<=100->IntKind.i64.wrap (((pre:Nat):Int)+((n+1:Nat):Int))=((pre+(n+1):Nat):Int):=fun n hn=>by rw[QS (by omega)];omega
  iterate 4 (try (first|((first|(with_reducible (first|refine Qf fun K E hK hE=>?_|refine FunW.Qt4 (ct _) ?_)));simp only[go_sem,seval,t0,e1,e2])|(with_reducible refine QA ?_)|((with_reducible refine hK _ ?_);clear hK)))
  refine Qt (fun s=>(¬4<=pre+l.length)/\s.tm 0 = .ptr i 0 0/\s.tm 1 = .i (pre:Nat)/\s.tm 6=rowV 2 h.length (h.length+(k+1)) l/\s.tm 7 = .i s2.tk.pos/\s.h=rh h i g all s2 0 0++(.dead::Y)) ?_ ?_
  ·rintro⟨tm,hp⟩ ⟨hfull,t0,t1,t6,t7,rfl⟩
   dsimp only at t0 t1 t6 t7
   rw[XZ,QvU hfull]at hR2
   have ce:=(QmD hN hD hX hW2).app HI
   have his:=Qnf QdK s2
   cases hp:Yc Xn s2 with
   |err x c =>
    rw[hp]at hR2 his
    have hRR:R = .err x c:=hR2.symm
    subst hRR
    obtain⟨i1,i2,i3⟩:=his
    have z:((Qas Ye s2).e==0)=false:=by rw[i2];simpa using i3
    rw[z,i1,i2]at ce
    generalize Qas Ye s2=r at *
    have k1:r.v.atom.isAgg=true:=rfl
    have k2:=G.Qus r.v
    repeat first|(first|refine FunW.Qt4 (ce _) ?_|refine Qb ?_);simp only[go_sem,seval,f1,f4,f6,t0,k1,k2]|refine hK _ ?_;clear hK
    exact QD HI all _ _ _ (QM _ (.keep (.v _))) ⟨rfl,r.s,rfl⟩
   |ok a s3 =>
    rw[hp]at hR2 his
    have hq3:=RR.okE his
    obtain⟨g1,g2⟩:=Ql5 hN hD hX hW2 hp
    have hW3:Wst all s3:=Kp.Ps.ok (n:=wdOf all) (Kp.atom_ps trivial (Kp.termT_ps trivial)) hW2 hp
    have hl3:=((Qes (Zp.less (Qv2 _))) s2 hW2.wf a s3 hp).2
    have cR:=QaG a g2 g1
    have k1:a.atom.isAgg=true:=rfl
    have k2:=G.Qus a
    rw[hq3]at ce
    have hR3:(if QC a=false then PR.err s2.tk.pos 6 else if s3.is Xx=true then XZ pre j (l++[a]) s3.nx else .ok (l++[a]) s3)=R:=hR2
    cases hc:QC a with
    |false =>
     rw[QvY hc]at hR3
     subst hR3
     rw[hc]at cR
     have cf3:=QbL hW3 HI
     repeat first|(first|refine Qd cR ?_|refine FunW.Qt4 (ce _) ?_|refine FunW.Qt4 (cf3 _ _ _) ?_|refine Qb ?_);simp only[go_sem,seval,f1,f4,f6,t0,t7,k1,k2]|refine hK _ ?_;clear hK
     exact QD HI all _ _ _ (QM _ (.keep (.v _))) ⟨rfl,s3,rfl⟩
    |true =>
     rw[QvU (by rw[hc];simp)]at hR3
     rw[hc]at cR
     iterate 18 (try (first|((first|(with_reducible (first|refine Qf fun K E hK hE=>?_|refine Qd cR ?_|refine FunW.Qt4 (ce _) ?_)));simp only[go_sem,seval,f1,f4,f6,t0,k1,k2])|(with_reducible (first|refine Qn fun K hK=>?_|refine QG ?_|refine Qi ?_))|((with_reducible refine hK _ ?_);clear hK)|(refine Qm rfl ?_;simp only[↓reduceIte,Qu1])))
     refine Qt (fun s=>∃(Z:AH) (k:Nat),Z[k]? = some (.cells 105 2 (vs G.atom (l++[a])))/\s.tm 0 = .ptr i 0 0/\s.tm 1 = .i (pre:Nat)/\s.tm 6 = .arr (h.length+(k+1)) 0 (l.length+1)/\s.h=rh h i g all s3 0 0++(.dead::Z)) ?_ ?_
     ·rintro⟨tm,hp⟩ ⟨Z,k,hZ,t0,t1,t6,rfl⟩
      dsimp only at t0 t1 t6
      have c4:=fun L=>risL hW3 HI L {data:=#[44]}
      rw[e44]at c4
      cases hcm:s3.is Xx with
      |true =>
       rw[QvY hcm]at hR3
       rw[hcm]at c4
       have hln:=QR hW3.wf (by rw[Qt7 hcm];decide)
       have cx:=QaH hN hW3 HI
       repeat first|(first|refine FunW.Qt4 (c4 _) ?_|refine FunW.Qt4 (cx _) ?_|refine Qb ?_);simp only[go_sem,seval,t0]|refine hK _ ?_;clear hK
       refine Qs.mk (m':=s3.nx.toks.length) (by omega) ?_
       rw[hI]
       refine⟨l++[a],s3.nx,Z,k,rfl,hW3.nx,by simp;omega,⟨j,by omega,hR3⟩,fun _=>hZ,t0,t1,?_,rfl⟩
       rw[rowV,QvU (by simp),QvO]
       exact t6
      |false =>
       rw[QvU (by rw[hcm];simp)]at hR3
       subst hR3
       rw[hcm]at c4
       repeat first|(first|refine FunW.Qt4 (c4 _) ?_|refine Qb ?_);simp only[go_sem,seval,t0,t6]|refine hK _ ?_;clear hK
       exact .inr ⟨.dead::Z,k+1,by rw[QvO];rfl,rfl,hZ⟩
     ·have ev:vs G.atom (l++[a])=vs G.atom l++[a.atom]:=by rw[Qaf];rfl
      have evl:(vs G.atom l).length=l.length:=QL _ _
      have hm:(l.length+1) * 40<=140737488355328:=by omega
      have hm2:l.length+1<=maxLen:=by simp only[maxLen];omega
      rcases l with _|⟨b,l⟩
      ·rw[rowV,QvD,QvY rfl]at t6
       repeat first|refine Qb ?_;simp only[go_sem,seval,aopR,QaJ,f1,f3,f4,t6,k1,k2]|refine hK _ ?_;clear hK
       (try (refine hK _ ?_;rw[Qp]))
       exact⟨_,Y.length+1,by rw[QvR (by omega),Qwf];rfl,t0,t1,rfl,rfl⟩
      ·rw[rowV,QvE,QvU (by simp)]at t6
       have y1:∀Z:AH,(Y++Z)[k]? = some (.cells 105 2 (vs G.atom (b::l))):=fun Z=>by rw[QvP (Qe (hY (by simp)))];exact hY (by simp)
       have y2:∀(Z:AH) x,(Y++Z).set k x=Y.set k x++Z:=fun Z x=>Qv1 _ _ (Qe (hY (by simp)))
       rw[Qva]at hm hm2
       repeat first|refine Qb ?_;simp only[go_sem,seval,aopR,Qai,f1,f4,f6,t6,k1,k2,y1,y2,evl,hm,hm2]|refine hK _ ?_;clear hK
       (try (refine hK _ ?_;rw[Qp]))
       exact⟨_,Y.length+1,by rw[QvR (by rw[QvZ];omega),QvZ,Qwf,ev];rfl,t0,t1,rfl,rfl⟩
  ·rcases l with _|⟨a,l⟩
   ·rw[rowV,QvD,QvY rfl]at t6
    by_cases hf:4<=pre+([]:List G).length
    ·rw[XZ,QvY hf]at hR2
     subst hR2
     have z1:((pre:Nat):Int)>=4:=by rw[Qvb]at hf;omega
     repeat first|(first|refine FunW.Qt4 (cf _ _ _) ?_|refine Qb ?_);simp only[go_sem,seval,t0,t1,t6,z1,wp0]|refine hK _ ?_;clear hK
     exact QD HI all _ _ _ (QM _ (.keep (.v _))) ⟨rfl,s2,rfl⟩
    ·have z1:¬((pre:Nat):Int)>=4:=by rw[Qvb]at hf;omega
     repeat first|refine Qb ?_;simp only[go_sem,seval,t1,t6,z1,wp0]|refine hK _ ?_;clear hK
     (try (refine hK _ ?_;rw[Qp]))
     exact⟨hf,t0,t1,t6,rfl,rfl⟩
   ·rw[rowV,QvE,QvU (by simp)]at t6
    have y0:=hY (by simp)
    by_cases hf:4<=pre+(a::l).length
    ·rw[XZ,QvY hf]at hR2
     subst hR2
     have z1:((pre+(l.length+1):Nat):Int)>=4:=by rw[Qva]at hf;omega
     repeat first|(first|refine FunW.Qt4 (cf _ _ _) ?_|refine Qb ?_);simp only[go_sem,seval,f4,t0,t1,t6,y0,z1,wp1 l.length (by rw[Qva]at hl100;omega)]|refine hK _ ?_;clear hK
     exact QD HI all _ _ _ (QM _ (.keep (.v _))) ⟨rfl,s2,rfl⟩
    ·have z1:¬((pre+(l.length+1):Nat):Int)>=4:=by rw[Qva]at hf;omega
     repeat first|refine Qb ?_;simp only[go_sem,seval,f4,t1,t6,y0,z1,wp1 l.length (by rw[Qva]at hl100;omega)]|refine hK _ ?_;clear hK
     (try (refine hK _ ?_;rw[Qp]))
     exact⟨hf,t0,t1,t6,rfl,rfl⟩
 ·rw[hI]
  exact⟨[],q,[],0,rfl,hW,by simp,⟨_,QvV _,hR⟩,fun h=>absurd rfl h,rfl,rfl,by rw[rowV,QvD,QvY rfl];show AV.sl 2 [] (some (rh h i g all q 0 0).length)=_;rw[YK],rfl⟩
end
end Go.Proofs.YticgcpebdldbgaaGreatDoor.Ab
namespace Go.Proofs.YticgcpebdldbgaaGreatDoor.Ab
open Go.Proofs
mutual
theorem T.QuI:∀t:T,t.Qua=true->t.nds=t.size
 | .mk k i n l,h=>by
  simp only[T.Qua]at h
  simp only[T.nds,T.size]
  split at h
  ·rename_i k0
   simp only[Qv0,List.isEmpty_iff]at h
   rw[QvU (by omega),h.2];rfl
  ·split at h
   ·rename_i k0 k1
    simp only[Qv0,List.isEmpty_iff]at h
    rw[QvU (by omega),h.2];rfl
   ·split at h
    ·rename_i k2
     split at h
     ·cases h
     ·split at h
      ·cases h
      ·rw[QvY k2,QcO l h]
    ·cases h
theorem QcO:∀l:List T,YJ l=true->ndsL l=sizes l
 |[],_=>rfl
 |t::l,h=>by
  simp only[YJ,Qv0]at h
  simp only[ndsL,sizes]
  rw[T.QuI t h.1,QcO l h.2]
end
theorem QoV(tot:Nat):∀(m:Nat) (l:List UInt8),(∀ts,Zn tot m l = .inl ts->∀t∈ts,In tot t.pos)/\∀p e,Zn tot m l = .inr (p,e)->In tot p
 |0,l=>⟨fun ts h t ht=>by(cases h;cases ht),fun p e h=>by(cases h)⟩
 |m+1,l=>by
  have hp:In tot ((tot - (QK false l).length:Nat):Int):=⟨by omega,by omega⟩
  rw[Zn]
  cases ht:XU (QK false l)with
  |inr c=>exact⟨fun ts h=>by(cases h),fun p e h=>by(cases h;exact hp)⟩
  |inl kx =>
   obtain⟨k,x⟩:=kx
   simp only
   split
   ·refine⟨fun ts h t ht=>?_,fun p e h=>by cases h⟩
    cases h
    rw[QwB.1 ht];exact hp
   ·obtain⟨i1,i2⟩:=QoV tot m ((QK false l).drop x.length)
    cases h2:Zn tot m ((QK false l).drop x.length)with
    |inl us =>
     refine⟨fun ts h t ht=>?_,fun p e h=>by cases h⟩
     cases h
     rcases Qv5.1 ht with rfl|ht
     ·exact hp
     ·exact i1 us h2 t ht
    |inr q =>
     refine⟨fun ts h=>(by cases h),fun p e h=>?_⟩
     cases h
     exact i2 p e h2
theorem Qhi(l:List UInt8):(∀ts,Xo l = .inl ts->∀t∈ts,In l.length t.pos)/\∀p e,Xo l = .inr (p,e)->In l.length p:=by
 rw[Xo]
 split
 ·exact⟨fun ts h=>(by cases h),fun p e h=>by cases h;exact⟨Int.le_refl _,by omega⟩⟩
 ·exact QoV _ _ _
theorem Qop{l:List UInt8}{x e:Int}(h:Qbe l = .inr (x,e)):In l.length x:=by
 unfold Qbe at h
 cases hs:Xo l with
 |inr q =>
  rw[hs]at h
  cases h
  exact(Qhi l).2 x e hs
 |inl ts =>
  rw[hs]at h
  simp only at h
  have:=prog_ps (n:=l.length) (by omega) ⟨ts,[]⟩ ((Qhi l).1 ts hs)
  cases hp:Qei ⟨ts,[]⟩with
  |ok p s2=>rw[hp]at h;cases h
  |err p c =>
   rw[hp]at h this
   cases h
   exact this
structure RlPre (r:Rl):Prop where
 ka:atomsOk r.keep
 ra:atomsOk r.remove
 ga:goalsOk r.guard
 ba:goalsOk r.body
 h1:1<=r.keep.length+r.remove.length
 h4:r.keep.length+r.remove.length<=4
 g12:r.guard.length<=12
 b12:r.body.length<=12
theorem Qf2{name:ByteArray}{keep remove:List G}{s:PS}{r:Rl}{s2:PS}(h:YP name keep remove s = .ok r s2)(hk:atomsOk keep)(hr:atomsOk remove)(h1:1<=keep.length+remove.length)(h4:keep.length+remove.length<=4):RlPre r:=by
 have hb:∀b:List G,goalsOk b/\b.length<=12->goalsOk (match b with|[x]=>if x.op=1 then[]else b|_=>b)/\(match b with|[x]=>if x.op=1 then[]else b|_=>b).length<=12:=fun b hb=>by
  split
  ·split
   ·exact⟨fun _ h=>(Qv7 h).elim,by decide⟩
   ·exact hb
  ·exact hb
 unfold YP at h
 simp only at h
 obtain⟨b,s1,e1,h⟩:=bind_ok h
 have g1:=Qaw e1
 split at h
 ·obtain⟨b2,s3,e2,h⟩:=bind_ok h
  have g2:=Qaw e2
  obtain⟨u,s4,e3,h⟩:=bind_ok h
  cases h
  exact⟨hk,hr,g1.1,(hb b2 g2).1,h1,h4,g1.2,(hb b2 g2).2⟩
 ·obtain⟨u,s4,e3,h⟩:=bind_ok h
  cases h
  exact⟨hk,hr,fun _ h=>(Qv7 h).elim,(hb b g1).1,h1,h4,Qv2 _,(hb b g1).2⟩
theorem QiA{name:ByteArray}{s:PS}{r:Rl}{s2:PS}(h:Qjq name s = .ok r s2):RlPre r:=by
 rw[Qjq]at h
 obtain⟨f,s1,e1,h⟩:=bind_ok h
 obtain⟨f1,f2,f3⟩:=Qay e1
 have no:atomsOk []:=fun _ h=>(Qv7 h).elim
 rw[QmA]at h
 split at h
 ·exact Qf2 h no f1 (by simp;omega) (by simp;omega)
 split at h
 ·exact Qf2 h f1 no (by simp;omega) (by simp;omega)
 split at h
 ·obtain⟨rem,s3,e2,h⟩:=bind_ok h
  obtain⟨r1,r2,r3⟩:=Qay e2
  obtain⟨u,s4,e3,h⟩:=bind_ok h
  exact Qf2 h f1 r1 (by omega) (by omega)
 ·cases h
theorem Qg3{s:PS}{r:Rl}{s2:PS}(h:Yh s = .ok r s2):RlPre r:=by
 rw[QaD]at h
 split at h
 ·obtain⟨x,s1,e1,h⟩:=bind_ok h
  exact QiA h
 ·exact QiA h
def rowW(id:Nat)(l:List G):AV:=if l.isEmpty then .v (.slice none 0 0)else .arr id 0 l.length
def blkW(vw:G->AV)(ty w:Nat)(l:List G):AB:=if l.isEmpty then .dead else .cells ty w (vs vw l)
abbrev blkA(l:List G):AB:=blkW G.atom 105 2 l
abbrev blkG(l:List G):AB:=blkW G.goal 46 3 l
def Q9(b:Nat)(r:Rl):AV:=.agg [.v (.string r.name),rowW b r.keep,rowW (b+1) r.remove,rowW (b+2) r.guard,rowW (b+3) r.body,.i 0]
def layW(r:Rl):AH:=[blkA r.keep,blkA r.remove,blkG r.guard,blkG r.body]
def RowP(Y:AH)(b:Nat)(vw:G->AV)(ty w:Nat)(l:List G)(v:AV)(k:Nat):Prop:=(l=[]/\v = .v (.slice none 0 0))\/(l≠[]/\v = .arr (b+k) 0 l.length/\Y[k]? = some (.cells ty w (vs vw l)))
def vwOk(vw:G->AV)(w:Nat):Prop:=(∀a,(vw a).cells.length=w)/\∀n a,∀x∈(vw a).cells,Below n x
theorem Qbp:vwOk G.atom 2:=⟨fun _=>rfl,fun n a x hx=>by
 rw[G.Qus]at hx
 simp only[Qv5,Qv7,QwQ]at hx
 rcases hx with rfl|rfl
 ·exact .v _
 ·exact Qav _ _⟩
theorem Qbx:vwOk G.goal 3:=⟨fun _=>rfl,fun n a x hx=>by
 rw[G.Qur]at hx
 simp only[Qv5,Qv7,QwQ]at hx
 rcases hx with rfl|rfl|rfl
 ·exact .v _
 ·exact .v _
 ·exact Qav _ _⟩
theorem QeI{n:Nat}{τ:Nat->Nat}{A N h2:AH}(hn:A.length=n){vw:G->AV}{ty w:Nat}(hv:vwOk vw w){l:List G}{v:AV}{k i:Nat}(h:RowP N n vw ty w l v k)(hi:τ i=n+k) :
  blkW vw ty w l = .dead\/∃ty' s xs ys,blkW vw ty w l = .cells ty' s ys/\(A++N)[τ i]? = some (.cells ty' s xs)/\(∀y∈ys,y.cells.length=s)/\(flat ys).length<=(flat xs).length/\∀(j:Nat) a a',(flat xs)[j]? = some a->(flat ys)[j]? = some a'->Pk n τ h2 a a':=by
 rcases h with⟨rfl,_⟩|⟨hl,_,hk⟩
 ·exact .inl rfl
 ·refine .inr ⟨ty,w,vs vw l,vs vw l,?_,?_,fun y hy=>?_,QvV _,fun j a a' e1 e2=>?_⟩
  ·cases l with
   |nil=>exact absurd rfl hl
   |cons a l=>rfl
  ·rw[hi,QvR (by omega),hn,Qwf];exact hk
  ·obtain⟨x,_,rfl⟩:=Qwg.1 hy;exact hv.1 x
  ·rw[e1]at e2
   cases e2
   refine .keep ?_
   obtain⟨x,hx,hxa⟩:=Qw6.1 (Qv3 e1)
   obtain⟨y,_,rfl⟩:=Qwg.1 hx
   exact hv.2 _ y a hxa
theorem rowP_val{n:Nat}{τ:Nat->Nat}{N h2:AH}{vw:G->AV}{ty w:Nat}{l:List G}{v:AV}{k i:Nat}(h:RowP N n vw ty w l v k)(hi:τ i=n+k)(h1:n<=i)(h3:i<h2.length):Pk n τ h2 v (rowW i l):=by
 rcases h with⟨rfl,rfl⟩|⟨hl,rfl,hk⟩
 ·exact .keep (.v _)
 ·have e:rowW i l = .arr i 0 l.length:=by
   cases l with
   |nil=>exact absurd rfl hl
   |cons a l=>rfl
  rw[e]
  exact .arr hi.symm h1 h3
def tau4(n k1 k2 k3 k4:Nat):Nat->Nat:=fun i=>if i<n then i else n+(if i=n then k1 else if i=n+1 then k2 else if i=n+2 then k3 else k4)
theorem Qti{A N:AH}{n:Nat}(hn:A.length=n)(hb:∀b∈A,b.Below n){r:Rl}{vk vr vg vb:AV}{k1 k2 k3 k4:Nat}(hne:k1≠k2/\k1≠k3/\k1≠k4/\k2≠k3/\k2≠k4/\k3≠k4)
  (h1:RowP N n G.atom 105 2 r.keep vk k1) (h2:RowP N n G.atom 105 2 r.remove vr k2) (h3:RowP N n G.goal 46 3 r.guard vg k3) (h4:RowP N n G.goal 46 3 r.body vb k4) :
  Pack n (tau4 n k1 k2 k3 k4) (A++N) (A++layW r)/\Pk n (tau4 n k1 k2 k3 k4) (A++layW r) (.agg [.v (.string r.name),vk,vr,vg,vb,.i 0]) (Q9 n r):=by
 have hl:(A++layW r).length=n+4:=by rw[QvO,hn];rfl
 have t0:tau4 n k1 k2 k3 k4 n=n+k1:=by unfold tau4;rw[QvU (by omega),QvY rfl]
 have t1:tau4 n k1 k2 k3 k4 (n+1)=n+k2:=by unfold tau4;rw[QvU (by omega),QvU (by omega),QvY rfl]
 have t2:tau4 n k1 k2 k3 k4 (n+2)=n+k3:=by unfold tau4;rw[QvU (by omega),QvU (by omega),QvU (by omega),QvY rfl]
 have t3:tau4 n k1 k2 k3 k4 (n+3)=n+k4:=by unfold tau4;rw[QvU (by omega),QvU (by omega),QvU (by omega),QvU (by omega)]
 have four:∀i,n<=i->i<(A++layW r).length->i=n\/i=n+1\/i=n+2\/i=n+3:=fun i q1 q2=>by omega
 refine⟨⟨by omega,by rw[QvO];omega,fun i hi=>QvY hi,fun i hi=>?_,fun i b hi h=>?_,fun i q1 q2=>?_,fun i j q1 q2 q3 q4 he=>?_,fun i b q1 q2=>?_⟩,.agg rfl fun j a a' e1 e2=>?_⟩
 ·rw[QvP (by omega),QvP (by omega)]
 ·rw[QvP (by omega)]at h
  exact hb b (Qv3 h)
 ·rcases four i q1 q2 with rfl|rfl|rfl|rfl
  ·omega
  ·omega
  ·omega
  ·omega
 ·rcases four i q1 q2 with rfl|rfl|rfl|rfl <;> rcases four j q3 q4 with rfl|rfl|rfl|rfl <;> simp only[t0,t1,t2,t3]at he <;> omega
 ·have hlt:=Qe q2
  rcases four i q1 hlt with rfl|rfl|rfl|rfl
  ·rw[QvR (by omega),hn,Qwm]at q2
   cases q2
   exact QeI hn Qbp h1 t0
  ·rw[QvR (by omega),hn,Qwf]at q2
   cases q2
   exact QeI hn Qbp h2 t1
  ·rw[QvR (by omega),hn,Qwf]at q2
   cases q2
   exact QeI hn Qbx h3 t2
  ·rw[QvR (by omega),hn,Qwf]at q2
   cases q2
   exact QeI hn Qbx h4 t3
 ·match j,e1,e2 with
  |0,e1,e2=>cases e1;cases e2;exact .keep (.v _)
  |1,e1,e2=>cases e1;cases e2;exact rowP_val h1 t0 (by omega) (by omega)
  |2,e1,e2=>cases e1;cases e2;exact rowP_val h2 t1 (by omega) (by omega)
  |3,e1,e2=>cases e1;cases e2;exact rowP_val h3 t2 (by omega) (by omega)
  |4,e1,e2=>cases e1;cases e2;exact rowP_val h4 t3 (by omega) (by omega)
  |5,e1,e2=>cases e1;cases e2;exact .keep (.v _)
  |j+6,e1,e2=>simp at e1
def c1ok(y:AV):Prop:=y.cells=[y]/\y.isAgg=false/\y.cell1=true
def errW(v:AV):Prop:=∃x a b c d,v = .agg [.v (.string x),a,b,c,d,.i 0]/\c1ok a/\c1ok b/\c1ok c/\c1ok d
def PtQ(h:AH)(i g:Nat)(all:List Tk):PR Rl->AOut->AH->Prop
 | .ok r s,o,h'=>o = .ret (.tup [Q9 h.length r,.b true])/\h'=rh h i g all s 0 0++layW r
 | .err p e,o,h'=>∃v s Y,errW v/\o = .ret (.tup [v,.b false])/\h'=rh h i g all s p e++Y
def PtC(h:AH)(i g:Nat)(all:List Tk):PR Rl->AOut->AH->Prop
 | .ok r s,o,h'=>∃Y vk vr vg vb k1 k2 k3 k4,(k1≠k2/\k1≠k3/\k1≠k4/\k2≠k3/\k2≠k4/\k3≠k4)/\RowP Y h.length G.atom 105 2 r.keep vk k1/\RowP Y h.length G.atom 105 2 r.remove vr k2/\RowP Y h.length G.goal 46 3 r.guard vg k3/\RowP Y h.length G.goal 46 3 r.body vb k4 /\
   o = .ret (.tup [.agg [.v (.string r.name),vk,vr,vg,vb,.i 0],.b true])/\h'=rh h i g all s 0 0++Y
 | .err p e,o,h'=>∃v s Y,errW v/\o = .ret (.tup [v,.b false])/\h'=rh h i g all s p e++Y
theorem Qp1{f:FuncId}{args:List AV}{h:AH}{i g:Nat}{all:List Tk}{s:PS}(HI:IG h i g){r:PR Rl}(C:Ql Tryz.prog f args (rh h i g all s 0 0) (PtC h i g all r)):Ql Tryz.prog f args (rh h i g all s 0 0) (PtQ h i g all r):=by
 refine Zw C fun hb0 o h' hQ=>?_
 cases r with
 |err p e=>exact .inl hQ
 |ok r s2 =>
  rw[YK]at hb0 ⊢
  obtain⟨Y,vk,vr,vg,vb,k1,k2,k3,k4,hne,h1,h2,h3,h4,rfl,rfl⟩:=hQ
  obtain⟨K,hp⟩:=Qti (YK h i g all s2 0 0) (QqT HI all s s2 hb0) hne h1 h2 h3 h4
  exact .inr ⟨_,.tup [Q9 h.length r,.b true],_,_,rfl,K,.tup rfl fun j a a' e1 e2=>(by
   match j,e1,e2 with
   |0,e1,e2=>cases e1;cases e2;exact hp
   |1,e1,e2=>cases e1;cases e2;exact .keep (.v _)
   |j+2,e1,e2=>simp at e1),rfl,rfl⟩
end Go.Proofs.YticgcpebdldbgaaGreatDoor.Ab
namespace Go.Proofs.YticgcpebdldbgaaGreatDoor.Ab
open Go.Proofs
abbrev cR0:AB:=.cells 40 6 [.agg [.v (.string {data:=#[]}),.v (.slice none 0 0),.v (.slice none 0 0),.v (.slice none 0 0),.v (.slice none 0 0),.i 0]]
abbrev cRl(x:ByteArray)(k r g b:AV):AB:=.cells 40 6 [.agg [.v (.string x),k,r,g,b,.i 0]]
def RowY(Y:AH)(b:Nat)(vw:G->AV)(ty w:Nat)(l:List G)(v:AV)(k:Nat):Prop:=(l=[]/\v=nilV)\/(l≠[]/\v = .arr (b+(k+3)) 0 l.length/\Y[k]? = some (.cells ty w (vs vw l)))
theorem RowY.up{Y:AH}{b:Nat}{vw:G->AV}{ty w:Nat}{l:List G}{v:AV}{k:Nat}(h:RowY Y b vw ty w l v k)(A B C:AB):RowP (A::B::C::Y) b vw ty w l v (k+3):=h
theorem RowY.ext{Y:AH}{b:Nat}{vw:G->AV}{ty w:Nat}{l:List G}{v:AV}{k:Nat}(h:RowY Y b vw ty w l v k)(Z:AH):RowY (Y++Z) b vw ty w l v k:=by
 rcases h with h|⟨h1,h2,h3⟩
 ·exact .inl h
 ·exact .inr ⟨h1,h2,by rw[QvP (Qe h3)];exact h3⟩
theorem RowY.cell{Y:AH}{b:Nat}{vw:G->AV}{ty w:Nat}{l:List G}{v:AV}{k:Nat}(h:RowY Y b vw ty w l v k):v.cells=[v]/\v.isAgg=false/\v.cell1=true:=by
 rcases h with⟨_,rfl⟩|⟨_,rfl,_⟩
 ·exact⟨rfl,rfl,rfl⟩
 ·exact⟨rfl,rfl,rfl⟩
theorem RowY.nil(Y:AH)(b:Nat)(vw:G->AV)(ty w k:Nat):RowY Y b vw ty w [] nilV k:=.inl ⟨rfl,rfl⟩
theorem RowY.new(Y:AH)(b:Nat)(vw:G->AV)(ty w:Nat){l:List G}(hl:l≠[])(Z:AH):RowY (Y++(.cells ty w (vs vw l)::Z)) b vw ty w l (.arr (b+(Y.length+3)) 0 l.length) Y.length:=.inr ⟨hl,rfl,by rw[QvR (QvV _),Qwm];rfl⟩
def Qni(b:List G):List G:=match b with|[y]=>if y.op=1 then[]else b|_=>b
def tFin(x:ByteArray)(keep remove g b:List G)(s:PS):PR Rl:=(Xc sDot s).bind fun _ s=>.ok ⟨x,keep,remove,g,Qni b,0⟩ s
theorem QpW(x:ByteArray)(keep remove:List G)(s:PS):YP x keep remove s=(Xt 12 s).bind fun b s=>if s.is sBar then(Xt 12 s.nx).bind fun b2 s=>tFin x keep remove b b2 s else tFin x keep remove [] b s:=rfl
theorem Qi0{most:Nat}{s:PS}{a:List G}{s2:PS}(h:Xt most s = .ok a s2):a≠[]:=by
 have:=(QaT most _ [] s a s2 (fun _ h=>(Qv7 h).elim) h).2.2
 intro e
 rw[e]at this
 simp at this
theorem Qbu(x:ByteArray)(a b c d:AV)(ha:c1ok a)(hb:c1ok b)(hc:c1ok c)(hd:c1ok d):errW (.agg [.v (.string x),a,b,c,d,.i 0]):=⟨x,a,b,c,d,rfl,ha,hb,hc,hd⟩
section
variable{all:List Tk}{i g:Nat}(hN:all.length<=1000000)(hD:TkOk all)(hX:TxOk all)
include hN hD hX
section
variable{q:PS}(hW:Wst all q){h:AH}(HI:IG h i g)(L:AH)
include hW HI
theorem QjD(pre:Nat)(hpre:pre<=100){l:List G}{s2:PS}(e:XI pre q = .ok l s2){k:Nat}(hk:k=h.length+L.length):Ql Tryz.prog 78 [.ptr i 0 0,.i (pre:Nat)] (rh h i g all q 0 0++L) fun o h'=>o = .ret (.tup [.arr k 0 l.length,.b true])/\h'=rh h i g all s2 0 0++(L++[.cells 105 2 (vs G.atom l)]):=by
 have:=QeK (HI.app L) Qbp.1 Qbp.2 (Qhd hN hD hX pre hpre hW (HI.app L))
 rw[e,Qch HI]at this
 subst hk
 exact this.mono fun o h' q=>by simpa only[RwQ,Qch HI,QvO,QvS]using q
theorem Qhc(pre:Nat)(hpre:pre<=100){p c:Int}(e:XI pre q = .err p c):Ql Tryz.prog 78 [.ptr i 0 0,.i (pre:Nat)] (rh h i g all q 0 0++L) fun o h'=>o = .ret (.tup [.v (.slice none 0 0),.b false])/\∃s:PS,h'=rh h i g all s p c++L:=by
 have:=QeK (HI.app L) Qbp.1 Qbp.2 (Qhd hN hD hX pre hpre hW (HI.app L))
 rw[e,Qch HI]at this
 exact this.mono fun o h' q=>by simpa only[RwQ,Qch HI]using q
theorem QjC(most:Nat)(hm:most<=100){l:List G}{s2:PS}(e:Xt most q = .ok l s2){k:Nat}(hk:k=h.length+L.length):Ql Tryz.prog 32 [.ptr i 0 0,.i (most:Nat)] (rh h i g all q 0 0++L) fun o h'=>o = .ret (.tup [.arr k 0 l.length,.b true])/\h'=rh h i g all s2 0 0++(L++[.cells 46 3 (vs G.goal l)]):=by
 have:=QeK (HI.app L) Qbx.1 Qbx.2 (Qhb hN hD hX most hm hW (HI.app L))
 rw[e,Qch HI]at this
 subst hk
 exact this.mono fun o h' q=>by simpa only[RwQ,Qch HI,QvO,QvS]using q
theorem Qha(most:Nat)(hm:most<=100){p c:Int}(e:Xt most q = .err p c):Ql Tryz.prog 32 [.ptr i 0 0,.i (most:Nat)] (rh h i g all q 0 0++L) fun o h'=>o = .ret (.tup [.v (.slice none 0 0),.b false])/\∃s:PS,h'=rh h i g all s p c++L:=by
 have:=QeK (HI.app L) Qbx.1 Qbx.2 (Qhb hN hD hX most hm hW (HI.app L))
 rw[e,Qch HI]at this
 exact this.mono fun o h' q=>by simpa only[RwQ,Qch HI]using q
end
theorem Qos{q:PS}(hW:Wst all q){h:AH}(HI:IG h i g):Ql Tryz.prog 57 [.ptr i 0 0] (rh h i g all q 0 0) (PtC h i g all (Yh q)):=by
 have f1:=YK h i g all
 have f3:=Qa5 h i g all
 have f4:=Qc6 h i g all
 have f5:=ZX h i g all
 have f6:=Qa4 h i g all
 have ct:=Qel hW HI
 have e1:=Tk.Qt5 q.tk
 have e2:=Tk.Qt6 q.tk
 have k1:=Tk.Qt5 q.nx.tk
 have k2:=Tk.Qt6 q.nx.tk
 have e64:(ByteArray.toList {data:=#[64]})=sAt:=by rw[Lib.toList_data];rfl
 obtain⟨d1,d2⟩:=Qhk hW
 obtain⟨d3,d4⟩:=Qhk hW.nx
 have fi:∀L:AH,(rh h i g all q 0 0++L)[i]? = some (.cells 69 5 [.agg [.sl 3 (tks all) none,.i ((all.length - q.toks.length:Nat):Int),.sl 1 (strs q.names) (some g),.i 0,.i 0]]):=Qp6 HI.il HI.ig all q 0 0
 obtain⟨c,hc⟩:∃c:Bool,c=((q.tk.kind==1)&&((q.nx.tk.kind==4)&&(q.nx.tk.text.toList==ByteArray.toList {data:=#[64]}))):=⟨_,rfl⟩
 have hcs:c=true↔(q.tk.kind=1/\q.nx.is sAt=true):=by
  rw[hc,e64,PS.is];simp
 have hcase:(c=false)\/(c=true/\∃p e,YE q = .err p e)\/(c=true/\∃x s1,YE q = .ok x s1):=by
  cases c with
  |false=>exact .inl rfl
  |true =>
   cases hp:YE q with
   |err p e=>exact .inr (.inl ⟨rfl,p,e,rfl⟩)
   |ok x s1=>exact .inr (.inr ⟨rfl,x,s1,rfl⟩)
 obtain⟨x,s1,hx⟩:∃(x:ByteArray) (s1:PS),(c=false->x=eB/\s1=q)/\(∀y z,c=true->YE q = .ok y z->x=y/\s1=z.nx):=by
  cases c with
  |false=>exact⟨eB,q,fun _=>⟨rfl,rfl⟩,fun _ _ h=>(by cases h)⟩
  |true =>
   cases hp:YE q with
   |err p e=>exact⟨eB,q,fun h=>(by cases h),fun y z _ h2=>(by cases h2)⟩
   |ok y z=>exact⟨y,z.nx,fun h=>(by cases h),fun y2 z2 _ h2=>(by cases h2;exact⟨rfl,rfl⟩)⟩
 obtain⟨N0,hN0⟩:∃N0:Prop,N0=¬(c=true/\∃p e,YE q = .err p e):=⟨_,rfl⟩
 have hbody:N0->Yh q=Qjq x s1/\Wst all s1:=fun hn=>by
  rw[hN0]at hn
  rcases hcase with h0|⟨h0,p,e,h1⟩|⟨h0,y,z,h1⟩
  ·obtain⟨rfl,rfl⟩:=hx.1 h0
   rw[QaD,QvU (fun hh=>by rw[hcs.2 hh]at h0;cases h0)]
   exact⟨rfl,hW⟩
  ·exact absurd ⟨h0,p,e,h1⟩ hn
  ·obtain⟨rfl,rfl⟩:=hx.2 y z h0 h1
   rw[QaD,QvY (hcs.1 h0),h1]
   exact⟨rfl,(Kp.Ps.ok (n:=wdOf all) (Kp.name_ps trivial) hW h1).nx⟩
 generalize hR:Yh q=R at *
 refine Qa Tryz.func57 rfl Tryz.call57 Tryz.ntmps57 Tryz.results57 (by simp) ?_
 iterate 4 (try (first|(((with_reducible refine Qf fun K E hK hE=>?_));simp only[go_sem,seval,f1,f4,f6])|((with_reducible refine hK _ ?_);clear hK)))
 refine Qt (fun s=>N0/\s.tm 0 = .ptr i 0 0/\s.tm 2 = .ptr h.length 0 0/\s.tm 4 = .ptr (h.length+1) 0 0/\s.h=rh h i g all s1 0 0++[cR0,cRl x nilV nilV nilV nilV,.cells 54 3 [q.tk.av]]) ?_ ?_
 ·rintro⟨tm,hp⟩ ⟨hn,t0,t2,t4,rfl⟩
  dsimp only at t0 t2 t4
  obtain⟨hRb,hW1⟩:=hbody hn
  rw[Qjq]at hRb
  cases hh:XI 0 s1 with
  |err p e =>
   have hRR:R = .err p e:=by rw[hRb,hh];rfl
   subst hRR
   have ch:=fun L=>Qhc hN hD hX hW1 HI L 0 (by omega) hh
   simp only[QvJ]at ch
   repeat first|(first|refine FunW.retE (FunW.call (ch _)) fun r=>?_|refine Qb ?_);simp only[go_sem,seval,f3,f4,f5,t0,t2,t4]|refine hK _ ?_;clear hK
   exact .inr ⟨_,_,_,Qbu _ _ _ _ _ ⟨rfl,rfl,rfl⟩ ⟨rfl,rfl,rfl⟩ ⟨rfl,rfl,rfl⟩ ⟨rfl,rfl,rfl⟩,rfl,rfl⟩
  |ok first s2 =>
   have hRr:R=QmA x first s2:=by rw[hRb,hh];rfl
   have hW2:Wst all s2:=Kp.Ps.ok (n:=wdOf all) (Kp.heads_ps trivial 0) hW1 hh
   obtain⟨_,hf4,hf0⟩:=Qay hh
   have hfn:first≠[]:=QwE.1 hf0
   have ch:=fun(a b c:AB)=>QjD hN hD hX hW1 HI [a,b,c] 0 (by omega) hh (k:=h.length+3) rfl
   simp only[QvJ]at ch
   iterate 10 (try (first|((first|(with_reducible (first|refine Qf fun K E hK hE=>?_|refine FunW.Qt4 (ch _ _ _) ?_)));simp only[go_sem,seval,t0])|(with_reducible (first|refine Qn fun K hK=>?_|refine QG ?_|refine Qi ?_))|((with_reducible refine hK _ ?_);clear hK)|(refine Qm rfl ?_;simp only[↓reduceIte,Qu1])))
   refine Qt (fun s=>∃(keep remove:List G) (vk vr:AV) (k1 k2:Nat) (s3:PS) (Y:AH),(YP x keep remove s3.nx=R/\Wst all s3/\s3.tk.kind≠0)/\(k1≠k2/\(k1<Y.length\/Y.length+10<=k1)/\(k2<Y.length\/Y.length+10<=k2))/\RowY Y h.length G.atom 105 2 keep vk k1/\RowY Y h.length G.atom 105 2 remove vr k2 /\
    s.tm 0 = .ptr i 0 0/\s.tm 2 = .ptr h.length 0 0/\s.tm 4 = .ptr (h.length+1) 0 0/\s.h=rh h i g all s3 0 0++(cR0::cRl x vk vr nilV nilV :: .cells 54 3 [q.tk.av]::Y)) ?_ ?_
   ·rintro⟨tm,hp⟩ ⟨keep,remove,vk,vr,k1,k2,s3,Y,⟨hRt,hW3,hk3⟩,hkk,hvk,hvr,t0,t2,t4,rfl⟩
    dsimp only at t0 t2 t4
    obtain⟨ck1,ck2,ck3⟩:=hvk.cell
    obtain⟨cr1,cr2,cr3⟩:=hvr.cell
    have cx:=QaH hN hW3 HI
    have e12:((12:Nat):Int)=12:=rfl
    rw[QpW]at hRt
    cases hg:Xt 12 s3.nx with
    |err p e =>
     rw[hg]at hRt
     have hRR:R = .err p e:=hRt.symm
     subst hRR
     have cg:=fun L=>Qha hN hD hX hW3.nx HI L 12 (by omega) hg
     simp only[e12]at cg
     repeat first|(first|refine FunW.Qt4 (cx _) ?_|refine FunW.retE (FunW.call (cg _)) fun r=>?_|refine Qb ?_);simp only[go_sem,seval,f3,f4,f5,f6,t0,t2,t4,ck3,cr3]|refine hK _ ?_;clear hK
     exact .inr ⟨_,_,_,Qbu _ _ _ _ _ hvk.cell hvr.cell ⟨rfl,rfl,rfl⟩ ⟨rfl,rfl,rfl⟩,rfl,rfl⟩
    |ok b s4 =>
     rw[hg]at hRt
     have hRt2:(if s4.is sBar then(Xt 12 s4.nx).bind fun b2 s=>tFin x keep remove b b2 s else tFin x keep remove [] b s4)=R:=hRt
     have hW4:Wst all s4:=Kp.Ps.ok (n:=wdOf all) (Kp.goals_ps trivial 12) hW3.nx hg
     have hbn:=Qi0 hg
     have hb12:=(Qaw hg).2
     have cg:=fun(a1 a2 a3:AB)=>QjC hN hD hX hW3.nx HI (a1::a2::a3::Y) 12 (by omega) hg (k:=h.length+(Y.length+3)) rfl
     simp only[e12]at cg
     iterate 6 (try (first|((first|(with_reducible (first|refine Qf fun K E hK hE=>?_|refine FunW.Qt4 (cx _) ?_|refine FunW.Qt4 (cg _ _ _) ?_)));simp only[go_sem,seval,f4,f6,t0,t4])|((with_reducible refine hK _ ?_);clear hK)))
     refine Qt (fun s=>s.tm 0 = .ptr i 0 0/\s.tm 2 = .ptr h.length 0 0/\s.tm 4 = .ptr (h.length+1) 0 0/\((∃(p e:Int) (s5:PS) (Z:AH) (vg vb:AV),R = .err p e/\c1ok vg/\c1ok vb/\s.tm 9 = .b false/\s.h=rh h i g all s5 p e++(cR0::cRl x vk vr vg vb :: .cells 54 3 [q.tk.av]::Z)) \/
      (∃(gd bd:List G) (vg vb:AV) (k3 k4:Nat) (s5:PS) (Z:AH),tFin x keep remove gd bd s5=R/\Wst all s5/\(k1≠k2/\k1≠k3/\k1≠k4/\k2≠k3/\k2≠k4/\k3≠k4)/\RowY Z h.length G.atom 105 2 keep vk k1/\RowY Z h.length G.atom 105 2 remove vr k2/\RowY Z h.length G.goal 46 3 gd vg k3/\bd≠[]/\vb = .arr (h.length+(k4+3)) 0 bd.length/\Z[k4]? = some (.cells 46 3 (vs G.goal bd))/\s.tm 9 = .b true/\s.h=rh h i g all s5 0 0++(cR0::cRl x vk vr vg vb :: .cells 54 3 [q.tk.av]::Z)))) ?_ ?_
     ·rintro⟨tm,hp⟩ ⟨t0,t2,t4,hh3⟩
      rcases hh3 with⟨p,e,s5,Z,vg,vb,hRR,cg1,cb1,t9,rfl⟩|⟨gd,bd,vg,vb,k3,k4,s5,Z,hRF,hW5,hne,q1,q2,q3,hbd,hvb,hZ,t9,rfl⟩
      ·subst hRR
       dsimp only at t0 t2 t4 t9
       repeat first|refine Qb ?_;simp only[go_sem,seval,f3,f4,f5,t2,t4,t9,ck3,cr3,cg1.2.2,cb1.2.2]|refine hK _ ?_;clear hK
       exact .inr ⟨_,_,_,Qbu _ _ _ _ _ hvk.cell hvr.cell cg1 cb1,rfl,rfl⟩
      ·dsimp only at t0 t2 t4 t9
       obtain⟨cg1,cg2,cg3⟩:=q3.cell
       subst hvb
       have e46:(ByteArray.toList {data:=#[46]})=sDot:=by rw[Lib.toList_data];rfl
       have cw:=fun L=>QjI hN hW5 HI L {data:=#[46]}
       rw[e46]at cw
       have hwi:=QbS sDot s5
       rw[tFin]at hRF
       cases hwt:Xc sDot s5 with
       |err p e =>
        rw[hwt]at hwi hRF
        have hRR:R = .err p e:=hRF.symm
        subst hRR
        obtain⟨i1,i2,i3⟩:=hwi
        have zz:((YI sDot s5).e==0)=false:=by rw[i2];simpa using i3
        rw[zz,i1,i2]at cw
        repeat first|(first|refine FunW.Qt4 (cw _) ?_|refine Qb ?_);simp only[go_sem,seval,f3,f4,f5,t0,t2,t4,t9,ck3,cr3,cg3]|refine hK _ ?_;clear hK
        exact .inr ⟨_,_,_,Qbu _ _ _ _ _ hvk.cell hvr.cell q3.cell ⟨rfl,rfl,rfl⟩,rfl,rfl⟩
       |ok u s6 =>
        rw[hwt]at hwi hRF
        have hq6:=RR.okE hwi
        rw[hq6]at cw
        have y4:∀A B C:AB,(A::B::C::Z)[k4+3]? = some (.cells 46 3 (vs G.goal bd)):=fun A B C=>hZ
        have fin:∀(bd2:List G) (vb:AV),Qni bd=bd2->(∀A B:AB,RowP (A::B :: .cells 54 3 [q.tk.av]::Z) h.length G.goal 46 3 bd2 vb (k4+3)) ->
          ∀B:AB,PtC h i g all R (.ret (.tup [.agg [.v (.string x),vk,vr,vg,vb,.i 0],.b true])) (rh h i g all s6 0 0++(.cells 40 6 [.agg [.v (.string x),vk,vr,vg,vb,.i 0]]::B :: .cells 54 3 [q.tk.av]::Z)):=fun bd2 vb e1 e2 B=>by
         have hRR:R = .ok ⟨x,keep,remove,gd,bd2,0⟩ s6:=by rw[<-hRF,<-e1];rfl
         rw[hRR]
         exact⟨_,vk,vr,vg,vb,k1+3,k2+3,k3+3,k4+3,⟨by omega,by omega,by omega,by omega,by omega,by omega⟩,q1.up _ _ _,q2.up _ _ _,q3.up _ _ _,e2 _ B,rfl,rfl⟩
        have hrowb:∀A B C:AB,RowP (A::B::C::Z) h.length G.goal 46 3 bd (.arr (h.length+(k4+3)) 0 bd.length) (k4+3):=fun A B C=>.inr ⟨hbd,rfl,hZ⟩
        have hcs3:(bd.length≠1/\Qni bd=bd)\/∃y,bd=[y]:=by
         rcases bd with _|⟨y,_|⟨y2,l2⟩⟩
         ·exact absurd rfl hbd
         ·exact .inr ⟨y,rfl⟩
         ·exact .inl ⟨by simp,rfl⟩
        rcases hcs3 with⟨hb1,hb2⟩|⟨y,rfl⟩
        ·have z1:(((bd.length:Nat):Int)==1)=false:=by simp;omega
         repeat first|(first|refine FunW.Qt4 (cw _) ?_|refine Qb ?_);simp only[go_sem,seval,f3,f4,f5,t0,t2,t4,t9,ck3,cr3,cg3,y4,z1]|refine hK _ ?_;clear hK
         exact .inr (fin _ _ hb2 (fun _ _=>hrowb _ _ _) _)
        ·have v0:(vs G.goal [y])[0]? = some y.goal:=rfl
         have v1:=G.Qur y
         have v2:y.goal.isAgg=true:=rfl
         have n1:((1:Nat):Int)=1:=rfl
         have n2:(0:Int)<1:=by decide
         by_cases hop:y.op=1
         ·have z2:(y.op==1)=true:=by simpa using hop
          repeat first|(first|refine FunW.Qt4 (cw _) ?_|refine Qb ?_);simp only[go_sem,seval,f3,f4,f5,f6,t0,t2,t4,t9,ck3,cr3,cg3,y4,v0,v1,n1,n2,z2]|refine hK _ ?_;clear hK
          exact .inr (fin [] _ (by unfold Qni;simp only[QvY hop]) (fun _ _=>.inl ⟨rfl,rfl⟩) _)
         ·have z2:(y.op==1)=false:=by simpa using hop
          repeat first|(first|refine FunW.Qt4 (cw _) ?_|refine Qb ?_);simp only[go_sem,seval,f3,f4,f5,t0,t2,t4,t9,ck3,cr3,cg3,y4,v0,v1,n1,n2,z2]|refine hK _ ?_;clear hK
          exact .inr (fin [y] _ (by unfold Qni;simp only[QvU hop]) (fun _ _=>hrowb _ _ _) _)
     ·have e124:(ByteArray.toList {data:=#[124]})=sBar:=by rw[Lib.toList_data];rfl
      have c5:=fun L=>risL hW4 HI L {data:=#[124]}
      rw[e124]at c5
      obtain⟨hk1,hk2,hk3n⟩:=hkk
      cases hbar:s4.is sBar with
      |false =>
       rw[QvU (by rw[hbar];simp)]at hRt2
       rw[hbar]at c5
       repeat first|(first|refine FunW.Qt4 (c5 _) ?_|refine Qb ?_);simp only[go_sem,seval,t0]|refine hK _ ?_;clear hK
       exact⟨t0,t2,t4,.inr ⟨[],b,nilV,_,Y.length+1,Y.length,s4,Y++[_],hRt2,hW4,⟨hk1,by omega,by omega,by omega,by omega,by omega⟩,hvk.ext _,hvr.ext _,RowY.nil _ _ _ _ _ _,hbn,rfl,by rw[QvR (QvV _),Qwm];rfl,rfl,rfl⟩⟩
      |true =>
       rw[QvY hbar]at hRt2
       rw[hbar]at c5
       have cx4:=QaH hN hW4 HI
       cases hg2:Xt 12 s4.nx with
       |err p e =>
        have hRR:R = .err p e:=by rw[<-hRt2,hg2];rfl
        have cg2:=fun L=>Qha hN hD hX hW4.nx HI L 12 (by omega) hg2
        simp only[e12]at cg2
        repeat first|(first|refine FunW.Qt4 (c5 _) ?_|refine FunW.Qt4 (cx4 _) ?_|refine FunW.retE (FunW.call (cg2 _)) fun r=>?_|refine Qb ?_);simp only[go_sem,seval,f4,f6,t0,t4]|refine hK _ ?_;clear hK
        exact⟨t0,t2,t4,.inl ⟨p,e,r,_,_,_,hRR,⟨rfl,rfl,rfl⟩,⟨rfl,rfl,rfl⟩,rfl,rfl⟩⟩
       |ok b2 s6 =>
        have hRR:tFin x keep remove b b2 s6=R:=by rw[<-hRt2,hg2];rfl
        have hW6:Wst all s6:=Kp.Ps.ok (n:=wdOf all) (Kp.goals_ps trivial 12) hW4.nx hg2
        have cg2:=fun(a1 a2 a3 a4:AB)=>QjC hN hD hX hW4.nx HI (a1::a2::a3::(Y++[a4])) 12 (by omega) hg2 (k:=h.length+(Y.length+1+3)) (by simp only[Qva,QvO,Qvb])
        simp only[e12,Qvp,QvS,Qvo]at cg2
        repeat first|(first|refine FunW.Qt4 (c5 _) ?_|refine FunW.Qt4 (cx4 _) ?_|refine FunW.Qt4 (cg2 _ _ _ _) ?_|refine Qb ?_);simp only[go_sem,seval,f4,f6,t0,t4]|refine hK _ ?_;clear hK
        exact⟨t0,t2,t4,.inr ⟨b,b2,_,_,Y.length,Y.length+1,s6,Y++[_,_],hRR,hW6,⟨hk1,by omega,by omega,by omega,by omega,by omega⟩,hvk.ext _,hvr.ext _,.inr ⟨hbn,rfl,by rw[QvR (QvV _),Qwm];rfl⟩,Qi0 hg2,rfl,by rw[QvR (by omega),Qwf];rfl,rfl,rfl⟩⟩
   ·have e1s:(ByteArray.toList {data:=#[60,61,62]})=ZY:=by rw[Lib.toList_data];rfl
    have e2s:(ByteArray.toList {data:=#[61,61,62]})=Qen:=by rw[Lib.toList_data];rfl
    have e3s:(ByteArray.toList {data:=#[92]})=Qem:=by rw[Lib.toList_data];rfl
    have c1:=fun L=>risL hW2 HI L {data:=#[60,61,62]}
    have c2:=fun L=>risL hW2 HI L {data:=#[61,61,62]}
    have c3:=fun L=>risL hW2 HI L {data:=#[92]}
    rw[e1s]at c1
    rw[e2s]at c2
    rw[e3s]at c3
    rw[QmA]at hRr
    cases hs1:s2.is ZY with
    |true =>
     rw[QvY hs1]at hRr
     rw[hs1]at c1
     repeat first|(first|refine FunW.Qt4 (c1 _) ?_|refine Qb ?_);simp only[go_sem,seval,f4,f6,t0,t4]|refine hK _ ?_;clear hK
     exact⟨[],first,nilV,_,11,0,s2,[_],⟨hRr.symm,hW2,by rw[Qt7 hs1];decide⟩,⟨by decide,.inr (QvV _),.inl (Qxp _)⟩,RowY.nil _ _ _ _ _ _,.inr ⟨hfn,rfl,rfl⟩,t0,t2,t4,rfl⟩
    |false =>
     rw[QvU (by rw[hs1];simp)]at hRr
     rw[hs1]at c1
     cases hs2:s2.is Qen with
     |true =>
      rw[QvY hs2]at hRr
      rw[hs2]at c2
      repeat first|(first|refine FunW.Qt4 (c1 _) ?_|refine FunW.Qt4 (c2 _) ?_|refine Qb ?_);simp only[go_sem,seval,f4,f6,t0,t4]|refine hK _ ?_;clear hK
      exact⟨first,[],_,nilV,0,11,s2,[_],⟨hRr.symm,hW2,by rw[Qt7 hs2];decide⟩,⟨by decide,.inl (Qxp _),.inr (QvV _)⟩,.inr ⟨hfn,rfl,rfl⟩,RowY.nil _ _ _ _ _ _,t0,t2,t4,rfl⟩
     |false =>
      rw[QvU (by rw[hs2];simp)]at hRr
      rw[hs2]at c2
      cases hs3:s2.is Qem with
      |false =>
       rw[QvU (by rw[hs3];simp)]at hRr
       subst hRr
       rw[hs3]at c3
       have ct2:=Qel hW2 HI
       have cf2:=QbL hW2 HI
       have m1:=Tk.Qt5 s2.tk
       have m2:=Tk.Qt6 s2.tk
       repeat first|(first|refine FunW.Qt4 (c1 _) ?_|refine FunW.Qt4 (c2 _) ?_|refine FunW.Qt4 (c3 _) ?_|refine Qb ?_);simp only[go_sem,seval,t0]|refine hK _ ?_;clear hK
       refine XL (h.length+1) 4 0 0 (by rw[f4];rfl) (by exact t4) ?_
       simp only[f6,Qvr,Qvs]
       refine Qg (id:=12) [(0,1),(1,1),(2,1),(3,2),(4,1),(5,2),(6,2),(7,0)] mixed (by kernel_rfl) fun K hK=>?_
       simp only[go_sem,seval,t0]
       repeat first|(first|refine QY (FunW.call (ct2 _)) Yo ?_|refine QY (FunW.call (cf2 _ _ _)) Yo ?_|refine Qb ?_);simp only[go_sem,seval,f3,f5,t2,m1,m2]|refine hK _ ?_;clear hK
       exact .inr ⟨_,_,_,Qbu _ _ _ _ _ ⟨rfl,rfl,rfl⟩ ⟨rfl,rfl,rfl⟩ ⟨rfl,rfl,rfl⟩ ⟨rfl,rfl,rfl⟩,rfl,rfl⟩
      |true =>
       rw[QvY hs3]at hRr
       rw[hs3]at c3
       have cx2:=QaH hN hW2 HI
       have hln2:=QR hW2.wf (by rw[Qt7 hs3];decide)
       cases hh2:XI first.length s2.nx with
       |err p e =>
        have hRR:R = .err p e:=by rw[hRr,hh2];rfl
        subst hRR
        have ch2:=fun L=>Qhc hN hD hX hW2.nx HI L first.length (by omega) hh2
        repeat first|(first|refine FunW.Qt4 (c1 _) ?_|refine FunW.Qt4 (c2 _) ?_|refine FunW.Qt4 (c3 _) ?_|refine FunW.Qt4 (cx2 _) ?_|refine FunW.retE (FunW.call (ch2 _)) fun r=>?_|refine Qb ?_);simp only[go_sem,seval,f3,f4,f5,f6,t0,t2,t4]|refine hK _ ?_;clear hK
        exact .inr ⟨_,_,_,Qbu _ _ _ _ _ ⟨rfl,rfl,rfl⟩ ⟨rfl,rfl,rfl⟩ ⟨rfl,rfl,rfl⟩ ⟨rfl,rfl,rfl⟩,rfl,rfl⟩
       |ok rem s3 =>
        have hRw:R=(Xc ZY s3).bind fun _ s=>YP x first rem s:=by rw[hRr,hh2];rfl
        have hW3:Wst all s3:=Kp.Ps.ok (n:=wdOf all) (Kp.heads_ps trivial _) hW2.nx hh2
        obtain⟨_,hr4,hr0⟩:=Qay hh2
        have hrn:rem≠[]:=QwE.1 hr0
        have ch2:=fun(a b c d:AB)=>QjD hN hD hX hW2.nx HI [a,b,c,d] first.length (by omega) hh2 (k:=h.length+4) rfl
        have c4:=fun L=>risL hW3 HI L {data:=#[60,61,62]}
        rw[e1s]at c4
        rw[Xc]at hRw
        cases hs4:s3.is ZY with
        |true =>
         rw[QvY hs4]at hRw
         rw[hs4]at c4
         repeat first|(first|refine FunW.Qt4 (c1 _) ?_|refine FunW.Qt4 (c2 _) ?_|refine FunW.Qt4 (c3 _) ?_|refine FunW.Qt4 (cx2 _) ?_|refine FunW.Qt4 (ch2 _ _ _ _) ?_|refine FunW.Qt4 (c4 _) ?_|refine Qb ?_);simp only[go_sem,seval,f4,f6,t0,t4]|refine hK _ ?_;clear hK
         exact⟨first,rem,_,_,0,1,s3,[_,_],⟨hRw.symm,hW3,by rw[Qt7 hs4];decide⟩,⟨by decide,.inl (by show 0<2;decide),.inl (by show 1<2;decide)⟩,.inr ⟨hfn,rfl,rfl⟩,.inr ⟨hrn,rfl,rfl⟩,t0,t2,t4,rfl⟩
        |false =>
         rw[QvU (by rw[hs4];simp)]at hRw
         subst hRw
         rw[hs4]at c4
         have ct3:=Qel hW3 HI
         have cf3:=QbL hW3 HI
         have m1:=Tk.Qt5 s3.tk
         have m2:=Tk.Qt6 s3.tk
         repeat first|(first|refine FunW.Qt4 (c1 _) ?_|refine FunW.Qt4 (c2 _) ?_|refine FunW.Qt4 (c3 _) ?_|refine FunW.Qt4 (cx2 _) ?_|refine FunW.Qt4 (ch2 _ _ _ _) ?_|refine FunW.Qt4 (c4 _) ?_|refine Qb ?_);simp only[go_sem,seval,f4,f6,t0,t4]|refine hK _ ?_;clear hK
         refine XL (h.length+1) 4 0 0 (by rw[f4];rfl) (by exact t4) ?_
         simp only[f6,Qvr,Qvs]
         refine Qg (id:=24) [(0,1),(1,1),(2,1),(3,2),(4,1),(5,2),(6,2),(7,0)] mixed (by kernel_rfl) fun K hK=>?_
         simp only[go_sem,seval,t0]
         repeat first|(first|refine QY (FunW.call (ct3 _)) Yo ?_|refine QY (FunW.call (cf3 _ _ _)) Yo ?_|refine Qb ?_);simp only[go_sem,seval,f3,f5,t2,m1,m2]|refine hK _ ?_;clear hK
         exact .inr ⟨_,_,_,Qbu _ _ _ _ _ ⟨rfl,rfl,rfl⟩ ⟨rfl,rfl,rfl⟩ ⟨rfl,rfl,rfl⟩ ⟨rfl,rfl,rfl⟩,rfl,rfl⟩
 ·iterate 3 (try (first|((first|(with_reducible (first|refine Qf fun K E hK hE=>?_|refine FunW.Qt4 (ct _) ?_)));simp only[go_sem,seval,f1,f4,f6,e1,e2])|((with_reducible refine hK _ ?_);clear hK)))
  refine Qt (fun s=>s.tm 45 = .b c/\s.tm 0 = .ptr i 0 0/\s.tm 2 = .ptr h.length 0 0/\s.tm 4 = .ptr (h.length+1) 0 0/\s.h=rh h i g all q 0 0++[cR0,cRl eB nilV nilV nilV nilV,.cells 54 3 [q.tk.av]]) ?_ ?_
  ·rintro⟨tm,hp⟩ ⟨tc,t0,t2,t4,rfl⟩
   dsimp only at tc t0 t2 t4
   have cn:=QqV hN hW HI
   have his:=QhU q
   rcases hcase with h0|⟨h0,p,e,h1⟩|⟨h0,y,z,h1⟩
   ·rw[h0]at tc
    obtain⟨rfl,rfl⟩:=hx.1 h0
    refine Qm (by exact tc) ?_
    simp only[↓reduceIte,Qu1]
    repeat first|refine Qb ?_;simp only[go_sem,seval]|refine hK _ ?_;clear hK
    exact⟨by rw[hN0,h0];simp,t0,t2,t4,rfl⟩
   ·rw[h1]at his
    have hRR:R = .err p e:=by rw[<-hR,QaD,QvY (hcs.1 h0),h1];rfl
    subst hRR
    rw[h0]at tc
    obtain⟨i1,i2,i3⟩:=his
    have zz:((Zq q).e==0)=false:=by rw[i2];simpa using i3
    rw[zz,i1,i2]at cn
    refine Qm (by exact tc) ?_
    simp only[↓reduceIte]
    repeat first|(first|refine FunW.Qt4 (cn _) ?_|refine Qb ?_);simp only[go_sem,seval,f3,f4,f5,t0,t2,t4]|refine hK _ ?_;clear hK
    exact .inr ⟨_,_,_,Qbu _ _ _ _ _ ⟨rfl,rfl,rfl⟩ ⟨rfl,rfl,rfl⟩ ⟨rfl,rfl,rfl⟩ ⟨rfl,rfl,rfl⟩,rfl,rfl⟩
   ·rw[h1]at his
    have hq:=RR.okE his
    rw[h0]at tc
    obtain⟨rfl,rfl⟩:=hx.2 y z h0 h1
    have hWz:Wst all z:=Kp.Ps.ok (n:=wdOf all) (Kp.name_ps trivial) hW h1
    have cx:=QaH hN hWz HI
    rw[hq]at cn
    refine Qm (by exact tc) ?_
    simp only[↓reduceIte]
    repeat first|(first|refine FunW.Qt4 (cn _) ?_|refine FunW.Qt4 (cx _) ?_|refine Qb ?_);simp only[go_sem,seval,f4,f6,t0,t4]|refine hK _ ?_;clear hK
    exact⟨(by rw[hN0];rintro⟨_,p,e,h2⟩;rw[h1]at h2;cases h2),t0,t2,t4,rfl⟩
  ·cases b1:(q.tk.kind==1)with
   |false =>
    have hcv:c=false:=by rw[hc,b1];rfl
    first|refine Qh (id:=3) [(0,0),(1,0),(2,0),(3,0),(4,0),(5,0),(6,0),(7,0),(8,0),(9,0),(10,0),(11,0),(12,0),(13,0),(14,0),(15,0),(16,0),(17,0),(18,0),(19,0),(20,0),(21,0),(22,0),(23,0),(24,0),(25,0),(26,0),(27,0),(28,0),(29,0),(30,0),(31,0),(32,0)] mixed (by kernel_rfl) fun K hK=>?_|refine Qg (id:=3) [(0,0),(1,0),(2,0),(3,0),(4,0),(5,0),(6,0),(7,0),(8,0),(9,0),(10,0),(11,0),(12,0),(13,0),(14,0),(15,0),(16,0),(17,0),(18,0),(19,0),(20,0),(21,0),(22,0),(23,0),(24,0),(25,0),(26,0),(27,0),(28,0),(29,0),(30,0),(31,0),(32,0)] mixed (by kernel_rfl) fun K hK=>?_
    (try simp only[Qu6]);refine Xr 8 (fun K1 hK1=>?_);simp only[go_sem,seval,f4,e1,b1];refine hK1 _ ?_;clear hK1
    (try simp only[Qu6,Qve]);refine Xr 8 (fun K1 hK1=>?_);simp only[go_sem,seval];refine hK1 _ ?_;clear hK1
    (try simp only[Qu6,Qve]);refine Xr 8 (fun K1 hK1=>?_);simp only[go_sem,seval];refine hK1 _ ?_;clear hK1
    (try simp only[Qu6,Qve])
    simp only[go_sem,seval]
    refine hK _ ?_
    rw[Qp]
    exact⟨by rw[hcv];rfl,rfl,rfl,rfl,rfl⟩
   |true =>
    have hkq:q.tk.kind=1:=by simpa using b1
    have hln:=QR hW.wf (by rw[hkq];decide)
    have hsu:=hW.suf.length_le
    have wn:IntKind.i64.wrap (((all.length - q.toks.length:Nat):Int)+1)=((all.length - q.nx.toks.length:Nat):Int):=by rw[Qz (by omega)];congr 1;omega
    cases b2:(q.nx.tk.kind==4)with
    |false =>
     have hcv:c=false:=by rw[hc,b1,b2];rfl
     first|refine Qh (id:=3) [(0,0),(1,0),(2,0),(3,0),(4,0),(5,0),(6,0),(7,0),(8,0),(9,0),(10,0),(11,0),(12,0),(13,0),(14,0),(15,0),(16,0),(17,0),(18,0),(19,0),(20,0),(21,0),(22,0),(23,0),(24,0),(25,0),(26,0),(27,0),(28,0),(29,0),(30,0),(31,0),(32,0)] mixed (by kernel_rfl) fun K hK=>?_|refine Qg (id:=3) [(0,0),(1,0),(2,0),(3,0),(4,0),(5,0),(6,0),(7,0),(8,0),(9,0),(10,0),(11,0),(12,0),(13,0),(14,0),(15,0),(16,0),(17,0),(18,0),(19,0),(20,0),(21,0),(22,0),(23,0),(24,0),(25,0),(26,0),(27,0),(28,0),(29,0),(30,0),(31,0),(32,0)] mixed (by kernel_rfl) fun K hK=>?_
     (try simp only[Qu6]);refine Xr 8 (fun K1 hK1=>?_);simp only[go_sem,seval,f4,fi,e1,b1];refine hK1 _ ?_;clear hK1
     (try simp only[Qu6,Qve]);refine Xr 8 (fun K1 hK1=>?_);simp only[go_sem,seval,fi,k1,d3,d4,Yd,wn];refine hK1 _ ?_;clear hK1
     (try simp only[Qu6,Qve]);refine Xr 8 (fun K1 hK1=>?_);simp only[go_sem,seval,b2];refine hK1 _ ?_;clear hK1
     (try simp only[Qu6,Qve])
     simp only[go_sem,seval]
     refine hK _ ?_
     rw[Qp]
     exact⟨by rw[hcv];rfl,rfl,rfl,rfl,rfl⟩
    |true =>
     have hcv:c=(q.nx.tk.text.toList==ByteArray.toList {data:=#[64]}):=by rw[hc,b1,b2];rfl
     first|refine Qh (id:=3) [(0,0),(1,0),(2,0),(3,0),(4,0),(5,0),(6,0),(7,0),(8,0),(9,0),(10,0),(11,0),(12,0),(13,0),(14,0),(15,0),(16,0),(17,0),(18,0),(19,0),(20,0),(21,0),(22,0),(23,0),(24,0),(25,0),(26,0),(27,0),(28,0),(29,0),(30,0),(31,0),(32,0)] mixed (by kernel_rfl) fun K hK=>?_|refine Qg (id:=3) [(0,0),(1,0),(2,0),(3,0),(4,0),(5,0),(6,0),(7,0),(8,0),(9,0),(10,0),(11,0),(12,0),(13,0),(14,0),(15,0),(16,0),(17,0),(18,0),(19,0),(20,0),(21,0),(22,0),(23,0),(24,0),(25,0),(26,0),(27,0),(28,0),(29,0),(30,0),(31,0),(32,0)] mixed (by kernel_rfl) fun K hK=>?_
     (try simp only[Qu6]);refine Xr 8 (fun K1 hK1=>?_);simp only[go_sem,seval,f4,fi,e1,b1];refine hK1 _ ?_;clear hK1
     (try simp only[Qu6,Qve]);refine Xr 8 (fun K1 hK1=>?_);simp only[go_sem,seval,fi,k1,d3,d4,Yd,wn];refine hK1 _ ?_;clear hK1
     (try simp only[Qu6,Qve]);refine Xr 8 (fun K1 hK1=>?_);simp only[go_sem,seval,fi,b2];refine hK1 _ ?_;clear hK1
     (try simp only[Qu6,Qve])
     simp only[go_sem,seval,fi,k1,d3,d4,Yd,wn]
     refine hK _ ?_
     rw[Qp]
     exact⟨by rw[hcv];rfl,rfl,rfl,rfl,rfl⟩
end
end Go.Proofs.YticgcpebdldbgaaGreatDoor.Ab
namespace Go.Proofs.YticgcpebdldbgaaGreatDoor.Ab
open Go.Proofs
mutual
theorem T.Que:∀(t:T),t.vars.length<=t.nds
 | .mk k i n l=>by
  simp only[T.vars,T.nds]
  split
  ·simp
  ·split
   ·have:=Qec l;omega
   ·simp
theorem Qec:∀(l:List T),(QI l).length<=ndsL l
 |[]=>by simp[QI,ndsL]
 |t::l=>by
  have h1:=T.Que t
  have h2:=Qec l
  simp only[QI,ndsL,QvO];omega
end
theorem QpB(u:List Int)(own:Option Nat)(n:Int)(hb:u.length<=1000000):Pure Tryz.prog 103 [.sl 1 (ints u) own,.i n] (.b (decide (n∈u))):=by
 intro h
 refine Qa Tryz.func103 rfl Tryz.call103 Tryz.ntmps103 Tryz.results103 (by simp) ?_
 repeat refine Qb ?_;simp only[go_sem,seval]
 obtain⟨I,hI⟩:∃I:Nat->AS->Prop,I=fun m' s=>∃j:Nat,m'=u.length - j/\j<=u.length/\(n∈u↔n∈u.drop j)/\s.tm 0 = .sl 1 (ints u) own/\s.tm 1 = .i n/\s.tm 5 = .i j/\s.h=h:=⟨_,rfl⟩;refine Qk I ?_ (m:=u.length) ?_
 ·intro m' s hs;rw[hI]at hs;obtain⟨tm,hp⟩:=s;dsimp only at hs;obtain⟨j,rfl,hj,he,t0,t1,t5,rfl⟩:=hs
  by_cases hlt:j<u.length
  ·rw[Qwb hlt,Qv5]at he
   by_cases hz:u[j]=n
   ·have hb1:(u[j]==n)=true:=by simpa using hz
    have hm:n∈u:=he.2 (.inl hz.symm)
    repeat refine Qb ?_;simp only[go_sem,seval,t0,t1,t5,hlt,QbY hlt,hb1]
    exact Qc QvT (.keep (.v _)) ⟨by rw[Qwc hm],rfl⟩
   ·have hb1:(u[j]==n)=false:=by simpa using hz
    repeat refine Qb ?_;simp only[go_sem,seval,t0,t1,t5,hlt,QbY hlt,hb1]
    refine Qs.mk (m':=u.length - (j+1)) (by omega) ?_
    rw[hI]
    refine⟨j+1,rfl,hlt,he.trans ⟨fun h=>h.elim (fun e=>absurd e.symm hz) id,.inr⟩,t0,t1,?_,rfl⟩
    simp only[upd,↓reduceIte]
    rw[Qz (by omega)]
  ·have hjl:j=u.length:=by omega
   rw[hjl,Qwq]at he
   have hm:¬n∈u:=fun h=>by simpa using he.1 h
   repeat refine Qb ?_;simp only[go_sem,seval,t0,t5,hlt]
   exact Qc QvT (.keep (.v _)) ⟨by rw[Qv6 hm],rfl⟩
 ·rw[hI]
  exact⟨0,by omega,Qv2 _,by simp,rfl,rfl,rfl,rfl⟩
theorem Qjl(t:T):ndsL t.uses<=ndsL t.args:=by
 unfold T.uses
 split
 ·exact QvV _
 ·simp[ndsL]
structure TokGr (H:Nat->AH) (m k e s:Nat):Prop where
 len:∀n,(H n).length=m
 lt:k<m
 get:∀n,(H n)[k]? = some (.grow e s n)
 set:∀n n',(H n).set k (.grow e s n')=H n'
theorem TokGr.old{H:Nat->AH}{m k e s:Nat}(V:TokGr H m k e s):∀n n' (i:Nat) b,(H n')[i]? = some b->(H n)[i]? = some b\/b.Below m:=by
 intro n n' i b hb
 rw[<-V.set n n']at hb
 by_cases hi:k=i
 ·subst hi
  rw[QvX (by rw[V.len];exact V.lt)]at hb
  cases hb
  exact .inr trivial
 ·rw[QvQ hi]at hb
  exact .inl hb
theorem Qdy{σ:Type}{H:σ->AH}{m:Nat}(hm:∀s,(H s).length=m)(hH:∀s s' (i:Nat) b,(H s')[i]? = some b->(H s)[i]? = some b\/b.Below m){s s2:σ}{L own:AH}{r r':AV}{Q:AV->AH->Prop}
  (hf:Frz (H s2++(L++own)) (m+L.length) r r') (hq:Q r' (H s2++L)):Leaves (H s++L) (H s2++(L++own)) r Q:=by
 have ht:(H s2++(L++own)).take (m+L.length)=H s2++L:=by
  rw[<-QvS,<-hm s2,<-QvO,List.take_left]
 refine .inl ⟨m+L.length,r',by rw[QvO,hm];exact QvV _,by simp[hm],.inr fun i b hb=>?_,hf,by rw[ht];exact hq⟩
 rw[ht]at hb
 rcases Qxl i m with hi|hi
 ·rw[QvP (by rw[hm];exact hi)]at hb
  rcases hH s s2 i b hb with h|h
  ·exact .inl (by rw[QvP (by rw[hm];exact hi)];exact h)
  ·exact .inr (h.mono (by omega))
 ·rw[QvR (by rw[hm];exact hi),hm]at hb
  exact .inl (by rw[QvR (by rw[hm];exact hi),hm];exact hb)
theorem T.QuR(t:T):t.vars=if t.kind=1 then[t.int]else QI t.uses:=by
 cases t with|mk k i n l =>
 show T.vars (.mk k i n l)=if k=1 then[i]else QI (if k=2 then l else[])
 simp only[T.vars]
 by_cases h1:k=1
 ·rw[QvY h1,QvY h1]
 ·rw[QvU h1,QvU h1]
  by_cases h2:k=2
  ·rw[QvY h2,QvY h2]
  ·rw[QvU h2,QvU h2];rfl
theorem Qa2{H:Nat->AH}{m k:Nat}(V:TokGr H m k 3 1):∀n,n<=1000000->∀(t:T) (u:List Int) (L:AH),t.nds<=n->u.length+t.nds<=1000000 ->
  Ql Tryz.prog 89 [.sl 1 (ints u) (some k),t.av] (H u.length++L) fun o h'=>o = .ret (.sl 1 (ints (ded u t.vars)) (some k))/\h'=H (ded u t.vars).length++L
 |0,_,t,_,_,hn,_=>by have:=T.Quh t;omega
 |n+1,hb,t,u,L,hn,hu=>by
  have e:=T.QuR t
  have hnd:=T.Quh t
  have hm:=V.len
  have gk:∀(n:Nat) (L:AH) (k:Nat),(H n++L)[m+k]? = L[k]? := fun u L k=>by rw[<-hm u];exact hget _ _ _
  have sk:∀(n:Nat) (L:AH) (k:Nat) (b:AB),(H n++L).set (m+k) b=H n++L.set k b:=fun u L k b=>by rw[<-hm u];exact hset _ _ _ _
  have gt:∀(n:Nat) (L:AH),(H n++L)[k]? = some (.grow 3 1 n):=fun n L=>by rw[QvP (by rw[hm];exact V.lt)];exact V.get n
  have st:∀(n n':Nat) (L:AH),(H n++L).set k (.grow 3 1 n')=H n'++L:=fun n n' L=>by rw[Qv1 _ _ (by rw[hm];exact V.lt),V.set]
  have ca:=QbK t
  have ch:=QpB u (some k) t.int (by omega)
  have hlu:=XK t.uses
  have hul:=Qjl t
  by_cases h1:t.kind=1
  ·have b1:(t.kind==1)=true:=by simpa using h1
   have hus:t.uses=[]:=by unfold T.uses;rw[QvU (by omega)]
   rw[QvY h1]at e
   by_cases hmem:t.int∈u
   ·have hed:ded u t.vars=ded u (QI (t.uses.drop 0)):=by rw[e,hus];exact QvY hmem
    have hlen':u.length+ndsL (t.uses.drop 0)<=1000000:=by rw[Qve];omega
    rw[Qwc hmem]at ch
    refine Qa Tryz.func89 rfl Tryz.call89 Tryz.ntmps89 Tryz.results89 (by simp) ?_
    repeat (first|refine Qd ca ?_|refine Qd ch ?_|refine Qb ?_);simp only[go_sem,seval,b1,hm,gk]
    obtain⟨I,hI⟩:∃I:Nat->AS->Prop,I=fun m' s=>∃(j:Nat) (v:List Int) (M:AH),m'=t.uses.length - j/\j<=t.uses.length/\ded u t.vars=ded v (QI (t.uses.drop j))/\v.length+ndsL (t.uses.drop j)<=1000000/\s.tm 0 = .sl 1 (ints v) (some k)/\s.tm 5 = .sl 4 (avs t.uses) none/\s.tm 6 = .i j/\s.h=H v.length++(L++M):=⟨_,rfl⟩;refine Qk I ?_ (m:=t.uses.length) ?_
    ·intro m' s hs;rw[hI]at hs;obtain⟨tm,hp⟩:=s;dsimp only at hs;obtain⟨j,v,M,rfl,hj,hw,hv,t0,t5,t6,rfl⟩:=hs
     by_cases hlt:j<t.uses.length
     ·rw[Qwb hlt]at hw hv
      simp only[QI,Q4]at hw
      simp only[ndsL]at hv
      have hcc:=fun L=>Qa2 V n (by omega) t.uses[j] v L (Qwh (ZD hlt) (by omega)) (by omega)
      have hdl:=Xu v (t.uses[j]).vars
      have hvl:=T.Que t.uses[j]
      repeat (first|refine FunW.Qt4 (hcc _) ?_|refine Qb ?_);simp only[go_sem,seval,t0,t5,t6,hlt,ZQ hlt]
      refine Qs.mk (m':=t.uses.length - (j+1)) (by omega) ?_
      rw[hI]
      refine⟨j+1,_,_,rfl,hlt,hw,by omega,rfl,t5,?_,rfl⟩
      simp only[upd,↓reduceIte]
      rw[Qz (by omega)]
     ·have hjl:j=t.uses.length:=by omega
      rw[hjl,Qwq]at hw
      simp only[QI,ded]at hw
      repeat refine Qb ?_;simp only[go_sem,seval,t0,t5,t6,hlt]
      exact Qdy V.len V.old (.keep (.sl 1 _ _ (QbB _ _) (fun b hb=>by cases hb;have:=V.lt;omega))) ⟨by rw[hw],by rw[hw]⟩
    ·rw[hI]
     exact⟨0,_,_,by omega,Qv2 _,hed,hlen',rfl,rfl,rfl,rfl⟩
   ·have hed:ded u t.vars=ded (u++[t.int]) (QI (t.uses.drop 0)):=by rw[e,hus];exact QvU hmem
    have hlen':(u++[t.int]).length+ndsL (t.uses.drop 0)<=1000000:=by rw[hus,QvO];simp only[List.drop_nil,ndsL,QwG];omega
    rw[Qv6 hmem]at ch
    have hb1:u.length+1<=maxLen:=by simp only[maxLen];omega
    have hb2:(u.length+1) * 8<=140737488355328:=by omega
    refine Qa Tryz.func89 rfl Tryz.call89 Tryz.ntmps89 Tryz.results89 (by simp) ?_
    repeat (first|refine Qd ca ?_|refine Qd ch ?_|refine Qb ?_);simp only[go_sem,seval,b1,hm,gk,gt,st,hb1,hb2]
    obtain⟨I,hI⟩:∃I:Nat->AS->Prop,I=fun m' s=>∃(j:Nat) (v:List Int) (M:AH),m'=t.uses.length - j/\j<=t.uses.length/\ded u t.vars=ded v (QI (t.uses.drop j))/\v.length+ndsL (t.uses.drop j)<=1000000/\s.tm 0 = .sl 1 (ints v) (some k)/\s.tm 5 = .sl 4 (avs t.uses) none/\s.tm 6 = .i j/\s.h=H v.length++(L++M):=⟨_,rfl⟩;refine Qk I ?_ (m:=t.uses.length) ?_
    ·intro m' s hs;rw[hI]at hs;obtain⟨tm,hp⟩:=s;dsimp only at hs;obtain⟨j,v,M,rfl,hj,hw,hv,t0,t5,t6,rfl⟩:=hs
     by_cases hlt:j<t.uses.length
     ·rw[Qwb hlt]at hw hv
      simp only[QI,Q4]at hw
      simp only[ndsL]at hv
      have hcc:=fun L=>Qa2 V n (by omega) t.uses[j] v L (Qwh (ZD hlt) (by omega)) (by omega)
      have hdl:=Xu v (t.uses[j]).vars
      have hvl:=T.Que t.uses[j]
      repeat (first|refine FunW.Qt4 (hcc _) ?_|refine Qb ?_);simp only[go_sem,seval,t0,t5,t6,hlt,ZQ hlt]
      refine Qs.mk (m':=t.uses.length - (j+1)) (by omega) ?_
      rw[hI]
      refine⟨j+1,_,_,rfl,hlt,hw,by omega,rfl,t5,?_,rfl⟩
      simp only[upd,↓reduceIte]
      rw[Qz (by omega)]
     ·have hjl:j=t.uses.length:=by omega
      rw[hjl,Qwq]at hw
      simp only[QI,ded]at hw
      repeat refine Qb ?_;simp only[go_sem,seval,t0,t5,t6,hlt]
      exact Qdy V.len V.old (.keep (.sl 1 _ _ (QbB _ _) (fun b hb=>by cases hb;have:=V.lt;omega))) ⟨by rw[hw],by rw[hw]⟩
    ·rw[hI]
     exact⟨0,_,_,by omega,Qv2 _,hed,hlen',by rw[Qfl,Qlj];rfl,rfl,rfl,by rw[QvO];rfl⟩
  ·have b1:(t.kind==1)=false:=by simpa using h1
   rw[QvU h1]at e
   have hed:ded u t.vars=ded u (QI (t.uses.drop 0)):=by rw[e,Qve]
   have hlen':u.length+ndsL (t.uses.drop 0)<=1000000:=by rw[Qve];omega
   refine Qa Tryz.func89 rfl Tryz.call89 Tryz.ntmps89 Tryz.results89 (by simp) ?_
   repeat (first|refine Qd ca ?_|refine Qb ?_);simp only[go_sem,seval,b1,hm,gk]
   obtain⟨I,hI⟩:∃I:Nat->AS->Prop,I=fun m' s=>∃(j:Nat) (v:List Int) (M:AH),m'=t.uses.length - j/\j<=t.uses.length/\ded u t.vars=ded v (QI (t.uses.drop j))/\v.length+ndsL (t.uses.drop j)<=1000000/\s.tm 0 = .sl 1 (ints v) (some k)/\s.tm 5 = .sl 4 (avs t.uses) none/\s.tm 6 = .i j/\s.h=H v.length++(L++M):=⟨_,rfl⟩;refine Qk I ?_ (m:=t.uses.length) ?_
   ·intro m' s hs;rw[hI]at hs;obtain⟨tm,hp⟩:=s;dsimp only at hs;obtain⟨j,v,M,rfl,hj,hw,hv,t0,t5,t6,rfl⟩:=hs
    by_cases hlt:j<t.uses.length
    ·rw[Qwb hlt]at hw hv
     simp only[QI,Q4]at hw
     simp only[ndsL]at hv
     have hcc:=fun L=>Qa2 V n (by omega) t.uses[j] v L (Qwh (ZD hlt) (by omega)) (by omega)
     have hdl:=Xu v (t.uses[j]).vars
     have hvl:=T.Que t.uses[j]
     repeat (first|refine FunW.Qt4 (hcc _) ?_|refine Qb ?_);simp only[go_sem,seval,t0,t5,t6,hlt,ZQ hlt]
     refine Qs.mk (m':=t.uses.length - (j+1)) (by omega) ?_
     rw[hI]
     refine⟨j+1,_,_,rfl,hlt,hw,by omega,rfl,t5,?_,rfl⟩
     simp only[upd,↓reduceIte]
     rw[Qz (by omega)]
    ·have hjl:j=t.uses.length:=by omega
     rw[hjl,Qwq]at hw
     simp only[QI,ded]at hw
     repeat refine Qb ?_;simp only[go_sem,seval,t0,t5,t6,hlt]
     exact Qdy V.len V.old (.keep (.sl 1 _ _ (QbB _ _) (fun b hb=>by cases hb;have:=V.lt;omega))) ⟨by rw[hw],by rw[hw]⟩
   ·rw[hI]
    exact⟨0,_,_,by omega,Qv2 _,hed,hlen',rfl,rfl,rfl,rfl⟩
theorem Qo1(h:AH)(e s:Nat):TokGr (fun n=>h++[.grow e s n]) (h.length+1) h.length e s where
 len:=fun n=>by simp
 lt:=by omega
 get:=fun n=>by rw[YY];rfl
 set:=fun n n'=>by rw[Z9];rfl
theorem Qh6(t:T)(hn:t.nds<=1000000):Pure Tryz.prog 63 [t.av] (.sl 1 (ints (ded [] t.vars)) none):=by
 intro h
 refine Qa Tryz.func63 rfl Tryz.call63 Tryz.ntmps63 Tryz.results63 (by simp) ?_
 repeat refine Qb ?_;simp only[go_sem,seval]
 refine Qkc 3 1 ?_
 have hcc:=Qa2 (Qo1 (h++[.cells 48 4 [t.av]]) 3 1) 1000000 (QvV _) t [] [] hn (by simpa using hn)
 simp only[QvS,Qvp,Qvo,Qvq,QpG,Qvb]at hcc
 (try simp only[Qva,Qvb,Qu9,hlen,happ,Qvp,Qvo])
 (try simp only[hlen,Qva,Qvb,Qu9]at hcc)
 repeat (first|refine FunW.Qt4 hcc ?_|refine Qb ?_);simp only[go_sem,seval]
 (refine Qc (htake _ _) (.tok (QbB _ _)) ⟨rfl,rfl⟩)
theorem Qnz:∀(l a s:List Int),ded s (ded a l)=ded (ded s a) l
 |[],a,s=>rfl
 |x::l,a,s=>by
  show ded s (ded (ins a x) l)=ded (ins (ded s a) x) l
  rw[Qnz l (ins a x) s]
  congr 1
  unfold ins
  by_cases hx:x∈a
  ·rw[QvY hx,QvY (Zl.2 (.inr hx))]
  ·rw[QvU hx,Q4]
   show ded (ins (ded s a) x) []=_
   rfl
def plcR(u:List Int)(n:Int):Int:=if n∈u then((plc u n:Nat):Int)else -1
theorem Qju{n:Int}:∀{u:List Int} {k:Nat},(∀j,j<k->∀h:j<u.length,u[j]≠n)->k<=u.length->plc u n=k+plc (u.drop k) n
 |u,0,_,_=>by rw[Qve,Qu9]
 |[],k+1,_,hk=>by simp at hk
 |a::u,k+1,h,hk=>by
  have h0:a≠n:=h 0 (by omega) (by simp)
  rw[List.drop_succ_cons,plc,QvU h0,Qju (u:=u) (k:=k) (fun j hj hl=>by have:=h (j+1) (by omega) (by simpa using hl);simpa using this) (by simpa using hk)]
  omega
theorem Qd0(u:List Int)(own:Option Nat)(n:Int)(hb:u.length<=1000000):Pure Tryz.prog 64 [.sl 1 (ints u) own,.i n] (.i (plcR u n)):=by
 intro h
 refine Qa Tryz.func64 rfl Tryz.call64 Tryz.ntmps64 Tryz.results64 (by simp) ?_
 repeat refine Qb ?_;simp only[go_sem,seval]
 obtain⟨I,hI⟩:∃I:Nat->AS->Prop,I=fun m' s=>∃k:Nat,m'=u.length - k/\k<=u.length/\(∀j,j<k->∀h:j<u.length,u[j]≠n)/\s.tm 0 = .sl 1 (ints u) own/\s.tm 1 = .i n/\s.tm 5 = .i k/\s.h=h:=⟨_,rfl⟩;refine Qk I ?_ (m:=u.length) ?_
 ·intro m' s hs;rw[hI]at hs;obtain⟨tm,hp⟩:=s;dsimp only at hs;obtain⟨k,rfl,hk,he,t0,t1,t5,rfl⟩:=hs
  by_cases hlt:k<u.length
  ·have hg:=QbY hlt
   have z9:(k:Int)<u.length:=by omega
   by_cases q:u[k]=n
   ·have z:(u[k]==n)=true:=by simp[q]
    repeat refine Qb ?_;simp only[go_sem,seval,t0,t1,t5,z9,hg,z]
    (refine Qc QvT (.keep (.v _)) ⟨by rw[plcR,QvY (q▸Qww hlt),Qju he hk,Qwb hlt,plc,QvY q];rfl,rfl⟩)
   ·have z:(u[k]==n)=false:=by simp[q]
    have wk:IntKind.i64.wrap (((k:Nat):Int)+1)=((k+1:Nat):Int):=Qz (by omega)
    repeat refine Qb ?_;simp only[go_sem,seval,t0,t1,t5,z9,hg,z,wk]
    refine Qs.mk (m':=u.length - (k+1)) (by omega) ?_
    rw[hI]
    refine⟨k+1,rfl,hlt,?_,t0,t1,rfl,rfl⟩
    intro j hj hl
    by_cases hjk:j=k
    ·subst hjk;exact q
    ·exact he j (by omega) hl
  ·have z9:¬(k:Int)<u.length:=by omega
   have hm:n∉u:=fun hm=>by
    obtain⟨j,hj,e⟩:=List.getElem_of_mem hm
    exact he j (by omega) hj e
   repeat refine Qb ?_;simp only[go_sem,seval,t0,t5,z9]
   (refine Qc QvT (.keep (.v _)) ⟨by rw[plcR,QvU hm],rfl⟩)
 ·rw[hI]
  exact⟨0,by omega,Qv2 _,fun j hj=>by omega,rfl,rfl,rfl,rfl⟩
def plcN(u:List Int)(n:Int):Int:=((plc u n:Nat):Int)
theorem Qst(f:Int->Int){t:T}(h:t.ps):t.map f = .mk t.kind (if t.kind=1 then f t.int else t.int) t.name (maps f t.args)/\pss t.args/\(∀v∈QI t.args,v∈t.vars)/\(t.kind=1->t.int∈t.vars):=by
 obtain⟨k,i,n,l⟩:=t
 rw[T.ps]at h
 obtain⟨h1,h2,h3⟩:=h
 rw[T.map]
 show _/\pss l/\(∀v∈QI l,v∈T.vars (.mk k i n l))/\(k=1->i∈T.vars (.mk k i n l))
 rw[T.vars]
 refine⟨?_,h3,?_,?_⟩
 ·by_cases k1:k=1
  ·have:l=[]:=h2 (by omega)
   subst this
   rw[QvY k1]
   show _=T.mk k (if k=1 then f i else i) n []
   rw[QvY k1]
  ·rw[QvU k1]
   show _=T.mk k (if k=1 then f i else i) n (maps f l)
   rw[QvU k1]
   by_cases k2:k=2
   ·rw[QvY k2]
   ·rw[QvU k2,h2 k2];rfl
 ·intro v hv
  by_cases k2:k=2
  ·rw[QvU (by omega),QvY k2];exact hv
  ·rw[h2 k2]at hv;cases hv
 ·intro k1;rw[QvY k1];simp
theorem Qho:∀{l:List T} {j:Nat} (hlt:j<l.length),∀v∈(l[j]).vars,v∈QI l
 |t::l,0,_,v,hv=>by rw[QI];exact Qwz.2 (.inl (by simpa using hv))
 |t::l,j+1,h,v,hv=>by rw[QI];exact Qwz.2 (.inr (Qho (l:=l) (j:=j) (by simpa using h) v (by simpa using hv)))
theorem QlA:∀{l:List T} {j:Nat} (hlt:j<l.length),pss l->(l[j]).ps
 |t::l,0,_,h=>by rw[pss]at h;exact h.1
 |t::l,j+1,hl,h=>by rw[pss]at h;exact QlA (l:=l) (j:=j) (by simpa using hl) h.2
theorem QpK(f:Int->Int):∀l:List T,maps f l=l.map (T.map f)
 |[]=>rfl
 |t::l=>by rw[maps,QpK f l];rfl
theorem Qmq{f:Int->Int}{l:List T}{j:Nat}(h:j<l.length):maps f (l.take (j+1))=maps f (l.take j)++[(l[j]).map f]:=by
 rw[QpK,QpK,Qws h,QwD];rfl
theorem Qao(u:List Int)(own:Option Nat)(hu:u.length<=1000000):∀n,n<=1000000->∀l:List T,ndsL l<=n->pss l->(∀v∈QI l,v∈u)->Pure Tryz.prog 35 [.sl 1 (ints u) own,.sl 4 (avs l) none] (.sl 4 (avs (maps (plcN u) l)) none):=by
 intro n
 induction n with
 |zero =>
  intro _ l hn hp hv h
  have hl:l=[]:=by
   cases l with
   |nil=>rfl
   |cons t l=>have:=T.Quh t;simp only[ndsL]at hn;omega
  subst hl
  refine Qa Tryz.func35 rfl Tryz.call35 Tryz.ntmps35 Tryz.results35 (by simp) ?_
  repeat refine Qb ?_;simp only[go_sem,seval]
  refine Yf 5 48 4 rfl ?_
  repeat refine Qb ?_;simp only[go_sem,seval]
  obtain⟨I,hI⟩:∃I:Nat->AS->Prop,I=fun m' s=>m'=0/\s.tm 1 = .sl 4 (avs []) none/\s.tm 5 = .sl 4 (avs []) (some h.length)/\s.tm 6 = .i 0/\s.h=h++[.grow 48 4 0]:=⟨_,rfl⟩;refine Qk I ?_ (m:=0) ?_
  ·intro m' s hs;rw[hI]at hs;obtain⟨tm,hp⟩:=s;dsimp only at hs;obtain⟨rfl,t1,t5,t6,rfl⟩:=hs
   have z9:¬(0:Int)<0:=by decide
   repeat refine Qb ?_;simp only[go_sem,seval,t1,t5,t6,z9,QeW]
   exact Qc (htake _ _) (.tok fun a ha=>by simp[flat]at ha) ⟨rfl,rfl⟩
  ·rw[hI]
   exact⟨rfl,rfl,rfl,rfl,rfl⟩
 |succ n ih =>
  intro hb l hn hp hv h
  have hll:=XK l
  refine Qa Tryz.func35 rfl Tryz.call35 Tryz.ntmps35 Tryz.results35 (by simp) ?_
  repeat refine Qb ?_;simp only[go_sem,seval]
  refine Yf 5 48 4 rfl ?_
  repeat refine Qb ?_;simp only[go_sem,seval]
  obtain⟨I,hI⟩:∃I:Nat->AS->Prop,I=fun m' s=>∃(j:Nat) (L:AH),m'=l.length - j/\j<=l.length/\s.tm 0 = .sl 1 (ints u) own/\s.tm 1 = .sl 4 (avs l) none/\s.tm 5 = .sl 4 (avs (maps (plcN u) (l.take j))) (some h.length)/\s.tm 6 = .i j/\s.h=h++(.grow 48 4 j::L):=⟨_,rfl⟩;refine Qk I ?_ (m:=l.length) ?_
  ·intro m' s hs;rw[hI]at hs;obtain⟨tm,hp⟩:=s;dsimp only at hs;obtain⟨j,L,rfl,hj,t0,t1,t5,t6,rfl⟩:=hs
   by_cases hlt:j<l.length
   ·have hg:=ZQ hlt
    have z9:(j:Int)<l.length:=by omega
    have hml:(maps (plcN u) (l.take j)).length=j:=by rw[QpK,Qwn,Qwi];omega
    have hb1:j+1<=maxLen:=by simp only[maxLen];omega
    have hb2:(j+1) * 56<=140737488355328:=by omega
    have wj:IntKind.i64.wrap (((j:Nat):Int)+1)=((j+1:Nat):Int):=Qz (by omega)
    have fL:∀x:AB,(L++[x])[L.length]? = some x:=fun x=>List.getElem?_concat_length
    have fS:∀x y:AB,(L++[x]).set L.length y=L++[y]:=fun x y=>by rw[Qwt _ _ (QvV _),Qwm];rfl
    obtain⟨t,et⟩:∃t,t=l[j]:=⟨_,rfl⟩
    have hvt:=Qho hlt
    have hts:=Qmq (f:=plcN u) hlt
    have hpt:=QlA hlt hp
    have hnt:t.nds<=n+1:=by rw[et];exact Qwh (ZD hlt) hn
    rw[<-et]at hg hvt hts hpt
    have hnd:=T.Quh t
    obtain⟨em,hpa,hva,hvi⟩:=Qst (plcN u) hpt
    have c2:=ih (by omega) t.args (by omega) hpa (fun v hv'=>hv v (hvt v (hva v hv')))
    by_cases k1:t.kind=1
    ·have z1:(t.kind==1)=true:=by simp[k1]
     rw[QvY k1]at em
     have c:=Qd0 u own t.int hu
     have hmem:=hv _ (hvt _ (hvi k1))
     rw[plcR,QvY hmem]at c
     repeat (first|refine Qd c ?_|refine Qd c2 ?_|refine Qb ?_);simp only[go_sem,seval,t0,t1,t5,t6,z9,hg,z1,hml,hb1,hb2,fL,fS,wj]
     refine Qs.mk (m':=l.length - (j+1)) (by omega) ?_
     rw[hI]
     refine⟨j+1,_,rfl,hlt,t0,t1,?_,rfl,rfl⟩
     rw[hts,Qdk,em];rfl
    ·have z1:(t.kind==1)=false:=by simp[k1]
     rw[QvU k1]at em
     repeat (first|refine Qd c2 ?_|refine Qb ?_);simp only[go_sem,seval,t0,t1,t5,t6,z9,hg,z1,hml,hb1,hb2,fL,fS,wj]
     refine Qs.mk (m':=l.length - (j+1)) (by omega) ?_
     rw[hI]
     refine⟨j+1,_,rfl,hlt,t0,t1,?_,rfl,rfl⟩
     rw[hts,Qdk,em];rfl
   ·have z9:¬(j:Int)<l.length:=by omega
    have hjl:j=l.length:=by omega
    repeat refine Qb ?_;simp only[go_sem,seval,t1,t5,t6,z9]
    (refine Qc (htake _ _) (.tok (QcH _ _)) ⟨by rw[hjl,QvT],rfl⟩)
  ·rw[hI]
   exact⟨0,[],by omega,Qv2 _,rfl,rfl,rfl,rfl,rfl⟩
theorem Qjp{H:Nat->AH}{m k:Nat}(V:TokGr H m k 3 1)(l:List T)(u:List Int)(L:AH)(hb:u.length+ndsL l<=1000000) :
  Ql Tryz.prog 34 [.sl 1 (ints u) (some k),.sl 4 (avs l) none] (H u.length++L) fun o h'=>o = .ret (.sl 1 (ints (ded u (QI l))) (some k))/\h'=H (ded u (QI l)).length++L:=by
 have hm:=V.len
 have gk:∀(n:Nat) (L:AH) (k:Nat),(H n++L)[m+k]? = L[k]? := fun u L k=>by rw[<-hm u];exact hget _ _ _
 have sk:∀(n:Nat) (L:AH) (k:Nat) (b:AB),(H n++L).set (m+k) b=H n++L.set k b:=fun u L k b=>by rw[<-hm u];exact hset _ _ _ _
 have gt:∀(n:Nat) (L:AH),(H n++L)[k]? = some (.grow 3 1 n):=fun n L=>by rw[QvP (by rw[hm];exact V.lt)];exact V.get n
 have st:∀(n n':Nat) (L:AH),(H n++L).set k (.grow 3 1 n')=H n'++L:=fun n n' L=>by rw[Qv1 _ _ (by rw[hm];exact V.lt),V.set]
 have hll:=XK l
 refine Qa Tryz.func34 rfl Tryz.call34 Tryz.ntmps34 Tryz.results34 (by simp) ?_
 repeat refine Qb ?_;simp only[go_sem,seval]
 obtain⟨I,hI⟩:∃I:Nat->AS->Prop,I=fun m' s=>∃(j:Nat) (v:List Int),m'=l.length - j/\j<=l.length/\ded v (QI (l.drop j))=ded u (QI l)/\v.length+ndsL (l.drop j)<=1000000/\s.tm 0 = .sl 1 (ints v) (some k)/\s.tm 1 = .sl 4 (avs l) none/\s.tm 5 = .i j/\s.h=H v.length++L:=⟨_,rfl⟩;refine Qk I ?_ (m:=l.length) ?_
 ·intro m' s hs;rw[hI]at hs;obtain⟨tm,hp⟩:=s;dsimp only at hs;obtain⟨j,v,rfl,hj,he,hvb,t0,t1,t5,rfl⟩:=hs
  by_cases hlt:j<l.length
  ·have wj:IntKind.i64.wrap (((j:Nat):Int)+1)=((j+1:Nat):Int):=Qz (by omega)
   rw[Qwb hlt,QI,Q4]at he
   rw[Qwb hlt,ndsL]at hvb
   have cv:=Qh6 l[j] (by omega)
   have hwl:=Xu [] (l[j]).vars
   have hwl2:=T.Que l[j]
   have e2:ded v (ded [] (l[j]).vars)=ded v (l[j]).vars:=Qnz _ [] v
   rw[Qvb]at hwl
   generalize hw:ded [] (l[j]).vars=w at *
   repeat (first|refine Qd cv ?_|refine Qb ?_);simp only[go_sem,seval,t1,t5,hlt,ZQ hlt]
   have hIo:=hI
   obtain⟨I,hI⟩:∃I:Nat->AS->Prop,I=fun m' s=>∃(p:Nat) (x:List Int),m'=w.length - p/\p<=w.length/\ded x (w.drop p)=ded v w/\x.length+(w.length - p)+ndsL (l.drop (j+1))<=1000000/\s.tm 0 = .sl 1 (ints x) (some k)/\s.tm 1 = .sl 4 (avs l) none/\s.tm 5 = .i j/\s.tm 6 = .sl 1 (ints w) none/\s.tm 7 = .i p/\s.h=H x.length++L:=⟨_,rfl⟩;refine Qk I ?_ (m:=w.length) ?_
   ·intro m' s hs;rw[hI]at hs;obtain⟨tm,hp⟩:=s;dsimp only at hs;obtain⟨p,x,rfl,hp,hx,hxb,t0,t1,t5,t6,t7,rfl⟩:=hs
    by_cases hlp:p<w.length
    ·have wp:IntKind.i64.wrap (((p:Nat):Int)+1)=((p+1:Nat):Int):=Qz (by omega)
     have cp:=Qd0 x (some k) w[p] (by omega)
     rw[Qwb hlp]at hx
     have hb1:x.length+1<=maxLen:=by simp only[maxLen];omega
     have hb2:(x.length+1) * 8<=140737488355328:=by omega
     by_cases hmem:w[p]∈x
     ·have hx2:ded x (w.drop (p+1))=ded v w:=by rw[<-hx,ded];show _=ded (ins x w[p]) _;rw[ins,QvY hmem]
      rw[plcR,QvY hmem]at cp
      have z:¬((plc x w[p]:Nat):Int)<0:=by omega
      repeat (first|refine Qd cp ?_|refine Qb ?_);simp only[go_sem,seval,t0,t6,t7,hlp,QbY hlp,z,wp]
      refine Qs.mk (m':=w.length - (p+1)) (by omega) ?_
      rw[hI]
      exact⟨p+1,x,rfl,hlp,hx2,by omega,t0,t1,t5,t6,rfl,rfl⟩
     ·have hx2:ded (x++[w[p]]) (w.drop (p+1))=ded v w:=by rw[<-hx,ded];show _=ded (ins x w[p]) _;rw[ins,QvU hmem]
      rw[plcR,QvU hmem]at cp
      have z:(-1:Int)<0:=by decide
      repeat (first|refine Qd cp ?_|refine Qb ?_);simp only[go_sem,seval,t0,t6,t7,hlp,QbY hlp,z,wp,gt,st,hb1,hb2]
      refine Qs.mk (m':=w.length - (p+1)) (by omega) ?_
      rw[hI]
      exact⟨p+1,x++[w[p]],rfl,hlp,hx2,by rw[QvO,QwG];omega,by rw[Qfl,Qlj];rfl,t1,t5,t6,rfl,by rw[QvO];rfl⟩
    ·have hpl:p=w.length:=by omega
     have hx2:x=ded v w:=by rw[<-hx,hpl,Qwq];rfl
     repeat refine Qb ?_;simp only[go_sem,seval,t5,t6,t7,hlp,wj]
     refine Qs.mk (m':=l.length - (j+1)) (by omega) ?_
     rw[hIo]
     refine⟨j+1,x,rfl,hlt,?_,by omega,t0,t1,rfl,rfl⟩
     rw[hx2,e2];exact he
   ·rw[hI]
    exact⟨0,v,rfl,Qv2 _,rfl,by omega,t0,t1,t5,rfl,rfl,rfl⟩
  ·have hjl:j=l.length:=by omega
   rw[hjl,Qwq]at he
   simp only[QI,ded]at he
   repeat refine Qb ?_;simp only[go_sem,seval,t0,t1,t5,hlt]
   exact .inr ⟨by rw[he],by rw[he]⟩
 ·rw[hI]
  exact⟨0,u,by omega,Qv2 _,rfl,by simpa using hb,rfl,rfl,rfl,rfl⟩
structure OneTk (tot:Nat) (t:Tk):Prop where
 int:t.kind=3->(∀c∈t.text.toList,isD c=true)/\numVal t.text.toList<=2147483648
 pos:0<=t.pos/\t.pos<=tot
 nam:t.kind=1->opB t.text=false
theorem QpU{x:ByteArray}(h:opB x=true):∃c,x.toList=[c]/\isL c=false:=by
 rcases Qh0.1 h with h|h
 ·simp only[Xs,Qv5,Qv7,QwQ]at h
  rcases h with h|h|h <;> exact⟨_,h,by decide⟩
 ·simp only[Ys,Qv5,Qv7,QwQ]at h
  rcases h with h|h <;> exact⟨_,h,by decide⟩
theorem QrF{q x:List UInt8}{k:Int}(h:XU q = .inl (k,x)):(k=3->(∀c∈x,isD c=true)/\numVal x<=2147483648)/\(k=1->opB (mkB x)=false):=by
 cases q with
 |nil=>cases h;exact⟨fun e=>absurd e (by decide),fun e=>absurd e (by decide)⟩
 |cons c r =>
  rw[XU]at h
  split at h
  ·rename_i hL
   split at h
   ·cases h
   ·cases h
    refine⟨fun e=>by split at e <;> exact absurd e (by decide),fun _=>?_⟩
    cases ho:opB (mkB ((c::r).takeWhile isW))with
    |false=>rfl
    |true =>
     obtain⟨d,h1,h2⟩:=QpU ho
     have hw:isW c=true:=by unfold isW;rw[hL];rfl
     rw[QdY,Qxb,QvY hw,List.cons.injEq]at h1
     rw[h1.1]at hL
     rw[hL]at h2;cases h2
  ·split at h
   ·split at h
    ·cases h
    ·rename_i hb
     cases h
     exact⟨fun _=>⟨fun d hd=>QwA.1 List.all_takeWhile d hd,by omega⟩,fun e=>absurd e (by decide)⟩
   ·split at h
    ·cases h;exact⟨fun e=>absurd e (by decide),fun e=>absurd e (by decide)⟩
    ·cases h
theorem QlP(tot:Nat):∀(m:Nat) (q:List UInt8) (ts:List Tk),Zn tot m q = .inl ts->q.length<m->(∀t∈ts,OneTk tot t)/\(∃a e,ts=a++[e]/\e.kind=0/\∀t∈a,t.kind≠0)/\ts.length<=q.length+1
 |0,_,_,_,h=>by omega
 |m+1,q,ts,h,hm=>by
  rw[Zn]at h
  have hsk:=Qb7 false q
  cases ht:XU (QK false q)with
  |inr e=>rw[ht]at h;cases h
  |inl p =>
   obtain⟨k,x⟩:=p
   rw[ht]at h
   simp only at h
   obtain⟨h1,h2⟩:=QrF ht
   split at h
   ·rename_i k0
    cases h
    refine⟨fun t hm=>?_,⟨[],_,rfl,rfl,fun t h=>(Qv7 h).elim⟩,by simp⟩
    rw[QwB]at hm
    subst hm
    exact⟨fun e=>absurd (show(0:Int)=3 from e) (by decide),⟨by show(0:Int)<=((tot - _:Nat):Int);omega,by show((tot - _:Nat):Int)<=_;omega⟩,fun e=>absurd (show(0:Int)=1 from e) (by decide)⟩
   ·rename_i k0
    rcases Qii ht with⟨k1,_,_⟩|⟨k1,hx1,r,hx2⟩
    ·exact absurd k1 k0
    ·have hxl:0<x.length:=QwE.2 hx1
     have hxr:x.length<=(QK false q).length:=by rw[hx2,QvO];omega
     cases hs:Zn tot m ((QK false q).drop x.length)with
     |inr e=>rw[hs]at h;cases h
     |inl us =>
      rw[hs]at h
      cases h
      obtain⟨a1,⟨a,e,a2,a3,a4⟩,a5⟩:=QlP tot m _ us hs (by rw[Qwe];omega)
      rw[Qwe]at a5
      refine⟨fun t hm=>?_,⟨⟨k,_,mkB x⟩::a,e,by rw[a2];rfl,a3,fun t hm=>?_⟩,by simp only[Qva];omega⟩
      ·rw[Qv5]at hm
       rcases hm with rfl|hm
       ·exact⟨fun e=>by rw[QdY];exact h1 e,⟨by show(0:Int)<=((tot - _:Nat):Int);omega,by show((tot - _:Nat):Int)<=_;omega⟩,h2⟩
       ·exact a1 t hm
      ·rw[Qv5]at hm
       rcases hm with rfl|hm
       ·exact k1
       ·exact a4 t hm
theorem QaI{l:List UInt8}{ts:List Tk}(h:Xo l = .inl ts):TkOk ts/\Wst ts ⟨ts,[]⟩/\ts.length<=1000000/\l.length<=16384:=by
 rw[Xo]at h
 split at h
 ·cases h
 ·rename_i hl
  obtain⟨h1,⟨a,e,h2,h3,h4⟩,h5⟩:=QlP l.length (l.length+1) l ts h (by omega)
  exact⟨⟨fun t ht=>(h1 t ht).int,fun t ht=>⟨(h1 t ht).pos.1,by have:=(h1 t ht).pos.2;omega⟩,fun t ht=>(h1 t ht).nam⟩,⟨⟨a,e,h2,h3,h4⟩,List.suffix_refl _,by simp⟩,by omega,by omega⟩
end Go.Proofs.YticgcpebdldbgaaGreatDoor.Ab
namespace Go.Proofs.YticgcpebdldbgaaGreatDoor.Ab
open Go.Proofs
theorem QjL(tot:Nat):∀(m:Nat) (q:List UInt8) (p:Int×Int),Zn tot m q = .inr p->p.2≠0
 |0,_,_,h=>by cases h
 |m+1,q,p,h=>by
  rw[Zn]at h
  cases ht:XU (QK false q)with
  |inr e=>rw[ht]at h;cases h;exact Qih ht
  |inl y =>
   obtain⟨k,x⟩:=y
   rw[ht]at h
   simp only at h
   split at h
   ·cases h
   ·cases hs:Zn tot m ((QK false q).drop x.length)with
    |inr e=>rw[hs]at h;cases h;exact QjL tot m _ _ hs
    |inl us=>rw[hs]at h;cases h
theorem Za{l:List UInt8}{p:Int×Int}(h:Xo l = .inr p):p.2≠0:=by
 rw[Xo]at h
 split at h
 ·cases h;decide
 ·exact QjL _ _ _ _ h
theorem QjS{l:List UInt8}{ts:List Tk}(hs:Xo l = .inl ts)(h:AH)(hG:YZ h):Ql Tryz.prog 40 [.v (.string (mkB l))] h fun o h'=>o = .ret (.agg [.sl 3 (tks ts) none,.i 0])/\h'=h:=by
 have cs:=fun L=>QjK l (h++L) (hG.app L)
 rw[hs,scR]at cs
 have e0:((0:Int) != 0)=false:=rfl
 refine Qa Tryz.func40 rfl Tryz.call40 Tryz.ntmps40 Tryz.results40 (by simp) ?_
 repeat (first|refine FunW.Qt4 (cs _) ?_|refine Qb ?_);simp only[go_sem,seval]
 refine Qc (htake _ _) (.keep (.agg _ fun a ha=>?_)) ⟨rfl,rfl⟩
 simp only[Qv5,Qv7,QwQ]at ha
 rcases ha with rfl|rfl
 ·exact .sl 3 _ none (Qa9 _ _) (fun b hb=>by cases hb)
 ·exact .v _
theorem QmR{l:List UInt8}{p e:Int}(hs:Xo l = .inr (p,e))(h:AH)(hG:YZ h):Ql Tryz.prog 40 [.v (.string (mkB l))] h fun o h'=>o = .panic (Fl p e)/\h'=h:=by
 have cs:=fun L=>QjK l (h++L) (hG.app L)
 rw[hs,scR]at cs
 have e0:(e != 0)=true:=by simpa using Za hs
 have hu:=Tryz.underlying90
 refine Qa Tryz.func40 rfl Tryz.call40 Tryz.ntmps40 Tryz.results40 (by simp) ?_
 repeat (first|refine FunW.Qt4 (cs _) ?_|refine Qb ?_);simp only[go_sem,seval,e0,hu]
 exact Qc (htake _ _) (.keep (QbV _ _ _)) ⟨rfl,rfl⟩
def P0(h:AH)(ts:List Tk):Pz:=⟨ts,h.length+2,h.length+4,h.length+3⟩
def hp0(h:AH)(ts:List Tk):AH:=ph (h++[iC 0,eC 0,.cells 61 4 [.agg [.sl 3 (tks ts) none,.i 0,.v (.slice none 0 0),.v (.map none)]]]++[.dead,.dead]) (P0 h ts) ⟨ts,[]⟩
theorem Qq3(h:AH)(ts:List Tk)(x:AB):(P0 h ts).ok (h++[iC 0,eC 0,x]++[.dead,.dead]):=by
 refine⟨?_,?_,?_,?_,?_,?_⟩ <;> simp only[P0,QvO,Qva,Qvb] <;> omega
theorem Qqt(h:AH)(ts:List Tk):Ql Tryz.prog 41 [.ptr (h.length+2) 0 0] (h++[iC 0,eC 0,.cells 61 4 [.agg [.sl 3 (tks ts) none,.i 0,.v (.slice none 0 0),.v (.map none)]]]) fun o h'=>o = .ret (.tup [])/\h'=hp0 h ts:=by
 have:=Qj6 (X:=h++[iC 0,eC 0,.cells 61 4 [.agg [.sl 3 (tks ts) none,.i 0,.v (.slice none 0 0),.v (.map none)]]]) (P:=P0 h ts) (s:=⟨ts,[]⟩) (by
  show(h++_)[h.length+2]? = _
  rw[hget]
  simp only[P0,Qwm];rfl) (by simp[P0])
 refine this.mono ?_
 rintro o h' ⟨rfl,rfl⟩
 refine⟨rfl,?_⟩
 rw[hp0]
 congr 1
 simp[P0,Pz.to]
theorem panQ{P:Program}{rs:List ResultVar}{h H:AH}{Q:AOut->AH->Prop}{tm:Nat->AV}{p e a0 e0:Int}{k:Nat}(hP:P=Tryz.prog)(hk:H[k]? = some (iC a0))(hk1:H[k+1]? = some (eC e0))(hq:∀L,Qcn P rs h Q .ret ⟨tm,(H.set k (iC p)).set (k+1) (eC e)++L⟩) :
  Qhp P rs h Q [(39,[.ptr k 0 0,.ptr (k+1) 0 0])] (.pan (Fl p e) false) ⟨tm,H⟩:=by
 subst hP
 simp only[Qhp]
 refine Qbc.mono (QoI hk hk1 p e) ?_
 rintro m' h' ⟨rfl,L,rfl⟩
 exact hq L
theorem rtQ{P:Program}{rs:List ResultVar}{h H:AH}{Q:AOut->AH->Prop}{tm:Nat->AV}{k:Nat}(hP:P=Tryz.prog)(hq:Qcn P rs h Q .ret ⟨tm,H⟩) :
  Qhp P rs h Q [(39,[.ptr k 0 0,.ptr (k+1) 0 0])] .ret ⟨tm,H⟩:=by
 subst hP
 simp only[Qhp]
 refine Qbc.mono QoJ ?_
 rintro m' h' ⟨rfl,rfl⟩
 exact hq
theorem QmY(n:Nat)(a b:Int):Below n (.tup [.i a,.i b]):=.tup _ fun x hx=>by
 simp only[Qv5,Qv7,QwQ]at hx
 rcases hx with rfl|rfl <;> exact .v _
theorem QfO{l:List UInt8}{p e:Int}(hs:Xo l = .inr (p,e))(fv:AV)(h:AH)(hG:YZ h):Ql Tryz.prog 17 [.v (.string (mkB l)),fv] h fun o h'=>o = .ret (.tup [.i p,.i e])/\h'=h:=by
 have cs:=fun L=>QmR hs (h++L) (hG.app L)
 refine Qaq Tryz.func17 rfl Tryz.call17 Tryz.ntmps17 (QwN Array.toList Tryz.results17) (by simp) ?_
 refine YG (Yj ?_)
 repeat refine Qb ?_;simp only[go_sem,seval]
 show DefW _ _ _ _ _ _
 refine YG (Qcr 1 rfl rfl rfl ?_)
 simp only[go_sem,seval]
 refine⟨_,_,_,rfl,?_⟩
 show DefW _ _ _ _ _ _
 refine YG (Yj ?_)
 repeat (first|refine FunW.pan (FunW.call (cs _)) ?_|refine Qb ?_);simp only[go_sem,seval]
 simp only[AExit.QuQ,Qm2]
 refine panQ (a0:=0) (e0:=0) rfl (by rw[YY];rfl) (by rw[hget];rfl) fun L=>?_
 rw[Z9,hset]
 simp only[go_sem,seval,QvS]
 exact Qc (htake _ _) (.keep (QmY _ _ _)) ⟨rfl,rfl⟩
section
variable{l:List UInt8}{ts:List Tk}(hs:Xo l = .inl ts)(fv:AV)(h:AH)(hG:YZ h)(Ok:AH->Prop)(hOk:∀Y a b L,h.length+1<Y.length->Ok Y->Ok ((Y.set h.length a).set (h.length+1) b++L))
include hs hG hOk
theorem QkE(HF:FunW Tryz.prog fv [.ptr (h.length+2) 0 0] (hp0 h ts) fun o h'=>o = .ret (.tup [])/\∃Y:{Y:AH // Y[h.length]? = some (iC 0)/\Y[h.length+1]? = some (eC 0)/\Ok Y},h'=Y.1) :
  Ql Tryz.prog 17 [.v (.string (mkB l)),fv] h fun o h'=>o = .ret (.tup [.i 0,.i 0])/\∃Y:{Y:AH // Ok Y},h'=Y.1:=by
 have cs:=fun L=>QjS hs (h++L) (hG.app L)
 have cc:=Qqt h ts
 refine Qaq Tryz.func17 rfl Tryz.call17 Tryz.ntmps17 (QwN Array.toList Tryz.results17) (by simp) ?_
 refine YG (Yj ?_)
 repeat refine Qb ?_;simp only[go_sem,seval]
 show DefW _ _ _ _ _ _
 refine YG (Qcr 1 rfl rfl rfl ?_)
 simp only[go_sem,seval]
 refine⟨_,_,_,rfl,?_⟩
 show DefW _ _ _ _ _ _
 refine YG (Yj ?_)
 repeat (first|refine FunW.Qt4 (cs _) ?_|refine Qb ?_);simp only[go_sem,seval]
 show DefW _ _ _ _ _ _
 refine YG (Yj ?_)
 repeat (first|refine FunW.Qt4 cc ?_|refine Qb ?_);simp only[go_sem,seval]
 show DefW _ _ _ _ _ _
 refine YG (Yj ?_)
 repeat (first|refine FunW.retE HF fun Y=>?_|refine Qb ?_);simp only[go_sem,seval]
 have hY:=Y.2
 generalize Y.1=Y1 at *
 obtain⟨y1,y2,y3⟩:=hY
 have l1:=Qe y1
 have l2:=Qe y2
 repeat refine Qb ?_;simp only[go_sem,seval]
 show DefW _ _ _ _ _ _
 refine Yj ?_
 have u1:∀y,(Y1.set h.length y)[h.length+1]? = some (eC 0):=fun y=>by rw[QvQ (by omega)];exact y2
 have u2:∀y z,((Y1.set h.length y).set (h.length+1) z)[h.length]? = some y:=fun y z=>by rw[QvQ (by omega),QvX l1]
 have u3:∀y z,((Y1.set h.length y).set (h.length+1) z)[h.length+1]? = some z:=fun y z=>QvX (by rw[QvZ];exact l2)
 repeat refine Qb ?_;simp only[go_sem,seval,y1,u1]
 simp only[Qm2]
 refine rtQ rfl ?_
 simp only[go_sem,seval,u2,u3]
 have:=hOk Y1 (iC 0) (eC 0) [] l2 y3
 rw[Qvq]at this
 exact .inr ⟨rfl,⟨_,this⟩,rfl⟩
theorem Qh3{p e:Int}(HF:FunW Tryz.prog fv [.ptr (h.length+2) 0 0] (hp0 h ts) fun o h'=>o = .panic (Fl p e)/\∃Y:{Y:AH // Y[h.length]? = some (iC 0)/\Y[h.length+1]? = some (eC 0)/\Ok Y},h'=Y.1) :
  Ql Tryz.prog 17 [.v (.string (mkB l)),fv] h fun o h'=>o = .ret (.tup [.i p,.i e])/\∃Y:{Y:AH // Ok Y},h'=Y.1:=by
 have cs:=fun L=>QjS hs (h++L) (hG.app L)
 have cc:=Qqt h ts
 refine Qaq Tryz.func17 rfl Tryz.call17 Tryz.ntmps17 (QwN Array.toList Tryz.results17) (by simp) ?_
 refine YG (Yj ?_)
 repeat refine Qb ?_;simp only[go_sem,seval]
 show DefW _ _ _ _ _ _
 refine YG (Qcr 1 rfl rfl rfl ?_)
 simp only[go_sem,seval]
 refine⟨_,_,_,rfl,?_⟩
 show DefW _ _ _ _ _ _
 refine YG (Yj ?_)
 repeat (first|refine FunW.Qt4 (cs _) ?_|refine Qb ?_);simp only[go_sem,seval]
 show DefW _ _ _ _ _ _
 refine YG (Yj ?_)
 repeat (first|refine FunW.Qt4 cc ?_|refine Qb ?_);simp only[go_sem,seval]
 show DefW _ _ _ _ _ _
 refine YG (Yj ?_)
 repeat (first|refine FunW.panE HF fun Y=>?_|refine Qb ?_);simp only[go_sem,seval]
 have hY:=Y.2
 generalize Y.1=Y1 at *
 obtain⟨y1,y2,y3⟩:=hY
 have l1:=Qe y1
 have l2:=Qe y2
 simp only[AExit.QuQ,Qm2]
 refine panQ rfl y1 y2 fun L=>?_
 have u2:∀y z,((Y1.set h.length y).set (h.length+1) z++L)[h.length]? = some y:=fun y z=>by rw[QvP (by simp only[QvZ];exact l1),QvQ (by omega),QvX l1]
 have u3:∀y z,((Y1.set h.length y).set (h.length+1) z++L)[h.length+1]? = some z:=fun y z=>by rw[QvP (by simp only[QvZ];exact l2)];exact QvX (by rw[QvZ];exact l2)
 simp only[go_sem,seval,u2,u3]
 exact .inr ⟨rfl,⟨_,hOk Y1 (iC p) (eC e) L l2 y3⟩,rfl⟩
end
end Go.Proofs.YticgcpebdldbgaaGreatDoor.Ab
namespace Go.Proofs.YticgcpebdldbgaaGreatDoor.Ab
open Go.Proofs
theorem FunW.cl{P:Program}{f:FuncId}{args cap:List AV}{h:AH}{Q:AOut->AH->Prop}(H:Ql P f (args++cap) h Q):FunW P (.fn (.func f) [] cap) args h Q:=FunW.fn (by rw[Qvo];exact H)
def psR:Pg ⊕ (Int×Int)->AV
 | .inl p=>.tup [p.av,.i 0,.i 0]
 | .inr e=>.tup [(⟨[],[]⟩:Pg).av,.i e.1,.i e.2]
theorem QqO(n:Nat)(p:Pg):Below n p.av:=.agg _ fun a ha=>by
 simp only[Qv5,Qv7,QwQ]at ha
 rcases ha with rfl|rfl
 ·exact Qb9 Dc.av n 2 (fun d=>Dc.bel n d) _
 ·exact Qb9 Rl.av n 6 (fun r=>Rl.bel n r) _
theorem Qow(n:Nat)(r:Pg ⊕ (Int×Int)):Below n (psR r):=by
 cases r with
 |inl p=>exact Zb (QqO n p) _ _
 |inr e=>exact Zb (QqO n _) _ _
theorem QdF{H:AH}{m:Nat}(p e:Int):Frz H m (.tup [.agg [.v (.slice none 0 0),.v (.slice none 0 0)],.i p,.i e]) (psR (.inr (p,e))):=by
 refine .tup rfl fun j a a' h1 h2=>?_
 match j,h1,h2 with
 |0,h1,h2 =>
  cases h1;cases h2
  refine .agg rfl fun j a a' h1 h2=>?_
  match j,h1,h2 with
  |0,h1,h2=>cases h1;cases h2;exact .nil 2
  |1,h1,h2=>cases h1;cases h2;exact .nil 6
  |j+2,h1,h2=>simp at h1
 |1,h1,h2=>cases h1;cases h2;exact .keep (.v _)
 |2,h1,h2=>cases h1;cases h2;exact .keep (.v _)
 |j+3,h1,h2=>simp at h1
abbrev rZ0:AB:=.cells 40 6 [.agg [.v (.string {data:=#[]}),nilV,nilV,nilV,nilV,.i 0]]
def rsR:Rl ⊕ (Int×Int)->AV
 | .inl r=>.tup [r.av,.i 0,.i 0]
 | .inr e=>.tup [(⟨eB,[],[],[],[],0⟩:Rl).av,.i e.1,.i e.2]
theorem QqU(n:Nat)(r:Rl):Below n r.av:=.agg _ fun a ha=>Rl.bel n r a (by rw[Rl.cells];exact ha)
theorem QjE(n:Nat)(r:Rl ⊕ (Int×Int)):Below n (rsR r):=by
 cases r with
 |inl p=>exact Zb (QqU n p) _ _
 |inr e=>exact Zb (QqU n _) _ _
theorem QfS{H:AH}{m:Nat}(p e:Int):Frz H m (.tup [.agg [.v (.string {data:=#[]}),nilV,nilV,nilV,nilV,.i 0],.i p,.i e]) (rsR (.inr (p,e))):=by
 refine .tup rfl fun j a a' h1 h2=>?_
 match j,h1,h2 with
 |0,h1,h2 =>
  cases h1;cases h2
  refine .agg rfl fun j a a' h1 h2=>?_
  match j,h1,h2 with
  |0,h1,h2=>cases h1;cases h2;exact .keep (.v _)
  |1,h1,h2=>cases h1;cases h2;exact .nil 2
  |2,h1,h2=>cases h1;cases h2;exact .nil 2
  |3,h1,h2=>cases h1;cases h2;exact .nil 3
  |4,h1,h2=>cases h1;cases h2;exact .nil 3
  |5,h1,h2=>cases h1;cases h2;exact .keep (.v _)
  |j+6,h1,h2=>simp at h1
 |1,h1,h2=>cases h1;cases h2;exact .keep (.v _)
 |2,h1,h2=>cases h1;cases h2;exact .keep (.v _)
 |j+3,h1,h2=>simp at h1
theorem Qom{all:List Tk}{s:PS}(hW:Wst all s){p e:Int}(h:Qak s = .err p e):e≠0:=Kp.Ps.err (n:=wdOf all) (Kp.one_ps trivial) hW h
theorem Qmz{all:List Tk}{s:PS}(hW:Wst all s){p e:Int}(h:Qei s = .err p e):e≠0:=Kp.Ps.err (n:=wdOf all) (Kp.prog_ps trivial) hW h
section
variable(l:List UInt8)(h:AH)(hG:YZ h)
include hG
theorem Qb1:Ql Tryz.prog 7 [.v (.string (mkB l))] h fun o h'=>o = .ret (psR (Qbe l))/\h'=h:=by
 rw[Qbe]
 cases hs:Xo l with
 |inr q =>
  obtain⟨p,e⟩:=q
  have cr:=fun fv L=>QfO hs fv (h++L) (hG.app L)
  have e0:(e != 0)=true:=by simpa using Za hs
  refine Qa Tryz.func7 rfl Tryz.call7 Tryz.ntmps7 Tryz.results7 (by simp) ?_
  repeat first|(first|refine FunW.Qt4 (cr _ _) ?_|refine Qb ?_);simp only[go_sem,seval,e0]|refine hK _ ?_;clear hK
  exact Qc (htake _ _) (QdF _ _) ⟨rfl,rfl⟩
 |inl ts =>
  obtain⟨hD,hW,hN,hl⟩:=QaI hs
  obtain⟨H,hH⟩:∃H,H=h++[pgB nilV nilV,pgB nilV nilV]:=⟨_,rfl⟩
  have hHl:H.length=h.length+2:=by rw[hH];simp
  have hHG:YZ H:=by rw[hH];exact hG.app _
  have hPo:=Qq3 H ts (.cells 61 4 [.agg [.sl 3 (tks ts) none,.i 0,.v (.slice none 0 0),.v (.map none)]])
  have hout:∀i,i<h.length->(H++[iC 0,eC 0,.cells 61 4 [.agg [.sl 3 (tks ts) none,.i 0,.v (.slice none 0 0),.v (.map none)]]]++[.dead,.dead])[i]? = h[i]? := fun i hi=>by
   rw[QvS,QvP (by omega),hH,QvP hi]
  have hlen:(H++[iC 0,eC 0,.cells 61 4 [.agg [.sl 3 (tks ts) none,.i 0,.v (.slice none 0 0),.v (.map none)]]]++[AB.dead,.dead]).length=h.length+7:=by simp only[QvO,Qva,Qvb,hHl]
  have cf:=QmC (P:=P0 H ts) (s:=⟨ts,[]⟩) hW hPo hN hD (o:=h.length+1) (by omega) (by simp only[P0];omega) (by simp only[P0];omega) (by simp only[P0];omega)
   (by rw[QvS,QvP (by omega),hH,hget];rfl)
  have hst:∀(K:AH->Prop) (Y:AH) a b L,H.length+1<Y.length->(∀i,i<h.length->Y[i]? = h[i]?)->∀i,i<h.length->((Y.set H.length a).set (H.length+1) b++L)[i]? = h[i]? := fun K Y a b L hl hy i hi=>by
   rw[QvP (by simp only[QvZ];omega),QvQ (by omega),QvQ (by omega)];exact hy i hi
  have hc0:∀Y,KpO (H++[iC 0,eC 0,.cells 61 4 [.agg [.sl 3 (tks ts) none,.i 0,.v (.slice none 0 0),.v (.map none)]]]++[AB.dead,.dead]) (P0 H ts) (h.length+1) Y->Y[H.length]? = some (iC 0)/\Y[H.length+1]? = some (eC 0)/\h.length+7<=Y.length/\(∀i,i<h.length->Y[i]? = h[i]?)/\Y[h.length]? = some (pgB nilV nilV):=fun Y hY=>by
   refine⟨?_,?_,by have:=hY.long;omega,fun i hi=>?_,?_⟩
   ·rw[hY.out H.length (by omega) (by omega) (by simp only[P0];omega) (by simp only[P0];omega) (by simp only[P0];omega),QvS,YY];rfl
   ·rw[hY.out (H.length+1) (by omega) (by omega) (by simp only[P0];omega) (by simp only[P0];omega) (by simp only[P0];omega),QvS,hget];rfl
   ·rw[hY.out i (by omega) (by omega) (by simp only[P0];omega) (by simp only[P0];omega) (by simp only[P0];omega)];exact hout i hi
   ·rw[hY.out h.length (by omega) (by omega) (by simp only[P0];omega) (by simp only[P0];omega) (by simp only[P0];omega),QvS,QvP (by omega),hH,YY];rfl
  cases hp:Qei ⟨ts,[]⟩with
  |err p e =>
   rw[hp]at cf
   have e0:(e != 0)=true:=by simpa using Qmz hW hp
   have cr:=Qh3 hs (.fn (.func 18) [] [.ptr (h.length+1) 0 0]) H hHG (fun Y=>h.length+2<=Y.length/\(∀i,i<h.length->Y[i]? = h[i]?)/\Y[h.length]? = some (pgB nilV nilV))
    (fun Y a b L hl hy=>⟨by simp only[QvO,QvZ];omega,hst (fun _=>True) Y a b L hl hy.2.1,by rw[QvP (by simp only[QvZ];omega),QvQ (by omega),QvQ (by omega)];exact hy.2.2⟩) (p:=p) (e:=e)
    (FunW.cl (cf.mono fun o h' q=>by
     obtain⟨q1,⟨Y,hY⟩,q2⟩:=q
     obtain⟨y1,y2,y3,y4,y5⟩:=hc0 Y hY
     exact⟨q1,⟨Y,y1,y2,by omega,y4,y5⟩,q2⟩))
   rw[hH]at cr
   refine Qa Tryz.func7 rfl Tryz.call7 Tryz.ntmps7 Tryz.results7 (by simp) ?_
   repeat first|(first|refine FunW.retE (FunW.call cr) fun Y=>?_|refine Qb ?_);simp only[go_sem,seval,e0,QvO]|refine hK _ ?_;clear hK
   have hY:=Y.2
   generalize Y.1=Y1 at *
   obtain⟨y0,y1,y2⟩:=hY
   have u1:∀y,(Y1.set h.length y)[h.length]? = some y:=fun y=>QvX (by omega)
   have ht:∀y,(Y1.set h.length y).take h.length=h:=fun y=>QwH fun i=>by
    by_cases hi:i<h.length
    ·rw[Qwa hi,QvQ (by omega)];exact y1 i hi
    ·rw[Qw0 (by omega),Qwu (by omega)]
   simp only[Xy,Ya,↓reduceIte,Qva,Qvb,Nat.reduceAdd,Qu9,Qvv,QuX,Qvr,QuZ,y2]
   repeat first|refine Qb ?_;simp only[go_sem,seval]|refine hK _ ?_;clear hK
   simp only[go_sem,seval,u1]
   exact Qc (ht _) (QdF _ _) ⟨by simp only[hp],rfl⟩
  |ok pg s2 =>
   rw[hp]at cf
   have e0:((0:Int) != 0)=false:=rfl
   obtain⟨D,hDe⟩:∃D,D=pgB (.sl 2 (vs Dc.av pg.decls) none) (.sl 6 (vs Rl.av pg.rules) none):=⟨_,rfl⟩
   have cr:=QkE hs (.fn (.func 18) [] [.ptr (h.length+1) 0 0]) H hHG (fun Y=>h.length+2<=Y.length/\(∀i,i<h.length->Y[i]? = h[i]?)/\Y[h.length]? = some (pgB nilV nilV)/\Y[h.length+1]? = some D)
    (fun Y a b L hl hy=>⟨by simp only[QvO,QvZ];omega,hst (fun _=>True) Y a b L hl hy.2.1,by rw[QvP (by simp only[QvZ];omega),QvQ (by omega),QvQ (by omega)];exact hy.2.2.1,by rw[QvP (by simp only[QvZ];omega),QvQ (by omega),QvQ (by omega)];exact hy.2.2.2⟩)
    (FunW.cl (cf.mono fun o h' q=>by
     obtain⟨q1,⟨Y,hY,hY2⟩,q2⟩:=q
     obtain⟨y1,y2,y3,y4,y5⟩:=hc0 Y hY
     exact⟨q1,⟨Y,y1,y2,by omega,y4,y5,by rw[hDe];exact hY2⟩,q2⟩))
   rw[hH]at cr
   refine Qa Tryz.func7 rfl Tryz.call7 Tryz.ntmps7 Tryz.results7 (by simp) ?_
   repeat first|(first|refine FunW.retE (FunW.call cr) fun Y=>?_|refine Qb ?_);simp only[go_sem,seval,QvO]|refine hK _ ?_;clear hK
   have hY:=Y.2
   generalize Y.1=Y1 at *
   obtain⟨y0,y1,y2,y3⟩:=hY
   rw[hDe]at y3
   have u1:∀y,(Y1.set h.length y)[h.length]? = some y:=fun y=>QvX (by omega)
   have ht:∀y,(Y1.set h.length y).take h.length=h:=fun y=>QwH fun i=>by
    by_cases hi:i<h.length
    ·rw[Qwa hi,QvQ (by omega)];exact y1 i hi
    ·rw[Qw0 (by omega),Qwu (by omega)]
   simp only[Xy,Ya,Qvh,Qvi,QaO,Qvj,↓reduceIte,Qva,Qvb,Nat.reduceAdd,Qu9,Qvv,QuX,Qvr,QuZ,y2,y3]
   repeat first|refine Qb ?_;simp only[go_sem,seval]|refine hK _ ?_;clear hK
   simp only[go_sem,seval,u1]
   exact Qc (ht _) (.keep (Qow _ (.inl pg))) ⟨by simp only[hp];rfl,rfl⟩
theorem Qgi:Ql Tryz.prog 14 [.v (.string (mkB l))] h fun o h'=>o = .ret (rsR (QfK l))/\h'=h:=by
 rw[QfK]
 cases hs:Xo l with
 |inr q =>
  obtain⟨p,e⟩:=q
  have cr:=fun fv L=>QfO hs fv (h++L) (hG.app L)
  have e0:(e != 0)=true:=by simpa using Za hs
  refine Qa Tryz.func14 rfl Tryz.call14 Tryz.ntmps14 Tryz.results14 (by simp) ?_
  repeat first|(first|refine FunW.Qt4 (cr _ _) ?_|refine Qb ?_);simp only[go_sem,seval,e0]|refine hK _ ?_;clear hK
  exact Qc (htake _ _) (QfS _ _) ⟨rfl,rfl⟩
 |inl ts =>
  obtain⟨hD,hW,hN,hl⟩:=QaI hs
  obtain⟨H,hH⟩:∃H,H=h++[rZ0,rZ0]:=⟨_,rfl⟩
  have hHl:H.length=h.length+2:=by rw[hH];simp
  have hHG:YZ H:=by rw[hH];exact hG.app _
  have hPo:=Qq3 H ts (.cells 61 4 [.agg [.sl 3 (tks ts) none,.i 0,.v (.slice none 0 0),.v (.map none)]])
  have hout:∀i,i<h.length->(H++[iC 0,eC 0,.cells 61 4 [.agg [.sl 3 (tks ts) none,.i 0,.v (.slice none 0 0),.v (.map none)]]]++[.dead,.dead])[i]? = h[i]? := fun i hi=>by
   rw[QvS,QvP (by omega),hH,QvP hi]
  have hlen:(H++[iC 0,eC 0,.cells 61 4 [.agg [.sl 3 (tks ts) none,.i 0,.v (.slice none 0 0),.v (.map none)]]]++[AB.dead,.dead]).length=h.length+7:=by simp only[QvO,Qva,Qvb,hHl]
  have cf:=QmM (P:=P0 H ts) (s:=⟨ts,[]⟩) hW hPo hN hD (o:=h.length+1) (by omega) (by simp only[P0];omega) (by simp only[P0];omega) (by simp only[P0];omega)
   (by rw[QvS,QvP (by omega),hH,hget];rfl)
  have hst:∀(K:AH->Prop) (Y:AH) a b L,H.length+1<Y.length->(∀i,i<h.length->Y[i]? = h[i]?)->∀i,i<h.length->((Y.set H.length a).set (H.length+1) b++L)[i]? = h[i]? := fun K Y a b L hl hy i hi=>by
   rw[QvP (by simp only[QvZ];omega),QvQ (by omega),QvQ (by omega)];exact hy i hi
  have hc0:∀Y,KpO (H++[iC 0,eC 0,.cells 61 4 [.agg [.sl 3 (tks ts) none,.i 0,.v (.slice none 0 0),.v (.map none)]]]++[AB.dead,.dead]) (P0 H ts) (h.length+1) Y->Y[H.length]? = some (iC 0)/\Y[H.length+1]? = some (eC 0)/\h.length+7<=Y.length/\(∀i,i<h.length->Y[i]? = h[i]?)/\Y[h.length]? = some (rZ0):=fun Y hY=>by
   refine⟨?_,?_,by have:=hY.long;omega,fun i hi=>?_,?_⟩
   ·rw[hY.out H.length (by omega) (by omega) (by simp only[P0];omega) (by simp only[P0];omega) (by simp only[P0];omega),QvS,YY];rfl
   ·rw[hY.out (H.length+1) (by omega) (by omega) (by simp only[P0];omega) (by simp only[P0];omega) (by simp only[P0];omega),QvS,hget];rfl
   ·rw[hY.out i (by omega) (by omega) (by simp only[P0];omega) (by simp only[P0];omega) (by simp only[P0];omega)];exact hout i hi
   ·rw[hY.out h.length (by omega) (by omega) (by simp only[P0];omega) (by simp only[P0];omega) (by simp only[P0];omega),QvS,QvP (by omega),hH,YY];rfl
  cases hp:Qak ⟨ts,[]⟩with
  |err p e =>
   rw[hp]at cf
   have e0:(e != 0)=true:=by simpa using Qom hW hp
   have cr:=Qh3 hs (.fn (.func 37) [] [.ptr (h.length+1) 0 0]) H hHG (fun Y=>h.length+2<=Y.length/\(∀i,i<h.length->Y[i]? = h[i]?)/\Y[h.length]? = some (rZ0))
    (fun Y a b L hl hy=>⟨by simp only[QvO,QvZ];omega,hst (fun _=>True) Y a b L hl hy.2.1,by rw[QvP (by simp only[QvZ];omega),QvQ (by omega),QvQ (by omega)];exact hy.2.2⟩) (p:=p) (e:=e)
    (FunW.cl (cf.mono fun o h' q=>by
     obtain⟨q1,⟨Y,hY⟩,q2⟩:=q
     obtain⟨y1,y2,y3,y4,y5⟩:=hc0 Y hY
     exact⟨q1,⟨Y,y1,y2,by omega,y4,y5⟩,q2⟩))
   rw[hH]at cr
   refine Qa Tryz.func14 rfl Tryz.call14 Tryz.ntmps14 Tryz.results14 (by simp) ?_
   repeat first|(first|refine FunW.retE (FunW.call cr) fun Y=>?_|refine Qb ?_);simp only[go_sem,seval,e0,QvO]|refine hK _ ?_;clear hK
   have hY:=Y.2
   generalize Y.1=Y1 at *
   obtain⟨y0,y1,y2⟩:=hY
   have u1:∀y,(Y1.set h.length y)[h.length]? = some y:=fun y=>QvX (by omega)
   have ht:∀y,(Y1.set h.length y).take h.length=h:=fun y=>QwH fun i=>by
    by_cases hi:i<h.length
    ·rw[Qwa hi,QvQ (by omega)];exact y1 i hi
    ·rw[Qw0 (by omega),Qwu (by omega)]
   simp only[Xy,Ya,↓reduceIte,Qva,Qvb,Nat.reduceAdd,Qu9,Qvv,QuX,Qvr,QuZ,y2]
   repeat first|refine Qb ?_;simp only[go_sem,seval]|refine hK _ ?_;clear hK
   simp only[go_sem,seval,u1]
   exact Qc (ht _) (QfS _ _) ⟨by simp only[hp],rfl⟩
  |ok pg s2 =>
   rw[hp]at cf
   have e0:((0:Int) != 0)=false:=rfl
   obtain⟨D,hDe⟩:∃D,D=AB.cells 40 6 [pg.av]:=⟨_,rfl⟩
   have cr:=QkE hs (.fn (.func 37) [] [.ptr (h.length+1) 0 0]) H hHG (fun Y=>h.length+2<=Y.length/\(∀i,i<h.length->Y[i]? = h[i]?)/\Y[h.length]? = some (rZ0)/\Y[h.length+1]? = some D)
    (fun Y a b L hl hy=>⟨by simp only[QvO,QvZ];omega,hst (fun _=>True) Y a b L hl hy.2.1,by rw[QvP (by simp only[QvZ];omega),QvQ (by omega),QvQ (by omega)];exact hy.2.2.1,by rw[QvP (by simp only[QvZ];omega),QvQ (by omega),QvQ (by omega)];exact hy.2.2.2⟩)
    (FunW.cl (cf.mono fun o h' q=>by
     obtain⟨q1,⟨Y,hY,hY2⟩,q2⟩:=q
     obtain⟨y1,y2,y3,y4,y5⟩:=hc0 Y hY
     exact⟨q1,⟨Y,y1,y2,by omega,y4,y5,by rw[hDe];exact hY2⟩,q2⟩))
   rw[hH]at cr
   refine Qa Tryz.func14 rfl Tryz.call14 Tryz.ntmps14 Tryz.results14 (by simp) ?_
   repeat first|(first|refine FunW.retE (FunW.call cr) fun Y=>?_|refine Qb ?_);simp only[go_sem,seval,QvO]|refine hK _ ?_;clear hK
   have hY:=Y.2
   generalize Y.1=Y1 at *
   obtain⟨y0,y1,y2,y3⟩:=hY
   rw[hDe]at y3
   have u1:∀y,(Y1.set h.length y)[h.length]? = some y:=fun y=>QvX (by omega)
   have ht:∀y,(Y1.set h.length y).take h.length=h:=fun y=>QwH fun i=>by
    by_cases hi:i<h.length
    ·rw[Qwa hi,QvQ (by omega)];exact y1 i hi
    ·rw[Qw0 (by omega),Qwu (by omega)]
   have rc:=Rl.cells pg
   have ri:=Rl.isAgg pg
   simp only[Xy,Ya,Qvh,Qvi,ZF,ZG,QaO,Qvj,↓reduceIte,Qva,Qvb,Nat.reduceAdd,Qu9,Qvv,QuX,Qvr,QuZ,y2,y3,rc,ri]
   repeat first|refine Qb ?_;simp only[go_sem,seval]|refine hK _ ?_;clear hK
   simp only[go_sem,seval,u1,rc,ri]
   exact Qc (ht _) (.keep (QjE _ (.inl pg))) ⟨by simp only[hp];rfl,rfl⟩
end
end Go.Proofs.YticgcpebdldbgaaGreatDoor.Ab
namespace Go.Proofs.YticgcpebdldbgaaGreatDoor.Ab
open Go.Proofs
def tvB(n:Nat)(l:List Int):Prop:=∀v∈l,0<=v/\v<n
theorem tvB.mono{n m:Nat}{l:List Int}(h:tvB n l)(hn:n<=m):tvB m l:=fun v hv=>by have:=h v hv;omega
theorem tvB.app{n:Nat}{l m:List Int}(h:tvB n l)(k:tvB n m):tvB n (l++m):=fun v hv=>(Qwz.1 hv).elim (h v) (k v)
theorem Qae(n:Nat):tvB n []:=fun v hv=>(Qv7 hv).elim
def VbT(f:PS->PR T):Prop:=∀s t s2,f s = .ok t s2->s.names.length<=s2.names.length/\tvB s2.names.length t.vars/\tvB s2.names.length (QI t.args)
theorem Qca{b:List UInt8}{s s2:PS}{u:Unit}(h:Xc b s = .ok u s2):s2.names=s.names:=by
 unfold Xc at h
 split at h
 ·cases h;rfl
 ·cases h
theorem Qmr{s s2:PS}{x:ByteArray}(h:YE s = .ok x s2):s2.names=s.names:=by
 unfold YE at h
 split at h
 ·cases h
 ·split at h
  ·cases h
  ·cases h;rfl
theorem QlX(t:T):QI [t]=t.vars:=by simp[QI]
section
variable{ex:PS->PR T}(H:VbT ex)
include H
theorem Qnd:∀(m:Nat) (l:List T) (s:PS) (a:List T) (s2:PS),tvB s.names.length (QI l)->Yu ex m l s = .ok a s2->s.names.length<=s2.names.length/\tvB s2.names.length (QI a)
 |0,_,_,_,_,_,h=>by cases h
 |m+1,l,s,a,s2,hl,h=>by
  rw[Yu]at h
  obtain⟨t,s1,h1,h⟩:=bind_ok h
  obtain⟨a1,a2,_⟩:=H s t s1 h1
  have hl2:tvB s1.names.length (QI (l++[t])):=by rw[Qeb,QlX];exact(hl.mono a1).app a2
  split at h
  ·obtain⟨b1,b2⟩:=Qnd m (l++[t]) s1.nx a s2 hl2 h
   exact⟨Qwh a1 b1,b2⟩
  ·obtain⟨u,s3,h3,h⟩:=bind_ok h
   have e:=Qca h3
   cases h
   rw[e];exact⟨a1,hl2⟩
theorem Qq9{s s2:PS}{g:G}(h:Yc ex s = .ok g s2):s.names.length<=s2.names.length/\tvB s2.names.length (QI g.args):=by
 rw[Yc]at h
 obtain⟨x,s1,h1,h⟩:=bind_ok h
 have e:=Qmr h1
 split at h
 ·obtain⟨l,s3,h3,h⟩:=bind_ok h
  obtain⟨b1,b2⟩:=Qnd H _ [] s1.nx l s3 (by rw[QI];exact Qae _) h3
  cases h
  exact⟨by rw[<-e];exact b1,b2⟩
 ·cases h
  exact⟨by rw[e];exact QvV _,by show tvB _ (QI []);rw[QI];exact Qae _⟩
theorem Qsw:VbT (pOpT ex):=fun s t s2 h=>by
 unfold pOpT at h
 split at h
 ·cases h;exact⟨QvV _,by simp only[T.vars];exact Qae _,Qae _⟩
 ·split at h
  ·unfold pVari at h
   split at h
   ·rename_i hv
    cases h
    refine⟨QvV _,?_,Qae _⟩
    show tvB s.nx.names.length [_]
    intro v hm
    rw[QwB]at hm
    subst hm
    omega
   ·cases h
    refine⟨by show s.names.length<=(s.nx.names++[_]).length;rw[QvO];exact Nat.le_add_right _ _,?_,Qae _⟩
    show tvB (s.nx.names++[_]).length [_]
    intro v hm
    rw[QwB]at hm
    subst hm
    rw[QvO,QwG]
    omega
  ·split at h
   ·obtain⟨a,s1,h1,h⟩:=bind_ok h
    obtain⟨b1,b2⟩:=Qq9 H h1
    cases h
    refine⟨b1,?_,b2⟩
    simp only[T.vars]
    exact b2
   ·split at h
    ·split at h
     ·cases h
     ·cases h;exact⟨QvV _,by simp only[T.vars];exact Qae _,Qae _⟩
    ·split at h
     ·obtain⟨t1,s1,h1,h⟩:=bind_ok h
      obtain⟨u,s3,h3,h⟩:=bind_ok h
      obtain⟨a1,a2⟩:=H _ _ _ h1
      have e:=Qca h3
      cases h
      rw[e];exact⟨a1,a2⟩
     ·cases h
end
theorem QiN{op:PS->PR T}(H:VbT op)(ops:List (List UInt8)):∀(m:Nat) (t:T) (s:PS) (a:T) (s2:PS),tvB s.names.length t.vars->tvB s.names.length (QI t.args)->Xj op ops m t s = .ok a s2->s.names.length<=s2.names.length/\tvB s2.names.length a.vars/\tvB s2.names.length (QI a.args)
 |0,t,s,a,s2,ht,hk,h=>by cases h;exact⟨QvV _,ht,hk⟩
 |m+1,t,s,a,s2,ht,hk,h=>by
  rw[Xj]at h
  split at h
  ·obtain⟨u,s3,h3,h⟩:=bind_ok h
   obtain⟨a1,a2,_⟩:=H _ _ _ h3
   have a1':s.names.length<=s3.names.length:=a1
   have hv:tvB s3.names.length (QI [t,u]):=by simp only[QI,Qvq];exact(ht.mono a1').app a2
   obtain⟨b1,b2⟩:=QiN H ops m (.mk 2 0 s.tk.text [t,u]) s3 a s2 (by simp only[T.vars];exact hv) hv h
   exact⟨Qwh a1' b1,b2⟩
  ·cases h;exact⟨QvV _,ht,hk⟩
theorem Qk1{op:PS->PR T}(H:VbT op)(ops:List (List UInt8)):VbT (XH op ops):=fun s t s2 h=>by
 rw[XH]at h
 obtain⟨u,s1,h1,h⟩:=bind_ok h
 obtain⟨a1,a2,a3⟩:=H _ _ _ h1
 obtain⟨b1,b2⟩:=QiN H ops _ u s1 t s2 a2 a3 h
 exact⟨Qwh a1 b1,b2⟩
theorem Qk5:∀n:Nat,VbT (XP n)
 |0=>fun s t s2 h=>by cases h
 |n+1=>Qk1 (Qk1 (Qsw (Qk5 n)) Xs) Ys
theorem Qie:VbT Xn:=fun s t s2 h=>Qk5 _ s t s2 h
theorem Qoi{op:Int}{s s2:PS}{g:G}(h:Qbh op s = .ok g s2):s.names.length<=s2.names.length/\tvB s2.names.length (QI g.args):=by
 rw[Qbh]at h
 obtain⟨u,s1,h1,h⟩:=bind_ok h
 obtain⟨t,s3,h3,h⟩:=bind_ok h
 obtain⟨w,s4,h4,h⟩:=bind_ok h
 obtain⟨a1,a2,_⟩:=Qie _ _ _ h3
 have e1:=Qca h1
 have e4:=Qca h4
 cases h
 rw[e4]
 exact⟨by rw[<-e1];exact a1,by show tvB _ (QI [t]);rw[QlX];exact a2⟩
theorem Qpy{s s2:PS}{g:G}(h:Zs s = .ok g s2):s.names.length<=s2.names.length/\tvB s2.names.length (QI g.args):=by
 have e0:QI []=[]:=rfl
 unfold Zs at h
 split at h
 ·split at h
  ·cases h;exact⟨QvV _,by show tvB _ (QI []);rw[e0];exact Qae _⟩
  ·split at h
   ·cases h;exact⟨QvV _,by show tvB _ (QI []);rw[e0];exact Qae _⟩
   ·split at h
    ·exact Qoi (s:=s.nx) h
    ·split at h
     ·exact Qoi (s:=s.nx) h
     ·cases h
 ·obtain⟨t,s1,h1,h⟩:=bind_ok h
  obtain⟨a1,a2,a3⟩:=Qie _ _ _ h1
  split at h
  ·rename_i op turn hc
   obtain⟨u,s3,h3,h⟩:=bind_ok h
   obtain⟨b1,b2,_⟩:=Qie _ _ _ h3
   have b1':s1.names.length<=s3.names.length:=b1
   cases h
   refine⟨Qwh a1 b1',?_⟩
   show tvB s2.names.length (QI (if turn=true then[u,t]else[t,u]))
   split
   ·simp only[QI,Qvq];exact b2.app (a2.mono b1')
   ·simp only[QI,Qvq];exact(a2.mono b1').app b2
  ·split at h
   ·cases h
    exact⟨a1,a3⟩
   ·cases h
theorem Qke(l:List G)(g:G):QB (l++[g])=QB l++QI g.args:=by simp[QB]
theorem QiY(most:Nat):∀(m:Nat) (l:List G) (s:PS) (a:List G) (s2:PS),tvB s.names.length (QB l)->XQ most m l s = .ok a s2->s.names.length<=s2.names.length/\tvB s2.names.length (QB a)
 |0,_,_,_,_,_,h=>by cases h
 |m+1,l,s,a,s2,hl,h=>by
  rw[XQ]at h
  split at h
  ·cases h
  ·obtain⟨g,s1,h1,h⟩:=bind_ok h
   obtain⟨a1,a2⟩:=Qpy h1
   have hl2:tvB s1.names.length (QB (l++[g])):=by rw[Qke];exact(hl.mono a1).app a2
   split at h
   ·cases h
   ·split at h
    ·obtain⟨b1,b2⟩:=QiY most m _ s1.nx a s2 hl2 h
     exact⟨Qwh a1 b1,b2⟩
    ·cases h;exact⟨a1,hl2⟩
theorem QpA{most:Nat}{s s2:PS}{a:List G}(h:Xt most s = .ok a s2):tvB s2.names.length (QB a):=(QiY most _ [] s a s2 (Qae _) h).2
end Go.Proofs.YticgcpebdldbgaaGreatDoor.Ab
namespace Go.Proofs.YticgcpebdldbgaaGreatDoor.Ab
open Go.Proofs
structure KpG (h:AH) (P:Pz) (o o2:Nat) (Y:AH):Prop where
 long:h.length<=Y.length
 out:∀i,i<h.length->i≠o->i≠o2->i≠P.i->i≠P.j->i≠P.g->Y[i]? = h[i]?
def GfQ(h:AH)(P:Pz)(o o2:Nat):PR (List G×List ByteArray)->AOut->AH->Prop
 | .ok q _,x,h'=>x = .ret (.tup [])/\∃Y:{Y:AH // KpG h P o o2 Y/\Y[o]? = some (.cells 32 1 [.sl 3 (lvG gv h.length q.1) none])/\At Y h.length (layG 48 h.length q.1)/\Y[o2]? = some (.cells 33 1 [.sl 1 (strs q.2) none])},h'=Y.1
 | .err p e,x,h'=>x = .panic (Fl p e)/\∃Y:{Y:AH // KpG h P o o2 Y/\Y[o2]? = h[o2]?},h'=Y.1
def qV(l:List G):List G:=l.map fun g=>⟨g.op,g.name,maps (fun v=>((plc (ded [] (QB l)) v:Nat):Int)) g.args⟩
def qN(s:PS)(l:List G):List ByteArray:=(ded [] (QB l)).map fun v=>s.names.getD v.toNat eB
theorem Qoo(s:PS):Qg1 s=(Xt 40 s).bind fun l s=>(pEnd s).bind fun _ s=>.ok (qV l,qN s l) s:=rfl
theorem QoC(l:List G):Q7 gG [] l=(qV l,ded [] (QB l)):=by
 have:=QbZ [] l []
 simp only[Qvq]at this
 exact this
mutual
theorem T.QuJ:∀t:T,t.vars.length<=t.nds
 | .mk k i x l=>by
  have:=Qf6 l
  simp only[T.vars,T.nds]
  split
  ·simp
  ·split
   ·omega
   ·simp
theorem Qf6:∀l:List T,(QI l).length<=ndsL l
 |[]=>by simp[QI]
 |t::l=>by
  have h1:=T.QuJ t
  have h2:=Qf6 l
  simp only[QI,ndsL,QvO]
  omega
end
theorem QgO:∀l:List G,(QB l).length<=ndG l
 |[]=>QvV _
 |g::l=>by
  have h1:=Qf6 g.args
  have h2:=QgO l
  have e:QB (g::l)=QI g.args++QB l:=by simp[QB]
  rw[e,QvO,ndG];omega
section
variable{P:Pz}{s:PS}(hW:Wst P.all s){h:AH}(H:P.ok h)(hN:P.all.length<=1000000)(hD:TkOk P.all){o o2:Nat}(hol:o<h.length)(hoi:o≠P.i)(hoj:o≠P.j)(hog:o≠P.g)
 (hpl:o2<h.length) (hpi:o2≠P.i) (hpj:o2≠P.j) (hpg:o2≠P.g) (hoo:o≠o2)
include hW H hN hD hol hoi hoj hog hpl hpi hpj hpg hoo
theorem QkB(hob:h[o]? = some (.cells 32 1 [nilV]))(hob2:h[o2]? = some (.cells 33 1 [nilV])):Ql Tryz.prog 28 [.ptr P.i 0 0,.ptr o 0 0,.ptr o2 0 0] (ph h P s) (GfQ h P o o2 (Qg1 s)):=by
 have cg:=Qdv hW H hN hD 40 (by omega)
 rw[Qoo]
 cases hr:Xt 40 s with
 |err p e =>
  rw[hr]at cg
  have cg2:Ql Tryz.prog 29 [.ptr P.i 0 0,.i 40] (ph h P s) fun o h'=>o = .panic (Fl p e)/\∃s2:PS,h'=ph h P s2:=cg
  refine Qa Tryz.func28 rfl Tryz.call28 Tryz.ntmps28 Tryz.results28 (by simp) ?_
  with_reducible repeat first|(first|refine Qf fun K E hK hE=>?_|refine FunW.panE (FunW.call cg2) fun r=>?_);simp only[go_sem,seval]|refine hE _ _ ?_
  exact .inr ⟨rfl,⟨_,⟨by rw[Qq];exact QvV _,fun i h1 h2 h3 h4 h5 h6=>by rw[Yv H h4 h5 h6]⟩,by rw[Yv H hpi hpj hpg]⟩,rfl⟩
 |ok l s2 =>
  rw[hr]at cg
  have cg2:Ql Tryz.prog 29 [.ptr P.i 0 0,.i 40] (ph h P s) fun o h'=>o = .ret (.sl 3 (lvG gv h.length l) none)/\h'=ph h P s2++layG 48 h.length l:=cg
  have hW2:Wst P.all s2:=Kp.Ps.ok (n:=wdOf P.all) (Kp.goals_ps trivial 40) hW hr
  have hl0:=Qev hr
  have f1:=Qq h P s2
  obtain⟨X,hX⟩:∃X,X=(ph h P s2++layG 48 h.length l).set o (.cells 32 1 [.sl 3 (lvG gv h.length l) none]):=⟨_,rfl⟩
  have hXl:X.length=h.length+gsz l:=by rw[hX,QvZ,QvO,Qq,Qo]
  have g0:(ph h P s2++layG 48 h.length l)[o]? = some (.cells 32 1 [nilV]):=by rw[QvP (by omega),Yv H hoi hoj hog];exact hob
  have hXo:X[o]? = some (.cells 32 1 [.sl 3 (lvG gv h.length l) none]):=by rw[hX];exact QvX (by rw[QvO];omega)
  have hXi:X[P.i]? = some (pN P s2 (some P.g)):=by rw[hX,QvQ hoi,QvP (by rw[f1];exact H.i),XF H];rfl
  have hXlow:∀i,i<h.length->i≠o->i≠P.i->i≠P.j->i≠P.g->X[i]? = h[i]? := fun i h1 h2 h3 h4 h5=>by rw[hX,QvQ (QwK h2),QvP (by omega),Yv H h3 h4 h5]
  have hXA:At X h.length (layG 48 h.length l):=by
   have:=At.base (At.mid [] (layG 48 h.length l) [] rfl) f1
   rw[Qvo,Qvq]at this
   refine At.keep this fun i i1 i2=>?_
   rw[hX,QvQ (by omega)]
  have hi3:=hXi
  rw[pN]at hi3
  by_cases hk:s2.tk.kind=0
  ·have ce:=Qk3 hW2 hXi hk
   have hE:((PR.ok l s2).bind fun l s=>(pEnd s).bind fun _ s=>PR.ok (qV l,qN s l) s) = .ok (qV l,qN s2 l) s2:=by
    have:pEnd s2 = .ok () s2:=by rw[pEnd,QvY hk]
    show(pEnd s2).bind _=_
    rw[this];rfl
   rw[hE]
   rw[hX]at ce hi3
   refine Qa Tryz.func28 rfl Tryz.call28 Tryz.ntmps28 Tryz.results28 (by simp) ?_
   iterate 6 (try (first|((first|(with_reducible (first|refine Qf fun K E hK hE=>?_|refine FunW.Qt4 cg2 ?_|refine FunW.Qt4 ce ?_)));simp only[go_sem,seval,g0,hi3])|((with_reducible refine hK _ ?_);clear hK)))
   rw[<-hX]
   have hXo2:X[o2]? = some (.cells 33 1 [nilV]):=by rw[hXlow o2 hpl (QwK hoo) hpi hpj hpg];exact hob2
   refine Xl o2 33 1 1 (.grow 9 1 0) (.inr ⟨_,rfl⟩) [nilV] [.sl 1 [] (some X.length)] 0 hXo2 rfl rfl (by simp[AV.cells]) ?_
   obtain⟨X2,hX2⟩:∃X2,X2=(X++[AB.grow 9 1 0]).set o2 (.cells 33 1 [.sl 1 [] (some X.length)]):=⟨_,rfl⟩
   rw[<-hX2]
   have hX2l:X2.length=X.length+1:=by rw[hX2,QvZ,QvO];rfl
   have hX2e:∀i,i<X.length->i≠o2->X2[i]? = X[i]? := fun i h1 h2=>by rw[hX2,QvQ (QwK h2),QvP h1]
   have hX2p:X2[o2]? = some (.cells 33 1 [.sl 1 [] (some X.length)]):=by rw[hX2];exact QvX (by rw[QvO];omega)
   have hX2t:X2[X.length]? = some (.grow 9 1 0):=by rw[hX2,QvQ (by omega),QvR (QvV _),Qwm];rfl
   iterate 2 (try (first|(((with_reducible refine Qf fun K E hK hE=>?_));simp only[go_sem,seval])|((with_reducible refine hK _ ?_);clear hK)))
   refine Xl X2.length 80 2 1 (.grow 3 1 0) (.inr ⟨_,rfl⟩) [.agg [.v (.map none),.v (.slice none 0 0)]] [.agg [.v (.map none),.sl 1 [] (some (X2.length+1))]] 1 (by rw[QvR (QvV _),Qwm];rfl) rfl (by rw[QvO];rfl) (by simp[AV.cells]) ?_
   have hZ:((X2++[AB.cells 80 2 [.agg [.v (.map none),.v (.slice none 0 0)]]])++[AB.grow 3 1 0]).set X2.length (AB.cells 80 2 [.agg [.v (.map none),.sl 1 [] (some (X2.length+1))]])=X2++[AB.cells 80 2 [.agg [.v (.map none),.sl 1 [] (some (X2.length+1))]],AB.grow 3 1 0]:=by
    rw[QvS,Qwt _ _ (QvV _),Qwm];rfl
   have hN0:NSt (X2++[AB.cells 80 2 [.agg [.v (.map none),.sl 1 [] (some (X2.length+1))]],.grow 3 1 0]) X2.length []:=⟨.v (.map none),by rw[QvR (QvV _),Qwm];rfl,by rw[QvR (by omega),Qwf];rfl,.inl ⟨rfl,rfl⟩⟩
   rw[hZ]
   obtain⟨Z0,hZ0⟩:∃Z0,Z0=X2++[AB.cells 80 2 [.agg [.v (.map none),.sl 1 [] (some (X2.length+1))]],AB.grow 3 1 0]:=⟨_,rfl⟩
   rw[<-hZ0]at hN0
   rw[<-hZ0]
   have hZl:Z0.length=X2.length+2:=by rw[hZ0,QvO];rfl
   have hZe:∀i,i<X2.length->Z0[i]? = X2[i]? := fun i h1=>by rw[hZ0,QvP h1]
   obtain⟨hok,hl40⟩:=Qaw hr
   have hps:∀g∈l,pss g.args:=fun g hg=>(QbW (hok g hg)).1
   have hnd:∀m:List G,(∀g∈m,ndsL g.args<=200)->ndG m<=200 * m.length:=fun m=>by
    induction m with
    |nil=>intro _;exact QvV _
    |cons g m ih =>
     intro hm
     have h1:=hm g (by simp)
     have h2:=ih fun x hx=>hm x (by simp[hx])
     rw[ndG,Qva];omega
   have hnl:=hnd l fun g hg=>(QbW (hok g hg)).2
   have hZA:At Z0 h.length (layG 48 h.length l):=hXA.keep fun i i1 i2=>by rw[Qo]at i2;rw[hZe i (by omega),hX2e i (by omega) (by omega)]
   have hZo:Z0[o]? = some (.cells 32 1 [.sl 3 (lvG gv h.length l) none]):=by rw[hZe o (by omega),hX2e o (by omega) hoo];exact hXo
   have c1:=retQ (Qfe l hps Z0 X2.length h.length [] (by omega) (by simp only[Qvb];omega) (by omega) (by omega) hN0 hZA)
   rw[Qgq gv 3 h.length hl0]at c1
   with_reducible repeat first|(first|refine Qf fun K E hK hE=>?_|refine FunW.retE (FunW.call c1) fun Y=>?_);simp only[go_sem,seval,hZo]|refine hK _ ?_;clear hK
   have hY:=Y.2
   generalize Y.1=Y1 at *
   obtain⟨_,p1,n1,a1⟩:=hY
   rw[QoC]at n1 a1
   simp only at n1 a1
   obtain⟨toV,z1,z2,z3⟩:=n1
   have hvb:=QpA hr
   generalize hOr:ded [] (QB l)=ord at *
   have hord:∀v∈ord,0<=v/\v<s2.names.length:=fun v hv=>hvb v (by rw[<-hOr,Zl]at hv;exact hv.resolve_left (Qv7))
   have hl1:X2.length+1<Y1.length:=Qe z2
   have hYe:∀i,i<X2.length->¬(h.length<=i/\i<h.length+gsz l)->Y1[i]? = X2[i]? := fun i h1 h2=>by rw[p1.out i h1 h2,hZe i h1]
   have hYi:Y1[P.i]? = some (pN P s2 (some P.g)):=by rw[hYe P.i (by have:=H.i;omega) (by have:=H.i;omega),hX2e P.i (by have:=H.i;omega) (QwK hpi)];exact hXi
   have hYo:Y1[o]? = some (.cells 32 1 [.sl 3 (lvG gv h.length l) none]):=by rw[hYe o (by omega) (by omega),hX2e o (by omega) hoo];exact hXo
   have hYp:Y1[o2]? = some (.cells 33 1 [.sl 1 [] (some X.length)]):=by rw[hYe o2 (by omega) (by omega)];exact hX2p
   have hYt:Y1[X.length]? = some (.grow 9 1 0):=by rw[hYe X.length (by omega) (by omega)];exact hX2t
   have hYk:KpG h P o o2 Y1:=⟨by omega,fun i h1 h2 h3 h4 h5 h6=>by rw[hYe i (by omega) (by omega),hX2e i (by omega) h3];exact hXlow i h1 h2 h4 h5 h6⟩
   have hqn:qN s2 l=ord.map fun v=>s2.names.getD v.toNat eB:=by rw[qN,hOr]
   have hnm:(qN s2 l).length=ord.length:=by rw[hqn,Qwn]
   have hob:ord.length<=1000000:=by
    have:=Xu [] (QB l)
    have h3:(QB l).length<=ndG l:=QgO l
    rw[hOr]at this
    simp only[Qvb]at this
    omega
   simp only[Xy,QuX,QuY,QuZ,YB,z1,YB]
   iterate 1 (try (((with_reducible refine hK _ ?_);clear hK)))
   iterate 2 (try ((with_reducible refine QA ?_)))
   obtain⟨I,hI⟩:∃I:Nat->AS->Prop,I=fun m' s=>∃j:Nat,m'=ord.length - j/\j<=ord.length/\s.h.length=Y1.length/\(∀i,i≠o2->i≠X.length->s.h[i]? = Y1[i]?)/\s.h[o2]? = some (.cells 33 1 [.sl 1 (strs ((qN s2 l).take j)) (some X.length)])/\s.h[X.length]? = some (.grow 9 1 j)/\s.tm 0 = .ptr P.i 0 0/\s.tm 2 = .ptr o2 0 0/\s.tm 16 = .sl 1 (ints ord) (some (X2.length+1))/\s.tm 17 = .i ord.length/\s.tm 18 = .i j:=⟨_,rfl⟩;refine Qk I ?_ (m:=ord.length) ?_
   ·intro m' s hs;rw[hI]at hs;obtain⟨tm,hp⟩:=s;dsimp only at hs;obtain⟨j,rfl,hj,hle,hfr,hs2,hst,t0,t2,t16,t17,t18⟩:=hs
    have hpi2:hp[P.i]? = some (pN P s2 (some P.g)):=by rw[hfr P.i (QwK hpi) (by have:=H.i;omega)];exact hYi
    rw[pN]at hpi2
    by_cases hlt:j<ord.length
    ·have y1:((j:Nat):Int)<((ord.length:Nat):Int):=by omega
     have hv:=hord _ (Qww hlt)
     obtain⟨k,hk⟩:∃k:Nat,ord[j]=(k:Int):=⟨ord[j].toNat,by omega⟩
     have hat:(ints ord)[j]? = some (.i ((k:Nat):Int)):=by rw[<-hk];exact QbY hlt
     rw[hk]at hv
     have hkl:k<s2.names.length:=by omega
     have hnk:(strs s2.names)[k]? = some (.v (.string s2.names[k])):=by rw[strs,Qwk,QvW hkl];rfl
     have w1:IntKind.i64.wrap (((j:Nat):Int)+1)=((j+1:Nat):Int):=Qz (by omega)
     have htl:(strs ((qN s2 l).take j)).length=j:=by rw[Xg,Qwi,hnm];omega
     have hm1:(j+1) * 16<=140737488355328:=by omega
     have hm2:j+1<=maxLen:=by simp only[maxLen];omega
     have hX9:X.length<hp.length:=Qe hst
     have u1:∀y,(hp.set X.length y)[o2]? = some (.cells 33 1 [.sl 1 (strs ((qN s2 l).take j)) (some X.length)]):=fun y=>by rw[QvQ (by omega)];exact hs2
     have hnext:strs ((qN s2 l).take (j+1))=strs ((qN s2 l).take j)++[.v (.string s2.names[k])]:=by
      rw[Qws (by omega),Qa8]
      congr 1
      simp only[hqn,List.getElem_map,hk,QvA,strs,Qvc,Qvg]
      rw[Qwv,QvW hkl];rfl
     repeat first|(first|with_reducible (first|refine Qf fun K E hK hE=>?_|refine Qr fun K E hK hE=>?_)|refine Qg (id:=7) [(0,0),(1,0),(2,0),(3,0),(4,0),(5,0),(6,0),(7,0),(8,0),(9,2),(10,2)] mixed (by kernel_rfl) fun K hK=>?_);simp only[go_sem,seval,t0,t2,t16,t17,t18,y1,hat,hs2,hst,hpi2,hkl,hnk,Xg,htl,hm1,hm2,u1,w1]|with_reducible (first|refine Qn fun K hK=>?_|refine QA ?_|refine QG ?_|refine Qi ?_|refine QP ?_|refine hK _ ?_;clear hK|refine Qm rfl ?_;simp only[↓reduceIte])
     refine Qs.mk (m':=ord.length - (j+1)) (by omega) ?_
     rw[hI]
     refine⟨j+1,rfl,hlt,by simp only[QvZ];exact hle,fun i h1 h2=>by rw[QvQ (QwK h1),QvQ (QwK h2)];exact hfr i h1 h2,?_,?_,t0,t2,t16,t17,rfl⟩
     ·rw[hnext];exact QvX (by rw[QvZ];omega)
     ·rw[QvQ (by omega)];exact QvX hX9
    ·have hjl:j=ord.length:=by omega
     have y1:¬((j:Nat):Int)<((ord.length:Nat):Int):=by omega
     have hX9:X.length<hp.length:=Qe hst
     refine Yx o2 33 1 [.sl 1 (strs ((qN s2 l).take j)) (some X.length)] [.sl 1 (strs ((qN s2 l).take j)) none] 0
      (Wk.sl rfl (fun y hy=>by obtain⟨x,_,rfl⟩:=Qwg.1 hy;rfl) (WkL.refl _)) hs2 rfl rfl (fun x hx=>by rw[QwB]at hx;subst hx;rfl) ?_
     with_reducible repeat first|refine Qf fun K E hK hE=>?_;simp only[go_sem,seval,t17,t18,y1]|refine Qn fun K hK=>?_|refine Yp ?_|refine XY ?_|refine XX ?_|refine hK _ ?_;clear hK|refine Qm rfl ?_;simp only[↓reduceIte,Qu1]
     simp only[go_sem]
     have elv:lvG gv h.length (qV l)=lvG gv h.length l:=by
      have:=Qkk QqA h.length [] l
      rw[QoC]at this
      exact this
     have egs:gsz (qV l)=gsz l:=by
      have:=X6 [] l
      rw[QoC]at this
      exact this
     have htk:(qN s2 l).take j=qN s2 l:=Qw8 (by omega)
     refine .inr ⟨rfl,⟨_,⟨by rw[QvZ,hle];exact hYk.long,fun i h1 h2 h3 h4 h5 h6=>?_⟩,?_,?_,?_⟩,rfl⟩
     ·rw[QvQ (QwK h3),hfr i h3 (by omega)];exact hYk.out i h1 h2 h3 h4 h5 h6
     ·rw[QvQ (QwK hoo),hfr o hoo (by omega),elv];exact hYo
     ·refine a1.keep fun i i1 i2=>?_
      rw[Qo,egs]at i2
      rw[QvQ (by omega),hfr i (by omega) (by omega)]
     ·rw[htk];exact QvX (by omega)
   ·rw[hI]
    exact⟨0,rfl,Qv2 _,rfl,fun _ _ _=>rfl,hYp,hYt,rfl,rfl,rfl,rfl,rfl⟩
  ·have ce:=QnA hW2 hXi hk
   have hE:((PR.ok l s2).bind fun l s=>(pEnd s).bind fun _ s=>PR.ok (qV l,qN s l) s) = .err s2.tk.pos 16:=by
    have:pEnd s2 = .err s2.tk.pos 16:=by rw[pEnd,QvU hk]
    show(pEnd s2).bind _=_
    rw[this];rfl
   rw[hE]
   rw[hX]at ce hi3
   refine Qa Tryz.func28 rfl Tryz.call28 Tryz.ntmps28 Tryz.results28 (by simp) ?_
   with_reducible repeat first|(first|refine Qf fun K E hK hE=>?_|refine FunW.Qt4 cg2 ?_|refine FunW.pan (FunW.call ce) ?_);simp only[go_sem,seval,g0,hi3]|refine hK _ ?_;clear hK|refine hE _ _ ?_
   refine .inr ⟨rfl,⟨_,?_⟩,rfl⟩
   rw[<-hX]
   exact⟨⟨by omega,fun i h1 h2 h3 h4 h5 h6=>hXlow i h1 h2 h4 h5 h6⟩,hXlow o2 hpl (QwK hoo) hpi hpj hpg⟩
end
end Go.Proofs.YticgcpebdldbgaaGreatDoor.Ab
namespace Go.Proofs.YticgcpebdldbgaaGreatDoor.Ab
open Go.Proofs
abbrev cG(v:AV):AB:=.cells 32 1 [v]
abbrev cS(v:AV):AB:=.cells 33 1 [v]
def Qjs(l:List UInt8):(List G×List ByteArray) ⊕ (Int×Int):=match Xo l with
 | .inr e=>.inr e
 | .inl ts=>match Qg1 ⟨ts,[]⟩with
  | .ok p _=>.inl p
  | .err p e=>.inr (p,e)
theorem Qkv{all:List Tk}{s:PS}(hW:Wst all s){p e:Int}(h:Qg1 s = .err p e):e≠0:=Kp.Ps.err (n:=wdOf all) (Kp.query_ps trivial) hW h
def SqQ(h:AH):(List G×List ByteArray) ⊕ (Int×Int)->AOut->AH->Prop
 | .inl q,o,h'=>∃n,h.length<=n/\o = .ret (.tup [.sl 3 (lvG gv n q.1) none,.sl 1 (strs q.2) none,.i 0,.i 0])/\At h' n (layG 48 n q.1)/\h.length<=h'.length/\h'.take h.length=h
 | .inr e,o,h'=>o = .ret (.tup [nilV,nilV,.i e.1,.i e.2])/\h'=h
def sqR:(List G×List ByteArray) ⊕ (Int×Int)->AV
 | .inl q=>.tup [.sl 3 (vs G.goal q.1) none,.sl 1 (strs q.2) none,.i 0,.i 0]
 | .inr e=>.tup [nilV,nilV,.i e.1,.i e.2]
theorem QjR(n:Nat)(a b:Int):Below n (.tup [nilV,nilV,.i a,.i b]):=.tup _ fun x hx=>by
 simp only[Qv5,Qv7,QwQ]at hx
 rcases hx with rfl|rfl|rfl|rfl <;> exact .v _
theorem QeZ{P:Program}{f:FuncId}{args:List AV}{h:AH}{Q Q0:AOut->AH->Prop}(H:Ql P f args h Q0)
  (hp:(∀(i:Nat) b,h[i]? = some b->b.Below h.length)->∀o h',Q0 o h'->Q o h'\/∃l l',o = .ret (.tup l)/\h.length<=h'.length/\(∀b∈h'.take h.length,b.Below h.length)/\l'.length=l.length/\(∀(j:Nat) a a',l[j]? = some a->l'[j]? = some a'->Melt h' h.length a a')/\Q (.ret (.tup l')) (h'.take h.length)):Ql P f args h Q:=by
 refine⟨H.1,fun F n c vals hF hs hh hvs=>(H.2 F n c vals hF hs hh hvs).mono ?_⟩
 rintro e w' ⟨o,c',hQ,hev,hst,hw,hex⟩
 rcases hp (fun i b hb=>by subst hh;exact hs.below hb) o c'.h hQ with hq|⟨l,l',rfl,h1,h2,hl,h3,h4⟩
 ·exact⟨o,c',hq,hev,hst,hw,hex⟩
 ·obtain⟨x,rfl,hr⟩:=hex
  refine⟨.ret (.tup l'),c'.cut h.length,h4,hev.cut (by rw[hh];exact QvV _) h1,hst.cut h1 h2,hw,x,rfl,?_⟩
  cases hr with
  |tup _ cs hl' hr =>
   refine .tup _ cs (by omega) fun j a' u ha' hu=>?_
   obtain⟨a,ha⟩:∃a,l[j]? = some a:=⟨_,QvW (by rw[<-hl];exact Qe ha')⟩
   exact(h3 j a a' ha ha').rel hst h1 (hr j a u ha hu)
section
variable(l:List UInt8)(h:AH)(hG:YZ h)
include hG
theorem QoD:Ql Tryz.prog 10 [.v (.string (mkB l))] h (SqQ h (Qjs l)):=by
 rw[Qjs]
 cases hs:Xo l with
 |inr q =>
  obtain⟨p,e⟩:=q
  have cr:=fun fv L=>QfO hs fv (h++L) (hG.app L)
  have e0:(e != 0)=true:=by simpa using Za hs
  refine Qa Tryz.func10 rfl Tryz.call10 Tryz.ntmps10 Tryz.results10 (by simp) ?_
  repeat first|(first|refine FunW.Qt4 (cr _ _) ?_|refine Qb ?_);simp only[go_sem,seval,e0]|refine hK _ ?_;clear hK
  exact Qc (htake _ _) (.keep (QjR _ _ _)) ⟨rfl,rfl⟩
 |inl ts =>
  obtain⟨hD,hW,hN,hl⟩:=QaI hs
  obtain⟨H,hH⟩:∃H,H=h++[cS nilV,cG nilV]:=⟨_,rfl⟩
  have hHl:H.length=h.length+2:=by rw[hH];simp
  have hHG:YZ H:=by rw[hH];exact hG.app _
  have hPo:=Qq3 H ts (.cells 61 4 [.agg [.sl 3 (tks ts) none,.i 0,.v (.slice none 0 0),.v (.map none)]])
  have hout:∀i,i<h.length->(H++[iC 0,eC 0,.cells 61 4 [.agg [.sl 3 (tks ts) none,.i 0,.v (.slice none 0 0),.v (.map none)]]]++[.dead,.dead])[i]? = h[i]? := fun i hi=>by
   rw[QvS,QvP (by omega),hH,QvP hi]
  have hlen:(H++[iC 0,eC 0,.cells 61 4 [.agg [.sl 3 (tks ts) none,.i 0,.v (.slice none 0 0),.v (.map none)]]]++[AB.dead,.dead]).length=h.length+7:=by simp only[QvO,Qva,Qvb,hHl]
  have cf:=QkB (P:=P0 H ts) (s:=⟨ts,[]⟩) hW hPo hN hD (o:=h.length+1) (o2:=h.length) (by omega) (by simp only[P0];omega) (by simp only[P0];omega) (by simp only[P0];omega) (by omega) (by simp only[P0];omega) (by simp only[P0];omega) (by simp only[P0];omega) (by omega)
   (by rw[QvS,QvP (by omega),hH,hget];rfl) (by rw[QvS,QvP (by omega),hH,YY];rfl)
  have hst:∀(K:AH->Prop) (Y:AH) a b L,H.length+1<Y.length->(∀i,i<h.length->Y[i]? = h[i]?)->∀i,i<h.length->((Y.set H.length a).set (H.length+1) b++L)[i]? = h[i]? := fun K Y a b L hl hy i hi=>by
   rw[QvP (by simp only[QvZ];omega),QvQ (by omega),QvQ (by omega)];exact hy i hi
  have hc0:∀Y,KpG (H++[iC 0,eC 0,.cells 61 4 [.agg [.sl 3 (tks ts) none,.i 0,.v (.slice none 0 0),.v (.map none)]]]++[AB.dead,.dead]) (P0 H ts) (h.length+1) h.length Y->Y[H.length]? = some (iC 0)/\Y[H.length+1]? = some (eC 0)/\h.length+7<=Y.length/\(∀i,i<h.length->Y[i]? = h[i]?):=fun Y hY=>by
   refine⟨?_,?_,by have:=hY.long;omega,fun i hi=>?_⟩
   ·rw[hY.out H.length (by omega) (by omega) (by omega) (by simp only[P0];omega) (by simp only[P0];omega) (by simp only[P0];omega),QvS,YY];rfl
   ·rw[hY.out (H.length+1) (by omega) (by omega) (by omega) (by simp only[P0];omega) (by simp only[P0];omega) (by simp only[P0];omega),QvS,hget];rfl
   ·rw[hY.out i (by omega) (by omega) (by omega) (by simp only[P0];omega) (by simp only[P0];omega) (by simp only[P0];omega)];exact hout i hi
  cases hp:Qg1 ⟨ts,[]⟩with
  |err p e =>
   rw[hp]at cf
   have e0:(e != 0)=true:=by simpa using Qkv hW hp
   have cr:=Qh3 hs (.fn (.func 28) [] [.ptr (h.length+1) 0 0,.ptr h.length 0 0]) H hHG (fun Y=>h.length+2<=Y.length/\(∀i,i<h.length->Y[i]? = h[i]?)/\Y[h.length]? = some (cS nilV))
    (fun Y a b L hl hy=>⟨by simp only[QvO,QvZ];omega,hst (fun _=>True) Y a b L hl hy.2.1,by rw[QvP (by simp only[QvZ];omega),QvQ (by omega),QvQ (by omega)];exact hy.2.2⟩) (p:=p) (e:=e)
    (FunW.cl (cf.mono fun o h' q=>by
     obtain⟨q1,⟨Y,hY,hY2⟩,q2⟩:=q
     obtain⟨y1,y2,y3,y4⟩:=hc0 Y hY
     exact⟨q1,⟨Y,y1,y2,by omega,y4,by rw[hY2,QvS,QvP (by omega),hH,YY];rfl⟩,q2⟩))
   rw[hH]at cr
   refine Qa Tryz.func10 rfl Tryz.call10 Tryz.ntmps10 Tryz.results10 (by simp) ?_
   repeat first|(first|refine FunW.retE (FunW.call cr) fun Y=>?_|refine Qb ?_);simp only[go_sem,seval,e0,QvO]|refine hK _ ?_;clear hK
   have hY:=Y.2
   generalize Y.1=Y1 at *
   obtain⟨y0,y1,y2⟩:=hY
   have u1:∀y,(Y1.set h.length y)[h.length]? = some y:=fun y=>QvX (by omega)
   have ht:∀y,(Y1.set h.length y).take h.length=h:=fun y=>QwH fun i=>by
    by_cases hi:i<h.length
    ·rw[Qwa hi,QvQ (by omega)];exact y1 i hi
    ·rw[Qw0 (by omega),Qwu (by omega)]
   simp only[Zx,QbC,↓reduceIte,Qva,Qvb,Qu9,Qvv,QuX,Qvr,QuZ,y2]
   repeat first|refine Qb ?_;simp only[go_sem,seval]|refine hK _ ?_;clear hK
   simp only[go_sem,seval,u1]
   refine Qc (ht _) (.keep (QjR _ _ _)) ?_
   simp only[hp];exact⟨rfl,rfl⟩
  |ok pg s2 =>
   rw[hp]at cf
   have e0:((0:Int) != 0)=false:=rfl
   have cr:=QkE hs (.fn (.func 28) [] [.ptr (h.length+1) 0 0,.ptr h.length 0 0]) H hHG (fun Y=>h.length+7<=Y.length/\(∀i,i<h.length->Y[i]? = h[i]?)/\Y[h.length+1]? = some (cG (.sl 3 (lvG gv (h.length+7) pg.1) none))/\At Y (h.length+7) (layG 48 (h.length+7) pg.1)/\Y[h.length]? = some (cS (.sl 1 (strs pg.2) none)))
    (fun Y a b L hl hy=>⟨by simp only[QvO,QvZ];omega,hst (fun _=>True) Y a b L hl hy.2.1,by rw[QvP (by simp only[QvZ];omega),QvQ (by omega),QvQ (by omega)];exact hy.2.2.1,
     (hy.2.2.2.1.keep fun i i1 i2=>by rw[QvQ (by omega),QvQ (by omega)]).app L,
     by rw[QvP (by simp only[QvZ];omega),QvQ (by omega),QvQ (by omega)];exact hy.2.2.2.2⟩)
    (FunW.cl (cf.mono fun o h' q=>by
     obtain⟨q1,⟨Y,hY,hY1,hY2,hY3⟩,q2⟩:=q
     rw[hlen]at hY1 hY2
     obtain⟨y1,y2,y3,y4⟩:=hc0 Y hY
     exact⟨q1,⟨Y,y1,y2,y3,y4,hY1,hY2,hY3⟩,q2⟩))
   rw[hH]at cr
   refine Qa Tryz.func10 rfl Tryz.call10 Tryz.ntmps10 Tryz.results10 (by simp) ?_
   repeat first|(first|refine FunW.retE (FunW.call cr) fun Y=>?_|refine Qh (id:=5) [(0,0),(1,0),(2,0),(3,2),(4,0),(5,0)] mixed (by kernel_rfl) fun K hK=>?_|refine Qb ?_);simp only[go_sem,seval,QvO]|refine hK _ ?_;clear hK
   have hY:=Y.2
   generalize Y.1=Y1 at *
   obtain⟨y0,y1,y2,y3,y4⟩:=hY
   have u1:∀y,(Y1.set h.length y)[h.length]? = some y:=fun y=>QvX (by omega)
   have u2:∀y,(Y1.set h.length y)[h.length+1]? = some (cG (.sl 3 (lvG gv (h.length+7) pg.1) none)):=fun y=>by rw[QvQ (by omega)];exact y2
   simp only[QcL,QcR,Qvh,Qvi,QaO,Qvj,↓reduceIte,Qva,Qvb,Qu9,Qvv,QuX,Qvr,QuZ,y2,y4]
   repeat first|refine Qb ?_;simp only[go_sem,seval]|refine hK _ ?_;clear hK
   simp only[go_sem,seval,u1]
   simp only[QjX,hp]
   refine .inr ⟨h.length+7,by omega,rfl,y3.keep fun i i1 i2=>?_,by rw[QvZ];omega,?_⟩
   ·rw[QvQ (by omega)]
   ·exact QwH fun i=>by
     by_cases hi:i<h.length
     ·rw[Qwa hi,QvQ (by omega)];exact y1 i hi
     ·rw[Qw0 (by omega),Qwu (by omega)]
theorem Qkw:Ql Tryz.prog 10 [.v (.string (mkB l))] h fun o h'=>o = .ret (sqR (Qjs l))/\h'=h:=by
 refine QeZ (QoD l h hG) fun hbel o h' q=>?_
 cases hq:Qjs l with
 |inr e=>rw[hq]at q;exact .inl q
 |inl g =>
  rw[hq]at q
  obtain⟨n,hn,rfl,hA,hl,ht⟩:=q
  refine .inr ⟨_,[.sl 3 (vs G.goal g.1) none,.sl 1 (strs g.2) none,.i 0,.i 0],rfl,hl,fun b hb=>?_,rfl,fun j a a' h1 h2=>?_,rfl,ht⟩
  ·rw[ht]at hb
   obtain⟨k,hk⟩:=List.mem_iff_getElem?.1 hb
   exact hbel k b hk
  ·match j,h1,h2 with
   |0,h1,h2 =>
    cases h1;cases h2
    obtain⟨e1,e2⟩:=QhR (m:=h.length) (w:=3) (vw:=gv) (vA:=G.goal) (fun _ _=>rfl) (fun _=>rfl) (fun n g hm hA j a a' h1 h3=>by
     match j,h1,h3 with
     |0,h1,h3=>cases h1;cases h3;exact .keep (.v _)
     |1,h1,h3=>cases h1;cases h3;exact .keep (.v _)
     |2,h1,h3=>cases h1;cases h3;exact Qfx hm hA
     |j+3,h1,h3=>simp[gv,AV.cells]at h1) n g.1 hn hA
    exact .sl (by rw[QL,Yb]) (fun y hy=>by obtain⟨x,_,rfl⟩:=Qwg.1 hy;rfl) e1 e2
   |1,h1,h2=>cases h1;cases h2;exact .keep (.sl 1 _ none (QbR _ _) (fun b hb=>by cases hb))
   |2,h1,h2=>cases h1;cases h2;exact .keep (.v _)
   |3,h1,h2=>cases h1;cases h2;exact .keep (.v _)
   |j+4,h1,h2=>simp at h1
end
end Go.Proofs.YticgcpebdldbgaaGreatDoor.Ab

