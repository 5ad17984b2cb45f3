/-
  An abstract program logic, contracts of functions, and laws of terms and rules (part 7).
-/
import Derived.Test.YticgcpebdldbgaaGreatDoorAbSix
import Derived.Test.YticgcpebdldbgaaGreatDoorAbTwo
import Derived.Test.YticgcpebdldbgaaGreatDoorAbThree
set_option linter.unusedVariables false
set_option linter.unusedSimpArgs false
set_option maxHeartbeats 4000000
set_option maxRecDepth 4000
namespace Go.Proofs.YticgcpebdldbgaaGreatDoor.Ab
open Go.Proofs
def SqC(h:AH):(List G×List ByteArray) ⊕ (Int×Int)->AOut->AH->Prop
 | .inl q,o,h'=>∃n tok,h.length<=n/\o = .ret (.tup [.arr n 0 q.1.length,.sl 1 (strs q.2) tok,.i 0,.i 0])/\h'[n]? = some (.cells 46 3 (vs G.goal q.1))/\h.length<=h'.length/\h'.take h.length=h
 | .inr e,o,h'=>o = .ret (.tup [nilV,nilV,.i e.1,.i e.2])/\h'=h
theorem Qsf{f:FuncId}{args:List AV}{h:AH}{r:(List G×List ByteArray) ⊕ (Int×Int)}(C:QA Tryz.prog f args h (SqC h r)):QA Tryz.prog f args h fun o h'=>o = .ret (sqR r)/\h'=h:=by
 refine Qe2 C fun hbel o h' q=>?_
 cases r with
 |inr e=>exact .inl q
 |inl g =>
  obtain⟨n,tok,hn,rfl,hA,hl,ht⟩:=q
  refine .inr ⟨_,[.sl 3 (vs G.goal g.1) none,.sl 1 (strs g.2) none,.i 0,.i 0],rfl,hl,fun b hb=>?_,rfl,fun j a a' h1 h2=>?_,rfl,ht⟩
  ·rw[ht]at hb
   obtain⟨k,hk⟩:=List.mem_iff_getElem?.1 hb
   exact hbel k b hk
  ·match j,h1,h2 with
   |0,h1,h2 =>
    cases h1;cases h2
    refine .arr hn hA (Z5 _ _) (fun y hy=>by obtain⟨x,_,rfl⟩:=QuZ.1 hy;rfl) (QuD _) fun j b b' e1 e2=>?_
    rw[e1]at e2
    cases e2
    refine .keep ?_
    obtain⟨x,hx,hxa⟩:=Qv1.1 (QuK e1)
    obtain⟨y,_,rfl⟩:=QuZ.1 hx
    exact Qfj.2 _ y b hxa
   |1,h1,h2 =>
    cases h1;cases h2
    refine .sl rfl (fun y hy=>by obtain⟨x,_,rfl⟩:=QuZ.1 hy;rfl) rfl fun j b b' e1 e2=>?_
    rw[e1]at e2
    cases e2
    exact .keep (QbE _ _ _ (QuK e1))
   |2,h1,h2=>cases h1;cases h2;exact .keep (.v _)
   |3,h1,h2=>cases h1;cases h2;exact .keep (.v _)
   |j+4,h1,h2=>simp at h1
theorem QpN(h:AH)(all:List Tk)(s:PS)(p e:Int):rh (h++[.dead,.dead]) h.length (h.length+1) all s p e=h++[rdB all (some (h.length+1)) s p e,gB s]:=by
 unfold rh hs2
 rw[Qva _ _ (QuD _),Qu9,Qva _ _ (by omega),Qvc];rfl
theorem Qne:∀m:List G,(∀g∈m,ndsL g.args<=200)->ndG m<=200 * m.length
 |[],_=>QuD _
 |g::m,hm=>by
  have h1:=hm g (by simp)
  have h2:=Qne m fun x hx=>hm x (by simp[hx])
  rw[ndG,QtS];omega
theorem QiO(l:List UInt8)(hl:l.length<=16384)(h:AH):QA Tryz.prog 11 [.v (.string (mkB l))] h (SqC h (Qct l)):=by
 have cs:=QlU l hl h
 unfold Qct
 cases hs:Zx l with
 |inr q =>
  obtain⟨x,e⟩:=q
  simp only[hs,scR]at cs
  have y1:(e != 0)=true:=by simpa using Qbr hs
  refine Qa Tryz.func11 rfl Tryz.call11 Tryz.ntmps11 Tryz.results11 (by simp) ?_
  repeat first|(first|with_reducible (first|refine Qd fun K E hK hE=>?_|refine Qj fun K E hK hE=>?_|refine FunW.QsR cs ?_)|refine Qi (id:=9) [(0,0),(1,0),(2,0),(3,0),(4,0),(5,0),(6,0),(7,0),(8,0),(9,0),(10,0),(11,0)] mixed (by kernel_rfl) fun K hK=>?_|refine Qh (id:=9) [(0,0),(1,0),(2,0),(3,0),(4,0),(5,0),(6,0),(7,0),(8,0),(9,0),(10,0),(11,0)] mixed (by kernel_rfl) fun K hK=>?_|refine Qi (id:=22) [(0,0),(1,0),(2,0),(3,0),(4,0),(5,0),(6,0),(7,0),(8,0),(9,0),(10,0),(11,0),(12,2),(13,0)] mixed (by kernel_rfl) fun K hK=>?_|refine Qh (id:=22) [(0,0),(1,0),(2,0),(3,0),(4,0),(5,0),(6,0),(7,0),(8,0),(9,0),(10,0),(11,0),(12,2),(13,0)] mixed (by kernel_rfl) fun K hK=>?_);simp only[XT,XF,Yj,QQ,QB,QN,OpW,YH,aop,undef,XU,Qul,Qum,X3,Xq,XD,AS.ev,QO,Q9,Xu,Xk,XC,QR,XA,Qz,Qy,Qt,XE,XL,XJ,QtM,Qt5,AV.QsU,QC,Xs,Xe,Q1,Q2,QY,Xi,Xo,QZ,QI,Xz,Xf,Q5,Q6,Q3,Xj,Xr,Q4,QtZ,Qt0,QL,QH,QM,Qw,QV,Qp,Qo,Qk,Xc,QW,QX,QT,Xh,Xn,QU,Qt1,Quo,Qup,Qt2,Qt3,↓reduceIte,QtS,QtT,Nat.reduceAdd,Nat.reduceLT,Nat.reduceLeDiff,Nat.reduceEqDiff,Nat.reduceSub,Nat.reduceMul,QtR,Qt4,Que,Quf,Qud,Ql,Qr,Xg,Zl,Zq,YI,XR,Xa,aBin,Zd,Q7,Zc,ZI,QF,aLen,Yo,Y6,X8,hget,Yh,hset,hlen,happ,QtF,QtG,Quv,Qt9,Qua,QtH,Quk,QtK,Quj,QtL,Qug,QtI,QtU,QtY,Qt7,Qt6,Qt8,QtQ,QtX,QtO,QtW,YX,YC,YK,Y9,YF,YE,goInt,Qub,Quc,QtN,Quq,Qui,Int.toNat_zero,Int.toNat_one,Quh,Qut,Quu,Qur,QtJ,Qun,beq_true,beq_false,rng0,rng1,rng2,rng3,rng4,rng5,rng6,rng7,rng8,XQ,Nat.reducePow,QuG,QuT,T.QsS,T.QsT,QG,Qs,ti0,zi0,ti3,zi3,un3,ti4,zi4,un4,ti9,ei9,zi9,un9,ti27,zi27,un27,ti32,ei32,ai32,zi32,un32,ti33,ei33,ai33,zi33,un33,ti44,ei44,ai44,zi44,un44,ti46,X4,X5,X6,zi46,sp46,ti48,YU,Y7,Zs,Zj,zi48,sp48,ti54,Zy,Zz,ZA,zi54,sp54,ti56,ei56,ai56,zi56,un56,ti65,ti67,zi67,un67,ti69,ZB,ZC,ZD,ZE,ZF,zi69,sp69,ti78,ei78,ai78,zi78,un78,ti82,Qus,Int.sub_zero,YG,QS,y1]|with_reducible (first|refine Qq fun K hK=>?_|refine Qu ?_|refine Xy ?_|refine Xl ?_|refine Xp ?_|refine QE ?_|refine Xb ?_|refine Qg ?_|refine Xm ?_|refine QK ?_|refine Qn ?_|refine Q8 ?_|refine QJ ?_|refine QP rfl ?_|refine hK _ ?_;clear hK|clear hK;refine hK _ ?_;clear hK|clear hK;clear hK;refine hK _ ?_;clear hK|clear hK;clear hK;clear hK;refine hK _ ?_;clear hK|refine Qm rfl ?_;simp only[↓reduceIte,QtJ])|intro (b:Bool);cases b
  simp only[XT,XF,Yj,QQ,QB,QN,OpW,YH,aop,undef,XU,Qul,Qum,X3,Xq,XD,AS.ev,QO,Q9,Xu,Xk,XC,QR,XA,Qz,Qy,Qt,XE,XL,XJ,QtM,Qt5,AV.QsU,QC,Xs,Xe,Q1,Q2,QY,Xi,Xo,QZ,QI,Xz,Xf,Q5,Q6,Q3,Xj,Xr,Q4,QtZ,Qt0,QL,QH,QM,Qw,QV,Qp,Qo,Qk,Xc,QW,QX,QT,Xh,Xn,QU,Qt1,Quo,Qup,Qt2,Qt3,↓reduceIte,QtS,QtT,Nat.reduceAdd,Nat.reduceLT,Nat.reduceLeDiff,Nat.reduceEqDiff,Nat.reduceSub,Nat.reduceMul,QtR,Qt4,Que,Quf,Qud,Ql,Qr,Xg,Zl,Zq,YI,XR,Xa,aBin,Zd,Q7,Zc,ZI,QF,aLen,Yo,Y6,X8,hget,Yh,hset,hlen,happ,QtF,QtG,Quv,Qt9,Qua,QtH,Quk,QtK,Quj,QtL,Qug,QtI,QtU,QtY,Qt7,Qt6,Qt8,QtQ,QtX,QtO,QtW,YX,YC,YK,Y9,YF,YE,goInt,Qub,Quc,QtN,Quq,Qui,Int.toNat_zero,Int.toNat_one,Quh,Qut,Quu,Qur,QtJ,Qun,beq_true,beq_false,rng0,rng1,rng2,rng3,rng4,rng5,rng6,rng7,rng8,XQ,Nat.reducePow,QuG,QuT,T.QsS,T.QsT,QG,Qs,ti0,zi0,ti3,zi3,un3,ti4,zi4,un4,ti9,ei9,zi9,un9,ti27,zi27,un27,ti32,ei32,ai32,zi32,un32,ti33,ei33,ai33,zi33,un33,ti44,ei44,ai44,zi44,un44,ti46,X4,X5,X6,zi46,sp46,ti48,YU,Y7,Zs,Zj,zi48,sp48,ti54,Zy,Zz,ZA,zi54,sp54,ti56,ei56,ai56,zi56,un56,ti65,ti67,zi67,un67,ti69,ZB,ZC,ZD,ZE,ZF,zi69,sp69,ti78,ei78,ai78,zi78,un78,ti82,Qus,Int.sub_zero,YG,QS,QvO,List.mapM_nil,Option.pure_def,Option.bind_eq_bind,QbZ,Qba,Ql,Qr,Qbm,Zr,Zm,QtP]
  exact .inr ⟨rfl,rfl⟩
 |inl ts =>
  simp only[hs,scR]at cs
  obtain⟨hD,hW,hN,_⟩:=Qd8 hs
  have hX:=Qqy hs (by omega)
  have y1:((0:Int) != 0)=false:=rfl
  have l9:(h++[AB.dead,.dead]).length=h.length+2:=by simp
  have HI9:IG (h++[AB.dead,.dead]) h.length (h.length+1):=⟨by omega,by omega,by omega⟩
  simp only
  generalize hR:Qeo ⟨ts,[]⟩=R
  rw[QfF]at hR
  refine Qa Tryz.func11 rfl Tryz.call11 Tryz.ntmps11 Tryz.results11 (by simp) ?_
  iterate 14 (try (first|((first|(with_reducible (first|refine Qd fun K E hK hE=>?_|refine Qj fun K E hK hE=>?_|refine FunW.QsR cs ?_))|(refine Qi (id:=9) [(0,0),(1,0),(2,0),(3,0),(4,0),(5,0),(6,0),(7,0),(8,0),(9,0),(10,0),(11,0)] mixed (by kernel_rfl) fun K hK=>?_)|(refine Qh (id:=9) [(0,0),(1,0),(2,0),(3,0),(4,0),(5,0),(6,0),(7,0),(8,0),(9,0),(10,0),(11,0)] mixed (by kernel_rfl) fun K hK=>?_)|(refine Qi (id:=22) [(0,0),(1,0),(2,0),(3,0),(4,0),(5,0),(6,0),(7,0),(8,0),(9,0),(10,0),(11,0),(12,2),(13,0)] mixed (by kernel_rfl) fun K hK=>?_)|(refine Qh (id:=22) [(0,0),(1,0),(2,0),(3,0),(4,0),(5,0),(6,0),(7,0),(8,0),(9,0),(10,0),(11,0),(12,2),(13,0)] mixed (by kernel_rfl) fun K hK=>?_));simp only[XT,XF,Yj,QQ,QB,QN,OpW,YH,aop,undef,XU,Qul,Qum,X3,Xq,XD,AS.ev,QO,Q9,Xu,Xk,XC,QR,XA,Qz,Qy,Qt,XE,XL,XJ,QtM,Qt5,AV.QsU,QC,Xs,Xe,Q1,Q2,QY,Xi,Xo,QZ,QI,Xz,Xf,Q5,Q6,Q3,Xj,Xr,Q4,QtZ,Qt0,QL,QH,QM,Qw,QV,Qp,Qo,Qk,Xc,QW,QX,QT,Xh,Xn,QU,Qt1,Quo,Qup,Qt2,Qt3,↓reduceIte,QtS,QtT,Nat.reduceAdd,Nat.reduceLT,Nat.reduceLeDiff,Nat.reduceEqDiff,Nat.reduceSub,Nat.reduceMul,QtR,Qt4,Que,Quf,Qud,Ql,Qr,Xg,Zl,Zq,YI,XR,Xa,aBin,Zd,Q7,Zc,ZI,QF,aLen,Yo,Y6,X8,hget,Yh,hset,hlen,happ,QtF,QtG,Quv,Qt9,Qua,QtH,Quk,QtK,Quj,QtL,Qug,QtI,QtU,QtY,Qt7,Qt6,Qt8,QtQ,QtX,QtO,QtW,YX,YC,YK,Y9,YF,YE,goInt,Qub,Quc,QtN,Quq,Qui,Int.toNat_zero,Int.toNat_one,Quh,Qut,Quu,Qur,QtJ,Qun,beq_true,beq_false,rng0,rng1,rng2,rng3,rng4,rng5,rng6,rng7,rng8,XQ,Nat.reducePow,QuG,QuT,T.QsS,T.QsT,QG,Qs,ti0,zi0,ti3,zi3,un3,ti4,zi4,un4,ti9,ei9,zi9,un9,ti27,zi27,un27,ti32,ei32,ai32,zi32,un32,ti33,ei33,ai33,zi33,un33,ti44,ei44,ai44,zi44,un44,ti46,X4,X5,X6,zi46,sp46,ti48,YU,Y7,Zs,Zj,zi48,sp48,ti54,Zy,Zz,ZA,zi54,sp54,ti56,ei56,ai56,zi56,un56,ti65,ti67,zi67,un67,ti69,ZB,ZC,ZD,ZE,ZF,zi69,sp69,ti78,ei78,ai78,zi78,un78,ti82,Qus,Int.sub_zero,YG,QS,y1])|(with_reducible (first|refine Qq fun K hK=>?_|refine Qu ?_|refine Xy ?_|refine Xl ?_|refine Xp ?_|refine QE ?_|refine Xb ?_|refine Qg ?_|refine Xm ?_|refine QK ?_|refine Qn ?_|refine Q8 ?_|refine QJ ?_|refine QP rfl ?_))|(with_reducible (first|refine hK _ ?_|(clear hK;refine hK _ ?_)|(clear hK;clear hK;refine hK _ ?_)|(clear hK;clear hK;clear hK;refine hK _ ?_));clear hK)|(refine Qm rfl ?_;simp only[↓reduceIte,QtJ])|(intro (b:Bool);cases b)))
  refine YY h.length 69 5 1 (.grow 9 1 0) (.inr ⟨_,rfl⟩) [.agg [.sl 3 (tks ts) none,.i 0,.v (.slice none 0 0),.i 0,.i 0]] [.agg [.sl 3 (tks ts) none,.i 0,.sl 1 [] (some (h.length+1)),.i 0,.i 0]] 2 (by rw[X8];rfl) rfl (by simp[flat,AV.cells]) (by simp[AV.cells]) ?_
  have hb:((h++[AB.cells 69 5 [.agg [.sl 3 (tks ts) none,.i 0,.v (.slice none 0 0),.i 0,.i 0]]])++[AB.grow 9 1 0]).set h.length (.cells 69 5 [.agg [.sl 3 (tks ts) none,.i 0,.sl 1 [] (some (h.length+1)),.i 0,.i 0]])=h++[rdB ts (some (h.length+1)) ⟨ts,[]⟩ 0 0,gB ⟨ts,[]⟩]:=by
   rw[Quz,Qva _ _ (QuD _),Qu9]
   unfold rdB
   rw[Qu9];rfl
  rw[hb]
  clear hb
  cases hp:Y8 40 ⟨ts,[]⟩with
  |err p e =>
   have hRR:R = .err p e:=by rw[<-hR,hp];rfl
   subst hRR
   have cg:=QlP hN hD hX hW HI9 [] 40 (by omega) hp
   simp only[Qt8,QpN,rdB,gB]at cg ⊢
   repeat first|with_reducible (first|(first|refine Qd fun K E hK hE=>?_|refine Qj fun K E hK hE=>?_|refine FunW.retE (FunW.call cg) fun w=>?_);simp only[XT,XF,Yj,QQ,QB,QN,OpW,YH,aop,undef,XU,Qul,Qum,X3,Xq,XD,AS.ev,QO,Q9,Xu,Xk,XC,QR,XA,Qz,Qy,Qt,XE,XL,XJ,QtM,Qt5,AV.QsU,QC,Xs,Xe,Q1,Q2,QY,Xi,Xo,QZ,QI,Xz,Xf,Q5,Q6,Q3,Xj,Xr,Q4,QtZ,Qt0,QL,QH,QM,Qw,QV,Qp,Qo,Qk,Xc,QW,QX,QT,Xh,Xn,QU,Qt1,Quo,Qup,Qt2,Qt3,↓reduceIte,QtS,QtT,Nat.reduceAdd,Nat.reduceLT,Nat.reduceLeDiff,Nat.reduceEqDiff,Nat.reduceSub,Nat.reduceMul,QtR,Qt4,Que,Quf,Qud,Ql,Qr,Xg,Zl,Zq,YI,XR,Xa,aBin,Zd,Q7,Zc,ZI,QF,aLen,Yo,Y6,X8,hget,Yh,hset,hlen,happ,QtF,QtG,Quv,Qt9,Qua,QtH,Quk,QtK,Quj,QtL,Qug,QtI,QtU,QtY,Qt7,Qt6,Qt8,QtQ,QtX,QtO,QtW,YX,YC,YK,Y9,YF,YE,goInt,Qub,Quc,QtN,Quq,Qui,Int.toNat_zero,Int.toNat_one,Quh,Qut,Quu,Qur,QtJ,Qun,beq_true,beq_false,rng0,rng1,rng2,rng3,rng4,rng5,rng6,rng7,rng8,XQ,Nat.reducePow,QuG,QuT,T.QsS,T.QsT,QG,Qs,ti0,zi0,ti3,zi3,un3,ti4,zi4,un4,ti9,ei9,zi9,un9,ti27,zi27,un27,ti32,ei32,ai32,zi32,un32,ti33,ei33,ai33,zi33,un33,ti44,ei44,ai44,zi44,un44,ti46,X4,X5,X6,zi46,sp46,ti48,YU,Y7,Zs,Zj,zi48,sp48,ti54,Zy,Zz,ZA,zi54,sp54,ti56,ei56,ai56,zi56,un56,ti65,ti67,zi67,un67,ti69,ZB,ZC,ZD,ZE,ZF,zi69,sp69,ti78,ei78,ai78,zi78,un78,ti82,Qus,Int.sub_zero,YG,QS]|refine Qq fun K hK=>?_|refine Qu ?_|refine Xy ?_|refine Xl ?_|refine Xp ?_|refine QE ?_|refine Xb ?_|refine Qg ?_|refine Xm ?_|refine QK ?_|refine Qn ?_|refine Q8 ?_|refine QJ ?_|refine QP rfl ?_|refine hK _ ?_;clear hK|clear hK;refine hK _ ?_;clear hK|clear hK;clear hK;refine hK _ ?_;clear hK|clear hK;clear hK;clear hK;refine hK _ ?_;clear hK|refine Qm rfl ?_;simp only[↓reduceIte,QtJ])|intro (b:Bool);cases b
   first|refine Qi (id:=9) [(0,0),(1,0),(2,0),(3,0),(4,0),(5,0),(6,0),(7,0),(8,0),(9,0),(10,0),(11,0)] mixed (by kernel_rfl) fun K hK=>?_|refine Qh (id:=9) [(0,0),(1,0),(2,0),(3,0),(4,0),(5,0),(6,0),(7,0),(8,0),(9,0),(10,0),(11,0)] mixed (by kernel_rfl) fun K hK=>?_
   (try simp only[QtO,QtW]);refine Qda 12 (fun K1 hK1=>?_);simp only[XT,XF,Yj,QQ,QB,QN,OpW,YH,aop,undef,XU,Qul,Qum,X3,Xq,XD,AS.ev,QO,Q9,Xu,Xk,XC,QR,XA,Qz,Qy,Qt,XE,XL,XJ,QtM,Qt5,AV.QsU,QC,Xs,Xe,Q1,Q2,QY,Xi,Xo,QZ,QI,Xz,Xf,Q5,Q6,Q3,Xj,Xr,Q4,QtZ,Qt0,QL,QH,QM,Qw,QV,Qp,Qo,Qk,Xc,QW,QX,QT,Xh,Xn,QU,Qt1,Quo,Qup,Qt2,Qt3,↓reduceIte,QtS,QtT,Nat.reduceAdd,Nat.reduceLT,Nat.reduceLeDiff,Nat.reduceEqDiff,Nat.reduceSub,Nat.reduceMul,QtR,Qt4,Que,Quf,Qud,Ql,Qr,Xg,Zl,Zq,YI,XR,Xa,aBin,Zd,Q7,Zc,ZI,QF,aLen,Yo,Y6,X8,hget,Yh,hset,hlen,happ,QtF,QtG,Quv,Qt9,Qua,QtH,Quk,QtK,Quj,QtL,Qug,QtI,QtU,QtY,Qt7,Qt6,Qt8,QtQ,QtX,QtO,QtW,YX,YC,YK,Y9,YF,YE,goInt,Qub,Quc,QtN,Quq,Qui,Int.toNat_zero,Int.toNat_one,Quh,Qut,Quu,Qur,QtJ,Qun,beq_true,beq_false,rng0,rng1,rng2,rng3,rng4,rng5,rng6,rng7,rng8,XQ,Nat.reducePow,QuG,QuT,T.QsS,T.QsT,QG,Qs,ti0,zi0,ti3,zi3,un3,ti4,zi4,un4,ti9,ei9,zi9,un9,ti27,zi27,un27,ti32,ei32,ai32,zi32,un32,ti33,ei33,ai33,zi33,un33,ti44,ei44,ai44,zi44,un44,ti46,X4,X5,X6,zi46,sp46,ti48,YU,Y7,Zs,Zj,zi48,sp48,ti54,Zy,Zz,ZA,zi54,sp54,ti56,ei56,ai56,zi56,un56,ti65,ti67,zi67,un67,ti69,ZB,ZC,ZD,ZE,ZF,zi69,sp69,ti78,ei78,ai78,zi78,un78,ti82,Qus,Int.sub_zero,YG,QS];(repeat (first|((first|(with_reducible (first|refine Qd fun K E hK hE=>?_|refine Qj fun K E hK hE=>?_))|(refine Qi (id:=9) [(0,0),(1,0),(2,0),(3,0),(4,0),(5,0),(6,0),(7,0),(8,0),(9,0),(10,0),(11,0)] mixed (by kernel_rfl) fun K hK=>?_)|(refine Qh (id:=9) [(0,0),(1,0),(2,0),(3,0),(4,0),(5,0),(6,0),(7,0),(8,0),(9,0),(10,0),(11,0)] mixed (by kernel_rfl) fun K hK=>?_)|(refine Qi (id:=22) [(0,0),(1,0),(2,0),(3,0),(4,0),(5,0),(6,0),(7,0),(8,0),(9,0),(10,0),(11,0),(12,2),(13,0)] mixed (by kernel_rfl) fun K hK=>?_)|(refine Qh (id:=22) [(0,0),(1,0),(2,0),(3,0),(4,0),(5,0),(6,0),(7,0),(8,0),(9,0),(10,0),(11,0),(12,2),(13,0)] mixed (by kernel_rfl) fun K hK=>?_));simp only[XT,XF,Yj,QQ,QB,QN,OpW,YH,aop,undef,XU,Qul,Qum,X3,Xq,XD,AS.ev,QO,Q9,Xu,Xk,XC,QR,XA,Qz,Qy,Qt,XE,XL,XJ,QtM,Qt5,AV.QsU,QC,Xs,Xe,Q1,Q2,QY,Xi,Xo,QZ,QI,Xz,Xf,Q5,Q6,Q3,Xj,Xr,Q4,QtZ,Qt0,QL,QH,QM,Qw,QV,Qp,Qo,Qk,Xc,QW,QX,QT,Xh,Xn,QU,Qt1,Quo,Qup,Qt2,Qt3,↓reduceIte,QtS,QtT,Nat.reduceAdd,Nat.reduceLT,Nat.reduceLeDiff,Nat.reduceEqDiff,Nat.reduceSub,Nat.reduceMul,QtR,Qt4,Que,Quf,Qud,Ql,Qr,Xg,Zl,Zq,YI,XR,Xa,aBin,Zd,Q7,Zc,ZI,QF,aLen,Yo,Y6,X8,hget,Yh,hset,hlen,happ,QtF,QtG,Quv,Qt9,Qua,QtH,Quk,QtK,Quj,QtL,Qug,QtI,QtU,QtY,Qt7,Qt6,Qt8,QtQ,QtX,QtO,QtW,YX,YC,YK,Y9,YF,YE,goInt,Qub,Quc,QtN,Quq,Qui,Int.toNat_zero,Int.toNat_one,Quh,Qut,Quu,Qur,QtJ,Qun,beq_true,beq_false,rng0,rng1,rng2,rng3,rng4,rng5,rng6,rng7,rng8,XQ,Nat.reducePow,QuG,QuT,T.QsS,T.QsT,QG,Qs,ti0,zi0,ti3,zi3,un3,ti4,zi4,un4,ti9,ei9,zi9,un9,ti27,zi27,un27,ti32,ei32,ai32,zi32,un32,ti33,ei33,ai33,zi33,un33,ti44,ei44,ai44,zi44,un44,ti46,X4,X5,X6,zi46,sp46,ti48,YU,Y7,Zs,Zj,zi48,sp48,ti54,Zy,Zz,ZA,zi54,sp54,ti56,ei56,ai56,zi56,un56,ti65,ti67,zi67,un67,ti69,ZB,ZC,ZD,ZE,ZF,zi69,sp69,ti78,ei78,ai78,zi78,un78,ti82,Qus,Int.sub_zero,YG,QS])|(with_reducible (first|refine Qq fun K hK=>?_|refine Qu ?_|refine Xy ?_|refine Xl ?_|refine Xp ?_|refine QE ?_|refine Xb ?_|refine Qg ?_|refine Xm ?_|refine QK ?_|refine Qn ?_|refine Q8 ?_|refine QJ ?_|refine QP rfl ?_))|(with_reducible (first|refine hK _ ?_|(clear hK;refine hK _ ?_)|(clear hK;clear hK;refine hK _ ?_)|(clear hK;clear hK;clear hK;refine hK _ ?_));clear hK)|(refine Qm rfl ?_;simp only[↓reduceIte,QtJ])|(intro (b:Bool);cases b)));refine hK1 _ ?_;clear hK1
   (try refine hK _ ?_)
   repeat first|(first|with_reducible (first|refine Qd fun K E hK hE=>?_|refine Qj fun K E hK hE=>?_)|refine Qi (id:=9) [(0,0),(1,0),(2,0),(3,0),(4,0),(5,0),(6,0),(7,0),(8,0),(9,0),(10,0),(11,0)] mixed (by kernel_rfl) fun K hK=>?_|refine Qh (id:=9) [(0,0),(1,0),(2,0),(3,0),(4,0),(5,0),(6,0),(7,0),(8,0),(9,0),(10,0),(11,0)] mixed (by kernel_rfl) fun K hK=>?_|refine Qi (id:=22) [(0,0),(1,0),(2,0),(3,0),(4,0),(5,0),(6,0),(7,0),(8,0),(9,0),(10,0),(11,0),(12,2),(13,0)] mixed (by kernel_rfl) fun K hK=>?_|refine Qh (id:=22) [(0,0),(1,0),(2,0),(3,0),(4,0),(5,0),(6,0),(7,0),(8,0),(9,0),(10,0),(11,0),(12,2),(13,0)] mixed (by kernel_rfl) fun K hK=>?_);simp only[XT,XF,Yj,QQ,QB,QN,OpW,YH,aop,undef,XU,Qul,Qum,X3,Xq,XD,AS.ev,QO,Q9,Xu,Xk,XC,QR,XA,Qz,Qy,Qt,XE,XL,XJ,QtM,Qt5,AV.QsU,QC,Xs,Xe,Q1,Q2,QY,Xi,Xo,QZ,QI,Xz,Xf,Q5,Q6,Q3,Xj,Xr,Q4,QtZ,Qt0,QL,QH,QM,Qw,QV,Qp,Qo,Qk,Xc,QW,QX,QT,Xh,Xn,QU,Qt1,Quo,Qup,Qt2,Qt3,↓reduceIte,QtS,QtT,Nat.reduceAdd,Nat.reduceLT,Nat.reduceLeDiff,Nat.reduceEqDiff,Nat.reduceSub,Nat.reduceMul,QtR,Qt4,Que,Quf,Qud,Ql,Qr,Xg,Zl,Zq,YI,XR,Xa,aBin,Zd,Q7,Zc,ZI,QF,aLen,Yo,Y6,X8,hget,Yh,hset,hlen,happ,QtF,QtG,Quv,Qt9,Qua,QtH,Quk,QtK,Quj,QtL,Qug,QtI,QtU,QtY,Qt7,Qt6,Qt8,QtQ,QtX,QtO,QtW,YX,YC,YK,Y9,YF,YE,goInt,Qub,Quc,QtN,Quq,Qui,Int.toNat_zero,Int.toNat_one,Quh,Qut,Quu,Qur,QtJ,Qun,beq_true,beq_false,rng0,rng1,rng2,rng3,rng4,rng5,rng6,rng7,rng8,XQ,Nat.reducePow,QuG,QuT,T.QsS,T.QsT,QG,Qs,ti0,zi0,ti3,zi3,un3,ti4,zi4,un4,ti9,ei9,zi9,un9,ti27,zi27,un27,ti32,ei32,ai32,zi32,un32,ti33,ei33,ai33,zi33,un33,ti44,ei44,ai44,zi44,un44,ti46,X4,X5,X6,zi46,sp46,ti48,YU,Y7,Zs,Zj,zi48,sp48,ti54,Zy,Zz,ZA,zi54,sp54,ti56,ei56,ai56,zi56,un56,ti65,ti67,zi67,un67,ti69,ZB,ZC,ZD,ZE,ZF,zi69,sp69,ti78,ei78,ai78,zi78,un78,ti82,Qus,Int.sub_zero,YG,QS]|with_reducible (first|refine Qq fun K hK=>?_|refine Qu ?_|refine Xy ?_|refine Xl ?_|refine Xp ?_|refine QE ?_|refine Xb ?_|refine Qg ?_|refine Xm ?_|refine QK ?_|refine Qn ?_|refine Q8 ?_|refine QJ ?_|refine QP rfl ?_|refine hK _ ?_;clear hK|clear hK;refine hK _ ?_;clear hK|clear hK;clear hK;refine hK _ ?_;clear hK|clear hK;clear hK;clear hK;refine hK _ ?_;clear hK|refine Qm rfl ?_;simp only[↓reduceIte,QtJ])|intro (b:Bool);cases b
   simp only[XT,XF,Yj,QQ,QB,QN,OpW,YH,aop,undef,XU,Qul,Qum,X3,Xq,XD,AS.ev,QO,Q9,Xu,Xk,XC,QR,XA,Qz,Qy,Qt,XE,XL,XJ,QtM,Qt5,AV.QsU,QC,Xs,Xe,Q1,Q2,QY,Xi,Xo,QZ,QI,Xz,Xf,Q5,Q6,Q3,Xj,Xr,Q4,QtZ,Qt0,QL,QH,QM,Qw,QV,Qp,Qo,Qk,Xc,QW,QX,QT,Xh,Xn,QU,Qt1,Quo,Qup,Qt2,Qt3,↓reduceIte,QtS,QtT,Nat.reduceAdd,Nat.reduceLT,Nat.reduceLeDiff,Nat.reduceEqDiff,Nat.reduceSub,Nat.reduceMul,QtR,Qt4,Que,Quf,Qud,Ql,Qr,Xg,Zl,Zq,YI,XR,Xa,aBin,Zd,Q7,Zc,ZI,QF,aLen,Yo,Y6,X8,hget,Yh,hset,hlen,happ,QtF,QtG,Quv,Qt9,Qua,QtH,Quk,QtK,Quj,QtL,Qug,QtI,QtU,QtY,Qt7,Qt6,Qt8,QtQ,QtX,QtO,QtW,YX,YC,YK,Y9,YF,YE,goInt,Qub,Quc,QtN,Quq,Qui,Int.toNat_zero,Int.toNat_one,Quh,Qut,Quu,Qur,QtJ,Qun,beq_true,beq_false,rng0,rng1,rng2,rng3,rng4,rng5,rng6,rng7,rng8,XQ,Nat.reducePow,QuG,QuT,T.QsS,T.QsT,QG,Qs,ti0,zi0,ti3,zi3,un3,ti4,zi4,un4,ti9,ei9,zi9,un9,ti27,zi27,un27,ti32,ei32,ai32,zi32,un32,ti33,ei33,ai33,zi33,un33,ti44,ei44,ai44,zi44,un44,ti46,X4,X5,X6,zi46,sp46,ti48,YU,Y7,Zs,Zj,zi48,sp48,ti54,Zy,Zz,ZA,zi54,sp54,ti56,ei56,ai56,zi56,un56,ti65,ti67,zi67,un67,ti69,ZB,ZC,ZD,ZE,ZF,zi69,sp69,ti78,ei78,ai78,zi78,un78,ti82,Qus,Int.sub_zero,YG,QS,QvO,List.mapM_nil,Option.pure_def,Option.bind_eq_bind,QbZ,Qba,Ql,Qr,Qbm,Zr,Zm,QtP]
   exact Qc (htake _ _) (.keep (Qdz _ _ _)) ⟨rfl,rfl⟩
  |ok l s2 =>
   have hW2:Wst ts s2:=Kp.Ps.ok (n:=wdOf ts) (Kp.goals_ps trivial 40) hW hp
   have cg:=QnK hN hD hX hW HI9 [] 40 (by omega) hp (k:=h.length+2) (by rw[l9];rfl)
   have ct:=QhS hW2 HI9 [.cells 46 3 (vs G.goal l)]
   have cf:=Qev hW2 HI9 [.cells 46 3 (vs G.goal l)]
   have e1:=Tk.QsS s2.tk
   have e2:=Tk.QsT s2.tk
   simp only[Qt8,Qt6,QpN,Quz,Qt7,rdB,gB]at cg ct cf ⊢
   by_cases hk:s2.tk.kind=0
   rotate_left
   ·have hRR:R = .err s2.tk.pos 16:=by
     rw[<-hR,hp]
     show(pEnd s2).bind _=_
     rw[pEnd,QuE hk];rfl
    subst hRR
    have z1:(s2.tk.kind != 0)=true:=by simpa using hk
    repeat first|with_reducible (first|(first|refine Qd fun K E hK hE=>?_|refine Qj fun K E hK hE=>?_|refine FunW.QsR cg ?_|refine FunW.QsR ct ?_|refine FunW.QsR (cf _ _) ?_);simp only[XT,XF,Yj,QQ,QB,QN,OpW,YH,aop,undef,XU,Qul,Qum,X3,Xq,XD,AS.ev,QO,Q9,Xu,Xk,XC,QR,XA,Qz,Qy,Qt,XE,XL,XJ,QtM,Qt5,AV.QsU,QC,Xs,Xe,Q1,Q2,QY,Xi,Xo,QZ,QI,Xz,Xf,Q5,Q6,Q3,Xj,Xr,Q4,QtZ,Qt0,QL,QH,QM,Qw,QV,Qp,Qo,Qk,Xc,QW,QX,QT,Xh,Xn,QU,Qt1,Quo,Qup,Qt2,Qt3,↓reduceIte,QtS,QtT,Nat.reduceAdd,Nat.reduceLT,Nat.reduceLeDiff,Nat.reduceEqDiff,Nat.reduceSub,Nat.reduceMul,QtR,Qt4,Que,Quf,Qud,Ql,Qr,Xg,Zl,Zq,YI,XR,Xa,aBin,Zd,Q7,Zc,ZI,QF,aLen,Yo,Y6,X8,hget,Yh,hset,hlen,happ,QtF,QtG,Quv,Qt9,Qua,QtH,Quk,QtK,Quj,QtL,Qug,QtI,QtU,QtY,Qt7,Qt6,Qt8,QtQ,QtX,QtO,QtW,YX,YC,YK,Y9,YF,YE,goInt,Qub,Quc,QtN,Quq,Qui,Int.toNat_zero,Int.toNat_one,Quh,Qut,Quu,Qur,QtJ,Qun,beq_true,beq_false,rng0,rng1,rng2,rng3,rng4,rng5,rng6,rng7,rng8,XQ,Nat.reducePow,QuG,QuT,T.QsS,T.QsT,QG,Qs,ti0,zi0,ti3,zi3,un3,ti4,zi4,un4,ti9,ei9,zi9,un9,ti27,zi27,un27,ti32,ei32,ai32,zi32,un32,ti33,ei33,ai33,zi33,un33,ti44,ei44,ai44,zi44,un44,ti46,X4,X5,X6,zi46,sp46,ti48,YU,Y7,Zs,Zj,zi48,sp48,ti54,Zy,Zz,ZA,zi54,sp54,ti56,ei56,ai56,zi56,un56,ti65,ti67,zi67,un67,ti69,ZB,ZC,ZD,ZE,ZF,zi69,sp69,ti78,ei78,ai78,zi78,un78,ti82,Qus,Int.sub_zero,YG,QS,e1,e2,z1]|refine Qq fun K hK=>?_|refine Qu ?_|refine Xy ?_|refine Xl ?_|refine Xp ?_|refine QE ?_|refine Xb ?_|refine Qg ?_|refine Xm ?_|refine QK ?_|refine Qn ?_|refine Q8 ?_|refine QJ ?_|refine QP rfl ?_|refine hK _ ?_;clear hK|clear hK;refine hK _ ?_;clear hK|clear hK;clear hK;refine hK _ ?_;clear hK|clear hK;clear hK;clear hK;refine hK _ ?_;clear hK|refine Qm rfl ?_;simp only[↓reduceIte,QtJ])|intro (b:Bool);cases b
    first|refine Qi (id:=9) [(0,0),(1,0),(2,0),(3,0),(4,0),(5,0),(6,0),(7,0),(8,0),(9,0),(10,0),(11,0)] mixed (by kernel_rfl) fun K hK=>?_|refine Qh (id:=9) [(0,0),(1,0),(2,0),(3,0),(4,0),(5,0),(6,0),(7,0),(8,0),(9,0),(10,0),(11,0)] mixed (by kernel_rfl) fun K hK=>?_
    (try simp only[QtO,QtW]);refine Qda 12 (fun K1 hK1=>?_);simp only[XT,XF,Yj,QQ,QB,QN,OpW,YH,aop,undef,XU,Qul,Qum,X3,Xq,XD,AS.ev,QO,Q9,Xu,Xk,XC,QR,XA,Qz,Qy,Qt,XE,XL,XJ,QtM,Qt5,AV.QsU,QC,Xs,Xe,Q1,Q2,QY,Xi,Xo,QZ,QI,Xz,Xf,Q5,Q6,Q3,Xj,Xr,Q4,QtZ,Qt0,QL,QH,QM,Qw,QV,Qp,Qo,Qk,Xc,QW,QX,QT,Xh,Xn,QU,Qt1,Quo,Qup,Qt2,Qt3,↓reduceIte,QtS,QtT,Nat.reduceAdd,Nat.reduceLT,Nat.reduceLeDiff,Nat.reduceEqDiff,Nat.reduceSub,Nat.reduceMul,QtR,Qt4,Que,Quf,Qud,Ql,Qr,Xg,Zl,Zq,YI,XR,Xa,aBin,Zd,Q7,Zc,ZI,QF,aLen,Yo,Y6,X8,hget,Yh,hset,hlen,happ,QtF,QtG,Quv,Qt9,Qua,QtH,Quk,QtK,Quj,QtL,Qug,QtI,QtU,QtY,Qt7,Qt6,Qt8,QtQ,QtX,QtO,QtW,YX,YC,YK,Y9,YF,YE,goInt,Qub,Quc,QtN,Quq,Qui,Int.toNat_zero,Int.toNat_one,Quh,Qut,Quu,Qur,QtJ,Qun,beq_true,beq_false,rng0,rng1,rng2,rng3,rng4,rng5,rng6,rng7,rng8,XQ,Nat.reducePow,QuG,QuT,T.QsS,T.QsT,QG,Qs,ti0,zi0,ti3,zi3,un3,ti4,zi4,un4,ti9,ei9,zi9,un9,ti27,zi27,un27,ti32,ei32,ai32,zi32,un32,ti33,ei33,ai33,zi33,un33,ti44,ei44,ai44,zi44,un44,ti46,X4,X5,X6,zi46,sp46,ti48,YU,Y7,Zs,Zj,zi48,sp48,ti54,Zy,Zz,ZA,zi54,sp54,ti56,ei56,ai56,zi56,un56,ti65,ti67,zi67,un67,ti69,ZB,ZC,ZD,ZE,ZF,zi69,sp69,ti78,ei78,ai78,zi78,un78,ti82,Qus,Int.sub_zero,YG,QS];(repeat (first|((first|(with_reducible (first|refine Qd fun K E hK hE=>?_|refine Qj fun K E hK hE=>?_))|(refine Qi (id:=9) [(0,0),(1,0),(2,0),(3,0),(4,0),(5,0),(6,0),(7,0),(8,0),(9,0),(10,0),(11,0)] mixed (by kernel_rfl) fun K hK=>?_)|(refine Qh (id:=9) [(0,0),(1,0),(2,0),(3,0),(4,0),(5,0),(6,0),(7,0),(8,0),(9,0),(10,0),(11,0)] mixed (by kernel_rfl) fun K hK=>?_)|(refine Qi (id:=22) [(0,0),(1,0),(2,0),(3,0),(4,0),(5,0),(6,0),(7,0),(8,0),(9,0),(10,0),(11,0),(12,2),(13,0)] mixed (by kernel_rfl) fun K hK=>?_)|(refine Qh (id:=22) [(0,0),(1,0),(2,0),(3,0),(4,0),(5,0),(6,0),(7,0),(8,0),(9,0),(10,0),(11,0),(12,2),(13,0)] mixed (by kernel_rfl) fun K hK=>?_));simp only[XT,XF,Yj,QQ,QB,QN,OpW,YH,aop,undef,XU,Qul,Qum,X3,Xq,XD,AS.ev,QO,Q9,Xu,Xk,XC,QR,XA,Qz,Qy,Qt,XE,XL,XJ,QtM,Qt5,AV.QsU,QC,Xs,Xe,Q1,Q2,QY,Xi,Xo,QZ,QI,Xz,Xf,Q5,Q6,Q3,Xj,Xr,Q4,QtZ,Qt0,QL,QH,QM,Qw,QV,Qp,Qo,Qk,Xc,QW,QX,QT,Xh,Xn,QU,Qt1,Quo,Qup,Qt2,Qt3,↓reduceIte,QtS,QtT,Nat.reduceAdd,Nat.reduceLT,Nat.reduceLeDiff,Nat.reduceEqDiff,Nat.reduceSub,Nat.reduceMul,QtR,Qt4,Que,Quf,Qud,Ql,Qr,Xg,Zl,Zq,YI,XR,Xa,aBin,Zd,Q7,Zc,ZI,QF,aLen,Yo,Y6,X8,hget,Yh,hset,hlen,happ,QtF,QtG,Quv,Qt9,Qua,QtH,Quk,QtK,Quj,QtL,Qug,QtI,QtU,QtY,Qt7,Qt6,Qt8,QtQ,QtX,QtO,QtW,YX,YC,YK,Y9,YF,YE,goInt,Qub,Quc,QtN,Quq,Qui,Int.toNat_zero,Int.toNat_one,Quh,Qut,Quu,Qur,QtJ,Qun,beq_true,beq_false,rng0,rng1,rng2,rng3,rng4,rng5,rng6,rng7,rng8,XQ,Nat.reducePow,QuG,QuT,T.QsS,T.QsT,QG,Qs,ti0,zi0,ti3,zi3,un3,ti4,zi4,un4,ti9,ei9,zi9,un9,ti27,zi27,un27,ti32,ei32,ai32,zi32,un32,ti33,ei33,ai33,zi33,un33,ti44,ei44,ai44,zi44,un44,ti46,X4,X5,X6,zi46,sp46,ti48,YU,Y7,Zs,Zj,zi48,sp48,ti54,Zy,Zz,ZA,zi54,sp54,ti56,ei56,ai56,zi56,un56,ti65,ti67,zi67,un67,ti69,ZB,ZC,ZD,ZE,ZF,zi69,sp69,ti78,ei78,ai78,zi78,un78,ti82,Qus,Int.sub_zero,YG,QS])|(with_reducible (first|refine Qq fun K hK=>?_|refine Qu ?_|refine Xy ?_|refine Xl ?_|refine Xp ?_|refine QE ?_|refine Xb ?_|refine Qg ?_|refine Xm ?_|refine QK ?_|refine Qn ?_|refine Q8 ?_|refine QJ ?_|refine QP rfl ?_))|(with_reducible (first|refine hK _ ?_|(clear hK;refine hK _ ?_)|(clear hK;clear hK;refine hK _ ?_)|(clear hK;clear hK;clear hK;refine hK _ ?_));clear hK)|(refine Qm rfl ?_;simp only[↓reduceIte,QtJ])|(intro (b:Bool);cases b)));refine hK1 _ ?_;clear hK1
    (try refine hK _ ?_)
    repeat first|(first|with_reducible (first|refine Qd fun K E hK hE=>?_|refine Qj fun K E hK hE=>?_)|refine Qi (id:=9) [(0,0),(1,0),(2,0),(3,0),(4,0),(5,0),(6,0),(7,0),(8,0),(9,0),(10,0),(11,0)] mixed (by kernel_rfl) fun K hK=>?_|refine Qh (id:=9) [(0,0),(1,0),(2,0),(3,0),(4,0),(5,0),(6,0),(7,0),(8,0),(9,0),(10,0),(11,0)] mixed (by kernel_rfl) fun K hK=>?_|refine Qi (id:=22) [(0,0),(1,0),(2,0),(3,0),(4,0),(5,0),(6,0),(7,0),(8,0),(9,0),(10,0),(11,0),(12,2),(13,0)] mixed (by kernel_rfl) fun K hK=>?_|refine Qh (id:=22) [(0,0),(1,0),(2,0),(3,0),(4,0),(5,0),(6,0),(7,0),(8,0),(9,0),(10,0),(11,0),(12,2),(13,0)] mixed (by kernel_rfl) fun K hK=>?_);simp only[XT,XF,Yj,QQ,QB,QN,OpW,YH,aop,undef,XU,Qul,Qum,X3,Xq,XD,AS.ev,QO,Q9,Xu,Xk,XC,QR,XA,Qz,Qy,Qt,XE,XL,XJ,QtM,Qt5,AV.QsU,QC,Xs,Xe,Q1,Q2,QY,Xi,Xo,QZ,QI,Xz,Xf,Q5,Q6,Q3,Xj,Xr,Q4,QtZ,Qt0,QL,QH,QM,Qw,QV,Qp,Qo,Qk,Xc,QW,QX,QT,Xh,Xn,QU,Qt1,Quo,Qup,Qt2,Qt3,↓reduceIte,QtS,QtT,Nat.reduceAdd,Nat.reduceLT,Nat.reduceLeDiff,Nat.reduceEqDiff,Nat.reduceSub,Nat.reduceMul,QtR,Qt4,Que,Quf,Qud,Ql,Qr,Xg,Zl,Zq,YI,XR,Xa,aBin,Zd,Q7,Zc,ZI,QF,aLen,Yo,Y6,X8,hget,Yh,hset,hlen,happ,QtF,QtG,Quv,Qt9,Qua,QtH,Quk,QtK,Quj,QtL,Qug,QtI,QtU,QtY,Qt7,Qt6,Qt8,QtQ,QtX,QtO,QtW,YX,YC,YK,Y9,YF,YE,goInt,Qub,Quc,QtN,Quq,Qui,Int.toNat_zero,Int.toNat_one,Quh,Qut,Quu,Qur,QtJ,Qun,beq_true,beq_false,rng0,rng1,rng2,rng3,rng4,rng5,rng6,rng7,rng8,XQ,Nat.reducePow,QuG,QuT,T.QsS,T.QsT,QG,Qs,ti0,zi0,ti3,zi3,un3,ti4,zi4,un4,ti9,ei9,zi9,un9,ti27,zi27,un27,ti32,ei32,ai32,zi32,un32,ti33,ei33,ai33,zi33,un33,ti44,ei44,ai44,zi44,un44,ti46,X4,X5,X6,zi46,sp46,ti48,YU,Y7,Zs,Zj,zi48,sp48,ti54,Zy,Zz,ZA,zi54,sp54,ti56,ei56,ai56,zi56,un56,ti65,ti67,zi67,un67,ti69,ZB,ZC,ZD,ZE,ZF,zi69,sp69,ti78,ei78,ai78,zi78,un78,ti82,Qus,Int.sub_zero,YG,QS]|with_reducible (first|refine Qq fun K hK=>?_|refine Qu ?_|refine Xy ?_|refine Xl ?_|refine Xp ?_|refine QE ?_|refine Xb ?_|refine Qg ?_|refine Xm ?_|refine QK ?_|refine Qn ?_|refine Q8 ?_|refine QJ ?_|refine QP rfl ?_|refine hK _ ?_;clear hK|clear hK;refine hK _ ?_;clear hK|clear hK;clear hK;refine hK _ ?_;clear hK|clear hK;clear hK;clear hK;refine hK _ ?_;clear hK|refine Qm rfl ?_;simp only[↓reduceIte,QtJ])|intro (b:Bool);cases b
    simp only[XT,XF,Yj,QQ,QB,QN,OpW,YH,aop,undef,XU,Qul,Qum,X3,Xq,XD,AS.ev,QO,Q9,Xu,Xk,XC,QR,XA,Qz,Qy,Qt,XE,XL,XJ,QtM,Qt5,AV.QsU,QC,Xs,Xe,Q1,Q2,QY,Xi,Xo,QZ,QI,Xz,Xf,Q5,Q6,Q3,Xj,Xr,Q4,QtZ,Qt0,QL,QH,QM,Qw,QV,Qp,Qo,Qk,Xc,QW,QX,QT,Xh,Xn,QU,Qt1,Quo,Qup,Qt2,Qt3,↓reduceIte,QtS,QtT,Nat.reduceAdd,Nat.reduceLT,Nat.reduceLeDiff,Nat.reduceEqDiff,Nat.reduceSub,Nat.reduceMul,QtR,Qt4,Que,Quf,Qud,Ql,Qr,Xg,Zl,Zq,YI,XR,Xa,aBin,Zd,Q7,Zc,ZI,QF,aLen,Yo,Y6,X8,hget,Yh,hset,hlen,happ,QtF,QtG,Quv,Qt9,Qua,QtH,Quk,QtK,Quj,QtL,Qug,QtI,QtU,QtY,Qt7,Qt6,Qt8,QtQ,QtX,QtO,QtW,YX,YC,YK,Y9,YF,YE,goInt,Qub,Quc,QtN,Quq,Qui,Int.toNat_zero,Int.toNat_one,Quh,Qut,Quu,Qur,QtJ,Qun,beq_true,beq_false,rng0,rng1,rng2,rng3,rng4,rng5,rng6,rng7,rng8,XQ,Nat.reducePow,QuG,QuT,T.QsS,T.QsT,QG,Qs,ti0,zi0,ti3,zi3,un3,ti4,zi4,un4,ti9,ei9,zi9,un9,ti27,zi27,un27,ti32,ei32,ai32,zi32,un32,ti33,ei33,ai33,zi33,un33,ti44,ei44,ai44,zi44,un44,ti46,X4,X5,X6,zi46,sp46,ti48,YU,Y7,Zs,Zj,zi48,sp48,ti54,Zy,Zz,ZA,zi54,sp54,ti56,ei56,ai56,zi56,un56,ti65,ti67,zi67,un67,ti69,ZB,ZC,ZD,ZE,ZF,zi69,sp69,ti78,ei78,ai78,zi78,un78,ti82,Qus,Int.sub_zero,YG,QS,QvO,List.mapM_nil,Option.pure_def,Option.bind_eq_bind,QbZ,Qba,Ql,Qr,Qbm,Zr,Zm,QtP]
    exact Qc (htake _ _) (.keep (Qdz _ _ _)) ⟨rfl,rfl⟩
   ·have hRR:R = .ok (qV l,qN s2 l) s2:=by
     rw[<-hR,hp]
     show(pEnd s2).bind _=_
     rw[pEnd,QuH hk];rfl
    subst hRR
    have z1:(s2.tk.kind != 0)=false:=by simpa using hk
    obtain⟨hok,hl40⟩:=QcC hp
    have hps:∀g∈l,pss g.args:=fun g hg=>(QcB (hok g hg)).1
    have hns:∀g∈l,ndsL g.args<=200:=fun g hg=>(QcB (hok g hg)).2
    have hnl:=Qne l hns
    have hvb:=Qkl hp
    obtain⟨U,hU⟩:∃U,U=ded [] (XN l):=⟨_,rfl⟩
    have hin:∀v∈XN l,v∈U:=fun v hv=>by rw[hU];exact Qfz.2 (.inr hv)
    have hUb:∀v∈U,0<=v/\v<s2.names.length:=fun v hv=>hvb v (by rw[hU,Qfz]at hv;exact hv.resolve_left (QuS))
    have hUl:U.length<=8000:=by
     have h1:=Z7 [] (XN l)
     have h2:=QcZ l
     rw[hU]
     simp only[QtT]at h1
     omega
    obtain⟨F,hF⟩:∃F,F=plcN U:=⟨_,rfl⟩
    have hqV:qV l=mG F l:=by rw[hF,hU];rfl
    have hqN:qN s2 l=U.map fun v=>s2.names.getD v.toNat eB:=by rw[hU];rfl
    rw[hqV,hqN]
    iterate 20 (try (first|((first|(with_reducible (first|refine Qd fun K E hK hE=>?_|refine Qj fun K E hK hE=>?_|refine FunW.QsR cg ?_|refine FunW.QsR ct ?_))|(refine Qi (id:=9) [(0,0),(1,0),(2,0),(3,0),(4,0),(5,0),(6,0),(7,0),(8,0),(9,0),(10,0),(11,0)] mixed (by kernel_rfl) fun K hK=>?_)|(refine Qh (id:=9) [(0,0),(1,0),(2,0),(3,0),(4,0),(5,0),(6,0),(7,0),(8,0),(9,0),(10,0),(11,0)] mixed (by kernel_rfl) fun K hK=>?_)|(refine Qi (id:=22) [(0,0),(1,0),(2,0),(3,0),(4,0),(5,0),(6,0),(7,0),(8,0),(9,0),(10,0),(11,0),(12,2),(13,0)] mixed (by kernel_rfl) fun K hK=>?_)|(refine Qh (id:=22) [(0,0),(1,0),(2,0),(3,0),(4,0),(5,0),(6,0),(7,0),(8,0),(9,0),(10,0),(11,0),(12,2),(13,0)] mixed (by kernel_rfl) fun K hK=>?_));simp only[XT,XF,Yj,QQ,QB,QN,OpW,YH,aop,undef,XU,Qul,Qum,X3,Xq,XD,AS.ev,QO,Q9,Xu,Xk,XC,QR,XA,Qz,Qy,Qt,XE,XL,XJ,QtM,Qt5,AV.QsU,QC,Xs,Xe,Q1,Q2,QY,Xi,Xo,QZ,QI,Xz,Xf,Q5,Q6,Q3,Xj,Xr,Q4,QtZ,Qt0,QL,QH,QM,Qw,QV,Qp,Qo,Qk,Xc,QW,QX,QT,Xh,Xn,QU,Qt1,Quo,Qup,Qt2,Qt3,↓reduceIte,QtS,QtT,Nat.reduceAdd,Nat.reduceLT,Nat.reduceLeDiff,Nat.reduceEqDiff,Nat.reduceSub,Nat.reduceMul,QtR,Qt4,Que,Quf,Qud,Ql,Qr,Xg,Zl,Zq,YI,XR,Xa,aBin,Zd,Q7,Zc,ZI,QF,aLen,Yo,Y6,X8,hget,Yh,hset,hlen,happ,QtF,QtG,Quv,Qt9,Qua,QtH,Quk,QtK,Quj,QtL,Qug,QtI,QtU,QtY,Qt7,Qt6,Qt8,QtQ,QtX,QtO,QtW,YX,YC,YK,Y9,YF,YE,goInt,Qub,Quc,QtN,Quq,Qui,Int.toNat_zero,Int.toNat_one,Quh,Qut,Quu,Qur,QtJ,Qun,beq_true,beq_false,rng0,rng1,rng2,rng3,rng4,rng5,rng6,rng7,rng8,XQ,Nat.reducePow,QuG,QuT,T.QsS,T.QsT,QG,Qs,ti0,zi0,ti3,zi3,un3,ti4,zi4,un4,ti9,ei9,zi9,un9,ti27,zi27,un27,ti32,ei32,ai32,zi32,un32,ti33,ei33,ai33,zi33,un33,ti44,ei44,ai44,zi44,un44,ti46,X4,X5,X6,zi46,sp46,ti48,YU,Y7,Zs,Zj,zi48,sp48,ti54,Zy,Zz,ZA,zi54,sp54,ti56,ei56,ai56,zi56,un56,ti65,ti67,zi67,un67,ti69,ZB,ZC,ZD,ZE,ZF,zi69,sp69,ti78,ei78,ai78,zi78,un78,ti82,Qus,Int.sub_zero,YG,QS,e1,e2,z1])|(with_reducible (first|refine Qq fun K hK=>?_|refine Qu ?_|refine Xy ?_|refine Xl ?_|refine Xp ?_|refine QE ?_|refine Xb ?_|refine Qg ?_|refine Xm ?_|refine QK ?_|refine Qn ?_|refine Q8 ?_|refine QJ ?_|refine QP rfl ?_))|(with_reducible (first|refine hK _ ?_|(clear hK;refine hK _ ?_)|(clear hK;clear hK;refine hK _ ?_)|(clear hK;clear hK;clear hK;refine hK _ ?_));clear hK)|(refine Qm rfl ?_;simp only[↓reduceIte,QtJ])|(intro (b:Bool);cases b)))
    refine Zu 12 3 1 rfl ?_
    rw[Quw,Quz]
    simp only[QtS,QtT,Qt7,Qt6,QtR,Nat.reduceAdd]
    generalize hRB:AB.cells 69 5 [.agg [.sl 3 (tks ts) none,.i ((ts.length - s2.toks.length:Nat):Int),.sl 1 (strs s2.names) (some (h.length+1)),.i 0,.i 0]]=RB
    generalize hGB:AB.grow 9 1 s2.names.length=GB
    have ord:∀(B:AB) (u:List Int) (a:List T),u.length+ndsL a<=1000000->QA Tryz.prog 34 [.sl 1 (ints u) (some (h.length+3)),.sl 4 (avs a) none] (h++[RB,GB,B,.grow 3 1 u.length]) fun o h'=>o = .ret (.sl 1 (ints (ded u (Yd a))) (some (h.length+3)))/\h'=h++[RB,GB,B,.grow 3 1 (ded u (Yd a)).length]:=fun B u a hb=>by
     have V:TokGr (fun n=>h++[RB,GB,B,.grow 3 1 n]) (h.length+4) (h.length+3) 3 1:=⟨fun n=>by simp,by omega,fun n=>by rw[hget];rfl,fun n n'=>by rw[hset];rfl⟩
     have:=QiN V a u [] hb
     simp only[Qt8]at this
     exact this
    refine Qaw (fun s=>s.tm 3=nilV/\s.tm 9 = .ptr h.length 0 0/\s.tm 10 = .arr (h.length+2) 0 l.length/\s.tm 12 = .sl 1 (ints U) (some (h.length+3))/\s.h=h++[RB,GB,.cells 46 3 (vs G.goal l),.grow 3 1 U.length]) ?_ ?_
    rotate_left
    ·repeat first|(first|with_reducible (first|refine Qd fun K E hK hE=>?_|refine Qj fun K E hK hE=>?_)|refine Qi (id:=9) [(0,0),(1,0),(2,0),(3,0),(4,0),(5,0),(6,0),(7,0),(8,0),(9,0),(10,0),(11,0)] mixed (by kernel_rfl) fun K hK=>?_|refine Qh (id:=9) [(0,0),(1,0),(2,0),(3,0),(4,0),(5,0),(6,0),(7,0),(8,0),(9,0),(10,0),(11,0)] mixed (by kernel_rfl) fun K hK=>?_|refine Qi (id:=22) [(0,0),(1,0),(2,0),(3,0),(4,0),(5,0),(6,0),(7,0),(8,0),(9,0),(10,0),(11,0),(12,2),(13,0)] mixed (by kernel_rfl) fun K hK=>?_|refine Qh (id:=22) [(0,0),(1,0),(2,0),(3,0),(4,0),(5,0),(6,0),(7,0),(8,0),(9,0),(10,0),(11,0),(12,2),(13,0)] mixed (by kernel_rfl) fun K hK=>?_);simp only[XT,XF,Yj,QQ,QB,QN,OpW,YH,aop,undef,XU,Qul,Qum,X3,Xq,XD,AS.ev,QO,Q9,Xu,Xk,XC,QR,XA,Qz,Qy,Qt,XE,XL,XJ,QtM,Qt5,AV.QsU,QC,Xs,Xe,Q1,Q2,QY,Xi,Xo,QZ,QI,Xz,Xf,Q5,Q6,Q3,Xj,Xr,Q4,QtZ,Qt0,QL,QH,QM,Qw,QV,Qp,Qo,Qk,Xc,QW,QX,QT,Xh,Xn,QU,Qt1,Quo,Qup,Qt2,Qt3,↓reduceIte,QtS,QtT,Nat.reduceAdd,Nat.reduceLT,Nat.reduceLeDiff,Nat.reduceEqDiff,Nat.reduceSub,Nat.reduceMul,QtR,Qt4,Que,Quf,Qud,Ql,Qr,Xg,Zl,Zq,YI,XR,Xa,aBin,Zd,Q7,Zc,ZI,QF,aLen,Yo,Y6,X8,hget,Yh,hset,hlen,happ,QtF,QtG,Quv,Qt9,Qua,QtH,Quk,QtK,Quj,QtL,Qug,QtI,QtU,QtY,Qt7,Qt6,Qt8,QtQ,QtX,QtO,QtW,YX,YC,YK,Y9,YF,YE,goInt,Qub,Quc,QtN,Quq,Qui,Int.toNat_zero,Int.toNat_one,Quh,Qut,Quu,Qur,QtJ,Qun,beq_true,beq_false,rng0,rng1,rng2,rng3,rng4,rng5,rng6,rng7,rng8,XQ,Nat.reducePow,QuG,QuT,T.QsS,T.QsT,QG,Qs,ti0,zi0,ti3,zi3,un3,ti4,zi4,un4,ti9,ei9,zi9,un9,ti27,zi27,un27,ti32,ei32,ai32,zi32,un32,ti33,ei33,ai33,zi33,un33,ti44,ei44,ai44,zi44,un44,ti46,X4,X5,X6,zi46,sp46,ti48,YU,Y7,Zs,Zj,zi48,sp48,ti54,Zy,Zz,ZA,zi54,sp54,ti56,ei56,ai56,zi56,un56,ti65,ti67,zi67,un67,ti69,ZB,ZC,ZD,ZE,ZF,zi69,sp69,ti78,ei78,ai78,zi78,un78,ti82,Qus,Int.sub_zero,YG,QS]|with_reducible (first|refine Qq fun K hK=>?_|refine Qu ?_|refine Xy ?_|refine Xl ?_|refine Xp ?_|refine QE ?_|refine Xb ?_|refine Qg ?_|refine Xm ?_|refine QK ?_|refine Qn ?_|refine Q8 ?_|refine QJ ?_|refine QP rfl ?_|refine hK _ ?_;clear hK|clear hK;refine hK _ ?_;clear hK|clear hK;clear hK;refine hK _ ?_;clear hK|clear hK;clear hK;clear hK;refine hK _ ?_;clear hK|refine Qm rfl ?_;simp only[↓reduceIte,QtJ])|intro (b:Bool);cases b
     obtain⟨I,hI⟩:∃I:Nat->AS->Prop,I=fun m' s=>∃(j:Nat) (v:List Int),m'=l.length - j/\j<=l.length/\ded v (XN (l.drop j))=U/\v.length+ndG (l.drop j)<=8000/\s.tm 13 = .i j/\s.tm 3=nilV/\s.tm 9 = .ptr h.length 0 0/\s.tm 10 = .arr (h.length+2) 0 l.length/\s.tm 12 = .sl 1 (ints v) (some (h.length+3))/\s.h=h++[RB,GB,.cells 46 3 (vs G.goal l),.grow 3 1 v.length]:=⟨_,rfl⟩;refine QD I ?_ (m:=l.length) ?_
     ·intro m' s hs;rw[hI]at hs;obtain⟨tm,hp⟩:=s;dsimp only at hs;obtain⟨j,v,rfl,hj,hv,hvb2,tj,t3,t9,t10,t12,rfl⟩:=hs
      have wj:IntKind.i64.wrap (((j:Nat):Int)+1)=((j+1:Nat):Int):=XM (by omega)
      have hlv:(vs G.goal l).length=l.length:=Z5 _ _
      by_cases hlt:j<l.length
      ·have hel:=QpT G.goal hlt
       have hec:=G.Qtl l[j]
       have hea:(l[j]).goal.isAgg=true:=rfl
       have y1:((j:Nat):Int)<((l.length:Nat):Int):=by omega
       rw[QmL hlt,Zo]at hv
       rw[Qrh hlt]at hvb2
       have co:=ord (.cells 46 3 (vs G.goal l)) v l[j].args (by omega)
       have hdl:=Z7 v (Yd l[j].args)
       have hvn:=Qeb l[j].args
       repeat first|(first|with_reducible (first|refine Qd fun K E hK hE=>?_|refine Qj fun K E hK hE=>?_|refine FunW.QsR co ?_)|refine Qi (id:=9) [(0,0),(1,0),(2,0),(3,0),(4,0),(5,0),(6,0),(7,0),(8,0),(9,0),(10,0),(11,0)] mixed (by kernel_rfl) fun K hK=>?_|refine Qh (id:=9) [(0,0),(1,0),(2,0),(3,0),(4,0),(5,0),(6,0),(7,0),(8,0),(9,0),(10,0),(11,0)] mixed (by kernel_rfl) fun K hK=>?_|refine Qi (id:=22) [(0,0),(1,0),(2,0),(3,0),(4,0),(5,0),(6,0),(7,0),(8,0),(9,0),(10,0),(11,0),(12,2),(13,0)] mixed (by kernel_rfl) fun K hK=>?_|refine Qh (id:=22) [(0,0),(1,0),(2,0),(3,0),(4,0),(5,0),(6,0),(7,0),(8,0),(9,0),(10,0),(11,0),(12,2),(13,0)] mixed (by kernel_rfl) fun K hK=>?_);simp only[XT,XF,Yj,QQ,QB,QN,OpW,YH,aop,undef,XU,Qul,Qum,X3,Xq,XD,AS.ev,QO,Q9,Xu,Xk,XC,QR,XA,Qz,Qy,Qt,XE,XL,XJ,QtM,Qt5,AV.QsU,QC,Xs,Xe,Q1,Q2,QY,Xi,Xo,QZ,QI,Xz,Xf,Q5,Q6,Q3,Xj,Xr,Q4,QtZ,Qt0,QL,QH,QM,Qw,QV,Qp,Qo,Qk,Xc,QW,QX,QT,Xh,Xn,QU,Qt1,Quo,Qup,Qt2,Qt3,↓reduceIte,QtS,QtT,Nat.reduceAdd,Nat.reduceLT,Nat.reduceLeDiff,Nat.reduceEqDiff,Nat.reduceSub,Nat.reduceMul,QtR,Qt4,Que,Quf,Qud,Ql,Qr,Xg,Zl,Zq,YI,XR,Xa,aBin,Zd,Q7,Zc,ZI,QF,aLen,Yo,Y6,X8,hget,Yh,hset,hlen,happ,QtF,QtG,Quv,Qt9,Qua,QtH,Quk,QtK,Quj,QtL,Qug,QtI,QtU,QtY,Qt7,Qt6,Qt8,QtQ,QtX,QtO,QtW,YX,YC,YK,Y9,YF,YE,goInt,Qub,Quc,QtN,Quq,Qui,Int.toNat_zero,Int.toNat_one,Quh,Qut,Quu,Qur,QtJ,Qun,beq_true,beq_false,rng0,rng1,rng2,rng3,rng4,rng5,rng6,rng7,rng8,XQ,Nat.reducePow,QuG,QuT,T.QsS,T.QsT,QG,Qs,ti0,zi0,ti3,zi3,un3,ti4,zi4,un4,ti9,ei9,zi9,un9,ti27,zi27,un27,ti32,ei32,ai32,zi32,un32,ti33,ei33,ai33,zi33,un33,ti44,ei44,ai44,zi44,un44,ti46,X4,X5,X6,zi46,sp46,ti48,YU,Y7,Zs,Zj,zi48,sp48,ti54,Zy,Zz,ZA,zi54,sp54,ti56,ei56,ai56,zi56,un56,ti65,ti67,zi67,un67,ti69,ZB,ZC,ZD,ZE,ZF,zi69,sp69,ti78,ei78,ai78,zi78,un78,ti82,Qus,Int.sub_zero,YG,QS,t3,t9,t10,t12,tj,hel,hec,hea,hlv,y1,wj,hlt]|with_reducible (first|refine Qq fun K hK=>?_|refine Qu ?_|refine Xy ?_|refine Xl ?_|refine Xp ?_|refine QE ?_|refine Xb ?_|refine Qg ?_|refine Xm ?_|refine QK ?_|refine Qn ?_|refine Q8 ?_|refine QJ ?_|refine QP rfl ?_|refine hK _ ?_;clear hK|clear hK;refine hK _ ?_;clear hK|clear hK;clear hK;refine hK _ ?_;clear hK|clear hK;clear hK;clear hK;refine hK _ ?_;clear hK|refine Qm rfl ?_;simp only[↓reduceIte,QtJ])|intro (b:Bool);cases b
       refine XB.mk (m':=l.length - (j+1)) (by omega) ?_
       rw[hI]
       exact⟨j+1,ded v (Yd l[j].args),rfl,hlt,hv,by omega,rfl,t3,t9,t10,rfl,rfl⟩
      ·have hjl:j=l.length:=by omega
       have hvu:v=U:=by rw[<-hv,hjl,Qvb];rfl
       subst hvu
       have y1:¬((j:Nat):Int)<((l.length:Nat):Int):=by omega
       repeat first|(first|with_reducible (first|refine Qd fun K E hK hE=>?_|refine Qj fun K E hK hE=>?_)|refine Qi (id:=9) [(0,0),(1,0),(2,0),(3,0),(4,0),(5,0),(6,0),(7,0),(8,0),(9,0),(10,0),(11,0)] mixed (by kernel_rfl) fun K hK=>?_|refine Qh (id:=9) [(0,0),(1,0),(2,0),(3,0),(4,0),(5,0),(6,0),(7,0),(8,0),(9,0),(10,0),(11,0)] mixed (by kernel_rfl) fun K hK=>?_|refine Qi (id:=22) [(0,0),(1,0),(2,0),(3,0),(4,0),(5,0),(6,0),(7,0),(8,0),(9,0),(10,0),(11,0),(12,2),(13,0)] mixed (by kernel_rfl) fun K hK=>?_|refine Qh (id:=22) [(0,0),(1,0),(2,0),(3,0),(4,0),(5,0),(6,0),(7,0),(8,0),(9,0),(10,0),(11,0),(12,2),(13,0)] mixed (by kernel_rfl) fun K hK=>?_);simp only[XT,XF,Yj,QQ,QB,QN,OpW,YH,aop,undef,XU,Qul,Qum,X3,Xq,XD,AS.ev,QO,Q9,Xu,Xk,XC,QR,XA,Qz,Qy,Qt,XE,XL,XJ,QtM,Qt5,AV.QsU,QC,Xs,Xe,Q1,Q2,QY,Xi,Xo,QZ,QI,Xz,Xf,Q5,Q6,Q3,Xj,Xr,Q4,QtZ,Qt0,QL,QH,QM,Qw,QV,Qp,Qo,Qk,Xc,QW,QX,QT,Xh,Xn,QU,Qt1,Quo,Qup,Qt2,Qt3,↓reduceIte,QtS,QtT,Nat.reduceAdd,Nat.reduceLT,Nat.reduceLeDiff,Nat.reduceEqDiff,Nat.reduceSub,Nat.reduceMul,QtR,Qt4,Que,Quf,Qud,Ql,Qr,Xg,Zl,Zq,YI,XR,Xa,aBin,Zd,Q7,Zc,ZI,QF,aLen,Yo,Y6,X8,hget,Yh,hset,hlen,happ,QtF,QtG,Quv,Qt9,Qua,QtH,Quk,QtK,Quj,QtL,Qug,QtI,QtU,QtY,Qt7,Qt6,Qt8,QtQ,QtX,QtO,QtW,YX,YC,YK,Y9,YF,YE,goInt,Qub,Quc,QtN,Quq,Qui,Int.toNat_zero,Int.toNat_one,Quh,Qut,Quu,Qur,QtJ,Qun,beq_true,beq_false,rng0,rng1,rng2,rng3,rng4,rng5,rng6,rng7,rng8,XQ,Nat.reducePow,QuG,QuT,T.QsS,T.QsT,QG,Qs,ti0,zi0,ti3,zi3,un3,ti4,zi4,un4,ti9,ei9,zi9,un9,ti27,zi27,un27,ti32,ei32,ai32,zi32,un32,ti33,ei33,ai33,zi33,un33,ti44,ei44,ai44,zi44,un44,ti46,X4,X5,X6,zi46,sp46,ti48,YU,Y7,Zs,Zj,zi48,sp48,ti54,Zy,Zz,ZA,zi54,sp54,ti56,ei56,ai56,zi56,un56,ti65,ti67,zi67,un67,ti69,ZB,ZC,ZD,ZE,ZF,zi69,sp69,ti78,ei78,ai78,zi78,un78,ti82,Qus,Int.sub_zero,YG,QS,t3,t9,t10,t12,tj,hlv,y1]|with_reducible (first|refine Qq fun K hK=>?_|refine Qu ?_|refine Xy ?_|refine Xl ?_|refine Xp ?_|refine QE ?_|refine Xb ?_|refine Qg ?_|refine Xm ?_|refine QK ?_|refine Qn ?_|refine Q8 ?_|refine QJ ?_|refine QP rfl ?_|refine hK _ ?_;clear hK|clear hK;refine hK _ ?_;clear hK|clear hK;clear hK;refine hK _ ?_;clear hK|clear hK;clear hK;clear hK;refine hK _ ?_;clear hK|refine Qm rfl ?_;simp only[↓reduceIte,QtJ])|intro (b:Bool);cases b
       (try (refine hK _ ?_;rw[Ql]))
       exact⟨t3,t9,t10,t12,rfl⟩
     ·rw[hI]
      exact⟨0,[],rfl,QuG _,hU.symm,by rw[QtW];simp only[QtT];omega,rfl,rfl,rfl,rfl,rfl,rfl⟩
    rintro⟨tm,hp⟩ ⟨t3,t9,t10,t12,rfl⟩
    dsimp only at t3 t9 t10 t12
    refine Qaw (fun s=>s.tm 3=nilV/\s.tm 9 = .ptr h.length 0 0/\s.tm 10 = .arr (h.length+2) 0 l.length/\s.tm 12 = .sl 1 (ints U) (some (h.length+3))/\s.h=h++[RB,GB,.cells 46 3 (vs G.goal (mG F l)),.grow 3 1 U.length]) ?_ ?_
    rotate_left
    ·repeat first|(first|with_reducible (first|refine Qd fun K E hK hE=>?_|refine Qj fun K E hK hE=>?_)|refine Qi (id:=9) [(0,0),(1,0),(2,0),(3,0),(4,0),(5,0),(6,0),(7,0),(8,0),(9,0),(10,0),(11,0)] mixed (by kernel_rfl) fun K hK=>?_|refine Qh (id:=9) [(0,0),(1,0),(2,0),(3,0),(4,0),(5,0),(6,0),(7,0),(8,0),(9,0),(10,0),(11,0)] mixed (by kernel_rfl) fun K hK=>?_|refine Qi (id:=22) [(0,0),(1,0),(2,0),(3,0),(4,0),(5,0),(6,0),(7,0),(8,0),(9,0),(10,0),(11,0),(12,2),(13,0)] mixed (by kernel_rfl) fun K hK=>?_|refine Qh (id:=22) [(0,0),(1,0),(2,0),(3,0),(4,0),(5,0),(6,0),(7,0),(8,0),(9,0),(10,0),(11,0),(12,2),(13,0)] mixed (by kernel_rfl) fun K hK=>?_);simp only[XT,XF,Yj,QQ,QB,QN,OpW,YH,aop,undef,XU,Qul,Qum,X3,Xq,XD,AS.ev,QO,Q9,Xu,Xk,XC,QR,XA,Qz,Qy,Qt,XE,XL,XJ,QtM,Qt5,AV.QsU,QC,Xs,Xe,Q1,Q2,QY,Xi,Xo,QZ,QI,Xz,Xf,Q5,Q6,Q3,Xj,Xr,Q4,QtZ,Qt0,QL,QH,QM,Qw,QV,Qp,Qo,Qk,Xc,QW,QX,QT,Xh,Xn,QU,Qt1,Quo,Qup,Qt2,Qt3,↓reduceIte,QtS,QtT,Nat.reduceAdd,Nat.reduceLT,Nat.reduceLeDiff,Nat.reduceEqDiff,Nat.reduceSub,Nat.reduceMul,QtR,Qt4,Que,Quf,Qud,Ql,Qr,Xg,Zl,Zq,YI,XR,Xa,aBin,Zd,Q7,Zc,ZI,QF,aLen,Yo,Y6,X8,hget,Yh,hset,hlen,happ,QtF,QtG,Quv,Qt9,Qua,QtH,Quk,QtK,Quj,QtL,Qug,QtI,QtU,QtY,Qt7,Qt6,Qt8,QtQ,QtX,QtO,QtW,YX,YC,YK,Y9,YF,YE,goInt,Qub,Quc,QtN,Quq,Qui,Int.toNat_zero,Int.toNat_one,Quh,Qut,Quu,Qur,QtJ,Qun,beq_true,beq_false,rng0,rng1,rng2,rng3,rng4,rng5,rng6,rng7,rng8,XQ,Nat.reducePow,QuG,QuT,T.QsS,T.QsT,QG,Qs,ti0,zi0,ti3,zi3,un3,ti4,zi4,un4,ti9,ei9,zi9,un9,ti27,zi27,un27,ti32,ei32,ai32,zi32,un32,ti33,ei33,ai33,zi33,un33,ti44,ei44,ai44,zi44,un44,ti46,X4,X5,X6,zi46,sp46,ti48,YU,Y7,Zs,Zj,zi48,sp48,ti54,Zy,Zz,ZA,zi54,sp54,ti56,ei56,ai56,zi56,un56,ti65,ti67,zi67,un67,ti69,ZB,ZC,ZD,ZE,ZF,zi69,sp69,ti78,ei78,ai78,zi78,un78,ti82,Qus,Int.sub_zero,YG,QS,t3,t9,t10,t12]|with_reducible (first|refine Qq fun K hK=>?_|refine Qu ?_|refine Xy ?_|refine Xl ?_|refine Xp ?_|refine QE ?_|refine Xb ?_|refine Qg ?_|refine Xm ?_|refine QK ?_|refine Qn ?_|refine Q8 ?_|refine QJ ?_|refine QP rfl ?_|refine hK _ ?_;clear hK|clear hK;refine hK _ ?_;clear hK|clear hK;clear hK;refine hK _ ?_;clear hK|clear hK;clear hK;clear hK;refine hK _ ?_;clear hK|refine Qm rfl ?_;simp only[↓reduceIte,QtJ])|intro (b:Bool);cases b
     obtain⟨I,hI⟩:∃I:Nat->AS->Prop,I=fun m' s=>∃j:Nat,m'=l.length - j/\j<=l.length/\s.tm 14 = .i j/\s.tm 3=nilV/\s.tm 9 = .ptr h.length 0 0/\s.tm 10 = .arr (h.length+2) 0 l.length/\s.tm 12 = .sl 1 (ints U) (some (h.length+3))/\s.h=h++[RB,GB,.cells 46 3 (vs G.goal (mixG F l j)),.grow 3 1 U.length]:=⟨_,rfl⟩;refine QD I ?_ (m:=l.length) ?_
     ·intro m' s hs;rw[hI]at hs;obtain⟨tm,hp⟩:=s;dsimp only at hs;obtain⟨j,rfl,hj,tj,t3,t9,t10,t12,rfl⟩:=hs
      have wj:IntKind.i64.wrap (((j:Nat):Int)+1)=((j+1:Nat):Int):=XM (by omega)
      have hlv:(vs G.goal (mixG F l j)).length=l.length:=by rw[Z5,QoL F _ hj]
      by_cases hlt:j<l.length
      ·have hel:=QoK F G.goal hlt
       have hse:=QoM F G.goal hlt
       have hec:=G.Qtl l[j]
       have hea:(l[j]).goal.isAgg=true:=rfl
       have y1:((j:Nat):Int)<((l.length:Nat):Int):=by omega
       have cr:=QiZ U (some (h.length+3)) (by omega) 1000000 (QuD _) l[j].args (Qu1 (hns _ (Qvk hlt)) (by omega)) (hps _ (Qvk hlt)) (fun v hv=>hin v (Qlp hlt v hv))
       rw[<-hF]at cr
       repeat first|(first|with_reducible (first|refine Qd fun K E hK hE=>?_|refine Qj fun K E hK hE=>?_|refine Qe cr ?_|refine ZJ cr ?_)|refine Qi (id:=9) [(0,0),(1,0),(2,0),(3,0),(4,0),(5,0),(6,0),(7,0),(8,0),(9,0),(10,0),(11,0)] mixed (by kernel_rfl) fun K hK=>?_|refine Qh (id:=9) [(0,0),(1,0),(2,0),(3,0),(4,0),(5,0),(6,0),(7,0),(8,0),(9,0),(10,0),(11,0)] mixed (by kernel_rfl) fun K hK=>?_|refine Qi (id:=22) [(0,0),(1,0),(2,0),(3,0),(4,0),(5,0),(6,0),(7,0),(8,0),(9,0),(10,0),(11,0),(12,2),(13,0)] mixed (by kernel_rfl) fun K hK=>?_|refine Qh (id:=22) [(0,0),(1,0),(2,0),(3,0),(4,0),(5,0),(6,0),(7,0),(8,0),(9,0),(10,0),(11,0),(12,2),(13,0)] mixed (by kernel_rfl) fun K hK=>?_);simp only[XT,XF,Yj,QQ,QB,QN,OpW,YH,aop,undef,XU,Qul,Qum,X3,Xq,XD,AS.ev,QO,Q9,Xu,Xk,XC,QR,XA,Qz,Qy,Qt,XE,XL,XJ,QtM,Qt5,AV.QsU,QC,Xs,Xe,Q1,Q2,QY,Xi,Xo,QZ,QI,Xz,Xf,Q5,Q6,Q3,Xj,Xr,Q4,QtZ,Qt0,QL,QH,QM,Qw,QV,Qp,Qo,Qk,Xc,QW,QX,QT,Xh,Xn,QU,Qt1,Quo,Qup,Qt2,Qt3,↓reduceIte,QtS,QtT,Nat.reduceAdd,Nat.reduceLT,Nat.reduceLeDiff,Nat.reduceEqDiff,Nat.reduceSub,Nat.reduceMul,QtR,Qt4,Que,Quf,Qud,Ql,Qr,Xg,Zl,Zq,YI,XR,Xa,aBin,Zd,Q7,Zc,ZI,QF,aLen,Yo,Y6,X8,hget,Yh,hset,hlen,happ,QtF,QtG,Quv,Qt9,Qua,QtH,Quk,QtK,Quj,QtL,Qug,QtI,QtU,QtY,Qt7,Qt6,Qt8,QtQ,QtX,QtO,QtW,YX,YC,YK,Y9,YF,YE,goInt,Qub,Quc,QtN,Quq,Qui,Int.toNat_zero,Int.toNat_one,Quh,Qut,Quu,Qur,QtJ,Qun,beq_true,beq_false,rng0,rng1,rng2,rng3,rng4,rng5,rng6,rng7,rng8,XQ,Nat.reducePow,QuG,QuT,T.QsS,T.QsT,QG,Qs,ti0,zi0,ti3,zi3,un3,ti4,zi4,un4,ti9,ei9,zi9,un9,ti27,zi27,un27,ti32,ei32,ai32,zi32,un32,ti33,ei33,ai33,zi33,un33,ti44,ei44,ai44,zi44,un44,ti46,X4,X5,X6,zi46,sp46,ti48,YU,Y7,Zs,Zj,zi48,sp48,ti54,Zy,Zz,ZA,zi54,sp54,ti56,ei56,ai56,zi56,un56,ti65,ti67,zi67,un67,ti69,ZB,ZC,ZD,ZE,ZF,zi69,sp69,ti78,ei78,ai78,zi78,un78,ti82,Qus,Int.sub_zero,YG,QS,t3,t9,t10,t12,tj,hel,hec,hea,hlv,y1,wj,hlt]|with_reducible (first|refine Qq fun K hK=>?_|refine Qu ?_|refine Xy ?_|refine Xl ?_|refine Xp ?_|refine QE ?_|refine Xb ?_|refine Qg ?_|refine Xm ?_|refine QK ?_|refine Qn ?_|refine Q8 ?_|refine QJ ?_|refine QP rfl ?_|refine hK _ ?_;clear hK|clear hK;refine hK _ ?_;clear hK|clear hK;clear hK;refine hK _ ?_;clear hK|clear hK;clear hK;clear hK;refine hK _ ?_;clear hK|refine Qm rfl ?_;simp only[↓reduceIte,QtJ])|intro (b:Bool);cases b
       refine XB.mk (m':=l.length - (j+1)) (by omega) ?_
       rw[hI]
       exact⟨j+1,rfl,hlt,rfl,t3,t9,t10,t12,by rw[<-hse];rfl⟩
      ·have hjl:j=l.length:=by omega
       have hme:mixG F l j=mG F l:=by rw[hjl];exact QoJ F _
       rw[hme]at hlv ⊢
       have y1:¬((j:Nat):Int)<((l.length:Nat):Int):=by omega
       repeat first|(first|with_reducible (first|refine Qd fun K E hK hE=>?_|refine Qj fun K E hK hE=>?_)|refine Qi (id:=9) [(0,0),(1,0),(2,0),(3,0),(4,0),(5,0),(6,0),(7,0),(8,0),(9,0),(10,0),(11,0)] mixed (by kernel_rfl) fun K hK=>?_|refine Qh (id:=9) [(0,0),(1,0),(2,0),(3,0),(4,0),(5,0),(6,0),(7,0),(8,0),(9,0),(10,0),(11,0)] mixed (by kernel_rfl) fun K hK=>?_|refine Qi (id:=22) [(0,0),(1,0),(2,0),(3,0),(4,0),(5,0),(6,0),(7,0),(8,0),(9,0),(10,0),(11,0),(12,2),(13,0)] mixed (by kernel_rfl) fun K hK=>?_|refine Qh (id:=22) [(0,0),(1,0),(2,0),(3,0),(4,0),(5,0),(6,0),(7,0),(8,0),(9,0),(10,0),(11,0),(12,2),(13,0)] mixed (by kernel_rfl) fun K hK=>?_);simp only[XT,XF,Yj,QQ,QB,QN,OpW,YH,aop,undef,XU,Qul,Qum,X3,Xq,XD,AS.ev,QO,Q9,Xu,Xk,XC,QR,XA,Qz,Qy,Qt,XE,XL,XJ,QtM,Qt5,AV.QsU,QC,Xs,Xe,Q1,Q2,QY,Xi,Xo,QZ,QI,Xz,Xf,Q5,Q6,Q3,Xj,Xr,Q4,QtZ,Qt0,QL,QH,QM,Qw,QV,Qp,Qo,Qk,Xc,QW,QX,QT,Xh,Xn,QU,Qt1,Quo,Qup,Qt2,Qt3,↓reduceIte,QtS,QtT,Nat.reduceAdd,Nat.reduceLT,Nat.reduceLeDiff,Nat.reduceEqDiff,Nat.reduceSub,Nat.reduceMul,QtR,Qt4,Que,Quf,Qud,Ql,Qr,Xg,Zl,Zq,YI,XR,Xa,aBin,Zd,Q7,Zc,ZI,QF,aLen,Yo,Y6,X8,hget,Yh,hset,hlen,happ,QtF,QtG,Quv,Qt9,Qua,QtH,Quk,QtK,Quj,QtL,Qug,QtI,QtU,QtY,Qt7,Qt6,Qt8,QtQ,QtX,QtO,QtW,YX,YC,YK,Y9,YF,YE,goInt,Qub,Quc,QtN,Quq,Qui,Int.toNat_zero,Int.toNat_one,Quh,Qut,Quu,Qur,QtJ,Qun,beq_true,beq_false,rng0,rng1,rng2,rng3,rng4,rng5,rng6,rng7,rng8,XQ,Nat.reducePow,QuG,QuT,T.QsS,T.QsT,QG,Qs,ti0,zi0,ti3,zi3,un3,ti4,zi4,un4,ti9,ei9,zi9,un9,ti27,zi27,un27,ti32,ei32,ai32,zi32,un32,ti33,ei33,ai33,zi33,un33,ti44,ei44,ai44,zi44,un44,ti46,X4,X5,X6,zi46,sp46,ti48,YU,Y7,Zs,Zj,zi48,sp48,ti54,Zy,Zz,ZA,zi54,sp54,ti56,ei56,ai56,zi56,un56,ti65,ti67,zi67,un67,ti69,ZB,ZC,ZD,ZE,ZF,zi69,sp69,ti78,ei78,ai78,zi78,un78,ti82,Qus,Int.sub_zero,YG,QS,t3,t9,t10,t12,tj,hlv,y1]|with_reducible (first|refine Qq fun K hK=>?_|refine Qu ?_|refine Xy ?_|refine Xl ?_|refine Xp ?_|refine QE ?_|refine Xb ?_|refine Qg ?_|refine Xm ?_|refine QK ?_|refine Qn ?_|refine Q8 ?_|refine QJ ?_|refine QP rfl ?_|refine hK _ ?_;clear hK|clear hK;refine hK _ ?_;clear hK|clear hK;clear hK;refine hK _ ?_;clear hK|clear hK;clear hK;clear hK;refine hK _ ?_;clear hK|refine Qm rfl ?_;simp only[↓reduceIte,QtJ])|intro (b:Bool);cases b
       (try (refine hK _ ?_;rw[Ql]))
       exact⟨t3,t9,t10,t12,rfl⟩
     ·rw[hI]
      exact⟨0,rfl,QuG _,rfl,t3,t9,t10,t12,by rw[Qna]⟩
    rintro⟨tm,hp⟩ ⟨t3,t9,t10,t12,rfl⟩
    dsimp only at t3 t9 t10 t12
    subst hRB hGB
    refine Zu 3 9 1 t3 ?_
    rw[Quw,Quz]
    simp only[QtS,QtT,Qt7,Qt6,QtR,Nat.reduceAdd]
    repeat first|(first|with_reducible (first|refine Qd fun K E hK hE=>?_|refine Qj fun K E hK hE=>?_)|refine Qi (id:=9) [(0,0),(1,0),(2,0),(3,0),(4,0),(5,0),(6,0),(7,0),(8,0),(9,0),(10,0),(11,0)] mixed (by kernel_rfl) fun K hK=>?_|refine Qh (id:=9) [(0,0),(1,0),(2,0),(3,0),(4,0),(5,0),(6,0),(7,0),(8,0),(9,0),(10,0),(11,0)] mixed (by kernel_rfl) fun K hK=>?_|refine Qi (id:=22) [(0,0),(1,0),(2,0),(3,0),(4,0),(5,0),(6,0),(7,0),(8,0),(9,0),(10,0),(11,0),(12,2),(13,0)] mixed (by kernel_rfl) fun K hK=>?_|refine Qh (id:=22) [(0,0),(1,0),(2,0),(3,0),(4,0),(5,0),(6,0),(7,0),(8,0),(9,0),(10,0),(11,0),(12,2),(13,0)] mixed (by kernel_rfl) fun K hK=>?_);simp only[XT,XF,Yj,QQ,QB,QN,OpW,YH,aop,undef,XU,Qul,Qum,X3,Xq,XD,AS.ev,QO,Q9,Xu,Xk,XC,QR,XA,Qz,Qy,Qt,XE,XL,XJ,QtM,Qt5,AV.QsU,QC,Xs,Xe,Q1,Q2,QY,Xi,Xo,QZ,QI,Xz,Xf,Q5,Q6,Q3,Xj,Xr,Q4,QtZ,Qt0,QL,QH,QM,Qw,QV,Qp,Qo,Qk,Xc,QW,QX,QT,Xh,Xn,QU,Qt1,Quo,Qup,Qt2,Qt3,↓reduceIte,QtS,QtT,Nat.reduceAdd,Nat.reduceLT,Nat.reduceLeDiff,Nat.reduceEqDiff,Nat.reduceSub,Nat.reduceMul,QtR,Qt4,Que,Quf,Qud,Ql,Qr,Xg,Zl,Zq,YI,XR,Xa,aBin,Zd,Q7,Zc,ZI,QF,aLen,Yo,Y6,X8,hget,Yh,hset,hlen,happ,QtF,QtG,Quv,Qt9,Qua,QtH,Quk,QtK,Quj,QtL,Qug,QtI,QtU,QtY,Qt7,Qt6,Qt8,QtQ,QtX,QtO,QtW,YX,YC,YK,Y9,YF,YE,goInt,Qub,Quc,QtN,Quq,Qui,Int.toNat_zero,Int.toNat_one,Quh,Qut,Quu,Qur,QtJ,Qun,beq_true,beq_false,rng0,rng1,rng2,rng3,rng4,rng5,rng6,rng7,rng8,XQ,Nat.reducePow,QuG,QuT,T.QsS,T.QsT,QG,Qs,ti0,zi0,ti3,zi3,un3,ti4,zi4,un4,ti9,ei9,zi9,un9,ti27,zi27,un27,ti32,ei32,ai32,zi32,un32,ti33,ei33,ai33,zi33,un33,ti44,ei44,ai44,zi44,un44,ti46,X4,X5,X6,zi46,sp46,ti48,YU,Y7,Zs,Zj,zi48,sp48,ti54,Zy,Zz,ZA,zi54,sp54,ti56,ei56,ai56,zi56,un56,ti65,ti67,zi67,un67,ti69,ZB,ZC,ZD,ZE,ZF,zi69,sp69,ti78,ei78,ai78,zi78,un78,ti82,Qus,Int.sub_zero,YG,QS,t9,t10,t12]|with_reducible (first|refine Qq fun K hK=>?_|refine Qu ?_|refine Xy ?_|refine Xl ?_|refine Xp ?_|refine QE ?_|refine Xb ?_|refine Qg ?_|refine Xm ?_|refine QK ?_|refine Qn ?_|refine Q8 ?_|refine QJ ?_|refine QP rfl ?_|refine hK _ ?_;clear hK|clear hK;refine hK _ ?_;clear hK|clear hK;clear hK;refine hK _ ?_;clear hK|clear hK;clear hK;clear hK;refine hK _ ?_;clear hK|refine Qm rfl ?_;simp only[↓reduceIte,QtJ])|intro (b:Bool);cases b
    obtain⟨I,hI⟩:∃I:Nat->AS->Prop,I=fun m' s=>∃j:Nat,m'=U.length - j/\j<=U.length/\s.tm 15 = .i j/\s.tm 3 = .sl 1 (strs ((U.take j).map fun v=>s2.names.getD v.toNat eB)) (some (h.length+4))/\s.tm 9 = .ptr h.length 0 0/\s.tm 10 = .arr (h.length+2) 0 l.length/\s.tm 12 = .sl 1 (ints U) (some (h.length+3))/\s.h=h++[AB.cells 69 5 [.agg [.sl 3 (tks ts) none,.i ((ts.length - s2.toks.length:Nat):Int),.sl 1 (strs s2.names) (some (h.length+1)),.i 0,.i 0]],.grow 9 1 s2.names.length,.cells 46 3 (vs G.goal (mG F l)),.grow 3 1 U.length,.grow 9 1 j]:=⟨_,rfl⟩;refine QD I ?_ (m:=U.length) ?_
    ·intro m' s hs;rw[hI]at hs;obtain⟨tm,hp⟩:=s;dsimp only at hs;obtain⟨j,rfl,hj,tj,t3,t9,t10,t12,rfl⟩:=hs
     have wj:IntKind.i64.wrap (((j:Nat):Int)+1)=((j+1:Nat):Int):=XM (by omega)
     by_cases hlt:j<U.length
     ·obtain⟨h0,h1⟩:=hUb _ (Qvk hlt)
      obtain⟨w,hw⟩:∃w:Nat,U[j]=(w:Int):=⟨U[j].toNat,by omega⟩
      rw[hw]at h1
      have hw1:w<s2.names.length:=by omega
      have hg:=QbM hlt
      rw[hw]at hg
      have hgn:=strs_get hw1
      have hln:=Yp s2.names
      have hml:(strs ((U.take j).map fun v=>s2.names.getD v.toNat eB)).length=j:=by rw[Yp,Qu6,QuY];omega
      have hm2:j+1<=maxLen:=by simp only[maxLen];omega
      have hm:(j+1) * 16<=140737488355328:=by omega
      have y1:((j:Nat):Int)<((U.length:Nat):Int):=by omega
      have hts:strs ((U.take (j+1)).map fun v=>s2.names.getD v.toNat eB)=strs ((U.take j).map fun v=>s2.names.getD v.toNat eB)++[.v (.string s2.names[w])]:=by
       rw[Qu4 hlt,Qvr,Qbh,List.map_cons,List.map_nil,QkU,hw,Int.toNat_natCast,Qu8,QuC hw1];rfl
      repeat first|with_reducible (first|(first|refine Qd fun K E hK hE=>?_|refine Qj fun K E hK hE=>?_);simp only[XT,XF,Yj,QQ,QB,QN,OpW,YH,aop,undef,XU,Qul,Qum,X3,Xq,XD,AS.ev,QO,Q9,Xu,Xk,XC,QR,XA,Qz,Qy,Qt,XE,XL,XJ,QtM,Qt5,AV.QsU,QC,Xs,Xe,Q1,Q2,QY,Xi,Xo,QZ,QI,Xz,Xf,Q5,Q6,Q3,Xj,Xr,Q4,QtZ,Qt0,QL,QH,QM,Qw,QV,Qp,Qo,Qk,Xc,QW,QX,QT,Xh,Xn,QU,Qt1,Quo,Qup,Qt2,Qt3,↓reduceIte,QtS,QtT,Nat.reduceAdd,Nat.reduceLT,Nat.reduceLeDiff,Nat.reduceEqDiff,Nat.reduceSub,Nat.reduceMul,QtR,Qt4,Que,Quf,Qud,Ql,Qr,Xg,Zl,Zq,YI,XR,Xa,aBin,Zd,Q7,Zc,ZI,QF,aLen,Yo,Y6,X8,hget,Yh,hset,hlen,happ,QtF,QtG,Quv,Qt9,Qua,QtH,Quk,QtK,Quj,QtL,Qug,QtI,QtU,QtY,Qt7,Qt6,Qt8,QtQ,QtX,QtO,QtW,YX,YC,YK,Y9,YF,YE,goInt,Qub,Quc,QtN,Quq,Qui,Int.toNat_zero,Int.toNat_one,Quh,Qut,Quu,Qur,QtJ,Qun,beq_true,beq_false,rng0,rng1,rng2,rng3,rng4,rng5,rng6,rng7,rng8,XQ,Nat.reducePow,QuG,QuT,T.QsS,T.QsT,QG,Qs,ti0,zi0,ti3,zi3,un3,ti4,zi4,un4,ti9,ei9,zi9,un9,ti27,zi27,un27,ti32,ei32,ai32,zi32,un32,ti33,ei33,ai33,zi33,un33,ti44,ei44,ai44,zi44,un44,ti46,X4,X5,X6,zi46,sp46,ti48,YU,Y7,Zs,Zj,zi48,sp48,ti54,Zy,Zz,ZA,zi54,sp54,ti56,ei56,ai56,zi56,un56,ti65,ti67,zi67,un67,ti69,ZB,ZC,ZD,ZE,ZF,zi69,sp69,ti78,ei78,ai78,zi78,un78,ti82,Qus,Int.sub_zero,YG,QS,t3,t9,t10,t12,tj,Qs,y1,hlt]|refine Qq fun K hK=>?_|refine Qu ?_|refine Xy ?_|refine Xl ?_|refine Xp ?_|refine QE ?_|refine Xb ?_|refine Qg ?_|refine Xm ?_|refine QK ?_|refine Qn ?_|refine Q8 ?_|refine QJ ?_|refine QP rfl ?_|refine hK _ ?_;clear hK|clear hK;refine hK _ ?_;clear hK|clear hK;clear hK;refine hK _ ?_;clear hK|clear hK;clear hK;clear hK;refine hK _ ?_;clear hK|refine Qm rfl ?_;simp only[↓reduceIte,QtJ])|intro (b:Bool);cases b
      first|refine Qi (id:=22) [(0,0),(1,0),(2,0),(3,0),(4,0),(5,0),(6,0),(7,0),(8,0),(9,0),(10,0),(11,0),(12,2),(13,0)] mixed (by kernel_rfl) fun K hK=>?_|refine Qh (id:=22) [(0,0),(1,0),(2,0),(3,0),(4,0),(5,0),(6,0),(7,0),(8,0),(9,0),(10,0),(11,0),(12,2),(13,0)] mixed (by kernel_rfl) fun K hK=>?_
      (try simp only[QtO,QtW]);refine Qda 14 (fun K1 hK1=>?_);simp only[XT,XF,Yj,QQ,QB,QN,OpW,YH,aop,undef,XU,Qul,Qum,X3,Xq,XD,AS.ev,QO,Q9,Xu,Xk,XC,QR,XA,Qz,Qy,Qt,XE,XL,XJ,QtM,Qt5,AV.QsU,QC,Xs,Xe,Q1,Q2,QY,Xi,Xo,QZ,QI,Xz,Xf,Q5,Q6,Q3,Xj,Xr,Q4,QtZ,Qt0,QL,QH,QM,Qw,QV,Qp,Qo,Qk,Xc,QW,QX,QT,Xh,Xn,QU,Qt1,Quo,Qup,Qt2,Qt3,↓reduceIte,QtS,QtT,Nat.reduceAdd,Nat.reduceLT,Nat.reduceLeDiff,Nat.reduceEqDiff,Nat.reduceSub,Nat.reduceMul,QtR,Qt4,Que,Quf,Qud,Ql,Qr,Xg,Zl,Zq,YI,XR,Xa,aBin,Zd,Q7,Zc,ZI,QF,aLen,Yo,Y6,X8,hget,Yh,hset,hlen,happ,QtF,QtG,Quv,Qt9,Qua,QtH,Quk,QtK,Quj,QtL,Qug,QtI,QtU,QtY,Qt7,Qt6,Qt8,QtQ,QtX,QtO,QtW,YX,YC,YK,Y9,YF,YE,goInt,Qub,Quc,QtN,Quq,Qui,Int.toNat_zero,Int.toNat_one,Quh,Qut,Quu,Qur,QtJ,Qun,beq_true,beq_false,rng0,rng1,rng2,rng3,rng4,rng5,rng6,rng7,rng8,XQ,Nat.reducePow,QuG,QuT,T.QsS,T.QsT,QG,Qs,ti0,zi0,ti3,zi3,un3,ti4,zi4,un4,ti9,ei9,zi9,un9,ti27,zi27,un27,ti32,ei32,ai32,zi32,un32,ti33,ei33,ai33,zi33,un33,ti44,ei44,ai44,zi44,un44,ti46,X4,X5,X6,zi46,sp46,ti48,YU,Y7,Zs,Zj,zi48,sp48,ti54,Zy,Zz,ZA,zi54,sp54,ti56,ei56,ai56,zi56,un56,ti65,ti67,zi67,un67,ti69,ZB,ZC,ZD,ZE,ZF,zi69,sp69,ti78,ei78,ai78,zi78,un78,ti82,Qus,Int.sub_zero,YG,QS,t3,t9,t10,t12,tj,Qs,y1,hlt,hg,hgn,hln,h1,hw1,hml,hm2,hm];(repeat (first|((first|(with_reducible (first|refine Qd fun K E hK hE=>?_|refine Qj fun K E hK hE=>?_))|(refine Qi (id:=9) [(0,0),(1,0),(2,0),(3,0),(4,0),(5,0),(6,0),(7,0),(8,0),(9,0),(10,0),(11,0)] mixed (by kernel_rfl) fun K hK=>?_)|(refine Qh (id:=9) [(0,0),(1,0),(2,0),(3,0),(4,0),(5,0),(6,0),(7,0),(8,0),(9,0),(10,0),(11,0)] mixed (by kernel_rfl) fun K hK=>?_)|(refine Qi (id:=22) [(0,0),(1,0),(2,0),(3,0),(4,0),(5,0),(6,0),(7,0),(8,0),(9,0),(10,0),(11,0),(12,2),(13,0)] mixed (by kernel_rfl) fun K hK=>?_)|(refine Qh (id:=22) [(0,0),(1,0),(2,0),(3,0),(4,0),(5,0),(6,0),(7,0),(8,0),(9,0),(10,0),(11,0),(12,2),(13,0)] mixed (by kernel_rfl) fun K hK=>?_));simp only[XT,XF,Yj,QQ,QB,QN,OpW,YH,aop,undef,XU,Qul,Qum,X3,Xq,XD,AS.ev,QO,Q9,Xu,Xk,XC,QR,XA,Qz,Qy,Qt,XE,XL,XJ,QtM,Qt5,AV.QsU,QC,Xs,Xe,Q1,Q2,QY,Xi,Xo,QZ,QI,Xz,Xf,Q5,Q6,Q3,Xj,Xr,Q4,QtZ,Qt0,QL,QH,QM,Qw,QV,Qp,Qo,Qk,Xc,QW,QX,QT,Xh,Xn,QU,Qt1,Quo,Qup,Qt2,Qt3,↓reduceIte,QtS,QtT,Nat.reduceAdd,Nat.reduceLT,Nat.reduceLeDiff,Nat.reduceEqDiff,Nat.reduceSub,Nat.reduceMul,QtR,Qt4,Que,Quf,Qud,Ql,Qr,Xg,Zl,Zq,YI,XR,Xa,aBin,Zd,Q7,Zc,ZI,QF,aLen,Yo,Y6,X8,hget,Yh,hset,hlen,happ,QtF,QtG,Quv,Qt9,Qua,QtH,Quk,QtK,Quj,QtL,Qug,QtI,QtU,QtY,Qt7,Qt6,Qt8,QtQ,QtX,QtO,QtW,YX,YC,YK,Y9,YF,YE,goInt,Qub,Quc,QtN,Quq,Qui,Int.toNat_zero,Int.toNat_one,Quh,Qut,Quu,Qur,QtJ,Qun,beq_true,beq_false,rng0,rng1,rng2,rng3,rng4,rng5,rng6,rng7,rng8,XQ,Nat.reducePow,QuG,QuT,T.QsS,T.QsT,QG,Qs,ti0,zi0,ti3,zi3,un3,ti4,zi4,un4,ti9,ei9,zi9,un9,ti27,zi27,un27,ti32,ei32,ai32,zi32,un32,ti33,ei33,ai33,zi33,un33,ti44,ei44,ai44,zi44,un44,ti46,X4,X5,X6,zi46,sp46,ti48,YU,Y7,Zs,Zj,zi48,sp48,ti54,Zy,Zz,ZA,zi54,sp54,ti56,ei56,ai56,zi56,un56,ti65,ti67,zi67,un67,ti69,ZB,ZC,ZD,ZE,ZF,zi69,sp69,ti78,ei78,ai78,zi78,un78,ti82,Qus,Int.sub_zero,YG,QS,t3,t9,t10,t12,tj,Qs,y1,hlt,hg,hgn,hln,h1,hw1,hml,hm2,hm])|(with_reducible (first|refine Qq fun K hK=>?_|refine Qu ?_|refine Xy ?_|refine Xl ?_|refine Xp ?_|refine QE ?_|refine Xb ?_|refine Qg ?_|refine Xm ?_|refine QK ?_|refine Qn ?_|refine Q8 ?_|refine QJ ?_|refine QP rfl ?_))|(with_reducible (first|refine hK _ ?_|(clear hK;refine hK _ ?_)|(clear hK;clear hK;refine hK _ ?_)|(clear hK;clear hK;clear hK;refine hK _ ?_));clear hK)|(refine Qm rfl ?_;simp only[↓reduceIte,QtJ])|(intro (b:Bool);cases b)));refine hK1 _ ?_;clear hK1
      (try refine hK _ ?_)
      repeat first|(first|with_reducible (first|refine Qd fun K E hK hE=>?_|refine Qj fun K E hK hE=>?_)|refine Qi (id:=9) [(0,0),(1,0),(2,0),(3,0),(4,0),(5,0),(6,0),(7,0),(8,0),(9,0),(10,0),(11,0)] mixed (by kernel_rfl) fun K hK=>?_|refine Qh (id:=9) [(0,0),(1,0),(2,0),(3,0),(4,0),(5,0),(6,0),(7,0),(8,0),(9,0),(10,0),(11,0)] mixed (by kernel_rfl) fun K hK=>?_|refine Qi (id:=22) [(0,0),(1,0),(2,0),(3,0),(4,0),(5,0),(6,0),(7,0),(8,0),(9,0),(10,0),(11,0),(12,2),(13,0)] mixed (by kernel_rfl) fun K hK=>?_|refine Qh (id:=22) [(0,0),(1,0),(2,0),(3,0),(4,0),(5,0),(6,0),(7,0),(8,0),(9,0),(10,0),(11,0),(12,2),(13,0)] mixed (by kernel_rfl) fun K hK=>?_);simp only[XT,XF,Yj,QQ,QB,QN,OpW,YH,aop,undef,XU,Qul,Qum,X3,Xq,XD,AS.ev,QO,Q9,Xu,Xk,XC,QR,XA,Qz,Qy,Qt,XE,XL,XJ,QtM,Qt5,AV.QsU,QC,Xs,Xe,Q1,Q2,QY,Xi,Xo,QZ,QI,Xz,Xf,Q5,Q6,Q3,Xj,Xr,Q4,QtZ,Qt0,QL,QH,QM,Qw,QV,Qp,Qo,Qk,Xc,QW,QX,QT,Xh,Xn,QU,Qt1,Quo,Qup,Qt2,Qt3,↓reduceIte,QtS,QtT,Nat.reduceAdd,Nat.reduceLT,Nat.reduceLeDiff,Nat.reduceEqDiff,Nat.reduceSub,Nat.reduceMul,QtR,Qt4,Que,Quf,Qud,Ql,Qr,Xg,Zl,Zq,YI,XR,Xa,aBin,Zd,Q7,Zc,ZI,QF,aLen,Yo,Y6,X8,hget,Yh,hset,hlen,happ,QtF,QtG,Quv,Qt9,Qua,QtH,Quk,QtK,Quj,QtL,Qug,QtI,QtU,QtY,Qt7,Qt6,Qt8,QtQ,QtX,QtO,QtW,YX,YC,YK,Y9,YF,YE,goInt,Qub,Quc,QtN,Quq,Qui,Int.toNat_zero,Int.toNat_one,Quh,Qut,Quu,Qur,QtJ,Qun,beq_true,beq_false,rng0,rng1,rng2,rng3,rng4,rng5,rng6,rng7,rng8,XQ,Nat.reducePow,QuG,QuT,T.QsS,T.QsT,QG,Qs,ti0,zi0,ti3,zi3,un3,ti4,zi4,un4,ti9,ei9,zi9,un9,ti27,zi27,un27,ti32,ei32,ai32,zi32,un32,ti33,ei33,ai33,zi33,un33,ti44,ei44,ai44,zi44,un44,ti46,X4,X5,X6,zi46,sp46,ti48,YU,Y7,Zs,Zj,zi48,sp48,ti54,Zy,Zz,ZA,zi54,sp54,ti56,ei56,ai56,zi56,un56,ti65,ti67,zi67,un67,ti69,ZB,ZC,ZD,ZE,ZF,zi69,sp69,ti78,ei78,ai78,zi78,un78,ti82,Qus,Int.sub_zero,YG,QS,t3,t9,t10,t12,tj,wj]|with_reducible (first|refine Qq fun K hK=>?_|refine Qu ?_|refine Xy ?_|refine Xl ?_|refine Xp ?_|refine QE ?_|refine Xb ?_|refine Qg ?_|refine Xm ?_|refine QK ?_|refine Qn ?_|refine Q8 ?_|refine QJ ?_|refine QP rfl ?_|refine hK _ ?_;clear hK|clear hK;refine hK _ ?_;clear hK|clear hK;clear hK;refine hK _ ?_;clear hK|clear hK;clear hK;clear hK;refine hK _ ?_;clear hK|refine Qm rfl ?_;simp only[↓reduceIte,QtJ])|intro (b:Bool);cases b
      refine XB.mk (m':=U.length - (j+1)) (by omega) ?_
      rw[hI]
      exact⟨j+1,rfl,hlt,rfl,by rw[hts];rfl,t9,t10,t12,rfl⟩
     ·have hjl:j=U.length:=by omega
      have y1:¬((j:Nat):Int)<((U.length:Nat):Int):=by omega
      repeat first|(first|with_reducible (first|refine Qd fun K E hK hE=>?_|refine Qj fun K E hK hE=>?_)|refine Qi (id:=9) [(0,0),(1,0),(2,0),(3,0),(4,0),(5,0),(6,0),(7,0),(8,0),(9,0),(10,0),(11,0)] mixed (by kernel_rfl) fun K hK=>?_|refine Qh (id:=9) [(0,0),(1,0),(2,0),(3,0),(4,0),(5,0),(6,0),(7,0),(8,0),(9,0),(10,0),(11,0)] mixed (by kernel_rfl) fun K hK=>?_|refine Qi (id:=22) [(0,0),(1,0),(2,0),(3,0),(4,0),(5,0),(6,0),(7,0),(8,0),(9,0),(10,0),(11,0),(12,2),(13,0)] mixed (by kernel_rfl) fun K hK=>?_|refine Qh (id:=22) [(0,0),(1,0),(2,0),(3,0),(4,0),(5,0),(6,0),(7,0),(8,0),(9,0),(10,0),(11,0),(12,2),(13,0)] mixed (by kernel_rfl) fun K hK=>?_);simp only[XT,XF,Yj,QQ,QB,QN,OpW,YH,aop,undef,XU,Qul,Qum,X3,Xq,XD,AS.ev,QO,Q9,Xu,Xk,XC,QR,XA,Qz,Qy,Qt,XE,XL,XJ,QtM,Qt5,AV.QsU,QC,Xs,Xe,Q1,Q2,QY,Xi,Xo,QZ,QI,Xz,Xf,Q5,Q6,Q3,Xj,Xr,Q4,QtZ,Qt0,QL,QH,QM,Qw,QV,Qp,Qo,Qk,Xc,QW,QX,QT,Xh,Xn,QU,Qt1,Quo,Qup,Qt2,Qt3,↓reduceIte,QtS,QtT,Nat.reduceAdd,Nat.reduceLT,Nat.reduceLeDiff,Nat.reduceEqDiff,Nat.reduceSub,Nat.reduceMul,QtR,Qt4,Que,Quf,Qud,Ql,Qr,Xg,Zl,Zq,YI,XR,Xa,aBin,Zd,Q7,Zc,ZI,QF,aLen,Yo,Y6,X8,hget,Yh,hset,hlen,happ,QtF,QtG,Quv,Qt9,Qua,QtH,Quk,QtK,Quj,QtL,Qug,QtI,QtU,QtY,Qt7,Qt6,Qt8,QtQ,QtX,QtO,QtW,YX,YC,YK,Y9,YF,YE,goInt,Qub,Quc,QtN,Quq,Qui,Int.toNat_zero,Int.toNat_one,Quh,Qut,Quu,Qur,QtJ,Qun,beq_true,beq_false,rng0,rng1,rng2,rng3,rng4,rng5,rng6,rng7,rng8,XQ,Nat.reducePow,QuG,QuT,T.QsS,T.QsT,QG,Qs,ti0,zi0,ti3,zi3,un3,ti4,zi4,un4,ti9,ei9,zi9,un9,ti27,zi27,un27,ti32,ei32,ai32,zi32,un32,ti33,ei33,ai33,zi33,un33,ti44,ei44,ai44,zi44,un44,ti46,X4,X5,X6,zi46,sp46,ti48,YU,Y7,Zs,Zj,zi48,sp48,ti54,Zy,Zz,ZA,zi54,sp54,ti56,ei56,ai56,zi56,un56,ti65,ti67,zi67,un67,ti69,ZB,ZC,ZD,ZE,ZF,zi69,sp69,ti78,ei78,ai78,zi78,un78,ti82,Qus,Int.sub_zero,YG,QS,t3,t9,t10,t12,tj,Qs,y1]|with_reducible (first|refine Qq fun K hK=>?_|refine Qu ?_|refine Xy ?_|refine Xl ?_|refine Xp ?_|refine QE ?_|refine Xb ?_|refine Qg ?_|refine Xm ?_|refine QK ?_|refine Qn ?_|refine Q8 ?_|refine QJ ?_|refine QP rfl ?_|refine hK _ ?_;clear hK|clear hK;refine hK _ ?_;clear hK|clear hK;clear hK;refine hK _ ?_;clear hK|clear hK;clear hK;clear hK;refine hK _ ?_;clear hK|refine Qm rfl ?_;simp only[↓reduceIte,QtJ])|intro (b:Bool);cases b
      simp only[XT,XF,Yj,QQ,QB,QN,OpW,YH,aop,undef,XU,Qul,Qum,X3,Xq,XD,AS.ev,QO,Q9,Xu,Xk,XC,QR,XA,Qz,Qy,Qt,XE,XL,XJ,QtM,Qt5,AV.QsU,QC,Xs,Xe,Q1,Q2,QY,Xi,Xo,QZ,QI,Xz,Xf,Q5,Q6,Q3,Xj,Xr,Q4,QtZ,Qt0,QL,QH,QM,Qw,QV,Qp,Qo,Qk,Xc,QW,QX,QT,Xh,Xn,QU,Qt1,Quo,Qup,Qt2,Qt3,↓reduceIte,QtS,QtT,Nat.reduceAdd,Nat.reduceLT,Nat.reduceLeDiff,Nat.reduceEqDiff,Nat.reduceSub,Nat.reduceMul,QtR,Qt4,Que,Quf,Qud,Ql,Qr,Xg,Zl,Zq,YI,XR,Xa,aBin,Zd,Q7,Zc,ZI,QF,aLen,Yo,Y6,X8,hget,Yh,hset,hlen,happ,QtF,QtG,Quv,Qt9,Qua,QtH,Quk,QtK,Quj,QtL,Qug,QtI,QtU,QtY,Qt7,Qt6,Qt8,QtQ,QtX,QtO,QtW,YX,YC,YK,Y9,YF,YE,goInt,Qub,Quc,QtN,Quq,Qui,Int.toNat_zero,Int.toNat_one,Quh,Qut,Quu,Qur,QtJ,Qun,beq_true,beq_false,rng0,rng1,rng2,rng3,rng4,rng5,rng6,rng7,rng8,XQ,Nat.reducePow,QuG,QuT,T.QsS,T.QsT,QG,Qs,ti0,zi0,ti3,zi3,un3,ti4,zi4,un4,ti9,ei9,zi9,un9,ti27,zi27,un27,ti32,ei32,ai32,zi32,un32,ti33,ei33,ai33,zi33,un33,ti44,ei44,ai44,zi44,un44,ti46,X4,X5,X6,zi46,sp46,ti48,YU,Y7,Zs,Zj,zi48,sp48,ti54,Zy,Zz,ZA,zi54,sp54,ti56,ei56,ai56,zi56,un56,ti65,ti67,zi67,un67,ti69,ZB,ZC,ZD,ZE,ZF,zi69,sp69,ti78,ei78,ai78,zi78,un78,ti82,Qus,Int.sub_zero,YG,QS,QvO,List.mapM_nil,Option.pure_def,Option.bind_eq_bind,QbZ,Qba,Ql,Qr,Qbm,Zr,Zm,QtP]
      refine .inr ⟨h.length+2,some (h.length+4),by omega,?_,by rw[hget];rfl,by rw[Quw];omega,htake _ _⟩
      rw[hjl,QuA,mG,Qu6]
    ·rw[hI]
     exact⟨0,rfl,QuG _,rfl,rfl,t9,t10,t12,rfl⟩
theorem QhD(l:List UInt8)(hl:l.length<=16384)(h:AH):QA Tryz.prog 11 [.v (.string (mkB l))] h fun o h'=>o = .ret (sqR (Qct l))/\h'=h:=Qsf (QiO l hl h)
def cntS(n v:Int):Int:=if n<0\/v>n\/v<0 then -1 else max n (v+1)
def cntL(n:Int)(l:List Int):Int:=l.foldl cntS n
structure RlOk (r:Rl):Prop extends RlPre r where
 cnt:cntL 0 r.allV=r.vars
 vnn:0<=r.vars
theorem QgN:∀n,n<=1000000->∀t:T,t.nds<=n->Pure Tryz.prog 65 [t.av,t.av] (.b true)
 |0,_,t,hn=>by have:=T.Qs4 t;omega
 |n+1,hb,t,hn=>by
  intro h
  have hnd:=T.Qs4 t
  have hll:=YZ t.args
  refine Qa Tryz.func65 rfl Tryz.call65 Tryz.ntmps65 Tryz.results65 (by simp) ?_
  iterate 2 (try (first|(((with_reducible refine Qd fun K E hK hE=>?_));simp only[go_sem,seval])|((with_reducible refine hK _ ?_);clear hK)))
  refine Yb (fun st=>st.tm 2 = .ptr h.length 0 0/\st.tm 3 = .ptr (h.length+1) 0 0/\st.h=h++[.cells 48 4 [t.av],.cells 48 4 [t.av]]) ?_ ?_
  ·rintro⟨tm,hp⟩ ⟨t2,t3,rfl⟩
   simp only at t2 t3
   repeat first|refine Qb ?_;simp only[go_sem,seval,t2]|refine hK _ ?_;clear hK
   obtain⟨I,hI⟩:∃I:Nat->AS->Prop,I=fun m' s=>∃j:Nat,m'=t.args.length - j/\j<=t.args.length/\s.tm 2 = .ptr h.length 0 0/\s.tm 3 = .ptr (h.length+1) 0 0/\s.tm 36 = .i t.args.length/\s.tm 37 = .i j/\s.h=h++[.cells 48 4 [t.av],.cells 48 4 [t.av]]:=⟨_,rfl⟩;refine QD I ?_ (m:=t.args.length) ?_
   ·intro m' s hs;rw[hI]at hs;obtain⟨tm,hp⟩:=s;dsimp only at hs;obtain⟨j,rfl,hj,t2,t3,ta,tb,rfl⟩:=hs
    by_cases hlt:j<t.args.length
    ·have y1:((j:Nat):Int)<((t.args.length:Nat):Int):=by omega
     have wj:IntKind.i64.wrap (((j:Nat):Int)+1)=((j+1:Nat):Int):=XM (by omega)
     have hg:=QaL hlt
     have cs:=QgN n (by omega) t.args[j] (by omega)
     repeat first|(first|refine ZJ cs ?_|refine Qi (id:=6) [(0,0),(1,0),(2,0),(3,0),(4,0),(5,0),(6,0),(7,0),(8,0),(9,0),(10,1),(11,0)] mixed (by kernel_rfl) fun K hK=>?_|refine Qb ?_);simp only[go_sem,seval,t2,t3,ta,tb,y1,wj,QaW hlt]|refine hK _ ?_;clear hK
     refine XB.mk (m':=t.args.length - (j+1)) (by omega) ?_
     rw[hI]
     exact⟨j+1,rfl,hlt,t2,t3,ta,rfl,rfl⟩
    ·have y1:¬((j:Nat):Int)<((t.args.length:Nat):Int):=by omega
     repeat first|refine Qb ?_;simp only[go_sem,seval,ta,tb,y1]|refine hK _ ?_;clear hK|clear hK;refine hK _ ?_;clear hK
     (refine Qc (htake _ _) (.keep (.v _)) ⟨rfl,rfl⟩)
   ·rw[hI]
    exact⟨0,rfl,QuG _,t2,t3,rfl,rfl,rfl⟩
  ·repeat first|refine owN ?_|(first|refine owK fun K hK=>?_|refine nwcS fun K hK=>?_|refine nwcR fun K hK=>?_|refine Qb ?_);simp only[go_sem,seval]|refine hK _ ?_;clear hK
   exact⟨rfl,rfl,rfl⟩
theorem QjC(l:List T)(hn:ndsL l<=1000000):Pure Tryz.prog 36 [.sl 4 (avs l) none,.sl 4 (avs l) none] (.b true):=by
 intro h
 have hll:=YZ l
 refine Qa Tryz.func36 rfl Tryz.call36 Tryz.ntmps36 Tryz.results36 (by simp) ?_
 repeat refine Qb ?_;simp only[go_sem,seval]
 obtain⟨I,hI⟩:∃I:Nat->AS->Prop,I=fun m' s=>∃j:Nat,m'=l.length - j/\j<=l.length/\s.tm 0 = .sl 4 (avs l) none/\s.tm 1 = .sl 4 (avs l) none/\s.tm 12 = .i l.length/\s.tm 13 = .i j/\s.h=h:=⟨_,rfl⟩;refine QD I ?_ (m:=l.length) ?_
 ·intro m' s hs;rw[hI]at hs;obtain⟨tm,hp⟩:=s;dsimp only at hs;obtain⟨j,rfl,hj,t0,t1,ta,tb,rfl⟩:=hs
  by_cases hlt:j<l.length
  ·have y1:((j:Nat):Int)<((l.length:Nat):Int):=by omega
   have wj:IntKind.i64.wrap (((j:Nat):Int)+1)=((j+1:Nat):Int):=XM (by omega)
   have hg:=QaL hlt
   have cs:=QgN 1000000 (QuD _) l[j] (by omega)
   repeat first|(first|refine ZJ cs ?_|refine Qi (id:=6) [(0,0),(1,0),(2,0),(3,0),(4,0),(5,0),(6,0),(7,0),(8,1),(9,0)] mixed (by kernel_rfl) fun K hK=>?_|refine Qb ?_);simp only[go_sem,seval,t0,t1,ta,tb,y1,wj,QaW hlt]|refine hK _ ?_;clear hK
   refine XB.mk (m':=l.length - (j+1)) (by omega) ?_
   rw[hI]
   exact⟨j+1,rfl,hlt,t0,t1,ta,rfl,rfl⟩
  ·have y1:¬((j:Nat):Int)<((l.length:Nat):Int):=by omega
   repeat refine Qb ?_;simp only[go_sem,seval,ta,tb,y1]
   (refine Qc QuA (.keep (.v _)) ⟨rfl,rfl⟩)
 ·rw[hI]
  exact⟨0,rfl,QuG _,rfl,rfl,rfl,rfl,rfl⟩
theorem Qfr(l:List G)(hl:l.length<=1000000)(hn:∀g∈l,ndsL g.args<=1000000):Pure Tryz.prog 12 [.sl 3 (vs G.goal l) none,.sl 3 (vs G.goal l) none] (.b true):=by
 intro h
 have ev:(vs G.goal l).length=l.length:=Z5 _ _
 refine Qa Tryz.func12 rfl Tryz.call12 Tryz.ntmps12 Tryz.results12 (by simp) ?_
 repeat refine Qb ?_;simp only[go_sem,seval,ev]
 obtain⟨I,hI⟩:∃I:Nat->AS->Prop,I=fun m' s=>∃j:Nat,m'=l.length - j/\j<=l.length/\s.tm 0 = .sl 3 (vs G.goal l) none/\s.tm 1 = .sl 3 (vs G.goal l) none/\s.tm 12 = .i l.length/\s.tm 13 = .i j/\s.h=h:=⟨_,rfl⟩;refine QD I ?_ (m:=l.length) ?_
 ·intro m' s hs;rw[hI]at hs;obtain⟨tm,hp⟩:=s;dsimp only at hs;obtain⟨j,rfl,hj,t0,t1,ta,tb,rfl⟩:=hs
  by_cases hlt:j<l.length
  ·have y1:((j:Nat):Int)<((l.length:Nat):Int):=by omega
   have wj:IntKind.i64.wrap (((j:Nat):Int)+1)=((j+1:Nat):Int):=XM (by omega)
   have cs:=QjC l[j].args (hn _ (Qvk hlt))
   have e1:=Yk l[j]
   have e2:(G.goal l[j]).isAgg=true:=rfl
   repeat first|(first|refine ZJ cs ?_|refine Qi (id:=6) [(0,0),(1,0),(2,0),(3,0),(4,0),(5,0),(6,0),(7,0),(8,0),(9,0),(10,0),(11,0),(12,0),(13,0),(14,0),(15,0),(16,0),(17,0),(18,0),(19,0),(20,0),(21,0),(22,0),(23,0),(24,0),(25,0),(26,0),(27,0),(28,0),(29,0),(30,0),(31,0),(32,0),(33,0),(34,0),(35,1),(36,0),(37,0)] mixed (by kernel_rfl) fun K hK=>?_|refine Qb ?_);simp only[go_sem,seval,t0,t1,ta,tb,y1,wj,ev,QpT (f:=G.goal) hlt,e1]|refine hK _ ?_;clear hK
   refine XB.mk (m':=l.length - (j+1)) (by omega) ?_
   rw[hI]
   exact⟨j+1,rfl,hlt,t0,t1,ta,rfl,rfl⟩
  ·have y1:¬((j:Nat):Int)<((l.length:Nat):Int):=by omega
   repeat refine Qb ?_;simp only[go_sem,seval,ta,tb,y1]
   (refine Qc QuA (.keep (.v _)) ⟨rfl,rfl⟩)
 ·rw[hI]
  exact⟨0,rfl,QuG _,rfl,rfl,rfl,rfl,rfl⟩
theorem Qc1(l:List ByteArray)(hl:l.length<=1000000):Pure Tryz.prog 13 [.sl 1 (strs l) none,.sl 1 (strs l) none] (.b true):=by
 intro h
 refine Qa Tryz.func13 rfl Tryz.call13 Tryz.ntmps13 Tryz.results13 (by simp) ?_
 repeat refine Qb ?_;simp only[go_sem,seval,Yp]
 obtain⟨I,hI⟩:∃I:Nat->AS->Prop,I=fun m' s=>∃j:Nat,m'=l.length - j/\j<=l.length/\s.tm 0 = .sl 1 (strs l) none/\s.tm 1 = .sl 1 (strs l) none/\s.tm 12 = .i l.length/\s.tm 13 = .i j/\s.h=h:=⟨_,rfl⟩;refine QD I ?_ (m:=l.length) ?_
 ·intro m' s hs;rw[hI]at hs;obtain⟨tm,hp⟩:=s;dsimp only at hs;obtain⟨j,rfl,hj,t0,t1,ta,tb,rfl⟩:=hs
  by_cases hlt:j<l.length
  ·have y1:((j:Nat):Int)<((l.length:Nat):Int):=by omega
   have wj:IntKind.i64.wrap (((j:Nat):Int)+1)=((j+1:Nat):Int):=XM (by omega)
   have hat:(strs l)[j]? = some (.v (.string l[j])):=by rw[strs,Qu2,QuC hlt];rfl
   repeat first|(first|refine Qi (id:=6) [(0,0),(1,0),(2,0),(3,0),(4,0),(5,0),(6,0),(7,0),(8,0)] mixed (by kernel_rfl) fun K hK=>?_|refine Qb ?_);simp only[go_sem,seval,t0,t1,ta,tb,y1,wj,Yp,hat]|refine hK _ ?_;clear hK
   refine XB.mk (m':=l.length - (j+1)) (by omega) ?_
   rw[hI]
   exact⟨j+1,rfl,hlt,t0,t1,ta,rfl,rfl⟩
  ·have y1:¬((j:Nat):Int)<((l.length:Nat):Int):=by omega
   repeat refine Qb ?_;simp only[go_sem,seval,ta,tb,y1]
   (refine Qc QuA (.keep (.v _)) ⟨rfl,rfl⟩)
 ·rw[hI]
  exact⟨0,rfl,QuG _,rfl,rfl,rfl,rfl,rfl⟩
structure RlB (r:Rl):Prop where
 ke:r.keep.length<=1000000/\∀g∈r.keep,ndsL g.args<=1000000
 re:r.remove.length<=1000000/\∀g∈r.remove,ndsL g.args<=1000000
 gu:r.guard.length<=1000000/\∀g∈r.guard,ndsL g.args<=1000000
 bo:r.body.length<=1000000/\∀g∈r.body,ndsL g.args<=1000000
end Go.Proofs.YticgcpebdldbgaaGreatDoor.Ab
set_option maxRecDepth 8000
namespace Go.Proofs.YticgcpebdldbgaaGreatDoor.Ab
open Go.Proofs
def exS1:List UInt8:=[99,111,110,115,116,114,97,105,110,116,32,112,47,49,46,32,114,32,64,32,112,40,88,41,32,92,32,112,40,89,41,32,60,61,62,32,88,32,62,32,89,32,124,32,116,114,117,101,46]
def exS2:List UInt8:=[112,40,88,41,32,60,61,62,32,88,46]
def exS3:List UInt8:=[112,40,88,44,32,95,44,32,89,41,44,32,88,32,61,32,49,32,45,32,45,50]
def exG0:G:=⟨7,eB,[T.mk 1 1 eB [],T.mk 1 0 eB []]⟩
def exR:Rl:=⟨{data:=#[114]},[⟨0,{data:=#[112]},[T.mk 1 0 eB []]⟩],[⟨0,{data:=#[112]},[T.mk 1 1 eB []]⟩],[exG0],[],2⟩
def exP:Pg:=⟨[⟨{data:=#[112]},1⟩],[exR]⟩
def exT:T:=.mk 2 0 {data:=#[45]} [.mk 0 1 eB [],.mk 0 (-2) eB []]
def exG1:G:=⟨3,eB,[T.mk 1 0 eB [],exT]⟩
def exL:List G:=[⟨0,{data:=#[112]},[T.mk 1 0 eB [],T.mk 1 1 eB [],T.mk 1 2 eB []]⟩,exG1]
def exN:List ByteArray:=[{data:=#[88]},{data:=#[95]},{data:=#[89]}]
theorem exW1:QkF exS1 = .inl exP:=by kernel_rfl
theorem exW2:QkF exS2 = .inr (10,16):=by kernel_rfl
theorem exW3:Qct exS3 = .inl (exL,exN):=by kernel_rfl
def strX:List AV:=[.v (.string {data:=#[88]}),.v (.string {data:=#[95]}),.v (.string {data:=#[89]})]
theorem Qk8(h:AH)(hG:QaN h):QA Tryz.prog 6 [] h fun o h'=>o = .ret (.b true)/\h'=h:=by
 have c1:=fun L=>Qd0 exS1 (h++L) (hG.app L)
 have c2:=fun L=>Qd0 exS2 (h++L) (hG.app L)
 have c3:=fun L=>QfI exS3 (h++L) (hG.app L)
 have c1':=Qd0 exS1 h hG
 rw[exW1,psR]at c1'
 simp only[exW2,psR]at c2
 simp only[exW3,sqR]at c3
 rw[show mkB exS1={data:=#[99,111,110,115,116,114,97,105,110,116,32,112,47,49,46,32,114,32,64,32,112,40,88,41,32,92,32,112,40,89,41,32,60,61,62,32,88,32,62,32,89,32,124,32,116,114,117,101,46]} from rfl]at c1'
 simp only[show mkB exS2={data:=#[112,40,88,41,32,60,61,62,32,88,46]} from rfl]at c2
 simp only[show mkB exS3={data:=#[112,40,88,44,32,95,44,32,89,41,44,32,88,32,61,32,49,32,45,32,45,50]} from rfl,show strs exN=strX from rfl]at c3
 have cT:Pure Tryz.prog 13 [.sl 1 strX none,.sl 1 strX none] (.b true):=Qc1 exN (by decide)
 have pc:=Pg.cells exP
 have pi:=Pg.isAgg exP
 have zc:=Pg.cells ⟨[],[]⟩
 have zi:=Pg.isAgg ⟨[],[]⟩
 have rc:=Rl.cells exR
 have ri:=Rl.isAgg exR
 refine Qa Tryz.func6 rfl Tryz.call6 Tryz.ntmps6 Tryz.results6 (by simp) ?_
 iterate 2 (try (first|(((with_reducible refine Qd fun K E hK hE=>?_));simp only[go_sem,seval])|((with_reducible refine hK _ ?_);clear hK)))
 refine Yb (fun st=>st.tm 1 = .ptr h.length 0 0/\st.tm 2 = .i 0/\st.tm 3 = .i 0/\st.h=h++[.cells 26 2 [exP.av]]) ?_ ?_
 ·rintro⟨tm,hp⟩ ⟨t1,t2,t3,rfl⟩
  simp only at t1 t2 t3
  refine Yb (fun st=>st.tm 1 = .ptr h.length 0 0/\st.tm 2 = .i 0/\st.tm 3 = .i 0/\st.tm 5 = .i 10/\st.tm 6 = .i 16/\st.h=h++[.cells 26 2 [exP.av],.cells 26 2 [(⟨[],[]⟩:Pg).av]]) ?_ ?_
  ·rintro⟨tm,hp⟩ ⟨t1,t2,t3,t5,t6,rfl⟩
   simp only at t1 t2 t3 t5 t6
   refine Yb (fun st=>st.tm 1 = .ptr h.length 0 0/\st.tm 2 = .i 0/\st.tm 3 = .i 0/\st.tm 5 = .i 10/\st.tm 6 = .i 16/\st.tm 7 = .sl 3 (vs G.goal exL) none/\st.tm 8 = .sl 1 strX none/\st.tm 10 = .i 0/\st.h=h++[.cells 26 2 [exP.av],.cells 26 2 [(⟨[],[]⟩:Pg).av]]) ?_ ?_
   ·rintro⟨tm,hp⟩ ⟨t1,t2,t3,t5,t6,t7,t8,t10,rfl⟩
    simp only at t1 t2 t3 t5 t6 t7 t8 t10
    refine Yb (fun st=>st.tm 1 = .ptr h.length 0 0/\st.tm 7 = .sl 3 (vs G.goal exL) none/\st.h=h++[.cells 26 2 [exP.av],.cells 26 2 [(⟨[],[]⟩:Pg).av]]) ?_ ?_
    ·rintro⟨tm,hp⟩ ⟨t1,t7,rfl⟩
     simp only at t1 t7
     refine Yb (fun st=>st.tm 11 = .ptr (h.length+2) 0 0/\st.tm 7 = .sl 3 (vs G.goal exL) none/\st.h=h++[.cells 26 2 [exP.av],.cells 26 2 [(⟨[],[]⟩:Pg).av],.cells 40 6 [exR.av]]) ?_ ?_
     ·rintro⟨tm,hp⟩ ⟨t11,t7,rfl⟩
      simp only at t11 t7
      have q1:(exR.name.toList==({data:=#[114]}:ByteArray).toList)=true:=beq_self_eq_true _
      have k1:(vs G.atom exR.keep).length=1:=rfl
      have k2:(vs G.atom exR.remove).length=1:=rfl
      have k3:(vs G.goal exR.guard).length=1:=rfl
      have k4:(vs G.goal exR.body).length=0:=rfl
      have g0:(vs G.goal exR.guard)[0]? = some exG0.goal:=rfl
      have e1:=Yk exG0
      have e2:exG0.goal.isAgg=true:=rfl
      have a0:(avs exG0.args)[0]? = some (T.mk 1 1 eB []).av:=rfl
      have x1:(exG0.op==7)=true:=rfl
      have g1:(vs G.goal exL)[1]? = some exG1.goal:=rfl
      have e3:=Yk exG1
      have e4:exG1.goal.isAgg=true:=rfl
      have a1:(avs exG1.args)[1]? = some exT.av:=rfl
      have a2:(avs exT.args)[1]? = some (T.mk 0 (-2) eB []).av:=rfl
      have a3:(avs exT.args).length=2:=rfl
      have a4:(avs exG1.args).length=2:=rfl
      have a5:(avs exG0.args).length=2:=rfl
      have a6:(vs G.goal exL).length=2:=rfl
      have x2:((T.mk 1 1 eB []).int==1)=true:=rfl
      have x3:((T.mk 0 (-2) eB []).int == -2)=true:=rfl
      have x4:(exR.vars==2)=true:=rfl
      have u0:(0:Int)<((1:Nat):Int):=by decide
      have u1:(1:Int)<((2:Nat):Int):=by decide
      have u2:(0:Int)<((2:Nat):Int):=by decide
      have u3:(((1:Nat):Int)==1)=true:=rfl
      have u4:(((0:Nat):Int)==0)=true:=rfl
      have u5:(0:Int)<=1:=by decide
      simp only[List.append_eq,Qt7,Qt6]
      repeat first|refine owN ?_|(first|refine owK fun K hK=>?_|refine nwcS fun K hK=>?_|refine nwcR fun K hK=>?_|refine Qb ?_);simp only[go_sem,seval,t11,rc,q1,k1,u3,k2,k3,g0,e1,x1,u0,a0,a5,x2,u2,k4,t7,g1,e3,a6,x4,u1,u5,a1,a2,a3,a4,x3]|refine hK _ ?_;clear hK
      (refine Qc (htake _ _) (.keep (.v _)) ⟨rfl,rfl⟩)
     ·have hl:(vs Rl.av exP.rules).length=1:=rfl
      have hg:(vs Rl.av exP.rules)[0]? = some exR.av:=rfl
      have u0:(0:Int)<((1:Nat):Int):=by decide
      repeat first|refine Qb ?_;simp only[go_sem,seval,t1,pc,hl,hg,rc,ri,u0]|refine hK _ ?_;clear hK
      exact⟨rfl,t7,rfl⟩
    ·have k1:(vs Dc.av exP.decls).length=1:=rfl
     have k2:(vs Rl.av exP.rules).length=1:=rfl
     have k3:(vs G.goal exL).length=2:=rfl
     have u3:(((1:Nat):Int) != 1)=false:=rfl
     have u4:(((2:Nat):Int) != 2)=false:=rfl
     have eX:[AV.v (.string {data:=#[88]}),.v (.string {data:=#[95]}),.v (.string {data:=#[89]})]=strX:=rfl
     (try simp only[Qug])
     repeat first|refine owN ?_|(first|refine Qe cT ?_|refine owK fun K hK=>?_|refine nwcS fun K hK=>?_|refine nwcR fun K hK=>?_|refine Qb ?_);simp only[go_sem,seval,t1,t2,t3,pc,k1,k2,u3,t5,t6,t7,t10,t8,k3,u4,eX]|refine hK _ ?_;clear hK
     exact⟨t1,t7,rfl⟩
   ·repeat first|(first|refine FunW.QsR (c3 _) ?_|refine Qb ?_);simp only[go_sem,seval]|refine hK _ ?_;clear hK
    exact⟨t1,t2,t3,t5,t6,rfl,rfl,rfl,rfl⟩
  ·repeat first|(first|refine FunW.QsR (c2 _) ?_|refine Qb ?_);simp only[go_sem,seval,zc,zi]|refine hK _ ?_;clear hK
   exact⟨t1,t2,t3,rfl,rfl,rfl⟩
 ·repeat first|(first|refine FunW.QsR c1' ?_|refine Qb ?_);simp only[go_sem,seval,pc,pi]|refine hK _ ?_;clear hK
  exact⟨rfl,rfl,rfl,rfl⟩
end Go.Proofs.YticgcpebdldbgaaGreatDoor.Ab
namespace Go.Proofs.YticgcpebdldbgaaGreatDoor.Ab
open Go.Proofs
mutual
theorem T.Qtr{g:Int->Int}:∀(t:T),(t.map g).nds=t.nds
 | .mk k i n l=>by
  simp only[T.map]
  split
  ·simp only[T.nds]
  ·split
   ·simp only[T.nds,Qfx l]
   ·rfl
theorem Qfx{g:Int->Int}:∀(l:List T),ndsL (maps g l)=ndsL l
 |[]=>rfl
 |t::l=>by simp only[maps,ndsL,T.Qtr t,Qfx l]
end
theorem QlH{l:List UInt8}(hl:l.length<=4000){q:List G×List ByteArray}(h:Qct l = .inl q):q.1.length<=1000000/\(∀g∈q.1,ndsL g.args<=1000000)/\q.2.length<=1000000:=by
 unfold Qct at h
 cases hs:Zx l with
 |inr q=>rw[hs]at h;cases h
 |inl ts =>
  rw[hs]at h
  simp only at h
  cases hp:Qeo ⟨ts,[]⟩with
  |err p c=>rw[hp]at h;cases h
  |ok q s2 =>
   rw[hp]at h
   cases h
   rw[QfF]at hp
   obtain⟨r2,s3,e1,e2⟩:=bind_ok hp
   obtain⟨u,s4,e3,e4⟩:=bind_ok e2
   cases e4
   obtain⟨hok,hl40⟩:=QcC e1
   have hns:∀g∈r2,ndsL g.args<=200:=fun g hg=>(QcB (hok g hg)).2
   have hnl:=Qne r2 hns
   have hvl:=QcZ r2
   refine⟨by rw[qV,Qu6];omega,fun g hg=>?_,?_⟩
   ·obtain⟨g0,hg0,rfl⟩:=QuZ.1 hg
    show ndsL (maps _ g0.args)<=_
    rw[Qfx]
    exact Qu1 (hns g0 hg0) (by omega)
   ·have h1:=Z7 [] (XN r2)
    rw[qN,Qu6]
    simp only[QtT]at h1
    omega
section
variable(l:List UInt8)(hmx:l.length<=9223372036854775807)(h:AH)(hG:QaN h)
include hmx hG
theorem Qr4:QA Tryz.prog 4 [.v (.string (mkB l))] h fun o h'=>o = .ret (.b true)/\h'=h:=by
 have hsl:=fun b=>Y5 Tryz.prog 9 3 (by kernel_rfl) b
 have ca:=Qk8 h hG
 by_cases hb:4000<l.length
 ·have z1:((l.length:Nat):Int)>4000:=by omega
  have z2:(4000:Int)<((l.length:Nat):Int):=by omega
  refine Qa Tryz.func4 rfl Tryz.call4 Tryz.ntmps4 Tryz.results4 (by simp) ?_
  repeat first|with_reducible (first|(first|refine Qd fun K E hK hE=>?_|refine Qj fun K E hK hE=>?_|refine FunW.QsR ca ?_);simp only[QQ,QB,QN,OpW,YH,aop,undef,XU,Qul,Qum,X3,Xq,XD,AS.ev,QO,Q9,Xu,Xk,XC,QR,XA,Qz,Qy,Qt,XE,XL,XJ,QtM,Qt5,AV.QsU,QC,Xs,Xe,Q1,Q2,QY,Xi,Xo,QZ,QI,Xz,Xf,Q5,Q6,Q3,Xj,Xr,Q4,QtZ,Qt0,QL,QH,QM,Qw,QV,Qp,Qo,Qk,Xc,QW,QX,QT,Xh,Xn,QU,Qt1,Quo,Qup,Qt2,Qt3,↓reduceIte,QtS,QtT,Nat.reduceAdd,Nat.reduceLT,Nat.reduceLeDiff,Nat.reduceEqDiff,Nat.reduceSub,Nat.reduceMul,QtR,Qt4,Que,Quf,Qud,Ql,Qr,aBin,Q7,aLen,X8,hget,Yh,hset,hlen,happ,QtF,QtG,Quv,Qt9,Qua,QtH,Quk,QtK,Quj,QtL,Qug,QtI,QtU,QtY,Qt7,Qt6,Qt8,QtQ,QtX,QtO,QtW,ZG,Zk,Yx,YN,goInt,Qub,Quc,QtN,Quq,Qui,Int.toNat_zero,Int.toNat_one,Quh,Qut,Quu,Qur,QtJ,Qun,beq_true,beq_false,Nat.reducePow,QuG,QuT,T.QsS,T.QsT,QG,Qs,ti3,zi3,un3,ti4,zi4,un4,ti9,ei9,zi9,un9,ti27,zi27,un27,ti32,ei32,ai32,zi32,un32,ti33,ei33,ai33,zi33,un33,ti34,ti46,X4,X5,X6,zi46,sp46,Qus,Int.sub_zero,YG,QS,hsl,Qv,z1,z2]|refine Qq fun K hK=>?_|refine Qu ?_|refine Xy ?_|refine Xl ?_|refine Xp ?_|refine QE ?_|refine Xb ?_|refine Qg ?_|refine Xm ?_|refine QK ?_|refine Qn ?_|refine Q8 ?_|refine QJ ?_|refine QP rfl ?_|refine hK _ ?_;clear hK|clear hK;refine hK _ ?_;clear hK|clear hK;clear hK;refine hK _ ?_;clear hK|clear hK;clear hK;clear hK;refine hK _ ?_;clear hK|refine Qm rfl ?_;simp only[↓reduceIte,QtJ])|intro (b:Bool);cases b
  simp only[QQ,QB,QN,OpW,YH,aop,undef,XU,Qul,Qum,X3,Xq,XD,AS.ev,QO,Q9,Xu,Xk,XC,QR,XA,Qz,Qy,Qt,XE,XL,XJ,QtM,Qt5,AV.QsU,QC,Xs,Xe,Q1,Q2,QY,Xi,Xo,QZ,QI,Xz,Xf,Q5,Q6,Q3,Xj,Xr,Q4,QtZ,Qt0,QL,QH,QM,Qw,QV,Qp,Qo,Qk,Xc,QW,QX,QT,Xh,Xn,QU,Qt1,Quo,Qup,Qt2,Qt3,↓reduceIte,QtS,QtT,Nat.reduceAdd,Nat.reduceLT,Nat.reduceLeDiff,Nat.reduceEqDiff,Nat.reduceSub,Nat.reduceMul,QtR,Qt4,Que,Quf,Qud,Ql,Qr,aBin,Q7,aLen,X8,hget,Yh,hset,hlen,happ,QtF,QtG,Quv,Qt9,Qua,QtH,Quk,QtK,Quj,QtL,Qug,QtI,QtU,QtY,Qt7,Qt6,Qt8,QtQ,QtX,QtO,QtW,ZG,Zk,Yx,YN,goInt,Qub,Quc,QtN,Quq,Qui,Int.toNat_zero,Int.toNat_one,Quh,Qut,Quu,Qur,QtJ,Qun,beq_true,beq_false,Nat.reducePow,QuG,QuT,T.QsS,T.QsT,QG,Qs,ti3,zi3,un3,ti4,zi4,un4,ti9,ei9,zi9,un9,ti27,zi27,un27,ti32,ei32,ai32,zi32,un32,ti33,ei33,ai33,zi33,un33,ti34,ti46,X4,X5,X6,zi46,sp46,Qus,Int.sub_zero,YG,QS,QbZ,Qba,Ql,Qr,Qbm,Zr,Zm,QtP]
  exact .inr ⟨rfl,rfl⟩
 ·have z1:¬((l.length:Nat):Int)>4000:=by omega
  have z2:¬(4000:Int)<((l.length:Nat):Int):=by omega
  have cp:=QfI l h hG
  have cq:=QhD l (by omega) h
  obtain⟨v,hv⟩:∃v,v=Qct l:=⟨_,rfl⟩
  rw[<-hv]at cp cq
  refine(?_:QA _ _ _ _ _)
  cases v with
  |inr q =>
   obtain⟨x,e⟩:=q
   simp only[sqR]at cp cq
   have cz:Pure Tryz.prog 12 [.v (.slice none 0 0),.v (.slice none 0 0)] (.b true):=QiS (.cons (.nilS 3) (.cons (.nilS 3) .nil)) (Qfr [] (QuG _) (fun g hg=>by cases hg))
   have cy:Pure Tryz.prog 13 [.v (.slice none 0 0),.v (.slice none 0 0)] (.b true):=QiS (.cons (.nilS 1) (.cons (.nilS 1) .nil)) (Qc1 [] (QuG _))
   have u1:(x==x)=true:=by simp
   have u2:(e==e)=true:=by simp
   refine Qa Tryz.func4 rfl Tryz.call4 Tryz.ntmps4 Tryz.results4 (by simp) ?_
   iterate 12 (try (first|((first|(with_reducible (first|refine Qd fun K E hK hE=>?_|refine Qj fun K E hK hE=>?_|refine FunW.QsR cp ?_)));simp only[QQ,QB,QN,OpW,YH,aop,undef,XU,Qul,Qum,X3,Xq,XD,AS.ev,QO,Q9,Xu,Xk,XC,QR,XA,Qz,Qy,Qt,XE,XL,XJ,QtM,Qt5,AV.QsU,QC,Xs,Xe,Q1,Q2,QY,Xi,Xo,QZ,QI,Xz,Xf,Q5,Q6,Q3,Xj,Xr,Q4,QtZ,Qt0,QL,QH,QM,Qw,QV,Qp,Qo,Qk,Xc,QW,QX,QT,Xh,Xn,QU,Qt1,Quo,Qup,Qt2,Qt3,↓reduceIte,QtS,QtT,Nat.reduceAdd,Nat.reduceLT,Nat.reduceLeDiff,Nat.reduceEqDiff,Nat.reduceSub,Nat.reduceMul,QtR,Qt4,Que,Quf,Qud,Ql,Qr,aBin,Q7,aLen,X8,hget,Yh,hset,hlen,happ,QtF,QtG,Quv,Qt9,Qua,QtH,Quk,QtK,Quj,QtL,Qug,QtI,QtU,QtY,Qt7,Qt6,Qt8,QtQ,QtX,QtO,QtW,ZG,Zk,Yx,YN,goInt,Qub,Quc,QtN,Quq,Qui,Int.toNat_zero,Int.toNat_one,Quh,Qut,Quu,Qur,QtJ,Qun,beq_true,beq_false,Nat.reducePow,QuG,QuT,T.QsS,T.QsT,QG,Qs,ti3,zi3,un3,ti4,zi4,un4,ti9,ei9,zi9,un9,ti27,zi27,un27,ti32,ei32,ai32,zi32,un32,ti33,ei33,ai33,zi33,un33,ti34,ti46,X4,X5,X6,zi46,sp46,Qus,Int.sub_zero,YG,QS,hsl,Qv,z1,z2])|(with_reducible (first|refine Qq fun K hK=>?_|refine Qu ?_|refine Xy ?_|refine Xl ?_|refine Xp ?_|refine QE ?_|refine Xb ?_|refine Qg ?_|refine Xm ?_|refine QK ?_|refine Qn ?_|refine Q8 ?_|refine QJ ?_|refine QP rfl ?_))|(with_reducible (first|refine hK _ ?_|(clear hK;refine hK _ ?_)|(clear hK;clear hK;refine hK _ ?_)|(clear hK;clear hK;clear hK;refine hK _ ?_));clear hK)|(refine Qm rfl ?_;simp only[↓reduceIte,QtJ])|(intro (b:Bool);cases b)))
   refine Qaw (fun st=>st.tm 3 = .v (.slice none 0 0)/\st.tm 4 = .v (.slice none 0 0)/\st.tm 5 = .i x/\st.tm 6 = .i e/\st.tm 7 = .v (.slice none 0 0)/\st.tm 8 = .v (.slice none 0 0)/\st.tm 9 = .i x/\st.tm 10 = .i e/\st.h=h) ?_ ?_
   ·rintro⟨tm,hp⟩ ⟨t3,t4,t5,t6,t7,t8,t9,t10,rfl⟩
    dsimp only at t3 t4 t5 t6 t7 t8 t9 t10
    (with_reducible refine Qd fun K E hK hE=>?_)
    (try simp only[Qug,QtO,QtW]);refine ZN 4 (fun K1 hK1=>?_);simp only[QQ,QB,QN,OpW,YH,aop,undef,XU,Qul,Qum,X3,Xq,XD,AS.ev,QO,Q9,Xu,Xk,XC,QR,XA,Qz,Qy,Qt,XE,XL,XJ,QtM,Qt5,AV.QsU,QC,Xs,Xe,Q1,Q2,QY,Xi,Xo,QZ,QI,Xz,Xf,Q5,Q6,Q3,Xj,Xr,Q4,QtZ,Qt0,QL,QH,QM,Qw,QV,Qp,Qo,Qk,Xc,QW,QX,QT,Xh,Xn,QU,Qt1,Quo,Qup,Qt2,Qt3,↓reduceIte,QtS,QtT,Nat.reduceAdd,Nat.reduceLT,Nat.reduceLeDiff,Nat.reduceEqDiff,Nat.reduceSub,Nat.reduceMul,QtR,Qt4,Que,Quf,Qud,Ql,Qr,aBin,Q7,aLen,X8,hget,Yh,hset,hlen,happ,QtF,QtG,Quv,Qt9,Qua,QtH,Quk,QtK,Quj,QtL,Qug,QtI,QtU,QtY,Qt7,Qt6,Qt8,QtQ,QtX,QtO,QtW,ZG,Zk,Yx,YN,goInt,Qub,Quc,QtN,Quq,Qui,Int.toNat_zero,Int.toNat_one,Quh,Qut,Quu,Qur,QtJ,Qun,beq_true,beq_false,Nat.reducePow,QuG,QuT,T.QsS,T.QsT,QG,Qs,ti3,zi3,un3,ti4,zi4,un4,ti9,ei9,zi9,un9,ti27,zi27,un27,ti32,ei32,ai32,zi32,un32,ti33,ei33,ai33,zi33,un33,ti34,ti46,X4,X5,X6,zi46,sp46,Qus,Int.sub_zero,YG,QS,t3,t7];(repeat (first|((first|(with_reducible (first|refine Qd fun K E hK hE=>?_|refine Qj fun K E hK hE=>?_|refine Qe cz ?_|refine ZJ cz ?_)));simp only[QQ,QB,QN,OpW,YH,aop,undef,XU,Qul,Qum,X3,Xq,XD,AS.ev,QO,Q9,Xu,Xk,XC,QR,XA,Qz,Qy,Qt,XE,XL,XJ,QtM,Qt5,AV.QsU,QC,Xs,Xe,Q1,Q2,QY,Xi,Xo,QZ,QI,Xz,Xf,Q5,Q6,Q3,Xj,Xr,Q4,QtZ,Qt0,QL,QH,QM,Qw,QV,Qp,Qo,Qk,Xc,QW,QX,QT,Xh,Xn,QU,Qt1,Quo,Qup,Qt2,Qt3,↓reduceIte,QtS,QtT,Nat.reduceAdd,Nat.reduceLT,Nat.reduceLeDiff,Nat.reduceEqDiff,Nat.reduceSub,Nat.reduceMul,QtR,Qt4,Que,Quf,Qud,Ql,Qr,aBin,Q7,aLen,X8,hget,Yh,hset,hlen,happ,QtF,QtG,Quv,Qt9,Qua,QtH,Quk,QtK,Quj,QtL,Qug,QtI,QtU,QtY,Qt7,Qt6,Qt8,QtQ,QtX,QtO,QtW,ZG,Zk,Yx,YN,goInt,Qub,Quc,QtN,Quq,Qui,Int.toNat_zero,Int.toNat_one,Quh,Qut,Quu,Qur,QtJ,Qun,beq_true,beq_false,Nat.reducePow,QuG,QuT,T.QsS,T.QsT,QG,Qs,ti3,zi3,un3,ti4,zi4,un4,ti9,ei9,zi9,un9,ti27,zi27,un27,ti32,ei32,ai32,zi32,un32,ti33,ei33,ai33,zi33,un33,ti34,ti46,X4,X5,X6,zi46,sp46,Qus,Int.sub_zero,YG,QS,t3,t7])|(with_reducible (first|refine Qq fun K hK=>?_|refine Qu ?_|refine Xy ?_|refine Xl ?_|refine Xp ?_|refine QE ?_|refine Xb ?_|refine Qg ?_|refine Xm ?_|refine QK ?_|refine Qn ?_|refine Q8 ?_|refine QJ ?_|refine QP rfl ?_))|(with_reducible (first|refine hK _ ?_|(clear hK;refine hK _ ?_)|(clear hK;clear hK;refine hK _ ?_)|(clear hK;clear hK;clear hK;refine hK _ ?_));clear hK)|(refine Qm rfl ?_;simp only[↓reduceIte,QtJ])|(intro (b:Bool);cases b)));refine hK1 _ ?_;clear hK1
    (try simp only[Qug,QtO,QtW]);refine ZN 5 (fun K1 hK1=>?_);simp only[QQ,QB,QN,OpW,YH,aop,undef,XU,Qul,Qum,X3,Xq,XD,AS.ev,QO,Q9,Xu,Xk,XC,QR,XA,Qz,Qy,Qt,XE,XL,XJ,QtM,Qt5,AV.QsU,QC,Xs,Xe,Q1,Q2,QY,Xi,Xo,QZ,QI,Xz,Xf,Q5,Q6,Q3,Xj,Xr,Q4,QtZ,Qt0,QL,QH,QM,Qw,QV,Qp,Qo,Qk,Xc,QW,QX,QT,Xh,Xn,QU,Qt1,Quo,Qup,Qt2,Qt3,↓reduceIte,QtS,QtT,Nat.reduceAdd,Nat.reduceLT,Nat.reduceLeDiff,Nat.reduceEqDiff,Nat.reduceSub,Nat.reduceMul,QtR,Qt4,Que,Quf,Qud,Ql,Qr,aBin,Q7,aLen,X8,hget,Yh,hset,hlen,happ,QtF,QtG,Quv,Qt9,Qua,QtH,Quk,QtK,Quj,QtL,Qug,QtI,QtU,QtY,Qt7,Qt6,Qt8,QtQ,QtX,QtO,QtW,ZG,Zk,Yx,YN,goInt,Qub,Quc,QtN,Quq,Qui,Int.toNat_zero,Int.toNat_one,Quh,Qut,Quu,Qur,QtJ,Qun,beq_true,beq_false,Nat.reducePow,QuG,QuT,T.QsS,T.QsT,QG,Qs,ti3,zi3,un3,ti4,zi4,un4,ti9,ei9,zi9,un9,ti27,zi27,un27,ti32,ei32,ai32,zi32,un32,ti33,ei33,ai33,zi33,un33,ti34,ti46,X4,X5,X6,zi46,sp46,Qus,Int.sub_zero,YG,QS,t4,t8];(repeat (first|((first|(with_reducible (first|refine Qd fun K E hK hE=>?_|refine Qj fun K E hK hE=>?_|refine Qe cy ?_|refine ZJ cy ?_)));simp only[QQ,QB,QN,OpW,YH,aop,undef,XU,Qul,Qum,X3,Xq,XD,AS.ev,QO,Q9,Xu,Xk,XC,QR,XA,Qz,Qy,Qt,XE,XL,XJ,QtM,Qt5,AV.QsU,QC,Xs,Xe,Q1,Q2,QY,Xi,Xo,QZ,QI,Xz,Xf,Q5,Q6,Q3,Xj,Xr,Q4,QtZ,Qt0,QL,QH,QM,Qw,QV,Qp,Qo,Qk,Xc,QW,QX,QT,Xh,Xn,QU,Qt1,Quo,Qup,Qt2,Qt3,↓reduceIte,QtS,QtT,Nat.reduceAdd,Nat.reduceLT,Nat.reduceLeDiff,Nat.reduceEqDiff,Nat.reduceSub,Nat.reduceMul,QtR,Qt4,Que,Quf,Qud,Ql,Qr,aBin,Q7,aLen,X8,hget,Yh,hset,hlen,happ,QtF,QtG,Quv,Qt9,Qua,QtH,Quk,QtK,Quj,QtL,Qug,QtI,QtU,QtY,Qt7,Qt6,Qt8,QtQ,QtX,QtO,QtW,ZG,Zk,Yx,YN,goInt,Qub,Quc,QtN,Quq,Qui,Int.toNat_zero,Int.toNat_one,Quh,Qut,Quu,Qur,QtJ,Qun,beq_true,beq_false,Nat.reducePow,QuG,QuT,T.QsS,T.QsT,QG,Qs,ti3,zi3,un3,ti4,zi4,un4,ti9,ei9,zi9,un9,ti27,zi27,un27,ti32,ei32,ai32,zi32,un32,ti33,ei33,ai33,zi33,un33,ti34,ti46,X4,X5,X6,zi46,sp46,Qus,Int.sub_zero,YG,QS,t4,t8])|(with_reducible (first|refine Qq fun K hK=>?_|refine Qu ?_|refine Xy ?_|refine Xl ?_|refine Xp ?_|refine QE ?_|refine Xb ?_|refine Qg ?_|refine Xm ?_|refine QK ?_|refine Qn ?_|refine Q8 ?_|refine QJ ?_|refine QP rfl ?_))|(with_reducible (first|refine hK _ ?_|(clear hK;refine hK _ ?_)|(clear hK;clear hK;refine hK _ ?_)|(clear hK;clear hK;clear hK;refine hK _ ?_));clear hK)|(refine Qm rfl ?_;simp only[↓reduceIte,QtJ])|(intro (b:Bool);cases b)));refine hK1 _ ?_;clear hK1
    (try simp only[Qug,QtO,QtW]);refine ZN 4 (fun K1 hK1=>?_);simp only[QQ,QB,QN,OpW,YH,aop,undef,XU,Qul,Qum,X3,Xq,XD,AS.ev,QO,Q9,Xu,Xk,XC,QR,XA,Qz,Qy,Qt,XE,XL,XJ,QtM,Qt5,AV.QsU,QC,Xs,Xe,Q1,Q2,QY,Xi,Xo,QZ,QI,Xz,Xf,Q5,Q6,Q3,Xj,Xr,Q4,QtZ,Qt0,QL,QH,QM,Qw,QV,Qp,Qo,Qk,Xc,QW,QX,QT,Xh,Xn,QU,Qt1,Quo,Qup,Qt2,Qt3,↓reduceIte,QtS,QtT,Nat.reduceAdd,Nat.reduceLT,Nat.reduceLeDiff,Nat.reduceEqDiff,Nat.reduceSub,Nat.reduceMul,QtR,Qt4,Que,Quf,Qud,Ql,Qr,aBin,Q7,aLen,X8,hget,Yh,hset,hlen,happ,QtF,QtG,Quv,Qt9,Qua,QtH,Quk,QtK,Quj,QtL,Qug,QtI,QtU,QtY,Qt7,Qt6,Qt8,QtQ,QtX,QtO,QtW,ZG,Zk,Yx,YN,goInt,Qub,Quc,QtN,Quq,Qui,Int.toNat_zero,Int.toNat_one,Quh,Qut,Quu,Qur,QtJ,Qun,beq_true,beq_false,Nat.reducePow,QuG,QuT,T.QsS,T.QsT,QG,Qs,ti3,zi3,un3,ti4,zi4,un4,ti9,ei9,zi9,un9,ti27,zi27,un27,ti32,ei32,ai32,zi32,un32,ti33,ei33,ai33,zi33,un33,ti34,ti46,X4,X5,X6,zi46,sp46,Qus,Int.sub_zero,YG,QS,t5,t9,u1];refine hK1 _ ?_;clear hK1
    (try simp only[Qug,QtO,QtW]);refine ZN 5 (fun K1 hK1=>?_);simp only[QQ,QB,QN,OpW,YH,aop,undef,XU,Qul,Qum,X3,Xq,XD,AS.ev,QO,Q9,Xu,Xk,XC,QR,XA,Qz,Qy,Qt,XE,XL,XJ,QtM,Qt5,AV.QsU,QC,Xs,Xe,Q1,Q2,QY,Xi,Xo,QZ,QI,Xz,Xf,Q5,Q6,Q3,Xj,Xr,Q4,QtZ,Qt0,QL,QH,QM,Qw,QV,Qp,Qo,Qk,Xc,QW,QX,QT,Xh,Xn,QU,Qt1,Quo,Qup,Qt2,Qt3,↓reduceIte,QtS,QtT,Nat.reduceAdd,Nat.reduceLT,Nat.reduceLeDiff,Nat.reduceEqDiff,Nat.reduceSub,Nat.reduceMul,QtR,Qt4,Que,Quf,Qud,Ql,Qr,aBin,Q7,aLen,X8,hget,Yh,hset,hlen,happ,QtF,QtG,Quv,Qt9,Qua,QtH,Quk,QtK,Quj,QtL,Qug,QtI,QtU,QtY,Qt7,Qt6,Qt8,QtQ,QtX,QtO,QtW,ZG,Zk,Yx,YN,goInt,Qub,Quc,QtN,Quq,Qui,Int.toNat_zero,Int.toNat_one,Quh,Qut,Quu,Qur,QtJ,Qun,beq_true,beq_false,Nat.reducePow,QuG,QuT,T.QsS,T.QsT,QG,Qs,ti3,zi3,un3,ti4,zi4,un4,ti9,ei9,zi9,un9,ti27,zi27,un27,ti32,ei32,ai32,zi32,un32,ti33,ei33,ai33,zi33,un33,ti34,ti46,X4,X5,X6,zi46,sp46,Qus,Int.sub_zero,YG,QS,t6,t10,u1,u2];refine hK1 _ ?_;clear hK1
    (try simp only[Qug,QtO,QtW]);refine ZN 4 (fun K1 hK1=>?_);simp only[QQ,QB,QN,OpW,YH,aop,undef,XU,Qul,Qum,X3,Xq,XD,AS.ev,QO,Q9,Xu,Xk,XC,QR,XA,Qz,Qy,Qt,XE,XL,XJ,QtM,Qt5,AV.QsU,QC,Xs,Xe,Q1,Q2,QY,Xi,Xo,QZ,QI,Xz,Xf,Q5,Q6,Q3,Xj,Xr,Q4,QtZ,Qt0,QL,QH,QM,Qw,QV,Qp,Qo,Qk,Xc,QW,QX,QT,Xh,Xn,QU,Qt1,Quo,Qup,Qt2,Qt3,↓reduceIte,QtS,QtT,Nat.reduceAdd,Nat.reduceLT,Nat.reduceLeDiff,Nat.reduceEqDiff,Nat.reduceSub,Nat.reduceMul,QtR,Qt4,Que,Quf,Qud,Ql,Qr,aBin,Q7,aLen,X8,hget,Yh,hset,hlen,happ,QtF,QtG,Quv,Qt9,Qua,QtH,Quk,QtK,Quj,QtL,Qug,QtI,QtU,QtY,Qt7,Qt6,Qt8,QtQ,QtX,QtO,QtW,ZG,Zk,Yx,YN,goInt,Qub,Quc,QtN,Quq,Qui,Int.toNat_zero,Int.toNat_one,Quh,Qut,Quu,Qur,QtJ,Qun,beq_true,beq_false,Nat.reducePow,QuG,QuT,T.QsS,T.QsT,QG,Qs,ti3,zi3,un3,ti4,zi4,un4,ti9,ei9,zi9,un9,ti27,zi27,un27,ti32,ei32,ai32,zi32,un32,ti33,ei33,ai33,zi33,un33,ti34,ti46,X4,X5,X6,zi46,sp46,Qus,Int.sub_zero,YG,QS];(repeat (first|((first|(with_reducible (first|refine Qd fun K E hK hE=>?_|refine Qj fun K E hK hE=>?_|refine FunW.QsR ca ?_)));simp only[QQ,QB,QN,OpW,YH,aop,undef,XU,Qul,Qum,X3,Xq,XD,AS.ev,QO,Q9,Xu,Xk,XC,QR,XA,Qz,Qy,Qt,XE,XL,XJ,QtM,Qt5,AV.QsU,QC,Xs,Xe,Q1,Q2,QY,Xi,Xo,QZ,QI,Xz,Xf,Q5,Q6,Q3,Xj,Xr,Q4,QtZ,Qt0,QL,QH,QM,Qw,QV,Qp,Qo,Qk,Xc,QW,QX,QT,Xh,Xn,QU,Qt1,Quo,Qup,Qt2,Qt3,↓reduceIte,QtS,QtT,Nat.reduceAdd,Nat.reduceLT,Nat.reduceLeDiff,Nat.reduceEqDiff,Nat.reduceSub,Nat.reduceMul,QtR,Qt4,Que,Quf,Qud,Ql,Qr,aBin,Q7,aLen,X8,hget,Yh,hset,hlen,happ,QtF,QtG,Quv,Qt9,Qua,QtH,Quk,QtK,Quj,QtL,Qug,QtI,QtU,QtY,Qt7,Qt6,Qt8,QtQ,QtX,QtO,QtW,ZG,Zk,Yx,YN,goInt,Qub,Quc,QtN,Quq,Qui,Int.toNat_zero,Int.toNat_one,Quh,Qut,Quu,Qur,QtJ,Qun,beq_true,beq_false,Nat.reducePow,QuG,QuT,T.QsS,T.QsT,QG,Qs,ti3,zi3,un3,ti4,zi4,un4,ti9,ei9,zi9,un9,ti27,zi27,un27,ti32,ei32,ai32,zi32,un32,ti33,ei33,ai33,zi33,un33,ti34,ti46,X4,X5,X6,zi46,sp46,Qus,Int.sub_zero,YG,QS])|(with_reducible (first|refine Qq fun K hK=>?_|refine Qu ?_|refine Xy ?_|refine Xl ?_|refine Xp ?_|refine QE ?_|refine Xb ?_|refine Qg ?_|refine Xm ?_|refine QK ?_|refine Qn ?_|refine Q8 ?_|refine QJ ?_|refine QP rfl ?_))|(with_reducible (first|refine hK _ ?_|(clear hK;refine hK _ ?_)|(clear hK;clear hK;refine hK _ ?_)|(clear hK;clear hK;clear hK;refine hK _ ?_));clear hK)|(refine Qm rfl ?_;simp only[↓reduceIte,QtJ])|(intro (b:Bool);cases b)));refine hK1 _ ?_;clear hK1
    (try refine hK _ ?_)
    repeat first|with_reducible (first|(first|refine Qd fun K E hK hE=>?_|refine Qj fun K E hK hE=>?_);simp only[QQ,QB,QN,OpW,YH,aop,undef,XU,Qul,Qum,X3,Xq,XD,AS.ev,QO,Q9,Xu,Xk,XC,QR,XA,Qz,Qy,Qt,XE,XL,XJ,QtM,Qt5,AV.QsU,QC,Xs,Xe,Q1,Q2,QY,Xi,Xo,QZ,QI,Xz,Xf,Q5,Q6,Q3,Xj,Xr,Q4,QtZ,Qt0,QL,QH,QM,Qw,QV,Qp,Qo,Qk,Xc,QW,QX,QT,Xh,Xn,QU,Qt1,Quo,Qup,Qt2,Qt3,↓reduceIte,QtS,QtT,Nat.reduceAdd,Nat.reduceLT,Nat.reduceLeDiff,Nat.reduceEqDiff,Nat.reduceSub,Nat.reduceMul,QtR,Qt4,Que,Quf,Qud,Ql,Qr,aBin,Q7,aLen,X8,hget,Yh,hset,hlen,happ,QtF,QtG,Quv,Qt9,Qua,QtH,Quk,QtK,Quj,QtL,Qug,QtI,QtU,QtY,Qt7,Qt6,Qt8,QtQ,QtX,QtO,QtW,ZG,Zk,Yx,YN,goInt,Qub,Quc,QtN,Quq,Qui,Int.toNat_zero,Int.toNat_one,Quh,Qut,Quu,Qur,QtJ,Qun,beq_true,beq_false,Nat.reducePow,QuG,QuT,T.QsS,T.QsT,QG,Qs,ti3,zi3,un3,ti4,zi4,un4,ti9,ei9,zi9,un9,ti27,zi27,un27,ti32,ei32,ai32,zi32,un32,ti33,ei33,ai33,zi33,un33,ti34,ti46,X4,X5,X6,zi46,sp46,Qus,Int.sub_zero,YG,QS]|refine Qq fun K hK=>?_|refine Qu ?_|refine Xy ?_|refine Xl ?_|refine Xp ?_|refine QE ?_|refine Xb ?_|refine Qg ?_|refine Xm ?_|refine QK ?_|refine Qn ?_|refine Q8 ?_|refine QJ ?_|refine QP rfl ?_|refine hK _ ?_;clear hK|clear hK;refine hK _ ?_;clear hK|clear hK;clear hK;refine hK _ ?_;clear hK|clear hK;clear hK;clear hK;refine hK _ ?_;clear hK|refine Qm rfl ?_;simp only[↓reduceIte,QtJ])|intro (b:Bool);cases b
    simp only[QQ,QB,QN,OpW,YH,aop,undef,XU,Qul,Qum,X3,Xq,XD,AS.ev,QO,Q9,Xu,Xk,XC,QR,XA,Qz,Qy,Qt,XE,XL,XJ,QtM,Qt5,AV.QsU,QC,Xs,Xe,Q1,Q2,QY,Xi,Xo,QZ,QI,Xz,Xf,Q5,Q6,Q3,Xj,Xr,Q4,QtZ,Qt0,QL,QH,QM,Qw,QV,Qp,Qo,Qk,Xc,QW,QX,QT,Xh,Xn,QU,Qt1,Quo,Qup,Qt2,Qt3,↓reduceIte,QtS,QtT,Nat.reduceAdd,Nat.reduceLT,Nat.reduceLeDiff,Nat.reduceEqDiff,Nat.reduceSub,Nat.reduceMul,QtR,Qt4,Que,Quf,Qud,Ql,Qr,aBin,Q7,aLen,X8,hget,Yh,hset,hlen,happ,QtF,QtG,Quv,Qt9,Qua,QtH,Quk,QtK,Quj,QtL,Qug,QtI,QtU,QtY,Qt7,Qt6,Qt8,QtQ,QtX,QtO,QtW,ZG,Zk,Yx,YN,goInt,Qub,Quc,QtN,Quq,Qui,Int.toNat_zero,Int.toNat_one,Quh,Qut,Quu,Qur,QtJ,Qun,beq_true,beq_false,Nat.reducePow,QuG,QuT,T.QsS,T.QsT,QG,Qs,ti3,zi3,un3,ti4,zi4,un4,ti9,ei9,zi9,un9,ti27,zi27,un27,ti32,ei32,ai32,zi32,un32,ti33,ei33,ai33,zi33,un33,ti34,ti46,X4,X5,X6,zi46,sp46,Qus,Int.sub_zero,YG,QS,QbZ,Qba,Ql,Qr,Qbm,Zr,Zm,QtP]
    exact .inr ⟨rfl,rfl⟩
   ·repeat first|with_reducible (first|(first|refine Qd fun K E hK hE=>?_|refine Qj fun K E hK hE=>?_|refine FunW.QsR cq ?_);simp only[QQ,QB,QN,OpW,YH,aop,undef,XU,Qul,Qum,X3,Xq,XD,AS.ev,QO,Q9,Xu,Xk,XC,QR,XA,Qz,Qy,Qt,XE,XL,XJ,QtM,Qt5,AV.QsU,QC,Xs,Xe,Q1,Q2,QY,Xi,Xo,QZ,QI,Xz,Xf,Q5,Q6,Q3,Xj,Xr,Q4,QtZ,Qt0,QL,QH,QM,Qw,QV,Qp,Qo,Qk,Xc,QW,QX,QT,Xh,Xn,QU,Qt1,Quo,Qup,Qt2,Qt3,↓reduceIte,QtS,QtT,Nat.reduceAdd,Nat.reduceLT,Nat.reduceLeDiff,Nat.reduceEqDiff,Nat.reduceSub,Nat.reduceMul,QtR,Qt4,Que,Quf,Qud,Ql,Qr,aBin,Q7,aLen,X8,hget,Yh,hset,hlen,happ,QtF,QtG,Quv,Qt9,Qua,QtH,Quk,QtK,Quj,QtL,Qug,QtI,QtU,QtY,Qt7,Qt6,Qt8,QtQ,QtX,QtO,QtW,ZG,Zk,Yx,YN,goInt,Qub,Quc,QtN,Quq,Qui,Int.toNat_zero,Int.toNat_one,Quh,Qut,Quu,Qur,QtJ,Qun,beq_true,beq_false,Nat.reducePow,QuG,QuT,T.QsS,T.QsT,QG,Qs,ti3,zi3,un3,ti4,zi4,un4,ti9,ei9,zi9,un9,ti27,zi27,un27,ti32,ei32,ai32,zi32,un32,ti33,ei33,ai33,zi33,un33,ti34,ti46,X4,X5,X6,zi46,sp46,Qus,Int.sub_zero,YG,QS]|refine Qq fun K hK=>?_|refine Qu ?_|refine Xy ?_|refine Xl ?_|refine Xp ?_|refine QE ?_|refine Xb ?_|refine Qg ?_|refine Xm ?_|refine QK ?_|refine Qn ?_|refine Q8 ?_|refine QJ ?_|refine QP rfl ?_|refine hK _ ?_;clear hK|clear hK;refine hK _ ?_;clear hK|clear hK;clear hK;refine hK _ ?_;clear hK|clear hK;clear hK;clear hK;refine hK _ ?_;clear hK|refine Qm rfl ?_;simp only[↓reduceIte,QtJ])|intro (b:Bool);cases b
    (try refine hK _ ?_)
    exact⟨rfl,rfl,rfl,rfl,rfl,rfl,rfl,rfl,rfl⟩
  |inl q =>
   obtain⟨g,n⟩:=q
   simp only[sqR]at cp cq
   obtain⟨b1,b2,b3⟩:=QlH (by omega) hv.symm
   have cz:=Qfr g b1 b2
   have cy:=Qc1 n b3
   have u1:((0:Int)==0)=true:=rfl
   have u2:=u1
   refine Qa Tryz.func4 rfl Tryz.call4 Tryz.ntmps4 Tryz.results4 (by simp) ?_
   iterate 12 (try (first|((first|(with_reducible (first|refine Qd fun K E hK hE=>?_|refine Qj fun K E hK hE=>?_|refine FunW.QsR cp ?_)));simp only[QQ,QB,QN,OpW,YH,aop,undef,XU,Qul,Qum,X3,Xq,XD,AS.ev,QO,Q9,Xu,Xk,XC,QR,XA,Qz,Qy,Qt,XE,XL,XJ,QtM,Qt5,AV.QsU,QC,Xs,Xe,Q1,Q2,QY,Xi,Xo,QZ,QI,Xz,Xf,Q5,Q6,Q3,Xj,Xr,Q4,QtZ,Qt0,QL,QH,QM,Qw,QV,Qp,Qo,Qk,Xc,QW,QX,QT,Xh,Xn,QU,Qt1,Quo,Qup,Qt2,Qt3,↓reduceIte,QtS,QtT,Nat.reduceAdd,Nat.reduceLT,Nat.reduceLeDiff,Nat.reduceEqDiff,Nat.reduceSub,Nat.reduceMul,QtR,Qt4,Que,Quf,Qud,Ql,Qr,aBin,Q7,aLen,X8,hget,Yh,hset,hlen,happ,QtF,QtG,Quv,Qt9,Qua,QtH,Quk,QtK,Quj,QtL,Qug,QtI,QtU,QtY,Qt7,Qt6,Qt8,QtQ,QtX,QtO,QtW,ZG,Zk,Yx,YN,goInt,Qub,Quc,QtN,Quq,Qui,Int.toNat_zero,Int.toNat_one,Quh,Qut,Quu,Qur,QtJ,Qun,beq_true,beq_false,Nat.reducePow,QuG,QuT,T.QsS,T.QsT,QG,Qs,ti3,zi3,un3,ti4,zi4,un4,ti9,ei9,zi9,un9,ti27,zi27,un27,ti32,ei32,ai32,zi32,un32,ti33,ei33,ai33,zi33,un33,ti34,ti46,X4,X5,X6,zi46,sp46,Qus,Int.sub_zero,YG,QS,hsl,Qv,z1,z2])|(with_reducible (first|refine Qq fun K hK=>?_|refine Qu ?_|refine Xy ?_|refine Xl ?_|refine Xp ?_|refine QE ?_|refine Xb ?_|refine Qg ?_|refine Xm ?_|refine QK ?_|refine Qn ?_|refine Q8 ?_|refine QJ ?_|refine QP rfl ?_))|(with_reducible (first|refine hK _ ?_|(clear hK;refine hK _ ?_)|(clear hK;clear hK;refine hK _ ?_)|(clear hK;clear hK;clear hK;refine hK _ ?_));clear hK)|(refine Qm rfl ?_;simp only[↓reduceIte,QtJ])|(intro (b:Bool);cases b)))
   refine Qaw (fun st=>st.tm 3 = .sl 3 (vs G.goal g) none/\st.tm 4 = .sl 1 (strs n) none/\st.tm 5 = .i 0/\st.tm 6 = .i 0/\st.tm 7 = .sl 3 (vs G.goal g) none/\st.tm 8 = .sl 1 (strs n) none/\st.tm 9 = .i 0/\st.tm 10 = .i 0/\st.h=h) ?_ ?_
   ·rintro⟨tm,hp⟩ ⟨t3,t4,t5,t6,t7,t8,t9,t10,rfl⟩
    dsimp only at t3 t4 t5 t6 t7 t8 t9 t10
    (with_reducible refine Qd fun K E hK hE=>?_)
    (try simp only[Qug,QtO,QtW]);refine ZN 4 (fun K1 hK1=>?_);simp only[QQ,QB,QN,OpW,YH,aop,undef,XU,Qul,Qum,X3,Xq,XD,AS.ev,QO,Q9,Xu,Xk,XC,QR,XA,Qz,Qy,Qt,XE,XL,XJ,QtM,Qt5,AV.QsU,QC,Xs,Xe,Q1,Q2,QY,Xi,Xo,QZ,QI,Xz,Xf,Q5,Q6,Q3,Xj,Xr,Q4,QtZ,Qt0,QL,QH,QM,Qw,QV,Qp,Qo,Qk,Xc,QW,QX,QT,Xh,Xn,QU,Qt1,Quo,Qup,Qt2,Qt3,↓reduceIte,QtS,QtT,Nat.reduceAdd,Nat.reduceLT,Nat.reduceLeDiff,Nat.reduceEqDiff,Nat.reduceSub,Nat.reduceMul,QtR,Qt4,Que,Quf,Qud,Ql,Qr,aBin,Q7,aLen,X8,hget,Yh,hset,hlen,happ,QtF,QtG,Quv,Qt9,Qua,QtH,Quk,QtK,Quj,QtL,Qug,QtI,QtU,QtY,Qt7,Qt6,Qt8,QtQ,QtX,QtO,QtW,ZG,Zk,Yx,YN,goInt,Qub,Quc,QtN,Quq,Qui,Int.toNat_zero,Int.toNat_one,Quh,Qut,Quu,Qur,QtJ,Qun,beq_true,beq_false,Nat.reducePow,QuG,QuT,T.QsS,T.QsT,QG,Qs,ti3,zi3,un3,ti4,zi4,un4,ti9,ei9,zi9,un9,ti27,zi27,un27,ti32,ei32,ai32,zi32,un32,ti33,ei33,ai33,zi33,un33,ti34,ti46,X4,X5,X6,zi46,sp46,Qus,Int.sub_zero,YG,QS,t3,t7];(repeat (first|((first|(with_reducible (first|refine Qd fun K E hK hE=>?_|refine Qj fun K E hK hE=>?_|refine Qe cz ?_|refine ZJ cz ?_)));simp only[QQ,QB,QN,OpW,YH,aop,undef,XU,Qul,Qum,X3,Xq,XD,AS.ev,QO,Q9,Xu,Xk,XC,QR,XA,Qz,Qy,Qt,XE,XL,XJ,QtM,Qt5,AV.QsU,QC,Xs,Xe,Q1,Q2,QY,Xi,Xo,QZ,QI,Xz,Xf,Q5,Q6,Q3,Xj,Xr,Q4,QtZ,Qt0,QL,QH,QM,Qw,QV,Qp,Qo,Qk,Xc,QW,QX,QT,Xh,Xn,QU,Qt1,Quo,Qup,Qt2,Qt3,↓reduceIte,QtS,QtT,Nat.reduceAdd,Nat.reduceLT,Nat.reduceLeDiff,Nat.reduceEqDiff,Nat.reduceSub,Nat.reduceMul,QtR,Qt4,Que,Quf,Qud,Ql,Qr,aBin,Q7,aLen,X8,hget,Yh,hset,hlen,happ,QtF,QtG,Quv,Qt9,Qua,QtH,Quk,QtK,Quj,QtL,Qug,QtI,QtU,QtY,Qt7,Qt6,Qt8,QtQ,QtX,QtO,QtW,ZG,Zk,Yx,YN,goInt,Qub,Quc,QtN,Quq,Qui,Int.toNat_zero,Int.toNat_one,Quh,Qut,Quu,Qur,QtJ,Qun,beq_true,beq_false,Nat.reducePow,QuG,QuT,T.QsS,T.QsT,QG,Qs,ti3,zi3,un3,ti4,zi4,un4,ti9,ei9,zi9,un9,ti27,zi27,un27,ti32,ei32,ai32,zi32,un32,ti33,ei33,ai33,zi33,un33,ti34,ti46,X4,X5,X6,zi46,sp46,Qus,Int.sub_zero,YG,QS,t3,t7])|(with_reducible (first|refine Qq fun K hK=>?_|refine Qu ?_|refine Xy ?_|refine Xl ?_|refine Xp ?_|refine QE ?_|refine Xb ?_|refine Qg ?_|refine Xm ?_|refine QK ?_|refine Qn ?_|refine Q8 ?_|refine QJ ?_|refine QP rfl ?_))|(with_reducible (first|refine hK _ ?_|(clear hK;refine hK _ ?_)|(clear hK;clear hK;refine hK _ ?_)|(clear hK;clear hK;clear hK;refine hK _ ?_));clear hK)|(refine Qm rfl ?_;simp only[↓reduceIte,QtJ])|(intro (b:Bool);cases b)));refine hK1 _ ?_;clear hK1
    (try simp only[Qug,QtO,QtW]);refine ZN 5 (fun K1 hK1=>?_);simp only[QQ,QB,QN,OpW,YH,aop,undef,XU,Qul,Qum,X3,Xq,XD,AS.ev,QO,Q9,Xu,Xk,XC,QR,XA,Qz,Qy,Qt,XE,XL,XJ,QtM,Qt5,AV.QsU,QC,Xs,Xe,Q1,Q2,QY,Xi,Xo,QZ,QI,Xz,Xf,Q5,Q6,Q3,Xj,Xr,Q4,QtZ,Qt0,QL,QH,QM,Qw,QV,Qp,Qo,Qk,Xc,QW,QX,QT,Xh,Xn,QU,Qt1,Quo,Qup,Qt2,Qt3,↓reduceIte,QtS,QtT,Nat.reduceAdd,Nat.reduceLT,Nat.reduceLeDiff,Nat.reduceEqDiff,Nat.reduceSub,Nat.reduceMul,QtR,Qt4,Que,Quf,Qud,Ql,Qr,aBin,Q7,aLen,X8,hget,Yh,hset,hlen,happ,QtF,QtG,Quv,Qt9,Qua,QtH,Quk,QtK,Quj,QtL,Qug,QtI,QtU,QtY,Qt7,Qt6,Qt8,QtQ,QtX,QtO,QtW,ZG,Zk,Yx,YN,goInt,Qub,Quc,QtN,Quq,Qui,Int.toNat_zero,Int.toNat_one,Quh,Qut,Quu,Qur,QtJ,Qun,beq_true,beq_false,Nat.reducePow,QuG,QuT,T.QsS,T.QsT,QG,Qs,ti3,zi3,un3,ti4,zi4,un4,ti9,ei9,zi9,un9,ti27,zi27,un27,ti32,ei32,ai32,zi32,un32,ti33,ei33,ai33,zi33,un33,ti34,ti46,X4,X5,X6,zi46,sp46,Qus,Int.sub_zero,YG,QS,t4,t8];(repeat (first|((first|(with_reducible (first|refine Qd fun K E hK hE=>?_|refine Qj fun K E hK hE=>?_|refine Qe cy ?_|refine ZJ cy ?_)));simp only[QQ,QB,QN,OpW,YH,aop,undef,XU,Qul,Qum,X3,Xq,XD,AS.ev,QO,Q9,Xu,Xk,XC,QR,XA,Qz,Qy,Qt,XE,XL,XJ,QtM,Qt5,AV.QsU,QC,Xs,Xe,Q1,Q2,QY,Xi,Xo,QZ,QI,Xz,Xf,Q5,Q6,Q3,Xj,Xr,Q4,QtZ,Qt0,QL,QH,QM,Qw,QV,Qp,Qo,Qk,Xc,QW,QX,QT,Xh,Xn,QU,Qt1,Quo,Qup,Qt2,Qt3,↓reduceIte,QtS,QtT,Nat.reduceAdd,Nat.reduceLT,Nat.reduceLeDiff,Nat.reduceEqDiff,Nat.reduceSub,Nat.reduceMul,QtR,Qt4,Que,Quf,Qud,Ql,Qr,aBin,Q7,aLen,X8,hget,Yh,hset,hlen,happ,QtF,QtG,Quv,Qt9,Qua,QtH,Quk,QtK,Quj,QtL,Qug,QtI,QtU,QtY,Qt7,Qt6,Qt8,QtQ,QtX,QtO,QtW,ZG,Zk,Yx,YN,goInt,Qub,Quc,QtN,Quq,Qui,Int.toNat_zero,Int.toNat_one,Quh,Qut,Quu,Qur,QtJ,Qun,beq_true,beq_false,Nat.reducePow,QuG,QuT,T.QsS,T.QsT,QG,Qs,ti3,zi3,un3,ti4,zi4,un4,ti9,ei9,zi9,un9,ti27,zi27,un27,ti32,ei32,ai32,zi32,un32,ti33,ei33,ai33,zi33,un33,ti34,ti46,X4,X5,X6,zi46,sp46,Qus,Int.sub_zero,YG,QS,t4,t8])|(with_reducible (first|refine Qq fun K hK=>?_|refine Qu ?_|refine Xy ?_|refine Xl ?_|refine Xp ?_|refine QE ?_|refine Xb ?_|refine Qg ?_|refine Xm ?_|refine QK ?_|refine Qn ?_|refine Q8 ?_|refine QJ ?_|refine QP rfl ?_))|(with_reducible (first|refine hK _ ?_|(clear hK;refine hK _ ?_)|(clear hK;clear hK;refine hK _ ?_)|(clear hK;clear hK;clear hK;refine hK _ ?_));clear hK)|(refine Qm rfl ?_;simp only[↓reduceIte,QtJ])|(intro (b:Bool);cases b)));refine hK1 _ ?_;clear hK1
    (try simp only[Qug,QtO,QtW]);refine ZN 4 (fun K1 hK1=>?_);simp only[QQ,QB,QN,OpW,YH,aop,undef,XU,Qul,Qum,X3,Xq,XD,AS.ev,QO,Q9,Xu,Xk,XC,QR,XA,Qz,Qy,Qt,XE,XL,XJ,QtM,Qt5,AV.QsU,QC,Xs,Xe,Q1,Q2,QY,Xi,Xo,QZ,QI,Xz,Xf,Q5,Q6,Q3,Xj,Xr,Q4,QtZ,Qt0,QL,QH,QM,Qw,QV,Qp,Qo,Qk,Xc,QW,QX,QT,Xh,Xn,QU,Qt1,Quo,Qup,Qt2,Qt3,↓reduceIte,QtS,QtT,Nat.reduceAdd,Nat.reduceLT,Nat.reduceLeDiff,Nat.reduceEqDiff,Nat.reduceSub,Nat.reduceMul,QtR,Qt4,Que,Quf,Qud,Ql,Qr,aBin,Q7,aLen,X8,hget,Yh,hset,hlen,happ,QtF,QtG,Quv,Qt9,Qua,QtH,Quk,QtK,Quj,QtL,Qug,QtI,QtU,QtY,Qt7,Qt6,Qt8,QtQ,QtX,QtO,QtW,ZG,Zk,Yx,YN,goInt,Qub,Quc,QtN,Quq,Qui,Int.toNat_zero,Int.toNat_one,Quh,Qut,Quu,Qur,QtJ,Qun,beq_true,beq_false,Nat.reducePow,QuG,QuT,T.QsS,T.QsT,QG,Qs,ti3,zi3,un3,ti4,zi4,un4,ti9,ei9,zi9,un9,ti27,zi27,un27,ti32,ei32,ai32,zi32,un32,ti33,ei33,ai33,zi33,un33,ti34,ti46,X4,X5,X6,zi46,sp46,Qus,Int.sub_zero,YG,QS,t5,t9,u1];refine hK1 _ ?_;clear hK1
    (try simp only[Qug,QtO,QtW]);refine ZN 5 (fun K1 hK1=>?_);simp only[QQ,QB,QN,OpW,YH,aop,undef,XU,Qul,Qum,X3,Xq,XD,AS.ev,QO,Q9,Xu,Xk,XC,QR,XA,Qz,Qy,Qt,XE,XL,XJ,QtM,Qt5,AV.QsU,QC,Xs,Xe,Q1,Q2,QY,Xi,Xo,QZ,QI,Xz,Xf,Q5,Q6,Q3,Xj,Xr,Q4,QtZ,Qt0,QL,QH,QM,Qw,QV,Qp,Qo,Qk,Xc,QW,QX,QT,Xh,Xn,QU,Qt1,Quo,Qup,Qt2,Qt3,↓reduceIte,QtS,QtT,Nat.reduceAdd,Nat.reduceLT,Nat.reduceLeDiff,Nat.reduceEqDiff,Nat.reduceSub,Nat.reduceMul,QtR,Qt4,Que,Quf,Qud,Ql,Qr,aBin,Q7,aLen,X8,hget,Yh,hset,hlen,happ,QtF,QtG,Quv,Qt9,Qua,QtH,Quk,QtK,Quj,QtL,Qug,QtI,QtU,QtY,Qt7,Qt6,Qt8,QtQ,QtX,QtO,QtW,ZG,Zk,Yx,YN,goInt,Qub,Quc,QtN,Quq,Qui,Int.toNat_zero,Int.toNat_one,Quh,Qut,Quu,Qur,QtJ,Qun,beq_true,beq_false,Nat.reducePow,QuG,QuT,T.QsS,T.QsT,QG,Qs,ti3,zi3,un3,ti4,zi4,un4,ti9,ei9,zi9,un9,ti27,zi27,un27,ti32,ei32,ai32,zi32,un32,ti33,ei33,ai33,zi33,un33,ti34,ti46,X4,X5,X6,zi46,sp46,Qus,Int.sub_zero,YG,QS,t6,t10,u1,u2];refine hK1 _ ?_;clear hK1
    (try simp only[Qug,QtO,QtW]);refine ZN 4 (fun K1 hK1=>?_);simp only[QQ,QB,QN,OpW,YH,aop,undef,XU,Qul,Qum,X3,Xq,XD,AS.ev,QO,Q9,Xu,Xk,XC,QR,XA,Qz,Qy,Qt,XE,XL,XJ,QtM,Qt5,AV.QsU,QC,Xs,Xe,Q1,Q2,QY,Xi,Xo,QZ,QI,Xz,Xf,Q5,Q6,Q3,Xj,Xr,Q4,QtZ,Qt0,QL,QH,QM,Qw,QV,Qp,Qo,Qk,Xc,QW,QX,QT,Xh,Xn,QU,Qt1,Quo,Qup,Qt2,Qt3,↓reduceIte,QtS,QtT,Nat.reduceAdd,Nat.reduceLT,Nat.reduceLeDiff,Nat.reduceEqDiff,Nat.reduceSub,Nat.reduceMul,QtR,Qt4,Que,Quf,Qud,Ql,Qr,aBin,Q7,aLen,X8,hget,Yh,hset,hlen,happ,QtF,QtG,Quv,Qt9,Qua,QtH,Quk,QtK,Quj,QtL,Qug,QtI,QtU,QtY,Qt7,Qt6,Qt8,QtQ,QtX,QtO,QtW,ZG,Zk,Yx,YN,goInt,Qub,Quc,QtN,Quq,Qui,Int.toNat_zero,Int.toNat_one,Quh,Qut,Quu,Qur,QtJ,Qun,beq_true,beq_false,Nat.reducePow,QuG,QuT,T.QsS,T.QsT,QG,Qs,ti3,zi3,un3,ti4,zi4,un4,ti9,ei9,zi9,un9,ti27,zi27,un27,ti32,ei32,ai32,zi32,un32,ti33,ei33,ai33,zi33,un33,ti34,ti46,X4,X5,X6,zi46,sp46,Qus,Int.sub_zero,YG,QS];(repeat (first|((first|(with_reducible (first|refine Qd fun K E hK hE=>?_|refine Qj fun K E hK hE=>?_|refine FunW.QsR ca ?_)));simp only[QQ,QB,QN,OpW,YH,aop,undef,XU,Qul,Qum,X3,Xq,XD,AS.ev,QO,Q9,Xu,Xk,XC,QR,XA,Qz,Qy,Qt,XE,XL,XJ,QtM,Qt5,AV.QsU,QC,Xs,Xe,Q1,Q2,QY,Xi,Xo,QZ,QI,Xz,Xf,Q5,Q6,Q3,Xj,Xr,Q4,QtZ,Qt0,QL,QH,QM,Qw,QV,Qp,Qo,Qk,Xc,QW,QX,QT,Xh,Xn,QU,Qt1,Quo,Qup,Qt2,Qt3,↓reduceIte,QtS,QtT,Nat.reduceAdd,Nat.reduceLT,Nat.reduceLeDiff,Nat.reduceEqDiff,Nat.reduceSub,Nat.reduceMul,QtR,Qt4,Que,Quf,Qud,Ql,Qr,aBin,Q7,aLen,X8,hget,Yh,hset,hlen,happ,QtF,QtG,Quv,Qt9,Qua,QtH,Quk,QtK,Quj,QtL,Qug,QtI,QtU,QtY,Qt7,Qt6,Qt8,QtQ,QtX,QtO,QtW,ZG,Zk,Yx,YN,goInt,Qub,Quc,QtN,Quq,Qui,Int.toNat_zero,Int.toNat_one,Quh,Qut,Quu,Qur,QtJ,Qun,beq_true,beq_false,Nat.reducePow,QuG,QuT,T.QsS,T.QsT,QG,Qs,ti3,zi3,un3,ti4,zi4,un4,ti9,ei9,zi9,un9,ti27,zi27,un27,ti32,ei32,ai32,zi32,un32,ti33,ei33,ai33,zi33,un33,ti34,ti46,X4,X5,X6,zi46,sp46,Qus,Int.sub_zero,YG,QS])|(with_reducible (first|refine Qq fun K hK=>?_|refine Qu ?_|refine Xy ?_|refine Xl ?_|refine Xp ?_|refine QE ?_|refine Xb ?_|refine Qg ?_|refine Xm ?_|refine QK ?_|refine Qn ?_|refine Q8 ?_|refine QJ ?_|refine QP rfl ?_))|(with_reducible (first|refine hK _ ?_|(clear hK;refine hK _ ?_)|(clear hK;clear hK;refine hK _ ?_)|(clear hK;clear hK;clear hK;refine hK _ ?_));clear hK)|(refine Qm rfl ?_;simp only[↓reduceIte,QtJ])|(intro (b:Bool);cases b)));refine hK1 _ ?_;clear hK1
    (try refine hK _ ?_)
    repeat first|with_reducible (first|(first|refine Qd fun K E hK hE=>?_|refine Qj fun K E hK hE=>?_);simp only[QQ,QB,QN,OpW,YH,aop,undef,XU,Qul,Qum,X3,Xq,XD,AS.ev,QO,Q9,Xu,Xk,XC,QR,XA,Qz,Qy,Qt,XE,XL,XJ,QtM,Qt5,AV.QsU,QC,Xs,Xe,Q1,Q2,QY,Xi,Xo,QZ,QI,Xz,Xf,Q5,Q6,Q3,Xj,Xr,Q4,QtZ,Qt0,QL,QH,QM,Qw,QV,Qp,Qo,Qk,Xc,QW,QX,QT,Xh,Xn,QU,Qt1,Quo,Qup,Qt2,Qt3,↓reduceIte,QtS,QtT,Nat.reduceAdd,Nat.reduceLT,Nat.reduceLeDiff,Nat.reduceEqDiff,Nat.reduceSub,Nat.reduceMul,QtR,Qt4,Que,Quf,Qud,Ql,Qr,aBin,Q7,aLen,X8,hget,Yh,hset,hlen,happ,QtF,QtG,Quv,Qt9,Qua,QtH,Quk,QtK,Quj,QtL,Qug,QtI,QtU,QtY,Qt7,Qt6,Qt8,QtQ,QtX,QtO,QtW,ZG,Zk,Yx,YN,goInt,Qub,Quc,QtN,Quq,Qui,Int.toNat_zero,Int.toNat_one,Quh,Qut,Quu,Qur,QtJ,Qun,beq_true,beq_false,Nat.reducePow,QuG,QuT,T.QsS,T.QsT,QG,Qs,ti3,zi3,un3,ti4,zi4,un4,ti9,ei9,zi9,un9,ti27,zi27,un27,ti32,ei32,ai32,zi32,un32,ti33,ei33,ai33,zi33,un33,ti34,ti46,X4,X5,X6,zi46,sp46,Qus,Int.sub_zero,YG,QS]|refine Qq fun K hK=>?_|refine Qu ?_|refine Xy ?_|refine Xl ?_|refine Xp ?_|refine QE ?_|refine Xb ?_|refine Qg ?_|refine Xm ?_|refine QK ?_|refine Qn ?_|refine Q8 ?_|refine QJ ?_|refine QP rfl ?_|refine hK _ ?_;clear hK|clear hK;refine hK _ ?_;clear hK|clear hK;clear hK;refine hK _ ?_;clear hK|clear hK;clear hK;clear hK;refine hK _ ?_;clear hK|refine Qm rfl ?_;simp only[↓reduceIte,QtJ])|intro (b:Bool);cases b
    simp only[QQ,QB,QN,OpW,YH,aop,undef,XU,Qul,Qum,X3,Xq,XD,AS.ev,QO,Q9,Xu,Xk,XC,QR,XA,Qz,Qy,Qt,XE,XL,XJ,QtM,Qt5,AV.QsU,QC,Xs,Xe,Q1,Q2,QY,Xi,Xo,QZ,QI,Xz,Xf,Q5,Q6,Q3,Xj,Xr,Q4,QtZ,Qt0,QL,QH,QM,Qw,QV,Qp,Qo,Qk,Xc,QW,QX,QT,Xh,Xn,QU,Qt1,Quo,Qup,Qt2,Qt3,↓reduceIte,QtS,QtT,Nat.reduceAdd,Nat.reduceLT,Nat.reduceLeDiff,Nat.reduceEqDiff,Nat.reduceSub,Nat.reduceMul,QtR,Qt4,Que,Quf,Qud,Ql,Qr,aBin,Q7,aLen,X8,hget,Yh,hset,hlen,happ,QtF,QtG,Quv,Qt9,Qua,QtH,Quk,QtK,Quj,QtL,Qug,QtI,QtU,QtY,Qt7,Qt6,Qt8,QtQ,QtX,QtO,QtW,ZG,Zk,Yx,YN,goInt,Qub,Quc,QtN,Quq,Qui,Int.toNat_zero,Int.toNat_one,Quh,Qut,Quu,Qur,QtJ,Qun,beq_true,beq_false,Nat.reducePow,QuG,QuT,T.QsS,T.QsT,QG,Qs,ti3,zi3,un3,ti4,zi4,un4,ti9,ei9,zi9,un9,ti27,zi27,un27,ti32,ei32,ai32,zi32,un32,ti33,ei33,ai33,zi33,un33,ti34,ti46,X4,X5,X6,zi46,sp46,Qus,Int.sub_zero,YG,QS,QbZ,Qba,Ql,Qr,Qbm,Zr,Zm,QtP]
    exact .inr ⟨rfl,rfl⟩
   ·repeat first|with_reducible (first|(first|refine Qd fun K E hK hE=>?_|refine Qj fun K E hK hE=>?_|refine FunW.QsR cq ?_);simp only[QQ,QB,QN,OpW,YH,aop,undef,XU,Qul,Qum,X3,Xq,XD,AS.ev,QO,Q9,Xu,Xk,XC,QR,XA,Qz,Qy,Qt,XE,XL,XJ,QtM,Qt5,AV.QsU,QC,Xs,Xe,Q1,Q2,QY,Xi,Xo,QZ,QI,Xz,Xf,Q5,Q6,Q3,Xj,Xr,Q4,QtZ,Qt0,QL,QH,QM,Qw,QV,Qp,Qo,Qk,Xc,QW,QX,QT,Xh,Xn,QU,Qt1,Quo,Qup,Qt2,Qt3,↓reduceIte,QtS,QtT,Nat.reduceAdd,Nat.reduceLT,Nat.reduceLeDiff,Nat.reduceEqDiff,Nat.reduceSub,Nat.reduceMul,QtR,Qt4,Que,Quf,Qud,Ql,Qr,aBin,Q7,aLen,X8,hget,Yh,hset,hlen,happ,QtF,QtG,Quv,Qt9,Qua,QtH,Quk,QtK,Quj,QtL,Qug,QtI,QtU,QtY,Qt7,Qt6,Qt8,QtQ,QtX,QtO,QtW,ZG,Zk,Yx,YN,goInt,Qub,Quc,QtN,Quq,Qui,Int.toNat_zero,Int.toNat_one,Quh,Qut,Quu,Qur,QtJ,Qun,beq_true,beq_false,Nat.reducePow,QuG,QuT,T.QsS,T.QsT,QG,Qs,ti3,zi3,un3,ti4,zi4,un4,ti9,ei9,zi9,un9,ti27,zi27,un27,ti32,ei32,ai32,zi32,un32,ti33,ei33,ai33,zi33,un33,ti34,ti46,X4,X5,X6,zi46,sp46,Qus,Int.sub_zero,YG,QS]|refine Qq fun K hK=>?_|refine Qu ?_|refine Xy ?_|refine Xl ?_|refine Xp ?_|refine QE ?_|refine Xb ?_|refine Qg ?_|refine Xm ?_|refine QK ?_|refine Qn ?_|refine Q8 ?_|refine QJ ?_|refine QP rfl ?_|refine hK _ ?_;clear hK|clear hK;refine hK _ ?_;clear hK|clear hK;clear hK;refine hK _ ?_;clear hK|clear hK;clear hK;clear hK;refine hK _ ?_;clear hK|refine Qm rfl ?_;simp only[↓reduceIte,QtJ])|intro (b:Bool);cases b
    (try refine hK _ ?_)
    exact⟨rfl,rfl,rfl,rfl,rfl,rfl,rfl,rfl,rfl⟩
end
end Go.Proofs.YticgcpebdldbgaaGreatDoor.Ab
namespace Go.Proofs.YticgcpebdldbgaaGreatDoor.Ab
open Go.Proofs
section
variable(l:List UInt8)(hmx:l.length<=9223372036854775807)(h:AH)(hG:QaN h)
include hmx hG
end
end Go.Proofs.YticgcpebdldbgaaGreatDoor.Ab
namespace Go.Proofs.YticgcpebdldbgaaGreatDoor.Ab
theorem Qhh{H:Type}{enc:TypeId×Value->H}{P:Program}{w:World}{base:Nat}{sp:Nat->Bool}{held:Bool}{fuel:Nat}{t e:TypeId}{n:Nat}{cs:List Value}{zs:List (List UInt8)}{p:List MemPlace}
  (ht:P.underlying t=some (.array n e)) (he:P.underlying e=some .string) (hce:P.cellsOf e=1) (hct:P.cellsOf t=n)
  (h:DataW.trod enc P w base sp held fuel t cs=some (.agg (zs.map fun z=>.lit (.string z)),p)):cs=zs.map fun z=>Value.string ⟨z.toArray⟩:=by
 cases fuel with
 |zero=>simp[DataW.trod]at h
 |succ fuel =>
  simp only[DataW.trod,ht,hce,hct,Qww]at h
  split at h
  ·rename_i hl
   obtain⟨xs,hm,hx⟩:=QuJ.1 h
   have hxs:xs.map (·.1)=zs.map fun z=>(DataW.lit (.string z):DataW H):=by
    have:=Qvq Prod.fst hx
    simpa using this
   have hxl:xs.length=n:=by simpa using Lib.mapM_length hm
   have hzl:zs.length=n:=by
    have:=Qvq List.length hxs
    simp at this
    omega
   apply Qvs
   intro i
   by_cases hi:i<n
   ·obtain⟨b,hb,hf⟩:=Lib.mapM_at hm i i (by simp[hi])
    obtain⟨s,hc,rfl,_⟩:=DataW.trod_string he hf
    have h1:cs[i]? = some (.string s):=by
     have:=Qvq (·[0]?) hc
     simpa [Qv9,Qu7]using this
    have h2:(xs.map (·.1))[i]? = some (DataW.lit (.string s.data.toList):DataW H):=by simp[hb]
    rw[hxs]at h2
    simp only[Qu2,QuJ,DataW.lit.injEq,Lit.string.injEq]at h2
    obtain⟨z',hz',hz2⟩:=h2
    have:s=⟨z'.toArray⟩:=by rw[hz2]
    simp[h1,hz',this]
   ·rw[Qvf (by omega),Qvf (by simp;omega)]
  ·cases h
theorem QmZ{P:Program}{W:World}{nm:String}{zs:List (List UInt8)}{g:Nat}{t e:TypeId}{n:Nat}
  (hg:P.globalNamed nm=some g) (hty:(P.globals[g]?).map (·.type)=some t) (ht:P.underlying t=some (.array n e)) (he:P.underlying e=some .string) (hce:P.cellsOf e=1) (hct:P.cellsOf t=n)
  (h:laidMet P [(nm,.agg (zs.map fun z=>.lit (.string z)))] W):∃ty fr,W.heap[g]? = some (.cells (zs.map fun z=>Value.string ⟨z.toArray⟩).toArray ty fr):=by
 obtain⟨ps,⟨g',t',cs,fuel,p,q,hg',ht',hvar,hd,_,_⟩,_⟩:=h
 obtain rfl:=Qwb (hg.symm.trans hg')
 obtain rfl:=Qwb (hty.symm.trans ht')
 have:=Qhh ht he hce hct hd
 refine Qn5 hg (cs:=(zs.map fun z=>Value.string ⟨z.toArray⟩).toArray) ?_
 rw[hvar,<-this]
open Go.Proofs
theorem open_string{H:Type}{enc:TypeId×Value->H}{P:Program}{W:World}{r:Reach}{b0:Nat}{t:TypeId}{v:Value}{d:DataW H}{ps:List MemPlace}(ht:P.underlying t=some .string)(hv:Value.okWide P W r b0 t v)(hd:DataW.Trod enc P W 0 (fun _=>true) true t v d ps):∃s:ByteArray,v = .string s/\s.size<=maxLen:=by
 obtain⟨fuel,hf⟩:=hd
 have hc:v.cells.toList=[v]:=by
  cases v with
  |agg cs=>simp[Value.okWide,ht,Cell.okWide,Cell.ok]at hv
  |_=>rfl
 rw[hc]at hf
 obtain⟨s,h1,_,h2⟩:=DataW.trod_string ht hf
 cases h1
 exact⟨s,rfl,h2⟩
theorem Qpl{s:ByteArray}(hs:s.size<=maxLen):s.data.toList.length<=9223372036854775807:=by
 have:s.size=s.data.toList.length:=by show s.data.size=_;simp
 simp only[maxLen]at hs
 omega
theorem Qrc(s:ByteArray)(hs:s.size<=maxLen)(h:AH)(hG:QaN h):QA Tryz.prog 4 [.v (.string s)] h fun o h'=>o = .ret (.b true)/\h'=h:=by
 have:=Qr4 s.data.toList (Qpl hs) h hG
 rwa [Qhv]at this
end Go.Proofs.YticgcpebdldbgaaGreatDoor.Ab

