/-
  An abstract program logic, contracts of functions, and laws of terms and rules (part 3).
-/
import Derived.Test.YtenheconhibonaaGreatDoorAbTwo
import Derived.RecoverIn
set_option linter.unusedVariables false
set_option linter.unusedSimpArgs false
set_option maxHeartbeats 4000000
set_option maxRecDepth 4000
namespace Go.Proofs.YtenheconhibonaaGreatDoor.Ab
open Go.Proofs
def BTy(ty:TypeId):Prop:=ty=74\/ty=138
theorem QrT(xo:Operand):pv Tryz.prog (do eqGuard .eql 71 xo (.const (.pointer none)) (.pointer none) (.pointer none);binOp .eql 71 (.pointer none) (.pointer none))=some (.bool true):=by
 kernel_rfl
theorem BTy.cells{ty:TypeId}(h:BTy ty):Tryz.prog.cellsOf ty=2:=by rcases h with rfl|rfl <;> kernel_rfl
theorem BTy.lies{ty:TypeId}(h:BTy ty):liesAt Tryz.prog Tryz.prog.depth ty 1 0 74 1=true:=by rcases h with rfl|rfl <;> kernel_rfl
theorem unB:Tryz.prog.underlying 71=some (.pointer 74):=by kernel_rfl
theorem unU:Tryz.prog.underlying 169=some .unsafePointer:=by kernel_rfl
theorem inB:∃j,Tryz.prog.info? 74=some j/\j.size≠0:=by
 have h:(match Tryz.prog.info? 74 with|some j=>decide (j.size≠0)|none=>false)=true:=by kernel_rfl
 cases hj:Tryz.prog.info? 74 with
 |none=>rw[hj]at h;cases h
 |some j=>rw[hj]at h;exact⟨j,rfl,Qyy h⟩
theorem isB:(Tryz.prog.info? 74).isSome=true:=by kernel_rfl
theorem toU{ty:TypeId}(hty:BTy ty){h:AH}{i:Nat}{xs:List AV}(hb:h[i]? = some (.cells ty 2 [.agg xs])):Qbk Tryz.prog 71 169 i 0 0 h=some (.ptr i 0 0):=by
 obtain⟨j,hj,h0⟩:=inB
 simp only[Qbk,hb,unB,unU,hj]
 rw[QwJ (by simp),QwN h0]
theorem QtY{ty:TypeId}(hty:BTy ty){h:AH}{i:Nat}{xs:List AV}(hb:h[i]? = some (.cells ty 2 [.agg xs])):Qbk Tryz.prog 169 71 i 0 0 h=some (.ptr i 0 0):=by
 obtain⟨j,hj,h0⟩:=inB
 simp only[Qbk,hb,unB,unU,hj]
 rw[QwJ (by simp),QwN ⟨rfl,hty.cells,hty.lies⟩]
theorem QbN{ty:TypeId}(hty:BTy ty){i j:Nat}(hij:i≠j)(u:Bool)(tx:ByteArray):Wr Tryz.prog 5 ty 81 [.ptr i 0 0] i j u tx (.tup []) true tx:=by
 intro h hi hj
 have f1:=fun x y=>Zr h i x j y
 have f2:=fun x y=>ZN (h:=h) hi hij x y
 have f3:=fun x y z=>QeQ (h:=h) (i:=i) (j:=j) hij x y z
 have f4:=QrT
 have c0:=fun y h=>QnX (P:=Tryz.prog) (y:=y) (h:=h) Tryz.func121 (by kernel_rfl) (by kernel_rfl) (by kernel_rfl) (by kernel_rfl)
 cases u
 ·refine Qb Tryz.func81 rfl Tryz.call81 Tryz.ntmps81 Tryz.results81 (by simp) ?_
  rw[bw0,bw1]
  with_reducible repeat first|(first|refine Qa fun K E hK hE=>?_|refine Ql fun K E hK hE=>?_|refine FunW.ret (c0 _ _) ?_);simp only[Qh,Qe,Qk,OpW,Q7,aop,undef,AS.ev,Qg,QX,Yq,Qr,QG,QvW,AV.QuX,Qo,XH,QD,Ze,Qv9,Qwa,XG,Qwb,↓reduceIte,Qv2,Qv3,Nat.reduceAdd,Nat.reduceLT,Nat.reduceLeDiff,Nat.reduceEqDiff,Qv1,Qwe,Qwo,Qwn,Qm,QQ,QR,Xf,QY,aBin,QvP,Qwj,QvR,Qv4,Qv8,Qwh,Qwg,Qv7,QvY,Qv6,QvT,ti71,Qlm,Q2,f2,f3,f4,toU hty (ZN (h:=h) hi hij _ _),QtY hty (ZN (h:=h) hi hij _ _)]|refine hK _ ?_;clear hK|refine Qi rfl ?_;simp only[↓reduceIte]
  simp only[QvR,QvV,List.mapM_nil,Option.pure_def,QvR,QS,Qq,QvZ]
  exact .inr ⟨rfl,rfl⟩
 ·refine Qb Tryz.func81 rfl Tryz.call81 Tryz.ntmps81 Tryz.results81 (by simp) ?_
  rw[bw1]
  with_reducible repeat first|refine Qa fun K E hK hE=>?_;simp only[Qh,Qe,Qk,OpW,aop,undef,AS.ev,Qg,Yq,Qr,QG,QvW,Qo,↓reduceIte,Nat.reduceLT,Nat.reduceEqDiff,Qwe,Qwn,Qm,QQ,QR,aBin,QvP,QvR,ti71,un71,Qlm,Q2,f2,isB,Qfd,notNil]|refine Qw ?_|refine hK _ ?_;clear hK|refine Qi rfl ?_;simp only[↓reduceIte,QvT]
  simp only[QvR,QvV,List.mapM_nil,Option.pure_def,QvR,QS,Qq,QvZ]
  exact .inr ⟨rfl,rfl⟩
theorem Qsk:Tryz.prog.underlying 72=some (.slice 5):=by kernel_rfl
theorem Qsl:Tryz.prog.underlying 9=some .string:=by kernel_rfl
theorem inU8:∃i z,Tryz.prog.info? 5=some i/\i.zero=some z/\i.size=1/\i.bytes=1/\z.cells.size=1:=by
 have h:(match Tryz.prog.info? 5 with|some i=>(match i.zero with|some z=>decide (i.size=1/\i.bytes=1/\z.cells.size=1)|none=>false)|none=>false)=true:=by kernel_rfl
 cases hj:Tryz.prog.info? 5 with
 |none=>rw[hj]at h;cases h
 |some i =>
  cases hz:i.zero with
  |none=>rw[hj]at h;simp[hz]at h
  |some z=>rw[hj]at h;simp only[hz]at h;exact⟨i,z,rfl,hz,Qyy h⟩
theorem appS{tx s:ByteArray}{j:Nat}{h:AH}(hj:h[j]? = some (.grow 5 1 tx.size))(hs:tx.size+s.size<=140737488355328) :
  Qcw Tryz.prog 72 9 (.sl 1 (Xs tx) (some j)) s h=some (.sl 1 (Xs (tx++s)) (some j),h.set j (.grow 5 1 (tx++s).size)):=by
 obtain⟨i,z,h1,h2,h3,h4,h5⟩:=inU8
 exact Qj0 Qsk Qsl h1 h2 h3 h4 h5 hj hs
theorem appN:appInfo Tryz.prog 72 9=none:=by kernel_rfl
theorem Qcu{ty:TypeId}(hty:BTy ty){i j:Nat}(hij:i≠j)(u:Bool)(tx s:ByteArray)(hs:tx.size+s.size<=140737488355328):Wr Tryz.prog 5 ty 35 [.ptr i 0 0,.v (.string s)] i j u tx (.tup [.i s.size,.v .nilIface]) true (tx++s):=by
 intro h hi hj
 have f1:=fun x y=>Zr h i x j y
 have f2:=fun x y=>ZN (h:=h) hi hij x y
 have f3:=fun x y z=>QeQ (h:=h) (i:=i) (j:=j) hij x y z
 have f5:=fun x y z=>QeR (h:=h) (i:=i) (j:=j) x y z
 have f6:=fun x=>appS (QcD (h:=h) (i:=i) hj x (.grow 5 1 tx.size)) hs
 have c1:=QbN hty hij u tx h hi hj
 have hsl:=ZU Tryz.prog 9 3 Qsl s
 refine Qb Tryz.func35 rfl Tryz.call35 Tryz.ntmps35 Tryz.results35 (by simp) ?_
 with_reducible repeat first|(first|refine Qa fun K E hK hE=>?_|refine FunW.QuW c1 ?_);simp only[Qh,Qe,Qk,OpW,Q7,aop,undef,AS.ev,Qg,QX,Qu,X9,Qr,QG,QvW,Qwf,AV.QuX,Qo,XV,QD,Yn,Qv9,Qwa,QP,Qwb,↓reduceIte,Qv2,Qv3,Nat.reduceAdd,Nat.reduceLT,Nat.reduceLeDiff,Nat.reduceEqDiff,Qv1,Qwn,Qm,QQ,QR,Xf,QY,aLen,Y4,QvP,QvQ,Qwj,QvR,Qv4,Qv8,Qwh,Qwg,Qwi,Qv0,Qv7,QvY,Qv6,goInt,QvT,ti72,QiU,Q2,f2,f3,f5,f6,bw1,aopR,appN,hsl]|refine Qp ?_|refine hK _ ?_;clear hK
 simp only[Qr,↓reduceIte,Nat.reduceEqDiff,QvR,QvU,QvV,List.mapM_nil,Qx3,Option.pure_def,QvR,Option.bind_eq_bind,QS,Qq,Qz,QvZ]
 exact .inr ⟨rfl,rfl⟩
theorem Qip{ty:TypeId}(hty:BTy ty){i j:Nat}(hij:i≠j)(u:Bool)(tx:ByteArray)(b:UInt8)(hs:tx.size<140737488355328):Wr Tryz.prog 5 ty 149 [.ptr i 0 0,.v (.int .u8 (b.toNat:Nat))] i j u tx (.v .nilIface) true (tx++{data:=#[b]}):=by
 intro h hi hj
 have f1:=fun x y=>Zr h i x j y
 have f2:=fun x y=>ZN (h:=h) hi hij x y
 have f3:=fun x y z=>QeQ (h:=h) (i:=i) (j:=j) hij x y z
 have f5:=fun x y z=>QeR (h:=h) (i:=i) (j:=j) x y z
 have f7:=fun x y=>QcD (h:=h) (i:=i) hj x y
 have c1:=QbN hty hij u tx h hi hj
 have e1:Xs (tx++{data:=#[b]})=Xs tx++[.v (.int .u8 (b.toNat:Nat))]:=Qbl tx _
 have e2:(tx++({data:=#[b]}:ByteArray)).size=tx.size+1:=Qs _ _
 have hs':tx.size+1<=140737488355328:=hs
 refine Qb Tryz.func149 rfl Tryz.call149 Tryz.ntmps149 Tryz.results149 (by simp) ?_
 rw[bw1,e1,e2]
 have hm:tx.size+1<=maxLen:=by simp only[maxLen];omega
 with_reducible repeat first|(first|refine Qa fun K E hK hE=>?_|refine FunW.QuW c1 ?_);simp only[Qh,Qe,Qk,OpW,Q7,aop,undef,AS.ev,Qg,QX,X9,Qr,QG,QvW,Qwf,AV.QuX,Qo,Q6,XV,QD,Yn,Qv9,Qwa,QE,QP,Qwb,↓reduceIte,Qv2,Qv3,Nat.reduceAdd,Nat.reduceLT,Nat.reduceLeDiff,Nat.reduceEqDiff,Qv1,Qwn,Qm,QQ,QR,Xf,QY,QW,Y4,Zj,QvP,QvQ,Qwj,QvR,Qv4,Qv8,Qwh,Qwg,Qwi,Qv0,Qv7,QvY,Qv6,QvX,QvT,rng1,Xg,Nat.reducePow,zi5,ti72,ei72,ai72,QiU,Q2,f2,f3,f5,f7,bw1,Yv,hm,hs',Qyx]|refine Qp ?_|refine hK _ ?_;clear hK
 simp only[Qr,↓reduceIte,QvV,QS,Qq,Qz,QvZ]
 exact .inr ⟨rfl,rfl⟩
theorem unPB:Tryz.prog.underlying 140=some (.pointer 5):=by kernel_rfl
theorem szB:Tryz.prog.cellsOf 5=1:=by kernel_rfl
theorem QcP{ty:TypeId}{i j:Nat}(hij:i≠j)(tx:ByteArray)(h0:0<tx.size)(hs:tx.size<=140737488355328):Chg2 Tryz.prog 41 [.ptr i 0 0] i (bw ty i j true tx) j (.grow 5 1 tx.size) (.v (.string tx)) (bw ty i j true tx) .gone:=by
 intro h hi hj
 have f1:=fun x y=>Zr h i x j y
 have f2:=fun x y=>ZN (h:=h) hi hij x y
 have f5:=fun x y z=>QeR (h:=h) (i:=i) (j:=j) x y z
 have f7:=fun x y=>QcD (h:=h) (i:=i) hj x y
 have hs':tx.size<=9223372036854775807:=by omega
 have g1:=QeG h0 j
 have g2:=fun x=>QeH (P:=Tryz.prog) unPB szB (T:=tx) (f7 x (.grow 5 1 tx.size)) h0 hs'
 refine Qb Tryz.func41 rfl Tryz.call41 Tryz.ntmps41 Tryz.results41 (by simp) ?_
 rw[bw1]
 repeat first|(first|with_reducible refine Qa fun K E hK hE=>?_|refine QH (id:=1) [(0,0),(1,0),(2,0),(3,0),(4,0),(5,0),(6,0),(7,0),(8,0),(9,0),(10,2),(11,0)] mixed (by kernel_rfl) fun K hK=>?_);simp only[XQ,Xz,Yo,Qh,Qe,Qk,OpW,Q7,aop,undef,Qa4,Qwv,Qww,QcX,Qar,Qbm,AS.ev,Qg,QX,Qu,QC,QI,XM,Qan,Yq,YK,X9,Qbp,Qr,QG,QvW,Qwf,AV.QuX,Qo,Q6,XV,ZA,XH,Zy,ZM,Qaq,Zz,QD,Xx,Yn,ZG,Ze,ZE,ZO,Qat,ZF,Qv9,Qwa,QE,Y0,QA,QM,Zw,Xi,Yj,X4,QP,Zx,XG,Zu,ZL,Qap,Zv,Qwb,Qwy,Qwz,Qwc,Qwd,↓reduceIte,Qv2,Qv3,Nat.reduceAdd,Nat.reduceLT,Nat.reduceLeDiff,Nat.reduceEqDiff,Nat.reduceSub,Nat.reduceMul,Qv1,Qwe,Qwo,Qwp,Qwn,Yr,Yu,Qm,QQ,QR,aBin,aLen,Q8,hget,Yd,hset,hlen,happ,QvP,QvQ,QwF,Qwj,Qwk,QvR,Qwu,QvU,Qwt,QvV,Qwq,QvS,Qv4,Qv8,Qwh,Qwg,Qwi,Qv0,Qv7,QvY,Qv6,goInt,Qwl,Qwm,QvX,QwA,Qws,Int.toNat_zero,Int.toNat_one,Qwr,QwD,QwE,QwB,QvT,Qwx,beq_true,beq_false,rng0,rng1,rng2,rng3,rng4,rng5,rng6,rng7,rng8,Xg,Nat.reducePow,Qw3,QxW,T.QuV,T.QuY,QK,Xn,ti0,zi0,ti3,zi3,un3,ti5,zi5,un5,ti9,ei9,zi9,un9,ti71,zi71,un71,ti72,ei72,ai72,zi72,un72,ti74,Qlm,QiU,zi74,sp74,Qtm,Qtw,Qtr,QwC,Int.sub_zero,QcS,Q2,f1,f2,f5,f7,g1,g2,Yv]|with_reducible (first|refine Qp ?_|refine hK _ ?_;clear hK)
 simp only[QS,Qq,Qz,upd,↓reduceIte,QvV,QvZ]
 exact .inr ⟨rfl,rfl⟩
theorem QsP:pv Tryz.prog (Builtin.len_ #[72] 3 #[.slice none 0 0])=some (.int .i64 0):=by kernel_rfl
def bw00(ty:TypeId):AB:=.cells ty 2 [.agg [.v (.pointer none),.v (.slice none 0 0)]]
theorem QbX{ty:TypeId}{i:Nat}:Chg Tryz.prog 41 [.ptr i 0 0] i (bw00 ty) (.v (.string .empty)) (bw00 ty):=by
 intro h hi
 have f2:=fun x=>QqX (h:=h) hi x
 refine Qb Tryz.func41 rfl Tryz.call41 Tryz.ntmps41 Tryz.results41 (by simp) ?_
 rw[bw00]
 repeat first|(first|with_reducible refine Qa fun K E hK hE=>?_|refine QH (id:=1) [(0,0),(1,0),(2,0),(3,0),(4,0),(5,0),(6,0),(7,0),(8,0),(9,0),(10,2),(11,0)] mixed (by kernel_rfl) fun K hK=>?_);simp only[XQ,Xz,Yo,Qh,Qe,Qk,OpW,Q7,aop,undef,Qa4,Qwv,Qww,QcX,Qar,Qbm,AS.ev,Qg,QX,Qu,QC,QI,XM,Qan,Yq,YK,X9,Qbp,Qr,QG,QvW,Qwf,AV.QuX,Qo,Q6,XV,ZA,XH,Zy,ZM,Qaq,Zz,QD,Xx,Yn,ZG,Ze,ZE,ZO,Qat,ZF,Qv9,Qwa,QE,Y0,QA,QM,Zw,Xi,Yj,X4,QP,Zx,XG,Zu,ZL,Qap,Zv,Qwb,Qwy,Qwz,Qwc,Qwd,↓reduceIte,Qv2,Qv3,Nat.reduceAdd,Nat.reduceLT,Nat.reduceLeDiff,Nat.reduceEqDiff,Nat.reduceSub,Nat.reduceMul,Qv1,Qwe,Qwo,Qwp,Qwn,Yr,Yu,Qm,QQ,QR,aBin,aLen,Q8,hget,Yd,hset,hlen,happ,QvP,QvQ,QwF,Qwj,Qwk,QvR,Qwu,QvU,Qwt,QvV,Qwq,QvS,Qv4,Qv8,Qwh,Qwg,Qwi,Qv0,Qv7,QvY,Qv6,goInt,Qwl,Qwm,QvX,QwA,Qws,Int.toNat_zero,Int.toNat_one,Qwr,QwD,QwE,QwB,QvT,Qwx,beq_true,beq_false,rng0,rng1,rng2,rng3,rng4,rng5,rng6,rng7,rng8,Xg,Nat.reducePow,Qw3,QxW,T.QuV,T.QuY,QK,Xn,ti0,zi0,ti3,zi3,un3,ti5,zi5,un5,ti9,ei9,zi9,un9,ti71,zi71,un71,ti72,ei72,ai72,zi72,un72,ti74,Qlm,QiU,zi74,sp74,Qtm,Qtw,Qtr,QwC,Int.sub_zero,QcS,Q2,f2,Qbu,Zl,QsP]|with_reducible (first|refine Qp ?_|refine hK _ ?_;clear hK)
 simp only[QS,Qq,Qz,upd,↓reduceIte,QvV,QvZ]
 exact .inr ⟨rfl,rfl⟩
abbrev mi:ByteArray:={data:=#[45]}
def decZ(n:Int):ByteArray:=if n<0 then mi++decN n.natAbs else decN n.toNat
theorem QnO(n:Int):(⟨(Lib.itoa n).toArray⟩:ByteArray)=decZ n:=by
 unfold decZ Lib.itoa
 split
 ·apply ByteArray.ext;rfl
 ·rfl
theorem Qfw(n:Int)(h1 : -9223372036854775808<=n)(h2:n<=9223372036854775807):(decZ n).size<=20:=by
 unfold decZ
 split
 ·rw[Qs]
  have:=Qfu (n:=n.natAbs) (by omega)
  have:mi.size=1:=rfl
  omega
 ·have:=Qfu (n:=n.toNat) (by omega)
  omega
theorem QpS(n:Int):0<(decZ n).size:=by
 unfold decZ
 split
 ·rw[Qs]
  have:mi.size=1:=rfl
  omega
 ·exact QpR _
theorem Qg2(n:Int)(h0 : -9223372036854775808<=n)(hn:n<=9223372036854775807)(h:AH)(hG:XE h):QT Tryz.prog 58 [.i n] h fun o h'=>o = .ret (.v (.string (decZ n)))/\h'=h :=
 Qfm (vs:=[.int .i64 n]) Tryz.call58 fun c hst hh=>by
  have hv:c.w.var? Tryz.prog "internal/strconv.uint64pow10" = some tabC:=HasG.var hst (hh▸hG) (by kernel_rfl)
  refine(Tryz.strconv_Itoa n h0 hn c.w hv).mono ?_
  rintro e w' ⟨rfl,k,os,rfl⟩
  refine⟨_,rfl,?_,fun c'=>by rw[<-QnO];exact .v _⟩
  exact Qdl c.w k os
def ofB(s:ByteArray):Int:=if (s.toList==({data:=#[43]}:ByteArray).toList)||(s.toList==({data:=#[45]}:ByteArray).toList)then 1 else if (s.toList==({data:=#[42]}:ByteArray).toList)||(s.toList==({data:=#[47]}:ByteArray).toList)||(s.toList==({data:=#[37]}:ByteArray).toList)then 2 else 0
def T.oper(t:T):Int:=if t.kind≠2\/t.args.length≠2 then 0 else ofB t.name
theorem Qm4(s:ByteArray):Pure Tryz.prog 150 [.v (.string s)] (.i (ofB s)):=by
 intro h
 cases b1:s.toList==({data:=#[43]}:ByteArray).toList
 ·cases b2:s.toList==({data:=#[45]}:ByteArray).toList
  ·cases b3:s.toList==({data:=#[42]}:ByteArray).toList
   ·cases b4:s.toList==({data:=#[47]}:ByteArray).toList
    ·cases b5:s.toList==({data:=#[37]}:ByteArray).toList
     ·have e:ofB s=0:=by rw[ofB,b1,b2,b3,b4,b5];rfl
      refine Qb Tryz.func150 rfl Tryz.call150 Tryz.ntmps150 Tryz.results150 (by simp) ?_
      with_reducible repeat first|(first|refine Qa fun K E hK hE=>?_|refine Ql fun K E hK hE=>?_);simp only[Qh,Qe,Qk,OpW,aop,undef,AS.ev,Qg,Qu,QI,Qr,QG,QvW,↓reduceIte,Nat.reduceLT,Nat.reduceEqDiff,aBin,QvR,Xv,b1,b2,b3,b4,b5]|refine Qf fun K hK=>?_|refine Qj ?_|refine Qp ?_|refine Qw ?_|refine Qd ?_|refine Qt ?_|refine hK _ ?_;clear hK|refine Qi rfl ?_;simp only[↓reduceIte,QvT]
      simp only[QS,Qq,Qz,upd,↓reduceIte,QvV,QvZ];first|refine Qc (htake _ _) (.keep (.v _)) ⟨by rw[e],rfl⟩|refine Qc QwH (.keep (.v _)) ⟨by rw[e],rfl⟩
     ·have e:ofB s=2:=by rw[ofB,b1,b2,b3,b4,b5];rfl
      refine Qb Tryz.func150 rfl Tryz.call150 Tryz.ntmps150 Tryz.results150 (by simp) ?_
      with_reducible repeat first|(first|refine Qa fun K E hK hE=>?_|refine Ql fun K E hK hE=>?_);simp only[Qh,Qe,Qk,OpW,aop,undef,AS.ev,Qg,Qu,QI,Qr,QG,QvW,↓reduceIte,Nat.reduceLT,Nat.reduceEqDiff,aBin,QvR,Xv,b1,b2,b3,b4,b5]|refine Qf fun K hK=>?_|refine Qj ?_|refine Qp ?_|refine Qd ?_|refine QB ?_|refine QF ?_|refine hK _ ?_;clear hK|refine Qi rfl ?_;simp only[↓reduceIte,QvT]
      simp only[QS,Qq,Qz,upd,↓reduceIte,QvV,QvZ];first|refine Qc (htake _ _) (.keep (.v _)) ⟨by rw[e],rfl⟩|refine Qc QwH (.keep (.v _)) ⟨by rw[e],rfl⟩
    ·have e:ofB s=2:=by rw[ofB,b1,b2,b3,b4];rfl
     refine Qb Tryz.func150 rfl Tryz.call150 Tryz.ntmps150 Tryz.results150 (by simp) ?_
     with_reducible repeat first|(first|refine Qa fun K E hK hE=>?_|refine Ql fun K E hK hE=>?_);simp only[Qh,Qe,Qk,OpW,aop,undef,AS.ev,Qg,Qu,QI,Qr,QG,QvW,↓reduceIte,Nat.reduceLT,Nat.reduceEqDiff,aBin,QvR,Xv,b1,b2,b3,b4]|refine Qf fun K hK=>?_|refine Qj ?_|refine Qp ?_|refine Qw ?_|refine Qd ?_|refine QB ?_|refine QF ?_|refine hK _ ?_;clear hK|refine Qi rfl ?_;simp only[↓reduceIte,QvT]
     simp only[QS,Qq,Qz,upd,↓reduceIte,QvV,QvZ];first|refine Qc (htake _ _) (.keep (.v _)) ⟨by rw[e],rfl⟩|refine Qc QwH (.keep (.v _)) ⟨by rw[e],rfl⟩
   ·have e:ofB s=2:=by rw[ofB,b1,b2,b3];rfl
    refine Qb Tryz.func150 rfl Tryz.call150 Tryz.ntmps150 Tryz.results150 (by simp) ?_
    with_reducible repeat first|(first|refine Qa fun K E hK hE=>?_|refine Ql fun K E hK hE=>?_);simp only[Qh,Qe,Qk,OpW,aop,undef,AS.ev,Qg,Qu,QI,Qr,QG,QvW,↓reduceIte,Nat.reduceLT,Nat.reduceEqDiff,aBin,QvR,Xv,b1,b2,b3]|refine Qf fun K hK=>?_|refine Qj ?_|refine Qp ?_|refine Qw ?_|refine Qd ?_|refine QB ?_|refine QF ?_|refine hK _ ?_;clear hK|refine Qi rfl ?_;simp only[↓reduceIte,QvT]
    simp only[QS,Qq,Qz,upd,↓reduceIte,QvV,QvZ];first|refine Qc (htake _ _) (.keep (.v _)) ⟨by rw[e],rfl⟩|refine Qc QwH (.keep (.v _)) ⟨by rw[e],rfl⟩
  ·have e:ofB s=1:=by rw[ofB,b1,b2];rfl
   refine Qb Tryz.func150 rfl Tryz.call150 Tryz.ntmps150 Tryz.results150 (by simp) ?_
   with_reducible repeat first|(first|refine Qa fun K E hK hE=>?_|refine Ql fun K E hK hE=>?_);simp only[Qh,Qe,Qk,OpW,aop,undef,AS.ev,Qg,Qu,QI,Qr,QG,QvW,↓reduceIte,Nat.reduceLT,Nat.reduceEqDiff,aBin,QvR,Xv,b1,b2]|refine Qf fun K hK=>?_|refine Qj ?_|refine Qp ?_|refine Qd ?_|refine QB ?_|refine QF ?_|refine hK _ ?_;clear hK|refine Qi rfl ?_;simp only[↓reduceIte,QvT]
   simp only[QS,Qq,Qz,upd,↓reduceIte,QvV,QvZ];first|refine Qc (htake _ _) (.keep (.v _)) ⟨by rw[e],rfl⟩|refine Qc QwH (.keep (.v _)) ⟨by rw[e],rfl⟩
 ·have e:ofB s=1:=by rw[ofB,b1];rfl
  refine Qb Tryz.func150 rfl Tryz.call150 Tryz.ntmps150 Tryz.results150 (by simp) ?_
  with_reducible repeat first|refine Qa fun K E hK hE=>?_;simp only[Qh,Qe,Qk,OpW,aop,undef,AS.ev,Qg,Qu,QI,Qr,QG,QvW,↓reduceIte,Nat.reduceLT,Nat.reduceEqDiff,aBin,QvR,Xv,b1]|refine Qf fun K hK=>?_|refine Qj ?_|refine Qp ?_|refine Qw ?_|refine Qd ?_|refine QB ?_|refine QF ?_|refine hK _ ?_;clear hK|refine Qi rfl ?_;simp only[↓reduceIte]
  simp only[QS,Qq,Qz,upd,↓reduceIte,QvV,QvZ];first|refine Qc (htake _ _) (.keep (.v _)) ⟨by rw[e],rfl⟩|refine Qc QwH (.keep (.v _)) ⟨by rw[e],rfl⟩
theorem QcH(t:T)(hl:t.args.length<=maxLen):Pure Tryz.prog 124 [t.av] (.i t.oper):=by
 intro h
 have c1:=Qm4 t.name
 have e1:t.av = .agg [.i t.kind,.i t.int,.v (.string t.name),.sl 4 (avs t.args) none]:=by cases t;rfl
 have m1:((t.args.length:Int)==2)=decide (t.args.length=2):=by
  rw[Bool.eq_iff_iff];simp;omega
 by_cases hk:t.kind=2
 ·by_cases hn:t.args.length=2
  ·have e:t.oper=ofB t.name:=by rw[T.oper,QwJ];omega
   have m2:((t.args.length:Int) != 2)=false:=by simp;omega
   refine Qb Tryz.func124 rfl Tryz.call124 Tryz.ntmps124 Tryz.results124 (by simp) ?_
   rw[e1]
   with_reducible repeat first|(first|refine Qa fun K E hK hE=>?_|refine Qy c1 ?_);simp only[Qh,Qe,Qk,OpW,Q7,aop,undef,AS.ev,Qg,Qu,Qr,QG,QvW,AV.QuX,Qo,Qv9,Qwa,QE,QA,QP,Qwb,↓reduceIte,Qv2,Qv3,Nat.reduceAdd,Nat.reduceLT,Nat.reduceEqDiff,Qv1,Qwe,Qm,QQ,QR,aBin,aLen,Q8,QvP,QvQ,QvR,QvU,QvS,Qv4,Qv8,YH,goInt,QvX,QwA,QvT,QK,ti3,ti9,ti44,un44,XR,Yx,Yh,hk,m2,QK]|refine Qf fun K hK=>?_|refine Qp ?_|refine Qw ?_|refine Qd ?_|refine hK _ ?_;clear hK|refine Qi rfl ?_;simp only[↓reduceIte,QvT]
   simp only[QS,Qq,Qz,upd,↓reduceIte,QvV,QvZ];first|refine Qc (htake _ _) (.keep (.v _)) ⟨by rw[e],rfl⟩|refine Qc QwH (.keep (.v _)) ⟨by rw[e],rfl⟩
  ·have e:t.oper=0:=by rw[T.oper,QwN (.inr hn)]
   have m2:((t.args.length:Int) != 2)=true:=by simp;omega
   refine Qb Tryz.func124 rfl Tryz.call124 Tryz.ntmps124 Tryz.results124 (by simp) ?_
   rw[e1]
   with_reducible repeat first|refine Qa fun K E hK hE=>?_;simp only[Qh,Qe,Qk,OpW,aop,undef,AS.ev,Qg,Qu,Qr,QG,QvW,AV.QuX,Qo,Qv9,Qwa,QE,QA,QP,Qwb,↓reduceIte,Qv2,Qv3,Nat.reduceAdd,Nat.reduceLT,Nat.reduceEqDiff,Qv1,Qwe,Qm,QQ,QR,aBin,aLen,Q8,QvP,QvQ,QvR,QvU,QvS,YH,goInt,QvX,QwA,QvT,QK,ti3,ti44,un44,XR,Yh,hk,QK,m2]|refine Qf fun K hK=>?_|refine Qp ?_|refine QB ?_|refine hK _ ?_;clear hK|refine Qi rfl ?_;simp only[↓reduceIte]
   simp only[QS,Qq,Qz,upd,↓reduceIte,QvV,QvZ];first|refine Qc (htake _ _) (.keep (.v _)) ⟨by rw[e],rfl⟩|refine Qc QwH (.keep (.v _)) ⟨by rw[e],rfl⟩
 ·have e:t.oper=0:=by rw[T.oper,QwN (.inl hk)]
  have m2:(t.kind != 2)=true:=by simpa using hk
  refine Qb Tryz.func124 rfl Tryz.call124 Tryz.ntmps124 Tryz.results124 (by simp) ?_
  rw[e1]
  with_reducible repeat first|refine Qa fun K E hK hE=>?_;simp only[Qh,Qe,Qk,OpW,aop,undef,AS.ev,Qg,Qu,QC,Qr,QG,QvW,AV.QuX,Qo,Qv9,Qwa,QE,QA,QP,Qwb,Qwc,↓reduceIte,Qv2,Qv3,Nat.reduceAdd,Nat.reduceLT,Nat.reduceEqDiff,Qv1,Qwe,Qm,QQ,QR,aBin,Q8,QvP,QvQ,QvR,QvU,QvS,YH,beq_false,ti3,XR,m2]|refine Qf fun K hK=>?_|refine Qp ?_|refine QB ?_|refine hK _ ?_;clear hK|refine Qi rfl ?_;simp only[↓reduceIte]
  simp only[QS,Qq,Qz,upd,↓reduceIte,QvV,QvZ];first|refine Qc (htake _ _) (.keep (.v _)) ⟨by rw[e],rfl⟩|refine Qc QwH (.keep (.v _)) ⟨by rw[e],rfl⟩
end Go.Proofs.YtenheconhibonaaGreatDoor.Ab
namespace Go.Proofs.YtenheconhibonaaGreatDoor.Ab
abbrev DA:=FuncId×List AV
def RelD(c:Cx)(d:DA)(x:Deferred):Prop:=∃caps,x.target = .fn (.func d.1) caps/\RelL c d.2 (x.args++caps)
theorem RelD.ev{c c':Cx}(hs:St c)(h:Ev c c'){d:DA}{x:Deferred}(hr:RelD c d x):RelD c' d x :=
 let ⟨caps,e,r⟩:=hr;⟨caps,e,r.ev hs h⟩
inductive Ent where
 |mark (D:Nat)
 |call (d:DA) (x:Deferred)
def Ent.dfr:Ent->Deferred
 | .mark D=>QlJ D
 | .call _ x=>x
def Ent.da:Ent->Option DA
 | .mark _=>none
 | .call d _=>some d
def Ent.mk? : Ent->Option Nat
 | .mark D=>some D
 | .call _ _=>none
def Ent.ok(c:Cx)(lo:Nat):Ent->Prop
 | .mark D=>lo<=D/\c.w.heap[D]? = some (.deferred (some []))/\¬c.owns D
 | .call d x=>RelD c d x
theorem Ent.ok.ev{c c':Cx}(hs:St c)(h:Ev c c'){lo:Nat}{e:Ent}(hk:e.ok c lo):e.ok c' lo:=by
 cases e with
 |mark D =>
  obtain⟨h1,h2,h3⟩:=hk
  have hlt:=(QwX.1 h2).1
  exact⟨h1,(h.frame D hlt h3).trans h2,fun ho=>h3 (h.owns hlt ho)⟩
 |call d x=>exact RelD.ev hs h hk
def DefsOk(c:Cx)(lo:Nat)(ds:List DA)(l:List Deferred):Prop :=
 ∃es:List Ent,l=es.map Ent.dfr/\ds=es.filterMap Ent.da/\(es.filterMap Ent.mk?).Nodup/\∀e∈es,e.ok c lo
theorem DefsOk.ev{c c':Cx}(hs:St c)(h:Ev c c'){lo:Nat}{ds:List DA}{l:List Deferred}(hd:DefsOk c lo ds l):DefsOk c' lo ds l :=
 let ⟨es,h1,h2,h3,h4⟩:=hd;⟨es,h1,h2,h3,fun e he=>(h4 e he).ev hs h⟩
theorem Qos(Ds:List Nat):(Ds.map Ent.mark).map Ent.dfr=Ds.map QlJ:=by rw[QxV];rfl
theorem Qqe(Ds:List Nat):(Ds.map Ent.mark).filterMap Ent.da=[]:=by
 induction Ds with
 |nil=>rfl
 |cons D Ds ih=>rw[List.map_cons,List.filterMap_cons,ih];rfl
theorem Qqf(Ds:List Nat):(Ds.map Ent.mark).filterMap Ent.mk? = Ds:=by
 induction Ds with
 |nil=>rfl
 |cons D Ds ih=>rw[List.map_cons,List.filterMap_cons,ih];rfl
theorem DefsOk.marks{c c':Cx}(hs:St c)(h:Ev c c'){lo:Nat}{ds:List DA}{l l':List Deferred}(hlo:lo<=c.w.heap.size)(hd:DefsOk c lo ds l)(hd':DefOk c' ⟨c.w.heap.size,l⟩ l'):DefsOk c' lo ds l':=by
 obtain⟨Ds,f1,f2,f3⟩:=hd'
 obtain⟨es,e1,e2,e3,e4⟩:=hd
 refine⟨Ds.map Ent.mark++es,?_,?_,?_,?_⟩
 ·rw[f1,Qxs,Qos,e1]
 ·rw[List.filterMap_append,Qqe,Qwg,e2]
 ·rw[List.filterMap_append,Qqf,List.nodup_append]
  refine⟨f2,e3,fun a ha b hb hab=>?_⟩
  subst hab
  have g1:=(f3 a ha).1
  simp only[List.mem_filterMap]at hb
  obtain⟨e,he,hm⟩:=hb
  cases e with
  |call d x=>cases hm
  |mark D =>
   simp only[Ent.mk?,QvV]at hm
   subst hm
   have:=(QwX.1 (e4 _ he).2.1).1
   simp only at g1
   omega
 ·intro e he
  rcases Qxf.1 he with he|he
  ·obtain⟨D,hD,rfl⟩:=Qxa.1 he
   obtain⟨g1,g2,g3⟩:=f3 D hD
   exact⟨Qw8 hlo g1,g2,g3⟩
  ·exact(e4 e he).ev hs h
structure SRd (N lo:Nat) (c:Cx) (s:AS) (a:Act) (ds:List DA):Prop where
 h:c.h=s.h
 size:a.tmps.size=N
 above:lo<=c.w.heap.size
 defs:DefsOk c lo ds a.defers
 tm:∀t,Rel c (s.tm t) (a.tmps.getD t undef)
theorem SRd.sr{N lo:Nat}{c:Cx}{s:AS}{a:Act}{ds:List DA}(h:SRd N lo c s a ds){F:Fence}(hro:F.round=none):SR N (⟨c.w.heap.size,a.defers⟩,F) c s a :=
 ⟨h.h,h.size,QwP _,⟨[],rfl,Qyh,fun D hD=>by cases hD⟩,fun l hl=>(by rw[hro]at hl;cases hl),h.tm⟩
theorem SRd.Qvq{N lo:Nat}{c c':Cx}{s s':AS}{a a':Act}{ds:List DA}{F:Fence}(hs:St c)(h:SRd N lo c s a ds)(hev:Ev c c')(hr:SR N (⟨c.w.heap.size,a.defers⟩,F) c' s' a'):SRd N lo c' s' a' ds :=
 ⟨hr.h,hr.size,Qw8 h.above hev.size,h.defs.marks hs hev h.above hr.defers,hr.tm⟩
def DefW(P:Program)(N:Nat)(code:Code)(Q:AExit->AS->List DA->Prop)(s:AS)(ds:List DA):Prop :=
 ∀(F:Fence) (n lo:Nat) (c:Cx) (a:Act),WF F->F.round=none->St c->SRd N lo c s a ds ->
  ∀R:Exit->Act->World->Prop,(∀e s' ds' c' a' e',Q e s' ds'->Ev c c'->St c'->SRd N lo c' s' a' ds'->ExC c' e e'->R e' a' c'.w)->code.wpIn F n P R a c.w
section rules
variable{P:Program}{N:Nat}{Q:AExit->AS->List DA->Prop}{s:AS}{ds:List DA}
theorem Ys{code:Code}(H:XO P N code (fun e s'=>Q e s' ds) s):DefW P N code Q s ds:=by
 intro F n lo c a hF hro hst hr R hR
 refine H F n ⟨c.w.heap.size,a.defers⟩ c a hF hst (hr.sr hro) R fun e s' c' a' e' hQ hev hst' hsr hex=>?_
 exact hR e s' ds c' a' e' hQ hev hst' (hr.Qvq hst hev hsr) hex
def AExit.QvJ(K:AS->List DA->Prop)(Q:AExit->AS->List DA->Prop):AExit->AS->List DA->Prop
 | .normal,s,ds=>K s ds
 |e,s,ds=>Q e s ds
theorem YP{x y:Code}(h:DefW P N x (AExit.QvJ (fun s ds=>DefW P N y Q s ds) Q) s ds):DefW P N (.seq x y) Q s ds:=by
 intro F n lo c a hF hro hs hr R hR
 refine wpIn_seq (h F n lo c a hF hro hs hr _ ?_)
 intro e s' ds' c' a' e' hQ hev hst hsr hex
 cases e with
 |normal =>
  cases hex
  exact hQ F n lo c' a' hF hro hst hsr R fun e s2 ds2 c2 a2 e2 hQ2 hev2 hst2 hsr2 hex2=>hR e s2 ds2 c2 a2 e2 hQ2 (Ev.trans hs hev hev2) hst2 hsr2 hex2
 |exit id=>cases hex;exact hR _ s' ds' c' a' _ hQ hev hst hsr rfl
 |ret=>cases hex;exact hR _ s' ds' c' a' _ hQ hev hst hsr rfl
 |panic av=>obtain⟨x,rfl,hx⟩:=hex;exact hR _ s' ds' c' a' _ hQ hev hst hsr ⟨x,rfl,hx⟩
theorem QnS{o:Operand}{x y:Code}{t:Bool}(ho:s.ev o = .v (.bool t))(h:DefW P N (if t then x else y) Q s ds):DefW P N (.cond o x y) Q s ds:=by
 intro F n lo c a hF hro hs hr R hR
 have he:=(hr.sr hro).eval o
 rw[ho]at he
 have hx:a.eval o = .bool t:=by
  generalize a.eval o=u at he
  cases he;rfl
 exact wpIn_cond hx (h F n lo c a hF hro hs hr R hR)
theorem QbO{id:Nat}{ops:Array Oper}(i:Nat){o:Oper}{cl:Call}{f:Operand}(ho:ops.toList[i]? = some o)(hop:o.op = .defer cl)(hcl:cl.callee = .value f)
  (H:OpsW P N ops (ops.toList.take i) (fun s1=>Qk ops s1.tm o=some true/\∃g first cap,s1.ev f = .fn (.func g) first cap /\
   OpsW P N ops (ops.toList.drop (i+1)) (fun s2=>Q .normal s2 ((g,first++cl.args.toList.map s1.ev++cap)::ds)) (fun r s2=>Q (.panic r) s2 ((g,first++cl.args.toList.map s1.ev++cap)::ds)) (AS.put N s1 o.dst (.v undef)))
   (fun r s1=>Q (.panic r) s1 ds) s):DefW P N (.region id ops false) Q s ds:=by
 intro F n lo c a hF hro hst hr R hR
 refine wpIn_region ?_
 have hlt:=Qv ho
 have hi:(ops.toList.take i).length=i:=by rw[Qw9];omega
 have hrange:List.range ops.size=List.range' 0 (ops.toList.take i).length++(i::(List.range' (i+1) (ops.toList.drop (i+1)).length++[])):=by
  rw[hi,Qwi,Qxi,Qx0,<-Qxn]
  have:ops.toList.length=i+(1+(ops.toList.length - (i+1))):=by omega
  conv=>lhs;rw[this]
  rw[<-Qx6,Qv1,<-Qx6]
  rfl
 have hget:∀j,(ops.toList.drop (i+1))[j]? = ops[i+1+j]? := fun j=>by rw[Qxl];simp
 rw[hrange]
 refine Qcn hF (ops.toList.take i) 0 s c a (fun j hj=>by rw[Qyf,QwN (by omega)];simp) H hst (hr.sr hro) ?_ ?_
 ·intro s1 c1 a1 h1 h2 h3 h4
  have h0:ops[i]? = some o:=by rw[<-ho];simp
  obtain⟨hw,g,first,cap,hf,hpost⟩:=h1
  simp only[wpOpsIn,h0]
  rw[Xt h4 hw]
  simp only[QxP]
  have hr1:=hr.Qvq hst h2 h4
  have hfv:=h4.eval f
  rw[hf]at hfv
  obtain⟨vs,ws,hae,hv1,hv2⟩:∃vs ws,a1.eval f = .func (.func g) vs ws/\RelL c1 first vs/\RelL c1 cap ws:=by
   generalize a1.eval f=u at hfv
   cases hfv with
   |fn _ _ _ vs ws e1 e2 g1 g2=>exact⟨vs,ws,rfl,⟨e1,g1⟩,⟨e2,g2⟩⟩
  have hargs:RelL c1 (cl.args.toList.map s1.ev) (cl.args.map a1.eval):=by
   refine⟨by simp,fun j x u hx hu=>?_⟩
   rw[Qxd]at hx
   rw[Array.getElem?_map]at hu
   cases hj:cl.args[j]? with
   |none=>simp[hj]at hu
   |some q =>
    simp only[hj,QvR,QvV]at hu
    simp only[QxJ,hj,QvR,QvV]at hx
    subst hx;subst hu
    exact h4.eval q
  have hD:RelD c1 (g,first++cl.args.toList.map s1.ev++cap) ⟨.fn (.func g) ws,vs++cl.args.map a1.eval⟩:=⟨ws,rfl,RelL.append (RelL.append hv1 hargs) hv2⟩
  have hrun:(execOp a1.eval o).run P c1.w = .ok (.defer ⟨.fn (.func g) ws,vs++cl.args.map a1.eval⟩) c1.w:=by
   simp only[execOp,hop,resolve,hcl,hae,Deferred.ofValue,Sem.run_bind,Sem.run_pure,Result.andThen_ok]
  refine⟨fun f _=>hF.fn f,?_⟩
  rw[hro,Oper.semAt_none,hrun,Oper.uponIn_defer]
  have hput:=h4.put h3 (Ev.refl c1) o.dst (.v undef)
  rw[h4.h]at hput
  have hd2:DefsOk c1 lo ((g,first++cl.args.toList.map s1.ev++cap)::ds) (⟨.fn (.func g) ws,vs++cl.args.map a1.eval⟩::a1.defers):=by
   obtain⟨es,e1,e2,e3,e4⟩:=hr1.defs
   refine⟨.call _ ⟨.fn (.func g) ws,vs++cl.args.map a1.eval⟩::es,by rw[e1];rfl,by rw[e2];rfl,e3,fun e he=>?_⟩
   rcases QwS.1 he with rfl|he
   ·exact hD
   ·exact e4 e he
  have hdf:((({a1 with defers:=⟨.fn (.func g) ws,vs++cl.args.map a1.eval⟩::a1.defers}:Act).put o.dst undef)).defers=⟨.fn (.func g) ws,vs++cl.args.map a1.eval⟩::a1.defers:=by
   cases o.dst <;> rfl
  have htm:((({a1 with defers:=⟨.fn (.func g) ws,vs++cl.args.map a1.eval⟩::a1.defers}:Act).put o.dst undef)).tmps=(a1.put o.dst undef).tmps:=by
   cases o.dst <;> rfl
  have hr2:SRd N lo c1 (AS.put N s1 o.dst (.v undef)) (({a1 with defers:=⟨.fn (.func g) ws,vs++cl.args.map a1.eval⟩::a1.defers}:Act).put o.dst undef) ((g,first++cl.args.toList.map s1.ev++cap)::ds) :=
   ⟨hput.h,by rw[htm];exact hput.size,hr1.above,by rw[hdf];exact hd2,fun t=>by rw[htm];exact hput.tm t⟩
  refine Qcn hF _ (i+1) _ c1 _ (fun j _=>hget j) hpost h3 (hr2.sr hro) ?_ ?_
  ·intro s' c' a' hQ k1 k2 k3
   simp only[wpOpsIn]
   exact hR _ s' _ c' a' _ hQ (Ev.trans hst h2 k1) k2 (hr2.Qvq h3 k1 k3) rfl
  ·intro r s' c' a' x hQ k1 k2 k3 hx
   exact hR _ s' _ c' a' _ hQ (Ev.trans hst h2 k1) k2 (hr2.Qvq h3 k1 k3) ⟨x,rfl,hx⟩
 ·intro r s' c' a' x hQ h1 h2 h3 hx
  exact hR _ s' ds c' a' _ hQ h1 h2 (hr.Qvq hst h1 h3) ⟨x,rfl,hx⟩
end rules
inductive AMode where
 |ret
 |pan (v:AV) (recovered:Bool)
def MdC(c:Cx):AMode->FrameMode->Prop
 | .ret,u=>u = .returning
 | .pan v b,u=>∃x,u = .panicking [{v:=x,recovered:=b}]/\Rel c v x
theorem MdC.ev{c c':Cx}(hs:St c)(h:Ev c c'){m:AMode}{u:FrameMode}(hm:MdC c m u):MdC c' m u:=by
 cases m with
 |ret=>exact hm
 |pan v b=>obtain⟨x,e,r⟩:=hm;exact⟨x,e,r.ev hs h⟩
theorem MdC.run{c:Cx}{m:AMode}{u:FrameMode}(hm:MdC c m u):u ≠ .run:=by
 cases m with
 |ret=>rw[show u = .returning from hm];simp
 |pan v b=>obtain⟨x,e,r⟩:=hm;rw[e];simp
def AMode.settle:AMode->AMode
 | .pan _ true=>.ret
 |m=>m
theorem MdC.settle{c:Cx}{m:AMode}{u:FrameMode}(hm:MdC c m u):MdC c m.settle (Go.settle u):=by
 cases m with
 |ret=>rw[show u = .returning from hm];rfl
 |pan v b =>
  obtain⟨x,rfl,r⟩:=hm
  cases b with
  |true=>rfl
  |false=>exact⟨x,rfl,r⟩
def Z9(P:Program)(f:FuncId)(args:List AV)(h:AH)(m:AMode)(Q:AMode->AH->Prop):Prop :=
 (∀vals w,(callFunc f vals).run P w = .ok (.enter f vals) w) /\
 ∀(F:Fence) (n:Nat) (c:Cx) (vals:Array Value) (u:FrameMode),WF F->F.round=none->St c->c.h=h->RelL c args vals->MdC c m u ->
  CallsDIn F n P f vals u c.w fun e u' w'=>∃x m' c',e = .returned x/\Q m' c'.h/\Ev c c'/\St c'/\c'.w=w'/\MdC c' m' u'
def Qe7(P:Program)(rs:List ResultVar)(h:AH)(Q:AOut->AH->Prop):List DA->AMode->AS->Prop
 |[],.ret,s=>QS P rs h Q .ret s
 |[],.pan v _,s=>QS P rs h Q (.panic v) s
 |d::ds,m,s=>Z9 P d.1 d.2 s.h m fun m' h'=>Qe7 P rs h Q ds m'.settle ⟨s.tm,h'⟩
structure Out (N:Nat) (c:Cx) (s:AS) (tmps:Array Value):Prop where
 h:c.h=s.h
 size:tmps.size=N
 tm:∀t,Rel c (s.tm t) (tmps.getD t undef)
theorem Qbx{P:Program}{F:Fence}(hF:WF F)(hro:F.round=none){n:Nat}{fn:Func}{tmps:Array Value}{rs:List ResultVar}(hrs:fn.results.toList=rs){Q:AOut->AH->Prop}{c0:Cx}(hs0:St c0) :
  ∀(es:List Ent) (c:Cx) (s:AS) (m:AMode) (u:FrameMode),Ev c0 c->St c->Out fn.ntmps c s tmps->(es.filterMap Ent.mk?).Nodup->(∀e∈es,e.ok c c0.w.heap.size)->MdC c m u->(∀v,m ≠ .pan v true) ->
   Qe7 P rs c0.h Q (es.filterMap Ent.da) m s ->
   LeavesInM F n P fn tmps (fun e w'=>∃o c',Q o c'.h/\Ev c0 c'/\St c'/\c'.w=w'/\EndC c' o e) (es.map Ent.dfr) u c.w
 |[],c,s,m,u,hev,hst,hout,_,_,hm,hnr,H=>by
  have hsr:SR fn.ntmps (⟨0,[]⟩,F) c s {tmps:=tmps,defers:=[]}:=⟨hout.h,hout.size,Qw3 _,⟨[],rfl,Qyh,fun D h=>by cases h⟩,fun l hl=>(by rw[hro]at hl;cases hl),hout.tm⟩
  cases m with
  |ret =>
   rw[show u = .returning from hm]
   obtain⟨r,hres,hl⟩:=(show QS P rs c0.h Q .ret s from H)
   subst hrs
   obtain⟨x,hrun,hx⟩:=QbV hst hsr hres
   rw[<-hout.h]at hl
   obtain⟨c3,r',h1,h2,h3,h4,h5⟩:=QaE hs0 hst hev hx hl
   exact⟨x,hrun,.ret r',c3,h1,h2,h3,h4,x,rfl,h5⟩
  |pan v b =>
   obtain⟨x,rfl,hx⟩:=hm
   have hl:Leaves c0.h s.h v fun r h'=>Q (.panic r) h':=H
   rw[<-hout.h]at hl
   obtain⟨c3,r',h1,h2,h3,h4,h5⟩:=QaE hs0 hst hev hx hl
   cases b with
   |true=>exact absurd rfl (hnr v)
   |false=>exact⟨.panic r',c3,h1,h2,h3,h4,x,rfl,h5⟩
 | .mark D::es,c,s,m,u,hev,hst,hout,hnd,hok,hm,hnr,H=>by
  obtain⟨hD1,hD2,hD3⟩:=hok (.mark D) (by simp)
  simp only[Qv4,LeavesInM]
  refine⟨hm.run,.inl ⟨D,_,rfl,Qai hD2,?_⟩⟩
  have hnd':=QyE.1 (show(D::es.filterMap Ent.mk?).Nodup from hnd)
  have hold:∀k,k≠D->({c.w with heap:=c.w.heap.setIfInBounds D (.deferred none)}:World).heap[k]? = c.w.heap[k]? := fun k hk=>by
   show(c.w.heap.setIfInBounds D _)[k]? = _
   rw[Qxv (fun e=>hk e.symm)]
  have hsz:({c.w with heap:=c.w.heap.setIfInBounds D (.deferred none)}:World).heap.size=c.w.heap.size:=by simp
  have hidle:∀k,({c.w with heap:=c.w.heap.setIfInBounds D (.deferred none)}:World).heap[k]? = c.w.heap[k]? \/ (c0.w.heap.size<=k/\¬c.owns k/\∃o,c.w.heap[k]? = some (.deferred o)):=fun k=>by
   by_cases hk:k=D
   ·subst hk;exact .inr ⟨hD1,hD3,_,hD2⟩
   ·exact .inl (hold k hk)
  have hcells:∀(k:Nat) cs t fr,c.w.heap[k]? = some (Obj.cells cs t fr)->({c.w with heap:=c.w.heap.setIfInBounds D (.deferred none)}:World).heap[k]? = c.w.heap[k]? := fun k cs t fr hk=>by
   rcases hidle k with h|⟨_,_,o,h⟩
   ·exact h
   ·rw[hk]at h;cases h
  have hst2:=hst.idle hsz fun k o hk=>by
   rcases hidle k with h|⟨_,_,d,h⟩
   ·exact .inl (h.trans hk)
   ·rw[hk]at h;cases h;exact .inr ⟨d,rfl⟩
  have hrel:∀a x,Rel c a x->Rel (c.to {c.w with heap:=c.w.heap.setIfInBounds D (.deferred none)}) a x:=fun a x hax=>hax.idle hsz hcells
  refine Qbx hF hro hrs hs0 es (c.to _) s m u (Ev.idle hst hev rfl rfl rfl hsz hidle) hst2 ⟨hout.h,hout.size,fun t=>hrel _ _ (hout.tm t)⟩ hnd'.2 (fun e he=>?_) ?_ hnr H
  ·have:=hok e (by simp[he])
   cases e with
   |mark D' =>
    obtain⟨g1,g2,g3⟩:=this
    have hne:D'≠D:=fun h=>hnd'.1 (by subst h;exact List.mem_filterMap.2 ⟨_,he,rfl⟩)
    exact⟨g1,(hold D' hne).trans g2,g3⟩
   |call d x =>
    obtain⟨caps,e,r⟩:=this
    exact⟨caps,e,r.1,fun j a u h1 h2=>hrel _ _ (r.2 j a u h1 h2)⟩
  ·cases m with
   |ret=>exact hm
   |pan v b=>obtain⟨x,e,r⟩:=hm;exact⟨x,e,hrel _ _ r⟩
 | .call d x::es,c,s,m,u,hev,hst,hout,hnd,hok,hm,hnr,H=>by
  obtain⟨caps,htar,hargs⟩:=hok (.call d x) (by simp)
  obtain⟨hcall,hbody⟩:=(show Z9 P d.1 d.2 s.h m fun m' h'=>Qe7 P rs c0.h Q (es.filterMap Ent.da) m'.settle ⟨s.tm,h'⟩from H)
  simp only[Qv4,LeavesInM,Ent.dfr]
  refine⟨hm.run,.inr ⟨fun hd=>by simp[hF.depth]at hd,_,_,d.1,x.args++caps,htar,by rw[htar];simp only[invoke,hcall],fun _ _=>hF.fn _,?_⟩⟩
  refine(hbody F (n - 1) c _ u hF hro hst hout.h hargs hm).mono ?_
  rintro e u' w' ⟨y,m',c',rfl,hQ,hev',hst',rfl,hm'⟩
  refine Qbx hF hro hrs hs0 es c' ⟨s.tm,c'.h⟩ m'.settle (Go.settle u') (Ev.trans hs0 hev hev') hst' ⟨rfl,hout.size,fun t=>(hout.tm t).ev hst hev'⟩ hnd (fun e he=>(hok e (by simp[he])).ev hst hev') hm'.settle (fun v h=>?_) hQ
  cases m' with
  |ret=>cases h
  |pan v' b=>cases b <;> cases h
def QjW(P:Program)(rs:List ResultVar)(h:AH)(Q:AOut->AH->Prop):AExit->AS->List DA->Prop
 | .normal,s,ds | .ret,s,ds=>Qe7 P rs h Q ds .ret s
 | .panic v,s,ds=>Qe7 P rs h Q ds (.pan v false) s
 | .exit _,_,_=>False
theorem Qao{P:Program}{f:FuncId}{fn:Func}{code:Code}{args:List AV}{h:AH}{Q:AOut->AH->Prop}(hf:P.funcs[f]? = some fn)(hb:fn.body=some code)
  (hcall:∀vals w,(callFunc f vals).run P w = .ok (.enter f vals) w) {N:Nat} (hN:fn.ntmps=N) {rs:List ResultVar} (hrs:fn.results.toList=rs) (hn:args.length<=N) (H:DefW P N code (QjW P rs h Q) ⟨QG args,h⟩ []):QT P f args h Q:=by
 subst hN
 refine⟨hcall,fun F n c vals hF hs hh hvals=>QbM ?_⟩
 subst hh
 refine callsIn_of_wp_marks hf hb (hF.plain.fn f) ?_
 have hsr:SRd fn.ntmps c.w.heap.size c ⟨QG args,c.h⟩ {tmps:=vals++Array.replicate (fn.ntmps - vals.size) undef,defers:=[]} []:=by
  refine⟨rfl,by have:=hvals.1;simp;omega,QwP _,⟨[],rfl,rfl,Qyh,fun e h=>by cases h⟩,fun t=>?_⟩
  simp only[QG]
  rw[QwW,Qyg,Qxe]
  have hsz:=hvals.1
  by_cases ht:t<vals.size
  ·rw[QwN ht]
   obtain⟨u,hu⟩:∃u,vals[t]? = some u:=⟨_,Qw0 ht⟩
   obtain⟨a,ha⟩:∃a,args[t]? = some a:=⟨_,QwK (by omega)⟩
   rw[hu,ha]
   exact hvals.2 t a u ha hu
  ·rw[QwJ ht,Qxp (by omega),QxR]
   split
   ·exact .v _
   ·exact .v _
 refine H F.plain n c.w.heap.size c _ hF.plain rfl hs hsr _ ?_
 intro e s' ds' c' a' e' hQ hev hst hr hex
 obtain⟨es,e1,e2,e3,e4⟩:=hr.defs
 subst e2
 have hout:Out fn.ntmps c' s' a'.tmps:=⟨hr.h,hr.size,hr.tm⟩
 have key:=fun(m:AMode) (u:FrameMode) (hm:MdC c' m u) (hnr:∀v,m ≠ .pan v true) H=>e1▸Qbx (P:=P) hF.plain rfl (n:=n) (fn:=fn) (tmps:=a'.tmps) hrs (Q:=Q) hs es c' s' m u hev hst hout e3 e4 hm hnr H
 cases e with
 |normal=>cases hex;exact key .ret .returning rfl (fun v h=>by cases h) hQ
 |ret=>cases hex;exact key .ret .returning rfl (fun v h=>by cases h) hQ
 |panic av =>
  obtain⟨x,rfl,hx⟩:=hex
  exact key (.pan av false) _ ⟨x,rfl,hx⟩ (fun v h=>by cases h) hQ
 |exit id=>exact hQ.elim
theorem Z2{P:Program}{F:Fence}{n:Nat}{fn:Func}{tmps:Array Value}{R:Ending->World->Prop}:∀(ds:List Deferred) (u:FrameMode) (w:World) (fr:Frame)
  (cs:List Frame),fr.mode=u->fr.defers=ds->fr.tmps=tmps->P.funcs[fr.fn]? = some fn->fr.kind = .deferred->F.fn fr.fn->F.room (cs.length+1+n)->LeavesInM F n P fn tmps R ds u w ->
  ∃e w' fr',R e w'/\ComesIn (Machine.fenced P F) P (lone fr cs w) (lone fr' cs w') e/\fr'.fn=fr.fn/\fr'.kind = .deferred/\fr'.going P w' e:=by
 intro ds
 induction ds with
 |nil =>
  intro u w fr cs hu hd ht hf hk _ _ h
  cases u with
  |run=>exact h.elim
  |returning =>
   obtain⟨v,hr,hR⟩:=h
   exact⟨.returned v,w,fr,hR,StepsIn.refl _,rfl,hk,hu,hd,fn,hf,ht▸hr⟩
  |panicking chain=>exact⟨.panicked chain,w,fr,h,StepsIn.refl _,rfl,hk,hu,hd,fn,hf⟩
 |cons d ds ih =>
  intro u w fr cs hu hd ht hf hk hb hroom h
  obtain⟨hrun,h⟩:=h
  rcases h with⟨r,w',htar,htake,hrest⟩|⟨hn,fv,cap,f,args,htar,hinv,hlead,hFf,hcall⟩
  ·have h1:=step_collected (cs:=cs) (hu▸hrun) hd htar htake
   have i1:(lone fr cs w).fenced P F:=fenced_out hb hroom (hu▸hrun) hd (fun g hg=>by rw[htar]at hg;simp[Target.leads]at hg)
   obtain⟨e',w'',fr',hR',hs',hfn',hl'⟩:=ih u w' {fr with defers:=[]++ds} cs hu rfl ht hf hk hb hroom hrest
   exact⟨e',w'',fr',hR',ComesIn.of_steps (.one i1 h1) hs',hfn',hl'⟩
  ·have h1:=step_defer (cs:=cs) (hu▸hrun) hd htar hinv
   have i1:(lone fr cs w).fenced P F:=fenced_out hb hroom (hu▸hrun) hd hlead
   have hroom':F.room (({fr with defers:=ds}::cs).length+1+(n - 1)):=Fence.room_enter hroom hn
   obtain⟨e,u',w',frX,hR,hsteps,hkX,hfX,hgo⟩:=hcall {fr with defers:=ds} cs hu hroom'
   cases e with
   |outgrown=>exact⟨.outgrown,w',fr,hR,Outgrown.of_steps (.one h1) hsteps,rfl,hk,trivial⟩
   |returned v =>
    have i2:(lone frX ({{fr with defers:=ds} with mode:=u'}::cs) w').fenced P F:=fenced_going (n:=n - 1) (hfX▸hFf) hroom' hgo
    have h2:=step_going_returned (c:={{fr with defers:=ds} with mode:=u'}) (cs:=cs) hkX hgo
    obtain⟨e',w'',fr',hR',hs',hfn',hl'⟩:=ih (Go.settle u') w' {{{fr with defers:=ds} with mode:=u'} with mode:=Go.settle u'} cs rfl rfl ht hf hk hb hroom hR
    exact⟨e',w'',fr',hR',ComesIn.of_steps (.head i1 h1 (StepsIn.trans hsteps (.one i2 h2))) hs',hfn',hl'⟩
   |panicked chain =>
    have i2:(lone frX ({{fr with defers:=ds} with mode:=u'}::cs) w').fenced P F:=fenced_going (n:=n - 1) (hfX▸hFf) hroom' hgo
    have h2:=step_going_panicked (c:={{fr with defers:=ds} with mode:=u'}) (cs:=cs) hgo
    obtain⟨e',w'',fr',hR',hs',hfn',hl'⟩:=ih (raised u' chain) w' {{{fr with defers:=ds} with mode:=u'} with mode:=raised u' chain} cs rfl rfl ht hf hk hb hroom hR
    exact⟨e',w'',fr',hR',ComesIn.of_steps (.head i1 h1 (StepsIn.trans hsteps (.one i2 h2))) hs',hfn',hl'⟩
theorem QcT{P:Program}{F:Fence}{n:Nat}{f:FuncId}{fn:Func}{c:Code}{args:Array Value}{u:FrameMode}{w:World}{R:Ending->World->Prop}
  (hf:P.funcs[f]? = some fn) (hb:fn.body=some c) (hF:F.fn f)
  (h:c.wpIn F n P (bodyPostM F n P fn R) {tmps:=args++Array.replicate (fn.ntmps - args.size) undef,defers:=[]} w) (hro:F.round=none) :
  CallsDIn F n P f args u w fun e u' w'=>u'=u/\R e w':=by
 refine⟨hF,fun c₀ cs hu hr=>?_⟩
 let b:Frame:={(default:Frame)with fn:=f,kind:=.deferred,roundOf:=none}
 have henter:Frame.enter P f args .deferred =
   b.atR {tmps:=args++Array.replicate (fn.ntmps - args.size) undef,defers:=[]} [.code c]:=by
  simp[Frame.enter,Frame.atR,hf,hb,b]
 have hc:({c₀ with mode:=u}:Frame)=c₀:=by subst hu;rfl
 obtain⟨e,a',w',hq,harr⟩:=h b [] (c₀::cs) hro.symm hF hr
 rw[<-henter]at harr
 cases e with
 |normal =>
  obtain⟨e',w'',fr',hR,hs,hfn,hk,hl⟩:=Z2 a'.defers .returning w' {b.atR a' []with mode:=.returning} (c₀::cs) rfl rfl rfl hf rfl hF hr hq
  exact⟨e',u,w'',fr',⟨rfl,hR⟩,(by rw[hc];exact ComesIn.of_steps (StepsIn.trans harr (.one (fenced_calm (fr:=b.atR a' []) hF hr rfl) (stepR_end rfl))) hs),hk,hfn,hl⟩
 |ret =>
  obtain⟨todo,hs₀⟩:=harr.1 rfl
  obtain⟨e',w'',fr',hR,hs,hfn,hk,hl⟩:=Z2 a'.defers .returning w' {b.atR a' todo with mode:=.returning} (c₀::cs) rfl rfl rfl hf rfl hF hr hq
  exact⟨e',u,w'',fr',⟨rfl,hR⟩,(by rw[hc];exact ComesIn.of_steps hs₀ hs),hk,hfn,hl⟩
 |panic chain =>
  obtain⟨todo,hs₀⟩:=harr
  obtain⟨e',w'',fr',hR,hs,hfn,hk,hl⟩:=Z2 a'.defers (.panicking chain) w' {b.atR a' todo with mode:=.panicking chain} (c₀::cs) rfl rfl rfl hf rfl hF hr hq
  exact⟨e',u,w'',fr',⟨rfl,hR⟩,(by rw[hc];exact ComesIn.of_steps hs₀ hs),hk,hfn,hl⟩
 |exit id=>exact hq.elim
 |goto l=>exact hq.elim
 |outgrown=>exact⟨.outgrown,u,w',b,⟨rfl,hq⟩,harr.resolve_left (by simp[b]),rfl,rfl,trivial⟩
theorem Qfl{P:Program}{f:FuncId}{fn:Func}{code:Code}{args:List AV}{h:AH}{Q:AH->Prop}(hf:P.funcs[f]? = some fn)(hb:fn.body=some code)
  (hcall:∀vals w,(callFunc f vals).run P w = .ok (.enter f vals) w) {N:Nat} (hN:fn.ntmps=N) {rs:List ResultVar} (hrs:fn.results.toList=rs) (hn:args.length<=N)
  (H:DefW P N code (QjW P rs h fun o h'=>(∃r,o = .ret r)/\Q h') ⟨QG args,h⟩ []) (m:AMode):Z9 P f args h m fun m' h'=>m'=m/\Q h':=by
 subst hN
 refine⟨hcall,fun F n c vals u hF hro hs hh hvals hm=>?_⟩
 subst hh
 refine(QcT (R:=fun e w'=>∃(o:AOut) (c':Cx),((∃r,o=AOut.ret r)/\Q c'.h)/\Ev c c'/\St c'/\c'.w=w'/\EndC c' o e) hf hb (hF.fn f) ?_ hro).mono ?_
 ·have hsr:SRd fn.ntmps c.w.heap.size c ⟨QG args,c.h⟩ {tmps:=vals++Array.replicate (fn.ntmps - vals.size) undef,defers:=[]} []:=by
   refine⟨rfl,by have:=hvals.1;simp;omega,QwP _,⟨[],rfl,rfl,Qyh,fun e h=>by cases h⟩,fun t=>?_⟩
   simp only[QG]
   rw[QwW,Qyg,Qxe]
   have hsz:=hvals.1
   by_cases ht:t<vals.size
   ·rw[QwN ht]
    obtain⟨u,hu⟩:∃u,vals[t]? = some u:=⟨_,Qw0 ht⟩
    obtain⟨a,ha⟩:∃a,args[t]? = some a:=⟨_,QwK (by omega)⟩
    rw[hu,ha]
    exact hvals.2 t a u ha hu
   ·rw[QwJ ht,Qxp (by omega),QxR]
    split
    ·exact .v _
    ·exact .v _
  refine H F n c.w.heap.size c _ hF hro hs hsr _ ?_
  intro e s' ds' c' a' e' hQ hev hst hr hex
  obtain⟨es,e1,e2,e3,e4⟩:=hr.defs
  subst e2
  have hout:Out fn.ntmps c' s' a'.tmps:=⟨hr.h,hr.size,hr.tm⟩
  have key:=fun(m:AMode) (u:FrameMode) (hm:MdC c' m u) (hnr:∀v,m ≠ .pan v true) H=>e1▸Qbx (P:=P) hF hro (n:=n) (fn:=fn) (tmps:=a'.tmps) hrs (Q:=fun o h'=>(∃r,o=AOut.ret r)/\Q h') hs es c' s' m u hev hst hout e3 e4 hm hnr H
  cases e with
  |normal=>cases hex;exact key .ret .returning rfl (fun v h=>by cases h) hQ
  |ret=>cases hex;exact key .ret .returning rfl (fun v h=>by cases h) hQ
  |panic av =>
   obtain⟨x,rfl,hx⟩:=hex
   exact key (.pan av false) _ ⟨x,rfl,hx⟩ (fun v h=>by cases h) hQ
  |exit id=>exact hQ.elim
 ·rintro e u' w' ⟨rfl,o,c',⟨⟨r,rfl⟩,hQ⟩,hev,hst',rfl,x,rfl,hx⟩
  exact⟨x,m,c',rfl,⟨rfl,hQ⟩,hev,hst',rfl,hm.ev hs hev⟩
theorem Qgt{P:Program}{f:FuncId}{fn:Func}{code:Code}{args:List AV}{h:AH}{Q:AH->Prop}(hf:P.funcs[f]? = some fn)(hb:fn.body=some code)
  (hcall:∀vals w,(callFunc f vals).run P w = .ok (.enter f vals) w) {N:Nat} (hN:fn.ntmps=N) {rs:List ResultVar} (hrs:fn.results.toList=rs) (hn:args.length<=N)
  (H:XO P N code (QS P rs h fun o h'=>(∃r,o = .ret r)/\Q h') ⟨QG args,h⟩) (m:AMode):Z9 P f args h m fun m' h'=>m'=m/\Q h' :=
 Qfl hf hb hcall hN hrs hn (Ys (H.mono fun e s hq=>by cases e <;> exact hq)) m
end Go.Proofs.YtenheconhibonaaGreatDoor.Ab
namespace Go.Proofs.YtenheconhibonaaGreatDoor.Ab
open Go.Proofs
def HB(h:AH)(i j:Nat)(u:Bool)(tx:ByteArray):AH:=hs2 h i (bw 138 i j u tx) j (.grow 5 1 tx.size)
theorem wTy:BTy 138:=.inr rfl
abbrev lpa:ByteArray:={data:=#[40]}
abbrev rpa:ByteArray:={data:=#[41]}
def encB(b:Bool)(x:ByteArray):ByteArray:=if b then lpa++x++rpa else x
theorem Z9.mono{P:Program}{f:FuncId}{args:List AV}{h:AH}{m:AMode}{Q Q':AMode->AH->Prop}(H:Z9 P f args h m Q)(hq:∀m' h',Q m' h'->Q' m' h'):Z9 P f args h m Q' :=
 ⟨H.1,fun F n c vals u hF hro hs hh hvals hm=>(H.2 F n c vals u hF hro hs hh hvals hm).mono fun e u' w' ⟨x,m',c',h1,h2,h3⟩=>⟨x,m',c',h1,hq _ _ h2,h3⟩⟩
theorem Qiq{h:AH}{i j:Nat}(hi:i<h.length)(hj:j<h.length)(hij:i≠j)(u:Bool)(tx:ByteArray)(b:UInt8)(hs:tx.size<140737488355328)(m:AMode) :
  Z9 Tryz.prog 149 [.ptr i 0 0,.v (.int .u8 (b.toNat:Nat))] (HB h i j u tx) m fun m' h'=>m'=m/\h'=HB h i j true (tx++{data:=#[b]}):=by
 have f1:=fun x y=>Zr h i x j y
 have f2:=fun x y=>ZN (h:=h) hi hij x y
 have f3:=fun x y z=>QeQ (h:=h) (i:=i) (j:=j) hij x y z
 have f5:=fun x y z=>QeR (h:=h) (i:=i) (j:=j) x y z
 have f7:=fun x y=>QcD (h:=h) (i:=i) hj x y
 have c1:=QbN wTy hij u tx h hi hj
 have e1:Xs (tx++{data:=#[b]})=Xs tx++[.v (.int .u8 (b.toNat:Nat))]:=Qbl tx _
 have e2:(tx++({data:=#[b]}:ByteArray)).size=tx.size+1:=Qs _ _
 have hs':tx.size+1<=140737488355328:=hs
 have hm:tx.size+1<=maxLen:=by simp only[maxLen];omega
 refine Qgt Tryz.func149 rfl Tryz.call149 Tryz.ntmps149 (Qxm Array.toList Tryz.results149) (by simp) ?_ m
 rw[HB,HB,bw1,e1,e2]
 repeat (first|refine FunW.QuW c1 ?_|refine Qn ?_);simp only[go_sem,seval,f2,f3,f5,f7,bw1,Yv,hm,hs',Qyx]
 exact .inr ⟨⟨_,rfl⟩,rfl⟩
theorem Qca{h:AH}{i j:Nat}(hi:i<h.length)(hj:j<h.length)(hij:i≠j)(need u:Bool)(tx body:ByteArray){fv r:AV}(hs:tx.size+(encB need body).size<=140737488355328)
  (hw:FunW Tryz.prog fv [] (HB h i j (u||need) (if need then tx++lpa else tx)) fun o h'=>o = .ret r/\h'=HB h i j true ((if need then tx++lpa else tx)++body)) :
  QT Tryz.prog 122 [.ptr i 0 0,.b need,fv] (HB h i j u tx) fun o h'=>o = .ret (.tup [])/\h'=HB h i j true (tx++encB need body):=by
 have f2:=fun x y=>ZN (h:=h) hi hij x y
 have e0:∀u tx,HB h i j u tx=hs2 h i (bw 138 i j u tx) j (.grow 5 1 tx.size):=fun _ _=>rfl
 have f0:∀u tx,(HB h i j u tx)[i]? = some (bw 138 i j u tx):=fun u tx=>f2 _ _
 have f1:∀u tx,bw 138 i j u tx = .cells 138 2 [.agg [if u then .ptr i 0 0 else .v (.pointer none),.sl 1 (Xs tx) (some j)]]:=fun _ _=>rfl
 cases need
 ·rw[QxO,QwJ (by decide)]at hw
  refine Qb Tryz.func122 rfl Tryz.call122 Tryz.ntmps122 Tryz.results122 (by simp) ?_
  repeat (first|refine FunW.ret hw ?_|refine Qn ?_);simp only[go_sem,seval]
  exact .inr ⟨rfl,rfl⟩
 ·rw[QxN,QwN rfl]at hw
  have hsz:tx.size+body.size+2<=140737488355328:=by
   rw[encB,QwN rfl,Qs,Qs]at hs
   have:lpa.size=1:=rfl
   have:rpa.size=1:=rfl
   omega
  have c1:=Qip wTy hij u tx 40 (by omega) h hi hj
  rw[<-e0,<-e0,show((UInt8.toNat 40:Nat):Int)=40 from rfl]at c1
  refine Qao Tryz.func122 rfl Tryz.call122 Tryz.ntmps122 (Qxm Array.toList Tryz.results122) (by simp) ?_
  refine YP (YP (Ys ?_))
  repeat refine Qn ?_;simp only[go_sem,seval]
  show DefW _ _ _ _ _ _
  refine QnS rfl (YP (Ys ?_))
  repeat (first|refine FunW.QuW c1 ?_|refine Qn ?_);simp only[go_sem,seval,f0,f1]
  show DefW _ _ _ _ _ _
  refine QbO 3 rfl rfl rfl ?_
  simp only[go_sem,seval,f0,f1]
  refine⟨_,_,_,rfl,?_⟩
  show DefW _ _ _ _ _ _
  refine Ys ?_
  repeat (first|refine FunW.ret hw ?_|refine Qn ?_);simp only[go_sem,seval]
  simp only[QjW,Qe7]
  refine Z9.mono (Qiq hi hj hij true ((tx++lpa)++body) 41 (by rw[Qs,Qs];have:lpa.size=1:=rfl;omega) .ret) ?_
  rintro m' h' ⟨rfl,rfl⟩
  simp only[AMode.settle,Qe7]
  simp only[go_sem]
  exact .inr ⟨rfl,by rw[encB,QwN rfl,ByteArray.append_assoc,ByteArray.append_assoc,ByteArray.append_assoc]⟩
end Go.Proofs.YtenheconhibonaaGreatDoor.Ab
namespace Go.Proofs.YtenheconhibonaaGreatDoor.Ab
open Go.Proofs
abbrev ZB:ByteArray:={data:=#[44,32]}
def binT(o:Int)(n:ByteArray)(oa oc:Int)(x y:ByteArray):ByteArray:=(encB ((oa==1)&&(o==2)) x++(({data:=#[32]}:ByteArray)++n++{data:=#[32]}))++encB ((oc != 0)&&((oc==1)||(o==2))) y
def X1:Bool->List ByteArray->ByteArray
 |_,[]=>.empty
 |f,x::r=>(if f then x else ZB++x)++X1 false r
def funT(n:ByteArray)(l:List ByteArray):ByteArray:=n++encB (decide (0<l.length)) (X1 true l)
mutual
def T.txt:T->ByteArray
 | .mk k i n l=>if (T.mk k i n l).oper≠0 then(match l.map T.oper,txts l with
   |[oa,oc],[x,y]=>binT (ofB n) n oa oc x y
   |_,_=>.empty)else
  if k=0 then decZ i else if k=1 then vOf (decN i.toNat)else funT n (txts l)
def txts:List T->List ByteArray
 |[]=>[]
 |t::l=>t.txt::txts l
end
theorem Qsi(l:List T):txts l=l.map T.txt:=by
 induction l with
 |nil=>rfl
 |cons t l ih=>rw[txts,ih];rfl
mutual
def T.lex:T->Prop
 | .mk k i n l=>(k=0 -> -9223372036854775807<=i/\i<=9223372036854775807)/\(k=1->0<=i/\i<=1048576)/\l.length<=1000000/\n.size<=1000000/\lexL l
def lexL:List T->Prop
 |[]=>True
 |t::l=>t.lex/\lexL l
end
section
variable{h:AH}{i j:Nat}(hi:i<h.length)(hj:j<h.length)(hij:i≠j)
theorem QgG(h:AH)(i j:Nat)(u:Bool)(tx:ByteArray):(HB h i j u tx).length=h.length:=Zr _ _ _ _ _
theorem Qe8(h:AH)(i j:Nat)(u:Bool)(tx:ByteArray)(L:AH):(HB h i j u tx++L)[h.length]? = L[0]? := Qp5 _ _ _
theorem Qis(h:AH)(i j:Nat)(u:Bool)(tx:ByteArray)(L:AH)(k:Nat):(HB h i j u tx++L)[h.length+k]? = L[k]? := Qn7 _ _ _ _
theorem QpG(h:AH)(i j:Nat)(u:Bool)(tx:ByteArray)(z:AB)(L:AH):(HB h i j u tx++L).set h.length z=HB h i j u tx++L.set 0 z:=Qn6 _ _ _ _
theorem Qrg(h:AH)(i j:Nat)(u:Bool)(tx:ByteArray)(z:AB)(L:AH)(k:Nat):(HB h i j u tx++L).set (h.length+k) z=HB h i j u tx++L.set k z:=Qlr _ _ _ _ _
include hi hj in
theorem Qk4(u:Bool)(tx:ByteArray)(L:AH):HB (h++L) i j u tx=HB h i j u tx++L:=QhR hi hj _ _ _
include hi hij in
theorem QjX(u:Bool)(tx:ByteArray):(HB h i j u tx)[i]? = some (.cells 138 2 [.agg [if u then .ptr i 0 0 else .v (.pointer none),.sl 1 (Xs tx) (some j)]]):=ZN hi hij _ _
include hi hij in
theorem QeO(u:Bool)(tx:ByteArray)(L:AH):(HB h i j u tx++L)[i]? = some (.cells 138 2 [.agg [if u then .ptr i 0 0 else .v (.pointer none),.sl 1 (Xs tx) (some j)]]):=Qi2 hi hij _ _ _
theorem Qsv{u u':Bool}{tx tx':ByteArray}(hij:i≠j)(H:XE (HB h i j u tx)):XE (HB h i j u' tx'):=by
 obtain⟨k,ty,fr,e⟩:=H
 refine⟨k,ty,fr,?_⟩
 have hk:=Qv e
 rw[QgG]at hk
 by_cases h1:i=k
 ·subst h1;rw[HB,ZN hk hij]at e;cases e
 ·by_cases h2:j=k
  ·subst h2;rw[HB,QcD hk]at e;cases e
  ·rw[HB,YD _ _ h1 h2]at e ⊢;exact e
theorem Yk{u u':Bool}{tx tx':ByteArray}{L:AH}{r r':AV}{Q:AV->AH->Prop}(hi:i<h.length)(hj:j<h.length)(hij:i≠j)(hf:Frz (HB h i j u' tx'++L) h.length r r')(hq:Q r' (HB h i j u' tx')):Leaves (HB h i j u tx) (HB h i j u' tx'++L) r Q :=
 QmB hij (QpN hi hj) trivial hf hq
end
def Wri(f:FuncId)(args:List AV)(h:AH)(i j:Nat)(u:Bool)(tx add:ByteArray):Prop :=
 QT Tryz.prog f args (HB h i j u tx) fun o h'=>o = .ret (.tup [])/\h'=HB h i j true (tx++add)
theorem wstr{h:AH}{i j:Nat}(hi:i<h.length)(hj:j<h.length)(hij:i≠j)(u:Bool)(tx s:ByteArray)(hs:tx.size+s.size<=140737488355328) :
  QT Tryz.prog 35 [.ptr i 0 0,.v (.string s)] (HB h i j u tx) fun o h'=>o = .ret (.tup [.i s.size,.v .nilIface])/\h'=HB h i j true (tx++s) :=
 Qcu wTy hij u tx s hs h hi hj
theorem QaJ{p:Prop}(h:2=3):p:=by cases h
theorem Qpe{G G':AH}{p q i:Nat}{t a:T}{r:AV}(hp:G[p]? = some (.cells 134 1 [.ptr i 0 0]))(hq:G[q]? = some (.cells 69 4 [t.av]))(ha:t.args[0]? = some a)
  (H:QT Tryz.prog 86 [.ptr i 0 0,a.av] G fun o h'=>o = .ret r/\h'=G') :
  QT Tryz.prog 125 [.ptr p 0 0,.ptr q 0 0] G fun o h'=>o = .ret (.tup [])/\h'=G':=by
 have e1:t.av = .agg [.i t.kind,.i t.int,.v (.string t.name),.sl 4 (avs t.args) none]:=by cases t;rfl
 have hlt:0<t.args.length:=Qv ha
 have hz:(0:Int)<t.args.length:=by omega
 have hg:=Qaa hlt
 have ea:t.args[0]=a:=by rw[QwK hlt]at ha;injection ha
 rw[ea]at hg
 rw[e1]at hq
 refine Qb Tryz.func125 rfl Tryz.call125 Tryz.ntmps125 Tryz.results125 (by simp) ?_
 repeat first|(first|refine Xl (FunW.call H) QaJ ?_|refine Xu (id:=0) [(0,0),(1,0),(2,0),(3,0),(4,0),(5,2)] mixed (by kernel_rfl) fun K hK=>?_|refine Qn ?_);simp only[go_sem,seval,hp,hq,hz,hg]|refine hK _ ?_;clear hK
 simp only[go_sem]
 exact .inr ⟨rfl,rfl⟩
theorem Qpf{G G':AH}{p q i:Nat}{t a:T}{r:AV}(hp:G[p]? = some (.cells 134 1 [.ptr i 0 0]))(hq:G[q]? = some (.cells 69 4 [t.av]))(ha:t.args[1]? = some a)
  (H:QT Tryz.prog 86 [.ptr i 0 0,a.av] G fun o h'=>o = .ret r/\h'=G') :
  QT Tryz.prog 126 [.ptr p 0 0,.ptr q 0 0] G fun o h'=>o = .ret (.tup [])/\h'=G':=by
 have e1:t.av = .agg [.i t.kind,.i t.int,.v (.string t.name),.sl 4 (avs t.args) none]:=by cases t;rfl
 have hlt:1<t.args.length:=Qv ha
 have hz:(1:Int)<t.args.length:=by omega
 have z1:(0:Int)<=1:=by decide
 have hg:=Qaa hlt
 have ea:t.args[1]=a:=by rw[QwK hlt]at ha;injection ha
 rw[ea]at hg
 rw[e1]at hq
 refine Qb Tryz.func126 rfl Tryz.call126 Tryz.ntmps126 Tryz.results126 (by simp) ?_
 repeat first|(first|refine Xl (FunW.call H) QaJ ?_|refine Xu (id:=0) [(0,0),(1,0),(2,0),(3,0),(4,0),(5,2)] mixed (by kernel_rfl) fun K hK=>?_|refine Qn ?_);simp only[go_sem,seval,hp,hq,hz,z1,hg]|refine hK _ ?_;clear hK
 simp only[go_sem]
 exact .inr ⟨rfl,rfl⟩
theorem Qg3(f:Bool)(l:List ByteArray):∀x r,l=x::r->(X1 f l).size=(if f then 0 else 2)+x.size+(X1 false r).size:=by
 rintro x r rfl
 rw[X1,Qs]
 cases f
 ·simp only[QvT,QxC,Qs];have:ZB.size=2:=rfl;omega
 ·simp
theorem QiX{h:AH}{i j:Nat}(hi:i<h.length)(hj:j<h.length)(hij:i≠j)(l:List T){p q:Nat}(hp:p<h.length)(hq:q<h.length)(hpi:i≠p)(hpj:j≠p)(hqi:i≠q)(hqj:j≠q)
  (gp:h[p]? = some (.cells 134 1 [.ptr i 0 0])) (gq:h[q]? = some (.cells 44 1 [.sl 4 (avs l) none])) (hl:l.length<=1000000)
  (ih:∀t∈l,∀(h:AH),i<h.length->j<h.length->XE (HB h i j true (.empty))->∀tx:ByteArray,tx.size+t.txt.size<=140737488355328->Wri 86 [.ptr i 0 0,t.av] h i j true tx t.txt)
  (hG:XE (HB h i j true (.empty))) (tx:ByteArray) (hs:tx.size+(X1 true (txts l)).size<=140737488355328) :
  Wri 123 [.ptr q 0 0,.ptr p 0 0] h i j true tx (X1 true (txts l)):=by
 have k0:∀u tx L,(HB h i j u tx++L)[p]? = some (.cells 134 1 [.ptr i 0 0]):=fun u tx L=>by
  rw[QwI (by rw[QgG];exact hp),HB,YD _ _ hpi hpj,gp]
 have k1:∀u tx,(HB h i j u tx)[q]? = some (.cells 44 1 [.sl 4 (avs l) none]):=fun u tx=>by
  rw[HB,YD _ _ hqi hqj,gq]
 have f1:=QgG h i j
 have f2:=fun u tx L=>Qe8 h i j u tx L
 have f3:=fun u tx L=>Qis h i j u tx L
 have f4:=fun u tx z L=>QpG h i j u tx z L
 have f5:=fun u tx z L=>Qrg h i j u tx z L
 have f6:=fun u tx L=>QeO (h:=h) hi hij u tx L
 refine Qb Tryz.func123 rfl Tryz.call123 Tryz.ntmps123 Tryz.results123 (by simp) ?_
 repeat refine Qn ?_;simp only[go_sem,seval,k1]
 obtain⟨I,hI⟩:∃I:Nat->AS->Prop,I=fun m' s=>∃(k:Nat) (cur:ByteArray),m'=l.length - k/\k<=l.length/\cur++X1 (decide (k=0)) (txts (l.drop k))=tx++X1 true (txts l)/\s.tm 0 = .ptr q 0 0/\s.tm 1 = .ptr p 0 0/\s.tm 4 = .sl 4 (avs l) none/\s.tm 5 = .i l.length/\s.tm 6 = .i k/\(∃L,s.h=HB h i j true cur++L):=⟨_,rfl⟩;refine QZ I ?_ (m:=l.length) ?_
 ·intro m' s hs;rw[hI]at hs;obtain⟨tm,hp⟩:=s;dsimp only at hs;obtain⟨k,cur,rfl,hk,he,t0,t1,t4,t5,t6,L,rfl⟩:=hs
  by_cases hlt:k<l.length
  ·have hg:=Qaa hlt
   have z1:(k:Int)<l.length:=by omega
   have hsz:cur.size+(X1 (decide (k=0)) (txts (l.drop k))).size=tx.size+(X1 true (txts l)).size:=by rw[<-Qs,he,Qs]
   have hd:txts (l.drop k)=(l[k]).txt::txts (l.drop (k+1)):=by rw[QwU hlt];rfl
   have hcm:ZB.size=2:=rfl
   rw[hd,X1,Qs]at hsz
   rw[hd,X1]at he
   have gapp:=fun(u:Bool) (tx:ByteArray) (L:AH)=>Qk4 (h:=h) (i:=i) (j:=j) hi hj u tx L
   have glen:∀L:AH,i<(h++L).length/\j<(h++L).length:=fun L=>by rw[QwG];omega
   by_cases hk0:k=0
   ·rw[Qw7 hk0,QwN rfl]at hsz he
    have z2:¬(k:Int)>0:=by omega
    have c:=ih l[k] (Qxk hlt) (h++(L++[AB.cells 69 4 [l[k].av]])) (glen _).1 (glen _).2 (by rw[gapp];exact HasG.app hG _) cur (by omega)
    rw[Wri,gapp,gapp]at c
    repeat (first|refine FunW.QuW c ?_|refine Qn ?_);simp only[go_sem,seval,t1,t4,t5,t6,z1,z2,hg,k0,f1,f3,f5]
    refine Xo.mk (m':=l.length - (k+1)) (by omega) ?_
    rw[hI]
    refine⟨k+1,cur++(l[k]).txt,rfl,hlt,?_,t0,t1,t4,t5,?_,_,rfl⟩
    ·rw[QwY (Nat.succ_ne_zero k),ByteArray.append_assoc];exact he
    ·simp only[upd,↓reduceIte]
     rw[Xe (by omega)]
   ·rw[QwY hk0,QwJ (by decide),Qs]at hsz
    rw[QwY hk0,QwJ (by decide)]at he
    have z2:(k:Int)>0:=by omega
    have c1:=wstr (h:=h++(L++[AB.cells 69 4 [l[k].av]])) (glen _).1 (glen _).2 hij true cur ZB (by omega)
    rw[gapp,gapp]at c1
    have c:=ih l[k] (Qxk hlt) (h++(L++[AB.cells 69 4 [l[k].av]])) (glen _).1 (glen _).2 (by rw[gapp];exact HasG.app hG _) (cur++ZB) (by rw[Qs];omega)
    rw[Wri,gapp,gapp]at c
    repeat (first|refine FunW.QuW c ?_|refine FunW.QuW c1 ?_|refine Qn ?_);simp only[go_sem,seval,t1,t4,t5,t6,z1,z2,hg,k0,f1,f3,f5,f6]
    refine Xo.mk (m':=l.length - (k+1)) (by omega) ?_
    rw[hI]
    refine⟨k+1,(cur++ZB)++(l[k]).txt,rfl,hlt,?_,t0,t1,t4,t5,?_,_,rfl⟩
    ·rw[QwY (Nat.succ_ne_zero k)];simp only[ByteArray.append_assoc]at he ⊢;exact he
    ·simp only[upd,↓reduceIte]
     rw[Xe (by omega)]
  ·have hkn:k=l.length:=by omega
   subst hkn
   have z1:¬((l.length:Nat):Int)<l.length:=by omega
   rw[Qxb,txts,X1,ByteArray.append_empty]at he
   repeat refine Qn ?_;simp only[go_sem,seval,t5,t6,z1]
   exact Yk hi hj hij (.keep (.tup _ fun x hx=>by cases hx)) ⟨rfl,by rw[he]⟩
 ·rw[hI]
  exact⟨0,tx,rfl,by omega,rfl,rfl,rfl,rfl,rfl,rfl,[],(Qwi _).symm⟩
theorem Qgj(l:List T):(txts l).length=l.length:=by rw[Qsi,Qxj]
theorem QaZ{h:AH}{i j:Nat}(hi:i<h.length)(hj:j<h.length)(hij:i≠j)(l:List T)(hl:l.length<=1000000)(s:ByteArray)
  (ih:∀t∈l,∀(h:AH),i<h.length->j<h.length->XE (HB h i j true (.empty))->∀tx:ByteArray,tx.size+t.txt.size<=140737488355328->Wri 86 [.ptr i 0 0,t.av] h i j true tx t.txt)
  (hG:XE (HB h i j true (.empty))) (u:Bool) (tx:ByteArray) (hs:tx.size+(funT s (txts l)).size<=140737488355328) :
  Wri 84 [.ptr i 0 0,.v (.string s),.sl 4 (avs l) none] h i j u tx (funT s (txts l)):=by
 obtain⟨L,hL⟩:∃L:AH,L=[AB.cells 134 1 [.ptr i 0 0],AB.cells 44 1 [.sl 4 (avs l) none]]:=⟨_,rfl⟩
 have hlL:(h++L).length=h.length+2:=by rw[hL];simp
 have hi':i<(h++L).length:=by omega
 have hj':j<(h++L).length:=by omega
 have gapp:=fun(u:Bool) (tx:ByteArray) (L:AH)=>Qk4 (h:=h) (i:=i) (j:=j) hi hj u tx L
 have hsz:(funT s (txts l)).size=s.size+(encB (decide (0<(txts l).length)) (X1 true (txts l))).size:=by rw[funT,Qs]
 rw[Qgj]at hsz
 obtain⟨body,hbody⟩:∃b,b=X1 true (txts l):=⟨_,rfl⟩
 rw[<-hbody]at hsz
 have hbs:body.size<=(encB (decide (0<l.length)) body).size:=by
  rw[encB];split
  ·rw[Qs,Qs];omega
  ·exact QwP _
 have c1:=wstr (h:=h++L) hi' hj' hij u tx s (by omega)
 rw[gapp,gapp,hL]at c1
 have gp:(h++L)[h.length]? = some (.cells 134 1 [.ptr i 0 0]):=by rw[hL];simp
 have gq:(h++L)[h.length+1]? = some (.cells 44 1 [.sl 4 (avs l) none]):=by rw[hL];simp
 have hn:decide ((l.length:Int)>0)=decide (0<l.length):=by rw[Bool.eq_iff_iff];simp
 have hx:((if decide (0<l.length)=true then tx++s++lpa else tx++s)).size+body.size<=140737488355328:=by
  by_cases h0:0<l.length
  ·rw[QwN (Qw7 h0),Qs,Qs]
   rw[encB,QwN (Qw7 h0),Qs,Qs]at hsz
   omega
  ·rw[QwJ (by simpa using h0),Qs]
   omega
 have hw:=QiX (h:=h++L) hi' hj' hij l (p:=h.length) (q:=h.length+1) (by omega) (by omega) (by omega) (by omega) (by omega) (by omega) gp gq hl ih (by rw[gapp];exact HasG.app hG _)
  (if decide (0<l.length)=true then tx++s++lpa else tx++s) (by rw[<-hbody];exact hx)
 rw[<-hbody]at hw
 have c2:=Qca (h:=h++L) hi' hj' hij (decide (0<l.length)) true (tx++s) body (fv:=.fn (.func 123) [] [.ptr (h.length+1) 0 0,.ptr h.length 0 0]) (by rw[Qs];omega) (FunW.fn hw)
 rw[gapp,gapp,hL]at c2
 have f2:=fun u tx L=>Qe8 h i j u tx L
 have f3:=fun u tx L=>Qis h i j u tx L
 have f6:=fun u tx L=>QeO (h:=h) hi hij u tx L
 have f1:=QgG h i j
 refine Qb Tryz.func84 rfl Tryz.call84 Tryz.ntmps84 Tryz.results84 (by simp) ?_
 repeat (first|refine FunW.QuW c1 ?_|refine FunW.QuW c2 ?_|refine Qn ?_);simp only[go_sem,seval,f1,f2,f3,f6,hn]
 exact Yk hi hj hij (.keep (.tup _ fun x hx=>by cases hx)) ⟨rfl,by rw[funT,Qgj,<-hbody,ByteArray.append_assoc]⟩
end Go.Proofs.YtenheconhibonaaGreatDoor.Ab
namespace Go.Proofs.YtenheconhibonaaGreatDoor.Ab
open Go.Proofs
def TIh(i j:Nat)(t:T):Prop:=∀(h:AH),i<h.length->j<h.length->XE (HB h i j true (.empty))->∀(u:Bool) (tx:ByteArray),tx.size+t.txt.size<=140737488355328->Wri 86 [.ptr i 0 0,t.av] h i j u tx t.txt
theorem QnT(b:Bool)(x tx:ByteArray):(if b=true then tx++lpa else tx).size+x.size<=tx.size+(encB b x).size:=by
 rw[encB];split
 ·rw[Qs,Qs,Qs];omega
 ·exact QwP _
theorem QqI{h:AH}{i j:Nat}(hi:i<h.length)(hj:j<h.length)(hij:i≠j)(n:ByteArray)(x:Int)(a c:T)(hn:n.size<=1000000)(ho:ofB n≠0)(hla:a.args.length<=1000000)(hlc:c.args.length<=1000000)(iha:TIh i j a)(ihc:TIh i j c)
  (hG:XE (HB h i j true (.empty))) (u:Bool) (tx:ByteArray) (hs:tx.size+(binT (ofB n) n a.oper c.oper a.txt c.txt).size<=140737488355328) :
  Wri 86 [.ptr i 0 0,(T.mk 2 x n [a,c]).av] h i j u tx (binT (ofB n) n a.oper c.oper a.txt c.txt):=by
 obtain⟨t,ht⟩:∃t,t=T.mk 2 x n [a,c]:=⟨_,rfl⟩
 have eo:t.oper=ofB n:=by rw[ht];rfl
 have eav:t.av = .agg [.i 2,.i x,.v (.string n),.sl 4 (avs [a,c]) none]:=by rw[ht];rfl
 obtain⟨L,hL⟩:∃L:AH,L=[AB.cells 134 1 [.ptr i 0 0],AB.cells 69 4 [t.av]]:=⟨_,rfl⟩
 have hlL:(h++L).length=h.length+2:=by rw[hL];simp
 have hi':i<(h++L).length:=by omega
 have hj':j<(h++L).length:=by omega
 have gapp:=fun(u:Bool) (tx:ByteArray) (L:AH)=>Qk4 (h:=h) (i:=i) (j:=j) hi hj u tx L
 have hG':XE (HB (h++L) i j true (.empty)):=by rw[gapp];exact HasG.app hG _
 have gp:∀u tx,(HB (h++L) i j u tx)[h.length]? = some (.cells 134 1 [.ptr i 0 0]):=fun u tx=>by rw[gapp,Qe8,hL];rfl
 have gq:∀u tx,(HB (h++L) i j u tx)[h.length+1]? = some (.cells 69 4 [t.av]):=fun u tx=>by rw[gapp,Qis,hL];rfl
 have ct:=QcH t (by rw[ht];simp[maxLen,T.args])
 rw[eo,eav]at ct
 have ca:=QcH a (by simp only[maxLen];omega)
 have cc:=QcH c (by simp only[maxLen];omega)
 obtain⟨o,eoo⟩:∃o,o=ofB n:=⟨_,rfl⟩
 obtain⟨oa,eoa⟩:∃o,o=a.oper:=⟨_,rfl⟩
 obtain⟨oc,eoc⟩:∃o,o=c.oper:=⟨_,rfl⟩
 rw[<-eoo]at ct
 rw[<-eoa]at ca
 rw[<-eoc]at cc
 rw[<-eoo,<-eoa,<-eoc]at hs ⊢
 rw[<-eoo]at ho
 have hm:=hs
 simp only[binT,Qs]at hm
 have hsp:({data:=#[32]}:ByteArray).size=1:=rfl
 -- the first operand
 have hw1:=fun(u:Bool) (q:Bool) (tx':ByteArray) (hq:tx'.size+a.txt.size<=140737488355328)=>Qpe (p:=h.length) (q:=h.length+1) (t:=t) (a:=a) (gp u tx') (gq u tx') (by rw[ht];rfl) (iha (h++L) hi' hj' hG' u tx' hq)
 have hw2:=fun(u:Bool) (q:Bool) (tx':ByteArray) (hq:tx'.size+c.txt.size<=140737488355328)=>Qpf (p:=h.length) (q:=h.length+1) (t:=t) (a:=c) (gp u tx') (gq u tx') (by rw[ht];rfl) (ihc (h++L) hi' hj' hG' u tx' hq)
 have e1:=QnT ((oa==1)&&(o==2)) a.txt tx
 have c1:=Qca (h:=h++L) hi' hj' hij ((oa==1)&&(o==2)) u tx a.txt (fv:=.fn (.func 125) [] [.ptr h.length 0 0,.ptr (h.length+1) 0 0]) (by omega) (FunW.fn (hw1 _ true _ (by omega)))
 obtain⟨tx1,etx1⟩:∃z,z=tx++encB ((oa==1)&&(o==2)) a.txt:=⟨_,rfl⟩
 rw[<-etx1]at c1
 have hsz1:tx1.size=tx.size+(encB ((oa==1)&&(o==2)) a.txt).size:=by rw[etx1,Qs]
 have c2:=wstr (h:=h++L) hi' hj' hij true tx1 (({data:=#[32]}:ByteArray)++n++{data:=#[32]}) (by simp only[Qs];omega)
 obtain⟨tx2,etx2⟩:∃z,z=tx1++(({data:=#[32]}:ByteArray)++n++{data:=#[32]}):=⟨_,rfl⟩
 rw[<-etx2]at c2
 have hsz2:tx2.size=tx1.size+(1+n.size+1):=by rw[etx2];simp only[Qs,hsp]
 have e3:=QnT ((oc != 0)&&((oc==1)||(o==2))) c.txt tx2
 have c3:=Qca (h:=h++L) hi' hj' hij ((oc != 0)&&((oc==1)||(o==2))) true tx2 c.txt (fv:=.fn (.func 126) [] [.ptr h.length 0 0,.ptr (h.length+1) 0 0]) (by omega) (FunW.fn (hw2 _ true _ (by omega)))
 have efin:tx2++encB ((oc != 0)&&((oc==1)||(o==2))) c.txt=tx++binT o n oa oc a.txt c.txt:=by
  rw[etx2,etx1,binT];simp only[ByteArray.append_assoc]
 rw[efin]at c3
 rw[gapp,gapp,hL,eav]at c1 c2 c3
 have f1:=QgG h i j
 have f2:=fun u tx L=>Qe8 h i j u tx L
 have f3:=fun u tx L=>Qis h i j u tx L
 have f6:=fun u tx L=>QeO (h:=h) hi hij u tx L
 have hsa1:=fun xo yo=>QaL Tryz.prog 9 xo yo ({data:=#[32]}:ByteArray) n (by omega)
 have hsa2:=fun xo yo=>QaL Tryz.prog 9 xo yo (({data:=#[32]}:ByteArray)++n) {data:=#[32]} (by rw[Qs];omega)
 have ga:(avs [a,c])[0]? = some a.av:=rfl
 have gc:(avs [a,c])[1]? = some c.av:=rfl
 have hav:(T.mk 2 x n [a,c]).av = .agg [.i 2,.i x,.v (.string n),.sl 4 (avs [a,c]) none]:=rfl
 have ho':(o != 0)=true:=by simpa using ho
 rw[hav]
 have hll:(avs [a,c]).length=2:=rfl
 have z0:((0:Int)<=1)=True:=by simp
 have z1:((0:Int)<((2:Nat):Int))=True:=by simp
 have z2:((1:Int)<((2:Nat):Int))=True:=by simp
 obtain⟨q1,eq1⟩:∃z,z=((oa==1)&&(o==2)):=⟨_,rfl⟩
 obtain⟨q3,eq3⟩:∃z,z=((oc != 0)&&((oc==1)||(o==2))):=⟨_,rfl⟩
 rw[<-eq1]at c1
 rw[<-eq3]at c3
 cases b1:(oa==1)
 ·cases b2:(o==2)
  ·cases b3:(oc != 0)
   ·have hq1:q1=false:=by rw[eq1,b1,b2];rfl
    have hq3:q3=false:=by rw[eq3,b2,b3];rfl
    rw[hq1]at c1
    rw[hq3]at c3
    refine Qb Tryz.func86 rfl Tryz.call86 Tryz.ntmps86 Tryz.results86 (by simp) ?_
    repeat first|(first|with_reducible (first|refine Qa fun K E hK hE=>?_|refine Ql fun K E hK hE=>?_|refine Qy ct ?_|refine QO ca ?_|refine QO cc ?_|refine FunW.QuW c1 ?_|refine FunW.QuW c3 ?_|refine Xl (FunW.call c2) QaJ ?_)|refine QH (id:=4) [(0,0),(1,0),(2,0),(3,0),(4,1),(5,0),(6,0),(7,0),(8,0),(9,1),(10,0),(11,0)] mixed (by kernel_rfl) fun K hK=>?_|refine QH (id:=6) [(0,0),(1,0),(2,0),(3,0),(4,0),(5,0),(6,0),(7,2)] mixed (by kernel_rfl) fun K hK=>?_);simp only[XQ,Xz,Yo,Qh,Qe,Qk,OpW,Q7,aop,undef,AS.ev,Qg,Qu,QC,QI,Qr,QG,QvW,Qwf,AV.QuX,Qo,XH,QD,Qv9,Qwa,QE,QA,QP,XG,Qwb,↓reduceIte,Qv2,Qv3,Nat.reduceAdd,Nat.reduceLT,Nat.reduceLeDiff,Nat.reduceEqDiff,Qv1,Qwe,Qwn,Qm,QQ,QR,QJ,aBin,hlen,happ,QvP,QvQ,QvR,QvU,QvS,Qv4,Qv8,Qwh,Qwg,Q1,YH,Int.toNat_zero,Int.toNat_one,QvT,beq_true,T.QuV,T.QuY,ti9,ti44,ei44,ti69,Yx,Yh,Qeh,Zq,QwC,Q2,f1,f2,f3,f6,ho',hll,ga,gc,z0,z1,z2,b1,b3,hsa1,hsa2,T.QuY,T.QuV]|with_reducible (first|refine Qj ?_|refine Qt ?_|refine hK _ ?_;clear hK|refine Qi rfl ?_;simp only[↓reduceIte])
    simp only[QvR,QvV,List.mapM_nil,Option.pure_def,QvR,QS,Qq,QvZ]
    exact Yk hi hj hij (.keep (.tup _ fun x hx=>by cases hx)) ⟨rfl,rfl⟩
   ·cases b4:(oc==1)
    ·have hq1:q1=false:=by rw[eq1,b1,b2];rfl
     have hq3:q3=false:=by rw[eq3,b2,b3,b4];rfl
     rw[hq1]at c1
     rw[hq3]at c3
     refine Qb Tryz.func86 rfl Tryz.call86 Tryz.ntmps86 Tryz.results86 (by simp) ?_
     repeat first|(first|with_reducible (first|refine Qa fun K E hK hE=>?_|refine Ql fun K E hK hE=>?_|refine Qy ct ?_|refine QO ca ?_|refine QO cc ?_|refine FunW.QuW c1 ?_|refine FunW.QuW c3 ?_|refine Xl (FunW.call c2) QaJ ?_)|refine QH (id:=4) [(0,0),(1,0),(2,0),(3,0),(4,1),(5,0),(6,0),(7,0),(8,0),(9,1),(10,0),(11,0)] mixed (by kernel_rfl) fun K hK=>?_|refine QH (id:=6) [(0,0),(1,0),(2,0),(3,0),(4,0),(5,0),(6,0),(7,2)] mixed (by kernel_rfl) fun K hK=>?_);simp only[XQ,Xz,Yo,Qh,Qe,Qk,OpW,Q7,aop,undef,AS.ev,Qg,Qu,QC,QI,Qr,QG,QvW,Qwf,AV.QuX,Qo,XH,QD,Qv9,Qwa,QE,QA,QP,XG,Qwb,↓reduceIte,Qv2,Qv3,Nat.reduceAdd,Nat.reduceLT,Nat.reduceLeDiff,Nat.reduceEqDiff,Qv1,Qwe,Qwn,Qm,QQ,QR,QJ,aBin,hlen,happ,QvP,QvQ,QvR,QvU,QvS,Qv4,Qv8,Qwh,Qwg,Q1,YH,QvX,Int.toNat_zero,Int.toNat_one,QvT,beq_true,T.QuV,T.QuY,ti9,ti44,ei44,ti69,Yx,Yh,Qeh,Zq,QwC,Q2,f1,f2,f3,f6,ho',hll,ga,gc,z0,z1,z2,b1,b2,b3,b4,hsa1,hsa2,T.QuY,T.QuV]|with_reducible (first|refine Qj ?_|refine Qt ?_|refine hK _ ?_;clear hK|refine Qi rfl ?_;simp only[↓reduceIte])
     simp only[QvR,QvV,List.mapM_nil,Option.pure_def,QvR,QS,Qq,QvZ]
     exact Yk hi hj hij (.keep (.tup _ fun x hx=>by cases hx)) ⟨rfl,rfl⟩
    ·have hq1:q1=false:=by rw[eq1,b1,b2];rfl
     have hq3:q3=true:=by rw[eq3,b2,b3,b4];rfl
     rw[hq1]at c1
     rw[hq3]at c3
     refine Qb Tryz.func86 rfl Tryz.call86 Tryz.ntmps86 Tryz.results86 (by simp) ?_
     repeat first|(first|with_reducible (first|refine Qa fun K E hK hE=>?_|refine Ql fun K E hK hE=>?_|refine Qy ct ?_|refine QO ca ?_|refine QO cc ?_|refine FunW.QuW c1 ?_|refine FunW.QuW c3 ?_|refine Xl (FunW.call c2) QaJ ?_)|refine QH (id:=4) [(0,0),(1,0),(2,0),(3,0),(4,1),(5,0),(6,0),(7,0),(8,0),(9,1),(10,0),(11,0)] mixed (by kernel_rfl) fun K hK=>?_|refine QH (id:=6) [(0,0),(1,0),(2,0),(3,0),(4,0),(5,0),(6,0),(7,2)] mixed (by kernel_rfl) fun K hK=>?_);simp only[XQ,Xz,Yo,Qh,Qe,Qk,OpW,Q7,aop,undef,AS.ev,Qg,Qu,QC,QI,Qr,QG,QvW,Qwf,AV.QuX,Qo,XH,QD,Qv9,Qwa,QE,QA,QP,XG,Qwb,Qwc,↓reduceIte,Qv2,Qv3,Nat.reduceAdd,Nat.reduceLT,Nat.reduceLeDiff,Nat.reduceEqDiff,Qv1,Qwe,Qwn,Qm,QQ,QR,QJ,aBin,hlen,happ,QvP,QvQ,QvR,QvU,QvS,Qv4,Qv8,Qwh,Qwg,Q1,YH,QvX,Int.toNat_zero,Int.toNat_one,QvT,beq_true,beq_false,T.QuV,T.QuY,ti9,ti44,ei44,ti69,Yx,Yh,Qeh,Zq,QwC,Q2,f1,f2,f3,f6,ho',hll,ga,gc,z0,z1,z2,b1,b3,b4,hsa1,hsa2,T.QuY,T.QuV]|with_reducible (first|refine Qj ?_|refine Qt ?_|refine hK _ ?_;clear hK|refine Qi rfl ?_;simp only[↓reduceIte])
     simp only[QvR,QvV,List.mapM_nil,Option.pure_def,QvR,QS,Qq,QvZ]
     exact Yk hi hj hij (.keep (.tup _ fun x hx=>by cases hx)) ⟨rfl,rfl⟩
  ·cases b3:(oc != 0)
   ·have hq1:q1=false:=by rw[eq1,b1,b2];rfl
    have hq3:q3=false:=by rw[eq3,b2,b3];rfl
    rw[hq1]at c1
    rw[hq3]at c3
    refine Qb Tryz.func86 rfl Tryz.call86 Tryz.ntmps86 Tryz.results86 (by simp) ?_
    repeat first|(first|with_reducible (first|refine Qa fun K E hK hE=>?_|refine Ql fun K E hK hE=>?_|refine Qy ct ?_|refine QO ca ?_|refine QO cc ?_|refine FunW.QuW c1 ?_|refine FunW.QuW c3 ?_|refine Xl (FunW.call c2) QaJ ?_)|refine QH (id:=4) [(0,0),(1,0),(2,0),(3,0),(4,1),(5,0),(6,0),(7,0),(8,0),(9,1),(10,0),(11,0)] mixed (by kernel_rfl) fun K hK=>?_|refine QH (id:=6) [(0,0),(1,0),(2,0),(3,0),(4,0),(5,0),(6,0),(7,2)] mixed (by kernel_rfl) fun K hK=>?_);simp only[XQ,Xz,Yo,Qh,Qe,Qk,OpW,Q7,aop,undef,AS.ev,Qg,Qu,QC,QI,Qr,QG,QvW,Qwf,AV.QuX,Qo,XH,QD,Qv9,Qwa,QE,QA,QP,XG,Qwb,↓reduceIte,Qv2,Qv3,Nat.reduceAdd,Nat.reduceLT,Nat.reduceLeDiff,Nat.reduceEqDiff,Qv1,Qwe,Qwn,Qm,QQ,QR,QJ,aBin,hlen,happ,QvP,QvQ,QvR,QvU,QvS,Qv4,Qv8,Qwh,Qwg,Q1,YH,Int.toNat_zero,Int.toNat_one,QvT,beq_true,T.QuV,T.QuY,ti9,ti44,ei44,ti69,Yx,Yh,Qeh,Zq,QwC,Q2,f1,f2,f3,f6,ho',hll,ga,gc,z0,z1,z2,b1,b3,hsa1,hsa2,T.QuY,T.QuV]|with_reducible (first|refine Qj ?_|refine Qt ?_|refine hK _ ?_;clear hK|refine Qi rfl ?_;simp only[↓reduceIte])
    simp only[QvR,QvV,List.mapM_nil,Option.pure_def,QvR,QS,Qq,QvZ]
    exact Yk hi hj hij (.keep (.tup _ fun x hx=>by cases hx)) ⟨rfl,rfl⟩
   ·cases b4:(oc==1)
    ·have hq1:q1=false:=by rw[eq1,b1,b2];rfl
     have hq3:q3=true:=by rw[eq3,b2,b3,b4];rfl
     rw[hq1]at c1
     rw[hq3]at c3
     refine Qb Tryz.func86 rfl Tryz.call86 Tryz.ntmps86 Tryz.results86 (by simp) ?_
     repeat first|(first|with_reducible (first|refine Qa fun K E hK hE=>?_|refine Ql fun K E hK hE=>?_|refine Qy ct ?_|refine QO ca ?_|refine QO cc ?_|refine FunW.QuW c1 ?_|refine FunW.QuW c3 ?_|refine Xl (FunW.call c2) QaJ ?_)|refine QH (id:=4) [(0,0),(1,0),(2,0),(3,0),(4,1),(5,0),(6,0),(7,0),(8,0),(9,1),(10,0),(11,0)] mixed (by kernel_rfl) fun K hK=>?_|refine QH (id:=6) [(0,0),(1,0),(2,0),(3,0),(4,0),(5,0),(6,0),(7,2)] mixed (by kernel_rfl) fun K hK=>?_);simp only[XQ,Xz,Yo,Qh,Qe,Qk,OpW,Q7,aop,undef,AS.ev,Qg,Qu,QC,QI,Qr,QG,QvW,Qwf,AV.QuX,Qo,XH,QD,Qv9,Qwa,QE,QA,QP,XG,Qwb,↓reduceIte,Qv2,Qv3,Nat.reduceAdd,Nat.reduceLT,Nat.reduceLeDiff,Nat.reduceEqDiff,Qv1,Qwe,Qwn,Qm,QQ,QR,QJ,aBin,hlen,happ,QvP,QvQ,QvR,QvU,QvS,Qv4,Qv8,Qwh,Qwg,Q1,YH,QvX,Int.toNat_zero,Int.toNat_one,QvT,beq_true,T.QuV,T.QuY,ti9,ti44,ei44,ti69,Yx,Yh,Qeh,Zq,QwC,Q2,f1,f2,f3,f6,ho',hll,ga,gc,z0,z1,z2,b1,b2,b3,b4,hsa1,hsa2,T.QuY,T.QuV]|with_reducible (first|refine Qj ?_|refine Qt ?_|refine hK _ ?_;clear hK|refine Qi rfl ?_;simp only[↓reduceIte])
     simp only[QvR,QvV,List.mapM_nil,Option.pure_def,QvR,QS,Qq,QvZ]
     exact Yk hi hj hij (.keep (.tup _ fun x hx=>by cases hx)) ⟨rfl,rfl⟩
    ·have hq1:q1=false:=by rw[eq1,b1,b2];rfl
     have hq3:q3=true:=by rw[eq3,b2,b3,b4];rfl
     rw[hq1]at c1
     rw[hq3]at c3
     refine Qb Tryz.func86 rfl Tryz.call86 Tryz.ntmps86 Tryz.results86 (by simp) ?_
     repeat first|(first|with_reducible (first|refine Qa fun K E hK hE=>?_|refine Ql fun K E hK hE=>?_|refine Qy ct ?_|refine QO ca ?_|refine QO cc ?_|refine FunW.QuW c1 ?_|refine FunW.QuW c3 ?_|refine Xl (FunW.call c2) QaJ ?_)|refine QH (id:=4) [(0,0),(1,0),(2,0),(3,0),(4,1),(5,0),(6,0),(7,0),(8,0),(9,1),(10,0),(11,0)] mixed (by kernel_rfl) fun K hK=>?_|refine QH (id:=6) [(0,0),(1,0),(2,0),(3,0),(4,0),(5,0),(6,0),(7,2)] mixed (by kernel_rfl) fun K hK=>?_);simp only[XQ,Xz,Yo,Qh,Qe,Qk,OpW,Q7,aop,undef,AS.ev,Qg,Qu,QC,QI,Qr,QG,QvW,Qwf,AV.QuX,Qo,XH,QD,Qv9,Qwa,QE,QA,QP,XG,Qwb,Qwc,↓reduceIte,Qv2,Qv3,Nat.reduceAdd,Nat.reduceLT,Nat.reduceLeDiff,Nat.reduceEqDiff,Qv1,Qwe,Qwn,Qm,QQ,QR,QJ,aBin,hlen,happ,QvP,QvQ,QvR,QvU,QvS,Qv4,Qv8,Qwh,Qwg,Q1,YH,QvX,Int.toNat_zero,Int.toNat_one,QvT,beq_true,beq_false,T.QuV,T.QuY,ti9,ti44,ei44,ti69,Yx,Yh,Qeh,Zq,QwC,Q2,f1,f2,f3,f6,ho',hll,ga,gc,z0,z1,z2,b1,b3,b4,hsa1,hsa2,T.QuY,T.QuV]|with_reducible (first|refine Qj ?_|refine Qt ?_|refine hK _ ?_;clear hK|refine Qi rfl ?_;simp only[↓reduceIte])
     simp only[QvR,QvV,List.mapM_nil,Option.pure_def,QvR,QS,Qq,QvZ]
     exact Yk hi hj hij (.keep (.tup _ fun x hx=>by cases hx)) ⟨rfl,rfl⟩
 ·cases b2:(o==2)
  ·cases b3:(oc != 0)
   ·have hq1:q1=false:=by rw[eq1,b1,b2];rfl
    have hq3:q3=false:=by rw[eq3,b2,b3];rfl
    rw[hq1]at c1
    rw[hq3]at c3
    refine Qb Tryz.func86 rfl Tryz.call86 Tryz.ntmps86 Tryz.results86 (by simp) ?_
    repeat first|(first|with_reducible (first|refine Qa fun K E hK hE=>?_|refine Ql fun K E hK hE=>?_|refine Qy ct ?_|refine QO ca ?_|refine QO cc ?_|refine FunW.QuW c1 ?_|refine FunW.QuW c3 ?_|refine Xl (FunW.call c2) QaJ ?_)|refine QH (id:=4) [(0,0),(1,0),(2,0),(3,0),(4,1),(5,0),(6,0),(7,0),(8,0),(9,1),(10,0),(11,0)] mixed (by kernel_rfl) fun K hK=>?_|refine QH (id:=6) [(0,0),(1,0),(2,0),(3,0),(4,0),(5,0),(6,0),(7,2)] mixed (by kernel_rfl) fun K hK=>?_);simp only[XQ,Xz,Yo,Qh,Qe,Qk,OpW,Q7,aop,undef,AS.ev,Qg,Qu,QC,QI,Qr,QG,QvW,Qwf,AV.QuX,Qo,XH,QD,Qv9,Qwa,QE,QA,QP,XG,Qwb,↓reduceIte,Qv2,Qv3,Nat.reduceAdd,Nat.reduceLT,Nat.reduceLeDiff,Nat.reduceEqDiff,Qv1,Qwe,Qwn,Qm,QQ,QR,QJ,aBin,hlen,happ,QvP,QvQ,QvR,QvU,QvS,Qv4,Qv8,Qwh,Qwg,Q1,YH,QvX,Int.toNat_zero,Int.toNat_one,QvT,beq_true,T.QuV,T.QuY,ti9,ti44,ei44,ti69,Yx,Yh,Qeh,Zq,QwC,Q2,f1,f2,f3,f6,ho',hll,ga,gc,z0,z1,z2,b1,b2,b3,hsa1,hsa2,T.QuY,T.QuV]|with_reducible (first|refine Qj ?_|refine Qt ?_|refine hK _ ?_;clear hK|refine Qi rfl ?_;simp only[↓reduceIte])
    simp only[QvR,QvV,List.mapM_nil,Option.pure_def,QvR,QS,Qq,QvZ]
    exact Yk hi hj hij (.keep (.tup _ fun x hx=>by cases hx)) ⟨rfl,rfl⟩
   ·cases b4:(oc==1)
    ·have hq1:q1=false:=by rw[eq1,b1,b2];rfl
     have hq3:q3=false:=by rw[eq3,b2,b3,b4];rfl
     rw[hq1]at c1
     rw[hq3]at c3
     refine Qb Tryz.func86 rfl Tryz.call86 Tryz.ntmps86 Tryz.results86 (by simp) ?_
     repeat first|(first|with_reducible (first|refine Qa fun K E hK hE=>?_|refine Ql fun K E hK hE=>?_|refine Qy ct ?_|refine QO ca ?_|refine QO cc ?_|refine FunW.QuW c1 ?_|refine FunW.QuW c3 ?_|refine Xl (FunW.call c2) QaJ ?_)|refine QH (id:=4) [(0,0),(1,0),(2,0),(3,0),(4,1),(5,0),(6,0),(7,0),(8,0),(9,1),(10,0),(11,0)] mixed (by kernel_rfl) fun K hK=>?_|refine QH (id:=6) [(0,0),(1,0),(2,0),(3,0),(4,0),(5,0),(6,0),(7,2)] mixed (by kernel_rfl) fun K hK=>?_);simp only[XQ,Xz,Yo,Qh,Qe,Qk,OpW,Q7,aop,undef,AS.ev,Qg,Qu,QI,Qr,QG,QvW,Qwf,AV.QuX,Qo,XH,QD,Qv9,Qwa,QE,QA,QP,XG,Qwb,↓reduceIte,Qv2,Qv3,Nat.reduceAdd,Nat.reduceLT,Nat.reduceLeDiff,Nat.reduceEqDiff,Qv1,Qwe,Qwn,Qm,QQ,QR,QJ,aBin,hlen,happ,QvP,QvQ,QvR,QvU,QvS,Qv4,Qv8,Qwh,Qwg,Q1,YH,QvX,Int.toNat_zero,Int.toNat_one,QvT,T.QuV,T.QuY,ti9,ti44,ei44,ti69,Yx,Yh,Qeh,Zq,QwC,Q2,f1,f2,f3,f6,ho',hll,ga,gc,z0,z1,z2,b1,b2,b3,b4,hsa1,hsa2,T.QuY,T.QuV]|with_reducible (first|refine Qj ?_|refine Qt ?_|refine hK _ ?_;clear hK|refine Qi rfl ?_;simp only[↓reduceIte])
     simp only[QvR,QvV,List.mapM_nil,Option.pure_def,QvR,QS,Qq,QvZ]
     exact Yk hi hj hij (.keep (.tup _ fun x hx=>by cases hx)) ⟨rfl,rfl⟩
    ·have hq1:q1=false:=by rw[eq1,b1,b2];rfl
     have hq3:q3=true:=by rw[eq3,b2,b3,b4];rfl
     rw[hq1]at c1
     rw[hq3]at c3
     refine Qb Tryz.func86 rfl Tryz.call86 Tryz.ntmps86 Tryz.results86 (by simp) ?_
     repeat first|(first|with_reducible (first|refine Qa fun K E hK hE=>?_|refine Ql fun K E hK hE=>?_|refine Qy ct ?_|refine QO ca ?_|refine QO cc ?_|refine FunW.QuW c1 ?_|refine FunW.QuW c3 ?_|refine Xl (FunW.call c2) QaJ ?_)|refine QH (id:=4) [(0,0),(1,0),(2,0),(3,0),(4,1),(5,0),(6,0),(7,0),(8,0),(9,1),(10,0),(11,0)] mixed (by kernel_rfl) fun K hK=>?_|refine QH (id:=6) [(0,0),(1,0),(2,0),(3,0),(4,0),(5,0),(6,0),(7,2)] mixed (by kernel_rfl) fun K hK=>?_);simp only[XQ,Xz,Yo,Qh,Qe,Qk,OpW,Q7,aop,undef,AS.ev,Qg,Qu,QC,QI,Qr,QG,QvW,Qwf,AV.QuX,Qo,XH,QD,Qv9,Qwa,QE,QA,QP,XG,Qwb,Qwc,↓reduceIte,Qv2,Qv3,Nat.reduceAdd,Nat.reduceLT,Nat.reduceLeDiff,Nat.reduceEqDiff,Qv1,Qwe,Qwn,Qm,QQ,QR,QJ,aBin,hlen,happ,QvP,QvQ,QvR,QvU,QvS,Qv4,Qv8,Qwh,Qwg,Q1,YH,QvX,Int.toNat_zero,Int.toNat_one,beq_false,T.QuV,T.QuY,ti9,ti44,ei44,ti69,Yx,Yh,Qeh,Zq,QwC,Q2,f1,f2,f3,f6,ho',hll,ga,gc,z0,z1,z2,b1,b2,b3,b4,hsa1,hsa2,T.QuY,T.QuV]|with_reducible (first|refine Qj ?_|refine Qt ?_|refine hK _ ?_;clear hK|refine Qi rfl ?_;simp only[↓reduceIte])
     simp only[QvR,QvV,List.mapM_nil,Option.pure_def,QvR,QS,Qq,QvZ]
     exact Yk hi hj hij (.keep (.tup _ fun x hx=>by cases hx)) ⟨rfl,rfl⟩
  ·cases b3:(oc != 0)
   ·have hq1:q1=true:=by rw[eq1,b1,b2];rfl
    have hq3:q3=false:=by rw[eq3,b2,b3];rfl
    rw[hq1]at c1
    rw[hq3]at c3
    refine Qb Tryz.func86 rfl Tryz.call86 Tryz.ntmps86 Tryz.results86 (by simp) ?_
    repeat first|(first|with_reducible (first|refine Qa fun K E hK hE=>?_|refine Ql fun K E hK hE=>?_|refine Qy ct ?_|refine QO ca ?_|refine QO cc ?_|refine FunW.QuW c1 ?_|refine FunW.QuW c3 ?_|refine Xl (FunW.call c2) QaJ ?_)|refine QH (id:=4) [(0,0),(1,0),(2,0),(3,0),(4,1),(5,0),(6,0),(7,0),(8,0),(9,1),(10,0),(11,0)] mixed (by kernel_rfl) fun K hK=>?_|refine QH (id:=6) [(0,0),(1,0),(2,0),(3,0),(4,0),(5,0),(6,0),(7,2)] mixed (by kernel_rfl) fun K hK=>?_);simp only[XQ,Xz,Yo,Qh,Qe,Qk,OpW,Q7,aop,undef,AS.ev,Qg,Qu,QC,QI,Qr,QG,QvW,Qwf,AV.QuX,Qo,XH,QD,Qv9,Qwa,QE,QA,QP,XG,Qwb,↓reduceIte,Qv2,Qv3,Nat.reduceAdd,Nat.reduceLT,Nat.reduceLeDiff,Nat.reduceEqDiff,Qv1,Qwe,Qwn,Qm,QQ,QR,QJ,aBin,hlen,happ,QvP,QvQ,QvR,QvU,QvS,Qv4,Qv8,Qwh,Qwg,Q1,YH,QvX,Int.toNat_zero,Int.toNat_one,QvT,beq_true,T.QuV,T.QuY,ti9,ti44,ei44,ti69,Yx,Yh,Qeh,Zq,QwC,Q2,f1,f2,f3,f6,ho',hll,ga,gc,z0,z1,z2,b1,b2,b3,hsa1,hsa2,T.QuY,T.QuV]|with_reducible (first|refine Qj ?_|refine Qt ?_|refine hK _ ?_;clear hK|refine Qi rfl ?_;simp only[↓reduceIte])
    simp only[QvR,QvV,List.mapM_nil,Option.pure_def,QvR,QS,Qq,QvZ]
    exact Yk hi hj hij (.keep (.tup _ fun x hx=>by cases hx)) ⟨rfl,rfl⟩
   ·cases b4:(oc==1)
    ·have hq1:q1=true:=by rw[eq1,b1,b2];rfl
     have hq3:q3=true:=by rw[eq3,b2,b3,b4];rfl
     rw[hq1]at c1
     rw[hq3]at c3
     refine Qb Tryz.func86 rfl Tryz.call86 Tryz.ntmps86 Tryz.results86 (by simp) ?_
     repeat first|(first|with_reducible (first|refine Qa fun K E hK hE=>?_|refine Ql fun K E hK hE=>?_|refine Qy ct ?_|refine QO ca ?_|refine QO cc ?_|refine FunW.QuW c1 ?_|refine FunW.QuW c3 ?_|refine Xl (FunW.call c2) QaJ ?_)|refine QH (id:=4) [(0,0),(1,0),(2,0),(3,0),(4,1),(5,0),(6,0),(7,0),(8,0),(9,1),(10,0),(11,0)] mixed (by kernel_rfl) fun K hK=>?_|refine QH (id:=6) [(0,0),(1,0),(2,0),(3,0),(4,0),(5,0),(6,0),(7,2)] mixed (by kernel_rfl) fun K hK=>?_);simp only[XQ,Xz,Yo,Qh,Qe,Qk,OpW,Q7,aop,undef,AS.ev,Qg,Qu,QI,Qr,QG,QvW,Qwf,AV.QuX,Qo,XH,QD,Qv9,Qwa,QE,QA,QP,XG,Qwb,↓reduceIte,Qv2,Qv3,Nat.reduceAdd,Nat.reduceLT,Nat.reduceLeDiff,Nat.reduceEqDiff,Qv1,Qwe,Qwn,Qm,QQ,QR,QJ,aBin,hlen,happ,QvP,QvQ,QvR,QvU,QvS,Qv4,Qv8,Qwh,Qwg,Q1,YH,QvX,Int.toNat_zero,Int.toNat_one,QvT,T.QuV,T.QuY,ti9,ti44,ei44,ti69,Yx,Yh,Qeh,Zq,QwC,Q2,f1,f2,f3,f6,ho',hll,ga,gc,z0,z1,z2,b1,b2,b3,b4,hsa1,hsa2,T.QuY,T.QuV]|with_reducible (first|refine Qj ?_|refine Qt ?_|refine hK _ ?_;clear hK|refine Qi rfl ?_;simp only[↓reduceIte])
     simp only[QvR,QvV,List.mapM_nil,Option.pure_def,QvR,QS,Qq,QvZ]
     exact Yk hi hj hij (.keep (.tup _ fun x hx=>by cases hx)) ⟨rfl,rfl⟩
    ·have hq1:q1=true:=by rw[eq1,b1,b2];rfl
     have hq3:q3=true:=by rw[eq3,b2,b3,b4];rfl
     rw[hq1]at c1
     rw[hq3]at c3
     refine Qb Tryz.func86 rfl Tryz.call86 Tryz.ntmps86 Tryz.results86 (by simp) ?_
     repeat first|(first|with_reducible (first|refine Qa fun K E hK hE=>?_|refine Ql fun K E hK hE=>?_|refine Qy ct ?_|refine QO ca ?_|refine QO cc ?_|refine FunW.QuW c1 ?_|refine FunW.QuW c3 ?_|refine Xl (FunW.call c2) QaJ ?_)|refine QH (id:=4) [(0,0),(1,0),(2,0),(3,0),(4,1),(5,0),(6,0),(7,0),(8,0),(9,1),(10,0),(11,0)] mixed (by kernel_rfl) fun K hK=>?_|refine QH (id:=6) [(0,0),(1,0),(2,0),(3,0),(4,0),(5,0),(6,0),(7,2)] mixed (by kernel_rfl) fun K hK=>?_);simp only[XQ,Xz,Yo,Qh,Qe,Qk,OpW,Q7,aop,undef,AS.ev,Qg,Qu,QC,QI,Qr,QG,QvW,Qwf,AV.QuX,Qo,XH,QD,Qv9,Qwa,QE,QA,QP,XG,Qwb,Qwc,↓reduceIte,Qv2,Qv3,Nat.reduceAdd,Nat.reduceLT,Nat.reduceLeDiff,Nat.reduceEqDiff,Qv1,Qwe,Qwn,Qm,QQ,QR,QJ,aBin,hlen,happ,QvP,QvQ,QvR,QvU,QvS,Qv4,Qv8,Qwh,Qwg,Q1,YH,QvX,Int.toNat_zero,Int.toNat_one,beq_false,T.QuV,T.QuY,ti9,ti44,ei44,ti69,Yx,Yh,Qeh,Zq,QwC,Q2,f1,f2,f3,f6,ho',hll,ga,gc,z0,z1,z2,b1,b2,b3,b4,hsa1,hsa2,T.QuY,T.QuV]|with_reducible (first|refine Qj ?_|refine Qt ?_|refine hK _ ?_;clear hK|refine Qi rfl ?_;simp only[↓reduceIte])
     simp only[QvR,QvV,List.mapM_nil,Option.pure_def,QvR,QS,Qq,QvZ]
     exact Yk hi hj hij (.keep (.tup _ fun x hx=>by cases hx)) ⟨rfl,rfl⟩
theorem QfJ(h:AH)(_:3=3):Keep h h:=Keep.refl h
theorem Qph{h:AH}{i j:Nat}(hi:i<h.length)(hj:j<h.length)(hij:i≠j)(t:T)(ho:t.oper=0)(hl:t.args.length<=1000000)
  (l0:t.kind=0 -> -9223372036854775807<=t.int/\t.int<=9223372036854775807) (l1:t.kind=1->0<=t.int/\t.int<=1048576)
  (ih:∀a∈t.args,TIh i j a) (hG:XE (HB h i j true (.empty))) (u:Bool) (tx:ByteArray)
  (s:ByteArray) (es:s=if t.kind=0 then decZ t.int else if t.kind=1 then vOf (decN t.int.toNat)else funT t.name (txts t.args)) (hs:tx.size+s.size<=140737488355328) :
  Wri 86 [.ptr i 0 0,t.av] h i j u tx s:=by
 have eav:t.av = .agg [.i t.kind,.i t.int,.v (.string t.name),.sl 4 (avs t.args) none]:=by cases t;rfl
 obtain⟨L,hL⟩:∃L:AH,L=[AB.cells 134 1 [.ptr i 0 0],AB.cells 69 4 [t.av]]:=⟨_,rfl⟩
 have hlL:(h++L).length=h.length+2:=by rw[hL];simp
 have hi':i<(h++L).length:=by omega
 have hj':j<(h++L).length:=by omega
 have gapp:=fun(u:Bool) (tx:ByteArray) (L:AH)=>Qk4 (h:=h) (i:=i) (j:=j) hi hj u tx L
 have hG':XE (HB (h++L) i j true (.empty)):=by rw[gapp];exact HasG.app hG _
 have hG2:XE (HB (h++L) i j u tx):=Qsv hij hG'
 have ct:=QcH t (by simp only[maxLen];omega)
 rw[ho,eav]at ct
 have f1:=QgG h i j
 have f2:=fun u tx L=>Qe8 h i j u tx L
 have f3:=fun u tx L=>Qis h i j u tx L
 have f6:=fun u tx L=>QeO (h:=h) hi hij u tx L
 by_cases k0:t.kind=0
 ·rw[QwN k0]at es
  rw[k0]at eav ct
  have c1:=Qg2 t.int (by have:=l0 k0;omega) (l0 k0).2 _ hG2
  have c2:=wstr (h:=h++L) hi' hj' hij u tx s hs
  rw[es]at c2
  rw[gapp,hL,eav]at c1
  rw[gapp,gapp,hL,eav]at c2
  rw[eav,es]
  refine Qb Tryz.func86 rfl Tryz.call86 Tryz.ntmps86 Tryz.results86 (by simp) ?_
  repeat first|(first|refine Qy ct ?_|refine Xl (FunW.call c1) (QfJ _) ?_|refine Xl (FunW.call c2) QaJ ?_|refine Xu (id:=9) [(0,0),(1,0),(2,0),(3,0),(4,0),(5,3),(6,2)] mixed (by kernel_rfl) fun K hK=>?_|refine Qn ?_);simp only[go_sem,seval,f1,f2,f3,f6]|refine hK _ ?_;clear hK
  simp only[go_sem]
  exact Yk hi hj hij (.keep (.tup _ fun x hx=>by cases hx)) ⟨rfl,rfl⟩
 ·rw[QwJ k0]at es
  have m0:(t.kind==0)=false:=by simpa using k0
  by_cases k1:t.kind=1
  ·rw[QwN k1]at es
   rw[k1]at eav ct
   have z1:((1:Int)==0)=false:=by decide
   have en:t.int=(t.int.toNat:Int):=by have:=l1 k1;omega
   have c1:=Qol t.int.toNat (by have:=l1 k1;omega) _ hG2
   rw[<-en]at c1
   have c2:=wstr (h:=h++L) hi' hj' hij u tx s hs
   rw[es]at c2
   rw[gapp,hL,eav]at c1
   rw[gapp,gapp,hL,eav]at c2
   rw[eav,es]
   refine Qb Tryz.func86 rfl Tryz.call86 Tryz.ntmps86 Tryz.results86 (by simp) ?_
   repeat first|(first|refine Qy ct ?_|refine Xl (FunW.call c1) (QfJ _) ?_|refine Xl (FunW.call c2) QaJ ?_|refine Xu (id:=11) [(0,0),(1,0),(2,0),(3,0),(4,0),(5,3),(6,2)] mixed (by kernel_rfl) fun K hK=>?_|refine Qn ?_);simp only[go_sem,seval,f1,f2,f3,f6,z1]|refine hK _ ?_;clear hK
   simp only[go_sem]
   exact Yk hi hj hij (.keep (.tup _ fun x hx=>by cases hx)) ⟨rfl,rfl⟩
  ·rw[QwJ k1]at es
   have m1:(t.kind==1)=false:=by simpa using k1
   have c1:=QaZ (h:=h++L) hi' hj' hij t.args hl t.name (fun a ha h hi hj hG tx hs=>ih a ha h hi hj hG true tx hs) hG' u tx (by rw[<-es];exact hs)
   rw[Wri,<-es,gapp,gapp,hL,eav]at c1
   rw[eav]
   refine Qb Tryz.func86 rfl Tryz.call86 Tryz.ntmps86 Tryz.results86 (by simp) ?_
   repeat (first|refine Qy ct ?_|refine FunW.QuW c1 ?_|refine Qn ?_);simp only[go_sem,seval,f1,f2,f3,m0,m1]
   exact Yk hi hj hij (.keep (.tup _ fun x hx=>by cases hx)) ⟨rfl,rfl⟩
mutual
theorem T.Qvi:∀(t:T),t.lex->∀(i j:Nat),i≠j->TIh i j t
 | .mk k x n l,hx,i,j,hij=>fun h hi hj hG u tx hs=>by
  obtain⟨l0,l1,hl,hn,hll⟩:=hx
  have ih:=Qcy l hll i j hij
  by_cases ho:(T.mk k x n l).oper=0
  ·have es:(T.mk k x n l).txt=if k=0 then decZ x else if k=1 then vOf (decN x.toNat)else funT n (txts l):=by rw[T.txt,QwJ (by simpa using ho)]
   exact Qph hi hj hij (T.mk k x n l) ho hl l0 l1 ih hG u tx _ es hs
  ·have hk:k=2/\l.length=2/\ofB n≠0:=by
    simp only[T.oper]at ho
    split at ho
    ·exact absurd rfl ho
    ·rename_i hq
     exact⟨Decidable.byContradiction fun e=>hq (.inl e),Decidable.byContradiction fun e=>hq (.inr e),ho⟩
   obtain⟨rfl,h2,hon⟩:=hk
   match l,h2,hll,ih with
   |[a,c],_,hll,ih =>
    have et:(T.mk 2 x n [a,c]).txt=binT (ofB n) n a.oper c.oper a.txt c.txt:=by rw[T.txt,QwN ho];rfl
    rw[et]at hs ⊢
    have la:a.args.length<=1000000:=by cases a;exact hll.1.2.2.1
    have lc:c.args.length<=1000000:=by cases c;exact hll.2.1.2.2.1
    exact QqI hi hj hij n x a c hn hon la lc (ih a (by simp)) (ih c (by simp)) hG u tx hs
theorem Qcy:∀(l:List T),lexL l->∀(i j:Nat),i≠j->∀a∈l,TIh i j a
 |[],_,_,_,_,a,ha=>by cases ha
 |t::l,hx,i,j,hij,a,ha=>by
  have h1:=T.Qvi t hx.1 i j hij
  have h2:=Qcy l hx.2 i j hij
  rcases QwS.1 ha with e|e
  ·rw[e];exact h1
  ·exact h2 a e
end
theorem Qra{c:Cx}(hst:St c)(id ty e:Nat)(p:Value)(hb:c.h[id]? = some (.cells ty 2 [.agg [.v p,.v (.slice none 0 0)]])) :
  ∃c2,Ev c c2/\St c2/\c2.h=(c.h++[AB.grow e 1 0]).set id (AB.cells ty 2 [.agg [.v p,.sl 1 [] (some c.h.length)]])/\c2.w=c.w:=by
 obtain⟨hev,hst1⟩:=Qnl hst e 1
 have hlt:=Qv hb
 have hb1:(c.add c.w (.grow e 1 0) none).h[id]? = some (.cells ty 2 [.agg [.v p,.v (.slice none 0 0)]]):=by
  simp only[Cx.add];rw[QwI hlt];exact hb
 obtain⟨B,cur,hρ,hcur,h3,h4⟩:=hst1.blocks id _ hb1
 have hev2:=Ev.turn (b':=.cells ty 2 [.agg [.v p,.sl 1 [] (some c.h.length)]]) hst1 hb1 rfl hρ (w:=c.w) rfl rfl rfl rfl (fun _ _=>rfl) (.inr ⟨_,rfl,rfl,fun _ cur _ h=>⟨cur,h,rfl⟩⟩)
 have htok:((c.add c.w (.grow e 1 0) none).turn c.w id (.cells ty 2 [.agg [.v p,.sl 1 [] (some c.h.length)]])).tokNil c.h.length 1:=by
  refine⟨by simp[Cx.turn,Cx.add],fun e2 s2 n2 hg2=>?_⟩
  simp only[Cx.turn,Cx.add]at hg2
  rw[QwL (by omega),QwO (QwP _),Qxy]at hg2
  simp at hg2
  exact⟨hg2.2.1.symm,fun _=>by simp[Cx.turn,Cx.add]⟩
 have hfl:flat [AV.agg [.v p,.v (.slice none 0 0)]]=[.v p,.v (.slice none 0 0)]:=rfl
 have hst2:=St.turn (b':=.cells ty 2 [.agg [.v p,.sl 1 [] (some c.h.length)]]) hst1 hb1 rfl hρ (w:=c.w) (fun _ _=>rfl) hev2 ⟨B,cur,hρ,hcur,(by simp[AV.cells]),by
  intro j a' hj
  have hj':[AV.v p,.sl 1 [] (some c.h.length)][j]? = some a':=hj
  match j with
  |0 =>
   simp only[QvP,QvV]at hj'
   subst hj'
   obtain⟨u,g1,g2,g3⟩:=h4 0 (.v p) (by rw[hfl];rfl)
   exact⟨u,g1,g2,g3.ev hst1 hev2⟩
  |1 =>
   simp only[QvQ,QvP,QvV]at hj'
   subst hj'
   obtain⟨u,g1,g2,g3⟩:=h4 1 (.v (.slice none 0 0)) (by rw[hfl];rfl)
   cases g3
   exact⟨_,g1,g2,.slnil _ _ fun b hb=>by cases hb;exact htok⟩
  |j+2=>simp at hj'⟩
 exact⟨_,Ev.trans hst hev hev2,hst2,rfl,rfl⟩
theorem QaA{P:Program}{N:Nat}{code:Code}{Q:AExit->AS->Prop}{tm:Nat->AV}{h:AH}(id ty e:Nat)(p:Value)(hb:h[id]? = some (.cells ty 2 [.agg [.v p,.v (.slice none 0 0)]]))
  (H:XO P N code Q ⟨tm,(h++[AB.grow e 1 0]).set id (AB.cells ty 2 [.agg [.v p,.sl 1 [] (some h.length)]])⟩):XO P N code Q ⟨tm,h⟩:=by
 intro F n base c a hF hst hr R hR
 have hh:c.h=h:=hr.h
 subst hh
 obtain⟨c2,hev,hst2,hh2,hw⟩:=Qra hst id ty e p hb
 rw[<-hw]
 exact H F n base c2 a hF hst2 ⟨hh2,hr.size,Qw8 hr.above hev.size,hr.defers.ev hev,RoundOk.ev hev hr.round,fun t=>(hr.tm t).ev hst hev⟩ R fun e' s' c' a' ex hq h1 h2 h3 h4=>hR e' s' c' a' ex hq (Ev.trans hst hev h1) h2 h3 h4
theorem Qkq{P:Program}{fv:AV}{args:List AV}{h:AH}{Q:AOut->AH->Prop}(id ty e:Nat)(p:Value)(hb:h[id]? = some (.cells ty 2 [.agg [.v p,.v (.slice none 0 0)]]))
  (H:FunW P fv args ((h++[AB.grow e 1 0]).set id (AB.cells ty 2 [.agg [.v p,.sl 1 [] (some h.length)]])) Q):FunW P fv args h Q:=by
 intro F n c v vals hF hs hh hv hvs o a next Qx h1 h2
 subst hh
 obtain⟨c2,hev,hst2,hh2,hw⟩:=Qra hs id ty e p hb
 rw[<-hw]
 exact H F n c2 v vals hF hst2 hh2 (hv.ev hs hev) (hvs.ev hs hev) o a next Qx (fun r c' x hQ he=>h1 r c' x hQ (Ev.trans hs hev he)) (fun r c' x hQ he=>h2 r c' x hQ (Ev.trans hs hev he))
theorem Qpj(fv:AV):Pure Tryz.prog 82 [.b false,fv] (.v (.string {data:=#[]})):=by
 intro h
 refine Qb Tryz.func82 rfl Tryz.call82 Tryz.ntmps82 Tryz.results82 (by simp) ?_
 repeat refine Qn ?_;simp only[go_sem,seval]
 first|refine Qc (htake _ _) (.keep (.v _)) ⟨rfl,rfl⟩|refine Qc QwH (.keep (.v _)) ⟨rfl,rfl⟩
theorem Ql1(fv r:AV)(s:ByteArray)(h:AH)(h0:0<s.size)(hs:s.size<=140737488355328)
  (hw:FunW Tryz.prog fv [.ptr h.length 0 0] (HB (h++[AB.dead,AB.dead]) h.length (h.length+1) false .empty) fun o h'=>o = .ret r/\h'=HB (h++[AB.dead,AB.dead]) h.length (h.length+1) true s) :
  QT Tryz.prog 82 [.b true,fv] h fun o h'=>o = .ret (.v (.string s))/\h'=h:=by
 have hi:h.length<(h++[AB.dead,AB.dead]).length:=by simp
 have hj:h.length+1<(h++[AB.dead,AB.dead]).length:=by simp
 have e0:HB (h++[AB.dead,AB.dead]) h.length (h.length+1) false .empty=h++[AB.cells 138 2 [.agg [.v (.pointer none),.sl 1 [] (some (h.length+1))]],AB.grow 5 1 0]:=by
  simp[HB,hs2,bw];rfl
 have e1:HB (h++[AB.dead,AB.dead]) h.length (h.length+1) true s=h++[bw 138 h.length (h.length+1) true s,AB.grow 5 1 s.size]:=by
  simp[HB,hs2]
 have c1:=QcP (ty:=138) (i:=h.length) (j:=h.length+1) (by omega) s h0 hs (h++[AB.dead,AB.dead]) hi hj
 have e2:hs2 (h++[AB.dead,AB.dead]) h.length (bw 138 h.length (h.length+1) true s) (h.length+1) .gone=h++[bw 138 h.length (h.length+1) true s,AB.gone]:=by
  simp[hs2]
 rw[e2,<-HB,e1]at c1
 rw[e1,e0]at hw
 refine Qb Tryz.func82 rfl Tryz.call82 Tryz.ntmps82 Tryz.results82 (by simp) ?_
 repeat refine Qn ?_;simp only[go_sem,seval]
 refine Qkq h.length 138 5 (.pointer none) (by simp) ?_
 refine FunW.ret (h':=h++[bw 138 h.length (h.length+1) true s,AB.grow 5 1 s.size]) (r:=r) (by simpa using hw) ?_
 rw[bw1]at c1 ⊢
 simp only[go_sem,seval]
 repeat (first|refine FunW.QuW c1 ?_|refine Qn ?_);simp only[go_sem,seval]
 first|refine Qc (htake _ _) (.keep (.v _)) ⟨rfl,rfl⟩|refine Qc QwH (.keep (.v _)) ⟨rfl,rfl⟩
def YF(s:ByteArray):Bool:=decide (Qio 1 s)&&!resB s
def Ym(s:ByteArray):Bool:=s.toList==({data:=#[]}:ByteArray).toList
mutual
def T.run:T->Int->Int->Bool×Int
 | .mk k i n l,b,d =>
  if b - 1<0\/d<1 then(false,b - 1)else
  if k=0 then(decide (-2147483648<=i/\i<=2147483648)&&Ym n&&l.isEmpty,b - 1)else
  if k=1 then(decide (0<=i/\i<=1048576)&&Ym n&&l.isEmpty,b - 1)else
  if k=2 then(if i≠0\/6<l.length then(false,b - 1)else if (!YF n&&!(opB n&&decide (l.length=2)))=true then(false,b - 1)else runL l (b - 1) (d - 1))else(false,b - 1)
def runL:List T->Int->Int->Bool×Int
 |[],b,d=>(true,b)
 |t::l,b,d=>if (t.run b d).1=true then runL l (t.run b d).2 d else(false,(t.run b d).2)
end
theorem T.run_eq(t:T)(b d:Int):t.run b d=if b - 1<0\/d<1 then(false,b - 1)else
  if t.kind=0 then(decide (-2147483648<=t.int/\t.int<=2147483648)&&Ym t.name&&t.args.isEmpty,b - 1)else
  if t.kind=1 then(decide (0<=t.int/\t.int<=1048576)&&Ym t.name&&t.args.isEmpty,b - 1)else
  if t.kind=2 then(if t.int≠0\/6<t.args.length then(false,b - 1)else if (!YF t.name&&!(opB t.name&&decide (t.args.length=2)))=true then(false,b - 1)else runL t.args (b - 1) (d - 1))else(false,b - 1):=by
 cases t;rw[T.run];rfl
theorem Qpb{l:List T}{k:Nat}(h:k<l.length)(b d:Int):runL (l.drop k) b d=if ((l[k]).run b d).1=true then runL (l.drop (k+1)) ((l[k]).run b d).2 d else(false,((l[k]).run b d).2):=by
 rw[QwU h];simp only[runL]
def bud(b:Int):AB:=.cells 149 1 [.agg [.i b]]
theorem Qnn(d:Int)(ih:∀(t:T) (b:Int) (i:Nat),-1<=b->b<=1000->Chg Tryz.prog 139 [.ptr i 0 0,t.av,.i d] i (bud b) (.b (t.run b d).1) (bud (t.run b d).2))
  (l:List T) (hl:l.length<=1000) (b:Int) (i:Nat) (hb : -1<=b/\b<=1000) (hr:∀(t:T) (b:Int),-1<=b/\b<=1000->(t.run b d).1=true -> -1<=(t.run b d).2/\(t.run b d).2<=1000) :
  Chg Tryz.prog 101 [.ptr i 0 0,.sl 4 (avs l) none,.i d] i (bud b) (.b (runL l b d).1) (bud (runL l b d).2):=by
 intro h hi
 have f1:=fun x=>ZD h i x
 refine Qb Tryz.func101 rfl Tryz.call101 Tryz.ntmps101 Tryz.results101 (by simp) ?_
 with_reducible repeat first|refine Qa fun K E hK hE=>?_;simp only[Qh,Qe,Qk,OpW,aop,undef,AS.ev,Qg,Qu,QC,Qr,QG,QvW,Qwf,↓reduceIte,Nat.reduceLT,Nat.reduceEqDiff,aLen,QvR,goInt,QK,un44,QK]|refine Qf fun K hK=>?_|refine Qj ?_|refine hK _ ?_;clear hK
 obtain⟨I,hI⟩:∃I:Nat->AS->Prop,I=fun m' s=>∃(k:Nat) (b':Int),m'=l.length - k/\k<=l.length/\(-1<=b'/\b'<=1000)/\runL l b d=runL (l.drop k) b' d/\s.tm 0 = .ptr i 0 0/\s.tm 1 = .sl 4 (avs l) none/\s.tm 2 = .i d/\s.tm 9 = .i l.length/\s.tm 10 = .i k/\s.h=hs h i (bud b'):=⟨_,rfl⟩;refine QZ I ?_ (m:=l.length) ?_
 ·intro m' s hs;rw[hI]at hs;obtain⟨tm,hp⟩:=s;dsimp only at hs;obtain⟨k,b',rfl,hk,hb',he,t0,t1,t2,t9,t10,rfl⟩:=hs
  by_cases hlt:k<l.length
  ·have hg:=Qaa hlt
   have c:=ih l[k] b' i hb'.1 hb'.2 h hi
   rw[Qpb hlt]at he
   cases hr1:((l[k]).run b' d).1 with
   |true =>
    rw[hr1]at c he
    with_reducible repeat first|(first|refine Qa fun K E hK hE=>?_|refine Ql fun K E hK hE=>?_|refine FunW.QuW c ?_);simp only[Qh,Qe,Qk,OpW,Q7,aop,AS.ev,Qg,Qu,Qr,Qwc,↓reduceIte,Qv2,Qv3,Nat.reduceAdd,Nat.reduceLT,Nat.reduceEqDiff,Qv1,Qwn,QQ,QR,QJ,aBin,QvR,Qv4,Qv8,Q5,Yc,Ya,Qwl,Qws,Qwr,QwD,T.QuV,T.QuY,QK,ei44,ti69,t0,t1,t2,t9,t10,hlt,hg,T.QuY,T.QuV]|refine Qf fun K hK=>?_|refine Qj ?_|refine Qw ?_|refine Qd ?_|refine Qt ?_|refine hK _ ?_;clear hK|refine Qi rfl ?_;simp only[↓reduceIte,QvT]
    refine Xo.mk (m':=l.length - (k+1)) (by omega) ?_
    rw[hI]
    refine⟨k+1,_,rfl,hlt,hr _ _ hb' hr1,by rw[he,QwN rfl],t0,t1,t2,t9,?_,rfl⟩
    simp only[upd,↓reduceIte]
    rw[Xe (by omega)]
   |false =>
    rw[hr1]at c he
    rw[QwJ (by simp)]at he
    with_reducible repeat first|(first|refine Qa fun K E hK hE=>?_|refine FunW.QuW c ?_);simp only[Qh,Qe,Qk,OpW,Q7,aop,AS.ev,Qg,QC,Qr,Qwd,↓reduceIte,Qv2,Qv3,Nat.reduceAdd,Nat.reduceLT,Nat.reduceEqDiff,Qv1,Qwn,QQ,QR,QJ,aBin,QvR,Qv4,Qv8,Q5,Ya,Qwl,Qws,Qwr,QwD,T.QuV,T.QuY,QK,ei44,ti69,t0,t1,t2,t9,t10,hlt,hg,T.QuY,T.QuV]|refine Qf fun K hK=>?_|refine Qj ?_|refine Qp ?_|refine Qw ?_|refine Qd ?_|refine QB ?_|refine QF ?_|refine hK _ ?_;clear hK|refine Qi rfl ?_;simp only[↓reduceIte]
    simp only[QS,Qq,Qz,upd,↓reduceIte,QvV,QvZ]
    rw[he]
    exact .inr ⟨rfl,rfl⟩
  ·have hkn:k=l.length:=by omega
   subst hkn
   rw[Qxb]at he
   with_reducible repeat first|refine Qa fun K E hK hE=>?_;simp only[Qh,Qe,Qk,OpW,aop,AS.ev,Qg,QC,Nat.reduceLT,aBin,QvR,Q5,Qwm,QwD,t9,t10,hlt]|refine Qf fun K hK=>?_|refine Qp ?_|refine Q3 ?_|refine Qd ?_|refine QV ?_|refine QU ?_|refine hK _ ?_;clear hK|clear hK;refine hK _ ?_;clear hK|refine Qi rfl ?_;simp only[↓reduceIte,QvT]
   simp only[QS,Qq,Qz,upd,↓reduceIte,QvV,QvZ]
   rw[he]
   exact .inr ⟨rfl,rfl⟩
 ·rw[hI]
  exact⟨0,b,rfl,by omega,hb,rfl,rfl,rfl,rfl,rfl,rfl,rfl⟩
mutual
theorem T.Qvo:∀(t:T) (b d:Int),-1<=b/\b<=1000->(t.run b d).1=true -> -1<=(t.run b d).2/\(t.run b d).2<=1000
 | .mk k i n l,b,d,hb,h=>by
  rw[T.run]at h ⊢
  split at h
  ·cases h
  rename_i hn
  rw[QwJ hn]
  split at h
  ·rename_i hk;rw[QwN hk];exact⟨by simp only;omega,by simp only;omega⟩
  rename_i hk;rw[QwJ hk]
  split at h
  ·rename_i hk;rw[QwN hk];exact⟨by simp only;omega,by simp only;omega⟩
  rename_i hk;rw[QwJ hk]
  split at h
  ·rename_i hk2
   rw[QwN hk2]
   split at h
   ·cases h
   rename_i hk;rw[QwJ hk]
   split at h
   ·cases h
   rename_i hk;rw[QwJ hk]
   exact QeZ l _ _ (by omega) h
  ·cases h
theorem QeZ:∀(l:List T) (b d:Int),-1<=b/\b<=1000->(runL l b d).1=true -> -1<=(runL l b d).2/\(runL l b d).2<=1000
 |[],b,d,hb,h=>by simpa only[runL]using hb
 |t::l,b,d,hb,h=>by
  rw[runL]at h ⊢
  split at h
  ·rename_i ht
   rw[QwN ht]
   exact QeZ l _ _ (T.Qvo t b d hb ht) h
  ·cases h
end
theorem XZ(n:Nat)(b:Int):(bud b).Below n:=fun a ha=>by
 simp[flat,AV.cells]at ha
 subst ha;exact .v _
theorem Qpv:∀(dn:Nat) (t:T) (b:Int) (i:Nat),dn<=1000 -> -1<=b->b<=1000->Chg Tryz.prog 139 [.ptr i 0 0,t.av,.i (dn:Int)] i (bud b) (.b (t.run b dn).1) (bud (t.run b dn).2):=by
 intro dn
 induction dn with
 |zero =>
  intro t b i hdn hb0 hb1 h hi
  have w1:IntKind.i64.wrap (b - 1)=b - 1:=Yg (by omega)
  have f1:=fun x L=>Qkv hi x L
  have f2:=fun x y L=>Qkw hi x y L
  have f3:=fun x L=>Qcf (h:=h) (i:=i) x L
  have f4:=fun x=>ZD h i x
  have fb:∀b,bud b = .cells 149 1 [.agg [.i b]]:=fun _=>rfl
  by_cases m0:b - 1<0
  ·have hn:(b - 1<0\/((0:Nat):Int)<1):=.inl m0
   have R:t.run b ((0:Nat):Int)=(false,b - 1):=by
    rw[T.run_eq,QwN hn]
   rw[R]
   refine Qb Tryz.func139 rfl Tryz.call139 Tryz.ntmps139 Tryz.results139 (by simp) ?_
   with_reducible repeat first|refine Qa fun K E hK hE=>?_;simp only[Qh,Qe,Qk,OpW,aop,undef,AS.ev,Qg,QX,Qu,QC,Qr,QG,QvW,Qwf,AV.QuX,Qo,Q6,QD,Xx,Qv9,Qwa,QE,QA,QP,Qwb,Qwc,↓reduceIte,Qv2,Qv3,Nat.reduceAdd,Nat.reduceLT,Nat.reduceLeDiff,Nat.reduceEqDiff,Qv1,Qwe,Qwo,Qwn,Qm,QQ,QR,Xf,QY,aBin,QvP,QvQ,Qwj,QvR,QvU,QvS,Qwg,Qwi,Qv7,QvY,Qv6,Q5,Zi,Qwl,QwB,QvT,beq_false,T.QuV,ti3,YQ,Q2,w1,f1,f2,f4,fb,m0,T.QuV]|refine Qf fun K hK=>?_|refine Qp ?_|refine QB ?_|refine hK _ ?_;clear hK|refine Qi rfl ?_;simp only[↓reduceIte]
   simp only[QS,Qq,Qz,upd,↓reduceIte,QvV,QvZ]
   exact Xq (XZ _ _) (.keep (.v _)) ⟨rfl,rfl⟩
  ·have hn:(b - 1<0\/((0:Nat):Int)<1):=.inr (by omega)
   have d0:(0:Int)<1:=by omega
   have R:t.run b ((0:Nat):Int)=(false,b - 1):=by
    rw[T.run_eq,QwN hn]
   rw[R]
   refine Qb Tryz.func139 rfl Tryz.call139 Tryz.ntmps139 Tryz.results139 (by simp) ?_
   with_reducible repeat first|refine Qa fun K E hK hE=>?_;simp only[Qh,Qe,Qk,OpW,aop,undef,AS.ev,Qg,QX,Qu,QC,Qr,QG,QvW,Qwf,AV.QuX,Qo,Q6,QD,Xx,Qv9,Qwa,QE,QA,QP,Qwb,↓reduceIte,Qv2,Qv3,Nat.reduceAdd,Nat.reduceLT,Nat.reduceLeDiff,Nat.reduceEqDiff,Qv1,Qwe,Qwo,Qwn,Qm,QQ,QR,Xf,QY,aBin,QvP,QvQ,Qwj,QvR,QvU,QvS,Qwg,Qwi,Qv7,QvY,Qv6,Q5,Zi,Qwl,Qwm,QvX,QwB,QvT,T.QuV,ti3,YQ,Q2,w1,f1,f2,f4,fb,m0,d0,T.QuV]|refine Qf fun K hK=>?_|refine Qp ?_|refine QB ?_|refine hK _ ?_;clear hK|refine Qi rfl ?_;simp only[↓reduceIte]
   simp only[QS,Qq,Qz,upd,↓reduceIte,QvV,QvZ]
   exact Xq (XZ _ _) (.keep (.v _)) ⟨rfl,rfl⟩
 |succ dn ih =>
  intro t b i hdn hb0 hb1 h hi
  have w1:IntKind.i64.wrap (b - 1)=b - 1:=Yg (by omega)
  have f1:=fun x L=>Qkv hi x L
  have f2:=fun x y L=>Qkw hi x y L
  have f3:=fun x L=>Qcf (h:=h) (i:=i) x L
  have f4:=fun x=>ZD h i x
  have fb:∀b,bud b = .cells 149 1 [.agg [.i b]]:=fun _=>rfl
  have wd:IntKind.i64.wrap (((dn+1:Nat):Int) - 1)=(dn:Int):=by rw[Yg (by omega)];omega
  by_cases m0:b - 1<0
  ·have hn:(b - 1<0\/((dn+1:Nat):Int)<1):=.inl m0
   have R:t.run b ((dn+1:Nat):Int)=(false,b - 1):=by
    rw[T.run_eq,QwN hn]
   rw[R]
   refine Qb Tryz.func139 rfl Tryz.call139 Tryz.ntmps139 Tryz.results139 (by simp) ?_
   with_reducible repeat first|refine Qa fun K E hK hE=>?_;simp only[Qh,Qe,Qk,OpW,aop,undef,AS.ev,Qg,QX,Qu,QC,Qr,QG,QvW,Qwf,AV.QuX,Qo,Q6,QD,Xx,Qv9,Qwa,QE,QA,QP,Qwb,Qwc,↓reduceIte,Qv2,Qv3,Nat.reduceAdd,Nat.reduceLT,Nat.reduceLeDiff,Nat.reduceEqDiff,Qv1,Qwe,Qwo,Qwn,Qm,QQ,QR,Xf,QY,aBin,QvP,QvQ,Qwj,QvR,QvU,QvS,Qwg,Qwi,Qv7,QvY,Qv6,Q5,Zi,Qwl,QvT,beq_false,T.QuV,ti3,YQ,Q2,w1,f1,f2,f4,fb,m0,T.QuV]|refine Qf fun K hK=>?_|refine Qp ?_|refine QB ?_|refine hK _ ?_;clear hK|refine Qi rfl ?_;simp only[↓reduceIte]
   simp only[QS,Qq,Qz,upd,↓reduceIte,QvV,QvZ]
   exact Xq (XZ _ _) (.keep (.v _)) ⟨rfl,rfl⟩
  have d0:¬((dn+1:Nat):Int)<1:=by omega
  have hn:¬(b - 1<0\/((dn+1:Nat):Int)<1):=by omega
  by_cases k0:t.kind=0
  ·have z0:(t.kind==0)=true:=by simp[k0]
   by_cases c1:t.int >= -2147483648
   rotate_left
   ·have e1:¬-2147483648<=t.int:=by omega
    have R:t.run b ((dn+1:Nat):Int)=(false,b - 1):=by
     rw[T.run_eq,QwJ hn,QwN k0];simp[e1]
    rw[R]
    refine Qb Tryz.func139 rfl Tryz.call139 Tryz.ntmps139 Tryz.results139 (by simp) ?_
    with_reducible repeat first|refine Qa fun K E hK hE=>?_;simp only[Qh,Qe,Qk,OpW,aop,undef,AS.ev,Qg,QX,Qu,QC,Qr,QG,QvW,Qwf,AV.QuX,Qo,Q6,QD,Xx,Qv9,Qwa,QE,QA,QP,Qwb,↓reduceIte,Qv2,Qv3,Nat.reduceAdd,Nat.reduceLT,Nat.reduceLeDiff,Nat.reduceEqDiff,Qv1,Qwe,Qwo,Qwn,Qm,QQ,QR,Xf,QY,aBin,QvP,QvQ,Qwj,QvR,QvU,QvS,Qwg,Qwi,Qv7,QvY,Qv6,Q1,Q5,Qah,Zi,Qwm,QvX,QvT,beq_true,T.QuV,ti3,XR,Yw,YQ,Q2,w1,f1,f2,f3,f4,fb,m0,d0,T.QuV,z0,c1]|refine Qf fun K hK=>?_|refine Qj ?_|refine Qp ?_|refine Qw ?_|refine Qd ?_|refine QB ?_|refine QF ?_|refine hK _ ?_;clear hK|refine Qi rfl ?_;simp only[↓reduceIte,QvT]
    simp only[QS,Qq,Qz,upd,↓reduceIte,QvV,QvZ]
    exact Xq (XZ _ _) (.keep (.v _)) ⟨rfl,rfl⟩
   have e1 : -2147483648<=t.int:=by omega
   by_cases c2:t.int<=2147483648
   rotate_left
   ·skip
    have R:t.run b ((dn+1:Nat):Int)=(false,b - 1):=by
     rw[T.run_eq,QwJ hn,QwN k0];simp[e1,c2]
    rw[R]
    refine Qb Tryz.func139 rfl Tryz.call139 Tryz.ntmps139 Tryz.results139 (by simp) ?_
    with_reducible repeat first|refine Qa fun K E hK hE=>?_;simp only[Qh,Qe,Qk,OpW,aop,undef,AS.ev,Qg,QX,Qu,QC,Qr,QG,QvW,Qwf,AV.QuX,Qo,Q6,QD,Xx,Qv9,Qwa,QE,QA,QP,Qwb,↓reduceIte,Qv2,Qv3,Nat.reduceAdd,Nat.reduceLT,Nat.reduceLeDiff,Nat.reduceEqDiff,Qv1,Qwe,Qwo,Qwn,Qm,QQ,QR,Xf,QY,aBin,QvP,QvQ,Qwj,QvR,QvU,QvS,Qwg,Qwi,Qv7,QvY,Qv6,Q1,Q5,YT,Qah,Zi,Qwl,Qwm,QvX,QvT,beq_true,T.QuV,ti3,XR,Yw,YQ,Q2,w1,f1,f2,f3,f4,fb,m0,d0,T.QuV,z0,c1,c2]|refine Qf fun K hK=>?_|refine Qj ?_|refine Qp ?_|refine Qw ?_|refine Qd ?_|refine QB ?_|refine QF ?_|refine hK _ ?_;clear hK|refine Qi rfl ?_;simp only[↓reduceIte,QvT]
    simp only[QS,Qq,Qz,upd,↓reduceIte,QvV,QvZ]
    exact Xq (XZ _ _) (.keep (.v _)) ⟨rfl,rfl⟩
   cases c3:Ym t.name with
   |false =>
    have c3':(t.name.toList==({data:=#[]}:ByteArray).toList)=false:=c3
    have R:t.run b ((dn+1:Nat):Int)=(false,b - 1):=by
     rw[T.run_eq,QwJ hn,QwN k0];simp[e1,c2,c3]
    rw[R]
    refine Qb Tryz.func139 rfl Tryz.call139 Tryz.ntmps139 Tryz.results139 (by simp) ?_
    with_reducible repeat first|refine Qa fun K E hK hE=>?_;simp only[Qh,Qe,Qk,OpW,aop,undef,AS.ev,Qg,QX,Qu,QC,QI,Qr,QG,QvW,Qwf,AV.QuX,Qo,Q6,QD,Xx,Qv9,Qwa,QE,QA,QP,Qwb,↓reduceIte,Qv2,Qv3,Nat.reduceAdd,Nat.reduceLT,Nat.reduceLeDiff,Nat.reduceEqDiff,Qv1,Qwe,Qwo,Qwn,Qm,QQ,QR,Xf,QY,aBin,QvP,QvQ,Qwj,QvR,QvU,QvS,Qwg,Qwi,Qv7,QvY,Qv6,Q1,Q5,YT,Qah,Zi,Xv,Qwl,Qwm,QvX,QvT,beq_true,T.QuV,ti3,ti9,XR,Yw,Yx,YQ,Q2,w1,f1,f2,f3,f4,fb,m0,d0,T.QuV,z0,c1,c2,c3']|refine Qf fun K hK=>?_|refine Qj ?_|refine Qp ?_|refine Qw ?_|refine Qd ?_|refine QB ?_|refine QF ?_|refine hK _ ?_;clear hK|refine Qi rfl ?_;simp only[↓reduceIte,QvT]
    simp only[QS,Qq,Qz,upd,↓reduceIte,QvV,QvZ]
    exact Xq (XZ _ _) (.keep (.v _)) ⟨rfl,rfl⟩
   |true =>
    have c3':(t.name.toList==({data:=#[]}:ByteArray).toList)=true:=c3
    cases hl:t.args with
    |nil =>
     have c4:((0:Int)==0)=true:=rfl
     have R:t.run b ((dn+1:Nat):Int)=(true,b - 1):=by
      rw[T.run_eq,QwJ hn,QwN k0];simp[e1,c2,c3,hl]
     rw[R]
     refine Qb Tryz.func139 rfl Tryz.call139 Tryz.ntmps139 Tryz.results139 (by simp) ?_
     with_reducible repeat first|refine Qa fun K E hK hE=>?_;simp only[Qh,Qe,Qk,OpW,aop,undef,AS.ev,Qg,QX,Qu,QC,QI,Qr,QG,QvW,Qwf,AV.QuX,Qo,Q6,QD,Xx,Qv9,Qwa,QE,QA,QP,Qwb,↓reduceIte,Qv2,Qv3,Nat.reduceAdd,Nat.reduceLT,Nat.reduceLeDiff,Nat.reduceEqDiff,Qv1,Qwe,Qwo,Qwn,Qm,QQ,QR,Xf,QY,aBin,aLen,QvP,QvQ,Qwj,QvR,QvU,QvS,Qwg,Qwi,Qv7,QvY,Qv6,Q1,Q5,YT,Qah,Zi,Xv,goInt,Qwl,Qwm,QvX,QwB,QvT,T.QuV,ti3,ti9,ti44,un44,XR,Yw,Yx,Yh,YQ,Q2,w1,f1,f2,f3,f4,fb,m0,d0,T.QuV,z0,c1,c2,c3',hl,Qj6]|refine Qf fun K hK=>?_|refine Qj ?_|refine Qp ?_|refine Qw ?_|refine Qd ?_|refine QB ?_|refine QF ?_|refine hK _ ?_;clear hK|refine Qi rfl ?_;simp only[↓reduceIte,QvT]
     simp only[QS,Qq,Qz,upd,↓reduceIte,QvV,QvZ]
     exact Xq (XZ _ _) (.keep (.v _)) ⟨rfl,rfl⟩
    |cons a l =>
     have c4:(((l.length+1:Nat):Int)==0)=false:=by simp;omega
     have R:t.run b ((dn+1:Nat):Int)=(false,b - 1):=by
      rw[T.run_eq,QwJ hn,QwN k0];simp[e1,c2,c3,hl]
     rw[R]
     refine Qb Tryz.func139 rfl Tryz.call139 Tryz.ntmps139 Tryz.results139 (by simp) ?_
     with_reducible repeat first|refine Qa fun K E hK hE=>?_;simp only[Qh,Qe,Qk,OpW,aop,undef,AS.ev,Qg,QX,Qu,QC,QI,Qr,QG,QvW,Qwf,AV.QuX,Qo,Q6,QD,Xx,Qv9,Qwa,QE,QA,QP,Qwb,↓reduceIte,Qv2,Qv3,Nat.reduceAdd,Nat.reduceLT,Nat.reduceLeDiff,Nat.reduceEqDiff,Qv1,Qwe,Qwo,Qwn,Qm,QQ,QR,Xf,QY,aBin,aLen,QvP,QvQ,Qwj,QvR,QvU,QvS,Qwg,Qwi,Qv7,QvY,Qv6,Q1,Q5,YT,Qah,Zi,Xv,goInt,Qwl,Qwm,QvX,QvT,T.QuV,QK,ti3,ti9,ti44,un44,XR,Yw,Yx,Yh,YQ,Q2,w1,f1,f2,f3,f4,fb,m0,d0,T.QuV,z0,c1,c2,c3',hl,QK,Qv2,c4]|refine Qf fun K hK=>?_|refine Qj ?_|refine Qp ?_|refine Qw ?_|refine Qd ?_|refine QB ?_|refine QF ?_|refine hK _ ?_;clear hK|refine Qi rfl ?_;simp only[↓reduceIte,QvT]
     simp only[QS,Qq,Qz,upd,↓reduceIte,QvV,QvZ]
     exact Xq (XZ _ _) (.keep (.v _)) ⟨rfl,rfl⟩
  have z0:(t.kind==0)=false:=by simp[k0]
  by_cases k1:t.kind=1
  ·have z1:(t.kind==1)=true:=by simp[k1]
   by_cases c1:t.int>=0
   rotate_left
   ·have e1:¬0<=t.int:=by omega
    have R:t.run b ((dn+1:Nat):Int)=(false,b - 1):=by
     rw[T.run_eq,QwJ hn,QwJ k0,QwN k1];simp[e1]
    rw[R]
    refine Qb Tryz.func139 rfl Tryz.call139 Tryz.ntmps139 Tryz.results139 (by simp) ?_
    with_reducible repeat first|refine Qa fun K E hK hE=>?_;simp only[Qh,Qe,Qk,OpW,aop,undef,AS.ev,Qg,QX,Qu,QC,Qr,QG,QvW,Qwf,AV.QuX,Qo,Q6,QD,Xx,Qv9,Qwa,QE,QA,QP,Qwb,↓reduceIte,Qv2,Qv3,Nat.reduceAdd,Nat.reduceLT,Nat.reduceLeDiff,Nat.reduceEqDiff,Qv1,Qwe,Qwo,Qwn,Qm,QQ,QR,Xf,QY,aBin,QvP,QvQ,Qwj,QvR,QvU,QvS,Qwg,Qwi,Qv7,QvY,Qv6,Q1,Q5,Qah,Zi,Qwm,QvX,QvT,beq_true,T.QuV,ti3,XR,Yw,YQ,Q2,w1,f1,f2,f3,f4,fb,m0,d0,T.QuV,z0,z1,c1]|refine Qf fun K hK=>?_|refine Qj ?_|refine Qp ?_|refine Qw ?_|refine Qd ?_|refine QB ?_|refine QF ?_|refine hK _ ?_;clear hK|refine Qi rfl ?_;simp only[↓reduceIte,QvT]
    simp only[QS,Qq,Qz,upd,↓reduceIte,QvV,QvZ]
    exact Xq (XZ _ _) (.keep (.v _)) ⟨rfl,rfl⟩
   have e1:0<=t.int:=by omega
   by_cases c2:t.int<=1048576
   rotate_left
   ·skip
    have R:t.run b ((dn+1:Nat):Int)=(false,b - 1):=by
     rw[T.run_eq,QwJ hn,QwJ k0,QwN k1];simp[e1,c2]
    rw[R]
    refine Qb Tryz.func139 rfl Tryz.call139 Tryz.ntmps139 Tryz.results139 (by simp) ?_
    with_reducible repeat first|refine Qa fun K E hK hE=>?_;simp only[Qh,Qe,Qk,OpW,aop,undef,AS.ev,Qg,QX,Qu,QC,Qr,QG,QvW,Qwf,AV.QuX,Qo,Q6,QD,Xx,Qv9,Qwa,QE,QA,QP,Qwb,↓reduceIte,Qv2,Qv3,Nat.reduceAdd,Nat.reduceLT,Nat.reduceLeDiff,Nat.reduceEqDiff,Qv1,Qwe,Qwo,Qwn,Qm,QQ,QR,Xf,QY,aBin,QvP,QvQ,Qwj,QvR,QvU,QvS,Qwg,Qwi,Qv7,QvY,Qv6,Q1,Q5,YT,Qah,Zi,Qwl,Qwm,QvX,QvT,beq_true,T.QuV,ti3,XR,Yw,YQ,Q2,w1,f1,f2,f3,f4,fb,m0,d0,T.QuV,z0,z1,c1,c2]|refine Qf fun K hK=>?_|refine Qj ?_|refine Qp ?_|refine Qw ?_|refine Qd ?_|refine QB ?_|refine QF ?_|refine hK _ ?_;clear hK|refine Qi rfl ?_;simp only[↓reduceIte,QvT]
    simp only[QS,Qq,Qz,upd,↓reduceIte,QvV,QvZ]
    exact Xq (XZ _ _) (.keep (.v _)) ⟨rfl,rfl⟩
   cases c3:Ym t.name with
   |false =>
    have c3':(t.name.toList==({data:=#[]}:ByteArray).toList)=false:=c3
    have R:t.run b ((dn+1:Nat):Int)=(false,b - 1):=by
     rw[T.run_eq,QwJ hn,QwJ k0,QwN k1];simp[e1,c2,c3]
    rw[R]
    refine Qb Tryz.func139 rfl Tryz.call139 Tryz.ntmps139 Tryz.results139 (by simp) ?_
    with_reducible repeat first|refine Qa fun K E hK hE=>?_;simp only[Qh,Qe,Qk,OpW,aop,undef,AS.ev,Qg,QX,Qu,QC,QI,Qr,QG,QvW,Qwf,AV.QuX,Qo,Q6,QD,Xx,Qv9,Qwa,QE,QA,QP,Qwb,↓reduceIte,Qv2,Qv3,Nat.reduceAdd,Nat.reduceLT,Nat.reduceLeDiff,Nat.reduceEqDiff,Qv1,Qwe,Qwo,Qwn,Qm,QQ,QR,Xf,QY,aBin,QvP,QvQ,Qwj,QvR,QvU,QvS,Qwg,Qwi,Qv7,QvY,Qv6,Q1,Q5,YT,Qah,Zi,Xv,Qwl,Qwm,QvX,QvT,beq_true,T.QuV,ti3,ti9,XR,Yw,Yx,YQ,Q2,w1,f1,f2,f3,f4,fb,m0,d0,T.QuV,z0,z1,c1,c2,c3']|refine Qf fun K hK=>?_|refine Qj ?_|refine Qp ?_|refine Qw ?_|refine Qd ?_|refine QB ?_|refine QF ?_|refine hK _ ?_;clear hK|refine Qi rfl ?_;simp only[↓reduceIte,QvT]
    simp only[QS,Qq,Qz,upd,↓reduceIte,QvV,QvZ]
    exact Xq (XZ _ _) (.keep (.v _)) ⟨rfl,rfl⟩
   |true =>
    have c3':(t.name.toList==({data:=#[]}:ByteArray).toList)=true:=c3
    cases hl:t.args with
    |nil =>
     have c4:((0:Int)==0)=true:=rfl
     have R:t.run b ((dn+1:Nat):Int)=(true,b - 1):=by
      rw[T.run_eq,QwJ hn,QwJ k0,QwN k1];simp[e1,c2,c3,hl]
     rw[R]
     refine Qb Tryz.func139 rfl Tryz.call139 Tryz.ntmps139 Tryz.results139 (by simp) ?_
     with_reducible repeat first|refine Qa fun K E hK hE=>?_;simp only[Qh,Qe,Qk,OpW,aop,undef,AS.ev,Qg,QX,Qu,QC,QI,Qr,QG,QvW,Qwf,AV.QuX,Qo,Q6,QD,Xx,Qv9,Qwa,QE,QA,QP,Qwb,↓reduceIte,Qv2,Qv3,Nat.reduceAdd,Nat.reduceLT,Nat.reduceLeDiff,Nat.reduceEqDiff,Qv1,Qwe,Qwo,Qwn,Qm,QQ,QR,Xf,QY,aBin,aLen,QvP,QvQ,Qwj,QvR,QvU,QvS,Qwg,Qwi,Qv7,QvY,Qv6,Q1,Q5,YT,Qah,Zi,Xv,goInt,Qwl,Qwm,QvX,QwB,QvT,T.QuV,ti3,ti9,ti44,un44,XR,Yw,Yx,Yh,YQ,Q2,w1,f1,f2,f3,f4,fb,m0,d0,T.QuV,z0,z1,c1,c2,c3',hl,Qj6]|refine Qf fun K hK=>?_|refine Qj ?_|refine Qp ?_|refine Qw ?_|refine Qd ?_|refine QB ?_|refine QF ?_|refine hK _ ?_;clear hK|refine Qi rfl ?_;simp only[↓reduceIte,QvT]
     simp only[QS,Qq,Qz,upd,↓reduceIte,QvV,QvZ]
     exact Xq (XZ _ _) (.keep (.v _)) ⟨rfl,rfl⟩
    |cons a l =>
     have c4:(((l.length+1:Nat):Int)==0)=false:=by simp;omega
     have R:t.run b ((dn+1:Nat):Int)=(false,b - 1):=by
      rw[T.run_eq,QwJ hn,QwJ k0,QwN k1];simp[e1,c2,c3,hl]
     rw[R]
     refine Qb Tryz.func139 rfl Tryz.call139 Tryz.ntmps139 Tryz.results139 (by simp) ?_
     with_reducible repeat first|refine Qa fun K E hK hE=>?_;simp only[Qh,Qe,Qk,OpW,aop,undef,AS.ev,Qg,QX,Qu,QC,QI,Qr,QG,QvW,Qwf,AV.QuX,Qo,Q6,QD,Xx,Qv9,Qwa,QE,QA,QP,Qwb,↓reduceIte,Qv2,Qv3,Nat.reduceAdd,Nat.reduceLT,Nat.reduceLeDiff,Nat.reduceEqDiff,Qv1,Qwe,Qwo,Qwn,Qm,QQ,QR,Xf,QY,aBin,aLen,QvP,QvQ,Qwj,QvR,QvU,QvS,Qwg,Qwi,Qv7,QvY,Qv6,Q1,Q5,YT,Qah,Zi,Xv,goInt,Qwl,Qwm,QvX,QvT,T.QuV,QK,ti3,ti9,ti44,un44,XR,Yw,Yx,Yh,YQ,Q2,w1,f1,f2,f3,f4,fb,m0,d0,T.QuV,z0,z1,c1,c2,c3',hl,QK,Qv2,c4]|refine Qf fun K hK=>?_|refine Qj ?_|refine Qp ?_|refine Qw ?_|refine Qd ?_|refine QB ?_|refine QF ?_|refine hK _ ?_;clear hK|refine Qi rfl ?_;simp only[↓reduceIte,QvT]
     simp only[QS,Qq,Qz,upd,↓reduceIte,QvV,QvZ]
     exact Xq (XZ _ _) (.keep (.v _)) ⟨rfl,rfl⟩
  have z1:(t.kind==1)=false:=by simp[k1]
  by_cases k2:t.kind=2
  rotate_left
  ·have z2:(t.kind==2)=false:=by simp[k2]
   have R:t.run b ((dn+1:Nat):Int)=(false,b - 1):=by
    rw[T.run_eq,QwJ hn,QwJ k0,QwJ k1,QwJ k2]
   rw[R]
   refine Qb Tryz.func139 rfl Tryz.call139 Tryz.ntmps139 Tryz.results139 (by simp) ?_
   with_reducible repeat first|refine Qa fun K E hK hE=>?_;simp only[Qh,Qe,Qk,OpW,aop,undef,AS.ev,Qg,QX,Qu,QC,Qr,QG,QvW,Qwf,AV.QuX,Qo,Q6,QD,Xx,Qv9,Qwa,QE,QA,QP,Qwb,↓reduceIte,Qv2,Qv3,Nat.reduceAdd,Nat.reduceLT,Nat.reduceLeDiff,Nat.reduceEqDiff,Qv1,Qwe,Qwo,Qwn,Qm,QQ,QR,Xf,QY,aBin,QvP,QvQ,Qwj,QvR,QvU,QvS,Qwg,Qwi,Qv7,QvY,Qv6,Q1,Q5,Zi,Qwm,QvX,QvT,T.QuV,ti3,XR,YQ,Q2,w1,f1,f2,f3,f4,fb,m0,d0,T.QuV,z0,z1,z2]|refine Qf fun K hK=>?_|refine Qj ?_|refine Qp ?_|refine Qw ?_|refine Qd ?_|refine Qt ?_|refine hK _ ?_;clear hK|refine Qi rfl ?_;simp only[↓reduceIte,QvT]
   simp only[QS,Qq,Qz,upd,↓reduceIte,QvV,QvZ]
   exact Xq (XZ _ _) (.keep (.v _)) ⟨rfl,rfl⟩
  have z2:(t.kind==2)=true:=by simp[k2]
  by_cases i0:t.int=0
  rotate_left
  ·have y0:(t.int != 0)=true:=by simp[i0]
   have R:t.run b ((dn+1:Nat):Int)=(false,b - 1):=by
    rw[T.run_eq,QwJ hn,QwJ k0,QwJ k1,QwN k2,QwN (.inl i0)]
   rw[R]
   refine Qb Tryz.func139 rfl Tryz.call139 Tryz.ntmps139 Tryz.results139 (by simp) ?_
   with_reducible repeat first|refine Qa fun K E hK hE=>?_;simp only[Qh,Qe,Qk,OpW,aop,undef,AS.ev,Qg,QX,Qu,QC,Qr,QG,QvW,Qwf,AV.QuX,Qo,Q6,QD,Xx,Qv9,Qwa,QE,QA,QP,Qwb,Qwc,↓reduceIte,Qv2,Qv3,Nat.reduceAdd,Nat.reduceLT,Nat.reduceLeDiff,Nat.reduceEqDiff,Qv1,Qwe,Qwo,Qwn,Qm,QQ,QR,Xf,QY,aBin,QvP,QvQ,Qwj,QvR,QvU,QvS,Qwg,Qwi,Qv7,QvY,Qv6,Q1,YH,Q5,Zi,Qwm,QvX,QvT,beq_false,T.QuV,ti3,XR,Yw,YQ,Q2,w1,f1,f2,f3,f4,fb,m0,d0,T.QuV,z0,z1,z2,y0]|refine Qf fun K hK=>?_|refine Qj ?_|refine Qp ?_|refine Qw ?_|refine Qd ?_|refine QB ?_|refine QF ?_|refine hK _ ?_;clear hK|refine Qi rfl ?_;simp only[↓reduceIte,QvT]
   simp only[QS,Qq,Qz,upd,↓reduceIte,QvV,QvZ]
   exact Xq (XZ _ _) (.keep (.v _)) ⟨rfl,rfl⟩
  have y0:(t.int != 0)=false:=by simp[i0]
  by_cases a6:t.args.length>6
  ·have y6:(t.args.length:Int)>6:=by omega
   have R:t.run b ((dn+1:Nat):Int)=(false,b - 1):=by
    rw[T.run_eq,QwJ hn,QwJ k0,QwJ k1,QwN k2,QwN (.inr a6)]
   rw[R]
   refine Qb Tryz.func139 rfl Tryz.call139 Tryz.ntmps139 Tryz.results139 (by simp) ?_
   with_reducible repeat first|refine Qa fun K E hK hE=>?_;simp only[Qh,Qe,Qk,OpW,aop,undef,AS.ev,Qg,QX,Qu,QC,Qr,QG,QvW,Qwf,AV.QuX,Qo,Q6,QD,Xx,Qv9,Qwa,QE,QA,QP,Qwb,↓reduceIte,Qv2,Qv3,Nat.reduceAdd,Nat.reduceLT,Nat.reduceLeDiff,Nat.reduceEqDiff,Qv1,Qwe,Qwo,Qwn,Qm,QQ,QR,Xf,QY,aBin,aLen,QvP,QvQ,Qwj,QvR,QvU,QvS,Qwg,Qwi,Qv7,QvY,Qv6,Q1,YH,Q5,Xw,Zi,goInt,Qwl,Qwm,QvX,QvT,T.QuV,QK,ti3,ti44,un44,XR,Yw,Yh,YQ,Q2,w1,f1,f2,f3,f4,fb,m0,d0,T.QuV,z0,z1,z2,y0,y6,QK]|refine Qf fun K hK=>?_|refine Qj ?_|refine Qp ?_|refine Qw ?_|refine Qd ?_|refine QB ?_|refine QF ?_|refine hK _ ?_;clear hK|refine Qi rfl ?_;simp only[↓reduceIte,QvT]
   simp only[QS,Qq,Qz,upd,↓reduceIte,QvV,QvZ]
   exact Xq (XZ _ _) (.keep (.v _)) ⟨rfl,rfl⟩
  have y6:¬(t.args.length:Int)>6:=by omega
  have a6':¬6<t.args.length:=a6
  have cr:=QcL t.name
  have co:=Qdz t.name
  have er:(decide (Qio 1 t.name)&&!resB t.name)=YF t.name:=rfl
  rw[er]at cr
  have hind:=fun b2 hb=>Qnn dn (fun t b i h0 h1=>ih t b i (by omega) h0 h1) t.args (by omega) b2 i hb (fun t b hb h=>T.Qvo t b dn hb h)
  have ca:=(hind (b - 1) (by omega)).app hi [.cells 69 4 [t.av]]
  rw[fb,fb]at ca
  cases hr:YF t.name with
  |true =>
   rw[hr]at cr
   have R:t.run b ((dn+1:Nat):Int)=runL t.args (b - 1) (dn:Int):=by
    rw[T.run_eq,QwJ hn,QwJ k0,QwJ k1,QwN k2,QwJ (show ¬(t.int≠0\/6<t.args.length) by omega),hr,QwJ (by simp)];rw[show(((dn+1:Nat):Int) - 1)=(dn:Int) by omega]
   rw[R]
   refine Qb Tryz.func139 rfl Tryz.call139 Tryz.ntmps139 Tryz.results139 (by simp) ?_
   with_reducible repeat first|(first|refine Qa fun K E hK hE=>?_|refine Qy cr ?_|refine FunW.QuW ca ?_);simp only[Qh,Qe,Qk,OpW,Q7,aop,undef,AS.ev,Qg,QX,Qu,QC,Qr,QG,QvW,Qwf,AV.QuX,Qo,Q6,QD,Xx,Qv9,Qwa,QE,QA,QP,Qwb,Qwc,↓reduceIte,Qv2,Qv3,Nat.reduceAdd,Nat.reduceLT,Nat.reduceLeDiff,Nat.reduceEqDiff,Qv1,Qwe,Qwo,Qwn,Qm,QQ,QR,Xf,QY,aBin,aLen,QvP,QvQ,Qwj,QvR,QvU,QvS,Qv4,Qv8,Qwg,Qwi,Qv7,QvY,Qv6,Q1,YH,Q5,Xw,Zi,Ya,goInt,Qwm,QvX,QvT,beq_true,T.QuV,QK,ti3,ti9,ti44,un44,XR,Yw,Yx,Yh,YQ,Q2,w1,f1,f2,f3,f4,fb,m0,d0,T.QuV,z0,z1,z2,y0,y6,QK,wd]|refine Qf fun K hK=>?_|refine Qj ?_|refine Qp ?_|refine Qw ?_|refine Qd ?_|refine QB ?_|refine QF ?_|refine hK _ ?_;clear hK|refine Qi rfl ?_;simp only[↓reduceIte,QvT]
   simp only[QS,Qq,Qz,upd,↓reduceIte,QvV,QvZ]
   exact Xq (XZ _ _) (.keep (.v _)) ⟨rfl,rfl⟩
  |false =>
   rw[hr]at cr
   cases ho:opB t.name with
   |false =>
    rw[ho]at co
    have R:t.run b ((dn+1:Nat):Int)=(false,b - 1):=by
     rw[T.run_eq,QwJ hn,QwJ k0,QwJ k1,QwN k2,QwJ (show ¬(t.int≠0\/6<t.args.length) by omega),hr,ho,QwN (by simp)]
    rw[R]
    refine Qb Tryz.func139 rfl Tryz.call139 Tryz.ntmps139 Tryz.results139 (by simp) ?_
    with_reducible repeat first|(first|refine Qa fun K E hK hE=>?_|refine Qy cr ?_|refine Qy co ?_);simp only[Qh,Qe,Qk,OpW,Q7,aop,undef,AS.ev,Qg,QX,Qu,QC,Qr,QG,QvW,Qwf,AV.QuX,Qo,Q6,QD,Xx,Qv9,Qwa,QE,QA,QP,Qwb,Qwd,↓reduceIte,Qv2,Qv3,Nat.reduceAdd,Nat.reduceLT,Nat.reduceLeDiff,Nat.reduceEqDiff,Qv1,Qwe,Qwo,Qwn,Qm,QQ,QR,Xf,QY,aBin,aLen,QvP,QvQ,Qwj,QvR,QvU,QvS,Qv4,Qv8,Qwg,Qwi,Qv7,QvY,Qv6,Q1,YH,Q5,Xw,Zi,Ya,goInt,Qwm,QvX,QvT,beq_true,T.QuV,QK,ti3,ti9,ti44,un44,XR,Yw,Yx,Yh,YQ,Q2,w1,f1,f2,f3,f4,fb,m0,d0,T.QuV,z0,z1,z2,y0,y6,QK]|refine Qf fun K hK=>?_|refine Qj ?_|refine Qp ?_|refine Qw ?_|refine Qd ?_|refine QB ?_|refine QF ?_|refine hK _ ?_;clear hK|refine Qi rfl ?_;simp only[↓reduceIte,QvT]
    simp only[QS,Qq,Qz,upd,↓reduceIte,QvV,QvZ]
    exact Xq (XZ _ _) (.keep (.v _)) ⟨rfl,rfl⟩
   |true =>
    rw[ho]at co
    by_cases l2:t.args.length=2
    ·have z3:((t.args.length:Int)==2)=true:=by simp[l2]
     have R:t.run b ((dn+1:Nat):Int)=runL t.args (b - 1) (dn:Int):=by
      rw[T.run_eq,QwJ hn,QwJ k0,QwJ k1,QwN k2,QwJ (show ¬(t.int≠0\/6<t.args.length) by omega),hr,ho,QwJ (by simp[l2])];rw[show(((dn+1:Nat):Int) - 1)=(dn:Int) by omega]
     rw[R]
     refine Qb Tryz.func139 rfl Tryz.call139 Tryz.ntmps139 Tryz.results139 (by simp) ?_
     with_reducible repeat first|(first|refine Qa fun K E hK hE=>?_|refine Qy cr ?_|refine Qy co ?_|refine FunW.QuW ca ?_);simp only[Qh,Qe,Qk,OpW,Q7,aop,undef,AS.ev,Qg,QX,Qu,QC,Qr,QG,QvW,Qwf,AV.QuX,Qo,Q6,QD,Xx,Qv9,Qwa,QE,QA,QP,Qwb,Qwc,Qwd,↓reduceIte,Qv2,Qv3,Nat.reduceAdd,Nat.reduceLT,Nat.reduceLeDiff,Nat.reduceEqDiff,Qv1,Qwe,Qwo,Qwn,Qm,QQ,QR,Xf,QY,aBin,aLen,QvP,QvQ,Qwj,QvR,QvU,QvS,Qv4,Qv8,Qwg,Qwi,Qv7,QvY,Qv6,Q1,YH,Q5,Xw,Zi,Ya,goInt,Qwm,QvX,QvT,T.QuV,QK,ti3,ti9,ti44,un44,XR,Yw,Yx,Yh,YQ,Q2,w1,f1,f2,f3,f4,fb,m0,d0,T.QuV,z0,z1,z2,y0,y6,QK,z3,wd]|refine Qf fun K hK=>?_|refine Qj ?_|refine Qp ?_|refine Qw ?_|refine Qd ?_|refine QB ?_|refine QF ?_|refine hK _ ?_;clear hK|refine Qi rfl ?_;simp only[↓reduceIte,QvT]
     simp only[QS,Qq,Qz,upd,↓reduceIte,QvV,QvZ]
     exact Xq (XZ _ _) (.keep (.v _)) ⟨rfl,rfl⟩
    ·have z3:((t.args.length:Int)==2)=false:=by simp;omega
     have R:t.run b ((dn+1:Nat):Int)=(false,b - 1):=by
      rw[T.run_eq,QwJ hn,QwJ k0,QwJ k1,QwN k2,QwJ (show ¬(t.int≠0\/6<t.args.length) by omega),hr,ho,QwN (by simp[l2])]
     rw[R]
     refine Qb Tryz.func139 rfl Tryz.call139 Tryz.ntmps139 Tryz.results139 (by simp) ?_
     with_reducible repeat first|(first|refine Qa fun K E hK hE=>?_|refine Qy cr ?_|refine Qy co ?_);simp only[Qh,Qe,Qk,OpW,Q7,aop,undef,AS.ev,Qg,QX,Qu,QC,Qr,QG,QvW,Qwf,AV.QuX,Qo,Q6,QD,Xx,Qv9,Qwa,QE,QA,QP,Qwb,Qwd,↓reduceIte,Qv2,Qv3,Nat.reduceAdd,Nat.reduceLT,Nat.reduceLeDiff,Nat.reduceEqDiff,Qv1,Qwe,Qwo,Qwn,Qm,QQ,QR,Xf,QY,aBin,aLen,QvP,QvQ,Qwj,QvR,QvU,QvS,Qv4,Qv8,Qwg,Qwi,Qv7,QvY,Qv6,Q1,YH,Q5,Xw,Zi,Ya,goInt,Qwm,QvX,QvT,T.QuV,QK,ti3,ti9,ti44,un44,XR,Yw,Yx,Yh,YQ,Q2,w1,f1,f2,f3,f4,fb,m0,d0,T.QuV,z0,z1,z2,y0,y6,QK,z3]|refine Qf fun K hK=>?_|refine Qj ?_|refine Qp ?_|refine Qw ?_|refine Qd ?_|refine QB ?_|refine QF ?_|refine hK _ ?_;clear hK|refine Qi rfl ?_;simp only[↓reduceIte,QvT]
     simp only[QS,Qq,Qz,upd,↓reduceIte,QvV,QvZ]
     exact Xq (XZ _ _) (.keep (.v _)) ⟨rfl,rfl⟩
theorem Chg.at{P:Program}{f:FuncId}{args:List AV}{i:Nat}{x y:AB}{r:AV}(H:Chg P f args i x r y){h:AH}(hx:h[i]? = some x):QT P f args h fun o h'=>o = .ret r/\h'=h.set i y:=by
 have:=H h (Qv hx)
 rwa [QrG hx]at this
theorem QqR(l:List T)(hl:l.length<=1000)(h:AH)(i:Nat)(hx:h[i]? = some (.cells 149 1 [.agg [.i 200]])):QT Tryz.prog 101 [.ptr i 0 0,.sl 4 (avs l) none,.i 20] h
  fun o h'=>o = .ret (.b (runL l 200 20).1)/\h'=h.set i (.cells 149 1 [.agg [.i (runL l 200 20).2]]) :=
 (Qnn 20 (fun t b i h0 h1=>Qpv 20 t b i (by omega) h0 h1) l hl 200 i (by omega) (fun t b hb h=>T.Qvo t b 20 hb h)).at hx
def Xa(g:G):Bool:=YF g.name&&(decide (g.args.length<=6)&&(runL g.args 200 20).1)
theorem Qaw(g:G):Pure Tryz.prog 80 [g.atom] (.b (Xa g)):=by
 intro h
 have cr:=QcL g.name
 have er:(decide (Qio 1 g.name)&&!resB g.name)=YF g.name:=rfl
 rw[er]at cr
 cases hr:YF g.name with
 |false =>
  rw[hr]at cr
  refine Qb Tryz.func80 rfl Tryz.call80 Tryz.ntmps80 Tryz.results80 (by simp) ?_
  with_reducible repeat first|(first|refine Qa fun K E hK hE=>?_|refine Qy cr ?_);simp only[Qh,Qe,Qk,OpW,Q7,aop,undef,AS.ev,Qg,Qu,QC,Qr,QG,QvW,AV.QuX,Qo,Q6,QD,Qv9,Qwa,QE,QA,QP,Qwb,↓reduceIte,Qv2,Qv3,Nat.reduceAdd,Nat.reduceLT,Nat.reduceLeDiff,Nat.reduceEqDiff,Qv1,Qwe,Qwn,Qm,QQ,QR,Zs,ZR,Q8,hlen,happ,QvP,QvQ,QvR,QvU,QvS,Qv4,Qv8,Qwh,Qwg,Qwi,Qv7,QvY,Qv6,QvT,beq_true,ti9,QiS,QjV,QjG,ZX]|refine Qp ?_|refine hK _ ?_;clear hK
  simp only[QS,Qq,Qz,upd,↓reduceIte,QvV,QvZ];first|refine Qc (htake _ _) (.keep (.v _)) ⟨by rw[Xa,hr];rfl,rfl⟩|refine Qc QwH (.keep (.v _)) ⟨by rw[Xa,hr];rfl,rfl⟩
 |true =>
  rw[hr]at cr
  by_cases hl:(g.args.length:Int)<=6
  ·have hl':decide (g.args.length<=6)=true:=Qw7 (by omega)
   have ca:=QqR g.args (by omega) (h++[.cells 66 2 [g.atom],.cells 149 1 [.agg [.i 200]]]) (h.length+1) (by rw[hget];rfl)
   rw[hset]at ca
   refine Qb Tryz.func80 rfl Tryz.call80 Tryz.ntmps80 Tryz.results80 (by simp) ?_
   with_reducible repeat first|(first|refine Qa fun K E hK hE=>?_|refine Qy cr ?_|refine FunW.QuW ca ?_);simp only[Qh,Qe,Qk,OpW,Q7,aop,undef,AS.ev,Qg,Qu,QC,Qr,QG,QvW,AV.QuX,Qo,Q6,QD,Qv9,Qwa,QE,QA,QP,Qwb,↓reduceIte,Qv2,Qv3,Nat.reduceAdd,Nat.reduceLT,Nat.reduceLeDiff,Nat.reduceEqDiff,Qv1,Qwe,Qwn,Qm,QQ,QR,aBin,Zs,ZR,aLen,Q8,hlen,happ,QvP,QvQ,Qwj,Qwk,QvR,QvU,QvS,Qv4,Qv8,Qwh,Qwg,Qwi,Qv7,QvY,Qv6,YT,goInt,Qwl,QvX,QK,ti9,ti44,un44,QiS,QiT,QjV,QjG,ZX,hl,QK]|refine Qp ?_|refine hK _ ?_;clear hK
   simp only[QS,Qq,Qz,upd,↓reduceIte,QvV,QvZ];first|refine Qc (htake _ _) (.keep (.v _)) ⟨by rw[Xa,hr,hl'];rfl,rfl⟩|refine Qc QwH (.keep (.v _)) ⟨by rw[Xa,hr,hl'];rfl,rfl⟩
  ·have hl':decide (g.args.length<=6)=false:=QwY (by omega)
   refine Qb Tryz.func80 rfl Tryz.call80 Tryz.ntmps80 Tryz.results80 (by simp) ?_
   with_reducible repeat first|(first|refine Qa fun K E hK hE=>?_|refine Qy cr ?_);simp only[Qh,Qe,Qk,OpW,Q7,aop,undef,AS.ev,Qg,Qu,QC,Qr,QG,QvW,AV.QuX,Qo,Q6,QD,Qv9,Qwa,QE,QA,QP,Qwb,↓reduceIte,Qv2,Qv3,Nat.reduceAdd,Nat.reduceLT,Nat.reduceLeDiff,Nat.reduceEqDiff,Qv1,Qwe,Qwn,Qm,QQ,QR,aBin,Zs,ZR,aLen,Q8,hlen,happ,QvP,QvQ,QvR,QvU,QvS,Qv4,Qv8,Qwh,Qwg,Qwi,Qv7,QvY,Qv6,YT,goInt,Qwm,QvX,QvT,beq_true,QK,ti9,ti44,un44,QiS,QiT,QjV,QjG,ZX,hl,QK]|refine Qp ?_|refine hK _ ?_;clear hK
   simp only[QS,Qq,Qz,upd,↓reduceIte,QvV,QvZ];first|refine Qc (htake _ _) (.keep (.v _)) ⟨by rw[Xa,hr,hl'];rfl,rfl⟩|refine Qc QwH (.keep (.v _)) ⟨by rw[Xa,hr,hl'];rfl,rfl⟩
def Qa1(op:Int):Int:=if op=1\/op=2 then 0 else if op=11\/op=12 then 1 else 2
def QL(g:G):Bool:=if g.op=0 then Xa ⟨0,g.name,g.args⟩else
 decide (0<g.op/\g.op<=12)&&(Ym g.name&&(decide ((g.args.length:Int)=Qa1 g.op)&&(runL g.args 200 20).1))
theorem Qa6{s:ByteArray}(h:YF s=true):1<=s.size/\s.size<=40:=by
 rw[YF,QwQ,Qw1]at h
 exact⟨h.1.1,h.1.2.1⟩
theorem QhI(b:Bool)(x:ByteArray):(encB b x).size<=x.size+2:=by
 rw[encB];split
 ·rw[Qs,Qs];have:lpa.size=1:=rfl;have:rpa.size=1:=rfl;omega
 ·omega
theorem QhT(l:List ByteArray):∀f,(X1 f l).size<=(l.map fun x=>x.size+2).sum:=by
 induction l with
 |nil=>intro f;rw[X1];simp
 |cons x l ih =>
  intro f
  have h1:=ih false
  rw[Qg3 f _ x l rfl,List.map_cons,List.sum_cons]
  split <;> omega
theorem QqL(t:ByteArray):(vOf t).size=t.size+1:=by rw[vOf,Qs];have:({data:=#[86]}:ByteArray).size=1:=rfl;omega
theorem QaW{s:ByteArray}(h:Ym s=true):s.size=0:=by
 rw[Ym,QdW,Qw1]at h
 exact h
mutual
theorem T.QvH:∀(t:T) (b d:Int),(t.run b d).1=true->t.lex/\(t.txt.size:Int)+4<=60 * (b - (t.run b d).2)/\0<t.txt.size/\(t.run b d).2<=b
 | .mk k i n l,b,d,h=>by
  rw[T.run]at h ⊢
  split at h
  ·cases h
  rename_i h1
  rw[QwJ h1]
  split at h
  ·rename_i k0
   subst k0
   rw[QwN rfl]
   simp only[QwQ,Qw1]at h
   obtain⟨⟨hr,hn⟩,hl⟩:=h
   have hl':l=[]:=by simpa using hl
   subst hl'
   have hn':=QaW hn
   have hz:=Qfw i (by omega) (by omega)
   have hp:=QpS i
   have et:(T.mk 0 i n []).txt=decZ i:=by rw[T.txt,QwJ (by simp[T.oper,T.kind]),QwN rfl]
   rw[et]
   refine⟨⟨fun _=>by omega,fun e=>(by cases e),by simp,by omega,trivial⟩,?_,hp,?_⟩ <;> simp only <;> omega
  ·rename_i k0
   rw[QwJ k0]
   split at h
   ·rename_i k1
    subst k1
    rw[QwN rfl]
    simp only[QwQ,Qw1]at h
    obtain⟨⟨hr,hn⟩,hl⟩:=h
    have hl':l=[]:=by simpa using hl
    subst hl'
    have hn':=QaW hn
    have hz:=QhD (n:=i.toNat) (by omega)
    have et:(T.mk 1 i n []).txt=vOf (decN i.toNat):=by rw[T.txt,QwJ (by simp[T.oper,T.kind]),QwJ k0,QwN rfl]
    rw[et,QqL]
    refine⟨⟨fun e=>(by cases e),fun _=>hr,by simp,by omega,trivial⟩,?_,by omega,?_⟩ <;> simp only <;> omega
   ·rename_i k1
    rw[QwJ k1]
    split at h
    ·rename_i k2
     subst k2
     rw[QwN rfl]
     split at h
     ·cases h
     rename_i h3
     rw[QwJ h3]
     split at h
     ·cases h
     rename_i h4
     rw[QwJ h4]
     have hL:=Qe0 l (b - 1) (d - 1) h
     have hll:l.length<=6:=by omega
     have hns:1<=n.size/\n.size<=40:=by
      simp only[Qyz,QwQ,not_and,Bool.not_eq_false,Qw1]at h4
      cases hrb:YF n with
      |true=>exact Qa6 hrb
      |false =>
       rw[hrb]at h4
       have hop:opB n=true:=by
        cases ho:opB n with
        |true=>rfl
        |false=>rw[ho]at h4;simp at h4
       by_cases hs1:n.size=1
       ·omega
       ·rw[Qh4 hs1]at hop;cases hop
     refine⟨⟨fun e=>(by cases e),fun e=>(by cases e),by omega,by omega,hL.1⟩,?_⟩
     by_cases ho:(T.mk 2 i n l).oper=0
     ·have et:(T.mk 2 i n l).txt=funT n (txts l):=by rw[T.txt,QwJ (by simpa using ho),QwJ k0,QwJ k1]
      rw[et,funT,Qs]
      have e1:=QhI (decide (0<(txts l).length)) (X1 true (txts l))
      have e2:=QhT (txts l) true
      have e3:=hL.2.1
      refine⟨?_,?_,?_⟩ <;> omega
     ·have hk:l.length=2:=by
       simp only[T.oper]at ho
       split at ho
       ·exact absurd rfl ho
       ·rename_i hq;exact Decidable.byContradiction fun e=>hq (.inr e)
      match l,hk,hL with
      |[a,c],_,hL =>
       have et:(T.mk 2 i n [a,c]).txt=binT (ofB n) n a.oper c.oper a.txt c.txt:=by rw[T.txt,QwN ho];rfl
       rw[et,binT]
       simp only[Qs]
       have hsp:({data:=#[32]}:ByteArray).size=1:=rfl
       have e1:=QhI ((a.oper==1)&&(ofB n==2)) a.txt
       have e2:=QhI ((c.oper != 0)&&((c.oper==1)||(ofB n==2))) c.txt
       have e3:=hL.2.1
       have e4:=hL.2.2
       simp only[txts,Qv4,Qv8,List.sum_cons,List.sum_nil]at e3
       refine⟨?_,?_,?_⟩ <;> omega
    ·cases h
theorem Qe0:∀(l:List T) (b d:Int),(runL l b d).1=true->lexL l/\((((txts l).map fun x=>x.size+2).sum:Nat):Int)<=60 * (b - (runL l b d).2)/\(runL l b d).2<=b
 |[],b,d,h=>by rw[runL];exact⟨trivial,by simp[txts],Int.le_refl _⟩
 |t::l,b,d,h=>by
  rw[runL]at h ⊢
  split at h
  ·rename_i h1
   rw[QwN h1]
   have ht:=T.QvH t b d h1
   have hl:=Qe0 l _ d h
   refine⟨⟨ht.1,hl.1⟩,?_,?_⟩
   ·rw[txts,List.map_cons,List.sum_cons]
    have:=hl.2.1
    have:=ht.2.1
    omega
   ·have:=hl.2.2;have:=ht.2.2.2;omega
  ·cases h
end
mutual
/-- the occurrences of variables -/
def T.vars:T->List Int
 | .mk k i _ l=>if k=1 then[i]else if k=2 then Xd l else[]
def Xd:List T->List Int
 |[]=>[]
 |t::l=>t.vars++Xd l
end
theorem Z5:∀l r:List T,Xd (l++r)=Xd l++Xd r
 |[],r=>rfl
 |t::l,r=>by simp only[Qwh,Xd,Z5 l r,QwM]
def ins(s:List Int)(n:Int):List Int:=if n∈s then s else s++[n]
def ded:List Int->List Int->List Int
 |s,[]=>s
 |s,n::l=>ded (ins s n) l
theorem ZY:∀s l r:List Int,ded s (l++r)=ded (ded s l) r
 |s,[],r=>rfl
 |s,n::l,r=>by simp only[Qwh,ded,ZY]
theorem QrJ(s:List Int)(n:Int):∃r,ins s n=s++r:=by
 unfold ins
 split
 ·exact⟨[],by simp⟩
 ·exact⟨[n],rfl⟩
theorem QhH:∀s l:List Int,∃r,ded s l=s++r
 |s,[]=>⟨[],by simp[ded]⟩
 |s,n::l=>by
  obtain⟨r,h⟩:=QrJ s n
  obtain⟨r',h'⟩:=QhH (ins s n) l
  exact⟨r++r',by rw[ded,h',h,QwM]⟩
theorem QfS{s:List Int}{n v:Int}:v∈ins s n↔v∈s\/v=n:=by
 unfold ins
 split
 ·rename_i h
  exact⟨.inl,fun h'=>h'.elim id (fun e=>e▸h)⟩
 ·simp
theorem Qd6:∀{s l:List Int} {v:Int},v∈ded s l↔v∈s\/v∈l
 |s,[],v=>by simp[ded]
 |s,n::l,v=>by
  simp only[ded,Qd6 (l:=l),QfS,QwS,or_assoc]
theorem Qmx(s:List Int)(n:Int):(ins s n).length<=s.length+1:=by
 unfold ins
 split
 ·omega
 ·simp
theorem Y2:∀s l:List Int,(ded s l).length<=s.length+l.length
 |s,[]=>by simp[ded]
 |s,n::l=>by
  have h1:=Y2 (ins s n) l
  have h2:=Qmx s n
  simp only[ded,Qv2]
  omega
def plc:List Int->Int->Nat
 |[],_=>0
 |a::l,n=>if a=n then 0 else plc l n+1
theorem Qhg{n:Int}:∀{s:List Int} (r:List Int),n∈s->plc (s++r) n=plc s n
 |a::s,r,h=>by
  simp only[Qwh,plc]
  split
  ·rfl
  ·rename_i hne
   rw[Qhg r (by rcases QwS.1 h with h|h;exact absurd h.symm hne;exact h)]
theorem QoQ{n:Int}:∀{s:List Int},n∉s->plc s n=s.length
 |[],_=>rfl
 |a::s,h=>by
  simp only[QwS,not_or]at h
  simp only[plc,QwJ (fun e:a=n=>h.1 e.symm),QoQ h.2,Qv2]
theorem Qbq{n:Int}{s:List Int}(r:List Int)(h:n∉s):plc (s++n::r) n=s.length:=by
 induction s with
 |nil=>simp[plc]
 |cons a s ih =>
  simp only[QwS,not_or]at h
  simp only[Qwh,plc,QwJ (fun e:a=n=>h.1 e.symm),ih h.2,Qv2]
theorem Qjt{n:Int}:∀{s:List Int},n∈s->plc s n<s.length
 |a::s,h=>by
  simp only[plc,Qv2]
  split
  ·omega
  ·rename_i hne
   have:=Qjt (s:=s) (n:=n) (by rcases QwS.1 h with h|h;exact absurd h.symm hne;exact h)
   omega
theorem QoO{n:Int}:∀{s:List Int} (h:plc s n<s.length),s[plc s n]=n
 |a::s,h=>by
  simp only[plc]at h ⊢
  by_cases e:a=n
  ·simp[e]
  ·simp only[QwJ e,Qv2]at h ⊢
   simp only[Qyr]
   exact QoO (by omega)
theorem QkN{n:Int}{s:List Int}(h:n∈s):s[plc s n]'(Qjt h)=n:=QoO _
mutual
def T.map(g:Int->Int):T->T
 | .mk k i n l=>if k=1 then .mk k (g i) n l else if k=2 then .mk k i n (maps g l)else .mk k i n l
def maps(g:Int->Int):List T->List T
 |[]=>[]
 |t::l=>t.map g::maps g l
end
mutual
def T.mapS{σ:Type}(g:σ->Int->Int×σ):σ->T->T×σ
 |s,.mk k i n l=>if k=1 then(.mk k (g s i).1 n l,(g s i).2)else if k=2 then(.mk k i n (XJ g s l).1,(XJ g s l).2)else(.mk k i n l,s)
def XJ{σ:Type}(g:σ->Int->Int×σ):σ->List T->List T×σ
 |s,[]=>([],s)
 |s,t::l=>((T.mapS g s t).1::(XJ g (T.mapS g s t).2 l).1,(XJ g (T.mapS g s t).2 l).2)
end
theorem T.Qu7{σ:Type}(g:σ->Int->Int×σ)(s:σ)(t:T):T.mapS g s t=if t.kind=1 then(.mk t.kind (g s t.int).1 t.name t.args,(g s t.int).2)else if t.kind=2 then(.mk t.kind t.int t.name (XJ g s t.args).1,(XJ g s t.args).2)else(t,s):=by
 cases t;simp only[T.mapS,T.kind,T.int,T.name,T.args];rfl
theorem Qey{σ:Type}(g:σ->Int->Int×σ):∀(s:σ) (l r:List T),XJ g s (l++r)=((XJ g s l).1++(XJ g (XJ g s l).2 r).1,(XJ g (XJ g s l).2 r).2)
 |s,[],r=>by simp[XJ]
 |s,t::l,r=>by simp only[Qwh,XJ,Qey g _ l r]
theorem QaG{σ:Type}(g:σ->Int->Int×σ):∀(s:σ) (l:List T),(XJ g s l).1.length=l.length
 |s,[]=>by simp[XJ]
 |s,t::l=>by simp only[XJ,Qv2,QaG g _ l]
theorem QmE{σ:Type}(g:σ->Int->Int×σ)(s:σ){l:List T}{k:Nat}(h:k<l.length) :
  (XJ g s (l.take (k+1))).1=(XJ g s (l.take k)).1++[(T.mapS g (XJ g s (l.take k)).2 l[k]).1]/\(XJ g s (l.take (k+1))).2=(T.mapS g (XJ g s (l.take k)).2 l[k]).2:=by
 rw[Qxq h,Qey]
 exact⟨by simp[XJ],by simp[XJ]⟩
def gNum:List Int->Int->Int×List Int:=fun s n=>((plc (ins s n) n:Nat),ins s n)
mutual
theorem T.Qvl:∀(s:List Int) (t:T) (r:List Int),T.mapS gNum s t=(t.map fun n=>((plc (ded s t.vars++r) n:Nat):Int),ded s t.vars)
 |s,.mk k i n l,r=>by
  simp only[T.mapS,T.map,T.vars]
  split
  ·rename_i h
   simp only[gNum,ded]
   rw[Qhg r (QfS.2 (.inr rfl))]
  ·split
   ·rw[QaT s l r]
   ·rfl
theorem QaT:∀(s:List Int) (l:List T) (r:List Int),XJ gNum s l=(maps (fun n=>((plc (ded s (Xd l)++r) n:Nat):Int)) l,ded s (Xd l))
 |s,[],r=>rfl
 |s,t::l,r=>by
  obtain⟨q,hq⟩:=QhH (ded s t.vars) (Xd l)
  simp only[XJ,maps,Xd]
  rw[T.Qvl s t (q++r)]
  simp only
  rw[QaT _ l r]
  simp only[ZY,hq,QwM]
end
def Zg(s:List Int):List (Int×AV):=s.zipIdx.map fun p=>(p.1,AV.v (.int .i64 ((p.2:Nat):Int)))
theorem QfV(s:List Int)(n:Int):Zg (s++[n])=Zg s++[(n,.v (.int .i64 s.length))]:=by
 simp[Zg,List.zipIdx_append]
theorem QfY(n:Int):∀(s:List Int),QhS n (Zg s)=if n∈s then some (.v (.int .i64 (plc s n:Nat)))else none:=by
 have gen:∀(s:List Int) (k:Nat),QhS n ((s.zipIdx k).map fun p=>(p.1,AV.v (.int .i64 ((p.2:Nat):Int))))=if n∈s then some (.v (.int .i64 ((k+plc s n:Nat):Int)))else none:=by
  intro s
  induction s with
  |nil=>intro k;rfl
  |cons a s ih =>
   intro k
   simp only[List.zipIdx_cons,Qv4,QhS,ih]
   by_cases h:n=a
   ·subst h;simp[plc]
   ·rw[QwJ h]
    simp only[QwS,h,false_or,plc,QwJ (fun e:a=n=>h e.symm)]
    split
    ·congr 3;omega
    ·rfl
 intro s
 have:=gen s 0
 simpa [Zg]using this
def Xh{X σ:Type}(g:σ->X->X×σ):σ->List X->List X×σ
 |s,[]=>([],s)
 |s,x::l=>((g s x).1::(Xh g (g s x).2 l).1,(Xh g (g s x).2 l).2)
theorem QbS{σ:Type}(g:σ->Int->Int×σ):∀(s:σ) (l:List T),XJ g s l=Xh (T.mapS g) s l
 |s,[]=>rfl
 |s,t::l=>by rw[XJ,Xh,QbS g _ l]
theorem QaF{X σ:Type}(g:σ->X->X×σ):∀(s:σ) (l:List X),(Xh g s l).1.length=l.length
 |s,[]=>rfl
 |s,x::l=>by simp only[Xh,Qv2,QaF g _ l]
def mapB(s:List Int):AB:=.map (imap (Zg s))
theorem Zo(s:List Int)(n:Nat):(mapB s).Below n:=by
 intro kv hkv
 simp only[imap,Zg,Qxa]at hkv
 obtain⟨_,⟨_,_,rfl⟩,rfl⟩:=hkv
 exact .v _
theorem Qdw(s:List Int):(imap (Zg s)).length=s.length:=by simp[imap,Zg]
theorem Qeu{X σ:Type}(g:σ->X->X×σ):∀(s:σ) (l r:List X),Xh g s (l++r)=((Xh g s l).1++(Xh g (Xh g s l).2 r).1,(Xh g (Xh g s l).2 r).2)
 |s,[],r=>by simp[Xh]
 |s,x::l,r=>by simp only[Qwh,Xh,Qeu g _ l r]
mutual
theorem T.Qvz(f:Int->Int):∀t:T,(t.map f).vars=t.vars.map f
 | .mk k i n l=>by
  simp only[T.map,T.vars]
  by_cases h1:k=1
  ·simp[h1,T.vars]
  ·by_cases h2:k=2
   ·simp only[QwJ h1,QwN h2,T.vars];exact Qek f l
   ·simp[h1,h2,T.vars]
theorem Qek(f:Int->Int):∀l:List T,Xd (maps f l)=(Xd l).map f
 |[]=>rfl
 |t::l=>by rw[maps,Xd,Xd,T.Qvz f t,Qek f l,Qxs]
end
mutual
theorem T.map_map(f g:Int->Int):∀t:T,(t.map f).map g=t.map fun n=>g (f n)
 | .mk k i n l=>by
  simp only[T.map]
  by_cases h1:k=1
  ·simp[h1,T.map]
  ·by_cases h2:k=2
   ·simp only[QwJ h1,QwN h2,T.map];rw[QfR f g l]
   ·simp[h1,h2,T.map]
theorem QfR(f g:Int->Int):∀l:List T,maps g (maps f l)=maps (fun n=>g (f n)) l
 |[]=>rfl
 |t::l=>by rw[maps,maps,maps,T.map_map f g t,QfR f g l]
end
mutual
theorem T.map_congr{f g:Int->Int}:∀(t:T),(∀v∈t.vars,f v=g v)->t.map f=t.map g
 | .mk k i n l,h=>by
  simp only[T.map,T.vars]at h ⊢
  by_cases h1:k=1
  ·simp only[QwN h1]at h ⊢;rw[h i (by simp)]
  ·by_cases h2:k=2
   ·simp only[QwJ h1,QwN h2]at h ⊢;rw[Qd5 l h]
   ·simp[h1,h2]
theorem Qd5{f g:Int->Int}:∀(l:List T),(∀v∈Xd l,f v=g v)->maps f l=maps g l
 |[],_=>rfl
 |t::l,h=>by
  rw[maps,maps,T.map_congr t fun v hv=>h v (by rw[Xd];exact Qxf.2 (.inl hv)),Qd5 l fun v hv=>h v (by rw[Xd];exact Qxf.2 (.inr hv))]
end
inductive Res (α:Type) where
 |ok (a:α) (r:List UInt8)
 |err (e:Int)
def mkB(l:List UInt8):ByteArray:=⟨l.toArray⟩
def isD(c:UInt8):Bool:=decide (48<=c.toNat/\c.toNat<=57)
def isL(c:UInt8):Bool:=decide (97<=c.toNat/\c.toNat<=122\/65<=c.toNat/\c.toNat<=90\/c.toNat=95)
def isW(c:UInt8):Bool:=isL c||isD c
def skipSp:List UInt8->List UInt8
 |[]=>[]
 |c::r=>if c.toNat=32 then skipSp r else c::r
def headD:List UInt8->Bool
 |c::_=>isD c
 |[]=>false
def numVal(l:List UInt8):Nat:=l.foldl (fun n c=>10 * n+(c.toNat - 48)) 0
def eB:ByteArray:={data:=#[]}
def pInt(s:Bool)(sign:Int):List UInt8->Res T
 |[]=>.err 16
 |c::r=>if c.toNat=48 then(if sign<0\/(s&&headD r)=true then .err 16 else .ok (.mk 0 0 eB []) r)else
  if numVal ((c::r).takeWhile isD)<=2147483648 then .ok (.mk 0 (sign * numVal ((c::r).takeWhile isD)) eB []) ((c::r).dropWhile isD)else .err 5
def varV(s:ByteArray):Option Nat:=match Lib.decFrom 0 (s.data.toList.drop 1)with
 |some k=>if k<=1048576/\s.data.toList=(vOf (decN k)).data.toList then some k else none
 |none=>none
def Qs0(ex:List UInt8->Res T):Nat->List T->List UInt8->Res (List T)
 |0,_,_=>.err 16
 |m+1,l,r=>match skipSp r with
  |[]=>.err 16
  |c::r2=>if c.toNat=44 then(match ex r2 with
    | .ok t r3=>Qs0 ex m (l++[t]) r3
    | .err e=>.err e)else if c.toNat=41 then .ok l r2 else .err 16
def Qt3(ex:List UInt8->Res T)(r:List UInt8):Res (List T):=match skipSp r with
 |[]=>.ok [] []
 |c::r2=>if c.toNat=40 then(match ex r2 with
   | .ok t r3=>Qs0 ex (r3.length+1) [t] r3
   | .err e=>.err e)else .ok [] (c::r2)
def Qt4(ex:List UInt8->Res T)(r:List UInt8):Res T :=
 if (r.headD 0).toNat<97 then(match varV (mkB (r.takeWhile isW))with
  |some k=>.ok (.mk 1 k eB []) (r.dropWhile isW)
  |none=>.err 7)else
 if YF (mkB (r.takeWhile isW))=true then(match Qt3 ex (r.dropWhile isW)with
  | .ok l r2=>.ok (.mk 2 0 (mkB (r.takeWhile isW)) l) r2
  | .err e=>.err e)else .err 7
def Qs2(s:Bool)(ex:List UInt8->Res T)(r:List UInt8):Res T:=match skipSp r with
 |[]=>.err 16
 |c::r2 =>
  if isD c=true then pInt s 1 (c::r2)else
  if c.toNat=45 then(if headD r2=true then pInt s (-1) r2 else .err 16)else
  if isL c=true then Qt4 ex (c::r2)else
  if c.toNat=40 then(match ex r2 with
   | .ok t r3=>(match skipSp r3 with
    |d::r4=>if d.toNat=41 then .ok t r4 else .err 16
    |[]=>.err 16)
   | .err e=>.err e)else .err 16
def QnF(op:List UInt8->Res T)(st:Int):Nat->T->List UInt8->Res T
 |0,t,r=>.ok t (skipSp r)
 |m+1,t,r=>match skipSp r with
  |[]=>.ok t []
  |c::r2=>if ofB (mkB [c])=st then(match op r2 with
    | .ok u r3=>QnF op st m (.mk 2 0 (mkB [c]) [t,u]) r3
    | .err e=>.err e)else .ok t (c::r2)
def chain(op:List UInt8->Res T)(st:Int)(r:List UInt8):Res T:=match op r with
 | .ok t r2=>QnF op st (r2.length+1) t r2
 | .err e=>.err e
def QsZ(s:Bool):Nat->List UInt8->Res T
 |0=>fun _=>.err 16
 |n+1=>chain (chain (Qs2 s (QsZ s n)) 2) 1
structure Tk where
  kind : Int
  pos : Int
  text : ByteArray
structure PS where
  toks : List Tk
  names : List ByteArray
inductive PR (α : Type) where
  | ok (a : α) (s : PS)
  | err (pos e : Int)
def PR.bind {α β : Type} (x : PR α) (f : α -> PS -> PR β) : PR β := match x with
  | .ok a s => f a s
  | .err p e => .err p e
def PS.tk (s : PS) : Tk := s.toks.headD ⟨0, 0, eB⟩
def PS.nx (s : PS) : PS := ⟨match s.toks with | _ :: u :: r => u :: r | l => l, s.names⟩
def PS.is (s : PS) (b : List UInt8) : Bool := (s.tk.kind == 4) && (s.tk.text.toList == b)
def PS.oneOf (s : PS) (l : List (List UInt8)) : Bool := l.any s.is
def Z8 (b : List UInt8) (s : PS) : PR Unit := if s.is b then .ok () s.nx else .err s.tk.pos 16
def Qco (s : PS) : PR ByteArray := if s.tk.kind ≠ 1 then .err s.tk.pos 16 else if resB s.tk.text then .err s.tk.pos 7 else .ok s.tk.text s.nx
def nameAt (l : List ByteArray) (x : ByteArray) : Nat := l.findIdx fun y => y.toList == x.toList
def pVari (x : ByteArray) (s : PS) : T × PS :=
  if nameAt s.names x < s.names.length /\ x.toList ≠ [95] then (.mk 1 (nameAt s.names x : Nat) eB [], s) else (.mk 1 (s.names.length : Nat) eB [], ⟨s.toks, s.names ++ [x]⟩)
def valT (x : ByteArray) : Int := (numVal x.toList : Nat)
def sAt : List UInt8 := [64]
def Qa7 : List UInt8 := [44]
def sLp : List UInt8 := [40]
def sRp : List UInt8 := [41]
def Qgc : List UInt8 := [45]
def XK : List (List UInt8) := [[42], [47], [37]]
def YA : List (List UInt8) := [[43], [45]]
def Zh (ex : PS -> PR T) : Nat -> List T -> PS -> PR (List T)
  | 0, _, s => .err s.tk.pos 16
  | m + 1, l, s => (ex s).bind fun t s => if s.is Qa7 then Zh ex m (l ++ [t]) s.nx else (Z8 sRp s).bind fun _ s => .ok (l ++ [t]) s
def ZH (ex : PS -> PR T) (s : PS) : PR G := (Qco s).bind fun x s => if s.is sLp then (Zh ex s.toks.length [] s.nx).bind fun l s => .ok ⟨0, x, l⟩ s else .ok ⟨0, x, []⟩ s
def pOpT (ex : PS -> PR T) (s : PS) : PR T :=
  if s.tk.kind = 3 then .ok (.mk 0 (valT s.tk.text) eB []) s.nx else
  if s.tk.kind = 2 then .ok (pVari s.tk.text s.nx).1 (pVari s.tk.text s.nx).2 else
  if s.tk.kind = 1 then (ZH ex s).bind fun a s => .ok (.mk 2 0 a.name a.args) s else
  if s.is Qgc then (if s.nx.tk.kind ≠ 3 \/ s.nx.tk.pos ≠ s.tk.pos + 1 then .err s.nx.tk.pos 16 else .ok (.mk 0 (-valT s.nx.tk.text) eB []) s.nx.nx) else
  if s.is sLp then (ex s.nx).bind fun t s => (Z8 sRp s).bind fun _ s => .ok t s else .err s.tk.pos 16
def XX (op : PS -> PR T) (ops : List (List UInt8)) : Nat -> T -> PS -> PR T
  | 0, t, s => .ok t s
  | m + 1, t, s => if s.oneOf ops then (op s.nx).bind fun u s2 => XX op ops m (.mk 2 0 s.tk.text [t, u]) s2 else .ok t s
def XN (op : PS -> PR T) (ops : List (List UInt8)) (s : PS) : PR T := (op s).bind fun t s => XX op ops s.toks.length t s
def YE : Nat -> PS -> PR T
  | 0, s => .err s.tk.pos 16
  | n + 1, s => XN (XN (pOpT (YE n)) XK) YA s
def X7 (s : PS) : PR T := YE (s.toks.length + 1) s
def cmpOp (s : PS) : Option (Int × Bool) :=
  if s.tk.kind = 1 then (if s.tk.text.toList = [105, 115] then some (4, false) else none) else
  if s.tk.kind ≠ 4 then none else
  if s.tk.text.toList = [61] then some (3, false) else if s.tk.text.toList = [61, 61] then some (5, false) else if s.tk.text.toList = [92, 61] then some (6, false) else
  if s.tk.text.toList = [60] then some (7, false) else if s.tk.text.toList = [61, 60] then some (8, false) else if s.tk.text.toList = [62] then some (7, true) else
  if s.tk.text.toList = [62, 61] then some (8, true) else if s.tk.text.toList = [61, 58, 61] then some (9, false) else if s.tk.text.toList = [61, 92, 61] then some (10, false) else none
def Qcp (op : Int) (s : PS) : PR G := (Z8 sLp s).bind fun _ s => (X7 s).bind fun t s => (Z8 sRp s).bind fun _ s => .ok ⟨op, eB, [t]⟩ s
def Y9 (s : PS) : PR G :=
  if s.tk.kind = 1 /\ resB s.tk.text = true then
    (if s.tk.text.toList = [116, 114, 117, 101] then .ok ⟨1, eB, []⟩ s.nx else if s.tk.text.toList = [102, 97, 105, 108] then .ok ⟨2, eB, []⟩ s.nx else
     if s.tk.text.toList = [105, 110, 116] then Qcp 11 s.nx else if s.tk.text.toList = [103, 114, 111, 117, 110, 100] then Qcp 12 s.nx else .err s.tk.pos 7)
  else (X7 s).bind fun t s2 => match cmpOp s2 with
    | some (op, turn) => (X7 s2.nx).bind fun u s3 => .ok ⟨op, eB, if turn then [u, t] else [t, u]⟩ s3
    | none => if s.tk.kind = 1 /\ t.name.toList = s.tk.text.toList then .ok ⟨0, t.name, t.args⟩ s2 else .err s2.tk.pos 16
def YS (most : Nat) : Nat -> List G -> PS -> PR (List G)
  | 0, _, s => .err s.tk.pos 16
  | m + 1, l, s => if most <= l.length then .err s.tk.pos 6 else (Y9 s).bind fun g s2 =>
      if QL g = false then .err s.tk.pos 6 else if s2.is Qa7 then YS most m (l ++ [g]) s2.nx else .ok (l ++ [g]) s2
def QbF (most : Nat) (s : PS) : PR (List G) := YS most (s.toks.length + 1) [] s
def pEnd (s : PS) : PR Unit := if s.tk.kind = 0 then .ok () s else .err s.tk.pos 16
def XI (l : List G) : List Int := l.flatMap fun g => Xd g.args
def Qf3 (s : PS) : PR (List G × List ByteArray) := (QbF 40 s).bind fun l s => (pEnd s).bind fun _ s =>
  .ok (l.map fun g => ⟨g.op, g.name, maps (fun v => ((plc (ded [] (XI l)) v : Nat) : Int) ) g.args⟩, (ded [] (XI l)).map fun v => s.names.getD v.toNat eB) s
def isSp(c:UInt8):Bool:=decide (c.toNat=32\/c.toNat=9\/c.toNat=10\/c.toNat=13)
def XP:Bool->List UInt8->List UInt8
 |_,[]=>[]
 |true,c::r=>if c.toNat=10 then XP false r else XP true r
 |false,c::r=>if isSp c then XP false r else if c.toNat=35 then XP true r else c::r
def X3:List (List UInt8):=[[61,58,61],[61,92,61],[60,61,62],[61,61,62],[61,61],[92,61],[61,60],[62,61],[64],[44],[46],[40],[41],[124],[47],[92],[43],[45],[42],[37],[61],[60],[62]]
def Qgg(l:List UInt8):Option (List UInt8):=X3.find? fun x=>x.isPrefixOf l
def ZK(l:List UInt8):Int×List UInt8 ⊕ Int:=match l with
 |[]=>.inl (0,[])
 |c::r =>
  if isL c then(if 40<((c::r).takeWhile isW).length then .inr 7 else .inl (if 97<=c.toNat then 1 else 2,(c::r).takeWhile isW))else
  if isD c then(if 2147483648<numVal ((c::r).takeWhile isD)then .inr 5 else .inl (3,(c::r).takeWhile isD))else
  match Qgg (c::r)with
  |some x=>.inl (4,x)
  |none=>.inr 16
def Qbb(tot:Nat):Nat->List UInt8->List Tk ⊕ (Int×Int)
 |0,_=>.inl []
 |m+1,l=>match ZK (XP false l)with
  | .inr e=>.inr (((tot - (XP false l).length:Nat):Int),e)
  | .inl (k,x)=>if k=0 then .inl [⟨0,((tot - (XP false l).length:Nat):Int),eB⟩]else
   match Qbb tot m ((XP false l).drop x.length)with
   | .inl ts=>.inl (⟨k,((tot - (XP false l).length:Nat):Int),mkB x⟩::ts)
   | .inr e=>.inr e
def ZV(l:List UInt8):List Tk ⊕ (Int×Int):=if 16384<l.length then .inr (0,6)else Qbb l.length (l.length+1) l
theorem QcO:∀(b:Bool) (l:List UInt8),(XP b l).length<=l.length
 |_,[]=>by rw[XP];exact QwP _
 |true,c::r=>by
  rw[XP,Qv2]
  split
  ·exact QyH (QcO false r)
  ·exact QyH (QcO true r)
 |false,c::r=>by
  rw[XP]
  split
  ·exact QyH (QcO false r)
  ·split
   ·exact QyH (QcO true r)
   ·exact QwP _
theorem QjL{l x:List UInt8}(h:Qgg l=some x):0<x.length/\x.length<=3/\x.isPrefixOf l=true:=by
 have h1:=List.mem_of_find?_eq_some h
 have h2:=List.find?_some h
 refine⟨?_,?_,h2⟩
 ·have:∀x∈X3,0<x.length:=by decide
  exact this x h1
 ·have:∀x∈X3,x.length<=3:=by decide
  exact this x h1
def PS.wf(s:PS):Prop:=∃l e,s.toks=l++[e]/\e.kind=0/\∀t∈l,t.kind≠0
theorem QaR{s:PS}(h:s.wf):s.nx.wf:=by
 obtain⟨l,e,hl,he,ha⟩:=h
 cases l with
 |nil=>exact⟨[],e,by simp only[PS.nx,hl,Qwg],he,ha⟩
 |cons t l =>
  have e2:s.nx.toks=l++[e]:=by
   cases l with
   |nil=>simp only[PS.nx,hl,Qwh,Qwg]
   |cons u l=>simp only[PS.nx,hl,Qwh]
  exact⟨l,e,e2,he,fun x hx=>ha x (by simp[hx])⟩
theorem Qut{s:PS}(h:s.wf)(hk:s.tk.kind≠0):s.toks=s.tk::s.nx.toks:=by
 obtain⟨l,e,hl,he,ha⟩:=h
 cases l with
 |nil =>
  have:s.tk=e:=by simp only[PS.tk,hl,Qwg,Qxw]
  rw[this]at hk;exact absurd he hk
 |cons t l =>
  have e1:s.tk=t:=by simp only[PS.tk,hl,Qwh,Qxw]
  have e2:s.nx.toks=l++[e]:=by
   cases l with
   |nil=>simp only[PS.nx,hl,Qwh,Qwg]
   |cons u l=>simp only[PS.nx,hl,Qwh]
  rw[e1,e2,hl];rfl
theorem YU{s:PS}(h:s.wf)(hk:s.tk.kind≠0):s.nx.toks.length+1=s.toks.length:=by
 rw[Qut h hk];rfl
theorem Qtu{s:PS}(h:s.wf):s.nx.toks.length<=s.toks.length:=by
 by_cases hk:s.tk.kind=0
 ·unfold PS.nx
  split
  ·rename_i he;rw[he];simp
  ·exact QwP _
 ·have:=YU h hk;omega
theorem Qu1{s:PS}{b:List UInt8}(h:s.is b=true):s.tk.kind=4:=by
 simp only[PS.is,QwQ,QxL]at h;exact h.1
theorem Qd8{s:PS}{l:List (List UInt8)}(h:s.oneOf l=true):s.tk.kind=4:=by
 rw[PS.oneOf,QyJ]at h
 obtain⟨b,_,hb⟩:=h
 exact Qu1 hb
theorem bind_ok{α β:Type}{x:PR α}{f:α->PS->PR β}{b:β}{s2:PS}(h:x.bind f = .ok b s2):∃a s,x = .ok a s/\f a s = .ok b s2:=by
 cases x with
 |ok a s=>exact⟨a,s,rfl,h⟩
 |err p e=>cases h
def Eat{α:Type}(k:Nat)(f:PS->PR α):Prop:=∀s,s.wf->∀a s2,f s = .ok a s2->s2.wf/\s2.toks.length+k<=s.toks.length
theorem Eat.less{α:Type}{j k:Nat}{f:PS->PR α}(h:Eat k f)(hj:j<=k):Eat j f:=fun s hs a s2 e=>by
 obtain⟨h1,h2⟩:=h s hs a s2 e
 exact⟨h1,by omega⟩
theorem Qe6(b:List UInt8):Eat 1 (Z8 b):=fun s hs a s2 e=>by
 unfold Z8 at e
 split at e
 ·rename_i h
  cases e
  exact⟨QaR hs,Qyl (YU hs (by rw[Qu1 h];decide))⟩
 ·cases e
theorem QeV:Eat 1 Qco:=fun s hs a s2 e=>by
 unfold Qco at e
 split at e
 ·cases e
 ·rename_i h
  split at e
  ·cases e
  ·cases e
   exact⟨QaR hs,Qyl (YU hs (by omega))⟩
theorem Qlb{ex:PS->PR T}(H:Eat 0 ex):∀(m:Nat) (l:List T),Eat 1 (Zh ex m l)
 |0,_=>fun s _ a s2 e=>by cases e
 |m+1,l=>fun s hs a s2 e=>by
  rw[Zh]at e
  obtain⟨t,s1,h1,h2⟩:=bind_ok e
  obtain⟨w1,l1⟩:=H s hs t s1 h1
  split at h2
  ·rename_i hc
   have hl:=YU w1 (by rw[Qu1 hc];decide)
   obtain⟨w2,l2⟩:=Qlb H m _ s1.nx (QaR w1) a s2 h2
   exact⟨w2,by omega⟩
  ·obtain⟨u,s3,h3,h4⟩:=bind_ok h2
   cases h4
   obtain⟨w2,l2⟩:=Qe6 _ s1 w1 u _ h3
   exact⟨w2,by omega⟩
theorem QpL{ex:PS->PR T}(H:Eat 0 ex):Eat 1 (ZH ex):=fun s hs a s2 e=>by
 rw[ZH]at e
 obtain⟨x,s1,h1,h2⟩:=bind_ok e
 obtain⟨w1,l1⟩:=QeV s hs x s1 h1
 split at h2
 ·rename_i hc
  have hl:=YU w1 (by rw[Qu1 hc];decide)
  obtain⟨l,s3,h3,h4⟩:=bind_ok h2
  cases h4
  obtain⟨w2,l2⟩:=Qlb H _ _ s1.nx (QaR w1) l _ h3
  exact⟨w2,by omega⟩
 ·cases h2
  exact⟨w1,l1⟩
theorem Qgl(x:ByteArray)(s:PS):(pVari x s).2.toks=s.toks:=by unfold pVari;split <;> rfl
theorem Qf2{ex:PS->PR T}(H:Eat 0 ex):Eat 1 (pOpT ex):=fun s hs a s2 e=>by
 rw[pOpT]at e
 split at e
 ·rename_i h
  cases e
  exact⟨QaR hs,Qyl (YU hs (by omega))⟩
 split at e
 ·rename_i h
  cases e
  have ht:=Qgl s.tk.text s.nx
  refine⟨?_,by rw[ht];exact Qyl (YU hs (by omega))⟩
  obtain⟨l,e',h1,h2,h3⟩:=QaR hs
  exact⟨l,e',by rw[ht];exact h1,h2,h3⟩
 split at e
 ·obtain⟨g,s1,h1,h2⟩:=bind_ok e
  cases h2
  exact QpL H s hs g _ h1
 split at e
 ·rename_i h
  split at e
  ·cases e
  ·rename_i hn
   cases e
   have hl:=YU hs (by rw[Qu1 h];decide)
   have hle:=Qtu (QaR hs)
   exact⟨QaR (QaR hs),by omega⟩
 split at e
 ·rename_i h
  have hl:=YU hs (by rw[Qu1 h];decide)
  obtain⟨t,s1,h1,h2⟩:=bind_ok e
  obtain⟨w1,l1⟩:=H s.nx (QaR hs) t s1 h1
  obtain⟨u,s3,h3,h4⟩:=bind_ok h2
  cases h4
  obtain⟨w2,l2⟩:=Qe6 _ s1 w1 u _ h3
  exact⟨w2,by omega⟩
 ·cases e
theorem QgN{op:PS->PR T}(H:Eat 0 op)(ops:List (List UInt8)):∀(m:Nat) (t:T),Eat 0 (XX op ops m t)
 |0,t=>fun s hs a s2 e=>by cases e;exact⟨hs,QwP _⟩
 |m+1,t=>fun s hs a s2 e=>by
  rw[XX]at e
  split at e
  ·rename_i h
   have hl:=YU hs (by rw[Qd8 h];decide)
   obtain⟨u,s1,h1,h2⟩:=bind_ok e
   obtain⟨w1,l1⟩:=H s.nx (QaR hs) u s1 h1
   obtain⟨w2,l2⟩:=QgN H ops m _ s1 w1 a s2 h2
   exact⟨w2,by omega⟩
  ·cases e;exact⟨hs,QwP _⟩
theorem Qbw{op:PS->PR T}{k:Nat}(H:Eat k op)(ops:List (List UInt8)):Eat k (XN op ops):=fun s hs a s2 e=>by
 rw[XN]at e
 obtain⟨t,s1,h1,h2⟩:=bind_ok e
 obtain⟨w1,l1⟩:=H s hs t s1 h1
 obtain⟨w2,l2⟩:=QgN (H.less (Qw3 _)) ops _ t s1 w1 a s2 h2
 exact⟨w2,by omega⟩
theorem Qcb:∀n,Eat 1 (YE n)
 |0=>fun s _ a s2 e=>by cases e
 |n+1=>Qbw (Qbw (Qf2 ((Qcb n).less (Qw3 _))) XK) YA
theorem bind_congr{α β:Type}{x:PR α}{f g:α->PS->PR β}(h:∀a s,x = .ok a s->f a s=g a s):x.bind f=x.bind g:=by
 cases x with
 |ok a s=>exact h a s rfl
 |err p e=>rfl
theorem Qfh{ex ex':PS->PR T}(H:Eat 0 ex){N:Nat}(hx:∀s,s.wf->s.toks.length<=N->ex s=ex' s):∀(m m':Nat) (l:List T) (s:PS),s.wf->s.toks.length<=N->s.toks.length<m->s.toks.length<m'->Zh ex m l s=Zh ex' m' l s
 |0,_,_,_,_,_,h,_=>by omega
 |_,0,_,_,_,_,_,h=>by omega
 |m+1,m'+1,l,s,hs,hN,h,h'=>by
  rw[Zh,Zh,<-hx s hs hN]
  refine bind_congr fun t s1 h1=>?_
  obtain⟨w1,l1⟩:=H s hs t s1 h1
  split
  ·rename_i hc
   have hl:=YU w1 (by rw[Qu1 hc];decide)
   exact Qfh H hx m m' _ s1.nx (QaR w1) (by omega) (by omega) (by omega)
  ·rfl
theorem Qak{op op':PS->PR T}(H:Eat 0 op)(ops:List (List UInt8)){N:Nat}(hx:∀s,s.wf->s.toks.length<=N->op s=op' s):∀(m m':Nat) (t:T) (s:PS),s.wf->s.toks.length<=N+1->s.toks.length<=m->s.toks.length<=m'->XX op ops m t s=XX op' ops m' t s
 |0,m',t,s,hs,hN,h,_=>by
  obtain⟨l,e,hl,_⟩:=hs
  rw[hl]at h;simp at h
 |m+1,0,t,s,hs,hN,_,h=>by
  obtain⟨l,e,hl,_⟩:=hs
  rw[hl]at h;simp at h
 |m+1,m'+1,t,s,hs,hN,h,h'=>by
  rw[XX,XX]
  split
  ·rename_i hc
   have hl:=YU hs (by rw[Qd8 hc];decide)
   rw[<-hx s.nx (QaR hs) (by omega)]
   refine bind_congr fun u s1 h1=>?_
   obtain⟨w1,l1⟩:=H s.nx (QaR hs) u s1 h1
   exact Qak H ops hx m m' _ s1 w1 (by omega) (by omega) (by omega)
  ·rfl
theorem Qmo:∀(N n n':Nat),N<n->N<n'->∀s,s.wf->s.toks.length<=N->YE n s=YE n' s:=by
 intro N
 induction N with
 |zero=>intro n n' _ _ s hs h;obtain⟨l,e,hl,_⟩:=hs;rw[hl]at h;simp at h
 |succ N ih =>
  intro n n' hn hn' s hs h
  obtain⟨a,rfl⟩:∃a,n=a+1:=⟨n - 1,by omega⟩
  obtain⟨a',rfl⟩:∃a',n'=a'+1:=⟨n' - 1,by omega⟩
  have hE:=(Qcb a).less (Qw3 1)
  have hop:∀s,s.wf->s.toks.length<=N+1->pOpT (YE a) s=pOpT (YE a') s:=fun s hs h=>by
   rw[pOpT,pOpT]
   split
   ·rfl
   split
   ·rfl
   split
   ·rename_i hk
    congr 1
    rw[ZH,ZH]
    refine bind_congr fun x s1 h1=>?_
    obtain⟨w1,l1⟩:=QeV s hs x s1 h1
    split
    ·rename_i hc
     have hl:=YU w1 (by rw[Qu1 hc];decide)
     rw[Qfh hE (ex':=YE a') (N:=N) (fun s hs h=>ih a a' (by omega) (by omega) s hs h) s1.toks.length s1.toks.length [] s1.nx (QaR w1) (by omega) (by omega) (by omega)]
    ·rfl
   split
   ·rfl
   split
   ·rename_i hc
    have hl:=YU hs (by rw[Qu1 hc];decide)
    rw[ih a a' (by omega) (by omega) s.nx (QaR hs) (by omega)]
   ·rfl
  have hO:=(Qf2 hE).less (Qw3 1)
  have hmul:∀s,s.wf->s.toks.length<=N+1->XN (pOpT (YE a)) XK s=XN (pOpT (YE a')) XK s:=fun s hs h=>by
   rw[XN,XN,<-hop s hs h]
   refine bind_congr fun t s1 h1=>?_
   obtain⟨w1,l1⟩:=hO s hs t s1 h1
   exact Qak hO XK hop _ _ t s1 w1 (by omega) (by omega) (by omega)
  have hM:=Qbw hO XK
  show(XN (pOpT (YE a)) XK s).bind (fun t s=>XX (XN (pOpT (YE a)) XK) YA s.toks.length t s)=(XN (pOpT (YE a')) XK s).bind (fun t s=>XX (XN (pOpT (YE a')) XK) YA s.toks.length t s)
  rw[<-hmul s hs h]
  refine bind_congr fun t s1 h1=>?_
  obtain⟨w1,l1⟩:=hM s hs t s1 h1
  exact Qak hM YA hmul _ _ t s1 w1 (by omega) (by omega) (by omega)
theorem Qcs:Eat 1 X7:=fun s hs a s2 e=>Qcb _ s hs a s2 e
theorem Qeg{n:Nat}{s:PS}(hs:s.wf)(hn:s.toks.length<n):YE n s=X7 s:=Qmo s.toks.length n _ hn (QyB _) s hs (QwP _)
theorem QlP(op:Int):Eat 1 (Qcp op):=fun s hs a s2 e=>by
 rw[Qcp]at e
 obtain⟨u,s1,h1,e⟩:=bind_ok e
 obtain⟨t,s3,h3,e⟩:=bind_ok e
 obtain⟨v,s4,h4,e⟩:=bind_ok e
 cases e
 obtain⟨w1,l1⟩:=Qe6 _ s hs u s1 h1
 obtain⟨w2,l2⟩:=Qcs s1 w1 t s3 h3
 obtain⟨w3,l3⟩:=Qe6 _ s3 w2 v _ h4
 exact⟨w3,by omega⟩
theorem QgR{s:PS}{x:Int×Bool}(h:cmpOp s=some x):s.tk.kind≠0:=by
 unfold cmpOp at h
 split at h
 ·omega
 ·split at h
  ·cases h
  ·omega
theorem QiZ:Eat 1 Y9:=fun s hs a s2 e=>by
 rw[Y9]at e
 split at e
 ·rename_i hk
  have hl:=YU hs (by omega)
  have hw:=QaR hs
  split at e
  ·cases e;exact⟨hw,by omega⟩
  split at e
  ·cases e;exact⟨hw,by omega⟩
  split at e
  ·obtain⟨h1,h2⟩:=QlP 11 s.nx hw a s2 e
   exact⟨h1,by omega⟩
  split at e
  ·obtain⟨h1,h2⟩:=QlP 12 s.nx hw a s2 e
   exact⟨h1,by omega⟩
  ·cases e
 ·obtain⟨t,s1,h1,e⟩:=bind_ok e
  obtain⟨w1,l1⟩:=Qcs s hs t s1 h1
  cases hc:cmpOp s1 with
  |some x =>
   obtain⟨op,turn⟩:=x
   rw[hc]at e
   simp only at e
   have hl:=YU w1 (QgR hc)
   obtain⟨u,s3,h3,e⟩:=bind_ok e
   cases e
   obtain⟨w2,l2⟩:=Qcs s1.nx (QaR w1) u _ h3
   exact⟨w2,by omega⟩
  |none =>
   rw[hc]at e
   simp only at e
   split at e
   ·cases e;exact⟨w1,l1⟩
   ·cases e
def tkS(t u:Tk):Prop:=t.kind=u.kind/\t.text=u.text
def lSim:List Tk->List Tk->Prop
 |[],[]=>True
 |t::l,u::m=>tkS t u/\(∀t2 u2,l.head? = some t2->m.head? = some u2->t2.kind=3->t.kind=4/\t.text.toList=Qgc->(t2.pos=t.pos+1↔u2.pos=u.pos+1))/\lSim l m
 |_,_=>False
def Ends(r:List Tk):Prop:=∃e,r=[e]/\e.kind=0/\e.text=eB
structure Sm (r:List Tk) (s s':PS):Prop where
 ex:∃l m e,s.toks=l++[e]/\(e.kind=0/\e.text=eB)/\(∀t∈l,t.kind≠0)/\s'.toks=m++r/\lSim l m
 w:s'.wf
 n:s.names=s'.names
theorem Sm.wf{r:List Tk}{s s':PS}(h:Sm r s s'):s.wf:=by
 obtain⟨l,m,e,h1,h2,h3,_⟩:=h.ex
 exact⟨l,e,h1,h2.1,h3⟩
def Lv(r:List Tk)(s:PS):Prop:=1<s.toks.length\/Ends r
def RelP{α:Type}(r:List Tk)(x y:PR α):Prop:=match x with
 | .ok a s2=>Lv r s2->∃s2',y = .ok a s2'/\Sm r s2 s2'
 | .err _ e=>Ends r->∃p,y = .err p e
theorem Sm.tk{r:List Tk}{s s':PS}(h:Sm r s s')(hl:Lv r s):tkS s.tk s'.tk:=by
 obtain⟨l,m,e,h1,h2,h3,h4,h5⟩:=h.ex
 cases l with
 |nil =>
  cases m with
  |cons u m=>exact h5.elim
  |nil =>
   rcases hl with hl|⟨e',rfl,he',hx'⟩
   ·rw[h1]at hl;simp at hl
   ·have a1:s.tk=e:=by simp only[PS.tk,h1,Qwg,Qxw]
    have a2:s'.tk=e':=by simp only[PS.tk,h4,Qwg,Qxw]
    rw[a1,a2]
    exact⟨by rw[h2.1,he'],by rw[h2.2,hx']⟩
 |cons t l =>
  cases m with
  |nil=>exact h5.elim
  |cons u m =>
   have a1:s.tk=t:=by simp only[PS.tk,h1,Qwh,Qxw]
   have a2:s'.tk=u:=by simp only[PS.tk,h4,Qwh,Qxw]
   rw[a1,a2];exact h5.1
theorem Sm.ne{r:List Tk}{s s':PS}(h:Sm r s s'):r≠[]:=by
 intro hr
 obtain⟨l,m,e,h1,h2,h3,h4,h5⟩:=h.ex
 obtain⟨l',e',g1,g2,g3⟩:=h.w
 subst hr
 rw[Qwi]at h4
 rw[h4]at g1
 have key:∀(l m:List Tk),lSim l m->(∀t∈l,t.kind≠0)->∀u∈m,u.kind≠0:=by
  intro l
  induction l with
  |nil=>intro m h _ u hu;cases m with
   |nil=>cases hu
   |cons=>exact h.elim
  |cons t l ih =>
   intro m h ha u hu
   cases m with
   |nil=>exact h.elim
   |cons v m =>
    rcases QwS.1 hu with rfl|hu
    ·rw[<-h.1.1];exact ha t (by simp)
    ·exact ih m h.2.2 (fun x hx=>ha x (by simp[hx])) u hu
 exact key l m h5 h3 e' (by rw[g1];simp) g2
theorem Qh1{s:PS}{t:Tk}{l:List Tk}(h:s.toks=t::l)(hl:l≠[]):s.nx.toks=l:=by
 cases l with
 |nil=>exact absurd rfl hl
 |cons u l=>simp only[PS.nx,h]
theorem Qq4{s:PS}{t:Tk}(h:s.toks=[t]):s.nx.toks=[t]:=by simp only[PS.nx,h]
theorem Sm.nx{r:List Tk}{s s':PS}(h:Sm r s s')(hl:Lv r s):Sm r s.nx s'.nx:=by
 have hne:=h.ne
 refine⟨?_,QaR h.w,h.n⟩
 obtain⟨l,m,e,h1,h2,h3,h4,h5⟩:=h.ex
 cases l with
 |nil =>
  cases m with
  |cons u m=>exact h5.elim
  |nil =>
   rcases hl with hl|⟨e',rfl,he'⟩
   ·rw[h1]at hl;simp at hl
   ·exact⟨[],[],e,Qq4 h1,h2,h3,Qq4 h4,trivial⟩
 |cons t l =>
  cases m with
  |nil=>exact h5.elim
  |cons u m=>exact⟨l,m,e,Qh1 h1 (by simp),h2,fun x hx=>h3 x (by simp[hx]),Qh1 h4 (by simp[hne]),h5.2.2⟩
theorem Sm.is{r:List Tk}{s s':PS}(h:Sm r s s')(hl:Lv r s)(b:List UInt8):s'.is b=s.is b:=by
 obtain⟨h1,h2⟩:=h.tk hl
 rw[PS.is,PS.is,h1,h2]
theorem Sm.oneOf{r:List Tk}{s s':PS}(h:Sm r s s')(hl:Lv r s)(l:List (List UInt8)):s'.oneOf l=s.oneOf l:=by
 have:s'.is=s.is:=funext fun b=>h.is hl b
 rw[PS.oneOf,PS.oneOf,this]
def PS.far(s:PS):Prop:=s.nx.tk.kind≠3\/s.nx.tk.pos≠s.tk.pos+1
theorem Sm.far{r:List Tk}{s s':PS}(h:Sm r s s')(hk:s.tk.kind=4/\s.tk.text.toList=Qgc):(s.far/\(Ends r->s'.far))\/(s.far↔s'.far):=by
 have hne:=h.ne
 obtain⟨l,m,e,h1,h2,h3,h4,h5⟩:=h.ex
 cases l with
 |nil =>
  have a1:s.tk=e:=by simp only[PS.tk,h1,Qwg,Qxw]
  rw[a1,h2.1]at hk;cases hk.1
 |cons t l =>
  cases m with
  |nil=>exact h5.elim
  |cons u m =>
   have a1:s.tk=t:=by simp only[PS.tk,h1,Qwh,Qxw]
   have a2:s'.tk=u:=by simp only[PS.tk,h4,Qwh,Qxw]
   have b1:s.nx.toks=l++[e]:=Qh1 h1 (by simp)
   have b2:s'.nx.toks=m++r:=Qh1 h4 (by simp[hne])
   cases l with
   |nil =>
    cases m with
    |cons=>exact h5.2.2.elim
    |nil =>
     have c1:s.nx.tk=e:=by simp only[PS.tk,b1,Qwg,Qxw]
     refine .inl ⟨.inl (by rw[c1,h2.1];decide),fun⟨e',he,h6,_⟩=>.inl ?_⟩
     have c2:s'.nx.tk=e':=by simp only[PS.tk,b2,he,Qwg,Qxw]
     rw[c2,h6];decide
   |cons t2 l =>
    cases m with
    |nil=>exact h5.2.2.elim
    |cons u2 m =>
     have c1:s.nx.tk=t2:=by simp only[PS.tk,b1,Qwh,Qxw]
     have c2:s'.nx.tk=u2:=by simp only[PS.tk,b2,Qwh,Qxw]
     refine .inr ?_
     rw[PS.far,PS.far,a1,a2,c1,c2,<-h5.2.2.1.1]
     rw[a1]at hk
     by_cases k3:t2.kind=3
     ·have:=h5.2.1 t2 u2 rfl rfl k3 hk
      simp only[k3,ne_eq,not_true_eq_false,false_or,this]
     ·simp[k3]
def RelQ{α:Type}(r:List Tk)(x y:PR α):Prop:=match x with
 | .ok a s2=>∃s2',y = .ok a s2'/\Sm r s2 s2'
 | .err _ e=>Ends r->∃p,y = .err p e
theorem RelQ.p{α:Type}{r:List Tk}{x y:PR α}(h:RelQ r x y):RelP r x y:=by
 cases x with
 |ok a s2=>exact fun _=>h
 |err p e=>exact h
theorem Eat.z{α:Type}{f:PS->PR α}(h:Eat 1 f):Eat 0 f:=h.less (Qw3 1)
theorem Sm.names{r:List Tk}{s s':PS}(h:Sm r s s')(l:List ByteArray):Sm r ⟨s.toks,l⟩ ⟨s'.toks,l⟩:=⟨h.ex,h.w,rfl⟩
theorem Qp9{m:List Tk}(h:lSim [] m):m=[]:=by
 cases m with
 |nil=>rfl
 |cons=>exact h.elim
theorem Sm.all{r:List Tk}{s s':PS}(h:Sm r s s')(h1:s.toks.length<=1):s'.toks=r/\s.tk.kind=0:=by
 obtain⟨l,m,e,a1,a2,a3,a4,a5⟩:=h.ex
 cases l with
 |nil =>
  have:=Qp9 a5
  subst this
  exact⟨a4,by simp only[PS.tk,a1,Qwg,Qxw];exact a2.1⟩
 |cons t l=>rw[a1]at h1;simp at h1
theorem Sm.end{r:List Tk}{s s':PS}(h:Sm r s s')(h1:s.tk.kind=0):s.toks.length<=1:=by
 obtain⟨l,m,e,a1,a2,a3,a4,a5⟩:=h.ex
 cases l with
 |nil=>rw[a1];simp
 |cons t l =>
  have:s.tk=t:=by simp only[PS.tk,a1,Qwh,Qxw]
  rw[this]at h1
  exact absurd h1 (a3 t (by simp))
def noSym(d:UInt8):Bool:=X3.all fun x=>!x.contains d
theorem QoR{d:UInt8}(t:List UInt8):∀(x l:List UInt8),x.contains d=false->x.isPrefixOf (l++d::t)=x.isPrefixOf l
 |[],_,_=>by simp
 |y::x,[],h=>by
  rw[List.contains_cons,Bool.or_eq_false_iff]at h
  have:(y==d)=false:=by
   have:=h.1
   rw[QxU]at this ⊢
   exact fun q=>this q.symm
  rw[Qwg,List.isPrefixOf_cons_cons,this]
  rfl
 |y::x,c::l,h=>by
  rw[List.contains_cons,Bool.or_eq_false_iff]at h
  rw[Qwh,List.isPrefixOf_cons_cons,List.isPrefixOf_cons_cons,QoR t x l h.2]
theorem find_congr{α:Type}{p q:α->Bool}:∀{l:List α},(∀x∈l,p x=q x)->l.find? p=l.find? q
 |[],_=>rfl
 |x::l,h=>by rw[List.find?_cons,List.find?_cons,h x (by simp),find_congr fun y hy=>h y (by simp[hy])]
theorem Qsb{d:UInt8}(hd:noSym d=true)(t l:List UInt8):Qgg (l++d::t)=Qgg l :=
 find_congr fun x hx=>QoR t x l (by
  have:=Qxc.1 hd x hx
  simpa using this)
structure Stop (d:UInt8):Prop where
 w:isW d=false
 g:isD d=false
 s:noSym d=true
theorem Qik{l x:List UInt8}{k:Int}(h:ZK l = .inl (k,x)):(k=0/\l=[]/\x=[])\/(k≠0/\x≠[]/\∃r,l=x++r):=by
 cases l with
 |nil =>
  rw[ZK]at h
  cases h
  exact .inl ⟨rfl,rfl,rfl⟩
 |cons c r =>
  have tw:∀(p:UInt8->Bool),p c=true->(c::r).takeWhile p≠[]/\∃s,c::r=(c::r).takeWhile p++s:=fun p hp =>
   ⟨by rw[Qym,QwN hp];simp,(c::r).dropWhile p,(List.takeWhile_append_dropWhile).symm⟩
  refine .inr ?_
  rw[ZK]at h
  split at h
  ·rename_i hL
   split at h
   ·cases h
   ·have e:=Sum.inl.inj h
    have e1:=(QyL e).1
    have e2:=(QyL e).2
    obtain⟨a1,a2⟩:=tw isW (by simp[isW,hL])
    refine⟨?_,by rw[<-e2];exact a1,by rw[<-e2];exact a2⟩
    rw[<-e1];split <;> decide
  split at h
  ·rename_i hD
   split at h
   ·cases h
   ·have e:=Sum.inl.inj h
    have e1:=(QyL e).1
    have e2:=(QyL e).2
    obtain⟨a1,a2⟩:=tw isD hD
    exact⟨by rw[<-e1];decide,by rw[<-e2];exact a1,by rw[<-e2];exact a2⟩
  ·split at h
   ·rename_i y hy
    have e:=Sum.inl.inj h
    have e1:=(QyL e).1
    have e2:=(QyL e).2
    subst e2
    obtain⟨a1,a2,a3⟩:=QjL hy
    refine⟨by rw[<-e1];decide,by intro q;rw[q]at a1;simp at a1,?_⟩
    obtain⟨s,hs⟩:=List.isPrefixOf_iff_prefix.1 a3
    exact⟨s,hs.symm⟩
   ·cases h
theorem Qav(x:List UInt8):(mkB x).toList=x:=by rw[Lib.toList_data];rfl
theorem Qpn{c:UInt8}(r:List UInt8)(h:isSp c=true\/c.toNat=35):ZK (c::r) = .inr 16:=by
 have key:∀n:Nat,c.toNat=n->n<256->c=UInt8.ofNat n:=fun n h1 h2=>by
  apply UInt8.toNat_inj.1
  rw[h1];simp;omega
 have:c=32\/c=9\/c=10\/c=13\/c=35:=by
  rcases h with h|h
  ·simp only[isSp,Qw1]at h
   rcases h with h|h|h|h
   ·exact .inl (key _ h (by decide))
   ·exact .inr (.inl (key _ h (by decide)))
   ·exact .inr (.inr (.inl (key _ h (by decide))))
   ·exact .inr (.inr (.inr (.inl (key _ h (by decide)))))
  ·exact .inr (.inr (.inr (.inr (key _ h (by decide)))))
 rcases this with rfl|rfl|rfl|rfl|rfl <;> rfl
def near(t u:Tk):Prop:=t.text.toList=Qgc/\u.kind=3/\u.pos=t.pos+1
instance (t u:Tk):Decidable (near t u):=inferInstanceAs (Decidable (_/\_/\_))
def seps:List (List UInt8):=[[32],[9,10],[13,32],[32,35,120,10],[32,32]]
inductive Spr:Option Tk->List Tk->List UInt8->Prop where
 |nil (p:Option Tk):Spr p [] []
 |first (t:Tk) (l:List Tk) (w:List UInt8):Spr (some t) l w->Spr none (t::l) (t.text.toList++w)
 |near (p t:Tk) (l:List Tk) (w:List UInt8):near p t->Spr (some t) l w->Spr (some p) (t::l) (t.text.toList++w)
 |far (p t:Tk) (l:List Tk) (d w:List UInt8):¬near p t->d∈seps->Spr (some t) l w->Spr (some p) (t::l) (d++(t.text.toList++w))
def Eats{α:Type}(k:Nat)(f:List UInt8->Res α):Prop:=∀r a r2,f r = .ok a r2->r2.length+k<=r.length
theorem Eats.zero{α:Type}{k:Nat}{f:List UInt8->Res α}(H:Eats k f):Eats 0 f:=fun r a r2 h=>by have:=H r a r2 h;omega
def Qev:List UInt8->List UInt8
 |[]=>[]
 |c::r=>(if c.toNat=40\/c.toNat=41 then[32,c,32,32]else if c.toNat=44 then[32,c]else[c])++Qev r
def Lo(l l':List UInt8):Prop:=skipSp l'=skipSp (Qev l)
theorem QdM(r:List UInt8):skipSp (32::r)=skipSp r:=by rw[skipSp,QwN (by decide)]
theorem QdL:∀r,skipSp (skipSp r)=skipSp r
 |[]=>rfl
 |c::r=>by
  rw[skipSp];split
  ·exact QdL r
  ·rename_i h;rw[skipSp,QwJ h]
theorem Lo.skip{l l':List UInt8}(h:Lo l l'):Lo l (skipSp l'):=by rw[Lo,QdL];exact h
theorem QcF:∀l:List UInt8,skipSp (Qev l)=skipSp (Qev (skipSp l))
 |[]=>rfl
 |c::r=>by
  by_cases h:c.toNat=32
  ·rw[skipSp,QwN h,Qev,QwJ (by omega),QwJ (by omega),List.singleton_append,skipSp,QwN h]
   exact QcF r
  ·rw[skipSp,QwJ h]
theorem Lo.left{l l':List UInt8}(h:Lo l l'):Lo (skipSp l) l':=by rw[Lo,<-QcF];exact h
theorem QkU{r r2:List UInt8}{c:UInt8}(h:skipSp r=c::r2):c.toNat≠32:=by
 induction r with
 |nil=>cases h
 |cons d r ih =>
  rw[skipSp]at h
  split at h
  ·exact ih h
  ·rename_i hd;cases h;exact hd
theorem Lo.nil{l l':List UInt8}(h:Lo l l')(hs:skipSp l=[]):skipSp l'=[]:=by
 rw[Lo,QcF,hs]at h;exact h
theorem Lo.cons{l l' r:List UInt8}{c:UInt8}(h:Lo l l')(hs:skipSp l=c::r):∃r',skipSp l'=c::r'/\Lo r r'/\(c.toNat≠40->c.toNat≠41->r'=Qev r):=by
 have hc:=QkU hs
 rw[Lo,QcF,hs,Qev]at h
 by_cases h1:c.toNat=40\/c.toNat=41
 ·rw[QwN h1]at h
  simp only[Qwh,Qwg]at h
  rw[QdM,skipSp,QwJ hc]at h
  refine⟨_,h,?_,fun a b=>by omega⟩
  rw[Lo,QdM,QdM]
 ·rw[QwJ h1]at h
  by_cases h2:c.toNat=44
  ·rw[QwN h2]at h
   simp only[Qwh,Qwg]at h
   rw[QdM,skipSp,QwJ hc]at h
   exact⟨_,h,rfl,fun _ _=>rfl⟩
  ·rw[QwJ h2]at h
   simp only[Qwh,Qwg]at h
   rw[skipSp,QwJ hc]at h
   exact⟨_,h,rfl,fun _ _=>rfl⟩
theorem Lo.refl(r:List UInt8):Lo r (Qev r):=rfl
def LoR{α:Type}:Res α->Res α->Prop
 | .ok a r,.ok b r'=>a=b/\Lo r r'
 | .err e,.err e'=>e=e'
 |_,_=>False
theorem LoR.ok{α:Type}{a:α}{r:List UInt8}{y:Res α}(h:LoR (.ok a r) y):∃r',y = .ok a r'/\Lo r r':=by
 cases y with
 |err e=>exact h.elim
 |ok b r'=>obtain⟨rfl,h⟩:=h;exact⟨r',rfl,h⟩
theorem LoR.err{α:Type}{e:Int}{y:Res α}(h:LoR (.err e) y):y = .err e:=by
 cases y with
 |ok b r'=>exact h.elim
 |err e'=>have h:e=e':=h;subst h;rfl
end Go.Proofs.YtenheconhibonaaGreatDoor.Ab
namespace Go.Proofs.YtenheconhibonaaGreatDoor.Ab
open Go.Proofs
def QeI(op:Int):ByteArray:=if op=3 then{data:=#[61]} else if op=4 then{data:=#[105,115]} else if op=5 then{data:=#[61,61]} else if op=6 then{data:=#[92,61]} else if op=7 then{data:=#[60]} else if op=8 then{data:=#[61,60]} else if op=9 then{data:=#[61,58,61]} else{data:=#[61,92,61]}
theorem Qnu:Pure Tryz.prog 87 [.i 3] (.v (.string {data:=#[61]})):=by
 intro h
 refine Qb Tryz.func87 rfl Tryz.call87 Tryz.ntmps87 Tryz.results87 (by simp) ?_
 with_reducible repeat first|refine Qa fun K E hK hE=>?_;simp only[Qh,Qe,Qk,OpW,aop,undef,AS.ev,Qg,Qu,QI,Qr,QG,QvW,↓reduceIte,Nat.reduceLT,Nat.reduceEqDiff,aBin,QvR,Q1,QvX]|refine Qf fun K hK=>?_|refine Qj ?_|refine Qp ?_|refine QB ?_|refine QF ?_|refine hK _ ?_;clear hK|refine Qi rfl ?_;simp only[↓reduceIte]
 simp only[QS,Qq,Qz,upd,↓reduceIte,QvV,QvZ];first|refine Qc (htake _ _) (.keep (.v _)) ⟨rfl,rfl⟩|refine Qc QwH (.keep (.v _)) ⟨rfl,rfl⟩
theorem Qnv:Pure Tryz.prog 87 [.i 4] (.v (.string {data:=#[105,115]})):=by
 intro h
 have z3:((4:Int)==3)=false:=by decide
 refine Qb Tryz.func87 rfl Tryz.call87 Tryz.ntmps87 Tryz.results87 (by simp) ?_
 with_reducible repeat first|refine Qa fun K E hK hE=>?_;simp only[Qh,Qe,Qk,OpW,aop,undef,AS.ev,Qg,Qu,QI,Qr,QG,QvW,↓reduceIte,Nat.reduceLT,Nat.reduceEqDiff,aBin,QvR,Q1,QvX,z3]|refine Qf fun K hK=>?_|refine Qj ?_|refine Qp ?_|refine QB ?_|refine QF ?_|refine hK _ ?_;clear hK|refine Qi rfl ?_;simp only[↓reduceIte,QvT]
 simp only[QS,Qq,Qz,upd,↓reduceIte,QvV,QvZ];first|refine Qc (htake _ _) (.keep (.v _)) ⟨rfl,rfl⟩|refine Qc QwH (.keep (.v _)) ⟨rfl,rfl⟩
theorem Qnw:Pure Tryz.prog 87 [.i 5] (.v (.string {data:=#[61,61]})):=by
 intro h
 have z3:((5:Int)==3)=false:=by decide
 have z4:((5:Int)==4)=false:=by decide
 refine Qb Tryz.func87 rfl Tryz.call87 Tryz.ntmps87 Tryz.results87 (by simp) ?_
 with_reducible repeat first|refine Qa fun K E hK hE=>?_;simp only[Qh,Qe,Qk,OpW,aop,undef,AS.ev,Qg,Qu,QI,Qr,QG,QvW,↓reduceIte,Nat.reduceLT,Nat.reduceEqDiff,aBin,QvR,Q1,QvX,z3,z4]|refine Qf fun K hK=>?_|refine Qj ?_|refine Qp ?_|refine QB ?_|refine QF ?_|refine hK _ ?_;clear hK|refine Qi rfl ?_;simp only[↓reduceIte,QvT]
 simp only[QS,Qq,Qz,upd,↓reduceIte,QvV,QvZ];first|refine Qc (htake _ _) (.keep (.v _)) ⟨rfl,rfl⟩|refine Qc QwH (.keep (.v _)) ⟨rfl,rfl⟩
theorem Qnx:Pure Tryz.prog 87 [.i 6] (.v (.string {data:=#[92,61]})):=by
 intro h
 have z3:((6:Int)==3)=false:=by decide
 have z4:((6:Int)==4)=false:=by decide
 have z5:((6:Int)==5)=false:=by decide
 refine Qb Tryz.func87 rfl Tryz.call87 Tryz.ntmps87 Tryz.results87 (by simp) ?_
 with_reducible repeat first|refine Qa fun K E hK hE=>?_;simp only[Qh,Qe,Qk,OpW,aop,undef,AS.ev,Qg,Qu,QI,Qr,QG,QvW,↓reduceIte,Nat.reduceLT,Nat.reduceEqDiff,aBin,QvR,Q1,QvX,z3,z4,z5]|refine Qf fun K hK=>?_|refine Qj ?_|refine Qp ?_|refine QB ?_|refine QF ?_|refine hK _ ?_;clear hK|refine Qi rfl ?_;simp only[↓reduceIte,QvT]
 simp only[QS,Qq,Qz,upd,↓reduceIte,QvV,QvZ];first|refine Qc (htake _ _) (.keep (.v _)) ⟨rfl,rfl⟩|refine Qc QwH (.keep (.v _)) ⟨rfl,rfl⟩
theorem Qny:Pure Tryz.prog 87 [.i 7] (.v (.string {data:=#[60]})):=by
 intro h
 have z3:((7:Int)==3)=false:=by decide
 have z4:((7:Int)==4)=false:=by decide
 have z5:((7:Int)==5)=false:=by decide
 have z6:((7:Int)==6)=false:=by decide
 refine Qb Tryz.func87 rfl Tryz.call87 Tryz.ntmps87 Tryz.results87 (by simp) ?_
 with_reducible repeat first|refine Qa fun K E hK hE=>?_;simp only[Qh,Qe,Qk,OpW,aop,undef,AS.ev,Qg,Qu,QI,Qr,QG,QvW,↓reduceIte,Nat.reduceLT,Nat.reduceEqDiff,aBin,QvR,Q1,QvX,z3,z4,z5,z6]|refine Qf fun K hK=>?_|refine Qj ?_|refine Qp ?_|refine QB ?_|refine QF ?_|refine hK _ ?_;clear hK|refine Qi rfl ?_;simp only[↓reduceIte,QvT]
 simp only[QS,Qq,Qz,upd,↓reduceIte,QvV,QvZ];first|refine Qc (htake _ _) (.keep (.v _)) ⟨rfl,rfl⟩|refine Qc QwH (.keep (.v _)) ⟨rfl,rfl⟩
theorem Qnz:Pure Tryz.prog 87 [.i 8] (.v (.string {data:=#[61,60]})):=by
 intro h
 have z3:((8:Int)==3)=false:=by decide
 have z4:((8:Int)==4)=false:=by decide
 have z5:((8:Int)==5)=false:=by decide
 have z6:((8:Int)==6)=false:=by decide
 have z7:((8:Int)==7)=false:=by decide
 refine Qb Tryz.func87 rfl Tryz.call87 Tryz.ntmps87 Tryz.results87 (by simp) ?_
 with_reducible repeat first|refine Qa fun K E hK hE=>?_;simp only[Qh,Qe,Qk,OpW,aop,undef,AS.ev,Qg,Qu,QI,Qr,QG,QvW,↓reduceIte,Nat.reduceLT,Nat.reduceEqDiff,aBin,QvR,Q1,QvX,z3,z4,z5,z6,z7]|refine Qf fun K hK=>?_|refine Qj ?_|refine Qp ?_|refine QB ?_|refine QF ?_|refine hK _ ?_;clear hK|refine Qi rfl ?_;simp only[↓reduceIte,QvT]
 simp only[QS,Qq,Qz,upd,↓reduceIte,QvV,QvZ];first|refine Qc (htake _ _) (.keep (.v _)) ⟨rfl,rfl⟩|refine Qc QwH (.keep (.v _)) ⟨rfl,rfl⟩
theorem QnA:Pure Tryz.prog 87 [.i 9] (.v (.string {data:=#[61,58,61]})):=by
 intro h
 have z3:((9:Int)==3)=false:=by decide
 have z4:((9:Int)==4)=false:=by decide
 have z5:((9:Int)==5)=false:=by decide
 have z6:((9:Int)==6)=false:=by decide
 have z7:((9:Int)==7)=false:=by decide
 have z8:((9:Int)==8)=false:=by decide
 refine Qb Tryz.func87 rfl Tryz.call87 Tryz.ntmps87 Tryz.results87 (by simp) ?_
 with_reducible repeat first|refine Qa fun K E hK hE=>?_;simp only[Qh,Qe,Qk,OpW,aop,undef,AS.ev,Qg,Qu,QI,Qr,QG,QvW,↓reduceIte,Nat.reduceLT,Nat.reduceEqDiff,aBin,QvR,Q1,QvX,z3,z4,z5,z6,z7,z8]|refine Qf fun K hK=>?_|refine Qj ?_|refine Qp ?_|refine QB ?_|refine QF ?_|refine hK _ ?_;clear hK|refine Qi rfl ?_;simp only[↓reduceIte,QvT]
 simp only[QS,Qq,Qz,upd,↓reduceIte,QvV,QvZ];first|refine Qc (htake _ _) (.keep (.v _)) ⟨rfl,rfl⟩|refine Qc QwH (.keep (.v _)) ⟨rfl,rfl⟩
theorem Qmb:Pure Tryz.prog 87 [.i 10] (.v (.string {data:=#[61,92,61]})):=by
 intro h
 have z3:((10:Int)==3)=false:=by decide
 have z4:((10:Int)==4)=false:=by decide
 have z5:((10:Int)==5)=false:=by decide
 have z6:((10:Int)==6)=false:=by decide
 have z7:((10:Int)==7)=false:=by decide
 have z8:((10:Int)==8)=false:=by decide
 have z9:((10:Int)==9)=false:=by decide
 refine Qb Tryz.func87 rfl Tryz.call87 Tryz.ntmps87 Tryz.results87 (by simp) ?_
 with_reducible repeat first|refine Qa fun K E hK hE=>?_;simp only[Qh,Qe,Qk,OpW,aop,undef,AS.ev,Qg,Qu,QI,Qr,QG,QvW,↓reduceIte,Nat.reduceLT,Nat.reduceEqDiff,aBin,QvR,Q1,QvX,z3,z4,z5,z6,z7,z8,z9]|refine Qf fun K hK=>?_|refine Qj ?_|refine Qp ?_|refine QB ?_|refine QF ?_|refine hK _ ?_;clear hK|refine Qi rfl ?_;simp only[↓reduceIte,QvT]
 simp only[QS,Qq,Qz,upd,↓reduceIte,QvV,QvZ];first|refine Qc (htake _ _) (.keep (.v _)) ⟨rfl,rfl⟩|refine Qc QwH (.keep (.v _)) ⟨rfl,rfl⟩
theorem QiF(op:Int)(h3:3<=op)(h10:op<=10):Pure Tryz.prog 87 [.i op] (.v (.string (QeI op))):=by
 have:op=3\/op=4\/op=5\/op=6\/op=7\/op=8\/op=9\/op=10:=by omega
 rcases this with rfl|rfl|rfl|rfl|rfl|rfl|rfl|rfl
 ·exact Qnu
 ·exact Qnv
 ·exact Qnw
 ·exact Qnx
 ·exact Qny
 ·exact Qnz
 ·exact QnA
 ·exact Qmb
theorem QgK(op:Int)(h3:3<=op)(h10:op<=10):(QeI op).size<=3:=by
 have:op=3\/op=4\/op=5\/op=6\/op=7\/op=8\/op=9\/op=10:=by omega
 rcases this with rfl|rfl|rfl|rfl|rfl|rfl|rfl|rfl <;> decide
abbrev Qil:ByteArray:={data:=#[116,114,117,101]}
abbrev QnV:ByteArray:={data:=#[102,97,105,108]}
abbrev intB:ByteArray:={data:=#[105,110,116]}
abbrev grdB:ByteArray:={data:=#[103,114,111,117,110,100]}
def pairT(op:Int):List ByteArray->ByteArray
 |[x,y]=>(x++(({data:=#[32]}:ByteArray)++QeI op++{data:=#[32]}))++y
 |_=>.empty
def Qac(g:G):ByteArray:=if g.op=0 then funT g.name (txts g.args)else if g.op=1 then Qil else if g.op=2 then QnV else if g.op=11 then funT intB (txts g.args)else if g.op=12 then funT grdB (txts g.args)else pairT g.op (txts g.args)
theorem Qsu{h:AH}(hG:XE h)(u:Bool)(tx:ByteArray):XE (HB (h++[AB.dead,AB.dead]) h.length (h.length+1) u tx):=by
 obtain⟨k,ty,fr,e⟩:=hG
 refine⟨k,ty,fr,?_⟩
 have hk:=Qv e
 rw[HB,YD _ _ (by omega) (by omega),QwI hk,e]
section
variable{h:AH}{i j p:Nat}(hi:i<h.length)(hj:j<h.length)(hij:i≠j)(hpi:i≠p)(hpj:j≠p)
theorem Qns(hi:i<h.length)(hj:j<h.length)(hij:i≠j)(hpi:i≠p)(hpj:j≠p)(g:G)(gp:h[p]? = some (.cells 66 2 [g.atom]))(hx:lexL g.args)(hl:g.args.length<=1000000)
  (hG:XE (HB h i j true (.empty))) (u:Bool) (tx:ByteArray) (hs:tx.size+(funT g.name (txts g.args)).size<=140737488355328) :
  Wri 83 [.ptr i 0 0,.ptr p 0 0] h i j u tx (funT g.name (txts g.args)):=by
 have k1:∀u tx,(HB h i j u tx)[p]? = some (.cells 66 2 [.agg [.v (.string g.name),.sl 4 (avs g.args) none]]):=fun u tx=>by
  rw[HB,YD _ _ hpi hpj,gp];rfl
 have c1:=QaZ hi hj hij g.args hl g.name (fun a ha h hi hj hG tx hs=>Qcy g.args hx i j hij a ha h hi hj hG true tx hs) hG u tx hs
 rw[Wri]at c1
 refine Qb Tryz.func83 rfl Tryz.call83 Tryz.ntmps83 Tryz.results83 (by simp) ?_
 with_reducible repeat first|(first|refine Ql fun K E hK hE=>?_|refine FunW.QuW c1 ?_);simp only[Qh,Qe,Qk,OpW,Q7,aop,undef,AS.ev,Qg,Qr,QG,QvW,Qwf,Qo,↓reduceIte,Nat.reduceLT,Nat.reduceEqDiff,Qv1,Qwe,Qm,QQ,QR,QvP,QvQ,QvR,Qv4,Qv8,ti9,ti44,QiS,QiT,k1]|refine hK _ ?_;clear hK
 simp only[QvR,QvV,List.mapM_nil,Option.pure_def,QvR,QS,Qq,QvZ]
 exact .inr ⟨rfl,rfl⟩
theorem Qmq(hi:i<h.length)(hj:j<h.length)(hij:i≠j)(hpi:i≠p)(hpj:j≠p)(g:G)(gp:h[p]? = some (.cells 53 3 [g.goal]))(hx:lexL g.args)(hl:g.args.length<=1000000)(ho:g.op=0)
  (hG:XE (HB h i j true (.empty))) (u:Bool) (tx:ByteArray) (hs:tx.size+(funT g.name (txts g.args)).size<=140737488355328) :
  Wri 85 [.ptr i 0 0,.ptr p 0 0] h i j u tx (funT g.name (txts g.args)):=by
 have k1:∀u tx,(HB h i j u tx)[p]? = some (.cells 53 3 [.agg [.i 0,.v (.string g.name),.sl 4 (avs g.args) none]]):=fun u tx=>by
  rw[HB,YD _ _ hpi hpj,gp,<-ho];rfl
 have c1:=QaZ hi hj hij g.args hl g.name (fun a ha h hi hj hG tx hs=>Qcy g.args hx i j hij a ha h hi hj hG true tx hs) hG u tx hs
 rw[Wri]at c1
 refine Qb Tryz.func85 rfl Tryz.call85 Tryz.ntmps85 Tryz.results85 (by simp) ?_
 with_reducible repeat first|(first|refine Qa fun K E hK hE=>?_|refine Ql fun K E hK hE=>?_|refine FunW.QuW c1 ?_);simp only[Qh,Qe,Qk,OpW,Q7,aop,undef,AS.ev,Qg,Qu,Qr,QG,QvW,Qwf,Qo,↓reduceIte,Nat.reduceLT,Nat.reduceEqDiff,Qv1,Qwe,Qm,QQ,QR,aBin,QvP,QvQ,QvR,Qv4,Qv8,Q1,QvX,ti3,ti9,ti44,YG,QaY,ZC,k1]|refine Qj ?_|refine Qt ?_|refine hK _ ?_;clear hK|refine Qi rfl ?_;simp only[↓reduceIte]
 simp only[QvR,QvV,List.mapM_nil,Option.pure_def,QvR,QS,Qq,QvZ]
 exact .inr ⟨rfl,rfl⟩
theorem Qmt(hi:i<h.length)(hj:j<h.length)(hij:i≠j)(hpi:i≠p)(hpj:j≠p)(g:G)(gp:h[p]? = some (.cells 53 3 [g.goal]))(hx:lexL g.args)(hl:g.args.length<=1000000)(ho:g.op=1)
  (hG:XE (HB h i j true (.empty))) (u:Bool) (tx:ByteArray) (hs:tx.size+(Qil).size<=140737488355328) :
  Wri 85 [.ptr i 0 0,.ptr p 0 0] h i j u tx (Qil):=by
 have k1:∀u tx,(HB h i j u tx)[p]? = some (.cells 53 3 [.agg [.i 1,.v (.string g.name),.sl 4 (avs g.args) none]]):=fun u tx=>by
  rw[HB,YD _ _ hpi hpj,gp,<-ho];rfl
 have z0:((1:Int)==0)=false:=by decide
 have c1:=wstr hi hj hij u tx Qil hs
 have f6:=fun u tx=>QjX (h:=h) hi hij u tx
 refine Qb Tryz.func85 rfl Tryz.call85 Tryz.ntmps85 Tryz.results85 (by simp) ?_
 with_reducible repeat first|(first|refine Qa fun K E hK hE=>?_|refine Ql fun K E hK hE=>?_|refine FunW.QuW c1 ?_);simp only[Qh,Qe,Qk,OpW,Q7,aop,undef,AS.ev,Qg,Qu,QI,Qr,QG,QvW,Qwf,Qo,↓reduceIte,Nat.reduceLT,Nat.reduceEqDiff,Qwe,Qm,QQ,QR,aBin,QvP,QvR,Qv4,Qv8,Q1,QvX,ti3,YG,Zq,Q2,k1,f6,z0]|refine Qj ?_|refine Qt ?_|refine hK _ ?_;clear hK|refine Qi rfl ?_;simp only[↓reduceIte,QvT]
 simp only[QvR,QvV,List.mapM_nil,Option.pure_def,QvR,QS,Qq,QvZ]
 exact .inr ⟨rfl,rfl⟩
theorem Qmr(hi:i<h.length)(hj:j<h.length)(hij:i≠j)(hpi:i≠p)(hpj:j≠p)(g:G)(gp:h[p]? = some (.cells 53 3 [g.goal]))(hx:lexL g.args)(hl:g.args.length<=1000000)(ho:g.op=2)
  (hG:XE (HB h i j true (.empty))) (u:Bool) (tx:ByteArray) (hs:tx.size+(QnV).size<=140737488355328) :
  Wri 85 [.ptr i 0 0,.ptr p 0 0] h i j u tx (QnV):=by
 have k1:∀u tx,(HB h i j u tx)[p]? = some (.cells 53 3 [.agg [.i 2,.v (.string g.name),.sl 4 (avs g.args) none]]):=fun u tx=>by
  rw[HB,YD _ _ hpi hpj,gp,<-ho];rfl
 have z0:((2:Int)==0)=false:=by decide
 have z1:((2:Int)==1)=false:=by decide
 have c1:=wstr hi hj hij u tx QnV hs
 have f6:=fun u tx=>QjX (h:=h) hi hij u tx
 refine Qb Tryz.func85 rfl Tryz.call85 Tryz.ntmps85 Tryz.results85 (by simp) ?_
 with_reducible repeat first|(first|refine Qa fun K E hK hE=>?_|refine Ql fun K E hK hE=>?_|refine FunW.QuW c1 ?_);simp only[Qh,Qe,Qk,OpW,Q7,aop,undef,AS.ev,Qg,Qu,QI,Qr,QG,QvW,Qwf,Qo,↓reduceIte,Nat.reduceLT,Nat.reduceEqDiff,Qwe,Qm,QQ,QR,aBin,QvP,QvR,Qv4,Qv8,Q1,QvX,ti3,YG,Zq,Q2,k1,f6,z0,z1]|refine Qj ?_|refine Qt ?_|refine hK _ ?_;clear hK|refine Qi rfl ?_;simp only[↓reduceIte,QvT]
 simp only[QvR,QvV,List.mapM_nil,Option.pure_def,QvR,QS,Qq,QvZ]
 exact .inr ⟨rfl,rfl⟩
theorem Qn3(hi:i<h.length)(hj:j<h.length)(hij:i≠j)(hpi:i≠p)(hpj:j≠p)(g:G)(gp:h[p]? = some (.cells 53 3 [g.goal]))(hx:lexL g.args)(hl:g.args.length<=1000000)(ho:g.op=11)
  (hG:XE (HB h i j true (.empty))) (u:Bool) (tx:ByteArray) (hs:tx.size+(funT intB (txts g.args)).size<=140737488355328) :
  Wri 85 [.ptr i 0 0,.ptr p 0 0] h i j u tx (funT intB (txts g.args)):=by
 have k1:∀u tx,(HB h i j u tx)[p]? = some (.cells 53 3 [.agg [.i 11,.v (.string g.name),.sl 4 (avs g.args) none]]):=fun u tx=>by
  rw[HB,YD _ _ hpi hpj,gp,<-ho];rfl
 have z0:((11:Int)==0)=false:=by decide
 have z1:((11:Int)==1)=false:=by decide
 have z2:((11:Int)==2)=false:=by decide
 have c1:=QaZ hi hj hij g.args hl intB (fun a ha h hi hj hG tx hs=>Qcy g.args hx i j hij a ha h hi hj hG true tx hs) hG u tx hs
 rw[Wri]at c1
 refine Qb Tryz.func85 rfl Tryz.call85 Tryz.ntmps85 Tryz.results85 (by simp) ?_
 with_reducible repeat first|(first|refine Qa fun K E hK hE=>?_|refine Ql fun K E hK hE=>?_|refine FunW.QuW c1 ?_);simp only[Qh,Qe,Qk,OpW,Q7,aop,undef,AS.ev,Qg,Qu,QI,Qr,QG,QvW,Qwf,Qo,↓reduceIte,Nat.reduceLT,Nat.reduceEqDiff,Qv1,Qwe,Qm,QQ,QR,aBin,QvP,QvQ,QvR,Qv4,Qv8,Q1,QvX,ti3,ti44,YG,ZC,k1,z0,z1,z2]|refine Qj ?_|refine Qt ?_|refine hK _ ?_;clear hK|refine Qi rfl ?_;simp only[↓reduceIte,QvT]
 simp only[QvR,QvV,List.mapM_nil,Option.pure_def,QvR,QS,Qq,QvZ]
 exact .inr ⟨rfl,rfl⟩
theorem QiY(hi:i<h.length)(hj:j<h.length)(hij:i≠j)(hpi:i≠p)(hpj:j≠p)(g:G)(gp:h[p]? = some (.cells 53 3 [g.goal]))(hx:lexL g.args)(hl:g.args.length<=1000000)(ho:g.op=12)
  (hG:XE (HB h i j true (.empty))) (u:Bool) (tx:ByteArray) (hs:tx.size+(funT grdB (txts g.args)).size<=140737488355328) :
  Wri 85 [.ptr i 0 0,.ptr p 0 0] h i j u tx (funT grdB (txts g.args)):=by
 have k1:∀u tx,(HB h i j u tx)[p]? = some (.cells 53 3 [.agg [.i 12,.v (.string g.name),.sl 4 (avs g.args) none]]):=fun u tx=>by
  rw[HB,YD _ _ hpi hpj,gp,<-ho];rfl
 have z0:((12:Int)==0)=false:=by decide
 have z1:((12:Int)==1)=false:=by decide
 have z2:((12:Int)==2)=false:=by decide
 have z11:((12:Int)==11)=false:=by decide
 have c1:=QaZ hi hj hij g.args hl grdB (fun a ha h hi hj hG tx hs=>Qcy g.args hx i j hij a ha h hi hj hG true tx hs) hG u tx hs
 rw[Wri]at c1
 refine Qb Tryz.func85 rfl Tryz.call85 Tryz.ntmps85 Tryz.results85 (by simp) ?_
 with_reducible repeat first|(first|refine Qa fun K E hK hE=>?_|refine Ql fun K E hK hE=>?_|refine FunW.QuW c1 ?_);simp only[Qh,Qe,Qk,OpW,Q7,aop,undef,AS.ev,Qg,Qu,QI,Qr,QG,QvW,Qwf,Qo,↓reduceIte,Nat.reduceLT,Nat.reduceEqDiff,Qv1,Qwe,Qm,QQ,QR,aBin,QvP,QvQ,QvR,Qv4,Qv8,Q1,QvX,ti3,ti44,YG,ZC,k1,z0,z1,z2,z11]|refine Qj ?_|refine Qt ?_|refine hK _ ?_;clear hK|refine Qi rfl ?_;simp only[↓reduceIte,QvT]
 simp only[QvR,QvV,List.mapM_nil,Option.pure_def,QvR,QS,Qq,QvZ]
 exact .inr ⟨rfl,rfl⟩
theorem Qms(hi:i<h.length)(hj:j<h.length)(hij:i≠j)(hpi:i≠p)(hpj:j≠p)(op:Int)(n:ByteArray)(a c:T)(gp:h[p]? = some (.cells 53 3 [.agg [.i op,.v (.string n),.sl 4 (avs [a,c]) none]]))(hx:lexL [a,c])(h3:3<=op)(h10:op<=10)
  (hG:XE (HB h i j true (.empty))) (u:Bool) (tx:ByteArray) (hs:tx.size+(pairT op (txts [a,c])).size<=140737488355328) :
  Wri 85 [.ptr i 0 0,.ptr p 0 0] h i j u tx (pairT op (txts [a,c])):=by
 have k1:∀u tx,(HB h i j u tx)[p]? = some (.cells 53 3 [.agg [.i op,.v (.string n),.sl 4 (avs [a,c]) none]]):=fun u tx=>by
  rw[HB,YD _ _ hpi hpj,gp]
 have f6:=fun u tx=>QjX (h:=h) hi hij u tx
 have et:pairT op (txts [a,c])=(a.txt++(({data:=#[32]}:ByteArray)++QeI op++{data:=#[32]}))++c.txt:=rfl
 rw[et]at hs ⊢
 simp only[Qs]at hs
 have hsp:({data:=#[32]}:ByteArray).size=1:=rfl
 have cb:=QiF op h3 h10
 have hbz:=QgK op h3 h10
 have c1:=T.Qvi a hx.1 i j hij h hi hj hG u tx (by omega)
 have c2:=wstr hi hj hij true (tx++a.txt) (({data:=#[32]}:ByteArray)++QeI op++{data:=#[32]}) (by simp only[Qs];omega)
 have c3:=T.Qvi c hx.2.1 i j hij h hi hj hG true ((tx++a.txt)++(({data:=#[32]}:ByteArray)++QeI op++{data:=#[32]})) (by simp only[Qs];omega)
 rw[Wri]at c1 c3
 have z0:(op==0)=false:=by simp;omega
 have z1:(op==1)=false:=by simp;omega
 have z2:(op==2)=false:=by simp;omega
 have z11:(op==11)=false:=by simp;omega
 have z12:(op==12)=false:=by simp;omega
 have hsa1:=fun xo yo=>QaL Tryz.prog 9 xo yo ({data:=#[32]}:ByteArray) (QeI op) (by omega)
 have hsa2:=fun xo yo=>QaL Tryz.prog 9 xo yo (({data:=#[32]}:ByteArray)++QeI op) {data:=#[32]} (by rw[Qs];omega)
 have ga:(avs [a,c])[0]? = some a.av:=rfl
 have gc:(avs [a,c])[1]? = some c.av:=rfl
 have hll:(avs [a,c]).length=2:=rfl
 have y0:((0:Int)<=1)=True:=by simp
 have y1:((0:Int)<((2:Nat):Int))=True:=by simp
 have y2:((1:Int)<((2:Nat):Int))=True:=by simp
 refine Qb Tryz.func85 rfl Tryz.call85 Tryz.ntmps85 Tryz.results85 (by simp) ?_
 repeat first|(first|with_reducible (first|refine Qa fun K E hK hE=>?_|refine Ql fun K E hK hE=>?_|refine QO cb ?_|refine FunW.QuW c1 ?_|refine FunW.QuW c3 ?_|refine Xl (FunW.call c2) QaJ ?_)|refine QH (id:=2) [(0,0),(1,0),(2,0),(3,0),(4,0),(5,1),(6,0),(7,0),(8,2)] mixed (by kernel_rfl) fun K hK=>?_);simp only[XQ,Xz,Yo,Qh,Qe,Qk,OpW,Q7,aop,undef,AS.ev,Qg,Qu,QI,Qr,QG,QvW,Qwf,Qo,↓reduceIte,Qv2,Qv3,Nat.reduceAdd,Nat.reduceLT,Nat.reduceLeDiff,Nat.reduceEqDiff,Qv1,Qwe,Qwn,Qm,QQ,QR,QJ,aBin,QvP,QvQ,QvR,QvS,Qv4,Qv8,Q1,Int.toNat_zero,Int.toNat_one,T.QuV,T.QuY,ti3,ti44,ei44,YG,ZC,ti69,Zq,QwC,Q2,k1,f6,z0,z1,z2,z11,z12,hsa1,hsa2,ga,gc,hll,y0,y1,y2,T.QuY,T.QuV]|with_reducible (first|refine Qj ?_|refine Qt ?_|refine hK _ ?_;clear hK|refine Qi rfl ?_;simp only[↓reduceIte,QvT])
 simp only[QvR,QvV,List.mapM_nil,Option.pure_def,QvR,QS,Qq,QvZ]
 exact .inr ⟨rfl,by simp only[ByteArray.append_assoc]⟩
end
end Go.Proofs.YtenheconhibonaaGreatDoor.Ab
namespace Go.Proofs.YtenheconhibonaaGreatDoor.Ab
open Go.Proofs
theorem ZJ(g:G):Pure Tryz.prog 61 [g.goal] (.b (QL g)):=by
 intro h
 refine Qb Tryz.func61 rfl Tryz.call61 Tryz.ntmps61 Tryz.results61 (by simp) ?_
 iterate 4 (try (first|(((with_reducible refine Qa fun K E hK hE=>?_));simp only[Qh,Qe,Qk,OpW,aop,undef,AS.ev,Qg,Qu,QC,QG,QvW,AV.QuX,Qv9,Qwa,QE,QA,QP,Qwb,↓reduceIte,Qv2,Qv3,Nat.reduceAdd,Nat.reduceLT,Qv1,Q4])|((with_reducible refine hK _ ?_);clear hK)))
 refine Yt (fun s=>g.op≠0/\s.tm 1 = .ptr h.length 0 0/\s.tm 3 = .i (Qa1 g.op)/\s.h=h++[.cells 53 3 [g.goal]]) ?_ ?_
 ·rintro⟨tm,hp⟩ ⟨k0,t1,t3,hh⟩
  dsimp only at t1 t3 hh
  subst hh
  cases p0:decide (g.op>0)
  ·skip
   have R:QL g=false:=by
    rw[QL,QwJ k0,QwY (by simp at p0;omega)];rfl
   iterate 2 (try (first|(((with_reducible refine Qa fun K E hK hE=>?_));simp only[Qh,Qe,Qk,OpW,aop,AS.ev,Qg,Qu,Qr,AV.QuX,Qo,Q6,QD,Qv9,Qwa,QE,Qwb,↓reduceIte,Qv2,Qv3,Nat.reduceLT,Nat.reduceLeDiff,Qv1,Qwn,Zs,ZR,hlen,happ,QvP,QvR,Qv4,Qv8,Qwh,Qwg,Qwi,Qv7,QvY,Qv6,QjV,QjG])|((with_reducible refine hK _ ?_);clear hK)))
   (with_reducible refine Qa fun K E hK hE=>?_)
   (try simp only[Qwq]);refine XC 8 (fun K1 hK1=>?_);simp only[Qh,Qe,Qk,OpW,aop,undef,AS.ev,Qg,Qu,QC,Qr,↓reduceIte,Nat.reduceLT,Nat.reduceEqDiff,Qwe,Qm,QQ,QR,aBin,Q8,QvP,QvQ,QvR,QvU,QvS,Qv0,Qv7,Xw,QvT,beq_true,ti3,YG,Q4,t1,p0];refine hK1 _ ?_;clear hK1
   (try simp only[QvY,Qv6]);refine XC 6 (fun K1 hK1=>?_);simp only[Qh,Qe,Qk,OpW,aop,undef,AS.ev,Qg,QC,Qr,↓reduceIte,Nat.reduceLT,Nat.reduceEqDiff,QvP,QvQ,QvU,QvS,Qv0,Qv7,QvT,beq_true];refine hK1 _ ?_;clear hK1
   (try simp only[QvY,Qv6]);refine XC 6 (fun K1 hK1=>?_);simp only[Qh,Qe,Qk,OpW,aop,undef,AS.ev,Qg,QC,Qr,↓reduceIte,Nat.reduceLT,Nat.reduceEqDiff,QvP,QvQ,QvU,QvS,Qv0,Qv7,QvT,beq_true];refine hK1 _ ?_;clear hK1
   (try simp only[QvY,Qv6])
   simp only[Qh,Qe,Qk,OpW,aop,undef,AS.ev,Qg,QC,Qr,↓reduceIte,Nat.reduceLT,Nat.reduceEqDiff,QvP,QvQ,QvU,QvS,QvT,beq_true]
   with_reducible repeat first|refine Qp ?_|refine hK _ ?_;clear hK
   simp only[QS,Qq,Qz,upd,↓reduceIte,QvV,QvZ];first|refine Qc (htake _ _) (.keep (.v _)) ⟨by rw[R],rfl⟩|refine Qc QwH (.keep (.v _)) ⟨by rw[R],rfl⟩
  cases p1:decide (g.op<=12)
  ·skip
   have R:QL g=false:=by
    rw[QL,QwJ k0,QwY (by simp at p1;omega)];rfl
   iterate 2 (try (first|(((with_reducible refine Qa fun K E hK hE=>?_));simp only[Qh,Qe,Qk,OpW,aop,AS.ev,Qg,Qu,Qr,AV.QuX,Qo,Q6,QD,Qv9,Qwa,QE,Qwb,↓reduceIte,Qv2,Qv3,Nat.reduceLT,Nat.reduceLeDiff,Qv1,Qwn,Zs,ZR,hlen,happ,QvP,QvR,Qv4,Qv8,Qwh,Qwg,Qwi,Qv7,QvY,Qv6,QjV,QjG])|((with_reducible refine hK _ ?_);clear hK)))
   (with_reducible refine Qa fun K E hK hE=>?_)
   (try simp only[Qwq]);refine XC 8 (fun K1 hK1=>?_);simp only[Qh,Qe,Qk,OpW,aop,AS.ev,Qg,Qu,Qr,↓reduceIte,Nat.reduceLT,Nat.reduceEqDiff,Qwe,Qm,QQ,QR,aBin,Q8,QvP,QvQ,QvR,QvU,QvS,Qv0,Qv7,YT,Xw,QvX,ti3,YG,Q4,t1,p0,p1];refine hK1 _ ?_;clear hK1
   (try simp only[QvY,Qv6]);refine XC 6 (fun K1 hK1=>?_);simp only[Qh,Qe,Qk,OpW,aop,undef,AS.ev,Qg,QC,Qr,↓reduceIte,Nat.reduceLT,Nat.reduceEqDiff,QvP,QvQ,QvU,QvS,Qv0,Qv7,QvT,beq_true];refine hK1 _ ?_;clear hK1
   (try simp only[QvY,Qv6]);refine XC 6 (fun K1 hK1=>?_);simp only[Qh,Qe,Qk,OpW,aop,undef,AS.ev,Qg,QC,Qr,↓reduceIte,Nat.reduceLT,Nat.reduceEqDiff,QvP,QvQ,QvU,QvS,Qv0,Qv7,QvT,beq_true];refine hK1 _ ?_;clear hK1
   (try simp only[QvY,Qv6])
   simp only[Qh,Qe,Qk,OpW,aop,undef,AS.ev,Qg,QC,Qr,↓reduceIte,Nat.reduceLT,Nat.reduceEqDiff,QvP,QvQ,QvU,QvS,QvT,beq_true]
   with_reducible repeat first|refine Qp ?_|refine hK _ ?_;clear hK
   simp only[QS,Qq,Qz,upd,↓reduceIte,QvV,QvZ];first|refine Qc (htake _ _) (.keep (.v _)) ⟨by rw[R],rfl⟩|refine Qc QwH (.keep (.v _)) ⟨by rw[R],rfl⟩
  have p2:decide (0<g.op/\g.op<=12)=true:=Qw7 ⟨Qyy p0,Qyy p1⟩
  cases c3:Ym g.name
  ·have c3':(g.name.toList==({data:=#[]}:ByteArray).toList)=false:=c3
   have R:QL g=false:=by
    rw[QL,QwJ k0,p2,c3];rfl
   iterate 2 (try (first|(((with_reducible refine Qa fun K E hK hE=>?_));simp only[Qh,Qe,Qk,OpW,aop,AS.ev,Qg,Qu,Qr,AV.QuX,Qo,Q6,QD,Qv9,Qwa,QE,Qwb,↓reduceIte,Qv2,Qv3,Nat.reduceLT,Nat.reduceLeDiff,Qv1,Qwn,Zs,ZR,hlen,happ,QvP,QvR,Qv4,Qv8,Qwh,Qwg,Qwi,Qv7,QvY,Qv6,QjV,QjG])|((with_reducible refine hK _ ?_);clear hK)))
   (with_reducible refine Qa fun K E hK hE=>?_)
   (try simp only[Qwq]);refine XC 8 (fun K1 hK1=>?_);simp only[Qh,Qe,Qk,OpW,aop,AS.ev,Qg,Qu,Qr,↓reduceIte,Nat.reduceLT,Nat.reduceEqDiff,Qwe,Qm,QQ,QR,aBin,Q8,QvP,QvQ,QvR,QvU,QvS,Qv0,Qv7,YT,Xw,QvX,ti3,YG,Q4,t1,p0,p1];refine hK1 _ ?_;clear hK1
   (try simp only[QvY,Qv6]);refine XC 6 (fun K1 hK1=>?_);simp only[Qh,Qe,Qk,OpW,aop,AS.ev,Qg,QI,Qr,↓reduceIte,Nat.reduceLT,Nat.reduceEqDiff,Qv1,Qm,QQ,QR,aBin,Q8,QvP,QvQ,QvR,QvU,QvS,Qv0,Qv7,Xv,QvX,ti9,QaY,Q4,t1,c3'];refine hK1 _ ?_;clear hK1
   (try simp only[QvY,Qv6]);refine XC 6 (fun K1 hK1=>?_);simp only[Qh,Qe,Qk,OpW,aop,undef,AS.ev,Qg,QC,Qr,↓reduceIte,Nat.reduceLT,Nat.reduceEqDiff,QvP,QvQ,QvU,QvS,Qv0,Qv7,QvT,beq_true];refine hK1 _ ?_;clear hK1
   (try simp only[QvY,Qv6])
   simp only[Qh,Qe,Qk,OpW,aop,undef,AS.ev,Qg,QC,Qr,↓reduceIte,Nat.reduceLT,Nat.reduceEqDiff,QvP,QvQ,QvU,QvS,QvT,beq_true]
   with_reducible repeat first|refine Qp ?_|refine hK _ ?_;clear hK
   simp only[QS,Qq,Qz,upd,↓reduceIte,QvV,QvZ];first|refine Qc (htake _ _) (.keep (.v _)) ⟨by rw[R],rfl⟩|refine Qc QwH (.keep (.v _)) ⟨by rw[R],rfl⟩
  have c3':(g.name.toList==({data:=#[]}:ByteArray).toList)=true:=c3
  cases c4:((g.args.length:Int)==Qa1 g.op)
  ·have c5:decide ((g.args.length:Int)=Qa1 g.op)=false:=QwY (by simpa using c4)
   have R:QL g=false:=by
    rw[QL,QwJ k0,p2,c3,c5];rfl
   iterate 2 (try (first|(((with_reducible refine Qa fun K E hK hE=>?_));simp only[Qh,Qe,Qk,OpW,aop,AS.ev,Qg,Qu,Qr,AV.QuX,Qo,Q6,QD,Qv9,Qwa,QE,Qwb,↓reduceIte,Qv2,Qv3,Nat.reduceLT,Nat.reduceLeDiff,Qv1,Qwn,Zs,ZR,hlen,happ,QvP,QvR,Qv4,Qv8,Qwh,Qwg,Qwi,Qv7,QvY,Qv6,QjV,QjG])|((with_reducible refine hK _ ?_);clear hK)))
   (with_reducible refine Qa fun K E hK hE=>?_)
   (try simp only[Qwq]);refine XC 8 (fun K1 hK1=>?_);simp only[Qh,Qe,Qk,OpW,aop,AS.ev,Qg,Qu,Qr,↓reduceIte,Nat.reduceLT,Nat.reduceEqDiff,Qwe,Qm,QQ,QR,aBin,Q8,QvP,QvQ,QvR,QvU,QvS,Qv0,Qv7,YT,Xw,QvX,ti3,YG,Q4,t1,p0,p1];refine hK1 _ ?_;clear hK1
   (try simp only[QvY,Qv6]);refine XC 6 (fun K1 hK1=>?_);simp only[Qh,Qe,Qk,OpW,aop,AS.ev,Qg,QI,Qr,↓reduceIte,Nat.reduceLT,Nat.reduceEqDiff,Qv1,Qm,QQ,QR,aBin,Q8,QvP,QvQ,QvR,QvU,QvS,Qv0,Qv7,Xv,QvX,ti9,QaY,Q4,t1,c3'];refine hK1 _ ?_;clear hK1
   (try simp only[QvY,Qv6]);refine XC 6 (fun K1 hK1=>?_);simp only[Qh,Qe,Qk,OpW,aop,AS.ev,Qg,Qr,↓reduceIte,Nat.reduceLT,Nat.reduceEqDiff,Qv1,Qm,QQ,QR,aBin,aLen,Q8,QvP,QvQ,QvR,QvU,QvS,Qv0,Qv7,Q1,goInt,QvX,QK,ti44,un44,ZC,Q4,QK,t1,t3,c4];refine hK1 _ ?_;clear hK1
   (try simp only[QvY,Qv6])
   simp only[Qh,Qe,Qk,OpW,aop,undef,AS.ev,Qg,QC,Qr,↓reduceIte,Nat.reduceLT,Nat.reduceEqDiff,QvP,QvQ,QvU,QvS,QvT,beq_true]
   with_reducible repeat first|refine Qp ?_|refine hK _ ?_;clear hK
   simp only[QS,Qq,Qz,upd,↓reduceIte,QvV,QvZ];first|refine Qc (htake _ _) (.keep (.v _)) ⟨by rw[R],rfl⟩|refine Qc QwH (.keep (.v _)) ⟨by rw[R],rfl⟩
  have c5:decide ((g.args.length:Int)=Qa1 g.op)=true:=Qw7 (by simpa using c4)
  have c6:(g.args.length:Int)<=2:=by
   have c7:(g.args.length:Int)=Qa1 g.op:=by simpa using c4
   rw[c7,Qa1];split <;> (try split) <;> decide
  have ca:=QqR g.args (by omega) (h++[.cells 53 3 [g.goal],.cells 149 1 [.agg [.i 200]]]) (h.length+1) (by rw[hget];rfl)
  rw[hset]at ca
  have R:QL g=(runL g.args 200 20).1:=by
   rw[QL,QwJ k0,p2,c3,c5];rfl
  iterate 2 (try (first|(((with_reducible refine Qa fun K E hK hE=>?_));simp only[Qh,Qe,Qk,OpW,aop,AS.ev,Qg,Qu,Qr,AV.QuX,Qo,Q6,QD,Qv9,Qwa,QE,Qwb,↓reduceIte,Qv2,Qv3,Nat.reduceLT,Nat.reduceLeDiff,Qv1,Qwn,Zs,ZR,hlen,happ,QvP,QvR,Qv4,Qv8,Qwh,Qwg,Qwi,Qv7,QvY,Qv6,QjV,QjG])|((with_reducible refine hK _ ?_);clear hK)))
  (with_reducible refine Qa fun K E hK hE=>?_)
  (try simp only[Qwq]);refine XC 8 (fun K1 hK1=>?_);simp only[Qh,Qe,Qk,OpW,aop,AS.ev,Qg,Qu,Qr,↓reduceIte,Nat.reduceLT,Nat.reduceEqDiff,Qwe,Qm,QQ,QR,aBin,Q8,QvP,QvQ,QvR,QvU,QvS,Qv0,Qv7,YT,Xw,QvX,ti3,YG,Q4,t1,p0,p1];refine hK1 _ ?_;clear hK1
  (try simp only[QvY,Qv6]);refine XC 6 (fun K1 hK1=>?_);simp only[Qh,Qe,Qk,OpW,aop,AS.ev,Qg,QI,Qr,↓reduceIte,Nat.reduceLT,Nat.reduceEqDiff,Qv1,Qm,QQ,QR,aBin,Q8,QvP,QvQ,QvR,QvU,QvS,Qv0,Qv7,Xv,QvX,ti9,QaY,Q4,t1,c3'];refine hK1 _ ?_;clear hK1
  (try simp only[QvY,Qv6]);refine XC 6 (fun K1 hK1=>?_);simp only[Qh,Qe,Qk,OpW,aop,AS.ev,Qg,Qr,↓reduceIte,Nat.reduceLT,Nat.reduceEqDiff,Qv1,Qm,QQ,QR,aBin,aLen,Q8,QvP,QvQ,QvR,QvU,QvS,Qv0,Qv7,Q1,goInt,QvX,QK,ti44,un44,ZC,Q4,QK,t1,t3,c4];refine hK1 _ ?_;clear hK1
  (try simp only[QvY,Qv6])
  simp only[Qe,Qk,OpW,aop,AS.ev,Qg,Qu,Qr,↓reduceIte,Nat.reduceLT,Nat.reduceEqDiff,Qv1,Qm,QQ,QR,Q8,QvP,QvQ,QvR,QvU,QvS,Qv4,Qv8,QvX,ti44,ZC,Q4,t1]
  with_reducible repeat first|refine FunW.QuW ca ?_;simp only[Qh,Qe,Qk,OpW,Q7,aop,AS.ev,Qg,Qr,↓reduceIte,Nat.reduceLT,Nat.reduceEqDiff,Qwj,Qwk]|refine Qp ?_|refine hK _ ?_;clear hK
  simp only[QS,Qq,Qz,upd,↓reduceIte,QvV,QvZ];first|refine Qc (htake _ _) (.keep (.v _)) ⟨by rw[R],rfl⟩|refine Qc QwH (.keep (.v _)) ⟨by rw[R],rfl⟩
 ·by_cases k0:g.op=0
  ·have c:=Qaw ⟨0,g.name,g.args⟩
   rw[show G.atom ⟨0,g.name,g.args⟩=AV.agg [.v (.string g.name),.sl 4 (avs g.args) none]from rfl]at c
   have R:QL g=Xa ⟨0,g.name,g.args⟩:=by
    rw[QL,QwN k0]
   have z0:(g.op==0)=true:=by simp[k0]
   with_reducible repeat first|(first|refine Qa fun K E hK hE=>?_|refine Qy c ?_);simp only[Qh,Qe,Qk,OpW,Q7,aop,undef,AS.ev,Qg,Qu,Qr,QG,AV.QuX,Qo,Q6,XV,QD,Qv9,Qwa,QA,QM,QP,Qwb,↓reduceIte,Qv2,Qv3,Nat.reduceAdd,Nat.reduceLT,Nat.reduceLeDiff,Nat.reduceEqDiff,Qv1,Qwe,Qwn,Qm,QQ,QR,aBin,Zs,ZR,Q8,QvP,QvQ,QvR,Qv4,Qv8,Qwh,Qwg,Qwi,Qv0,Qv7,QvY,Qv6,Q1,ti3,ti9,ti44,YG,QaY,ZC,zi66,sp66,Q4,z0]|refine Qj ?_|refine Qp ?_|refine QB ?_|refine QF ?_|refine hK _ ?_;clear hK|refine Qi rfl ?_;simp only[↓reduceIte]
   simp only[QS,Qq,Qz,upd,↓reduceIte,QvV,QvZ];first|refine Qc (htake _ _) (.keep (.v _)) ⟨by rw[R],rfl⟩|refine Qc QwH (.keep (.v _)) ⟨by rw[R],rfl⟩
  have z0:(g.op==0)=false:=by simp[k0]
  by_cases k1:g.op=1
  ·have z1:(g.op==1)=true:=by simp[k1]
   have gn:Qa1 g.op=0:=by simp[Qa1,k1]
   with_reducible repeat first|(first|refine Qa fun K E hK hE=>?_|refine Ql fun K E hK hE=>?_);simp only[Qh,Qe,Qk,OpW,aop,AS.ev,Qg,Qu,Qr,↓reduceIte,Nat.reduceLT,Nat.reduceEqDiff,Qwe,Qm,QQ,QR,aBin,Q8,QvP,QvR,Q1,ti3,YG,Q4,z0,z1]|refine Qf fun K hK=>?_|refine Qj ?_|refine Qw ?_|refine Qd ?_|refine Qt ?_|refine hK _ ?_;clear hK|refine Qi rfl ?_;simp only[↓reduceIte,QvT]
   exact⟨k0,rfl,by rw[gn];rfl,rfl⟩
  have z1:(g.op==1)=false:=by simp[k1]
  by_cases k2:g.op=2
  ·have z2:(g.op==2)=true:=by simp[k2]
   have gn:Qa1 g.op=0:=by simp[Qa1,k2]
   with_reducible repeat first|(first|refine Qa fun K E hK hE=>?_|refine Ql fun K E hK hE=>?_);simp only[Qh,Qe,Qk,OpW,aop,AS.ev,Qg,Qu,Qr,↓reduceIte,Nat.reduceLT,Nat.reduceEqDiff,Qwe,Qm,QQ,QR,aBin,Q8,QvP,QvR,Q1,ti3,YG,Q4,z0,z1,z2]|refine Qf fun K hK=>?_|refine Qj ?_|refine Qd ?_|refine Qt ?_|refine hK _ ?_;clear hK|refine Qi rfl ?_;simp only[↓reduceIte,QvT]
   exact⟨k0,rfl,by rw[gn];rfl,rfl⟩
  have z2:(g.op==2)=false:=by simp[k2]
  by_cases k11:g.op=11
  ·have z11:(g.op==11)=true:=by simp[k11]
   have gn:Qa1 g.op=1:=by simp[Qa1,k11]
   with_reducible repeat first|(first|refine Qa fun K E hK hE=>?_|refine Ql fun K E hK hE=>?_);simp only[Qh,Qe,Qk,OpW,aop,AS.ev,Qg,Qu,Qr,↓reduceIte,Nat.reduceLT,Nat.reduceEqDiff,Qwe,Qm,QQ,QR,aBin,Q8,QvP,QvR,Q1,ti3,YG,Q4,z0,z1,z2,z11]|refine Qf fun K hK=>?_|refine Qj ?_|refine Qw ?_|refine Qd ?_|refine Qt ?_|refine hK _ ?_;clear hK|refine Qi rfl ?_;simp only[↓reduceIte,QvT]
   exact⟨k0,rfl,by rw[gn];rfl,rfl⟩
  have z11:(g.op==11)=false:=by simp[k11]
  by_cases k12:g.op=12
  ·have z12:(g.op==12)=true:=by simp[k12]
   have gn:Qa1 g.op=1:=by simp[Qa1,k12]
   with_reducible repeat first|(first|refine Qa fun K E hK hE=>?_|refine Ql fun K E hK hE=>?_);simp only[Qh,Qe,Qk,OpW,aop,AS.ev,Qg,Qu,Qr,↓reduceIte,Nat.reduceLT,Nat.reduceEqDiff,Qwe,Qm,QQ,QR,aBin,Q8,QvP,QvR,Q1,ti3,YG,Q4,z0,z1,z2,z11,z12]|refine Qf fun K hK=>?_|refine Qj ?_|refine Qd ?_|refine Qt ?_|refine hK _ ?_;clear hK|refine Qi rfl ?_;simp only[↓reduceIte,QvT]
   exact⟨k0,rfl,by rw[gn];rfl,rfl⟩
  have z12:(g.op==12)=false:=by simp[k12]
  have gn:Qa1 g.op=2:=by simp[Qa1,k1,k2,k11,k12]
  with_reducible repeat first|(first|refine Qa fun K E hK hE=>?_|refine Ql fun K E hK hE=>?_);simp only[Qh,Qe,Qk,OpW,aop,AS.ev,Qg,Qu,Qr,↓reduceIte,Nat.reduceLT,Nat.reduceEqDiff,Qwe,Qm,QQ,QR,aBin,Q8,QvP,QvR,Q1,ti3,YG,Q4,z0,z1,z2,z11,z12]|refine Qf fun K hK=>?_|refine Qj ?_|refine Qw ?_|refine Qd ?_|refine Qt ?_|refine hK _ ?_;clear hK|refine Qi rfl ?_;simp only[↓reduceIte,QvT]
  exact⟨k0,rfl,by rw[gn];rfl,rfl⟩
def txtA(g:G):ByteArray:=if Xa g=true then funT g.name (txts g.args)else{data:=#[]}
def txtG(g:G):ByteArray:=if QL g=true then Qac g else{data:=#[]}
theorem QfD{s:ByteArray}{l:List ByteArray}(h0:1<=s.size):1<=(funT s l).size:=by rw[funT,Qs];omega
theorem Qkp(s:ByteArray)(l:List ByteArray):(funT s l).size<=s.size+2+(l.map fun x=>x.size+2).sum:=by
 rw[funT,Qs]
 have e1:=QhI (decide (0<l.length)) (X1 true l)
 have e2:=QhT l true
 omega
theorem Qdj{g:G}(h:Xa g=true):lexL g.args/\g.args.length<=6/\1<=(funT g.name (txts g.args)).size/\(funT g.name (txts g.args)).size<=15000:=by
 simp only[Xa,QwQ,Qw1]at h
 obtain⟨h1,h2,h3⟩:=h
 have hn:=Qa6 h1
 have hl:=Qe0 g.args 200 20 h3
 have hr:=QeZ g.args 200 20 (by omega) h3
 refine⟨hl.1,h2,QfD hn.1,?_⟩
 have:=Qkp g.name (txts g.args)
 have:=hl.2.1
 omega
theorem Ql0{h:AH}(hG:XE h)(b:AB):XE (HB (h++[b]++[AB.dead,AB.dead]) (h++[b]).length ((h++[b]).length+1) true (.empty)):=Qsu (hG.app [b]) _ _
theorem Qii(g:G)(hl:g.args.length<=1000000)(h:AH)(hG:XE h):QT Tryz.prog 37 [g.atom] h fun o h'=>o = .ret (.v (.string (txtA g)))/\h'=h:=by
 have cr:=Qaw g
 cases hr:Xa g with
 |false =>
  rw[hr]at cr
  have c1:=Qpj (.fn (.func 83) [] [.ptr h.length 0 0])
  refine Qb Tryz.func37 rfl Tryz.call37 Tryz.ntmps37 Tryz.results37 (by simp) ?_
  repeat (first|refine Qy cr ?_|refine Qy c1 ?_|refine Qn ?_);simp only[go_sem,seval,ZX,QdS]
  first|refine Qc (htake _ _) (.keep (.v _)) ⟨by rw[txtA,QwJ (by rw[hr];decide)],rfl⟩|refine Qc QwH (.keep (.v _)) ⟨by rw[txtA,QwJ (by rw[hr];decide)],rfl⟩
 |true =>
  rw[hr]at cr
  obtain⟨hx,h6,hs0,hs1⟩:=Qdj hr
  have hk:=Qns (h:=h++[AB.cells 66 2 [g.atom]]++[AB.dead,AB.dead]) (i:=(h++[AB.cells 66 2 [g.atom]]).length) (j:=(h++[AB.cells 66 2 [g.atom]]).length+1) (p:=h.length)
   (by simp) (by simp) (by omega) (by simp) (by simp;omega) g (by simp) hx hl (Ql0 hG _) false .empty (by rw[show(ByteArray.empty).size=0 from rfl];omega)
  rw[Wri,ByteArray.empty_append]at hk
  have c1:=Ql1 (.fn (.func 83) [] [.ptr h.length 0 0]) (.tup []) (funT g.name (txts g.args)) (h++[AB.cells 66 2 [g.atom]]) hs0 (by omega) (FunW.fn hk)
  refine Qb Tryz.func37 rfl Tryz.call37 Tryz.ntmps37 Tryz.results37 (by simp) ?_
  repeat (first|refine Qy cr ?_|refine FunW.QuW c1 ?_|refine Qn ?_);simp only[go_sem,seval,ZX,QdS]
  first|refine Qc (htake _ _) (.keep (.v _)) ⟨by rw[txtA,QwN hr],rfl⟩|refine Qc QwH (.keep (.v _)) ⟨by rw[txtA,QwN hr],rfl⟩
theorem Qdo{g:G}(h:QL g=true):lexL g.args/\g.args.length<=6/\1<=(Qac g).size/\(Qac g).size<=15000 /\
  (g.op=0\/g.op=1\/g.op=2\/g.op=11\/g.op=12\/(3<=g.op/\g.op<=10/\g.args.length=2)):=by
 rw[QL]at h
 by_cases k0:g.op=0
 ·rw[QwN k0]at h
  obtain⟨h1,h2,h3,h4⟩:=Qdj h
  rw[Qac,QwN k0]
  exact⟨h1,h2,h3,h4,.inl k0⟩
 rw[QwJ k0]at h
 simp only[QwQ,Qw1]at h
 obtain⟨h1,hn,h2,h3⟩:=h
 have hl:=Qe0 g.args 200 20 h3
 have hr:=QeZ g.args 200 20 (by omega) h3
 have hgn:Qa1 g.op<=2:=by rw[Qa1];split <;> (try split) <;> decide
 refine⟨hl.1,by omega,?_⟩
 rw[Qac,QwJ k0]
 by_cases k1:g.op=1
 ·rw[QwN k1];exact⟨by decide,by decide,by omega⟩
 rw[QwJ k1]
 by_cases k2:g.op=2
 ·rw[QwN k2];exact⟨by decide,by decide,by omega⟩
 rw[QwJ k2]
 have hl2:=hl.2.1
 by_cases k11:g.op=11
 ·rw[QwN k11]
  refine⟨QfD (by decide),?_,by omega⟩
  have:=Qkp intB (txts g.args)
  have:intB.size=3:=rfl
  omega
 rw[QwJ k11]
 by_cases k12:g.op=12
 ·rw[QwN k12]
  refine⟨QfD (by decide),?_,by omega⟩
  have:=Qkp grdB (txts g.args)
  have:grdB.size=6:=rfl
  omega
 rw[QwJ k12]
 have hn2:g.args.length=2:=by
  have:Qa1 g.op=2:=by simp[Qa1,k1,k2,k11,k12]
  omega
 have hb:=QgK g.op (by omega) (by omega)
 match hg:g.args,hn2 with
 |[a,c],_ =>
  rw[hg]at hl2 hr
  simp only[txts,pairT,Qs,Qv4,Qv8,List.sum_cons,List.sum_nil]at hl2 ⊢
  have:({data:=#[32]}:ByteArray).size=1:=rfl
  refine⟨by omega,by omega,.inr (.inr (.inr (.inr (.inr ⟨by omega,by omega,rfl⟩))))⟩
theorem Qn2{h:AH}{i j p:Nat}(hi:i<h.length)(hj:j<h.length)(hij:i≠j)(hpi:i≠p)(hpj:j≠p)(g:G)(gp:h[p]? = some (.cells 53 3 [g.goal]))(hr:QL g=true)
  (hG:XE (HB h i j true (.empty))) (u:Bool) (tx:ByteArray) (hs:tx.size+(Qac g).size<=140737488355328) :
  Wri 85 [.ptr i 0 0,.ptr p 0 0] h i j u tx (Qac g):=by
 obtain⟨hx,hl,_,_,ho⟩:=Qdo hr
 have hl':g.args.length<=1000000:=by omega
 rcases ho with ho|ho|ho|ho|ho|⟨h3,h10,h2⟩
 ·have e:Qac g=funT g.name (txts g.args):=by simp[Qac,ho]
  rw[e]at hs ⊢;exact Qmq hi hj hij hpi hpj g gp hx hl' ho hG u tx hs
 ·have e:Qac g=Qil:=by simp[Qac,ho]
  rw[e]at hs ⊢;exact Qmt hi hj hij hpi hpj g gp hx hl' ho hG u tx hs
 ·have e:Qac g=QnV:=by simp[Qac,ho]
  rw[e]at hs ⊢;exact Qmr hi hj hij hpi hpj g gp hx hl' ho hG u tx hs
 ·have e:Qac g=funT intB (txts g.args):=by simp[Qac,ho]
  rw[e]at hs ⊢;exact Qn3 hi hj hij hpi hpj g gp hx hl' ho hG u tx hs
 ·have e:Qac g=funT grdB (txts g.args):=by simp[Qac,ho]
  rw[e]at hs ⊢;exact QiY hi hj hij hpi hpj g gp hx hl' ho hG u tx hs
 ·have e:Qac g=pairT g.op (txts g.args):=by
   rw[Qac,QwJ (by omega),QwJ (by omega),QwJ (by omega),QwJ (by omega),QwJ (by omega)]
  rw[e]at hs ⊢
  obtain⟨op,n,l⟩:=g
  match l,h2 with
  |[a,c],_=>exact Qms hi hj hij hpi hpj op n a c gp hx h3 h10 hG u tx hs
theorem Qij(g:G)(hl:g.args.length<=1000000)(h:AH)(hG:XE h):QT Tryz.prog 39 [g.goal] h fun o h'=>o = .ret (.v (.string (txtG g)))/\h'=h:=by
 have cr:=ZJ g
 cases hr:QL g with
 |false =>
  rw[hr]at cr
  have c1:=Qpj (.fn (.func 85) [] [.ptr h.length 0 0])
  refine Qb Tryz.func39 rfl Tryz.call39 Tryz.ntmps39 Tryz.results39 (by simp) ?_
  repeat (first|refine Qy cr ?_|refine Qy c1 ?_|refine Qn ?_);simp only[go_sem,seval,Q4,Z1]
  first|refine Qc (htake _ _) (.keep (.v _)) ⟨by rw[txtG,QwJ (by rw[hr];decide)],rfl⟩|refine Qc QwH (.keep (.v _)) ⟨by rw[txtG,QwJ (by rw[hr];decide)],rfl⟩
 |true =>
  rw[hr]at cr
  obtain⟨hx,h6,hs0,hs1,_⟩:=Qdo hr
  have hk:=Qn2 (h:=h++[AB.cells 53 3 [g.goal]]++[AB.dead,AB.dead]) (i:=(h++[AB.cells 53 3 [g.goal]]).length) (j:=(h++[AB.cells 53 3 [g.goal]]).length+1) (p:=h.length)
   (by simp) (by simp) (by omega) (by simp) (by simp;omega) g (by simp) hr (Ql0 hG _) false .empty (by rw[show(ByteArray.empty).size=0 from rfl];omega)
  rw[Wri,ByteArray.empty_append]at hk
  have c1:=Ql1 (.fn (.func 85) [] [.ptr h.length 0 0]) (.tup []) (Qac g) (h++[AB.cells 53 3 [g.goal]]) hs0 (by omega) (FunW.fn hk)
  refine Qb Tryz.func39 rfl Tryz.call39 Tryz.ntmps39 Tryz.results39 (by simp) ?_
  repeat (first|refine Qy cr ?_|refine FunW.QuW c1 ?_|refine Qn ?_);simp only[go_sem,seval,Q4,Z1]
  first|refine Qc (htake _ _) (.keep (.v _)) ⟨by rw[txtG,QwN hr],rfl⟩|refine Qc QwH (.keep (.v _)) ⟨by rw[txtG,QwN hr],rfl⟩
end Go.Proofs.YtenheconhibonaaGreatDoor.Ab
namespace Go.Proofs.YtenheconhibonaaGreatDoor.Ab
open Go.Proofs
def HS(h:AH)(i j:Nat)(u:Bool)(tx:ByteArray):AH:=hs2 h i (bw 74 i j u tx) j (.grow 5 1 tx.size)
theorem sTy:BTy 74:=.inl rfl
section
variable{h:AH}{i j:Nat}(hi:i<h.length)(hj:j<h.length)(hij:i≠j)
theorem Qk6(h:AH)(i j:Nat)(u:Bool)(tx:ByteArray):(HS h i j u tx).length=h.length:=Zr _ _ _ _ _
theorem Qk7(h:AH)(i j:Nat)(u:Bool)(tx:ByteArray)(L:AH)(k:Nat):(HS h i j u tx++L)[h.length+k]? = L[k]? := Qn7 _ _ _ _
theorem Qho(h:AH)(i j:Nat)(u:Bool)(tx:ByteArray)(z:AB)(L:AH)(k:Nat):(HS h i j u tx++L).set (h.length+k) z=HS h i j u tx++L.set k z:=Qlr _ _ _ _ _
include hi hj in
theorem Qk5(u:Bool)(tx:ByteArray)(L:AH):HS (h++L) i j u tx=HS h i j u tx++L:=QhR hi hj _ _ _
include hi hij in
theorem Qhn(u:Bool)(tx:ByteArray)(L:AH):(HS h i j u tx++L)[i]? = some (.cells 74 2 [.agg [if u then .ptr i 0 0 else .v (.pointer none),.sl 1 (Xs tx) (some j)]]):=Qi2 hi hij _ _ _
theorem Qit{h:AH}(hG:XE h)(l:AH)(hl:l.length=2)(u:Bool)(tx:ByteArray):XE (HS (h++l) h.length (h.length+1) u tx):=by
 obtain⟨k,ty,fr,e⟩:=hG
 refine⟨k,ty,fr,?_⟩
 have hk:=Qv e
 rw[HS,YD _ _ (by omega) (by omega),QwI hk,e]
end
theorem sstr{h:AH}{i j:Nat}(hi:i<h.length)(hj:j<h.length)(hij:i≠j)(u:Bool)(tx s:ByteArray)(hs:tx.size+s.size<=140737488355328) :
  QT Tryz.prog 35 [.ptr i 0 0,.v (.string s)] (HS h i j u tx) fun o h'=>o = .ret (.tup [.i s.size,.v .nilIface])/\h'=HS h i j true (tx++s) :=
 Qcu sTy hij u tx s hs h hi hj
theorem Qnh(h:AH)(u:Bool)(tx:ByteArray):HS (h++[AB.dead,AB.dead]) h.length (h.length+1) u tx=h++[bw 74 h.length (h.length+1) u tx,AB.grow 5 1 tx.size]:=by
 simp[HS,hs2]
theorem Qef(h L:AH)(tx:ByteArray)(h0:0<tx.size)(hs:tx.size<=140737488355328):QT Tryz.prog 41 [.ptr h.length 0 0] (HS (h++[AB.dead,AB.dead]) h.length (h.length+1) true tx++L)
  fun o h'=>o = .ret (.v (.string tx))/\h'=h++([bw 74 h.length (h.length+1) true tx,AB.gone]++L):=by
 have c:=(QcP (ty:=74) (i:=h.length) (j:=h.length+1) (by omega) tx h0 hs).app (h:=h++[AB.dead,AB.dead]) (by simp) (by simp) L
 rw[<-HS]at c
 have e:hs2 (h++[AB.dead,AB.dead]) h.length (bw 74 h.length (h.length+1) true tx) (h.length+1) .gone=h++[bw 74 h.length (h.length+1) true tx,AB.gone]:=by
  simp[hs2]
 rw[e,QwM]at c
 exact c
section
variable{X:Type}(f:X->AV)(tx:X->ByteArray)(fv:AV)
theorem QkA(h:AH):QT Tryz.prog 36 [.sl 2 [] none,fv] h fun o h'=>o = .ret (.v (.string .empty))/\h'=h:=by
 have c:=QbX (ty:=74) (i:=h.length) (h++[AB.dead]) (by simp)
 have e:hs (h++[AB.dead]) h.length (bw00 74)=h++[bw00 74]:=by simp[hs]
 rw[e,bw00]at c
 refine Qb Tryz.func36 rfl Tryz.call36 Tryz.ntmps36 Tryz.results36 (by simp) ?_
 iterate 8 (try (first|(((with_reducible refine Qa fun K E hK hE=>?_));simp only[Qh,Qe,Qk,OpW,aop,undef,AS.ev,Qg,Qu,QI,Qr,QG,QvW,AV.QuX,Qo,Qv9,Qwa,QM,Xi,Qwb,↓reduceIte,Qv2,Qv3,Nat.reduceAdd,Nat.reduceLT,Nat.reduceEqDiff,Qv1,aLen,QvR,goInt,QwB,un22,zi74])|(with_reducible (first|refine Qf fun K hK=>?_|refine Qj ?_))|((with_reducible refine hK _ ?_);clear hK)))
 obtain⟨I,hI⟩:∃I:Nat->AS->Prop,I=fun m' s=>m'=0/\s.tm 1=fv/\s.tm 5 = .ptr h.length 0 0/\s.tm 8 = .sl 2 [] none/\s.tm 9 = .i 0/\s.tm 10 = .i 0/\s.h=h++[.cells 74 2 [.agg [.v (.pointer none),.v (.slice none 0 0)]]]:=⟨_,rfl⟩;refine QZ I ?_ (m:=0) ?_
 ·intro m' s hs;rw[hI]at hs;obtain⟨tm,hp⟩:=s;dsimp only at hs;obtain⟨rfl,t1,t5,t8,t9,t10,rfl⟩:=hs
  have z:¬((0:Int)<0):=by decide
  with_reducible repeat first|(first|refine Qa fun K E hK hE=>?_|refine FunW.QuW c ?_);simp only[Qh,Qe,Qk,OpW,Q7,aop,AS.ev,Qg,Qr,↓reduceIte,Nat.reduceLT,Nat.reduceEqDiff,aBin,QvR,Qv4,Qv8,Q5,Qwm,t5,t9,t10,z]|refine Qf fun K hK=>?_|refine Qp ?_|refine Q3 ?_|refine Qd ?_|refine QV ?_|refine QU ?_|refine hK _ ?_;clear hK|clear hK;refine hK _ ?_;clear hK|refine Qi rfl ?_;simp only[↓reduceIte,QvT]
  simp only[QS,Qq,Qz,upd,↓reduceIte,QvV,QvZ];first|refine Qc (htake _ _) (.keep (.v _)) ⟨rfl,rfl⟩|refine Qc QwH (.keep (.v _)) ⟨rfl,rfl⟩
 ·rw[hI]
  exact⟨rfl,rfl,rfl,rfl,rfl,rfl,rfl⟩
theorem Qi4(hfc:∀x,(f x).isAgg=true/\(f x).cells.length=2/\(f x).cells.all AV.cell1=true)(l:List X)(hl:0<l.length)(hl2:l.length<=1000000)(h:AH)(hG:XE h)
  (ih:∀x∈l,∀h:AH,XE h->FunW Tryz.prog fv [f x] h fun o h'=>o = .ret (.v (.string (tx x)))/\h'=h)
  (h0:0<(X1 true (l.map tx)).size) (hs:(X1 true (l.map tx)).size<=140737488355328) :
  QT Tryz.prog 36 [.sl 2 (vs f l) none,fv] h fun o h'=>o = .ret (.v (.string (X1 true (l.map tx))))/\h'=h:=by
 have hi:h.length<(h++[AB.dead,AB.dead]).length:=by simp
 have hj:h.length+1<(h++[AB.dead,AB.dead]).length:=by simp
 have hle:(h++[AB.dead,AB.dead]).length=h.length+2:=by simp
 have f1:=fun u tx=>(Qk6 (h++[AB.dead,AB.dead]) h.length (h.length+1) u tx).trans hle
 have f3:∀u tx L k,(HS (h++[AB.dead,AB.dead]) h.length (h.length+1) u tx++L)[h.length+2+k]? = L[k]? := fun u tx L k=>by rw[<-hle];exact Qk7 _ _ _ u tx L k
 have f2:∀u tx L,(HS (h++[AB.dead,AB.dead]) h.length (h.length+1) u tx++L)[h.length+2]? = L[0]? := fun u tx L=>f3 u tx L 0
 have f5:∀u tx z L k,(HS (h++[AB.dead,AB.dead]) h.length (h.length+1) u tx++L).set (h.length+2+k) z=HS (h++[AB.dead,AB.dead]) h.length (h.length+1) u tx++L.set k z:=fun u tx z L k=>by rw[<-hle];exact Qho _ _ _ u tx z L k
 have f4:∀u tx z L,(HS (h++[AB.dead,AB.dead]) h.length (h.length+1) u tx++L).set (h.length+2) z=HS (h++[AB.dead,AB.dead]) h.length (h.length+1) u tx++L.set 0 z:=fun u tx z L=>f5 u tx z L 0
 have f6:=fun u tx L=>Qhn (h:=h++[AB.dead,AB.dead]) (i:=h.length) (j:=h.length+1) hi (by omega) u tx L
 have gapp:=fun u tx L=>Qk5 (h:=h++[AB.dead,AB.dead]) (i:=h.length) (j:=h.length+1) hi hj u tx L
 refine Qb Tryz.func36 rfl Tryz.call36 Tryz.ntmps36 Tryz.results36 (by simp) ?_
 iterate 8 (try (first|(((with_reducible refine Qa fun K E hK hE=>?_));simp only[Qh,Qe,Qk,OpW,aop,undef,AS.ev,Qg,Qu,QI,Qr,QG,QvW,AV.QuX,Qo,Qv9,Qwa,QM,Xi,Qwb,↓reduceIte,Qv2,Qv3,Nat.reduceAdd,Nat.reduceLT,Nat.reduceEqDiff,Qv1,aLen,QvR,goInt,un22,zi74,QN])|(with_reducible (first|refine Qf fun K hK=>?_|refine Qj ?_))|((with_reducible refine hK _ ?_);clear hK)))
 refine QaA h.length 74 5 (.pointer none) (by simp) ?_
 obtain⟨I,hI⟩:∃I:Nat->AS->Prop,I=fun m' s=>∃(k:Nat) (cur:ByteArray),m'=l.length - k/\k<=l.length/\cur++X1 (decide (k=0)) ((l.drop k).map tx)=X1 true (l.map tx)/\s.tm 1=fv/\s.tm 5 = .ptr h.length 0 0/\s.tm 8 = .sl 2 (vs f l) none/\s.tm 9 = .i l.length/\s.tm 10 = .i k/\(∃L,s.h=HS (h++[AB.dead,AB.dead]) h.length (h.length+1) (decide (0<k)) cur++L):=⟨_,rfl⟩;refine QZ I ?_ (m:=l.length) ?_
 ·intro m' s hs;rw[hI]at hs;obtain⟨tm,hp⟩:=s;dsimp only at hs;obtain⟨k,cur,rfl,hk,he,t1,t5,t8,t9,t10,L,rfl⟩:=hs
  by_cases hlt:k<l.length
  ·have hg:=QaK f hlt
   have z1:(k:Int)<l.length:=by omega
   obtain⟨hag,hcl,hc1⟩:=hfc l[k]
   have hsz:cur.size+(X1 (decide (k=0)) ((l.drop k).map tx)).size=(X1 true (l.map tx)).size:=by rw[<-Qs,he]
   have hd:(l.drop k).map tx=tx (l[k])::(l.drop (k+1)).map tx:=by rw[QwU hlt];rfl
   have hcm:ZB.size=2:=rfl
   rw[hd,X1,Qs]at hsz
   rw[hd,X1]at he
   have glen:∀L:AH,h.length<(h++[AB.dead,AB.dead]++L).length/\h.length+1<(h++[AB.dead,AB.dead]++L).length:=fun L=>by rw[QwG];omega
   have hG':=fun u tx L=>HasG.app (Qit hG [AB.dead,AB.dead] rfl u tx) L
   by_cases hk0:k=0
   ·rw[Qw7 hk0,QwN rfl]at hsz he
    have z2:¬(k:Int)>0:=by omega
    have c2:=ih l[k] (Qxk hlt) (HS (h++[AB.dead,AB.dead]) h.length (h.length+1) (decide (0<k)) cur++(L++[AB.cells 66 2 [f l[k]]])) (hG' _ _ _)
    have c1:=sstr (h:=h++[AB.dead,AB.dead]++(L++[AB.cells 66 2 [f l[k]]])) (glen _).1 (glen _).2 (by omega) (decide (0<k)) cur (tx (l[k])) (by omega)
    rw[gapp,gapp]at c1
    with_reducible repeat first|(first|refine Qa fun K E hK hE=>?_|refine Ql fun K E hK hE=>?_|refine FunW.ret c2 ?_|refine FunW.QuW c1 ?_);simp only[Qh,Qe,Qk,OpW,Q7,aop,undef,AS.ev,Qg,QX,Qu,Qr,AV.QuX,Qo,QD,Qv9,Qwa,QA,QM,Qwb,↓reduceIte,Qv2,Qv3,Nat.reduceAdd,Nat.reduceLT,Nat.reduceEqDiff,Qv1,Qwn,QQ,QR,Xf,QY,QJ,aBin,Q8,Yd,hlen,happ,QvP,Qwj,QvR,Qv4,Qv8,Q5,Xw,Yc,Qwl,Qwm,Qws,Qwr,ei22,ti66,zi66,t1,t5,t8,t9,t10,z1,z2,hg,hcl,hag,hc1,f1,f3,f5,QN]|refine Qf fun K hK=>?_|refine Qj ?_|refine Qw ?_|refine Qd ?_|refine Qt ?_|refine hK _ ?_;clear hK|refine Qi rfl ?_;simp only[↓reduceIte,QvT]
    refine Xo.mk (m':=l.length - (k+1)) (by omega) ?_
    rw[hI]
    refine⟨k+1,cur++tx (l[k]),rfl,hlt,?_,t1,t5,t8,t9,?_,_,rfl⟩
    ·rw[QwY (Nat.succ_ne_zero k),ByteArray.append_assoc];exact he
    ·simp only[upd,↓reduceIte]
     rw[Xe (by omega)]
   ·rw[QwY hk0,QwJ (by decide),Qs]at hsz
    rw[QwY hk0,QwJ (by decide)]at he
    have z2:(k:Int)>0:=by omega
    have c0:=sstr (h:=h++[AB.dead,AB.dead]++(L++[AB.cells 66 2 [f l[k]]])) (glen _).1 (glen _).2 (by omega) (decide (0<k)) cur ZB (by omega)
    rw[gapp,gapp]at c0
    have c2:=ih l[k] (Qxk hlt) (HS (h++[AB.dead,AB.dead]) h.length (h.length+1) true (cur++ZB)++(L++[AB.cells 66 2 [f l[k]]])) (hG' _ _ _)
    have c1:=sstr (h:=h++[AB.dead,AB.dead]++(L++[AB.cells 66 2 [f l[k]]])) (glen _).1 (glen _).2 (by omega) true (cur++ZB) (tx (l[k])) (by rw[Qs];omega)
    rw[gapp,gapp]at c1
    with_reducible repeat first|(first|refine Qa fun K E hK hE=>?_|refine Ql fun K E hK hE=>?_|refine FunW.ret c2 ?_|refine FunW.QuW c1 ?_|refine FunW.QuW c0 ?_);simp only[Qh,Qe,Qk,OpW,Q7,aop,undef,AS.ev,Qg,QX,Qu,QI,Qr,AV.QuX,Qo,QD,Qv9,Qwa,QA,QM,Qwb,↓reduceIte,Qv2,Qv3,Nat.reduceAdd,Nat.reduceLT,Nat.reduceEqDiff,Qv1,Qwn,QQ,QR,Xf,QY,QJ,aBin,Q8,Yd,hlen,happ,QvP,Qwj,QvR,Qv4,Qv8,Q5,Xw,Yc,Qwl,Qws,Qwr,ei22,ti66,zi66,t1,t5,t8,t9,t10,z1,z2,hg,hcl,hag,hc1,f1,f3,f5,QN]|refine Qf fun K hK=>?_|refine Qj ?_|refine Qw ?_|refine Qd ?_|refine Qt ?_|refine hK _ ?_;clear hK|refine Qi rfl ?_;simp only[↓reduceIte]
    refine Xo.mk (m':=l.length - (k+1)) (by omega) ?_
    rw[hI]
    refine⟨k+1,(cur++ZB)++tx (l[k]),rfl,hlt,?_,t1,t5,t8,t9,?_,_,rfl⟩
    ·rw[QwY (Nat.succ_ne_zero k)];simp only[ByteArray.append_assoc]at he ⊢;exact he
    ·simp only[upd,↓reduceIte]
     rw[Xe (by omega)]
  ·have hkn:k=l.length:=by omega
   subst hkn
   have z1:¬((l.length:Nat):Int)<l.length:=by omega
   rw[Qxb,List.map_nil,X1,ByteArray.append_empty]at he
   rw[Qw7 hl]
   rw[<-he]at h0 hs
   have c:=Qef h L cur h0 hs
   with_reducible repeat first|(first|refine Qa fun K E hK hE=>?_|refine FunW.QuW c ?_);simp only[Qh,Qe,Qk,OpW,Q7,aop,AS.ev,Qg,Qr,↓reduceIte,Nat.reduceLT,Nat.reduceEqDiff,aBin,QvR,Qv4,Qv8,Qwh,Qwg,Q5,Qwm,t5,t9,t10,z1]|refine Qf fun K hK=>?_|refine Qp ?_|refine Q3 ?_|refine Qd ?_|refine QV ?_|refine QU ?_|refine hK _ ?_;clear hK|clear hK;refine hK _ ?_;clear hK|refine Qi rfl ?_;simp only[↓reduceIte,QvT]
   simp only[QS,Qq,Qz,upd,↓reduceIte,QvV,QvZ];first|refine Qc (htake _ _) (.keep (.v _)) ⟨by rw[he],rfl⟩|refine Qc QwH (.keep (.v _)) ⟨by rw[he],rfl⟩
 ·rw[hI]
  refine⟨0,.empty,rfl,by omega,by rw[ByteArray.empty_append];rfl,rfl,rfl,rfl,rfl,rfl,[],?_⟩
  rw[Qnh]
  simp[bw];rfl
end
section
variable{X:Type}(f:X->AV)(tx:X->ByteArray)(fv:AV)
theorem QkC(h:AH):QT Tryz.prog 38 [.sl 3 [] none,fv] h fun o h'=>o = .ret (.v (.string .empty))/\h'=h:=by
 have c:=QbX (ty:=74) (i:=h.length) (h++[AB.dead]) (by simp)
 have e:hs (h++[AB.dead]) h.length (bw00 74)=h++[bw00 74]:=by simp[hs]
 rw[e,bw00]at c
 refine Qb Tryz.func38 rfl Tryz.call38 Tryz.ntmps38 Tryz.results38 (by simp) ?_
 iterate 8 (try (first|(((with_reducible refine Qa fun K E hK hE=>?_));simp only[Qh,Qe,Qk,OpW,aop,undef,AS.ev,Qg,Qu,QI,Qr,QG,QvW,AV.QuX,Qo,Qv9,Qwa,QM,Xi,Qwb,↓reduceIte,Qv2,Qv3,Nat.reduceAdd,Nat.reduceLT,Nat.reduceEqDiff,Qv1,aLen,QvR,goInt,QwB,un23,zi74])|(with_reducible (first|refine Qf fun K hK=>?_|refine Qj ?_))|((with_reducible refine hK _ ?_);clear hK)))
 obtain⟨I,hI⟩:∃I:Nat->AS->Prop,I=fun m' s=>m'=0/\s.tm 1=fv/\s.tm 5 = .ptr h.length 0 0/\s.tm 8 = .sl 3 [] none/\s.tm 9 = .i 0/\s.tm 10 = .i 0/\s.h=h++[.cells 74 2 [.agg [.v (.pointer none),.v (.slice none 0 0)]]]:=⟨_,rfl⟩;refine QZ I ?_ (m:=0) ?_
 ·intro m' s hs;rw[hI]at hs;obtain⟨tm,hp⟩:=s;dsimp only at hs;obtain⟨rfl,t1,t5,t8,t9,t10,rfl⟩:=hs
  have z:¬((0:Int)<0):=by decide
  with_reducible repeat first|(first|refine Qa fun K E hK hE=>?_|refine FunW.QuW c ?_);simp only[Qh,Qe,Qk,OpW,Q7,aop,AS.ev,Qg,Qr,↓reduceIte,Nat.reduceLT,Nat.reduceEqDiff,aBin,QvR,Qv4,Qv8,Q5,Qwm,t5,t9,t10,z]|refine Qf fun K hK=>?_|refine Qp ?_|refine Q3 ?_|refine Qd ?_|refine QV ?_|refine QU ?_|refine hK _ ?_;clear hK|clear hK;refine hK _ ?_;clear hK|refine Qi rfl ?_;simp only[↓reduceIte,QvT]
  simp only[QS,Qq,Qz,upd,↓reduceIte,QvV,QvZ];first|refine Qc (htake _ _) (.keep (.v _)) ⟨rfl,rfl⟩|refine Qc QwH (.keep (.v _)) ⟨rfl,rfl⟩
 ·rw[hI]
  exact⟨rfl,rfl,rfl,rfl,rfl,rfl,rfl⟩
theorem Qi6(hfc:∀x,(f x).isAgg=true/\(f x).cells.length=3/\(f x).cells.all AV.cell1=true)(l:List X)(hl:0<l.length)(hl2:l.length<=1000000)(h:AH)(hG:XE h)
  (ih:∀x∈l,∀h:AH,XE h->FunW Tryz.prog fv [f x] h fun o h'=>o = .ret (.v (.string (tx x)))/\h'=h)
  (h0:0<(X1 true (l.map tx)).size) (hs:(X1 true (l.map tx)).size<=140737488355328) :
  QT Tryz.prog 38 [.sl 3 (vs f l) none,fv] h fun o h'=>o = .ret (.v (.string (X1 true (l.map tx))))/\h'=h:=by
 have hi:h.length<(h++[AB.dead,AB.dead]).length:=by simp
 have hj:h.length+1<(h++[AB.dead,AB.dead]).length:=by simp
 have hle:(h++[AB.dead,AB.dead]).length=h.length+2:=by simp
 have f1:=fun u tx=>(Qk6 (h++[AB.dead,AB.dead]) h.length (h.length+1) u tx).trans hle
 have f3:∀u tx L k,(HS (h++[AB.dead,AB.dead]) h.length (h.length+1) u tx++L)[h.length+2+k]? = L[k]? := fun u tx L k=>by rw[<-hle];exact Qk7 _ _ _ u tx L k
 have f2:∀u tx L,(HS (h++[AB.dead,AB.dead]) h.length (h.length+1) u tx++L)[h.length+2]? = L[0]? := fun u tx L=>f3 u tx L 0
 have f5:∀u tx z L k,(HS (h++[AB.dead,AB.dead]) h.length (h.length+1) u tx++L).set (h.length+2+k) z=HS (h++[AB.dead,AB.dead]) h.length (h.length+1) u tx++L.set k z:=fun u tx z L k=>by rw[<-hle];exact Qho _ _ _ u tx z L k
 have f4:∀u tx z L,(HS (h++[AB.dead,AB.dead]) h.length (h.length+1) u tx++L).set (h.length+2) z=HS (h++[AB.dead,AB.dead]) h.length (h.length+1) u tx++L.set 0 z:=fun u tx z L=>f5 u tx z L 0
 have f6:=fun u tx L=>Qhn (h:=h++[AB.dead,AB.dead]) (i:=h.length) (j:=h.length+1) hi (by omega) u tx L
 have gapp:=fun u tx L=>Qk5 (h:=h++[AB.dead,AB.dead]) (i:=h.length) (j:=h.length+1) hi hj u tx L
 refine Qb Tryz.func38 rfl Tryz.call38 Tryz.ntmps38 Tryz.results38 (by simp) ?_
 iterate 8 (try (first|(((with_reducible refine Qa fun K E hK hE=>?_));simp only[Qh,Qe,Qk,OpW,aop,undef,AS.ev,Qg,Qu,QI,Qr,QG,QvW,AV.QuX,Qo,Qv9,Qwa,QM,Xi,Qwb,↓reduceIte,Qv2,Qv3,Nat.reduceAdd,Nat.reduceLT,Nat.reduceEqDiff,Qv1,aLen,QvR,goInt,un23,zi74,QN])|(with_reducible (first|refine Qf fun K hK=>?_|refine Qj ?_))|((with_reducible refine hK _ ?_);clear hK)))
 refine QaA h.length 74 5 (.pointer none) (by simp) ?_
 obtain⟨I,hI⟩:∃I:Nat->AS->Prop,I=fun m' s=>∃(k:Nat) (cur:ByteArray),m'=l.length - k/\k<=l.length/\cur++X1 (decide (k=0)) ((l.drop k).map tx)=X1 true (l.map tx)/\s.tm 1=fv/\s.tm 5 = .ptr h.length 0 0/\s.tm 8 = .sl 3 (vs f l) none/\s.tm 9 = .i l.length/\s.tm 10 = .i k/\(∃L,s.h=HS (h++[AB.dead,AB.dead]) h.length (h.length+1) (decide (0<k)) cur++L):=⟨_,rfl⟩;refine QZ I ?_ (m:=l.length) ?_
 ·intro m' s hs;rw[hI]at hs;obtain⟨tm,hp⟩:=s;dsimp only at hs;obtain⟨k,cur,rfl,hk,he,t1,t5,t8,t9,t10,L,rfl⟩:=hs
  by_cases hlt:k<l.length
  ·have hg:=QaK f hlt
   have z1:(k:Int)<l.length:=by omega
   obtain⟨hag,hcl,hc1⟩:=hfc l[k]
   have hsz:cur.size+(X1 (decide (k=0)) ((l.drop k).map tx)).size=(X1 true (l.map tx)).size:=by rw[<-Qs,he]
   have hd:(l.drop k).map tx=tx (l[k])::(l.drop (k+1)).map tx:=by rw[QwU hlt];rfl
   have hcm:ZB.size=2:=rfl
   rw[hd,X1,Qs]at hsz
   rw[hd,X1]at he
   have glen:∀L:AH,h.length<(h++[AB.dead,AB.dead]++L).length/\h.length+1<(h++[AB.dead,AB.dead]++L).length:=fun L=>by rw[QwG];omega
   have hG':=fun u tx L=>HasG.app (Qit hG [AB.dead,AB.dead] rfl u tx) L
   by_cases hk0:k=0
   ·rw[Qw7 hk0,QwN rfl]at hsz he
    have z2:¬(k:Int)>0:=by omega
    have c2:=ih l[k] (Qxk hlt) (HS (h++[AB.dead,AB.dead]) h.length (h.length+1) (decide (0<k)) cur++(L++[AB.cells 53 3 [f l[k]]])) (hG' _ _ _)
    have c1:=sstr (h:=h++[AB.dead,AB.dead]++(L++[AB.cells 53 3 [f l[k]]])) (glen _).1 (glen _).2 (by omega) (decide (0<k)) cur (tx (l[k])) (by omega)
    rw[gapp,gapp]at c1
    with_reducible repeat first|(first|refine Qa fun K E hK hE=>?_|refine Ql fun K E hK hE=>?_|refine FunW.ret c2 ?_|refine FunW.QuW c1 ?_);simp only[Qh,Qe,Qk,OpW,Q7,aop,undef,AS.ev,Qg,QX,Qu,Qr,AV.QuX,Qo,QD,Qv9,Qwa,QE,QA,QM,Qwb,↓reduceIte,Qv2,Qv3,Nat.reduceAdd,Nat.reduceLT,Nat.reduceEqDiff,Qv1,Qwn,QQ,QR,Xf,QY,QJ,aBin,Q8,Yd,hlen,happ,QvP,Qwj,QvR,Qv4,Qv8,Q5,Xw,Yc,Qwl,Qwm,Qws,Qwr,ei23,ti53,zi53,t1,t5,t8,t9,t10,z1,z2,hg,hcl,hag,hc1,f1,f3,f5,QN]|refine Qf fun K hK=>?_|refine Qj ?_|refine Qw ?_|refine Qd ?_|refine Qt ?_|refine hK _ ?_;clear hK|refine Qi rfl ?_;simp only[↓reduceIte,QvT]
    refine Xo.mk (m':=l.length - (k+1)) (by omega) ?_
    rw[hI]
    refine⟨k+1,cur++tx (l[k]),rfl,hlt,?_,t1,t5,t8,t9,?_,_,rfl⟩
    ·rw[QwY (Nat.succ_ne_zero k),ByteArray.append_assoc];exact he
    ·simp only[upd,↓reduceIte]
     rw[Xe (by omega)]
   ·rw[QwY hk0,QwJ (by decide),Qs]at hsz
    rw[QwY hk0,QwJ (by decide)]at he
    have z2:(k:Int)>0:=by omega
    have c0:=sstr (h:=h++[AB.dead,AB.dead]++(L++[AB.cells 53 3 [f l[k]]])) (glen _).1 (glen _).2 (by omega) (decide (0<k)) cur ZB (by omega)
    rw[gapp,gapp]at c0
    have c2:=ih l[k] (Qxk hlt) (HS (h++[AB.dead,AB.dead]) h.length (h.length+1) true (cur++ZB)++(L++[AB.cells 53 3 [f l[k]]])) (hG' _ _ _)
    have c1:=sstr (h:=h++[AB.dead,AB.dead]++(L++[AB.cells 53 3 [f l[k]]])) (glen _).1 (glen _).2 (by omega) true (cur++ZB) (tx (l[k])) (by rw[Qs];omega)
    rw[gapp,gapp]at c1
    with_reducible repeat first|(first|refine Qa fun K E hK hE=>?_|refine Ql fun K E hK hE=>?_|refine FunW.ret c2 ?_|refine FunW.QuW c1 ?_|refine FunW.QuW c0 ?_);simp only[Qh,Qe,Qk,OpW,Q7,aop,undef,AS.ev,Qg,QX,Qu,QI,Qr,AV.QuX,Qo,QD,Qv9,Qwa,QE,QA,QM,Qwb,↓reduceIte,Qv2,Qv3,Nat.reduceAdd,Nat.reduceLT,Nat.reduceEqDiff,Qv1,Qwn,QQ,QR,Xf,QY,QJ,aBin,Q8,Yd,hlen,happ,QvP,Qwj,QvR,Qv4,Qv8,Q5,Xw,Yc,Qwl,Qws,Qwr,ei23,ti53,zi53,t1,t5,t8,t9,t10,z1,z2,hg,hcl,hag,hc1,f1,f3,f5,QN]|refine Qf fun K hK=>?_|refine Qj ?_|refine Qw ?_|refine Qd ?_|refine Qt ?_|refine hK _ ?_;clear hK|refine Qi rfl ?_;simp only[↓reduceIte]
    refine Xo.mk (m':=l.length - (k+1)) (by omega) ?_
    rw[hI]
    refine⟨k+1,(cur++ZB)++tx (l[k]),rfl,hlt,?_,t1,t5,t8,t9,?_,_,rfl⟩
    ·rw[QwY (Nat.succ_ne_zero k)];simp only[ByteArray.append_assoc]at he ⊢;exact he
    ·simp only[upd,↓reduceIte]
     rw[Xe (by omega)]
  ·have hkn:k=l.length:=by omega
   subst hkn
   have z1:¬((l.length:Nat):Int)<l.length:=by omega
   rw[Qxb,List.map_nil,X1,ByteArray.append_empty]at he
   rw[Qw7 hl]
   rw[<-he]at h0 hs
   have c:=Qef h L cur h0 hs
   with_reducible repeat first|(first|refine Qa fun K E hK hE=>?_|refine FunW.QuW c ?_);simp only[Qh,Qe,Qk,OpW,Q7,aop,AS.ev,Qg,Qr,↓reduceIte,Nat.reduceLT,Nat.reduceEqDiff,aBin,QvR,Qv4,Qv8,Qwh,Qwg,Q5,Qwm,t5,t9,t10,z1]|refine Qf fun K hK=>?_|refine Qp ?_|refine Q3 ?_|refine Qd ?_|refine QV ?_|refine QU ?_|refine hK _ ?_;clear hK|clear hK;refine hK _ ?_;clear hK|refine Qi rfl ?_;simp only[↓reduceIte,QvT]
   simp only[QS,Qq,Qz,upd,↓reduceIte,QvV,QvZ];first|refine Qc (htake _ _) (.keep (.v _)) ⟨by rw[he],rfl⟩|refine Qc QwH (.keep (.v _)) ⟨by rw[he],rfl⟩
 ·rw[hI]
  refine⟨0,.empty,rfl,by omega,by rw[ByteArray.empty_append];rfl,rfl,rfl,rfl,rfl,rfl,[],?_⟩
  rw[Qnh]
  simp[bw];rfl
end
section
variable{X:Type}(f:X->AV)(tx:X->ByteArray)(fv:AV)
theorem QkB(h:AH):QT Tryz.prog 56 [.sl 2 [] none,fv] h fun o h'=>o = .ret (.v (.string .empty))/\h'=h:=by
 have c:=QbX (ty:=74) (i:=h.length) (h++[AB.dead]) (by simp)
 have e:hs (h++[AB.dead]) h.length (bw00 74)=h++[bw00 74]:=by simp[hs]
 rw[e,bw00]at c
 refine Qb Tryz.func56 rfl Tryz.call56 Tryz.ntmps56 Tryz.results56 (by simp) ?_
 iterate 8 (try (first|(((with_reducible refine Qa fun K E hK hE=>?_));simp only[Qh,Qe,Qk,OpW,aop,undef,AS.ev,Qg,Qu,QI,Qr,QG,QvW,AV.QuX,Qo,Qv9,Qwa,QM,Xi,Qwb,↓reduceIte,Qv2,Qv3,Nat.reduceAdd,Nat.reduceLT,Nat.reduceEqDiff,Qv1,aLen,QvR,goInt,QwB,un33,zi74])|(with_reducible (first|refine Qf fun K hK=>?_|refine Qj ?_))|((with_reducible refine hK _ ?_);clear hK)))
 obtain⟨I,hI⟩:∃I:Nat->AS->Prop,I=fun m' s=>m'=0/\s.tm 1=fv/\s.tm 5 = .ptr h.length 0 0/\s.tm 8 = .sl 2 [] none/\s.tm 9 = .i 0/\s.tm 10 = .i 0/\s.h=h++[.cells 74 2 [.agg [.v (.pointer none),.v (.slice none 0 0)]]]:=⟨_,rfl⟩;refine QZ I ?_ (m:=0) ?_
 ·intro m' s hs;rw[hI]at hs;obtain⟨tm,hp⟩:=s;dsimp only at hs;obtain⟨rfl,t1,t5,t8,t9,t10,rfl⟩:=hs
  have z:¬((0:Int)<0):=by decide
  with_reducible repeat first|(first|refine Qa fun K E hK hE=>?_|refine FunW.QuW c ?_);simp only[Qh,Qe,Qk,OpW,Q7,aop,AS.ev,Qg,Qr,↓reduceIte,Nat.reduceLT,Nat.reduceEqDiff,aBin,QvR,Qv4,Qv8,Q5,Qwm,t5,t9,t10,z]|refine Qf fun K hK=>?_|refine Qp ?_|refine Q3 ?_|refine Qd ?_|refine QV ?_|refine QU ?_|refine hK _ ?_;clear hK|clear hK;refine hK _ ?_;clear hK|refine Qi rfl ?_;simp only[↓reduceIte,QvT]
  simp only[QS,Qq,Qz,upd,↓reduceIte,QvV,QvZ];first|refine Qc (htake _ _) (.keep (.v _)) ⟨rfl,rfl⟩|refine Qc QwH (.keep (.v _)) ⟨rfl,rfl⟩
 ·rw[hI]
  exact⟨rfl,rfl,rfl,rfl,rfl,rfl,rfl⟩
theorem Qi5(hfc:∀x,(f x).isAgg=true/\(f x).cells.length=2/\(f x).cells.all AV.cell1=true)(l:List X)(hl:0<l.length)(hl2:l.length<=1000000)(h:AH)(hG:XE h)
  (ih:∀x∈l,∀h:AH,XE h->FunW Tryz.prog fv [f x] h fun o h'=>o = .ret (.v (.string (tx x)))/\h'=h)
  (h0:0<(X1 true (l.map tx)).size) (hs:(X1 true (l.map tx)).size<=140737488355328) :
  QT Tryz.prog 56 [.sl 2 (vs f l) none,fv] h fun o h'=>o = .ret (.v (.string (X1 true (l.map tx))))/\h'=h:=by
 have hi:h.length<(h++[AB.dead,AB.dead]).length:=by simp
 have hj:h.length+1<(h++[AB.dead,AB.dead]).length:=by simp
 have hle:(h++[AB.dead,AB.dead]).length=h.length+2:=by simp
 have f1:=fun u tx=>(Qk6 (h++[AB.dead,AB.dead]) h.length (h.length+1) u tx).trans hle
 have f3:∀u tx L k,(HS (h++[AB.dead,AB.dead]) h.length (h.length+1) u tx++L)[h.length+2+k]? = L[k]? := fun u tx L k=>by rw[<-hle];exact Qk7 _ _ _ u tx L k
 have f2:∀u tx L,(HS (h++[AB.dead,AB.dead]) h.length (h.length+1) u tx++L)[h.length+2]? = L[0]? := fun u tx L=>f3 u tx L 0
 have f5:∀u tx z L k,(HS (h++[AB.dead,AB.dead]) h.length (h.length+1) u tx++L).set (h.length+2+k) z=HS (h++[AB.dead,AB.dead]) h.length (h.length+1) u tx++L.set k z:=fun u tx z L k=>by rw[<-hle];exact Qho _ _ _ u tx z L k
 have f4:∀u tx z L,(HS (h++[AB.dead,AB.dead]) h.length (h.length+1) u tx++L).set (h.length+2) z=HS (h++[AB.dead,AB.dead]) h.length (h.length+1) u tx++L.set 0 z:=fun u tx z L=>f5 u tx z L 0
 have f6:=fun u tx L=>Qhn (h:=h++[AB.dead,AB.dead]) (i:=h.length) (j:=h.length+1) hi (by omega) u tx L
 have gapp:=fun u tx L=>Qk5 (h:=h++[AB.dead,AB.dead]) (i:=h.length) (j:=h.length+1) hi hj u tx L
 refine Qb Tryz.func56 rfl Tryz.call56 Tryz.ntmps56 Tryz.results56 (by simp) ?_
 iterate 8 (try (first|(((with_reducible refine Qa fun K E hK hE=>?_));simp only[Qh,Qe,Qk,OpW,aop,undef,AS.ev,Qg,Qu,QI,Qr,QG,QvW,AV.QuX,Qo,Qv9,Qwa,QM,Xi,Qwb,↓reduceIte,Qv2,Qv3,Nat.reduceAdd,Nat.reduceLT,Nat.reduceEqDiff,Qv1,aLen,QvR,goInt,un33,zi74,QN])|(with_reducible (first|refine Qf fun K hK=>?_|refine Qj ?_))|((with_reducible refine hK _ ?_);clear hK)))
 refine QaA h.length 74 5 (.pointer none) (by simp) ?_
 obtain⟨I,hI⟩:∃I:Nat->AS->Prop,I=fun m' s=>∃(k:Nat) (cur:ByteArray),m'=l.length - k/\k<=l.length/\cur++X1 (decide (k=0)) ((l.drop k).map tx)=X1 true (l.map tx)/\s.tm 1=fv/\s.tm 5 = .ptr h.length 0 0/\s.tm 8 = .sl 2 (vs f l) none/\s.tm 9 = .i l.length/\s.tm 10 = .i k/\(∃L,s.h=HS (h++[AB.dead,AB.dead]) h.length (h.length+1) (decide (0<k)) cur++L):=⟨_,rfl⟩;refine QZ I ?_ (m:=l.length) ?_
 ·intro m' s hs;rw[hI]at hs;obtain⟨tm,hp⟩:=s;dsimp only at hs;obtain⟨k,cur,rfl,hk,he,t1,t5,t8,t9,t10,L,rfl⟩:=hs
  by_cases hlt:k<l.length
  ·have hg:=QaK f hlt
   have z1:(k:Int)<l.length:=by omega
   obtain⟨hag,hcl,hc1⟩:=hfc l[k]
   have hsz:cur.size+(X1 (decide (k=0)) ((l.drop k).map tx)).size=(X1 true (l.map tx)).size:=by rw[<-Qs,he]
   have hd:(l.drop k).map tx=tx (l[k])::(l.drop (k+1)).map tx:=by rw[QwU hlt];rfl
   have hcm:ZB.size=2:=rfl
   rw[hd,X1,Qs]at hsz
   rw[hd,X1]at he
   have glen:∀L:AH,h.length<(h++[AB.dead,AB.dead]++L).length/\h.length+1<(h++[AB.dead,AB.dead]++L).length:=fun L=>by rw[QwG];omega
   have hG':=fun u tx L=>HasG.app (Qit hG [AB.dead,AB.dead] rfl u tx) L
   by_cases hk0:k=0
   ·rw[Qw7 hk0,QwN rfl]at hsz he
    have z2:¬(k:Int)>0:=by omega
    have c2:=ih l[k] (Qxk hlt) (HS (h++[AB.dead,AB.dead]) h.length (h.length+1) (decide (0<k)) cur++(L++[AB.cells 38 2 [f l[k]]])) (hG' _ _ _)
    have c1:=sstr (h:=h++[AB.dead,AB.dead]++(L++[AB.cells 38 2 [f l[k]]])) (glen _).1 (glen _).2 (by omega) (decide (0<k)) cur (tx (l[k])) (by omega)
    rw[gapp,gapp]at c1
    with_reducible repeat first|(first|refine Qa fun K E hK hE=>?_|refine Ql fun K E hK hE=>?_|refine FunW.ret c2 ?_|refine FunW.QuW c1 ?_);simp only[Qh,Qe,Qk,OpW,Q7,aop,undef,AS.ev,Qg,QX,Qu,Qr,AV.QuX,Qo,QD,Qv9,Qwa,QE,QA,Qwb,↓reduceIte,Qv2,Qv3,Nat.reduceAdd,Nat.reduceLT,Nat.reduceEqDiff,Qv1,Qwn,QQ,QR,Xf,QY,QJ,aBin,Q8,Yd,hlen,happ,QvP,Qwj,QvR,Qv4,Qv8,Q5,Xw,Yc,Qwl,Qwm,Qws,Qwr,ei33,ti38,zi38,t1,t5,t8,t9,t10,z1,z2,hg,hcl,hag,hc1,f1,f3,f5,QN]|refine Qf fun K hK=>?_|refine Qj ?_|refine Qw ?_|refine Qd ?_|refine Qt ?_|refine hK _ ?_;clear hK|refine Qi rfl ?_;simp only[↓reduceIte,QvT]
    refine Xo.mk (m':=l.length - (k+1)) (by omega) ?_
    rw[hI]
    refine⟨k+1,cur++tx (l[k]),rfl,hlt,?_,t1,t5,t8,t9,?_,_,rfl⟩
    ·rw[QwY (Nat.succ_ne_zero k),ByteArray.append_assoc];exact he
    ·simp only[upd,↓reduceIte]
     rw[Xe (by omega)]
   ·rw[QwY hk0,QwJ (by decide),Qs]at hsz
    rw[QwY hk0,QwJ (by decide)]at he
    have z2:(k:Int)>0:=by omega
    have c0:=sstr (h:=h++[AB.dead,AB.dead]++(L++[AB.cells 38 2 [f l[k]]])) (glen _).1 (glen _).2 (by omega) (decide (0<k)) cur ZB (by omega)
    rw[gapp,gapp]at c0
    have c2:=ih l[k] (Qxk hlt) (HS (h++[AB.dead,AB.dead]) h.length (h.length+1) true (cur++ZB)++(L++[AB.cells 38 2 [f l[k]]])) (hG' _ _ _)
    have c1:=sstr (h:=h++[AB.dead,AB.dead]++(L++[AB.cells 38 2 [f l[k]]])) (glen _).1 (glen _).2 (by omega) true (cur++ZB) (tx (l[k])) (by rw[Qs];omega)
    rw[gapp,gapp]at c1
    with_reducible repeat first|(first|refine Qa fun K E hK hE=>?_|refine Ql fun K E hK hE=>?_|refine FunW.ret c2 ?_|refine FunW.QuW c1 ?_|refine FunW.QuW c0 ?_);simp only[Qh,Qe,Qk,OpW,Q7,aop,undef,AS.ev,Qg,QX,Qu,QI,Qr,AV.QuX,Qo,QD,Qv9,Qwa,QE,QA,Qwb,↓reduceIte,Qv2,Qv3,Nat.reduceAdd,Nat.reduceLT,Nat.reduceEqDiff,Qv1,Qwn,QQ,QR,Xf,QY,QJ,aBin,Q8,Yd,hlen,happ,QvP,Qwj,QvR,Qv4,Qv8,Q5,Xw,Yc,Qwl,Qws,Qwr,ei33,ti38,zi38,t1,t5,t8,t9,t10,z1,z2,hg,hcl,hag,hc1,f1,f3,f5,QN]|refine Qf fun K hK=>?_|refine Qj ?_|refine Qw ?_|refine Qd ?_|refine Qt ?_|refine hK _ ?_;clear hK|refine Qi rfl ?_;simp only[↓reduceIte]
    refine Xo.mk (m':=l.length - (k+1)) (by omega) ?_
    rw[hI]
    refine⟨k+1,(cur++ZB)++tx (l[k]),rfl,hlt,?_,t1,t5,t8,t9,?_,_,rfl⟩
    ·rw[QwY (Nat.succ_ne_zero k)];simp only[ByteArray.append_assoc]at he ⊢;exact he
    ·simp only[upd,↓reduceIte]
     rw[Xe (by omega)]
  ·have hkn:k=l.length:=by omega
   subst hkn
   have z1:¬((l.length:Nat):Int)<l.length:=by omega
   rw[Qxb,List.map_nil,X1,ByteArray.append_empty]at he
   rw[Qw7 hl]
   rw[<-he]at h0 hs
   have c:=Qef h L cur h0 hs
   with_reducible repeat first|(first|refine Qa fun K E hK hE=>?_|refine FunW.QuW c ?_);simp only[Qh,Qe,Qk,OpW,Q7,aop,AS.ev,Qg,Qr,↓reduceIte,Nat.reduceLT,Nat.reduceEqDiff,aBin,QvR,Qv4,Qv8,Qwh,Qwg,Q5,Qwm,t5,t9,t10,z1]|refine Qf fun K hK=>?_|refine Qp ?_|refine Q3 ?_|refine Qd ?_|refine QV ?_|refine QU ?_|refine hK _ ?_;clear hK|clear hK;refine hK _ ?_;clear hK|refine Qi rfl ?_;simp only[↓reduceIte,QvT]
   simp only[QS,Qq,Qz,upd,↓reduceIte,QvV,QvZ];first|refine Qc (htake _ _) (.keep (.v _)) ⟨by rw[he],rfl⟩|refine Qc QwH (.keep (.v _)) ⟨by rw[he],rfl⟩
 ·rw[hI]
  refine⟨0,.empty,rfl,by omega,by rw[ByteArray.empty_append];rfl,rfl,rfl,rfl,rfl,rfl,[],?_⟩
  rw[Qnh]
  simp[bw];rfl
end
end Go.Proofs.YtenheconhibonaaGreatDoor.Ab
namespace Go.Proofs.YtenheconhibonaaGreatDoor.Ab
open Go.Proofs
section
variable{X:Type}(f:X->AV)(p:X->Bool)(fv:AV)
theorem Qiz(hfc:∀x,(f x).isAgg=true/\(f x).cells.length=2/\(f x).cells.all AV.cell1=true)(l:List X)(hl2:l.length<=1000000)(h:AH)
  (ih:∀x∈l,∀h:AH,FunW Tryz.prog fv [f x] h fun o h'=>o = .ret (.b (p x))/\h'=h) :
  QT Tryz.prog 79 [.sl 2 (vs f l) none,fv] h fun o h'=>o = .ret (.b (l.all p))/\h'=h:=by
 refine Qb Tryz.func79 rfl Tryz.call79 Tryz.ntmps79 Tryz.results79 (by simp) ?_
 with_reducible repeat first|refine Qa fun K E hK hE=>?_;simp only[Qh,Qe,Qk,OpW,aop,undef,AS.ev,Qg,Qu,QC,Qr,QG,QvW,↓reduceIte,Nat.reduceLT,Nat.reduceEqDiff,aLen,QvR,goInt,un22,QN]|refine Qf fun K hK=>?_|refine Qj ?_|refine hK _ ?_;clear hK
 obtain⟨I,hI⟩:∃I:Nat->AS->Prop,I=fun m' s=>∃(k:Nat),m'=l.length - k/\k<=l.length/\l.all p=(l.drop k).all p/\s.tm 1=fv/\s.tm 7 = .sl 2 (vs f l) none/\s.tm 8 = .i l.length/\s.tm 9 = .i k/\(∃L,s.h=h++L):=⟨_,rfl⟩;refine QZ I ?_ (m:=l.length) ?_
 ·intro m' s hs;rw[hI]at hs;obtain⟨tm,hp⟩:=s;dsimp only at hs;obtain⟨k,rfl,hk,he,t1,t7,t8,t9,L,rfl⟩:=hs
  by_cases hlt:k<l.length
  ·have hg:=QaK f hlt
   have z1:(k:Int)<l.length:=by omega
   obtain⟨hag,hcl,hc1⟩:=hfc l[k]
   have c2:=ih l[k] (Qxk hlt) (h++(L++[AB.cells 66 2 [f l[k]]]))
   rw[QwU hlt,List.all_cons]at he
   cases hp1:p l[k]with
   |true =>
    rw[hp1]at c2 he
    with_reducible repeat first|(first|refine Qa fun K E hK hE=>?_|refine Ql fun K E hK hE=>?_|refine FunW.ret c2 ?_);simp only[Qh,Qe,Qk,OpW,Q7,aop,undef,AS.ev,Qg,QX,Qu,Qr,AV.QuX,Qo,QD,Qv9,Qwa,QA,QM,Qwb,Qwc,↓reduceIte,Qv2,Qv3,Nat.reduceAdd,Nat.reduceLT,Nat.reduceEqDiff,Qv1,Qwn,QQ,QR,Xf,QY,QJ,aBin,Q8,hget,Yd,hset,hlen,happ,QvP,Qwj,QvR,Qv4,Qv8,Q5,Yc,Ya,Qwl,Qws,Qwr,ei22,ti66,zi66,t1,t7,t8,t9,z1,hg,hcl,hag,hc1,QN]|refine Qf fun K hK=>?_|refine Qj ?_|refine Qw ?_|refine Qd ?_|refine Qt ?_|refine hK _ ?_;clear hK|refine Qi rfl ?_;simp only[↓reduceIte,QvT]
    refine Xo.mk (m':=l.length - (k+1)) (by omega) ?_
    rw[hI]
    refine⟨k+1,rfl,hlt,by rw[he,Qwz],t1,t7,t8,?_,_,rfl⟩
    simp only[upd,↓reduceIte]
    rw[Xe (by omega)]
   |false =>
    rw[hp1]at c2 he
    with_reducible repeat first|(first|refine Qa fun K E hK hE=>?_|refine FunW.ret c2 ?_);simp only[Qh,Qe,Qk,OpW,Q7,aop,undef,AS.ev,Qg,QX,QC,Qr,AV.QuX,Qo,QD,Qv9,Qwa,QA,QM,Qwb,Qwd,↓reduceIte,Qv2,Qv3,Nat.reduceAdd,Nat.reduceLT,Nat.reduceEqDiff,Qv1,Qwn,QQ,QR,Xf,QY,QJ,aBin,Q8,hget,Yd,hset,hlen,happ,QvP,Qwj,QvR,Qv4,Qv8,Q5,Ya,Qwl,Qws,Qwr,ei22,ti66,zi66,t1,t7,t8,t9,z1,hg,hcl,hag,hc1,QN]|refine Qf fun K hK=>?_|refine Qj ?_|refine Qp ?_|refine Qw ?_|refine Qd ?_|refine QB ?_|refine QF ?_|refine hK _ ?_;clear hK|refine Qi rfl ?_;simp only[↓reduceIte]
    simp only[QS,Qq,Qz,upd,↓reduceIte,QvV,QvZ];first|refine Qc (htake _ _) (.keep (.v _)) ⟨by rw[he,Qx4],rfl⟩|refine Qc QwH (.keep (.v _)) ⟨by rw[he,Qx4],rfl⟩
  ·have hkn:k=l.length:=by omega
   subst hkn
   have z1:¬((l.length:Nat):Int)<l.length:=by omega
   rw[Qxb]at he
   with_reducible repeat first|refine Qa fun K E hK hE=>?_;simp only[Qh,Qe,Qk,OpW,aop,AS.ev,Qg,QC,Nat.reduceLT,aBin,QvR,Q5,Qwm,t8,t9,z1]|refine Qf fun K hK=>?_|refine Qp ?_|refine Q3 ?_|refine Qd ?_|refine QV ?_|refine QU ?_|refine hK _ ?_;clear hK|clear hK;refine hK _ ?_;clear hK|refine Qi rfl ?_;simp only[↓reduceIte,QvT]
   simp only[QS,Qq,Qz,upd,↓reduceIte,QvV,QvZ];first|refine Qc (htake _ _) (.keep (.v _)) ⟨by rw[he];rfl,rfl⟩|refine Qc QwH (.keep (.v _)) ⟨by rw[he];rfl,rfl⟩
 ·rw[hI]
  exact⟨0,rfl,by omega,rfl,rfl,rfl,rfl,rfl,[],(Qwi _).symm⟩
end
section
variable{X:Type}(f:X->AV)(p:X->Bool)(fv:AV)
theorem Qfe(hfc:∀x,(f x).isAgg=true/\(f x).cells.length=3/\(f x).cells.all AV.cell1=true)(l:List X)(hl2:l.length<=1000000)(h:AH)
  (ih:∀x∈l,∀h:AH,FunW Tryz.prog fv [f x] h fun o h'=>o = .ret (.b (p x))/\h'=h) :
  QT Tryz.prog 60 [.sl 3 (vs f l) none,fv] h fun o h'=>o = .ret (.b (l.all p))/\h'=h:=by
 refine Qb Tryz.func60 rfl Tryz.call60 Tryz.ntmps60 Tryz.results60 (by simp) ?_
 with_reducible repeat first|refine Qa fun K E hK hE=>?_;simp only[Qh,Qe,Qk,OpW,aop,undef,AS.ev,Qg,Qu,QC,Qr,QG,QvW,↓reduceIte,Nat.reduceLT,Nat.reduceEqDiff,aLen,QvR,goInt,un23,QN]|refine Qf fun K hK=>?_|refine Qj ?_|refine hK _ ?_;clear hK
 obtain⟨I,hI⟩:∃I:Nat->AS->Prop,I=fun m' s=>∃(k:Nat),m'=l.length - k/\k<=l.length/\l.all p=(l.drop k).all p/\s.tm 1=fv/\s.tm 7 = .sl 3 (vs f l) none/\s.tm 8 = .i l.length/\s.tm 9 = .i k/\(∃L,s.h=h++L):=⟨_,rfl⟩;refine QZ I ?_ (m:=l.length) ?_
 ·intro m' s hs;rw[hI]at hs;obtain⟨tm,hp⟩:=s;dsimp only at hs;obtain⟨k,rfl,hk,he,t1,t7,t8,t9,L,rfl⟩:=hs
  by_cases hlt:k<l.length
  ·have hg:=QaK f hlt
   have z1:(k:Int)<l.length:=by omega
   obtain⟨hag,hcl,hc1⟩:=hfc l[k]
   have c2:=ih l[k] (Qxk hlt) (h++(L++[AB.cells 53 3 [f l[k]]]))
   rw[QwU hlt,List.all_cons]at he
   cases hp1:p l[k]with
   |true =>
    rw[hp1]at c2 he
    with_reducible repeat first|(first|refine Qa fun K E hK hE=>?_|refine Ql fun K E hK hE=>?_|refine FunW.ret c2 ?_);simp only[Qh,Qe,Qk,OpW,Q7,aop,undef,AS.ev,Qg,QX,Qu,Qr,AV.QuX,Qo,QD,Qv9,Qwa,QE,QA,QM,Qwb,Qwc,↓reduceIte,Qv2,Qv3,Nat.reduceAdd,Nat.reduceLT,Nat.reduceEqDiff,Qv1,Qwn,QQ,QR,Xf,QY,QJ,aBin,Q8,hget,Yd,hset,hlen,happ,QvP,Qwj,QvR,Qv4,Qv8,Q5,Yc,Ya,Qwl,Qws,Qwr,ei23,ti53,zi53,t1,t7,t8,t9,z1,hg,hcl,hag,hc1,QN]|refine Qf fun K hK=>?_|refine Qj ?_|refine Qw ?_|refine Qd ?_|refine Qt ?_|refine hK _ ?_;clear hK|refine Qi rfl ?_;simp only[↓reduceIte,QvT]
    refine Xo.mk (m':=l.length - (k+1)) (by omega) ?_
    rw[hI]
    refine⟨k+1,rfl,hlt,by rw[he,Qwz],t1,t7,t8,?_,_,rfl⟩
    simp only[upd,↓reduceIte]
    rw[Xe (by omega)]
   |false =>
    rw[hp1]at c2 he
    with_reducible repeat first|(first|refine Qa fun K E hK hE=>?_|refine FunW.ret c2 ?_);simp only[Qh,Qe,Qk,OpW,Q7,aop,undef,AS.ev,Qg,QX,QC,Qr,AV.QuX,Qo,QD,Qv9,Qwa,QE,QA,QM,Qwb,Qwd,↓reduceIte,Qv2,Qv3,Nat.reduceAdd,Nat.reduceLT,Nat.reduceEqDiff,Qv1,Qwn,QQ,QR,Xf,QY,QJ,aBin,Q8,hget,Yd,hset,hlen,happ,QvP,Qwj,QvR,Qv4,Qv8,Q5,Ya,Qwl,Qws,Qwr,ei23,ti53,zi53,t1,t7,t8,t9,z1,hg,hcl,hag,hc1,QN]|refine Qf fun K hK=>?_|refine Qj ?_|refine Qp ?_|refine Qw ?_|refine Qd ?_|refine QB ?_|refine QF ?_|refine hK _ ?_;clear hK|refine Qi rfl ?_;simp only[↓reduceIte]
    simp only[QS,Qq,Qz,upd,↓reduceIte,QvV,QvZ];first|refine Qc (htake _ _) (.keep (.v _)) ⟨by rw[he,Qx4],rfl⟩|refine Qc QwH (.keep (.v _)) ⟨by rw[he,Qx4],rfl⟩
  ·have hkn:k=l.length:=by omega
   subst hkn
   have z1:¬((l.length:Nat):Int)<l.length:=by omega
   rw[Qxb]at he
   with_reducible repeat first|refine Qa fun K E hK hE=>?_;simp only[Qh,Qe,Qk,OpW,aop,AS.ev,Qg,QC,Nat.reduceLT,aBin,QvR,Q5,Qwm,t8,t9,z1]|refine Qf fun K hK=>?_|refine Qp ?_|refine Q3 ?_|refine Qd ?_|refine QV ?_|refine QU ?_|refine hK _ ?_;clear hK|clear hK;refine hK _ ?_;clear hK|refine Qi rfl ?_;simp only[↓reduceIte,QvT]
   simp only[QS,Qq,Qz,upd,↓reduceIte,QvV,QvZ];first|refine Qc (htake _ _) (.keep (.v _)) ⟨by rw[he];rfl,rfl⟩|refine Qc QwH (.keep (.v _)) ⟨by rw[he];rfl,rfl⟩
 ·rw[hI]
  exact⟨0,rfl,by omega,rfl,rfl,rfl,rfl,rfl,[],(Qwi _).symm⟩
end
section
variable{X:Type}(f:X->AV)(p:X->Bool)(fv:AV)
theorem Qnm(hfc:∀x,(f x).isAgg=true/\(f x).cells.length=2/\(f x).cells.all AV.cell1=true)(l:List X)(hl2:l.length<=1000000)(h:AH)
  (ih:∀x∈l,∀h:AH,FunW Tryz.prog fv [f x] h fun o h'=>o = .ret (.b (p x))/\h'=h) :
  QT Tryz.prog 53 [.sl 2 (vs f l) none,fv] h fun o h'=>o = .ret (.b (l.all p))/\h'=h:=by
 refine Qb Tryz.func53 rfl Tryz.call53 Tryz.ntmps53 Tryz.results53 (by simp) ?_
 with_reducible repeat first|refine Qa fun K E hK hE=>?_;simp only[Qh,Qe,Qk,OpW,aop,undef,AS.ev,Qg,Qu,QC,Qr,QG,QvW,↓reduceIte,Nat.reduceLT,Nat.reduceEqDiff,aLen,QvR,goInt,un33,QN]|refine Qf fun K hK=>?_|refine Qj ?_|refine hK _ ?_;clear hK
 obtain⟨I,hI⟩:∃I:Nat->AS->Prop,I=fun m' s=>∃(k:Nat),m'=l.length - k/\k<=l.length/\l.all p=(l.drop k).all p/\s.tm 1=fv/\s.tm 7 = .sl 2 (vs f l) none/\s.tm 8 = .i l.length/\s.tm 9 = .i k/\(∃L,s.h=h++L):=⟨_,rfl⟩;refine QZ I ?_ (m:=l.length) ?_
 ·intro m' s hs;rw[hI]at hs;obtain⟨tm,hp⟩:=s;dsimp only at hs;obtain⟨k,rfl,hk,he,t1,t7,t8,t9,L,rfl⟩:=hs
  by_cases hlt:k<l.length
  ·have hg:=QaK f hlt
   have z1:(k:Int)<l.length:=by omega
   obtain⟨hag,hcl,hc1⟩:=hfc l[k]
   have c2:=ih l[k] (Qxk hlt) (h++(L++[AB.cells 38 2 [f l[k]]]))
   rw[QwU hlt,List.all_cons]at he
   cases hp1:p l[k]with
   |true =>
    rw[hp1]at c2 he
    with_reducible repeat first|(first|refine Qa fun K E hK hE=>?_|refine Ql fun K E hK hE=>?_|refine FunW.ret c2 ?_);simp only[Qh,Qe,Qk,OpW,Q7,aop,undef,AS.ev,Qg,QX,Qu,Qr,AV.QuX,Qo,QD,Qv9,Qwa,QE,QA,Qwb,Qwc,↓reduceIte,Qv2,Qv3,Nat.reduceAdd,Nat.reduceLT,Nat.reduceEqDiff,Qv1,Qwn,QQ,QR,Xf,QY,QJ,aBin,Q8,hget,Yd,hset,hlen,happ,QvP,Qwj,QvR,Qv4,Qv8,Q5,Yc,Ya,Qwl,Qws,Qwr,ei33,ti38,zi38,t1,t7,t8,t9,z1,hg,hcl,hag,hc1,QN]|refine Qf fun K hK=>?_|refine Qj ?_|refine Qw ?_|refine Qd ?_|refine Qt ?_|refine hK _ ?_;clear hK|refine Qi rfl ?_;simp only[↓reduceIte,QvT]
    refine Xo.mk (m':=l.length - (k+1)) (by omega) ?_
    rw[hI]
    refine⟨k+1,rfl,hlt,by rw[he,Qwz],t1,t7,t8,?_,_,rfl⟩
    simp only[upd,↓reduceIte]
    rw[Xe (by omega)]
   |false =>
    rw[hp1]at c2 he
    with_reducible repeat first|(first|refine Qa fun K E hK hE=>?_|refine FunW.ret c2 ?_);simp only[Qh,Qe,Qk,OpW,Q7,aop,undef,AS.ev,Qg,QX,QC,Qr,AV.QuX,Qo,QD,Qv9,Qwa,QE,QA,Qwb,Qwd,↓reduceIte,Qv2,Qv3,Nat.reduceAdd,Nat.reduceLT,Nat.reduceEqDiff,Qv1,Qwn,QQ,QR,Xf,QY,QJ,aBin,Q8,hget,Yd,hset,hlen,happ,QvP,Qwj,QvR,Qv4,Qv8,Q5,Ya,Qwl,Qws,Qwr,ei33,ti38,zi38,t1,t7,t8,t9,z1,hg,hcl,hag,hc1,QN]|refine Qf fun K hK=>?_|refine Qj ?_|refine Qp ?_|refine Qw ?_|refine Qd ?_|refine QB ?_|refine QF ?_|refine hK _ ?_;clear hK|refine Qi rfl ?_;simp only[↓reduceIte]
    simp only[QS,Qq,Qz,upd,↓reduceIte,QvV,QvZ];first|refine Qc (htake _ _) (.keep (.v _)) ⟨by rw[he,Qx4],rfl⟩|refine Qc QwH (.keep (.v _)) ⟨by rw[he,Qx4],rfl⟩
  ·have hkn:k=l.length:=by omega
   subst hkn
   have z1:¬((l.length:Nat):Int)<l.length:=by omega
   rw[Qxb]at he
   with_reducible repeat first|refine Qa fun K E hK hE=>?_;simp only[Qh,Qe,Qk,OpW,aop,AS.ev,Qg,QC,Nat.reduceLT,aBin,QvR,Q5,Qwm,t8,t9,z1]|refine Qf fun K hK=>?_|refine Qp ?_|refine Q3 ?_|refine Qd ?_|refine QV ?_|refine QU ?_|refine hK _ ?_;clear hK|clear hK;refine hK _ ?_;clear hK|refine Qi rfl ?_;simp only[↓reduceIte,QvT]
   simp only[QS,Qq,Qz,upd,↓reduceIte,QvV,QvZ];first|refine Qc (htake _ _) (.keep (.v _)) ⟨by rw[he];rfl,rfl⟩|refine Qc QwH (.keep (.v _)) ⟨by rw[he];rfl,rfl⟩
 ·rw[hI]
  exact⟨0,rfl,by omega,rfl,rfl,rfl,rfl,rfl,[],(Qwi _).symm⟩
end
theorem Qhx(g:G):g.atom.isAgg=true/\g.atom.cells.length=2/\g.atom.cells.all AV.cell1=true:=⟨rfl,rfl,rfl⟩
theorem QfF(g:G):g.goal.isAgg=true/\g.goal.cells.length=3/\g.goal.cells.all AV.cell1=true:=⟨rfl,rfl,rfl⟩
def QbG(s:ByteArray):ByteArray:=if 16384<s.size then{data:=#[]} else s
theorem QcN(s:ByteArray):Pure Tryz.prog 40 [.v (.string s)] (.v (.string (QbG s))):=by
 intro h
 have hsl:=ZU Tryz.prog 9 3 Qsl s
 by_cases hz:16384<s.size
 ·have z:(s.size:Int)>16384:=by omega
  refine Qb Tryz.func40 rfl Tryz.call40 Tryz.ntmps40 Tryz.results40 (by simp) ?_
  with_reducible repeat first|refine Qa fun K E hK hE=>?_;simp only[Qh,Qe,Qk,OpW,aop,undef,AS.ev,Qg,Qu,QI,Qr,QG,QvW,↓reduceIte,Nat.reduceLT,Nat.reduceEqDiff,aBin,aLen,QvR,Xw,goInt,Qwl,hsl,z]|refine Qf fun K hK=>?_|refine Qp ?_|refine QB ?_|refine hK _ ?_;clear hK|refine Qi rfl ?_;simp only[↓reduceIte]
  simp only[QS,Qq,Qz,upd,↓reduceIte,QvV,QvZ];first|refine Qc (htake _ _) (.keep (.v _)) ⟨by rw[QbG,QwN hz],rfl⟩|refine Qc QwH (.keep (.v _)) ⟨by rw[QbG,QwN hz],rfl⟩
 ·have z:¬(s.size:Int)>16384:=by omega
  refine Qb Tryz.func40 rfl Tryz.call40 Tryz.ntmps40 Tryz.results40 (by simp) ?_
  with_reducible repeat first|refine Qa fun K E hK hE=>?_;simp only[Qh,Qe,Qk,OpW,aop,undef,AS.ev,Qg,Qu,QI,Qr,QG,QvW,↓reduceIte,Nat.reduceLT,Nat.reduceEqDiff,aBin,aLen,QvR,Xw,goInt,Qwm,hsl,z]|refine Qf fun K hK=>?_|refine Qp ?_|refine Qw ?_|refine Qd ?_|refine hK _ ?_;clear hK|refine Qi rfl ?_;simp only[↓reduceIte,QvT]
  simp only[QS,Qq,Qz,upd,↓reduceIte,QvV,QvZ];first|refine Qc (htake _ _) (.keep (.v _)) ⟨by rw[QbG,QwJ hz],rfl⟩|refine Qc QwH (.keep (.v _)) ⟨by rw[QbG,QwJ hz],rfl⟩
def catB:List ByteArray->ByteArray
 |[]=>.empty
 |x::l=>x++catB l
def QjI(l:List ByteArray):List AV:=vs (fun s=>.v (.string s)) l
theorem Qqs{h:AH}{i j:Nat}(hi:i<h.length)(hj:j<h.length)(hij:i≠j)(l:List ByteArray)(hl:0<l.length)(hl2:l.length<=1000000)(u:Bool)(tx:ByteArray)(hs:tx.size+(catB l).size<=140737488355328) :
  QT Tryz.prog 34 [.sl 1 (QjI l) none,.ptr i 0 0] (HS h i j u tx) fun o h'=>o = .ret (.tup [])/\h'=HS h i j true (tx++catB l):=by
 have hlv:(QjI l).length=l.length:=QN _ _
 refine Qb Tryz.func34 rfl Tryz.call34 Tryz.ntmps34 Tryz.results34 (by simp) ?_
 with_reducible repeat first|refine Qa fun K E hK hE=>?_;simp only[Qh,Qe,Qk,OpW,aop,undef,AS.ev,Qg,Qu,Qr,QG,QvW,↓reduceIte,Nat.reduceLT,aLen,QvR,goInt,un48,hlv]|refine Qj ?_|refine hK _ ?_;clear hK
 obtain⟨I,hI⟩:∃I:Nat->AS->Prop,I=fun m' s=>∃(k:Nat) (cur:ByteArray),m'=l.length - k/\k<=l.length/\cur++catB (l.drop k)=tx++catB l/\s.tm 1 = .ptr i 0 0/\s.tm 5 = .sl 1 (QjI l) none/\s.tm 6 = .i l.length/\s.tm 7 = .i k/\s.h=HS h i j (u||decide (0<k)) cur:=⟨_,rfl⟩;refine QZ I ?_ (m:=l.length) ?_
 ·intro m' s hs;rw[hI]at hs;obtain⟨tm,hp⟩:=s;dsimp only at hs;obtain⟨k,cur,rfl,hk,he,t1,t5,t6,t7,rfl⟩:=hs
  by_cases hlt:k<l.length
  ·have hg:(QjI l)[k]? = some (.v (.string l[k])):=QaK _ hlt
   have z1:(k:Int)<l.length:=by omega
   have hsz:cur.size+(catB (l.drop k)).size=tx.size+(catB l).size:=by rw[<-Qs,he,Qs]
   rw[QwU hlt,catB]at he hsz
   rw[Qs]at hsz
   have c:=sstr hi hj hij (u||decide (0<k)) cur l[k] (by omega)
   with_reducible repeat first|(first|refine Qa fun K E hK hE=>?_|refine Ql fun K E hK hE=>?_|refine FunW.QuW c ?_);simp only[Qh,Qe,Qk,OpW,Q7,aop,AS.ev,Qg,Qu,Qr,Q6,↓reduceIte,Nat.reduceLT,Nat.reduceEqDiff,Qwn,QQ,QR,QJ,aBin,QvP,QvR,Qv4,Qv8,Q5,Yc,Qwl,Qws,Qwr,ti9,ei48,t1,t5,t6,t7,z1,hg,hlv]|refine Qf fun K hK=>?_|refine Qj ?_|refine Qw ?_|refine Qd ?_|refine Qt ?_|refine hK _ ?_;clear hK|refine Qi rfl ?_;simp only[↓reduceIte]
   refine Xo.mk (m':=l.length - (k+1)) (by omega) ?_
   rw[hI]
   refine⟨k+1,cur++l[k],rfl,hlt,by rw[ByteArray.append_assoc];exact he,t1,t5,t6,?_,by rw[Qw7 (Nat.succ_pos k),QxN]⟩
   simp only[upd,↓reduceIte]
   rw[Xe (by omega)]
  ·have hkn:k=l.length:=by omega
   subst hkn
   have z1:¬((l.length:Nat):Int)<l.length:=by omega
   rw[Qxb,catB,ByteArray.append_empty]at he
   rw[Qw7 hl,QxN]
   with_reducible repeat first|refine Qa fun K E hK hE=>?_;simp only[Qh,Qe,Qk,OpW,aop,AS.ev,Qg,Nat.reduceLT,aBin,QvR,Q5,Qwm,t6,t7,z1]|refine Qf fun K hK=>?_|refine Q3 ?_|refine QV ?_|refine QU ?_|refine hK _ ?_;clear hK|refine Qi rfl ?_;simp only[↓reduceIte,QvT]
   simp only[QvR,QvV,List.mapM_nil,Option.pure_def,QvR,QS,Qq,QvZ]
   exact .inr ⟨rfl,by rw[he]⟩
 ·rw[hI]
  exact⟨0,tx,rfl,by omega,rfl,rfl,rfl,rfl,rfl,by rw[QwY (by omega),QxO]⟩
end Go.Proofs.YtenheconhibonaaGreatDoor.Ab
namespace Go.Proofs.YtenheconhibonaaGreatDoor.Ab
open Go.Proofs
section
variable{X:Type}(f:X->AV)(fv:AV)
theorem Qcl(hfc:∀x,(f x).isAgg=true/\(f x).cells.length=4/\(f x).cells.all AV.cell1=true)(hfb:∀(n:Nat) x,∀a∈(f x).cells,Below n a)(g:List Int->X->X×List Int)(w:X->Nat)(hw:∀s x,(g s x).2.length<=s.length+w x)
  (l:List X) (hl2:l.length<=1000000) (m:Nat) (h:AH) (hm:m<h.length) (s0:List Int) (hs0:s0.length+(l.map w).sum<=1000000)
  (ih:∀x∈l,∀(h:AH) (s:List Int),m<h.length->s.length+w x<=1000000->FunW Tryz.prog fv [f x] (hs h m (mapB s)) fun o h'=>o = .ret (f (g s x).1)/\h'=hs h m (mapB (g s x).2)) :
  QT Tryz.prog 96 [.sl 4 (vs f l) none,fv] (hs h m (mapB s0)) fun o h'=>o = .ret (.sl 4 (vs f (Xh g s0 l).1) none)/\h'=hs h m (mapB (Xh g s0 l).2):=by
 have f1:=fun x=>ZD h m x
 have f2:=fun x L=>Qcf (h:=h) (i:=m) x L
 have f3:=fun x L k=>Qg0 (h:=h) (i:=m) x L k
 have f4:=fun x y L=>QcE (h:=h) (i:=m) x y L
 have f5:=fun x y L k=>QdY (h:=h) (i:=m) x y L k
 refine Qb Tryz.func96 rfl Tryz.call96 Tryz.ntmps96 Tryz.results96 (by simp) ?_
 iterate 4 (try (first|(((with_reducible refine Qa fun K E hK hE=>?_));simp only[Qh,Qe,Qk,OpW,aop,AS.ev,Qg,XM,Nat.reduceLT])|((with_reducible refine hK _ ?_);clear hK)))
 refine YB 5 69 4 rfl ?_
 with_reducible repeat first|refine Qa fun K E hK hE=>?_;simp only[Qh,Qe,Qk,OpW,aop,undef,AS.ev,Qg,Qu,Qr,QG,QvW,↓reduceIte,Nat.reduceLT,Nat.reduceEqDiff,aLen,QvR,goInt,un44,QN]|refine Qf fun K hK=>?_|refine Qj ?_|refine hK _ ?_;clear hK
 obtain⟨I,hI⟩:∃I:Nat->AS->Prop,I=fun m' s=>∃(k:Nat) (out:List X) (cur:List Int),m'=l.length - k/\k<=l.length/\out.length=k/\Xh g s0 l=(out++(Xh g cur (l.drop k)).1,(Xh g cur (l.drop k)).2)/\cur.length+((l.drop k).map w).sum<=1000000/\s.tm 1=fv/\s.tm 5 = .sl 4 (vs f out) (some h.length)/\s.tm 8 = .sl 4 (vs f l) none/\s.tm 9 = .i l.length/\s.tm 10 = .i k/\(∃L,s.h=hs h m (mapB cur)++(AB.grow 69 4 k::L)):=⟨_,rfl⟩;refine QZ I ?_ (m:=l.length) ?_
 ·intro m' s hs;rw[hI]at hs;obtain⟨tm,hp⟩:=s;dsimp only at hs;obtain⟨k,out,cur,rfl,hk,ho,he,hw2,t1,t5,t8,t9,t10,L,rfl⟩:=hs
  by_cases hlt:k<l.length
  ·have hg:=QaK f hlt
   have z1:(k:Int)<l.length:=by omega
   obtain⟨hag,hcl,hc1⟩:=hfc l[k]
   have hd:l.drop k=l[k]::l.drop (k+1):=QwU hlt
   rw[hd]at he hw2
   rw[List.map_cons,List.sum_cons]at hw2
   simp only[Xh]at he
   obtain⟨x',ex'⟩:∃x',x'=(g cur l[k]).1:=⟨_,rfl⟩
   obtain⟨cur',ec'⟩:∃x',x'=(g cur l[k]).2:=⟨_,rfl⟩
   have hwk:=hw cur l[k]
   obtain⟨hag',hcl',hc1'⟩:=hfc x'
   have c2:=ih l[k] (Qxk hlt) (h++(AB.grow 69 4 k::(L++[AB.cells 69 4 [f l[k]]]))) cur (by rw[QwG];omega) (by omega)
   rw[Qbe hm,Qbe hm,<-ex',<-ec']at c2
   rw[<-ex',<-ec']at he
   rw[<-ec']at hwk
   have hb1:k+1<=maxLen:=by simp only[maxLen];omega
   have hb2:(k+1) * 56<=140737488355328:=by omega
   have e5:vs f (out++[x'])=vs f out++[f x']:=QdR f out [x']
   with_reducible repeat first|(first|refine Qa fun K E hK hE=>?_|refine Ql fun K E hK hE=>?_|refine FunW.ret c2 ?_);simp only[Qh,Qe,Qk,OpW,Q7,aop,undef,AS.ev,Qg,QX,Qu,Qr,AV.QuX,Qo,QD,Qv9,Qwa,QE,QA,QM,Qwb,↓reduceIte,Qv2,Qv3,Nat.reduceAdd,Nat.reduceLT,Nat.reduceLeDiff,Nat.reduceEqDiff,Nat.reduceMul,Qv1,Qwn,QQ,QR,Xf,QY,QJ,aBin,QW,Y4,Zj,Q8,Yd,hlen,happ,QvP,QvQ,Qwj,Qwk,QvR,Qv4,Qv8,Qwh,Q5,Yc,Qwl,QvX,Qws,Qwr,rng1,Xg,Nat.reducePow,ei44,ai44,ti69,zi69,t1,t5,t8,t9,t10,z1,hg,hag,hcl,hc1,hcl',hc1',f1,f2,f3,f4,f5,hb1,hb2,ho,QN]|refine Qf fun K hK=>?_|refine Qj ?_|refine Qw ?_|refine Qd ?_|refine Qt ?_|refine hK _ ?_;clear hK|refine Qi rfl ?_;simp only[↓reduceIte]
   refine Xo.mk (m':=l.length - (k+1)) (by omega) ?_
   rw[hI]
   refine⟨k+1,out++[x'],cur',rfl,hlt,by rw[QwG,ho];rfl,?_,by omega,t1,?_,t8,t9,?_,_,rfl⟩
   ·rw[he];simp only[QwM,Qwh,Qwg]
   ·rw[e5];rfl
   ·simp only[upd,↓reduceIte]
    rw[Xe (by omega)]
  ·have hkn:k=l.length:=by omega
   subst hkn
   have z1:¬((l.length:Nat):Int)<l.length:=by omega
   rw[Qxb]at he
   simp only[Xh,Qwi]at he
   with_reducible repeat first|refine Qa fun K E hK hE=>?_;simp only[Qh,Qe,Qk,OpW,aop,AS.ev,Qg,Qr,↓reduceIte,Nat.reduceLT,Nat.reduceEqDiff,aBin,QvR,Q5,Qwm,t5,t9,t10,z1]|refine Qf fun K hK=>?_|refine Qp ?_|refine Q3 ?_|refine Qd ?_|refine QV ?_|refine QU ?_|refine hK _ ?_;clear hK|clear hK;refine hK _ ?_;clear hK|refine Qi rfl ?_;simp only[↓reduceIte,QvT]
   simp only[QS,Qq,Qz,upd,↓reduceIte,QvV,QvZ]
   rw[he]
   exact Xq (Zo _ _) (.tok (Qel f _ (hfb _) _)) ⟨rfl,rfl⟩
 ·rw[hI]
  exact⟨0,[],s0,rfl,by omega,rfl,rfl,hs0,rfl,(by show AV.sl 4 [] (some (hs h m (mapB s0)).length)=_;rw[ZD];rfl),rfl,rfl,rfl,[],rfl⟩
end
section
variable{X:Type}(f:X->AV)(fv:AV)
theorem Qjd(hfc:∀x,(f x).isAgg=true/\(f x).cells.length=2/\(f x).cells.all AV.cell1=true)(hfb:∀(n:Nat) x,∀a∈(f x).cells,Below n a)(g:List Int->X->X×List Int)(w:X->Nat)(hw:∀s x,(g s x).2.length<=s.length+w x)
  (l:List X) (hl2:l.length<=1000000) (m:Nat) (h:AH) (hm:m<h.length) (s0:List Int) (hs0:s0.length+(l.map w).sum<=1000000)
  (ih:∀x∈l,∀(h:AH) (s:List Int),m<h.length->s.length+w x<=1000000->FunW Tryz.prog fv [f x] (hs h m (mapB s)) fun o h'=>o = .ret (f (g s x).1)/\h'=hs h m (mapB (g s x).2)) :
  QT Tryz.prog 47 [.sl 2 (vs f l) none,fv] (hs h m (mapB s0)) fun o h'=>o = .ret (.sl 2 (vs f (Xh g s0 l).1) none)/\h'=hs h m (mapB (Xh g s0 l).2):=by
 have f1:=fun x=>ZD h m x
 have f2:=fun x L=>Qcf (h:=h) (i:=m) x L
 have f3:=fun x L k=>Qg0 (h:=h) (i:=m) x L k
 have f4:=fun x y L=>QcE (h:=h) (i:=m) x y L
 have f5:=fun x y L k=>QdY (h:=h) (i:=m) x y L k
 refine Qb Tryz.func47 rfl Tryz.call47 Tryz.ntmps47 Tryz.results47 (by simp) ?_
 iterate 4 (try (first|(((with_reducible refine Qa fun K E hK hE=>?_));simp only[Qh,Qe,Qk,OpW,aop,AS.ev,Qg,XM,Nat.reduceLT])|((with_reducible refine hK _ ?_);clear hK)))
 refine YB 5 66 2 rfl ?_
 with_reducible repeat first|refine Qa fun K E hK hE=>?_;simp only[Qh,Qe,Qk,OpW,aop,undef,AS.ev,Qg,Qu,Qr,QG,QvW,↓reduceIte,Nat.reduceLT,Nat.reduceEqDiff,aLen,QvR,goInt,un22,QN]|refine Qf fun K hK=>?_|refine Qj ?_|refine hK _ ?_;clear hK
 obtain⟨I,hI⟩:∃I:Nat->AS->Prop,I=fun m' s=>∃(k:Nat) (out:List X) (cur:List Int),m'=l.length - k/\k<=l.length/\out.length=k/\Xh g s0 l=(out++(Xh g cur (l.drop k)).1,(Xh g cur (l.drop k)).2)/\cur.length+((l.drop k).map w).sum<=1000000/\s.tm 1=fv/\s.tm 5 = .sl 2 (vs f out) (some h.length)/\s.tm 8 = .sl 2 (vs f l) none/\s.tm 9 = .i l.length/\s.tm 10 = .i k/\(∃L,s.h=hs h m (mapB cur)++(AB.grow 66 2 k::L)):=⟨_,rfl⟩;refine QZ I ?_ (m:=l.length) ?_
 ·intro m' s hs;rw[hI]at hs;obtain⟨tm,hp⟩:=s;dsimp only at hs;obtain⟨k,out,cur,rfl,hk,ho,he,hw2,t1,t5,t8,t9,t10,L,rfl⟩:=hs
  by_cases hlt:k<l.length
  ·have hg:=QaK f hlt
   have z1:(k:Int)<l.length:=by omega
   obtain⟨hag,hcl,hc1⟩:=hfc l[k]
   have hd:l.drop k=l[k]::l.drop (k+1):=QwU hlt
   rw[hd]at he hw2
   rw[List.map_cons,List.sum_cons]at hw2
   simp only[Xh]at he
   obtain⟨x',ex'⟩:∃x',x'=(g cur l[k]).1:=⟨_,rfl⟩
   obtain⟨cur',ec'⟩:∃x',x'=(g cur l[k]).2:=⟨_,rfl⟩
   have hwk:=hw cur l[k]
   obtain⟨hag',hcl',hc1'⟩:=hfc x'
   have c2:=ih l[k] (Qxk hlt) (h++(AB.grow 66 2 k::(L++[AB.cells 66 2 [f l[k]]]))) cur (by rw[QwG];omega) (by omega)
   rw[Qbe hm,Qbe hm,<-ex',<-ec']at c2
   rw[<-ex',<-ec']at he
   rw[<-ec']at hwk
   have hb1:k+1<=maxLen:=by simp only[maxLen];omega
   have hb2:(k+1) * 40<=140737488355328:=by omega
   have e5:vs f (out++[x'])=vs f out++[f x']:=QdR f out [x']
   with_reducible repeat first|(first|refine Qa fun K E hK hE=>?_|refine Ql fun K E hK hE=>?_|refine FunW.ret c2 ?_);simp only[Qh,Qe,Qk,OpW,Q7,aop,undef,AS.ev,Qg,QX,Qu,Qr,AV.QuX,Qo,QD,Qv9,Qwa,QA,QM,Qwb,↓reduceIte,Qv2,Qv3,Nat.reduceAdd,Nat.reduceLT,Nat.reduceLeDiff,Nat.reduceEqDiff,Nat.reduceMul,Qv1,Qwn,QQ,QR,Xf,QY,QJ,aBin,QW,Y4,Zj,Q8,Yd,hlen,happ,QvP,QvQ,Qwj,Qwk,QvR,Qv4,Qv8,Qwh,Q5,Yc,Qwl,QvX,Qws,Qwr,rng1,Xg,Nat.reducePow,ei22,ai22,ti66,zi66,t1,t5,t8,t9,t10,z1,hg,hag,hcl,hc1,hcl',hc1',f1,f2,f3,f4,f5,hb1,hb2,ho,QN]|refine Qf fun K hK=>?_|refine Qj ?_|refine Qw ?_|refine Qd ?_|refine Qt ?_|refine hK _ ?_;clear hK|refine Qi rfl ?_;simp only[↓reduceIte]
   refine Xo.mk (m':=l.length - (k+1)) (by omega) ?_
   rw[hI]
   refine⟨k+1,out++[x'],cur',rfl,hlt,by rw[QwG,ho];rfl,?_,by omega,t1,?_,t8,t9,?_,_,rfl⟩
   ·rw[he];simp only[QwM,Qwh,Qwg]
   ·rw[e5];rfl
   ·simp only[upd,↓reduceIte]
    rw[Xe (by omega)]
  ·have hkn:k=l.length:=by omega
   subst hkn
   have z1:¬((l.length:Nat):Int)<l.length:=by omega
   rw[Qxb]at he
   simp only[Xh,Qwi]at he
   with_reducible repeat first|refine Qa fun K E hK hE=>?_;simp only[Qh,Qe,Qk,OpW,aop,AS.ev,Qg,Qr,↓reduceIte,Nat.reduceLT,Nat.reduceEqDiff,aBin,QvR,Q5,Qwm,t5,t9,t10,z1]|refine Qf fun K hK=>?_|refine Qp ?_|refine Q3 ?_|refine Qd ?_|refine QV ?_|refine QU ?_|refine hK _ ?_;clear hK|clear hK;refine hK _ ?_;clear hK|refine Qi rfl ?_;simp only[↓reduceIte,QvT]
   simp only[QS,Qq,Qz,upd,↓reduceIte,QvV,QvZ]
   rw[he]
   exact Xq (Zo _ _) (.tok (Qel f _ (hfb _) _)) ⟨rfl,rfl⟩
 ·rw[hI]
  exact⟨0,[],s0,rfl,by omega,rfl,rfl,hs0,rfl,(by show AV.sl 2 [] (some (hs h m (mapB s0)).length)=_;rw[ZD];rfl),rfl,rfl,rfl,[],rfl⟩
end
section
variable{X:Type}(f:X->AV)(fv:AV)
theorem Qje(hfc:∀x,(f x).isAgg=true/\(f x).cells.length=3/\(f x).cells.all AV.cell1=true)(hfb:∀(n:Nat) x,∀a∈(f x).cells,Below n a)(g:List Int->X->X×List Int)(w:X->Nat)(hw:∀s x,(g s x).2.length<=s.length+w x)
  (l:List X) (hl2:l.length<=1000000) (m:Nat) (h:AH) (hm:m<h.length) (s0:List Int) (hs0:s0.length+(l.map w).sum<=1000000)
  (ih:∀x∈l,∀(h:AH) (s:List Int),m<h.length->s.length+w x<=1000000->FunW Tryz.prog fv [f x] (hs h m (mapB s)) fun o h'=>o = .ret (f (g s x).1)/\h'=hs h m (mapB (g s x).2)) :
  QT Tryz.prog 49 [.sl 3 (vs f l) none,fv] (hs h m (mapB s0)) fun o h'=>o = .ret (.sl 3 (vs f (Xh g s0 l).1) none)/\h'=hs h m (mapB (Xh g s0 l).2):=by
 have f1:=fun x=>ZD h m x
 have f2:=fun x L=>Qcf (h:=h) (i:=m) x L
 have f3:=fun x L k=>Qg0 (h:=h) (i:=m) x L k
 have f4:=fun x y L=>QcE (h:=h) (i:=m) x y L
 have f5:=fun x y L k=>QdY (h:=h) (i:=m) x y L k
 refine Qb Tryz.func49 rfl Tryz.call49 Tryz.ntmps49 Tryz.results49 (by simp) ?_
 iterate 4 (try (first|(((with_reducible refine Qa fun K E hK hE=>?_));simp only[Qh,Qe,Qk,OpW,aop,AS.ev,Qg,XM,Nat.reduceLT])|((with_reducible refine hK _ ?_);clear hK)))
 refine YB 5 53 3 rfl ?_
 with_reducible repeat first|refine Qa fun K E hK hE=>?_;simp only[Qh,Qe,Qk,OpW,aop,undef,AS.ev,Qg,Qu,Qr,QG,QvW,↓reduceIte,Nat.reduceLT,Nat.reduceEqDiff,aLen,QvR,goInt,un23,QN]|refine Qf fun K hK=>?_|refine Qj ?_|refine hK _ ?_;clear hK
 obtain⟨I,hI⟩:∃I:Nat->AS->Prop,I=fun m' s=>∃(k:Nat) (out:List X) (cur:List Int),m'=l.length - k/\k<=l.length/\out.length=k/\Xh g s0 l=(out++(Xh g cur (l.drop k)).1,(Xh g cur (l.drop k)).2)/\cur.length+((l.drop k).map w).sum<=1000000/\s.tm 1=fv/\s.tm 5 = .sl 3 (vs f out) (some h.length)/\s.tm 8 = .sl 3 (vs f l) none/\s.tm 9 = .i l.length/\s.tm 10 = .i k/\(∃L,s.h=hs h m (mapB cur)++(AB.grow 53 3 k::L)):=⟨_,rfl⟩;refine QZ I ?_ (m:=l.length) ?_
 ·intro m' s hs;rw[hI]at hs;obtain⟨tm,hp⟩:=s;dsimp only at hs;obtain⟨k,out,cur,rfl,hk,ho,he,hw2,t1,t5,t8,t9,t10,L,rfl⟩:=hs
  by_cases hlt:k<l.length
  ·have hg:=QaK f hlt
   have z1:(k:Int)<l.length:=by omega
   obtain⟨hag,hcl,hc1⟩:=hfc l[k]
   have hd:l.drop k=l[k]::l.drop (k+1):=QwU hlt
   rw[hd]at he hw2
   rw[List.map_cons,List.sum_cons]at hw2
   simp only[Xh]at he
   obtain⟨x',ex'⟩:∃x',x'=(g cur l[k]).1:=⟨_,rfl⟩
   obtain⟨cur',ec'⟩:∃x',x'=(g cur l[k]).2:=⟨_,rfl⟩
   have hwk:=hw cur l[k]
   obtain⟨hag',hcl',hc1'⟩:=hfc x'
   have c2:=ih l[k] (Qxk hlt) (h++(AB.grow 53 3 k::(L++[AB.cells 53 3 [f l[k]]]))) cur (by rw[QwG];omega) (by omega)
   rw[Qbe hm,Qbe hm,<-ex',<-ec']at c2
   rw[<-ex',<-ec']at he
   rw[<-ec']at hwk
   have hb1:k+1<=maxLen:=by simp only[maxLen];omega
   have hb2:(k+1) * 48<=140737488355328:=by omega
   have e5:vs f (out++[x'])=vs f out++[f x']:=QdR f out [x']
   with_reducible repeat first|(first|refine Qa fun K E hK hE=>?_|refine Ql fun K E hK hE=>?_|refine FunW.ret c2 ?_);simp only[Qh,Qe,Qk,OpW,Q7,aop,undef,AS.ev,Qg,QX,Qu,Qr,AV.QuX,Qo,QD,Qv9,Qwa,QE,QA,QM,Qwb,↓reduceIte,Qv2,Qv3,Nat.reduceAdd,Nat.reduceLT,Nat.reduceLeDiff,Nat.reduceEqDiff,Nat.reduceMul,Qv1,Qwn,QQ,QR,Xf,QY,QJ,aBin,QW,Y4,Zj,Q8,Yd,hlen,happ,QvP,QvQ,Qwj,Qwk,QvR,Qv4,Qv8,Qwh,Q5,Yc,Qwl,QvX,Qws,Qwr,rng1,Xg,Nat.reducePow,ei23,ai23,ti53,zi53,t1,t5,t8,t9,t10,z1,hg,hag,hcl,hc1,hcl',hc1',f1,f2,f3,f4,f5,hb1,hb2,ho,QN]|refine Qf fun K hK=>?_|refine Qj ?_|refine Qw ?_|refine Qd ?_|refine Qt ?_|refine hK _ ?_;clear hK|refine Qi rfl ?_;simp only[↓reduceIte]
   refine Xo.mk (m':=l.length - (k+1)) (by omega) ?_
   rw[hI]
   refine⟨k+1,out++[x'],cur',rfl,hlt,by rw[QwG,ho];rfl,?_,by omega,t1,?_,t8,t9,?_,_,rfl⟩
   ·rw[he];simp only[QwM,Qwh,Qwg]
   ·rw[e5];rfl
   ·simp only[upd,↓reduceIte]
    rw[Xe (by omega)]
  ·have hkn:k=l.length:=by omega
   subst hkn
   have z1:¬((l.length:Nat):Int)<l.length:=by omega
   rw[Qxb]at he
   simp only[Xh,Qwi]at he
   with_reducible repeat first|refine Qa fun K E hK hE=>?_;simp only[Qh,Qe,Qk,OpW,aop,AS.ev,Qg,Qr,↓reduceIte,Nat.reduceLT,Nat.reduceEqDiff,aBin,QvR,Q5,Qwm,t5,t9,t10,z1]|refine Qf fun K hK=>?_|refine Qp ?_|refine Q3 ?_|refine Qd ?_|refine QV ?_|refine QU ?_|refine hK _ ?_;clear hK|clear hK;refine hK _ ?_;clear hK|refine Qi rfl ?_;simp only[↓reduceIte,QvT]
   simp only[QS,Qq,Qz,upd,↓reduceIte,QvV,QvZ]
   rw[he]
   exact Xq (Zo _ _) (.tok (Qel f _ (hfb _) _)) ⟨rfl,rfl⟩
 ·rw[hI]
  exact⟨0,[],s0,rfl,by omega,rfl,rfl,hs0,rfl,(by show AV.sl 3 [] (some (hs h m (mapB s0)).length)=_;rw[ZD];rfl),rfl,rfl,rfl,[],rfl⟩
end
end Go.Proofs.YtenheconhibonaaGreatDoor.Ab

