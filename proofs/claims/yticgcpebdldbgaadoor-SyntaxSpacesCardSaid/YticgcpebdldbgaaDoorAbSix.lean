/-
  An abstract program logic, contracts of functions, and laws of terms and rules (part 6).
-/
import Derived.Test.YticgcpebdldbgaaDoorAbFive
import Derived.Test.YticgcpebdldbgaaDoorAbFour
import Derived.Test.YticgcpebdldbgaaDoorAbTwo
import Derived.Test.YticgcpebdldbgaaDoorAbThree
set_option linter.unusedVariables false
set_option linter.unusedSimpArgs false
set_option maxHeartbeats 4000000
set_option maxRecDepth 4000
namespace Go.Proofs.YticgcpebdldbgaaDoor.Ab
open Go.Proofs
theorem QhE(tot:Nat):∀(m:Nat) (q:List UInt8) (p:Int×Int),X1 tot m q = .inr p→p.2≠0
 |0,_,_,h=>by cases h
 |m+1,q,p,h=>by
  rw[X1]at h
  cases ht:Xv (QV false q)with
  |inr e=>rw[ht]at h;cases h;exact QgF ht
  |inl y =>
   obtain⟨k,x⟩:=y
   rw[ht]at h
   simp only at h
   split at h
   ·cases h
   ·cases hs:X1 tot m ((QV false q).drop x.length)with
    |inr e=>rw[hs]at h;cases h;exact QhE tot m _ _ hs
    |inl us=>rw[hs]at h;cases h
theorem Qaj{l:List UInt8}{p:Int×Int}(h:XQ l = .inr p):p.2≠0:=by
 rw[XQ]at h
 split at h
 ·cases h;decide
 ·exact QhE _ _ _ _ h
theorem QhN{l:List UInt8}{ts:List Tk}(hs:XQ l = .inl ts)(h:AH)(hG:ZJ h):QL Tryd.prog 32 [.v (.string (mkB l))] h fun o h'=>o = .ret (.agg [.sl 3 (tks ts) none,.i 0])∧h'=h:=by
 have cs:=fun L=>QhD l (h++L) (hG.app L)
 rw[hs,scR]at cs
 have e0:((0:Int) != 0)=false:=rfl
 refine Qe Tryd.func32 rfl Tryd.call32 Tryd.ntmps32 Tryd.results32 (by simp) ?_
 repeat (first|((first|(with_reducible (first|refine Qa fun K E hK hE=>?_|refine FunW.QqZ (cs _) ?_)));simp -implicitDefEqProofs only[Qc,Qd,OpW,QB,aop,undef,AS.ev,Qr,AV.QqY,↓reduceIte,Qu,Ql,aBin,Q1,QP,Q6,ti63,zi63,sp63,seval])|(with_reducible (first|refine Qf fun K hK=>?_|refine Qm ?_|refine Qk ?_|refine Qb ?_))|((with_reducible refine hK _ ?_);clear hK)|(refine Qh rfl ?_;simp only[↓reduceIte,QrN]))
 simp -implicitDefEqProofs only[Qc,↓reduceIte,ti63,Qw,Qv,QH,Qo,Qt,QrT,seval]
 refine Qq (htake _ _) (.keep (.agg _ fun a ha=>?_)) ⟨rfl,rfl⟩
 simp only[List.mem_cons,List.not_mem_nil,or_false]at ha
 rcases ha with rfl|rfl
 ·exact .sl 3 _ none (QbB _ _) (fun b hb=>by cases hb)
 ·exact .v _
theorem QkA{l:List UInt8}{p e:Int}(hs:XQ l = .inr (p,e))(h:AH)(hG:ZJ h):QL Tryd.prog 32 [.v (.string (mkB l))] h fun o h'=>o = .panic (Fl p e)∧h'=h:=by
 have cs:=fun L=>QhD l (h++L) (hG.app L)
 rw[hs,scR]at cs
 have e0:(e != 0)=true:=by simpa using Qaj hs
 have hu:=Tryd.underlying87
 refine Qe Tryd.func32 rfl Tryd.call32 Tryd.ntmps32 Tryd.results32 (by simp) ?_
 repeat (first|((first|(with_reducible (first|refine Qa fun K E hK hE=>?_|refine Qj fun K E hK hE=>?_|refine FunW.QqZ (cs _) ?_)));simp -implicitDefEqProofs only[Qc,Qd,OpW,QB,aop,undef,AS.ev,Qr,AV.QqY,↓reduceIte,aBin,Q1,QP,Q6,zi63,zi87,sp87,e0,hu,seval])|(with_reducible refine Qf fun K hK=>?_)|((with_reducible refine hK _ ?_);clear hK)|(refine Qh rfl ?_;simp only[↓reduceIte])|(with_reducible (first|refine hE _ _ ?_|refine QN ?_)))
 exact Qq (htake _ _) (.keep (Qbt _ _ _)) ⟨rfl,rfl⟩
def P0(h:AH)(ts:List Tk):Pz:=⟨ts,h.length+2,h.length+4,h.length+3⟩
def hp0(h:AH)(ts:List Tk):AH:=ph (h++[iC 0,eC 0,.cells 66 4 [.agg [.sl 3 (tks ts) none,.i 0,.v (.slice none 0 0),.v (.map none)]]]++[.dead,.dead]) (P0 h ts) ⟨ts,[]⟩
theorem Qpw(h:AH)(ts:List Tk)(x:AB):(P0 h ts).ok (h++[iC 0,eC 0,x]++[.dead,.dead]):=by
 refine⟨?_,?_,?_,?_,?_,?_⟩ <;> simp only[P0,QsA,QrW,QrX] <;> omega
theorem Qoi(h:AH)(ts:List Tk):QL Tryd.prog 33 [.ptr (h.length+2) 0 0] (h++[iC 0,eC 0,.cells 66 4 [.agg [.sl 3 (tks ts) none,.i 0,.v (.slice none 0 0),.v (.map none)]]]) fun o h'=>o = .ret (.tup [])∧h'=hp0 h ts:=by
 have:=Qh3 (X:=h++[iC 0,eC 0,.cells 66 4 [.agg [.sl 3 (tks ts) none,.i 0,.v (.slice none 0 0),.v (.map none)]]]) (P:=P0 h ts) (s:=⟨ts,[]⟩) (by
  show(h++_)[h.length+2]? = _
  rw[hget]
  simp only[P0,Nat.sub_self];rfl) (by simp[P0])
 refine this.mono ?_
 rintro o h' ⟨rfl,rfl⟩
 refine⟨rfl,?_⟩
 rw[hp0]
 congr 1
 simp[P0,Pz.to]
theorem panQ{P:Program}{rs:List ResultVar}{h H:AH}{Q:AOut→AH→Prop}{tm:Nat→AV}{p e a0 e0:Int}{k:Nat}(hP:P=Tryd.prog)(hk:H[k]? = some (iC a0))(hk1:H[k+1]? = some (eC e0))(hq:∀L,QH P rs h Q .ret ⟨tm,(H.set k (iC p)).set (k+1) (eC e)++L⟩) :
  QfV P rs h Q [(31,[.ptr k 0 0,.ptr (k+1) 0 0])] (.pan (Fl p e) false) ⟨tm,H⟩:=by
 subst hP
 simp only[QfV]
 refine Qa2.mono (Qmp hk hk1 p e) ?_
 rintro m' h' ⟨rfl,L,rfl⟩
 exact hq L
theorem rtQ{P:Program}{rs:List ResultVar}{h H:AH}{Q:AOut→AH→Prop}{tm:Nat→AV}{k:Nat}(hP:P=Tryd.prog)(hq:QH P rs h Q .ret ⟨tm,H⟩) :
  QfV P rs h Q [(31,[.ptr k 0 0,.ptr (k+1) 0 0])] .ret ⟨tm,H⟩:=by
 subst hP
 simp only[QfV]
 refine Qa2.mono Qmq ?_
 rintro m' h' ⟨rfl,rfl⟩
 exact hq
theorem QkI(n:Nat)(a b:Int):Below n (.tup [.i a,.i b]):=.tup _ fun x hx=>by
 simp only[List.mem_cons,List.not_mem_nil,or_false]at hx
 rcases hx with rfl|rfl <;> exact .v _
theorem Qhy{l:List UInt8}{p e:Int}(hs:XQ l = .inr (p,e))(fv:AV)(h:AH)(hG:ZJ h):QL Tryd.prog 15 [.v (.string (mkB l)),fv] h fun o h'=>o = .ret (.tup [.i p,.i e])∧h'=h:=by
 have cs:=fun L=>QkA hs (h++L) (hG.app L)
 refine Qan Tryd.func15 rfl Tryd.call15 Tryd.ntmps15 (congrArg Array.toList Tryd.results15) (by simp) ?_
 refine Za (YK ?_)
 repeat (first|(((with_reducible refine Qj fun K E hK hE=>?_));simp -implicitDefEqProofs only[Qc,Qd,OpW,aop,AV.QqY,↓reduceIte,Nat.reduceLT,zi3,zi27])|((with_reducible refine hK _ ?_);clear hK))
 show DefW _ _ _ _ _ _
 refine Za (QbR 1 rfl rfl rfl ?_)
 simp -implicitDefEqProofs only[Qc,Qd,OpW,aop,undef,AS.ev,↓reduceIte,seval]
 refine⟨_,_,_,rfl,?_⟩
 show DefW _ _ _ _ _ _
 refine Za (YK ?_)
 repeat (first|((first|(with_reducible (first|refine Qj fun K E hK hE=>?_|refine FunW.pan (FunW.call (cs _)) ?_)));simp -implicitDefEqProofs only[Qc,Qd,OpW,QB,aop,undef,AS.ev,Qr,↓reduceIte,seval])|(with_reducible refine hE _ _ ?_))
 simp only[AExit.QrC,QkN]
 refine panQ (a0:=0) (e0:=0) rfl (by rw[Qad];rfl) (by rw[hget];rfl) fun L=>?_
 rw[QbT,hset]
 simp -implicitDefEqProofs only[Qc,↓reduceIte,Nat.reduceEqDiff,ti3,ti27,List.mapM_cons,List.mapM_nil,Option.pure_def,Option.bind_eq_bind,Qw,Qv,List.append_assoc,QH,Qo,Qt,QrT]
 exact Qq (htake _ _) (.keep (QkI _ _ _)) ⟨rfl,rfl⟩
section
variable{l:List UInt8}{ts:List Tk}(hs:XQ l = .inl ts)(fv:AV)(h:AH)(hG:ZJ h)(Ok:AH→Prop)(hOk:∀Y a b L,h.length+1<Y.length→Ok Y→Ok ((Y.set h.length a).set (h.length+1) b++L))
include hs hG hOk
theorem Qmr(HF:FunW Tryd.prog fv [.ptr (h.length+2) 0 0] (hp0 h ts) fun o h'=>o = .ret (.tup [])∧∃Y:{Y:AH // Y[h.length]? = some (iC 0)∧Y[h.length+1]? = some (eC 0)∧Ok Y},h'=Y.1) :
  QL Tryd.prog 15 [.v (.string (mkB l)),fv] h fun o h'=>o = .ret (.tup [.i 0,.i 0])∧∃Y:{Y:AH // Ok Y},h'=Y.1:=by
 have cs:=fun L=>QhN hs (h++L) (hG.app L)
 have cc:=Qoi h ts
 refine Qan Tryd.func15 rfl Tryd.call15 Tryd.ntmps15 (congrArg Array.toList Tryd.results15) (by simp) ?_
 refine Za (YK ?_)
 repeat (first|(((with_reducible refine Qj fun K E hK hE=>?_));simp -implicitDefEqProofs only[Qc,Qd,OpW,aop,AV.QqY,↓reduceIte,Nat.reduceLT,zi3,zi27])|((with_reducible refine hK _ ?_);clear hK))
 show DefW _ _ _ _ _ _
 refine Za (QbR 1 rfl rfl rfl ?_)
 simp -implicitDefEqProofs only[Qc,Qd,OpW,aop,undef,AS.ev,↓reduceIte,seval]
 refine⟨_,_,_,rfl,?_⟩
 show DefW _ _ _ _ _ _
 refine Za (YK ?_)
 repeat (first|((first|(with_reducible (first|refine Qj fun K E hK hE=>?_|refine FunW.QqZ (cs _) ?_)));simp -implicitDefEqProofs only[Qc,Qd,OpW,QB,aop,undef,AS.ev,Qr,AV.QqY,↓reduceIte,QP,Q6,zi66,sp66,seval])|((with_reducible refine hK _ ?_);clear hK))
 show DefW _ _ _ _ _ _
 refine Za (YK ?_)
 repeat (first|((first|(with_reducible (first|refine Qj fun K E hK hE=>?_|refine FunW.QqZ cc ?_)));simp -implicitDefEqProofs only[Qc,Qd,OpW,QB,aop,AS.ev,↓reduceIte,Nat.reduceLT])|((with_reducible refine hK _ ?_);clear hK))
 show DefW _ _ _ _ _ _
 refine Za (YK ?_)
 repeat (first|((first|(with_reducible (first|refine Qj fun K E hK hE=>?_|refine FunW.retE HF fun Y=>?_)));simp -implicitDefEqProofs only[Qc,Qd,OpW,QB,aop,undef,AS.ev,Qr,↓reduceIte,seval])|((with_reducible refine hK _ ?_);clear hK))
 have hY:=Y.2
 generalize Y.1=Y1 at *
 obtain⟨y1,y2,y3⟩:=hY
 have l1:=Qs y1
 have l2:=Qs y2
 repeat ((((with_reducible refine Qa fun K E hK hE=>?_));simp -implicitDefEqProofs only[Qc,Qd,OpW,QB,aop,undef,Xa,AS.ev,Qr,AV.QqY,↓reduceIte,Qu,Ql,aBin,QP,Q6,goInt,ti0,zi0,ti1,zi1,ti3,zi3,un3,ti9,ei9,zi9,un9,ti27,zi27,un27,ti57,zi57,un57,ti63,Qg7,Qfu,zi63,sp63,ti66,QJ,YW,YX,zi66,sp66,ti69,zi69,Qsw,Int.sub_zero,XJ,Qp,seval]))
 show DefW _ _ _ _ _ _
 refine YK ?_
 have u1:∀y,(Y1.set h.length y)[h.length+1]? = some (eC 0):=fun y=>by rw[List.getElem?_set_ne (by omega)];exact y2
 have u2:∀y z,((Y1.set h.length y).set (h.length+1) z)[h.length]? = some y:=fun y z=>by rw[List.getElem?_set_ne (by omega),List.getElem?_set_self l1]
 have u3:∀y z,((Y1.set h.length y).set (h.length+1) z)[h.length+1]? = some z:=fun y z=>List.getElem?_set_self (by rw[List.length_set];exact l2)
 repeat (first|(((with_reducible refine Qa fun K E hK hE=>?_));simp -implicitDefEqProofs only[Qc,Qd,OpW,aop,undef,AS.ev,AV.QqY,↓reduceIte,Nat.reduceEqDiff,Qu,Ql,ti3,ti27,y1,u1])|(with_reducible refine Qm ?_)|((with_reducible refine hK _ ?_);clear hK))
 simp only[QkN]
 refine rtQ rfl ?_
 simp -implicitDefEqProofs only[Qc,↓reduceIte,Nat.reduceEqDiff,ti3,ti27,List.mapM_cons,List.mapM_nil,Option.pure_def,Option.bind_eq_bind,Qw,Qv,u2,u3,QH,Qo,Qt,QrT]
 have:=hOk Y1 (iC 0) (eC 0) [] l2 y3
 rw[List.append_nil]at this
 exact .inr ⟨rfl,⟨_,this⟩,rfl⟩
theorem Qjo{p e:Int}(HF:FunW Tryd.prog fv [.ptr (h.length+2) 0 0] (hp0 h ts) fun o h'=>o = .panic (Fl p e)∧∃Y:{Y:AH // Y[h.length]? = some (iC 0)∧Y[h.length+1]? = some (eC 0)∧Ok Y},h'=Y.1) :
  QL Tryd.prog 15 [.v (.string (mkB l)),fv] h fun o h'=>o = .ret (.tup [.i p,.i e])∧∃Y:{Y:AH // Ok Y},h'=Y.1:=by
 have cs:=fun L=>QhN hs (h++L) (hG.app L)
 have cc:=Qoi h ts
 refine Qan Tryd.func15 rfl Tryd.call15 Tryd.ntmps15 (congrArg Array.toList Tryd.results15) (by simp) ?_
 refine Za (YK ?_)
 repeat (first|(((with_reducible refine Qj fun K E hK hE=>?_));simp -implicitDefEqProofs only[Qc,Qd,OpW,aop,AV.QqY,↓reduceIte,Nat.reduceLT,zi3,zi27])|((with_reducible refine hK _ ?_);clear hK))
 show DefW _ _ _ _ _ _
 refine Za (QbR 1 rfl rfl rfl ?_)
 simp -implicitDefEqProofs only[Qc,Qd,OpW,aop,undef,AS.ev,↓reduceIte,seval]
 refine⟨_,_,_,rfl,?_⟩
 show DefW _ _ _ _ _ _
 refine Za (YK ?_)
 repeat (first|((first|(with_reducible (first|refine Qj fun K E hK hE=>?_|refine FunW.QqZ (cs _) ?_)));simp -implicitDefEqProofs only[Qc,Qd,OpW,QB,aop,undef,AS.ev,Qr,AV.QqY,↓reduceIte,QP,Q6,zi66,sp66,seval])|((with_reducible refine hK _ ?_);clear hK))
 show DefW _ _ _ _ _ _
 refine Za (YK ?_)
 repeat (first|((first|(with_reducible (first|refine Qj fun K E hK hE=>?_|refine FunW.QqZ cc ?_)));simp -implicitDefEqProofs only[Qc,Qd,OpW,QB,aop,AS.ev,↓reduceIte,Nat.reduceLT])|((with_reducible refine hK _ ?_);clear hK))
 show DefW _ _ _ _ _ _
 refine Za (YK ?_)
 repeat (first|((first|(with_reducible (first|refine Qj fun K E hK hE=>?_|refine FunW.panE HF fun Y=>?_)));simp -implicitDefEqProofs only[Qc,Qd,OpW,QB,aop,undef,AS.ev,Qr,↓reduceIte,seval])|(with_reducible refine hE _ _ ?_))
 have hY:=Y.2
 generalize Y.1=Y1 at *
 obtain⟨y1,y2,y3⟩:=hY
 have l1:=Qs y1
 have l2:=Qs y2
 simp only[AExit.QrC,QkN]
 refine panQ rfl y1 y2 fun L=>?_
 have u2:∀y z,((Y1.set h.length y).set (h.length+1) z++L)[h.length]? = some y:=fun y z=>by rw[List.getElem?_append_left (by simp only[List.length_set];exact l1),List.getElem?_set_ne (by omega),List.getElem?_set_self l1]
 have u3:∀y z,((Y1.set h.length y).set (h.length+1) z++L)[h.length+1]? = some z:=fun y z=>by rw[List.getElem?_append_left (by simp only[List.length_set];exact l2)];exact List.getElem?_set_self (by rw[List.length_set];exact l2)
 simp -implicitDefEqProofs only[Qc,↓reduceIte,Nat.reduceEqDiff,ti3,ti27,List.mapM_cons,List.mapM_nil,Option.pure_def,Option.bind_eq_bind,Qw,Qv,u2,u3,QH,Qo,Qt,QrT]
 exact .inr ⟨rfl,⟨_,hOk Y1 (iC p) (eC e) L l2 y3⟩,rfl⟩
end
end Go.Proofs.YticgcpebdldbgaaDoor.Ab
set_option maxRecDepth 4000
namespace Go.Proofs.YticgcpebdldbgaaDoor.Ab
open Go.Proofs
theorem FunW.cl{P:Program}{f:FuncId}{args cap:List AV}{h:AH}{Q:AOut→AH→Prop}(H:QL P f (args++cap) h Q):FunW P (.fn (.func f) [] cap) args h Q:=FunW.fn (by rw[List.nil_append];exact H)
def psR:Pg ⊕ (Int×Int)→AV
 | .inl p=>.tup [p.av,.i 0,.i 0]
 | .inr e=>.tup [(⟨[],[]⟩:Pg).av,.i e.1,.i e.2]
theorem Qov(n:Nat)(p:Pg):Below n p.av:=.agg _ fun a ha=>by
 simp only[List.mem_cons,List.not_mem_nil,or_false]at ha
 rcases ha with rfl|rfl
 ·exact QbC Dc.av n 2 (fun d=>Dc.bel n d) _
 ·exact QbC Rl.av n 6 (fun r=>Rl.bel n r) _
theorem Qmi(n:Nat)(r:Pg ⊕ (Int×Int)):Below n (psR r):=by
 cases r with
 |inl p=>exact Z4 (Qov n p) _ _
 |inr e=>exact Z4 (Qov n _) _ _
theorem Qmj{H:AH}{m:Nat}(p e:Int):Frz H m (.tup [.agg [.v (.slice none 0 0),.v (.slice none 0 0)],.i p,.i e]) (psR (.inr (p,e))):=by
 refine .tup rfl fun j a a' h1 h2=>?_
 match j,h1,h2 with
 |0,h1,h2 =>
  cases h1;cases h2
  refine .agg rfl fun j a a' h1 h2=>?_
  match j,h1,h2 with
  |0,h1,h2=>cases h1;cases h2;exact .nil 2
  |1,h1,h2=>cases h1;cases h2;exact .nil 6
  |j+2,h1,h2=>simp at h1
 |1,h1,h2=>cases h1;cases h2;exact .keep (.v _)
 |2,h1,h2=>cases h1;cases h2;exact .keep (.v _)
 |j+3,h1,h2=>simp at h1
theorem Qkh{all:List Tk}{s:PS}(hW:Wst all s){p e:Int}(h:QbY s = .err p e):e≠0:=Kp.Ps.err (n:=wdOf all) (Kp.prog_ps trivial) hW h
section
variable(l:List UInt8)(h:AH)(hG:ZJ h)
include hG
theorem QaF:QL Tryd.prog 7 [.v (.string (mkB l))] h fun o h'=>o = .ret (psR (Z8 l))∧h'=h:=by
 rw[Z8]
 cases hs:XQ l with
 |inr q =>
  obtain⟨p,e⟩:=q
  have cr:=fun fv L=>Qhy hs fv (h++L) (hG.app L)
  have e0:(e != 0)=true:=by simpa using Qaj hs
  refine Qe Tryd.func7 rfl Tryd.call7 Tryd.ntmps7 Tryd.results7 (by simp) ?_
  repeat (first|((first|(with_reducible (first|refine Qa fun K E hK hE=>?_|refine FunW.QqZ (cr _ _) ?_)));simp -implicitDefEqProofs only[Qc,Qd,OpW,QB,aop,undef,AS.ev,Qr,AV.QqY,↓reduceIte,Qu,Ql,aBin,Q1,QP,Q6,ti26,zi26,sp26,e0,seval])|(with_reducible (first|refine Qf fun K hK=>?_|refine Qm ?_|refine Qy ?_))|((with_reducible refine hK _ ?_);clear hK)|(refine Qh rfl ?_;simp only[↓reduceIte]))
  simp -implicitDefEqProofs only[Qc,↓reduceIte,Qw,Qv,ti26,List.mapM_cons,List.mapM_nil,Option.pure_def,Option.bind_eq_bind,Qw,Qv,QH,Qo,Qt,QrT,seval]
  exact Qq (htake _ _) (Qmj _ _) ⟨rfl,rfl⟩
 |inl ts =>
  obtain⟨hD,hW,hN,hl⟩:=QfS hs
  obtain⟨H,hH⟩:∃H,H=h++[pgB nilV nilV,pgB nilV nilV]:=⟨_,rfl⟩
  have hHl:H.length=h.length+2:=by rw[hH];simp
  have hHG:ZJ H:=by rw[hH];exact hG.app _
  have hPo:=Qpw H ts (.cells 66 4 [.agg [.sl 3 (tks ts) none,.i 0,.v (.slice none 0 0),.v (.map none)]])
  have hout:∀i,i<h.length→(H++[iC 0,eC 0,.cells 66 4 [.agg [.sl 3 (tks ts) none,.i 0,.v (.slice none 0 0),.v (.map none)]]]++[.dead,.dead])[i]? = h[i]? := fun i hi=>by
   rw[List.append_assoc,List.getElem?_append_left (by omega),hH,List.getElem?_append_left hi]
  have hlen:(H++[iC 0,eC 0,.cells 66 4 [.agg [.sl 3 (tks ts) none,.i 0,.v (.slice none 0 0),.v (.map none)]]]++[AB.dead,.dead]).length=h.length+7:=by simp only[QsA,QrW,QrX,hHl]
  have cf:=Qkl (P:=P0 H ts) (s:=⟨ts,[]⟩) hW hPo hN hD (o:=h.length+1) (by omega) (by simp only[P0];omega) (by simp only[P0];omega) (by simp only[P0];omega)
   (by rw[List.append_assoc,List.getElem?_append_left (by omega),hH,hget];rfl)
  have hst:∀(K:AH→Prop) (Y:AH) a b L,H.length+1<Y.length→(∀i,i<h.length→Y[i]? = h[i]?)→∀i,i<h.length→((Y.set H.length a).set (H.length+1) b++L)[i]? = h[i]? := fun K Y a b L hl hy i hi=>by
   rw[List.getElem?_append_left (by simp only[List.length_set];omega),List.getElem?_set_ne (by omega),List.getElem?_set_ne (by omega)];exact hy i hi
  have hc0:∀Y,KpO (H++[iC 0,eC 0,.cells 66 4 [.agg [.sl 3 (tks ts) none,.i 0,.v (.slice none 0 0),.v (.map none)]]]++[AB.dead,.dead]) (P0 H ts) (h.length+1) Y→Y[H.length]? = some (iC 0)∧Y[H.length+1]? = some (eC 0)∧h.length+7≤Y.length∧(∀i,i<h.length→Y[i]? = h[i]?)∧Y[h.length]? = some (pgB nilV nilV):=fun Y hY=>by
   refine⟨?_,?_,by have:=hY.long;omega,fun i hi=>?_,?_⟩
   ·rw[hY.out H.length (by omega) (by omega) (by simp only[P0];omega) (by simp only[P0];omega) (by simp only[P0];omega),List.append_assoc,Qad];rfl
   ·rw[hY.out (H.length+1) (by omega) (by omega) (by simp only[P0];omega) (by simp only[P0];omega) (by simp only[P0];omega),List.append_assoc,hget];rfl
   ·rw[hY.out i (by omega) (by omega) (by simp only[P0];omega) (by simp only[P0];omega) (by simp only[P0];omega)];exact hout i hi
   ·rw[hY.out h.length (by omega) (by omega) (by simp only[P0];omega) (by simp only[P0];omega) (by simp only[P0];omega),List.append_assoc,List.getElem?_append_left (by omega),hH,Qad];rfl
  cases hp:QbY ⟨ts,[]⟩with
  |err p e =>
   rw[hp]at cf
   have e0:(e != 0)=true:=by simpa using Qkh hW hp
   have cr:=Qjo hs (.fn (.func 16) [] [.ptr (h.length+1) 0 0]) H hHG (fun Y=>h.length+2≤Y.length∧(∀i,i<h.length→Y[i]? = h[i]?)∧Y[h.length]? = some (pgB nilV nilV))
    (fun Y a b L hl hy=>⟨by simp only[QsA,List.length_set];omega,hst (fun _=>True) Y a b L hl hy.2.1,by rw[List.getElem?_append_left (by simp only[List.length_set];omega),List.getElem?_set_ne (by omega),List.getElem?_set_ne (by omega)];exact hy.2.2⟩) (p:=p) (e:=e)
    (FunW.cl (cf.mono fun o h' q=>by
     obtain⟨q1,⟨Y,hY⟩,q2⟩:=q
     obtain⟨y1,y2,y3,y4,y5⟩:=hc0 Y hY
     exact⟨q1,⟨Y,y1,y2,by omega,y4,y5⟩,q2⟩))
   rw[hH]at cr
   refine Qe Tryd.func7 rfl Tryd.call7 Tryd.ntmps7 Tryd.results7 (by simp) ?_
   repeat (first|((first|(with_reducible (first|refine Qa fun K E hK hE=>?_|refine FunW.retE (FunW.call cr) fun Y=>?_)));simp -implicitDefEqProofs only[Qc,Qd,OpW,QB,aop,undef,Xa,AS.ev,Qr,AV.QqY,↓reduceIte,Qu,Ql,aBin,Q1,QP,Q6,ti26,zi26,sp26,e0,QsA,seval])|(with_reducible refine Qf fun K hK=>?_)|((with_reducible refine hK _ ?_);clear hK)|(refine Qh rfl ?_;simp only[↓reduceIte]))
   have hY:=Y.2
   generalize Y.1=Y1 at *
   obtain⟨y0,y1,y2⟩:=hY
   have u1:∀y,(Y1.set h.length y)[h.length]? = some y:=fun y=>List.getElem?_set_self (by omega)
   have ht:∀y,(Y1.set h.length y).take h.length=h:=fun y=>List.ext_getElem? fun i=>by
    by_cases hi:i<h.length
    ·rw[List.getElem?_take_of_lt hi,List.getElem?_set_ne (by omega)];exact y1 i hi
    ·rw[List.getElem?_take_eq_none (by omega),List.getElem?_eq_none (by omega)]
   simp -implicitDefEqProofs only[Qc,↓reduceIte,Nat.reduceAdd,y2]
   repeat (first|(with_reducible (first|refine Qm ?_|refine Qy ?_))|((with_reducible refine hK _ ?_);clear hK))
   simp -implicitDefEqProofs only[Qc,↓reduceIte,Qw,Qv,ti26,List.mapM_cons,List.mapM_nil,Option.pure_def,Option.bind_eq_bind,Qw,Qv,u1,QH,Qo,Qt,QrT,seval]
   exact Qq (ht _) (Qmj _ _) ⟨by rw[hp],rfl⟩
  |ok pg s2 =>
   rw[hp]at cf
   have e0:((0:Int) != 0)=false:=rfl
   obtain⟨D,hDe⟩:∃D,D=pgB (.sl 2 (vs Dc.av pg.decls) none) (.sl 6 (vs Rl.av pg.rules) none):=⟨_,rfl⟩
   have cr:=Qmr hs (.fn (.func 16) [] [.ptr (h.length+1) 0 0]) H hHG (fun Y=>h.length+2≤Y.length∧(∀i,i<h.length→Y[i]? = h[i]?)∧Y[h.length]? = some (pgB nilV nilV)∧Y[h.length+1]? = some D)
    (fun Y a b L hl hy=>⟨by simp only[QsA,List.length_set];omega,hst (fun _=>True) Y a b L hl hy.2.1,by rw[List.getElem?_append_left (by simp only[List.length_set];omega),List.getElem?_set_ne (by omega),List.getElem?_set_ne (by omega)];exact hy.2.2.1,by rw[List.getElem?_append_left (by simp only[List.length_set];omega),List.getElem?_set_ne (by omega),List.getElem?_set_ne (by omega)];exact hy.2.2.2⟩)
    (FunW.cl (cf.mono fun o h' q=>by
     obtain⟨q1,⟨Y,hY,hY2⟩,q2⟩:=q
     obtain⟨y1,y2,y3,y4,y5⟩:=hc0 Y hY
     exact⟨q1,⟨Y,y1,y2,by omega,y4,y5,by rw[hDe];exact hY2⟩,q2⟩))
   rw[hH]at cr
   refine Qe Tryd.func7 rfl Tryd.call7 Tryd.ntmps7 Tryd.results7 (by simp) ?_
   repeat (first|((first|(with_reducible (first|refine Qa fun K E hK hE=>?_|refine FunW.retE (FunW.call cr) fun Y=>?_)));simp -implicitDefEqProofs only[Qc,Qd,OpW,QB,aop,undef,Xa,AS.ev,Qr,AV.QqY,↓reduceIte,Qw,Qv,Qu,Ql,aBin,Q1,ti26,zi26,QsA,seval])|(with_reducible (first|refine Qf fun K hK=>?_|refine Qk ?_|refine Qb ?_))|((with_reducible refine hK _ ?_);clear hK)|(refine Qh rfl ?_;simp only[↓reduceIte,QrN]))
   have hY:=Y.2
   generalize Y.1=Y1 at *
   obtain⟨y0,y1,y2,y3⟩:=hY
   rw[hDe]at y3
   have u1:∀y,(Y1.set h.length y)[h.length]? = some y:=fun y=>List.getElem?_set_self (by omega)
   have ht:∀y,(Y1.set h.length y).take h.length=h:=fun y=>List.ext_getElem? fun i=>by
    by_cases hi:i<h.length
    ·rw[List.getElem?_take_of_lt hi,List.getElem?_set_ne (by omega)];exact y1 i hi
    ·rw[List.getElem?_take_eq_none (by omega),List.getElem?_eq_none (by omega)]
   simp -implicitDefEqProofs only[Qc,↓reduceIte,Nat.reduceAdd,y2,y3]
   repeat (first|(with_reducible refine Qm ?_)|((with_reducible refine hK _ ?_);clear hK))
   simp -implicitDefEqProofs only[Qc,↓reduceIte,Qw,Qv,ti26,List.mapM_cons,List.mapM_nil,Option.pure_def,Option.bind_eq_bind,Qw,Qv,u1,QH,Qo,Qt,QrT,seval]
   exact Qq (ht _) (.keep (Qmi _ (.inl pg))) ⟨by rw[hp];rfl,rfl⟩
end
end Go.Proofs.YticgcpebdldbgaaDoor.Ab
set_option maxRecDepth 4000
namespace Go.Proofs.YticgcpebdldbgaaDoor.Ab
open Go.Proofs
def tvB(n:Nat)(l:List Int):Prop:=∀v∈l,0≤v∧v<n
theorem tvB.mono{n m:Nat}{l:List Int}(h:tvB n l)(hn:n≤m):tvB m l:=fun v hv=>by have:=h v hv;omega
theorem tvB.app{n:Nat}{l m:List Int}(h:tvB n l)(k:tvB n m):tvB n (l++m):=fun v hv=>(List.mem_append.1 hv).elim (h v) (k v)
theorem Qab(n:Nat):tvB n []:=fun v hv=>(List.not_mem_nil hv).elim
def VbT(f:PS→PR T):Prop:=∀s t s2,f s = .ok t s2→s.names.length≤s2.names.length∧tvB s2.names.length t.vars∧tvB s2.names.length (XR t.args)
theorem QbD{b:List UInt8}{s s2:PS}{u:Unit}(h:XO b s = .ok u s2):s2.names=s.names:=by
 unfold XO at h
 split at h
 ·cases h;rfl
 ·cases h
theorem Qka{s s2:PS}{x:ByteArray}(h:ZD s = .ok x s2):s2.names=s.names:=by
 unfold ZD at h
 split at h
 ·cases h
 ·split at h
  ·cases h
  ·cases h;rfl
theorem QjE(t:T):XR [t]=t.vars:=by simp[XR]
section
variable{ex:PS→PR T}(H:VbT ex)
include H
theorem QkW:∀(m:Nat) (l:List T) (s:PS) (a:List T) (s2:PS),tvB s.names.length (XR l)→YU ex m l s = .ok a s2→s.names.length≤s2.names.length∧tvB s2.names.length (XR a)
 |0,_,_,_,_,_,h=>by cases h
 |m+1,l,s,a,s2,hl,h=>by
  rw[YU]at h
  obtain⟨t,s1,h1,h⟩:=bind_ok h
  obtain⟨a1,a2,_⟩:=H s t s1 h1
  have hl2:tvB s1.names.length (XR (l++[t])):=by rw[Qdp,QjE];exact(hl.mono a1).app a2
  split at h
  ·obtain⟨b1,b2⟩:=QkW m (l++[t]) s1.nx a s2 hl2 h
   exact⟨Nat.le_trans a1 b1,b2⟩
  ·obtain⟨u,s3,h3,h⟩:=bind_ok h
   have e:=QbD h3
   cases h
   rw[e];exact⟨a1,hl2⟩
theorem QoM{s s2:PS}{g:G}(h:Yz ex s = .ok g s2):s.names.length≤s2.names.length∧tvB s2.names.length (XR g.args):=by
 rw[Yz]at h
 obtain⟨x,s1,h1,h⟩:=bind_ok h
 have e:=Qka h1
 split at h
 ·obtain⟨l,s3,h3,h⟩:=bind_ok h
  obtain⟨b1,b2⟩:=QkW H _ [] s1.nx l s3 (by rw[XR];exact Qab _) h3
  cases h
  exact⟨by rw[←e];exact b1,b2⟩
 ·cases h
  exact⟨by rw[e];exact Nat.le_refl _,by show tvB _ (XR []);rw[XR];exact Qab _⟩
theorem QpU:VbT (pOpT ex):=fun s t s2 h=>by
 unfold pOpT at h
 split at h
 ·cases h;exact⟨Nat.le_refl _,by simp only[T.vars];exact Qab _,Qab _⟩
 ·split at h
  ·unfold pVari at h
   split at h
   ·rename_i hv
    cases h
    refine⟨Nat.le_refl _,?_,Qab _⟩
    show tvB s.nx.names.length [_]
    intro v hm
    rw[List.mem_singleton]at hm
    subst hm
    omega
   ·cases h
    refine⟨by show s.names.length≤(s.nx.names++[_]).length;rw[List.length_append];exact Nat.le_add_right _ _,?_,Qab _⟩
    show tvB (s.nx.names++[_]).length [_]
    intro v hm
    rw[List.mem_singleton]at hm
    subst hm
    rw[List.length_append,List.length_singleton]
    omega
  ·split at h
   ·obtain⟨a,s1,h1,h⟩:=bind_ok h
    obtain⟨b1,b2⟩:=QoM H h1
    cases h
    refine⟨b1,?_,b2⟩
    simp only[T.vars]
    exact b2
   ·split at h
    ·split at h
     ·cases h
     ·cases h;exact⟨Nat.le_refl _,by simp only[T.vars];exact Qab _,Qab _⟩
    ·split at h
     ·obtain⟨t1,s1,h1,h⟩:=bind_ok h
      obtain⟨u,s3,h3,h⟩:=bind_ok h
      obtain⟨a1,a2⟩:=H _ _ _ h1
      have e:=QbD h3
      cases h
      rw[e];exact⟨a1,a2⟩
     ·cases h
end
theorem QgZ{op:PS→PR T}(H:VbT op)(ops:List (List UInt8)):∀(m:Nat) (t:T) (s:PS) (a:T) (s2:PS),tvB s.names.length t.vars→tvB s.names.length (XR t.args)→XK op ops m t s = .ok a s2→s.names.length≤s2.names.length∧tvB s2.names.length a.vars∧tvB s2.names.length (XR a.args)
 |0,t,s,a,s2,ht,hk,h=>by cases h;exact⟨Nat.le_refl _,ht,hk⟩
 |m+1,t,s,a,s2,ht,hk,h=>by
  rw[XK]at h
  split at h
  ·obtain⟨u,s3,h3,h⟩:=bind_ok h
   obtain⟨a1,a2,_⟩:=H _ _ _ h3
   have a1':s.names.length≤s3.names.length:=a1
   have hv:tvB s3.names.length (XR [t,u]):=by simp only[XR,Qsc];exact(ht.mono a1').app a2
   obtain⟨b1,b2⟩:=QgZ H ops m (.mk 2 0 s.tk.text [t,u]) s3 a s2 (by simp only[T.vars];exact hv) hv h
   exact⟨Nat.le_trans a1' b1,b2⟩
  ·cases h;exact⟨Nat.le_refl _,ht,hk⟩
theorem QiT{op:PS→PR T}(H:VbT op)(ops:List (List UInt8)):VbT (X4 op ops):=fun s t s2 h=>by
 rw[X4]at h
 obtain⟨u,s1,h1,h⟩:=bind_ok h
 obtain⟨a1,a2,a3⟩:=H _ _ _ h1
 obtain⟨b1,b2⟩:=QgZ H ops _ u s1 t s2 a2 a3 h
 exact⟨Nat.le_trans a1 b1,b2⟩
theorem QiW:∀n:Nat,VbT (X5 n)
 |0=>fun s t s2 h=>by cases h
 |n+1=>QiT (QiT (QpU (QiW n)) Yy) ZU
theorem QgD:VbT XW:=fun s t s2 h=>QiW _ s t s2 h
theorem Ql5{op:Int}{s s2:PS}{g:G}(h:Qa6 op s = .ok g s2):s.names.length≤s2.names.length∧tvB s2.names.length (XR g.args):=by
 rw[Qa6]at h
 obtain⟨u,s1,h1,h⟩:=bind_ok h
 obtain⟨t,s3,h3,h⟩:=bind_ok h
 obtain⟨w,s4,h4,h⟩:=bind_ok h
 obtain⟨a1,a2,_⟩:=QgD _ _ _ h3
 have e1:=QbD h1
 have e4:=QbD h4
 cases h
 rw[e4]
 exact⟨by rw[←e1];exact a1,by show tvB _ (XR [t]);rw[QjE];exact a2⟩
theorem Qno{s s2:PS}{g:G}(h:ZO s = .ok g s2):s.names.length≤s2.names.length∧tvB s2.names.length (XR g.args):=by
 have e0:XR []=[]:=rfl
 unfold ZO at h
 split at h
 ·split at h
  ·cases h;exact⟨Nat.le_refl _,by show tvB _ (XR []);rw[e0];exact Qab _⟩
  ·split at h
   ·cases h;exact⟨Nat.le_refl _,by show tvB _ (XR []);rw[e0];exact Qab _⟩
   ·split at h
    ·exact Ql5 (s:=s.nx) h
    ·split at h
     ·exact Ql5 (s:=s.nx) h
     ·cases h
 ·obtain⟨t,s1,h1,h⟩:=bind_ok h
  obtain⟨a1,a2,a3⟩:=QgD _ _ _ h1
  split at h
  ·rename_i op turn hc
   obtain⟨u,s3,h3,h⟩:=bind_ok h
   obtain⟨b1,b2,_⟩:=QgD _ _ _ h3
   have b1':s1.names.length≤s3.names.length:=b1
   cases h
   refine⟨Nat.le_trans a1 b1',?_⟩
   show tvB s2.names.length (XR (if turn=true then[u,t]else[t,u]))
   split
   ·simp only[XR,Qsc];exact b2.app (a2.mono b1')
   ·simp only[XR,Qsc];exact(a2.mono b1').app b2
  ·split at h
   ·cases h
    exact⟨a1,a3⟩
   ·cases h
theorem Qib(l:List G)(g:G):Xj (l++[g])=Xj l++XR g.args:=by simp[Xj]
theorem Qhc(most:Nat):∀(m:Nat) (l:List G) (s:PS) (a:List G) (s2:PS),tvB s.names.length (Xj l)→Yh most m l s = .ok a s2→s.names.length≤s2.names.length∧tvB s2.names.length (Xj a)
 |0,_,_,_,_,_,h=>by cases h
 |m+1,l,s,a,s2,hl,h=>by
  rw[Yh]at h
  split at h
  ·cases h
  ·obtain⟨g,s1,h1,h⟩:=bind_ok h
   obtain⟨a1,a2⟩:=Qno h1
   have hl2:tvB s1.names.length (Xj (l++[g])):=by rw[Qib];exact(hl.mono a1).app a2
   split at h
   ·cases h
   ·split at h
    ·obtain⟨b1,b2⟩:=Qhc most m _ s1.nx a s2 hl2 h
     exact⟨Nat.le_trans a1 b1,b2⟩
    ·cases h;exact⟨a1,hl2⟩
theorem Qnr{most:Nat}{s s2:PS}{a:List G}(h:Yo most s = .ok a s2):tvB s2.names.length (Xj a):=(Qhc most _ [] s a s2 (Qab _) h).2
end Go.Proofs.YticgcpebdldbgaaDoor.Ab
set_option maxRecDepth 4000
namespace Go.Proofs.YticgcpebdldbgaaDoor.Ab
open Go.Proofs
structure KpG (h:AH) (P:Pz) (o o2:Nat) (Y:AH):Prop where
 long:h.length≤Y.length
 out:∀i,i<h.length→i≠o→i≠o2→i≠P.i→i≠P.j→i≠P.g→Y[i]? = h[i]?
def GfQ(h:AH)(P:Pz)(o o2:Nat):PR (List G×List ByteArray)→AOut→AH→Prop
 | .ok q _,x,h'=>x = .ret (.tup [])∧∃Y:{Y:AH // KpG h P o o2 Y∧Y[o]? = some (.cells 32 1 [.sl 3 (lvG gv h.length q.1) none])∧At Y h.length (layG 54 h.length q.1)∧Y[o2]? = some (.cells 46 1 [.sl 1 (strs q.2) none])},h'=Y.1
 | .err p e,x,h'=>x = .panic (Fl p e)∧∃Y:{Y:AH // KpG h P o o2 Y∧Y[o2]? = h[o2]?},h'=Y.1
def qV(l:List G):List G:=l.map fun g=>⟨g.op,g.name,maps (fun v=>((plc (ded [] (Xj l)) v:Nat):Int)) g.args⟩
def qN(s:PS)(l:List G):List ByteArray:=(ded [] (Xj l)).map fun v=>s.names.getD v.toNat eB
theorem Qma(s:PS):QfL s=(Yo 40 s).bind fun l s=>(pEnd s).bind fun _ s=>.ok (qV l,qN s l) s:=rfl
theorem Qmn(l:List G):Xp gG [] l=(qV l,ded [] (Xj l)):=by
 have:=Qbv [] l []
 simp only[Qsc]at this
 exact this
mutual
theorem T.Qrw:∀t:T,t.vars.length≤t.nds
 | .mk k i x l=>by
  have:=QeN l
  simp only[T.vars,T.nds]
  split
  ·simp
  ·split
   ·omega
   ·simp
theorem QeN:∀l:List T,(XR l).length≤ndsL l
 |[]=>by simp[XR]
 |t::l=>by
  have h1:=T.Qrw t
  have h2:=QeN l
  simp only[XR,ndsL,QsA]
  omega
end
theorem QfA:∀l:List G,(Xj l).length≤ndG l
 |[]=>Nat.le_refl _
 |g::l=>by
  have h1:=QeN g.args
  have h2:=QfA l
  have e:Xj (g::l)=XR g.args++Xj l:=by simp[Xj]
  rw[e,List.length_append,ndG];omega
section
variable{P:Pz}{s:PS}(hW:Wst P.all s){h:AH}(H:P.ok h)(hN:P.all.length≤1000000)(hD:TkOk P.all){o o2:Nat}(hol:o<h.length)(hoi:o≠P.i)(hoj:o≠P.j)(hog:o≠P.g)
 (hpl:o2<h.length) (hpi:o2≠P.i) (hpj:o2≠P.j) (hpg:o2≠P.g) (hoo:o≠o2)
include hW H hN hD hol hoi hoj hog hpl hpi hpj hpg hoo
theorem Qix(hob:h[o]? = some (.cells 32 1 [nilV]))(hob2:h[o2]? = some (.cells 46 1 [nilV])):QL Tryd.prog 28 [.ptr P.i 0 0,.ptr o 0 0,.ptr o2 0 0] (ph h P s) (GfQ h P o o2 (QfL s)):=by
 have cg:=QcS hW H hN hD 40 (by omega)
 rw[Qma]
 cases hr:Yo 40 s with
 |err p e =>
  rw[hr]at cg
  have cg2:QL Tryd.prog 29 [.ptr P.i 0 0,.i 40] (ph h P s) fun o h'=>o = .panic (Fl p e)∧∃s2:PS,h'=ph h P s2:=cg
  refine Qe Tryd.func28 rfl Tryd.call28 Tryd.ntmps28 Tryd.results28 (by simp) ?_
  repeat (first|((first|(with_reducible (first|refine Qa fun K E hK hE=>?_|refine FunW.panE (FunW.call cg2) fun r=>?_)));simp -implicitDefEqProofs only[Qc,Qd,OpW,QB,aop,undef,AS.ev,Qr,↓reduceIte,Nat.reduceLT])|(with_reducible refine hE _ _ ?_))
  exact .inr ⟨rfl,⟨_,⟨by rw[QU];exact Nat.le_refl _,fun i h1 h2 h3 h4 h5 h6=>by rw[Zu H h4 h5 h6]⟩,by rw[Zu H hpi hpj hpg]⟩,rfl⟩
 |ok l s2 =>
  rw[hr]at cg
  have cg2:QL Tryd.prog 29 [.ptr P.i 0 0,.i 40] (ph h P s) fun o h'=>o = .ret (.sl 3 (lvG gv h.length l) none)∧h'=ph h P s2++layG 54 h.length l:=cg
  have hW2:Wst P.all s2:=Kp.Ps.ok (n:=wdOf P.all) (Kp.goals_ps trivial 40) hW hr
  have hl0:=QdB hr
  have f1:=QU h P s2
  obtain⟨X,hX⟩:∃X,X=(ph h P s2++layG 54 h.length l).set o (.cells 32 1 [.sl 3 (lvG gv h.length l) none]):=⟨_,rfl⟩
  have hXl:X.length=h.length+gsz l:=by rw[hX,List.length_set,List.length_append,QU,QO]
  have g0:(ph h P s2++layG 54 h.length l)[o]? = some (.cells 32 1 [nilV]):=by rw[List.getElem?_append_left (by omega),Zu H hoi hoj hog];exact hob
  have hXo:X[o]? = some (.cells 32 1 [.sl 3 (lvG gv h.length l) none]):=by rw[hX];exact List.getElem?_set_self (by rw[List.length_append];omega)
  have hXi:X[P.i]? = some (pN P s2 (some P.g)):=by rw[hX,List.getElem?_set_ne hoi,List.getElem?_append_left (by rw[f1];exact H.i),X6 H];rfl
  have hXlow:∀i,i<h.length→i≠o→i≠P.i→i≠P.j→i≠P.g→X[i]? = h[i]? := fun i h1 h2 h3 h4 h5=>by rw[hX,List.getElem?_set_ne (Ne.symm h2),List.getElem?_append_left (by omega),Zu H h3 h4 h5]
  have hXA:At X h.length (layG 54 h.length l):=by
   have:=At.base (At.mid [] (layG 54 h.length l) [] rfl) f1
   rw[List.nil_append,List.append_nil]at this
   refine At.keep this fun i i1 i2=>?_
   rw[hX,List.getElem?_set_ne (by omega)]
  have hi3:=hXi
  rw[pN]at hi3
  by_cases hk:s2.tk.kind=0
  ·have ce:=Qnj hW2 hXi hk
   have hE:((PR.ok l s2).bind fun l s=>(pEnd s).bind fun _ s=>PR.ok (qV l,qN s l) s) = .ok (qV l,qN s2 l) s2:=by
    have:pEnd s2 = .ok () s2:=by rw[pEnd,if_pos hk]
    show(pEnd s2).bind _=_
    rw[this];rfl
   rw[hE]
   rw[hX]at ce hi3
   refine Qe Tryd.func28 rfl Tryd.call28 Tryd.ntmps28 Tryd.results28 (by simp) ?_
   iterate 6 (try (first|((first|(with_reducible (first|refine Qa fun K E hK hE=>?_|refine FunW.QqZ cg2 ?_|refine FunW.QqZ ce ?_)));simp -implicitDefEqProofs only[Qc,Qd,OpW,QB,aop,undef,AS.ev,Qr,AV.QqY,↓reduceIte,Qg,Qu,Ql,ti32,QJ,Qp,g0,hi3,seval])|((with_reducible refine hK _ ?_);clear hK)))
   rw[←hX]
   have hXo2:X[o2]? = some (.cells 46 1 [nilV]):=by rw[hXlow o2 hpl (Ne.symm hoo) hpi hpj hpg];exact hob2
   refine YD o2 46 1 1 (.grow 9 1 0) (.inr ⟨_,rfl⟩) [nilV] [.sl 1 [] (some X.length)] 0 hXo2 rfl rfl (by simp[AV.cells]) ?_
   obtain⟨X2,hX2⟩:∃X2,X2=(X++[AB.grow 9 1 0]).set o2 (.cells 46 1 [.sl 1 [] (some X.length)]):=⟨_,rfl⟩
   rw[←hX2]
   have hX2l:X2.length=X.length+1:=by rw[hX2,List.length_set,List.length_append];rfl
   have hX2e:∀i,i<X.length→i≠o2→X2[i]? = X[i]? := fun i h1 h2=>by rw[hX2,List.getElem?_set_ne (Ne.symm h2),List.getElem?_append_left h1]
   have hX2p:X2[o2]? = some (.cells 46 1 [.sl 1 [] (some X.length)]):=by rw[hX2];exact List.getElem?_set_self (by rw[List.length_append];omega)
   have hX2t:X2[X.length]? = some (.grow 9 1 0):=by rw[hX2,List.getElem?_set_ne (by omega),List.getElem?_append_right (Nat.le_refl _),Nat.sub_self];rfl
   iterate 2 (try (first|(((with_reducible refine Qa fun K E hK hE=>?_));simp -implicitDefEqProofs only[Qc,Qd,OpW,aop,AV.QqY,↓reduceIte,zi84,seval])|((with_reducible refine hK _ ?_);clear hK)))
   refine YD X2.length 84 2 1 (.grow 3 1 0) (.inr ⟨_,rfl⟩) [.agg [.v (.map none),.v (.slice none 0 0)]] [.agg [.v (.map none),.sl 1 [] (some (X2.length+1))]] 1 (by rw[List.getElem?_append_right (Nat.le_refl _),Nat.sub_self];rfl) rfl (by rw[List.length_append];rfl) (by simp[AV.cells]) ?_
   have hZ:((X2++[AB.cells 84 2 [.agg [.v (.map none),.v (.slice none 0 0)]]])++[AB.grow 3 1 0]).set X2.length (AB.cells 84 2 [.agg [.v (.map none),.sl 1 [] (some (X2.length+1))]])=X2++[AB.cells 84 2 [.agg [.v (.map none),.sl 1 [] (some (X2.length+1))]],AB.grow 3 1 0]:=by
    rw[List.append_assoc,List.set_append_right _ _ (Nat.le_refl _),Nat.sub_self];rfl
   have hN0:NSt (X2++[AB.cells 84 2 [.agg [.v (.map none),.sl 1 [] (some (X2.length+1))]],.grow 3 1 0]) X2.length []:=⟨.v (.map none),by rw[List.getElem?_append_right (Nat.le_refl _),Nat.sub_self];rfl,by rw[List.getElem?_append_right (by omega),Nat.add_sub_cancel_left];rfl,.inl ⟨rfl,rfl⟩⟩
   rw[hZ]
   obtain⟨Z0,hZ0⟩:∃Z0,Z0=X2++[AB.cells 84 2 [.agg [.v (.map none),.sl 1 [] (some (X2.length+1))]],AB.grow 3 1 0]:=⟨_,rfl⟩
   rw[←hZ0]at hN0
   rw[←hZ0]
   have hZl:Z0.length=X2.length+2:=by rw[hZ0,List.length_append];rfl
   have hZe:∀i,i<X2.length→Z0[i]? = X2[i]? := fun i h1=>by rw[hZ0,List.getElem?_append_left h1]
   obtain⟨hok,hl40⟩:=Qbu hr
   have hps:∀g∈l,pss g.args:=fun g hg=>(QdA (hok g hg)).1
   have hnd:∀m:List G,(∀g∈m,ndsL g.args≤200)→ndG m≤200 * m.length:=fun m=>by
    induction m with
    |nil=>intro _;exact Nat.le_refl _
    |cons g m ih =>
     intro hm
     have h1:=hm g (by simp)
     have h2:=ih fun x hx=>hm x (by simp[hx])
     rw[ndG,List.length_cons];omega
   have hnl:=hnd l fun g hg=>(QdA (hok g hg)).2
   have hZA:At Z0 h.length (layG 54 h.length l):=hXA.keep fun i i1 i2=>by rw[QO]at i2;rw[hZe i (by omega),hX2e i (by omega) (by omega)]
   have hZo:Z0[o]? = some (.cells 32 1 [.sl 3 (lvG gv h.length l) none]):=by rw[hZe o (by omega),hX2e o (by omega) hoo];exact hXo
   have c1:=retQ (Qd9 l hps Z0 X2.length h.length [] (by omega) (by simp only[QrX];omega) (by omega) (by omega) hN0 hZA)
   rw[Qe6 gv 3 h.length hl0]at c1
   repeat (first|((first|(with_reducible (first|refine Qa fun K E hK hE=>?_|refine FunW.retE (FunW.call c1) fun Y=>?_)));simp -implicitDefEqProofs only[Qc,Qd,OpW,QB,aop,undef,Xa,AS.ev,Qr,↓reduceIte,Qg,Qw,Qv,aLen,goInt,ti32,ti82,un82,Qd4,hZo,seval])|((with_reducible refine hK _ ?_);clear hK))
   have hY:=Y.2
   generalize Y.1=Y1 at *
   obtain⟨_,p1,n1,a1⟩:=hY
   rw[Qmn]at n1 a1
   simp only at n1 a1
   obtain⟨toV,z1,z2,z3⟩:=n1
   have hvb:=Qnr hr
   generalize hOr:ded [] (Xj l)=ord at *
   have hord:∀v∈ord,0≤v∧v<s2.names.length:=fun v hv=>hvb v (by rw[←hOr,Qij]at hv;exact hv.resolve_left (List.not_mem_nil))
   have hl1:X2.length+1<Y1.length:=Qs z2
   have hYe:∀i,i<X2.length→¬(h.length≤i∧i<h.length+gsz l)→Y1[i]? = X2[i]? := fun i h1 h2=>by rw[p1.out i h1 h2,hZe i h1]
   have hYi:Y1[P.i]? = some (pN P s2 (some P.g)):=by rw[hYe P.i (by have:=H.i;omega) (by have:=H.i;omega),hX2e P.i (by have:=H.i;omega) (Ne.symm hpi)];exact hXi
   have hYo:Y1[o]? = some (.cells 32 1 [.sl 3 (lvG gv h.length l) none]):=by rw[hYe o (by omega) (by omega),hX2e o (by omega) hoo];exact hXo
   have hYp:Y1[o2]? = some (.cells 46 1 [.sl 1 [] (some X.length)]):=by rw[hYe o2 (by omega) (by omega)];exact hX2p
   have hYt:Y1[X.length]? = some (.grow 9 1 0):=by rw[hYe X.length (by omega) (by omega)];exact hX2t
   have hYk:KpG h P o o2 Y1:=⟨by omega,fun i h1 h2 h3 h4 h5 h6=>by rw[hYe i (by omega) (by omega),hX2e i (by omega) h3];exact hXlow i h1 h2 h4 h5 h6⟩
   have hqn:qN s2 l=ord.map fun v=>s2.names.getD v.toNat eB:=by rw[qN,hOr]
   have hnm:(qN s2 l).length=ord.length:=by rw[hqn,List.length_map]
   have hob:ord.length≤1000000:=by
    have:=QcO [] (Xj l)
    have h3:(Xj l).length≤ndG l:=QfA l
    rw[hOr]at this
    simp only[QrX]at this
    omega
   simp -implicitDefEqProofs only[Qc,z1]
   iterate 1 (try (((with_reducible refine hK _ ?_);clear hK)))
   iterate 2 (try ((with_reducible refine Qi ?_)))
   obtain⟨I,hI⟩:∃I:Nat→AS→Prop,I=fun m' s=>∃j:Nat,m'=ord.length - j∧j≤ord.length∧s.h.length=Y1.length∧(∀i,i≠o2→i≠X.length→s.h[i]? = Y1[i]?)∧s.h[o2]? = some (.cells 46 1 [.sl 1 (strs ((qN s2 l).take j)) (some X.length)])∧s.h[X.length]? = some (.grow 9 1 j)∧s.tm 0 = .ptr P.i 0 0∧s.tm 2 = .ptr o2 0 0∧s.tm 16 = .sl 1 (ints ord) (some (X2.length+1))∧s.tm 17 = .i ord.length∧s.tm 18 = .i j:=⟨_,rfl⟩;refine QR I ?_ (m:=ord.length) ?_
   ·intro m' s hs;rw[hI]at hs;obtain⟨tm,hp⟩:=s;dsimp only at hs;obtain⟨j,rfl,hj,hle,hfr,hs2,hst,t0,t2,t16,t17,t18⟩:=hs
    have hpi2:hp[P.i]? = some (pN P s2 (some P.g)):=by rw[hfr P.i (Ne.symm hpi) (by have:=H.i;omega)];exact hYi
    rw[pN]at hpi2
    by_cases hlt:j<ord.length
    ·have y1:((j:Nat):Int)<((ord.length:Nat):Int):=by omega
     have hv:=hord _ (List.getElem_mem hlt)
     obtain⟨k,hk⟩:∃k:Nat,ord[j]=(k:Int):=⟨ord[j].toNat,by omega⟩
     have hat:(ints ord)[j]? = some (.i ((k:Nat):Int)):=by rw[←hk];exact Qnt hlt
     rw[hk]at hv
     have hkl:k<s2.names.length:=by omega
     have hnk:(strs s2.names)[k]? = some (.v (.string s2.names[k])):=by rw[strs,List.getElem?_map,List.getElem?_eq_getElem hkl];rfl
     have w1:IntKind.i64.wrap (((j:Nat):Int)+1)=((j+1:Nat):Int):=XE (by omega)
     have htl:(strs ((qN s2 l).take j)).length=j:=by rw[YH,List.length_take,hnm];omega
     have hm1:(j+1) * 16≤140737488355328:=by omega
     have hm2:j+1≤maxLen:=by simp only[maxLen];omega
     have hX9:X.length<hp.length:=Qs hst
     have u1:∀y,(hp.set X.length y)[o2]? = some (.cells 46 1 [.sl 1 (strs ((qN s2 l).take j)) (some X.length)]):=fun y=>by rw[List.getElem?_set_ne (by omega)];exact hs2
     have hnext:strs ((qN s2 l).take (j+1))=strs ((qN s2 l).take j)++[.v (.string s2.names[k])]:=by
      rw[List.take_succ_eq_append_getElem (by omega),Qb2]
      congr 1
      simp only[hqn,List.getElem_map,hk,Qsm,strs,QrY,Qr2]
      rw[List.getD_eq_getElem?_getD,List.getElem?_eq_getElem hkl];rfl
     repeat (first|((first|(with_reducible (first|refine Qa fun K E hK hE=>?_|refine Qj fun K E hK hE=>?_))|(refine Xh (id:=7) [(0,0),(1,0),(2,0),(3,0),(4,0),(5,0),(6,0),(7,0),(8,0),(9,2),(10,2)] mixed (by kernel_rfl) fun K hK=>?_));simp -implicitDefEqProofs only[Qc,Qd,OpW,aop,undef,AS.ev,AV.QqY,↓reduceIte,Qg,Qw,Qv,Qu,Ql,QM,aBin,QG,XI,Yk,ti3,ti9,zi9,ti46,ei46,ai46,YW,ei82,Qp,t0,t2,t16,t17,t18,y1,hat,hs2,hst,hpi2,hkl,hnk,YH,htl,hm1,hm2,u1,w1,seval])|(with_reducible (first|refine Qf fun K hK=>?_|refine Qi ?_|refine Qk ?_|refine Qb ?_|refine Qn ?_))|((with_reducible refine hK _ ?_);clear hK)|(refine Qh rfl ?_;simp only[↓reduceIte]))
     refine Xi.mk (m':=ord.length - (j+1)) (by omega) ?_
     rw[hI]
     refine⟨j+1,rfl,hlt,by simp only[List.length_set];exact hle,fun i h1 h2=>by rw[List.getElem?_set_ne (Ne.symm h1),List.getElem?_set_ne (Ne.symm h2)];exact hfr i h1 h2,?_,?_,t0,t2,t16,t17,rfl⟩
     ·rw[hnext];exact List.getElem?_set_self (by rw[List.length_set];omega)
     ·rw[List.getElem?_set_ne (by omega)];exact List.getElem?_set_self hX9
    ·have hjl:j=ord.length:=by omega
     have y1:¬((j:Nat):Int)<((ord.length:Nat):Int):=by omega
     have hX9:X.length<hp.length:=Qs hst
     refine Qbc o2 46 1 [.sl 1 (strs ((qN s2 l).take j)) (some X.length)] [.sl 1 (strs ((qN s2 l).take j)) none] 0
      (Wk.sl rfl (fun y hy=>by obtain⟨x,_,rfl⟩:=List.mem_map.1 hy;rfl) (WkL.refl _)) hs2 rfl rfl (fun x hx=>by rw[List.mem_singleton]at hx;subst hx;rfl) ?_
     repeat (first|(((with_reducible refine Qa fun K E hK hE=>?_));simp -implicitDefEqProofs only[Qc,Qd,OpW,aop,AS.ev,Nat.reduceLT,aBin,t17,t18,y1])|(with_reducible (first|refine Qf fun K hK=>?_|refine QF ?_|refine QD ?_|refine QC ?_))|((with_reducible refine hK _ ?_);clear hK)|(refine Qh rfl ?_;simp only[↓reduceIte,QrN]))
     simp -implicitDefEqProofs only[QrL,QrP,List.mapM_nil,Option.pure_def,QrL,QH,Qo,QrT]
     have elv:lvG gv h.length (qV l)=lvG gv h.length l:=by
      have:=Qif Qok h.length [] l
      rw[Qmn]at this
      exact this
     have egs:gsz (qV l)=gsz l:=by
      have:=Ys [] l
      rw[Qmn]at this
      exact this
     have htk:(qN s2 l).take j=qN s2 l:=List.take_of_length_le (by omega)
     refine .inr ⟨rfl,⟨_,⟨by rw[List.length_set,hle];exact hYk.long,fun i h1 h2 h3 h4 h5 h6=>?_⟩,?_,?_,?_⟩,rfl⟩
     ·rw[List.getElem?_set_ne (Ne.symm h3),hfr i h3 (by omega)];exact hYk.out i h1 h2 h3 h4 h5 h6
     ·rw[List.getElem?_set_ne (Ne.symm hoo),hfr o hoo (by omega),elv];exact hYo
     ·refine a1.keep fun i i1 i2=>?_
      rw[QO,egs]at i2
      rw[List.getElem?_set_ne (by omega),hfr i (by omega) (by omega)]
     ·rw[htk];exact List.getElem?_set_self (by omega)
   ·rw[hI]
    exact⟨0,rfl,Nat.zero_le _,rfl,fun _ _ _=>rfl,hYp,hYt,rfl,rfl,rfl,rfl,rfl⟩
  ·have ce:=QoQ hW2 hXi hk
   have hE:((PR.ok l s2).bind fun l s=>(pEnd s).bind fun _ s=>PR.ok (qV l,qN s l) s) = .err s2.tk.pos 16:=by
    have:pEnd s2 = .err s2.tk.pos 16:=by rw[pEnd,if_neg hk]
    show(pEnd s2).bind _=_
    rw[this];rfl
   rw[hE]
   rw[hX]at ce hi3
   refine Qe Tryd.func28 rfl Tryd.call28 Tryd.ntmps28 Tryd.results28 (by simp) ?_
   repeat (first|((first|(with_reducible (first|refine Qa fun K E hK hE=>?_|refine FunW.QqZ cg2 ?_|refine FunW.pan (FunW.call ce) ?_)));simp -implicitDefEqProofs only[Qc,Qd,OpW,QB,aop,undef,AS.ev,Qr,AV.QqY,↓reduceIte,Qg,Qu,Ql,ti32,QJ,Qp,g0,hi3,seval])|((with_reducible refine hK _ ?_);clear hK)|(with_reducible refine hE _ _ ?_))
   refine .inr ⟨rfl,⟨_,?_⟩,rfl⟩
   rw[←hX]
   exact⟨⟨by omega,fun i h1 h2 h3 h4 h5 h6=>hXlow i h1 h2 h4 h5 h6⟩,hXlow o2 hpl (Ne.symm hoo) hpi hpj hpg⟩
end
end Go.Proofs.YticgcpebdldbgaaDoor.Ab
set_option maxRecDepth 4000
namespace Go.Proofs.YticgcpebdldbgaaDoor.Ab
open Go.Proofs
abbrev cG(v:AV):AB:=.cells 32 1 [v]
abbrev cS(v:AV):AB:=.cells 46 1 [v]
def Qhw(l:List UInt8):(List G×List ByteArray) ⊕ (Int×Int):=match XQ l with
 | .inr e=>.inr e
 | .inl ts=>match QfL ⟨ts,[]⟩with
  | .ok p _=>.inl p
  | .err p e=>.inr (p,e)
theorem Qis{all:List Tk}{s:PS}(hW:Wst all s){p e:Int}(h:QfL s = .err p e):e≠0:=Kp.Ps.err (n:=wdOf all) (Kp.query_ps trivial) hW h
def SqQ(h:AH):(List G×List ByteArray) ⊕ (Int×Int)→AOut→AH→Prop
 | .inl q,o,h'=>∃n,h.length≤n∧o = .ret (.tup [.sl 3 (lvG gv n q.1) none,.sl 1 (strs q.2) none,.i 0,.i 0])∧At h' n (layG 54 n q.1)∧h.length≤h'.length∧h'.take h.length=h
 | .inr e,o,h'=>o = .ret (.tup [nilV,nilV,.i e.1,.i e.2])∧h'=h
def sqR:(List G×List ByteArray) ⊕ (Int×Int)→AV
 | .inl q=>.tup [.sl 3 (vs G.goal q.1) none,.sl 1 (strs q.2) none,.i 0,.i 0]
 | .inr e=>.tup [nilV,nilV,.i e.1,.i e.2]
theorem QhM(n:Nat)(a b:Int):Below n (.tup [nilV,nilV,.i a,.i b]):=.tup _ fun x hx=>by
 simp only[List.mem_cons,List.not_mem_nil,or_false]at hx
 rcases hx with rfl|rfl|rfl|rfl <;> exact .v _
theorem Qh1{P:Program}{f:FuncId}{args:List AV}{h:AH}{Q Q0:AOut→AH→Prop}(H:QL P f args h Q0)
  (hp:(∀(i:Nat) b,h[i]? = some b→b.Below h.length)→∀o h',Q0 o h'→Q o h'∨∃l l',o = .ret (.tup l)∧h.length≤h'.length∧(∀b∈h'.take h.length,b.Below h.length)∧l'.length=l.length∧(∀(j:Nat) a a',l[j]? = some a→l'[j]? = some a'→Melt h' h.length a a')∧Q (.ret (.tup l')) (h'.take h.length)):QL P f args h Q:=by
 refine⟨H.1,fun F n c vals hF hs hh hvs=>(H.2 F n c vals hF hs hh hvs).mono ?_⟩
 rintro e w' ⟨o,c',hQ,hev,hst,hw,hex⟩
 rcases hp (fun i b hb=>by subst hh;exact hs.below hb) o c'.h hQ with hq|⟨l,l',rfl,h1,h2,hl,h3,h4⟩
 ·exact⟨o,c',hq,hev,hst,hw,hex⟩
 ·obtain⟨x,rfl,hr⟩:=hex
  refine⟨.ret (.tup l'),c'.cut h.length,h4,hev.cut (by rw[hh];exact Nat.le_refl _) h1,hst.cut h1 h2,hw,x,rfl,?_⟩
  cases hr with
  |tup _ cs hl' hr =>
   refine .tup _ cs (by omega) fun j a' u ha' hu=>?_
   obtain⟨a,ha⟩:∃a,l[j]? = some a:=⟨_,List.getElem?_eq_getElem (by rw[←hl];exact Qs ha')⟩
   exact(h3 j a a' ha ha').rel hst h1 (hr j a u ha hu)
section
variable(l:List UInt8)(h:AH)(hG:ZJ h)
include hG
theorem Qmo:QL Tryd.prog 13 [.v (.string (mkB l))] h (SqQ h (Qhw l)):=by
 rw[Qhw]
 cases hs:XQ l with
 |inr q =>
  obtain⟨p,e⟩:=q
  have cr:=fun fv L=>Qhy hs fv (h++L) (hG.app L)
  have e0:(e != 0)=true:=by simpa using Qaj hs
  refine Qe Tryd.func13 rfl Tryd.call13 Tryd.ntmps13 Tryd.results13 (by simp) ?_
  repeat (first|((first|(with_reducible (first|refine Qa fun K E hK hE=>?_|refine FunW.QqZ (cr _ _) ?_)));simp -implicitDefEqProofs only[Qc,Qd,OpW,QB,aop,undef,AS.ev,Qr,AV.QqY,↓reduceIte,Qu,Ql,aBin,Q1,zi32,ti46,zi46,e0,seval])|(with_reducible (first|refine Qf fun K hK=>?_|refine Qm ?_|refine Qy ?_))|((with_reducible refine hK _ ?_);clear hK)|(refine Qh rfl ?_;simp only[↓reduceIte]))
  simp -implicitDefEqProofs only[Qc,↓reduceIte,Nat.reduceEqDiff,Qw,Qv,ti46,List.mapM_cons,List.mapM_nil,Option.pure_def,Option.bind_eq_bind,Qw,Qv,QH,Qo,Qt,QrT]
  exact Qq (htake _ _) (.keep (QhM _ _ _)) ⟨rfl,rfl⟩
 |inl ts =>
  obtain⟨hD,hW,hN,hl⟩:=QfS hs
  obtain⟨H,hH⟩:∃H,H=h++[cS nilV,cG nilV]:=⟨_,rfl⟩
  have hHl:H.length=h.length+2:=by rw[hH];simp
  have hHG:ZJ H:=by rw[hH];exact hG.app _
  have hPo:=Qpw H ts (.cells 66 4 [.agg [.sl 3 (tks ts) none,.i 0,.v (.slice none 0 0),.v (.map none)]])
  have hout:∀i,i<h.length→(H++[iC 0,eC 0,.cells 66 4 [.agg [.sl 3 (tks ts) none,.i 0,.v (.slice none 0 0),.v (.map none)]]]++[.dead,.dead])[i]? = h[i]? := fun i hi=>by
   rw[List.append_assoc,List.getElem?_append_left (by omega),hH,List.getElem?_append_left hi]
  have hlen:(H++[iC 0,eC 0,.cells 66 4 [.agg [.sl 3 (tks ts) none,.i 0,.v (.slice none 0 0),.v (.map none)]]]++[AB.dead,.dead]).length=h.length+7:=by simp only[QsA,QrW,QrX,hHl]
  have cf:=Qix (P:=P0 H ts) (s:=⟨ts,[]⟩) hW hPo hN hD (o:=h.length+1) (o2:=h.length) (by omega) (by simp only[P0];omega) (by simp only[P0];omega) (by simp only[P0];omega) (by omega) (by simp only[P0];omega) (by simp only[P0];omega) (by simp only[P0];omega) (by omega)
   (by rw[List.append_assoc,List.getElem?_append_left (by omega),hH,hget];rfl) (by rw[List.append_assoc,List.getElem?_append_left (by omega),hH,Qad];rfl)
  have hst:∀(K:AH→Prop) (Y:AH) a b L,H.length+1<Y.length→(∀i,i<h.length→Y[i]? = h[i]?)→∀i,i<h.length→((Y.set H.length a).set (H.length+1) b++L)[i]? = h[i]? := fun K Y a b L hl hy i hi=>by
   rw[List.getElem?_append_left (by simp only[List.length_set];omega),List.getElem?_set_ne (by omega),List.getElem?_set_ne (by omega)];exact hy i hi
  have hc0:∀Y,KpG (H++[iC 0,eC 0,.cells 66 4 [.agg [.sl 3 (tks ts) none,.i 0,.v (.slice none 0 0),.v (.map none)]]]++[AB.dead,.dead]) (P0 H ts) (h.length+1) h.length Y→Y[H.length]? = some (iC 0)∧Y[H.length+1]? = some (eC 0)∧h.length+7≤Y.length∧(∀i,i<h.length→Y[i]? = h[i]?):=fun Y hY=>by
   refine⟨?_,?_,by have:=hY.long;omega,fun i hi=>?_⟩
   ·rw[hY.out H.length (by omega) (by omega) (by omega) (by simp only[P0];omega) (by simp only[P0];omega) (by simp only[P0];omega),List.append_assoc,Qad];rfl
   ·rw[hY.out (H.length+1) (by omega) (by omega) (by omega) (by simp only[P0];omega) (by simp only[P0];omega) (by simp only[P0];omega),List.append_assoc,hget];rfl
   ·rw[hY.out i (by omega) (by omega) (by omega) (by simp only[P0];omega) (by simp only[P0];omega) (by simp only[P0];omega)];exact hout i hi
  cases hp:QfL ⟨ts,[]⟩with
  |err p e =>
   rw[hp]at cf
   have e0:(e != 0)=true:=by simpa using Qis hW hp
   have cr:=Qjo hs (.fn (.func 28) [] [.ptr (h.length+1) 0 0,.ptr h.length 0 0]) H hHG (fun Y=>h.length+2≤Y.length∧(∀i,i<h.length→Y[i]? = h[i]?)∧Y[h.length]? = some (cS nilV))
    (fun Y a b L hl hy=>⟨by simp only[QsA,List.length_set];omega,hst (fun _=>True) Y a b L hl hy.2.1,by rw[List.getElem?_append_left (by simp only[List.length_set];omega),List.getElem?_set_ne (by omega),List.getElem?_set_ne (by omega)];exact hy.2.2⟩) (p:=p) (e:=e)
    (FunW.cl (cf.mono fun o h' q=>by
     obtain⟨q1,⟨Y,hY,hY2⟩,q2⟩:=q
     obtain⟨y1,y2,y3,y4⟩:=hc0 Y hY
     exact⟨q1,⟨Y,y1,y2,by omega,y4,by rw[hY2,List.append_assoc,List.getElem?_append_left (by omega),hH,Qad];rfl⟩,q2⟩))
   rw[hH]at cr
   refine Qe Tryd.func13 rfl Tryd.call13 Tryd.ntmps13 Tryd.results13 (by simp) ?_
   repeat (first|((first|(with_reducible (first|refine Qa fun K E hK hE=>?_|refine FunW.retE (FunW.call cr) fun Y=>?_)));simp -implicitDefEqProofs only[Qc,Qd,OpW,QB,aop,undef,Xa,AS.ev,Qr,AV.QqY,↓reduceIte,Qu,Ql,aBin,Q1,zi32,ti46,zi46,e0,QsA,seval])|(with_reducible refine Qf fun K hK=>?_)|((with_reducible refine hK _ ?_);clear hK)|(refine Qh rfl ?_;simp only[↓reduceIte]))
   have hY:=Y.2
   generalize Y.1=Y1 at *
   obtain⟨y0,y1,y2⟩:=hY
   have u1:∀y,(Y1.set h.length y)[h.length]? = some y:=fun y=>List.getElem?_set_self (by omega)
   have ht:∀y,(Y1.set h.length y).take h.length=h:=fun y=>List.ext_getElem? fun i=>by
    by_cases hi:i<h.length
    ·rw[List.getElem?_take_of_lt hi,List.getElem?_set_ne (by omega)];exact y1 i hi
    ·rw[List.getElem?_take_eq_none (by omega),List.getElem?_eq_none (by omega)]
   simp -implicitDefEqProofs only[Qc,↓reduceIte,y2]
   repeat (first|(with_reducible (first|refine Qm ?_|refine Qy ?_))|((with_reducible refine hK _ ?_);clear hK))
   simp -implicitDefEqProofs only[Qc,↓reduceIte,Nat.reduceEqDiff,Qw,Qv,ti46,List.mapM_cons,List.mapM_nil,Option.pure_def,Option.bind_eq_bind,Qw,Qv,u1,QH,Qo,Qt,QrT]
   refine Qq (ht _) (.keep (QhM _ _ _)) ?_
   rw[hp];exact⟨rfl,rfl⟩
  |ok pg s2 =>
   rw[hp]at cf
   have e0:((0:Int) != 0)=false:=rfl
   have cr:=Qmr hs (.fn (.func 28) [] [.ptr (h.length+1) 0 0,.ptr h.length 0 0]) H hHG (fun Y=>h.length+7≤Y.length∧(∀i,i<h.length→Y[i]? = h[i]?)∧Y[h.length+1]? = some (cG (.sl 3 (lvG gv (h.length+7) pg.1) none))∧At Y (h.length+7) (layG 54 (h.length+7) pg.1)∧Y[h.length]? = some (cS (.sl 1 (strs pg.2) none)))
    (fun Y a b L hl hy=>⟨by simp only[QsA,List.length_set];omega,hst (fun _=>True) Y a b L hl hy.2.1,by rw[List.getElem?_append_left (by simp only[List.length_set];omega),List.getElem?_set_ne (by omega),List.getElem?_set_ne (by omega)];exact hy.2.2.1,
     (hy.2.2.2.1.keep fun i i1 i2=>by rw[List.getElem?_set_ne (by omega),List.getElem?_set_ne (by omega)]).app L,
     by rw[List.getElem?_append_left (by simp only[List.length_set];omega),List.getElem?_set_ne (by omega),List.getElem?_set_ne (by omega)];exact hy.2.2.2.2⟩)
    (FunW.cl (cf.mono fun o h' q=>by
     obtain⟨q1,⟨Y,hY,hY1,hY2,hY3⟩,q2⟩:=q
     rw[hlen]at hY1 hY2
     obtain⟨y1,y2,y3,y4⟩:=hc0 Y hY
     exact⟨q1,⟨Y,y1,y2,y3,y4,hY1,hY2,hY3⟩,q2⟩))
   rw[hH]at cr
   refine Qe Tryd.func13 rfl Tryd.call13 Tryd.ntmps13 Tryd.results13 (by simp) ?_
   repeat (first|((first|(with_reducible (first|refine Qa fun K E hK hE=>?_|refine FunW.retE (FunW.call cr) fun Y=>?_))|(refine QS (id:=5) [(0,0),(1,0),(2,0),(3,2),(4,0),(5,0)] mixed (by kernel_rfl) fun K hK=>?_));simp -implicitDefEqProofs only[Qc,Qd,OpW,QB,aop,undef,AS.ev,Qr,AV.QqY,↓reduceIte,Qw,Qv,Qu,Ql,aBin,Q1,ti32,zi32,ti46,zi46,QsA,seval])|(with_reducible (first|refine Qf fun K hK=>?_|refine Qk ?_|refine Qb ?_))|((with_reducible refine hK _ ?_);clear hK)|(refine Qh rfl ?_;simp only[↓reduceIte,QrN]))
   have hY:=Y.2
   generalize Y.1=Y1 at *
   obtain⟨y0,y1,y2,y3,y4⟩:=hY
   have u1:∀y,(Y1.set h.length y)[h.length]? = some y:=fun y=>List.getElem?_set_self (by omega)
   have u2:∀y,(Y1.set h.length y)[h.length+1]? = some (cG (.sl 3 (lvG gv (h.length+7) pg.1) none)):=fun y=>by rw[List.getElem?_set_ne (by omega)];exact y2
   simp -implicitDefEqProofs only[Qc,↓reduceIte,y2,y4]
   repeat (first|(with_reducible refine Qm ?_)|((with_reducible refine hK _ ?_);clear hK))
   simp -implicitDefEqProofs only[Qc,↓reduceIte,Nat.reduceEqDiff,Qw,Qv,ti46,List.mapM_cons,List.mapM_nil,Option.pure_def,Option.bind_eq_bind,Qw,Qv,u1,QH,Qo,Qt,QrT]
   rw[hp]
   refine .inr ⟨h.length+7,by omega,rfl,y3.keep fun i i1 i2=>?_,by rw[List.length_set];omega,?_⟩
   ·rw[List.getElem?_set_ne (by omega)]
   ·exact List.ext_getElem? fun i=>by
     by_cases hi:i<h.length
     ·rw[List.getElem?_take_of_lt hi,List.getElem?_set_ne (by omega)];exact y1 i hi
     ·rw[List.getElem?_take_eq_none (by omega),List.getElem?_eq_none (by omega)]
theorem Qiu:QL Tryd.prog 13 [.v (.string (mkB l))] h fun o h'=>o = .ret (sqR (Qhw l))∧h'=h:=by
 refine Qh1 (Qmo l h hG) fun hbel o h' q=>?_
 cases hq:Qhw l with
 |inr e=>rw[hq]at q;exact .inl q
 |inl g =>
  rw[hq]at q
  obtain⟨n,hn,rfl,hA,hl,ht⟩:=q
  refine .inr ⟨_,[.sl 3 (vs G.goal g.1) none,.sl 1 (strs g.2) none,.i 0,.i 0],rfl,hl,fun b hb=>?_,rfl,fun j a a' h1 h2=>?_,rfl,ht⟩
  ·rw[ht]at hb
   obtain⟨k,hk⟩:=List.mem_iff_getElem?.1 hb
   exact hbel k b hk
  ·match j,h1,h2 with
   |0,h1,h2 =>
    cases h1;cases h2
    obtain⟨e1,e2⟩:=Qgl (m:=h.length) (w:=3) (vw:=gv) (vA:=G.goal) (fun _ _=>rfl) (fun _=>rfl) (fun n g hm hA j a a' h1 h3=>by
     match j,h1,h3 with
     |0,h1,h3=>cases h1;cases h3;exact .keep (.v _)
     |1,h1,h3=>cases h1;cases h3;exact .keep (.v _)
     |2,h1,h3=>cases h1;cases h3;exact Qen hm hA
     |j+3,h1,h3=>simp[gv,AV.cells]at h1) n g.1 hn hA
    exact .sl (by rw[ZR,Yx]) (fun y hy=>by obtain⟨x,_,rfl⟩:=List.mem_map.1 hy;rfl) e1 e2
   |1,h1,h2=>cases h1;cases h2;exact .keep (.sl 1 _ none (Qbq _ _) (fun b hb=>by cases hb))
   |2,h1,h2=>cases h1;cases h2;exact .keep (.v _)
   |3,h1,h2=>cases h1;cases h2;exact .keep (.v _)
   |j+4,h1,h2=>simp at h1
end
end Go.Proofs.YticgcpebdldbgaaDoor.Ab
set_option maxRecDepth 4000
namespace Go.Proofs.YticgcpebdldbgaaDoor.Ab
open Go.Proofs
def i64(n:Int):Prop := -9223372036854775808≤n∧n≤9223372036854775807
mutual
def T.ok:T→Prop
 | .mk k i n l=>i64 k∧i64 i∧n.size≤9223372036854775807∧oks l
def oks:List T→Prop
 |[]=>True
 |t::l=>t.ok∧oks l
end
def G.ok(g:G):Prop:=i64 g.op∧g.name.size≤9223372036854775807∧oks g.args
mutual
def T.Qq9:T→Bool
 | .mk k i n l =>
  if k=0 then decide (-2147483648≤i∧i≤2147483648)&&QbH n&&l.isEmpty else
  if k=1 then decide (0≤i∧i≤1048576)&&QbH n&&l.isEmpty else
  if k=2 then(if i≠0∨6<l.length then false else if (!Qcy n&&!(opB n&&decide (l.length=2)))=true then false else Qa5 l)else false
def Qa5:List T→Bool
 |[]=>true
 |t::l=>t.Qq9&&Qa5 l
end
mutual
theorem T.Qrv:∀(t:T) (b d:Int),(t.run b d).1=(t.Qq9&&decide ((t.size:Int)≤b∧(t.dep:Int)≤d))∧((t.run b d).1=true→(t.run b d).2=b - t.size)
 | .mk k i n l,b,d=>by
  have hs:=size_pos (.mk k i n l)
  have hd:1≤(T.mk k i n l).dep:=by rw[T.QrD];omega
  rw[T.run,T.Qq9]
  by_cases h1:b - 1<0∨d<1
  ·rw[if_pos h1,decide_eq_false (show ¬(((T.mk k i n l).size:Int)≤b∧((T.mk k i n l).dep:Int)≤d) by omega),Bool.and_false]
   exact⟨rfl,fun h=>by cases h⟩
  rw[if_neg h1]
  have one:k≠2→(T.mk k i n l).size=1∧(T.mk k i n l).dep=1:=fun h=>by simp only[T.size,T.dep,if_neg h];exact⟨trivial,trivial⟩
  by_cases k0:k=0
  ·obtain⟨e1,e2⟩:=one (by omega)
   rw[if_pos k0,if_pos k0,e1,e2,decide_eq_true (show((1:Nat):Int)≤b∧((1:Nat):Int)≤d by omega),Bool.and_true]
   exact⟨rfl,fun _=>rfl⟩
  rw[if_neg k0,if_neg k0]
  by_cases k1:k=1
  ·obtain⟨e1,e2⟩:=one (by omega)
   rw[if_pos k1,if_pos k1,e1,e2,decide_eq_true (show((1:Nat):Int)≤b∧((1:Nat):Int)≤d by omega),Bool.and_true]
   exact⟨rfl,fun _=>rfl⟩
  rw[if_neg k1,if_neg k1]
  by_cases k2:k=2
  ·rw[if_pos k2,if_pos k2]
   by_cases h2:i≠0∨6<l.length
   ·rw[if_pos h2,if_pos h2];exact⟨rfl,fun h=>by cases h⟩
   rw[if_neg h2,if_neg h2]
   by_cases h3:(!Qcy n&&!(opB n&&decide (l.length=2)))=true
   ·rw[if_pos h3,if_pos h3];exact⟨rfl,fun h=>by cases h⟩
   rw[if_neg h3,if_neg h3]
   have e1:(T.mk k i n l).size=1+sizes l:=by simp only[T.size,if_pos k2]
   have e2:(T.mk k i n l).dep=1+deps l:=by simp only[T.dep,if_pos k2]
   obtain⟨r1,r2⟩:=Qaa l (b - 1) (d - 1) (by omega) (by omega)
   rw[e1,e2]
   refine⟨?_,fun h=>by rw[r2 h];omega⟩
   rw[r1]
   congr 1
   exact decide_eq_decide.2 (by omega)
  ·rw[if_neg k2,if_neg k2];exact⟨rfl,fun h=>by cases h⟩
theorem Qaa:∀(l:List T) (b d:Int),0≤b→0≤d→(runL l b d).1=(Qa5 l&&decide ((sizes l:Int)≤b∧(deps l:Int)≤d))∧((runL l b d).1=true→(runL l b d).2=b - sizes l)
 |[],b,d,hb,hd=>by
  rw[runL,Qa5,sizes,deps,decide_eq_true (show((0:Nat):Int)≤b∧((0:Nat):Int)≤d by omega)]
  exact⟨rfl,fun _=>by omega⟩
 |t::l,b,d,hb,hd=>by
  obtain⟨r1,r2⟩:=T.Qrv t b d
  rw[runL,Qa5,sizes,deps]
  by_cases h:(t.run b d).1=true
  ·rw[if_pos h]
   have e:=r2 h
   rw[r1,Bool.and_eq_true,decide_eq_true_eq]at h
   obtain⟨hf,h1,h2⟩:=h
   obtain⟨q1,q2⟩:=Qaa l (t.run b d).2 d (by omega) hd
   rw[hf,Bool.true_and]
   refine⟨?_,fun h=>by rw[q2 h];omega⟩
   rw[q1]
   congr 1
   exact decide_eq_decide.2 (by omega)
  ·rw[if_neg h]
   refine⟨?_,fun h=>by cases h⟩
   rw[r1]at h
   cases hf:t.Qq9 with
   |false=>rfl
   |true =>
    rw[hf,Bool.true_and,decide_eq_true_eq]at h
    rw[decide_eq_false (by omega),Bool.and_false]
end
mutual
theorem T.Qru:∀t:T,t.Qq9=true→t.nds=t.size
 | .mk k i n l,h=>by
  simp only[T.Qq9]at h
  simp only[T.nds,T.size]
  split at h
  ·rename_i k0
   simp only[Bool.and_eq_true,List.isEmpty_iff]at h
   rw[if_neg (by omega),h.2];rfl
  ·split at h
   ·rename_i k0 k1
    simp only[Bool.and_eq_true,List.isEmpty_iff]at h
    rw[if_neg (by omega),h.2];rfl
   ·split at h
    ·rename_i k2
     split at h
     ·cases h
     ·split at h
      ·cases h
      ·rw[if_pos k2,Qci l h]
    ·cases h
theorem Qci:∀l:List T,Qa5 l=true→ndsL l=sizes l
 |[],_=>rfl
 |t::l,h=>by
  simp only[Qa5,Bool.and_eq_true]at h
  simp only[ndsL,sizes]
  rw[T.Qru t h.1,Qci l h.2]
end
theorem QmC(tot:Nat):∀(m:Nat) (l:List UInt8),(∀ts,X1 tot m l = .inl ts→∀t∈ts,In tot t.pos)∧∀p e,X1 tot m l = .inr (p,e)→In tot p
 |0,l=>⟨fun ts h t ht=>by(cases h;cases ht),fun p e h=>by(cases h)⟩
 |m+1,l=>by
  have hp:In tot ((tot - (QV false l).length:Nat):Int):=⟨by omega,by omega⟩
  rw[X1]
  cases ht:Xv (QV false l)with
  |inr c=>exact⟨fun ts h=>by(cases h),fun p e h=>by(cases h;exact hp)⟩
  |inl kx =>
   obtain⟨k,x⟩:=kx
   simp only
   split
   ·refine⟨fun ts h t ht=>?_,fun p e h=>by cases h⟩
    cases h
    rw[List.mem_singleton.1 ht];exact hp
   ·obtain⟨i1,i2⟩:=QmC tot m ((QV false l).drop x.length)
    cases h2:X1 tot m ((QV false l).drop x.length)with
    |inl us =>
     refine⟨fun ts h t ht=>?_,fun p e h=>by cases h⟩
     cases h
     rcases List.mem_cons.1 ht with rfl|ht
     ·exact hp
     ·exact i1 us h2 t ht
    |inr q =>
     refine⟨fun ts h=>(by cases h),fun p e h=>?_⟩
     cases h
     exact i2 p e h2
theorem QfR(l:List UInt8):(∀ts,XQ l = .inl ts→∀t∈ts,In l.length t.pos)∧∀p e,XQ l = .inr (p,e)→In l.length p:=by
 rw[XQ]
 split
 ·exact⟨fun ts h=>(by cases h),fun p e h=>by cases h;exact⟨Int.le_refl _,by omega⟩⟩
 ·exact QmC _ _ _
theorem Qmb{l:List UInt8}{x e:Int}(h:Z8 l = .inr (x,e)):In l.length x:=by
 unfold Z8 at h
 cases hs:XQ l with
 |inr q =>
  rw[hs]at h
  cases h
  exact(QfR l).2 x e hs
 |inl ts =>
  rw[hs]at h
  simp only at h
  have:=prog_ps (n:=l.length) (by omega) ⟨ts,[]⟩ ((QfR l).1 ts hs)
  cases hp:QbY ⟨ts,[]⟩with
  |ok p s2=>rw[hp]at h;cases h
  |err p c =>
   rw[hp]at h this
   cases h
   exact this
structure RlPre (r:Rl):Prop where
 ka:atomsOk r.keep
 ra:atomsOk r.remove
 ga:goalsOk r.guard
 ba:goalsOk r.body
 h1:1≤r.keep.length+r.remove.length
 h4:r.keep.length+r.remove.length≤4
 g12:r.guard.length≤12
 b12:r.body.length≤12
theorem QeK{name:ByteArray}{keep remove:List G}{s:PS}{r:Rl}{s2:PS}(h:Ze name keep remove s = .ok r s2)(hk:atomsOk keep)(hr:atomsOk remove)(h1:1≤keep.length+remove.length)(h4:keep.length+remove.length≤4):RlPre r:=by
 have hb:∀b:List G,goalsOk b∧b.length≤12→goalsOk (match b with|[x]=>if x.op=1 then[]else b|_=>b)∧(match b with|[x]=>if x.op=1 then[]else b|_=>b).length≤12:=fun b hb=>by
  split
  ·split
   ·exact⟨fun _ h=>(List.not_mem_nil h).elim,by decide⟩
   ·exact hb
  ·exact hb
 unfold Ze at h
 simp only at h
 obtain⟨b,s1,e1,h⟩:=bind_ok h
 have g1:=Qbu e1
 split at h
 ·obtain⟨b2,s3,e2,h⟩:=bind_ok h
  have g2:=Qbu e2
  obtain⟨u,s4,e3,h⟩:=bind_ok h
  cases h
  exact⟨hk,hr,g1.1,(hb b2 g2).1,h1,h4,g1.2,(hb b2 g2).2⟩
 ·obtain⟨u,s4,e3,h⟩:=bind_ok h
  cases h
  exact⟨hk,hr,fun _ h=>(List.not_mem_nil h).elim,(hb b g1).1,h1,h4,Nat.zero_le _,(hb b g1).2⟩
theorem QgW{name:ByteArray}{s:PS}{r:Rl}{s2:PS}(h:Qes name s = .ok r s2):RlPre r:=by
 rw[Qes]at h
 obtain⟨f,s1,e1,h⟩:=bind_ok h
 obtain⟨f1,f2,f3⟩:=QcU e1
 have no:atomsOk []:=fun _ h=>(List.not_mem_nil h).elim
 rw[Qit]at h
 split at h
 ·exact QeK h no f1 (by simp;omega) (by simp;omega)
 split at h
 ·exact QeK h f1 no (by simp;omega) (by simp;omega)
 split at h
 ·obtain⟨rem,s3,e2,h⟩:=bind_ok h
  obtain⟨r1,r2,r3⟩:=QcU e2
  obtain⟨u,s4,e3,h⟩:=bind_ok h
  exact QeK h f1 r1 (by omega) (by omega)
 ·cases h
theorem Qki{s:PS}{r:Rl}{s2:PS}(h:YQ s = .ok r s2):RlPre r:=by
 rw[QaG]at h
 split at h
 ·obtain⟨x,s1,e1,h⟩:=bind_ok h
  exact QgW h
 ·exact QgW h
theorem QdE(f:Int→Int):∀l:List T,(maps f l).length=l.length
 |[]=>rfl
 |t::l=>by rw[maps,List.length_cons,List.length_cons,QdE f l]
mutual
theorem T.Qrm(f:Int→Int):∀{t:T},t.Qq9=true→(∀v∈t.vars,0≤f v∧f v≤1048576)→(t.map f).Qq9=true
 | .mk k i n l,h,hv=>by
  have ih:=@QaO f l
  rw[T.Qq9]at h
  rw[T.map]
  rw[T.vars]at hv
  by_cases h0:k=0
  ·rw[if_pos h0]at h
   rw[if_neg (by omega),if_neg (by omega),T.Qq9,if_pos h0];exact h
  rw[if_neg h0]at h
  by_cases h1:k=1
  ·rw[if_pos h1]at h hv
   rw[if_pos h1,T.Qq9,if_neg h0,if_pos h1]
   have:=hv i (by simp)
   simp only[Bool.and_eq_true]at h ⊢
   exact⟨⟨by simpa using this,h.1.2⟩,h.2⟩
  rw[if_neg h1]at h hv
  by_cases h2:k=2
  ·rw[if_pos h2]at h hv
   rw[if_neg h1,if_pos h2,T.Qq9,if_neg h0,if_neg h1,if_pos h2]
   have hl:(maps f l).length=l.length:=QdE f l
   rw[hl]
   split at h
   ·cases h
   ·rename_i hi
    rw[if_neg hi]
    split at h
    ·cases h
    ·rename_i hn
     rw[if_neg hn]
     exact ih h hv
  ·rw[if_neg h2]at h;cases h
theorem QaO(f:Int→Int):∀{l:List T},Qa5 l=true→(∀v∈XR l,0≤f v∧f v≤1048576)→Qa5 (maps f l)=true
 |[],_,_=>rfl
 |t::l,h,hv=>by
  rw[Qa5,Bool.and_eq_true]at h
  rw[XR]at hv
  rw[maps,Qa5,T.Qrm f h.1 fun v hm=>hv v (List.mem_append_left _ hm),QaO f h.2 fun v hm=>hv v (List.mem_append_right _ hm)];rfl
end
mutual
theorem T.Qrr(f:Int→Int):∀t:T,(t.map f).size=t.size∧(t.map f).dep=t.dep
 | .mk k i n l=>by
  have ih:=ZE f l
  rw[T.map]
  by_cases h1:k=1
  ·rw[if_pos h1];simp only[T.size,T.dep,if_neg (show ¬k=2 by omega)];exact⟨trivial,trivial⟩
  rw[if_neg h1]
  by_cases h2:k=2
  ·rw[if_pos h2];simp only[T.size,T.dep,if_pos h2];rw[ih.1,ih.2];exact⟨rfl,rfl⟩
  ·rw[if_neg h2];exact⟨rfl,rfl⟩
theorem ZE(f:Int→Int):∀l:List T,sizes (maps f l)=sizes l∧deps (maps f l)=deps l
 |[]=>⟨rfl,rfl⟩
 |t::l=>by
  have h1:=T.Qrr f t
  have h2:=ZE f l
  simp only[maps,sizes,deps,h1.1,h1.2,h2.1,h2.2];exact⟨trivial,trivial⟩
end
theorem QeA{g:G}(h:Q8 g=true):Qa5 g.args=true:=by
 rw[Q8,Bool.and_eq_true,Bool.and_eq_true,(Qaa g.args 200 20 (by omega) (by omega)).1,Bool.and_eq_true]at h
 exact h.2.2.1
theorem QbL{f:Int→Int}{g:G}(h:Q8 g=true)(hv:∀v∈XR g.args,0≤f v∧f v≤1048576):Q8 ⟨g.op,g.name,maps f g.args⟩=true:=by
 rw[Q8,Bool.and_eq_true,Bool.and_eq_true,(Qaa _ 200 20 (by omega) (by omega)).1,Bool.and_eq_true,decide_eq_true_eq,decide_eq_true_eq]at h ⊢
 refine⟨h.1,?_,QaO f h.2.2.1 hv,?_⟩
 ·show(maps f g.args).length≤6
  rw[QdE];exact h.2.1
 ·show((sizes (maps f g.args):Nat):Int)≤200∧((deps (maps f g.args):Nat):Int)≤20
  rw[(ZE f _).1,(ZE f _).2];exact h.2.2.2
theorem Qaq{g:G}(h:Q8 g=true):ndsL g.args≤200:=by
 have hf:=QeA h
 rw[Q8,Bool.and_eq_true,Bool.and_eq_true,(Qaa g.args 200 20 (by omega) (by omega)).1,Bool.and_eq_true,decide_eq_true_eq,decide_eq_true_eq]at h
 have:=Qci g.args hf
 omega
mutual
theorem T.QrI:∀(t:T),t.vars.length≤t.nds
 | .mk k i n l=>by
  simp only[T.vars,T.nds]
  split
  ·simp
  ·split
   ·have:=QhQ l;omega
   ·simp
theorem QhQ:∀(l:List T),(XR l).length≤ndsL l
 |[]=>by simp[XR,ndsL]
 |t::l=>by
  have h1:=T.QrI t
  have h2:=QhQ l
  simp only[XR,ndsL,QsA];omega
end
theorem Qbo{g:G}(h:Q5 g=true):(XR g.args).length≤200:=by
 have h1:=QhQ g.args
 rw[Q5]at h
 split at h
 ·exact Nat.le_trans h1 (Qaq h)
 ·rw[Bool.and_eq_true,Bool.and_eq_true,Bool.and_eq_true,(Qaa g.args 200 20 (by omega) (by omega)).1,Bool.and_eq_true,decide_eq_true_eq,decide_eq_true_eq,decide_eq_true_eq]at h
  have:=Qci g.args h.2.2.2.1
  omega
theorem Qe3{f:Int→Int}{g:G}(h:Q5 g=true)(hv:∀v∈XR g.args,0≤f v∧f v≤1048576):Q5 ⟨g.op,g.name,maps f g.args⟩=true:=by
 rw[Q5]at h ⊢
 split at h
 ·rename_i h0
  rw[if_pos h0]
  exact QbL (g:=⟨0,g.name,g.args⟩) h hv
 ·rename_i h0
  rw[if_neg h0]
  rw[Bool.and_eq_true,Bool.and_eq_true,Bool.and_eq_true,(Qaa _ 200 20 (by omega) (by omega)).1,Bool.and_eq_true,decide_eq_true_eq,decide_eq_true_eq,decide_eq_true_eq]at h ⊢
  refine⟨h.1,h.2.1,?_,QaO f h.2.2.2.1 hv,?_⟩
  ·show((maps f g.args).length:Int)=_
   rw[QdE];exact h.2.2.1
  ·show((sizes (maps f g.args):Nat):Int)≤200∧((deps (maps f g.args):Nat):Int)≤20
   rw[(ZE f _).1,(ZE f _).2];exact h.2.2.2.2
mutual
theorem T.Qrs(f:Int→Int):∀t:T,(t.map f).vars=t.vars.map f
 | .mk k i n l=>by
  have ih:=Qb5 f l
  rw[T.map,T.vars]
  by_cases h1:k=1
  ·rw[if_pos h1,if_pos h1,T.vars,if_pos h1];rfl
  rw[if_neg h1,if_neg h1]
  by_cases h2:k=2
  ·rw[if_pos h2,if_pos h2,T.vars,if_neg h1,if_pos h2,ih]
  ·rw[if_neg h2,if_neg h2,T.vars,if_neg h1,if_neg h2];rfl
theorem Qb5(f:Int→Int):∀l:List T,XR (maps f l)=(XR l).map f
 |[]=>rfl
 |t::l=>by rw[maps,XR,XR,List.map_append,T.Qrs f t,Qb5 f l]
end
def cntS(n v:Int):Int:=if n<0∨v>n∨v<0 then -1 else max n (v+1)
def cntL(n:Int)(l:List Int):Int:=l.foldl cntS n
theorem Qlm(all:List Int):∀(post pre:List Int),pre++post=all→cntL ((ded [] pre).length:Nat) (post.map fun v=>((plc (ded [] all) v:Nat):Int))=((ded [] all).length:Nat)
 |[],pre,h=>by
  rw[List.append_nil]at h
  rw[h];rfl
 |v::post,pre,h=>by
  have ih:=Qlm all post (pre++[v]) (by rw[←h];simp)
  have e1:ded [] (pre++[v])=ins (ded [] pre) v:=by rw[Zj];rfl
  obtain⟨r,hr⟩:=QbQ (ins (ded [] pre) v) post
  have hD:ded [] all=ins (ded [] pre) v++r:=by rw[←h,Zj,ded,hr]
  have hp:plc (ded [] all) v=plc (ins (ded [] pre) v) v:=by rw[hD];exact Qc2 r (Qik.2 (.inr rfl))
  rw[←ih,List.map_cons]
  show cntL (cntS _ _) _=_
  rw[hp,e1]
  congr 1
  by_cases hm:v∈ded [] pre
  ·have:ins (ded [] pre) v=ded [] pre:=if_pos hm
   rw[this]
   have:=Qmg hm
   rw[cntS,if_neg (by omega)]
   omega
  ·have:ins (ded [] pre) v=ded [] pre++[v]:=if_neg hm
   rw[this,QbK [] hm,cntS,if_neg (by omega),List.length_append,List.length_singleton]
   omega
theorem Qgf(l:List G)(h:∀g∈l,(XR g.args).length≤200):(l.flatMap fun g=>XR g.args).length≤200 * l.length:=by
 induction l with
 |nil=>simp
 |cons g l ih =>
  have h1:=h g (by simp)
  have h2:=ih fun x hx=>h x (by simp[hx])
  rw[List.flatMap_cons,List.length_append,List.length_cons]
  omega
structure RlOk (r:Rl):Prop extends RlPre r where
 cnt:cntL 0 r.allV=r.vars
 vnn:0≤r.vars
theorem Qo2{r:Rl}(h:RlPre r):RlOk r.numd:=by
 have hl:r.allV.length≤5600:=by
  have hk:=Qgf r.keep fun g hg=>Nat.le_trans (QhQ g.args) (Qaq (h.ka g hg))
  have hr:=Qgf r.remove fun g hg=>Nat.le_trans (QhQ g.args) (Qaq (h.ra g hg))
  have hg:=Qgf r.guard fun g hg=>Qbo (h.ga g hg)
  have hb:=Qgf r.body fun g hg=>Qbo (h.ba g hg)
  have h4:=h.h4
  have g12:=h.g12
  have b12:=h.b12
  rw[Rl.allV]
  simp only[List.flatMap_append,QsA]
  omega
 have hd:(ded [] r.allV).length≤5600:=by
  have:=QcO [] r.allV
  simp only[QrX]at this
  omega
 have hv:∀v∈r.allV,(0:Int)≤((plc (ded [] r.allV) v:Nat):Int)∧((plc (ded [] r.allV) v:Nat):Int)≤1048576:=fun v hv=>by
  have:=Qmg (s:=ded [] r.allV) (Qij.2 (.inr hv))
  omega
 have sub:∀(l:List G),(∀g∈l,g∈r.keep++r.remove++r.guard++r.body)→∀g∈l,∀v∈XR g.args,v∈r.allV:=fun l hs g hg v hv=>List.mem_flatMap.2 ⟨g,hs g hg,hv⟩
 have at_:∀l,(∀g∈l,g∈r.keep++r.remove++r.guard++r.body)→atomsOk l→atomsOk (l.map fun g:G=>(⟨g.op,g.name,maps (fun v=>((plc (ded [] r.allV) v:Nat):Int)) g.args⟩:G)):=fun l hs hl x hx=>by
  obtain⟨g,hg,rfl⟩:=List.mem_map.1 hx
  exact QbL (hl g hg) fun v hm=>hv v (sub l hs g hg v hm)
 have go_:∀l,(∀g∈l,g∈r.keep++r.remove++r.guard++r.body)→goalsOk l→goalsOk (l.map fun g:G=>(⟨g.op,g.name,maps (fun v=>((plc (ded [] r.allV) v:Nat):Int)) g.args⟩:G)):=fun l hs hl x hx=>by
  obtain⟨g,hg,rfl⟩:=List.mem_map.1 hx
  exact Qe3 (hl g hg) fun v hm=>hv v (sub l hs g hg v hm)
 have hall:r.numd.allV=r.allV.map fun v=>((plc (ded [] r.allV) v:Nat):Int):=by
  show((r.keep.map _++r.remove.map _++r.guard.map _++r.body.map _).flatMap fun g:G=>XR g.args)=_
  rw[←List.map_append,←List.map_append,←List.map_append,List.flatMap_map,Rl.allV,List.map_flatMap]
  simp only[Qb5]
 refine⟨⟨at_ _ (fun g hg=>by simp[hg]) h.ka,at_ _ (fun g hg=>by simp[hg]) h.ra,go_ _ (fun g hg=>by simp[hg]) h.ga,go_ _ (fun g hg=>by simp[hg]) h.ba,?_,?_,?_,?_⟩,?_,Int.natCast_nonneg _⟩
 ·show 1≤(r.keep.map _).length+(r.remove.map _).length
  rw[List.length_map,List.length_map];exact h.h1
 ·show(r.keep.map _).length+(r.remove.map _).length≤4
  rw[List.length_map,List.length_map];exact h.h4
 ·show(r.guard.map _).length≤12
  rw[List.length_map];exact h.g12
 ·show(r.body.map _).length≤12
  rw[List.length_map];exact h.b12
 ·rw[hall]
  exact Qlm r.allV r.allV [] rfl
theorem Qmz{s:PS}{r:Rl}{s2:PS}(h:Zm s = .ok r s2):RlOk r:=by
 rw[Zm]at h
 obtain⟨q,s1,h1,h⟩:=bind_ok h
 cases h
 exact Qo2 (Qki h1)
theorem QfQ:∀(m:Nat) (l:List Rl) (s:PS) (a:List Rl) (s2:PS),(∀r∈l,RlOk r)→l.length≤40→Zt m l s = .ok a s2→(∀r∈a,RlOk r)∧a.length≤40
 |0,l,s,a,s2,hl,h4,h=>by cases h;exact⟨hl,h4⟩
 |m+1,l,s,a,s2,hl,h4,h=>by
  rw[Zt]at h
  split at h
  ·cases h;exact⟨hl,h4⟩
  split at h
  ·cases h
  ·obtain⟨r,s1,h1,h⟩:=bind_ok h
   exact QfQ m _ s1 a s2 (fun x hx=>by
    rcases List.mem_append.1 hx with hx|hx
    ·exact hl x hx
    ·rw[List.mem_singleton.1 hx];exact Qmz h1) (by rw[List.length_append,List.length_singleton];omega) h
theorem Qfo:∀(m:Nat) (l:List Dc) (s:PS) (a:List Dc) (s2:PS),Zd m l s = .ok a s2→a.length≤30
 |0,l,s,a,s2,h=>by cases h
 |m+1,l,s,a,s2,h=>by
  rw[Zd]at h
  split at h
  ·cases h
  ·obtain⟨x,s1,h1,h⟩:=bind_ok h
   obtain⟨u,s3,h3,h⟩:=bind_ok h
   split at h
   ·cases h
   split at h
   ·cases h
   split at h
   ·exact Qfo m _ _ a s2 h
   ·obtain⟨v,s4,h4,h⟩:=bind_ok h
    cases h
    rw[List.length_append,List.length_singleton];omega
theorem Qfp:∀(m:Nat) (l:List Dc) (s:PS) (a:List Dc) (s2:PS),l.length≤30→Y5 m l s = .ok a s2→a.length≤30
 |0,l,s,a,s2,hl,h=>by cases h;exact hl
 |m+1,l,s,a,s2,hl,h=>by
  rw[Y5]at h
  split at h
  ·obtain⟨d,s1,h1,h⟩:=bind_ok h
   exact Qfp m d s1 a s2 (Qfo _ _ _ _ _ h1) h
  ·cases h;exact hl
theorem QlO{l:List UInt8}:(∀p,Z8 l = .inl p→p.rules.length≤40∧p.decls.length≤30∧∀r∈p.rules,RlOk r)∧∀x e,Z8 l = .inr (x,e)→0≤x∧x≤l.length:=by
 refine⟨fun p h=>?_,fun x e h=>Qmb h⟩
 unfold Z8 at h
 cases hs:XQ l with
 |inr q=>rw[hs]at h;cases h
 |inl ts =>
  rw[hs]at h
  simp only at h
  cases hp:QbY ⟨ts,[]⟩with
  |err p c=>rw[hp]at h;cases h
  |ok q s2 =>
   rw[hp]at h
   cases h
   rw[QbY]at hp
   obtain⟨d,s1,h1,hp⟩:=bind_ok hp
   obtain⟨r,s3,h2,hp⟩:=bind_ok hp
   cases hp
   obtain⟨a1,a2⟩:=QfQ _ [] s1 r _ (fun _ h=>(List.not_mem_nil h).elim) (by decide) h2
   exact⟨a2,Qfp _ [] _ d s1 (by decide) h1,a1⟩
structure TokGr (H:Nat→AH) (m k e s:Nat):Prop where
 len:∀n,(H n).length=m
 lt:k<m
 get:∀n,(H n)[k]? = some (.grow e s n)
 set:∀n n',(H n).set k (.grow e s n')=H n'
theorem TokGr.old{H:Nat→AH}{m k e s:Nat}(V:TokGr H m k e s):∀n n' (i:Nat) b,(H n')[i]? = some b→(H n)[i]? = some b∨b.Below m:=by
 intro n n' i b hb
 rw[←V.set n n']at hb
 by_cases hi:k=i
 ·subst hi
  rw[List.getElem?_set_self (by rw[V.len];exact V.lt)]at hb
  cases hb
  exact .inr trivial
 ·rw[List.getElem?_set_ne hi]at hb
  exact .inl hb
theorem Qi3{g:G}(h:Q5 g=true):ndsL g.args≤200:=(QdA h).2
theorem QiP{g:G}(h:Q8 g=true):ndsL g.args≤200:=(QiN h).2
theorem QfH:∀n,n≤1000000→∀t:T,t.nds≤n→Pure Tryd.prog 84 [t.av,t.av] (.b true)
 |0,_,t,hn=>by have:=T.Qri t;omega
 |n+1,hb,t,hn=>by
  intro h
  have hnd:=T.Qri t
  have hll:=ZX t.args
  refine Qe Tryd.func84 rfl Tryd.call84 Tryd.ntmps84 Tryd.results84 (by simp) ?_
  iterate 2 (try (first|(((with_reducible refine Qa fun K E hK hE=>?_));simp -implicitDefEqProofs only[Qc,Qd,OpW,aop,undef,AS.ev,Qr,AV.QqY,↓reduceIte,seval])|((with_reducible refine hK _ ?_);clear hK)))
  refine Q2 (fun st=>st.tm 2 = .ptr h.length 0 0∧st.tm 3 = .ptr (h.length+1) 0 0∧st.h=h++[.cells 54 4 [t.av],.cells 54 4 [t.av]]) ?_ ?_
  ·rintro⟨tm,hp⟩ ⟨t2,t3,rfl⟩
   simp only at t2 t3
   repeat (first|(((with_reducible refine Qa fun K E hK hE=>?_));simp -implicitDefEqProofs only[Qc,Qd,OpW,aop,AS.ev,↓reduceIte,Nat.reduceLT,Qg,Qw,Qv,aLen,goInt,ti50,un50,Zx,t2])|(with_reducible (first|refine Qf fun K hK=>?_|refine Qi ?_))|((with_reducible refine hK _ ?_);clear hK))
   obtain⟨I,hI⟩:∃I:Nat→AS→Prop,I=fun m' s=>∃j:Nat,m'=t.args.length - j∧j≤t.args.length∧s.tm 2 = .ptr h.length 0 0∧s.tm 3 = .ptr (h.length+1) 0 0∧s.tm 36 = .i t.args.length∧s.tm 37 = .i j∧s.h=h++[.cells 54 4 [t.av],.cells 54 4 [t.av]]:=⟨_,rfl⟩;refine QR I ?_ (m:=t.args.length) ?_
   ·intro m' s hs;rw[hI]at hs;obtain⟨tm,hp⟩:=s;dsimp only at hs;obtain⟨j,rfl,hj,t2,t3,ta,tb,rfl⟩:=hs
    by_cases hlt:j<t.args.length
    ·have y1:((j:Nat):Int)<((t.args.length:Nat):Int):=by omega
     have wj:IntKind.i64.wrap (((j:Nat):Int)+1)=((j+1:Nat):Int):=XE (by omega)
     have hg:=QdG hlt
     have cs:=QfH n (by omega) t.args[j] (by omega)
     repeat (first|((first|(with_reducible (first|refine Qa fun K E hK hE=>?_|refine Qj fun K E hK hE=>?_|refine Qat cs ?_))|(refine QS (id:=6) [(0,0),(1,0),(2,0),(3,0),(4,0),(5,0),(6,0),(7,0),(8,0),(9,0),(10,1),(11,0)] mixed (by kernel_rfl) fun K hK=>?_));simp -implicitDefEqProofs only[Qc,Qd,OpW,aop,AS.ev,↓reduceIte,Qg,Qw,Qv,QM,aBin,ti50,ei50,ti54,Zx,t2,t3,ta,tb,y1,wj,QhX hlt,seval])|(with_reducible (first|refine Qf fun K hK=>?_|refine Qi ?_|refine Qk ?_|refine Qb ?_|refine Qn ?_))|((with_reducible refine hK _ ?_);clear hK)|(refine Qh rfl ?_;simp only[↓reduceIte,QrN]))
     refine Xi.mk (m':=t.args.length - (j+1)) (by omega) ?_
     rw[hI]
     exact⟨j+1,rfl,hlt,t2,t3,ta,rfl,rfl⟩
    ·have y1:¬((j:Nat):Int)<((t.args.length:Nat):Int):=by omega
     repeat (first|(((with_reducible refine Qa fun K E hK hE=>?_));simp -implicitDefEqProofs only[Qc,Qd,OpW,aop,AS.ev,Nat.reduceLT,aBin,ta,tb,y1])|(with_reducible (first|refine Qf fun K hK=>?_|refine Qm ?_|refine QF ?_|refine Qb ?_|refine QD ?_|refine QC ?_))|((with_reducible refine hK _ ?_);clear hK)|(clear hK;(with_reducible refine hK _ ?_);clear hK)|(refine Qh rfl ?_;simp only[↓reduceIte,QrN]))
     simp only[QH,Qo,Qt,upd,↓reduceIte,QrP,QrT];(refine Qq (htake _ _) (.keep (.v _)) ⟨rfl,rfl⟩)
   ·rw[hI]
    exact⟨0,rfl,Nat.zero_le _,t2,t3,rfl,rfl,rfl⟩
  ·(with_reducible refine Qa fun K E hK hE=>?_)
   (try simp only[Qsk]);refine QI 8 (fun K1 hK1=>?_);simp -implicitDefEqProofs only[Qc,Qd,OpW,aop,AS.ev,↓reduceIte,Qg,Qw,Qv,aBin,ti3,YM,YC,seval];refine hK1 _ ?_;clear hK1
   (try simp only[QrS,Qr0]);refine QI 8 (fun K1 hK1=>?_);simp -implicitDefEqProofs only[Qc,Qd,OpW,aop,AS.ev,↓reduceIte,Qg,Qw,Qv,aBin,ti3,ti9,YC,ZV,seval];refine hK1 _ ?_;clear hK1
   (try simp only[QrS,Qr0]);refine QI 8 (fun K1 hK1=>?_);simp -implicitDefEqProofs only[Qc,Qd,OpW,aop,AS.ev,↓reduceIte,Qg,Qw,Qv,aBin,aLen,goInt,ti9,ti50,un50,Zx,seval];refine hK1 _ ?_;clear hK1
   (try simp only[QrS,Qr0])
   simp -implicitDefEqProofs only[Qc,Qd,OpW,aop,AS.ev,↓reduceIte,Qw,Qv,aBin,aLen,goInt,ti50,un50,seval]
   repeat (first|(with_reducible (first|refine Qk ?_|refine Qb ?_))|((with_reducible refine hK _ ?_);clear hK)|(refine Qh rfl ?_;simp only[↓reduceIte,QrN]))
   exact⟨rfl,rfl,rfl⟩
theorem Qek(l:List T)(hn:ndsL l≤1000000):Pure Tryd.prog 71 [.sl 4 (avs l) none,.sl 4 (avs l) none] (.b true):=by
 intro h
 have hll:=ZX l
 refine Qe Tryd.func71 rfl Tryd.call71 Tryd.ntmps71 Tryd.results71 (by simp) ?_
 repeat (first|(((with_reducible refine Qa fun K E hK hE=>?_));simp -implicitDefEqProofs only[Qc,Qd,OpW,aop,undef,AS.ev,Qr,↓reduceIte,aBin,aLen,goInt,un50,seval])|(with_reducible (first|refine Qf fun K hK=>?_|refine Qi ?_|refine Qk ?_|refine Qb ?_))|((with_reducible refine hK _ ?_);clear hK)|(refine Qh rfl ?_;simp only[↓reduceIte,QrN]))
 obtain⟨I,hI⟩:∃I:Nat→AS→Prop,I=fun m' s=>∃j:Nat,m'=l.length - j∧j≤l.length∧s.tm 0 = .sl 4 (avs l) none∧s.tm 1 = .sl 4 (avs l) none∧s.tm 12 = .i l.length∧s.tm 13 = .i j∧s.h=h:=⟨_,rfl⟩;refine QR I ?_ (m:=l.length) ?_
 ·intro m' s hs;rw[hI]at hs;obtain⟨tm,hp⟩:=s;dsimp only at hs;obtain⟨j,rfl,hj,t0,t1,ta,tb,rfl⟩:=hs
  by_cases hlt:j<l.length
  ·have y1:((j:Nat):Int)<((l.length:Nat):Int):=by omega
   have wj:IntKind.i64.wrap (((j:Nat):Int)+1)=((j+1:Nat):Int):=XE (by omega)
   have hg:=QdG hlt
   have cs:=QfH 1000000 (Nat.le_refl _) l[j] (by omega)
   repeat (first|((first|(with_reducible (first|refine Qa fun K E hK hE=>?_|refine Qj fun K E hK hE=>?_|refine Qat cs ?_))|(refine QS (id:=6) [(0,0),(1,0),(2,0),(3,0),(4,0),(5,0),(6,0),(7,0),(8,1),(9,0)] mixed (by kernel_rfl) fun K hK=>?_));simp -implicitDefEqProofs only[Qc,Qd,OpW,aop,AS.ev,↓reduceIte,Qw,Qv,QM,aBin,ei50,ti54,t0,t1,ta,tb,y1,wj,QhX hlt,seval])|(with_reducible (first|refine Qf fun K hK=>?_|refine Qi ?_|refine Qk ?_|refine Qb ?_|refine Qn ?_))|((with_reducible refine hK _ ?_);clear hK)|(refine Qh rfl ?_;simp only[↓reduceIte,QrN]))
   refine Xi.mk (m':=l.length - (j+1)) (by omega) ?_
   rw[hI]
   exact⟨j+1,rfl,hlt,t0,t1,ta,rfl,rfl⟩
  ·have y1:¬((j:Nat):Int)<((l.length:Nat):Int):=by omega
   repeat (first|(((with_reducible refine Qa fun K E hK hE=>?_));simp -implicitDefEqProofs only[Qc,Qd,OpW,aop,AS.ev,Nat.reduceLT,aBin,ta,tb,y1])|(with_reducible (first|refine Qf fun K hK=>?_|refine Qm ?_|refine QF ?_|refine Qb ?_|refine QD ?_|refine QC ?_))|((with_reducible refine hK _ ?_);clear hK)|(clear hK;(with_reducible refine hK _ ?_);clear hK)|(refine Qh rfl ?_;simp only[↓reduceIte,QrN]))
   simp only[QH,Qo,Qt,upd,↓reduceIte,QrP,QrT];(refine Qq List.take_length (.keep (.v _)) ⟨rfl,rfl⟩)
 ·rw[hI]
  exact⟨0,rfl,Nat.zero_le _,rfl,rfl,rfl,rfl,rfl⟩
theorem Qed(l:List G)(hl:l.length≤1000000)(hn:∀g∈l,ndsL g.args≤1000000):Pure Tryd.prog 53 [.sl 2 (vs G.atom l) none,.sl 2 (vs G.atom l) none] (.b true):=by
 intro h
 have ev:(vs G.atom l).length=l.length:=ZR _ _
 refine Qe Tryd.func53 rfl Tryd.call53 Tryd.ntmps53 Tryd.results53 (by simp) ?_
 repeat (first|(((with_reducible refine Qa fun K E hK hE=>?_));simp -implicitDefEqProofs only[Qc,Qd,OpW,aop,undef,AS.ev,Qr,↓reduceIte,aBin,aLen,goInt,un31,ev,seval])|(with_reducible (first|refine Qf fun K hK=>?_|refine Qi ?_|refine Qk ?_|refine Qb ?_))|((with_reducible refine hK _ ?_);clear hK)|(refine Qh rfl ?_;simp only[↓reduceIte,QrN]))
 obtain⟨I,hI⟩:∃I:Nat→AS→Prop,I=fun m' s=>∃j:Nat,m'=l.length - j∧j≤l.length∧s.tm 0 = .sl 2 (vs G.atom l) none∧s.tm 1 = .sl 2 (vs G.atom l) none∧s.tm 12 = .i l.length∧s.tm 13 = .i j∧s.h=h:=⟨_,rfl⟩;refine QR I ?_ (m:=l.length) ?_
 ·intro m' s hs;rw[hI]at hs;obtain⟨tm,hp⟩:=s;dsimp only at hs;obtain⟨j,rfl,hj,t0,t1,ta,tb,rfl⟩:=hs
  by_cases hlt:j<l.length
  ·have y1:((j:Nat):Int)<((l.length:Nat):Int):=by omega
   have wj:IntKind.i64.wrap (((j:Nat):Int)+1)=((j+1:Nat):Int):=XE (by omega)
   have cs:=Qek l[j].args (hn _ (List.getElem_mem hlt))
   have e1:=Qas l[j]
   have e2:(G.atom l[j]).isAgg=true:=rfl
   repeat (first|((first|(with_reducible (first|refine Qa fun K E hK hE=>?_|refine Qj fun K E hK hE=>?_|refine Qat cs ?_))|(refine QS (id:=6) [(0,0),(1,0),(2,0),(3,0),(4,0),(5,0),(6,0),(7,0),(8,0),(9,0),(10,0),(11,0),(12,0),(13,0),(14,0),(15,0),(16,0),(17,0),(18,0),(19,0),(20,0),(21,0),(22,1),(23,0),(24,0)] mixed (by kernel_rfl) fun K hK=>?_));simp -implicitDefEqProofs only[Qc,Qd,OpW,aop,AS.ev,↓reduceIte,Qg,Qw,Qv,QM,aBin,ti9,ei31,ti50,Qfv,Z7,t0,t1,ta,tb,y1,wj,ev,QjF (f:=G.atom) hlt,e1,seval])|(with_reducible (first|refine Qf fun K hK=>?_|refine Qi ?_|refine Qk ?_|refine Qb ?_|refine Qn ?_))|((with_reducible refine hK _ ?_);clear hK)|(refine Qh rfl ?_;simp only[↓reduceIte,QrN]))
   refine Xi.mk (m':=l.length - (j+1)) (by omega) ?_
   rw[hI]
   exact⟨j+1,rfl,hlt,t0,t1,ta,rfl,rfl⟩
  ·have y1:¬((j:Nat):Int)<((l.length:Nat):Int):=by omega
   repeat (first|(((with_reducible refine Qa fun K E hK hE=>?_));simp -implicitDefEqProofs only[Qc,Qd,OpW,aop,AS.ev,Nat.reduceLT,aBin,ta,tb,y1])|(with_reducible (first|refine Qf fun K hK=>?_|refine Qm ?_|refine QF ?_|refine Qb ?_|refine QD ?_|refine QC ?_))|((with_reducible refine hK _ ?_);clear hK)|(clear hK;(with_reducible refine hK _ ?_);clear hK)|(refine Qh rfl ?_;simp only[↓reduceIte,QrN]))
   simp only[QH,Qo,Qt,upd,↓reduceIte,QrP,QrT];(refine Qq List.take_length (.keep (.v _)) ⟨rfl,rfl⟩)
 ·rw[hI]
  exact⟨0,rfl,Nat.zero_le _,rfl,rfl,rfl,rfl,rfl⟩
theorem Qeg(l:List G)(hl:l.length≤1000000)(hn:∀g∈l,ndsL g.args≤1000000):Pure Tryd.prog 54 [.sl 3 (vs G.goal l) none,.sl 3 (vs G.goal l) none] (.b true):=by
 intro h
 have ev:(vs G.goal l).length=l.length:=ZR _ _
 refine Qe Tryd.func54 rfl Tryd.call54 Tryd.ntmps54 Tryd.results54 (by simp) ?_
 repeat (first|(((with_reducible refine Qa fun K E hK hE=>?_));simp -implicitDefEqProofs only[Qc,Qd,OpW,aop,undef,AS.ev,Qr,↓reduceIte,aBin,aLen,goInt,un32,ev,seval])|(with_reducible (first|refine Qf fun K hK=>?_|refine Qi ?_|refine Qk ?_|refine Qb ?_))|((with_reducible refine hK _ ?_);clear hK)|(refine Qh rfl ?_;simp only[↓reduceIte,QrN]))
 obtain⟨I,hI⟩:∃I:Nat→AS→Prop,I=fun m' s=>∃j:Nat,m'=l.length - j∧j≤l.length∧s.tm 0 = .sl 3 (vs G.goal l) none∧s.tm 1 = .sl 3 (vs G.goal l) none∧s.tm 12 = .i l.length∧s.tm 13 = .i j∧s.h=h:=⟨_,rfl⟩;refine QR I ?_ (m:=l.length) ?_
 ·intro m' s hs;rw[hI]at hs;obtain⟨tm,hp⟩:=s;dsimp only at hs;obtain⟨j,rfl,hj,t0,t1,ta,tb,rfl⟩:=hs
  by_cases hlt:j<l.length
  ·have y1:((j:Nat):Int)<((l.length:Nat):Int):=by omega
   have wj:IntKind.i64.wrap (((j:Nat):Int)+1)=((j+1:Nat):Int):=XE (by omega)
   have cs:=Qek l[j].args (hn _ (List.getElem_mem hlt))
   have e1:=Xm l[j]
   have e2:(G.goal l[j]).isAgg=true:=rfl
   repeat (first|((first|(with_reducible (first|refine Qa fun K E hK hE=>?_|refine Qj fun K E hK hE=>?_|refine Qat cs ?_))|(refine QS (id:=6) [(0,0),(1,0),(2,0),(3,0),(4,0),(5,0),(6,0),(7,0),(8,0),(9,0),(10,0),(11,0),(12,0),(13,0),(14,0),(15,0),(16,0),(17,0),(18,0),(19,0),(20,0),(21,0),(22,0),(23,0),(24,0),(25,0),(26,0),(27,0),(28,0),(29,0),(30,0),(31,0),(32,0),(33,0),(34,0),(35,1),(36,0),(37,0)] mixed (by kernel_rfl) fun K hK=>?_));simp -implicitDefEqProofs only[Qc,Qd,OpW,aop,AS.ev,↓reduceIte,Qg,Qw,Qv,QM,aBin,ti3,ti9,ei32,ti50,YB,Qft,QaA,t0,t1,ta,tb,y1,wj,ev,QjF (f:=G.goal) hlt,e1,seval])|(with_reducible (first|refine Qf fun K hK=>?_|refine Qi ?_|refine Qk ?_|refine Qb ?_|refine Qn ?_))|((with_reducible refine hK _ ?_);clear hK)|(refine Qh rfl ?_;simp only[↓reduceIte,QrN]))
   refine Xi.mk (m':=l.length - (j+1)) (by omega) ?_
   rw[hI]
   exact⟨j+1,rfl,hlt,t0,t1,ta,rfl,rfl⟩
  ·have y1:¬((j:Nat):Int)<((l.length:Nat):Int):=by omega
   repeat (first|(((with_reducible refine Qa fun K E hK hE=>?_));simp -implicitDefEqProofs only[Qc,Qd,OpW,aop,AS.ev,Nat.reduceLT,aBin,ta,tb,y1])|(with_reducible (first|refine Qf fun K hK=>?_|refine Qm ?_|refine QF ?_|refine Qb ?_|refine QD ?_|refine QC ?_))|((with_reducible refine hK _ ?_);clear hK)|(clear hK;(with_reducible refine hK _ ?_);clear hK)|(refine Qh rfl ?_;simp only[↓reduceIte,QrN]))
   simp only[QH,Qo,Qt,upd,↓reduceIte,QrP,QrT];(refine Qq List.take_length (.keep (.v _)) ⟨rfl,rfl⟩)
 ·rw[hI]
  exact⟨0,rfl,Nat.zero_le _,rfl,rfl,rfl,rfl,rfl⟩
theorem Qie(l:List ByteArray)(hl:l.length≤1000000):Pure Tryd.prog 14 [.sl 1 (strs l) none,.sl 1 (strs l) none] (.b true):=by
 intro h
 refine Qe Tryd.func14 rfl Tryd.call14 Tryd.ntmps14 Tryd.results14 (by simp) ?_
 repeat (first|(((with_reducible refine Qa fun K E hK hE=>?_));simp -implicitDefEqProofs only[Qc,Qd,OpW,aop,undef,AS.ev,Qr,↓reduceIte,aBin,aLen,goInt,un46,YH,seval])|(with_reducible (first|refine Qf fun K hK=>?_|refine Qi ?_|refine Qk ?_|refine Qb ?_))|((with_reducible refine hK _ ?_);clear hK)|(refine Qh rfl ?_;simp only[↓reduceIte,QrN]))
 obtain⟨I,hI⟩:∃I:Nat→AS→Prop,I=fun m' s=>∃j:Nat,m'=l.length - j∧j≤l.length∧s.tm 0 = .sl 1 (strs l) none∧s.tm 1 = .sl 1 (strs l) none∧s.tm 12 = .i l.length∧s.tm 13 = .i j∧s.h=h:=⟨_,rfl⟩;refine QR I ?_ (m:=l.length) ?_
 ·intro m' s hs;rw[hI]at hs;obtain⟨tm,hp⟩:=s;dsimp only at hs;obtain⟨j,rfl,hj,t0,t1,ta,tb,rfl⟩:=hs
  by_cases hlt:j<l.length
  ·have y1:((j:Nat):Int)<((l.length:Nat):Int):=by omega
   have wj:IntKind.i64.wrap (((j:Nat):Int)+1)=((j+1:Nat):Int):=XE (by omega)
   have hat:(strs l)[j]? = some (.v (.string l[j])):=by rw[strs,List.getElem?_map,List.getElem?_eq_getElem hlt];rfl
   repeat (first|((first|(with_reducible (first|refine Qa fun K E hK hE=>?_|refine Qj fun K E hK hE=>?_))|(refine QS (id:=6) [(0,0),(1,0),(2,0),(3,0),(4,0),(5,0),(6,0),(7,0),(8,0)] mixed (by kernel_rfl) fun K hK=>?_));simp -implicitDefEqProofs only[Qc,Qd,OpW,aop,AS.ev,↓reduceIte,Qw,Qv,QM,aBin,ti9,ei46,t0,t1,ta,tb,y1,wj,YH,hat,seval])|(with_reducible (first|refine Qf fun K hK=>?_|refine Qi ?_|refine Qk ?_|refine Qb ?_|refine Qn ?_))|((with_reducible refine hK _ ?_);clear hK)|(refine Qh rfl ?_;simp only[↓reduceIte,QrN]))
   refine Xi.mk (m':=l.length - (j+1)) (by omega) ?_
   rw[hI]
   exact⟨j+1,rfl,hlt,t0,t1,ta,rfl,rfl⟩
  ·have y1:¬((j:Nat):Int)<((l.length:Nat):Int):=by omega
   repeat (first|(((with_reducible refine Qa fun K E hK hE=>?_));simp -implicitDefEqProofs only[Qc,Qd,OpW,aop,AS.ev,Nat.reduceLT,aBin,ta,tb,y1])|(with_reducible (first|refine Qf fun K hK=>?_|refine Qm ?_|refine QF ?_|refine Qb ?_|refine QD ?_|refine QC ?_))|((with_reducible refine hK _ ?_);clear hK)|(clear hK;(with_reducible refine hK _ ?_);clear hK)|(refine Qh rfl ?_;simp only[↓reduceIte,QrN]))
   simp only[QH,Qo,Qt,upd,↓reduceIte,QrP,QrT];(refine Qq List.take_length (.keep (.v _)) ⟨rfl,rfl⟩)
 ·rw[hI]
  exact⟨0,rfl,Nat.zero_le _,rfl,rfl,rfl,rfl,rfl⟩
structure RlB (r:Rl):Prop where
 ke:r.keep.length≤1000000∧∀g∈r.keep,ndsL g.args≤1000000
 re:r.remove.length≤1000000∧∀g∈r.remove,ndsL g.args≤1000000
 gu:r.guard.length≤1000000∧∀g∈r.guard,ndsL g.args≤1000000
 bo:r.body.length≤1000000∧∀g∈r.body,ndsL g.args≤1000000
theorem RlOk.bnd{r:Rl}(h:RlOk r):RlB r:=by
 have h4:=h.h4
 have h5:=h.g12
 have h6:=h.b12
 exact⟨⟨by omega,fun g hg=>by have:=QiP (h.ka g hg);omega⟩,⟨by omega,fun g hg=>by have:=QiP (h.ra g hg);omega⟩,⟨by omega,fun g hg=>by have:=Qi3 (h.ga g hg);omega⟩,⟨by omega,fun g hg=>by have:=Qi3 (h.ba g hg);omega⟩⟩
theorem Qj5(r:Rl)(hr:RlB r):Pure Tryd.prog 25 [r.av,r.av] (.b true):=by
 intro h
 have c1:=Qed r.keep hr.ke.1 hr.ke.2
 have c2:=Qed r.remove hr.re.1 hr.re.2
 have c3:=Qeg r.guard hr.gu.1 hr.gu.2
 have c4:=Qeg r.body hr.bo.1 hr.bo.2
 have rc:=Rl.cells r
 have ri:=Rl.isAgg r
 refine Qe Tryd.func25 rfl Tryd.call25 Tryd.ntmps25 Tryd.results25 (by simp) ?_
 iterate 2 (try (first|(((with_reducible refine Qa fun K E hK hE=>?_));simp -implicitDefEqProofs only[Qc,Qd,OpW,aop,undef,AS.ev,Qr,AV.QqY,↓reduceIte,rc,seval])|((with_reducible refine hK _ ?_);clear hK)))
 (with_reducible refine Qa fun K E hK hE=>?_)
 (try simp only[Qsk]);refine QI 5 (fun K1 hK1=>?_);simp -implicitDefEqProofs only[Qc,Qd,OpW,aop,AS.ev,↓reduceIte,Qg,Qw,Qv,aBin,ti9,Qlq,rc,seval];refine hK1 _ ?_;clear hK1
 (try simp only[QrS,Qr0]);refine QI 7 (fun K1 hK1=>?_);simp -implicitDefEqProofs only[Qc,Qd,OpW,aop,AS.ev,↓reduceIte,Qg,Qw,Qv,ti31,Qfr,rc,seval];(repeat ((((with_reducible refine Qz c1 ?_));simp -implicitDefEqProofs only[Qc,Qd,OpW,QB,aop,AS.ev,↓reduceIte,seval])));refine hK1 _ ?_;clear hK1
 (try simp only[QrS,Qr0]);refine QI 7 (fun K1 hK1=>?_);simp -implicitDefEqProofs only[Qc,Qd,OpW,aop,AS.ev,↓reduceIte,Qg,Qw,Qv,ti31,Qfs,rc,seval];(repeat ((((with_reducible refine Qz c2 ?_));simp -implicitDefEqProofs only[Qc,Qd,OpW,QB,aop,AS.ev,↓reduceIte,seval])));refine hK1 _ ?_;clear hK1
 (try simp only[QrS,Qr0]);refine QI 7 (fun K1 hK1=>?_);simp -implicitDefEqProofs only[Qc,Qd,OpW,aop,AS.ev,↓reduceIte,Qg,Qw,Qv,ti32,Qch,rc,seval];(repeat ((((with_reducible refine Qz c3 ?_));simp -implicitDefEqProofs only[Qc,Qd,OpW,QB,aop,AS.ev,↓reduceIte,seval])));refine hK1 _ ?_;clear hK1
 (try simp only[QrS,Qr0]);refine QI 7 (fun K1 hK1=>?_);simp -implicitDefEqProofs only[Qc,Qd,OpW,aop,AS.ev,↓reduceIte,Qg,Qw,Qv,ti32,Qae,rc,seval];(repeat ((((with_reducible refine Qz c4 ?_));simp -implicitDefEqProofs only[Qc,Qd,OpW,QB,aop,AS.ev,↓reduceIte,seval])));refine hK1 _ ?_;clear hK1
 (try simp only[QrS,Qr0])
 simp -implicitDefEqProofs only[Qc,Qd,OpW,aop,AS.ev,↓reduceIte,Qg,Qw,Qv,aBin,ti3,Qlr,rc,seval]
 repeat (first|(with_reducible refine Qm ?_)|((with_reducible refine hK _ ?_);clear hK))
 simp only[QH,Qo,Qt,upd,↓reduceIte,QrP,QrT];(refine Qq (htake _ _) (.keep (.v _)) ⟨rfl,rfl⟩)
def eqF(d:Nat)(xs ys:Array Value):List Field→Sem Bool
 |[]=>pure true
 |f::fs =>
  if f.name ≠ "_" then do
   let a←part f.type xs f.offset
   let b←part f.type ys f.offset
   let r←Op.equalIn d f.type a b
   if (!r)=true then pure false else eqF d xs ys fs
  else eqF d xs ys fs
theorem Qox{α:Type}{P:Program}(c:Prop)[Decidable c](a b:Sem α):pv P (if c then a else b)=if c then pv P a else pv P b:=by split <;> rfl
theorem Qmm{P:Program}(d:Nat)(t:TypeId)(xs ys:Array Value)(fs:Array Field)(ht:P.underlying t=some (.struct fs))(hp:P.stoodInHeld t=false) :
  pv P (Op.equalIn (d+1) t (.agg xs) (.agg ys))=pv P (eqF d xs ys fs.toList):=by
 have hprog:pv P program=some P:=rfl
 simp only[Op.equalIn,Ya,Qct P ht,QrO,hprog,hp,QrN,if_false]
 rw[←Array.forIn_toList]
 generalize fs.toList=fs
 clear ht
 induction fs with
 |nil=>rfl
 |cons f fs ih =>
  simp only[List.forIn_cons,eqF,Ya,Qox]
  split
  ·cases pv P (part f.type xs f.offset)with
   |none=>rfl
   |some a =>
    simp only[QrO]
    cases pv P (part f.type ys f.offset)with
    |none=>rfl
    |some b =>
     simp only[QrO]
     cases pv P (Op.equalIn d f.type a b)with
     |none=>rfl
     |some r =>
      cases r
      ·rfl
      ·simp only[QrO,Qr6,QrN,if_false]
       exact ih
  ·exact ih
theorem Qni(x:ByteArray)(a:Int)(xo yo:Operand):QdQ Tryd.prog .neq 78 xo yo [.v (.string x),.v (.int .i64 a)] [.v (.string x),.v (.int .i64 a)]=some (.v (.bool false)):=by
 unfold QdQ
 simp only[Qdk,QrL]
 obtain⟨fs,hfs,hlist⟩:∃fs,Tryd.prog.underlying 78=some (.struct fs)∧pv Tryd.prog (eqF 9999 [Value.string x,Value.int .i64 a].toArray [Value.string x,Value.int .i64 a].toArray fs.toList)=some true:=by
  refine⟨_,Tryd.underlying78,?_⟩
  have h1:pv Tryd.prog (Op.equalIn 9999 9 (.string x) (.string x))=some (x==x):=by kernel_rfl
  have h2:pv Tryd.prog (Op.equalIn 9999 3 (.int .i64 a) (.int .i64 a))=some (a==a):=by kernel_rfl
  have p1:pv Tryd.prog (part 9 [Value.string x,Value.int .i64 a].toArray 0)=some (.string x):=by kernel_rfl
  have p2:pv Tryd.prog (part 3 [Value.string x,Value.int .i64 a].toArray 1)=some (.int .i64 a):=by kernel_rfl
  have hx:(x==x)=true:=by
   obtain⟨⟨l⟩⟩:=x
   show((⟨l⟩:Array UInt8)==⟨l⟩)=true
   simp
  rw[hx]at h1
  simp[eqF,Ya,Qox,h1,h2,p1,p2,Qey]
 have he:pv Tryd.prog (Op.equal 78 (.agg [Value.string x,Value.int .i64 a].toArray) (.agg [Value.string x,Value.int .i64 a].toArray))=some true:=(Qmm 9999 78 _ _ fs hfs (by kernel_rfl)).trans hlist
 have hg:pv Tryd.prog (eqGuard .neq 78 xo yo (.agg [Value.string x,Value.int .i64 a].toArray) (.agg [Value.string x,Value.int .i64 a].toArray))=some ():=by kernel_rfl
 have hb:pv Tryd.prog (binOp .neq 78 (.agg [Value.string x,Value.int .i64 a].toArray) (.agg [Value.string x,Value.int .i64 a].toArray))=(pv Tryd.prog (Op.equal 78 (.agg [Value.string x,Value.int .i64 a].toArray) (.agg [Value.string x,Value.int .i64 a].toArray))).bind fun b=>some (.bool (!b)):=by
  show pv Tryd.prog (Op.equal _ _ _ >>= fun b=>pure (Value.bool (!b)))=_
  rw[Ya];rfl
 rw[Ya,hg,Option.bind_some,hb,he]
 rfl
theorem QfG(p:Pg)(hd:p.decls.length≤1000000)(hl:p.rules.length≤1000000)(hr:∀r∈p.rules,RlB r):Pure Tryd.prog 11 [p.av,p.av] (.b true):=by
 intro h
 have pc:=Pg.cells p
 have pi:=Pg.isAgg p
 have ld:(vs Dc.av p.decls).length=p.decls.length:=ZR _ _
 have lr:(vs Rl.av p.rules).length=p.rules.length:=ZR _ _
 refine Qe Tryd.func11 rfl Tryd.call11 Tryd.ntmps11 Tryd.results11 (by simp) ?_
 iterate 2 (try (first|(((with_reducible refine Qa fun K E hK hE=>?_));simp -implicitDefEqProofs only[Qc,Qd,OpW,aop,undef,AS.ev,Qr,AV.QqY,↓reduceIte,pc,seval])|((with_reducible refine hK _ ?_);clear hK)))
 refine Q2 (fun st=>st.tm 2 = .ptr h.length 0 0∧st.tm 3 = .ptr (h.length+1) 0 0∧st.h=h++[.cells 26 2 [p.av],.cells 26 2 [p.av]]) ?_ ?_
 ·rintro⟨tm,hp⟩ ⟨t2,t3,rfl⟩
  simp only at t2 t3
  refine Q2 (fun st=>st.tm 2 = .ptr h.length 0 0∧st.tm 3 = .ptr (h.length+1) 0 0∧st.h=h++[.cells 26 2 [p.av],.cells 26 2 [p.av]]) ?_ ?_
  ·rintro⟨tm,hp⟩ ⟨t2,t3,rfl⟩
   simp only at t2 t3
   repeat (first|(((with_reducible refine Qa fun K E hK hE=>?_));simp -implicitDefEqProofs only[Qc,Qd,OpW,aop,AS.ev,↓reduceIte,Nat.reduceLT,Qg,Qw,Qv,aLen,goInt,ti24,un24,Qa4,t2,pc,lr])|(with_reducible (first|refine Qf fun K hK=>?_|refine Qi ?_))|((with_reducible refine hK _ ?_);clear hK))
   obtain⟨I,hI⟩:∃I:Nat→AS→Prop,I=fun m' s=>∃j:Nat,m'=p.rules.length - j∧j≤p.rules.length∧s.tm 2 = .ptr h.length 0 0∧s.tm 3 = .ptr (h.length+1) 0 0∧s.tm 43 = .i p.rules.length∧s.tm 44 = .i j∧s.h=h++[.cells 26 2 [p.av],.cells 26 2 [p.av]]:=⟨_,rfl⟩;refine QR I ?_ (m:=p.rules.length) ?_
   ·intro m' s hs;rw[hI]at hs;obtain⟨tm,hp⟩:=s;dsimp only at hs;obtain⟨j,rfl,hj,t2,t3,ta,tb,rfl⟩:=hs
    by_cases hlt:j<p.rules.length
    ·have y1:((j:Nat):Int)<((p.rules.length:Nat):Int):=by omega
     have wj:IntKind.i64.wrap (((j:Nat):Int)+1)=((j+1:Nat):Int):=XE (by omega)
     have cs:=Qj5 p.rules[j] (hr _ (List.getElem_mem hlt))
     have e1:=Rl.cells p.rules[j]
     have e2:=Rl.isAgg p.rules[j]
     repeat (first|((first|(with_reducible (first|refine Qa fun K E hK hE=>?_|refine Qj fun K E hK hE=>?_|refine Qat cs ?_))|(refine QS (id:=12) [(0,0),(1,0),(2,0),(3,0),(4,0),(5,0),(6,0),(7,0),(8,0),(9,0),(10,1),(11,0)] mixed (by kernel_rfl) fun K hK=>?_));simp -implicitDefEqProofs only[Qc,Qd,OpW,aop,AS.ev,↓reduceIte,Qg,Qw,Qv,QM,aBin,ti24,ei24,Qa4,ti34,t2,t3,ta,tb,y1,wj,pc,lr,QjF (f:=Rl.av) hlt,e1,e2,seval])|(with_reducible (first|refine Qf fun K hK=>?_|refine Qi ?_|refine Qk ?_|refine Qb ?_|refine Qn ?_))|((with_reducible refine hK _ ?_);clear hK)|(refine Qh rfl ?_;simp only[↓reduceIte,QrN]))
     refine Xi.mk (m':=p.rules.length - (j+1)) (by omega) ?_
     rw[hI]
     exact⟨j+1,rfl,hlt,t2,t3,ta,rfl,rfl⟩
    ·have y1:¬((j:Nat):Int)<((p.rules.length:Nat):Int):=by omega
     repeat (first|(((with_reducible refine Qa fun K E hK hE=>?_));simp -implicitDefEqProofs only[Qc,Qd,OpW,aop,AS.ev,Nat.reduceLT,aBin,ta,tb,y1])|(with_reducible (first|refine Qf fun K hK=>?_|refine Qm ?_|refine QF ?_|refine Qb ?_|refine QD ?_|refine QC ?_))|((with_reducible refine hK _ ?_);clear hK)|(clear hK;(with_reducible refine hK _ ?_);clear hK)|(refine Qh rfl ?_;simp only[↓reduceIte,QrN]))
     simp only[QH,Qo,Qt,upd,↓reduceIte,QrP,QrT];(refine Qq (htake _ _) (.keep (.v _)) ⟨rfl,rfl⟩)
   ·rw[hI]
    exact⟨0,rfl,Nat.zero_le _,t2,t3,rfl,rfl,rfl⟩
  ·repeat (first|(((with_reducible refine Qa fun K E hK hE=>?_));simp -implicitDefEqProofs only[Qc,Qd,OpW,aop,AS.ev,↓reduceIte,Nat.reduceLT,Qg,Qw,Qv,aLen,goInt,ti23,un23,Qg6,t2,pc,ld])|(with_reducible refine Qi ?_)|((with_reducible refine hK _ ?_);clear hK))
   obtain⟨I,hI⟩:∃I:Nat→AS→Prop,I=fun m' s=>∃j:Nat,m'=p.decls.length - j∧j≤p.decls.length∧s.tm 2 = .ptr h.length 0 0∧s.tm 3 = .ptr (h.length+1) 0 0∧s.tm 25 = .i p.decls.length∧s.tm 26 = .i j∧s.h=h++[.cells 26 2 [p.av],.cells 26 2 [p.av]]:=⟨_,rfl⟩;refine QR I ?_ (m:=p.decls.length) ?_
   ·intro m' s hs;rw[hI]at hs;obtain⟨tm,hp⟩:=s;dsimp only at hs;obtain⟨j,rfl,hj,t2,t3,ta,tb,rfl⟩:=hs
    by_cases hlt:j<p.decls.length
    ·have y1:((j:Nat):Int)<((p.decls.length:Nat):Int):=by omega
     have wj:IntKind.i64.wrap (((j:Nat):Int)+1)=((j+1:Nat):Int):=XE (by omega)
     have e1:=Dc.cells p.decls[j]
     have e2:=Dc.isAgg p.decls[j]
     have e3:=Qni p.decls[j].name p.decls[j].arity
     have e4:p.decls[j].av = .agg [.v (.string p.decls[j].name),.v (.int .i64 p.decls[j].arity)]:=rfl
     repeat (first|((first|(with_reducible (first|refine Qa fun K E hK hE=>?_|refine Qj fun K E hK hE=>?_))|(refine QS (id:=6) [(0,0),(1,0),(2,0),(3,0),(4,0),(5,0),(6,0),(7,0),(8,0),(9,0),(10,0)] mixed (by kernel_rfl) fun K hK=>?_));simp -implicitDefEqProofs only[Qc,Qd,OpW,aop,AS.ev,↓reduceIte,Qg,Qw,Qv,QM,aBin,ti23,ei23,Qg6,ti78,t2,t3,ta,tb,y1,wj,pc,ld,QjF (f:=Dc.av) hlt,e3,e4,seval])|(with_reducible (first|refine Qf fun K hK=>?_|refine Qi ?_|refine Qk ?_|refine Qb ?_|refine Qn ?_))|((with_reducible refine hK _ ?_);clear hK)|(refine Qh rfl ?_;simp only[↓reduceIte,QrN]))
     refine Xi.mk (m':=p.decls.length - (j+1)) (by omega) ?_
     rw[hI]
     exact⟨j+1,rfl,hlt,t2,t3,ta,rfl,rfl⟩
    ·have y1:¬((j:Nat):Int)<((p.decls.length:Nat):Int):=by omega
     repeat (first|(((with_reducible refine Qa fun K E hK hE=>?_));simp -implicitDefEqProofs only[Qc,Qd,OpW,aop,AS.ev,Nat.reduceLT,aBin,ta,tb,y1])|(with_reducible (first|refine Qf fun K hK=>?_|refine QF ?_|refine Qb ?_|refine QD ?_|refine QC ?_))|((with_reducible refine hK _ ?_);clear hK)|(refine Qh rfl ?_;simp only[↓reduceIte,QrN]))
     exact⟨t2,t3,rfl⟩
   ·rw[hI]
    exact⟨0,rfl,Nat.zero_le _,t2,t3,rfl,rfl,rfl⟩
 ·repeat (first|(((with_reducible refine Qa fun K E hK hE=>?_));simp -implicitDefEqProofs only[Qc,Qd,OpW,aop,AS.ev,↓reduceIte,Qg,Qw,Qv,aBin,aLen,goInt,ti23,un23,ti24,un24,Qg6,Qa4,pc,ld,lr,seval])|(with_reducible (first|refine Qk ?_|refine Qb ?_))|((with_reducible refine hK _ ?_);clear hK)|(refine Qh rfl ?_;simp only[↓reduceIte,QrN]))
  exact⟨rfl,rfl,rfl⟩
end Go.Proofs.YticgcpebdldbgaaDoor.Ab
set_option maxRecDepth 8000
namespace Go.Proofs.YticgcpebdldbgaaDoor.Ab
open Go.Proofs
def exS1:List UInt8:=[99,111,110,115,116,114,97,105,110,116,32,112,47,49,46,32,114,32,64,32,112,40,88,41,32,92,32,112,40,89,41,32,60,61,62,32,88,32,62,32,89,32,124,32,116,114,117,101,46]
def exS2:List UInt8:=[112,40,88,41,32,60,61,62,32,88,46]
def exS3:List UInt8:=[112,40,88,44,32,95,44,32,89,41,44,32,88,32,61,32,49,32,45,32,45,50]
def exG0:G:=⟨7,eB,[T.mk 1 1 eB [],T.mk 1 0 eB []]⟩
def exR:Rl:=⟨{data:=#[114]},[⟨0,{data:=#[112]},[T.mk 1 0 eB []]⟩],[⟨0,{data:=#[112]},[T.mk 1 1 eB []]⟩],[exG0],[],2⟩
def exP:Pg:=⟨[⟨{data:=#[112]},1⟩],[exR]⟩
def exT:T:=.mk 2 0 {data:=#[45]} [.mk 0 1 eB [],.mk 0 (-2) eB []]
def exG1:G:=⟨3,eB,[T.mk 1 0 eB [],exT]⟩
def exL:List G:=[⟨0,{data:=#[112]},[T.mk 1 0 eB [],T.mk 1 1 eB [],T.mk 1 2 eB []]⟩,exG1]
def exN:List ByteArray:=[{data:=#[88]},{data:=#[95]},{data:=#[89]}]
theorem exW1:Z8 exS1 = .inl exP:=by kernel_rfl
theorem exW2:Z8 exS2 = .inr (10,16):=by kernel_rfl
theorem exW3:Qhw exS3 = .inl (exL,exN):=by kernel_rfl
def strX:List AV:=[.v (.string {data:=#[88]}),.v (.string {data:=#[95]}),.v (.string {data:=#[89]})]
theorem Qfc(h:AH)(hG:ZJ h):QL Tryd.prog 6 [] h fun o h'=>o = .ret (.b true)∧h'=h:=by
 have c1:=fun L=>QaF exS1 (h++L) (hG.app L)
 have c2:=fun L=>QaF exS2 (h++L) (hG.app L)
 have c3:=fun L=>Qiu exS3 (h++L) (hG.app L)
 have c1':=QaF exS1 h hG
 rw[exW1,psR]at c1'
 simp only[exW2,psR]at c2
 simp only[exW3,sqR]at c3
 rw[show mkB exS1={data:=#[99,111,110,115,116,114,97,105,110,116,32,112,47,49,46,32,114,32,64,32,112,40,88,41,32,92,32,112,40,89,41,32,60,61,62,32,88,32,62,32,89,32,124,32,116,114,117,101,46]} from rfl]at c1'
 simp only[show mkB exS2={data:=#[112,40,88,41,32,60,61,62,32,88,46]} from rfl]at c2
 simp only[show mkB exS3={data:=#[112,40,88,44,32,95,44,32,89,41,44,32,88,32,61,32,49,32,45,32,45,50]} from rfl,show strs exN=strX from rfl]at c3
 have cT:Pure Tryd.prog 14 [.sl 1 strX none,.sl 1 strX none] (.b true):=Qie exN (by decide)
 have pc:=Pg.cells exP
 have pi:=Pg.isAgg exP
 have zc:=Pg.cells ⟨[],[]⟩
 have zi:=Pg.isAgg ⟨[],[]⟩
 have rc:=Rl.cells exR
 have ri:=Rl.isAgg exR
 refine Qe Tryd.func6 rfl Tryd.call6 Tryd.ntmps6 Tryd.results6 (by simp) ?_
 iterate 2 (try (first|(((with_reducible refine Qa fun K E hK hE=>?_));simp -implicitDefEqProofs only[XN,Y0,Qd,OpW,aop,AS.ev,Xw,Qjg,Nat.reduceLT])|((with_reducible refine hK _ ?_);clear hK)))
 refine Q2 (fun st=>st.tm 1 = .ptr h.length 0 0∧st.tm 2 = .i 0∧st.tm 3 = .i 0∧st.h=h++[.cells 26 2 [exP.av]]) ?_ ?_
 ·rintro⟨tm,hp⟩ ⟨t1,t2,t3,rfl⟩
  simp only at t1 t2 t3
  refine Q2 (fun st=>st.tm 1 = .ptr h.length 0 0∧st.tm 2 = .i 0∧st.tm 3 = .i 0∧st.tm 5 = .i 10∧st.tm 6 = .i 16∧st.h=h++[.cells 26 2 [exP.av],.cells 26 2 [(⟨[],[]⟩:Pg).av]]) ?_ ?_
  ·rintro⟨tm,hp⟩ ⟨t1,t2,t3,t5,t6,rfl⟩
   simp only at t1 t2 t3 t5 t6
   refine Q2 (fun st=>st.tm 1 = .ptr h.length 0 0∧st.tm 2 = .i 0∧st.tm 3 = .i 0∧st.tm 5 = .i 10∧st.tm 6 = .i 16∧st.tm 7 = .sl 3 (vs G.goal exL) none∧st.tm 8 = .sl 1 strX none∧st.tm 10 = .i 0∧st.h=h++[.cells 26 2 [exP.av],.cells 26 2 [(⟨[],[]⟩:Pg).av]]) ?_ ?_
   ·rintro⟨tm,hp⟩ ⟨t1,t2,t3,t5,t6,t7,t8,t10,rfl⟩
    simp only at t1 t2 t3 t5 t6 t7 t8 t10
    refine Q2 (fun st=>st.tm 1 = .ptr h.length 0 0∧st.tm 7 = .sl 3 (vs G.goal exL) none∧st.h=h++[.cells 26 2 [exP.av],.cells 26 2 [(⟨[],[]⟩:Pg).av]]) ?_ ?_
    ·rintro⟨tm,hp⟩ ⟨t1,t7,rfl⟩
     simp only at t1 t7
     refine Q2 (fun st=>st.tm 11 = .ptr (h.length+2) 0 0∧st.tm 7 = .sl 3 (vs G.goal exL) none∧st.h=h++[.cells 26 2 [exP.av],.cells 26 2 [(⟨[],[]⟩:Pg).av],.cells 34 6 [exR.av]]) ?_ ?_
     ·rintro⟨tm,hp⟩ ⟨t11,t7,rfl⟩
      simp only at t11 t7
      have q1:(exR.name.toList==({data:=#[114]}:ByteArray).toList)=true:=beq_self_eq_true _
      have k1:(vs G.atom exR.keep).length=1:=rfl
      have k2:(vs G.atom exR.remove).length=1:=rfl
      have k3:(vs G.goal exR.guard).length=1:=rfl
      have k4:(vs G.goal exR.body).length=0:=rfl
      have g0:(vs G.goal exR.guard)[0]? = some exG0.goal:=rfl
      have e1:=Xm exG0
      have e2:exG0.goal.isAgg=true:=rfl
      have a0:(avs exG0.args)[0]? = some (T.mk 1 1 eB []).av:=rfl
      have x1:(exG0.op==7)=true:=rfl
      have g1:(vs G.goal exL)[1]? = some exG1.goal:=rfl
      have e3:=Xm exG1
      have e4:exG1.goal.isAgg=true:=rfl
      have a1:(avs exG1.args)[1]? = some exT.av:=rfl
      have a2:(avs exT.args)[1]? = some (T.mk 0 (-2) eB []).av:=rfl
      have a3:(avs exT.args).length=2:=rfl
      have a4:(avs exG1.args).length=2:=rfl
      have a5:(avs exG0.args).length=2:=rfl
      have a6:(vs G.goal exL).length=2:=rfl
      have x2:((T.mk 1 1 eB []).int==1)=true:=rfl
      have x3:((T.mk 0 (-2) eB []).int == -2)=true:=rfl
      have x4:(exR.vars==2)=true:=rfl
      have u0:(0:Int)<((1:Nat):Int):=by decide
      have u1:(1:Int)<((2:Nat):Int):=by decide
      have u2:(0:Int)<((2:Nat):Int):=by decide
      have u3:(((1:Nat):Int)==1)=true:=rfl
      have u4:(((0:Nat):Int)==0)=true:=rfl
      have u5:(0:Int)≤1:=by decide
      (with_reducible refine Qa fun K E hK hE=>?_)
      simp only[List.append_eq,Qsb,Qsa]
      (try simp only[Qsk,QrS,Qr0]);refine QI 8 (fun K1 hK1=>?_);simp -implicitDefEqProofs only[Qc,Qd,OpW,aop,AS.ev,↓reduceIte,Qg,Qw,Qv,aBin,aLen,goInt,ti9,ti31,un31,Qlq,Qfr,t11,rc,q1,k1,u3,seval];refine hK1 _ ?_;clear hK1
      (try simp only[QrS,Qr0]);refine QI 8 (fun K1 hK1=>?_);simp -implicitDefEqProofs only[Qc,Qd,OpW,aop,AS.ev,↓reduceIte,Qg,Qw,Qv,aBin,aLen,goInt,ti31,un31,Qfs,t11,rc,k2,u3,seval];refine hK1 _ ?_;clear hK1
      (try simp only[QrS,Qr0]);refine QI 8 (fun K1 hK1=>?_);simp -implicitDefEqProofs only[Qc,Qd,OpW,aop,AS.ev,↓reduceIte,Qg,Qw,Qv,aBin,aLen,goInt,ti32,un32,Qch,t11,rc,k3,u3,seval];refine hK1 _ ?_;clear hK1
      (try simp only[QrS,Qr0]);refine QI 8 (fun K1 hK1=>?_);simp -implicitDefEqProofs only[Qc,Qd,OpW,aop,AS.ev,↓reduceIte,Qg,Qw,Qv,QM,aBin,ti3,ti32,ei32,Qch,YB,Qsw,t11,rc,k3,g0,e1,x1,u0,seval];refine hK1 _ ?_;clear hK1
      (try simp only[QrS,Qr0]);refine QI 8 (fun K1 hK1=>?_);simp -implicitDefEqProofs only[Qc,Qd,OpW,aop,AS.ev,↓reduceIte,Qg,Qw,Qv,QM,aBin,ti3,ei32,ti50,ei50,QaA,YC,Qsw,k3,g0,e1,a0,a5,x2,u0,u2,seval];refine hK1 _ ?_;clear hK1
      (try simp only[QrS,Qr0]);refine QI 8 (fun K1 hK1=>?_);simp -implicitDefEqProofs only[Qc,Qd,OpW,aop,AS.ev,↓reduceIte,Qg,Qw,Qv,aBin,aLen,goInt,ti32,un32,Qae,Qlr,t11,rc,k4,seval];refine hK1 _ ?_;clear hK1
      (try simp only[QrS,Qr0]);refine QI 8 (fun K1 hK1=>?_);simp -implicitDefEqProofs only[Qc,Qd,OpW,aop,AS.ev,↓reduceIte,Qg,Qw,Qv,QM,aBin,ti3,ei32,ti50,QaA,t7,rc,g1,e3,a6,x4,u1,u5,seval];refine hK1 _ ?_;clear hK1
      (try simp only[QrS,Qr0])
      simp -implicitDefEqProofs only[Qc,Qd,OpW,aop,AS.ev,↓reduceIte,Qg,Qw,Qv,QM,aBin,ti3,ti50,ei50,YC,Zx,a1,a2,a3,a4,x3,u1,u5,seval]
      repeat (first|(with_reducible refine Qm ?_)|((with_reducible refine hK _ ?_);clear hK))
      simp only[QH,Qo,Qt,upd,↓reduceIte,QrP,QrT];first|refine Qq (htake _ _) (.keep (.v _)) ⟨rfl,rfl⟩|refine Qq List.take_length (.keep (.v _)) ⟨rfl,rfl⟩
     ·have hl:(vs Rl.av exP.rules).length=1:=rfl
      have hg:(vs Rl.av exP.rules)[0]? = some exR.av:=rfl
      have u0:(0:Int)<((1:Nat):Int):=by decide
      repeat (first|(((with_reducible refine Qj fun K E hK hE=>?_));simp -implicitDefEqProofs only[Qc,Qd,OpW,aop,undef,AS.ev,AV.QqY,↓reduceIte,Qg,Qw,Qv,Qu,Ql,QM,ti24,ei24,Qa4,ti34,zi34,Qsw,t1,pc,hl,hg,rc,ri,u0,seval])|(with_reducible refine Qb ?_)|((with_reducible refine hK _ ?_);clear hK))
      exact⟨rfl,t7,rfl⟩
    ·have k1:(vs Dc.av exP.decls).length=1:=rfl
     have k2:(vs Rl.av exP.rules).length=1:=rfl
     have k3:(vs G.goal exL).length=2:=rfl
     have u3:(((1:Nat):Int) != 1)=false:=rfl
     have u4:(((2:Nat):Int) != 2)=false:=rfl
     have eX:[AV.v (.string {data:=#[88]}),.v (.string {data:=#[95]}),.v (.string {data:=#[89]})]=strX:=rfl
     (with_reducible refine Qa fun K E hK hE=>?_)
     (try simp only[Qsk])
     (try simp only[Qsk,QrS,Qr0]);refine QI 8 (fun K1 hK1=>?_);simp -implicitDefEqProofs only[Qc,Qd,OpW,aop,AS.ev,↓reduceIte,Qg,aBin,Qg6,t1,t2,t3,seval];refine hK1 _ ?_;clear hK1
     (try simp only[QrS,Qr0]);refine QI 8 (fun K1 hK1=>?_);simp -implicitDefEqProofs only[Qc,Qd,OpW,aop,AS.ev,↓reduceIte,Qg,Qw,Qv,aBin,aLen,goInt,ti23,un23,ti24,un24,Qa4,t1,pc,k1,k2,u3,seval];refine hK1 _ ?_;clear hK1
     (try simp only[QrS,Qr0]);refine QI 8 (fun K1 hK1=>?_);simp -implicitDefEqProofs only[Qc,Qd,OpW,aop,AS.ev,↓reduceIte,aBin,t5,t6,u3,seval];refine hK1 _ ?_;clear hK1
     (try simp only[QrS,Qr0]);refine QI 8 (fun K1 hK1=>?_);simp -implicitDefEqProofs only[Qc,Qd,OpW,aop,AS.ev,↓reduceIte,aBin,t7,t10,seval];refine hK1 _ ?_;clear hK1
     (try simp only[QrS,Qr0])
     simp -implicitDefEqProofs only[Qc,Qd,OpW,aop,AS.ev,AV.QqY,↓reduceIte,aBin,QG,aLen,goInt,zi9,un32,ei46,t8,k3,u4,eX,seval]
     repeat (first|(((with_reducible refine Qz cT ?_));simp -implicitDefEqProofs only[Qc,Qd,OpW,QB,aop,AS.ev,↓reduceIte,seval])|(with_reducible (first|refine Qk ?_|refine Qb ?_))|((with_reducible refine hK _ ?_);clear hK)|(refine Qh rfl ?_;simp only[↓reduceIte,QrN]))
     exact⟨t1,t7,rfl⟩
   ·repeat (first|((first|(with_reducible (first|refine Qj fun K E hK hE=>?_|refine FunW.QqZ (c3 _) ?_)));simp -implicitDefEqProofs only[Qc,Qd,OpW,QB,aop,AS.ev,↓reduceIte,Q1,seval])|(with_reducible refine Qb ?_)|((with_reducible refine hK _ ?_);clear hK))
    exact⟨t1,t2,t3,t5,t6,rfl,rfl,rfl,rfl⟩
  ·repeat (first|((first|(with_reducible (first|refine Qj fun K E hK hE=>?_|refine FunW.QqZ (c2 _) ?_)));simp -implicitDefEqProofs only[Qc,Qd,OpW,QB,aop,undef,AS.ev,AV.QqY,↓reduceIte,Qu,Ql,Q1,ti26,zi26,zc,zi,seval])|(with_reducible refine Qb ?_)|((with_reducible refine hK _ ?_);clear hK))
   exact⟨t1,t2,t3,rfl,rfl,rfl⟩
 ·repeat (first|((first|(with_reducible (first|refine Qj fun K E hK hE=>?_|refine FunW.QqZ c1' ?_)));simp -implicitDefEqProofs only[Qc,Qd,OpW,QB,aop,undef,AS.ev,AV.QqY,↓reduceIte,Qu,Ql,Q1,ti26,zi26,pc,pi,seval])|(with_reducible refine Qb ?_)|((with_reducible refine hK _ ?_);clear hK))
  exact⟨rfl,rfl,rfl,rfl⟩
end Go.Proofs.YticgcpebdldbgaaDoor.Ab
set_option maxRecDepth 4000
namespace Go.Proofs.YticgcpebdldbgaaDoor.Ab
open Go.Proofs
theorem scan_bounds{l:List UInt8}{ts:List Tk}(h:XQ l = .inl ts):ts.length≤l.length+1∧txl ts≤l.length∧∀t∈ts,0≤t.pos∧t.pos≤l.length:=by
 rw[XQ]at h
 split at h
 ·cases h
 ·obtain⟨h1,_,h3⟩:=QgA l.length _ _ _ h (by omega)
  exact⟨h3,Qjw _ _ _ _ h,fun t ht=>(h1 t ht).pos⟩
section
variable(l:List UInt8)(hmx:l.length≤9223372036854775807)(s0:Int)(h:AH)(hG:ZJ h)
include hmx hG
theorem QqM:QL Tryd.prog 4 [.v (.string (mkB l)),.v (.int .u64 s0)] h fun o h'=>o = .ret (.b true)∧h'=h:=by
 have hsl:=fun b=>Yi Tryd.prog 9 3 (by kernel_rfl) b
 have ca:=fun L=>Qfc (h++L) (hG.app L)
 have ca0:=Qfc h hG
 by_cases hb:2000<l.length
 ·have z1:((l.length:Nat):Int)>2000:=by omega
  have z2:(2000:Int)<((l.length:Nat):Int):=by omega
  refine Qe Tryd.func4 rfl Tryd.call4 Tryd.ntmps4 Tryd.results4 (by simp) ?_
  repeat (first|((first|(with_reducible (first|refine Qa fun K E hK hE=>?_|refine FunW.QqZ ca0 ?_)));simp -implicitDefEqProofs only[Qc,Qd,OpW,QB,aop,undef,AS.ev,Qr,↓reduceIte,aBin,aLen,goInt,hsl,QA,z1,seval])|(with_reducible (first|refine Qf fun K hK=>?_|refine Qm ?_|refine Qy ?_))|((with_reducible refine hK _ ?_);clear hK)|(refine Qh rfl ?_;simp only[↓reduceIte]))
  simp -implicitDefEqProofs only[Yq,↓reduceIte,QrP,QH,Qo,Qt,QrT]
  exact .inr ⟨rfl,rfl⟩
 ·have z1:¬((l.length:Nat):Int)>2000:=by omega
  have z2:¬(2000:Int)<((l.length:Nat):Int):=by omega
  have cs:=Qku l (by omega) h
  cases hs:XQ l with
  |inr q =>
   obtain⟨x,e⟩:=q
   rw[hs,scR]at cs
   have y1:(e != 0)=true:=by simpa using Qaj hs
   refine Qe Tryd.func4 rfl Tryd.call4 Tryd.ntmps4 Tryd.results4 (by simp) ?_
   repeat (first|((first|(with_reducible (first|refine Qa fun K E hK hE=>?_|refine FunW.QqZ cs ?_|refine FunW.QqZ ca0 ?_)));simp -implicitDefEqProofs only[Qc,Qd,OpW,QB,aop,undef,AS.ev,Qr,↓reduceIte,aBin,Q1,aLen,goInt,hsl,QA,z1,y1,seval])|(with_reducible (first|refine Qf fun K hK=>?_|refine Qm ?_|refine Qk ?_|refine Qb ?_|refine Qy ?_))|((with_reducible refine hK _ ?_);clear hK)|(refine Qh rfl ?_;simp only[↓reduceIte,QrN]))
   simp -implicitDefEqProofs only[Yq,↓reduceIte,QrP,QH,Qo,Qt,QrT]
   exact .inr ⟨rfl,rfl⟩
  |inl ts =>
   rw[hs,scR]at cs
   have y1:((0:Int) != 0)=false:=rfl
   obtain⟨hn,htx,hps⟩:=scan_bounds hs
   have hln:=QdM ts none 0 s0
   have hwl:(sprL none 0 s0 ts).length≤16384:=by omega
   have csp:=QiH ts s0 (by omega) (fun t ht=>by have:=hps t ht;omega) (by omega)
   have hlaw:=Qj3 hs (QdN ts none 0 s0) hwl
   have cp:=QaF l h hG
   have cq:=fun L=>QaF (sprL none 0 s0 ts) (h++L) (hG.app L)
   cases hp:Z8 l with
   |inr q =>
    obtain⟨x,e⟩:=q
    obtain⟨y,hy⟩:=hlaw.2 x e hp
    rw[hp,psR]at cp
    simp only[hy,psR]at cq
    have zc:=Pg.cells ⟨[],[]⟩
    have zi:=Pg.isAgg ⟨[],[]⟩
    have cz:=QfG ⟨[],[]⟩ (Nat.zero_le _) (Nat.zero_le _) (fun r hr=>by cases hr)
    have u1:(e==e)=true:=by simp
    refine Qe Tryd.func4 rfl Tryd.call4 Tryd.ntmps4 Tryd.results4 (by simp) ?_
    repeat (first|((first|(with_reducible (first|refine Qa fun K E hK hE=>?_|refine FunW.QqZ cs ?_|refine Qz csp ?_|refine Qz cz ?_|refine FunW.QqZ cp ?_|refine FunW.QqZ (cq _) ?_|refine FunW.QqZ (ca _) ?_)));simp -implicitDefEqProofs only[Qc,Qd,OpW,QB,aop,undef,AS.ev,Qr,AV.QqY,↓reduceIte,Qw,Qv,Qu,Ql,aBin,Q1,aLen,goInt,ti26,zi26,hsl,QA,z1,zc,zi,seval])|(with_reducible (first|refine Qf fun K hK=>?_|refine Qm ?_|refine Qk ?_|refine Qb ?_))|((with_reducible refine hK _ ?_);clear hK)|(refine Qh rfl ?_;simp only[↓reduceIte,QrN]))
    simp -implicitDefEqProofs only[Yq,↓reduceIte,QrP,QH,Qo,Qt,QrT]
    exact Qq (htake _ _) (.keep (.v _)) ⟨rfl,rfl⟩
   |inl p =>
    have hq:=hlaw.1 p hp
    rw[hp,psR]at cp
    simp only[hq,psR]at cq
    obtain⟨b1,b2,b3⟩:=(QlO (l:=l)).1 _ hp
    have cz:=QfG p (by omega) (by omega) (fun r hr=>(b3 r hr).bnd)
    have pc:=Pg.cells p
    have pi:=Pg.isAgg p
    have u1:((0:Int)==0)=true:=rfl
    refine Qe Tryd.func4 rfl Tryd.call4 Tryd.ntmps4 Tryd.results4 (by simp) ?_
    repeat (first|((first|(with_reducible (first|refine Qa fun K E hK hE=>?_|refine FunW.QqZ cs ?_|refine Qz csp ?_|refine Qz cz ?_|refine FunW.QqZ cp ?_|refine FunW.QqZ (cq _) ?_|refine FunW.QqZ (ca _) ?_)));simp -implicitDefEqProofs only[Qc,Qd,OpW,QB,aop,undef,AS.ev,Qr,AV.QqY,↓reduceIte,Qw,Qv,Qu,Ql,aBin,Q1,aLen,goInt,ti26,zi26,hsl,QA,z1,pc,pi,seval])|(with_reducible (first|refine Qf fun K hK=>?_|refine Qm ?_|refine Qk ?_|refine Qb ?_))|((with_reducible refine hK _ ?_);clear hK)|(refine Qh rfl ?_;simp only[↓reduceIte,QrN]))
    simp -implicitDefEqProofs only[Yq,↓reduceIte,QrP,QH,Qo,Qt,QrT]
    exact Qq (htake _ _) (.keep (.v _)) ⟨rfl,rfl⟩
end
end Go.Proofs.YticgcpebdldbgaaDoor.Ab
set_option maxRecDepth 4000
namespace Go.Proofs.YticgcpebdldbgaaDoor.Ab
open Go.Proofs
section
variable(l:List UInt8)(hmx:l.length≤9223372036854775807)(h:AH)(hG:ZJ h)
include hmx hG
end
end Go.Proofs.YticgcpebdldbgaaDoor.Ab
namespace Go.Proofs.YticgcpebdldbgaaDoor.Ab
theorem Qgb{H:Type}{enc:TypeId×Value→H}{P:Program}{w:World}{base:Nat}{sp:Nat→Bool}{held:Bool}{fuel:Nat}{t e:TypeId}{n:Nat}{cs:List Value}{zs:List (List UInt8)}{p:List MemPlace}
  (ht:P.underlying t=some (.array n e)) (he:P.underlying e=some .string) (hce:P.cellsOf e=1) (hct:P.cellsOf t=n)
  (h:DataW.trod enc P w base sp held fuel t cs=some (.agg (zs.map fun z=>.lit (.string z)),p)):cs=zs.map fun z=>Value.string ⟨z.toArray⟩:=by
 cases fuel with
 |zero=>simp[DataW.trod]at h
 |succ fuel =>
  simp only[DataW.trod,ht,hce,hct,Nat.mul_one]at h
  split at h
  ·rename_i hl
   obtain⟨xs,hm,hx⟩:=Option.map_eq_some_iff.1 h
   have hxs:xs.map (·.1)=zs.map fun z=>(DataW.lit (.string z):DataW H):=by
    have:=congrArg Prod.fst hx
    simpa using this
   have hxl:xs.length=n:=by simpa using Lib.mapM_length hm
   have hzl:zs.length=n:=by
    have:=congrArg List.length hxs
    simp at this
    omega
   apply List.ext_getElem?
   intro i
   by_cases hi:i<n
   ·obtain⟨b,hb,hf⟩:=Lib.mapM_at hm i i (by simp[hi])
    obtain⟨s,hc,rfl,_⟩:=DataW.trod_string he hf
    have h1:cs[i]? = some (.string s):=by
     have:=congrArg (·[0]?) hc
     simpa [List.getElem?_take,List.getElem?_drop]using this
    have h2:(xs.map (·.1))[i]? = some (DataW.lit (.string s.data.toList):DataW H):=by simp[hb]
    rw[hxs]at h2
    simp only[List.getElem?_map,Option.map_eq_some_iff,DataW.lit.injEq,Lit.string.injEq]at h2
    obtain⟨z',hz',hz2⟩:=h2
    have:s=⟨z'.toArray⟩:=by rw[hz2]
    simp[h1,hz',this]
   ·rw[List.getElem?_eq_none (by omega),List.getElem?_eq_none (by simp;omega)]
  ·cases h
theorem QlN{P:Program}{W:World}{nm:String}{zs:List (List UInt8)}{g:Nat}{t e:TypeId}{n:Nat}
  (hg:P.globalNamed nm=some g) (hty:(P.globals[g]?).map (·.type)=some t) (ht:P.underlying t=some (.array n e)) (he:P.underlying e=some .string) (hce:P.cellsOf e=1) (hct:P.cellsOf t=n)
  (h:laidMet P [(nm,.agg (zs.map fun z=>.lit (.string z)))] W):∃ty fr,W.heap[g]? = some (.cells (zs.map fun z=>Value.string ⟨z.toArray⟩).toArray ty fr):=by
 obtain⟨ps,⟨g',t',cs,fuel,p,q,hg',ht',hvar,hd,_,_⟩,_⟩:=h
 obtain rfl:=Option.some.inj (hg.symm.trans hg')
 obtain rfl:=Option.some.inj (hty.symm.trans ht')
 have:=Qgb ht he hce hct hd
 refine QmU hg (cs:=(zs.map fun z=>Value.string ⟨z.toArray⟩).toArray) ?_
 rw[hvar,←this]
open Go.Proofs
theorem open_string{H:Type}{enc:TypeId×Value→H}{P:Program}{W:World}{r:Reach}{b0:Nat}{t:TypeId}{v:Value}{d:DataW H}{ps:List MemPlace}(ht:P.underlying t=some .string)(hv:Value.okWide P W r b0 t v)(hd:DataW.Trod enc P W 0 (fun _=>true) true t v d ps):∃s:ByteArray,v = .string s∧s.size≤maxLen:=by
 obtain⟨fuel,hf⟩:=hd
 have hc:v.cells.toList=[v]:=by
  cases v with
  |agg cs=>simp[Value.okWide,ht,Cell.okWide,Cell.ok]at hv
  |_=>rfl
 rw[hc]at hf
 obtain⟨s,h1,_,h2⟩:=DataW.trod_string ht hf
 cases h1
 exact⟨s,rfl,h2⟩
theorem Qn6{s:ByteArray}(hs:s.size≤maxLen):s.data.toList.length≤9223372036854775807:=by
 have:s.size=s.data.toList.length:=by show s.data.size=_;simp
 simp only[maxLen]at hs
 omega
theorem QpQ(s:ByteArray)(k:Int)(hs:s.size≤maxLen)(h:AH)(hG:ZJ h):QL Tryd.prog 4 [.v (.string s),.v (.int .u64 k)] h fun o h'=>o = .ret (.b true)∧h'=h:=by
 have:=QqM s.data.toList (Qn6 hs) k h hG
 rwa [QdF]at this
end Go.Proofs.YticgcpebdldbgaaDoor.Ab

