/-
  An abstract program logic, contracts of functions, and laws of terms and rules (part 8).
-/
import Derived.Test.YticgcpebdldbgaaGreatDoorAbTwo
import Derived.Test.YticgcpebdldbgaaGreatDoorAbSeven
import Derived.Test.YticgcpebdldbgaaGreatDoorAbSix
import Derived.Test.YticgcpebdldbgaaGreatDoorAbFour
import Derived.Test.YticgcpebdldbgaaGreatDoorAbThree
set_option linter.unusedVariables false
set_option linter.unusedSimpArgs false
set_option maxHeartbeats 4000000
set_option maxRecDepth 4000
namespace Go.Proofs.YticgcpebdldbgaaGreatDoor.Ab
open Go.Proofs
theorem QbO(b:Nat)(l:List G):c1ok (rowW b l):=by unfold rowW;split <;> exact⟨rfl,rfl,rfl⟩
theorem QbN(b:Nat){l:List G}{j:Nat}(h:j<l.length):rowW b l = .arr b 0 l.length:=by
 cases l with
 |nil=>cases h
 |cons a l=>rfl
theorem YL(vw:G->AV)(ty w:Nat){l:List G}{j:Nat}(h:j<l.length):blkW vw ty w l = .cells ty w (vs vw l):=by
 cases l with
 |nil=>cases h
 |cons a l=>rfl
def mixG(f:Int->Int)(l:List G)(j:Nat):List G:=mG f (l.take j)++l.drop j
theorem QcV(f:Int->Int)(l:List G):mixG f l 0=l:=by simp[mixG,mG]
theorem QeB(f:Int->Int)(l:List G):mixG f l l.length=mG f l:=by simp[mixG]
theorem YR(f:Int->Int)(l:List G){j:Nat}(h:j<=l.length):(mixG f l j).length=l.length:=by
 simp only[mixG,mG,QvO,Qwn,Qwi,Qwe];omega
theorem QeC(f:Int->Int)(vw:G->AV){l:List G}{j:Nat}(h:j<l.length):(vs vw (mixG f l j))[j]? = some (vw l[j]):=by
 have h1:(mG f (l.take j)).length=j:=by simp only[mG,Qwn,Qwi];omega
 rw[vs,Qwk,mixG,QvR (by omega),h1,Qwm,Qwb h];rfl
theorem QeD(f:Int->Int)(vw:G->AV){l:List G}{j:Nat}(h:j<l.length):(vs vw (mixG f l j)).set j (vw ⟨(l[j]).op,(l[j]).name,maps f (l[j]).args⟩)=vs vw (mixG f l (j+1)):=by
 have h1:(mG f (l.take j)).length=j:=by simp only[mG,Qwn,Qwi];omega
 rw[mixG,mixG,Qwb h,Qws h,Qaf,Qwt _ _ (by rw[QL];omega),QL,h1,Qwm]
 simp only[mG,QwD,vs,Qvc,Qvg,Qvr,QvS,Qvp,Qvo]
theorem QcQ{l:List G}{j:Nat}(h:j<l.length):QB (l.drop j)=QI (l[j]).args++QB (l.drop (j+1)):=by
 rw[Qwb h];unfold QB;rw[Qxo]
theorem Qlt{l:List G}{j:Nat}(h:j<l.length):ndG (l.drop j)=ndsL (l[j]).args+ndG (l.drop (j+1)):=by
 rw[Qwb h,ndG]
theorem QbX{l:List G}{j:Nat}(h:j<l.length):∀v∈QI (l[j]).args,v∈QB l:=fun v hv=>by
 unfold QB
 rw[Qw6]
 exact⟨l[j],Qww h,hv⟩
theorem QlR{l:List G}(h:SmG l){j:Nat}(hj:j<l.length):ndsL (l[j]).args<=2400:=by
 have:∀(l:List G) (j:Nat) (hj:j<l.length),ndsL (l[j]).args<=ndG l:=fun l=>by
  induction l with
  |nil=>intro j hj;simp at hj
  |cons g l ih =>
   intro j hj
   cases j with
   |zero=>rw[ndG];show ndsL g.args<=_;omega
   |succ j=>rw[ndG];have:=ih j (by simpa using hj);simp only[QxP];omega
 exact Qwh (this l j hj) h.2.1
def RuC(h:AH)(i:Nat)(all:List Tk):PR Rl->AOut->AH->Prop
 | .ok r s,o,h'=>∃H0 Z,o = .ret (.tup [.agg [.v (.string r.name),rowW H0.length r.keep,rowW (H0.length+1) r.remove,rowW (H0.length+2) r.guard,rowW (H0.length+3) r.body,.i r.vars],.b true])/\h'=H0++(blkA r.keep::blkA r.remove::blkG r.guard::blkG r.body::Z)/\h.length<=H0.length/\H0.take h.length=hs h i (rdB all none s 0 0)
 | .err p e,o,h'=>∃s Z,o = .ret (.tup [.agg [.v (.string eB),nilV,nilV,nilV,nilV,.i 0],.b false])/\h.length<=Z.length/\h'=Z/\Z.take h.length=hs h i (rdB all none s p e)
def QsU(h:AH)(i:Nat)(all:List Tk):PR Rl->AOut->AH->Prop
 | .ok r s,o,h'=>o = .ret (.tup [r.av,.b true])/\h'=hs h i (rdB all none s 0 0)
 | .err p e,o,h'=>o = .ret (.tup [(⟨eB,[],[],[],[],0⟩:Rl).av,.b false])/\∃s,h'=hs h i (rdB all none s p e)
theorem QeA{h':AH}{m:Nat}{vw:G->AV}{ty w:Nat}(hv:vwOk vw w){l:List G}{id:Nat}(hi:m<=id)(hg:h'[id]? = some (blkW vw ty w l)):Melt h' m (rowW id l) (.sl w (vs vw l) none):=by
 cases l with
 |nil=>exact .nil w
 |cons a l =>
  refine .arr hi hg (QL _ _) (fun y hy=>by obtain⟨x,_,rfl⟩:=Qwg.1 hy;exact hv.1 x) (QvV _) fun j b b' e1 e2=>?_
  rw[e1]at e2
  cases e2
  refine .keep ?_
  obtain⟨x,hx,hxa⟩:=Qw6.1 (Qv3 e1)
  obtain⟨y,_,rfl⟩:=Qwg.1 hx
  exact hv.2 _ y b hxa
theorem QqC{h:AH}{i:Nat}(hi:i<h.length)(all:List Tk)(x:AB)(s:PS)(p e:Int)(hb:∀(k:Nat) b,(hs h i x)[k]? = some b->b.Below h.length):∀b∈hs h i (rdB all none s p e),b.Below h.length:=fun b hb2=>by
 obtain⟨k,hk⟩:=YC hb2
 by_cases h1:i=k
 ·subst h1;rw[QnN hi]at hk;cases hk;exact ZM _ (fun g hg=>by cases hg) _ _ _
 ·refine hb k b ?_
  unfold hs at hk ⊢
  rw[QvQ h1]at hk ⊢
  exact hk
theorem QlK{f:FuncId}{args:List AV}{h:AH}{i:Nat}(hi:i<h.length){all:List Tk}{x:AB}{r:PR Rl}(C:Ql Tryz.prog f args (hs h i x) (RuC h i all r)):Ql Tryz.prog f args (hs h i x) (QsU h i all r):=by
 refine QeZ C fun hb0 o h' hQ=>?_
 rw[Z8]at hb0 ⊢
 cases r with
 |err p e =>
  obtain⟨s,Z,rfl,hz,rfl,ht⟩:=hQ
  refine .inr ⟨_,[(⟨eB,[],[],[],[],0⟩:Rl).av,.b false],rfl,hz,?_,rfl,fun j a a' e1 e2=>?_,rfl,s,ht⟩
  ·rw[ht];exact QqC hi all x s p e hb0
  ·match j,e1,e2 with
   |0,e1,e2 =>
    cases e1;cases e2
    refine .agg rfl fun j a a' e1 e2=>?_
    match j,e1,e2 with
    |0,e1,e2=>cases e1;cases e2;exact .keep (.v _)
    |1,e1,e2=>cases e1;cases e2;exact .nil 2
    |2,e1,e2=>cases e1;cases e2;exact .nil 2
    |3,e1,e2=>cases e1;cases e2;exact .nil 3
    |4,e1,e2=>cases e1;cases e2;exact .nil 3
    |5,e1,e2=>cases e1;cases e2;exact .keep (.v _)
    |j+6,e1,e2=>simp at e1
   |1,e1,e2=>cases e1;cases e2;exact .keep (.v _)
   |j+2,e1,e2=>simp at e1
 |ok r s =>
  obtain⟨H0,Z,rfl,rfl,hz,ht⟩:=hQ
  have htk:(H0++(blkA r.keep::blkA r.remove::blkG r.guard::blkG r.body::Z)).take h.length=hs h i (rdB all none s 0 0):=by rw[QxB hz];exact ht
  refine .inr ⟨_,[r.av,.b true],rfl,by rw[QvO];omega,?_,rfl,fun j a a' e1 e2=>?_,rfl,htk⟩
  ·rw[htk];exact QqC hi all x s 0 0 hb0
  ·match j,e1,e2 with
   |0,e1,e2 =>
    cases e1;cases e2
    refine .agg rfl fun j a a' e1 e2=>?_
    match j,e1,e2 with
    |0,e1,e2=>cases e1;cases e2;exact .keep (.v _)
    |1,e1,e2=>cases e1;cases e2;exact QeA Qbp hz (by rw[QvR (QvV _),Qwm];rfl)
    |2,e1,e2=>cases e1;cases e2;exact QeA Qbp (by omega) (by rw[QvR (by omega),Qwf];rfl)
    |3,e1,e2=>cases e1;cases e2;exact QeA Qbx (by omega) (by rw[QvR (by omega),Qwf];rfl)
    |4,e1,e2=>cases e1;cases e2;exact QeA Qbx (by omega) (by rw[QvR (by omega),Qwf];rfl)
    |5,e1,e2=>cases e1;cases e2;exact .keep (.v _)
    |j+6,e1,e2=>simp at e1
   |1,e1,e2=>cases e1;cases e2;exact .keep (.v _)
   |j+2,e1,e2=>simp at e1
theorem FunW.retV{P:Program}{α:Type}{fv:AV}{args:List AV}{h:AH}{h':α->AH}{r:α->AV}{Q:AOut->AH->Prop}(H:FunW P fv args h fun o h2=>∃x,o = .ret (r x)/\h2=h' x)(k:∀x,Q (.ret (r x)) (h' x)):FunW P fv args h Q:=H.mono (by rintro _ _ ⟨x,rfl,rfl⟩;exact k x)
structure EW where
 x:ByteArray
 a:AV
 b:AV
 c:AV
 d:AV
 s:PS
 Y:AH
 ha:c1ok a
 hb:c1ok b
 hc:c1ok c
 hd:c1ok d
theorem QrD(f:Int->Int)(b:Nat)(l:List G):rowW b (mG f l)=rowW b l:=by
 cases l with
 |nil=>rfl
 |cons a l=>simp[rowW,mG]
theorem ZO(vw:G->AV)(ty w b:Nat)(l:List G):(l=[]/\rowW b l = .v (.slice none 0 0)/\blkW vw ty w l = .dead)\/(l≠[]/\rowW b l = .arr b 0 l.length/\blkW vw ty w l = .cells ty w (vs vw l)):=by
 cases l with
 |nil=>exact .inl ⟨rfl,rfl,rfl⟩
 |cons a l=>exact .inr ⟨by simp,rfl,rfl⟩
theorem Z3:∀l:List T,(QI l).length<=ndsL l
 |[]=>QvV _
 |t::l=>by rw[QI,ndsL,QvO];have:=T.Que t;have:=Z3 l;omega
theorem Qfg:∀l:List G,(QB l).length<=ndG l
 |[]=>QvV _
 |g::l=>by
  have h1:=Z3 g.args
  have h2:=Qfg l
  have e:QB (g::l)=QI g.args++QB l:=by unfold QB;rw[Qxo]
  rw[e,QvO,ndG];omega
theorem QoS{h:AH}{i:Nat}(hi:i<h.length)(all:List Tk)(s:PS)(X c:AB):((hs h i X++[c])++([AB.grow 9 1 0]:AH)).set i (rdB all (some (h.length+1)) s 0 0)=((h++[c,.dead]).set i (rdB all (some (h.length+1)) s 0 0)).set (h.length+1) (AB.grow 9 1 0):=by
 unfold hs
 rw[QvS,Qv1 _ _ (by simpa using hi),Qxm,Qv1 _ _ hi,Qwt _ _ (by simp),QvZ,Qwf];rfl
section
variable{h:AH}{i:Nat}(hi:i<h.length)(all:List Tk)
include hi
theorem QqR(s:PS)(p e:Int)(c:AB):(((rh (h++[c,.dead]) i (h.length+1) all s p e).set i (rdB all none s p e)))[h.length]? = some c:=by
 unfold rh hs2
 rw[QvQ (by omega),QvQ (by omega),QvQ (by omega),QvR (QvV _),Qwm];rfl
theorem QoF(s:PS)(p e:Int)(c:AB):(((rh (h++[c,.dead]) i (h.length+1) all s p e).set i (rdB all none s p e))).take h.length=hs h i (rdB all none s p e):=by
 unfold rh hs2 hs
 rw[Qv1 _ _ hi,Qwt _ _ (by simp),Qv1 _ _ (by simpa using hi),Qxm]
 rw[QxB (by simp)]
 exact Qw8 (by simp)
end
section
variable{all:List Tk}{i:Nat}(hN:all.length<=1000000)(hD:TkOk all)(hX:TxOk all)
include hN hD hX
theorem Qhg{s:PS}(hW:Wst all s){h:AH}(hi:i<h.length)(tok:Option Nat):Ql Tryz.prog 27 [.ptr i 0 0] (hs h i (rdB all tok s 0 0)) (RuC h i all (X5 s)):=by
 have f1:=fun x=>Z8 h i x
 have f2:=QlE hi all tok s 0 0
 have f3:=fun x L=>Qfj (h:=h) (i:=i) x L
 have f5:=fun x y L=>QhN (h:=h) (i:=i) x y L
 have f7:=fun x y L=>Qkh (h:=h) hi x y L
 have hW0:Wst all ⟨s.toks,[]⟩:=(wdOf all).cl s hW
 generalize hR:X5 s=R
 rw[X5]at hR
 obtain⟨h9,e9⟩:∃h9,h9=h++[cR0,.dead]:=⟨_,rfl⟩
 have l9:h9.length=h.length+2:=by rw[e9];simp
 have HI9:IG h9 i (h.length+1):=⟨by omega,by omega,by omega⟩
 have cp:=Qp1 HI9 (Qos hN hD hX hW0 HI9)
 refine Qa Tryz.func27 rfl Tryz.call27 Tryz.ntmps27 Tryz.results27 (by simp) ?_
 iterate 4 (try (first|(((with_reducible refine Qf fun K E hK hE=>?_));simp only[go_sem,seval,f1,f2,f7])|((with_reducible refine hK _ ?_);clear hK)))
 refine Xl i 69 5 1 (.grow 9 1 0) (.inr ⟨_,rfl⟩) [.agg [.sl 3 (tks all) none,.i ((all.length - s.toks.length:Nat):Int),.v (.slice none 0 0),.i 0,.i 0]] [.agg [.sl 3 (tks all) none,.i ((all.length - s.toks.length:Nat):Int),.sl 1 [] (some (h.length+1)),.i 0,.i 0]] 2 (QhM hi _ _) rfl (by simp[flat,AV.cells,Z8]) (by simp[AV.cells]) ?_
 have hb:=QoS hi all ⟨s.toks,[]⟩ (.cells 69 5 [.agg [.sl 3 (tks all) none,.i ((all.length - s.toks.length:Nat):Int),.v (.slice none 0 0),.i 0,.i 0]]) cR0
 rw[<-e9]at hb
 simp only[rdB,strs,Qvg]at hb
 rw[hb]
 show Xa _ _ _ _ ⟨_,rh h9 i (h.length+1) all ⟨s.toks,[]⟩ 0 0⟩
 refine Qt (fun s'=>s'.tm 2 = .ptr h.length 0 0/\((∃(p e:Int) (s2:PS) (Z:AH),R = .err p e/\s'.tm 5 = .b false/\s'.h=rh h9 i (h.length+1) all s2 p e++Z)\/(∃(r:Rl) (s2:PS),Yh ⟨s.toks,[]⟩ = .ok r s2/\s'.tm 5 = .b true/\s'.tm 4 = .ptr (h9.length+4) 0 0/\s'.h=rh h9 i (h.length+1) all s2 0 0++(layW r++[.cells 40 6 [Q9 h9.length r]])))) ?_ ?_
 ·rintro⟨tm,hp⟩ ⟨t2,hh⟩
  dsimp only at t2 hh
  rcases hh with⟨p,e,s2,Z,hRR,t5,rfl⟩|⟨r,s2,hpt,t5,t4,rfl⟩
  ·subst hRR
   refine Yx i 69 5 [.agg [.sl 3 (tks all) none,.i ((all.length - s2.toks.length:Nat):Int),.sl 1 (strs s2.names) (some (h.length+1)),.i p,.i e]] [.agg [.sl 3 (tks all) none,.i ((all.length - s2.toks.length:Nat):Int),.sl 1 (strs s2.names) none,.i p,.i e]] 2 (Wk.sl rfl (fun y hy=>by obtain⟨x,_,rfl⟩:=Qwg.1 hy;rfl) (WkL.refl _)) (Qp6 HI9.il HI9.ig all s2 p e _) rfl rfl (fun x hx=>by rw[QwB]at hx;subst hx;rfl) ?_
   rw[Qv1 _ _ (by rw[YK];omega)]
   have g1:((rh h9 i (h.length+1) all s2 p e).set i (rdB all none s2 p e))[h.length]? = some cR0:=by rw[e9];exact QqR hi all s2 p e cR0
   have g2:((rh h9 i (h.length+1) all s2 p e).set i (rdB all none s2 p e)).take h.length=hs h i (rdB all none s2 p e):=by rw[e9];exact QoF hi all s2 p e cR0
   have g4:((rh h9 i (h.length+1) all s2 p e).set i (rdB all none s2 p e)).length=h9.length:=by rw[QvZ,YK]
   show Xa _ _ _ _ ⟨tm,(rh h9 i (h.length+1) all s2 p e).set i (rdB all none s2 p e)++Z⟩
   generalize (rh h9 i (h.length+1) all s2 p e).set i (rdB all none s2 p e)=H0 at *
   have g3:=Qe g1
   have gn:∀L:AH,(H0++L)[h.length]? = some cR0:=fun L=>by rw[QvP g3];exact g1
   have sn:∀(L:AH) x,(H0++L).set h.length x=H0.set h.length x++L:=fun L x=>Qv1 _ _ g3
   have gx:∀(L:AH) x,(H0.set h.length x++L)[h.length]? = some x:=fun L x=>by rw[QvP (by simpa using g3),QvX g3]
   have gt:∀x,(H0.set h.length x).take h.length=H0.take h.length:=fun x=>List.take_set_of_le (QvV _)
   repeat first|refine Qb ?_;simp only[go_sem,seval,t2,t5,gn,sn]|refine hK _ ?_;clear hK
   simp only[go_sem,seval,t2,gx]
   exact .inr ⟨s2,_,rfl,by rw[QvO,QvZ];omega,rfl,by rw[QxB (by rw[QvZ];omega),gt];exact g2⟩
  ·have hRR:R = .ok r.numd s2:=by rw[<-hR,hpt];rfl
   subst hRR
   refine Yx i 69 5 [.agg [.sl 3 (tks all) none,.i ((all.length - s2.toks.length:Nat):Int),.sl 1 (strs s2.names) (some (h.length+1)),.i 0,.i 0]] [.agg [.sl 3 (tks all) none,.i ((all.length - s2.toks.length:Nat):Int),.sl 1 (strs s2.names) none,.i 0,.i 0]] 2 (Wk.sl rfl (fun y hy=>by obtain⟨x,_,rfl⟩:=Qwg.1 hy;rfl) (WkL.refl _)) (Qp6 HI9.il HI9.ig all s2 0 0 _) rfl rfl (fun x hx=>by rw[QwB]at hx;subst hx;rfl) ?_
   rw[Qv1 _ _ (by rw[YK];omega)]
   have g1:((rh h9 i (h.length+1) all s2 0 0).set i (rdB all none s2 0 0))[h.length]? = some cR0:=by rw[e9];exact QqR hi all s2 0 0 cR0
   have g2:((rh h9 i (h.length+1) all s2 0 0).set i (rdB all none s2 0 0)).take h.length=hs h i (rdB all none s2 0 0):=by rw[e9];exact QoF hi all s2 0 0 cR0
   have g4:((rh h9 i (h.length+1) all s2 0 0).set i (rdB all none s2 0 0)).length=h9.length:=by rw[QvZ,YK]
   show Xa _ _ _ _ ⟨tm,(rh h9 i (h.length+1) all s2 0 0).set i (rdB all none s2 0 0)++(layW r++[.cells 40 6 [Q9 h9.length r]])⟩
   generalize (rh h9 i (h.length+1) all s2 0 0).set i (rdB all none s2 0 0)=H0 at *
   have g3:=Qe g1
   have gn:∀L:AH,(H0++L)[h.length]? = some cR0:=fun L=>by rw[QvP g3];exact g1
   have sn:∀(L:AH) x,(H0++L).set h.length x=H0.set h.length x++L:=fun L x=>Qv1 _ _ g3
   have gx:∀(L:AH) x,(H0.set h.length x++L)[h.length]? = some x:=fun L x=>by rw[QvP (by simpa using g3),QvX g3]
   have gt:∀x,(H0.set h.length x).take h.length=H0.take h.length:=fun x=>List.take_set_of_le (QvV _)
   have l10:h9.length=H0.length:=g4.symm
   simp only[l10,layW,Qvp,Qvo]at t4 ⊢
   have hpre:=Qg3 hpt
   have sm1:SmG r.keep:=Qhj (fun g hg=>Qer (hpre.ka g hg)) (by have:=hpre.h4;omega)
   have sm2:SmG r.remove:=Qhj (fun g hg=>Qer (hpre.ra g hg)) (by have:=hpre.h4;omega)
   have sm3:SmG r.guard:=Qhj (fun g hg=>QbW (hpre.ga g hg)) hpre.g12
   have sm4:SmG r.body:=Qhj (fun g hg=>QbW (hpre.ba g hg)) hpre.b12
   obtain⟨U1,hU1⟩:∃U,U=ded [] (QB r.keep):=⟨_,rfl⟩
   obtain⟨U2,hU2⟩:∃U,U=ded U1 (QB r.remove):=⟨_,rfl⟩
   obtain⟨U3,hU3⟩:∃U,U=ded U2 (QB r.guard):=⟨_,rfl⟩
   obtain⟨U4,hU4⟩:∃U,U=ded U3 (QB r.body):=⟨_,rfl⟩
   have hUa:U4=ded [] r.allV:=by
    rw[hU4,hU3,hU2,hU1,<-Q4,<-Q4,<-Q4]
    congr 1;simp[Rl.allV,QB]
   obtain⟨F,hF⟩:∃F,F=plcN U4:=⟨_,rfl⟩
   have hnumd:r.numd=⟨r.name,mG F r.keep,mG F r.remove,mG F r.guard,mG F r.body,((U4.length:Nat):Int)⟩:=by rw[hF,hUa];rfl
   have hin1:∀v∈QB r.keep,v∈U4:=fun v hv=>by rw[hU4,hU3,hU2,hU1];exact Zl.2 (.inl (Zl.2 (.inl (Zl.2 (.inl (Zl.2 (.inr hv)))))))
   have hin2:∀v∈QB r.remove,v∈U4:=fun v hv=>by rw[hU4,hU3,hU2];exact Zl.2 (.inl (Zl.2 (.inl (Zl.2 (.inr hv)))))
   have hin3:∀v∈QB r.guard,v∈U4:=fun v hv=>by rw[hU4,hU3];exact Zl.2 (.inl (Zl.2 (.inr hv)))
   have hin4:∀v∈QB r.body,v∈U4:=fun v hv=>by rw[hU4];exact Zl.2 (.inr hv)
   have nd1:=sm1.2.1
   have nd2:=sm2.2.1
   have nd3:=sm3.2.1
   have nd4:=sm4.2.1
   have gvl:∀l:List G,(QB l).length<=ndG l:=Qfg
   have b1:U1.length<=2400:=by rw[hU1];have:=Xu [] (QB r.keep);have:=gvl r.keep;simp only[Qvb]at *;omega
   have b2:U2.length<=4800:=by rw[hU2];have:=Xu U1 (QB r.remove);have:=gvl r.remove;omega
   have b3:U3.length<=7200:=by rw[hU3];have:=Xu U2 (QB r.guard);have:=gvl r.guard;omega
   have b4:U4.length<=9600:=by rw[hU4];have:=Xu U3 (QB r.body);have:=gvl r.body;omega
   have rk:=QbO H0.length r.keep
   have rr:=QbO (H0.length+1) r.remove
   have rg:=QbO (H0.length+2) r.guard
   have rb:=QbO (H0.length+3) r.body
   have ord:∀(K R' G' B C:AB) (u:List Int) (l:List T),u.length+ndsL l<=1000000->Ql Tryz.prog 34 [.sl 1 (ints u) (some (H0.length+5)),.sl 4 (avs l) none] (H0++[K,R',G',B,C,.grow 3 1 u.length]) fun o h'=>o = .ret (.sl 1 (ints (ded u (QI l))) (some (H0.length+5)))/\h'=H0++[K,R',G',B,C,.grow 3 1 (ded u (QI l)).length]:=fun K R' G' B C u l hb=>by
    have V:TokGr (fun n=>H0++[K,R',G',B,C,.grow 3 1 n]) (H0.length+6) (H0.length+5) 3 1:=⟨fun n=>by simp,by omega,fun n=>by rw[hget];rfl,fun n n'=>by rw[hset];rfl⟩
    have:=Qjp V l u [] hb
    simp only[Qvq]at this
    exact this
   iterate 9 (try (first|(((with_reducible refine Qf fun K E hK hE=>?_));simp only[go_sem,seval,t5])|(with_reducible (first|refine Qn fun K hK=>?_|refine QG ?_|refine Qi ?_))|((with_reducible refine hK _ ?_);clear hK)|(refine Qm rfl ?_;simp only[↓reduceIte,Qu1])))
   refine Yf 6 3 1 rfl ?_
   rw[QvO,QvS]
   simp only[Qva,Qvb,Qvp,Qvo,Qu9,Nat.reduceAdd]
   refine Qt (fun s=>s.tm 2 = .ptr h.length 0 0/\s.tm 4 = .ptr (H0.length+4) 0 0/\s.tm 6 = .sl 1 (ints U1) (some (H0.length+5))/\s.h=H0++[blkA r.keep,blkA r.remove,blkG r.guard,blkG r.body,.cells 40 6 [Q9 H0.length r],.grow 3 1 U1.length]) ?_ ?_
   rotate_left
   ·repeat first|refine Qb ?_;simp only[go_sem,seval]|refine hK _ ?_;clear hK
    obtain⟨I,hI⟩:∃I:Nat->AS->Prop,I=fun m' s=>∃(j:Nat) (v:List Int),m'=r.keep.length - j/\j<=r.keep.length/\ded v (QB (r.keep.drop j))=U1/\v.length+ndG (r.keep.drop j)<=2400/\s.tm 7 = .i j/\s.tm 2 = .ptr h.length 0 0/\s.tm 4 = .ptr (H0.length+4) 0 0/\s.tm 6 = .sl 1 (ints v) (some (H0.length+5))/\s.h=H0++[blkA r.keep,blkA r.remove,blkG r.guard,blkG r.body,.cells 40 6 [Q9 H0.length r],.grow 3 1 v.length]:=⟨_,rfl⟩;refine Qk I ?_ (m:=r.keep.length) ?_
    ·intro m' s hs;rw[hI]at hs;obtain⟨tm,hp⟩:=s;dsimp only at hs;obtain⟨j,v,rfl,hj,hv,hvb,tj,t2,t4,t6,rfl⟩:=hs
     have hs12:=sm1.2.2
     have wj:IntKind.i64.wrap (((j:Nat):Int)+1)=((j+1:Nat):Int):=Qz (by omega)
     by_cases hlt:j<r.keep.length
     ·have hrow:rowW H0.length r.keep = .arr H0.length 0 r.keep.length:=QbN _ hlt
      have hblk:blkA r.keep = .cells 105 2 (vs G.atom r.keep):=YL _ _ _ hlt
      have hel:=Qed G.atom hlt
      have hec:=G.Qus r.keep[j]
      have hea:(r.keep[j]).atom.isAgg=true:=rfl
      have hlv:(vs G.atom r.keep).length=r.keep.length:=QL _ _
      have y1:((j:Nat):Int)<((r.keep.length:Nat):Int):=by omega
      rw[QcQ hlt,Q4]at hv
      rw[Qlt hlt]at hvb
      have co:=fun K R' G' B C=>ord K R' G' B C v r.keep[j].args (by omega)
      have hdl:=Xu v (QI r.keep[j].args)
      have hvn:=Z3 r.keep[j].args
      repeat first|(first|refine FunW.Qt4 (co _ _ _ _ _) ?_|refine Qb ?_);simp only[go_sem,seval,t4,t6,tj,Q9,hrow,hblk,hel,hec,y1,wj]|refine hK _ ?_;clear hK
      refine Qs.mk (m':=r.keep.length - (j+1)) (by omega) ?_
      rw[hI]
      exact⟨j+1,ded v (QI r.keep[j].args),rfl,hlt,hv,by omega,rfl,t2,t4,rfl,by rw[Q9,hrow,hblk]⟩
     ·have hjl:j=r.keep.length:=by omega
      have hvu:v=U1:=by rw[<-hv,hjl,Qwq];rfl
      subst hvu
      have hx:(r.keep=[]/\rowW H0.length r.keep = .v (.slice none 0 0)/\blkA r.keep = .dead)\/(r.keep≠[]/\rowW H0.length r.keep = .arr H0.length 0 r.keep.length/\blkA r.keep = .cells 105 2 (vs G.atom r.keep)):=ZO _ _ _ _ _
      rcases hx with⟨hn,hrow,hblk⟩|⟨hn,hrow,hblk⟩
      ·have y1:¬((j:Nat):Int)<0:=by omega
       have y0:pv Tryz.prog (Builtin.len_ #[38] 3 #[Value.slice none 0 0])=some (.int .i64 0):=by kernel_rfl
       repeat first|refine Qb ?_;simp only[go_sem,seval,t4,tj,Q9,hrow,hblk,y1,y0]|refine hK _ ?_;clear hK
       (try (refine hK _ ?_;rw[Qp]))
       exact⟨t2,t4,t6,by rw[Q9,hrow,hblk]⟩
      ·have y1:¬((j:Nat):Int)<((r.keep.length:Nat):Int):=by omega
       have hlv:(vs G.atom r.keep).length=r.keep.length:=QL _ _
       repeat first|refine Qb ?_;simp only[go_sem,seval,t4,tj,Q9,hrow,hblk,y1]|refine hK _ ?_;clear hK
       (try (refine hK _ ?_;rw[Qp]))
       exact⟨t2,t4,t6,by rw[Q9,hrow,hblk]⟩
    ·rw[hI]
     exact⟨0,[],rfl,Qv2 _,hU1.symm,by rw[Qve];(try simp only[Qvb]);omega,rfl,t2,t4,rfl,rfl⟩
   rintro⟨tm,hp⟩ ⟨t2,t4,t6,rfl⟩
   dsimp only at t2 t4 t6
   refine Qt (fun s=>s.tm 2 = .ptr h.length 0 0/\s.tm 4 = .ptr (H0.length+4) 0 0/\s.tm 6 = .sl 1 (ints U2) (some (H0.length+5))/\s.h=H0++[blkA r.keep,blkA r.remove,blkG r.guard,blkG r.body,.cells 40 6 [Q9 H0.length r],.grow 3 1 U2.length]) ?_ ?_
   rotate_left
   ·repeat first|refine Qb ?_;simp only[go_sem,seval]|refine hK _ ?_;clear hK
    obtain⟨I,hI⟩:∃I:Nat->AS->Prop,I=fun m' s=>∃(j:Nat) (v:List Int),m'=r.remove.length - j/\j<=r.remove.length/\ded v (QB (r.remove.drop j))=U2/\v.length+ndG (r.remove.drop j)<=4800/\s.tm 8 = .i j/\s.tm 2 = .ptr h.length 0 0/\s.tm 4 = .ptr (H0.length+4) 0 0/\s.tm 6 = .sl 1 (ints v) (some (H0.length+5))/\s.h=H0++[blkA r.keep,blkA r.remove,blkG r.guard,blkG r.body,.cells 40 6 [Q9 H0.length r],.grow 3 1 v.length]:=⟨_,rfl⟩;refine Qk I ?_ (m:=r.remove.length) ?_
    ·intro m' s hs;rw[hI]at hs;obtain⟨tm,hp⟩:=s;dsimp only at hs;obtain⟨j,v,rfl,hj,hv,hvb,tj,t2,t4,t6,rfl⟩:=hs
     have hs12:=sm2.2.2
     have wj:IntKind.i64.wrap (((j:Nat):Int)+1)=((j+1:Nat):Int):=Qz (by omega)
     by_cases hlt:j<r.remove.length
     ·have hrow:rowW (H0.length+1) r.remove = .arr (H0.length+1) 0 r.remove.length:=QbN _ hlt
      have hblk:blkA r.remove = .cells 105 2 (vs G.atom r.remove):=YL _ _ _ hlt
      have hel:=Qed G.atom hlt
      have hec:=G.Qus r.remove[j]
      have hea:(r.remove[j]).atom.isAgg=true:=rfl
      have hlv:(vs G.atom r.remove).length=r.remove.length:=QL _ _
      have y1:((j:Nat):Int)<((r.remove.length:Nat):Int):=by omega
      rw[QcQ hlt,Q4]at hv
      rw[Qlt hlt]at hvb
      have co:=fun K R' G' B C=>ord K R' G' B C v r.remove[j].args (by omega)
      have hdl:=Xu v (QI r.remove[j].args)
      have hvn:=Z3 r.remove[j].args
      repeat first|(first|refine FunW.Qt4 (co _ _ _ _ _) ?_|refine Qb ?_);simp only[go_sem,seval,t4,t6,tj,Q9,hrow,hblk,hel,hec,y1,wj]|refine hK _ ?_;clear hK
      refine Qs.mk (m':=r.remove.length - (j+1)) (by omega) ?_
      rw[hI]
      exact⟨j+1,ded v (QI r.remove[j].args),rfl,hlt,hv,by omega,rfl,t2,t4,rfl,by rw[Q9,hrow,hblk]⟩
     ·have hjl:j=r.remove.length:=by omega
      have hvu:v=U2:=by rw[<-hv,hjl,Qwq];rfl
      subst hvu
      have hx:(r.remove=[]/\rowW (H0.length+1) r.remove = .v (.slice none 0 0)/\blkA r.remove = .dead)\/(r.remove≠[]/\rowW (H0.length+1) r.remove = .arr (H0.length+1) 0 r.remove.length/\blkA r.remove = .cells 105 2 (vs G.atom r.remove)):=ZO _ _ _ _ _
      rcases hx with⟨hn,hrow,hblk⟩|⟨hn,hrow,hblk⟩
      ·have y1:¬((j:Nat):Int)<0:=by omega
       have y0:pv Tryz.prog (Builtin.len_ #[38] 3 #[Value.slice none 0 0])=some (.int .i64 0):=by kernel_rfl
       repeat first|refine Qb ?_;simp only[go_sem,seval,t4,tj,Q9,hrow,hblk,y1,y0]|refine hK _ ?_;clear hK
       (try (refine hK _ ?_;rw[Qp]))
       exact⟨t2,t4,t6,by rw[Q9,hrow,hblk]⟩
      ·have y1:¬((j:Nat):Int)<((r.remove.length:Nat):Int):=by omega
       have hlv:(vs G.atom r.remove).length=r.remove.length:=QL _ _
       repeat first|refine Qb ?_;simp only[go_sem,seval,t4,tj,Q9,hrow,hblk,y1]|refine hK _ ?_;clear hK
       (try (refine hK _ ?_;rw[Qp]))
       exact⟨t2,t4,t6,by rw[Q9,hrow,hblk]⟩
    ·rw[hI]
     exact⟨0,U1,rfl,Qv2 _,hU2.symm,by rw[Qve];(try simp only[Qvb]);omega,rfl,t2,t4,t6,rfl⟩
   rintro⟨tm,hp⟩ ⟨t2,t4,t6,rfl⟩
   dsimp only at t2 t4 t6
   refine Qt (fun s=>s.tm 2 = .ptr h.length 0 0/\s.tm 4 = .ptr (H0.length+4) 0 0/\s.tm 6 = .sl 1 (ints U3) (some (H0.length+5))/\s.h=H0++[blkA r.keep,blkA r.remove,blkG r.guard,blkG r.body,.cells 40 6 [Q9 H0.length r],.grow 3 1 U3.length]) ?_ ?_
   rotate_left
   ·repeat first|refine Qb ?_;simp only[go_sem,seval]|refine hK _ ?_;clear hK
    obtain⟨I,hI⟩:∃I:Nat->AS->Prop,I=fun m' s=>∃(j:Nat) (v:List Int),m'=r.guard.length - j/\j<=r.guard.length/\ded v (QB (r.guard.drop j))=U3/\v.length+ndG (r.guard.drop j)<=7200/\s.tm 9 = .i j/\s.tm 2 = .ptr h.length 0 0/\s.tm 4 = .ptr (H0.length+4) 0 0/\s.tm 6 = .sl 1 (ints v) (some (H0.length+5))/\s.h=H0++[blkA r.keep,blkA r.remove,blkG r.guard,blkG r.body,.cells 40 6 [Q9 H0.length r],.grow 3 1 v.length]:=⟨_,rfl⟩;refine Qk I ?_ (m:=r.guard.length) ?_
    ·intro m' s hs;rw[hI]at hs;obtain⟨tm,hp⟩:=s;dsimp only at hs;obtain⟨j,v,rfl,hj,hv,hvb,tj,t2,t4,t6,rfl⟩:=hs
     have hs12:=sm3.2.2
     have wj:IntKind.i64.wrap (((j:Nat):Int)+1)=((j+1:Nat):Int):=Qz (by omega)
     by_cases hlt:j<r.guard.length
     ·have hrow:rowW (H0.length+2) r.guard = .arr (H0.length+2) 0 r.guard.length:=QbN _ hlt
      have hblk:blkG r.guard = .cells 46 3 (vs G.goal r.guard):=YL _ _ _ hlt
      have hel:=Qed G.goal hlt
      have hec:=G.Qur r.guard[j]
      have hea:(r.guard[j]).goal.isAgg=true:=rfl
      have hlv:(vs G.goal r.guard).length=r.guard.length:=QL _ _
      have y1:((j:Nat):Int)<((r.guard.length:Nat):Int):=by omega
      rw[QcQ hlt,Q4]at hv
      rw[Qlt hlt]at hvb
      have co:=fun K R' G' B C=>ord K R' G' B C v r.guard[j].args (by omega)
      have hdl:=Xu v (QI r.guard[j].args)
      have hvn:=Z3 r.guard[j].args
      repeat first|(first|refine FunW.Qt4 (co _ _ _ _ _) ?_|refine Qb ?_);simp only[go_sem,seval,t4,t6,tj,Q9,hrow,hblk,hel,hec,y1,wj]|refine hK _ ?_;clear hK
      refine Qs.mk (m':=r.guard.length - (j+1)) (by omega) ?_
      rw[hI]
      exact⟨j+1,ded v (QI r.guard[j].args),rfl,hlt,hv,by omega,rfl,t2,t4,rfl,by rw[Q9,hrow,hblk]⟩
     ·have hjl:j=r.guard.length:=by omega
      have hvu:v=U3:=by rw[<-hv,hjl,Qwq];rfl
      subst hvu
      have hx:(r.guard=[]/\rowW (H0.length+2) r.guard = .v (.slice none 0 0)/\blkG r.guard = .dead)\/(r.guard≠[]/\rowW (H0.length+2) r.guard = .arr (H0.length+2) 0 r.guard.length/\blkG r.guard = .cells 46 3 (vs G.goal r.guard)):=ZO _ _ _ _ _
      rcases hx with⟨hn,hrow,hblk⟩|⟨hn,hrow,hblk⟩
      ·have y1:¬((j:Nat):Int)<0:=by omega
       have y0:pv Tryz.prog (Builtin.len_ #[32] 3 #[Value.slice none 0 0])=some (.int .i64 0):=by kernel_rfl
       repeat first|refine Qb ?_;simp only[go_sem,seval,t4,tj,Q9,hrow,hblk,y1,y0]|refine hK _ ?_;clear hK
       (try (refine hK _ ?_;rw[Qp]))
       exact⟨t2,t4,t6,by rw[Q9,hrow,hblk]⟩
      ·have y1:¬((j:Nat):Int)<((r.guard.length:Nat):Int):=by omega
       have hlv:(vs G.goal r.guard).length=r.guard.length:=QL _ _
       repeat first|refine Qb ?_;simp only[go_sem,seval,t4,tj,Q9,hrow,hblk,y1]|refine hK _ ?_;clear hK
       (try (refine hK _ ?_;rw[Qp]))
       exact⟨t2,t4,t6,by rw[Q9,hrow,hblk]⟩
    ·rw[hI]
     exact⟨0,U2,rfl,Qv2 _,hU3.symm,by rw[Qve];(try simp only[Qvb]);omega,rfl,t2,t4,t6,rfl⟩
   rintro⟨tm,hp⟩ ⟨t2,t4,t6,rfl⟩
   dsimp only at t2 t4 t6
   refine Qt (fun s=>s.tm 2 = .ptr h.length 0 0/\s.tm 4 = .ptr (H0.length+4) 0 0/\s.tm 6 = .sl 1 (ints U4) (some (H0.length+5))/\s.h=H0++[blkA r.keep,blkA r.remove,blkG r.guard,blkG r.body,.cells 40 6 [Q9 H0.length r],.grow 3 1 U4.length]) ?_ ?_
   rotate_left
   ·repeat first|refine Qb ?_;simp only[go_sem,seval]|refine hK _ ?_;clear hK
    obtain⟨I,hI⟩:∃I:Nat->AS->Prop,I=fun m' s=>∃(j:Nat) (v:List Int),m'=r.body.length - j/\j<=r.body.length/\ded v (QB (r.body.drop j))=U4/\v.length+ndG (r.body.drop j)<=9600/\s.tm 10 = .i j/\s.tm 2 = .ptr h.length 0 0/\s.tm 4 = .ptr (H0.length+4) 0 0/\s.tm 6 = .sl 1 (ints v) (some (H0.length+5))/\s.h=H0++[blkA r.keep,blkA r.remove,blkG r.guard,blkG r.body,.cells 40 6 [Q9 H0.length r],.grow 3 1 v.length]:=⟨_,rfl⟩;refine Qk I ?_ (m:=r.body.length) ?_
    ·intro m' s hs;rw[hI]at hs;obtain⟨tm,hp⟩:=s;dsimp only at hs;obtain⟨j,v,rfl,hj,hv,hvb,tj,t2,t4,t6,rfl⟩:=hs
     have hs12:=sm4.2.2
     have wj:IntKind.i64.wrap (((j:Nat):Int)+1)=((j+1:Nat):Int):=Qz (by omega)
     by_cases hlt:j<r.body.length
     ·have hrow:rowW (H0.length+3) r.body = .arr (H0.length+3) 0 r.body.length:=QbN _ hlt
      have hblk:blkG r.body = .cells 46 3 (vs G.goal r.body):=YL _ _ _ hlt
      have hel:=Qed G.goal hlt
      have hec:=G.Qur r.body[j]
      have hea:(r.body[j]).goal.isAgg=true:=rfl
      have hlv:(vs G.goal r.body).length=r.body.length:=QL _ _
      have y1:((j:Nat):Int)<((r.body.length:Nat):Int):=by omega
      rw[QcQ hlt,Q4]at hv
      rw[Qlt hlt]at hvb
      have co:=fun K R' G' B C=>ord K R' G' B C v r.body[j].args (by omega)
      have hdl:=Xu v (QI r.body[j].args)
      have hvn:=Z3 r.body[j].args
      repeat first|(first|refine FunW.Qt4 (co _ _ _ _ _) ?_|refine Qb ?_);simp only[go_sem,seval,t4,t6,tj,Q9,hrow,hblk,hel,hec,y1,wj]|refine hK _ ?_;clear hK
      refine Qs.mk (m':=r.body.length - (j+1)) (by omega) ?_
      rw[hI]
      exact⟨j+1,ded v (QI r.body[j].args),rfl,hlt,hv,by omega,rfl,t2,t4,rfl,by rw[Q9,hrow,hblk]⟩
     ·have hjl:j=r.body.length:=by omega
      have hvu:v=U4:=by rw[<-hv,hjl,Qwq];rfl
      subst hvu
      have hx:(r.body=[]/\rowW (H0.length+3) r.body = .v (.slice none 0 0)/\blkG r.body = .dead)\/(r.body≠[]/\rowW (H0.length+3) r.body = .arr (H0.length+3) 0 r.body.length/\blkG r.body = .cells 46 3 (vs G.goal r.body)):=ZO _ _ _ _ _
      rcases hx with⟨hn,hrow,hblk⟩|⟨hn,hrow,hblk⟩
      ·have y1:¬((j:Nat):Int)<0:=by omega
       have y0:pv Tryz.prog (Builtin.len_ #[32] 3 #[Value.slice none 0 0])=some (.int .i64 0):=by kernel_rfl
       repeat first|refine Qb ?_;simp only[go_sem,seval,t4,tj,Q9,hrow,hblk,y1,y0]|refine hK _ ?_;clear hK
       (try (refine hK _ ?_;rw[Qp]))
       exact⟨t2,t4,t6,by rw[Q9,hrow,hblk]⟩
      ·have y1:¬((j:Nat):Int)<((r.body.length:Nat):Int):=by omega
       have hlv:(vs G.goal r.body).length=r.body.length:=QL _ _
       repeat first|refine Qb ?_;simp only[go_sem,seval,t4,tj,Q9,hrow,hblk,y1]|refine hK _ ?_;clear hK
       (try (refine hK _ ?_;rw[Qp]))
       exact⟨t2,t4,t6,by rw[Q9,hrow,hblk]⟩
    ·rw[hI]
     exact⟨0,U3,rfl,Qv2 _,hU4.symm,by rw[Qve];(try simp only[Qvb]);omega,rfl,t2,t4,t6,rfl⟩
   rintro⟨tm,hp⟩ ⟨t2,t4,t6,rfl⟩
   dsimp only at t2 t4 t6
   refine Qt (fun s=>s.tm 2 = .ptr h.length 0 0/\s.tm 4 = .ptr (H0.length+4) 0 0/\s.tm 6 = .sl 1 (ints U4) (some (H0.length+5))/\s.h=H0++[blkA (mG F r.keep),blkA r.remove,blkG r.guard,blkG r.body,.cells 40 6 [Q9 H0.length r],.grow 3 1 U4.length]) ?_ ?_
   rotate_left
   ·repeat first|refine Qb ?_;simp only[go_sem,seval]|refine hK _ ?_;clear hK
    obtain⟨I,hI⟩:∃I:Nat->AS->Prop,I=fun m' s=>∃j:Nat,m'=r.keep.length - j/\j<=r.keep.length/\s.tm 11 = .i j/\s.tm 2 = .ptr h.length 0 0/\s.tm 4 = .ptr (H0.length+4) 0 0/\s.tm 6 = .sl 1 (ints U4) (some (H0.length+5))/\s.h=H0++[blkA (mixG F r.keep j),blkA r.remove,blkG r.guard,blkG r.body,.cells 40 6 [Q9 H0.length r],.grow 3 1 U4.length]:=⟨_,rfl⟩;refine Qk I ?_ (m:=r.keep.length) ?_
    ·intro m' s hs;rw[hI]at hs;obtain⟨tm,hp⟩:=s;dsimp only at hs;obtain⟨j,rfl,hj,tj,t2,t4,t6,rfl⟩:=hs
     have hs12:=sm1.2.2
     have wj:IntKind.i64.wrap (((j:Nat):Int)+1)=((j+1:Nat):Int):=Qz (by omega)
     by_cases hlt:j<r.keep.length
     ·have hrow:rowW H0.length r.keep = .arr H0.length 0 r.keep.length:=QbN _ hlt
      have hblk:blkA (mixG F r.keep j) = .cells 105 2 (vs G.atom (mixG F r.keep j)):=YL _ _ _ (by rw[YR F _ hj];exact hlt)
      have hblk2:blkA (mixG F r.keep (j+1)) = .cells 105 2 (vs G.atom (mixG F r.keep (j+1))):=YL _ _ _ (by rw[YR F _ (by omega)];exact hlt)
      have hel:=QeC F G.atom hlt
      have hse:=QeD F G.atom hlt
      have hec:=G.Qus r.keep[j]
      have hea:(r.keep[j]).atom.isAgg=true:=rfl
      have hlv:(vs G.atom (mixG F r.keep j)).length=r.keep.length:=by rw[QL,YR F _ hj]
      have y1:((j:Nat):Int)<((r.keep.length:Nat):Int):=by omega
      have cr:=Qao U4 (some (H0.length+5)) (by omega) 1000000 (QvV _) r.keep[j].args (Qwh (QlR sm1 hlt) (by omega)) (sm1.1 _ (Qww hlt)) (fun v hv=>hin1 v (QbX hlt v hv))
      rw[<-hF]at cr
      repeat first|refine Qb ?_;simp only[go_sem,seval,t4,tj,Q9,hrow,hblk,y1]|refine hK _ ?_;clear hK
      first|refine Qh (id:=25) [(0,0),(1,0),(2,0),(3,0),(4,0),(5,0),(6,0),(7,0),(8,0),(9,0),(10,1),(11,0),(12,0),(13,2)] mixed (by kernel_rfl) fun K hK=>?_|refine Qg (id:=25) [(0,0),(1,0),(2,0),(3,0),(4,0),(5,0),(6,0),(7,0),(8,0),(9,0),(10,1),(11,0),(12,0),(13,2)] mixed (by kernel_rfl) fun K hK=>?_
      (try simp only[Qu6,Qve]);refine Xr 10 (fun K1 hK1=>?_);simp only[go_sem,seval,t4,t6,tj,hel,hec,y1];refine hK1 _ ?_;clear hK1
      (try simp only[Qu6,Qve]);refine Xr 4 (fun K1 hK1=>?_);simp only[go_sem,seval];(repeat ((((with_reducible refine Xq cr ?_));simp only[go_sem,seval,hel,hec,hea,y1])));refine hK1 _ ?_;clear hK1
      refine hK _ ?_
      repeat first|refine Qb ?_;simp only[go_sem,seval,tj,wj]|refine hK _ ?_;clear hK|clear hK;refine hK _ ?_;clear hK
      refine Qs.mk (m':=r.keep.length - (j+1)) (by omega) ?_
      rw[hI]
      exact⟨j+1,rfl,hlt,rfl,t2,t4,t6,by rw[hblk2,<-hse,Q9,hrow];rfl⟩
     ·have hjl:j=r.keep.length:=by omega
      have hme:mixG F r.keep j=mG F r.keep:=by rw[hjl];exact QeB F _
      have hx:(r.keep=[]/\rowW H0.length r.keep = .v (.slice none 0 0)/\blkA r.keep = .dead)\/(r.keep≠[]/\rowW H0.length r.keep = .arr H0.length 0 r.keep.length/\blkA r.keep = .cells 105 2 (vs G.atom r.keep)):=ZO _ _ _ _ _
      rw[hme]
      rcases hx with⟨hn,hrow,_⟩|⟨hn,hrow,_⟩
      ·have y1:¬((j:Nat):Int)<0:=by omega
       have y0:pv Tryz.prog (Builtin.len_ #[38] 3 #[Value.slice none 0 0])=some (.int .i64 0):=by kernel_rfl
       repeat first|refine Qb ?_;simp only[go_sem,seval,t4,tj,Q9,hrow,y1,y0]|refine hK _ ?_;clear hK
       (try (refine hK _ ?_;rw[Qp]))
       exact⟨t2,t4,t6,by rw[Q9,hrow]⟩
      ·have y1:¬((j:Nat):Int)<((r.keep.length:Nat):Int):=by omega
       have hblk:blkA (mG F r.keep) = .cells 105 2 (vs G.atom (mG F r.keep)):=YL _ _ _ (j:=0) (by have:=QwE.2 hn;simpa [mG]using this)
       have hlv:(vs G.atom (mG F r.keep)).length=r.keep.length:=by rw[QL];simp[mG]
       repeat first|refine Qb ?_;simp only[go_sem,seval,t4,tj,Q9,hrow,hblk,y1]|refine hK _ ?_;clear hK
       (try (refine hK _ ?_;rw[Qp]))
       exact⟨t2,t4,t6,by rw[Q9,hrow,hblk]⟩
    ·rw[hI]
     exact⟨0,rfl,Qv2 _,rfl,t2,t4,t6,by rw[QcV]⟩
   rintro⟨tm,hp⟩ ⟨t2,t4,t6,rfl⟩
   dsimp only at t2 t4 t6
   refine Qt (fun s=>s.tm 2 = .ptr h.length 0 0/\s.tm 4 = .ptr (H0.length+4) 0 0/\s.tm 6 = .sl 1 (ints U4) (some (H0.length+5))/\s.h=H0++[blkA (mG F r.keep),blkA (mG F r.remove),blkG r.guard,blkG r.body,.cells 40 6 [Q9 H0.length r],.grow 3 1 U4.length]) ?_ ?_
   rotate_left
   ·repeat first|refine Qb ?_;simp only[go_sem,seval]|refine hK _ ?_;clear hK
    obtain⟨I,hI⟩:∃I:Nat->AS->Prop,I=fun m' s=>∃j:Nat,m'=r.remove.length - j/\j<=r.remove.length/\s.tm 12 = .i j/\s.tm 2 = .ptr h.length 0 0/\s.tm 4 = .ptr (H0.length+4) 0 0/\s.tm 6 = .sl 1 (ints U4) (some (H0.length+5))/\s.h=H0++[blkA (mG F r.keep),blkA (mixG F r.remove j),blkG r.guard,blkG r.body,.cells 40 6 [Q9 H0.length r],.grow 3 1 U4.length]:=⟨_,rfl⟩;refine Qk I ?_ (m:=r.remove.length) ?_
    ·intro m' s hs;rw[hI]at hs;obtain⟨tm,hp⟩:=s;dsimp only at hs;obtain⟨j,rfl,hj,tj,t2,t4,t6,rfl⟩:=hs
     have hs12:=sm2.2.2
     have wj:IntKind.i64.wrap (((j:Nat):Int)+1)=((j+1:Nat):Int):=Qz (by omega)
     by_cases hlt:j<r.remove.length
     ·have hrow:rowW (H0.length+1) r.remove = .arr (H0.length+1) 0 r.remove.length:=QbN _ hlt
      have hblk:blkA (mixG F r.remove j) = .cells 105 2 (vs G.atom (mixG F r.remove j)):=YL _ _ _ (by rw[YR F _ hj];exact hlt)
      have hblk2:blkA (mixG F r.remove (j+1)) = .cells 105 2 (vs G.atom (mixG F r.remove (j+1))):=YL _ _ _ (by rw[YR F _ (by omega)];exact hlt)
      have hel:=QeC F G.atom hlt
      have hse:=QeD F G.atom hlt
      have hec:=G.Qus r.remove[j]
      have hea:(r.remove[j]).atom.isAgg=true:=rfl
      have hlv:(vs G.atom (mixG F r.remove j)).length=r.remove.length:=by rw[QL,YR F _ hj]
      have y1:((j:Nat):Int)<((r.remove.length:Nat):Int):=by omega
      have cr:=Qao U4 (some (H0.length+5)) (by omega) 1000000 (QvV _) r.remove[j].args (Qwh (QlR sm2 hlt) (by omega)) (sm2.1 _ (Qww hlt)) (fun v hv=>hin2 v (QbX hlt v hv))
      rw[<-hF]at cr
      repeat first|refine Qb ?_;simp only[go_sem,seval,t4,tj,Q9,hrow,hblk,y1]|refine hK _ ?_;clear hK
      first|refine Qh (id:=29) [(0,0),(1,0),(2,0),(3,0),(4,0),(5,0),(6,0),(7,0),(8,0),(9,0),(10,1),(11,0),(12,0),(13,2)] mixed (by kernel_rfl) fun K hK=>?_|refine Qg (id:=29) [(0,0),(1,0),(2,0),(3,0),(4,0),(5,0),(6,0),(7,0),(8,0),(9,0),(10,1),(11,0),(12,0),(13,2)] mixed (by kernel_rfl) fun K hK=>?_
      (try simp only[Qu6,Qve]);refine Xr 10 (fun K1 hK1=>?_);simp only[go_sem,seval,t4,t6,tj,hel,hec,y1];refine hK1 _ ?_;clear hK1
      (try simp only[Qu6,Qve]);refine Xr 4 (fun K1 hK1=>?_);simp only[go_sem,seval];(repeat ((((with_reducible refine Xq cr ?_));simp only[go_sem,seval,hel,hec,hea,y1])));refine hK1 _ ?_;clear hK1
      refine hK _ ?_
      repeat first|refine Qb ?_;simp only[go_sem,seval,tj,wj]|refine hK _ ?_;clear hK|clear hK;refine hK _ ?_;clear hK
      refine Qs.mk (m':=r.remove.length - (j+1)) (by omega) ?_
      rw[hI]
      exact⟨j+1,rfl,hlt,rfl,t2,t4,t6,by rw[hblk2,<-hse,Q9,hrow];rfl⟩
     ·have hjl:j=r.remove.length:=by omega
      have hme:mixG F r.remove j=mG F r.remove:=by rw[hjl];exact QeB F _
      have hx:(r.remove=[]/\rowW (H0.length+1) r.remove = .v (.slice none 0 0)/\blkA r.remove = .dead)\/(r.remove≠[]/\rowW (H0.length+1) r.remove = .arr (H0.length+1) 0 r.remove.length/\blkA r.remove = .cells 105 2 (vs G.atom r.remove)):=ZO _ _ _ _ _
      rw[hme]
      rcases hx with⟨hn,hrow,_⟩|⟨hn,hrow,_⟩
      ·have y1:¬((j:Nat):Int)<0:=by omega
       have y0:pv Tryz.prog (Builtin.len_ #[38] 3 #[Value.slice none 0 0])=some (.int .i64 0):=by kernel_rfl
       repeat first|refine Qb ?_;simp only[go_sem,seval,t4,tj,Q9,hrow,y1,y0]|refine hK _ ?_;clear hK
       (try (refine hK _ ?_;rw[Qp]))
       exact⟨t2,t4,t6,by rw[Q9,hrow]⟩
      ·have y1:¬((j:Nat):Int)<((r.remove.length:Nat):Int):=by omega
       have hblk:blkA (mG F r.remove) = .cells 105 2 (vs G.atom (mG F r.remove)):=YL _ _ _ (j:=0) (by have:=QwE.2 hn;simpa [mG]using this)
       have hlv:(vs G.atom (mG F r.remove)).length=r.remove.length:=by rw[QL];simp[mG]
       repeat first|refine Qb ?_;simp only[go_sem,seval,t4,tj,Q9,hrow,hblk,y1]|refine hK _ ?_;clear hK
       (try (refine hK _ ?_;rw[Qp]))
       exact⟨t2,t4,t6,by rw[Q9,hrow,hblk]⟩
    ·rw[hI]
     exact⟨0,rfl,Qv2 _,rfl,t2,t4,t6,by rw[QcV]⟩
   rintro⟨tm,hp⟩ ⟨t2,t4,t6,rfl⟩
   dsimp only at t2 t4 t6
   refine Qt (fun s=>s.tm 2 = .ptr h.length 0 0/\s.tm 4 = .ptr (H0.length+4) 0 0/\s.tm 6 = .sl 1 (ints U4) (some (H0.length+5))/\s.h=H0++[blkA (mG F r.keep),blkA (mG F r.remove),blkG (mG F r.guard),blkG r.body,.cells 40 6 [Q9 H0.length r],.grow 3 1 U4.length]) ?_ ?_
   rotate_left
   ·repeat first|refine Qb ?_;simp only[go_sem,seval]|refine hK _ ?_;clear hK
    obtain⟨I,hI⟩:∃I:Nat->AS->Prop,I=fun m' s=>∃j:Nat,m'=r.guard.length - j/\j<=r.guard.length/\s.tm 13 = .i j/\s.tm 2 = .ptr h.length 0 0/\s.tm 4 = .ptr (H0.length+4) 0 0/\s.tm 6 = .sl 1 (ints U4) (some (H0.length+5))/\s.h=H0++[blkA (mG F r.keep),blkA (mG F r.remove),blkG (mixG F r.guard j),blkG r.body,.cells 40 6 [Q9 H0.length r],.grow 3 1 U4.length]:=⟨_,rfl⟩;refine Qk I ?_ (m:=r.guard.length) ?_
    ·intro m' s hs;rw[hI]at hs;obtain⟨tm,hp⟩:=s;dsimp only at hs;obtain⟨j,rfl,hj,tj,t2,t4,t6,rfl⟩:=hs
     have hs12:=sm3.2.2
     have wj:IntKind.i64.wrap (((j:Nat):Int)+1)=((j+1:Nat):Int):=Qz (by omega)
     by_cases hlt:j<r.guard.length
     ·have hrow:rowW (H0.length+2) r.guard = .arr (H0.length+2) 0 r.guard.length:=QbN _ hlt
      have hblk:blkG (mixG F r.guard j) = .cells 46 3 (vs G.goal (mixG F r.guard j)):=YL _ _ _ (by rw[YR F _ hj];exact hlt)
      have hblk2:blkG (mixG F r.guard (j+1)) = .cells 46 3 (vs G.goal (mixG F r.guard (j+1))):=YL _ _ _ (by rw[YR F _ (by omega)];exact hlt)
      have hel:=QeC F G.goal hlt
      have hse:=QeD F G.goal hlt
      have hec:=G.Qur r.guard[j]
      have hea:(r.guard[j]).goal.isAgg=true:=rfl
      have hlv:(vs G.goal (mixG F r.guard j)).length=r.guard.length:=by rw[QL,YR F _ hj]
      have y1:((j:Nat):Int)<((r.guard.length:Nat):Int):=by omega
      have cr:=Qao U4 (some (H0.length+5)) (by omega) 1000000 (QvV _) r.guard[j].args (Qwh (QlR sm3 hlt) (by omega)) (sm3.1 _ (Qww hlt)) (fun v hv=>hin3 v (QbX hlt v hv))
      rw[<-hF]at cr
      repeat first|refine Qb ?_;simp only[go_sem,seval,t4,tj,Q9,hrow,hblk,y1]|refine hK _ ?_;clear hK
      first|refine Qh (id:=33) [(0,0),(1,0),(2,0),(3,0),(4,0),(5,0),(6,0),(7,0),(8,0),(9,0),(10,1),(11,0),(12,0),(13,2)] mixed (by kernel_rfl) fun K hK=>?_|refine Qg (id:=33) [(0,0),(1,0),(2,0),(3,0),(4,0),(5,0),(6,0),(7,0),(8,0),(9,0),(10,1),(11,0),(12,0),(13,2)] mixed (by kernel_rfl) fun K hK=>?_
      (try simp only[Qu6,Qve]);refine Xr 10 (fun K1 hK1=>?_);simp only[go_sem,seval,t4,t6,tj,hel,hec,y1];refine hK1 _ ?_;clear hK1
      (try simp only[Qu6,Qve]);refine Xr 4 (fun K1 hK1=>?_);simp only[go_sem,seval];(repeat ((((with_reducible refine Xq cr ?_));simp only[go_sem,seval,hel,hec,hea,y1])));refine hK1 _ ?_;clear hK1
      refine hK _ ?_
      repeat first|refine Qb ?_;simp only[go_sem,seval,tj,wj]|refine hK _ ?_;clear hK|clear hK;refine hK _ ?_;clear hK
      refine Qs.mk (m':=r.guard.length - (j+1)) (by omega) ?_
      rw[hI]
      exact⟨j+1,rfl,hlt,rfl,t2,t4,t6,by rw[hblk2,<-hse,Q9,hrow];rfl⟩
     ·have hjl:j=r.guard.length:=by omega
      have hme:mixG F r.guard j=mG F r.guard:=by rw[hjl];exact QeB F _
      have hx:(r.guard=[]/\rowW (H0.length+2) r.guard = .v (.slice none 0 0)/\blkG r.guard = .dead)\/(r.guard≠[]/\rowW (H0.length+2) r.guard = .arr (H0.length+2) 0 r.guard.length/\blkG r.guard = .cells 46 3 (vs G.goal r.guard)):=ZO _ _ _ _ _
      rw[hme]
      rcases hx with⟨hn,hrow,_⟩|⟨hn,hrow,_⟩
      ·have y1:¬((j:Nat):Int)<0:=by omega
       have y0:pv Tryz.prog (Builtin.len_ #[32] 3 #[Value.slice none 0 0])=some (.int .i64 0):=by kernel_rfl
       repeat first|refine Qb ?_;simp only[go_sem,seval,t4,tj,Q9,hrow,y1,y0]|refine hK _ ?_;clear hK
       (try (refine hK _ ?_;rw[Qp]))
       exact⟨t2,t4,t6,by rw[Q9,hrow]⟩
      ·have y1:¬((j:Nat):Int)<((r.guard.length:Nat):Int):=by omega
       have hblk:blkG (mG F r.guard) = .cells 46 3 (vs G.goal (mG F r.guard)):=YL _ _ _ (j:=0) (by have:=QwE.2 hn;simpa [mG]using this)
       have hlv:(vs G.goal (mG F r.guard)).length=r.guard.length:=by rw[QL];simp[mG]
       repeat first|refine Qb ?_;simp only[go_sem,seval,t4,tj,Q9,hrow,hblk,y1]|refine hK _ ?_;clear hK
       (try (refine hK _ ?_;rw[Qp]))
       exact⟨t2,t4,t6,by rw[Q9,hrow,hblk]⟩
    ·rw[hI]
     exact⟨0,rfl,Qv2 _,rfl,t2,t4,t6,by rw[QcV]⟩
   rintro⟨tm,hp⟩ ⟨t2,t4,t6,rfl⟩
   dsimp only at t2 t4 t6
   refine Qt (fun s=>s.tm 2 = .ptr h.length 0 0/\s.tm 4 = .ptr (H0.length+4) 0 0/\s.tm 6 = .sl 1 (ints U4) (some (H0.length+5))/\s.h=H0++[blkA (mG F r.keep),blkA (mG F r.remove),blkG (mG F r.guard),blkG (mG F r.body),.cells 40 6 [Q9 H0.length r],.grow 3 1 U4.length]) ?_ ?_
   rotate_left
   ·repeat first|refine Qb ?_;simp only[go_sem,seval]|refine hK _ ?_;clear hK
    obtain⟨I,hI⟩:∃I:Nat->AS->Prop,I=fun m' s=>∃j:Nat,m'=r.body.length - j/\j<=r.body.length/\s.tm 14 = .i j/\s.tm 2 = .ptr h.length 0 0/\s.tm 4 = .ptr (H0.length+4) 0 0/\s.tm 6 = .sl 1 (ints U4) (some (H0.length+5))/\s.h=H0++[blkA (mG F r.keep),blkA (mG F r.remove),blkG (mG F r.guard),blkG (mixG F r.body j),.cells 40 6 [Q9 H0.length r],.grow 3 1 U4.length]:=⟨_,rfl⟩;refine Qk I ?_ (m:=r.body.length) ?_
    ·intro m' s hs;rw[hI]at hs;obtain⟨tm,hp⟩:=s;dsimp only at hs;obtain⟨j,rfl,hj,tj,t2,t4,t6,rfl⟩:=hs
     have hs12:=sm4.2.2
     have wj:IntKind.i64.wrap (((j:Nat):Int)+1)=((j+1:Nat):Int):=Qz (by omega)
     by_cases hlt:j<r.body.length
     ·have hrow:rowW (H0.length+3) r.body = .arr (H0.length+3) 0 r.body.length:=QbN _ hlt
      have hblk:blkG (mixG F r.body j) = .cells 46 3 (vs G.goal (mixG F r.body j)):=YL _ _ _ (by rw[YR F _ hj];exact hlt)
      have hblk2:blkG (mixG F r.body (j+1)) = .cells 46 3 (vs G.goal (mixG F r.body (j+1))):=YL _ _ _ (by rw[YR F _ (by omega)];exact hlt)
      have hel:=QeC F G.goal hlt
      have hse:=QeD F G.goal hlt
      have hec:=G.Qur r.body[j]
      have hea:(r.body[j]).goal.isAgg=true:=rfl
      have hlv:(vs G.goal (mixG F r.body j)).length=r.body.length:=by rw[QL,YR F _ hj]
      have y1:((j:Nat):Int)<((r.body.length:Nat):Int):=by omega
      have cr:=Qao U4 (some (H0.length+5)) (by omega) 1000000 (QvV _) r.body[j].args (Qwh (QlR sm4 hlt) (by omega)) (sm4.1 _ (Qww hlt)) (fun v hv=>hin4 v (QbX hlt v hv))
      rw[<-hF]at cr
      repeat first|refine Qb ?_;simp only[go_sem,seval,t4,tj,Q9,hrow,hblk,y1]|refine hK _ ?_;clear hK
      first|refine Qh (id:=37) [(0,0),(1,0),(2,0),(3,0),(4,0),(5,0),(6,0),(7,0),(8,0),(9,0),(10,1),(11,0),(12,0),(13,2)] mixed (by kernel_rfl) fun K hK=>?_|refine Qg (id:=37) [(0,0),(1,0),(2,0),(3,0),(4,0),(5,0),(6,0),(7,0),(8,0),(9,0),(10,1),(11,0),(12,0),(13,2)] mixed (by kernel_rfl) fun K hK=>?_
      (try simp only[Qu6,Qve]);refine Xr 10 (fun K1 hK1=>?_);simp only[go_sem,seval,t4,t6,tj,hel,hec,y1];refine hK1 _ ?_;clear hK1
      (try simp only[Qu6,Qve]);refine Xr 4 (fun K1 hK1=>?_);simp only[go_sem,seval];(repeat ((((with_reducible refine Xq cr ?_));simp only[go_sem,seval,hel,hec,hea,y1])));refine hK1 _ ?_;clear hK1
      refine hK _ ?_
      repeat first|refine Qb ?_;simp only[go_sem,seval,tj,wj]|refine hK _ ?_;clear hK|clear hK;refine hK _ ?_;clear hK
      refine Qs.mk (m':=r.body.length - (j+1)) (by omega) ?_
      rw[hI]
      exact⟨j+1,rfl,hlt,rfl,t2,t4,t6,by rw[hblk2,<-hse,Q9,hrow];rfl⟩
     ·have hjl:j=r.body.length:=by omega
      have hme:mixG F r.body j=mG F r.body:=by rw[hjl];exact QeB F _
      have hx:(r.body=[]/\rowW (H0.length+3) r.body = .v (.slice none 0 0)/\blkG r.body = .dead)\/(r.body≠[]/\rowW (H0.length+3) r.body = .arr (H0.length+3) 0 r.body.length/\blkG r.body = .cells 46 3 (vs G.goal r.body)):=ZO _ _ _ _ _
      rw[hme]
      rcases hx with⟨hn,hrow,_⟩|⟨hn,hrow,_⟩
      ·have y1:¬((j:Nat):Int)<0:=by omega
       have y0:pv Tryz.prog (Builtin.len_ #[32] 3 #[Value.slice none 0 0])=some (.int .i64 0):=by kernel_rfl
       repeat first|refine Qb ?_;simp only[go_sem,seval,t4,tj,Q9,hrow,y1,y0]|refine hK _ ?_;clear hK
       (try (refine hK _ ?_;rw[Qp]))
       exact⟨t2,t4,t6,by rw[Q9,hrow]⟩
      ·have y1:¬((j:Nat):Int)<((r.body.length:Nat):Int):=by omega
       have hblk:blkG (mG F r.body) = .cells 46 3 (vs G.goal (mG F r.body)):=YL _ _ _ (j:=0) (by have:=QwE.2 hn;simpa [mG]using this)
       have hlv:(vs G.goal (mG F r.body)).length=r.body.length:=by rw[QL];simp[mG]
       repeat first|refine Qb ?_;simp only[go_sem,seval,t4,tj,Q9,hrow,hblk,y1]|refine hK _ ?_;clear hK
       (try (refine hK _ ?_;rw[Qp]))
       exact⟨t2,t4,t6,by rw[Q9,hrow,hblk]⟩
    ·rw[hI]
     exact⟨0,rfl,Qv2 _,rfl,t2,t4,t6,by rw[QcV]⟩
   rintro⟨tm,hp⟩ ⟨t2,t4,t6,rfl⟩
   dsimp only at t2 t4 t6
   repeat first|refine Qb ?_;simp only[go_sem,seval,t2,t4,t6,gn,sn,rk.2.2,rr.2.2,rg.2.2,rb.2.2,Q9]|refine hK _ ?_;clear hK
   simp only[go_sem,seval,t2,gx]
   rw[hnumd]
   refine .inr ⟨_,_,?_,rfl,by rw[QvZ];omega,by rw[gt];exact g2⟩
   simp only[QrD,QvZ]
 ·have t0i:(0:Nat)=0:=rfl
  cases hp:Yh ⟨s.toks,[]⟩with
  |err p e =>
   have hRR:R = .err p e:=by rw[<-hR,hp];rfl
   rw[hp]at cp
   have cp2:Ql Tryz.prog 57 [.ptr i 0 0] (rh h9 i (h.length+1) all ⟨s.toks,[]⟩ 0 0) fun o h'=>∃w:EW,o = .ret (.tup [.agg [.v (.string w.x),w.a,w.b,w.c,w.d,.i 0],.b false])/\h'=rh h9 i (h.length+1) all w.s p e++w.Y:=cp.mono (by
    rintro o h' ⟨v,s2,Y,⟨x,a,b,c,d,rfl,ha,hb,hc,hd⟩,rfl,rfl⟩
    exact⟨⟨x,a,b,c,d,s2,Y,ha,hb,hc,hd⟩,rfl,rfl⟩)
   have wa:=fun w:EW=>w.ha.1
   have wb:=fun w:EW=>w.hb.1
   have wc:=fun w:EW=>w.hc.1
   have wd:=fun w:EW=>w.hd.1
   have wa3:=fun w:EW=>w.ha.2.2
   have wb3:=fun w:EW=>w.hb.2.2
   have wc3:=fun w:EW=>w.hc.2.2
   have wd3:=fun w:EW=>w.hd.2.2
   have m1:=YK h9 i (h.length+1) all
   have m2:∀(s2:PS) (p e:Int) (Y:AH) (c:AB),((rh h9 i (h.length+1) all s2 p e++Y)++[c])[(rh h9 i (h.length+1) all s2 p e++Y).length]? = some c:=fun s2 p e Y c=>List.getElem?_concat_length
   repeat first|(first|refine FunW.retV (FunW.call cp2) fun w=>?_|refine Qb ?_);simp only[go_sem,seval,wa3,wb3,wc3,wd3]|refine hK _ ?_;clear hK
   (try (refine hK _ ?_;rw[Qp]))
   exact⟨rfl,.inl ⟨p,e,w.s,_,hRR,rfl,rfl⟩⟩
  |ok r s2 =>
   rw[hp]at cp
   have q1:=YK h9 i (h.length+1) all
   have q2:=Qa5 h9 i (h.length+1) all
   have q3:=Qc6 h9 i (h.length+1) all
   have q5:=ZX h9 i (h.length+1) all
   have q6:=Qa4 h9 i (h.length+1) all
   have cp2:Ql Tryz.prog 57 [.ptr i 0 0] (rh h9 i (h.length+1) all ⟨s.toks,[]⟩ 0 0) fun o h'=>o = .ret (.tup [.agg [.v (.string r.name),rowW h9.length r.keep,rowW (h9.length+1) r.remove,rowW (h9.length+2) r.guard,rowW (h9.length+3) r.body,.i 0],.b true])/\h'=rh h9 i (h.length+1) all s2 0 0++[blkA r.keep,blkA r.remove,blkG r.guard,blkG r.body]:=cp.mono (fun o h' q=>q)
   have rk:=QbO h9.length r.keep
   have rr:=QbO (h9.length+1) r.remove
   have rg:=QbO (h9.length+2) r.guard
   have rb:=QbO (h9.length+3) r.body
   repeat first|(first|refine FunW.Qt4 cp2 ?_|refine Qb ?_);simp only[go_sem,seval,q1,q3,q6,rk.2.2,rr.2.2,rg.2.2,rb.2.2]|refine hK _ ?_;clear hK
   (try (refine hK _ ?_;rw[Qp]))
   exact⟨rfl,.inr ⟨r,s2,rfl,rfl,rfl,rfl⟩⟩
end
end Go.Proofs.YticgcpebdldbgaaGreatDoor.Ab
namespace Go.Proofs.YticgcpebdldbgaaGreatDoor.Ab
open Go.Proofs
section
variable(l:List UInt8)(hl:l.length<=16384)(k0:Nat)(hk0:k0<=l.length)(h:AH)(k:Nat)(hk:k=l.length - (QK false (l.drop k0)).length)(he:QK false (l.drop k0)=l.drop k)
include hl hk0 hk he
theorem QoN(hk2:k=l.length):Ql Tryz.prog 51 [.v (.string (mkB l)),.i k0] h fun o h'=>o = .ret (rdT k (XU (l.drop k)))/\h'=h:=by
 have hsl:=fun b=>XG Tryz.prog 9 3 (by kernel_rfl) b
 have z1:¬((k0:Nat):Int)<0:=by omega
 have z2:¬((l.length:Nat):Int)<((k0:Nat):Int):=by omega
 have z3:¬((k0:Nat):Int)>((l.length:Nat):Int):=by omega
 have z4:¬((l.length:Nat):Int)>16384:=by omega
 have z5:¬(16384:Int)<((l.length:Nat):Int):=by omega
 have cs:=Z1 l hl k0 hk0
 rw[<-hk]at cs
 have _u:=he
 have y1:(((k:Nat):Int)==((l.length:Nat):Int))=true:=by rw[hk2];simp
 have e:rdT k (XU (l.drop k)) = .tup [tkv 0 k [],.i k,.i 0]:=by rw[hk2,Qwq];rfl
 have hsp:=YS Tryz.prog 9 (by kernel_rfl) (mkB l) (some (.i64,(k:Nat))) (some (.i64,(k:Nat))) k (k+0) ⟨by omega,by rw[Qj];omega,by omega⟩ ⟨by omega,by omega,by omega⟩
 simp only[QuZ]at hsp
 rw[Yg l k 0 (by omega),List.take_zero]at hsp
 rw[e]
 refine Qa Tryz.func51 rfl Tryz.call51 Tryz.ntmps51 Tryz.results51 (by simp) ?_
 repeat (first|refine Qd cs ?_|refine Qb ?_);simp only[go_sem,seval,XD,hsl,Qj,z1,z2,z4,y1,hsp]
 exact Qc (htake _ _) (.keep (Zb (Qde _ _ _ _) _ _)) ⟨rfl,rfl⟩
theorem QoP(hk2:k<l.length)(hL:lowB l[k]=true):Ql Tryz.prog 51 [.v (.string (mkB l)),.i k0] h fun o h'=>o = .ret (rdT k (XU (l.drop k)))/\h'=h:=by
 have hsl:=fun b=>XG Tryz.prog 9 3 (by kernel_rfl) b
 have z1:¬((k0:Nat):Int)<0:=by omega
 have z2:¬((l.length:Nat):Int)<((k0:Nat):Int):=by omega
 have z3:¬((k0:Nat):Int)>((l.length:Nat):Int):=by omega
 have z4:¬((l.length:Nat):Int)>16384:=by omega
 have z5:¬(16384:Int)<((l.length:Nat):Int):=by omega
 have cs:=Z1 l hl k0 hk0
 rw[<-hk]at cs
 have _u:=he
 have y1:(((k:Nat):Int)==((l.length:Nat):Int))=false:=by simp;omega
 have hix:=Xe Tryz.prog 9 (by kernel_rfl) (mkB l) k (by rw[Qj];exact hk2)
 rw[XE l k hk2]at hix
 have cl:=Qab l[k]
 have cu:=Qa6 l[k]
 have cd:=ZN l[k]
 have hd:=drop_cons hk2
 have hlu:=Qfm l[k]
 rw[hL]at cl hlu
 rw[Qw4]at hlu
 have h97:97<=l[k].toNat:=(QxH hL).1
 obtain⟨w,hw⟩:∃w,w=(l.drop k).takeWhile isW:=⟨_,rfl⟩
 have hn:w.length<=l.length - k:=by rw[hw,<-Qwe];exact(QwR _).length_le
 have ht:XU (l.drop k)=if 40<w.length then .inr 7 else .inl (1,w):=by rw[hw,hd,XU,QvY hlu,QvY h97]
 have hwt:(l.drop k).take w.length=w:=by rw[hw];exact(Qxg.1 (QwR isW)).symm
 refine Qa Tryz.func51 rfl Tryz.call51 Tryz.ntmps51 Tryz.results51 (by simp) ?_
 repeat first|(first|refine Qd cs ?_|refine Qd cl ?_|refine Qb ?_);simp only[go_sem,seval,hsl,Qj,z1,z2,z4,y1,hix]|refine hK _ ?_;clear hK
 obtain⟨I,hI⟩:∃I:Nat->AS->Prop,I=fun m' s=>∃j:Nat,m'=w.length - j/\j<=w.length/\j+((l.drop (k+j)).takeWhile isW).length=w.length/\s.tm 0 = .v (.string (mkB l))/\s.tm 1 = .i k/\s.tm 4 = .ptr h.length 0 0/\s.tm 7 = .i ((k+j:Nat):Int)/\s.tm 8 = .i 1/\s.h=h++[.cells 54 3 [zTok]]:=⟨_,rfl⟩;refine Qk I ?_ (m:=w.length) ?_
 ·intro m' s hs;rw[hI]at hs;obtain⟨tm,hp⟩:=s;dsimp only at hs;obtain⟨j,rfl,hj,hw2,t0,t1,t4,t7,t8,rfl⟩:=hs
  (with_reducible refine Qn fun K hK=>?_)
  refine Qt (fun s=>s.tm 78 = .b (decide (j<w.length))/\s.tm 0 = .v (.string (mkB l))/\s.tm 1 = .i k/\s.tm 4 = .ptr h.length 0 0/\s.tm 7 = .i ((k+j:Nat):Int)/\s.tm 8 = .i 1/\s.h=h++[.cells 54 3 [zTok]]) ?_ ?_
  ·rintro⟨tm,hq⟩ ⟨t78,t0,t1,t4,t7,t8,rfl⟩
   dsimp only at t78 t0 t1 t4 t7 t8
   by_cases hjw:j<w.length
   ·rw[Qwc hjw]at t78
    have hlt:k+j<l.length:=by omega
    have w5:IntKind.i64.wrap (((k+j:Nat):Int)+1)=((k+(j+1):Nat):Int):=by rw[QS (by omega)];omega
    rw[drop_cons hlt,Qxb]at hw2
    have hc:isW l[k+j]=true:=by
     cases q:isW l[k+j]with
     |true=>rfl
     |false =>
      rw[q]at hw2
      simp at hw2;omega
    rw[QvY hc,Qva]at hw2
    refine Qm (by exact t78) ?_
    simp only[↓reduceIte]
    repeat first|refine Qb ?_;simp only[go_sem,seval,t7,w5]|refine hK _ ?_;clear hK
    refine Qs.mk (m':=w.length - (j+1)) (by omega) ?_
    rw[hI]
    exact⟨j+1,rfl,by omega,by rw[show k+(j+1)=k+j+1 by omega];omega,t0,t1,t4,rfl,t8,rfl⟩
   ·rw[Qv6 hjw]at t78
    have hje:j=w.length:=by omega
    subst hje
    have hsp:=YS Tryz.prog 9 (by kernel_rfl) (mkB l) (some (.i64,(k:Nat))) (some (.i64,(k+w.length:Nat))) k (k+w.length) ⟨by omega,by rw[Qj];omega,by omega⟩ ⟨by omega,by omega,by omega⟩
    have w6:IntKind.i64.wrap (((k+w.length:Nat):Int) - ((k:Nat):Int))=((w.length:Nat):Int):=by rw[QS (by omega)];omega
    simp only[QuZ]at hsp
    rw[Yg l k _ (by omega),hwt]at hsp
    refine Qm (by exact t78) ?_
    simp only[↓reduceIte,Qu1]
    by_cases h40:40<w.length
    ·have x1:((w.length:Nat):Int)>40:=by omega
     have x2:(40:Int)<((w.length:Nat):Int):=by omega
     repeat first|refine Qb ?_;simp only[go_sem,seval,t1,t4,t7,zTok,w6,x1]|refine hK _ ?_;clear hK|clear hK;refine hK _ ?_;clear hK
     exact Qc (htake _ _) (.keep (Xi _ k (.inr 7))) ⟨by rw[ht,QvY h40];rfl,rfl⟩
    ·have x1:¬((w.length:Nat):Int)>40:=by omega
     have x2:¬(40:Int)<((w.length:Nat):Int):=by omega
     repeat first|refine Qb ?_;simp only[go_sem,seval,XD,t0,t1,t4,t7,t8,zTok,w6,x1,hsp]|refine hK _ ?_;clear hK|clear hK;refine hK _ ?_;clear hK
     exact Qc (htake _ _) (.keep (Xi _ k (.inl (1,w)))) ⟨by rw[ht,QvU h40];rfl,rfl⟩
  ·skip
   by_cases hlt:k+j<l.length
   ·have y2:((k+j:Nat):Int)<((l.length:Nat):Int):=by omega
    have hix2:=Xe Tryz.prog 9 (by kernel_rfl) (mkB l) (k+j) (by rw[Qj];exact hlt)
    rw[XE l (k+j) hlt]at hix2
    have bl:=Qab l[k+j]
    have bu:=Qa6 l[k+j]
    have bd:=ZN l[k+j]
    have hisW:isW l[k+j]=((lowB l[k+j]||upB l[k+j])||isD l[k+j]):=by rw[<-Qfm];rfl
    have hjw:decide (j<w.length)=isW l[k+j]:=by
     rw[drop_cons hlt,Qxb]at hw2
     cases q:isW l[k+j]with
     |true=>rw[QvY q,Qva]at hw2;exact Qwc (by omega)
     |false=>rw[q]at hw2;simp at hw2;exact Qv6 (by omega)
    cases q1:lowB l[k+j]with
    |true =>
     rw[q1]at bl
     repeat first|refine owN ?_|(first|refine Qd bl ?_|refine owK fun K hK=>?_|refine nwcS fun K hK=>?_|refine nwcR fun K hK=>?_|refine Qb ?_);simp only[go_sem,seval,t0,t7,hsl,Qj,y2,XD,QU,t1,t4,t8,hix2]|refine hK _ ?_;clear hK
     exact⟨by rw[hjw,hisW,q1];rfl,t0,t1,t4,t7,t8,rfl⟩
    |false =>
     rw[q1]at bl
     cases q2:upB l[k+j]with
     |true =>
      rw[q2]at bu
      repeat first|refine owN ?_|(first|refine Qd bl ?_|refine Qd bu ?_|refine owK fun K hK=>?_|refine nwcS fun K hK=>?_|refine nwcR fun K hK=>?_|refine Qb ?_);simp only[go_sem,seval,t0,t7,hsl,Qj,y2,XD,QU,t1,t4,t8,hix2]|refine hK _ ?_;clear hK
      exact⟨by rw[hjw,hisW,q1,q2];rfl,t0,t1,t4,t7,t8,rfl⟩
     |false =>
      rw[q2]at bu
      cases q3:isD l[k+j]with
      |true =>
       rw[q3]at bd
       repeat first|refine owN ?_|(first|refine Qd bl ?_|refine Qd bu ?_|refine Qd bd ?_|refine owK fun K hK=>?_|refine nwcS fun K hK=>?_|refine nwcR fun K hK=>?_|refine Qb ?_);simp only[go_sem,seval,t0,t7,hsl,Qj,y2,XD,QU,t1,t4,t8,hix2]|refine hK _ ?_;clear hK
       exact⟨by rw[hjw,hisW,q1,q2,q3];rfl,t0,t1,t4,t7,t8,rfl⟩
      |false =>
       rw[q3]at bd
       repeat first|refine owN ?_|(first|refine Qd bl ?_|refine Qd bu ?_|refine Qd bd ?_|refine owK fun K hK=>?_|refine nwcS fun K hK=>?_|refine nwcR fun K hK=>?_|refine Qb ?_);simp only[go_sem,seval,t0,t7,hsl,Qj,y2,XD,QU,t1,t4,t8,hix2]|refine hK _ ?_;clear hK
       exact⟨by rw[hjw,hisW,q1,q2,q3];rfl,t0,t1,t4,t7,t8,rfl⟩
   ·have y2:¬((k+j:Nat):Int)<((l.length:Nat):Int):=by omega
    have hjw:decide (j<w.length)=false:=by
     rw[Qw1 (by omega),List.takeWhile_nil,Qvb,Qvm]at hw2
     exact Qv6 (by omega)
    repeat first|refine owN ?_|(first|refine owK fun K hK=>?_|refine nwcS fun K hK=>?_|refine nwcR fun K hK=>?_|refine Qb ?_);simp only[go_sem,seval,t0,t7,hsl,Qj,y2,XD,QU,t1,t4,t8]|refine hK _ ?_;clear hK
    exact⟨by rw[hjw];rfl,t0,t1,t4,t7,t8,rfl⟩
 ·rw[hI]
  exact⟨0,rfl,Qv2 _,by rw[Qvm,<-hw,Qu9],rfl,rfl,rfl,rfl,rfl,rfl⟩
theorem Qp9(hk2:k<l.length)(hL:lowB l[k]=false)(hU:upB l[k]=true):Ql Tryz.prog 51 [.v (.string (mkB l)),.i k0] h fun o h'=>o = .ret (rdT k (XU (l.drop k)))/\h'=h:=by
 have hsl:=fun b=>XG Tryz.prog 9 3 (by kernel_rfl) b
 have z1:¬((k0:Nat):Int)<0:=by omega
 have z2:¬((l.length:Nat):Int)<((k0:Nat):Int):=by omega
 have z3:¬((k0:Nat):Int)>((l.length:Nat):Int):=by omega
 have z4:¬((l.length:Nat):Int)>16384:=by omega
 have z5:¬(16384:Int)<((l.length:Nat):Int):=by omega
 have cs:=Z1 l hl k0 hk0
 rw[<-hk]at cs
 have _u:=he
 have y1:(((k:Nat):Int)==((l.length:Nat):Int))=false:=by simp;omega
 have hix:=Xe Tryz.prog 9 (by kernel_rfl) (mkB l) k (by rw[Qj];exact hk2)
 rw[XE l k hk2]at hix
 have cl:=Qab l[k]
 have cu:=Qa6 l[k]
 have cd:=ZN l[k]
 have hd:=drop_cons hk2
 have hlu:=Qfm l[k]
 rw[hL]at cl hlu
 rw[hU]at cu hlu
 rw[Qw7]at hlu
 have h97:¬97<=l[k].toNat:=fun q=>by
  have h1:=QxH hU
  have h2:=of_decide_eq_false hL
  omega
 obtain⟨w,hw⟩:∃w,w=(l.drop k).takeWhile isW:=⟨_,rfl⟩
 have hn:w.length<=l.length - k:=by rw[hw,<-Qwe];exact(QwR _).length_le
 have ht:XU (l.drop k)=if 40<w.length then .inr 7 else .inl (2,w):=by rw[hw,hd,XU,QvY hlu,QvU h97]
 have hwt:(l.drop k).take w.length=w:=by rw[hw];exact(Qxg.1 (QwR isW)).symm
 refine Qa Tryz.func51 rfl Tryz.call51 Tryz.ntmps51 Tryz.results51 (by simp) ?_
 repeat first|(first|refine Qd cs ?_|refine Qd cl ?_|refine Qd cu ?_|refine Qb ?_);simp only[go_sem,seval,hsl,Qj,z1,z2,z4,y1,hix]|refine hK _ ?_;clear hK
 obtain⟨I,hI⟩:∃I:Nat->AS->Prop,I=fun m' s=>∃j:Nat,m'=w.length - j/\j<=w.length/\j+((l.drop (k+j)).takeWhile isW).length=w.length/\s.tm 0 = .v (.string (mkB l))/\s.tm 1 = .i k/\s.tm 4 = .ptr h.length 0 0/\s.tm 7 = .i ((k+j:Nat):Int)/\s.tm 8 = .i 2/\s.h=h++[.cells 54 3 [zTok]]:=⟨_,rfl⟩;refine Qk I ?_ (m:=w.length) ?_
 ·intro m' s hs;rw[hI]at hs;obtain⟨tm,hp⟩:=s;dsimp only at hs;obtain⟨j,rfl,hj,hw2,t0,t1,t4,t7,t8,rfl⟩:=hs
  (with_reducible refine Qn fun K hK=>?_)
  refine Qt (fun s=>s.tm 78 = .b (decide (j<w.length))/\s.tm 0 = .v (.string (mkB l))/\s.tm 1 = .i k/\s.tm 4 = .ptr h.length 0 0/\s.tm 7 = .i ((k+j:Nat):Int)/\s.tm 8 = .i 2/\s.h=h++[.cells 54 3 [zTok]]) ?_ ?_
  ·rintro⟨tm,hq⟩ ⟨t78,t0,t1,t4,t7,t8,rfl⟩
   dsimp only at t78 t0 t1 t4 t7 t8
   by_cases hjw:j<w.length
   ·rw[Qwc hjw]at t78
    have hlt:k+j<l.length:=by omega
    have w5:IntKind.i64.wrap (((k+j:Nat):Int)+1)=((k+(j+1):Nat):Int):=by rw[QS (by omega)];omega
    rw[drop_cons hlt,Qxb]at hw2
    have hc:isW l[k+j]=true:=by
     cases q:isW l[k+j]with
     |true=>rfl
     |false =>
      rw[q]at hw2
      simp at hw2;omega
    rw[QvY hc,Qva]at hw2
    refine Qm (by exact t78) ?_
    simp only[↓reduceIte]
    repeat first|refine Qb ?_;simp only[go_sem,seval,t7,w5]|refine hK _ ?_;clear hK
    refine Qs.mk (m':=w.length - (j+1)) (by omega) ?_
    rw[hI]
    exact⟨j+1,rfl,by omega,by rw[show k+(j+1)=k+j+1 by omega];omega,t0,t1,t4,rfl,t8,rfl⟩
   ·rw[Qv6 hjw]at t78
    have hje:j=w.length:=by omega
    subst hje
    have hsp:=YS Tryz.prog 9 (by kernel_rfl) (mkB l) (some (.i64,(k:Nat))) (some (.i64,(k+w.length:Nat))) k (k+w.length) ⟨by omega,by rw[Qj];omega,by omega⟩ ⟨by omega,by omega,by omega⟩
    have w6:IntKind.i64.wrap (((k+w.length:Nat):Int) - ((k:Nat):Int))=((w.length:Nat):Int):=by rw[QS (by omega)];omega
    simp only[QuZ]at hsp
    rw[Yg l k _ (by omega),hwt]at hsp
    refine Qm (by exact t78) ?_
    simp only[↓reduceIte,Qu1]
    by_cases h40:40<w.length
    ·have x1:((w.length:Nat):Int)>40:=by omega
     have x2:(40:Int)<((w.length:Nat):Int):=by omega
     repeat first|refine Qb ?_;simp only[go_sem,seval,t1,t4,t7,zTok,w6,x1]|refine hK _ ?_;clear hK|clear hK;refine hK _ ?_;clear hK
     exact Qc (htake _ _) (.keep (Xi _ k (.inr 7))) ⟨by rw[ht,QvY h40];rfl,rfl⟩
    ·have x1:¬((w.length:Nat):Int)>40:=by omega
     have x2:¬(40:Int)<((w.length:Nat):Int):=by omega
     repeat first|refine Qb ?_;simp only[go_sem,seval,XD,t0,t1,t4,t7,t8,zTok,w6,x1,hsp]|refine hK _ ?_;clear hK|clear hK;refine hK _ ?_;clear hK
     exact Qc (htake _ _) (.keep (Xi _ k (.inl (2,w)))) ⟨by rw[ht,QvU h40];rfl,rfl⟩
  ·skip
   by_cases hlt:k+j<l.length
   ·have y2:((k+j:Nat):Int)<((l.length:Nat):Int):=by omega
    have hix2:=Xe Tryz.prog 9 (by kernel_rfl) (mkB l) (k+j) (by rw[Qj];exact hlt)
    rw[XE l (k+j) hlt]at hix2
    have bl:=Qab l[k+j]
    have bu:=Qa6 l[k+j]
    have bd:=ZN l[k+j]
    have hisW:isW l[k+j]=((lowB l[k+j]||upB l[k+j])||isD l[k+j]):=by rw[<-Qfm];rfl
    have hjw:decide (j<w.length)=isW l[k+j]:=by
     rw[drop_cons hlt,Qxb]at hw2
     cases q:isW l[k+j]with
     |true=>rw[QvY q,Qva]at hw2;exact Qwc (by omega)
     |false=>rw[q]at hw2;simp at hw2;exact Qv6 (by omega)
    cases q1:lowB l[k+j]with
    |true =>
     rw[q1]at bl
     repeat first|refine owN ?_|(first|refine Qd bl ?_|refine owK fun K hK=>?_|refine nwcS fun K hK=>?_|refine nwcR fun K hK=>?_|refine Qb ?_);simp only[go_sem,seval,t0,t7,hsl,Qj,y2,XD,QU,t1,t4,t8,hix2]|refine hK _ ?_;clear hK
     exact⟨by rw[hjw,hisW,q1];rfl,t0,t1,t4,t7,t8,rfl⟩
    |false =>
     rw[q1]at bl
     cases q2:upB l[k+j]with
     |true =>
      rw[q2]at bu
      repeat first|refine owN ?_|(first|refine Qd bl ?_|refine Qd bu ?_|refine owK fun K hK=>?_|refine nwcS fun K hK=>?_|refine nwcR fun K hK=>?_|refine Qb ?_);simp only[go_sem,seval,t0,t7,hsl,Qj,y2,XD,QU,t1,t4,t8,hix2]|refine hK _ ?_;clear hK
      exact⟨by rw[hjw,hisW,q1,q2];rfl,t0,t1,t4,t7,t8,rfl⟩
     |false =>
      rw[q2]at bu
      cases q3:isD l[k+j]with
      |true =>
       rw[q3]at bd
       repeat first|refine owN ?_|(first|refine Qd bl ?_|refine Qd bu ?_|refine Qd bd ?_|refine owK fun K hK=>?_|refine nwcS fun K hK=>?_|refine nwcR fun K hK=>?_|refine Qb ?_);simp only[go_sem,seval,t0,t7,hsl,Qj,y2,XD,QU,t1,t4,t8,hix2]|refine hK _ ?_;clear hK
       exact⟨by rw[hjw,hisW,q1,q2,q3];rfl,t0,t1,t4,t7,t8,rfl⟩
      |false =>
       rw[q3]at bd
       repeat first|refine owN ?_|(first|refine Qd bl ?_|refine Qd bu ?_|refine Qd bd ?_|refine owK fun K hK=>?_|refine nwcS fun K hK=>?_|refine nwcR fun K hK=>?_|refine Qb ?_);simp only[go_sem,seval,t0,t7,hsl,Qj,y2,XD,QU,t1,t4,t8,hix2]|refine hK _ ?_;clear hK
       exact⟨by rw[hjw,hisW,q1,q2,q3];rfl,t0,t1,t4,t7,t8,rfl⟩
   ·have y2:¬((k+j:Nat):Int)<((l.length:Nat):Int):=by omega
    have hjw:decide (j<w.length)=false:=by
     rw[Qw1 (by omega),List.takeWhile_nil,Qvb,Qvm]at hw2
     exact Qv6 (by omega)
    repeat first|refine owN ?_|(first|refine owK fun K hK=>?_|refine nwcS fun K hK=>?_|refine nwcR fun K hK=>?_|refine Qb ?_);simp only[go_sem,seval,t0,t7,hsl,Qj,y2,XD,QU,t1,t4,t8]|refine hK _ ?_;clear hK
    exact⟨by rw[hjw];rfl,t0,t1,t4,t7,t8,rfl⟩
 ·rw[hI]
  exact⟨0,rfl,Qv2 _,by rw[Qvm,<-hw,Qu9],rfl,rfl,rfl,rfl,rfl,rfl⟩
theorem QoO(hk2:k<l.length)(hL:lowB l[k]=false)(hU:upB l[k]=false)(hD:isD l[k]=true):Ql Tryz.prog 51 [.v (.string (mkB l)),.i k0] h fun o h'=>o = .ret (rdT k (XU (l.drop k)))/\h'=h:=by
 have hsl:=fun b=>XG Tryz.prog 9 3 (by kernel_rfl) b
 have z1:¬((k0:Nat):Int)<0:=by omega
 have z2:¬((l.length:Nat):Int)<((k0:Nat):Int):=by omega
 have z3:¬((k0:Nat):Int)>((l.length:Nat):Int):=by omega
 have z4:¬((l.length:Nat):Int)>16384:=by omega
 have z5:¬(16384:Int)<((l.length:Nat):Int):=by omega
 have cs:=Z1 l hl k0 hk0
 rw[<-hk]at cs
 have _u:=he
 have y1:(((k:Nat):Int)==((l.length:Nat):Int))=false:=by simp;omega
 have hix:=Xe Tryz.prog 9 (by kernel_rfl) (mkB l) k (by rw[Qj];exact hk2)
 rw[XE l k hk2]at hix
 have cl:=Qab l[k]
 have cu:=Qa6 l[k]
 have cd:=ZN l[k]
 have hd:=drop_cons hk2
 have hlu:=Qfm l[k]
 rw[hL]at cl hlu
 rw[hU]at cu hlu
 rw[hD]at cd
 obtain⟨w,hw⟩:∃w,w=(l.drop k).takeWhile isD:=⟨_,rfl⟩
 have hn:w.length<=l.length - k:=by rw[hw,<-Qwe];exact(QwR _).length_le
 have ht:XU (l.drop k)=if 2147483648<numVal w then .inr 5 else .inl (3,w):=by rw[hw,hd,XU,QvU (by rw[hlu];decide),QvY hD]
 have hwt:(l.drop k).take w.length=w:=by rw[hw];exact(Qxg.1 (QwR isD)).symm
 have hwd:∀c∈w,isD c=true:=fun c hc=>by
  rw[hw]at hc
  exact QwA.1 List.all_takeWhile c hc
 have cv:=QkM w hwd (by omega)
 refine Qa Tryz.func51 rfl Tryz.call51 Tryz.ntmps51 Tryz.results51 (by simp) ?_
 repeat (first|refine Qd cs ?_|refine Qd cl ?_|refine Qd cu ?_|refine Qd cd ?_|refine Qb ?_);simp only[go_sem,seval,hsl,Qj,z1,z2,z4,y1,hix]
 obtain⟨I,hI⟩:∃I:Nat->AS->Prop,I=fun m' s=>∃j:Nat,m'=w.length - j/\j<=w.length/\j+((l.drop (k+j)).takeWhile isD).length=w.length/\s.tm 0 = .v (.string (mkB l))/\s.tm 1 = .i k/\s.tm 4 = .ptr h.length 0 0/\s.tm 7 = .i ((k+j:Nat):Int)/\s.tm 8 = .i 3/\s.h=h++[.cells 54 3 [zTok]]:=⟨_,rfl⟩;refine Qk I ?_ (m:=w.length) ?_
 ·intro m' s hs;rw[hI]at hs;obtain⟨tm,hp⟩:=s;dsimp only at hs;obtain⟨j,rfl,hj,hw2,t0,t1,t4,t7,t8,rfl⟩:=hs
  by_cases hlt:k+j<l.length
  ·have y2:((k+j:Nat):Int)<((l.length:Nat):Int):=by omega
   have hix2:=Xe Tryz.prog 9 (by kernel_rfl) (mkB l) (k+j) (by rw[Qj];exact hlt)
   rw[XE l (k+j) hlt]at hix2
   have bd:=ZN l[k+j]
   have w5:IntKind.i64.wrap (((k+j:Nat):Int)+1)=((k+(j+1):Nat):Int):=by rw[QS (by omega)];omega
   have hd2:=drop_cons hlt
   rw[hd2,Qxb]at hw2
   cases q3:isD l[k+j]with
   |true =>
    rw[q3]at bd
    rw[QvY q3,Qva]at hw2
    repeat (first|refine Qd bd ?_|refine Qb ?_);simp only[go_sem,seval,t0,t7,hsl,zTok,Qj,y2,hix2,w5]
    refine Qs.mk (m':=w.length - (j+1)) (by omega) ?_
    rw[hI]
    exact⟨j+1,rfl,by omega,by rw[show k+(j+1)=k+j+1 by omega];omega,t0,t1,t4,rfl,t8,rfl⟩
   |false =>
    rw[q3]at bd
    rw[QvU (by rw[q3];decide),Qvb,Qvm]at hw2
    subst hw2
    have hsp:=YS Tryz.prog 9 (by kernel_rfl) (mkB l) (some (.i64,(k:Nat))) (some (.i64,(k+w.length:Nat))) k (k+w.length) ⟨by omega,by rw[Qj];omega,by omega⟩ ⟨by omega,by omega,by omega⟩
    simp only[QuZ]at hsp
    rw[Yg l k _ (by omega),hwt]at hsp
    by_cases hb:2147483648<numVal w
    ·have x1:((min (numVal w) 2147483649:Nat):Int)>2147483648:=by omega
     have x2:(2147483648:Int)<((min (numVal w) 2147483649:Nat):Int):=by omega
     repeat (first|refine Qd bd ?_|refine Qd cv ?_|refine Qb ?_);simp only[go_sem,seval,XD,t0,t1,t4,t7,hsl,zTok,Qj,y2,hix2,hsp,x1]
     exact Qc (htake _ _) (.keep (Xi _ k (.inr 5))) ⟨by rw[ht,QvY hb];rfl,rfl⟩
    ·have x1:¬((min (numVal w) 2147483649:Nat):Int)>2147483648:=by omega
     have x2:¬(2147483648:Int)<((min (numVal w) 2147483649:Nat):Int):=by omega
     repeat (first|refine Qd bd ?_|refine Qd cv ?_|refine Qb ?_);simp only[go_sem,seval,XD,t0,t1,t4,t7,t8,hsl,zTok,Qj,y2,hix2,hsp,x1]
     exact Qc (htake _ _) (.keep (Xi _ k (.inl (3,w)))) ⟨by rw[ht,QvU hb];rfl,rfl⟩
  ·have y2:¬((k+j:Nat):Int)<((l.length:Nat):Int):=by omega
   rw[Qw1 (by omega),List.takeWhile_nil,Qvb,Qvm]at hw2
   subst hw2
   have hsp:=YS Tryz.prog 9 (by kernel_rfl) (mkB l) (some (.i64,(k:Nat))) (some (.i64,(k+w.length:Nat))) k (k+w.length) ⟨by omega,by rw[Qj];omega,by omega⟩ ⟨by omega,by omega,by omega⟩
   simp only[QuZ]at hsp
   rw[Yg l k _ (by omega),hwt]at hsp
   by_cases hb:2147483648<numVal w
   ·have x1:((min (numVal w) 2147483649:Nat):Int)>2147483648:=by omega
    have x2:(2147483648:Int)<((min (numVal w) 2147483649:Nat):Int):=by omega
    repeat (first|refine Qd cv ?_|refine Qb ?_);simp only[go_sem,seval,XD,t0,t1,t4,t7,hsl,zTok,Qj,y2,hsp,x1]
    exact Qc (htake _ _) (.keep (Xi _ k (.inr 5))) ⟨by rw[ht,QvY hb];rfl,rfl⟩
   ·have x1:¬((min (numVal w) 2147483649:Nat):Int)>2147483648:=by omega
    have x2:¬(2147483648:Int)<((min (numVal w) 2147483649:Nat):Int):=by omega
    repeat (first|refine Qd cv ?_|refine Qb ?_);simp only[go_sem,seval,XD,t0,t1,t4,t7,t8,hsl,zTok,Qj,y2,hsp,x1]
    exact Qc (htake _ _) (.keep (Xi _ k (.inl (3,w)))) ⟨by rw[ht,QvU hb];rfl,rfl⟩
 ·rw[hI]
  exact⟨0,rfl,Qv2 _,by rw[Qvm,<-hw,Qu9],rfl,rfl,rfl,rfl,rfl,rfl⟩
theorem QmI(hk2:k<l.length)(hL:lowB l[k]=false)(hU:upB l[k]=false)(hD:isD l[k]=false)(hs:Qeo (l.drop k)=none):Ql Tryz.prog 51 [.v (.string (mkB l)),.i k0] h fun o h'=>o = .ret (rdT k (XU (l.drop k)))/\h'=h:=by
 have hsl:=fun b=>XG Tryz.prog 9 3 (by kernel_rfl) b
 have z1:¬((k0:Nat):Int)<0:=by omega
 have z2:¬((l.length:Nat):Int)<((k0:Nat):Int):=by omega
 have z3:¬((k0:Nat):Int)>((l.length:Nat):Int):=by omega
 have z4:¬((l.length:Nat):Int)>16384:=by omega
 have z5:¬(16384:Int)<((l.length:Nat):Int):=by omega
 have cs:=Z1 l hl k0 hk0
 rw[<-hk]at cs
 have _u:=he
 have y1:(((k:Nat):Int)==((l.length:Nat):Int))=false:=by simp;omega
 have hix:=Xe Tryz.prog 9 (by kernel_rfl) (mkB l) k (by rw[Qj];exact hk2)
 rw[XE l k hk2]at hix
 have cl:=Qab l[k]
 have cu:=Qa6 l[k]
 have cd:=ZN l[k]
 have hd:=drop_cons hk2
 have hlu:=Qfm l[k]
 rw[hL]at cl hlu
 rw[hU]at cu hlu
 rw[hD]at cd
 have cy:=Qd7 l hl k (by omega)
 rw[hs]at cy
 simp only[Option.getD_none]at cy
 have hs2:=hs
 rw[hd]at hs2
 have ht:XU (l.drop k) = .inr 16:=by rw[hd,XU,QvU (by rw[hlu];decide),QvU (by rw[hD];decide),hs2]
 have w1:IntKind.i64.wrap (((k:Nat):Int)+(([]:List UInt8).length:Nat))=((k:Nat):Int):=by rw[QS (by simp only[Qvb];omega)];simp
 have w2:IntKind.i64.wrap (((k:Nat):Int)+0)=((k:Nat):Int):=by rw[QS (by omega)];omega
 rw[ht]
 refine Qa Tryz.func51 rfl Tryz.call51 Tryz.ntmps51 Tryz.results51 (by simp) ?_
 repeat (first|refine Qd cs ?_|refine Qd cl ?_|refine Qd cu ?_|refine Qd cd ?_|refine Qd cy ?_|refine Qb ?_);simp only[go_sem,seval,hsl,Qj,z1,z2,z4,y1,hix,w2]
 exact Qc (htake _ _) (.keep (Xi _ k (.inr 16))) ⟨rfl,rfl⟩
theorem QmJ(hk2:k<l.length)(hL:lowB l[k]=false)(hU:upB l[k]=false)(hD:isD l[k]=false)(x:List UInt8)(hs:Qeo (l.drop k)=some x):Ql Tryz.prog 51 [.v (.string (mkB l)),.i k0] h fun o h'=>o = .ret (rdT k (XU (l.drop k)))/\h'=h:=by
 have hsl:=fun b=>XG Tryz.prog 9 3 (by kernel_rfl) b
 have z1:¬((k0:Nat):Int)<0:=by omega
 have z2:¬((l.length:Nat):Int)<((k0:Nat):Int):=by omega
 have z3:¬((k0:Nat):Int)>((l.length:Nat):Int):=by omega
 have z4:¬((l.length:Nat):Int)>16384:=by omega
 have z5:¬(16384:Int)<((l.length:Nat):Int):=by omega
 have cs:=Z1 l hl k0 hk0
 rw[<-hk]at cs
 have _u:=he
 have y1:(((k:Nat):Int)==((l.length:Nat):Int))=false:=by simp;omega
 have hix:=Xe Tryz.prog 9 (by kernel_rfl) (mkB l) k (by rw[Qj];exact hk2)
 rw[XE l k hk2]at hix
 have cl:=Qab l[k]
 have cu:=Qa6 l[k]
 have cd:=ZN l[k]
 have hd:=drop_cons hk2
 have hlu:=Qfm l[k]
 rw[hL]at cl hlu
 rw[hU]at cu hlu
 rw[hD]at cd
 have cy:=Qd7 l hl k (by omega)
 rw[hs]at cy
 simp only[Qxz]at cy
 have hs2:=hs
 rw[hd]at hs2
 have ht:XU (l.drop k) = .inl (4,x):=by rw[hd,XU,QvU (by rw[hlu];decide),QvU (by rw[hD];decide),hs2]
 obtain⟨x1,x3,xp⟩:=Qf1 hs
 rw[Qa0,QwO]at xp
 have xl:x.length<=l.length - k:=by have:=QwN List.length xp;rw[Qwi,Qwe]at this;omega
 have w1:IntKind.i64.wrap (((k:Nat):Int)+((x.length:Nat):Int))=((k+x.length:Nat):Int):=by rw[QS (by omega)];omega
 have q1:(((k+x.length:Nat):Int)==((k:Nat):Int))=false:=by simp;omega
 have hsp:=YS Tryz.prog 9 (by kernel_rfl) (mkB l) (some (.i64,(k:Nat))) (some (.i64,(k+x.length:Nat))) k (k+x.length) ⟨by omega,by rw[Qj];omega,by omega⟩ ⟨by omega,by omega,by omega⟩
 simp only[QuZ]at hsp
 rw[Yg l k _ (by omega),xp]at hsp
 rw[ht]
 refine Qa Tryz.func51 rfl Tryz.call51 Tryz.ntmps51 Tryz.results51 (by simp) ?_
 repeat (first|refine Qd cs ?_|refine Qd cl ?_|refine Qd cu ?_|refine Qd cd ?_|refine Qd cy ?_|refine Qb ?_);simp only[go_sem,seval,XD,hsl,Qj,z1,z2,z4,y1,hix,w1,q1,hsp]
 exact Qc (htake _ _) (.keep (Xi _ k (.inl (4,x)))) ⟨rfl,rfl⟩
end
theorem QmH(l:List UInt8)(hl:l.length<=16384)(k0:Nat)(hk0:k0<=l.length)(h:AH):Ql Tryz.prog 51 [.v (.string (mkB l)),.i k0] h fun o h'=>o = .ret (Qfy l.length (l.drop k0))/\h'=h:=by
 obtain⟨j,j1,j2⟩:=Qdc (l.drop k0)
 have e1:QK false (l.drop k0)=l.drop (l.length - (QK false (l.drop k0)).length):=by
  rw[Qwe]at j1
  rw[j2,QxC,Qwe]
  congr 1;omega
 have en:Qfy l.length (l.drop k0)=rdT (l.length - (QK false (l.drop k0)).length) (XU (l.drop (l.length - (QK false (l.drop k0)).length))):=by rw[Qfy,<-e1]
 rw[en]
 generalize hk:l.length - (QK false (l.drop k0)).length=k at *
 by_cases e:k=l.length
 ·exact QoN l hl k0 hk0 h k hk.symm e1 e
 ·have hlt:k<l.length:=by omega
  cases hL:lowB l[k]with
  |true=>exact QoP l hl k0 hk0 h k hk.symm e1 hlt hL
  |false =>
   cases hU:upB l[k]with
   |true=>exact Qp9 l hl k0 hk0 h k hk.symm e1 hlt hL hU
   |false =>
    cases hD:isD l[k]with
    |true=>exact QoO l hl k0 hk0 h k hk.symm e1 hlt hL hU hD
    |false =>
     cases hs:Qeo (l.drop k)with
     |none=>exact QmI l hl k0 hk0 h k hk.symm e1 hlt hL hU hD hs
     |some x=>exact QmJ l hl k0 hk0 h k hk.symm e1 hlt hL hU hD x hs
end Go.Proofs.YticgcpebdldbgaaGreatDoor.Ab
namespace Go.Proofs.YticgcpebdldbgaaGreatDoor.Ab
open Go.Proofs
theorem Qhf(l:List UInt8)(hl:l.length<=16384)(h:AH):Ql Tryz.prog 23 [.v (.string (mkB l))] h fun o h'=>o = .ret (scR (Xo l))/\h'=h:=by
 have hsl0:=fun b=>XG Tryz.prog 9 3 (by kernel_rfl) b
 have w0:IntKind.i64.wrap (((l.length:Nat):Int)+1)=((l.length+1:Nat):Int):=Qz (by omega)
 rw[Xo,QvU (by omega)]
 generalize hR:Zn l.length (l.length+1) l=R
 refine Qa Tryz.func23 rfl Tryz.call23 Tryz.ntmps23 Tryz.results23 (by simp) ?_
 iterate 6 (try (first|(((with_reducible refine Qf fun K E hK hE=>?_));simp only[go_sem,seval])|((with_reducible refine hK _ ?_);clear hK)))
 refine Yf 5 54 3 rfl ?_
 repeat first|refine Qb ?_;simp only[go_sem,seval,hsl0,Qj,w0]|refine hK _ ?_;clear hK
 obtain⟨I,hI⟩:∃I:Nat->AS->Prop,I=fun m' s=>∃(ts:List Tk) (k:Nat) (G:AH),m'=l.length - k/\k<=l.length/\ts.length<=k/\(∃m,l.length - k<m/\scJ ts (Zn l.length m (l.drop k))=R)/\s.tm 0 = .v (.string (mkB l))/\s.tm 5 = .sl 3 (tks ts) (some h.length)/\s.tm 6 = .i k/\s.tm 12 = .i ((l.length+1:Nat):Int)/\s.tm 13 = .i ts.length/\s.h=h++(.grow 54 3 ts.length::G):=⟨_,rfl⟩;refine Qk I ?_ (m:=l.length) ?_
 ·intro m' s hs;rw[hI]at hs;obtain⟨tm,hp⟩:=s;dsimp only at hs;obtain⟨ts,k,G,rfl,hk,htl,⟨m,hm,hR2⟩,t0,t5,t6,t12,t13,rfl⟩:=hs
  have yl:((ts.length:Nat):Int)<((l.length+1:Nat):Int):=by omega
  have wl:IntKind.i64.wrap (((ts.length:Nat):Int)+1)=((ts.length+1:Nat):Int):=Qz (by omega)
  have hm1:m=m - 1+1:=by omega
  rw[hm1,Zn]at hR2
  have cn:=fun L=>QmH l hl k hk (h++L)
  obtain⟨j,j1,j2⟩:=Qdc (l.drop k)
  have hsl:(QK false (l.drop k)).length<=l.length - k:=by rw[j2,Qwe,Qwe];omega
  have e1:QK false (l.drop k)=l.drop (l.length - (QK false (l.drop k)).length):=by
   rw[Qwe]at j1
   rw[j2,QxC,Qwe]
   congr 1;omega
  rw[Qfy]at cn
  have x1:∀(Y:AH),(G++Y)[G.length]? = Y[0]? := fun Y=>YY _ _
  have x2:∀(Y:AH) k,(G++Y)[G.length+k]? = Y[k]? := fun Y k=>hget _ _ _
  have x3:∀(Y:AH) y,(G++Y).set G.length y=G++Y.set 0 y:=fun Y y=>Z9 _ _ _
  have ev:(tks ts).length=ts.length:=Yd _
  cases ht:XU (QK false (l.drop k))with
  |inr e =>
   rw[ht]at hR2 cn
   have hR3:Sum.inr (((l.length - (QK false (l.drop k)).length:Nat):Int),e)=R:=hR2
   subst hR3
   have he:(e != 0)=true:=by
    have:=Qih ht
    simpa using this
   repeat first|(first|refine FunW.Qt4 (cn _) ?_|refine Qb ?_);simp only[go_sem,seval,t0,t6,t12,t13,yl,rdT,zTok,he]|refine hK _ ?_;clear hK
   exact Qc (htake _ _) (.keep (QfW _ (.inr (_,e)))) ⟨rfl,rfl⟩
  |inl p =>
   obtain⟨kd,x⟩:=p
   rw[ht]at hR2 cn
   have hm2:(ts.length+1) * 32<=140737488355328:=by omega
   have hm3:ts.length+1<=maxLen:=by simp only[maxLen];omega
   have e0:((0:Int) != 0)=false:=rfl
   rcases Qii ht with⟨k0,hx1,hx2⟩|⟨k0,hx1,r,hx2⟩
   ·subst k0
    subst hx2
    have hR3:Sum.inl (ts++[⟨0,((l.length - (QK false (l.drop k)).length:Nat):Int),eB⟩])=R:=hR2
    subst hR3
    have z1:((0:Int)==0)=true:=rfl
    generalize l.length - (QK false (l.drop k)).length=i at *
    have evs:tks (ts++[⟨0,((i:Nat):Int),eB⟩])=tks ts++[.agg [.i 0,.i i,.v (.string (mkB []))]]:=by rw[tks,QwD];rfl
    repeat first|(first|refine FunW.Qt4 (cn _) ?_|refine Qb ?_);simp only[go_sem,seval,t0,t5,t6,t12,t13,yl,rdT,tkv,x1,x3,ev,hm2,hm3,QvS]|refine hK _ ?_;clear hK
    refine Qc (htake _ _) (r':=.tup [.sl 3 (tks ts++[.agg [.i 0,.i i,.v (.string (mkB []))]]) none,.i 0,.i 0]) (Frz.tup rfl fun j a a' h1 h2=>?_) ⟨by rw[scR,evs],rfl⟩
    match j,h1,h2 with
    |0,h1,h2=>cases h1;cases h2;exact .tok (by rw[<-evs];exact Qa9 _ _)
    |1,h1,h2=>cases h1;cases h2;exact .keep (.v _)
    |2,h1,h2=>cases h1;cases h2;exact .keep (.v _)
    |j+3,h1,h2=>simp at h1
   ·have hR3:scJ (ts++[⟨kd,((l.length - (QK false (l.drop k)).length:Nat):Int),mkB x⟩]) (Zn l.length (m - 1) ((QK false (l.drop k)).drop x.length))=R:=by
     rw[<-hR2]
     show _=scJ ts (if kd=0 then _ else match Zn l.length (m - 1) ((QK false (l.drop k)).drop x.length)with | .inl ts=>_ | .inr e=>_)
     rw[QvU k0]
     cases Zn l.length (m - 1) ((QK false (l.drop k)).drop x.length)with
     |inl us=>simp[scJ]
     |inr e=>rfl
    have hxl:0<x.length:=QwE.2 hx1
    have hxr:x.length<=(QK false (l.drop k)).length:=by rw[hx2,QvO];omega
    have e9:(QK false (l.drop k)).drop x.length=l.drop (l.length - (QK false (l.drop k)).length+x.length):=by
     conv=>lhs;rw[e1]
     rw[QxC]
    rw[e9]at hR3
    generalize (QK false (l.drop k)).length=u at *
    have z1:(kd==0)=false:=by simpa using k0
    have evs:tks (ts++[⟨kd,((l.length - u:Nat):Int),mkB x⟩])=tks ts++[.agg [.i kd,.i ((l.length - u:Nat):Int),.v (.string (mkB x))]]:=by rw[tks,QwD];rfl
    repeat first|(first|refine FunW.Qt4 (cn _) ?_|refine Qb ?_);simp only[go_sem,seval,t0,t5,t6,t12,t13,yl,wl,rdT,tkv,z1,x1,x3,ev,hm2,hm3,QvS]|refine hK _ ?_;clear hK
    refine Qs.mk (m':=l.length - (l.length - u+x.length)) (by omega) ?_
    rw[hI]
    refine⟨ts++[⟨kd,((l.length - u:Nat):Int),mkB x⟩],l.length - u+x.length,G++[.cells 54 3 [tkv kd ((l.length - u:Nat):Int) x]],rfl,by omega,by simp;omega,⟨m - 1,by omega,hR3⟩,t0,?_,rfl,t12,?_,?_⟩
    ·rw[evs];rfl
    ·rw[QvO];rfl
    ·rw[QvO];rfl
 ·rw[hI]
  exact⟨[],0,[],rfl,Qv2 _,QvV _,⟨l.length+1,by omega,by rw[<-hR];cases h0:Zn l.length (l.length+1) l <;> simp[scJ,h0]⟩,rfl,rfl,rfl,rfl,rfl,rfl⟩
end Go.Proofs.YticgcpebdldbgaaGreatDoor.Ab
namespace Go.Proofs.YticgcpebdldbgaaGreatDoor.Ab
open Go.Proofs
def txs:List Tk->Nat
 |[]=>0
 |t::l=>t.text.toList.length+txs l
theorem Qo5:∀{l:List Tk} {t:Tk},t∈l->t.text.toList.length<=txs l
 |u::l,t,h=>by
  rw[txs]
  rcases Qv5.1 h with rfl|h
  ·omega
  ·have:=Qo5 h;omega
theorem QlQ(tot:Nat):∀(m:Nat) (q:List UInt8) (ts:List Tk),Zn tot m q = .inl ts->txs ts<=q.length
 |0,_,_,h=>by cases h;exact Qv2 _
 |m+1,q,ts,h=>by
  rw[Zn]at h
  have hsk:=Qb7 false q
  cases ht:XU (QK false q)with
  |inr e=>rw[ht]at h;cases h
  |inl p =>
   obtain⟨k,x⟩:=p
   rw[ht]at h
   simp only at h
   split at h
   ·cases h
    show eB.toList.length+0<=_
    rw[show eB.toList=[]from by rw[Lib.toList_data];rfl]
    exact Qv2 _
   ·rename_i k0
    rcases Qii ht with⟨k1,_,_⟩|⟨k1,hx1,r,hx2⟩
    ·exact absurd k1 k0
    ·cases hs:Zn tot m ((QK false q).drop x.length)with
     |inr e=>rw[hs]at h;cases h
     |inl us =>
      rw[hs]at h
      cases h
      have h1:=QlQ tot m _ us hs
      have h2:x.length<=(QK false q).length:=by rw[hx2,QvO];omega
      rw[Qwe]at h1
      show(mkB x).toList.length+txs us<=_
      rw[QdY];omega
theorem QoW{l:List UInt8}{ts:List Tk}(h:Xo l = .inl ts)(hl:l.length<=1000000):TxOk ts:=by
 rw[Xo]at h
 split at h
 ·cases h
 ·have:=QlQ _ _ _ _ h
  exact fun t ht=>Qwh (Qo5 ht) (by omega)
theorem Qlh(h:AH)(a x y:AB)(L:AH):hs (h++[a,x]) (h.length+1) y++L=h++(a::y::L):=by
 unfold hs
 rw[Qwt _ _ (by omega),Qwf]
 simp
theorem QqG(h:AH)(a x:AB):h.length+1<(h++[a,x]).length:=by simp
theorem RC.lit{P:Program}{f:FuncId}{args:List AV}{x y:AB}{r:AV}{h:AH}(H:RC P f args (h.length+1) none x r y)(a:AB)(L:AH):Ql P f args (h++(a::x::L)) fun o h'=>o = .ret r/\h'=h++(a::y::L):=by
 have:=H.app (h:=h++[a,x]) (QqG h a x) (fun g hg=>by cases hg) L
 rwa [Qlh,Qlh]at this
section
variable{all:List Tk}(hN:all.length<=1000000)(hD:TkOk all)(hX:TxOk all)
include hN hD hX
theorem Qqc{s:PS}(hW:Wst all s)(h:AH)(a:AB):Ql Tryz.prog 27 [.ptr (h.length+1) 0 0] (h++[a,rdB all none s 0 0]) fun o h'=>match X5 s with
  | .ok r s2=>o = .ret (.tup [r.av,.b true])/\h'=h++[a,rdB all none s2 0 0]
  | .err p e=>o = .ret (.tup [(⟨eB,[],[],[],[],0⟩:Rl).av,.b false])/\∃s2,h'=h++[a,rdB all none s2 p e]:=by
 have hi:=QqG h a (rdB all none s 0 0)
 have:=QlK hi (Qhg hN hD hX hW hi none)
 have e1:=Qlh h a (rdB all none s 0 0) (rdB all none s 0 0) []
 rw[Qvq]at e1
 rw[e1]at this
 refine this.mono fun o h' q=>?_
 have e2:=fun y=>Qlh h a (rdB all none s 0 0) y []
 simp only[Qvq]at e2
 cases hp:X5 s with
 |ok r s2=>rw[hp]at q;exact⟨q.1,by rw[q.2,e2]⟩
 |err p e=>rw[hp]at q;obtain⟨q1,s2,q2⟩:=q;exact⟨q1,s2,by rw[q2,e2]⟩
end
theorem QqS(ts:List Tk):rdB ts none ⟨ts,[]⟩ 0 0 = .cells 69 5 [.agg [.sl 3 (tks ts) none,.i 0,.sl 1 [] none,.i 0,.i 0]]:=by
 unfold rdB
 rw[Qwm];rfl
theorem Qej(l:List UInt8)(hl:l.length<=16384)(h:AH):Ql Tryz.prog 15 [.v (.string (mkB l))] h fun o h'=>o = .ret (rsR (QfK l))/\h'=h:=by
 have cs:=fun L=>Qhf l hl (h++L)
 unfold QfK
 cases hs:Xo l with
 |inr q =>
  obtain⟨x,e⟩:=q
  simp only[hs,scR]at cs
  have y1:(e != 0)=true:=by simpa using Za hs
  refine Qa Tryz.func15 rfl Tryz.call15 Tryz.ntmps15 Tryz.results15 (by simp) ?_
  repeat first|(first|refine FunW.Qt4 (cs _) ?_|refine Qb ?_);simp only[go_sem,seval,y1]|refine hK _ ?_;clear hK
  exact Qc (htake _ _) (QfS _ _) ⟨rfl,rfl⟩
 |inl ts =>
  simp only[hs,scR]at cs
  obtain⟨hD,hW,hN,_⟩:=QaI hs
  have hX:=QoW hs (by omega)
  have y1:((0:Int) != 0)=false:=rfl
  have cr:=Qqc hN hD hX hW h cR0
  have e0:=QqS ts
  simp only
  refine Qa Tryz.func15 rfl Tryz.call15 Tryz.ntmps15 Tryz.results15 (by simp) ?_
  iterate 14 (try (first|((first|(with_reducible (first|refine Qf fun K E hK hE=>?_|refine FunW.Qt4 (cs _) ?_)));simp only[go_sem,seval])|(with_reducible (first|refine Qn fun K hK=>?_|refine QG ?_|refine Qi ?_))|((with_reducible refine hK _ ?_);clear hK)|(refine Qm rfl ?_;simp only[↓reduceIte,Qu1])))
  refine Yx (h.length+1) 69 5 [.agg [.sl 3 (tks ts) none,.i 0,nilV,.i 0,.i 0]] [.agg [.sl 3 (tks ts) none,.i 0,.sl 1 [] none,.i 0,.i 0]] 2 (Wk.nilS 1) (by rw[hget];rfl) rfl (by simp[flat,AV.cells]) (by simp[AV.cells]) ?_
  rw[hset,List.set_cons_succ,List.set_cons_zero,<-e0]
  have hpo:Qak ⟨ts,[]⟩=(X5 ⟨ts,[]⟩).bind fun r s=>(pEnd s).bind fun _ s=>.ok r s:=rfl
  rw[hpo]
  cases hp:X5 ⟨ts,[]⟩with
  |err p e =>
   rw[hp]at cr
   simp only[PR.bind]
   have rc:=Rl.cells (⟨eB,[],[],[],[],0⟩:Rl)
   have ri:=Rl.isAgg (⟨eB,[],[],[],[],0⟩:Rl)
   repeat first|(first|refine FunW.retE (FunW.call cr) fun w=>?_|refine Qb ?_);simp only[go_sem,seval,rc,ri]|refine hK _ ?_;clear hK
   refine XL (h.length+1) 8 0 0 (by rw[hget];rfl) rfl ?_
   simp only[hset,Qvr,Qvs]
   refine Qg (id:=9) [(0,0),(1,1),(2,1),(3,1),(4,1),(5,1),(6,1),(7,1),(8,1),(9,2),(10,0),(11,0)] mixed (by kernel_rfl) fun K hK=>?_
   simp only[go_sem,seval]
   repeat first|refine Qb ?_;simp only[go_sem,seval]|refine hK _ ?_;clear hK
   exact Qc (htake _ _) (QfS _ _) ⟨rfl,rfl⟩
  |ok r s2 =>
   rw[hp]at cr
   have hW2:Wst ts s2:=Kp.Ps.ok (n:=wdOf ts) (Kp.rule_ps trivial) hW hp
   have ct:=(Qau (tok:=none) hW2 (h.length+1) 0 0).lit cR0
   have cf:=fun x c=>(Qb5 (all:=ts) (tok:=none) (s:=s2) (h.length+1) x c).lit cR0
   have e1:=Tk.Qt5 s2.tk
   have e2:=Tk.Qt6 s2.tk
   have rc:=Rl.cells r
   have ri:=Rl.isAgg r
   simp only[PR.bind]
   by_cases hk:s2.tk.kind=0
   ·have z1:(s2.tk.kind != 0)=false:=by simpa using hk
    rw[pEnd,QvY hk]
    repeat first|(first|refine FunW.Qt4 cr ?_|refine FunW.Qt4 (ct _) ?_|refine Qb ?_);simp only[go_sem,seval,e1,e2,rc,ri,z1]|refine hK _ ?_;clear hK
    exact Qc (htake _ _) (.keep (QjE _ (.inl r))) ⟨rfl,rfl⟩
   ·have z1:(s2.tk.kind != 0)=true:=by simpa using hk
    rw[pEnd,QvU hk]
    repeat first|(first|refine FunW.Qt4 cr ?_|refine FunW.Qt4 (ct _) ?_|refine FunW.Qt4 (cf _ _ _) ?_|refine Qb ?_);simp only[go_sem,seval,e1,e2,rc,ri,z1]|refine hK _ ?_;clear hK
    refine XL (h.length+1) 8 0 0 (by rw[hget];rfl) rfl ?_
    simp only[hset,Qvr,Qvs]
    refine Qg (id:=9) [(0,0),(1,1),(2,1),(3,1),(4,1),(5,1),(6,1),(7,1),(8,1),(9,2),(10,0),(11,0)] mixed (by kernel_rfl) fun K hK=>?_
    simp only[go_sem,seval]
    repeat first|refine Qb ?_;simp only[go_sem,seval]|refine hK _ ?_;clear hK
    exact Qc (htake _ _) (QfS _ _) ⟨rfl,rfl⟩
end Go.Proofs.YticgcpebdldbgaaGreatDoor.Ab
namespace Go.Proofs.YticgcpebdldbgaaGreatDoor.Ab
open Go.Proofs
theorem Qez(f:Int->Int):∀l:List T,(maps f l).length=l.length
 |[]=>rfl
 |t::l=>by rw[maps,Qva,Qva,Qez f l]
mutual
theorem T.QuA(f:Int->Int):∀{t:T},t.Qua=true->(∀v∈t.vars,0<=f v/\f v<=1048576)->(t.map f).Qua=true
 | .mk k i n l,h,hv=>by
  have ih:=@QaP f l
  rw[T.Qua]at h
  rw[T.map]
  rw[T.vars]at hv
  by_cases h0:k=0
  ·rw[QvY h0]at h
   rw[QvU (by omega),QvU (by omega),T.Qua,QvY h0];exact h
  rw[QvU h0]at h
  by_cases h1:k=1
  ·rw[QvY h1]at h hv
   rw[QvY h1,T.Qua,QvU h0,QvY h1]
   have:=hv i (by simp)
   simp only[Qv0]at h ⊢
   exact⟨⟨by simpa using this,h.1.2⟩,h.2⟩
  rw[QvU h1]at h hv
  by_cases h2:k=2
  ·rw[QvY h2]at h hv
   rw[QvU h1,QvY h2,T.Qua,QvU h0,QvU h1,QvY h2]
   have hl:(maps f l).length=l.length:=Qez f l
   rw[hl]
   split at h
   ·cases h
   ·rename_i hi
    rw[QvU hi]
    split at h
    ·cases h
    ·rename_i hn
     rw[QvU hn]
     exact ih h hv
  ·rw[QvU h2]at h;cases h
theorem QaP(f:Int->Int):∀{l:List T},YJ l=true->(∀v∈QI l,0<=f v/\f v<=1048576)->YJ (maps f l)=true
 |[],_,_=>rfl
 |t::l,h,hv=>by
  rw[YJ,Qv0]at h
  rw[QI]at hv
  rw[maps,YJ,T.QuA f h.1 fun v hm=>hv v (QwU _ hm),QaP f h.2 fun v hm=>hv v (Qxc _ hm)];rfl
end
mutual
theorem T.QuG(f:Int->Int):∀t:T,(t.map f).size=t.size/\(t.map f).dep=t.dep
 | .mk k i n l=>by
  have ih:=Zy f l
  rw[T.map]
  by_cases h1:k=1
  ·rw[QvY h1];simp only[T.size,T.dep,QvU (show ¬k=2 by omega)];exact⟨trivial,trivial⟩
  rw[QvU h1]
  by_cases h2:k=2
  ·rw[QvY h2];simp only[T.size,T.dep,QvY h2];rw[ih.1,ih.2];exact⟨rfl,rfl⟩
  ·rw[QvU h2];exact⟨rfl,rfl⟩
theorem Zy(f:Int->Int):∀l:List T,sizes (maps f l)=sizes l/\deps (maps f l)=deps l
 |[]=>⟨rfl,rfl⟩
 |t::l=>by
  have h1:=T.QuG f t
  have h2:=Zy f l
  simp only[maps,sizes,deps,h1.1,h1.2,h2.1,h2.2];exact⟨trivial,trivial⟩
end
theorem QfP{g:G}(h:QC g=true):YJ g.args=true:=by
 rw[QC,Qv0,Qv0,(Qac g.args 200 20 (by omega) (by omega)).1,Qv0]at h
 exact h.2.2.1
theorem Qci{f:Int->Int}{g:G}(h:QC g=true)(hv:∀v∈QI g.args,0<=f v/\f v<=1048576):QC ⟨g.op,g.name,maps f g.args⟩=true:=by
 rw[QC,Qv0,Qv0,(Qac _ 200 20 (by omega) (by omega)).1,Qv0,Qwl,Qwl]at h ⊢
 refine⟨h.1,?_,QaP f h.2.2.1 hv,?_⟩
 ·show(maps f g.args).length<=6
  rw[Qez];exact h.2.1
 ·show((sizes (maps f g.args):Nat):Int)<=200/\((deps (maps f g.args):Nat):Int)<=20
  rw[(Zy f _).1,(Zy f _).2];exact h.2.2.2
theorem Qat{g:G}(h:QC g=true):ndsL g.args<=200:=by
 have hf:=QfP h
 rw[QC,Qv0,Qv0,(Qac g.args 200 20 (by omega) (by omega)).1,Qv0,Qwl,Qwl]at h
 have:=QcO g.args hf
 omega
mutual
theorem T.QuW:∀(t:T),t.vars.length<=t.nds
 | .mk k i n l=>by
  simp only[T.vars,T.nds]
  split
  ·simp
  ·split
   ·have:=QjW l;omega
   ·simp
theorem QjW:∀(l:List T),(QI l).length<=ndsL l
 |[]=>by simp[QI,ndsL]
 |t::l=>by
  have h1:=T.QuW t
  have h2:=QjW l
  simp only[QI,ndsL,QvO];omega
end
theorem QbM{g:G}(h:Qy g=true):(QI g.args).length<=200:=by
 have h1:=QjW g.args
 rw[Qy]at h
 split at h
 ·exact Qwh h1 (Qat h)
 ·rw[Qv0,Qv0,Qv0,(Qac g.args 200 20 (by omega) (by omega)).1,Qv0,Qwl,Qwl,Qwl]at h
  have:=QcO g.args h.2.2.2.1
  omega
theorem Qgo{f:Int->Int}{g:G}(h:Qy g=true)(hv:∀v∈QI g.args,0<=f v/\f v<=1048576):Qy ⟨g.op,g.name,maps f g.args⟩=true:=by
 rw[Qy]at h ⊢
 split at h
 ·rename_i h0
  rw[QvY h0]
  exact Qci (g:=⟨0,g.name,g.args⟩) h hv
 ·rename_i h0
  rw[QvU h0]
  rw[Qv0,Qv0,Qv0,(Qac _ 200 20 (by omega) (by omega)).1,Qv0,Qwl,Qwl,Qwl]at h ⊢
  refine⟨h.1,h.2.1,?_,QaP f h.2.2.2.1 hv,?_⟩
  ·show((maps f g.args).length:Int)=_
   rw[Qez];exact h.2.2.1
  ·show((sizes (maps f g.args):Nat):Int)<=200/\((deps (maps f g.args):Nat):Int)<=20
   rw[(Zy f _).1,(Zy f _).2];exact h.2.2.2.2
mutual
theorem T.QuH(f:Int->Int):∀t:T,(t.map f).vars=t.vars.map f
 | .mk k i n l=>by
  have ih:=QcB f l
  rw[T.map,T.vars]
  by_cases h1:k=1
  ·rw[QvY h1,QvY h1,T.vars,QvY h1];rfl
  rw[QvU h1,QvU h1]
  by_cases h2:k=2
  ·rw[QvY h2,QvY h2,T.vars,QvU h1,QvY h2,ih]
  ·rw[QvU h2,QvU h2,T.vars,QvU h1,QvU h2];rfl
theorem QcB(f:Int->Int):∀l:List T,QI (maps f l)=(QI l).map f
 |[]=>rfl
 |t::l=>by rw[maps,QI,QI,QwD,T.QuH f t,QcB f l]
end
def cntS(n v:Int):Int:=if n<0\/v>n\/v<0 then -1 else max n (v+1)
def cntL(n:Int)(l:List Int):Int:=l.foldl cntS n
theorem Qnu(all:List Int):∀(post pre:List Int),pre++post=all->cntL ((ded [] pre).length:Nat) (post.map fun v=>((plc (ded [] all) v:Nat):Int))=((ded [] all).length:Nat)
 |[],pre,h=>by
  rw[Qvq]at h
  rw[h];rfl
 |v::post,pre,h=>by
  have ih:=Qnu all post (pre++[v]) (by rw[<-h];simp)
  have e1:ded [] (pre++[v])=ins (ded [] pre) v:=by rw[Q4];rfl
  obtain⟨r,hr⟩:=Qcq (ins (ded [] pre) v) post
  have hD:ded [] all=ins (ded [] pre) v++r:=by rw[<-h,Q4,ded,hr]
  have hp:plc (ded [] all) v=plc (ins (ded [] pre) v) v:=by rw[hD];exact QdE r (Qko.2 (.inr rfl))
  rw[<-ih,List.map_cons]
  show cntL (cntS _ _) _=_
  rw[hp,e1]
  congr 1
  by_cases hm:v∈ded [] pre
  ·have:ins (ded [] pre) v=ded [] pre:=QvY hm
   rw[this]
   have:=Qov hm
   rw[cntS,QvU (by omega)]
   omega
  ·have:ins (ded [] pre) v=ded [] pre++[v]:=QvU hm
   rw[this,Qcf [] hm,cntS,QvU (by omega),QvO,QwG]
   omega
theorem QhH(l:List G)(h:∀g∈l,(QI g.args).length<=200):(l.flatMap fun g=>QI g.args).length<=200 * l.length:=by
 induction l with
 |nil=>simp
 |cons g l ih =>
  have h1:=h g (by simp)
  have h2:=ih fun x hx=>h x (by simp[hx])
  rw[Qxo,QvO,Qva]
  omega
structure RlOk (r:Rl):Prop extends RlPre r where
 cnt:cntL 0 r.allV=r.vars
 vnn:0<=r.vars
theorem Qrp{r:Rl}(h:RlPre r):RlOk r.numd:=by
 have hl:r.allV.length<=5600:=by
  have hk:=QhH r.keep fun g hg=>Qwh (QjW g.args) (Qat (h.ka g hg))
  have hr:=QhH r.remove fun g hg=>Qwh (QjW g.args) (Qat (h.ra g hg))
  have hg:=QhH r.guard fun g hg=>QbM (h.ga g hg)
  have hb:=QhH r.body fun g hg=>QbM (h.ba g hg)
  have h4:=h.h4
  have g12:=h.g12
  have b12:=h.b12
  rw[Rl.allV]
  simp only[List.flatMap_append,QvO]
  omega
 have hd:(ded [] r.allV).length<=5600:=by
  have:=Xu [] r.allV
  simp only[Qvb]at this
  omega
 have hv:∀v∈r.allV,(0:Int)<=((plc (ded [] r.allV) v:Nat):Int)/\((plc (ded [] r.allV) v:Nat):Int)<=1048576:=fun v hv=>by
  have:=Qov (s:=ded [] r.allV) (Zl.2 (.inr hv))
  omega
 have sub:∀(l:List G),(∀g∈l,g∈r.keep++r.remove++r.guard++r.body)->∀g∈l,∀v∈QI g.args,v∈r.allV:=fun l hs g hg v hv=>Qw6.2 ⟨g,hs g hg,hv⟩
 have at_:∀l,(∀g∈l,g∈r.keep++r.remove++r.guard++r.body)->atomsOk l->atomsOk (l.map fun g:G=>(⟨g.op,g.name,maps (fun v=>((plc (ded [] r.allV) v:Nat):Int)) g.args⟩:G)):=fun l hs hl x hx=>by
  obtain⟨g,hg,rfl⟩:=Qwg.1 hx
  exact Qci (hl g hg) fun v hm=>hv v (sub l hs g hg v hm)
 have go_:∀l,(∀g∈l,g∈r.keep++r.remove++r.guard++r.body)->goalsOk l->goalsOk (l.map fun g:G=>(⟨g.op,g.name,maps (fun v=>((plc (ded [] r.allV) v:Nat):Int)) g.args⟩:G)):=fun l hs hl x hx=>by
  obtain⟨g,hg,rfl⟩:=Qwg.1 hx
  exact Qgo (hl g hg) fun v hm=>hv v (sub l hs g hg v hm)
 have hall:r.numd.allV=r.allV.map fun v=>((plc (ded [] r.allV) v:Nat):Int):=by
  show((r.keep.map _++r.remove.map _++r.guard.map _++r.body.map _).flatMap fun g:G=>QI g.args)=_
  rw[<-QwD,<-QwD,<-QwD,List.flatMap_map,Rl.allV,List.map_flatMap]
  simp only[QcB]
 refine⟨⟨at_ _ (fun g hg=>by simp[hg]) h.ka,at_ _ (fun g hg=>by simp[hg]) h.ra,go_ _ (fun g hg=>by simp[hg]) h.ga,go_ _ (fun g hg=>by simp[hg]) h.ba,?_,?_,?_,?_⟩,?_,Int.natCast_nonneg _⟩
 ·show 1<=(r.keep.map _).length+(r.remove.map _).length
  rw[Qwn,Qwn];exact h.h1
 ·show(r.keep.map _).length+(r.remove.map _).length<=4
  rw[Qwn,Qwn];exact h.h4
 ·show(r.guard.map _).length<=12
  rw[Qwn];exact h.g12
 ·show(r.body.map _).length<=12
  rw[Qwn];exact h.b12
 ·rw[hall]
  exact Qnu r.allV r.allV [] rfl
theorem QjG{s:PS}{r:Rl}{s2:PS}(h:X5 s = .ok r s2):RlOk r:=by
 rw[X5]at h
 obtain⟨q,s1,h1,h⟩:=bind_ok h
 cases h
 exact Qrp (Qg3 h1)
theorem Qhh:∀(m:Nat) (l:List Rl) (s:PS) (a:List Rl) (s2:PS),(∀r∈l,RlOk r)->l.length<=40->Zt m l s = .ok a s2->(∀r∈a,RlOk r)/\a.length<=40
 |0,l,s,a,s2,hl,h4,h=>by cases h;exact⟨hl,h4⟩
 |m+1,l,s,a,s2,hl,h4,h=>by
  rw[Zt]at h
  split at h
  ·cases h;exact⟨hl,h4⟩
  split at h
  ·cases h
  ·obtain⟨r,s1,h1,h⟩:=bind_ok h
   exact Qhh m _ s1 a s2 (fun x hx=>by
    rcases Qwz.1 hx with hx|hx
    ·exact hl x hx
    ·rw[QwB.1 hx];exact QjG h1) (by rw[QvO,QwG];omega) h
theorem Qds:∀(m:Nat) (l:List Dc) (s:PS) (a:List Dc) (s2:PS),YD m l s = .ok a s2->a.length<=30
 |0,l,s,a,s2,h=>by cases h
 |m+1,l,s,a,s2,h=>by
  rw[YD]at h
  split at h
  ·cases h
  ·obtain⟨x,s1,h1,h⟩:=bind_ok h
   obtain⟨u,s3,h3,h⟩:=bind_ok h
   split at h
   ·cases h
   split at h
   ·cases h
   split at h
   ·exact Qds m _ _ a s2 h
   ·obtain⟨v,s4,h4,h⟩:=bind_ok h
    cases h
    rw[QvO,QwG];omega
theorem QgH:∀(m:Nat) (l:List Dc) (s:PS) (a:List Dc) (s2:PS),l.length<=30->YO m l s = .ok a s2->a.length<=30
 |0,l,s,a,s2,hl,h=>by cases h;exact hl
 |m+1,l,s,a,s2,hl,h=>by
  rw[YO]at h
  split at h
  ·obtain⟨d,s1,h1,h⟩:=bind_ok h
   exact QgH m d s1 a s2 (Qds _ _ _ _ _ h1) h
  ·cases h;exact hl
theorem QnW{l:List UInt8}:(∀p,Qbe l = .inl p->p.rules.length<=40/\p.decls.length<=30/\∀r∈p.rules,RlOk r)/\∀x e,Qbe l = .inr (x,e)->0<=x/\x<=l.length:=by
 refine⟨fun p h=>?_,fun x e h=>Qop h⟩
 unfold Qbe at h
 cases hs:Xo l with
 |inr q=>rw[hs]at h;cases h
 |inl ts =>
  rw[hs]at h
  simp only at h
  cases hp:Qei ⟨ts,[]⟩with
  |err p c=>rw[hp]at h;cases h
  |ok q s2 =>
   rw[hp]at h
   cases h
   rw[Qei]at hp
   obtain⟨d,s1,h1,hp⟩:=bind_ok hp
   obtain⟨r,s3,h2,hp⟩:=bind_ok hp
   cases hp
   obtain⟨a1,a2⟩:=Qhh _ [] s1 r _ (fun _ h=>(Qv7 h).elim) (by decide) h2
   exact⟨a2,QgH _ [] _ d s1 (by decide) h1,a1⟩
theorem Qlc{g:G}(h:Qy g=true):ndsL g.args<=200:=(QbW h).2
theorem QkX{g:G}(h:QC g=true):ndsL g.args<=200:=(Qer h).2
theorem QgW:∀n,n<=1000000->∀t:T,t.nds<=n->Pure Tryz.prog 65 [t.av,t.av] (.b true)
 |0,_,t,hn=>by have:=T.Quh t;omega
 |n+1,hb,t,hn=>by
  intro h
  have hnd:=T.Quh t
  have hll:=XK t.args
  refine Qa Tryz.func65 rfl Tryz.call65 Tryz.ntmps65 Tryz.results65 (by simp) ?_
  iterate 2 (try (first|(((with_reducible refine Qf fun K E hK hE=>?_));simp only[go_sem,seval])|((with_reducible refine hK _ ?_);clear hK)))
  refine Qt (fun st=>st.tm 2 = .ptr h.length 0 0/\st.tm 3 = .ptr (h.length+1) 0 0/\st.h=h++[.cells 48 4 [t.av],.cells 48 4 [t.av]]) ?_ ?_
  ·rintro⟨tm,hp⟩ ⟨t2,t3,rfl⟩
   simp only at t2 t3
   repeat first|refine Qb ?_;simp only[go_sem,seval,t2]|refine hK _ ?_;clear hK
   obtain⟨I,hI⟩:∃I:Nat->AS->Prop,I=fun m' s=>∃j:Nat,m'=t.args.length - j/\j<=t.args.length/\s.tm 2 = .ptr h.length 0 0/\s.tm 3 = .ptr (h.length+1) 0 0/\s.tm 36 = .i t.args.length/\s.tm 37 = .i j/\s.h=h++[.cells 48 4 [t.av],.cells 48 4 [t.av]]:=⟨_,rfl⟩;refine Qk I ?_ (m:=t.args.length) ?_
   ·intro m' s hs;rw[hI]at hs;obtain⟨tm,hp⟩:=s;dsimp only at hs;obtain⟨j,rfl,hj,t2,t3,ta,tb,rfl⟩:=hs
    by_cases hlt:j<t.args.length
    ·have y1:((j:Nat):Int)<((t.args.length:Nat):Int):=by omega
     have wj:IntKind.i64.wrap (((j:Nat):Int)+1)=((j+1:Nat):Int):=Qz (by omega)
     have hg:=ZD hlt
     have cs:=QgW n (by omega) t.args[j] (by omega)
     repeat first|(first|refine Xq cs ?_|refine Qh (id:=6) [(0,0),(1,0),(2,0),(3,0),(4,0),(5,0),(6,0),(7,0),(8,0),(9,0),(10,1),(11,0)] mixed (by kernel_rfl) fun K hK=>?_|refine Qb ?_);simp only[go_sem,seval,t2,t3,ta,tb,y1,wj,ZQ hlt]|refine hK _ ?_;clear hK
     refine Qs.mk (m':=t.args.length - (j+1)) (by omega) ?_
     rw[hI]
     exact⟨j+1,rfl,hlt,t2,t3,ta,rfl,rfl⟩
    ·have y1:¬((j:Nat):Int)<((t.args.length:Nat):Int):=by omega
     repeat first|refine Qb ?_;simp only[go_sem,seval,ta,tb,y1]|refine hK _ ?_;clear hK|clear hK;refine hK _ ?_;clear hK
     (refine Qc (htake _ _) (.keep (.v _)) ⟨rfl,rfl⟩)
   ·rw[hI]
    exact⟨0,rfl,Qv2 _,t2,t3,rfl,rfl,rfl⟩
  ·repeat first|refine owN ?_|(first|refine owK fun K hK=>?_|refine nwcS fun K hK=>?_|refine nwcR fun K hK=>?_|refine Qb ?_);simp only[go_sem,seval]|refine hK _ ?_;clear hK
   exact⟨rfl,rfl,rfl⟩
theorem Qfu(l:List T)(hn:ndsL l<=1000000):Pure Tryz.prog 36 [.sl 4 (avs l) none,.sl 4 (avs l) none] (.b true):=by
 intro h
 have hll:=XK l
 refine Qa Tryz.func36 rfl Tryz.call36 Tryz.ntmps36 Tryz.results36 (by simp) ?_
 repeat refine Qb ?_;simp only[go_sem,seval]
 obtain⟨I,hI⟩:∃I:Nat->AS->Prop,I=fun m' s=>∃j:Nat,m'=l.length - j/\j<=l.length/\s.tm 0 = .sl 4 (avs l) none/\s.tm 1 = .sl 4 (avs l) none/\s.tm 12 = .i l.length/\s.tm 13 = .i j/\s.h=h:=⟨_,rfl⟩;refine Qk I ?_ (m:=l.length) ?_
 ·intro m' s hs;rw[hI]at hs;obtain⟨tm,hp⟩:=s;dsimp only at hs;obtain⟨j,rfl,hj,t0,t1,ta,tb,rfl⟩:=hs
  by_cases hlt:j<l.length
  ·have y1:((j:Nat):Int)<((l.length:Nat):Int):=by omega
   have wj:IntKind.i64.wrap (((j:Nat):Int)+1)=((j+1:Nat):Int):=Qz (by omega)
   have hg:=ZD hlt
   have cs:=QgW 1000000 (QvV _) l[j] (by omega)
   repeat first|(first|refine Xq cs ?_|refine Qh (id:=6) [(0,0),(1,0),(2,0),(3,0),(4,0),(5,0),(6,0),(7,0),(8,1),(9,0)] mixed (by kernel_rfl) fun K hK=>?_|refine Qb ?_);simp only[go_sem,seval,t0,t1,ta,tb,y1,wj,ZQ hlt]|refine hK _ ?_;clear hK
   refine Qs.mk (m':=l.length - (j+1)) (by omega) ?_
   rw[hI]
   exact⟨j+1,rfl,hlt,t0,t1,ta,rfl,rfl⟩
  ·have y1:¬((j:Nat):Int)<((l.length:Nat):Int):=by omega
   repeat refine Qb ?_;simp only[go_sem,seval,ta,tb,y1]
   (refine Qc QvT (.keep (.v _)) ⟨rfl,rfl⟩)
 ·rw[hI]
  exact⟨0,rfl,Qv2 _,rfl,rfl,rfl,rfl,rfl⟩
theorem Qfn(l:List G)(hl:l.length<=1000000)(hn:∀g∈l,ndsL g.args<=1000000):Pure Tryz.prog 38 [.sl 2 (vs G.atom l) none,.sl 2 (vs G.atom l) none] (.b true):=by
 intro h
 have ev:(vs G.atom l).length=l.length:=QL _ _
 refine Qa Tryz.func38 rfl Tryz.call38 Tryz.ntmps38 Tryz.results38 (by simp) ?_
 repeat refine Qb ?_;simp only[go_sem,seval,ev]
 obtain⟨I,hI⟩:∃I:Nat->AS->Prop,I=fun m' s=>∃j:Nat,m'=l.length - j/\j<=l.length/\s.tm 0 = .sl 2 (vs G.atom l) none/\s.tm 1 = .sl 2 (vs G.atom l) none/\s.tm 12 = .i l.length/\s.tm 13 = .i j/\s.h=h:=⟨_,rfl⟩;refine Qk I ?_ (m:=l.length) ?_
 ·intro m' s hs;rw[hI]at hs;obtain⟨tm,hp⟩:=s;dsimp only at hs;obtain⟨j,rfl,hj,t0,t1,ta,tb,rfl⟩:=hs
  by_cases hlt:j<l.length
  ·have y1:((j:Nat):Int)<((l.length:Nat):Int):=by omega
   have wj:IntKind.i64.wrap (((j:Nat):Int)+1)=((j+1:Nat):Int):=Qz (by omega)
   have cs:=Qfu l[j].args (hn _ (Qww hlt))
   have e1:=Y5 l[j]
   have e2:(G.atom l[j]).isAgg=true:=rfl
   repeat first|(first|refine Xq cs ?_|refine Qh (id:=6) [(0,0),(1,0),(2,0),(3,0),(4,0),(5,0),(6,0),(7,0),(8,0),(9,0),(10,0),(11,0),(12,0),(13,0),(14,0),(15,0),(16,0),(17,0),(18,0),(19,0),(20,0),(21,0),(22,1),(23,0),(24,0)] mixed (by kernel_rfl) fun K hK=>?_|refine Qb ?_);simp only[go_sem,seval,t0,t1,ta,tb,y1,wj,ev,Qed (f:=G.atom) hlt,e1]|refine hK _ ?_;clear hK
   refine Qs.mk (m':=l.length - (j+1)) (by omega) ?_
   rw[hI]
   exact⟨j+1,rfl,hlt,t0,t1,ta,rfl,rfl⟩
  ·have y1:¬((j:Nat):Int)<((l.length:Nat):Int):=by omega
   repeat refine Qb ?_;simp only[go_sem,seval,ta,tb,y1]
   (refine Qc QvT (.keep (.v _)) ⟨rfl,rfl⟩)
 ·rw[hI]
  exact⟨0,rfl,Qv2 _,rfl,rfl,rfl,rfl,rfl⟩
theorem Qfq(l:List G)(hl:l.length<=1000000)(hn:∀g∈l,ndsL g.args<=1000000):Pure Tryz.prog 12 [.sl 3 (vs G.goal l) none,.sl 3 (vs G.goal l) none] (.b true):=by
 intro h
 have ev:(vs G.goal l).length=l.length:=QL _ _
 refine Qa Tryz.func12 rfl Tryz.call12 Tryz.ntmps12 Tryz.results12 (by simp) ?_
 repeat refine Qb ?_;simp only[go_sem,seval,ev]
 obtain⟨I,hI⟩:∃I:Nat->AS->Prop,I=fun m' s=>∃j:Nat,m'=l.length - j/\j<=l.length/\s.tm 0 = .sl 3 (vs G.goal l) none/\s.tm 1 = .sl 3 (vs G.goal l) none/\s.tm 12 = .i l.length/\s.tm 13 = .i j/\s.h=h:=⟨_,rfl⟩;refine Qk I ?_ (m:=l.length) ?_
 ·intro m' s hs;rw[hI]at hs;obtain⟨tm,hp⟩:=s;dsimp only at hs;obtain⟨j,rfl,hj,t0,t1,ta,tb,rfl⟩:=hs
  by_cases hlt:j<l.length
  ·have y1:((j:Nat):Int)<((l.length:Nat):Int):=by omega
   have wj:IntKind.i64.wrap (((j:Nat):Int)+1)=((j+1:Nat):Int):=Qz (by omega)
   have cs:=Qfu l[j].args (hn _ (Qww hlt))
   have e1:=Q5 l[j]
   have e2:(G.goal l[j]).isAgg=true:=rfl
   repeat first|(first|refine Xq cs ?_|refine Qh (id:=6) [(0,0),(1,0),(2,0),(3,0),(4,0),(5,0),(6,0),(7,0),(8,0),(9,0),(10,0),(11,0),(12,0),(13,0),(14,0),(15,0),(16,0),(17,0),(18,0),(19,0),(20,0),(21,0),(22,0),(23,0),(24,0),(25,0),(26,0),(27,0),(28,0),(29,0),(30,0),(31,0),(32,0),(33,0),(34,0),(35,1),(36,0),(37,0)] mixed (by kernel_rfl) fun K hK=>?_|refine Qb ?_);simp only[go_sem,seval,t0,t1,ta,tb,y1,wj,ev,Qed (f:=G.goal) hlt,e1]|refine hK _ ?_;clear hK
   refine Qs.mk (m':=l.length - (j+1)) (by omega) ?_
   rw[hI]
   exact⟨j+1,rfl,hlt,t0,t1,ta,rfl,rfl⟩
  ·have y1:¬((j:Nat):Int)<((l.length:Nat):Int):=by omega
   repeat refine Qb ?_;simp only[go_sem,seval,ta,tb,y1]
   (refine Qc QvT (.keep (.v _)) ⟨rfl,rfl⟩)
 ·rw[hI]
  exact⟨0,rfl,Qv2 _,rfl,rfl,rfl,rfl,rfl⟩
theorem Qkj(l:List ByteArray)(hl:l.length<=1000000):Pure Tryz.prog 13 [.sl 1 (strs l) none,.sl 1 (strs l) none] (.b true):=by
 intro h
 refine Qa Tryz.func13 rfl Tryz.call13 Tryz.ntmps13 Tryz.results13 (by simp) ?_
 repeat refine Qb ?_;simp only[go_sem,seval,Xg]
 obtain⟨I,hI⟩:∃I:Nat->AS->Prop,I=fun m' s=>∃j:Nat,m'=l.length - j/\j<=l.length/\s.tm 0 = .sl 1 (strs l) none/\s.tm 1 = .sl 1 (strs l) none/\s.tm 12 = .i l.length/\s.tm 13 = .i j/\s.h=h:=⟨_,rfl⟩;refine Qk I ?_ (m:=l.length) ?_
 ·intro m' s hs;rw[hI]at hs;obtain⟨tm,hp⟩:=s;dsimp only at hs;obtain⟨j,rfl,hj,t0,t1,ta,tb,rfl⟩:=hs
  by_cases hlt:j<l.length
  ·have y1:((j:Nat):Int)<((l.length:Nat):Int):=by omega
   have wj:IntKind.i64.wrap (((j:Nat):Int)+1)=((j+1:Nat):Int):=Qz (by omega)
   have hat:(strs l)[j]? = some (.v (.string l[j])):=by rw[strs,Qwk,QvW hlt];rfl
   repeat first|(first|refine Qh (id:=6) [(0,0),(1,0),(2,0),(3,0),(4,0),(5,0),(6,0),(7,0),(8,0)] mixed (by kernel_rfl) fun K hK=>?_|refine Qb ?_);simp only[go_sem,seval,t0,t1,ta,tb,y1,wj,Xg,hat]|refine hK _ ?_;clear hK
   refine Qs.mk (m':=l.length - (j+1)) (by omega) ?_
   rw[hI]
   exact⟨j+1,rfl,hlt,t0,t1,ta,rfl,rfl⟩
  ·have y1:¬((j:Nat):Int)<((l.length:Nat):Int):=by omega
   repeat refine Qb ?_;simp only[go_sem,seval,ta,tb,y1]
   (refine Qc QvT (.keep (.v _)) ⟨rfl,rfl⟩)
 ·rw[hI]
  exact⟨0,rfl,Qv2 _,rfl,rfl,rfl,rfl,rfl⟩
structure RlB (r:Rl):Prop where
 ke:r.keep.length<=1000000/\∀g∈r.keep,ndsL g.args<=1000000
 re:r.remove.length<=1000000/\∀g∈r.remove,ndsL g.args<=1000000
 gu:r.guard.length<=1000000/\∀g∈r.guard,ndsL g.args<=1000000
 bo:r.body.length<=1000000/\∀g∈r.body,ndsL g.args<=1000000
theorem RlOk.bnd{r:Rl}(h:RlOk r):RlB r:=by
 have h4:=h.h4
 have h5:=h.g12
 have h6:=h.b12
 exact⟨⟨by omega,fun g hg=>by have:=QkX (h.ka g hg);omega⟩,⟨by omega,fun g hg=>by have:=QkX (h.ra g hg);omega⟩,⟨by omega,fun g hg=>by have:=Qlc (h.ga g hg);omega⟩,⟨by omega,fun g hg=>by have:=Qlc (h.ba g hg);omega⟩⟩
theorem Qdz(r:Rl)(hr:RlB r):Pure Tryz.prog 16 [r.av,r.av] (.b true):=by
 intro h
 have c1:=Qfn r.keep hr.ke.1 hr.ke.2
 have c2:=Qfn r.remove hr.re.1 hr.re.2
 have c3:=Qfq r.guard hr.gu.1 hr.gu.2
 have c4:=Qfq r.body hr.bo.1 hr.bo.2
 have rc:=Rl.cells r
 have ri:=Rl.isAgg r
 refine Qa Tryz.func16 rfl Tryz.call16 Tryz.ntmps16 Tryz.results16 (by simp) ?_
 repeat first|refine owN ?_|(first|refine Qd c1 ?_|refine Qd c2 ?_|refine Qd c3 ?_|refine Qd c4 ?_|refine owK fun K hK=>?_|refine nwcS fun K hK=>?_|refine nwcR fun K hK=>?_|refine Qb ?_);simp only[go_sem,seval,rc]|refine hK _ ?_;clear hK
 (refine Qc (htake _ _) (.keep (.v _)) ⟨rfl,rfl⟩)
def eqF(d:Nat)(xs ys:Array Value):List Field->Sem Bool
 |[]=>pure true
 |f::fs =>
  if f.name ≠ "_" then do
   let a<-part f.type xs f.offset
   let b<-part f.type ys f.offset
   let r<-Op.equalIn d f.type a b
   if (!r)=true then pure false else eqF d xs ys fs
  else eqF d xs ys fs
theorem QqQ{α:Type}{P:Program}(c:Prop)[Decidable c](a b:Sem α):pv P (if c then a else b)=if c then pv P a else pv P b:=by split <;> rfl
theorem Qoz{P:Program}(d:Nat)(t:TypeId)(xs ys:Array Value)(fs:Array Field)(ht:P.underlying t=some (.struct fs))(hp:P.stoodInHeld t=false) :
  pv P (Op.equalIn (d+1) t (.agg xs) (.agg ys))=pv P (eqF d xs ys fs.toList):=by
 have hprog:pv P program=some P:=rfl
 simp only[Op.equalIn,X3,Qc0 P ht,Qu2,hprog,hp,Qu1,QwP]
 rw[<-Array.forIn_toList]
 generalize fs.toList=fs
 clear ht
 induction fs with
 |nil=>rfl
 |cons f fs ih =>
  simp only[List.forIn_cons,eqF,X3,QqQ]
  split
  ·cases pv P (part f.type xs f.offset)with
   |none=>rfl
   |some a =>
    simp only[Qu2]
    cases pv P (part f.type ys f.offset)with
    |none=>rfl
    |some b =>
     simp only[Qu2]
     cases pv P (Op.equalIn d f.type a b)with
     |none=>rfl
     |some r =>
      cases r
      ·rfl
      ·simp only[Qu2,Qvk,Qu1,QwP]
       exact ih
  ·exact ih
theorem Qps(x:ByteArray)(a:Int)(xo yo:Operand):QeO Tryz.prog .neq 75 xo yo [.v (.string x),.v (.int .i64 a)] [.v (.string x),.v (.int .i64 a)]=some (.v (.bool false)):=by
 unfold QeO
 simp only[Qd2,QuZ]
 obtain⟨fs,hfs,hlist⟩:∃fs,Tryz.prog.underlying 75=some (.struct fs)/\pv Tryz.prog (eqF 9999 [Value.string x,Value.int .i64 a].toArray [Value.string x,Value.int .i64 a].toArray fs.toList)=some true:=by
  refine⟨_,Tryz.underlying75,?_⟩
  have h1:pv Tryz.prog (Op.equalIn 9999 9 (.string x) (.string x))=some (x==x):=by kernel_rfl
  have h2:pv Tryz.prog (Op.equalIn 9999 3 (.int .i64 a) (.int .i64 a))=some (a==a):=by kernel_rfl
  have p1:pv Tryz.prog (part 9 [Value.string x,Value.int .i64 a].toArray 0)=some (.string x):=by kernel_rfl
  have p2:pv Tryz.prog (part 3 [Value.string x,Value.int .i64 a].toArray 1)=some (.int .i64 a):=by kernel_rfl
  have hx:(x==x)=true:=by
   obtain⟨⟨l⟩⟩:=x
   show((⟨l⟩:Array UInt8)==⟨l⟩)=true
   simp
  rw[hx]at h1
  simp[eqF,X3,QqQ,h1,h2,p1,p2,QfM]
 have he:pv Tryz.prog (Op.equal 75 (.agg [Value.string x,Value.int .i64 a].toArray) (.agg [Value.string x,Value.int .i64 a].toArray))=some true:=(Qoz 9999 75 _ _ fs hfs (by kernel_rfl)).trans hlist
 have hg:pv Tryz.prog (eqGuard .neq 75 xo yo (.agg [Value.string x,Value.int .i64 a].toArray) (.agg [Value.string x,Value.int .i64 a].toArray))=some ():=by kernel_rfl
 have hb:pv Tryz.prog (binOp .neq 75 (.agg [Value.string x,Value.int .i64 a].toArray) (.agg [Value.string x,Value.int .i64 a].toArray))=(pv Tryz.prog (Op.equal 75 (.agg [Value.string x,Value.int .i64 a].toArray) (.agg [Value.string x,Value.int .i64 a].toArray))).bind fun b=>some (.bool (!b)):=by
  show pv Tryz.prog (Op.equal _ _ _ >>= fun b=>pure (Value.bool (!b)))=_
  rw[X3];rfl
 rw[X3,hg,Option.bind_some,hb,he]
 rfl
theorem QgV(p:Pg)(hd:p.decls.length<=1000000)(hl:p.rules.length<=1000000)(hr:∀r∈p.rules,RlB r):Pure Tryz.prog 9 [p.av,p.av] (.b true):=by
 intro h
 have pc:=Pg.cells p
 have pi:=Pg.isAgg p
 have ld:(vs Dc.av p.decls).length=p.decls.length:=QL _ _
 have lr:(vs Rl.av p.rules).length=p.rules.length:=QL _ _
 refine Qa Tryz.func9 rfl Tryz.call9 Tryz.ntmps9 Tryz.results9 (by simp) ?_
 iterate 2 (try (first|(((with_reducible refine Qf fun K E hK hE=>?_));simp only[go_sem,seval,pc])|((with_reducible refine hK _ ?_);clear hK)))
 refine Qt (fun st=>st.tm 2 = .ptr h.length 0 0/\st.tm 3 = .ptr (h.length+1) 0 0/\st.h=h++[.cells 26 2 [p.av],.cells 26 2 [p.av]]) ?_ ?_
 ·rintro⟨tm,hp⟩ ⟨t2,t3,rfl⟩
  simp only at t2 t3
  refine Qt (fun st=>st.tm 2 = .ptr h.length 0 0/\st.tm 3 = .ptr (h.length+1) 0 0/\st.h=h++[.cells 26 2 [p.av],.cells 26 2 [p.av]]) ?_ ?_
  ·rintro⟨tm,hp⟩ ⟨t2,t3,rfl⟩
   simp only at t2 t3
   repeat first|refine Qb ?_;simp only[go_sem,seval,t2,pc,lr]|refine hK _ ?_;clear hK
   obtain⟨I,hI⟩:∃I:Nat->AS->Prop,I=fun m' s=>∃j:Nat,m'=p.rules.length - j/\j<=p.rules.length/\s.tm 2 = .ptr h.length 0 0/\s.tm 3 = .ptr (h.length+1) 0 0/\s.tm 43 = .i p.rules.length/\s.tm 44 = .i j/\s.h=h++[.cells 26 2 [p.av],.cells 26 2 [p.av]]:=⟨_,rfl⟩;refine Qk I ?_ (m:=p.rules.length) ?_
   ·intro m' s hs;rw[hI]at hs;obtain⟨tm,hp⟩:=s;dsimp only at hs;obtain⟨j,rfl,hj,t2,t3,ta,tb,rfl⟩:=hs
    by_cases hlt:j<p.rules.length
    ·have y1:((j:Nat):Int)<((p.rules.length:Nat):Int):=by omega
     have wj:IntKind.i64.wrap (((j:Nat):Int)+1)=((j+1:Nat):Int):=Qz (by omega)
     have cs:=Qdz p.rules[j] (hr _ (Qww hlt))
     have e1:=Rl.cells p.rules[j]
     have e2:=Rl.isAgg p.rules[j]
     repeat first|(first|refine Xq cs ?_|refine Qh (id:=12) [(0,0),(1,0),(2,0),(3,0),(4,0),(5,0),(6,0),(7,0),(8,0),(9,0),(10,1),(11,0)] mixed (by kernel_rfl) fun K hK=>?_|refine Qb ?_);simp only[go_sem,seval,t2,t3,ta,tb,y1,wj,pc,lr,Qed (f:=Rl.av) hlt,e1,e2]|refine hK _ ?_;clear hK
     refine Qs.mk (m':=p.rules.length - (j+1)) (by omega) ?_
     rw[hI]
     exact⟨j+1,rfl,hlt,t2,t3,ta,rfl,rfl⟩
    ·have y1:¬((j:Nat):Int)<((p.rules.length:Nat):Int):=by omega
     repeat first|refine Qb ?_;simp only[go_sem,seval,ta,tb,y1]|refine hK _ ?_;clear hK|clear hK;refine hK _ ?_;clear hK
     (refine Qc (htake _ _) (.keep (.v _)) ⟨rfl,rfl⟩)
   ·rw[hI]
    exact⟨0,rfl,Qv2 _,t2,t3,rfl,rfl,rfl⟩
  ·repeat first|refine Qb ?_;simp only[go_sem,seval,t2,pc,ld]|refine hK _ ?_;clear hK
   obtain⟨I,hI⟩:∃I:Nat->AS->Prop,I=fun m' s=>∃j:Nat,m'=p.decls.length - j/\j<=p.decls.length/\s.tm 2 = .ptr h.length 0 0/\s.tm 3 = .ptr (h.length+1) 0 0/\s.tm 25 = .i p.decls.length/\s.tm 26 = .i j/\s.h=h++[.cells 26 2 [p.av],.cells 26 2 [p.av]]:=⟨_,rfl⟩;refine Qk I ?_ (m:=p.decls.length) ?_
   ·intro m' s hs;rw[hI]at hs;obtain⟨tm,hp⟩:=s;dsimp only at hs;obtain⟨j,rfl,hj,t2,t3,ta,tb,rfl⟩:=hs
    by_cases hlt:j<p.decls.length
    ·have y1:((j:Nat):Int)<((p.decls.length:Nat):Int):=by omega
     have wj:IntKind.i64.wrap (((j:Nat):Int)+1)=((j+1:Nat):Int):=Qz (by omega)
     have e1:=Dc.cells p.decls[j]
     have e2:=Dc.isAgg p.decls[j]
     have e3:=Qps p.decls[j].name p.decls[j].arity
     have e4:p.decls[j].av = .agg [.v (.string p.decls[j].name),.v (.int .i64 p.decls[j].arity)]:=rfl
     repeat first|(first|refine Qh (id:=6) [(0,0),(1,0),(2,0),(3,0),(4,0),(5,0),(6,0),(7,0),(8,0),(9,0),(10,0)] mixed (by kernel_rfl) fun K hK=>?_|refine Qb ?_);simp only[go_sem,seval,t2,t3,ta,tb,y1,wj,pc,ld,Qed (f:=Dc.av) hlt,e3,e4]|refine hK _ ?_;clear hK
     refine Qs.mk (m':=p.decls.length - (j+1)) (by omega) ?_
     rw[hI]
     exact⟨j+1,rfl,hlt,t2,t3,ta,rfl,rfl⟩
    ·have y1:¬((j:Nat):Int)<((p.decls.length:Nat):Int):=by omega
     repeat first|refine Qb ?_;simp only[go_sem,seval,ta,tb,y1]|refine hK _ ?_;clear hK
     exact⟨t2,t3,rfl⟩
   ·rw[hI]
    exact⟨0,rfl,Qv2 _,t2,t3,rfl,rfl,rfl⟩
 ·repeat first|refine Qb ?_;simp only[go_sem,seval,pc,ld,lr]|refine hK _ ?_;clear hK
  exact⟨rfl,rfl,rfl⟩
end Go.Proofs.YticgcpebdldbgaaGreatDoor.Ab
set_option maxRecDepth 8000
namespace Go.Proofs.YticgcpebdldbgaaGreatDoor.Ab
open Go.Proofs
def exS1:List UInt8:=[99,111,110,115,116,114,97,105,110,116,32,112,47,49,46,32,114,32,64,32,112,40,88,41,32,92,32,112,40,89,41,32,60,61,62,32,88,32,62,32,89,32,124,32,116,114,117,101,46]
def exS2:List UInt8:=[112,40,88,41,32,60,61,62,32,88,46]
def exS3:List UInt8:=[112,40,88,44,32,95,44,32,89,41,44,32,88,32,61,32,49,32,45,32,45,50]
def exG0:G:=⟨7,eB,[T.mk 1 1 eB [],T.mk 1 0 eB []]⟩
def exR:Rl:=⟨{data:=#[114]},[⟨0,{data:=#[112]},[T.mk 1 0 eB []]⟩],[⟨0,{data:=#[112]},[T.mk 1 1 eB []]⟩],[exG0],[],2⟩
def exP:Pg:=⟨[⟨{data:=#[112]},1⟩],[exR]⟩
def exT:T:=.mk 2 0 {data:=#[45]} [.mk 0 1 eB [],.mk 0 (-2) eB []]
def exG1:G:=⟨3,eB,[T.mk 1 0 eB [],exT]⟩
def exL:List G:=[⟨0,{data:=#[112]},[T.mk 1 0 eB [],T.mk 1 1 eB [],T.mk 1 2 eB []]⟩,exG1]
def exN:List ByteArray:=[{data:=#[88]},{data:=#[95]},{data:=#[89]}]
theorem exW1:Qbe exS1 = .inl exP:=by kernel_rfl
theorem exW2:Qbe exS2 = .inr (10,16):=by kernel_rfl
theorem exW3:Qjs exS3 = .inl (exL,exN):=by kernel_rfl
def strX:List AV:=[.v (.string {data:=#[88]}),.v (.string {data:=#[95]}),.v (.string {data:=#[89]})]
theorem QbT(h:AH)(hG:YZ h):Ql Tryz.prog 6 [] h fun o h'=>o = .ret (.b true)/\h'=h:=by
 have c1:=fun L=>Qb1 exS1 (h++L) (hG.app L)
 have c2:=fun L=>Qb1 exS2 (h++L) (hG.app L)
 have c3:=fun L=>Qkw exS3 (h++L) (hG.app L)
 have c1':=Qb1 exS1 h hG
 rw[exW1,psR]at c1'
 simp only[exW2,psR]at c2
 simp only[exW3,sqR]at c3
 rw[show mkB exS1={data:=#[99,111,110,115,116,114,97,105,110,116,32,112,47,49,46,32,114,32,64,32,112,40,88,41,32,92,32,112,40,89,41,32,60,61,62,32,88,32,62,32,89,32,124,32,116,114,117,101,46]} from rfl]at c1'
 simp only[show mkB exS2={data:=#[112,40,88,41,32,60,61,62,32,88,46]} from rfl]at c2
 simp only[show mkB exS3={data:=#[112,40,88,44,32,95,44,32,89,41,44,32,88,32,61,32,49,32,45,32,45,50]} from rfl,show strs exN=strX from rfl]at c3
 have cT:Pure Tryz.prog 13 [.sl 1 strX none,.sl 1 strX none] (.b true):=Qkj exN (by decide)
 have pc:=Pg.cells exP
 have pi:=Pg.isAgg exP
 have zc:=Pg.cells ⟨[],[]⟩
 have zi:=Pg.isAgg ⟨[],[]⟩
 have rc:=Rl.cells exR
 have ri:=Rl.isAgg exR
 refine Qa Tryz.func6 rfl Tryz.call6 Tryz.ntmps6 Tryz.results6 (by simp) ?_
 iterate 2 (try (first|(((with_reducible refine Qf fun K E hK hE=>?_));simp only[go_sem,seval])|((with_reducible refine hK _ ?_);clear hK)))
 refine Qt (fun st=>st.tm 1 = .ptr h.length 0 0/\st.tm 2 = .i 0/\st.tm 3 = .i 0/\st.h=h++[.cells 26 2 [exP.av]]) ?_ ?_
 ·rintro⟨tm,hp⟩ ⟨t1,t2,t3,rfl⟩
  simp only at t1 t2 t3
  refine Qt (fun st=>st.tm 1 = .ptr h.length 0 0/\st.tm 2 = .i 0/\st.tm 3 = .i 0/\st.tm 5 = .i 10/\st.tm 6 = .i 16/\st.h=h++[.cells 26 2 [exP.av],.cells 26 2 [(⟨[],[]⟩:Pg).av]]) ?_ ?_
  ·rintro⟨tm,hp⟩ ⟨t1,t2,t3,t5,t6,rfl⟩
   simp only at t1 t2 t3 t5 t6
   refine Qt (fun st=>st.tm 1 = .ptr h.length 0 0/\st.tm 2 = .i 0/\st.tm 3 = .i 0/\st.tm 5 = .i 10/\st.tm 6 = .i 16/\st.tm 7 = .sl 3 (vs G.goal exL) none/\st.tm 8 = .sl 1 strX none/\st.tm 10 = .i 0/\st.h=h++[.cells 26 2 [exP.av],.cells 26 2 [(⟨[],[]⟩:Pg).av]]) ?_ ?_
   ·rintro⟨tm,hp⟩ ⟨t1,t2,t3,t5,t6,t7,t8,t10,rfl⟩
    simp only at t1 t2 t3 t5 t6 t7 t8 t10
    refine Qt (fun st=>st.tm 1 = .ptr h.length 0 0/\st.tm 7 = .sl 3 (vs G.goal exL) none/\st.h=h++[.cells 26 2 [exP.av],.cells 26 2 [(⟨[],[]⟩:Pg).av]]) ?_ ?_
    ·rintro⟨tm,hp⟩ ⟨t1,t7,rfl⟩
     simp only at t1 t7
     refine Qt (fun st=>st.tm 11 = .ptr (h.length+2) 0 0/\st.tm 7 = .sl 3 (vs G.goal exL) none/\st.h=h++[.cells 26 2 [exP.av],.cells 26 2 [(⟨[],[]⟩:Pg).av],.cells 40 6 [exR.av]]) ?_ ?_
     ·rintro⟨tm,hp⟩ ⟨t11,t7,rfl⟩
      simp only at t11 t7
      have q1:(exR.name.toList==({data:=#[114]}:ByteArray).toList)=true:=beq_self_eq_true _
      have k1:(vs G.atom exR.keep).length=1:=rfl
      have k2:(vs G.atom exR.remove).length=1:=rfl
      have k3:(vs G.goal exR.guard).length=1:=rfl
      have k4:(vs G.goal exR.body).length=0:=rfl
      have g0:(vs G.goal exR.guard)[0]? = some exG0.goal:=rfl
      have e1:=Q5 exG0
      have e2:exG0.goal.isAgg=true:=rfl
      have a0:(avs exG0.args)[0]? = some (T.mk 1 1 eB []).av:=rfl
      have x1:(exG0.op==7)=true:=rfl
      have g1:(vs G.goal exL)[1]? = some exG1.goal:=rfl
      have e3:=Q5 exG1
      have e4:exG1.goal.isAgg=true:=rfl
      have a1:(avs exG1.args)[1]? = some exT.av:=rfl
      have a2:(avs exT.args)[1]? = some (T.mk 0 (-2) eB []).av:=rfl
      have a3:(avs exT.args).length=2:=rfl
      have a4:(avs exG1.args).length=2:=rfl
      have a5:(avs exG0.args).length=2:=rfl
      have a6:(vs G.goal exL).length=2:=rfl
      have x2:((T.mk 1 1 eB []).int==1)=true:=rfl
      have x3:((T.mk 0 (-2) eB []).int == -2)=true:=rfl
      have x4:(exR.vars==2)=true:=rfl
      have u0:(0:Int)<((1:Nat):Int):=by decide
      have u1:(1:Int)<((2:Nat):Int):=by decide
      have u2:(0:Int)<((2:Nat):Int):=by decide
      have u3:(((1:Nat):Int)==1)=true:=rfl
      have u4:(((0:Nat):Int)==0)=true:=rfl
      have u5:(0:Int)<=1:=by decide
      simp only[List.append_eq,Qvp,Qvo]
      repeat first|refine owN ?_|(first|refine owK fun K hK=>?_|refine nwcS fun K hK=>?_|refine nwcR fun K hK=>?_|refine Qb ?_);simp only[go_sem,seval,t11,rc,q1,k1,u3,k2,k3,g0,e1,x1,u0,a0,a5,x2,u2,k4,t7,g1,e3,a6,x4,u1,u5,a1,a2,a3,a4,x3]|refine hK _ ?_;clear hK
      (refine Qc (htake _ _) (.keep (.v _)) ⟨rfl,rfl⟩)
     ·have hl:(vs Rl.av exP.rules).length=1:=rfl
      have hg:(vs Rl.av exP.rules)[0]? = some exR.av:=rfl
      have u0:(0:Int)<((1:Nat):Int):=by decide
      repeat first|refine Qb ?_;simp only[go_sem,seval,t1,pc,hl,hg,rc,ri,u0]|refine hK _ ?_;clear hK
      exact⟨rfl,t7,rfl⟩
    ·have k1:(vs Dc.av exP.decls).length=1:=rfl
     have k2:(vs Rl.av exP.rules).length=1:=rfl
     have k3:(vs G.goal exL).length=2:=rfl
     have u3:(((1:Nat):Int) != 1)=false:=rfl
     have u4:(((2:Nat):Int) != 2)=false:=rfl
     have eX:[AV.v (.string {data:=#[88]}),.v (.string {data:=#[95]}),.v (.string {data:=#[89]})]=strX:=rfl
     (try simp only[Qvy])
     repeat first|refine owN ?_|(first|refine Qd cT ?_|refine owK fun K hK=>?_|refine nwcS fun K hK=>?_|refine nwcR fun K hK=>?_|refine Qb ?_);simp only[go_sem,seval,t1,t2,t3,pc,k1,k2,u3,t5,t6,t7,t10,t8,k3,u4,eX]|refine hK _ ?_;clear hK
     exact⟨t1,t7,rfl⟩
   ·repeat first|(first|refine FunW.Qt4 (c3 _) ?_|refine Qb ?_);simp only[go_sem,seval]|refine hK _ ?_;clear hK
    exact⟨t1,t2,t3,t5,t6,rfl,rfl,rfl,rfl⟩
  ·repeat first|(first|refine FunW.Qt4 (c2 _) ?_|refine Qb ?_);simp only[go_sem,seval,zc,zi]|refine hK _ ?_;clear hK
   exact⟨t1,t2,t3,rfl,rfl,rfl⟩
 ·repeat first|(first|refine FunW.Qt4 c1' ?_|refine Qb ?_);simp only[go_sem,seval,pc,pi]|refine hK _ ?_;clear hK
  exact⟨rfl,rfl,rfl,rfl⟩
end Go.Proofs.YticgcpebdldbgaaGreatDoor.Ab
namespace Go.Proofs.YticgcpebdldbgaaGreatDoor.Ab
open Go.Proofs
theorem Qoq{l:List UInt8}{r:Rl}(h:QfK l = .inl r):RlOk r:=by
 unfold QfK at h
 cases hs:Xo l with
 |inr q=>rw[hs]at h;cases h
 |inl ts =>
  rw[hs]at h
  simp only at h
  cases hp:Qak ⟨ts,[]⟩with
  |err p c=>rw[hp]at h;cases h
  |ok q s2 =>
   rw[hp]at h
   cases h
   obtain⟨r2,s3,e1,e2⟩:=bind_ok (show(X5 ⟨ts,[]⟩).bind (fun r s=>(pEnd s).bind fun _ s=>.ok r s) = .ok r s2 from hp)
   obtain⟨u,s4,e3,e4⟩:=bind_ok e2
   cases e4
   exact QjG e1
theorem QtH:RlB (⟨eB,[],[],[],[],0⟩:Rl):=by
 refine⟨?_,?_,?_,?_⟩ <;> first|exact Qv2 _|(intro g hg;cases hg)|exact⟨Qv2 _,fun g hg=>by cases hg⟩
section
variable(l:List UInt8)(hmx:l.length<=9223372036854775807)(h:AH)(hG:YZ h)
include hmx hG
theorem Qth:Ql Tryz.prog 5 [.v (.string (mkB l))] h fun o h'=>o = .ret (.b true)/\h'=h:=by
 have hsl:=fun b=>XG Tryz.prog 9 3 (by kernel_rfl) b
 have ca:=fun L=>QbT (h++L) (hG.app L)
 have ca0:=QbT h hG
 by_cases hb:4000<l.length
 ·have z1:((l.length:Nat):Int)>4000:=by omega
  have z2:(4000:Int)<((l.length:Nat):Int):=by omega
  refine Qa Tryz.func5 rfl Tryz.call5 Tryz.ntmps5 Tryz.results5 (by simp) ?_
  repeat (first|refine FunW.Qt4 ca0 ?_|refine Qb ?_);simp only[go_sem,seval,hsl,Qj,z1]
  exact .inr ⟨rfl,rfl⟩
 ·have z1:¬((l.length:Nat):Int)>4000:=by omega
  have z2:¬(4000:Int)<((l.length:Nat):Int):=by omega
  have cp:=Qgi l h hG
  have cq:=fun L=>Qej l (by omega) (h++L)
  cases hp:QfK l with
  |inr q =>
   obtain⟨x,e⟩:=q
   simp only[hp,rsR]at cp cq
   have rc:=Rl.cells (⟨eB,[],[],[],[],0⟩:Rl)
   have ri:=Rl.isAgg (⟨eB,[],[],[],[],0⟩:Rl)
   have cz:=Qdz (⟨eB,[],[],[],[],0⟩:Rl) QtH
   have u1:(x==x)=true:=by simp
   have u2:(e==e)=true:=by simp
   refine Qa Tryz.func5 rfl Tryz.call5 Tryz.ntmps5 Tryz.results5 (by simp) ?_
   repeat (first|refine Qd cz ?_|refine FunW.Qt4 cp ?_|refine FunW.Qt4 (cq _) ?_|refine FunW.Qt4 (ca _) ?_|refine Qb ?_);simp only[go_sem,seval,hsl,Qj,z1,rc,ri]
   exact Qc (htake _ _) (.keep (.v _)) ⟨rfl,rfl⟩
  |inl r =>
   simp only[hp,rsR]at cp cq
   have rc:=Rl.cells r
   have ri:=Rl.isAgg r
   have cz:=Qdz r (Qoq hp).bnd
   have u1:((0:Int)==0)=true:=rfl
   refine Qa Tryz.func5 rfl Tryz.call5 Tryz.ntmps5 Tryz.results5 (by simp) ?_
   repeat (first|refine Qd cz ?_|refine FunW.Qt4 cp ?_|refine FunW.Qt4 (cq _) ?_|refine FunW.Qt4 (ca _) ?_|refine Qb ?_);simp only[go_sem,seval,hsl,Qj,z1,rc,ri]
   exact Qc (htake _ _) (.keep (.v _)) ⟨rfl,rfl⟩
end
end Go.Proofs.YticgcpebdldbgaaGreatDoor.Ab
namespace Go.Proofs.YticgcpebdldbgaaGreatDoor.Ab
open Go.Proofs
section
variable(l:List UInt8)(hmx:l.length<=9223372036854775807)(h:AH)(hG:YZ h)
include hmx hG
end
end Go.Proofs.YticgcpebdldbgaaGreatDoor.Ab
namespace Go.Proofs.YticgcpebdldbgaaGreatDoor.Ab
theorem QhB{H:Type}{enc:TypeId×Value->H}{P:Program}{w:World}{base:Nat}{sp:Nat->Bool}{held:Bool}{fuel:Nat}{t e:TypeId}{n:Nat}{cs:List Value}{zs:List (List UInt8)}{p:List MemPlace}
  (ht:P.underlying t=some (.array n e)) (he:P.underlying e=some .string) (hce:P.cellsOf e=1) (hct:P.cellsOf t=n)
  (h:DataW.trod enc P w base sp held fuel t cs=some (.agg (zs.map fun z=>.lit (.string z)),p)):cs=zs.map fun z=>Value.string ⟨z.toArray⟩:=by
 cases fuel with
 |zero=>simp[DataW.trod]at h
 |succ fuel =>
  simp only[DataW.trod,ht,hce,hct,QxQ]at h
  split at h
  ·rename_i hl
   obtain⟨xs,hm,hx⟩:=Qv4.1 h
   have hxs:xs.map (·.1)=zs.map fun z=>(DataW.lit (.string z):DataW H):=by
    have:=QwN Prod.fst hx
    simpa using this
   have hxl:xs.length=n:=by simpa using Lib.mapM_length hm
   have hzl:zs.length=n:=by
    have:=QwN List.length hxs
    simp at this
    omega
   apply QwH
   intro i
   by_cases hi:i<n
   ·obtain⟨b,hb,hf⟩:=Lib.mapM_at hm i i (by simp[hi])
    obtain⟨s,hc,rfl,_⟩:=DataW.trod_string he hf
    have h1:cs[i]? = some (.string s):=by
     have:=QwN (·[0]?) hc
     simpa [Qxs,Qwr]using this
    have h2:(xs.map (·.1))[i]? = some (DataW.lit (.string s.data.toList):DataW H):=by simp[hb]
    rw[hxs]at h2
    simp only[Qwk,Qv4,DataW.lit.injEq,Lit.string.injEq]at h2
    obtain⟨z',hz',hz2⟩:=h2
    have:s=⟨z'.toArray⟩:=by rw[hz2]
    simp[h1,hz',this]
   ·rw[Qwu (by omega),Qwu (by simp;omega)]
  ·cases h
theorem Qjb{P:Program}{W:World}{nm:String}{zs:List (List UInt8)}{g:Nat}{t e:TypeId}{n:Nat}
  (hg:P.globalNamed nm=some g) (hty:(P.globals[g]?).map (·.type)=some t) (ht:P.underlying t=some (.array n e)) (he:P.underlying e=some .string) (hce:P.cellsOf e=1) (hct:P.cellsOf t=n)
  (h:laidMet P [(nm,.agg (zs.map fun z=>.lit (.string z)))] W):∃ty fr,W.heap[g]? = some (.cells (zs.map fun z=>Value.string ⟨z.toArray⟩).toArray ty fr):=by
 obtain⟨ps,⟨g',t',cs,fuel,p,q,hg',ht',hvar,hd,_,_⟩,_⟩:=h
 obtain rfl:=Qxv (hg.symm.trans hg')
 obtain rfl:=Qxv (hty.symm.trans ht')
 have:=QhB ht he hce hct hd
 refine Qpa hg (cs:=(zs.map fun z=>Value.string ⟨z.toArray⟩).toArray) ?_
 rw[hvar,<-this]
open Go.Proofs
theorem open_string{H:Type}{enc:TypeId×Value->H}{P:Program}{W:World}{r:Reach}{b0:Nat}{t:TypeId}{v:Value}{d:DataW H}{ps:List MemPlace}(ht:P.underlying t=some .string)(hv:Value.okWide P W r b0 t v)(hd:DataW.Trod enc P W 0 (fun _=>true) true t v d ps):∃s:ByteArray,v = .string s/\s.size<=maxLen:=by
 obtain⟨fuel,hf⟩:=hd
 have hc:v.cells.toList=[v]:=by
  cases v with
  |agg cs=>simp[Value.okWide,ht,Cell.okWide,Cell.ok]at hv
  |_=>rfl
 rw[hc]at hf
 obtain⟨s,h1,_,h2⟩:=DataW.trod_string ht hf
 cases h1
 exact⟨s,rfl,h2⟩
theorem Qqj{s:ByteArray}(hs:s.size<=maxLen):s.data.toList.length<=9223372036854775807:=by
 have:s.size=s.data.toList.length:=by show s.data.size=_;simp
 simp only[maxLen]at hs
 omega
theorem Qsr(s:ByteArray)(hs:s.size<=maxLen)(h:AH)(hG:YZ h):Ql Tryz.prog 5 [.v (.string s)] h fun o h'=>o = .ret (.b true)/\h'=h:=by
 have:=Qth s.data.toList (Qqj hs) h hG
 rwa [QeE]at this
end Go.Proofs.YticgcpebdldbgaaGreatDoor.Ab
namespace Go.Proofs.YticgcpebdldbgaaGreatDoor.Ab
open Go.Proofs
theorem Qkg(h:AH)(a x y:AB)(L:AH):hs (h++(a::x::L)) (h.length+1) y=h++(a::y::L):=by
 unfold hs
 rw[Qwt _ _ (by omega),Qwf];rfl
section
variable{all:List Tk}(hN:all.length<=1000000)(hD:TkOk all)(hX:TxOk all)
include hN hD hX
theorem QoT{s:PS}(hW:Wst all s)(h:AH)(a:AB)(L:AH):Ql Tryz.prog 27 [.ptr (h.length+1) 0 0] (h++(a::rdB all none s 0 0::L)) fun o h'=>match X5 s with
  | .ok r s2=>o = .ret (.tup [r.av,.b true])/\h'=h++(a::rdB all none s2 0 0::L)
  | .err p e=>o = .ret (.tup [(⟨eB,[],[],[],[],0⟩:Rl).av,.b false])/\∃s2,h'=h++(a::rdB all none s2 p e::L):=by
 have hi:h.length+1<(h++(a::rdB all none s 0 0::L)).length:=by simp
 have:=QlK hi (Qhg hN hD hX hW hi none)
 rw[Qkg]at this
 refine this.mono fun o h' q=>?_
 cases hp:X5 s with
 |ok r s2=>rw[hp]at q;exact⟨q.1,by rw[q.2,Qkg]⟩
 |err p e=>rw[hp]at q;obtain⟨q1,s2,q2⟩:=q;exact⟨q1,s2,by rw[q2,Qkg]⟩
def DcR(h:AH)(all:List Tk)(a c e:AB):PR (List Dc)->AOut->AH->Prop
 | .ok D s,o,h'=>o = .ret (.tup [.sl 2 (vs Dc.av D) (some (h.length+3)),.b true])/\∃Y,h'=h++(a::rdB all none s 0 0::c :: .grow 75 2 D.length::e::Y)
 | .err p x,o,h'=>∃w:AV×PS×Nat×AH,o = .ret (.tup [w.1,.b false])/\h'=h++(a::rdB all none w.2.1 p x::c :: .grow 75 2 w.2.2.1::e::w.2.2.2)
theorem Qnx{q:PS}(hW:Wst all q)(hk:q.tk.kind≠0)(h:AH)(a c e:AB)(L:AH)(D:List Dc)(hd:D.length<=30):Ql Tryz.prog 25 [.ptr (h.length+1) 0 0,.sl 2 (vs Dc.av D) (some (h.length+3))] (h++(a::rdB all none q 0 0::c :: .grow 75 2 D.length::e::L)) (DcR h all a c e (YD (q.toks.length+1) D q.nx)):=by
 generalize hR:YD (q.toks.length+1) D q.nx=R
 have e47:(ByteArray.toList {data:=#[47]})=Qbf:=by rw[Lib.toList_data];rfl
 have e46:(ByteArray.toList {data:=#[46]})=sDot:=by rw[Lib.toList_data];rfl
 have e44:(ByteArray.toList {data:=#[44]})=Xx:=by rw[Lib.toList_data];rfl
 refine Qa Tryz.func25 rfl Tryz.call25 Tryz.ntmps25 Tryz.results25 (by simp) ?_
 repeat first|refine Qb ?_;simp only[go_sem,seval]|intro (b:Bool);cases b
 obtain⟨I,hI⟩:∃I:Nat->AS->Prop,I=fun m' s=>∃(b:Bool) (l:List Dc) (s2:PS) (Y:AH),m'=s2.toks.length/\Wst all s2/\l.length<=30/\(b=true->s2.tk.kind≠0/\∃k,s2.toks.length<=k/\YD k l s2.nx=R)/\(b=false->(Xc sDot s2).bind (fun _ s3=>.ok l s3)=R)/\s.tm 0 = .ptr (h.length+1) 0 0/\s.tm 1 = .sl 2 (vs Dc.av l) (some (h.length+3))/\s.tm 6 = .b b/\s.h=h++(a::rdB all none s2 0 0::c :: .grow 75 2 l.length::e::Y):=⟨_,rfl⟩;refine Qk I ?_ (m:=q.toks.length) ?_
 ·intro m' s hs;rw[hI]at hs;obtain⟨tm,hp⟩:=s;dsimp only at hs;obtain⟨b,l,s2,Y,rfl,hW2,hl30,hA,hB,t0,t1,t6,rfl⟩:=hs
  have hvl:(vs Dc.av l).length=l.length:=QL _ _
  cases b with
  |false =>
   have hRb:=hB rfl
   have cw:=(Qib (tok:=none) hW2 hN (h.length+1) {data:=#[46]}).lit (h:=h) a
   rw[e46]at cw
   have his:=QbS sDot s2
   cases hw:Xc sDot s2 with
   |err p x =>
    rw[hw]at his hRb
    have hRR:R = .err p x:=hRb.symm
    subst hRR
    obtain⟨i1,i2,i3⟩:=his
    have z:((YI sDot s2).e==0)=false:=by rw[i2];simpa using i3
    rw[z,i1,i2]at cw
    repeat first|(first|refine FunW.Qt4 (cw _) ?_|refine Qb ?_);simp only[go_sem,seval,t0,t1,t6]|intro (b:Bool);cases b
    exact .inr ⟨⟨_,_,_,_⟩,rfl,rfl⟩
   |ok u s3 =>
    rw[hw]at his hRb
    have hRR:R = .ok l s3:=hRb.symm
    subst hRR
    rw[RR.okE his]at cw
    repeat first|(first|refine FunW.Qt4 (cw _) ?_|refine Qb ?_);simp only[go_sem,seval,t0,t1,t6]|intro (b:Bool);cases b
    exact .inr ⟨rfl,Y,rfl⟩
  |true =>
   obtain⟨hk2,k,hkk,hRk⟩:=hA rfl
   have hln2:=QR hW2.wf hk2
   have hpos:=QwE.2 (Qik (Yw hW2.wf))
   obtain⟨k,rfl⟩:∃k',k=k'+1:=⟨k - 1,by omega⟩
   rw[YD]at hRk
   have cx:=(Qc7 (tok:=none) hW2 hN (h.length+1) 0 0).lit (h:=h) a
   have ct1:=(Qau (tok:=none) hW2.nx (h.length+1) 0 0).lit (h:=h) a
   have cf1:=fun x y=>(Qb5 (all:=all) (tok:=none) (s:=s2.nx) (h.length+1) x y).lit (h:=h) a
   have m1:=Tk.Qt5 s2.nx.tk
   have m2:=Tk.Qt6 s2.nx.tk
   by_cases hfull:30<=l.length
   ·rw[QvY hfull]at hRk
    subst hRk
    have z1:((l.length:Nat):Int)>=30:=by omega
    repeat first|(first|refine FunW.Qt4 (cx _) ?_|refine FunW.Qt4 (ct1 _) ?_|refine FunW.Qt4 (cf1 _ _ _) ?_|refine Qb ?_);simp only[go_sem,seval,t0,t1,t6,hvl,z1,m1,m2]|intro (b:Bool);cases b
    exact .inr ⟨⟨_,_,_,_⟩,rfl,rfl⟩
   ·rw[QvU hfull]at hRk
    have z1:¬((l.length:Nat):Int)>=30:=by omega
    have cn:=(QlJ (tok:=none) hW2.nx hN (h.length+1)).lit (h:=h) a
    have his:=QhU s2.nx
    cases hn:YE s2.nx with
    |err p x =>
     rw[hn]at his hRk
     have hRR:R = .err p x:=hRk.symm
     subst hRR
     obtain⟨i1,i2,i3⟩:=his
     have z:((Zq s2.nx).e==0)=false:=by rw[i2];simpa using i3
     rw[z,i1,i2]at cn
     repeat first|(first|refine FunW.Qt4 (cx _) ?_|refine FunW.Qt4 (cn _) ?_|refine Qb ?_);simp only[go_sem,seval,t0,t1,t6,hvl,z1]|intro (b:Bool);cases b
     exact .inr ⟨⟨_,_,_,_⟩,rfl,rfl⟩
    |ok x s3 =>
     rw[hn]at his hRk
     rw[RR.okE his]at cn
     have hW3:Wst all s3:=Kp.Ps.ok (n:=wdOf all) (Kp.name_ps trivial) hW2.nx hn
     have hl3:=(Qaj s2.nx hW2.nx.wf x s3 hn).2
     have hRk3:((Xc Qbf s3).bind fun _ s=>if s.tk.kind≠3 then .err s.tk.pos 16 else if valT s.tk.text>6 then .err s.tk.pos 6 else if s.nx.is Xx then YD k (l++[⟨x,valT s.tk.text⟩]) s.nx.nx else(Xc sDot s.nx).bind fun _ s2=>.ok (l++[⟨x,valT s.tk.text⟩]) s2)=R:=hRk
     have cw:=(Qib (tok:=none) hW3 hN (h.length+1) {data:=#[47]}).lit (h:=h) a
     rw[e47]at cw
     have hiw:=QbS Qbf s3
     cases hw:Xc Qbf s3 with
     |err p c =>
      rw[hw]at hiw hRk3
      have hRR:R = .err p c:=hRk3.symm
      subst hRR
      obtain⟨i1,i2,i3⟩:=hiw
      have z:((YI Qbf s3).e==0)=false:=by rw[i2];simpa using i3
      rw[z,i1,i2]at cw
      repeat first|(first|refine FunW.Qt4 (cx _) ?_|refine FunW.Qt4 (cn _) ?_|refine FunW.Qt4 (cw _) ?_|refine Qb ?_);simp only[go_sem,seval,t0,t1,t6,hvl,z1]|intro (b:Bool);cases b
      exact .inr ⟨⟨_,_,_,_⟩,rfl,rfl⟩
     |ok u s4 =>
      rw[hw]at hiw hRk3
      rw[RR.okE hiw]at cw
      have hW4:Wst all s4:=Kp.Ps.ok (n:=wdOf all) (Kp.want_ps trivial _) hW3 hw
      have hl4:=(YV _ s3 hW3.wf u s4 hw).2
      have hRk4:(if s4.tk.kind≠3 then PR.err s4.tk.pos 16 else if valT s4.tk.text>6 then .err s4.tk.pos 6 else if s4.nx.is Xx then YD k (l++[⟨x,valT s4.tk.text⟩]) s4.nx.nx else(Xc sDot s4.nx).bind fun _ s2=>.ok (l++[⟨x,valT s4.tk.text⟩]) s2)=R:=hRk3
      have ct4:=(Qau (tok:=none) hW4 (h.length+1) 0 0).lit (h:=h) a
      have cf4:=fun x y=>(Qb5 (all:=all) (tok:=none) (s:=s4) (h.length+1) x y).lit (h:=h) a
      have n1:=Tk.Qt5 s4.tk
      have n2:=Tk.Qt6 s4.tk
      have x1:∀(Z:AH),(Y++Z)[Y.length]? = Z[0]? := fun Z=>YY _ _
      have x3:∀(Z:AH) y,(Y++Z).set Y.length y=Y++Z.set 0 y:=fun Z y=>Z9 _ _ _
      by_cases hk3:s4.tk.kind=3
      ·rw[QvU (by simpa using hk3)]at hRk4
       have z2:(s4.tk.kind != 3)=false:=by simpa using hk3
       obtain⟨cv,v1,v2⟩:=QfV hD hN hW4 hk3 (hX _ (Qcm hW4))
       by_cases hv:valT s4.tk.text>6
       ·rw[QvY hv]at hRk4
        subst hRk4
        repeat first|(first|refine Qd cv ?_|refine Xq cv ?_|refine FunW.Qt4 (cx _) ?_|refine FunW.Qt4 (cn _) ?_|refine FunW.Qt4 (cw _) ?_|refine FunW.Qt4 (ct4 _) ?_|refine FunW.Qt4 (cf4 _ _ _) ?_|refine Qb ?_);simp only[go_sem,seval,t0,t1,t6,hvl,z1,n1,n2,x1,x3,z2,hv]|intro (b:Bool);cases b
        exact .inr ⟨⟨_,_,_,_⟩,rfl,rfl⟩
       ·rw[QvU hv]at hRk4
        have cx4:=(Qc7 (tok:=none) hW4 hN (h.length+1) 0 0).lit (h:=h) a
        have c5:=(QoM (tok:=none) hW4.nx (h.length+1) 0 0 {data:=#[44]}).lit (h:=h) a
        rw[e44]at c5
        have hln4:=QR hW4.wf (by rw[hk3];decide)
        have hm:(l.length+1) * 24<=140737488355328:=by omega
        have hm2:l.length+1<=maxLen:=by simp only[maxLen];omega
        have ev:vs Dc.av (l++[⟨x,valT s4.tk.text⟩])=vs Dc.av l++[(⟨x,valT s4.tk.text⟩:Dc).av]:=by rw[Qaf];rfl
        repeat first|(first|refine Qd cv ?_|refine Xq cv ?_|refine FunW.Qt4 (cx _) ?_|refine FunW.Qt4 (cn _) ?_|refine FunW.Qt4 (cw _) ?_|refine FunW.Qt4 (ct4 _) ?_|refine FunW.Qt4 (cx4 _) ?_|refine FunW.Qt4 (c5 _) ?_|refine Qb ?_);simp only[go_sem,seval,t0,t1,t6,hvl,z1,n1,n2,x1,x3,z2,hv,hm,hm2]|intro (b:Bool);cases b
        refine Qs.mk (m':=s4.nx.toks.length) (by omega) ?_
        rw[hI]
        refine⟨s4.nx.is Xx,l++[⟨x,valT s4.tk.text⟩],s4.nx,Y++[.cells 54 3 [s4.tk.av]],rfl,hW4.nx,by simp;omega,fun hc=>?_,fun hc=>?_,t0,?_,rfl,?_⟩
        ·rw[QvY hc]at hRk4
         exact⟨by rw[Qt7 hc];decide,k,by omega,hRk4⟩
        ·rw[QvU (by rw[hc];simp)]at hRk4
         exact hRk4
        ·rw[ev];rfl
        ·rw[QvO];rfl
      ·rw[QvY hk3]at hRk4
       subst hRk4
       have z2:(s4.tk.kind != 3)=true:=by simpa using hk3
       repeat first|(first|refine FunW.Qt4 (cx _) ?_|refine FunW.Qt4 (cn _) ?_|refine FunW.Qt4 (cw _) ?_|refine FunW.Qt4 (ct4 _) ?_|refine FunW.Qt4 (cf4 _ _ _) ?_|refine Qb ?_);simp only[go_sem,seval,t0,t1,t6,hvl,z1,n1,n2,x1,x3,z2]|intro (b:Bool);cases b
       exact .inr ⟨⟨_,_,_,_⟩,rfl,rfl⟩
 ·rw[hI]
  exact⟨true,D,q,L,rfl,hW,hd,fun _=>⟨hk,_,by omega,hR⟩,fun h=>(by cases h),rfl,rfl,rfl,rfl⟩
end
end Go.Proofs.YticgcpebdldbgaaGreatDoor.Ab
namespace Go.Proofs.YticgcpebdldbgaaGreatDoor.Ab
open Go.Proofs
abbrev cP0:AB:=.cells 26 2 [.agg [.v (.slice none 0 0),.v (.slice none 0 0)]]
theorem vsF{X:Type}(f:X->AV)(hb:∀n x,∀a∈(f x).cells,Below n a)(n:Nat)(l:List X):∀a∈flat (vs f l),Below n a:=by
 intro a ha
 obtain⟨x,hx,hxa⟩:=Qw6.1 ha
 obtain⟨y,_,rfl⟩:=Qwg.1 hx
 exact hb n y a hxa
theorem Qpr(n:Nat)(d:Dc):∀a∈d.av.cells,Below n a:=fun a ha=>by
 have:d.av.cells=[.v (.string d.name),.i d.arity]:=rfl
 rw[this]at ha
 simp only[Qv5,Qv7,QwQ]at ha
 rcases ha with rfl|rfl <;> exact .v _
theorem Qru(H:AH)(m:Nat)(D:List Dc)(rs:List Rl)(j k:Nat):Frz H m (.tup [.agg [.sl 2 (vs Dc.av D) (some j),.sl 6 (vs Rl.av rs) (some k)],.i 0,.i 0]) (psR (.inl ⟨D,rs⟩)) :=
 .tup rfl (Zj (.agg rfl (Zj (.tok (vsF _ Qpr _ _)) (Qct (.tok (vsF _ (fun n r a ha=>Rl.bel n r a ha) _ _))))) (Zj (.keep (.v _)) (Qct (.keep (.v _)))))
def pFin(D:List Dc)(s:PS):PR Pg:=(Zt (s.toks.length+1) [] s).bind fun r s=>.ok ⟨D,r⟩ s
theorem Qon(s:PS):Qei s=(YO (s.toks.length+1) [] s).bind fun d s=>pFin d s:=rfl
theorem Qjr(l:List UInt8)(hl:l.length<=16384)(h:AH):Ql Tryz.prog 8 [.v (.string (mkB l))] h fun o h'=>o = .ret (psR (Qbe l))/\h'=h:=by
 have cs:=fun L=>Qhf l hl (h++L)
 unfold Qbe
 cases hs:Xo l with
 |inr q =>
  obtain⟨x,e⟩:=q
  simp only[hs,scR]at cs
  have y1:(e != 0)=true:=by simpa using Za hs
  refine Qa Tryz.func8 rfl Tryz.call8 Tryz.ntmps8 Tryz.results8 (by simp) ?_
  repeat first|(first|refine FunW.Qt4 (cs _) ?_|refine Qh (id:=9) [(0,0),(1,1),(2,1),(3,1),(4,1),(5,1),(6,1),(7,1),(8,1),(9,2),(10,0),(11,0)] mixed (by kernel_rfl) fun K hK=>?_|refine Qg (id:=9) [(0,0),(1,1),(2,1),(3,1),(4,1),(5,1),(6,1),(7,1),(8,1),(9,2),(10,0),(11,0)] mixed (by kernel_rfl) fun K hK=>?_|refine Qh (id:=16) [(0,0),(1,1),(2,1),(3,1),(4,1),(5,1),(6,1),(7,1),(8,1),(9,2),(10,0),(11,0)] mixed (by kernel_rfl) fun K hK=>?_|refine Qg (id:=16) [(0,0),(1,1),(2,1),(3,1),(4,1),(5,1),(6,1),(7,1),(8,1),(9,2),(10,0),(11,0)] mixed (by kernel_rfl) fun K hK=>?_|refine Qb ?_);simp only[go_sem,seval,y1]|intro (b:Bool);cases b|refine hK _ ?_;clear hK|clear hK;refine hK _ ?_;clear hK|clear hK;clear hK;refine hK _ ?_;clear hK|clear hK;clear hK;clear hK;refine hK _ ?_;clear hK
  exact Qc (htake _ _) (QdF _ _) ⟨rfl,rfl⟩
 |inl ts =>
  simp only[hs,scR]at cs
  obtain⟨hD,hW,hN,_⟩:=QaI hs
  have hX:=QoW hs (by omega)
  have y1:((0:Int) != 0)=false:=rfl
  have e0:=QqS ts
  have ecw:(ByteArray.toList {data:=#[99,111,110,115,116,114,97,105,110,116]})=Qhz:=by rw[Lib.toList_data];rfl
  simp only
  generalize hR:Qei ⟨ts,[]⟩=R
  rw[Qon]at hR
  refine Qa Tryz.func8 rfl Tryz.call8 Tryz.ntmps8 Tryz.results8 (by simp) ?_
  iterate 16 (try (first|((first|(with_reducible (first|refine Qf fun K E hK hE=>?_|refine Qr fun K E hK hE=>?_|refine FunW.Qt4 (cs _) ?_))|(refine Qh (id:=9) [(0,0),(1,1),(2,1),(3,1),(4,1),(5,1),(6,1),(7,1),(8,1),(9,2),(10,0),(11,0)] mixed (by kernel_rfl) fun K hK=>?_)|(refine Qg (id:=9) [(0,0),(1,1),(2,1),(3,1),(4,1),(5,1),(6,1),(7,1),(8,1),(9,2),(10,0),(11,0)] mixed (by kernel_rfl) fun K hK=>?_)|(refine Qh (id:=16) [(0,0),(1,1),(2,1),(3,1),(4,1),(5,1),(6,1),(7,1),(8,1),(9,2),(10,0),(11,0)] mixed (by kernel_rfl) fun K hK=>?_)|(refine Qg (id:=16) [(0,0),(1,1),(2,1),(3,1),(4,1),(5,1),(6,1),(7,1),(8,1),(9,2),(10,0),(11,0)] mixed (by kernel_rfl) fun K hK=>?_));simp only[go_sem,seval])|(with_reducible (first|refine Qn fun K hK=>?_|refine QA ?_|refine Zg ?_|refine Qcp ?_|refine Qe4 ?_|refine QG ?_|refine Yp ?_|refine Qi ?_|refine QcA ?_|refine XY ?_|refine QP ?_|refine Qd9 ?_|refine XX ?_|refine Qba rfl ?_))|(with_reducible (first|refine hK _ ?_|(clear hK;refine hK _ ?_)|(clear hK;clear hK;refine hK _ ?_)|(clear hK;clear hK;clear hK;refine hK _ ?_));clear hK)|(refine Qm rfl ?_;simp only[↓reduceIte,Qu1])|(intro (b:Bool);cases b)))
  refine Yx (h.length+1) 69 5 [.agg [.sl 3 (tks ts) none,.i 0,nilV,.i 0,.i 0]] [.agg [.sl 3 (tks ts) none,.i 0,.sl 1 [] none,.i 0,.i 0]] 2 (Wk.nilS 1) (by rw[hget];rfl) rfl (by simp[flat,AV.cells]) (by simp[AV.cells]) ?_
  rw[hset,List.set_cons_succ,List.set_cons_zero,<-e0]
  refine Xl (h.length+2) 26 2 2 (.grow 75 2 0) (.inr ⟨_,rfl⟩) [.agg [nilV,nilV]] [.agg [.sl 2 [] (some (h.length+3)),nilV]] 0 (by rw[hget];rfl) rfl (by simp[flat,AV.cells]) (by simp[AV.cells]) ?_
  rw[QvS,hset]
  refine Xl (h.length+2) 26 2 6 (.grow 40 6 0) (.inr ⟨_,rfl⟩) [.agg [.sl 2 [] (some (h.length+3)),nilV]] [.agg [.sl 2 [] (some (h.length+3)),.sl 6 [] (some (h.length+4))]] 1 (by rw[hget];rfl) rfl (by simp[flat,AV.cells]) (by simp[AV.cells]) ?_
  rw[QvS,hset]
  refine Qt (fun s=>∃(D:List Dc) (s2:PS) (Y:AH),Wst ts s2/\pFin D s2=R/\s.tm 2 = .ptr h.length 0 0/\s.tm 8 = .ptr (h.length+1) 0 0/\s.tm 9 = .ptr (h.length+2) 0 0/\s.h=h++(cP0::rdB ts none s2 0 0 :: .cells 26 2 [.agg [.sl 2 (vs Dc.av D) (some (h.length+3)),.sl 6 [] (some (h.length+4))]] :: .grow 75 2 D.length :: .grow 40 6 0::Y)) ?_ ?_
  rotate_left
  ·repeat first|(first|refine Qh (id:=9) [(0,0),(1,1),(2,1),(3,1),(4,1),(5,1),(6,1),(7,1),(8,1),(9,2),(10,0),(11,0)] mixed (by kernel_rfl) fun K hK=>?_|refine Qg (id:=9) [(0,0),(1,1),(2,1),(3,1),(4,1),(5,1),(6,1),(7,1),(8,1),(9,2),(10,0),(11,0)] mixed (by kernel_rfl) fun K hK=>?_|refine Qh (id:=16) [(0,0),(1,1),(2,1),(3,1),(4,1),(5,1),(6,1),(7,1),(8,1),(9,2),(10,0),(11,0)] mixed (by kernel_rfl) fun K hK=>?_|refine Qg (id:=16) [(0,0),(1,1),(2,1),(3,1),(4,1),(5,1),(6,1),(7,1),(8,1),(9,2),(10,0),(11,0)] mixed (by kernel_rfl) fun K hK=>?_|refine Qb ?_);simp only[go_sem,seval]|intro (b:Bool);cases b|refine hK _ ?_;clear hK|clear hK;refine hK _ ?_;clear hK|clear hK;clear hK;refine hK _ ?_;clear hK|clear hK;clear hK;clear hK;refine hK _ ?_;clear hK
   obtain⟨I,hI⟩:∃I:Nat->AS->Prop,I=fun m' s=>∃(D:List Dc) (s2:PS) (Y:AH),m'=s2.toks.length/\Wst ts s2/\D.length<=30/\(∃k,s2.toks.length<k/\(YO k D s2).bind (fun d s=>pFin d s)=R)/\s.tm 2 = .ptr h.length 0 0/\s.tm 8 = .ptr (h.length+1) 0 0/\s.tm 9 = .ptr (h.length+2) 0 0/\s.h=h++(cP0::rdB ts none s2 0 0 :: .cells 26 2 [.agg [.sl 2 (vs Dc.av D) (some (h.length+3)),.sl 6 [] (some (h.length+4))]] :: .grow 75 2 D.length :: .grow 40 6 0::Y):=⟨_,rfl⟩;refine Qk I ?_ (m:=ts.length) ?_
   ·intro m' s hs;rw[hI]at hs;obtain⟨tm,hp⟩:=s;dsimp only at hs;obtain⟨D,s2,Y,rfl,hW2,hd30,⟨k,hk,hRk⟩,t2,t8,t9,rfl⟩:=hs
    obtain⟨k,rfl⟩:∃k',k=k'+1:=⟨k - 1,by omega⟩
    rw[YO]at hRk
    have cw:=(QlN (tok:=none) hW2 (h.length+1) 0 0 {data:=#[99,111,110,115,116,114,97,105,110,116]}).lit (h:=h) cP0
    rw[ecw]at cw
    cases hc:s2.wrd Qhz with
    |false =>
     rw[hc]at cw
     have hcn:¬(s2.tk.kind=1/\s2.tk.text.toList=Qhz):=fun⟨a,b⟩=>by
      have:s2.wrd Qhz=true:=by rw[PS.wrd,a,b];simp
      rw[this]at hc;cases hc
     rw[QvU hcn]at hRk
     repeat first|(first|refine FunW.Qt4 (cw _) ?_|refine Qh (id:=9) [(0,0),(1,1),(2,1),(3,1),(4,1),(5,1),(6,1),(7,1),(8,1),(9,2),(10,0),(11,0)] mixed (by kernel_rfl) fun K hK=>?_|refine Qg (id:=9) [(0,0),(1,1),(2,1),(3,1),(4,1),(5,1),(6,1),(7,1),(8,1),(9,2),(10,0),(11,0)] mixed (by kernel_rfl) fun K hK=>?_|refine Qh (id:=16) [(0,0),(1,1),(2,1),(3,1),(4,1),(5,1),(6,1),(7,1),(8,1),(9,2),(10,0),(11,0)] mixed (by kernel_rfl) fun K hK=>?_|refine Qg (id:=16) [(0,0),(1,1),(2,1),(3,1),(4,1),(5,1),(6,1),(7,1),(8,1),(9,2),(10,0),(11,0)] mixed (by kernel_rfl) fun K hK=>?_|refine Qb ?_);simp only[go_sem,seval,t8]|intro (b:Bool);cases b|refine hK _ ?_;clear hK|clear hK;refine hK _ ?_;clear hK|clear hK;clear hK;refine hK _ ?_;clear hK|clear hK;clear hK;clear hK;refine hK _ ?_;clear hK
     (try (refine hK _ ?_;rw[Qp]))
     exact⟨D,s2,Y,hW2,hRk,t2,t8,t9,rfl⟩
    |true =>
     rw[hc]at cw
     have hcy:s2.tk.kind=1/\s2.tk.text.toList=Qhz:=by
      simp only[PS.wrd,Qv0,QwO]at hc;exact hc
     rw[QvY hcy]at hRk
     have cd:=Qnx hN hD hX hW2 (by rw[hcy.1];decide) h cP0 (.cells 26 2 [.agg [.sl 2 (vs Dc.av D) (some (h.length+3)),.sl 6 [] (some (h.length+4))]]) (.grow 40 6 0) Y D hd30
     have hln:=QR hW2.wf (by rw[hcy.1];decide)
     cases hq:YD (s2.toks.length+1) D s2.nx with
     |err p x =>
      rw[hq]at cd hRk
      delta DcR at cd
      dsimp only at cd
      have hRR:R = .err p x:=hRk.symm
      subst hRR
      repeat first|(first|refine FunW.Qt4 (cw _) ?_|refine FunW.retV (FunW.call cd) fun w=>?_|refine Qb ?_);simp only[go_sem,seval,t8,t9]|intro (b:Bool);cases b|refine hK _ ?_;clear hK|clear hK;refine hK _ ?_;clear hK|clear hK;clear hK;refine hK _ ?_;clear hK|clear hK;clear hK;clear hK;refine hK _ ?_;clear hK
      refine XL (h.length+1) 8 0 0 (by rw[hget];rfl) (by exact t8) ?_
      simp only[hset,Qvr,Qvs]
      refine Qg (id:=9) [(0,0),(1,1),(2,1),(3,1),(4,1),(5,1),(6,1),(7,1),(8,1),(9,2),(10,0),(11,0)] mixed (by kernel_rfl) fun K hK=>?_
      simp only[go_sem,seval,t2]
      repeat first|(first|refine Qh (id:=9) [(0,0),(1,1),(2,1),(3,1),(4,1),(5,1),(6,1),(7,1),(8,1),(9,2),(10,0),(11,0)] mixed (by kernel_rfl) fun K hK=>?_|refine Qg (id:=9) [(0,0),(1,1),(2,1),(3,1),(4,1),(5,1),(6,1),(7,1),(8,1),(9,2),(10,0),(11,0)] mixed (by kernel_rfl) fun K hK=>?_|refine Qh (id:=16) [(0,0),(1,1),(2,1),(3,1),(4,1),(5,1),(6,1),(7,1),(8,1),(9,2),(10,0),(11,0)] mixed (by kernel_rfl) fun K hK=>?_|refine Qg (id:=16) [(0,0),(1,1),(2,1),(3,1),(4,1),(5,1),(6,1),(7,1),(8,1),(9,2),(10,0),(11,0)] mixed (by kernel_rfl) fun K hK=>?_|refine Qb ?_);simp only[go_sem,seval,t2]|intro (b:Bool);cases b|refine hK _ ?_;clear hK|clear hK;refine hK _ ?_;clear hK|clear hK;clear hK;refine hK _ ?_;clear hK|clear hK;clear hK;clear hK;refine hK _ ?_;clear hK
      exact Qc (htake _ _) (QdF _ _) ⟨rfl,rfl⟩
     |ok D2 s3 =>
      rw[hq]at cd hRk
      delta DcR at cd
      dsimp only at cd
      have hW3:Wst ts s3:=Kp.Ps.ok (n:=wdOf ts) (Kp.declT_ps trivial _ D) hW2.nx hq
      have hl3:=(QiQ _ D s2.nx hW2.nx.wf D2 s3 hq).2
      have hd2:=Qds _ D s2.nx D2 s3 hq
      repeat first|(first|refine FunW.Qt4 (cw _) ?_|refine FunW.retE (FunW.call cd) fun w=>?_|refine Qh (id:=9) [(0,0),(1,1),(2,1),(3,1),(4,1),(5,1),(6,1),(7,1),(8,1),(9,2),(10,0),(11,0)] mixed (by kernel_rfl) fun K hK=>?_|refine Qg (id:=9) [(0,0),(1,1),(2,1),(3,1),(4,1),(5,1),(6,1),(7,1),(8,1),(9,2),(10,0),(11,0)] mixed (by kernel_rfl) fun K hK=>?_|refine Qh (id:=16) [(0,0),(1,1),(2,1),(3,1),(4,1),(5,1),(6,1),(7,1),(8,1),(9,2),(10,0),(11,0)] mixed (by kernel_rfl) fun K hK=>?_|refine Qg (id:=16) [(0,0),(1,1),(2,1),(3,1),(4,1),(5,1),(6,1),(7,1),(8,1),(9,2),(10,0),(11,0)] mixed (by kernel_rfl) fun K hK=>?_|refine Qb ?_);simp only[go_sem,seval,t8,t9]|intro (b:Bool);cases b|refine hK _ ?_;clear hK|clear hK;refine hK _ ?_;clear hK|clear hK;clear hK;refine hK _ ?_;clear hK|clear hK;clear hK;clear hK;refine hK _ ?_;clear hK
      refine Qs.mk (m':=s3.toks.length) (by omega) ?_
      rw[hI]
      exact⟨D2,s3,w,rfl,hW3,hd2,⟨k,by omega,hRk⟩,t2,t8,t9,rfl⟩
   ·rw[hI]
    exact⟨[],⟨ts,[]⟩,[],rfl,hW,Qv2 _,⟨_,Qxp _,hR⟩,rfl,rfl,rfl,rfl⟩
  rintro⟨tm,hp⟩ ⟨D,s2,Y,hW2,hRf,t2,t8,t9,rfl⟩
  dsimp only at t2 t8 t9
  rw[pFin]at hRf
  repeat first|(first|refine Qh (id:=9) [(0,0),(1,1),(2,1),(3,1),(4,1),(5,1),(6,1),(7,1),(8,1),(9,2),(10,0),(11,0)] mixed (by kernel_rfl) fun K hK=>?_|refine Qg (id:=9) [(0,0),(1,1),(2,1),(3,1),(4,1),(5,1),(6,1),(7,1),(8,1),(9,2),(10,0),(11,0)] mixed (by kernel_rfl) fun K hK=>?_|refine Qh (id:=16) [(0,0),(1,1),(2,1),(3,1),(4,1),(5,1),(6,1),(7,1),(8,1),(9,2),(10,0),(11,0)] mixed (by kernel_rfl) fun K hK=>?_|refine Qg (id:=16) [(0,0),(1,1),(2,1),(3,1),(4,1),(5,1),(6,1),(7,1),(8,1),(9,2),(10,0),(11,0)] mixed (by kernel_rfl) fun K hK=>?_|refine Qb ?_);simp only[go_sem,seval,t2,t8,t9]|intro (b:Bool);cases b|refine hK _ ?_;clear hK|clear hK;refine hK _ ?_;clear hK|clear hK;clear hK;refine hK _ ?_;clear hK|clear hK;clear hK;clear hK;refine hK _ ?_;clear hK
  obtain⟨I,hI⟩:∃I:Nat->AS->Prop,I=fun m' s=>∃(rs:List Rl) (s2:PS) (Y:AH),m'=s2.toks.length/\Wst ts s2/\rs.length<=40/\(∃k,s2.toks.length<k/\(Zt k rs s2).bind (fun r s=>.ok ⟨D,r⟩ s)=R)/\s.tm 2 = .ptr h.length 0 0/\s.tm 8 = .ptr (h.length+1) 0 0/\s.tm 9 = .ptr (h.length+2) 0 0/\s.h=h++(cP0::rdB ts none s2 0 0 :: .cells 26 2 [.agg [.sl 2 (vs Dc.av D) (some (h.length+3)),.sl 6 (vs Rl.av rs) (some (h.length+4))]] :: .grow 75 2 D.length :: .grow 40 6 rs.length::Y):=⟨_,rfl⟩;refine Qk I ?_ (m:=s2.toks.length) ?_
  ·intro m' s hs;rw[hI]at hs;obtain⟨tm,hp⟩:=s;dsimp only at hs;obtain⟨rs,s2,Y,rfl,hW2,hr40,⟨k,hk,hRk⟩,t2,t8,t9,rfl⟩:=hs
   obtain⟨k,rfl⟩:∃k',k=k'+1:=⟨k - 1,by omega⟩
   rw[Zt]at hRk
   have ct:=(Qau (tok:=none) hW2 (h.length+1) 0 0).lit (h:=h) cP0
   have n1:=Tk.Qt5 s2.tk
   have n2:=Tk.Qt6 s2.tk
   have hvr:(vs Rl.av rs).length=rs.length:=QL _ _
   by_cases hk0:s2.tk.kind=0
   ·rw[QvY hk0]at hRk
    have hRR:R = .ok ⟨D,rs⟩ s2:=hRk.symm
    subst hRR
    have z1:(s2.tk.kind != 0)=false:=by simpa using hk0
    repeat first|(first|refine FunW.Qt4 (ct _) ?_|refine Qh (id:=9) [(0,0),(1,1),(2,1),(3,1),(4,1),(5,1),(6,1),(7,1),(8,1),(9,2),(10,0),(11,0)] mixed (by kernel_rfl) fun K hK=>?_|refine Qg (id:=9) [(0,0),(1,1),(2,1),(3,1),(4,1),(5,1),(6,1),(7,1),(8,1),(9,2),(10,0),(11,0)] mixed (by kernel_rfl) fun K hK=>?_|refine Qh (id:=16) [(0,0),(1,1),(2,1),(3,1),(4,1),(5,1),(6,1),(7,1),(8,1),(9,2),(10,0),(11,0)] mixed (by kernel_rfl) fun K hK=>?_|refine Qg (id:=16) [(0,0),(1,1),(2,1),(3,1),(4,1),(5,1),(6,1),(7,1),(8,1),(9,2),(10,0),(11,0)] mixed (by kernel_rfl) fun K hK=>?_|refine Qb ?_);simp only[go_sem,seval,t2,t8,t9,n1,n2,z1]|intro (b:Bool);cases b|refine hK _ ?_;clear hK|clear hK;refine hK _ ?_;clear hK|clear hK;clear hK;refine hK _ ?_;clear hK|clear hK;clear hK;clear hK;refine hK _ ?_;clear hK
    exact Qc (htake _ _) (Qru _ _ _ _ _ _) ⟨rfl,rfl⟩
   ·rw[QvU hk0]at hRk
    have z1:(s2.tk.kind != 0)=true:=by simpa using hk0
    by_cases hf:40<=rs.length
    ·rw[QvY hf]at hRk
     have hRR:R = .err s2.tk.pos 6:=hRk.symm
     subst hRR
     have z2:((rs.length:Nat):Int)>=40:=by omega
     repeat first|(first|refine FunW.Qt4 (ct _) ?_|refine Qh (id:=9) [(0,0),(1,1),(2,1),(3,1),(4,1),(5,1),(6,1),(7,1),(8,1),(9,2),(10,0),(11,0)] mixed (by kernel_rfl) fun K hK=>?_|refine Qg (id:=9) [(0,0),(1,1),(2,1),(3,1),(4,1),(5,1),(6,1),(7,1),(8,1),(9,2),(10,0),(11,0)] mixed (by kernel_rfl) fun K hK=>?_|refine Qh (id:=16) [(0,0),(1,1),(2,1),(3,1),(4,1),(5,1),(6,1),(7,1),(8,1),(9,2),(10,0),(11,0)] mixed (by kernel_rfl) fun K hK=>?_|refine Qg (id:=16) [(0,0),(1,1),(2,1),(3,1),(4,1),(5,1),(6,1),(7,1),(8,1),(9,2),(10,0),(11,0)] mixed (by kernel_rfl) fun K hK=>?_|refine Qb ?_);simp only[go_sem,seval,t2,t8,t9,n1,n2,z1,z2,hvr]|intro (b:Bool);cases b|refine hK _ ?_;clear hK|clear hK;refine hK _ ?_;clear hK|clear hK;clear hK;refine hK _ ?_;clear hK|clear hK;clear hK;clear hK;refine hK _ ?_;clear hK
     exact Qc (htake _ _) (QdF _ _) ⟨rfl,rfl⟩
    ·rw[QvU hf]at hRk
     have z2:¬((rs.length:Nat):Int)>=40:=by omega
     have cr:=fun L=>QoT hN hD hX hW2 h cP0 L
     cases hq:X5 s2 with
     |err p x =>
      simp only[hq]at cr hRk
      have hRR:R = .err p x:=hRk.symm
      subst hRR
      have rc:=Rl.cells (⟨eB,[],[],[],[],0⟩:Rl)
      have ri:=Rl.isAgg (⟨eB,[],[],[],[],0⟩:Rl)
      repeat first|(first|refine FunW.Qt4 (ct _) ?_|refine FunW.retE (FunW.call (cr _)) fun w=>?_|refine Qb ?_);simp only[go_sem,seval,t8,t9,n1,n2,z1,z2,hvr,rc,ri]|intro (b:Bool);cases b|refine hK _ ?_;clear hK|clear hK;refine hK _ ?_;clear hK|clear hK;clear hK;refine hK _ ?_;clear hK|clear hK;clear hK;clear hK;refine hK _ ?_;clear hK
      refine XL (h.length+1) 8 0 0 (by rw[hget];rfl) (by exact t8) ?_
      simp only[hset,Qvr,Qvs]
      refine Qg (id:=16) [(0,0),(1,1),(2,1),(3,1),(4,1),(5,1),(6,1),(7,1),(8,1),(9,2),(10,0),(11,0)] mixed (by kernel_rfl) fun K hK=>?_
      simp only[go_sem,seval,t2]
      repeat first|(first|refine Qh (id:=9) [(0,0),(1,1),(2,1),(3,1),(4,1),(5,1),(6,1),(7,1),(8,1),(9,2),(10,0),(11,0)] mixed (by kernel_rfl) fun K hK=>?_|refine Qg (id:=9) [(0,0),(1,1),(2,1),(3,1),(4,1),(5,1),(6,1),(7,1),(8,1),(9,2),(10,0),(11,0)] mixed (by kernel_rfl) fun K hK=>?_|refine Qh (id:=16) [(0,0),(1,1),(2,1),(3,1),(4,1),(5,1),(6,1),(7,1),(8,1),(9,2),(10,0),(11,0)] mixed (by kernel_rfl) fun K hK=>?_|refine Qg (id:=16) [(0,0),(1,1),(2,1),(3,1),(4,1),(5,1),(6,1),(7,1),(8,1),(9,2),(10,0),(11,0)] mixed (by kernel_rfl) fun K hK=>?_|refine Qb ?_);simp only[go_sem,seval,t2]|intro (b:Bool);cases b|refine hK _ ?_;clear hK|clear hK;refine hK _ ?_;clear hK|clear hK;clear hK;refine hK _ ?_;clear hK|clear hK;clear hK;clear hK;refine hK _ ?_;clear hK
      exact Qc (htake _ _) (QdF _ _) ⟨rfl,rfl⟩
     |ok r s3 =>
      simp only[hq]at cr hRk
      have hW3:Wst ts s3:=Kp.Ps.ok (n:=wdOf ts) (Kp.rule_ps trivial) hW2 hq
      have hl3:=(QlL s2 hW2.wf r s3 hq).2
      have rc:=Rl.cells r
      have ri:=Rl.isAgg r
      have hm:(rs.length+1) * 120<=140737488355328:=by omega
      have hm2:rs.length+1<=maxLen:=by simp only[maxLen];omega
      have ev:vs Rl.av (rs++[r])=vs Rl.av rs++[r.av]:=by rw[Qaf];rfl
      have x1:∀(Z:AH),(Y++Z)[Y.length]? = Z[0]? := fun Z=>YY _ _
      have x3:∀(Z:AH) y,(Y++Z).set Y.length y=Y++Z.set 0 y:=fun Z y=>Z9 _ _ _
      repeat first|(first|refine FunW.Qt4 (ct _) ?_|refine FunW.Qt4 (cr _) ?_|refine Qh (id:=9) [(0,0),(1,1),(2,1),(3,1),(4,1),(5,1),(6,1),(7,1),(8,1),(9,2),(10,0),(11,0)] mixed (by kernel_rfl) fun K hK=>?_|refine Qg (id:=9) [(0,0),(1,1),(2,1),(3,1),(4,1),(5,1),(6,1),(7,1),(8,1),(9,2),(10,0),(11,0)] mixed (by kernel_rfl) fun K hK=>?_|refine Qh (id:=16) [(0,0),(1,1),(2,1),(3,1),(4,1),(5,1),(6,1),(7,1),(8,1),(9,2),(10,0),(11,0)] mixed (by kernel_rfl) fun K hK=>?_|refine Qg (id:=16) [(0,0),(1,1),(2,1),(3,1),(4,1),(5,1),(6,1),(7,1),(8,1),(9,2),(10,0),(11,0)] mixed (by kernel_rfl) fun K hK=>?_|refine Qb ?_);simp only[go_sem,seval,t8,t9,n1,n2,z1,z2,hvr,rc,ri,hm,hm2,x1,x3]|intro (b:Bool);cases b|refine hK _ ?_;clear hK|clear hK;refine hK _ ?_;clear hK|clear hK;clear hK;refine hK _ ?_;clear hK|clear hK;clear hK;clear hK;refine hK _ ?_;clear hK
      refine Qs.mk (m':=s3.toks.length) (by omega) ?_
      rw[hI]
      exact⟨rs++[r],s3,Y++[.cells 40 6 [r.av]],rfl,hW3,by simp;omega,⟨k,by omega,hRk⟩,t2,t8,t9,by rw[ev,QvO];rfl⟩
  ·rw[hI]
   exact⟨[],s2,Y,rfl,hW2,Qv2 _,⟨_,Qxp _,hRf⟩,t2,t8,t9,rfl⟩
end Go.Proofs.YticgcpebdldbgaaGreatDoor.Ab
namespace Go.Proofs.YticgcpebdldbgaaGreatDoor.Ab
open Go.Proofs
section
variable(l:List UInt8)(hmx:l.length<=9223372036854775807)(h:AH)(hG:YZ h)
include hmx hG
theorem Qtg:Ql Tryz.prog 3 [.v (.string (mkB l))] h fun o h'=>o = .ret (.b true)/\h'=h:=by
 have hsl:=fun b=>XG Tryz.prog 9 3 (by kernel_rfl) b
 have ca:=fun L=>QbT (h++L) (hG.app L)
 have ca0:=QbT h hG
 by_cases hb:4000<l.length
 ·have z1:((l.length:Nat):Int)>4000:=by omega
  have z2:(4000:Int)<((l.length:Nat):Int):=by omega
  refine Qa Tryz.func3 rfl Tryz.call3 Tryz.ntmps3 Tryz.results3 (by simp) ?_
  repeat first|(first|refine FunW.Qt4 ca0 ?_|refine Qb ?_);simp only[go_sem,seval,hsl,Qj,z1]|intro (b:Bool);cases b
  exact .inr ⟨rfl,rfl⟩
 ·have z1:¬((l.length:Nat):Int)>4000:=by omega
  have z2:¬(4000:Int)<((l.length:Nat):Int):=by omega
  have cp:=Qb1 l h hG
  have cq:=fun L=>Qjr l (by omega) (h++L)
  obtain⟨v1,v2⟩:=QnW (l:=l)
  cases hp:Qbe l with
  |inr q =>
   obtain⟨x,e⟩:=q
   simp only[hp,psR]at cp cq
   have rc:=Pg.cells ⟨[],[]⟩
   have ri:=Pg.isAgg ⟨[],[]⟩
   have cz:=QgV ⟨[],[]⟩ (Qv2 _) (Qv2 _) (fun r hr=>by cases hr)
   have u1:(x==x)=true:=by simp
   have u2:(e==e)=true:=by simp
   refine Qa Tryz.func3 rfl Tryz.call3 Tryz.ntmps3 Tryz.results3 (by simp) ?_
   repeat first|(first|refine Qd cz ?_|refine Xq cz ?_|refine FunW.Qt4 cp ?_|refine FunW.Qt4 (cq _) ?_|refine FunW.Qt4 (ca _) ?_|refine Qb ?_);simp only[go_sem,seval,hsl,Qj,z1,rc,ri]|intro (b:Bool);cases b
   exact Qc (htake _ _) (.keep (.v _)) ⟨rfl,rfl⟩
  |inl p =>
   simp only[hp,psR]at cp cq
   obtain⟨b1,b2,b3⟩:=v1 p hp
   have rc:=Pg.cells p
   have ri:=Pg.isAgg p
   have cz:=QgV p (by omega) (by omega) (fun r hr=>(b3 r hr).bnd)
   have u1:((0:Int)==0)=true:=rfl
   refine Qa Tryz.func3 rfl Tryz.call3 Tryz.ntmps3 Tryz.results3 (by simp) ?_
   repeat first|(first|refine Qd cz ?_|refine Xq cz ?_|refine FunW.Qt4 cp ?_|refine FunW.Qt4 (cq _) ?_|refine FunW.Qt4 (ca _) ?_|refine Qb ?_);simp only[go_sem,seval,hsl,Qj,z1,rc,ri]|intro (b:Bool);cases b
   exact Qc (htake _ _) (.keep (.v _)) ⟨rfl,rfl⟩
end
end Go.Proofs.YticgcpebdldbgaaGreatDoor.Ab
namespace Go.Proofs.YticgcpebdldbgaaGreatDoor.Ab
open Go.Proofs
theorem Qqi{s:ByteArray}(hs:s.size<=maxLen):s.data.toList.length<=9223372036854775807:=by
 have:s.size=s.data.toList.length:=by show s.data.size=_;simp
 simp only[maxLen]at hs
 omega
theorem Qsq(s:ByteArray)(hs:s.size<=maxLen)(h:AH)(hG:YZ h):Ql Tryz.prog 3 [.v (.string s)] h fun o h'=>o = .ret (.b true)/\h'=h:=by
 have:=Qtg s.data.toList (Qqi hs) h hG
 rwa [QeE]at this
end Go.Proofs.YticgcpebdldbgaaGreatDoor.Ab

