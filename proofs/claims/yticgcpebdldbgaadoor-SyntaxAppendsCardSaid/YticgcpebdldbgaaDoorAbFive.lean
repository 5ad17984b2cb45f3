/-
  An abstract program logic, contracts of functions, and laws of terms and rules (part 5).
-/
import Derived.Test.YticgcpebdldbgaaDoorAbFour
import Derived.Test.YticgcpebdldbgaaDoorAbThree
import Derived.Test.YticgcpebdldbgaaDoorAbTwo
set_option linter.unusedVariables false
set_option linter.unusedSimpArgs false
set_option maxHeartbeats 4000000
set_option maxRecDepth 4000
namespace Go.Proofs.YticgcpebdldbgaaDoor.Ab
open Go.Proofs
theorem Qkz {X σ:Type} (g:σ→X→X×σ) (s:σ) {l:List X} {k:Nat} (h:k<l.length) :
  (Xj g s (l.take (k+1))).1=(Xj g s (l.take k)).1++[(g (Xj g s (l.take k)).2 l[k]).1]∧(Xj g s (l.take (k+1))).2=(g (Xj g s (l.take k)).2 l[k]).2:=by
 rw [List.take_succ_eq_append_getElem h,Qc9]
 exact ⟨by simp [Xj],by simp [Xj]⟩
def gG (s:List Int) (g:G):G×List Int:=(⟨g.op,g.name,(Xs gNum s g.args).1⟩,(Xs gNum s g.args).2)
def ndG:List G→Nat
 |[]=>0
 |g::l=>ndsL g.args+ndG l
theorem QfO:∀ a b:List G,ndG (a++b)=ndG a+ndG b
 |[],b=>by simp [ndG]
 |t::a,b=>by rw [List.cons_append,ndG,ndG,QfO a b];omega
theorem QgR (l:List G) {j:Nat} (h:j<l.length):ndG (l.take j)+ndsL l[j].args≤ndG l:=by
 have:=congrArg ndG (List.take_append_drop j l)
 rw [QfO,List.drop_eq_getElem_cons h,ndG] at this
 omega
theorem QaV:∀ (s:List Int) (l:List G),(Xj gG s l).2.length≤s.length+ndG l
 |s,[]=>by simp [Xj]
 |s,g::l=>by
  have h1:=Qcg s g.args
  have h2:=QaV (gG s g).2 l
  simp only [Xj,ndG]
  show _≤_
  have h3:(gG s g).2=(Xs gNum s g.args).2:=rfl
  rw [h3] at h2 ⊢
  omega
theorem Yl:∀ (s:List Int) (l:List G),gsz (Xj gG s l).1=gsz l
 |s,[]=>rfl
 |s,g::l=>by
  simp only [Xj,gsz,Yl _ l]
  rw [show (gG s g).1.args=(Xs gNum s g.args).1 from rfl,YG]
def CurG (ord:List Int) (bs:List G) (j:Nat):List G:=(Xj gG ord (bs.take j)).1++bs.drop j
theorem Qfc (ord:List Int) {bs:List G} {j:Nat} (hj:j<bs.length):CurG ord bs j=(Xj gG ord (bs.take j)).1++bs[j]::bs.drop (j+1) ∧
  CurG ord bs (j+1)=(Xj gG ord (bs.take j)).1++(gG (Xj gG ord (bs.take j)).2 bs[j]).1::bs.drop (j+1)∧(Xj gG ord (bs.take (j+1))).2=(gG (Xj gG ord (bs.take j)).2 bs[j]).2:=by
 obtain ⟨h1,h2⟩:=Qkz gG ord hj
 refine ⟨by rw [CurG,List.drop_eq_getElem_cons hj],?_,h2⟩
 rw [CurG,h1,List.append_assoc];rfl
theorem Qf4 (tt:TypeId):∀ (n:Nat) (l:List G) (g:G) (m:List G),layG tt n (l++g::m)=layG tt n l++(.dead::(layA tt (n+gsz l+1) g.args++(.dead::layG tt (n+gsz l+szs g.args+2) m)))
 |n,[],g,m=>by simp [layG,gsz]
 |n,a::l,g,m=>by
  rw [List.cons_append,layG,layG,Qf4 tt _ l g m,gsz]
  rw [show n+szs a.args+2+gsz l=n+(szs a.args+2+gsz l) by omega]
  simp only [QrR,List.append_assoc]
theorem Ql3 (vw:Nat→G→AV):∀ (n:Nat) (l:List G) {j:Nat} (h:j<l.length),(lvG vw n l)[j]? = some (vw (n+gsz (l.take j)+1) l[j])
 |n,g::l,0,h=>by simp [lvG,gsz]
 |n,g::l,j+1,h=>by
  rw [lvG,List.getElem?_cons_succ,Ql3 vw _ l (by simpa using h),List.take_succ_cons,gsz,List.getElem_cons_succ]
  rw [show n+szs g.args+2+gsz (l.take j)=n+(szs g.args+2+gsz (l.take j)) by omega]
theorem At.keep {X Y:AH} {n:Nat} {L:AH} (h:At X n L) (hk:∀ i,n≤i→i<n+L.length→Y[i]? = X[i]?):At Y n L:=fun j b hb hl=>by
 rw [hk _ (by omega) (by have:=Qr hb;omega)];exact h j b hb hl
theorem at_g {X:AH} {tt:TypeId} {n:Nat} {l m:List G} {g:G} (h:At X n (layG tt n (l++g::m))):At X (n+gsz l+1) (layA tt (n+gsz l+1) g.args):=by
 rw [Qf4] at h
 have h1:=h.right (m:=n+gsz l) (by rw [QL])
 exact (At.right (L:=[.dead]) h1 rfl).left
theorem QmT {X Y:AH} {tt:TypeId} {n:Nat} {l m:List G} {g g':G} (h:At X n (layG tt n (l++g::m))) (hs:szs g'.args=szs g.args) (hg:At Y (n+gsz l+1) (layA tt (n+gsz l+1) g'.args))
  (hout:∀ i,n≤i→i<n+gsz (l++g::m)→¬ (n+gsz l+1≤i∧i<n+gsz l+1+szs g.args)→Y[i]? = X[i]?):At Y n (layG tt n (l++g'::m)):=by
 have hz:gsz (l++g::m)=gsz l+(szs g.args+2+gsz m):=by rw [Zj,gsz]
 rw [Qf4] at h ⊢
 have h1:=h.right (m:=n+gsz l) (by rw [QL])
 have h0:At X (n+gsz l+1) (layA tt (n+gsz l+1) g.args++(.dead::layG tt (n+gsz l+szs g.args+2) m)):=At.right (L:=[.dead]) h1 rfl
 have h2:=h0.right (m:=n+gsz l+1+szs g.args) (by rw [X4])
 have h3:At X (n+gsz l+1+szs g.args+1) (layG tt (n+gsz l+szs g.args+2) m):=At.right (L:=[.dead]) (M:=layG tt (n+gsz l+szs g.args+2) m) h2 rfl
 refine At.both (h.left.keep fun i h1 h2=>hout i h1 (by rw [QL] at h2;omega) (by rw [QL] at h2;omega)) ?_
 rw [QL]
 refine At.cons (fun e=>by cases e) (At.both hg ?_)
 rw [X4,hs]
 refine At.cons (fun e=>by cases e) (h3.keep fun i h1 h2=>hout i (by omega) (by rw [QL] at h2;omega) (by omega))
def GnQ (X:AH) (q n:Nat) (ord:List Int) (l:List G) (o:AOut) (h':AH):Prop:=o = .ret (.tup [])∧NumP X h' q n (gsz l)∧NSt h' q (Xj gG ord l).2∧At h' n (layG 54 n (Xj gG ord l).1)
theorem QeU (l:List G) (own:Option Nat) (hps:∀ g∈l,pss g.args) (X0:AH) (q n:Nat) (ord:List Int) (hbl:l.length≤1000000000) (hb:ord.length+ndG l≤1000000000) (hq:n+gsz l≤q) (hqx:q+1<X0.length) (hS0:NSt X0 q ord) (hA0:At X0 n (layG 54 n l)) :
  QI Tryd.prog 30 [.ptr q 0 0,.sl 3 (lvG gv n l) own] X0 (GnQ X0 q n ord l):=by
 have hlv:=Yo gv n l
 refine Qe Tryd.func30 rfl Tryd.call30 Tryd.ntmps30 (congrArg Array.toList Tryd.results30) (by simp) ?_
 repeat (first|(((with_reducible refine Qa fun K E hK hE=>?_));simp -implicitDefEqProofs only [Qc,Qd,OpW,aop,undef,AS.ev,Qs,↓reduceIte,Nat.reduceLT,aLen,goInt,un32,hlv])|(with_reducible refine Qi ?_)|((with_reducible refine hK _ ?_);clear hK))
 obtain ⟨I,hI⟩:∃ I:Nat→AS→Prop,I=fun m' s=>∃ (j:Nat),m'=l.length - j∧j≤l.length∧NumP X0 s.h q n (gsz l)∧NSt s.h q (Xj gG ord (l.take j)).2∧At s.h n (layG 54 n (CurG ord l j)) ∧
  s.tm 0 = .ptr q 0 0∧s.tm 6 = .sl 3 (lvG gv n l) own∧s.tm 7 = .i l.length∧s.tm 8 = .i j:=⟨_,rfl⟩;refine QZ I ?_ (m:=l.length) ?_
 ·intro m' s hs;rw [hI] at hs;obtain ⟨tm,hp⟩:=s;dsimp only at hs;obtain ⟨j,rfl,hj,hP,hS,hA,t0,t6,t7,t8⟩:=hs
  by_cases hlt:j<l.length
  ·have z1:(((j:Nat):Int)<((l.length:Nat):Int)):=by omega
   obtain ⟨ec,ec',eo⟩:=Qfc ord hlt
   have hpl:=hP.long
   generalize hX:hp=X at *
   generalize hc1:(Xj gG ord (l.take j)).1=c1 at *
   have hc1s:gsz c1=gsz (l.take j):=by rw [← hc1,Yl]
   generalize hord:(Xj gG ord (l.take j)).2=ordj at *
   have hol:ordj.length+ndsL l[j].args≤1000000000:=by
    have h1:=QaV ord (l.take j)
    have h2:=QgR l hlt
    rw [hord] at h1;omega
   have hszu:gsz (l.take j)+(szs l[j].args+2+gsz (l.drop (j+1)))=gsz l:=by
    have:=congrArg gsz (List.take_append_drop j l)
    rw [Zj,List.drop_eq_getElem_cons hlt,gsz] at this
    exact this
   have hat:(lvG gv n l)[j]? = some (gv (n+gsz c1+1) l[j]):=by rw [Ql3 _ _ _ hlt,hc1s]
   have e1:(gv (n+gsz c1+1) l[j]).cells=[.i l[j].op,.v (.string l[j].name),lsl (n+gsz c1+1) l[j].args]:=rfl
   have e2:(gv (n+gsz c1+1) l[j]).isAgg=true:=rfl
   have wj:IntKind.i64.wrap (((j:Nat):Int)+1)=((j+1:Nat):Int):=X3 (by omega)
   have hsub:At X (n+gsz c1+1) (layA 54 (n+gsz c1+1) l[j].args):=at_g (by rw [← ec];exact hA)
   have cI:∀ c:AB,QI Tryd.prog 57 [.ptr q 0 0,lsl (n+gsz c1+1) l[j].args] (X++[c]) fun o h'=>o = .ret (.tup [])∧∃ Y:{Y:AH // TmQ (X++[c]) q (n+gsz c1+1) ordj l[j].args (.ret (.tup [])) Y},h'=Y.1:=fun c =>
    (QcK (szs l[j].args+1) l[j].args (by omega) (hps _ (List.getElem_mem hlt)) (X++[c]) q (n+gsz c1+1) ordj hol (by omega) (by rw [List.length_append];omega) (hS.app _) (hsub.app _)).mono fun o h' q=>by
      obtain ⟨rfl,q2⟩:=q
      exact ⟨rfl,⟨h',rfl,q2⟩,rfl⟩
   repeat (first|((first|(with_reducible (first|refine Qa fun K E hK hE=>?_|refine Qj fun K E hK hE=>?_|refine FunW.retE (FunW.call (cI _)) fun Y=>?_)));simp -implicitDefEqProofs only [Qc,Qd,OpW,QC,aop,undef,AS.ev,AV.QqF,↓reduceIte,Qf,Qw,Qv,Qy,Qm,QS,aBin,ei32,ti50,ti52,Qap,zi52,t0,t6,t7,t8,z1,hat,hlv,e1,e2,QP,seval])|(with_reducible (first|refine Qg fun K hK=>?_|refine Qi ?_|refine Qk ?_|refine Qb ?_|refine Qo ?_))|((with_reducible refine hK _ ?_);clear hK)|(refine Qh rfl ?_;simp only [↓reduceIte]))
   obtain ⟨Y,hY⟩:=Y
   obtain ⟨_,y1,y2,y3⟩:=hY
   repeat ((((with_reducible refine Qa fun K E hK hE=>?_));simp -implicitDefEqProofs only [Qc,Qd,OpW,QC,aop,undef,XF,AS.ev,Qs,AV.QqF,↓reduceIte,Qf,Qw,Qv,Qy,Qm,QS,aBin,aLen,goInt,ti0,zi0,ti3,zi3,un3,ti32,ei32,ai32,zi32,un32,ti50,ei50,ai50,zi50,un50,ti52,Yx,Qfy,Qap,zi52,sp52,ti54,YD,Yw,ZT,Zv,zi54,sp54,ti84,Qe6,QeK,zi84,sp84,Qo7,QoW,QoA,Qsc,Int.sub_zero,Zm,Qq,t8,wj,seval]))
   have hP2:NumP X Y q (n+gsz c1+1) (szs l[j].args):=⟨by have:=y1.long;rw [List.length_append] at this;omega,fun i hi hn=>by rw [y1.out i hi hn,List.getElem?_append_left (by omega)]⟩
   refine Xw.mk (m':=l.length - (j+1)) (by omega) ?_
   rw [hI]
   refine ⟨j+1,rfl,by omega,hP.trans hP2 (by omega) (by omega),by rw [eo];exact y2,?_,t0,t6,t7,by rw [wj];rfl⟩
   rw [ec']
   refine QmT (g:=l[j]) (by rw [← ec];exact hA) (YG _ _ _) y3 fun i h1 h2 h3=>hP2.out i ?_ h3
   rw [Zj,gsz] at h2;omega
  ·have hjl:j=l.length:=by omega
   have z1:¬ (((j:Nat):Int)<((l.length:Nat):Int)):=by omega
   repeat (first|(((with_reducible refine Qa fun K E hK hE=>?_));simp -implicitDefEqProofs only [Qc,Qd,OpW,aop,AS.ev,Nat.reduceLT,aBin,t7,t8,z1])|(with_reducible (first|refine Qg fun K hK=>?_|refine QE ?_|refine QA ?_|refine QB ?_))|((with_reducible refine hK _ ?_);clear hK)|(refine Qh rfl ?_;simp only [↓reduceIte,Qrt]))
   simp -implicitDefEqProofs only [Qrr,Qrv,List.mapM_nil,Option.pure_def,Qrr,QG,Qp,Qrz]
   subst hjl
   have hcur:CurG ord l l.length=(Xj gG ord l).1:=by rw [CurG,List.take_length,List.drop_length,List.append_nil]
   rw [List.take_length] at hS
   rw [hcur] at hA
   exact .inr ⟨rfl,hP,hS,hA⟩
 ·rw [hI]
  have hcur:CurG ord l 0=l:=by simp [CurG,Xj]
  exact ⟨0,rfl,Nat.zero_le _,NumP.refl _ _ _ _,by simpa [Xj] using hS0,by rw [hcur];exact hA0,rfl,rfl,rfl,rfl⟩
theorem QeM (l:List G) (own:Option Nat) (hps:∀ g∈l,pss g.args) (X0:AH) (q n:Nat) (ord:List Int) (hbl:l.length≤1000000000) (hb:ord.length+ndG l≤1000000000) (hq:n+gsz l≤q) (hqx:q+1<X0.length) (hS0:NSt X0 q ord) (hA0:At X0 n (layG 54 n l)) :
  QI Tryd.prog 42 [.ptr q 0 0,.sl 2 (lvG av n l) own] X0 (GnQ X0 q n ord l):=by
 have hlv:=Yo av n l
 refine Qe Tryd.func42 rfl Tryd.call42 Tryd.ntmps42 (congrArg Array.toList Tryd.results42) (by simp) ?_
 repeat (first|(((with_reducible refine Qa fun K E hK hE=>?_));simp -implicitDefEqProofs only [Qc,Qd,OpW,aop,undef,AS.ev,Qs,↓reduceIte,Nat.reduceLT,aLen,goInt,un31,hlv])|(with_reducible refine Qi ?_)|((with_reducible refine hK _ ?_);clear hK))
 obtain ⟨I,hI⟩:∃ I:Nat→AS→Prop,I=fun m' s=>∃ (j:Nat),m'=l.length - j∧j≤l.length∧NumP X0 s.h q n (gsz l)∧NSt s.h q (Xj gG ord (l.take j)).2∧At s.h n (layG 54 n (CurG ord l j)) ∧
  s.tm 0 = .ptr q 0 0∧s.tm 6 = .sl 2 (lvG av n l) own∧s.tm 7 = .i l.length∧s.tm 8 = .i j:=⟨_,rfl⟩;refine QZ I ?_ (m:=l.length) ?_
 ·intro m' s hs;rw [hI] at hs;obtain ⟨tm,hp⟩:=s;dsimp only at hs;obtain ⟨j,rfl,hj,hP,hS,hA,t0,t6,t7,t8⟩:=hs
  by_cases hlt:j<l.length
  ·have z1:(((j:Nat):Int)<((l.length:Nat):Int)):=by omega
   obtain ⟨ec,ec',eo⟩:=Qfc ord hlt
   have hpl:=hP.long
   generalize hX:hp=X at *
   generalize hc1:(Xj gG ord (l.take j)).1=c1 at *
   have hc1s:gsz c1=gsz (l.take j):=by rw [← hc1,Yl]
   generalize hord:(Xj gG ord (l.take j)).2=ordj at *
   have hol:ordj.length+ndsL l[j].args≤1000000000:=by
    have h1:=QaV ord (l.take j)
    have h2:=QgR l hlt
    rw [hord] at h1;omega
   have hszu:gsz (l.take j)+(szs l[j].args+2+gsz (l.drop (j+1)))=gsz l:=by
    have:=congrArg gsz (List.take_append_drop j l)
    rw [Zj,List.drop_eq_getElem_cons hlt,gsz] at this
    exact this
   have hat:(lvG av n l)[j]? = some (av (n+gsz c1+1) l[j]):=by rw [Ql3 _ _ _ hlt,hc1s]
   have e1:(av (n+gsz c1+1) l[j]).cells=[.v (.string l[j].name),lsl (n+gsz c1+1) l[j].args]:=rfl
   have e2:(av (n+gsz c1+1) l[j]).isAgg=true:=rfl
   have wj:IntKind.i64.wrap (((j:Nat):Int)+1)=((j+1:Nat):Int):=X3 (by omega)
   have hsub:At X (n+gsz c1+1) (layA 54 (n+gsz c1+1) l[j].args):=at_g (by rw [← ec];exact hA)
   have cI:∀ c:AB,QI Tryd.prog 57 [.ptr q 0 0,lsl (n+gsz c1+1) l[j].args] (X++[c]) fun o h'=>o = .ret (.tup [])∧∃ Y:{Y:AH // TmQ (X++[c]) q (n+gsz c1+1) ordj l[j].args (.ret (.tup [])) Y},h'=Y.1:=fun c =>
    (QcK (szs l[j].args+1) l[j].args (by omega) (hps _ (List.getElem_mem hlt)) (X++[c]) q (n+gsz c1+1) ordj hol (by omega) (by rw [List.length_append];omega) (hS.app _) (hsub.app _)).mono fun o h' q=>by
      obtain ⟨rfl,q2⟩:=q
      exact ⟨rfl,⟨h',rfl,q2⟩,rfl⟩
   repeat (first|((first|(with_reducible (first|refine Qa fun K E hK hE=>?_|refine Qj fun K E hK hE=>?_|refine FunW.retE (FunW.call (cI _)) fun Y=>?_)));simp -implicitDefEqProofs only [Qc,Qd,OpW,QC,aop,undef,AS.ev,AV.QqF,↓reduceIte,Qf,Qw,Qv,Qy,Qm,QS,aBin,ei31,ti50,ti72,Z7,zi72,t0,t6,t7,t8,z1,hat,hlv,e1,e2,QP,seval])|(with_reducible (first|refine Qg fun K hK=>?_|refine Qi ?_|refine Qk ?_|refine Qb ?_|refine Qo ?_))|((with_reducible refine hK _ ?_);clear hK)|(refine Qh rfl ?_;simp only [↓reduceIte]))
   obtain ⟨Y,hY⟩:=Y
   obtain ⟨_,y1,y2,y3⟩:=hY
   repeat ((((with_reducible refine Qa fun K E hK hE=>?_));simp -implicitDefEqProofs only [Qc,Qd,OpW,QC,aop,undef,XF,AS.ev,Qs,AV.QqF,↓reduceIte,Qf,Qw,Qv,Qy,Qm,QS,aBin,aLen,goInt,ti0,zi0,ti3,zi3,un3,ti31,ei31,ai31,zi31,un31,ti50,ei50,ai50,zi50,un50,ti54,YD,Yw,ZT,Zv,zi54,sp54,ti72,Qfw,Z7,zi72,sp72,ti84,Qe6,QeK,zi84,sp84,Qo7,QoW,QoA,Qsc,Int.sub_zero,Zm,Qq,t8,wj,seval]))
   have hP2:NumP X Y q (n+gsz c1+1) (szs l[j].args):=⟨by have:=y1.long;rw [List.length_append] at this;omega,fun i hi hn=>by rw [y1.out i hi hn,List.getElem?_append_left (by omega)]⟩
   refine Xw.mk (m':=l.length - (j+1)) (by omega) ?_
   rw [hI]
   refine ⟨j+1,rfl,by omega,hP.trans hP2 (by omega) (by omega),by rw [eo];exact y2,?_,t0,t6,t7,by rw [wj];rfl⟩
   rw [ec']
   refine QmT (g:=l[j]) (by rw [← ec];exact hA) (YG _ _ _) y3 fun i h1 h2 h3=>hP2.out i ?_ h3
   rw [Zj,gsz] at h2;omega
  ·have hjl:j=l.length:=by omega
   have z1:¬ (((j:Nat):Int)<((l.length:Nat):Int)):=by omega
   repeat (first|(((with_reducible refine Qa fun K E hK hE=>?_));simp -implicitDefEqProofs only [Qc,Qd,OpW,aop,AS.ev,Nat.reduceLT,aBin,t7,t8,z1])|(with_reducible (first|refine Qg fun K hK=>?_|refine QE ?_|refine QA ?_|refine QB ?_))|((with_reducible refine hK _ ?_);clear hK)|(refine Qh rfl ?_;simp only [↓reduceIte,Qrt]))
   simp -implicitDefEqProofs only [Qrr,Qrv,List.mapM_nil,Option.pure_def,Qrr,QG,Qp,Qrz]
   subst hjl
   have hcur:CurG ord l l.length=(Xj gG ord l).1:=by rw [CurG,List.take_length,List.drop_length,List.append_nil]
   rw [List.take_length] at hS
   rw [hcur] at hA
   exact .inr ⟨rfl,hP,hS,hA⟩
 ·rw [hI]
  have hcur:CurG ord l 0=l:=by simp [CurG,Xj]
  exact ⟨0,rfl,Nat.zero_le _,NumP.refl _ _ _ _,by simpa [Xj] using hS0,by rw [hcur];exact hA0,rfl,rfl,rfl,rfl⟩
theorem Qp1 {c:Cx} (hst:St c) {id ty n:Nat} {xs xs':List AV} {j:Nat} {v w:AV} (hb:c.h[id]? = some (.cells ty n xs)) (hj:(flat xs)[j]? = some v) (hf:flat xs'=(flat xs).set j w) (hw:Wk v w) (hc:∀ x∈xs',x.cells.length=n) :
  ∃ c2,Ev c c2∧St c2∧c2.h=c.h.set id (AB.cells ty n xs')∧c2.w=c.w:=by
 obtain ⟨B,cur,hρ,hcur,h3,h4⟩:=hst.blocks id _ hb
 have hev2:=Ev.turn (b':=.cells ty n xs') hst hb rfl hρ (w:=c.w) rfl rfl rfl rfl (fun _ _=>rfl) (.inr ⟨_,rfl,rfl,fun _ cur _ h=>⟨cur,h,rfl⟩⟩)
 have hst2:=St.turn (b':=.cells ty n xs') hst hb rfl hρ (w:=c.w) (fun _ _=>rfl) hev2 ⟨B,cur,hρ,hcur,hc,by
  intro i a' hi
  rw [hf] at hi
  by_cases e:j=i
  ·subst e
   rw [List.getElem?_set_self (Qr hj)] at hi
   cases hi
   obtain ⟨u,g1,g2,g3⟩:=h4 j _ hj
   exact ⟨_,g1,g2,(hw _ _ g3).ev hst hev2⟩
  ·rw [List.getElem?_set_ne e] at hi
   obtain ⟨u,g1,g2,g3⟩:=h4 i _ hi
   exact ⟨u,g1,g2,g3.ev hst hev2⟩⟩
 exact ⟨_,hev2,hst2,rfl,rfl⟩
theorem Qak {P:Program} {N:Nat} {code:Code} {Q:AExit→AS→Prop} {tm:Nat→AV} {h:AH} (id ty n:Nat) (xs xs':List AV) (j:Nat) {v w:AV} (hw:Wk v w) (hb:h[id]? = some (.cells ty n xs))
  (hj:(flat xs)[j]? = some v) (hf:flat xs'=(flat xs).set j w) (hc:∀ x∈xs',x.cells.length=n)
  (H:XE P N code Q ⟨tm,h.set id (AB.cells ty n xs')⟩):XE P N code Q ⟨tm,h⟩:=by
 intro F m base c a hF hst hr R hR
 have hh:c.h=h:=hr.h
 subst hh
 obtain ⟨c2,hev,hst2,hh2,hw2⟩:=Qp1 hst hb hj hf hw hc
 rw [← hw2]
 exact H F m base c2 a hF hst2 ⟨hh2,hr.size,Nat.le_trans hr.above hev.size,hr.defers.ev hev,RoundOk.ev hev hr.round,fun t=>(hr.tm t).ev hst hev⟩ R fun e' s' c' a' ex hq h1 h2 h3 h4=>hR e' s' c' a' ex hq (Ev.trans hst hev h1) h2 h3 h4
def Pz.to (P:Pz) (n:Nat):Pz:=⟨P.all,P.i,P.j,n⟩
def pN (P:Pz) (s:PS) (own:Option Nat):AB:=.cells 66 4 [.agg [.sl 3 (tks P.all) none,.i ((P.all.length - s.toks.length:Nat):Int),.sl 1 (strs s.names) own,.mp P.j]]
structure PIn (P:Pz) (X:AH) (s:PS) (own:Option Nat) (m:List (ByteArray×AV)):Prop where
 i:X[P.i]? = some (pN P s own)
 j:X[P.j]? = some (.map (smap m))
theorem PIn.ok {P:Pz} {X:AH} {s:PS} {own:Option Nat} {m:List (ByteArray×AV)} (H:PIn P X s own m) (L:AH) (x:AB):(P.to X.length).ok (X++(x::L)):=by
 have h1:=Qr H.i
 have h2:=Qr H.j
 refine ⟨by rw [List.length_append];simp only [Pz.to];omega,by rw [List.length_append];simp only [Pz.to];omega,by rw [List.length_append,List.length_cons];simp only [Pz.to];omega,?_,?_,?_⟩
 ·intro e
  simp only [Pz.to] at e
  have h3:=H.i
  rw [e,H.j] at h3
  cases h3
 ·simp only [Pz.to];omega
 ·simp only [Pz.to];omega
theorem Qke {X:AH} {P:Pz} {s:PS} {own:Option Nat} {m:List (ByteArray×AV)} (H:PIn P X s own m):QI Tryd.prog 33 [.ptr P.i 0 0] X fun o h'=>o = .ret (.tup [])∧h'=ph (X++[.dead]) (P.to X.length) ⟨s.toks,[]⟩:=by
 have hi:=H.i
 have hj:=H.j
 have h1:=Qr hi
 have h2:=Qr hj
 have h3:P.i≠P.j:=(H.ok [] .dead).ij
 rw [pN] at hi
 have a1:∀ (y:AB),(X.set P.i y)[P.i]? = some y:=fun y=>List.getElem?_set_self (by omega)
 refine Qe Tryd.func33 rfl Tryd.call33 Tryd.ntmps33 (congrArg Array.toList Tryd.results33) (by simp) ?_
 iterate 3 (try (first|(((with_reducible refine Qa fun K E hK hE=>?_));simp -implicitDefEqProofs only [Qc,Qd,OpW,aop,undef,AS.ev,Qs,AV.QqF,↓reduceIte,Qf,Qy,Qm,ti46,YP,Qq,hi,seval])|(with_reducible refine Qg fun K hK=>?_)|((with_reducible refine hK _ ?_);clear hK)))
 refine YB P.i 66 4 1 (.grow 9 1 0) (.inr ⟨_,rfl⟩) [.agg [.sl 3 (tks P.all) none,.i ((P.all.length - s.toks.length:Nat):Int),.v (.slice none 0 0),.mp P.j]] [.agg [.sl 3 (tks P.all) none,.i ((P.all.length - s.toks.length:Nat):Int),.sl 1 [] (some X.length),.mp P.j]] 2 (a1 _) rfl (by simp [flat,AV.cells]) (by simp [AV.cells]) ?_
 rw [List.set_append_left _ _ (by rw [List.length_set];omega),List.set_set]
 generalize hB:AB.cells 66 4 [.agg [.sl 3 (tks P.all) none,.i ((P.all.length - s.toks.length:Nat):Int),.sl 1 [] (some X.length),.mp P.j]]=B at *
 have b1:(X.set P.i B++[.grow 9 1 0])[P.i]? = some (AB.cells 66 4 [.agg [.sl 3 (tks P.all) none,.i ((P.all.length - s.toks.length:Nat):Int),.sl 1 [] (some X.length),.mp P.j]]):=by rw [List.getElem?_append_left (by rw [List.length_set];omega),a1,hB]
 have b2:(X.set P.i B++[.grow 9 1 0])[P.j]? = some (.map (smap m)):=by rw [List.getElem?_append_left (by rw [List.length_set];omega),List.getElem?_set_ne h3];exact hj
 have nn:notNil Tryd.prog 64 (X.set P.i B++[.grow 9 1 0]) (.mp P.j) (.map none)=true:=by
  have hu:Tryd.prog.underlying 64=some (.map 9 3):=by kernel_rfl
  simp only [notNil,hu,b2]
 repeat (first|((first|(with_reducible (first|refine Qa fun K E hK hE=>?_|refine Qj fun K E hK hE=>?_)));simp -implicitDefEqProofs only [Qc,Qd,OpW,aop,undef,AS.ev,Qs,↓reduceIte,Qf,Qw,Qv,aBin,ti64,un64,YT,QhW,Qq,b1,b2,nn,seval])|(with_reducible (first|refine Qk ?_|refine Qb ?_))|((with_reducible refine hK _ ?_);clear hK)|(refine Qh rfl ?_;simp only [↓reduceIte,Qrt]))
 simp -implicitDefEqProofs only [Qrr,Qrv,List.mapM_nil,Option.pure_def,Qrr,QG,Qp,Qrz]
 refine .inr ⟨rfl,?_⟩
 rw [List.set_append_left _ _ (by rw [List.length_set];omega)]
 unfold ph
 rw [List.set_append_left _ _ (by simp only [Pz.to];omega),List.set_append_left _ _ (by simp only [Pz.to,List.length_set];omega),List.set_append_right _ _ (by simp only [Pz.to,List.length_set];omega),← hB]
 simp only [Pz.to,List.length_set,Nat.sub_self]
 rfl
theorem Qiy {X:AH} {P:Pz} {s:PS} (hi:X[P.i]? = some (.cells 66 4 [.agg [.sl 3 (tks P.all) none,.i ((P.all.length - s.toks.length:Nat):Int),.v (.slice none 0 0),.v (.map none)]])) (hj:P.j=X.length+1) :
  QI Tryd.prog 33 [.ptr P.i 0 0] X fun o h'=>o = .ret (.tup [])∧h'=ph (X++[.dead,.dead]) (P.to X.length) ⟨s.toks,[]⟩:=by
 have h1:=Qr hi
 have a1:∀ (y:AB),(X.set P.i y)[P.i]? = some y:=fun y=>List.getElem?_set_self (by omega)
 have nM:pv Tryd.prog (do eqGuard .eql 64 (Operand.tmp 8) (Operand.const (Value.map none)) (.map none) (.map none);binOp .eql 64 (.map none) (.map none))=some (.bool true):=by kernel_rfl
 refine Qe Tryd.func33 rfl Tryd.call33 Tryd.ntmps33 (congrArg Array.toList Tryd.results33) (by simp) ?_
 iterate 3 (try (first|(((with_reducible refine Qa fun K E hK hE=>?_));simp -implicitDefEqProofs only [Qc,Qd,OpW,aop,undef,AS.ev,Qs,AV.QqF,↓reduceIte,Qf,Qy,Qm,ti46,YP,Qq,hi,seval])|(with_reducible refine Qg fun K hK=>?_)|((with_reducible refine hK _ ?_);clear hK)))
 refine YB P.i 66 4 1 (.grow 9 1 0) (.inr ⟨_,rfl⟩) [.agg [.sl 3 (tks P.all) none,.i ((P.all.length - s.toks.length:Nat):Int),.v (.slice none 0 0),.v (.map none)]] [.agg [.sl 3 (tks P.all) none,.i ((P.all.length - s.toks.length:Nat):Int),.sl 1 [] (some X.length),.v (.map none)]] 2 (a1 _) rfl (by simp [flat,AV.cells]) (by simp [AV.cells]) ?_
 rw [List.set_append_left _ _ (by rw [List.length_set];omega),List.set_set]
 have b1:∀ (B:AB) (L:AH),(X.set P.i B++L)[P.i]? = some B:=fun B L=>by rw [List.getElem?_append_left (by rw [List.length_set];omega),a1]
 have b2:∀ (B C:AB) (L:AH),(X.set P.i B++L).set P.i C=X.set P.i C++L:=fun B C L=>by rw [List.set_append_left _ _ (by rw [List.length_set];omega),List.set_set]
 have b3:∀ (B:AB) (L:AH) (k:Nat),(X.set P.i B++L)[X.length+k]? = L[k]? := fun B L k=>by rw [List.getElem?_append_right (by rw [List.length_set];omega),List.length_set];congr 1;omega
 have b4:∀ (B C:AB) (L:AH) (k:Nat),(X.set P.i B++L).set (X.length+k) C=X.set P.i B++L.set k C:=fun B C L k=>by rw [List.set_append_right _ _ (by rw [List.length_set];omega),List.length_set];congr 2;omega
 repeat (first|((first|(with_reducible (first|refine Qa fun K E hK hE=>?_|refine Qj fun K E hK hE=>?_)));simp -implicitDefEqProofs only [Qc,Qd,OpW,aop,undef,AS.ev,Qs,AV.QqF,↓reduceIte,Qf,Qw,Qv,Qy,Qm,aBin,ti64,un64,YT,QhW,Qq,b1,b2,b3,b4,nM,List.length_set,Qsg,seval])|(with_reducible refine Qb ?_)|((with_reducible refine hK _ ?_);clear hK)|(refine Qh rfl ?_;simp only [↓reduceIte]))
 simp -implicitDefEqProofs only [Qrr,Qrv,List.mapM_nil,Option.pure_def,Qrr,QG,Qp,Qrz]
 refine .inr ⟨rfl,?_⟩
 unfold ph
 rw [List.set_append_left _ _ (by simp only [Pz.to];omega),List.set_append_right _ _ (by simp only [Pz.to,List.length_set];omega),List.set_append_right _ _ (by simp only [Pz.to,List.length_set];omega)]
 simp only [Pz.to,List.length_set,Nat.sub_self,hj,Nat.add_sub_cancel_left]
 rfl
end Go.Proofs.YticgcpebdldbgaaDoor.Ab
set_option maxRecDepth 4000
namespace Go.Proofs.YticgcpebdldbgaaDoor.Ab
open Go.Proofs
section
variable {P:Pz} {s:PS} {own:Option Nat} (hW:Wst P.all s) {X:AH} (hX:X[P.i]? = some (pN P s own))
include hW hX
theorem Qoc (L:AH):(X++L)[P.i]? = some (pN P s own):=by have _u:=hW;rw [List.getElem?_append_left (Qr hX)];exact hX
theorem Qj8:QI Tryd.prog 18 [.ptr P.i 0 0] X fun o h'=>o = .ret s.tk.av∧h'=X:=by
 obtain ⟨h1,h2⟩:=Qly hW
 have hi:=Qoc hW hX
 have hi0:=hX
 rw [pN] at hi0
 simp only [pN] at hi
 have e1:=Tk.QqG s.tk
 have e2:=Tk.QqH s.tk
 generalize P.all.length - s.toks.length=k at *
 refine Qe Tryd.func18 rfl Tryd.call18 Tryd.ntmps18 (congrArg Array.toList Tryd.results18) (by simp) ?_
 repeat (first|((first|(with_reducible refine Qa fun K E hK hE=>?_)|(refine QQ (id:=1) [(0,0),(1,0),(2,0),(3,0),(4,0),(5,0),(6,0),(7,0),(8,0),(9,0),(10,2)] mixed (by kernel_rfl) fun K hK=>?_));simp -implicitDefEqProofs only [Qc,Qd,OpW,aop,undef,AS.ev,Qs,AV.QqF,↓reduceIte,Qf,Qw,Qv,Qy,Qm,QS,ti3,ti37,ei37,ti60,zi60,Qg2,Qfo,Qq,hi,h1,h2,Qbp,e1,e2,seval])|(with_reducible refine Qn ?_)|((with_reducible refine hK _ ?_);clear hK))
 simp -implicitDefEqProofs only [Qc,↓reduceIte,Qw,Qv,ti60,Qw,Qv,e1,e2,QG,Qp,Qt,Qrz,seval]
 exact Ql (htake _ _) (.keep (Qb8 _ _)) ⟨rfl,rfl⟩
theorem QiW (hk:s.tk.kind=0):QI Tryd.prog 27 [.ptr P.i 0 0] X fun o h'=>o = .ret (.tup [])∧h'=X:=by
 have cn:=Qj8 hW hX
 have hi0:=hX
 rw [pN] at hi0
 have e1:=Tk.QqG s.tk
 have e2:=Tk.QqH s.tk
 have z1:(s.tk.kind != 0)=false:=by simpa using hk
 refine Qe Tryd.func27 rfl Tryd.call27 Tryd.ntmps27 (congrArg Array.toList Tryd.results27) (by simp) ?_
 repeat (first|((first|(with_reducible (first|refine Qa fun K E hK hE=>?_|refine FunW.ret (FunW.call cn) ?_)));simp -implicitDefEqProofs only [Qc,Qd,OpW,QC,aop,undef,AS.ev,Qs,AV.QqF,↓reduceIte,Qf,Qw,Qv,Qy,Qm,aBin,ti3,ti60,QM,zi60,e1,e2,z1,seval])|(with_reducible refine Qk ?_)|((with_reducible refine hK _ ?_);clear hK)|(refine Qh rfl ?_;simp only [↓reduceIte,Qrt]))
 simp -implicitDefEqProofs only [Qrr,Qrv,List.mapM_nil,Option.pure_def,Qrr,QG,Qp,Qrz]
 exact Ql (htake _ _) (.keep (.tup _ (by simp))) ⟨rfl,rfl⟩
theorem QmR (hk:s.tk.kind≠0):QI Tryd.prog 27 [.ptr P.i 0 0] X fun o h'=>o = .panic (Fl s.tk.pos 16)∧h'=X:=by
 have cn:=Qj8 hW hX
 have hi0:=hX
 rw [pN] at hi0
 have e1:=Tk.QqG s.tk
 have e2:=Tk.QqH s.tk
 have z1:(s.tk.kind != 0)=true:=by simpa using hk
 have cf:=YF s.tk 16
 refine Qe Tryd.func27 rfl Tryd.call27 Tryd.ntmps27 (congrArg Array.toList Tryd.results27) (by simp) ?_
 repeat (first|((first|(with_reducible (first|refine Qa fun K E hK hE=>?_|refine Qj fun K E hK hE=>?_|refine FunW.ret (FunW.call cn) ?_|refine FunW.pan (FunW.call (cf _ _)) ?_)));simp -implicitDefEqProofs only [Qc,Qd,OpW,QC,aop,undef,AS.ev,Qs,AV.QqF,↓reduceIte,Qf,Qw,Qv,Qy,Qm,aBin,ti3,ti60,QM,zi60,e1,e2,z1,seval])|((with_reducible refine hK _ ?_);clear hK)|(refine Qh rfl ?_;simp only [↓reduceIte])|(with_reducible refine hE _ _ ?_))
 exact Ql (htake _ _) (.keep (Qbr _ _ _)) ⟨rfl,rfl⟩
theorem Qlf (n m:Int) (hm:¬ m≤n):QI Tryd.prog 19 [.ptr P.i 0 0,.i n,.i m] X fun o h'=>o = .ret (.tup [])∧h'=X:=by
 have _u:=hX;have _v:=hW
 have z1:¬ n≥m:=hm
 refine Qe Tryd.func19 rfl Tryd.call19 Tryd.ntmps19 (congrArg Array.toList Tryd.results19) (by simp) ?_
 repeat (first|(((with_reducible refine Qa fun K E hK hE=>?_));simp -implicitDefEqProofs only [Qc,Qd,OpW,aop,undef,AS.ev,Qs,↓reduceIte,aBin,hm,seval])|(with_reducible refine Qk ?_)|((with_reducible refine hK _ ?_);clear hK)|(refine Qh rfl ?_;simp only [↓reduceIte,Qrt]))
 simp -implicitDefEqProofs only [Qrr,Qrv,List.mapM_nil,Option.pure_def,Qrr,QG,Qp,Qrz]
 exact .inr ⟨rfl,rfl⟩
theorem QnP (n m:Int) (hm:m≤n):QI Tryd.prog 19 [.ptr P.i 0 0,.i n,.i m] X fun o h'=>o = .panic (Fl s.tk.pos 6)∧h'=X:=by
 have z1:n≥m:=hm
 have hi0:=hX
 rw [pN] at hi0
 have cn:=Qj8 hW hX
 have cf:=YF s.tk 6
 refine Qe Tryd.func19 rfl Tryd.call19 Tryd.ntmps19 (congrArg Array.toList Tryd.results19) (by simp) ?_
 repeat (first|((first|(with_reducible (first|refine Qa fun K E hK hE=>?_|refine Qj fun K E hK hE=>?_|refine FunW.ret (FunW.call cn) ?_|refine FunW.pan (FunW.call (cf _ _)) ?_)));simp -implicitDefEqProofs only [Qc,Qd,OpW,QC,aop,undef,AS.ev,Qs,↓reduceIte,aBin,hm,seval])|((with_reducible refine hK _ ?_);clear hK)|(refine Qh rfl ?_;simp only [↓reduceIte])|(with_reducible refine hE _ _ ?_))
 exact .inr ⟨rfl,rfl⟩
end
theorem Qf2 (X:AH) (q n:Nat) (ord:List Int) (hS:NSt X q ord):QI Tryd.prog 30 [.ptr q 0 0,.v (.slice none 0 0)] X (GnQ X q n ord []):=by
 have hn:=fun t'=>Qcf Tryd.prog 32 t' 52 (by kernel_rfl)
 refine Qe Tryd.func30 rfl Tryd.call30 Tryd.ntmps30 (congrArg Array.toList Tryd.results30) (by simp) ?_
 repeat (first|(((with_reducible refine Qa fun K E hK hE=>?_));simp -implicitDefEqProofs only [Qc,Qd,OpW,aop,undef,AS.ev,Qs,↓reduceIte,Nat.reduceLT,aLen,goInt,hn])|(with_reducible refine Qi ?_)|((with_reducible refine hK _ ?_);clear hK))
 obtain ⟨I,hI⟩:∃ I:Nat→AS→Prop,I=fun m' s=>s.tm 7 = .i 0∧s.tm 8 = .i 0∧s.h=X:=⟨_,rfl⟩;refine QZ I ?_ (m:=0) ?_
 ·intro m' s hs;rw [hI] at hs;obtain ⟨tm,hp⟩:=s;dsimp only at hs;obtain ⟨t9,t10,rfl⟩:=hs
  have z:¬ ((0:Int)<0):=by omega
  repeat (first|(((with_reducible refine Qa fun K E hK hE=>?_));simp -implicitDefEqProofs only [Qc,Qd,OpW,aop,AS.ev,Nat.reduceLT,aBin,t9,t10,z])|(with_reducible (first|refine Qg fun K hK=>?_|refine QE ?_|refine QA ?_|refine QB ?_))|((with_reducible refine hK _ ?_);clear hK)|(refine Qh rfl ?_;simp only [↓reduceIte,Qrt]))
  simp -implicitDefEqProofs only [Qrr,Qrv,List.mapM_nil,Option.pure_def,Qrr,QG,Qp,Qrz]
  exact .inr ⟨rfl,NumP.refl _ _ _ _,hS,At.nil _ _⟩
 ·rw [hI]
  exact ⟨rfl,rfl,rfl⟩
theorem QfV (X:AH) (q n:Nat) (ord:List Int) (hS:NSt X q ord):QI Tryd.prog 42 [.ptr q 0 0,.v (.slice none 0 0)] X (GnQ X q n ord []):=by
 have hn:=fun t'=>Qcf Tryd.prog 31 t' 72 (by kernel_rfl)
 refine Qe Tryd.func42 rfl Tryd.call42 Tryd.ntmps42 (congrArg Array.toList Tryd.results42) (by simp) ?_
 repeat (first|(((with_reducible refine Qa fun K E hK hE=>?_));simp -implicitDefEqProofs only [Qc,Qd,OpW,aop,undef,AS.ev,Qs,↓reduceIte,Nat.reduceLT,aLen,goInt,hn])|(with_reducible refine Qi ?_)|((with_reducible refine hK _ ?_);clear hK))
 obtain ⟨I,hI⟩:∃ I:Nat→AS→Prop,I=fun m' s=>s.tm 7 = .i 0∧s.tm 8 = .i 0∧s.h=X:=⟨_,rfl⟩;refine QZ I ?_ (m:=0) ?_
 ·intro m' s hs;rw [hI] at hs;obtain ⟨tm,hp⟩:=s;dsimp only at hs;obtain ⟨t9,t10,rfl⟩:=hs
  have z:¬ ((0:Int)<0):=by omega
  repeat (first|(((with_reducible refine Qa fun K E hK hE=>?_));simp -implicitDefEqProofs only [Qc,Qd,OpW,aop,AS.ev,Nat.reduceLT,aBin,t9,t10,z])|(with_reducible (first|refine Qg fun K hK=>?_|refine QE ?_|refine QA ?_|refine QB ?_))|((with_reducible refine hK _ ?_);clear hK)|(refine Qh rfl ?_;simp only [↓reduceIte,Qrt]))
  simp -implicitDefEqProofs only [Qrr,Qrv,List.mapM_nil,Option.pure_def,Qrr,QG,Qp,Qrz]
  exact .inr ⟨rfl,NumP.refl _ _ _ _,hS,At.nil _ _⟩
 ·rw [hI]
  exact ⟨rfl,rfl,rfl⟩
def sG (vw:Nat→G→AV) (w n:Nat) (l:List G):AV:=if l.isEmpty then .v (.slice none 0 0) else .sl w (lvG vw n l) none
theorem Qcl (vw:Nat→G→AV) (w n:Nat) (l:List G):(sG vw w n l).cell1=true:=by unfold sG;split <;> rfl
theorem Qdw (vw:Nat→G→AV) (w n:Nat) (l:List G):(sG vw w n l).cells=[sG vw w n l]:=by unfold sG;split <;> rfl
theorem Qdr (vw:Nat→G→AV) (w n:Nat) (l:List G):(sG vw w n l).isAgg=false:=by unfold sG;split <;> rfl
theorem QeY (vw:Nat→G→AV) (w n:Nat) {l:List G} (h:l≠[]):sG vw w n l = .sl w (lvG vw n l) none:=by unfold sG;rw [if_neg (by simpa using h)]
theorem Qpx (vw:Nat→G→AV) (w n:Nat):sG vw w n [] = .v (.slice none 0 0):=rfl
theorem Qew (l:List G) (hps:∀ g∈l,pss g.args) (X0:AH) (q n:Nat) (ord:List Int) (hbl:l.length≤1000000000) (hb:ord.length+ndG l≤1000000000) (hq:n+gsz l≤q) (hqx:q+1<X0.length) (hS0:NSt X0 q ord) (hA0:At X0 n (layG 54 n l)) :
  QI Tryd.prog 30 [.ptr q 0 0,sG gv 3 n l] X0 (GnQ X0 q n ord l):=by
 by_cases e:l=[]
 ·subst e;exact Qf2 X0 q n ord hS0
 ·rw [QeY _ _ _ e];exact QeU l none hps X0 q n ord hbl hb hq hqx hS0 hA0
theorem Qhw (l:List G) (hps:∀ g∈l,pss g.args) (X0:AH) (q n:Nat) (ord:List Int) (hbl:l.length≤1000000000) (hb:ord.length+ndG l≤1000000000) (hq:n+gsz l≤q) (hqx:q+1<X0.length) (hS0:NSt X0 q ord) (hA0:At X0 n (layG 54 n l)) :
  QI Tryd.prog 42 [.ptr q 0 0,sG av 2 n l] X0 (GnQ X0 q n ord l):=by
 by_cases e:l=[]
 ·subst e;exact QfV X0 q n ord hS0
 ·rw [QeY _ _ _ e];exact QeM l none hps X0 q n ord hbl hb hq hqx hS0 hA0
end Go.Proofs.YticgcpebdldbgaaDoor.Ab
set_option maxRecDepth 4000
namespace Go.Proofs.YticgcpebdldbgaaDoor.Ab
open Go.Proofs
def goalsOk (l:List G):Prop:=∀ g∈l,QY g=true
def atomsOk (l:List G):Prop:=∀ g∈l,Q1 g=true
theorem QbV (most:Nat):∀ (m:Nat) (l:List G) (s:PS) (a:List G) (s2:PS),goalsOk l→X5 most m l s = .ok a s2→goalsOk a∧a.length≤most∧l.length<a.length
 |0,_,_,_,_,_,h=>by cases h
 |m+1,l,s,a,s2,hl,h=>by
  rw [X5] at h
  split at h
  ·cases h
  ·rename_i hm
   obtain ⟨g,s1,h1,h⟩:=bind_ok h
   split at h
   ·cases h
   ·rename_i hg
    have hl2:goalsOk (l++[g]):=fun x hx=>by
     rcases List.mem_append.1 hx with hx|hx
     ·exact hl x hx
     ·rw [List.mem_singleton.1 hx];simpa using hg
    split at h
    ·obtain ⟨a1,a2,a3⟩:=QbV most m _ _ a s2 hl2 h
     rw [List.length_append,List.length_singleton] at a3
     exact ⟨a1,a2,by omega⟩
    ·cases h
     refine ⟨hl2,?_,?_⟩ <;> rw [List.length_append,List.length_singleton] <;> omega
theorem Qbx {most:Nat} {s:PS} {a:List G} {s2:PS} (h:Yi most s = .ok a s2):goalsOk a∧a.length≤most:=by
 obtain ⟨h1,h2,_⟩:=QbV most _ [] s a s2 (fun _ h=>(List.not_mem_nil h).elim) h
 exact ⟨h1,h2⟩
theorem Qex (pre:Nat):∀ (m:Nat) (l:List G) (s:PS) (a:List G) (s2:PS),atomsOk l→Yh pre m l s = .ok a s2→atomsOk a∧pre+a.length≤4∧l.length<a.length
 |0,_,_,_,_,_,h=>by cases h
 |m+1,l,s,a,s2,hl,h=>by
  rw [Yh] at h
  split at h
  ·cases h
  ·rename_i hm
   obtain ⟨g,s1,h1,h⟩:=bind_ok h
   split at h
   ·cases h
   ·rename_i hg
    have hl2:atomsOk (l++[g]):=fun x hx=>by
     rcases List.mem_append.1 hx with hx|hx
     ·exact hl x hx
     ·rw [List.mem_singleton.1 hx];simpa using hg
    split at h
    ·obtain ⟨a1,a2,a3⟩:=Qex pre m _ _ a s2 hl2 h
     rw [List.length_append,List.length_singleton] at a3
     exact ⟨a1,a2,by omega⟩
    ·cases h
     refine ⟨hl2,?_,?_⟩ <;> rw [List.length_append,List.length_singleton] <;> omega
theorem QcM {pre:Nat} {s:PS} {a:List G} {s2:PS} (h:Yc pre s = .ok a s2):atomsOk a∧pre+a.length≤4∧0<a.length:=Qex pre _ [] s a s2 (fun _ h=>(List.not_mem_nil h).elim) h
theorem Qop {l:List T} (h:l.isEmpty=true):l=[]:=by cases l with|nil=>rfl|cons=>cases h
mutual
theorem T.Qrl:∀ (t:T) (b d:Int),(t.run b d).1=true→t.ps∧(t.nds:Int)≤b - (t.run b d).2∧0≤(t.run b d).2
 | .mk k i n l,b,d,h=>by
  rw [T.run] at h ⊢
  rw [T.ps,T.nds]
  split at h
  ·cases h
  ·rename_i h0
   rw [if_neg h0]
   split at h
   ·rename_i h1
    rw [if_pos h1]
    have hl:l=[]:=Qop (by simp only [Bool.and_eq_true] at h;exact h.2)
    subst hl
    refine ⟨⟨.inl h1,fun _=>rfl,trivial⟩,?_,?_⟩
    ·simp only [ndsL];omega
    ·show 0≤b - 1;omega
   ·rename_i h1
    rw [if_neg h1]
    split at h
    ·rename_i h2
     rw [if_pos h2]
     have hl:l=[]:=Qop (by simp only [Bool.and_eq_true] at h;exact h.2)
     subst hl
     refine ⟨⟨.inr (.inl h2),fun _=>rfl,trivial⟩,?_,?_⟩
     ·simp only [ndsL];omega
     ·show 0≤b - 1;omega
    ·rename_i h2
     rw [if_neg h2]
     split at h
     ·rename_i h3
      rw [if_pos h3]
      split at h
      ·cases h
      ·rename_i h4
       rw [if_neg h4]
       split at h
       ·cases h
       ·rename_i h5
        rw [if_neg h5]
        obtain ⟨q1,q2,q3⟩:=Qiv l (b - 1) (d - 1) (by omega) h
        refine ⟨⟨.inr (.inr h3),fun e=>absurd h3 e,q1⟩,?_,q3⟩
        push_cast
        omega
     ·cases h
theorem Qiv:∀ (l:List T) (b d:Int),0≤b→(runL l b d).1=true→pss l∧(ndsL l:Int)≤b - (runL l b d).2∧0≤(runL l b d).2
 |[],b,d,hb,h=>by simp only [runL,pss,ndsL];exact ⟨trivial,by omega,hb⟩
 |t::l,b,d,hb,h=>by
  rw [runL] at h ⊢
  split at h
  ·rename_i h1
   rw [if_pos h1]
   obtain ⟨q1,q2,q3⟩:=T.Qrl t b d h1
   obtain ⟨r1,r2,r3⟩:=Qiv l (t.run b d).2 d q3 h
   rw [pss,ndsL]
   exact ⟨⟨q1,r1⟩,by push_cast;omega,r3⟩
  ·cases h
end
theorem QhX {l:List T} (h:(runL l 200 20).1=true):pss l∧ndsL l≤200:=by
 obtain ⟨h1,h2,h3⟩:=Qiv l 200 20 (by omega) h
 exact ⟨h1,by omega⟩
theorem QdA {g:G} (h:QY g=true):pss g.args∧ndsL g.args≤200:=by
 unfold QY at h
 split at h
 ·unfold Q1 at h
  simp only [Bool.and_eq_true] at h
  exact QhX h.2.2
 ·simp only [Bool.and_eq_true] at h
  exact QhX h.2.2.2
theorem QjA {g:G} (h:Q1 g=true):pss g.args∧ndsL g.args≤200:=by
 unfold Q1 at h
 simp only [Bool.and_eq_true] at h
 exact QhX h.2.2
def SmG (l:List G):Prop:=(∀ g∈l,pss g.args)∧ndG l≤2400∧l.length≤12
theorem Qof {l:List G} (h:∀ g∈l,pss g.args∧ndsL g.args≤200) (hl:l.length≤12):SmG l:=by
 refine ⟨fun g hg=>(h g hg).1,?_,hl⟩
 have:∀ m:List G,(∀ g∈m,pss g.args∧ndsL g.args≤200)→ndG m≤200 * m.length:=fun m=>by
  induction m with
  |nil=>intro _;exact Nat.le_refl _
  |cons g m ih =>
   intro hm
   have h1:=(hm g (by simp)).2
   have h2:=ih fun x hx=>hm x (by simp [hx])
   rw [ndG,List.length_cons];omega
 have:=this l h
 omega
theorem QgS {most:Nat} {s s2:PS} {l:List G} (hm:most≤12) (h:Yi most s = .ok l s2):SmG l:=by
 obtain ⟨h1,h2⟩:=Qbx h
 exact Qof (fun g hg=>QdA (h1 g hg)) (by omega)
theorem Qg3 {pre:Nat} {s s2:PS} {l:List G} (h:Yc pre s = .ok l s2):SmG l∧pre+l.length≤4∧0<l.length:=by
 obtain ⟨h1,h2,h3⟩:=QcM h
 exact ⟨Qof (fun g hg=>QjA (h1 g hg)) (by omega),h2,h3⟩
theorem QcL:SmG []:=⟨fun _ h=>by simp at h,Nat.zero_le _,Nat.zero_le _⟩
def mG (f:Int→Int) (l:List G):List G:=l.map fun g:G=>(⟨g.op,g.name,maps f g.args⟩:G)
theorem Qbv:∀ (s:List Int) (l:List G) (r:List Int),Xj gG s l=(mG (fun v=>((plc (ded s (Xe l)++r) v:Nat):Int)) l,ded s (Xe l))
 |s,[],r=>rfl
 |s,g::l,r=>by
  have e:Xe (g::l)=XD g.args++Xe l:=by simp [Xe]
  obtain ⟨q,hq⟩:=QbP (ded s (XD g.args)) (Xe l)
  rw [Xj,gG,QcP s g.args (q++r)]
  simp only
  rw [Qbv _ l r,e,Zg,hq]
  simp only [mG,QrE,List.append_assoc]
theorem QkI (r:Rl):r.numd=⟨r.name,(Xj gG [] r.keep).1,(Xj gG (Xj gG [] r.keep).2 r.remove).1,(Xj gG (Xj gG (Xj gG [] r.keep).2 r.remove).2 r.guard).1,
  (Xj gG (Xj gG (Xj gG (Xj gG [] r.keep).2 r.remove).2 r.guard).2 r.body).1,((Xj gG (Xj gG (Xj gG (Xj gG [] r.keep).2 r.remove).2 r.guard).2 r.body).2.length:Nat)⟩:=by
 have e:r.allV=Xe r.keep++Xe r.remove++Xe r.guard++Xe r.body:=by simp [Rl.allV,Xe]
 obtain ⟨q1,h1⟩:=QbP (ded [] (Xe r.keep)) (Xe r.remove)
 obtain ⟨q2,h2⟩:=QbP (ded (ded [] (Xe r.keep)) (Xe r.remove)) (Xe r.guard)
 obtain ⟨q3,h3⟩:=QbP (ded (ded (ded [] (Xe r.keep)) (Xe r.remove)) (Xe r.guard)) (Xe r.body)
 have ea:ded [] r.allV=ded (ded (ded (ded [] (Xe r.keep)) (Xe r.remove)) (Xe r.guard)) (Xe r.body):=by rw [e,Zg,Zg,Zg]
 have hB:ded (ded (ded (ded [] (Xe r.keep)) (Xe r.remove)) (Xe r.guard)) (Xe r.body)=ded (ded [] (Xe r.keep)) (Xe r.remove)++(q2++q3):=by rw [h3,h2,List.append_assoc]
 have hA:ded (ded (ded (ded [] (Xe r.keep)) (Xe r.remove)) (Xe r.guard)) (Xe r.body)=ded [] (Xe r.keep)++(q1++q2++q3):=by rw [h3,h2,h1,List.append_assoc,List.append_assoc,List.append_assoc]
 rw [Rl.numd,ea]
 rw [Qbv [] r.keep (q1++q2++q3)]
 simp only
 rw [Qbv _ r.remove (q2++q3)]
 simp only
 rw [Qbv _ r.guard q3]
 simp only
 rw [Qbv _ r.body []]
 simp only [mG,← hA,← hB,← h3,QrS]
end Go.Proofs.YticgcpebdldbgaaDoor.Ab
set_option maxRecDepth 4000
namespace Go.Proofs.YticgcpebdldbgaaDoor.Ab
open Go.Proofs
section
variable {P:Pz} {s:PS} {own:Option Nat} (hW:Wst P.all s) {X:AH} (hX:X[P.i]? = some (pN P s own)) (hN:P.all.length≤1000000)
include hW hX hN
theorem Qkj:QI Tryd.prog 40 [.ptr P.i 0 0] X fun o h'=>o = .ret s.nx.tk.av∧h'=X:=by
 have hi:=Qoc hW hX
 have hi0:=hX
 rw [pN] at hi0
 simp only [pN] at hi
 have e1:=Tk.QqG s.nx.tk
 have e2:=Tk.QqH s.nx.tk
 obtain ⟨h1,h2⟩:=Qly hW
 obtain ⟨k,hk⟩:∃ k,k=P.all.length - s.toks.length:=⟨_,rfl⟩
 obtain ⟨j,hj,hjl,hat⟩:∃ j:Nat,((if (P.all.length:Int) - 1<(k:Int)+1 then (P.all.length:Int) - 1 else (k:Int)+1)=j)∧j<P.all.length∧(tks P.all)[j]? = some s.nx.tk.av:=by
  obtain ⟨pre,hp⟩:=hW.suf
  cases ht:s.toks with
  |nil=>exact absurd ht (QnY hW.wf)
  |cons t r =>
   rw [ht] at hp
   have hkl:k=pre.length:=by rw [hk,ht,← hp,List.length_append];omega
   have hal:P.all.length=pre.length+(r.length+1):=by rw [← hp,List.length_append,List.length_cons]
   cases r with
   |nil =>
    refine ⟨pre.length,by rw [hkl,hal];simp only [QrD];rw [if_pos (by omega)];omega,by omega,?_⟩
    rw [← hp,tks,List.getElem?_map,List.getElem?_append_right (Nat.le_refl _),Nat.sub_self]
    simp [PS.nx,PS.tk,ht]
   |cons u r =>
    refine ⟨pre.length+1,by rw [hkl,hal];simp only [QrC];rw [if_neg (by omega)];omega,by rw [hal,List.length_cons];omega,?_⟩
    rw [← hp,tks,List.getElem?_map,List.getElem?_append_right (by omega),Nat.add_sub_cancel_left]
    simp [PS.nx,PS.tk,ht]
 rw [← hk] at hi hi0
 have w1:IntKind.i64.wrap ((k:Int)+1)=(k:Int)+1:=Yu ⟨by omega,by omega⟩
 have w2:IntKind.i64.wrap ((P.all.length:Int) - 1)=(P.all.length:Int) - 1:=Yu ⟨by omega,by omega⟩
 refine Qe Tryd.func40 rfl Tryd.call40 Tryd.ntmps40 (congrArg Array.toList Tryd.results40) (by simp) ?_
 repeat (first|(((with_reducible refine Qa fun K E hK hE=>?_));simp -implicitDefEqProofs only [Qc,Qd,OpW,aop,AV.QqF,↓reduceIte,zi60,seval])|(with_reducible refine Qg fun K hK=>?_)|((with_reducible refine hK _ ?_);clear hK))
 first|refine QQ (id:=1) [(0,0),(1,0),(2,0),(3,0),(4,0),(5,0),(6,0),(7,0),(8,0),(9,0),(10,0),(11,0),(12,0),(13,0),(14,0),(15,0),(16,0),(17,0),(18,2)] mixed (by kernel_rfl) fun K hK=>?_|refine QV (id:=1) [(0,0),(1,0),(2,0),(3,0),(4,0),(5,0),(6,0),(7,0),(8,0),(9,0),(10,0),(11,0),(12,0),(13,0),(14,0),(15,0),(16,0),(17,0),(18,2)] mixed (by kernel_rfl) fun K hK=>?_
 (try simp only [Qry,QrG]);refine QlR 9 (fun K1 hK1=>?_);simp -implicitDefEqProofs only [Qc,Qd,aop,undef,AS.ev,Qs,↓reduceIte,Qf,Qw,Qv,aBin,ti3,ti37,Qg2,Qfo,Qq,hi,w1,seval];refine hK1 _ ?_;clear hK1
 (try simp only [Qry,QrG])
 simp -implicitDefEqProofs only [Qc,Qd,aop,undef,AS.ev,Qs,AV.QqF,↓reduceIte,Qf,Qw,Qv,Qy,Qm,QS,aBin,aLen,goInt,ti37,ei37,un37,ti60,Qg2,Qq,hi,hat,hjl,Qbp,e1,e2,w2,hj,seval]
 repeat (first|(with_reducible (first|refine Qn ?_|refine Qb ?_))|((with_reducible refine hK _ ?_);clear hK))
 simp -implicitDefEqProofs only [Qc,↓reduceIte,Qw,Qv,ti60,Qw,Qv,e1,e2,QG,Qp,Qt,Qrz,seval]
 exact Ql (htake _ _) (.keep (Qb8 _ _)) ⟨rfl,rfl⟩
end
end Go.Proofs.YticgcpebdldbgaaDoor.Ab
namespace Go.Proofs.YticgcpebdldbgaaDoor.Ab
def AncE (ops:Array Oper) (E:List (Nat×Nat)) (i j:Nat):Prop:=Anc ops i j∨∃ p∈E,(i=p.1∨Anc ops i p.1)∧(j=p.2∨Anc ops p.2 j)
theorem AncE.good {ops:Array Oper} {E:List (Nat×Nat)} {S:Nat→Bool} (hd:Down ops S) (hE:∀ p∈E,S p.2=true→S p.1=true) {i j:Nat} (h:AncE ops E i j) (hj:S j=true):S i=true:=by
 rcases h with h|⟨p,hp,h1,h2⟩
 ·exact hd.anc h hj
 ·have hy:S p.2=true:=by
   rcases h2 with rfl|h2
   ·exact hj
   ·exact hd.anc h2 hj
  rcases h1 with rfl|h1
  ·exact hE p hp hy
  ·exact hd.anc h1 (hE p hp hy)
def Qme (ms:List Nat) (E:List (Nat×Nat)) (i j:Nat):Bool:=(ms.getD j 0).testBit i||E.any fun p=>(i==p.1||(ms.getD p.1 0).testBit i)&&(j==p.2||(ms.getD j 0).testBit p.2)
def Qi4 (ops:Array Oper) (ms:List Nat) (E:List (Nat×Nat)):List (Nat×Nat)→Bool
 |[]=>true
 |(i,ci)::l=>(l.all fun p=>match ops[i]?,ops[p.1]? with
   |some a,some b=>!clash ops a b ci p.2||Qme ms E i p.1
   |_,_=>false)&&Qi4 ops ms E l
theorem Qeb {ops:Array Oper} {ms:List Nat} {E:List (Nat×Nat)} (hm:∀ (k i:Nat),(ms.getD k 0).testBit i=true→Anc ops i k):∀ (tr:List Tr),Qi4 ops ms E (tr.map fun t=>(t.i,t.c))=true→(∀ t∈tr,ops[t.i]? = some t.o) →
  tr.Pairwise (fun a b=>clash ops a.o b.o a.c b.c=true→AncE ops E a.i b.i)
 |[],_,_=>.nil
 |t::l,h,ho=>by
  simp only [QrE,Qi4,Bool.and_eq_true,List.all_eq_true] at h
  refine List.pairwise_cons.2 ⟨fun b hb hc=>?_,Qeb hm l h.2 fun t ht=>ho t (by simp [ht])⟩
  have:=h.1 (b.i,b.c) (List.mem_map.2 ⟨b,hb,rfl⟩)
  simp only [ho t (by simp),ho b (by simp [hb]),hc,QrM,Bool.false_or,Qme,Bool.or_eq_true,List.any_eq_true,Bool.and_eq_true,beq_iff_eq] at this
  rcases this with h1|⟨p,hp,h1,h2⟩
  ·exact .inl (hm _ _ h1)
  ·exact .inr ⟨p,hp,h1.imp id (hm _ _),h2.imp id (hm _ _)⟩
def okE (ops:Array Oper) (E:List (Nat×Nat)) (π:List (Nat×Nat)):Bool :=
 π.length==ops.size&&Qi4 ops (masks ops.toList []) E π&&topo ops [] π&&QhQ (π.map (·.1))&&((List.range ops.size).all fun i=>(π.map (·.1)).contains i) &&
 π.all fun p=>match ops[p.1]? with|some o=>kindOk o p.2|none=>false
structure FitE (ops:Array Oper) (E:List (Nat×Nat)) (tr:List Tr):Prop where
 len:tr.length=ops.size
 pairs:tr.Pairwise (fun a b=>clash ops a.o b.o a.c b.c=true→AncE ops E a.i b.i)
 topo:topo ops [] (tr.map fun t=>(t.i,t.c))=true
 nodup:(tr.map (·.i)).Nodup
 all:∀ i,i<ops.size→∃ t∈tr,t.i=i
 kind:∀ t∈tr,kindOk t.o t.c=true
theorem Qnu {P:Program} {N:Nat} {ops:Array Oper} {E:List (Nat×Nat)} {tr:List Tr} {tm:Nat→AV} {h:AH} (hruns:Runs P N ops tr tm h) (hok:okE ops E (tr.map fun t=>(t.i,t.c))=true):FitE ops E tr:=by
 simp only [okE,Bool.and_eq_true] at hok
 obtain ⟨⟨⟨⟨⟨hp0,hp1⟩,hp2⟩,hp3⟩,hp4⟩,hp5⟩:=hok
 have hops:=Qai hruns
 refine ⟨by have:=beq_iff_eq.1 hp0;simpa using this,Qeb (Y5 ops.toList [] (fun j o h=>by simpa using h) (fun k i h=>by simp at h)) tr hp1 hops,hp2,?_,?_,?_⟩
 ·have:=Z4 hp3
  rw [List.map_map] at this
  exact this
 ·intro i hi
  have:=List.all_eq_true.1 hp4 i (List.mem_range.2 hi)
  have:i∈(tr.map fun t=>(t.i,t.c)).map (·.1):=by simpa using this
  rw [List.map_map] at this
  obtain ⟨t,ht,rfl⟩:=List.mem_map.1 this
  exact ⟨t,ht,rfl⟩
 ·intro t ht
  have:=List.all_eq_true.1 hp5 (t.i,t.c) (List.mem_map.2 ⟨t,ht,rfl⟩)
  simpa [hops t ht] using this
inductive TT where
 |leaf (t:List Tr)
 |node (ρ:List Tr) (y u:Nat) (A B:TT)
def TT.first:TT→List Tr
 | .leaf t=>t
 | .node ρ _ _ A _=>ρ++A.first
def TT.e1:TT→List (Nat×Nat)→List (Nat×Nat)
 | .leaf _,E=>E
 | .node _ y u A _,E=>A.e1 ((y,u)::E)
def TT.all:TT→List Nat
 | .leaf t=>t.map (·.i)
 | .node ρ _ _ A B=>ρ.map (·.i)++(A.all++B.all)
def TT.ends:TT→List Nat
 | .leaf _=>[]
 | .node _ y u A B=>y::u::(A.ends++B.ends)
def TT.root:TT→List Nat
 | .leaf _=>[]
 | .node _ y u _ _=>[y,u]
def Beh (ops:Array Oper) (y u i:Nat):Prop:=∀ S:Nat→Bool,Down ops S→S y=false→S u=false→S i=false
def FitT (ops:Array Oper):TT→List Tr→List (Nat×Nat)→Prop
 | .leaf t,π,E=>FitE ops E (π++t)
 | .node ρ y u A B,π,E=>y≠u∧y∉A.ends∧u∉B.ends∧(∀ i∈A.all++B.all,Beh ops y u i)∧(∀ i∈A.ends++B.ends,Beh ops y u i)∧FitT ops A (π++ρ) ((y,u)::E)∧FitT ops B (π++ρ) ((u,y)::E)
def AllL (R:List Tr→Prop):TT→List Tr→Prop
 | .leaf t,π=>R (π++t)
 | .node ρ _ _ A B,π=>AllL R A (π++ρ)∧AllL R B (π++ρ)
theorem AllL.mono {R R':List Tr→Prop} (h:∀ l,R l→R' l):∀ {T:TT} {π:List Tr},AllL R T π→AllL R' T π
 | .leaf t,π,H=>h _ H
 | .node ρ y u A B,π,H=>⟨AllL.mono h H.1,AllL.mono h H.2⟩
theorem AllL.first {R:List Tr→Prop}:∀ {T:TT} {π:List Tr},AllL R T π→R (π++T.first)
 | .leaf t,π,H=>H
 | .node ρ y u A B,π,H=>by
  have:=AllL.first H.1
  rw [List.append_assoc] at this
  exact this
theorem FitT.first {ops:Array Oper}:∀ {T:TT} {π:List Tr} {E:List (Nat×Nat)},FitT ops T π E→FitE ops (T.e1 E) (π++T.first)
 | .leaf t,π,E,H=>H
 | .node ρ y u A B,π,E,H=>by
  have:=FitT.first H.2.2.2.2.2.1
  rw [List.append_assoc] at this
  exact this
theorem FitT.all {ops:Array Oper}:∀ {T:TT} {π:List Tr} {E:List (Nat×Nat)},FitT ops T π E→AllL (fun l=>∀ i,i<ops.size→∃ t∈l,t.i=i) T π
 | .leaf t,π,E,H=>FitE.all H
 | .node ρ y u A B,π,E,H=>⟨FitT.all H.2.2.2.2.2.1,FitT.all H.2.2.2.2.2.2⟩
theorem AllL.and {R R':List Tr→Prop}:∀ {T:TT} {π:List Tr},AllL R T π→AllL R' T π→AllL (fun l=>R l∧R' l) T π
 | .leaf t,π,H,H'=>⟨H,H'⟩
 | .node ρ y u A B,π,H,H'=>⟨AllL.and H.1 H'.1,AllL.and H.2 H'.2⟩
theorem TT.QqR:∀ (T:TT) (E:List (Nat×Nat)),∀ p∈T.e1 E,p∈E∨p.2∈T.ends
 | .leaf t,E,p,h=>.inl h
 | .node ρ y u A B,E,p,h=>by
  rcases TT.QqR A _ p h with h|h
  ·rcases List.mem_cons.1 h with rfl|h
   ·exact .inr (by simp [TT.ends])
   ·exact .inl h
  ·exact .inr (by simp [TT.ends,h])
theorem TT.QqN (T:TT):∀ i∈T.root,i∈T.ends:=by
 cases T with
 |leaf t=>intro i h;cases h
 |node ρ y u A B=>intro i h;simp only [TT.root,List.mem_cons,List.not_mem_nil,or_false] at h;simp only [TT.ends,List.mem_cons];rcases h with rfl|rfl <;> simp
theorem TT.QqU (T:TT):∀ t∈T.first,t.i∈T.all:=by
 induction T with
 |leaf t=>intro x h;exact List.mem_map.2 ⟨x,h,rfl⟩
 |node ρ y u A B ihA ihB =>
  intro x h
  rcases List.mem_append.1 h with h|h
  ·exact List.mem_append_left _ (List.mem_map.2 ⟨x,h,rfl⟩)
  ·exact List.mem_append_right _ (List.mem_append_left _ (ihA x h))
section
variable {P:Program} {N:Nat} {base:Bs×Fence} {ops:Array Oper} {F:Fence} {n:Nat} (hF:WF F) {Qx:Exit→Act→World→Prop} {tm0:Nat→AV} {h0:AH}
include hF
theorem QjP:∀ (T:TT) (π:List Tr) (E:List (Nat×Nat)),FitT ops T π E→AllL (fun l=>Runs P N ops l tm0 h0) T π →
  ∀ (fuel:Nat) (listed:Array Bool) (c:Cx) (a:Act),listed.size=ops.size→Down ops (fun i=>listed.getD i false)→(∀ p∈E,listed.getD p.1 false=true)→(∀ i∈T.root,listed.getD i false=false)→St c →
   SR N base c ⟨tmS N (fun i=>listed.getD i false) (π++T.first) tm0,hS (fun i=>listed.getD i false) (π++T.first) h0⟩ a→AllL (fun l=>l.countP (fun t=>!listed.getD t.i false)≤fuel) T π →
   AllL (fun l=>∀ c' a',Ev c c'→St c'→SR N base c' ⟨tmS N (fun _=>true) l tm0,hS (fun _=>true) l h0⟩ a'→Qx .normal a' c'.w) T π→wpAnyIn F n P .any ops Qx fuel listed a c.w:=by
 intro T
 induction T with
 |leaf t =>
  intro π E hfit hruns fuel
  have hfit:FitE ops E (π++t):=hfit
  have hruns:Runs P N ops (π++t) tm0 h0:=hruns
  induction fuel with
  |zero =>
   intro listed c a hsz hd hE hx hst hr hc hQ
   have hl:∀ u∈π++t,listed.getD u.i false=true:=fun u hu=>by
    have:=List.countP_eq_zero.1 (Nat.le_zero.1 hc) u hu
    simpa using this
   exact ⟨any_zero hsz hfit.all hl,YL hst hr hQ hl⟩
  |succ fuel ih =>
   intro listed c a hsz hd hE hx hst hr hc hQ
   refine ⟨fun h=>YL hst hr hQ fun u hu=>ZD hsz h _ [] hfit.topo (fun i hi=>by cases hi) (u.i,u.c) (List.mem_map.2 ⟨u,hu,rfl⟩),fun i hi=>?_⟩
   have hi':=hi
   obtain ⟨h1,o,ho,_⟩:=mem_ready.1 hi'
   have hlt:i<ops.size:=(Array.getElem?_eq_some_iff.1 ho).1
   obtain ⟨u,hu,hui⟩:=hfit.all i hlt
   have hd':=ZL hsz hd hi
   have hE':∀ p∈E,(listed.setIfInBounds i true).getD p.1 false=true:=fun p hp=>by rw [Ym (by omega),hE p hp];simp
   exact YX hF hruns hfit.pairs hfit.nodup hfit.kind hi hu hui hsz (fun i j h hj=>AncE.good hd (fun p hp _=>hE p hp) h hj) (fun i j h hj=>AncE.good hd' (fun p hp _=>hE' p hp) h hj) hst hr fun c' a' hev hst' hr' =>
    ih _ c' a' (by simpa using hsz) hd' hE' (fun i hi=>by cases hi) hst' hr' (Xm hsz ⟨u,hu,hui⟩ hi hc) fun c2 a2 e2 s2 r2=>hQ c2 a2 (Ev.trans hst hev e2) s2 r2
 |node ρ y u A B ihA ihB =>
  intro π E hfit hruns fuel
  obtain ⟨hyu,hyA,huB,hbeh,hends,hfA,hfB⟩:=hfit
  obtain ⟨hrA,hrB⟩:=hruns
  have hf1:=hfA.first
  have hr1:=hrA.first
  induction fuel with
  |zero =>
   intro listed c a hsz hd hE hx hst hr0 hc hQ
   have hr9:SR N base c ⟨tmS N (fun i=>listed.getD i false) (π++ρ++A.first) tm0,hS (fun i=>listed.getD i false) (π++ρ++A.first) h0⟩ a:=by rw [List.append_assoc];exact hr0
   have hl:∀ t∈(π++ρ)++A.first,listed.getD t.i false=true:=fun t ht=>by
    have:=List.countP_eq_zero.1 (Nat.le_zero.1 hc.1.first) t ht
    simpa using this
   exact ⟨any_zero hsz hf1.all hl,YL hst hr9 hQ.1.first hl⟩
  |succ fuel ih =>
   intro listed c a hsz hd hE hx hst hr0 hc hQ
   have hr9:SR N base c ⟨tmS N (fun i=>listed.getD i false) (π++ρ++A.first) tm0,hS (fun i=>listed.getD i false) (π++ρ++A.first) h0⟩ a:=by rw [List.append_assoc];exact hr0
   refine ⟨fun h=>YL hst hr9 hQ.1.first fun t ht=>ZD hsz h _ [] hf1.topo (fun i hi=>by cases hi) (t.i,t.c) (List.mem_map.2 ⟨t,ht,rfl⟩),fun i hi=>?_⟩
   have hi':=hi
   obtain ⟨h1,o,ho,_⟩:=mem_ready.1 hi'
   have hlt:i<ops.size:=(Array.getElem?_eq_some_iff.1 ho).1
   have hd':=ZL hsz hd hi
   have hset:∀ j,(listed.setIfInBounds i true).getD j false=(decide (j=i)||listed.getD j false):=fun j=>Ym (by omega)
   have hy:listed.getD y false=false:=hx y (by simp [TT.root])
   have hu:listed.getD u false=false:=hx u (by simp [TT.root])
   have hE':∀ p∈E,(listed.setIfInBounds i true).getD p.1 false=true:=fun p hp=>by rw [hset,hE p hp];simp
   have hnA:∀ t∈A.first,listed.getD t.i false=false:=fun t ht=>hbeh _ (List.mem_append_left _ (A.QqU t ht)) _ hd hy hu
   have hnB:∀ t∈B.first,listed.getD t.i false=false:=fun t ht=>hbeh _ (List.mem_append_right _ (B.QqU t ht)) _ hd hy hu
   have hcn:∀ {T:TT},AllL (fun l=>∀ i,i<ops.size→∃ t∈l,t.i=i) T (π++ρ)→AllL (fun l=>l.countP (fun t=>!listed.getD t.i false)≤fuel+1) T (π++ρ)→AllL (fun l=>l.countP (fun t=>!(listed.setIfInBounds i true).getD t.i false)≤fuel) T (π++ρ) :=
    fun h1 h2=>(h1.and h2).mono fun l h=>Xm hsz (h.1 i hlt) hi h.2
   by_cases hiy:i=y
   ·subst hiy
    obtain ⟨t,ht,hti⟩:=hf1.all i hlt
    have hy':(listed.setIfInBounds i true).getD i false=true:=by rw [hset];simp
    have g1:∀ p∈A.e1 ((i,u)::E),listed.getD p.2 false=true→listed.getD p.1 false=true:=fun p hp h2=>by
     rcases A.QqR _ p hp with hp|hp
     ·rcases List.mem_cons.1 hp with rfl|hp
      ·rw [hu] at h2;cases h2
      ·exact hE p hp
     ·have h3:listed.getD p.2 false=false:=hends _ (List.mem_append_left _ hp) _ hd hy hu
      rw [h3] at h2;cases h2
    have g2:∀ p∈A.e1 ((i,u)::E),(listed.setIfInBounds i true).getD p.2 false=true→(listed.setIfInBounds i true).getD p.1 false=true:=fun p hp h2=>by
     rcases A.QqR _ p hp with hp|hp
     ·rcases List.mem_cons.1 hp with rfl|hp
      ·exact hy'
      ·exact hE' p hp
     ·have h3:listed.getD p.2 false=false:=hends _ (List.mem_append_left _ hp) _ hd hy hu
      have:p.2≠i:=fun e=>hyA (e▸hp)
      rw [hset,h3] at h2
      simp [this] at h2
    refine YX hF hr1 hf1.pairs hf1.nodup hf1.kind hi ht hti hsz (fun j k h hk=>AncE.good hd g1 h hk) (fun j k h hk=>AncE.good hd' g2 h hk) hst hr9 fun c' a' hev hst' hr'=>?_
    refine ihA (π++ρ) ((i,u)::E) hfA hrA fuel _ c' a' (by simpa using hsz) hd' ?_ ?_ hst' hr' (hcn hfA.all hc.1) (hQ.1.mono fun l h c2 a2 e2 s2 r2=>h c2 a2 (Ev.trans hst hev e2) s2 r2)
    ·intro p hp
     rcases List.mem_cons.1 hp with rfl|hp
     ·exact hy'
     ·exact hE' p hp
    ·intro j hj
     have h3:listed.getD j false=false:=hends _ (List.mem_append_left _ (A.QqN j hj)) _ hd hy hu
     rw [hset,h3]
     have:j≠i:=fun e=>hyA (e▸A.QqN j hj)
     simp [this]
   ·by_cases hiu:i=u
    ·subst hiu
     have hf2:=hfB.first
     have hr2:=hrB.first
     obtain ⟨t,ht,hti⟩:=hf2.all i hlt
     have skip1:tmS N (fun i=>listed.getD i false) (π++ρ++A.first) tm0=tmS N (fun i=>listed.getD i false) (π++ρ++B.first) tm0:=by
      funext z
      have k1:∀ t∈A.first,listed.getD t.i false=true→t.o.dst≠some z:=fun t ht hs _=>by rw [hnA t ht] at hs;cases hs
      have k2:∀ t∈B.first,listed.getD t.i false=true→t.o.dst≠some z:=fun t ht hs _=>by rw [hnB t ht] at hs;cases hs
      rw [XR N _ (π++ρ) A.first,XR N _ (π++ρ) B.first,XP (S:=fun i=>listed.getD i false) k1,XP (S:=fun i=>listed.getD i false) k2]
     have skip2:hS (fun i=>listed.getD i false) (π++ρ++A.first) h0=hS (fun i=>listed.getD i false) (π++ρ++B.first) h0:=by
      rw [Yr _ (π++ρ) A.first,Yr _ (π++ρ) B.first,YA (S:=fun i=>listed.getD i false) fun t ht _=>hnA t ht,YA (S:=fun i=>listed.getD i false) fun t ht _=>hnB t ht]
     rw [skip1,skip2] at hr9
     have hu':(listed.setIfInBounds i true).getD i false=true:=by rw [hset];simp
     have g1:∀ p∈B.e1 ((i,y)::E),listed.getD p.2 false=true→listed.getD p.1 false=true:=fun p hp h2=>by
      rcases B.QqR _ p hp with hp|hp
      ·rcases List.mem_cons.1 hp with rfl|hp
       ·rw [hy] at h2;cases h2
       ·exact hE p hp
      ·have h3:listed.getD p.2 false=false:=hends _ (List.mem_append_right _ hp) _ hd hy hu
       rw [h3] at h2;cases h2
     have g2:∀ p∈B.e1 ((i,y)::E),(listed.setIfInBounds i true).getD p.2 false=true→(listed.setIfInBounds i true).getD p.1 false=true:=fun p hp h2=>by
      rcases B.QqR _ p hp with hp|hp
      ·rcases List.mem_cons.1 hp with rfl|hp
       ·exact hu'
       ·exact hE' p hp
      ·have h3:listed.getD p.2 false=false:=hends _ (List.mem_append_right _ hp) _ hd hy hu
       have:p.2≠i:=fun e=>huB (e▸hp)
       rw [hset,h3] at h2
       simp [this] at h2
     refine YX hF hr2 hf2.pairs hf2.nodup hf2.kind hi ht hti hsz (fun j k h hk=>AncE.good hd g1 h hk) (fun j k h hk=>AncE.good hd' g2 h hk) hst hr9 fun c' a' hev hst' hr'=>?_
     refine ihB (π++ρ) ((i,y)::E) hfB hrB fuel _ c' a' (by simpa using hsz) hd' ?_ ?_ hst' hr' (hcn hfB.all hc.2) (hQ.2.mono fun l h c2 a2 e2 s2 r2=>h c2 a2 (Ev.trans hst hev e2) s2 r2)
     ·intro p hp
      rcases List.mem_cons.1 hp with rfl|hp
      ·exact hu'
      ·exact hE' p hp
     ·intro j hj
      have h3:listed.getD j false=false:=hends _ (List.mem_append_right _ (B.QqN j hj)) _ hd hy hu
      rw [hset,h3]
      have:j≠i:=fun e=>huB (e▸B.QqN j hj)
      simp [this]
    ·obtain ⟨t,ht,hti⟩:=hf1.all i hlt
     have hy':(listed.setIfInBounds i true).getD y false=false:=by rw [hset,hy];simp;exact fun h=>hiy h.symm
     have hu':(listed.setIfInBounds i true).getD u false=false:=by rw [hset,hu];simp;exact fun h=>hiu h.symm
     have g1:∀ p∈A.e1 ((y,u)::E),listed.getD p.2 false=true→listed.getD p.1 false=true:=fun p hp h2=>by
      rcases A.QqR _ p hp with hp|hp
      ·rcases List.mem_cons.1 hp with rfl|hp
       ·rw [hu] at h2;cases h2
       ·exact hE p hp
      ·have h3:listed.getD p.2 false=false:=hends _ (List.mem_append_left _ hp) _ hd hy hu
       rw [h3] at h2;cases h2
     have g2:∀ p∈A.e1 ((y,u)::E),(listed.setIfInBounds i true).getD p.2 false=true→(listed.setIfInBounds i true).getD p.1 false=true:=fun p hp h2=>by
      rcases A.QqR _ p hp with hp|hp
      ·rcases List.mem_cons.1 hp with rfl|hp
       ·rw [hu'] at h2;cases h2
       ·exact hE' p hp
      ·have h3:(listed.setIfInBounds i true).getD p.2 false=false:=hends _ (List.mem_append_left _ hp) _ hd' hy' hu'
       rw [h3] at h2;cases h2
     refine YX hF hr1 hf1.pairs hf1.nodup hf1.kind hi ht hti hsz (fun j k h hk=>AncE.good hd g1 h hk) (fun j k h hk=>AncE.good hd' g2 h hk) hst hr9 fun c' a' hev hst' hr'=>?_
     refine ih _ c' a' (by simpa using hsz) hd' hE' ?_ hst' (by have h9:=hr';rw [List.append_assoc] at h9;exact h9) ⟨hcn hfA.all hc.1,hcn hfB.all hc.2⟩ (hQ.mono fun l h c2 a2 e2 s2 r2=>h c2 a2 (Ev.trans hst hev e2) s2 r2)
     intro j hj
     simp only [TT.root,List.mem_cons,List.not_mem_nil,or_false] at hj
     rcases hj with rfl|rfl
     ·exact hy'
     ·exact hu'
end
inductive OT where
 |leaf (σ:List (Nat×Nat))
 |node (ρ:List (Nat×Nat)) (y u:Nat) (A B:OT)
def OT.walk (P:Program) (N:Nat) (ops:Array Oper) (K:AS→Prop):OT→AS→Prop
 | .leaf σ,s=>AnyW P N ops σ K s
 | .node ρ _ _ A B,s=>AnyW P N ops ρ (fun s=>OT.walk P N ops K A s∧OT.walk P N ops K B s) s
def OT.all:OT→List Nat
 | .leaf σ=>σ.map (·.1)
 | .node ρ _ _ A B=>ρ.map (·.1)++(A.all++B.all)
def OT.ends:OT→List Nat
 | .leaf _=>[]
 | .node _ y u A B=>y::u::(A.ends++B.ends)
def OT.ok (ops:Array Oper):OT→List (Nat×Nat)→List (Nat×Nat)→Bool
 | .leaf σ,π,E=>okE ops E (π++σ)&&Qam ops σ
 | .node ρ y u A B,π,E=>(y != u&&!A.ends.contains y&&!B.ends.contains u&&(A.all++B.all).all (behind ops y u)&&(A.ends++B.ends).all (behind ops y u)&&Qam ops ρ)&&(OT.ok ops A (π++ρ) ((y,u)::E)&&OT.ok ops B (π++ρ) ((u,y)::E))
theorem Qfh {ops:Array Oper} {x y i:Nat} (hi:behind ops x y i=true):Beh ops x y i:=by
 intro S hd hx hy
 have hm':∀ (k i:Nat),((masks ops.toList []).getD k 0).testBit i=true→Anc ops i k:=Y5 ops.toList [] (fun j o h=>by simpa using h) (fun k i h=>by simp at h)
 cases hS:S i with
 |false=>rfl
 |true =>
  exfalso
  simp only [behind,Bool.or_eq_true,beq_iff_eq] at hi
  rcases hi with ((rfl|rfl)|h)|h
  ·rw [hx] at hS;cases hS
  ·rw [hy] at hS;cases hS
  ·have:=hd.anc (hm' _ _ h) hS;rw [hx] at this;cases this
  ·have:=hd.anc (hm' _ _ h) hS;rw [hy] at this;cases this
theorem QdS {P:Program} {N:Nat} {ops:Array Oper} {K:AS→Prop} {tm0:Nat→AV} {h0:AH}:∀ (O:OT) (π:List Tr) (E:List (Nat×Nat)),Runs P N ops π tm0 h0→OT.walk P N ops K O ⟨tmS N (fun _=>true) π tm0,hS (fun _=>true) π h0⟩→OT.ok ops O (π.map fun t=>(t.i,t.c)) E=true →
  ∃ T:TT,T.all=O.all∧T.ends=O.ends∧FitT ops T π E∧AllL (fun l=>Runs P N ops l tm0 h0) T π∧AllL (fun l=>K ⟨tmS N (fun _=>true) l tm0,hS (fun _=>true) l h0⟩) T π
 | .leaf σ,π,E,hr,H,hok=>by
  simp only [OT.ok,Bool.and_eq_true] at hok
  obtain ⟨t,rfl,hρ,hK⟩:=Ys H hok.2
  have hrr:=hr.append hρ
  have h1:=hok.1
  rw [← List.map_append] at h1
  refine ⟨.leaf t,by simp [TT.all,OT.all],rfl,Qnu hrr h1,hrr,?_⟩
  show K _
  rw [XR,Yr]
  exact hK
 | .node ρ y u A B,π,E,hr,H,hok=>by
  simp only [OT.ok,Bool.and_eq_true,bne_iff_ne,ne_eq,Bool.not_eq_true',List.all_eq_true] at hok
  obtain ⟨⟨⟨⟨⟨⟨h1,h2⟩,h3⟩,h4⟩,h5⟩,h6⟩,hA,hB⟩:=hok
  obtain ⟨t,rfl,hρ,hK⟩:=Ys H h6
  have hrr:=hr.append hρ
  have e:(⟨tmS N (fun _=>true) t (tmS N (fun _=>true) π tm0),hS (fun _=>true) t (hS (fun _=>true) π h0)⟩:AS)=⟨tmS N (fun _=>true) (π++t) tm0,hS (fun _=>true) (π++t) h0⟩:=by rw [XR,Yr]
  rw [e] at hK
  rw [← List.map_append] at hA hB
  obtain ⟨TA,a1,a2,a3,a4,a5⟩:=QdS A (π++t) ((y,u)::E) hrr hK.1 hA
  obtain ⟨TB,b1,b2,b3,b4,b5⟩:=QdS B (π++t) ((u,y)::E) hrr hK.2 hB
  refine ⟨.node t y u TA TB,by simp [TT.all,OT.all,a1,b1],by simp [TT.ends,OT.ends,a2,b2],⟨h1,?_,?_,?_,?_,a3,b3⟩,⟨a4,b4⟩,⟨a5,b5⟩⟩
  ·rw [a2];simpa using h2
  ·rw [b2];simpa using h3
  ·rw [a1,b1];exact fun i hi=>Qfh (h4 i hi)
  ·rw [a2,b2];exact fun i hi=>Qfh (h5 i hi)
theorem QcO {P:Program} {N:Nat} {Q:AExit→AS→Prop} {s:AS} {id:Nat} {ops:Array Oper} (O:OT) (hm:P.follows .mixedOrders=true) (hok:OT.ok ops O [] []=true)
  (H:∀ (K:AS→Prop),(∀ s,Q .normal s→K s)→OT.walk P N ops K O s):XE P N (.region id ops true) Q s:=by
 intro F n base c a hF hst hr R hR
 refine wpIn_region_any hm ?_
 obtain ⟨tm,hp⟩:=s
 obtain ⟨T,_,_,hfit,hruns,hQ⟩:=QdS (tm0:=tm) (h0:=hp) O [] [] (.nil _ _) (H (fun s=>Q .normal s) (fun s h=>h)) hok
 have hev:Ev c (c.to {c.w with drawn:=c.w.drawn+1}):=Ev.idle hst (Ev.refl c) rfl rfl rfl rfl fun k=>.inl rfl
 have hst':St (c.to {c.w with drawn:=c.w.drawn+1}):=hst.idle rfl fun k o hk=>.inl hk
 have hr':SR N (base,F) (c.to {c.w with drawn:=c.w.drawn+1}) ⟨tm,hp⟩ a:=⟨hr.h,hr.size,Nat.le_trans hr.above hev.size,hr.defers.ev hev,RoundOk.ev hev hr.round,fun t=>(hr.tm t).ev hst hev⟩
 have hnone:∀ j,(Array.replicate ops.size false).getD j false=false:=fun j=>by
  rw [Array.getD_eq_getD_getElem?,Array.getElem?_replicate]
  split <;> rfl
 have hlen:AllL (fun l=>l.length=ops.size) T []:=by
  have:∀ (T:TT) (π:List Tr) (E:List (Nat×Nat)),FitT ops T π E→AllL (fun l=>l.length=ops.size) T π:=by
   intro T
   induction T with
   |leaf t=>exact fun π E h=>FitE.len h
   |node ρ y u A B ihA ihB=>exact fun π E h=>⟨ihA _ _ h.2.2.2.2.2.1,ihB _ _ h.2.2.2.2.2.2⟩
  exact this T [] [] hfit
 refine QjP (base:=(base,F)) hF T [] [] hfit hruns _ _ (c.to {c.w with drawn:=c.w.drawn+1}) a (by simp) ?_ (fun p hp=>by cases hp) (fun i _=>hnone i) hst' ?_ (hlen.mono fun l h=>Nat.le_trans List.countP_le_length (Nat.le_of_eq h)) (hQ.mono fun l h c' a' h1 h2 h3=>hR .normal _ c' a' .normal h (Ev.trans hst hev h1) h2 h3 rfl)
 ·intro j o ho hj
  simp only at hj
  rw [hnone] at hj;cases hj
 ·have e1:tmS N (fun i=>(Array.replicate ops.size false).getD i false) ([]++T.first) tm=tm:=funext fun x=>XP fun t _ h=>by rw [hnone] at h;cases h
  have e2:hS (fun i=>(Array.replicate ops.size false).getD i false) ([]++T.first) hp=hp:=YA fun t _ _=>hnone _
  rw [e1,e2];exact hr'
end Go.Proofs.YticgcpebdldbgaaDoor.Ab
set_option maxRecDepth 4000
namespace Go.Proofs.YticgcpebdldbgaaDoor.Ab
open Go.Proofs
theorem QdF {most:Nat} {s s2:PS} {l:List G} (h:Yi most s = .ok l s2):l≠[]:=by
 obtain ⟨_,_,h3⟩:=QbV most _ [] s l s2 (fun _ h=>(List.not_mem_nil h).elim) h
 rintro rfl
 simp at h3
def bodyT (name:ByteArray) (s:PS):PR Rl:=(Yc 0 s).bind fun first s =>
  if s.is Qay then Za name [] first s.nx else if s.is Qe2 then Za name first [] s.nx else
  if s.is QeO then (Yc first.length s.nx).bind fun rem s=>(XC Qay s).bind fun _ s=>Za name first rem s else .err s.tk.pos 16
theorem QfM (s:PS):YJ s=if s.tk.kind=1∧s.nx.is sAt=true then (Zq s).bind fun x s=>bodyT x s.nx else bodyT eB s:=rfl
structure ErrY (X:AH) (P:Pz) (Y:AH):Prop where
 long:X.length≤Y.length
 out:∀ i,i<X.length→i≠P.i→i≠P.j→Y[i]? = X[i]?
def RuQ (X:AH) (P:Pz):PR Rl→AOut→AH→Prop
 | .ok r s,o,h'=>o = .ret r.av∧h'=(X.set P.i (pN P s none)).set P.j (kB s)
 | .err p e,o,h'=>o = .panic (Fl p e)∧∃ Y:{Y:AH // ErrY X P Y},h'=Y.1
def RuR (X:AH) (P:Pz) (r:Rl) (s:PS) (o:AOut) (h':AH):Prop:=∃ nk nr ng nb,o = .ret (.agg [.v (.string r.name),sG av 2 nk r.keep,sG av 2 nr r.remove,sG gv 3 ng r.guard,sG gv 3 nb r.body,.i r.vars])∧X.length≤nk∧X.length≤nr∧X.length≤ng∧X.length≤nb ∧
 At h' nk (layG 54 nk r.keep)∧At h' nr (layG 54 nr r.remove)∧At h' ng (layG 54 ng r.guard)∧At h' nb (layG 54 nb r.body)∧X.length≤h'.length∧h'.take X.length=(X.set P.i (pN P s none)).set P.j (kB s)
abbrev nilV:AV:=.v (.slice none 0 0)
def rB (name:ByteArray) (k r g b:AV):AB:=.cells 34 6 [.agg [.v (.string name),k,r,g,b,.i 0]]
theorem ZO {B:AH} {P2:Pz} {s s':PS} {a b a' b':AB} {M N L:AH} {n:Nat} (h:At (ph B P2 s++(a::b::M)) n L) (h1:B.length+2≤n) (h2:n+L.length≤B.length+2+M.length):At (ph B P2 s'++(a'::b'::(M++N))) n L:=by
 refine h.keep fun i i1 i2=>?_
 rw [List.getElem?_append_right (by rw [QN];omega),List.getElem?_append_right (by rw [QN];omega),QN,QN]
 obtain ⟨k,hk⟩:∃ k,i - B.length=k+1+1:=⟨i - B.length - 2,by omega⟩
 rw [hk]
 simp only [Qrq]
 rw [List.getElem?_append_left (by omega)]
def RH (B:AH) (P2:Pz) (X:AH) (s:PS) (r:Rl) (st:AS):Prop:=st.tm 0 = .ptr P2.i 0 0∧st.tm 2 = .ptr X.length 0 0∧st.tm 3 = .ptr B.length 0 0∧Wst P2.all s∧SmG r.keep∧SmG r.remove∧SmG r.guard∧SmG r.body∧∃ nk nr ng nb x4 M,
 st.h=ph B P2 s++(rB r.name (sG av 2 nk r.keep) (sG av 2 nr r.remove) (sG gv 3 ng r.guard) (sG gv 3 nb r.body)::x4::M)∧At st.h nk (layG 54 nk r.keep)∧At st.h nr (layG 54 nr r.remove)∧At st.h ng (layG 54 ng r.guard)∧At st.h nb (layG 54 nb r.body) ∧
 B.length+2≤nk∧nk+gsz r.keep≤nr∧nr+gsz r.remove≤ng∧ng+gsz r.guard≤nb∧nb+gsz r.body≤B.length+2+M.length
def QjY (b:List G):List G:=match b with|[x]=>if x.op=1 then [] else b|_=>b
def finT (name:ByteArray) (keep remove g b:List G) (s:PS):PR Rl:=(XC sDot s).bind fun _ s=>.ok ⟨name,keep,remove,g,QjY b,0⟩ s
theorem Qjk (name:ByteArray) (keep remove:List G) (s:PS):Za name keep remove s=(Yi 12 s).bind fun b s=>if s.is sBar then (Yi 12 s.nx).bind fun b2 s=>finT name keep remove b b2 s else finT name keep remove [] b s:=rfl
theorem retQ {f:FuncId} {args:List AV} {X:AH} {q n:Nat} {ord:List Int} {l:List G} (H:QI Tryd.prog f args X (GnQ X q n ord l)):QI Tryd.prog f args X fun o h'=>o = .ret (.tup [])∧∃ Y:{Y:AH // GnQ X q n ord l (.ret (.tup [])) Y},h'=Y.1 :=
 H.mono fun o h' k=>by
  obtain ⟨rfl,k2⟩:=k
  exact ⟨rfl,⟨h',rfl,k2⟩,rfl⟩
theorem Qoi {s:PS} {a b:List UInt8} (h:s.is a=true) (hab:(a==b)=false):s.is b=false:=by
 simp only [PS.is,Bool.and_eq_true,beq_iff_eq] at h
 simp only [PS.is,h.1,h.2,hab,Bool.and_false]
section
variable {P:Pz} {s:PS} (hW:Wst P.all s) {h:AH} (H:P.ok h) (hN:P.all.length≤1000000) (hD:TkOk P.all) (L:AH)
include hW H hN hD
theorem QfP {pre:Nat} (hpre:pre≤100) {p e:Int} (hr:Yc pre s = .err p e):QI Tryd.prog 41 [.ptr P.i 0 0,.i (pre:Nat)] (ph h P s++L) fun o h'=>o = .panic (Fl p e)∧∃ s1:PS,h'=ph h P s1++L:=by
 have:=Qfa hW (H.app L) hN hD pre hpre
 rw [hr] at this
 rw [QX H] at this
 exact this.mono fun o h' q=>by simpa only [GsQ,QX H] using q
theorem Qhr {pre:Nat} (hpre:pre≤100) {l:List G} {s2:PS} (hr:Yc pre s = .ok l s2) {k:Nat} (hk:k=h.length+L.length):QI Tryd.prog 41 [.ptr P.i 0 0,.i (pre:Nat)] (ph h P s++L) fun o h'=>o = .ret (.sl 2 (lvG av k l) none)∧h'=ph h P s2++(L++layG 54 k l):=by
 have:=Qfa hW (H.app L) hN hD pre hpre
 rw [hr] at this
 subst hk
 rw [QX H] at this
 exact this.mono fun o h' q=>by simpa only [GsQ,QX H,Qsg,List.append_assoc] using q
theorem Qfl {most:Nat} (hm:most≤100) {p e:Int} (hr:Yi most s = .err p e):QI Tryd.prog 29 [.ptr P.i 0 0,.i (most:Nat)] (ph h P s++L) fun o h'=>o = .panic (Fl p e)∧∃ s1:PS,h'=ph h P s1++L:=by
 have:=QcD hW (H.app L) hN hD most hm
 rw [hr] at this
 rw [QX H] at this
 exact this.mono fun o h' q=>by simpa only [GsQ,QX H] using q
theorem Qg4 {most:Nat} (hm:most≤100) {l:List G} {s2:PS} (hr:Yi most s = .ok l s2) {k:Nat} (hk:k=h.length+L.length):QI Tryd.prog 29 [.ptr P.i 0 0,.i (most:Nat)] (ph h P s++L) fun o h'=>o = .ret (.sl 3 (lvG gv k l) none)∧h'=ph h P s2++(L++layG 54 k l):=by
 have:=QcD hW (H.app L) hN hD most hm
 rw [hr] at this
 subst hk
 rw [QX H] at this
 exact this.mono fun o h' q=>by simpa only [GsQ,QX H,Qsg,List.append_assoc] using q
end
theorem QgF {tt:TypeId} {h:AH} {m w:Nat} {vw:Nat→G→AV} {vA:G→AV} (hv:∀ n g,(vw n g).cells.length=w) (hA:∀ g,(vA g).cells.length=w)
  (hp:∀ n g,m≤n→At h n (layA tt n g.args)→∀ (j:Nat) a a',(vw n g).cells[j]? = some a→(vA g).cells[j]? = some a'→Melt h m a a'):∀ (n:Nat) (l:List G),m≤n→At h n (layG tt n l) →
  (flat (vs vA l)).length=(flat (lvG vw n l)).length∧∀ (j:Nat) a a',(flat (lvG vw n l))[j]? = some a→(flat (vs vA l))[j]? = some a'→Melt h m a a'
 |n,[],_,_=>⟨rfl,fun j a a' h1=>by simp [lvG,flat] at h1⟩
 |n,g::l,hm,H=>by
  rw [layG] at H
  have h1:At h (n+1) (layA tt (n+1) g.args++(.dead::layG tt (n+szs g.args+2) l)):=At.right (L:=[.dead]) H rfl
  have h2:=h1.right (m:=n+1+szs g.args) (by rw [X4])
  have h3:At h (n+szs g.args+2) (layG tt (n+szs g.args+2) l):=by
   have:=At.right (L:=[.dead]) (m:=n+1+szs g.args+1) h2 rfl
   rwa [show n+1+szs g.args+1=n+szs g.args+2 by omega] at this
  obtain ⟨h4,h5⟩:=QgF hv hA hp (n+szs g.args+2) l (by omega) h3
  rw [Qpa,lvG]
  refine ⟨by rw [Q2,Q2,List.length_append,List.length_append,h4,hv,hA],fun j a a' ha hb=>?_⟩
  rw [Q2,List.getElem?_append,hv] at ha
  rw [Q2,List.getElem?_append,hA] at hb
  split at ha
  ·rename_i hj;rw [if_pos hj] at hb;exact hp _ g (by omega) h1.left j a a' ha hb
  ·rename_i hj;rw [if_neg hj] at hb;exact h5 _ a a' ha hb
theorem QkY {tt:TypeId} {h:AH} {m w n:Nat} {vw:Nat→G→AV} {vA:G→AV} (hv:∀ n g,(vw n g).cells.length=w) (hA:∀ g,(vA g).cells.length=w)
  (hp:∀ n g,m≤n→At h n (layA tt n g.args)→∀ (j:Nat) a a',(vw n g).cells[j]? = some a→(vA g).cells[j]? = some a'→Melt h m a a') (l:List G) (hm:m≤n) (H:At h n (layG tt n l)):Melt h m (sG vw w n l) (.sl w (vs vA l) none):=by
 cases l with
 |nil=>exact .nil w
 |cons g l =>
  obtain ⟨h1,h2⟩:=QgF hv hA hp n (g::l) hm H
  rw [QeY vw w n (by simp)]
  refine .sl (by rw [Y9,Yo]) (fun y hy=>?_) h1 h2
  obtain ⟨x,_,rfl⟩:=List.mem_map.1 hy
  exact hA x
theorem QlA {tt:TypeId} {h:AH} {m n:Nat} (l:List G) (hm:m≤n) (H:At h n (layG tt n l)):Melt h m (sG av 2 n l) (.sl 2 (vs G.atom l) none) :=
 QkY (vw:=av) (vA:=G.atom) (fun _ _=>rfl) (fun _=>rfl) (fun n g hm hA j a a' h1 h3=>by
  match j,h1,h3 with
  |0,h1,h3=>cases h1;cases h3;exact .keep (.v _)
  |1,h1,h3=>cases h1;cases h3;exact Qd8 hm hA
  |j+2,h1,h3=>simp [av,AV.cells] at h1) l hm H
theorem QkV {tt:TypeId} {h:AH} {m n:Nat} (l:List G) (hm:m≤n) (H:At h n (layG tt n l)):Melt h m (sG gv 3 n l) (.sl 3 (vs G.goal l) none) :=
 QkY (vw:=gv) (vA:=G.goal) (fun _ _=>rfl) (fun _=>rfl) (fun n g hm hA j a a' h1 h3=>by
  match j,h1,h3 with
  |0,h1,h3=>cases h1;cases h3;exact .keep (.v _)
  |1,h1,h3=>cases h1;cases h3;exact .keep (.v _)
  |2,h1,h3=>cases h1;cases h3;exact Qd8 hm hA
  |j+3,h1,h3=>simp [gv,AV.cells] at h1) l hm H
theorem Qh7 {vw:Nat→G→AV} (hv:∀ n s g,vw n (gG s g).1=vw n g):∀ (n:Nat) (s:List Int) (l:List G),lvG vw n (Xj gG s l).1=lvG vw n l
 |n,s,[]=>rfl
 |n,s,g::l=>by
  simp only [Xj,lvG]
  rw [hv,Qh7 hv _ _ l,show (gG s g).1.args=(Xs gNum s g.args).1 from rfl,YG]
theorem Qn6 {vw:Nat→G→AV} (hv:∀ n s g,vw n (gG s g).1=vw n g) (w n:Nat) (s:List Int) (l:List G):sG vw w n (Xj gG s l).1=sG vw w n l:=by
 cases l with
 |nil=>rfl
 |cons g l =>
  rw [QeY vw w n (l:=g::l) (by simp),QeY vw w n (l:=(Xj gG s (g::l)).1) (by simp [Xj]),Qh7 hv]
theorem QpF (n:Nat) (s:List Int) (g:G):av n (gG s g).1=av n g:=by simp only [av,gG,QdM]
theorem Qom (n:Nat) (s:List Int) (g:G):gv n (gG s g).1=gv n g:=by simp only [gv,gG,QdM]
section
variable {P:Pz} {s:PS} {own:Option Nat} {m:List (ByteArray×AV)} {X:AH} (HP:PIn P X s own m) (hW:Wst P.all ⟨s.toks,[]⟩) (hN:P.all.length≤1000000) (hD:TkOk P.all)
include HP hW hN hD
theorem Qnb (Q:AOut→AH→Prop) (hQe:∀ p e h',Yv s = .err p e→ErrY X P h'→Q (.panic (Fl p e)) h') (hQo:∀ r s6 o h',Yv s = .ok r s6→RuR X P r s6 o h'→Q o h'):QI Tryd.prog 20 [.ptr P.i 0 0] X Q:=by
 have hz:∀ z,PIn P (X++[z]) s own m:=fun z=>⟨by rw [List.getElem?_append_left (Qr HP.i)];exact HP.i,by rw [List.getElem?_append_left (Qr HP.j)];exact HP.j⟩
 obtain ⟨Z,hZ⟩:∃ Z,Z=rB {data:=#[]} nilV nilV nilV nilV:=⟨_,rfl⟩
 have cc:=Qke (hz Z)
 have HB:=(hz Z).ok [] .dead
 obtain ⟨B,hB⟩:∃ B,B=X++[Z]++[AB.dead]:=⟨_,rfl⟩
 have hBl:B.length=X.length+2:=by rw [hB];simp
 obtain ⟨P2,hP2⟩:∃ P2,P2=P.to (X++[Z]).length:=⟨_,rfl⟩
 rw [← hB,← hP2] at HB cc
 have ei:P2.i=P.i:=by rw [hP2];rfl
 have eall:P2.all=P.all:=by rw [hP2];rfl
 rw [← ei]
 rw [← eall] at hW hN hD
 rw [← ei] at cc
 have f1:=QN B P2
 have f3:=Xr B P2
 have f4:=XZ B P2
 have f5:=Xd B P2
 have f6:=XA B P2
 generalize hs0:(⟨s.toks,[]⟩:PS)=s0 at *
 have hEY:∀ s' L,ErrY X P (ph B P2 s'++L):=fun s' L=>by
  have bg:P2.g=X.length+1:=by rw [hP2];simp [Pz.to]
  have ej:P2.j=P.j:=by rw [hP2];rfl
  refine ⟨by rw [List.length_append,QN];omega,fun i h1 h2 h3=>?_⟩
  rw [List.getElem?_append_left (by rw [QN];omega),YN HB (by rw [ei];exact h2) (by rw [ej];exact h3) (by omega),hB,List.append_assoc,List.getElem?_append_left h1]
 have hErr:∀ p e s' L,YJ s0 = .err p e→Q (.panic (Fl p e)) (ph B P2 s'++L):=fun p e s' L hh=>hQe p e _ (by rw [Yv,hs0,hh];rfl) (hEY s' L)
 have hX0:∀ L,(ph B P2 s0++L)[P2.i]? = some (pN P2 s0 (some P2.g)):=fun L=>ph_i HB s0 L
 have ca:=fun L=>Qkj hW (hX0 L) hN
 have cn:=fun L=>Qj8 hW (hX0 L)
 have hi:=ph_i HB s0
 simp only [pB] at hi
 have e1:=Tk.QqG s0.tk
 have e2:=Tk.QqH s0.tk
 have e3:=Tk.QqG s0.nx.tk
 have e4:=Tk.QqH s0.nx.tk
 rw [rB] at hZ
 subst hZ
 refine Qe Tryd.func20 rfl Tryd.call20 Tryd.ntmps20 (congrArg Array.toList Tryd.results20) (by simp) ?_
 iterate 7 (try (first|((first|(with_reducible (first|refine Qa fun K E hK hE=>?_|refine FunW.ret (FunW.call cc) ?_)));simp -implicitDefEqProofs only [Qc,Qd,OpW,QC,aop,undef,AS.ev,Qs,AV.QqF,↓reduceIte,zi34,f1,seval])|((with_reducible refine hK _ ?_);clear hK)))
 have hAt:s0.nx.is sAt=(s0.nx.tk.kind==4&&(s0.nx.tk.text.toList==sAt)):=rfl
 refine Q7 (fun st=>∃ name s1,YJ s0=bodyT name s1∧Wst P2.all s1∧st.tm 0 = .ptr P2.i 0 0∧st.tm 2 = .ptr X.length 0 0∧st.tm 3 = .ptr B.length 0 0∧∃ x4,st.h=ph B P2 s1++[rB name nilV nilV nilV nilV,x4]) ?_ ?_
 ·rintro ⟨tm,hp⟩ ⟨name,s1,hpart,hW1,t0,t2,t3,x4,rfl⟩
  simp only at t0 t2 t3
  have hErr2:∀ p e s' L,bodyT name s1 = .err p e→Q (.panic (Fl p e)) (ph B P2 s'++L):=fun p e s' L hh=>hErr p e s' L (by rw [hpart,hh])
  clear hErr
  refine Q7 (fun st=>st.tm 0 = .ptr P2.i 0 0∧st.tm 2 = .ptr X.length 0 0∧st.tm 3 = .ptr B.length 0 0∧∃ l s2,Yc 0 s1 = .ok l s2∧st.tm 5 = .sl 2 (lvG av (B.length+2) l) none∧st.h=ph B P2 s2++(rB name nilV nilV nilV nilV::x4::layG 54 (B.length+2) l)) ?_ ?_
  ·rintro ⟨tm,hp⟩ ⟨t0,t2,t3,l,s2,hr,t5,rfl⟩
   simp only at t0 t2 t3 t5
   obtain ⟨hS1,hl4,hl0⟩:=Qg3 hr
   have hW2:Wst P2.all s2:=Kp.Ps.ok (n:=wdOf P2.all) (Kp.Qct trivial 0) hW1 hr
   have hB1:bodyT name s1=if s2.is Qay then Za name [] l s2.nx else if s2.is Qe2 then Za name l [] s2.nx else
     if s2.is QeO then (Yc l.length s2.nx).bind fun rem s=>(XC Qay s).bind fun _ s=>Za name l rem s else .err s2.tk.pos 16:=by rw [bodyT,hr];rfl
   have hl1:l≠[]:=by rintro rfl;simp at hl0
   have hsl:=QeY av 2 (B.length+2) hl1
   have hAl:∀ (x y:AB) (M:AH) (s:PS),At (ph B P2 s++(x::y::(layG 54 (B.length+2) l++M))) (B.length+2) (layG 54 (B.length+2) l):=fun x y M s=>At.base (At.mid [x,y] _ M rfl) (QN B P2 s)
   have hlvl:=Yo av (B.length+2) l
   have bSimp:({data:=#[60,61,62]}:ByteArray).toList=Qay:=tl Qay
   have bProp:({data:=#[61,61,62]}:ByteArray).toList=Qe2:=tl Qe2
   have bBack:({data:=#[92]}:ByteArray).toList=QeO:=tl QeO
   have hi2:=ph_i HB s2
   simp only [pB] at hi2
   refine Q7 (fun st=>∃ keep remove s3 nk nr x4 M,bodyT name s1=Za name keep remove s3∧Wst P2.all s3∧SmG keep∧SmG remove∧st.tm 0 = .ptr P2.i 0 0∧st.tm 2 = .ptr X.length 0 0∧st.tm 3 = .ptr B.length 0 0 ∧
    st.h=ph B P2 s3++(rB name (sG av 2 nk keep) (sG av 2 nr remove) nilV nilV::x4::M)∧At st.h nk (layG 54 nk keep)∧At st.h nr (layG 54 nr remove)∧B.length+2≤nk∧nk+gsz keep≤nr∧nr+gsz remove≤B.length+2+M.length) ?_ ?_
   ·rintro ⟨tm,hp⟩ ⟨keep,remove,s3,nk,nr,x5,M,hb3,hW3,hSk,hSr,t0,t2,t3,hh,hAk,hAr,o1,o2,o3⟩
    simp only at t0 t2 t3 hh hAk hAr
    subst hh
    have hErr3:∀ p e s' L,Za name keep remove s3 = .err p e→Q (.panic (Fl p e)) (ph B P2 s'++L):=fun p e s' L hh=>hErr2 p e s' L (by rw [hb3,hh])
    refine Q7 (fun st=>∃ b s4,Yi 12 s3 = .ok b s4∧RH B P2 X s4 ⟨name,keep,remove,[],b,0⟩ st) ?_ ?_
    ·rintro ⟨tm,hp⟩ ⟨b,s4,hr3,t0,t2,t3,hW4,hSk,hSr,_,hSb,nk,nr,ng,nb,x5,M,hh,hAk,hAr,hAg,hAb,o1,o2,o3,o4,o5⟩
     simp only at t0 t2 t3 hh hAk hAr hAg hAb o2 o3 o4 o5 hSk hSr hSb
     subst hh
     have hb0:=QdF hr3
     have hT:Za name keep remove s3=if s4.is sBar then (Yi 12 s4.nx).bind fun b2 s=>finT name keep remove b b2 s else finT name keep remove [] b s4:=by rw [Qjk,hr3];rfl
     have bBar:({data:=#[124]}:ByteArray).toList=sBar:=tl sBar
     have hi4:=ph_i HB s4
     simp only [pB] at hi4
     have hz0:gsz []=0:=rfl
     refine Q7 (fun st=>∃ g b2 s5,Za name keep remove s3=finT name keep remove g b2 s5∧RH B P2 X s5 ⟨name,keep,remove,g,b2,0⟩ st) ?_ ?_
     ·rintro ⟨tm,hp⟩ ⟨g,b2,s5,hT2,t0,t2,t3,hW5,hSk,hSr,hSg,hSb2,nk,nr,ng,nb,x6,M,hh,hAk,hAr,hAg,hAb,o1,o2,o3,o4,o5⟩
      simp only at t0 t2 t3 hh hAk hAr hAg hAb o2 o3 o4 o5 hSk hSr hSg hSb2
      subst hh
      have bDot:({data:=#[46]}:ByteArray).toList=sDot:=tl sDot
      have hi5:=ph_i HB s5
      simp only [pB] at hi5
      refine Q7 (fun st=>s5.is sDot=true∧RH B P2 X s5.nx ⟨name,keep,remove,g,b2,0⟩ st) ?_ ?_
      ·rintro ⟨tm,hp⟩ ⟨hdot,t0,t2,t3,hW6,hSk,hSr,hSg,hSb2,nk,nr,ng,nb,x6,M,hh,hAk,hAr,hAg,hAb,o1,o2,o3,o4,o5⟩
       simp only at t0 t2 t3 hh hAk hAr hAg hAb o2 o3 o4 o5 hSk hSr hSg hSb2
       subst hh
       have hT3:Za name keep remove s3 = .ok ⟨name,keep,remove,g,QjY b2,0⟩ s5.nx:=by rw [hT2,finT,XC,if_pos hdot];rfl
       refine Q7 (fun st=>∃ r s6,Za name keep remove s3 = .ok r s6∧r.vars=0∧RH B P2 X s6 r st) ?_ ?_
       ·rintro ⟨tm,hp⟩ ⟨⟨name2,keep2,remove2,g2,b4,vars2⟩,s6,hT4,hv0,t0,t2,t3,hW7,hSk2,hSr2,hSg2,hSb4,nk,nr,ng,nb,x7,M,hh,hAk,hAr,hAg,hAb,o1,o2,o3,o4,o5⟩
        simp only at t0 t2 t3 hh hAk hAr hAg hAb o2 o3 o4 o5 hSk2 hSr2 hSg2 hSb4 hv0
        subst hv0
        have bi:P2.i<X.length:=by rw [ei];exact Qr HP.i
        have bj:P2.j<X.length:=by rw [hP2];exact Qr HP.j
        have bij:P2.i≠P2.j:=HB.ij
        have bg:P2.g=X.length+1:=by rw [hP2];simp [Pz.to]
        have hi6:=ph_i HB s6
        refine Qak P2.i 66 4 [.agg [.sl 3 (tks P2.all) none,.i ((P2.all.length - s6.toks.length:Nat):Int),.sl 1 (strs s6.names) (some P2.g),.mp P2.j]] [.agg [.sl 3 (tks P2.all) none,.i ((P2.all.length - s6.toks.length:Nat):Int),.sl 1 (strs s6.names) none,.mp P2.j]] 2
         (Wk.sl rfl (fun y hy=>by obtain ⟨x,_,rfl⟩:=List.mem_map.1 hy;rfl) (WkL.refl _)) (by rw [hh];exact hi6 _) rfl rfl (fun x hx=>by rw [List.mem_singleton] at hx;subst hx;rfl) ?_
        have hq0:hp.length=B.length+2+M.length:=by rw [hh,List.length_append,QN];simp only [QrC];omega
        generalize hX9:hp.set P2.i _=X9 at *
        have hq:X9.length=B.length+2+M.length:=by rw [← hX9,List.length_set,hq0]
        have hXo:∀ i,i≠P2.i→X9[i]? = hp[i]? := fun i h=>by rw [← hX9,List.getElem?_set_ne (Ne.symm h)]
        have hXi:X9[P2.i]? = some (pN P2 s6 none):=by rw [← hX9,List.getElem?_set_self (by omega)];rfl
        have hr0:X9[B.length]? = some (.cells 34 6 [.agg [.v (.string name2),sG av 2 nk keep2,sG av 2 nr remove2,sG gv 3 ng g2,sG gv 3 nb b4,.i 0]]):=by rw [hXo _ (by omega),hh,f3];rfl
        replace hAk:=hAk.keep (Y:=X9) fun i i1 i2=>hXo i (by omega)
        replace hAr:=hAr.keep (Y:=X9) fun i i1 i2=>hXo i (by omega)
        replace hAg:=hAg.keep (Y:=X9) fun i i1 i2=>hXo i (by omega)
        replace hAb:=hAb.keep (Y:=X9) fun i i1 i2=>hXo i (by omega)
        have hlow:∀ i,i<X.length→X9[i]? = ((X.set P.i (pN P s6 none)).set P.j (kB s6))[i]? := fun i i1=>by
         have ej:P2.j=P.j:=by rw [hP2];rfl
         have ePN:pN P2 s6 none=pN P s6 none:=by rw [hP2];rfl
         rw [← ei,← ej,← ePN]
         by_cases c1:i=P2.i
         ·subst c1
          rw [hXi,List.getElem?_set_ne (Ne.symm bij),List.getElem?_set_self bi]
         ·rw [hXo i c1,hh,List.getElem?_append_left (by rw [QN];omega)]
          by_cases c2:i=P2.j
          ·subst c2
           rw [Qm1 HB,List.getElem?_set_self (by rw [List.length_set];exact bj)]
          ·rw [YN HB c1 c2 (by omega),List.getElem?_set_ne (Ne.symm c2),List.getElem?_set_ne (Ne.symm c1),hB,List.append_assoc,List.getElem?_append_left i1]
        have hresX:X9[X.length]? = some (.cells 34 6 [.agg [.v (.string {data:=#[]}),nilV,nilV,nilV,nilV,.i 0]]):=by
         rw [hXo _ (by omega),hh,List.getElem?_append_left (by rw [QN];omega),YN HB (by omega) (by omega) (by omega),hB,List.append_assoc,ZZ];rfl
        obtain ⟨q,hqq⟩:∃ q,q=X9.length:=⟨_,rfl⟩
        have hrL:∀ L:AH,(X9++L)[B.length]? = _:=fun L=>hext hr0 L
        iterate 2 (try (first|(((with_reducible refine Qa fun K E hK hE=>?_));simp -implicitDefEqProofs only [Qc,Qd,OpW,aop,AV.QqF,↓reduceIte,zi84,seval])|((with_reducible refine hK _ ?_);clear hK)))
        refine YB X9.length 84 2 1 (.grow 3 1 0) (.inr ⟨_,rfl⟩) [.agg [.v (.map none),.v (.slice none 0 0)]] [.agg [.v (.map none),.sl 1 [] (some (X9.length+1))]] 1 (by rw [List.getElem?_append_right (Nat.le_refl _),Nat.sub_self];rfl) rfl (by rw [List.length_append];rfl) (by simp [AV.cells]) ?_
        have hZ:((X9++[AB.cells 84 2 [.agg [.v (.map none),.v (.slice none 0 0)]]])++[AB.grow 3 1 0]).set X9.length (AB.cells 84 2 [.agg [.v (.map none),.sl 1 [] (some (X9.length+1))]])=X9++[AB.cells 84 2 [.agg [.v (.map none),.sl 1 [] (some (X9.length+1))]],AB.grow 3 1 0]:=by
         rw [List.append_assoc,List.set_append_right _ _ (Nat.le_refl _),Nat.sub_self];rfl
        have hN0:NSt (X9++[AB.cells 84 2 [.agg [.v (.map none),.sl 1 [] (some (X9.length+1))]],.grow 3 1 0]) X9.length []:=⟨.v (.map none),by rw [List.getElem?_append_right (Nat.le_refl _),Nat.sub_self];rfl,by rw [List.getElem?_append_right (by omega),Nat.add_sub_cancel_left];rfl,.inl ⟨rfl,rfl⟩⟩
        rw [hZ]
        obtain ⟨Z0,hZ0⟩:∃ Z0,Z0=X9++[AB.cells 84 2 [.agg [.v (.map none),.sl 1 [] (some (X9.length+1))]],AB.grow 3 1 0]:=⟨_,rfl⟩
        have hl0:X9.length+1<Z0.length:=by rw [hZ0,List.length_append];simp
        have hr1:Z0[B.length]? = some (.cells 34 6 [.agg [.v (.string name2),sG av 2 nk keep2,sG av 2 nr remove2,sG gv 3 ng g2,sG gv 3 nb b4,.i 0]]):=by rw [hZ0];exact hrL _
        have hA1:At Z0 nk (layG 54 nk keep2):=by rw [hZ0];exact hAk.app _
        have hA2:At Z0 nr (layG 54 nr remove2):=by rw [hZ0];exact hAr.app _
        have hA3:At Z0 ng (layG 54 ng g2):=by rw [hZ0];exact hAg.app _
        have hA4:At Z0 nb (layG 54 nb b4):=by rw [hZ0];exact hAb.app _
        rw [← hZ0] at hN0
        rw [← hZ0]
        have c1:=retQ (Qhw keep2 hSk2.1 Z0 X9.length nk [] (by have:=hSk2.2.2;omega) (by have:=hSk2.2.1;simp only [QrD];omega) (by omega) hl0 hN0 hA1)
        have hlk:=QaV [] keep2
        have hlr:=QaV (Xj gG [] keep2).2 remove2
        have hlg:=QaV (Xj gG (Xj gG [] keep2).2 remove2).2 g2
        have hnd1:=hSk2.2.1
        have hnd2:=hSr2.2.1
        have hnd3:=hSg2.2.1
        have hnd4:=hSb4.2.1
        simp only [QrD] at hlk
        repeat (first|((first|(with_reducible (first|refine Qa fun K E hK hE=>?_|refine FunW.retE (FunW.call c1) fun Y=>?_)));simp -implicitDefEqProofs only [Qc,Qd,OpW,QC,aop,XF,AS.ev,↓reduceIte,Qf,Qw,Qv,ti31,Qeq,QeB,t3,hr1,seval])|((with_reducible refine hK _ ?_);clear hK))
        have hY:=Y.2
        generalize Y.1=Y1 at *
        obtain ⟨_,p1,n1,a1⟩:=hY
        have l1:X9.length+1<Y1.length:=by have:=p1.long;omega
        have r1:Y1[B.length]? = some (.cells 34 6 [.agg [.v (.string name2),sG av 2 nk keep2,sG av 2 nr remove2,sG gv 3 ng g2,sG gv 3 nb b4,.i 0]]):=by rw [p1.out _ (by omega) (by omega)];exact hr1
        have b2:At Y1 nr (layG 54 nr remove2):=hA2.keep fun i i1 i2=>p1.out i (by rw [QL] at i2;omega) (by rw [QL] at i2;omega)
        have b3:At Y1 ng (layG 54 ng g2):=hA3.keep fun i i1 i2=>p1.out i (by rw [QL] at i2;omega) (by rw [QL] at i2;omega)
        have b5:At Y1 nb (layG 54 nb b4):=hA4.keep fun i i1 i2=>p1.out i (by rw [QL] at i2;omega) (by rw [QL] at i2;omega)
        have c2:=retQ (Qhw remove2 hSr2.1 Y1 X9.length nr _ (by have:=hSr2.2.2;omega) (by omega) (by omega) l1 n1 b2)
        simp -implicitDefEqProofs only [Qcb,Qrp,Qrq,Qrr,r1]
        repeat (first|((first|(with_reducible (first|refine Qa fun K E hK hE=>?_|refine FunW.retE (FunW.call c2) fun Y=>?_)));simp -implicitDefEqProofs only [Qc,Qd,OpW,QC,aop,XF,AS.ev,↓reduceIte,Qf,Qw,Qv,ti32,QbC,t3,seval])|((with_reducible refine hK _ ?_);clear hK))
        have hY:=Y.2
        generalize Y.1=Y2 at *
        obtain ⟨_,p2,n2,a2⟩:=hY
        have l2:X9.length+1<Y2.length:=by have:=p2.long;omega
        have r2:Y2[B.length]? = some (.cells 34 6 [.agg [.v (.string name2),sG av 2 nk keep2,sG av 2 nr remove2,sG gv 3 ng g2,sG gv 3 nb b4,.i 0]]):=by rw [p2.out _ (by omega) (by omega)];exact r1
        have d1:At Y2 nk (layG 54 nk (Xj gG [] keep2).1):=a1.keep fun i i1 i2=>p2.out i (by rw [QL,Yl] at i2;omega) (by rw [QL,Yl] at i2;omega)
        have d3:At Y2 ng (layG 54 ng g2):=b3.keep fun i i1 i2=>p2.out i (by rw [QL] at i2;omega) (by rw [QL] at i2;omega)
        have d4:At Y2 nb (layG 54 nb b4):=b5.keep fun i i1 i2=>p2.out i (by rw [QL] at i2;omega) (by rw [QL] at i2;omega)
        have c3:=retQ (Qew g2 hSg2.1 Y2 X9.length ng _ (by have:=hSg2.2.2;omega) (by omega) (by omega) l2 n2 d3)
        simp -implicitDefEqProofs only [Qcb,Qrp,Qrq,Qrr,r2]
        repeat (first|((first|(with_reducible (first|refine Qa fun K E hK hE=>?_|refine FunW.retE (FunW.call c3) fun Y=>?_)));simp -implicitDefEqProofs only [Qc,Qd,OpW,QC,aop,XF,AS.ev,↓reduceIte,Qf,Qw,Qv,ti32,Z9,t3,seval])|((with_reducible refine hK _ ?_);clear hK))
        have hY:=Y.2
        generalize Y.1=Y3 at *
        obtain ⟨_,p3,n3,a3⟩:=hY
        have l3:X9.length+1<Y3.length:=by have:=p3.long;omega
        have r3:Y3[B.length]? = some (.cells 34 6 [.agg [.v (.string name2),sG av 2 nk keep2,sG av 2 nr remove2,sG gv 3 ng g2,sG gv 3 nb b4,.i 0]]):=by rw [p3.out _ (by omega) (by omega)];exact r2
        have m1:At Y3 nk (layG 54 nk (Xj gG [] keep2).1):=d1.keep fun i i1 i2=>p3.out i (by rw [QL,Yl] at i2;omega) (by rw [QL,Yl] at i2;omega)
        have m2:=a2.keep (Y:=Y3) fun i i1 i2=>p3.out i (by rw [QL,Yl] at i2;omega) (by rw [QL,Yl] at i2;omega)
        have m4:At Y3 nb (layG 54 nb b4):=d4.keep fun i i1 i2=>p3.out i (by rw [QL] at i2;omega) (by rw [QL] at i2;omega)
        have c4:=retQ (Qew b4 hSb4.1 Y3 X9.length nb _ (by have:=hSb4.2.2;omega) (by omega) (by omega) l3 n3 m4)
        simp -implicitDefEqProofs only [Qcb,Qrp,Qrq,Qrr,r3]
        repeat (first|((first|(with_reducible (first|refine Qa fun K E hK hE=>?_|refine FunW.retE (FunW.call c4) fun Y=>?_)));simp -implicitDefEqProofs only [Qc,Qd,OpW,QC,aop,undef,XF,AS.ev,AV.QqF,↓reduceIte,Qf,Qw,Qv,Qy,Qm,aLen,goInt,ti3,QjF,ti82,un82,QeK,t3,seval])|((with_reducible refine hK _ ?_);clear hK))
        have hY:=Y.2
        generalize Y.1=Y4 at *
        obtain ⟨_,p4,n4,a4⟩:=hY
        have hb4l:=QaV (Xj gG (Xj gG (Xj gG [] keep2).2 remove2).2 g2).2 b4
        have w1:=m1.keep (Y:=Y4) fun i i1 i2=>p4.out i (by rw [QL,Yl] at i2;omega) (by rw [QL,Yl] at i2;omega)
        have w2:=m2.keep (Y:=Y4) fun i i1 i2=>p4.out i (by rw [QL,Yl] at i2;omega) (by rw [QL,Yl] at i2;omega)
        have w3:=a3.keep (Y:=Y4) fun i i1 i2=>p4.out i (by rw [QL,Yl] at i2;omega) (by rw [QL,Yl] at i2;omega)
        have r4:Y4[B.length]? = some (.cells 34 6 [.agg [.v (.string name2),sG av 2 nk keep2,sG av 2 nr remove2,sG gv 3 ng g2,sG gv 3 nb b4,.i 0]]):=by rw [p4.out _ (by omega) (by omega)];exact r3
        have rlow:∀ i,i<B.length→Y4[i]? = X9[i]? := fun i i1=>by
         rw [p4.out i (by omega) (by omega),p3.out i (by omega) (by omega),p2.out i (by omega) (by omega),p1.out i (by omega) (by omega),hZ0,List.getElem?_append_left (by omega)]
        have rX:Y4[X.length]? = some (.cells 34 6 [.agg [.v (.string {data:=#[]}),nilV,nilV,nilV,nilV,.i 0]]):=by rw [rlow _ (by omega)];exact hresX
        obtain ⟨toV,z1,z2,z3⟩:=n4
        have l4:B.length+2≤Y4.length:=by have:=Qr z1;omega
        have u1:∀ y,(Y4.set B.length y)[B.length]? = some y:=fun y=>List.getElem?_set_self (by omega)
        have u2:∀ y,(Y4.set B.length y)[X.length]? = some (.cells 34 6 [.agg [.v (.string {data:=#[]}),nilV,nilV,nilV,nilV,.i 0]]):=fun y=>by rw [List.getElem?_set_ne (by omega)];exact rX
        have u3:∀ y z,((Y4.set B.length y).set X.length z)[X.length]? = some z:=fun y z=>List.getElem?_set_self (by rw [List.length_set];omega)
        simp -implicitDefEqProofs only [Qc,↓reduceIte,r4,z1,seval]
        repeat (first|(((with_reducible refine Qa fun K E hK hE=>?_));simp -implicitDefEqProofs only [Qc,Qd,OpW,aop,undef,AS.ev,AV.QqF,↓reduceIte,Qw,Qv,Qy,Qm,ti34,t2,t3,u1,u2,Qcl,seval])|(with_reducible refine Qn ?_)|((with_reducible refine hK _ ?_);clear hK))
        simp -implicitDefEqProofs only [Qc,↓reduceIte,Qw,Qv,ti34,t2,Qw,Qv,u3,QG,Qp,Qt,Qrz,seval]
        have nl:=QkI ⟨name2,keep2,remove2,g2,b4,0⟩
        have hsx:∀ (y z:AB) (i:Nat),i≠B.length→i≠X.length→((Y4.set B.length y).set X.length z)[i]? = Y4[i]? := fun y z i i1 i2=>by rw [List.getElem?_set_ne (Ne.symm i2),List.getElem?_set_ne (Ne.symm i1)]
        refine .inr (hQo _ s6 _ _ (by rw [Yv,hs0,hpart,hb3,hT4];rfl) ?_)
        rw [nl]
        exact ⟨nk,nr,ng,nb,by simp only [Qn6 QpF,Qn6 Qom],by omega,by omega,by omega,by omega,w1.keep fun i i1 i2=>hsx _ _ i (by omega) (by omega),w2.keep fun i i1 i2=>hsx _ _ i (by omega) (by omega),w3.keep fun i i1 i2=>hsx _ _ i (by omega) (by omega),a4.keep fun i i1 i2=>hsx _ _ i (by omega) (by omega),by simp only [List.length_set];omega,List.ext_getElem? fun i=>by
         by_cases i1:i<X.length
         ·rw [List.getElem?_take_of_lt i1,hsx _ _ i (by omega) (by omega),rlow i (by omega),hlow i i1]
         ·rw [List.getElem?_take_eq_none (by omega),List.getElem?_eq_none (by simp only [List.length_set];omega)]⟩
       ·have hnl:=fun t'=>Qcf Tryd.prog 32 t' 52 (by kernel_rfl)
        rcases b2 with _|⟨x,_|⟨y,l⟩⟩
        ·simp only [Qpx]
         have z0:((0:Int)==1)=false:=rfl
         repeat (first|(((with_reducible refine Qa fun K E hK hE=>?_));simp -implicitDefEqProofs only [Qc,Qd,OpW,aop,undef,AS.ev,↓reduceIte,Qf,Qw,Qv,aBin,aLen,goInt,ti32,Z9,t3,rB,f3,hnl,z0,seval])|(with_reducible (first|refine Qk ?_|refine Qb ?_))|((with_reducible refine hK _ ?_);clear hK)|(refine Qh rfl ?_;simp only [↓reduceIte,Qrt]))
         exact ⟨_,_,hT3,rfl,t0,t2,t3,hW6,hSk,hSr,hSg,QcL,nk,nr,ng,nb,x6,M,rfl,hAk,hAr,hAg,At.nil _ _,o1,o2,o3,o4,o5⟩
        ·have hv:sG gv 3 nb [x] = .sl 3 [gv (nb+1) x] none:=rfl
         have e7:(gv (nb+1) x).cells=[.i x.op,.v (.string x.name),lsl (nb+1) x.args]:=rfl
         have e8:(gv (nb+1) x).isAgg=true:=rfl
         have u1:((((1:Nat):Int))==1)=true:=rfl
         have u2:(0:Int)<((1:Nat):Int):=by decide
         by_cases hx1:x.op=1
         ·have z1:(x.op==1)=true:=by simpa using hx1
          repeat (first|((first|(with_reducible (first|refine Qa fun K E hK hE=>?_|refine Qj fun K E hK hE=>?_)));simp -implicitDefEqProofs only [Qc,Qd,OpW,aop,undef,AS.ev,AV.QqF,↓reduceIte,Qf,Qw,Qv,Qy,Qm,QS,aBin,aLen,goInt,ti3,ti32,ei32,un32,Z9,Yx,Qsc,t3,rB,f3,f5,hv,e7,z1,u1,u2,seval])|(with_reducible refine Qb ?_)|((with_reducible refine hK _ ?_);clear hK)|(refine Qh rfl ?_;simp only [↓reduceIte]))
          have hd:QjY [x]=[]:=by simp [QjY,hx1]
          rw [hd] at hT3
          have q1:nk+(layG 54 nk keep).length≤B.length+2+M.length:=by rw [QL];omega
          have q2:nr+(layG 54 nr remove).length≤B.length+2+M.length:=by rw [QL];omega
          have q3:ng+(layG 54 ng g).length≤B.length+2+M.length:=by rw [QL];omega
          have q5:B.length+2≤nr:=by omega
          have q6:B.length+2≤ng:=by omega
          have q7:nb+gsz []≤B.length+2+M.length:=by rw [hz0];omega
          have k1:=fun x y=>ZO (s':=s5.nx) (a':=x) (b':=y) (N:=[]) hAk o1 q1
          have k2:=fun x y=>ZO (s':=s5.nx) (a':=x) (b':=y) (N:=[]) hAr q5 q2
          have k3:=fun x y=>ZO (s':=s5.nx) (a':=x) (b':=y) (N:=[]) hAg q6 q3
          rw [List.append_nil] at k1 k2 k3
          exact ⟨_,_,hT3,rfl,t0,t2,t3,hW6,hSk,hSr,hSg,QcL,nk,nr,ng,nb,x6,M,rfl,k1 _ _,k2 _ _,k3 _ _,At.nil _ _,o1,o2,o3,o4,q7⟩
         ·have z1:(x.op==1)=false:=by simpa using hx1
          repeat (first|(((with_reducible refine Qa fun K E hK hE=>?_));simp -implicitDefEqProofs only [Qc,Qd,OpW,aop,AS.ev,↓reduceIte,Qf,Qw,Qv,QS,aBin,aLen,goInt,ti3,ti32,ei32,un32,Z9,Yx,Qsc,t3,rB,f3,hv,e7,z1,u1,u2,seval])|(with_reducible (first|refine Qk ?_|refine Qb ?_))|((with_reducible refine hK _ ?_);clear hK)|(refine Qh rfl ?_;simp only [↓reduceIte,Qrt]))
          have hd:QjY [x]=[x]:=by simp [QjY,hx1]
          rw [hd] at hT3
          exact ⟨_,_,hT3,rfl,t0,t2,t3,hW6,hSk,hSr,hSg,hSb2,nk,nr,ng,nb,x6,M,rfl,hAk,hAr,hAg,hAb,o1,o2,o3,o4,o5⟩
        ·have hv:sG gv 3 nb (x::y::l) = .sl 3 (lvG gv nb (x::y::l)) none:=rfl
         have hvl:=Yo gv nb (x::y::l)
         have z1:(((l.length+1+1:Nat):Int)==1)=false:=beq_eq_false_iff_ne.2 (by omega)
         have u2:(0:Int)<((l.length+1+1:Nat):Int):=by omega
         repeat (first|(((with_reducible refine Qa fun K E hK hE=>?_));simp -implicitDefEqProofs only [Qc,Qd,OpW,aop,undef,AS.ev,↓reduceIte,Qf,Qw,Qv,aBin,aLen,goInt,ti32,un32,Z9,t3,rB,f3,hv,hvl,z1,seval])|(with_reducible (first|refine Qk ?_|refine Qb ?_))|((with_reducible refine hK _ ?_);clear hK)|(refine Qh rfl ?_;simp only [↓reduceIte,Qrt]))
         exact ⟨_,_,hT3,rfl,t0,t2,t3,hW6,hSk,hSr,hSg,hSb2,nk,nr,ng,nb,x6,M,rfl,hAk,hAr,hAg,hAb,o1,o2,o3,o4,o5⟩
      ·cases p1:s5.is sDot with
       |true =>
        have cx:=fun L=>XH hW5 HB hN L {data:=#[46]} (by rw [bDot];exact p1)
        repeat (first|((first|(with_reducible (first|refine Qj fun K E hK hE=>?_|refine FunW.ret (FunW.call (cx _)) ?_)));simp -implicitDefEqProofs only [Qc,Qd,OpW,QC,aop,AS.ev,↓reduceIte,Nat.reduceLT,Qf,QF,Qq,t0,rB,hi5])|(with_reducible refine Qb ?_)|((with_reducible refine hK _ ?_);clear hK))
        have q1:nk+(layG 54 nk keep).length≤B.length+2+M.length:=by rw [QL];omega
        have q2:nr+(layG 54 nr remove).length≤B.length+2+M.length:=by rw [QL];omega
        have q3:ng+(layG 54 ng g).length≤B.length+2+M.length:=by rw [QL];omega
        have q4:nb+(layG 54 nb b2).length≤B.length+2+M.length:=by rw [QL];omega
        have q5:B.length+2≤nr:=by omega
        have q6:B.length+2≤ng:=by omega
        have q7:B.length+2≤nb:=by omega
        have k1:=fun x y=>ZO (s':=s5.nx) (a':=x) (b':=y) (N:=[]) hAk o1 q1
        have k2:=fun x y=>ZO (s':=s5.nx) (a':=x) (b':=y) (N:=[]) hAr q5 q2
        have k3:=fun x y=>ZO (s':=s5.nx) (a':=x) (b':=y) (N:=[]) hAg q6 q3
        have k4:=fun x y=>ZO (s':=s5.nx) (a':=x) (b':=y) (N:=[]) hAb q7 q4
        rw [List.append_nil] at k1 k2 k3 k4
        exact ⟨rfl,t0,t2,t3,hW5.nx,hSk,hSr,hSg,hSb2,nk,nr,ng,nb,x6,M,rfl,k1 _ _,k2 _ _,k3 _ _,k4 _ _,o1,o2,o3,o4,o5⟩
       |false =>
        have cx:=fun L=>X7 hW5 HB hN L {data:=#[46]} (by rw [bDot];exact p1)
        repeat (first|((first|(with_reducible (first|refine Qj fun K E hK hE=>?_|refine FunW.pan (FunW.call (cx _)) ?_)));simp -implicitDefEqProofs only [Qc,Qd,OpW,QC,aop,AS.ev,↓reduceIte,Nat.reduceLT,Qf,QF,Qq,t0,rB,hi5])|(with_reducible (first|refine hE _ _ ?_|refine QK ?_)))
        exact .inr (hErr3 _ _ _ _ (by rw [hT2,finT,XC,if_neg (by rw [p1];decide)];rfl))
     ·cases p1:s4.is sBar with
      |false =>
       rw [p1] at hT
       have cs:=fun L=>ZX hW4 HB hN L {data:=#[124]} (by rw [bBar];exact p1)
       repeat (first|((first|(with_reducible (first|refine Qa fun K E hK hE=>?_|refine FunW.ret (FunW.call (cs _)) ?_)));simp -implicitDefEqProofs only [Qc,Qd,OpW,QC,aop,AS.ev,↓reduceIte,Nat.reduceLT,Qf,QF,Qq,t0,rB,hi4])|(with_reducible (first|refine Qk ?_|refine Qb ?_))|((with_reducible refine hK _ ?_);clear hK)|(refine Qh rfl ?_;simp only [↓reduceIte,Qrt]))
       exact ⟨[],b,s4,by rw [hT];rfl,t0,t2,t3,hW4,hSk,hSr,QcL,hSb,nk,nr,ng,nb,x5,M,rfl,hAk,hAr,hAg,hAb,o1,o2,o3,o4,o5⟩
      |true =>
       rw [p1] at hT
       have cs:=fun L=>Zt hW4 HB hN L {data:=#[124]} (by rw [bBar];exact p1)
       have hi5:=ph_i HB s4.nx
       simp only [pB] at hi5
       cases hr4:Yi 12 s4.nx with
       |err p e =>
        have cg:=fun L=>Qfl hW4.nx HB hN hD L (most:=12) (by omega) hr4
        simp only [show ((12:Nat):Int)=12 from rfl] at cg
        repeat (first|((first|(with_reducible (first|refine Qa fun K E hK hE=>?_|refine FunW.ret (FunW.call (cs _)) ?_)));simp -implicitDefEqProofs only [Qc,Qd,OpW,QC,aop,AS.ev,↓reduceIte,Nat.reduceLT,Qf,QF,Qq,t0,rB,hi4])|((with_reducible refine hK _ ?_);clear hK)|(refine Qh rfl ?_;simp only [↓reduceIte]))
        refine Q6 3 [(0,0),(1,0),(2,0),(4,0)] mixed rfl rfl rfl (by kernel_rfl) (fun v h'=>v=Fl p e∧∃ s' L,h'=ph B P2 s'++L) ?_ ?_
        ·rintro tm v h' ⟨rfl,s',L,rfl⟩
         exact .inr (hErr3 _ _ _ _ (by rw [hT];show (Yi 12 s4.nx).bind _=_;rw [hr4];rfl))
        ·simp -implicitDefEqProofs only [Qc,Qd,aop,AS.ev,↓reduceIte,Qf,Qw,Qv,ti32,QbC,Z9,t0,t3,f3,seval]
         exact fun _=>(FunW.call (cg _)).mono (by rintro _ _ ⟨rfl,x,rfl⟩;exact ⟨_,rfl,rfl,_,_,rfl⟩)
       |ok b2 s5 =>
        have hW5:Wst P2.all s5:=Kp.Ps.ok (n:=wdOf P2.all) (Kp.Qbl trivial 12) hW4.nx hr4
        have cg:=fun c d=>Qg4 hW4.nx HB hN hD (c::d::M) (most:=12) (by omega) hr4 (k:=B.length+2+M.length) (by simp only [QrC];omega)
        simp only [show ((12:Nat):Int)=12 from rfl,QrR] at cg
        repeat (first|((first|(with_reducible (first|refine Qa fun K E hK hE=>?_|refine FunW.ret (FunW.call (cs _)) ?_)));simp -implicitDefEqProofs only [Qc,Qd,OpW,QC,aop,AS.ev,↓reduceIte,Nat.reduceLT,Qf,QF,Qq,t0,rB,hi4])|((with_reducible refine hK _ ?_);clear hK)|(refine Qh rfl ?_;simp only [↓reduceIte]))
        have q1:nk+(layG 54 nk keep).length≤B.length+2+M.length:=by rw [QL];omega
        have q2:nr+(layG 54 nr remove).length≤B.length+2+M.length:=by rw [QL];omega
        have q3:nb+(layG 54 nb b).length≤B.length+2+M.length:=by rw [QL];omega
        have q4:B.length+2+M.length+gsz b2≤B.length+2+(M++layG 54 (B.length+2+M.length) b2).length:=by rw [List.length_append,QL];omega
        have hb20:=QdF hr4
        have q5:B.length+2≤nr:=by omega
        have q6:B.length+2≤nb:=by omega
        have q7:nr+gsz remove≤nb:=by omega
        have q8:nb+gsz b≤B.length+2+M.length:=o5
        have hAb2:∀ (x y:AB),At (ph B P2 s5++(x::y::(M++layG 54 (B.length+2+M.length) b2))) (B.length+2+M.length) (layG 54 (B.length+2+M.length) b2):=fun x y=>by
         have:=At.base (At.mid (x::y::M) (layG 54 (B.length+2+M.length) b2) [] (n:=2+M.length) (by simp only [QrC];omega)) (QN B P2 s5)
         rw [show B.length+(2+M.length)=B.length+2+M.length by omega,List.append_nil] at this
         exact this
        have fin:∀ tm':Nat→AV,tm' 0 = .ptr P2.i 0 0→tm' 2 = .ptr X.length 0 0→tm' 3 = .ptr B.length 0 0→∃ g b6 s6,Za name keep remove s3=finT name keep remove g b6 s6∧RH B P2 X s6 ⟨name,keep,remove,g,b6,0⟩ ⟨tm',ph B P2 s5++(AB.cells 34 6 [.agg [.v (.string name),sG av 2 nk keep,sG av 2 nr remove,sG gv 3 nb b,.sl 3 (lvG gv (B.length+2+M.length) b2) none,.i 0]]::x5::(M++layG 54 (B.length+2+M.length) b2))⟩:=fun tm' k0 k2 k3 =>
         ⟨b,b2,s5,by rw [hT];show (Yi 12 s4.nx).bind _=_;rw [hr4];rfl,k0,k2,k3,hW5,hSk,hSr,hSb,QgS (Nat.le_refl _) hr4,nk,nr,nb,B.length+2+M.length,x5,M++layG 54 (B.length+2+M.length) b2,
          by rw [QeY gv 3 _ hb20];rfl,ZO hAk o1 q1,ZO hAr q5 q2,ZO hAb q6 q3,hAb2 _ _,o1,o2,q7,q8,q4⟩
        refine QcO (.node [(2,0)] 3 0 (.leaf [(3,2),(0,0),(1,0),(4,0),(5,2),(6,0),(7,2)]) (.node [(0,0)] 3 1 (.leaf [(3,2),(1,0),(4,0),(5,2),(6,0),(7,2)]) (.node [(1,0)] 3 4 (.leaf [(3,2),(4,0),(5,2),(6,0),(7,2)]) (.leaf [(4,0),(3,2),(5,2),(6,0),(7,2)])))) mixed (by kernel_rfl) (fun K2 hK2=>?_)
        simp only [OT.walk]
        simp -implicitDefEqProofs only [Qc,Qd,aop,AS.ev,↓reduceIte,Qf,Qw,Qv,ti32,QbC,Z9,t0,t3,f3,seval]
        refine ⟨?_,?_,?_,?_⟩
        ·refine XG (FunW.call (cg _ _)) Zu ?_
         simp -implicitDefEqProofs only [Qc,Qd,aop,undef,AS.ev,AV.QqF,↓reduceIte,Qf,Qw,Qv,Qy,Qm,ti32,QbC,Z9,t3,f3,f5,Qdw,Qdr,Qcl,seval]
         refine hK2 _ (fin _ ?_ ?_ ?_) <;> assumption
        ·refine XG (FunW.call (cg _ _)) Zu ?_
         simp -implicitDefEqProofs only [Qc,Qd,aop,undef,AS.ev,AV.QqF,↓reduceIte,Qf,Qw,Qv,Qy,Qm,ti32,QbC,Z9,t3,f3,f5,Qdw,Qdr,Qcl,seval]
         refine hK2 _ (fin _ ?_ ?_ ?_) <;> assumption
        ·refine XG (FunW.call (cg _ _)) Zu ?_
         simp -implicitDefEqProofs only [Qc,Qd,aop,undef,AS.ev,AV.QqF,↓reduceIte,Qf,Qy,Qm,ti32,QbC,Z9,t3,f3,f5,Qdw,Qdr,Qcl,seval]
         refine hK2 _ (fin _ ?_ ?_ ?_) <;> assumption
        ·refine XG (FunW.call (cg _ _)) Zu ?_
         simp -implicitDefEqProofs only [Qc,Qd,aop,undef,AS.ev,AV.QqF,↓reduceIte,Qf,Qy,Qm,ti32,Z9,t3,f3,f5,Qdw,Qdr,Qcl,seval]
         refine hK2 _ (fin _ ?_ ?_ ?_) <;> assumption
    ·cases hr3:Yi 12 s3 with
     |err p e =>
      have cg:=fun L=>Qfl hW3 HB hN hD L (most:=12) (by omega) hr3
      simp only [show ((12:Nat):Int)=12 from rfl] at cg
      repeat (first|((first|(with_reducible (first|refine Qj fun K E hK hE=>?_|refine FunW.panE (FunW.call (cg _)) fun r=>?_)));simp -implicitDefEqProofs only [Qc,Qd,OpW,QC,aop,AS.ev,↓reduceIte,Nat.reduceLT,t0,rB])|(with_reducible (first|refine hE _ _ ?_|refine QK ?_)))
      exact .inr (hErr3 _ _ _ _ (by rw [Qjk,hr3];rfl))
     |ok b s4 =>
      obtain ⟨hSb,hb0⟩:SmG b∧b≠[]:=⟨QgS (Nat.le_refl _) hr3,QdF hr3⟩
      have hW4:Wst P2.all s4:=Kp.Ps.ok (n:=wdOf P2.all) (Kp.Qbl trivial 12) hW3 hr3
      have cg:=fun c d=>Qg4 hW3 HB hN hD (c::d::M) (most:=12) (by omega) hr3 (k:=B.length+2+M.length) (by simp only [QrC];omega)
      simp only [show ((12:Nat):Int)=12 from rfl,QrR] at cg
      repeat (first|((first|(with_reducible (first|refine Qj fun K E hK hE=>?_|refine FunW.ret (FunW.call (cg _ _)) ?_)));simp -implicitDefEqProofs only [Qc,Qd,OpW,QC,aop,undef,AS.ev,AV.QqF,↓reduceIte,Qf,Qy,Qm,ti32,Z9,t0,t3,rB,f3,f5,seval])|(with_reducible refine Qb ?_)|((with_reducible refine hK _ ?_);clear hK))
      have hAb:∀ (x y:AB),At (ph B P2 s4++(x::y::(M++layG 54 (B.length+2+M.length) b))) (B.length+2+M.length) (layG 54 (B.length+2+M.length) b):=fun x y=>by
       have:=At.base (At.mid (x::y::M) (layG 54 (B.length+2+M.length) b) [] (n:=2+M.length) (by simp only [QrC];omega)) (QN B P2 s4)
       rw [show B.length+(2+M.length)=B.length+2+M.length by omega,List.append_nil] at this
       exact this
      have q1:nk+(layG 54 nk keep).length≤B.length+2+M.length:=by rw [QL];omega
      have q2:nr+(layG 54 nr remove).length≤B.length+2+M.length:=by rw [QL];omega
      have q3:B.length+2+M.length+gsz b≤B.length+2+(M++layG 54 (B.length+2+M.length) b).length:=by rw [List.length_append,QL];omega
      refine ⟨b,s4,rfl,t0,t2,t3,hW4,hSk,hSr,QcL,hSb,nk,nr,B.length+2+M.length,B.length+2+M.length,x5,M++layG 54 (B.length+2+M.length) b,?_,ZO hAk o1 q1,ZO hAr (by omega) q2,At.nil _ _,hAb _ _,o1,o2,o3,Nat.le_refl _,q3⟩
      show _=ph B P2 s4++(rB name _ _ _ (sG gv 3 _ b)::_)
      rw [QeY gv 3 _ hb0];rfl
   ·cases p1:s2.is Qe2 with
    |true =>
     have p3:s2.is Qay=false:=Qoi p1 (by decide)
     rw [p3,p1] at hB1
     have cs:=fun L=>Zt hW2 HB hN L {data:=#[61,61,62]} (by rw [bProp];exact p1)
     have hi3:=ph_i HB s2.nx
     simp only [pB] at hi3
     repeat (first|((first|(with_reducible (first|refine Qa fun K E hK hE=>?_|refine Qj fun K E hK hE=>?_|refine FunW.ret (FunW.call (cs _)) ?_)));simp -implicitDefEqProofs only [Qc,Qd,OpW,QC,aop,undef,AS.ev,AV.QqF,↓reduceIte,Qf,Qy,Qm,ti31,Qeq,QF,Qq,t0,t3,t5,rB,f3,f5,hi2,seval])|(with_reducible (first|refine Qi ?_|refine Qb ?_|refine Qo ?_))|((with_reducible refine hK _ ?_);clear hK)|(refine Qh rfl ?_;simp only [↓reduceIte]))
     exact ⟨l,[],s2.nx,B.length+2,B.length+2+gsz l,x4,layG 54 (B.length+2) l,by rw [hB1];rfl,hW2.nx,hS1,QcL,t0,t2,t3,by rw [hsl];rfl,by have:=hAl (rB name (.sl 2 (lvG av (B.length+2) l) none) nilV nilV nilV) x4 [] s2.nx;rw [List.append_nil] at this;exact this,At.nil _ _,Nat.le_refl _,Nat.le_refl _,by rw [QL];exact Nat.le_refl _⟩
    |false =>
     have cs:=fun L=>ZX hW2 HB hN L {data:=#[61,61,62]} (by rw [bProp];exact p1)
     cases p2:s2.is QeO with
     |true =>
      have p3:s2.is Qay=false:=Qoi p2 (by decide)
      rw [p3,p1,p2] at hB1
      have cs2:=fun L=>Zt hW2 HB hN L {data:=#[92]} (by rw [bBack];exact p2)
      have hi3:=ph_i HB s2.nx
      simp only [pB] at hi3
      cases hr2:Yc l.length s2.nx with
      |err p e =>
       have ch:=fun L=>QfP hW2.nx HB hN hD L (by omega) hr2
       repeat (first|((first|(with_reducible (first|refine Qa fun K E hK hE=>?_|refine FunW.ret (FunW.call (cs _)) ?_|refine FunW.ret (FunW.call (cs2 _)) ?_|refine FunW.panE (FunW.call (ch _)) fun r=>?_)));simp -implicitDefEqProofs only [Qc,Qd,OpW,QC,aop,AS.ev,↓reduceIte,Qf,aLen,goInt,un31,QF,Qq,t0,t5,rB,hi2,hlvl,seval])|(with_reducible refine Qi ?_)|((with_reducible refine hK _ ?_);clear hK)|(refine Qh rfl ?_;simp only [↓reduceIte,Qrt])|(with_reducible (first|refine hE _ _ ?_|refine QK ?_|refine Q5 ?_)))
       exact .inr (hErr2 _ _ _ _ (by rw [hB1];show (Yc l.length s2.nx).bind _=_;rw [hr2];rfl))
      |ok rem s4 =>
       have ch:=fun c d=>Qhr hW2.nx HB hN hD (c::d::layG 54 (B.length+2) l) (by omega) hr2 (k:=B.length+2+gsz l) (by rw [List.length_cons,List.length_cons,QL];omega)
       simp only [QrR] at ch
       have hW4:Wst P2.all s4:=Kp.Ps.ok (n:=wdOf P2.all) (Kp.Qct trivial l.length) hW2.nx hr2
       have hi4:=ph_i HB s4
       simp only [pB] at hi4
       cases p5:s4.is Qay with
       |true =>
        have cx:=fun L=>XH hW4 HB hN L {data:=#[60,61,62]} (by rw [bSimp];exact p5)
        repeat (first|((first|(with_reducible (first|refine Qa fun K E hK hE=>?_|refine Qj fun K E hK hE=>?_|refine FunW.ret (FunW.call (cs _)) ?_|refine FunW.ret (FunW.call (cs2 _)) ?_|refine FunW.ret (FunW.call (ch _ _)) ?_|refine FunW.ret (FunW.call (cx _)) ?_)));simp -implicitDefEqProofs only [Qc,Qd,OpW,QC,aop,undef,AS.ev,AV.QqF,↓reduceIte,Qf,Qy,Qm,aLen,goInt,ti31,un31,Qeq,QeB,QF,Qq,t0,t3,t5,rB,f3,f5,hi2,hi4,hlvl,seval])|(with_reducible (first|refine Qi ?_|refine Qb ?_|refine Qo ?_))|((with_reducible refine hK _ ?_);clear hK)|(refine Qh rfl ?_;simp only [↓reduceIte,Qrt]))
        obtain ⟨hS2,hm4,hm0⟩:=Qg3 hr2
        have hsl2:=QeY av 2 (B.length+2+gsz l) (l:=rem) (by rintro rfl;simp at hm0)
        refine ⟨l,rem,s4.nx,B.length+2,B.length+2+gsz l,x4,layG 54 (B.length+2) l++layG 54 (B.length+2+gsz l) rem,?_,hW4.nx,hS1,hS2,t0,t2,t3,by rw [hsl,hsl2];rfl,hAl (rB name (.sl 2 (lvG av (B.length+2) l) none) (.sl 2 (lvG av (B.length+2+gsz l) rem) none) nilV nilV) x4 _ s4.nx,?_,Nat.le_refl _,Nat.le_refl _,by rw [List.length_append,QL,QL];omega⟩
        ·rw [hB1];show (Yc l.length s2.nx).bind _=_;rw [hr2];show (XC Qay s4).bind _=_;rw [XC,if_pos p5];rfl
        ·have:=At.base (At.mid (rB name (.sl 2 (lvG av (B.length+2) l) none) (.sl 2 (lvG av (B.length+2+gsz l) rem) none) nilV nilV::x4::layG 54 (B.length+2) l) (layG 54 (B.length+2+gsz l) rem) [] (n:=2+gsz l) (by rw [List.length_cons,List.length_cons,QL];omega)) (QN B P2 s4.nx)
         rw [show B.length+(2+gsz l)=B.length+2+gsz l by omega,List.append_nil] at this
         exact this
       |false =>
        have cx:=fun L=>X7 hW4 HB hN L {data:=#[60,61,62]} (by rw [bSimp];exact p5)
        repeat (first|((first|(with_reducible (first|refine Qa fun K E hK hE=>?_|refine Qj fun K E hK hE=>?_|refine FunW.ret (FunW.call (cs _)) ?_|refine FunW.ret (FunW.call (cs2 _)) ?_|refine FunW.ret (FunW.call (ch _ _)) ?_|refine FunW.pan (FunW.call (cx _)) ?_)));simp -implicitDefEqProofs only [Qc,Qd,OpW,QC,aop,undef,AS.ev,AV.QqF,↓reduceIte,Qf,Qy,Qm,aLen,goInt,ti31,un31,Qeq,QeB,QF,Qq,t0,t3,t5,rB,f3,f5,hi2,hi4,hlvl,seval])|(with_reducible refine Qi ?_)|((with_reducible refine hK _ ?_);clear hK)|(refine Qh rfl ?_;simp only [↓reduceIte,Qrt])|(with_reducible (first|refine hE _ _ ?_|refine QK ?_|refine Q5 ?_)))
        exact .inr (hErr2 _ _ _ _ (by rw [hB1];show (Yc l.length s2.nx).bind _=_;rw [hr2];show (XC Qay s4).bind _=_;rw [XC,if_neg (by rw [p5];decide)];rfl))
     |false =>
      have cs2:=fun L=>ZX hW2 HB hN L {data:=#[92]} (by rw [bBack];exact p2)
      rw [p1,p2] at hB1
      cases p3:s2.is Qay with
      |true =>
       rw [p3] at hB1
       have cx:=fun L=>XH hW2 HB hN L {data:=#[60,61,62]} (by rw [bSimp];exact p3)
       have hi3:=ph_i HB s2.nx
       simp only [pB] at hi3
       repeat (first|((first|(with_reducible (first|refine Qa fun K E hK hE=>?_|refine Qj fun K E hK hE=>?_|refine FunW.ret (FunW.call (cs _)) ?_|refine FunW.ret (FunW.call (cs2 _)) ?_|refine FunW.ret (FunW.call (cx _)) ?_)));simp -implicitDefEqProofs only [Qc,Qd,OpW,QC,aop,undef,AS.ev,AV.QqF,↓reduceIte,Qf,Qy,Qm,ti31,QeB,QF,Qq,t0,t3,t5,rB,f3,f5,hi2,seval])|(with_reducible (first|refine Qi ?_|refine Qb ?_|refine Qo ?_))|((with_reducible refine hK _ ?_);clear hK)|(refine Qh rfl ?_;simp only [↓reduceIte,Qrt]))
       exact ⟨[],l,s2.nx,B.length+2,B.length+2,x4,layG 54 (B.length+2) l,by rw [hB1];rfl,hW2.nx,QcL,hS1,t0,t2,t3,by rw [hsl];rfl,At.nil _ _,by have:=hAl (rB name nilV (.sl 2 (lvG av (B.length+2) l) none) nilV nilV) x4 [] s2.nx;rw [List.append_nil] at this;exact this,Nat.le_refl _,Nat.le_refl _,by rw [QL];exact Nat.le_refl _⟩
      |false =>
       rw [p3] at hB1
       have cx:=fun L=>X7 hW2 HB hN L {data:=#[60,61,62]} (by rw [bSimp];exact p3)
       repeat (first|((first|(with_reducible (first|refine Qa fun K E hK hE=>?_|refine FunW.ret (FunW.call (cs _)) ?_|refine FunW.ret (FunW.call (cs2 _)) ?_|refine FunW.pan (FunW.call (cx _)) ?_)));simp -implicitDefEqProofs only [Qc,Qd,OpW,QC,aop,AS.ev,↓reduceIte,Qf,QF,Qq,t0,rB,hi2,seval])|(with_reducible refine Qi ?_)|((with_reducible refine hK _ ?_);clear hK)|(refine Qh rfl ?_;simp only [↓reduceIte,Qrt])|(with_reducible (first|refine hE _ _ ?_|refine QK ?_|refine Q5 ?_)))
       exact .inr (hErr2 _ _ _ _ (by rw [hB1];rfl))
  ·cases hr:Yc 0 s1 with
   |err p e =>
    have ch:=fun L=>QfP hW1 HB hN hD L (by omega) hr
    repeat (first|((first|(with_reducible (first|refine Qj fun K E hK hE=>?_|refine FunW.panE (FunW.call (ch _)) fun r=>?_)));simp -implicitDefEqProofs only [Qc,Qd,OpW,QC,aop,AS.ev,↓reduceIte,Nat.reduceLT,t0])|(with_reducible (first|refine hE _ _ ?_|refine QK ?_)))
    exact .inr (hErr2 _ _ _ _ (by rw [bodyT,hr];rfl))
   |ok l s2 =>
    have ch:=fun c=>Qhr hW1 HB hN hD [rB name nilV nilV nilV nilV,c] (by omega) hr (k:=B.length+2) rfl
    simp only [QrR,QrQ] at ch
    repeat (first|((first|(with_reducible (first|refine Qj fun K E hK hE=>?_|refine FunW.ret (FunW.call (ch _)) ?_)));simp -implicitDefEqProofs only [Qc,Qd,OpW,QC,aop,AS.ev,↓reduceIte,Nat.reduceLT,t0])|(with_reducible refine Qb ?_)|((with_reducible refine hK _ ?_);clear hK))
    exact ⟨t0,t2,t3,l,s2,rfl,rfl,rfl⟩
 ·iterate 3 (try (first|((first|(with_reducible (first|refine Qa fun K E hK hE=>?_|refine FunW.ret (FunW.call (ca _)) ?_)));simp -implicitDefEqProofs only [Qc,Qd,OpW,QC,aop,undef,AS.ev,Qs,AV.QqF,↓reduceIte,Qf,Qy,Qm,ti60,zi60,QF,Qq,hi,f1,f4,f6,e3,e4,seval])|((with_reducible refine hK _ ?_);clear hK)))
  refine Q7 (fun st=>st.tm 0 = .ptr P2.i 0 0∧st.tm 2 = .ptr X.length 0 0∧st.tm 3 = .ptr B.length 0 0∧st.tm 28 = .b (s0.tk.kind==1&&s0.nx.is sAt)∧∃ x4,st.h=ph B P2 s0++[rB {data:=#[]} nilV nilV nilV nilV,x4]) ?_ ?_
  ·rintro ⟨tm,hp⟩ ⟨t0,t2,t3,t28,x4,rfl⟩
   simp only at t0 t2 t3 t28
   cases hc:(s0.tk.kind==1&&s0.nx.is sAt) with
   |false =>
    rw [hc] at t28
    have hpart:YJ s0=bodyT eB s0:=by
     rw [QfM,if_neg]
     rintro ⟨h1,h2⟩
     rw [h1,h2] at hc
     exact absurd hc (by decide)
    refine Qh (t:=false) t28 ?_
    simp only [Qrt,if_false]
    repeat (first|(with_reducible (first|refine Qk ?_|refine Qb ?_)))
    exact ⟨_,s0,hpart,hW,t0,t2,t3,_,rfl⟩
   |true =>
    rw [hc] at t28
    simp only [Bool.and_eq_true,beq_iff_eq] at hc
    have hpart:YJ s0=(Zq s0).bind fun x s=>bodyT x s.nx:=by rw [QfM,if_pos hc]
    cases hn:Zq s0 with
    |err p e =>
     have cm:=fun L=>Qgi hW HB hN L hn
     refine Qh (t:=true) t28 ?_
     simp only [if_true]
     repeat (first|((first|(with_reducible (first|refine Qa fun K E hK hE=>?_|refine FunW.panE (FunW.call (cm _)) fun r=>?_)));simp -implicitDefEqProofs only [Qc,Qd,OpW,QC,aop,AS.ev,↓reduceIte,Nat.reduceLT,Qf,QF,Qq,t0,rB,hi])|(with_reducible (first|refine hE _ _ ?_|refine QK ?_)))
     exact .inr (hErr _ _ _ _ (by rw [hpart,hn];rfl))
    |ok x s1 =>
     have cm:=fun L=>QiA hW HB hN L hn
     have hi1:=ph_i HB s1
     simp only [pB] at hi1
     have hs1:s1=s0.nx:=by
      unfold Zq at hn
      split at hn
      ·cases hn
      ·split at hn
       ·cases hn
       ·cases hn;rfl
     subst hs1
     have cx:=fun L=>XH hW.nx HB hN L {data:=#[64]} (by rw [show ({data:=#[64]}:ByteArray).toList=sAt from tl sAt];exact hc.2)
     refine Qh (t:=true) t28 ?_
     simp only [if_true]
     repeat (first|((first|(with_reducible (first|refine Qa fun K E hK hE=>?_|refine Qj fun K E hK hE=>?_|refine FunW.ret (FunW.call (cm _)) ?_|refine FunW.ret (FunW.call (cx _)) ?_)));simp -implicitDefEqProofs only [Qc,Qd,OpW,QC,aop,undef,AS.ev,AV.QqF,↓reduceIte,Qf,Qy,Qm,ti9,Qjf,QF,Qq,t0,t3,rB,f3,f5,hi,hi1,seval])|(with_reducible refine Qb ?_)|((with_reducible refine hK _ ?_);clear hK))
     exact ⟨x,s0.nx.nx,by rw [hpart,hn];rfl,hW.nx.nx,t0,t2,t3,_,rfl⟩
  ·by_cases k1:s0.tk.kind=1
   ·have z1:(s0.tk.kind==1)=true:=by simpa using k1
    by_cases k2:s0.nx.tk.kind=4
    ·have z2:(s0.nx.tk.kind==4)=true:=by simpa using k2
     repeat (first|((first|(with_reducible (first|refine Qj fun K E hK hE=>?_|refine FunW.ret (FunW.call (cn _)) ?_)));simp -implicitDefEqProofs only [Qc,Qd,OpW,QC,aop,undef,AS.ev,Qs,↓reduceIte,Qf,Qw,Qv,aBin,Zs,ti3,ti9,QM,Xa,QF,Qq,hi,f4,e1,e2,e3,z1,z2,seval])|(with_reducible refine Qb ?_)|((with_reducible refine hK _ ?_);clear hK))
     exact ⟨rfl,rfl,rfl,by rw [hAt,z1,z2,← tl sAt];rfl,_,rfl⟩
    ·have z2:(s0.nx.tk.kind==4)=false:=by simpa using k2
     repeat (first|((first|(with_reducible (first|refine Qj fun K E hK hE=>?_|refine FunW.ret (FunW.call (cn _)) ?_)));simp -implicitDefEqProofs only [Qc,Qd,OpW,QC,aop,undef,AS.ev,Qs,↓reduceIte,Qf,Qw,Qv,aBin,Zs,ti3,QM,QF,Qq,hi,f4,e1,e2,e3,z1,z2,seval])|(with_reducible refine Qb ?_)|((with_reducible refine hK _ ?_);clear hK))
     exact ⟨rfl,rfl,rfl,by rw [hAt,z1,z2];rfl,_,rfl⟩
   ·have z1:(s0.tk.kind==1)=false:=by simpa using k1
    repeat (first|((first|(with_reducible (first|refine Qj fun K E hK hE=>?_|refine FunW.ret (FunW.call (cn _)) ?_)));simp -implicitDefEqProofs only [Qc,Qd,OpW,QC,aop,undef,AS.ev,Qs,↓reduceIte,Qf,Qv,aBin,Zs,ti3,QM,QF,Qq,hi,e1,e2,z1,seval])|(with_reducible refine Qb ?_)|((with_reducible refine hK _ ?_);clear hK))
    exact ⟨rfl,rfl,rfl,by rw [z1,Bool.false_and];rfl,_,rfl⟩
theorem QgV:QI Tryd.prog 20 [.ptr P.i 0 0] X (RuQ X P (Yv s)):=by
 refine QkF (Q0:=fun o h'=>(∃ p e,Yv s = .err p e∧ErrY X P h'∧o = .panic (Fl p e))∨∃ r s6,Yv s = .ok r s6∧RuR X P r s6 o h') (Qnb HP hW hN hD _ (fun p e h' h k=>.inl ⟨p,e,h,k,rfl⟩) fun r s6 o h' h k=>.inr ⟨r,s6,h,k⟩) fun hbel o h' h=>?_
 rcases h with ⟨p,e,h,hy,rfl⟩|⟨r,s6,h,nk,nr,ng,nb,rfl,e1,e2,e3,e4,a1,a2,a3,a4,hl,ht⟩
 ·rw [h];exact .inl ⟨rfl,⟨h',hy⟩,rfl⟩
 ·rw [h]
  refine .inr ⟨_,r.av,rfl,hl,fun b hb=>?_,?_,rfl,ht⟩
  ·rw [ht] at hb
   obtain ⟨k,hk⟩:=List.mem_iff_getElem?.1 hb
   have hj:=Qr HP.j
   have hi:=Qr HP.i
   by_cases c1:k=P.j
   ·subst c1
    rw [List.getElem?_set_self (by rw [List.length_set];exact hj)] at hk
    cases hk
    exact Qjj (HP.ok [] .dead) s6 _
   ·rw [List.getElem?_set_ne (Ne.symm c1)] at hk
    by_cases c2:k=P.i
    ·subst c2
     rw [List.getElem?_set_self hi] at hk
     cases hk
     intro a ha
     simp only [flat,List.flatMap_cons,List.flatMap_nil,QrS,AV.cells,List.mem_cons,List.not_mem_nil,or_false] at ha
     rcases ha with rfl|rfl|rfl|rfl
     ·exact .sl 3 _ none (Qb4 _ _) (fun b hb=>by cases hb)
     ·exact .v _
     ·exact .sl 1 _ _ (Qet _ _) (fun b hb=>by cases hb)
     ·exact .mp _ hj
    ·rw [List.getElem?_set_ne (Ne.symm c2)] at hk
     exact hbel k b hk
  ·refine .agg rfl fun j a a' h1 h2=>?_
   match j,h1,h2 with
   |0,h1,h2=>cases h1;cases h2;exact .keep (.v _)
   |1,h1,h2=>cases h1;cases h2;exact QlA _ e1 a1
   |2,h1,h2=>cases h1;cases h2;exact QlA _ e2 a2
   |3,h1,h2=>cases h1;cases h2;exact QkV _ e3 a3
   |4,h1,h2=>cases h1;cases h2;exact QkV _ e4 a4
   |5,h1,h2=>cases h1;cases h2;exact .keep (.v _)
   |j+6,h1,h2=>simp at h1
end
end Go.Proofs.YticgcpebdldbgaaDoor.Ab
set_option maxRecDepth 4000
namespace Go.Proofs.YticgcpebdldbgaaDoor.Ab
open Go.Proofs
def DcQ (h:AH) (P:Pz):PR (List Dc)→AOut→AH→Prop
 | .ok l s,o,h'=>o = .ret (.sl 2 (vs Dc.av l) none)∧h'=ph h P s
 | .err p e,o,h'=>o = .panic (Fl p e)∧∃ s,h'=ph h P s
theorem QkW (n:Nat) (l:List Dc):∀ a∈flat (vs Dc.av l),Below n a:=QmH Dc.av n (fun d=>Dc.bel n d) l
section
variable {P:Pz} {s:PS} (hW:Wst P.all s) {h:AH} (H:P.ok h) (hN:P.all.length≤1000000) (hD:TkOk P.all)
include hW H hN hD
theorem Qj2:QI Tryd.prog 17 [.ptr P.i 0 0] (ph h P s) (DcQ h P (Y7 (s.toks.length+1) [] s)):=by
 have f1:=QN h P
 have f3:=Xr h P
 have f4:=XZ h P
 have f5:=Xd h P
 have f6:=XA h P
 have hi0:=XQ H s
 have hi:=ph_i H s
 simp only [pB] at hi hi0
 have cn0:=fun L=>nextL hW (XQ H s) L
 have g1:=Tk.QqG s.tk
 have g2:=Tk.QqH s.tk
 have bSl:({data:=#[47]}:ByteArray).toList=QeE:=tl QeE
 have bCo:({data:=#[44]}:ByteArray).toList=YS:=tl YS
 have bDo:({data:=#[46]}:ByteArray).toList=sDot:=tl sDot
 generalize hR:Y7 (s.toks.length+1) [] s=R
 refine Qe Tryd.func17 rfl Tryd.call17 Tryd.ntmps17 (congrArg Array.toList Tryd.results17) (by simp) ?_
 iterate 4 (try (first|(((with_reducible refine Qa fun K E hK hE=>?_));simp -implicitDefEqProofs only [X8,Zo,Qd,OpW,aop,AS.ev,XO,Qcr,Nat.reduceLT])|((with_reducible refine hK _ ?_);clear hK)))
 refine Qac 3 78 2 rfl ?_
 repeat (first|((first|(with_reducible (first|refine Qa fun K E hK hE=>?_|refine FunW.ret (FunW.call (cn0 _)) ?_)));simp -implicitDefEqProofs only [Qc,Qd,OpW,QC,aop,undef,AS.ev,Qs,AV.QqF,↓reduceIte,Qf,Qy,Qm,ti60,zi60,QF,Qq,f1,f4,f6,hi,g1,g2,seval])|(with_reducible (first|refine Qg fun K hK=>?_|refine Qi ?_))|((with_reducible refine hK _ ?_);clear hK))
 obtain ⟨I,hI⟩:∃ I:Nat→AS→Prop,I=fun m' s=>∃ (l:List Dc) (s2:PS) (X:AH) (id:Nat),m'=s2.toks.length∧Wst P.all s2∧l.length≤30∧(∃ k,s2.toks.length+1≤k∧Y7 k l s2=R)∧X[id]? = some (.cells 60 3 [s2.tk.av])∧s.tm 0 = .ptr P.i 0 0∧s.tm 3 = .sl 2 (vs Dc.av l) (some h.length)∧s.tm 4 = .ptr (h.length+(id+1)) 0 0 ∧
  s.h=ph h P s2++(.grow 78 2 l.length::X):=⟨_,rfl⟩;refine QZ I ?_ (m:=s.toks.length) ?_
 ·intro m' s hs;rw [hI] at hs;obtain ⟨tm,hp⟩:=s;dsimp only at hs;obtain ⟨l,s2,X,id,rfl,hW2,hl30,⟨k,hk,hR2⟩,hX,t0,t3,t4,rfl⟩:=hs
  have hk1:k=k - 1+1:=by omega
  have e1:=Tk.QqG s2.tk
  have e2:=Tk.QqH s2.tk
  have hXa:=fun Y=>hext hX Y
  have hi2:=ph_i H s2
  simp only [pB] at hi2
  rw [hk1,Y7] at hR2
  by_cases hc:s2.tk.kind=1∧s2.tk.text.toList=Qki
  ·rw [if_pos hc] at hR2
   have z1:(s2.tk.kind==1)=true:=by simpa using hc.1
   have z2:(s2.tk.text.toList==({data:=#[99,111,110,115,116,114,97,105,110,116]}:ByteArray).toList)=true:=by rw [hc.2,Lib.toList_data];rfl
   have ct:=fun L=>Xk hW2 (H.app L) hN
   simp only [QX H] at ct
   have hI0:=hI
   have hln:=Xh hW2.wf (by rw [hc.1];decide)
   generalize hRi:Y6 (s2.toks.length+1) l s2.nx=Ri at *
   repeat (first|((first|(with_reducible (first|refine Qa fun K E hK hE=>?_|refine FunW.ret (FunW.call (ct _)) ?_)));simp -implicitDefEqProofs only [Qc,Qd,OpW,QC,aop,AS.ev,↓reduceIte,Qf,Qw,Qv,aBin,ti3,ti9,QM,Xa,QF,Qq,t0,t4,f4,hX,hi2,e1,z1,z2,seval])|(with_reducible (first|refine Qg fun K hK=>?_|refine Qi ?_|refine Qk ?_|refine Qb ?_))|((with_reducible refine hK _ ?_);clear hK)|(refine Qh rfl ?_;simp only [↓reduceIte]))
   obtain ⟨I,hI⟩:∃ I:Nat→AS→Prop,I=fun m' s=>∃ (l3:List Dc) (s3:PS) (G:AH),m'=s3.toks.length∧Wst P.all s3∧l3.length≤30∧(∃ k,s3.toks.length+1≤k∧Y6 k l3 s3=Ri)∧s3.toks.length+1≤s2.toks.length∧G[id]? = some (.cells 60 3 [s2.tk.av])∧s.tm 0 = .ptr P.i 0 0∧s.tm 3 = .sl 2 (vs Dc.av l3) (some h.length)∧s.tm 4 = .ptr (h.length+(id+1)) 0 0 ∧
    s.h=ph h P s3++(.grow 78 2 l3.length::G):=⟨_,rfl⟩;refine QZ I ?_ (m:=s2.nx.toks.length) ?_
   ·intro m' s hs;rw [hI] at hs;obtain ⟨tm,hp⟩:=s;dsimp only at hs;obtain ⟨l3,s3,G,rfl,hW3,hl3,⟨k3,hk3,hR3⟩,hlt3,hG,u0,u3,u4,rfl⟩:=hs
    have hk4:k3=k3 - 1+1:=by omega
    rw [hk4,Y6] at hR3
    have hi3:=ph_i H s3
    have hi4:=ph_i H s3.nx
    have hi5:=ph_i H s3.nx.nx
    have hi6:=ph_i H s3.nx.nx.nx
    simp only [pB] at hi3 hi4 hi5 hi6
    have hG0:=fun Y=>hext hG Y
    have ev:(vs Dc.av l3).length=l3.length:=Y9 _ _
    have e3:=Tk.QqG s3.nx.nx.tk
    have e4:=Tk.QqH s3.nx.nx.tk
    have e5:=Tk.QqG s2.tk
    have e6:=Tk.QqH s2.tk
    have x1:∀ (Y:AH),(G++Y)[G.length]? = Y[0]? := fun Y=>ZZ _ _
    have x2:∀ (Y:AH) k,(G++Y)[G.length+k]? = Y[k]? := fun Y k=>hget _ _ _
    have x3:∀ (Y:AH) y,(G++Y).set G.length y=G++Y.set 0 y:=fun Y y=>QbX _ _ _
    have x4:∀ (Y:AH) k y,(G++Y).set (G.length+k) y=G++Y.set k y:=fun Y k y=>hset _ _ _ _
    by_cases hm:30≤l3.length
    ·rw [if_pos hm] at hR3
     have cr:=fun L=>Qf5 hW3 H hN L ((l3.length:Nat):Int) 30 (by omega)
     repeat (first|((first|(with_reducible (first|refine Qa fun K E hK hE=>?_|refine FunW.pan (FunW.call (cr _)) ?_)));simp -implicitDefEqProofs only [Qc,Qd,OpW,QC,aop,AS.ev,↓reduceIte,Qf,aLen,goInt,un23,QF,Qq,u0,u3,ev,hi3,seval])|(with_reducible (first|refine Qi ?_|refine hE _ _ ?_|refine QK ?_|refine Q5 ?_)))
     subst hR3
     subst hR2
     exact QT H s s3 _ _ _ ⟨rfl,_,rfl⟩
    ·have cr:=fun L=>Qes hW3 H hN L ((l3.length:Nat):Int) 30 (by omega)
     rw [if_neg hm] at hR3
     cases hn:Zq s3 with
     |err p e =>
      rw [hn] at hR3
      have hR4:PR.err p e=Ri:=hR3
      have cm:=fun L=>Qgi hW3 H hN L hn
      repeat (first|((first|(with_reducible (first|refine Qa fun K E hK hE=>?_|refine FunW.ret (FunW.call (cr _)) ?_|refine FunW.panE (FunW.call (cm _)) fun r=>?_)));simp -implicitDefEqProofs only [Qc,Qd,OpW,QC,aop,AS.ev,↓reduceIte,Qf,aLen,goInt,un23,QF,Qq,u0,u3,ev,hi3,seval])|(with_reducible refine Qi ?_)|((with_reducible refine hK _ ?_);clear hK)|(with_reducible (first|refine hE _ _ ?_|refine QK ?_|refine Q5 ?_)))
      subst hR4
      subst hR2
      exact QT H s r _ _ _ ⟨rfl,_,rfl⟩
     |ok x s4 =>
      have cm:=fun L=>QiA hW3 H hN L hn
      rw [hn] at hR3
      have hk1s:s3.tk.kind=1∧s4=s3.nx:=by
       unfold Zq at hn
       split at hn
       ·cases hn
       ·rename_i h1
        split at hn
        ·cases hn
        ·cases hn;exact ⟨by simpa using h1,rfl⟩
      obtain ⟨hk1s,rfl⟩:=hk1s
      have hl1:=Xh hW3.wf (by rw [hk1s];decide)
      have hW4:=hW3.nx
      cases hsl:s3.nx.is QeE with
      |false =>
       have hR4:PR.err s3.nx.tk.pos 16=Ri:=by rw [← hR3];show _=(XC QeE s3.nx).bind _;rw [XC,if_neg (by rw [hsl];decide)];rfl
       have cx:=fun L=>X7 hW4 H hN L {data:=#[47]} (by rw [bSl];exact hsl)
       repeat (first|((first|(with_reducible (first|refine Qa fun K E hK hE=>?_|refine FunW.ret (FunW.call (cr _)) ?_|refine FunW.ret (FunW.call (cm _)) ?_|refine FunW.pan (FunW.call (cx _)) ?_)));simp -implicitDefEqProofs only [Qc,Qd,OpW,QC,aop,undef,AS.ev,AV.QqF,↓reduceIte,Qf,Qy,Qm,Xc,Xq,aLen,goInt,un23,QF,ti78,zi78,sp78,Qq,u0,u3,f1,f4,f6,x1,x3,ev,hi3,hi4,List.append_assoc,seval])|(with_reducible refine Qi ?_)|((with_reducible refine hK _ ?_);clear hK)|(with_reducible (first|refine hE _ _ ?_|refine QK ?_|refine Q5 ?_)))
       subst hR4
       subst hR2
       exact QT H s s3.nx _ _ _ ⟨rfl,_,rfl⟩
      |true =>
       have hl2:=Xh hW4.wf (PS.QqL hsl)
       have hW5:=hW4.nx
       have cx:=fun L=>XH hW4 H hN L {data:=#[47]} (by rw [bSl];exact hsl)
       have ct3:=fun L=>Xk hW5 (H.app L) hN
       simp only [QX H] at ct3
       have hR4:(if s3.nx.nx.tk.kind≠3 then PR.err s3.nx.nx.tk.pos 16 else if valT s3.nx.nx.tk.text>6 then .err s3.nx.nx.tk.pos 6 else
         if s3.nx.nx.nx.is YS then Y6 (k3 - 1) (l3++[⟨x,valT s3.nx.nx.tk.text⟩]) s3.nx.nx.nx.nx else (XC sDot s3.nx.nx.nx).bind fun _ s2=>.ok (l3++[⟨x,valT s3.nx.nx.tk.text⟩]) s2)=Ri:=by
        have hw:XC QeE s3.nx = .ok () s3.nx.nx:=by rw [XC,if_pos hsl]
        rw [← hR3];show _=(XC QeE s3.nx).bind _;rw [hw];rfl
       clear hR3
       by_cases h3:s3.nx.nx.tk.kind=3
       ·rw [if_neg (by simpa using h3)] at hR4
        have y1:(s3.nx.nx.tk.kind != 3)=false:=by simpa using h3
        have hl5:=Xh hW5.wf (by rw [h3];decide)
        obtain ⟨cv,v0,v1⟩:=QiB hD hW5 h3
        have hW6:=hW5.nx
        by_cases h6:valT s3.nx.nx.tk.text>6
        ·rw [if_pos h6] at hR4
         have y2:(6:Int)<valT s3.nx.nx.tk.text:=h6
         have cf:=YF s3.nx.nx.tk 6
         repeat (first|((first|(with_reducible (first|refine Qa fun K E hK hE=>?_|refine FunW.ret (FunW.call (cr _)) ?_|refine FunW.ret (FunW.call (cm _)) ?_|refine FunW.ret (FunW.call (cx _)) ?_|refine FunW.ret (FunW.call (ct3 _)) ?_|refine QH cv ?_)));simp -implicitDefEqProofs only [Qc,Qd,OpW,QC,aop,undef,AS.ev,AV.QqF,↓reduceIte,Qf,Qw,Qv,Qy,Qm,aBin,Xc,Xq,aLen,goInt,ti3,ti9,un23,ti60,QM,Xa,zi60,QF,ti78,QiT,zi78,sp78,Qq,u0,u3,f1,f4,f6,x1,x2,x3,x4,ev,hi3,hi4,hi5,e3,e4,List.append_assoc,y1,y2,seval])|(with_reducible (first|refine Qg fun K hK=>?_|refine Qi ?_|refine Qk ?_|refine Qb ?_))|((with_reducible refine hK _ ?_);clear hK)|(refine Qh rfl ?_;simp only [↓reduceIte,Qrt]))
         subst hR4
         subst hR2
         refine Q6 4 [(0,0),(1,0),(2,0),(3,0)] mixed rfl rfl rfl (by kernel_rfl) (fun v h'=>v=Fl s3.nx.nx.tk.pos 6∧∃ L,h'=ph h P s3.nx.nx.nx++L) ?_ ?_
         ·rintro tm v h' ⟨rfl,L,rfl⟩
          exact QT H s s3.nx.nx.nx _ _ _ ⟨rfl,_,rfl⟩
         ·simp -implicitDefEqProofs only [Qc,Qd,aop,AS.ev,↓reduceIte,Qf,Qw,Qv,ti60,QF,Qq,u0,f4,x2,hi6,e3,e4,seval]
          exact fun _=>(FunW.call (cf _ _)).mono (by rintro _ _ ⟨rfl,rfl⟩;exact ⟨_,rfl,rfl,_,rfl⟩)
        ·rw [if_neg h6] at hR4
         have y2:¬ (6:Int)<valT s3.nx.nx.tk.text:=h6
         have hm1:(l3.length+1) * 24≤140737488355328:=by omega
         have hm2:l3.length+1≤maxLen:=by simp only [maxLen];omega
         have evs:vs Dc.av (l3++[⟨x,valT s3.nx.nx.tk.text⟩])=vs Dc.av l3++[.agg [.v (.string x),.i (valT s3.nx.nx.tk.text)]]:=by rw [QdI];rfl
         cases hco:s3.nx.nx.nx.is YS with
         |true =>
          rw [hco,if_pos rfl] at hR4
          have hl6:=Xh hW6.wf (PS.QqL hco)
          have cs:=fun L=>Zt hW6 H hN L {data:=#[44]} (by rw [bCo];exact hco)
          repeat (first|((first|(with_reducible (first|refine Qa fun K E hK hE=>?_|refine FunW.ret (FunW.call (cr _)) ?_|refine FunW.ret (FunW.call (cm _)) ?_|refine FunW.ret (FunW.call (cx _)) ?_|refine FunW.ret (FunW.call (ct3 _)) ?_|refine QH cv ?_|refine FunW.ret (FunW.call (cs _)) ?_)));simp -implicitDefEqProofs only [Qc,Qd,OpW,QC,aop,undef,AS.ev,AV.QqF,↓reduceIte,Qf,Qw,Qv,Qy,Qm,aBin,Xc,Xq,QD,aLen,Xy,Yd,goInt,ti3,ti9,ei23,ai23,un23,ti60,QM,Xa,zi60,QF,ti78,QiT,zi78,sp78,Qq,u0,u3,f1,f3,f4,f5,f6,x1,x2,x3,x4,ev,hi3,hi4,hi5,hi6,e3,e4,List.append_assoc,y1,y2,hm1,hm2,seval])|(with_reducible (first|refine Qg fun K hK=>?_|refine Qi ?_|refine Qk ?_|refine Qb ?_|refine Qo ?_))|((with_reducible refine hK _ ?_);clear hK)|(refine Qh rfl ?_;simp only [↓reduceIte,Qrt]))
          refine Xw.mk (m':=s3.nx.nx.nx.nx.toks.length) (by omega) ?_
          rw [hI]
          refine ⟨l3++[⟨x,valT s3.nx.nx.tk.text⟩],s3.nx.nx.nx.nx,G++[.cells 78 2 [.agg [.v (.string x),.i (valT s3.nx.nx.tk.text)]],.cells 60 3 [s3.nx.nx.tk.av]],rfl,hW6.nx,by simp;omega,⟨k3 - 1,by omega,hR4⟩,by omega,hG0 _,u0,?_,u4,?_⟩
          ·rw [evs];rfl
          ·rw [List.length_append];rfl
         |false =>
          rw [hco,if_neg (by decide)] at hR4
          have cs:=fun L=>ZX hW6 H hN L {data:=#[44]} (by rw [bCo];exact hco)
          cases hdo:s3.nx.nx.nx.is sDot with
          |false =>
           have hR5:PR.err s3.nx.nx.nx.tk.pos 16=Ri:=by rw [← hR4,XC,if_neg (by rw [hdo];decide)];rfl
           have cd:=fun L=>X7 hW6 H hN L {data:=#[46]} (by rw [bDo];exact hdo)
           repeat (first|((first|(with_reducible (first|refine Qa fun K E hK hE=>?_|refine Qj fun K E hK hE=>?_|refine FunW.ret (FunW.call (cr _)) ?_|refine FunW.ret (FunW.call (cm _)) ?_|refine FunW.ret (FunW.call (cx _)) ?_|refine FunW.ret (FunW.call (ct3 _)) ?_|refine QH cv ?_|refine FunW.ret (FunW.call (cs _)) ?_|refine FunW.pan (FunW.call (cd _)) ?_)));simp -implicitDefEqProofs only [Qc,Qd,OpW,QC,aop,undef,AS.ev,AV.QqF,↓reduceIte,Qf,Qw,Qv,Qy,Qm,aBin,Xc,Xq,QD,aLen,Xy,Yd,goInt,ti3,ti9,ei23,ai23,un23,ti60,QM,Xa,zi60,QF,ti78,QiT,zi78,sp78,Qq,u0,u3,f1,f3,f4,f5,f6,x1,x2,x3,x4,ev,hi3,hi4,hi5,hi6,e3,e4,List.append_assoc,y1,y2,hm1,hm2,seval])|(with_reducible (first|refine Qg fun K hK=>?_|refine Qi ?_|refine Qk ?_|refine QE ?_|refine Qb ?_|refine QA ?_|refine QB ?_|refine QJ rfl ?_))|((with_reducible refine hK _ ?_);clear hK)|(refine Qh rfl ?_;simp only [↓reduceIte,Qrt])|(with_reducible (first|refine hE _ _ ?_|refine QK ?_|refine Q5 ?_)))
           subst hR5
           subst hR2
           exact QT H s s3.nx.nx.nx _ _ _ ⟨rfl,_,rfl⟩
          |true =>
           have hR5:PR.ok (l3++[⟨x,valT s3.nx.nx.tk.text⟩]) s3.nx.nx.nx.nx=Ri:=by rw [← hR4,XC,if_pos hdo];rfl
           subst hR5
           have hR6:Y7 (k - 1) (l3++[⟨x,valT s3.nx.nx.tk.text⟩]) s3.nx.nx.nx.nx=R:=hR2
           have hl6:=Xh hW6.wf (PS.QqL hdo)
           have cd:=fun L=>XH hW6 H hN L {data:=#[46]} (by rw [bDo];exact hdo)
           have hi7:=ph_i H s3.nx.nx.nx.nx
           simp only [pB] at hi7
           have e7:=Tk.QqG s3.nx.nx.nx.nx.tk
           have e8:=Tk.QqH s3.nx.nx.nx.nx.tk
           have cn7:=fun L=>nextL hW6.nx (XQ H s3.nx.nx.nx.nx) L
           repeat (first|((first|(with_reducible (first|refine Qa fun K E hK hE=>?_|refine Qj fun K E hK hE=>?_|refine FunW.ret (FunW.call (cr _)) ?_|refine FunW.ret (FunW.call (cm _)) ?_|refine FunW.ret (FunW.call (cx _)) ?_|refine FunW.ret (FunW.call (ct3 _)) ?_|refine QH cv ?_|refine FunW.ret (FunW.call (cs _)) ?_|refine FunW.ret (FunW.call (cd _)) ?_|refine FunW.ret (FunW.call (cn7 _)) ?_)));simp -implicitDefEqProofs only [Qc,Qd,OpW,QC,aop,undef,AS.ev,AV.QqF,↓reduceIte,Qf,Qw,Qv,Qy,Qm,aBin,Xc,Xq,QD,aLen,Xy,Yd,goInt,ti3,ti9,ei23,ai23,un23,ti60,QM,Xa,zi60,QF,ti78,QiT,zi78,sp78,Qq,u0,u3,u4,f1,f3,f4,f5,f6,x1,x2,x3,x4,ev,hG0,hi3,hi4,hi5,hi6,e3,e4,e5,e6,List.append_assoc,y1,y2,hm1,hm2,hi7,e7,e8,seval])|(with_reducible (first|refine Qg fun K hK=>?_|refine Qi ?_|refine Qk ?_|refine QE ?_|refine Qb ?_|refine QA ?_|refine Qo ?_|refine QB ?_|refine QJ rfl ?_))|((with_reducible refine hK _ ?_);clear hK)|(refine Qh rfl ?_;simp only [↓reduceIte,Qrt]))
           refine Xw.mk (m':=s3.nx.nx.nx.nx.toks.length) (by omega) ?_
           rw [hI0]
           refine ⟨l3++[⟨x,valT s3.nx.nx.tk.text⟩],s3.nx.nx.nx.nx,G++[.cells 78 2 [.agg [.v (.string x),.i (valT s3.nx.nx.tk.text)]],.cells 60 3 [s3.nx.nx.tk.av],.cells 60 3 [s3.nx.nx.nx.nx.tk.av]],G.length+2,rfl,hW6.nx,by simp;omega,⟨k - 1,by omega,hR6⟩,hget _ _ _,u0,?_,?_,?_⟩
           ·rw [evs];rfl
           ·rfl
           ·rw [List.length_append];rfl
       ·rw [if_pos h3] at hR4
        have y1:(s3.nx.nx.tk.kind != 3)=true:=by simpa using h3
        have cf:=YF s3.nx.nx.tk 16
        repeat (first|((first|(with_reducible (first|refine Qa fun K E hK hE=>?_|refine FunW.ret (FunW.call (cr _)) ?_|refine FunW.ret (FunW.call (cm _)) ?_|refine FunW.ret (FunW.call (cx _)) ?_|refine FunW.ret (FunW.call (ct3 _)) ?_)));simp -implicitDefEqProofs only [Qc,Qd,OpW,QC,aop,undef,AS.ev,AV.QqF,↓reduceIte,Qf,Qw,Qv,Qy,Qm,aBin,Xc,Xq,aLen,goInt,ti3,un23,ti60,QM,zi60,QF,ti78,zi78,sp78,Qq,u0,u3,f1,f4,f6,x1,x2,x3,x4,ev,hi3,hi4,hi5,e3,e4,List.append_assoc,y1,seval])|(with_reducible (first|refine Qg fun K hK=>?_|refine Qi ?_))|((with_reducible refine hK _ ?_);clear hK)|(refine Qh rfl ?_;simp only [↓reduceIte]))
        subst hR4
        subst hR2
        refine Q6 4 [(0,0),(1,0),(2,0),(3,0)] mixed rfl rfl rfl (by kernel_rfl) (fun v h'=>v=Fl s3.nx.nx.tk.pos 16∧∃ L,h'=ph h P s3.nx.nx.nx++L) ?_ ?_
        ·rintro tm v h' ⟨rfl,L,rfl⟩
         exact QT H s s3.nx.nx.nx _ _ _ ⟨rfl,_,rfl⟩
        ·simp -implicitDefEqProofs only [Qc,Qd,aop,AS.ev,↓reduceIte,Qf,Qw,Qv,ti60,QF,Qq,u0,f4,x2,hi6,e3,e4,seval]
         exact fun _=>(FunW.call (cf _ _)).mono (by rintro _ _ ⟨rfl,rfl⟩;exact ⟨_,rfl,rfl,_,rfl⟩)
   ·rw [hI]
    exact ⟨l,s2.nx,X,rfl,hW2.nx,hl30,⟨s2.toks.length+1,by omega,hRi⟩,by omega,hX,t0,t3,t4,rfl⟩
  ·rw [if_neg hc] at hR2
   subst hR2
   by_cases hk1:s2.tk.kind=1
   ·have z1:(s2.tk.kind==1)=true:=by simpa using hk1
    have z2:(s2.tk.text.toList==({data:=#[99,111,110,115,116,114,97,105,110,116]}:ByteArray).toList)=false:=by
     rw [Lib.toList_data ({data:=#[99,111,110,115,116,114,97,105,110,116]}:ByteArray)]
     exact beq_eq_false_iff_ne.2 fun q=>hc ⟨hk1,q⟩
    repeat (first|(((with_reducible refine Qa fun K E hK hE=>?_));simp -implicitDefEqProofs only [Qc,Qd,OpW,aop,AS.ev,↓reduceIte,Qf,Qw,Qv,aBin,ti3,ti9,QM,Xa,t3,t4,f4,hX,e1,z1,z2,seval])|(with_reducible (first|refine Qg fun K hK=>?_|refine Qn ?_|refine QE ?_|refine Qb ?_|refine QA ?_|refine QB ?_))|((with_reducible refine hK _ ?_);clear hK)|(clear hK;(with_reducible refine hK _ ?_);clear hK)|(refine Qh rfl ?_;simp only [↓reduceIte,Qrt]))
    simp only [QG,Qp,Qt,upd,↓reduceIte,Qrv,Qrz]
    exact Xf H (s:=s) (s':=s2) (Frz.tok (QkW _ _)) ⟨rfl,rfl⟩
   ·have z1:(s2.tk.kind==1)=false:=by simpa using hk1
    repeat (first|(((with_reducible refine Qa fun K E hK hE=>?_));simp -implicitDefEqProofs only [Qc,Qd,OpW,aop,undef,AS.ev,↓reduceIte,Qf,Qw,Qv,aBin,ti3,QM,t3,t4,f4,hX,e1,z1,seval])|(with_reducible (first|refine Qg fun K hK=>?_|refine Qn ?_|refine QE ?_|refine Qb ?_|refine QA ?_|refine QB ?_))|((with_reducible refine hK _ ?_);clear hK)|(clear hK;(with_reducible refine hK _ ?_);clear hK)|(refine Qh rfl ?_;simp only [↓reduceIte,Qrt]))
    simp only [QG,Qp,Qt,upd,↓reduceIte,Qrv,Qrz]
    exact Xf H (s:=s) (s':=s2) (Frz.tok (QkW _ _)) ⟨rfl,rfl⟩
 ·rw [hI]
  exact ⟨[],s,[.cells 60 3 [s.tk.av]],0,rfl,hW,Nat.zero_le _,⟨_,Nat.le_refl _,hR⟩,rfl,rfl,rfl,rfl,rfl⟩
end
end Go.Proofs.YticgcpebdldbgaaDoor.Ab
set_option maxRecDepth 4000
namespace Go.Proofs.YticgcpebdldbgaaDoor.Ab
open Go.Proofs
structure KpO (h:AH) (P:Pz) (o:Nat) (Y:AH):Prop where
 long:h.length≤Y.length
 out:∀ i,i<h.length→i≠o→i≠P.i→i≠P.j→i≠P.g→Y[i]? = h[i]?
abbrev pgB (d r:AV):AB:=.cells 26 2 [.agg [d,r]]
def PgQ (h:AH) (P:Pz) (o:Nat):PR Pg→AOut→AH→Prop
 | .ok pg _,x,h'=>x = .ret (.tup [])∧∃ Y:{Y:AH // KpO h P o Y∧Y[o]? = some (pgB (.sl 2 (vs Dc.av pg.decls) none) (.sl 6 (vs Rl.av pg.rules) none))},h'=Y.1
 | .err p e,x,h'=>x = .panic (Fl p e)∧∃ Y:{Y:AH // KpO h P o Y},h'=Y.1
section
variable {P:Pz} {s:PS} (hW:Wst P.all s) {h:AH} (H:P.ok h) (hN:P.all.length≤1000000) (hD:TkOk P.all) {o:Nat} (hol:o<h.length) (hoi:o≠P.i) (hoj:o≠P.j) (hog:o≠P.g)
include hW H hN hD hol hoi hoj hog
omit hW hN hD hol hoi hoj hog in
theorem Qpn (s':PS) (L:AH):KpO h P o (ph h P s'++L):=⟨by rw [List.length_append,QN];omega,fun i h1 h2 h3 h4 h5=>by rw [List.getElem?_append_left (by rw [QN];exact h1),YN H h3 h4 h5]⟩
theorem QkG (hob:h[o]? = some (pgB nilV nilV)):QI Tryd.prog 16 [.ptr P.i 0 0,.ptr o 0 0] (ph h P s) (PgQ h P o (Qby s)):=by
 have cd:=Qj2 hW H hN hD
 rw [Qby]
 cases hd:Y7 (s.toks.length+1) [] s with
 |err p e =>
  rw [hd] at cd
  have cd2:QI Tryd.prog 17 [.ptr P.i 0 0] (ph h P s) fun x h'=>x = .panic (Fl p e)∧∃ s1:PS,h'=ph h P s1:=cd
  refine Qe Tryd.func16 rfl Tryd.call16 Tryd.ntmps16 (congrArg Array.toList Tryd.results16) (by simp) ?_
  repeat (first|((first|(with_reducible (first|refine Qa fun K E hK hE=>?_|refine FunW.panE (FunW.call cd2) fun r=>?_)));simp -implicitDefEqProofs only [Qc,Qd,OpW,QC,aop,undef,AS.ev,Qs,↓reduceIte,Nat.reduceLT])|(with_reducible refine hE _ _ ?_))
  have:=Qpn (o:=o) H r []
  rw [List.append_nil] at this
  exact .inr ⟨rfl,⟨_,this⟩,rfl⟩
 |ok d s1 =>
  rw [hd] at cd
  have cd2:QI Tryd.prog 17 [.ptr P.i 0 0] (ph h P s) fun x h'=>x = .ret (.sl 2 (vs Dc.av d) none)∧h'=ph h P s1:=cd
  have hW1:Wst P.all s1:=Kp.Ps.ok (n:=wdOf P.all) (Kp.Qcw trivial _ _) hW hd
  have ho1:(ph h P s1)[o]? = some (pgB nilV nilV):=by rw [YN H hoi hoj hog];exact hob
  generalize hRr:((PR.ok d s1).bind fun d s=>(Yy (s.toks.length+1) [] s).bind fun r s=>PR.ok (⟨d,r⟩:Pg) s)=R
  have hR0:((Yy (s1.toks.length+1) [] s1).bind fun r s=>PR.ok (⟨d,r⟩:Pg) s)=R:=hRr
  clear hRr
  refine Qe Tryd.func16 rfl Tryd.call16 Tryd.ntmps16 (congrArg Array.toList Tryd.results16) (by simp) ?_
  iterate 3 (try (first|((first|(with_reducible (first|refine Qa fun K E hK hE=>?_|refine FunW.ret (FunW.call cd2) ?_)));simp -implicitDefEqProofs only [Qc,Qd,OpW,QC,aop,undef,AS.ev,Qs,AV.QqF,↓reduceIte,Qf,Qy,Qm,ti23,QfD,ho1,seval])|((with_reducible refine hK _ ?_);clear hK)))
  refine YB o 26 2 6 (.grow 34 6 0) (.inr ⟨_,rfl⟩) [.agg [.sl 2 (vs Dc.av d) none,nilV]] [.agg [.sl 2 (vs Dc.av d) none,.sl 6 [] (some h.length)]] 1 (List.getElem?_set_self (by rw [QN];exact hol)) rfl (by simp [flat,AV.cells,QN]) (by simp [AV.cells]) ?_
  iterate 1 (try ((with_reducible refine Qi ?_)))
  obtain ⟨I,hI⟩:∃ I:Nat→AS→Prop,I=fun m' s=>∃ (rs:List Rl) (s2:PS) (own:Option Nat) (m:List (ByteArray×AV)),m'=s2.toks.length∧Wst P.all s2∧rs.length≤40∧(∃ k,s2.toks.length+1≤k∧((Yy k rs s2).bind fun r s=>PR.ok (⟨d,r⟩:Pg) s)=R)∧KpO h P o s.h∧PIn P s.h s2 own m∧s.h[o]? = some (pgB (.sl 2 (vs Dc.av d) none) (.sl 6 (vs Rl.av rs) (some h.length)))∧s.h[h.length]? = some (.grow 34 6 rs.length)∧s.tm 0 = .ptr P.i 0 0∧s.tm 1 = .ptr o 0 0:=⟨_,rfl⟩;refine QZ I ?_ (m:=s1.toks.length) ?_
  ·intro m' s hs;rw [hI] at hs;obtain ⟨tm,hp⟩:=s;dsimp only at hs;obtain ⟨rs,s2,own,m,rfl,hW2,hl40,⟨k,hk,hR2⟩,hkp,hpin,hob2,htk,t0,t1⟩:=hs
   have hk1:k=k - 1+1:=by omega
   have hpl:=Qr htk
   have hWc:Wst P.all ⟨s2.toks,[]⟩:=⟨hW2.wf,hW2.suf,by have:=hW2.nms;simp only [QrD];omega⟩
   have hoh:o≠h.length:=by omega
   rw [hk1,Yy] at hR2
   have e1:=Tk.QqG s2.tk
   have e2:=Tk.QqH s2.tk
   have hi2:=hpin.i
   rw [pN] at hi2
   by_cases h0:s2.tk.kind=0
   ·rw [if_pos h0] at hR2
    subst hR2
    refine Qak o 26 2 [.agg [.sl 2 (vs Dc.av d) none,.sl 6 (vs Rl.av rs) (some h.length)]] [.agg [.sl 2 (vs Dc.av d) none,.sl 6 (vs Rl.av rs) none]] 1
     (Wk.sl rfl (fun y hy=>by obtain ⟨x,_,rfl⟩:=List.mem_map.1 hy;rfl) (WkL.refl _)) hob2 rfl rfl (fun x hx=>by rw [List.mem_singleton] at hx;subst hx;rfl) ?_
    have hX2:(hp.set o (pgB (.sl 2 (vs Dc.av d) none) (.sl 6 (vs Rl.av rs) none)))[P.i]? = some (pN P s2 own):=by rw [List.getElem?_set_ne hoi];exact hpin.i
    have cn:=Qj8 hW2 hX2
    have hi3:=hX2
    rw [pN] at hi3
    have z1:(s2.tk.kind != 0)=false:=by simpa using h0
    repeat (first|((first|(with_reducible (first|refine Qa fun K E hK hE=>?_|refine FunW.ret (FunW.call cn) ?_)));simp -implicitDefEqProofs only [Qc,Qd,OpW,QC,aop,AS.ev,↓reduceIte,Nat.reduceLT,Qf,Qv,aBin,Zs,ti3,QM,QF,Qq,t0,hi3,e1,e2,z1])|(with_reducible (first|refine Qg fun K hK=>?_|refine QE ?_|refine QA ?_|refine QB ?_))|((with_reducible refine hK _ ?_);clear hK)|(refine Qh rfl ?_;simp only [↓reduceIte,Qrt]))
    simp -implicitDefEqProofs only [Qrr,Qrv,List.mapM_nil,Option.pure_def,Qrr,QG,Qp,Qrz]
    exact .inr ⟨rfl,⟨_,⟨by rw [List.length_set];exact hkp.long,fun i h1 h2 h3 h4 h5=>by rw [List.getElem?_set_ne (Ne.symm h2)];exact hkp.out i h1 h2 h3 h4 h5⟩,List.getElem?_set_self (by omega)⟩,rfl⟩
   ·rw [if_neg h0] at hR2
    have z1:(s2.tk.kind != 0)=true:=by simpa using h0
    have cn:=Qj8 hW2 hpin.i
    have ev:(vs Rl.av rs).length=rs.length:=Y9 _ _
    by_cases hm:40≤rs.length
    ·rw [if_pos hm] at hR2
     subst hR2
     have cr:=QnP hW2 hpin.i ((rs.length:Nat):Int) 40 (by omega)
     repeat (first|((first|(with_reducible (first|refine Qa fun K E hK hE=>?_|refine FunW.ret (FunW.call cn) ?_)));simp -implicitDefEqProofs only [Qc,Qd,OpW,QC,aop,AS.ev,↓reduceIte,Nat.reduceLT,Qf,Qv,aBin,Zs,ti3,QM,QF,Qq,t0,hi2,e1,e2,z1])|(with_reducible (first|refine Qg fun K hK=>?_|refine Qi ?_|refine Qk ?_|refine Qb ?_))|((with_reducible refine hK _ ?_);clear hK)|(refine Qh rfl ?_;simp only [↓reduceIte]))
     refine Q6 6 [(0,0),(1,0),(2,0),(3,0),(4,0),(5,0)] mixed rfl rfl rfl (by kernel_rfl) (fun v h'=>v=Fl s2.tk.pos 6∧h'=hp) ?_ ?_
     ·rintro tm v h' ⟨rfl,rfl⟩
      exact .inr ⟨rfl,⟨_,hkp⟩,rfl⟩
     ·simp -implicitDefEqProofs only [Qc,Qd,aop,AS.ev,↓reduceIte,Qf,Qw,Qv,aLen,goInt,ti24,un24,ZS,QF,Qq,t0,t1,hi2,hob2,ev,seval]
      exact fun _=>(FunW.call cr).mono (by rintro _ _ ⟨rfl,rfl⟩;exact ⟨_,rfl,rfl,rfl⟩)
    ·rw [if_neg hm] at hR2
     have cr:=Qlf hW2 hpin.i ((rs.length:Nat):Int) 40 (by omega)
     have cR:=QgV hpin hWc hN hD
     repeat (first|((first|(with_reducible (first|refine Qa fun K E hK hE=>?_|refine FunW.ret (FunW.call cn) ?_)));simp -implicitDefEqProofs only [Qc,Qd,OpW,QC,aop,AS.ev,↓reduceIte,Nat.reduceLT,Qf,Qv,aBin,Zs,ti3,QM,QF,Qq,t0,hi2,e1,e2,z1])|(with_reducible (first|refine Qg fun K hK=>?_|refine Qi ?_|refine Qk ?_|refine Qb ?_))|((with_reducible refine hK _ ?_);clear hK)|(refine Qh rfl ?_;simp only [↓reduceIte]))
     first|refine QQ (id:=2) [(0,0),(1,0),(2,0),(3,0),(4,0),(5,0),(6,2)] mixed (by kernel_rfl) fun K hK=>?_|refine QV (id:=2) [(0,0),(1,0),(2,0),(3,0),(4,0),(5,0),(6,2)] mixed (by kernel_rfl) fun K hK=>?_
     simp -implicitDefEqProofs only [Qc,Qd,aop,AS.ev,↓reduceIte,Qf,Qw,Qv,aLen,goInt,ti24,un24,ZS,QF,Qq,t0,t1,hi2,hob2,ev,seval]
     refine XG (FunW.call cr) Zu ?_
     simp -implicitDefEqProofs only [Qdq,XO,Nat.reduceLT]
     cases hr:Yv s2 with
     |err p e =>
      rw [hr] at cR hR2
      have hR3:PR.err p e=R:=hR2
      subst hR3
      have cR2:QI Tryd.prog 20 [.ptr P.i 0 0] hp fun o h'=>o = .panic (Fl p e)∧∃ Y:{Y:AH // ErrY hp P Y},h'=Y.1:=cR
      refine hK _ ?_
      clear hK
      repeat (first|(with_reducible refine Qb ?_)|((with_reducible refine hK _ ?_);clear hK))
      refine Q6 3 [(0,0),(1,0),(2,0)] mixed rfl rfl rfl (by kernel_rfl) (fun v h'=>v=Fl p e∧∃ Y:{Y:AH // ErrY hp P Y},h'=Y.1) ?_ ?_
      ·rintro tm v h' ⟨rfl,⟨Y,hY⟩,rfl⟩
       exact .inr ⟨rfl,⟨h',Nat.le_trans hkp.long hY.long,fun i h1 h2 h3 h4 h5=>by rw [hY.out i (by have:=hkp.long;omega) h3 h4];exact hkp.out i h1 h2 h3 h4 h5⟩,rfl⟩
      ·simp -implicitDefEqProofs only [Qc,Qd,aop,AS.ev,↓reduceIte,Qf,Qw,Qv,ti24,ZS,t0,t1,hob2,seval]
       exact fun _=>(FunW.call cR2).mono (by rintro _ _ ⟨rfl,x,rfl⟩;exact ⟨_,rfl,rfl,x,rfl⟩)
     |ok r s6 =>
      rw [hr] at cR hR2
      have hR3:((Yy (k - 1) (rs++[r]) s6).bind fun r s=>PR.ok (⟨d,r⟩:Pg) s)=R:=hR2
      have hW6:Wst P.all s6:=Kp.Ps.ok (n:=wdOf P.all) (Kp.QgA trivial) hW2 hr
      have hl6:=(QgC s2 hW2.wf r s6 hr).2
      have cR2:QI Tryd.prog 20 [.ptr P.i 0 0] hp fun o h'=>o = .ret r.av∧h'=(hp.set P.i (pN P s6 none)).set P.j (kB s6):=cR
      have pil:=Qr hpin.i
      have pjl:=Qr hpin.j
      have pij:P.i≠P.j:=H.ij
      generalize hX:(hp.set P.i (pN P s6 none)).set P.j (kB s6)=X at *
      have hXo:X[o]? = some (pgB (.sl 2 (vs Dc.av d) none) (.sl 6 (vs Rl.av rs) (some h.length))):=by rw [← hX,List.getElem?_set_ne (Ne.symm hoj),List.getElem?_set_ne (Ne.symm hoi)];exact hob2
      have hXt:X[h.length]? = some (.grow 34 6 rs.length):=by rw [← hX,List.getElem?_set_ne (by have:=H.j;omega),List.getElem?_set_ne (by have:=H.i;omega)];exact htk
      have hXs:∀ y,(X.set h.length y)[o]? = some (pgB (.sl 2 (vs Dc.av d) none) (.sl 6 (vs Rl.av rs) (some h.length))):=fun y=>by rw [List.getElem?_set_ne (Ne.symm hoh)];exact hXo
      have hXl:X.length=hp.length:=by rw [← hX,List.length_set,List.length_set]
      have rc:=Rl.cells r
      have ri:=Rl.isAgg r
      have hm1:(rs.length+1) * 120≤140737488355328:=by omega
      have hm2:rs.length+1≤maxLen:=by simp only [maxLen];omega
      have evs:vs Rl.av (rs++[r])=vs Rl.av rs++[r.av]:=by rw [QdI];rfl
      have fin:∀ tm':Nat→AV,tm' 0 = .ptr P.i 0 0→tm' 1 = .ptr o 0 0→Xw I s2.toks.length ⟨tm',(X.set h.length (.grow 34 6 (rs.length+1))).set o (pgB (.sl 2 (vs Dc.av d) none) (.sl 6 (vs Rl.av rs++[r.av]) (some h.length)))⟩:=fun tm' k0 k1=>by
       have hYi:((X.set h.length (.grow 34 6 (rs.length+1))).set o (pgB (.sl 2 (vs Dc.av d) none) (.sl 6 (vs Rl.av rs++[r.av]) (some h.length))))[P.i]? = some (pN P s6 none):=by
        rw [List.getElem?_set_ne hoi,List.getElem?_set_ne (by have:=H.i;omega),← hX,List.getElem?_set_ne (Ne.symm pij),List.getElem?_set_self pil]
       have hYj:((X.set h.length (.grow 34 6 (rs.length+1))).set o (pgB (.sl 2 (vs Dc.av d) none) (.sl 6 (vs Rl.av rs++[r.av]) (some h.length))))[P.j]? = some (kB s6):=by
        rw [List.getElem?_set_ne hoj,List.getElem?_set_ne (by have:=H.j;omega),← hX,List.getElem?_set_self (by rw [List.length_set];exact pjl)]
       refine Xw.mk (m':=s6.toks.length) (by omega) ?_
       rw [hI]
       refine ⟨rs++[r],s6,none,kn s6.names,rfl,hW6,by simp;omega,⟨k - 1,by omega,hR3⟩,⟨by simp only [List.length_set,hXl];exact hkp.long,fun i h1 h2 h3 h4 h5=>?_⟩,⟨hYi,hYj⟩,?_,?_,k0,k1⟩
       ·rw [List.getElem?_set_ne (Ne.symm h2),List.getElem?_set_ne (by omega),← hX,List.getElem?_set_ne (Ne.symm h4),List.getElem?_set_ne (Ne.symm h3)];exact hkp.out i h1 h2 h3 h4 h5
       ·rw [evs];exact List.getElem?_set_self (by simp only [List.length_set,hXl];omega)
       ·rw [List.length_append,List.getElem?_set_ne hoh,List.getElem?_set_self (by rw [hXl];exact hpl)];rfl
      refine hK _ ?_
      clear hK
      repeat (first|(with_reducible refine Qb ?_)|((with_reducible refine hK _ ?_);clear hK))
      refine Zp 0 1 3 [(2,0)] [(3,2),(0,0),(1,0),(4,0),(5,2),(6,0),(7,2)] [(0,0)] [(3,2),(1,0),(4,0),(5,2),(6,0),(7,2)] [(1,0),(3,2),(4,0),(5,2),(6,0),(7,2)] mixed (by kernel_rfl) (by kernel_rfl) (by kernel_rfl) (by kernel_rfl) (by kernel_rfl) (by kernel_rfl) (by kernel_rfl) (by kernel_rfl) (by kernel_rfl) (by kernel_rfl) (by kernel_rfl) (by kernel_rfl) (fun K2 hK2=>?_)
      simp -implicitDefEqProofs only [Qc,Qd,aop,AS.ev,↓reduceIte,Qf,Qw,Qv,ti24,ZS,t0,t1,hob2,seval]
      refine ⟨?_,?_⟩
      ·refine XG (FunW.call cR2) Zu ?_
       simp -implicitDefEqProofs only [Qc,Qd,aop,undef,AS.ev,AV.QqF,↓reduceIte,Qf,Qw,Qv,Qy,Qm,QD,Xy,Yd,ti24,ei24,ai24,ZS,zi34,t1,hXo,hXt,hXs,rc,hm1,hm2,ev,seval]
       refine hK2 _ (fin _ ?_ ?_) <;> assumption
      ·refine ⟨?_,?_⟩
       ·refine XG (FunW.call cR2) Zu ?_
        simp -implicitDefEqProofs only [Qc,Qd,aop,undef,AS.ev,AV.QqF,↓reduceIte,Qf,Qw,Qv,Qy,Qm,QD,Xy,Yd,ti24,ei24,ai24,ZS,zi34,t1,hXo,hXt,hXs,rc,hm1,hm2,ev,seval]
        refine hK2 _ (fin _ ?_ ?_) <;> assumption
       ·refine XG (FunW.call cR2) Zu ?_
        simp -implicitDefEqProofs only [Qc,Qd,aop,undef,AS.ev,AV.QqF,↓reduceIte,Qf,Qy,Qm,QD,Xy,Yd,ti24,ei24,ai24,ZS,zi34,t1,hXt,hXs,rc,hm1,hm2,ev,seval]
        refine hK2 _ (fin _ ?_ ?_) <;> assumption
  ·rw [hI]
   have hg:∀ i (y z:AB),i≠o→i<h.length→(((ph h P s1).set o y++[AB.grow 34 6 0]).set o z)[i]? = (ph h P s1)[i]? := fun i y z h1 h2=>by
    rw [List.getElem?_set_ne (Ne.symm h1),List.getElem?_append_left (by rw [List.length_set,QN];exact h2),List.getElem?_set_ne (Ne.symm h1)]
   refine ⟨[],s1,some P.g,kn s1.names,rfl,hW1,Nat.zero_le _,⟨_,Nat.le_refl _,hR0⟩,⟨by simp only [List.length_set,Qsg,QN];omega,fun i h1 h2 h3 h4 h5=>?_⟩,⟨?_,?_⟩,?_,?_,rfl,rfl⟩
   ·rw [hg i _ _ h2 h1,YN H h3 h4 h5]
   ·rw [hg _ _ _ (Ne.symm hoi) H.i,XQ H];rfl
   ·rw [hg _ _ _ (Ne.symm hoj) H.j,Qm1 H];rfl
   ·exact List.getElem?_set_self (by simp only [List.length_set,Qsg,QN];omega)
   ·rw [List.getElem?_set_ne (by omega)]
    have e:((ph h P s1).set o (AB.cells 26 2 [.agg [.sl 2 (vs Dc.av d) none,nilV]])).length=h.length:=by rw [List.length_set,QN]
    rw [← e,List.getElem?_append_right (Nat.le_refl _),Nat.sub_self];rfl
end
end Go.Proofs.YticgcpebdldbgaaDoor.Ab
set_option maxRecDepth 4000
namespace Go.Proofs.YticgcpebdldbgaaDoor.Ab
open Go.Proofs
def RfQ (h:AH) (P:Pz) (o:Nat):PR Rl→AOut→AH→Prop
 | .ok r _,x,h'=>x = .ret (.tup [])∧∃ Y:{Y:AH // KpO h P o Y∧Y[o]? = some (.cells 34 6 [r.av])},h'=Y.1
 | .err p e,x,h'=>x = .panic (Fl p e)∧∃ Y:{Y:AH // KpO h P o Y},h'=Y.1
section
variable {P:Pz} {s:PS} (hW:Wst P.all s) {h:AH} (H:P.ok h) (hN:P.all.length≤1000000) (hD:TkOk P.all) {o:Nat} (hol:o<h.length) (hoi:o≠P.i) (hoj:o≠P.j) (hog:o≠P.g)
include hW H hN hD hol hoi hoj hog
theorem QkC (hob:h[o]? = some (.cells 34 6 [.agg [.v (.string {data:=#[]}),nilV,nilV,nilV,nilV,.i 0]])):QI Tryd.prog 26 [.ptr P.i 0 0,.ptr o 0 0] (ph h P s) (RfQ h P o (ZU s)):=by
 have hpin:PIn P (ph h P s) s (some P.g) (kn s.names):=⟨by rw [XQ H];rfl,by rw [Qm1 H];rfl⟩
 have hWc:Wst P.all ⟨s.toks,[]⟩:=⟨hW.wf,hW.suf,by have:=hW.nms;simp only [QrD];omega⟩
 have cR:=QgV hpin hWc hN hD
 rw [ZU]
 cases hr:Yv s with
 |err p e =>
  rw [hr] at cR
  have cR2:QI Tryd.prog 20 [.ptr P.i 0 0] (ph h P s) fun o h'=>o = .panic (Fl p e)∧∃ Y:{Y:AH // ErrY (ph h P s) P Y},h'=Y.1:=cR
  refine Qe Tryd.func26 rfl Tryd.call26 Tryd.ntmps26 (congrArg Array.toList Tryd.results26) (by simp) ?_
  repeat (first|((first|(with_reducible (first|refine Qa fun K E hK hE=>?_|refine FunW.panE (FunW.call cR2) fun Y=>?_)));simp -implicitDefEqProofs only [Qc,Qd,OpW,QC,aop,undef,AS.ev,Qs,↓reduceIte,Nat.reduceLT])|(with_reducible refine hE _ _ ?_))
  have hY:=Y.2
  exact .inr ⟨rfl,⟨Y.1,by have:=hY.long;rw [QN] at this;exact this,fun i h1 h2 h3 h4 h5=>by rw [hY.out i (by rw [QN];exact h1) h3 h4,YN H h3 h4 h5]⟩,rfl⟩
 |ok r s6 =>
  rw [hr] at cR
  have hW6:Wst P.all s6:=Kp.Ps.ok (n:=wdOf P.all) (Kp.QgA trivial) hW hr
  have cR2:QI Tryd.prog 20 [.ptr P.i 0 0] (ph h P s) fun o h'=>o = .ret r.av∧h'=((ph h P s).set P.i (pN P s6 none)).set P.j (kB s6):=cR
  have pil:=H.i
  have pjl:=H.j
  have pij:P.i≠P.j:=H.ij
  generalize hX:((ph h P s).set P.i (pN P s6 none)).set P.j (kB s6)=X at *
  have hXl:X.length=h.length:=by rw [← hX,List.length_set,List.length_set,QN]
  have hXo:X[o]? = some (.cells 34 6 [.agg [.v (.string {data:=#[]}),nilV,nilV,nilV,nilV,.i 0]]):=by rw [← hX,List.getElem?_set_ne (Ne.symm hoj),List.getElem?_set_ne (Ne.symm hoi),YN H hoi hoj hog];exact hob
  have hXi:(X.set o (.cells 34 6 [r.av]))[P.i]? = some (pN P s6 none):=by rw [List.getElem?_set_ne hoi,← hX,List.getElem?_set_ne (Ne.symm pij),List.getElem?_set_self (by rw [QN];exact pil)]
  have hkp:KpO h P o (X.set o (.cells 34 6 [r.av])):=⟨by rw [List.length_set,hXl];exact Nat.le_refl _,fun i h1 h2 h3 h4 h5=>by rw [List.getElem?_set_ne (Ne.symm h2),← hX,List.getElem?_set_ne (Ne.symm h4),List.getElem?_set_ne (Ne.symm h3),YN H h3 h4 h5]⟩
  have hXo2:(X.set o (.cells 34 6 [r.av]))[o]? = some (.cells 34 6 [r.av]):=List.getElem?_set_self (by omega)
  have rc:=Rl.cells r
  have ri:=Rl.isAgg r
  have hi3:=hXi
  rw [pN] at hi3
  by_cases hk:s6.tk.kind=0
  ·have ce:=QiW hW6 hXi hk
   have hE:((PR.ok r s6).bind fun r s=>(pEnd s).bind fun _ s=>PR.ok r s) = .ok r s6:=by
    have:pEnd s6 = .ok () s6:=by rw [pEnd,if_pos hk]
    show (pEnd s6).bind _=_
    rw [this];rfl
   rw [hE]
   refine Qe Tryd.func26 rfl Tryd.call26 Tryd.ntmps26 (congrArg Array.toList Tryd.results26) (by simp) ?_
   repeat (first|((first|(with_reducible (first|refine Qa fun K E hK hE=>?_|refine Qj fun K E hK hE=>?_|refine FunW.ret (FunW.call cR2) ?_|refine FunW.ret (FunW.call ce) ?_)));simp -implicitDefEqProofs only [Qc,Qd,OpW,QC,aop,undef,AS.ev,Qs,AV.QqF,↓reduceIte,Qf,Qy,Qm,ti34,QF,Qq,hXo,rc,ri,hi3,seval])|((with_reducible refine hK _ ?_);clear hK))
   simp -implicitDefEqProofs only [Qrr,Qrv,List.mapM_nil,Option.pure_def,Qrr,QG,Qp,Qrz]
   exact .inr ⟨rfl,⟨_,hkp,hXo2⟩,rfl⟩
  ·have ce:=QmR hW6 hXi hk
   have hE:((PR.ok r s6).bind fun r s=>(pEnd s).bind fun _ s=>PR.ok r s) = .err s6.tk.pos 16:=by
    have:pEnd s6 = .err s6.tk.pos 16:=by rw [pEnd,if_neg hk]
    show (pEnd s6).bind _=_
    rw [this];rfl
   rw [hE]
   refine Qe Tryd.func26 rfl Tryd.call26 Tryd.ntmps26 (congrArg Array.toList Tryd.results26) (by simp) ?_
   repeat (first|((first|(with_reducible (first|refine Qa fun K E hK hE=>?_|refine Qj fun K E hK hE=>?_|refine FunW.ret (FunW.call cR2) ?_|refine FunW.pan (FunW.call ce) ?_)));simp -implicitDefEqProofs only [Qc,Qd,OpW,QC,aop,undef,AS.ev,Qs,AV.QqF,↓reduceIte,Qf,Qy,Qm,ti34,QF,Qq,hXo,rc,ri,hi3,seval])|((with_reducible refine hK _ ?_);clear hK)|(with_reducible refine hE _ _ ?_))
   exact .inr ⟨rfl,⟨_,hkp⟩,rfl⟩
end
end Go.Proofs.YticgcpebdldbgaaDoor.Ab
namespace Go.Proofs.YticgcpebdldbgaaDoor.Ab
theorem QhS {P:Program} {N:Nat} {x:Code} {Q:AExit→AS→Prop} {tm:Nat→AV} {h:AH} (id d k off:Nat) {ty s:Nat} {xs:List AV} (hb:h[id]? = some (.cells ty s xs)) (hd:tm d = .ptr id k off)
  (H:XE P N x Q ⟨upd tm d (.pin s xs k off),h.set id .dead⟩):XE P N x Q ⟨tm,h⟩:=by
 intro F n base c a hF hst hr R hR
 have hh:c.h=h:=hr.h
 subst hh
 have hev:=Ev.kill hb
 have hst2:=hst.kill hb
 refine H F n base (c.kill id) a hF hst2 ⟨rfl,hr.size,hr.above,hr.defers.ev hev,RoundOk.ev hev hr.round,fun t=>?_⟩ R fun e' s' c' a' ex hq h1 h2 h3 h4=>hR e' s' c' a' ex hq (Ev.trans hst hev h1) h2 h3 h4
 show Rel (c.kill id) (if t=d then .pin s xs k off else tm t) _
 split
 ·rename_i ht
  subst ht
  have h0:=hr.tm t
  rw [show (AS.mk tm c.h).tm t=tm t from rfl,hd] at h0
  generalize a.tmps.getD t undef=u at h0
  cases h0 with
  |ptr _ _ _ x hid ho h1 =>
   obtain ⟨B,hρ,rfl⟩:=h1 _ _ _ hb
   obtain ⟨h4,f,h5⟩:=Qdg hst hb hρ
   have:=Rel.pin (c:=c.kill id) s xs k off B 0 f h4 (fun j a hj=>(h5 j a hj).1) (fun j a hj=>(h5 j a hj).2)
   rwa [Nat.zero_add] at this
 ·exact (hr.tm t).ev hst hev
set_option maxRecDepth 4000
open Go.Proofs
theorem QaX.mono {P:Program} {f:FuncId} {args:List AV} {h:AH} {m:AMode} {Q Q':AMode→AH→Prop} (H:QaX P f args h m Q) (hq:∀ m' h',Q m' h'→Q' m' h'):QaX P f args h m Q' :=
 ⟨H.1,fun F n c vals u hF hro hs hh hvals hm=>(H.2 F n c vals u hF hro hs hh hvals hm).mono fun e u' w' ⟨x,m',c',h1,h2,h3⟩=>⟨x,m',c',h1,hq _ _ h2,h3⟩⟩
abbrev iC (n:Int):AB:=.cells 3 1 [.i n]
abbrev eC (n:Int):AB:=.cells 27 1 [.i n]
theorem QkX {h:AH} {k:Nat}:QaX Tryd.prog 31 [.ptr k 0 0,.ptr (k+1) 0 0] h .ret fun m' h'=>m' = .ret∧h'=h:=by
 refine QaX.mono (QbA (Q:=fun h'=>h'=h) Tryd.func31 rfl Tryd.call31 Tryd.ntmps31 (congrArg Array.toList Tryd.results31) (by simp) (by decide) (by decide) .ret ?_) (fun m' h' q=>q)
 have hn2:∀ xo yo,pv Tryd.prog (do eqGuard .neq 20 xo yo .nilIface .nilIface;binOp .neq 20 .nilIface .nilIface)=some (.bool false):=fun xo yo=>by
  cases xo <;> cases yo <;> kernel_rfl
 repeat (first|(((with_reducible refine Qa fun K E hK hE=>?_));simp -implicitDefEqProofs only [Qc,Qd,OpW,aop,AS.ev,↓reduceIte,Nat.reduceLT,aBin,recV,hn2])|(with_reducible refine Qk ?_)|((with_reducible refine hK _ ?_);clear hK)|(refine Qh rfl ?_;simp only [↓reduceIte,Qrt]))
 simp -implicitDefEqProofs only [Qrr,Qrv,List.mapM_nil,Option.pure_def,Qrr,QG,Qp,Qrz]
 exact .inr ⟨⟨_,rfl⟩,rfl⟩
theorem Qlr {h:AH} {k:Nat} {a0 e0:Int} (hk:h[k]? = some (iC a0)) (hk1:h[k+1]? = some (eC e0)) (p e:Int):QaX Tryd.prog 31 [.ptr k 0 0,.ptr (k+1) 0 0] h (.pan (Fl p e) false) fun m' h'=>m' = .pan (Fl p e) true∧∃ L,h'=(h.set k (iC p)).set (k+1) (eC e)++L:=by
 refine QaX.mono (QbA (Q:=fun h'=>∃ L,h'=(h.set k (iC p)).set (k+1) (eC e)++L) Tryd.func31 rfl Tryd.call31 Tryd.ntmps31 (congrArg Array.toList Tryd.results31) (by simp) (by decide) (by decide) (.pan (Fl p e) false) ?_) (fun m' h' q=>q)
 have hn:∀ H,notNil Tryd.prog 20 H (.ifc 87 (.agg [.i p,.i e])) .nilIface=true:=fun H=>by kernel_rfl
 have ha:Qgn Tryd.prog (.ifc 87 (.agg [.i p,.i e])) 20 87 true=some (.tup [.agg [.i p,.i e],.v (.bool true)]):=by kernel_rfl
 have l1:=Qr hk
 have l2:=Qr hk1
 have g1:∀ L,(h++L)[k]? = some (iC a0):=fun L=>hext hk L
 have g2:∀ L y,((h++L).set k y)[k+1]? = some (eC e0):=fun L y=>by rw [List.getElem?_set_ne (by omega)];exact hext hk1 L
 repeat (first|(((with_reducible refine Qa fun K E hK hE=>?_));simp -implicitDefEqProofs only [Qc,Qd,OpW,aop,undef,AS.ev,AV.QqF,↓reduceIte,Qy,Qm,aBin,QR,ti87,zi87,recV,Fl,hn,ha,seval])|(with_reducible (first|refine Qg fun K hK=>?_|refine Qk ?_|refine Qb ?_))|((with_reducible refine hK _ ?_);clear hK)|(refine Qh rfl ?_;simp only [↓reduceIte,Qrt]))
 refine QhS h.length 3 0 0 (ty:=87) (s:=2) (xs:=[.agg [.i p,.i e]]) (by rw [List.getElem?_append_right (Nat.le_refl _),Nat.sub_self];rfl) rfl ?_
 have g3:(h++[AB.cells 87 2 [.agg [.i p,.i e]]]).set h.length .dead=h++[.dead]:=by rw [List.set_append_right _ _ (Nat.le_refl _),Nat.sub_self];rfl
 rw [g3]
 repeat (first|(((refine QV (id:=5) [(0,1),(1,1),(2,1),(3,1),(4,2),(5,2)] mixed (by kernel_rfl) fun K hK=>?_));simp -implicitDefEqProofs only [Qc,Qd,aop,undef,AS.ev,Qs,AV.QqF,↓reduceIte,Qf,Qw,Qv,Qy,Qm,ti3,ti27,Qpk,QpE,g1,g2,seval])|((with_reducible refine hK _ ?_);clear hK))
 simp -implicitDefEqProofs only [Qrr,Qrv,List.mapM_nil,Option.pure_def,Qrr,QG,Qp,Qrz]
 refine .inr ⟨⟨_,rfl⟩,[.dead],?_⟩
 rw [List.set_append_left _ _ l1,List.set_append_left _ _ (by rw [List.length_set];exact l2)]
def symC:Array Value:=(Xx.map fun x=>Value.string (mkB x)).toArray
def Zw (h:AH):Prop:=HasG h 0 symC
theorem QnM (j:Nat) (h:j<Xx.length):pv Tryd.prog (Instr.index 141 (.agg symC) (.int .i64 (j:Int)))=some (.string (mkB Xx[j])):=by
 have h23:j<23:=h
 have key:∀ m:Fin 23,pv Tryd.prog (Instr.index 141 (.agg symC) (.int .i64 ((m:Nat):Int)))=some (.string (mkB (Xx[(m:Nat)]'m.isLt))):=by
  have hx:∀ (m:Fin 23),(match pv Tryd.prog (Instr.index 141 (.agg symC) (.int .i64 ((m:Nat):Int))) with|some (.string b)=>b.data.toList==Xx[(m:Nat)]'m.isLt|_=>false)=true:=by decide +kernel
  intro m
  have:=hx m
  split at this
  ·rename_i b hb
   rw [hb]
   rw [show b=mkB (Xx[(m:Nat)]'m.isLt) from by rw [← beq_iff_eq.1 this];exact (Qdz b).symm]
  ·cases this
 exact key ⟨j,h23⟩
theorem Qgc (x l:List UInt8):x.isPrefixOf l=(l.take x.length==x):=by
 rw [Bool.eq_iff_iff,List.isPrefixOf_iff_prefix,beq_iff_eq,List.prefix_iff_eq_take]
 exact eq_comm
theorem Qfm (l:List UInt8) (k n:Nat) (h:k+n≤l.length):((mkB l).extract k (k+n)).toList=(l.drop k).take n:=by
 rw [Lib.toList_data,ByteArray.data_extract,mkB]
 simp only [Array.toList_extract,List.extract_eq_take_drop]
 rw [Nat.add_sub_cancel_left]
theorem QbK (l:List UInt8) (k n:Nat) (h:k+n≤l.length):(mkB l).extract k (k+n)=mkB ((l.drop k).take n):=by
 apply toList_inj
 rw [Qfm l k n h,QeC]
theorem QhY (l:List UInt8) (hl:l.length≤16384) (k:Nat) (hk:k≤l.length) (h:AH) (hG:Zw h) :
  QI Tryd.prog 98 [.v (.string (mkB l)),.i k] h fun o h'=>o = .ret (.v (.string (mkB ((QeX (l.drop k)).getD []))))∧h'=h:=by
 have hsl:=fun b=>ZN Tryd.prog 9 3 (by kernel_rfl) b
 have z1:¬ ((k:Nat):Int)<0:=by omega
 have z2:¬ ((l.length:Nat):Int)<((k:Nat):Int):=by omega
 have z3:¬ ((k:Nat):Int)>((l.length:Nat):Int):=by omega
 refine Qe Tryd.func98 rfl Tryd.call98 Tryd.ntmps98 (congrArg Array.toList Tryd.results98) (by simp) ?_
 iterate 10 (try (first|(((with_reducible refine Qa fun K E hK hE=>?_));simp -implicitDefEqProofs only [Qc,Qd,OpW,aop,undef,AS.ev,Qs,↓reduceIte,aBin,aLen,goInt,hsl,QU,z1,z2,seval])|(with_reducible (first|refine Qg fun K hK=>?_|refine Qk ?_|refine Qb ?_))|((with_reducible refine hK _ ?_);clear hK)|(refine Qh rfl ?_;simp only [↓reduceIte,Qrt])))
 refine QeP 0 rfl fun K E hK hE=>?_
 simp -implicitDefEqProofs only [Qc,Qd,OpW,aop,AS.ev,Nat.reduceLT,Qqv,Qnm]
 refine ⟨_,symC,rfl,hG,rfl,rfl,?_⟩
 refine hK _ ?_
 clear hK hE
 iterate 1 (try ((with_reducible refine Qi ?_)))
 obtain ⟨I,hI⟩:∃ I:Nat→AS→Prop,I=fun m' s=>∃ j:Nat,m'=Xx.length - j∧j≤Xx.length∧(Xx.drop j).find? (fun x=>x.isPrefixOf (l.drop k))=QeX (l.drop k)∧s.tm 0 = .v (.string (mkB l))∧s.tm 1 = .i k∧s.tm 15 = .v (.agg symC)∧s.tm 16 = .i j∧s.h=h:=⟨_,rfl⟩;refine QZ I ?_ (m:=Xx.length) ?_
 ·intro m' s hs;rw [hI] at hs;obtain ⟨tm,hp⟩:=s;dsimp only at hs;obtain ⟨j,rfl,hj,he,t0,t1,t15,t16,rfl⟩:=hs
  by_cases hlt:j<Xx.length
  ·have y1:((j:Nat):Int)<23:=by have:Xx.length=23:=rfl;omega
   have hix:=QnM j hlt
   have hx3:Xx[j].length≤3:=by have:∀ x∈Xx,x.length≤3:=(by decide);exact this _ (List.getElem_mem hlt)
   rw [List.drop_eq_getElem_cons hlt,List.find?_cons] at he
   generalize hx:Xx[j]=x at *
   have w1:IntKind.i64.wrap (((l.length:Nat):Int) - ((k:Nat):Int))=((l.length - k:Nat):Int):=by rw [Yu (by omega)];omega
   have w2:IntKind.i64.wrap (((k:Nat):Int)+((x.length:Nat):Int))=((k+x.length:Nat):Int):=by rw [Yu (by omega)];omega
   have w3:IntKind.i64.wrap (((j:Nat):Int)+1)=((j+1:Nat):Int):=X3 (by omega)
   by_cases hle:x.length≤l.length - k
   ·have y2:((x.length:Nat):Int)≤((l.length - k:Nat):Int):=by omega
    have y3:((l.length - k:Nat):Int)≥((x.length:Nat):Int):=by omega
    have hsp:=Qcd Tryd.prog 9 (by kernel_rfl) (mkB l) (some (.i64,(k:Nat))) (some (.i64,(k+x.length:Nat))) k (k+x.length) ⟨by omega,by rw [QU];omega,by omega⟩ ⟨by omega,by omega,by omega⟩
    simp only [Qrr] at hsp
    have hq:(((mkB l).extract k (k+x.length)).toList==(mkB x).toList)=x.isPrefixOf (l.drop k):=by rw [Qfm l k _ (by omega),QeC,Qgc]
    cases hc:x.isPrefixOf (l.drop k) with
    |true =>
     rw [hc] at hq he
     repeat (first|(((with_reducible refine Qa fun K E hK hE=>?_));simp -implicitDefEqProofs only [Qc,Qd,OpW,aop,AS.ev,↓reduceIte,aBin,Qax,aLen,goInt,ei9,t0,t1,t15,t16,hsl,QU,y1,y2,hix,w1,w2,hsp,hq,seval])|(with_reducible (first|refine Qg fun K hK=>?_|refine Qi ?_|refine Qn ?_|refine Qk ?_|refine Qb ?_|refine Qu ?_|refine Qz ?_))|((with_reducible refine hK _ ?_);clear hK)|(refine Qh rfl ?_;simp only [↓reduceIte]))
     simp only [QG,Qp,Qt,upd,↓reduceIte,Qrv,Qrz]
     exact Ql List.take_length (.keep (.v _)) ⟨by rw [← he];rfl,rfl⟩
    |false =>
     rw [hc] at hq he
     repeat (first|((first|(with_reducible (first|refine Qa fun K E hK hE=>?_|refine Qj fun K E hK hE=>?_)));simp -implicitDefEqProofs only [Qc,Qd,OpW,aop,AS.ev,↓reduceIte,aBin,Qax,aLen,goInt,ei9,t0,t1,t15,t16,hsl,QU,y1,y2,hix,w1,w2,w3,hsp,hq,seval])|(with_reducible (first|refine Qg fun K hK=>?_|refine Qi ?_|refine Qk ?_|refine Qb ?_|refine Qo ?_))|((with_reducible refine hK _ ?_);clear hK)|(refine Qh rfl ?_;simp only [↓reduceIte,Qrt]))
     refine Xw.mk (m':=Xx.length - (j+1)) (by omega) ?_
     rw [hI]
     exact ⟨j+1,rfl,by omega,he,t0,t1,t15,rfl,rfl⟩
   ·have y2:¬ ((x.length:Nat):Int)≤((l.length - k:Nat):Int):=by omega
    have y3:¬ ((l.length - k:Nat):Int)≥((x.length:Nat):Int):=by omega
    have hc:x.isPrefixOf (l.drop k)=false:=by
     rw [Qgc,beq_eq_false_iff_ne]
     intro e
     have:=congrArg List.length e
     rw [List.length_take,List.length_drop] at this
     omega
    rw [hc] at he
    repeat (first|((first|(with_reducible (first|refine Qa fun K E hK hE=>?_|refine Qj fun K E hK hE=>?_)));simp -implicitDefEqProofs only [Qc,Qd,OpW,aop,undef,AS.ev,↓reduceIte,aBin,aLen,goInt,t0,t1,t15,t16,hsl,QU,y1,y2,hix,w1,w3,seval])|(with_reducible (first|refine Qg fun K hK=>?_|refine Qi ?_|refine Qk ?_|refine Qb ?_|refine Qo ?_))|((with_reducible refine hK _ ?_);clear hK)|(refine Qh rfl ?_;simp only [↓reduceIte,Qrt]))
    refine Xw.mk (m':=Xx.length - (j+1)) (by omega) ?_
    rw [hI]
    exact ⟨j+1,rfl,by omega,he,t0,t1,t15,rfl,rfl⟩
  ·have hjl:j=Xx.length:=by omega
   have y1:¬ ((j:Nat):Int)<23:=by have:Xx.length=23:=rfl;omega
   rw [hjl,List.drop_length,List.find?_nil] at he
   repeat (first|(((with_reducible refine Qa fun K E hK hE=>?_));simp -implicitDefEqProofs only [Qc,Qd,OpW,aop,AS.ev,Nat.reduceLT,aBin,t16,y1])|(with_reducible (first|refine Qg fun K hK=>?_|refine Qn ?_|refine QE ?_|refine Qb ?_|refine QA ?_|refine QB ?_))|((with_reducible refine hK _ ?_);clear hK)|(clear hK;(with_reducible refine hK _ ?_);clear hK)|(refine Qh rfl ?_;simp only [↓reduceIte,Qrt]))
   simp only [QG,Qp,Qt,upd,↓reduceIte,Qrv,Qrz]
   exact Ql List.take_length (.keep (.v _)) ⟨by rw [← he];rfl,rfl⟩
 ·rw [hI]
  exact ⟨0,rfl,Nat.zero_le _,rfl,rfl,rfl,rfl,rfl,rfl⟩
end Go.Proofs.YticgcpebdldbgaaDoor.Ab
set_option maxRecDepth 4000
namespace Go.Proofs.YticgcpebdldbgaaDoor.Ab
open Go.Proofs
def tkv (k i:Int) (x:List UInt8):AV:=.agg [.i k,.i i,.v (.string (mkB x))]
def zTok:AV:=.agg [.i 0,.i 0,.v (.string {data:=#[]})]
theorem Qd4 (n:Nat) (k i:Int) (x:List UInt8):Below n (tkv k i x):=.agg _ fun a ha=>by
 simp only [List.mem_cons,List.not_mem_nil,or_false] at ha
 rcases ha with rfl|rfl|rfl <;> exact .v _
theorem ZA {n:Nat} {t:AV} (ht:Below n t) (a b:Int):Below n (.tup [t,.i a,.i b]):=.tup _ fun x hx=>by
 simp only [List.mem_cons,List.not_mem_nil,or_false] at hx
 rcases hx with rfl|rfl|rfl
 ·exact ht
 ·exact .v _
 ·exact .v _
def rdT (k:Nat):Int×List UInt8 ⊕ Int→AV
 | .inl (kd,x)=>.tup [tkv kd k x,.i ((k+x.length:Nat):Int),.i 0]
 | .inr e=>.tup [zTok,.i k,.i e]
theorem Qo6:zTok=tkv 0 0 []:=rfl
theorem Zb (n k:Nat) (r:Int×List UInt8 ⊕ Int):Below n (rdT k r):=by
 cases r with
 |inl p=>exact ZA (Qd4 n _ _ _) _ _
 |inr e=>exact ZA (Qo6▸Qd4 n _ _ _) _ _
theorem Qjp (c:UInt8):(clsN (c.toNat:Nat)=2∧isL c=true∧97≤c.toNat)∨(clsN (c.toNat:Nat)=3∧isL c=true∧¬ 97≤c.toNat)∨(clsN (c.toNat:Nat)=4∧isL c=false∧isD c=true)∨((clsN (c.toNat:Nat)=0∨clsN (c.toNat:Nat)=1)∧isL c=false∧isD c=false):=by
 have hc:=c.toNat_lt
 unfold clsN isL isD
 simp only [decide_eq_true_eq,decide_eq_false_iff_not]
 repeat' split
 all_goals omega
section
variable (l:List UInt8) (hl:l.length≤16384) (k:Nat) (h:AH)
include hl
theorem Qmx (hk:k=l.length):QI Tryd.prog 89 [.v (.string (mkB l)),.i k] h fun o h'=>o = .ret (rdT k (Y8 (l.drop k)))∧h'=h:=by
 have _hu:=hl
 have hsl:=fun b=>ZN Tryd.prog 9 3 (by kernel_rfl) b
 have z1:(((k:Nat):Int)==((l.length:Nat):Int))=true:=by rw [hk];simp
 have e:rdT k (Y8 (l.drop k)) = .tup [tkv 0 k [],.i k,.i 0]:=by rw [hk,List.drop_length];rfl
 rw [e]
 refine Qe Tryd.func89 rfl Tryd.call89 Tryd.ntmps89 (congrArg Array.toList Tryd.results89) (by simp) ?_
 repeat (first|(((with_reducible refine Qa fun K E hK hE=>?_));simp -implicitDefEqProofs only [Qc,Qd,OpW,aop,undef,AS.ev,Qs,AV.QqF,↓reduceIte,Qf,Qw,Qv,Qy,Qm,aBin,aLen,goInt,ti3,ti60,Yj,zi60,hsl,QU,z1,seval])|(with_reducible (first|refine Qg fun K hK=>?_|refine Qn ?_|refine Qu ?_))|((with_reducible refine hK _ ?_);clear hK)|(refine Qh rfl ?_;simp only [↓reduceIte]))
 simp -implicitDefEqProofs only [Qc,↓reduceIte,Qw,Qv,ti60,List.mapM_cons,List.mapM_nil,Option.pure_def,Option.bind_eq_bind,Qw,Qv,QG,Qp,Qt,Qrz,seval]
 exact Ql (htake _ _) (.keep (ZA (Qd4 _ _ _ _) _ _)) ⟨rfl,rfl⟩
theorem Qkq (hk:k<l.length) (hL:isL l[k]=true):QI Tryd.prog 89 [.v (.string (mkB l)),.i k] h fun o h'=>o = .ret (rdT k (Y8 (l.drop k)))∧h'=h:=by
 have hsl:=fun b=>ZN Tryd.prog 9 3 (by kernel_rfl) b
 have z1:(((k:Nat):Int)==((l.length:Nat):Int))=false:=by simp;omega
 have hix:=ZG Tryd.prog 9 (by kernel_rfl) (mkB l) k (by rw [QU];exact hk)
 rw [Qad l k hk] at hix
 have cp:=Qb9 (((l[k]).toNat:Nat):Int)
 have cr:=QgK l hl isW 2 QpJ k (by omega)
 have hd:=drop_cons hk
 have hn:((l.drop k).takeWhile isW).length≤l.length - k:=by rw [← List.length_drop];exact (List.takeWhile_prefix _).length_le
 obtain ⟨w,hw⟩:∃ w,w=(l.drop k).takeWhile isW:=⟨_,rfl⟩
 rw [← hw] at cr hn
 have ht:Y8 (l.drop k)=if 40<w.length then .inr 7 else .inl (if 97≤l[k].toNat then 1 else 2,w):=by rw [hw,hd,Y8,if_pos hL]
 have w1:IntKind.i64.wrap (((k+w.length:Nat):Int) - ((k:Nat):Int))=((w.length:Nat):Int):=by rw [Yu (by omega)];omega
 have hsp:=Qcd Tryd.prog 9 (by kernel_rfl) (mkB l) (some (.i64,(k:Nat))) (some (.i64,(k+w.length:Nat))) k (k+w.length) ⟨by omega,by rw [QU];omega,by omega⟩ ⟨by omega,by omega,by omega⟩
 simp only [Qrr] at hsp
 have hwt:(l.drop k).take w.length=w:=by rw [hw];exact (List.prefix_iff_eq_take.1 (List.takeWhile_prefix isW)).symm
 rw [QbK l k _ (by omega),hwt] at hsp
 have hcl:=Qjp l[k]
 have q23:((2:Int)==3)=false:=rfl
 have q32:((3:Int)==2)=false:=rfl
 rw [ht]
 by_cases h40:40<w.length
 ·have y1:((w.length:Nat):Int)>40:=by omega
  have y2:(40:Int)<((w.length:Nat):Int):=by omega
  rw [if_pos h40]
  by_cases h97:97≤l[k].toNat
  ·have c2:clsN (((l[k]).toNat:Nat):Int)=2:=by rcases hcl with ⟨a,b,c⟩|⟨a,b,c⟩|⟨a,b,c⟩|⟨a,b,c⟩ <;> first|exact a|omega|exact absurd (b.symm.trans hL) (by decide)
   rw [c2] at cp
   refine Qe Tryd.func89 rfl Tryd.call89 Tryd.ntmps89 (congrArg Array.toList Tryd.results89) (by simp) ?_
   repeat (first|((first|(with_reducible (first|refine Qa fun K E hK hE=>?_|refine QH cp ?_|refine QH cr ?_)));simp -implicitDefEqProofs only [Qc,Qd,OpW,QC,aop,undef,AS.ev,Qs,AV.QqF,↓reduceIte,Qf,Qy,Qm,aBin,Xc,Xq,aLen,goInt,ti3,ti60,QM,Yj,zi60,sp60,hsl,QU,z1,hix,w1,y1,q23,seval])|(with_reducible (first|refine Qg fun K hK=>?_|refine Qi ?_|refine Qn ?_|refine Qk ?_|refine Qb ?_|refine Qu ?_|refine Qz ?_))|((with_reducible refine hK _ ?_);clear hK)|(refine Qh rfl ?_;simp only [↓reduceIte,Qrt]))
   simp -implicitDefEqProofs only [Qc,↓reduceIte,Qw,Qv,ti60,List.mapM_cons,List.mapM_nil,Option.pure_def,Option.bind_eq_bind,Qw,Qv,QG,Qp,Qt,Qrz,seval]
   exact Ql (htake _ _) (.keep (Zb _ _ (.inr 7))) ⟨rfl,rfl⟩
  ·have c2:clsN (((l[k]).toNat:Nat):Int)=3:=by rcases hcl with ⟨a,b,c⟩|⟨a,b,c⟩|⟨a,b,c⟩|⟨a,b,c⟩ <;> first|exact a|omega|exact absurd (b.symm.trans hL) (by decide)
   rw [c2] at cp
   refine Qe Tryd.func89 rfl Tryd.call89 Tryd.ntmps89 (congrArg Array.toList Tryd.results89) (by simp) ?_
   repeat (first|((first|(with_reducible (first|refine Qa fun K E hK hE=>?_|refine Qj fun K E hK hE=>?_|refine QH cp ?_|refine QH cr ?_)));simp -implicitDefEqProofs only [Qc,Qd,OpW,QC,aop,undef,AS.ev,Qs,AV.QqF,↓reduceIte,Qf,Qy,Qm,aBin,Xc,Xq,aLen,goInt,ti3,ti60,QM,Yj,zi60,sp60,hsl,QU,z1,hix,w1,y1,q32,seval])|(with_reducible (first|refine Qg fun K hK=>?_|refine Qi ?_|refine Qn ?_|refine Qk ?_|refine Qb ?_|refine Qu ?_|refine Qz ?_))|((with_reducible refine hK _ ?_);clear hK)|(refine Qh rfl ?_;simp only [↓reduceIte,Qrt]))
   simp -implicitDefEqProofs only [Qc,↓reduceIte,Qw,Qv,ti60,List.mapM_cons,List.mapM_nil,Option.pure_def,Option.bind_eq_bind,Qw,Qv,QG,Qp,Qt,Qrz,seval]
   exact Ql (htake _ _) (.keep (Zb _ _ (.inr 7))) ⟨rfl,rfl⟩
 ·have y1:¬ ((w.length:Nat):Int)>40:=by omega
  have y2:¬ (40:Int)<((w.length:Nat):Int):=by omega
  rw [if_neg h40]
  by_cases h97:97≤l[k].toNat
  ·have c2:clsN (((l[k]).toNat:Nat):Int)=2:=by rcases hcl with ⟨a,b,c⟩|⟨a,b,c⟩|⟨a,b,c⟩|⟨a,b,c⟩ <;> first|exact a|omega|exact absurd (b.symm.trans hL) (by decide)
   rw [c2] at cp
   rw [if_pos h97]
   refine Qe Tryd.func89 rfl Tryd.call89 Tryd.ntmps89 (congrArg Array.toList Tryd.results89) (by simp) ?_
   repeat (first|((first|(with_reducible (first|refine Qa fun K E hK hE=>?_|refine QH cp ?_|refine QH cr ?_)));simp -implicitDefEqProofs only [Qc,Qd,OpW,QC,aop,undef,AS.ev,Qs,AV.QqF,↓reduceIte,Qf,Qw,Qv,Qy,Qm,aBin,Qax,aLen,goInt,ti3,ti9,ei9,ti60,QM,Yj,Xa,zi60,hsl,QU,z1,hix,w1,y1,hsp,q23,seval])|(with_reducible (first|refine Qg fun K hK=>?_|refine Qi ?_|refine Qn ?_|refine Qk ?_|refine Qb ?_|refine Qo ?_))|((with_reducible refine hK _ ?_);clear hK)|(refine Qh rfl ?_;simp only [↓reduceIte,Qrt]))
   simp -implicitDefEqProofs only [Qc,↓reduceIte,Qw,Qv,ti60,List.mapM_cons,List.mapM_nil,Option.pure_def,Option.bind_eq_bind,Qw,Qv,QG,Qp,Qt,Qrz,seval]
   exact Ql (htake _ _) (.keep (Zb _ k (.inl (1,w)))) ⟨rfl,rfl⟩
  ·have c2:clsN (((l[k]).toNat:Nat):Int)=3:=by rcases hcl with ⟨a,b,c⟩|⟨a,b,c⟩|⟨a,b,c⟩|⟨a,b,c⟩ <;> first|exact a|omega|exact absurd (b.symm.trans hL) (by decide)
   rw [c2] at cp
   rw [if_neg h97]
   refine Qe Tryd.func89 rfl Tryd.call89 Tryd.ntmps89 (congrArg Array.toList Tryd.results89) (by simp) ?_
   repeat (first|((first|(with_reducible (first|refine Qa fun K E hK hE=>?_|refine Qj fun K E hK hE=>?_|refine QH cp ?_|refine QH cr ?_)));simp -implicitDefEqProofs only [Qc,Qd,OpW,QC,aop,undef,AS.ev,Qs,AV.QqF,↓reduceIte,Qf,Qw,Qv,Qy,Qm,aBin,Qax,aLen,goInt,ti3,ti9,ei9,ti60,QM,Yj,Xa,zi60,hsl,QU,z1,hix,w1,y1,hsp,q32,seval])|(with_reducible (first|refine Qg fun K hK=>?_|refine Qi ?_|refine Qn ?_|refine Qk ?_|refine Qb ?_|refine Qo ?_))|((with_reducible refine hK _ ?_);clear hK)|(refine Qh rfl ?_;simp only [↓reduceIte,Qrt]))
   simp -implicitDefEqProofs only [Qc,↓reduceIte,Qw,Qv,ti60,List.mapM_cons,List.mapM_nil,Option.pure_def,Option.bind_eq_bind,Qw,Qv,QG,Qp,Qt,Qrz,seval]
   exact Ql (htake _ _) (.keep (Zb _ k (.inl (2,w)))) ⟨rfl,rfl⟩
theorem Qls (hk:k<l.length) (hL:isL l[k]=false) (hD:isD l[k]=false) (hG:Zw h):QI Tryd.prog 89 [.v (.string (mkB l)),.i k] h fun o h'=>o = .ret (rdT k (Y8 (l.drop k)))∧h'=h:=by
 have hsl:=fun b=>ZN Tryd.prog 9 3 (by kernel_rfl) b
 have z1:(((k:Nat):Int)==((l.length:Nat):Int))=false:=by simp;omega
 have hix:=ZG Tryd.prog 9 (by kernel_rfl) (mkB l) k (by rw [QU];exact hk)
 rw [Qad l k hk] at hix
 have cp:=Qb9 (((l[k]).toNat:Nat):Int)
 have hd:=drop_cons hk
 have cs:=fun b=>QhY l hl k (by omega) (h++[b]) (hG.app [b])
 have ht:Y8 (l.drop k)=match QeX (l.drop k) with|some x=>.inl (4,x)|none=>.inr 16:=by rw [hd,Y8,if_neg (by rw [hL];decide),if_neg (by rw [hD];decide)];rfl
 have hcl:=Qjp l[k]
 have c0:clsN (((l[k]).toNat:Nat):Int)=0∨clsN (((l[k]).toNat:Nat):Int)=1:=by rcases hcl with ⟨a,b,c⟩|⟨a,b,c⟩|⟨a,b,c⟩|⟨a,b,c⟩ <;> first|exact a|exact absurd (b.symm.trans hL) (by decide)|exact absurd (c.symm.trans hD) (by decide)
 generalize hcn:clsN (((l[k]).toNat:Nat):Int)=cn at *
 clear hcl
 have u2:(cn==2)=false:=by simp;omega
 have u3:(cn==3)=false:=by simp;omega
 have u4:(cn==4)=false:=by simp;omega
 rw [ht]
 cases hs:QeX (l.drop k) with
 |none =>
  rw [hs] at cs
  have hq:((mkB []).toList==({data:=#[]}:ByteArray).toList)=true:=by rw [QeC,Lib.toList_data];rfl
  simp only [Option.getD_none] at cs
  refine Qe Tryd.func89 rfl Tryd.call89 Tryd.ntmps89 (congrArg Array.toList Tryd.results89) (by simp) ?_
  repeat (first|((first|(with_reducible (first|refine Qa fun K E hK hE=>?_|refine Qj fun K E hK hE=>?_|refine QH cp ?_|refine FunW.ret (FunW.call (cs _)) ?_)));simp -implicitDefEqProofs only [Qc,Qd,OpW,QC,aop,undef,AS.ev,Qs,AV.QqF,↓reduceIte,Qf,Qy,Qm,aBin,Xc,Xq,aLen,goInt,ti3,ti60,Yj,zi60,sp60,hsl,QU,z1,hix,u2,u3,u4,hq,seval])|(with_reducible (first|refine Qg fun K hK=>?_|refine Qi ?_|refine Qn ?_|refine Qk ?_|refine Qb ?_|refine Qu ?_|refine Qz ?_))|((with_reducible refine hK _ ?_);clear hK)|(refine Qh rfl ?_;simp only [↓reduceIte,Qrt]))
  simp -implicitDefEqProofs only [Qc,↓reduceIte,Qw,Qv,ti60,List.mapM_cons,List.mapM_nil,Option.pure_def,Option.bind_eq_bind,Qw,Qv,QG,Qp,Qt,Qrz,seval]
  exact Ql (htake _ _) (.keep (Zb _ _ (.inr 16))) ⟨rfl,rfl⟩
 |some x =>
  rw [hs] at cs
  obtain ⟨x1,x3,xp⟩:=QhJ hs
  rw [Qgc,beq_iff_eq] at xp
  have xl:x.length≤l.length - k:=by have:=congrArg List.length xp;rw [List.length_take,List.length_drop] at this;omega
  have hq:((mkB x).toList==({data:=#[]}:ByteArray).toList)=false:=by
   rw [QeC,beq_eq_false_iff_ne]
   intro e
   have:=congrArg List.length e
   rw [Lib.toList_data,show ({data:=#[]}:ByteArray).data.toList.length=0 from rfl] at this
   omega
  simp only [Option.getD_some] at cs
  have w1:IntKind.i64.wrap (((k:Nat):Int)+((x.length:Nat):Int))=((k+x.length:Nat):Int):=by rw [Yu (by omega)];omega
  have hsp:=Qcd Tryd.prog 9 (by kernel_rfl) (mkB l) (some (.i64,(k:Nat))) (some (.i64,(k+x.length:Nat))) k (k+x.length) ⟨by omega,by rw [QU];omega,by omega⟩ ⟨by omega,by omega,by omega⟩
  simp only [Qrr] at hsp
  rw [QbK l k _ (by omega),xp] at hsp
  refine Qe Tryd.func89 rfl Tryd.call89 Tryd.ntmps89 (congrArg Array.toList Tryd.results89) (by simp) ?_
  repeat (first|((first|(with_reducible (first|refine Qa fun K E hK hE=>?_|refine Qj fun K E hK hE=>?_|refine QH cp ?_|refine FunW.ret (FunW.call (cs _)) ?_)));simp -implicitDefEqProofs only [Qc,Qd,OpW,QC,aop,undef,AS.ev,Qs,AV.QqF,↓reduceIte,Qf,Qw,Qv,Qy,Qm,aBin,Qax,aLen,goInt,ti3,ti9,ei9,ti60,QM,Yj,Xa,zi60,hsl,QU,z1,hix,u2,u3,u4,hq,w1,hsp,seval])|(with_reducible (first|refine Qg fun K hK=>?_|refine Qi ?_|refine Qn ?_|refine Qk ?_|refine Qb ?_|refine Qo ?_))|((with_reducible refine hK _ ?_);clear hK)|(refine Qh rfl ?_;simp only [↓reduceIte,Qrt]))
  simp -implicitDefEqProofs only [Qc,↓reduceIte,Qw,Qv,ti60,List.mapM_cons,List.mapM_nil,Option.pure_def,Option.bind_eq_bind,Qw,Qv,QG,Qp,Qt,Qrz,seval]
  exact Ql (htake _ _) (.keep (Zb _ _ (.inl (4,x)))) ⟨rfl,rfl⟩
end
end Go.Proofs.YticgcpebdldbgaaDoor.Ab
set_option maxRecDepth 4000
namespace Go.Proofs.YticgcpebdldbgaaDoor.Ab
open Go.Proofs
theorem Qp9 {n : Int} (h : 0 ≤ n ∧ n ≤ 255) : IntKind.u8.wrap n = n := IntWalk.u8_in n h
theorem QqC (n : Int) (hn : 0 ≤ n ∧ n < 256) : pv Tryd.prog (convert 5 3 (.int .u8 n)) = some (.int .i64 n) := by
  have : pv Tryd.prog (convert 5 3 (.int .u8 n)) = some (.int .i64 (IntKind.i64.wrap n)) := by kernel_rfl
  rw [this, Yu (by omega)]
theorem QgW (q : List UInt8) : ∃ j, j ≤ q.length ∧ Q8 false q = q.drop j := by
  have : ∀ (b : Bool) (q : List UInt8), ∃ j, j ≤ q.length ∧ Q8 b q = q.drop j := fun b q => by
    induction q generalizing b with
    | nil => exact ⟨0, Nat.le_refl _, by cases b <;> rfl⟩
    | cons c r ih =>
      cases b with
      | true =>
        rw [Q8]
        split
        · obtain ⟨j, h1, h2⟩ := ih false; exact ⟨j + 1, by simp; omega, by rw [h2]; rfl⟩
        · obtain ⟨j, h1, h2⟩ := ih true; exact ⟨j + 1, by simp; omega, by rw [h2]; rfl⟩
      | false =>
        rw [Q8]
        split
        · obtain ⟨j, h1, h2⟩ := ih false; exact ⟨j + 1, by simp; omega, by rw [h2]; rfl⟩
        · split
          · obtain ⟨j, h1, h2⟩ := ih true; exact ⟨j + 1, by simp; omega, by rw [h2]; rfl⟩
          · exact ⟨0, Nat.zero_le _, rfl⟩
  exact this false q
section
variable (l : List UInt8) (hl : l.length ≤ 16384) (k : Nat) (h : AH)
include hl
theorem QmV (hk : k < l.length) (hD : isD l[k] = true) : QI Tryd.prog 89 [.v (.string (mkB l)), .i k] h fun o h' => o = .ret (rdT k (Y8 (l.drop k))) ∧ h' = h := by
  have hsl := fun b => ZN Tryd.prog 9 3 (by kernel_rfl) b
  have z1 : (((k : Nat) : Int) == ((l.length : Nat) : Int)) = false := by simp; omega
  have hix := ZG Tryd.prog 9 (by kernel_rfl) (mkB l) k (by rw [QU]; exact hk)
  rw [Qad l k hk] at hix
  have cp := Qb9 (((l[k]).toNat : Nat) : Int)
  have cr := QgK l hl isD 4 QlN k (by omega)
  have hd := drop_cons hk
  have hn : ((l.drop k).takeWhile isD).length ≤ l.length - k := by rw [← List.length_drop]; exact (List.takeWhile_prefix _).length_le
  obtain ⟨w, hw⟩ : ∃ w, w = (l.drop k).takeWhile isD := ⟨_, rfl⟩
  rw [← hw] at cr hn
  have hL : isL l[k] = false := by rcases Qjp l[k] with ⟨a, b, c⟩ | ⟨a, b, c⟩ | ⟨a, b, c⟩ | ⟨a, b, c⟩
                                   · exact absurd ((QlN l[k]).2 hD) (by omega)
                                   · exact absurd ((QlN l[k]).2 hD) (by omega)
                                   · exact b
                                   · exact b
  have c4 : clsN (((l[k]).toNat : Nat) : Int) = 4 := by rcases Qjp l[k] with ⟨a, b, c⟩ | ⟨a, b, c⟩ | ⟨a, b, c⟩ | ⟨a, b, c⟩ <;> first | exact a | exact absurd (b.symm.trans hL) (by decide) | exact absurd (c.symm.trans hD) (by decide)
  rw [c4] at cp
  have ht : Y8 (l.drop k) = if 2147483648 < numVal w then .inr 5 else .inl (3, w) := by rw [hw, hd, Y8, if_neg (by rw [hL]; decide), if_pos hD]
  have hsp := Qcd Tryd.prog 9 (by kernel_rfl) (mkB l) (some (.i64, (k : Nat))) (some (.i64, (k + w.length : Nat))) k (k + w.length) ⟨by omega, by rw [QU]; omega, by omega⟩ ⟨by omega, by omega, by omega⟩
  simp only [Qrr] at hsp
  have hwt : (l.drop k).take w.length = w := by rw [hw]; exact (List.prefix_iff_eq_take.1 (List.takeWhile_prefix isD)).symm
  rw [QbK l k _ (by omega), hwt] at hsp
  have q42 : ((4 : Int) == 2) = false := rfl
  have q43 : ((4 : Int) == 3) = false := rfl
  have hwd : ∀ (j : Nat) (hj : j < w.length), l[k + j]'(by omega) = w[j] ∧ isD w[j] = true := fun j hj => by
    constructor
    · have : (l.drop k)[j]? = w[j]? := by
        conv => rhs; rw [← hwt, List.getElem?_take, if_pos hj]
      rw [List.getElem?_drop, List.getElem?_eq_getElem (by omega), List.getElem?_eq_getElem hj] at this
      exact Option.some.inj this
    · have : ∀ c ∈ w, isD c = true := fun c hc => by
        rw [hw] at hc
        exact List.all_eq_true.1 List.all_takeWhile c hc
      exact this _ (List.getElem_mem hj)
  rw [ht]
  refine Qe Tryd.func89 rfl Tryd.call89 Tryd.ntmps89 (congrArg Array.toList Tryd.results89) (by simp) ?_
  repeat (first | ((first | (with_reducible (first | refine Qa fun K E hK hE => ?_ | refine Qj fun K E hK hE => ?_ | refine QH cp ?_ | refine QH cr ?_))); simp -implicitDefEqProofs only [Qc, Qd, OpW, QC, aop, undef, AS.ev, Qs, AV.QqF, ↓reduceIte, Qf, Qy, Qm, aBin, aLen, goInt, ti3, QM, Yj, zi60, hsl, QU, z1, hix, q42, q43, seval]) | (with_reducible (first | refine Qg fun K hK => ?_ | refine Qi ?_ | refine Qk ?_ | refine Qb ?_)) | ((with_reducible refine hK _ ?_); clear hK) | (refine Qh rfl ?_; simp only [↓reduceIte, Qrt]))
  obtain ⟨I, hI⟩ : ∃ I : Nat → AS → Prop, I = fun m' s => ∃ j : Nat, m' = w.length - j ∧ j ≤ w.length ∧ numVal (w.take j) ≤ 2147483648 ∧ s.tm 0 = .v (.string (mkB l)) ∧ s.tm 1 = .i k ∧ s.tm 4 = .ptr h.length 0 0 ∧ s.tm 5 = .i ((k + w.length : Nat) : Int) ∧ s.tm 7 = .i (numVal (w.take j) : Nat) ∧ s.tm 8 = .i ((k + j : Nat) : Int) ∧ s.h = h ++ [.cells 60 3 [.agg [.i 3, .i k, .v (.string { data := #[] })]]] := ⟨_, rfl⟩; refine QZ I ?_ (m := w.length) ?_
  · intro m' s hs; rw [hI] at hs; obtain ⟨tm, hp⟩ := s; dsimp only at hs; obtain ⟨j, rfl, hj, hv, t0, t1, t4, t5, t7, t8, rfl⟩ := hs
    by_cases hlt : j < w.length
    · have y1 : (((k + j : Nat) : Int) < ((k + w.length : Nat) : Int)) := by omega
      obtain ⟨d1, d2⟩ := hwd j hlt
      have hix2 := ZG Tryd.prog 9 (by kernel_rfl) (mkB l) (k + j) (by rw [QU]; omega)
      rw [Qad l (k + j) (by omega), d1] at hix2
      have hcd : 48 ≤ (w[j]).toNat ∧ (w[j]).toNat ≤ 57 := by unfold isD at d2; simpa using d2
      obtain ⟨n1, n2⟩ := Qd5 hlt
      generalize hnv : numVal (w.take j) = v at *
      have w1 : IntKind.i64.wrap (10 * ((v : Nat) : Int)) = ((10 * v : Nat) : Int) := by rw [Yu (by omega)]; omega
      have w2 : IntKind.u8.wrap ((((w[j]).toNat : Nat) : Int) - 48) = (((w[j]).toNat - 48 : Nat) : Int) := by rw [Qp9 (by omega)]; omega
      have w3 := QqC (((w[j]).toNat - 48 : Nat) : Int) (by omega)
      have w4 : IntKind.i64.wrap (((10 * v : Nat) : Int) + (((w[j]).toNat - 48 : Nat) : Int)) = ((numVal (w.take (j + 1)) : Nat) : Int) := by rw [Yu (by omega)]; omega
      have w5 : IntKind.i64.wrap (((k + j : Nat) : Int) + 1) = ((k + (j + 1) : Nat) : Int) := by rw [Yu (by omega)]; omega
      by_cases hb : 2147483648 < numVal (w.take (j + 1))
      · have y2 : ((numVal (w.take (j + 1)) : Nat) : Int) > 2147483648 := by omega
        have y3 : (2147483648 : Int) < ((numVal (w.take (j + 1)) : Nat) : Int) := by omega
        rw [show (if 2147483648 < numVal w then (Sum.inr 5 : Int × List UInt8 ⊕ Int) else .inl (3, w)) = .inr 5 from if_pos (by omega)]
        repeat (first | (((with_reducible refine Qa fun K E hK hE => ?_)); simp -implicitDefEqProofs only [Qc, Qd, OpW, aop, undef, AS.ev, AV.QqF, ↓reduceIte, Qy, Qm, aBin, Xc, Xq, ti60, zi60, sp60, t0, t1, t4, t5, t7, t8, y1, hix2, w1, w2, w3, w4, y2, seval]) | (with_reducible (first | refine Qg fun K hK => ?_ | refine Qi ?_ | refine Qn ?_ | refine Qk ?_ | refine Qb ?_ | refine Qu ?_ | refine Qz ?_)) | ((with_reducible refine hK _ ?_); clear hK) | (refine Qh rfl ?_; simp only [↓reduceIte]))
        simp -implicitDefEqProofs only [Qc, ↓reduceIte, Qw, Qv, ti60, List.mapM_cons, List.mapM_nil, Option.pure_def, Option.bind_eq_bind, t4, Qw, Qv, QG, Qp, Qt, Qrz, seval]
        exact Ql (htake _ _) (.keep (Zb _ k (.inr 5))) ⟨rfl, rfl⟩
      · have y2 : ¬ ((numVal (w.take (j + 1)) : Nat) : Int) > 2147483648 := by omega
        have y3 : ¬ (2147483648 : Int) < ((numVal (w.take (j + 1)) : Nat) : Int) := by omega
        repeat (first | ((first | (with_reducible (first | refine Qa fun K E hK hE => ?_ | refine Qj fun K E hK hE => ?_))); simp -implicitDefEqProofs only [Qc, Qd, OpW, aop, AS.ev, ↓reduceIte, aBin, t0, t5, t7, t8, y1, hix2, w1, w2, w3, w4, y2, w5, seval]) | (with_reducible (first | refine Qg fun K hK => ?_ | refine Qi ?_ | refine Qk ?_ | refine Qb ?_ | refine Qo ?_)) | ((with_reducible refine hK _ ?_); clear hK) | (refine Qh rfl ?_; simp only [↓reduceIte, Qrt]))
        refine Xw.mk (m' := w.length - (j + 1)) (by omega) ?_
        rw [hI]
        exact ⟨j + 1, rfl, hlt, by omega, t0, t1, t4, t5, rfl, rfl, rfl⟩
    · have hjl : j = w.length := by omega
      have y1 : ¬ (((k + j : Nat) : Int) < ((k + w.length : Nat) : Int)) := by omega
      rw [hjl, List.take_length] at hv
      repeat (first | (((with_reducible refine Qa fun K E hK hE => ?_)); simp -implicitDefEqProofs only [Qc, Qd, OpW, aop, undef, AS.ev, AV.QqF, ↓reduceIte, Qf, Qw, Qv, Qy, Qm, aBin, Qax, ti9, ei9, ti60, Xa, t0, t1, t4, t5, t8, y1, hsp, seval]) | (with_reducible (first | refine Qg fun K hK => ?_ | refine Qn ?_ | refine QE ?_ | refine Qb ?_ | refine QA ?_ | refine Qo ?_ | refine QB ?_)) | ((with_reducible refine hK _ ?_); clear hK) | (clear hK; (with_reducible refine hK _ ?_); clear hK) | (refine Qh rfl ?_; simp only [↓reduceIte, Qrt]))
      simp -implicitDefEqProofs only [Qc, ↓reduceIte, Qw, Qv, ti60, List.mapM_cons, List.mapM_nil, Option.pure_def, Option.bind_eq_bind, t4, Qw, Qv, QG, Qp, Qt, Qrz, seval]
      exact Ql (htake _ _) (.keep (Zb _ k (.inl (3, w)))) ⟨by rw [show (if 2147483648 < numVal w then (Sum.inr 5 : Int × List UInt8 ⊕ Int) else .inl (3, w)) = .inl (3, w) from if_neg (by omega)]; rfl, rfl⟩
  · rw [hI]
    refine ⟨0, rfl, Nat.zero_le _, by simp [numVal], rfl, rfl, rfl, rfl, rfl, rfl, rfl⟩
theorem Qkc (hk : k ≤ l.length) (hG : Zw h) : QI Tryd.prog 89 [.v (.string (mkB l)), .i k] h fun o h' => o = .ret (rdT k (Y8 (l.drop k))) ∧ h' = h := by
  by_cases e : k = l.length
  · exact Qmx l hl k h e
  · have hlt : k < l.length := by omega
    by_cases hL : isL l[k] = true
    · exact Qkq l hl k h hlt hL
    · by_cases hD : isD l[k] = true
      · exact QmV l hl k h hlt hD
      · exact Qls l hl k h hlt (by simpa using hL) (by simpa using hD) hG
def QiJ (tot : Nat) (q : List UInt8) : AV := rdT (tot - (Q8 false q).length) (Y8 (Q8 false q))
theorem QnW (hk : k ≤ l.length) (hG : Zw h) : QI Tryd.prog 77 [.v (.string (mkB l)), .i k] h fun o h' => o = .ret (QiJ l.length (l.drop k)) ∧ h' = h := by
  have hsl := fun b => ZN Tryd.prog 9 3 (by kernel_rfl) b
  have z1 : ¬ ((k : Nat) : Int) < 0 := by omega
  have z2 : ¬ ((l.length : Nat) : Int) < ((k : Nat) : Int) := by omega
  have z3 : ¬ ((k : Nat) : Int) > ((l.length : Nat) : Int) := by omega
  have z4 : ¬ ((l.length : Nat) : Int) > 16384 := by omega
  have z5 : ¬ (16384 : Int) < ((l.length : Nat) : Int) := by omega
  have cs := Qka l hl k hk
  obtain ⟨j, j1, j2⟩ := QgW (l.drop k)
  have e1 : Q8 false (l.drop k) = l.drop (l.length - (Q8 false (l.drop k)).length) := by
    rw [List.length_drop] at j1
    rw [j2, List.drop_drop, List.length_drop]
    congr 1; omega
  have cr := fun b => Qkc l hl (l.length - (Q8 false (l.drop k)).length) (h ++ [b]) (by omega) (hG.app [b])
  rw [← e1] at cr
  have fin : ∀ n, Below n (QiJ l.length (l.drop k)) := fun n => Zb _ _ _
  cases hr : Y8 (Q8 false (l.drop k)) with
  | inl p =>
    obtain ⟨kd, x⟩ := p
    have e2 : QiJ l.length (l.drop k) = rdT (l.length - (Q8 false (l.drop k)).length) (.inl (kd, x)) := by rw [QiJ, hr]
    rw [e2] at fin ⊢
    rw [hr] at cr
    generalize l.length - (Q8 false (l.drop k)).length = i at *
    refine Qe Tryd.func77 rfl Tryd.call77 Tryd.ntmps77 (congrArg Array.toList Tryd.results77) (by simp) ?_
    repeat (first | ((first | (with_reducible (first | refine Qa fun K E hK hE => ?_ | refine QH cs ?_ | refine FunW.ret (FunW.call (cr _)) ?_))); simp -implicitDefEqProofs only [Qc, Qd, OpW, QC, aop, undef, AS.ev, Qs, AV.QqF, ↓reduceIte, Qy, Qm, aBin, QR, aLen, goInt, ti60, zi60, hsl, QU, z1, z2, z4, rdT, tkv, seval]) | (with_reducible (first | refine Qg fun K hK => ?_ | refine Qn ?_ | refine Qk ?_ | refine Qb ?_)) | ((with_reducible refine hK _ ?_); clear hK) | (refine Qh rfl ?_; simp only [↓reduceIte, Qrt]))
    simp -implicitDefEqProofs only [Qc, ↓reduceIte, ti60, List.mapM_cons, List.mapM_nil, Option.pure_def, Option.bind_eq_bind, Qw, Qv, QG, Qp, Qt, Qrz, seval]
    exact Ql (htake _ _) (.keep (fin _)) ⟨rfl, rfl⟩
  | inr e =>
    have e2 : QiJ l.length (l.drop k) = rdT (l.length - (Q8 false (l.drop k)).length) (.inr e) := by rw [QiJ, hr]
    rw [e2] at fin ⊢
    rw [hr] at cr
    generalize l.length - (Q8 false (l.drop k)).length = i at *
    refine Qe Tryd.func77 rfl Tryd.call77 Tryd.ntmps77 (congrArg Array.toList Tryd.results77) (by simp) ?_
    repeat (first | ((first | (with_reducible (first | refine Qa fun K E hK hE => ?_ | refine QH cs ?_ | refine FunW.ret (FunW.call (cr _)) ?_))); simp -implicitDefEqProofs only [Qc, Qd, OpW, QC, aop, undef, AS.ev, Qs, AV.QqF, ↓reduceIte, Qy, Qm, aBin, QR, aLen, goInt, ti60, zi60, hsl, QU, z1, z2, z4, rdT, zTok, seval]) | (with_reducible (first | refine Qg fun K hK => ?_ | refine Qn ?_ | refine Qk ?_ | refine Qb ?_)) | ((with_reducible refine hK _ ?_); clear hK) | (refine Qh rfl ?_; simp only [↓reduceIte, Qrt]))
    simp -implicitDefEqProofs only [Qc, ↓reduceIte, ti60, List.mapM_cons, List.mapM_nil, Option.pure_def, Option.bind_eq_bind, Qw, Qv, QG, Qp, Qt, Qrz, seval]
    exact Ql (htake _ _) (.keep (fin _)) ⟨rfl, rfl⟩
end
end Go.Proofs.YticgcpebdldbgaaDoor.Ab
set_option maxRecDepth 4000
namespace Go.Proofs.YticgcpebdldbgaaDoor.Ab
open Go.Proofs
def scR:List Tk ⊕ (Int×Int)→AV
 | .inl ts=>.tup [.sl 3 (tks ts) none,.i 0,.i 0]
 | .inr p=>.tup [.v (.slice none 0 0),.i p.1,.i p.2]
def scJ (ts:List Tk):List Tk ⊕ (Int×Int)→List Tk ⊕ (Int×Int)
 | .inl us=>.inl (ts++us)
 | .inr p=>.inr p
theorem QhH (n:Nat) (r:List Tk ⊕ (Int×Int)):Below n (scR r):=by
 cases r with
 |inl ts =>
  refine .tup _ fun x hx=>?_
  simp only [List.mem_cons,List.not_mem_nil,or_false] at hx
  rcases hx with rfl|rfl|rfl
  ·exact .sl 3 _ none (Qb4 _ _) (fun b hb=>by cases hb)
  ·exact .v _
  ·exact .v _
 |inr p =>
  refine .tup _ fun x hx=>?_
  simp only [List.mem_cons,List.not_mem_nil,or_false] at hx
  rcases hx with rfl|rfl|rfl <;> exact .v _
theorem QkU (l:List UInt8) (hl:16384<l.length) (h:AH):QI Tryd.prog 77 [.v (.string (mkB l)),.i 0] h fun o h'=>o = .ret (.tup [zTok,.i 0,.i 6])∧h'=h:=by
 have hsl:=fun b=>ZN Tryd.prog 9 3 (by kernel_rfl) b
 have z1:¬ (0:Int)<0:=by omega
 have z2:¬ ((l.length:Nat):Int)<0:=by omega
 have z3:¬ (0:Int)>((l.length:Nat):Int):=by omega
 have z4:((l.length:Nat):Int)>16384:=by omega
 have z5:(16384:Int)<((l.length:Nat):Int):=by omega
 refine Qe Tryd.func77 rfl Tryd.call77 Tryd.ntmps77 (congrArg Array.toList Tryd.results77) (by simp) ?_
 repeat (first|(((with_reducible refine Qa fun K E hK hE=>?_));simp -implicitDefEqProofs only [Qc,Qd,OpW,aop,undef,AS.ev,Qs,AV.QqF,↓reduceIte,Qy,Qm,aBin,Xc,Xq,aLen,goInt,ti60,zi60,sp60,hsl,QU,z1,z2,z4,seval])|(with_reducible (first|refine Qg fun K hK=>?_|refine Qn ?_|refine Qk ?_|refine Qb ?_|refine Qu ?_))|((with_reducible refine hK _ ?_);clear hK)|(refine Qh rfl ?_;simp only [↓reduceIte,Qrt]))
 simp -implicitDefEqProofs only [Qc,↓reduceIte,ti60,List.mapM_cons,List.mapM_nil,Option.pure_def,Option.bind_eq_bind,Qw,Qv,QG,Qp,Qt,Qrz,seval]
 exact Ql (htake _ _) (.keep (Zb _ 0 (.inr 6))) ⟨rfl,rfl⟩
theorem Qja {q:List UInt8} {e:Int} (h:Y8 q = .inr e):e≠0:=by
 cases q with
 |nil=>cases h
 |cons c r =>
  rw [Y8] at h
  split at h
  ·split at h
   ·cases h;decide
   ·cases h
  ·split at h
   ·split at h
    ·cases h;decide
    ·cases h
   ·split at h
    ·cases h
    ·cases h;decide
theorem QhC (l:List UInt8) (h:AH) (hG:Zw h):QI Tryd.prog 58 [.v (.string (mkB l))] h fun o h'=>o = .ret (scR (XK l))∧h'=h:=by
 by_cases hl:16384<l.length
 ·have cn:=fun L=>QkU l hl (h++L)
  rw [XK,if_pos hl]
  have e2:((6:Int) != 0)=true:=rfl
  refine Qe Tryd.func58 rfl Tryd.call58 Tryd.ntmps58 (congrArg Array.toList Tryd.results58) (by simp) ?_
  iterate 6 (try (first|(((with_reducible refine Qa fun K E hK hE=>?_));simp -implicitDefEqProofs only [Qc,Qd,OpW,aop,AS.ev,Nat.reduceLT])|((with_reducible refine hK _ ?_);clear hK)))
  refine Qac 5 60 3 rfl ?_
  iterate 4 (try ((with_reducible refine Qi ?_)))
  obtain ⟨I,hI⟩:∃ I:Nat→AS→Prop,I=fun m' s=>m'=0∧s.tm 0 = .v (.string (mkB l))∧s.tm 6 = .i 0∧s.h=h++[.grow 60 3 0]:=⟨_,rfl⟩;refine QZ I ?_ (m:=0) ?_
  ·intro m' s hs;rw [hI] at hs;obtain ⟨tm,hp⟩:=s;dsimp only at hs;obtain ⟨rfl,t0,t6,rfl⟩:=hs
   repeat (first|((first|(with_reducible (first|refine Qa fun K E hK hE=>?_|refine FunW.ret (FunW.call (cn _)) ?_)));simp -implicitDefEqProofs only [Qc,Qd,OpW,QC,aop,undef,AS.ev,AV.QqF,↓reduceIte,Qy,Qm,aBin,QR,ti60,zi60,t0,t6,zTok,e2,seval])|(with_reducible (first|refine Qg fun K hK=>?_|refine Qi ?_|refine Qn ?_|refine Qu ?_|refine Qz ?_))|((with_reducible refine hK _ ?_);clear hK)|(refine Qh rfl ?_;simp only [↓reduceIte]))
   simp -implicitDefEqProofs only [Ya,↓reduceIte,Nat.reduceEqDiff,Qrr,Qru,Qrv,List.mapM_cons,List.mapM_nil,Option.pure_def,Option.bind_eq_bind,QG,Qp,Qt,Qrz]
   exact Ql (htake _ _) (.keep (QhH _ (.inr (0,6)))) ⟨rfl,rfl⟩
  ·rw [hI]
   exact ⟨rfl,rfl,rfl,rfl⟩
 ·have hl2:l.length≤16384:=by omega
  rw [XK,if_neg hl]
  generalize hR:Yp l.length (l.length+1) l=R
  refine Qe Tryd.func58 rfl Tryd.call58 Tryd.ntmps58 (congrArg Array.toList Tryd.results58) (by simp) ?_
  iterate 6 (try (first|(((with_reducible refine Qa fun K E hK hE=>?_));simp -implicitDefEqProofs only [Qc,Qd,OpW,aop,AS.ev,Nat.reduceLT])|((with_reducible refine hK _ ?_);clear hK)))
  refine Qac 5 60 3 rfl ?_
  iterate 4 (try ((with_reducible refine Qi ?_)))
  obtain ⟨I,hI⟩:∃ I:Nat→AS→Prop,I=fun m' s=>∃ (ts:List Tk) (k:Nat) (G:AH),m'=l.length - k∧k≤l.length∧ts.length≤k∧(∃ m,l.length - k<m∧scJ ts (Yp l.length m (l.drop k))=R)∧s.tm 0 = .v (.string (mkB l))∧s.tm 5 = .sl 3 (tks ts) (some h.length)∧s.tm 6 = .i k∧s.h=h++(.grow 60 3 ts.length::G):=⟨_,rfl⟩;refine QZ I ?_ (m:=l.length) ?_
  ·intro m' s hs;rw [hI] at hs;obtain ⟨tm,hp⟩:=s;dsimp only at hs;obtain ⟨ts,k,G,rfl,hk,htl,⟨m,hm,hR2⟩,t0,t5,t6,rfl⟩:=hs
   have hm1:m=m - 1+1:=by omega
   rw [hm1,Yp] at hR2
   have cn:=fun L=>QnW l hl2 k (h++L) hk (hG.app L)
   obtain ⟨j,j1,j2⟩:=QgW (l.drop k)
   have hsl:(Q8 false (l.drop k)).length≤l.length - k:=by rw [j2,List.length_drop,List.length_drop];omega
   have e1:Q8 false (l.drop k)=l.drop (l.length - (Q8 false (l.drop k)).length):=by
    rw [List.length_drop] at j1
    rw [j2,List.drop_drop,List.length_drop]
    congr 1;omega
   rw [QiJ] at cn
   have x1:∀ (Y:AH),(G++Y)[G.length]? = Y[0]? := fun Y=>ZZ _ _
   have x2:∀ (Y:AH) k,(G++Y)[G.length+k]? = Y[k]? := fun Y k=>hget _ _ _
   have x3:∀ (Y:AH) y,(G++Y).set G.length y=G++Y.set 0 y:=fun Y y=>QbX _ _ _
   have ev:(tks ts).length=ts.length:=Qbp _
   cases ht:Y8 (Q8 false (l.drop k)) with
   |inr e =>
    rw [ht] at hR2 cn
    have hR3:Sum.inr (((l.length - (Q8 false (l.drop k)).length:Nat):Int),e)=R:=hR2
    subst hR3
    have he:(e != 0)=true:=by
     have:=Qja ht
     simpa using this
    repeat (first|((first|(with_reducible (first|refine Qa fun K E hK hE=>?_|refine FunW.ret (FunW.call (cn _)) ?_)));simp -implicitDefEqProofs only [Qc,Qd,OpW,QC,aop,undef,AS.ev,AV.QqF,↓reduceIte,Qy,Qm,aBin,QR,ti60,zi60,t0,t6,rdT,zTok,he,seval])|(with_reducible (first|refine Qg fun K hK=>?_|refine Qi ?_|refine Qn ?_|refine Qu ?_|refine Qz ?_))|((with_reducible refine hK _ ?_);clear hK)|(refine Qh rfl ?_;simp only [↓reduceIte]))
    simp -implicitDefEqProofs only [Ya,↓reduceIte,Nat.reduceEqDiff,Qrr,Qru,Qrv,List.mapM_cons,List.mapM_nil,Option.pure_def,Option.bind_eq_bind,QG,Qp,Qt,Qrz]
    exact Ql (htake _ _) (.keep (QhH _ (.inr (_,e)))) ⟨rfl,rfl⟩
   |inl p =>
    obtain ⟨kd,x⟩:=p
    rw [ht] at hR2 cn
    have hm2:(ts.length+1) * 32≤140737488355328:=by omega
    have hm3:ts.length+1≤maxLen:=by simp only [maxLen];omega
    have e0:((0:Int) != 0)=false:=rfl
    rcases QbW ht with ⟨k0,hx1,hx2⟩|⟨k0,hx1,r,hx2⟩
    ·subst k0
     subst hx2
     have hR3:Sum.inl (ts++[⟨0,((l.length - (Q8 false (l.drop k)).length:Nat):Int),eB⟩])=R:=hR2
     subst hR3
     have z1:((0:Int)==0)=true:=rfl
     generalize l.length - (Q8 false (l.drop k)).length=i at *
     have evs:tks (ts++[⟨0,((i:Nat):Int),eB⟩])=tks ts++[.agg [.i 0,.i i,.v (.string (mkB []))]]:=by rw [tks,List.map_append];rfl
     repeat (first|((first|(with_reducible (first|refine Qa fun K E hK hE=>?_|refine FunW.ret (FunW.call (cn _)) ?_)));simp -implicitDefEqProofs only [Qc,Qd,OpW,QC,aop,undef,AS.ev,AV.QqF,↓reduceIte,Qf,Qw,Qv,Qy,Qm,aBin,QR,QD,Xy,Yd,ti3,ei37,ai37,ti60,QM,zi60,t0,t5,t6,rdT,tkv,x1,x3,ev,hm2,hm3,List.append_assoc,seval])|(with_reducible (first|refine Qg fun K hK=>?_|refine Qi ?_|refine Qn ?_|refine Qk ?_|refine Qb ?_|refine Qu ?_|refine Qz ?_))|((with_reducible refine hK _ ?_);clear hK)|(refine Qh rfl ?_;simp only [↓reduceIte,Qrt]))
     simp -implicitDefEqProofs only [Ya,↓reduceIte,Nat.reduceEqDiff,Qrr,Qru,Qrv,List.mapM_cons,List.mapM_nil,Option.pure_def,Option.bind_eq_bind,QG,Qp,Qt,Qrz]
     refine Ql (htake _ _) (r':=.tup [.sl 3 (tks ts++[.agg [.i 0,.i i,.v (.string (mkB []))]]) none,.i 0,.i 0]) (Frz.tup rfl fun j a a' h1 h2=>?_) ⟨by rw [scR,evs],rfl⟩
     match j,h1,h2 with
     |0,h1,h2=>cases h1;cases h2;exact .tok (by rw [← evs];exact Qb4 _ _)
     |1,h1,h2=>cases h1;cases h2;exact .keep (.v _)
     |2,h1,h2=>cases h1;cases h2;exact .keep (.v _)
     |j+3,h1,h2=>simp at h1
    ·have hR3:scJ (ts++[⟨kd,((l.length - (Q8 false (l.drop k)).length:Nat):Int),mkB x⟩]) (Yp l.length (m - 1) ((Q8 false (l.drop k)).drop x.length))=R:=by
      rw [← hR2]
      show _=scJ ts (if kd=0 then _ else match Yp l.length (m - 1) ((Q8 false (l.drop k)).drop x.length) with | .inl ts=>_ | .inr e=>_)
      rw [if_neg k0]
      cases Yp l.length (m - 1) ((Q8 false (l.drop k)).drop x.length) with
      |inl us=>simp [scJ]
      |inr e=>rfl
     have hxl:0<x.length:=List.length_pos_iff.2 hx1
     have hxr:x.length≤(Q8 false (l.drop k)).length:=by rw [hx2,List.length_append];omega
     have e9:(Q8 false (l.drop k)).drop x.length=l.drop (l.length - (Q8 false (l.drop k)).length+x.length):=by
      conv=>lhs;rw [e1]
      rw [List.drop_drop]
     rw [e9] at hR3
     generalize (Q8 false (l.drop k)).length=u at *
     have z1:(kd==0)=false:=by simpa using k0
     have evs:tks (ts++[⟨kd,((l.length - u:Nat):Int),mkB x⟩])=tks ts++[.agg [.i kd,.i ((l.length - u:Nat):Int),.v (.string (mkB x))]]:=by rw [tks,List.map_append];rfl
     repeat (first|((first|(with_reducible (first|refine Qa fun K E hK hE=>?_|refine Qj fun K E hK hE=>?_|refine FunW.ret (FunW.call (cn _)) ?_)));simp -implicitDefEqProofs only [Qc,Qd,OpW,QC,aop,undef,AS.ev,AV.QqF,↓reduceIte,Qf,Qw,Qv,Qy,Qm,aBin,QR,QD,Xy,Yd,ti3,ei37,ai37,ti60,QM,zi60,t0,t5,t6,rdT,tkv,z1,x1,x3,ev,hm2,hm3,List.append_assoc,seval])|(with_reducible (first|refine Qg fun K hK=>?_|refine Qi ?_|refine Qk ?_|refine Qb ?_|refine Qo ?_))|((with_reducible refine hK _ ?_);clear hK)|(refine Qh rfl ?_;simp only [↓reduceIte,Qrt]))
     refine Xw.mk (m':=l.length - (l.length - u+x.length)) (by omega) ?_
     rw [hI]
     refine ⟨ts++[⟨kd,((l.length - u:Nat):Int),mkB x⟩],l.length - u+x.length,G++[.cells 60 3 [tkv kd ((l.length - u:Nat):Int) x]],rfl,by omega,by simp;omega,⟨m - 1,by omega,hR3⟩,t0,?_,rfl,?_⟩
     ·rw [evs];rfl
     ·rw [List.length_append];rfl
  ·rw [hI]
   exact ⟨[],0,[],rfl,Nat.zero_le _,Nat.le_refl _,⟨l.length+1,by omega,by rw [← hR];cases h0:Yp l.length (l.length+1) l <;> simp [scJ,h0]⟩,rfl,rfl,rfl,rfl⟩
structure OneTk (tot:Nat) (t:Tk):Prop where
 int:t.kind=3→(∀ c∈t.text.toList,isD c=true)∧numVal t.text.toList≤2147483648
 pos:0≤t.pos∧t.pos≤tot
 nam:t.kind=1→opB t.text=false
theorem Qm3 {x:ByteArray} (h:opB x=true):∃ c,x.toList=[c]∧isL c=false:=by
 rcases Qgw.1 h with h|h
 ·simp only [Yt,List.mem_cons,List.not_mem_nil,or_false] at h
  rcases h with h|h|h <;> exact ⟨_,h,by decide⟩
 ·simp only [ZQ,List.mem_cons,List.not_mem_nil,or_false] at h
  rcases h with h|h <;> exact ⟨_,h,by decide⟩
theorem QoU {q x:List UInt8} {k:Int} (h:Y8 q = .inl (k,x)):(k=3→(∀ c∈x,isD c=true)∧numVal x≤2147483648)∧(k=1→opB (mkB x)=false):=by
 cases q with
 |nil=>cases h;exact ⟨fun e=>absurd e (by decide),fun e=>absurd e (by decide)⟩
 |cons c r =>
  rw [Y8] at h
  split at h
  ·rename_i hL
   split at h
   ·cases h
   ·cases h
    refine ⟨fun e=>by split at e <;> exact absurd e (by decide),fun _=>?_⟩
    cases ho:opB (mkB ((c::r).takeWhile isW)) with
    |false=>rfl
    |true =>
     obtain ⟨d,h1,h2⟩:=Qm3 ho
     have hw:isW c=true:=by unfold isW;rw [hL];rfl
     rw [QeC,List.takeWhile_cons,if_pos hw,List.cons.injEq] at h1
     rw [h1.1] at hL
     rw [hL] at h2;cases h2
  ·split at h
   ·split at h
    ·cases h
    ·rename_i hb
     cases h
     exact ⟨fun _=>⟨fun d hd=>List.all_eq_true.1 List.all_takeWhile d hd,by omega⟩,fun e=>absurd e (by decide)⟩
   ·split at h
    ·cases h;exact ⟨fun e=>absurd e (by decide),fun e=>absurd e (by decide)⟩
    ·cases h
theorem QjN (tot:Nat):∀ (m:Nat) (q:List UInt8) (ts:List Tk),Yp tot m q = .inl ts→q.length<m→(∀ t∈ts,OneTk tot t)∧(∃ a e,ts=a++[e]∧e.kind=0∧∀ t∈a,t.kind≠0)∧ts.length≤q.length+1
 |0,_,_,_,h=>by omega
 |m+1,q,ts,h,hm=>by
  rw [Yp] at h
  have hsk:=Qae false q
  cases ht:Y8 (Q8 false q) with
  |inr e=>rw [ht] at h;cases h
  |inl p =>
   obtain ⟨k,x⟩:=p
   rw [ht] at h
   simp only at h
   obtain ⟨h1,h2⟩:=QoU ht
   split at h
   ·rename_i k0
    cases h
    refine ⟨fun t hm=>?_,⟨[],_,rfl,rfl,fun t h=>(List.not_mem_nil h).elim⟩,by simp⟩
    rw [List.mem_singleton] at hm
    subst hm
    exact ⟨fun e=>absurd (show (0:Int)=3 from e) (by decide),⟨by show (0:Int)≤((tot - _:Nat):Int);omega,by show ((tot - _:Nat):Int)≤_;omega⟩,fun e=>absurd (show (0:Int)=1 from e) (by decide)⟩
   ·rename_i k0
    rcases QbW ht with ⟨k1,_,_⟩|⟨k1,hx1,r,hx2⟩
    ·exact absurd k1 k0
    ·have hxl:0<x.length:=List.length_pos_iff.2 hx1
     have hxr:x.length≤(Q8 false q).length:=by rw [hx2,List.length_append];omega
     cases hs:Yp tot m ((Q8 false q).drop x.length) with
     |inr e=>rw [hs] at h;cases h
     |inl us =>
      rw [hs] at h
      cases h
      obtain ⟨a1,⟨a,e,a2,a3,a4⟩,a5⟩:=QjN tot m _ us hs (by rw [List.length_drop];omega)
      rw [List.length_drop] at a5
      refine ⟨fun t hm=>?_,⟨⟨k,_,mkB x⟩::a,e,by rw [a2];rfl,a3,fun t hm=>?_⟩,by simp only [QrC];omega⟩
      ·rw [List.mem_cons] at hm
       rcases hm with rfl|hm
       ·exact ⟨fun e=>by rw [QeC];exact h1 e,⟨by show (0:Int)≤((tot - _:Nat):Int);omega,by show ((tot - _:Nat):Int)≤_;omega⟩,h2⟩
       ·exact a1 t hm
      ·rw [List.mem_cons] at hm
       rcases hm with rfl|hm
       ·exact k1
       ·exact a4 t hm
theorem QaF {l:List UInt8} {ts:List Tk} (h:XK l = .inl ts):TkOk ts∧Wst ts ⟨ts,[]⟩∧ts.length≤1000000∧l.length≤16384:=by
 rw [XK] at h
 split at h
 ·cases h
 ·rename_i hl
  obtain ⟨h1,⟨a,e,h2,h3,h4⟩,h5⟩:=QjN l.length (l.length+1) l ts h (by omega)
  exact ⟨⟨fun t ht=>(h1 t ht).int,fun t ht=>⟨(h1 t ht).pos.1,by have:=(h1 t ht).pos.2;omega⟩,fun t ht=>(h1 t ht).nam⟩,⟨⟨a,e,h2,h3,h4⟩,List.suffix_refl _,by simp⟩,by omega,by omega⟩
end Go.Proofs.YticgcpebdldbgaaDoor.Ab
set_option maxRecDepth 4000
namespace Go.Proofs.YticgcpebdldbgaaDoor.Ab
open Go.Proofs
theorem Qha (tot:Nat):∀ (m:Nat) (q:List UInt8) (p:Int×Int),Yp tot m q = .inr p→p.2≠0
 |0,_,_,h=>by cases h
 |m+1,q,p,h=>by
  rw [Yp] at h
  cases ht:Y8 (Q8 false q) with
  |inr e=>rw [ht] at h;cases h;exact Qja ht
  |inl y =>
   obtain ⟨k,x⟩:=y
   rw [ht] at h
   simp only at h
   split at h
   ·cases h
   ·cases hs:Yp tot m ((Q8 false q).drop x.length) with
    |inr e=>rw [hs] at h;cases h;exact Qha tot m _ _ hs
    |inl us=>rw [hs] at h;cases h
theorem Zh {l:List UInt8} {p:Int×Int} (h:XK l = .inr p):p.2≠0:=by
 rw [XK] at h
 split at h
 ·cases h;decide
 ·exact Qha _ _ _ _ h
theorem Qhd {l:List UInt8} {ts:List Tk} (hs:XK l = .inl ts) (h:AH) (hG:Zw h):QI Tryd.prog 32 [.v (.string (mkB l))] h fun o h'=>o = .ret (.agg [.sl 3 (tks ts) none,.i 0])∧h'=h:=by
 have cs:=fun L=>QhC l (h++L) (hG.app L)
 rw [hs,scR] at cs
 have e0:((0:Int) != 0)=false:=rfl
 refine Qe Tryd.func32 rfl Tryd.call32 Tryd.ntmps32 (congrArg Array.toList Tryd.results32) (by simp) ?_
 repeat (first|((first|(with_reducible (first|refine Qa fun K E hK hE=>?_|refine FunW.ret (FunW.call (cs _)) ?_)));simp -implicitDefEqProofs only [Qc,Qd,OpW,QC,aop,undef,AS.ev,Qs,AV.QqF,↓reduceIte,Qy,Qm,aBin,QR,Xc,Xq,ti63,zi63,sp63,seval])|(with_reducible (first|refine Qg fun K hK=>?_|refine Qn ?_|refine Qk ?_|refine Qb ?_))|((with_reducible refine hK _ ?_);clear hK)|(refine Qh rfl ?_;simp only [↓reduceIte,Qrt]))
 simp -implicitDefEqProofs only [Qc,↓reduceIte,ti63,Qw,Qv,QG,Qp,Qt,Qrz,seval]
 refine Ql (htake _ _) (.keep (.agg _ fun a ha=>?_)) ⟨rfl,rfl⟩
 simp only [List.mem_cons,List.not_mem_nil,or_false] at ha
 rcases ha with rfl|rfl
 ·exact .sl 3 _ none (Qb4 _ _) (fun b hb=>by cases hb)
 ·exact .v _
theorem Qkd {l:List UInt8} {p e:Int} (hs:XK l = .inr (p,e)) (h:AH) (hG:Zw h):QI Tryd.prog 32 [.v (.string (mkB l))] h fun o h'=>o = .panic (Fl p e)∧h'=h:=by
 have cs:=fun L=>QhC l (h++L) (hG.app L)
 rw [hs,scR] at cs
 have e0:(e != 0)=true:=by simpa using Zh hs
 have hu:=Tryd.underlying87
 refine Qe Tryd.func32 rfl Tryd.call32 Tryd.ntmps32 (congrArg Array.toList Tryd.results32) (by simp) ?_
 repeat (first|((first|(with_reducible (first|refine Qa fun K E hK hE=>?_|refine Qj fun K E hK hE=>?_|refine FunW.ret (FunW.call (cs _)) ?_)));simp -implicitDefEqProofs only [Qc,Qd,OpW,QC,aop,undef,AS.ev,Qs,AV.QqF,↓reduceIte,aBin,QR,Xc,Xq,zi63,zi87,sp87,e0,hu,seval])|(with_reducible refine Qg fun K hK=>?_)|((with_reducible refine hK _ ?_);clear hK)|(refine Qh rfl ?_;simp only [↓reduceIte])|(with_reducible (first|refine hE _ _ ?_|refine QK ?_)))
 exact Ql (htake _ _) (.keep (Qbr _ _ _)) ⟨rfl,rfl⟩
def P0 (h:AH) (ts:List Tk):Pz:=⟨ts,h.length+2,h.length+4,h.length+3⟩
def hp0 (h:AH) (ts:List Tk):AH:=ph (h++[iC 0,eC 0,.cells 66 4 [.agg [.sl 3 (tks ts) none,.i 0,.v (.slice none 0 0),.v (.map none)]]]++[.dead,.dead]) (P0 h ts) ⟨ts,[]⟩
theorem Qpb (h:AH) (ts:List Tk) (x:AB):(P0 h ts).ok (h++[iC 0,eC 0,x]++[.dead,.dead]):=by
 refine ⟨?_,?_,?_,?_,?_,?_⟩ <;> simp only [P0,Qsg,QrC,QrD] <;> omega
theorem Qog (h:AH) (ts:List Tk):QI Tryd.prog 33 [.ptr (h.length+2) 0 0] (h++[iC 0,eC 0,.cells 66 4 [.agg [.sl 3 (tks ts) none,.i 0,.v (.slice none 0 0),.v (.map none)]]]) fun o h'=>o = .ret (.tup [])∧h'=hp0 h ts:=by
 have:=Qiy (X:=h++[iC 0,eC 0,.cells 66 4 [.agg [.sl 3 (tks ts) none,.i 0,.v (.slice none 0 0),.v (.map none)]]]) (P:=P0 h ts) (s:=⟨ts,[]⟩) (by
  show (h++_)[h.length+2]? = _
  rw [hget]
  simp only [P0,Nat.sub_self];rfl) (by simp [P0])
 refine this.mono ?_
 rintro o h' ⟨rfl,rfl⟩
 refine ⟨rfl,?_⟩
 rw [hp0]
 congr 1
 simp [P0,Pz.to]
theorem panQ {P:Program} {rs:List ResultVar} {h H:AH} {Q:AOut→AH→Prop} {tm:Nat→AV} {p e a0 e0:Int} {k:Nat} (hP:P=Tryd.prog) (hk:H[k]? = some (iC a0)) (hk1:H[k+1]? = some (eC e0)) (hq:∀ L,QG P rs h Q .ret ⟨tm,(H.set k (iC p)).set (k+1) (eC e)++L⟩) :
  Qgy P rs h Q [(31,[.ptr k 0 0,.ptr (k+1) 0 0])] (.pan (Fl p e) false) ⟨tm,H⟩:=by
 subst hP
 simp only [Qgy]
 refine QaX.mono (Qlr hk hk1 p e) ?_
 rintro m' h' ⟨rfl,L,rfl⟩
 exact hq L
theorem rtQ {P:Program} {rs:List ResultVar} {h H:AH} {Q:AOut→AH→Prop} {tm:Nat→AV} {k:Nat} (hP:P=Tryd.prog) (hq:QG P rs h Q .ret ⟨tm,H⟩) :
  Qgy P rs h Q [(31,[.ptr k 0 0,.ptr (k+1) 0 0])] .ret ⟨tm,H⟩:=by
 subst hP
 simp only [Qgy]
 refine QaX.mono QkX ?_
 rintro m' h' ⟨rfl,rfl⟩
 exact hq
theorem Qkk (n:Nat) (a b:Int):Below n (.tup [.i a,.i b]):=.tup _ fun x hx=>by
 simp only [List.mem_cons,List.not_mem_nil,or_false] at hx
 rcases hx with rfl|rfl <;> exact .v _
theorem QdX {l:List UInt8} {p e:Int} (hs:XK l = .inr (p,e)) (fv:AV) (h:AH) (hG:Zw h):QI Tryd.prog 15 [.v (.string (mkB l)),fv] h fun o h'=>o = .ret (.tup [.i p,.i e])∧h'=h:=by
 have cs:=fun L=>Qkd hs (h++L) (hG.app L)
 refine Qao Tryd.func15 rfl Tryd.call15 Tryd.ntmps15 (congrArg Array.toList Tryd.results15) (by simp) ?_
 refine YY (YH ?_)
 repeat (first|(((with_reducible refine Qj fun K E hK hE=>?_));simp -implicitDefEqProofs only [Qc,Qd,OpW,aop,AV.QqF,↓reduceIte,Nat.reduceLT,zi3,zi27])|((with_reducible refine hK _ ?_);clear hK))
 show DefW _ _ _ _ _ _
 refine YY (QbT 1 rfl rfl rfl ?_)
 simp -implicitDefEqProofs only [Qc,Qd,OpW,aop,undef,AS.ev,↓reduceIte,seval]
 refine ⟨_,_,_,rfl,?_⟩
 show DefW _ _ _ _ _ _
 refine YY (YH ?_)
 repeat (first|((first|(with_reducible (first|refine Qj fun K E hK hE=>?_|refine FunW.pan (FunW.call (cs _)) ?_)));simp -implicitDefEqProofs only [Qc,Qd,OpW,QC,aop,undef,AS.ev,Qs,↓reduceIte,seval])|(with_reducible refine hE _ _ ?_))
 simp only [AExit.Qri,QmB]
 refine panQ (a0:=0) (e0:=0) rfl (by rw [ZZ];rfl) (by rw [hget];rfl) fun L=>?_
 rw [QbX,hset]
 simp -implicitDefEqProofs only [Qc,↓reduceIte,Nat.reduceEqDiff,ti3,ti27,List.mapM_cons,List.mapM_nil,Option.pure_def,Option.bind_eq_bind,Qw,Qv,List.append_assoc,QG,Qp,Qt,Qrz]
 exact Ql (htake _ _) (.keep (Qkk _ _ _)) ⟨rfl,rfl⟩
section
variable {l:List UInt8} {ts:List Tk} (hs:XK l = .inl ts) (fv:AV) (h:AH) (hG:Zw h) (Ok:AH→Prop) (hOk:∀ Y a b L,h.length+1<Y.length→Ok Y→Ok ((Y.set h.length a).set (h.length+1) b++L))
include hs hG hOk
theorem QiQ (HF:FunW Tryd.prog fv [.ptr (h.length+2) 0 0] (hp0 h ts) fun o h'=>o = .ret (.tup [])∧∃ Y:{Y:AH // Y[h.length]? = some (iC 0)∧Y[h.length+1]? = some (eC 0)∧Ok Y},h'=Y.1) :
  QI Tryd.prog 15 [.v (.string (mkB l)),fv] h fun o h'=>o = .ret (.tup [.i 0,.i 0])∧∃ Y:{Y:AH // Ok Y},h'=Y.1:=by
 have cs:=fun L=>Qhd hs (h++L) (hG.app L)
 have cc:=Qog h ts
 refine Qao Tryd.func15 rfl Tryd.call15 Tryd.ntmps15 (congrArg Array.toList Tryd.results15) (by simp) ?_
 refine YY (YH ?_)
 repeat (first|(((with_reducible refine Qj fun K E hK hE=>?_));simp -implicitDefEqProofs only [Qc,Qd,OpW,aop,AV.QqF,↓reduceIte,Nat.reduceLT,zi3,zi27])|((with_reducible refine hK _ ?_);clear hK))
 show DefW _ _ _ _ _ _
 refine YY (QbT 1 rfl rfl rfl ?_)
 simp -implicitDefEqProofs only [Qc,Qd,OpW,aop,undef,AS.ev,↓reduceIte,seval]
 refine ⟨_,_,_,rfl,?_⟩
 show DefW _ _ _ _ _ _
 refine YY (YH ?_)
 repeat (first|((first|(with_reducible (first|refine Qj fun K E hK hE=>?_|refine FunW.ret (FunW.call (cs _)) ?_)));simp -implicitDefEqProofs only [Qc,Qd,OpW,QC,aop,undef,AS.ev,Qs,AV.QqF,↓reduceIte,Xc,Xq,zi66,sp66,seval])|((with_reducible refine hK _ ?_);clear hK))
 show DefW _ _ _ _ _ _
 refine YY (YH ?_)
 repeat (first|((first|(with_reducible (first|refine Qj fun K E hK hE=>?_|refine FunW.ret (FunW.call cc) ?_)));simp -implicitDefEqProofs only [Qc,Qd,OpW,QC,aop,AS.ev,↓reduceIte,Nat.reduceLT])|((with_reducible refine hK _ ?_);clear hK))
 show DefW _ _ _ _ _ _
 refine YY (YH ?_)
 repeat (first|((first|(with_reducible (first|refine Qj fun K E hK hE=>?_|refine FunW.retE HF fun Y=>?_)));simp -implicitDefEqProofs only [Qc,Qd,OpW,QC,aop,undef,AS.ev,Qs,↓reduceIte,seval])|((with_reducible refine hK _ ?_);clear hK))
 have hY:=Y.2
 generalize Y.1=Y1 at *
 obtain ⟨y1,y2,y3⟩:=hY
 have l1:=Qr y1
 have l2:=Qr y2
 repeat ((((with_reducible refine Qa fun K E hK hE=>?_));simp -implicitDefEqProofs only [Qc,Qd,OpW,QC,aop,undef,XF,AS.ev,Qs,AV.QqF,↓reduceIte,Qy,Qm,aBin,Xc,Xq,goInt,ti0,zi0,ti1,zi1,ti3,zi3,un3,ti9,ei9,zi9,un9,ti27,zi27,un27,ti57,zi57,un57,ti63,Qg2,Qfo,zi63,sp63,ti66,QF,YP,YT,zi66,sp66,ti69,zi69,Qsc,Int.sub_zero,Zm,Qq,seval]))
 show DefW _ _ _ _ _ _
 refine YH ?_
 have u1:∀ y,(Y1.set h.length y)[h.length+1]? = some (eC 0):=fun y=>by rw [List.getElem?_set_ne (by omega)];exact y2
 have u2:∀ y z,((Y1.set h.length y).set (h.length+1) z)[h.length]? = some y:=fun y z=>by rw [List.getElem?_set_ne (by omega),List.getElem?_set_self l1]
 have u3:∀ y z,((Y1.set h.length y).set (h.length+1) z)[h.length+1]? = some z:=fun y z=>List.getElem?_set_self (by rw [List.length_set];exact l2)
 repeat (first|(((with_reducible refine Qa fun K E hK hE=>?_));simp -implicitDefEqProofs only [Qc,Qd,OpW,aop,undef,AS.ev,AV.QqF,↓reduceIte,Nat.reduceEqDiff,Qy,Qm,ti3,ti27,y1,u1])|(with_reducible refine Qn ?_)|((with_reducible refine hK _ ?_);clear hK))
 simp only [QmB]
 refine rtQ rfl ?_
 simp -implicitDefEqProofs only [Qc,↓reduceIte,Nat.reduceEqDiff,ti3,ti27,List.mapM_cons,List.mapM_nil,Option.pure_def,Option.bind_eq_bind,Qw,Qv,u2,u3,QG,Qp,Qt,Qrz]
 have:=hOk Y1 (iC 0) (eC 0) [] l2 y3
 rw [List.append_nil] at this
 exact .inr ⟨rfl,⟨_,this⟩,rfl⟩
theorem Qf6 {p e:Int} (HF:FunW Tryd.prog fv [.ptr (h.length+2) 0 0] (hp0 h ts) fun o h'=>o = .panic (Fl p e)∧∃ Y:{Y:AH // Y[h.length]? = some (iC 0)∧Y[h.length+1]? = some (eC 0)∧Ok Y},h'=Y.1) :
  QI Tryd.prog 15 [.v (.string (mkB l)),fv] h fun o h'=>o = .ret (.tup [.i p,.i e])∧∃ Y:{Y:AH // Ok Y},h'=Y.1:=by
 have cs:=fun L=>Qhd hs (h++L) (hG.app L)
 have cc:=Qog h ts
 refine Qao Tryd.func15 rfl Tryd.call15 Tryd.ntmps15 (congrArg Array.toList Tryd.results15) (by simp) ?_
 refine YY (YH ?_)
 repeat (first|(((with_reducible refine Qj fun K E hK hE=>?_));simp -implicitDefEqProofs only [Qc,Qd,OpW,aop,AV.QqF,↓reduceIte,Nat.reduceLT,zi3,zi27])|((with_reducible refine hK _ ?_);clear hK))
 show DefW _ _ _ _ _ _
 refine YY (QbT 1 rfl rfl rfl ?_)
 simp -implicitDefEqProofs only [Qc,Qd,OpW,aop,undef,AS.ev,↓reduceIte,seval]
 refine ⟨_,_,_,rfl,?_⟩
 show DefW _ _ _ _ _ _
 refine YY (YH ?_)
 repeat (first|((first|(with_reducible (first|refine Qj fun K E hK hE=>?_|refine FunW.ret (FunW.call (cs _)) ?_)));simp -implicitDefEqProofs only [Qc,Qd,OpW,QC,aop,undef,AS.ev,Qs,AV.QqF,↓reduceIte,Xc,Xq,zi66,sp66,seval])|((with_reducible refine hK _ ?_);clear hK))
 show DefW _ _ _ _ _ _
 refine YY (YH ?_)
 repeat (first|((first|(with_reducible (first|refine Qj fun K E hK hE=>?_|refine FunW.ret (FunW.call cc) ?_)));simp -implicitDefEqProofs only [Qc,Qd,OpW,QC,aop,AS.ev,↓reduceIte,Nat.reduceLT])|((with_reducible refine hK _ ?_);clear hK))
 show DefW _ _ _ _ _ _
 refine YY (YH ?_)
 repeat (first|((first|(with_reducible (first|refine Qj fun K E hK hE=>?_|refine FunW.panE HF fun Y=>?_)));simp -implicitDefEqProofs only [Qc,Qd,OpW,QC,aop,undef,AS.ev,Qs,↓reduceIte,seval])|(with_reducible refine hE _ _ ?_))
 have hY:=Y.2
 generalize Y.1=Y1 at *
 obtain ⟨y1,y2,y3⟩:=hY
 have l1:=Qr y1
 have l2:=Qr y2
 simp only [AExit.Qri,QmB]
 refine panQ rfl y1 y2 fun L=>?_
 have u2:∀ y z,((Y1.set h.length y).set (h.length+1) z++L)[h.length]? = some y:=fun y z=>by rw [List.getElem?_append_left (by simp only [List.length_set];exact l1),List.getElem?_set_ne (by omega),List.getElem?_set_self l1]
 have u3:∀ y z,((Y1.set h.length y).set (h.length+1) z++L)[h.length+1]? = some z:=fun y z=>by rw [List.getElem?_append_left (by simp only [List.length_set];exact l2)];exact List.getElem?_set_self (by rw [List.length_set];exact l2)
 simp -implicitDefEqProofs only [Qc,↓reduceIte,Nat.reduceEqDiff,ti3,ti27,List.mapM_cons,List.mapM_nil,Option.pure_def,Option.bind_eq_bind,Qw,Qv,u2,u3,QG,Qp,Qt,Qrz]
 exact .inr ⟨rfl,⟨_,hOk Y1 (iC p) (eC e) L l2 y3⟩,rfl⟩
end
end Go.Proofs.YticgcpebdldbgaaDoor.Ab
set_option maxRecDepth 4000
namespace Go.Proofs.YticgcpebdldbgaaDoor.Ab
open Go.Proofs
theorem FunW.cl {P:Program} {f:FuncId} {args cap:List AV} {h:AH} {Q:AOut→AH→Prop} (H:QI P f (args++cap) h Q):FunW P (.fn (.func f) [] cap) args h Q:=FunW.fn (by rw [List.nil_append];exact H)
def psR:Pg ⊕ (Int×Int)→AV
 | .inl p=>.tup [p.av,.i 0,.i 0]
 | .inr e=>.tup [(⟨[],[]⟩:Pg).av,.i e.1,.i e.2]
theorem Qn3 (n:Nat) (p:Pg):Below n p.av:=.agg _ fun a ha=>by
 simp only [List.mem_cons,List.not_mem_nil,or_false] at ha
 rcases ha with rfl|rfl
 ·exact Qbu Dc.av n 2 (fun d=>Dc.bel n d) _
 ·exact Qbu Rl.av n 6 (fun r=>Rl.bel n r) _
theorem QmQ (n:Nat) (r:Pg ⊕ (Int×Int)):Below n (psR r):=by
 cases r with
 |inl p=>exact ZA (Qn3 n p) _ _
 |inr e=>exact ZA (Qn3 n _) _ _
theorem Qk2 {H:AH} {m:Nat} (p e:Int):Frz H m (.tup [.agg [.v (.slice none 0 0),.v (.slice none 0 0)],.i p,.i e]) (psR (.inr (p,e))):=by
 refine .tup rfl fun j a a' h1 h2=>?_
 match j,h1,h2 with
 |0,h1,h2 =>
  cases h1;cases h2
  refine .agg rfl fun j a a' h1 h2=>?_
  match j,h1,h2 with
  |0,h1,h2=>cases h1;cases h2;exact .nil 2
  |1,h1,h2=>cases h1;cases h2;exact .nil 6
  |j+2,h1,h2=>simp at h1
 |1,h1,h2=>cases h1;cases h2;exact .keep (.v _)
 |2,h1,h2=>cases h1;cases h2;exact .keep (.v _)
 |j+3,h1,h2=>simp at h1
abbrev rZ0:AB:=.cells 34 6 [.agg [.v (.string {data:=#[]}),nilV,nilV,nilV,nilV,.i 0]]
def rsR:Rl ⊕ (Int×Int)→AV
 | .inl r=>.tup [r.av,.i 0,.i 0]
 | .inr e=>.tup [(⟨eB,[],[],[],[],0⟩:Rl).av,.i e.1,.i e.2]
theorem Qoj (n:Nat) (r:Rl):Below n r.av:=.agg _ fun a ha=>Rl.bel n r a (by rw [Rl.cells];exact ha)
theorem Qlc (n:Nat) (r:Rl ⊕ (Int×Int)):Below n (rsR r):=by
 cases r with
 |inl p=>exact ZA (Qoj n p) _ _
 |inr e=>exact ZA (Qoj n _) _ _
theorem Qk5 {H:AH} {m:Nat} (p e:Int):Frz H m (.tup [.agg [.v (.string {data:=#[]}),nilV,nilV,nilV,nilV,.i 0],.i p,.i e]) (rsR (.inr (p,e))):=by
 refine .tup rfl fun j a a' h1 h2=>?_
 match j,h1,h2 with
 |0,h1,h2 =>
  cases h1;cases h2
  refine .agg rfl fun j a a' h1 h2=>?_
  match j,h1,h2 with
  |0,h1,h2=>cases h1;cases h2;exact .keep (.v _)
  |1,h1,h2=>cases h1;cases h2;exact .nil 2
  |2,h1,h2=>cases h1;cases h2;exact .nil 2
  |3,h1,h2=>cases h1;cases h2;exact .nil 3
  |4,h1,h2=>cases h1;cases h2;exact .nil 3
  |5,h1,h2=>cases h1;cases h2;exact .keep (.v _)
  |j+6,h1,h2=>simp at h1
 |1,h1,h2=>cases h1;cases h2;exact .keep (.v _)
 |2,h1,h2=>cases h1;cases h2;exact .keep (.v _)
 |j+3,h1,h2=>simp at h1
theorem QgL {all:List Tk} {s:PS} (hW:Wst all s) {p e:Int} (h:ZU s = .err p e):e≠0:=Kp.Ps.err (n:=wdOf all) (Kp.QqE trivial) hW h
theorem Qfp {all:List Tk} {s:PS} (hW:Wst all s) {p e:Int} (h:Qby s = .err p e):e≠0:=Kp.Ps.err (n:=wdOf all) (Kp.QlB trivial) hW h
section
variable (l:List UInt8) (h:AH) (hG:Zw h)
include hG
theorem QaG:QI Tryd.prog 7 [.v (.string (mkB l))] h fun o h'=>o = .ret (psR (ZR l))∧h'=h:=by
 rw [ZR]
 cases hs:XK l with
 |inr q =>
  obtain ⟨p,e⟩:=q
  have cr:=fun fv L=>QdX hs fv (h++L) (hG.app L)
  have e0:(e != 0)=true:=by simpa using Zh hs
  refine Qe Tryd.func7 rfl Tryd.call7 Tryd.ntmps7 (congrArg Array.toList Tryd.results7) (by simp) ?_
  repeat (first|((first|(with_reducible (first|refine Qa fun K E hK hE=>?_|refine FunW.ret (FunW.call (cr _ _)) ?_)));simp -implicitDefEqProofs only [Qc,Qd,OpW,QC,aop,undef,AS.ev,Qs,AV.QqF,↓reduceIte,Qy,Qm,aBin,QR,Xc,Xq,ti26,zi26,sp26,e0,seval])|(with_reducible (first|refine Qg fun K hK=>?_|refine Qn ?_|refine Qu ?_))|((with_reducible refine hK _ ?_);clear hK)|(refine Qh rfl ?_;simp only [↓reduceIte]))
  simp -implicitDefEqProofs only [Qc,↓reduceIte,Qw,Qv,ti26,List.mapM_cons,List.mapM_nil,Option.pure_def,Option.bind_eq_bind,Qw,Qv,QG,Qp,Qt,Qrz,seval]
  exact Ql (htake _ _) (Qk2 _ _) ⟨rfl,rfl⟩
 |inl ts =>
  obtain ⟨hD,hW,hN,hl⟩:=QaF hs
  obtain ⟨H,hH⟩:∃ H,H=h++[pgB nilV nilV,pgB nilV nilV]:=⟨_,rfl⟩
  have hHl:H.length=h.length+2:=by rw [hH];simp
  have hHG:Zw H:=by rw [hH];exact hG.app _
  have hPo:=Qpb H ts (.cells 66 4 [.agg [.sl 3 (tks ts) none,.i 0,.v (.slice none 0 0),.v (.map none)]])
  have hout:∀ i,i<h.length→(H++[iC 0,eC 0,.cells 66 4 [.agg [.sl 3 (tks ts) none,.i 0,.v (.slice none 0 0),.v (.map none)]]]++[.dead,.dead])[i]? = h[i]? := fun i hi=>by
   rw [List.append_assoc,List.getElem?_append_left (by omega),hH,List.getElem?_append_left hi]
  have hlen:(H++[iC 0,eC 0,.cells 66 4 [.agg [.sl 3 (tks ts) none,.i 0,.v (.slice none 0 0),.v (.map none)]]]++[AB.dead,.dead]).length=h.length+7:=by simp only [Qsg,QrC,QrD,hHl]
  have cf:=QkG (P:=P0 H ts) (s:=⟨ts,[]⟩) hW hPo hN hD (o:=h.length+1) (by omega) (by simp only [P0];omega) (by simp only [P0];omega) (by simp only [P0];omega)
   (by rw [List.append_assoc,List.getElem?_append_left (by omega),hH,hget];rfl)
  have hst:∀ (K:AH→Prop) (Y:AH) a b L,H.length+1<Y.length→(∀ i,i<h.length→Y[i]? = h[i]?)→∀ i,i<h.length→((Y.set H.length a).set (H.length+1) b++L)[i]? = h[i]? := fun K Y a b L hl hy i hi=>by
   rw [List.getElem?_append_left (by simp only [List.length_set];omega),List.getElem?_set_ne (by omega),List.getElem?_set_ne (by omega)];exact hy i hi
  have hc0:∀ Y,KpO (H++[iC 0,eC 0,.cells 66 4 [.agg [.sl 3 (tks ts) none,.i 0,.v (.slice none 0 0),.v (.map none)]]]++[AB.dead,.dead]) (P0 H ts) (h.length+1) Y→Y[H.length]? = some (iC 0)∧Y[H.length+1]? = some (eC 0)∧h.length+7≤Y.length∧(∀ i,i<h.length→Y[i]? = h[i]?)∧Y[h.length]? = some (pgB nilV nilV):=fun Y hY=>by
   refine ⟨?_,?_,by have:=hY.long;omega,fun i hi=>?_,?_⟩
   ·rw [hY.out H.length (by omega) (by omega) (by simp only [P0];omega) (by simp only [P0];omega) (by simp only [P0];omega),List.append_assoc,ZZ];rfl
   ·rw [hY.out (H.length+1) (by omega) (by omega) (by simp only [P0];omega) (by simp only [P0];omega) (by simp only [P0];omega),List.append_assoc,hget];rfl
   ·rw [hY.out i (by omega) (by omega) (by simp only [P0];omega) (by simp only [P0];omega) (by simp only [P0];omega)];exact hout i hi
   ·rw [hY.out h.length (by omega) (by omega) (by simp only [P0];omega) (by simp only [P0];omega) (by simp only [P0];omega),List.append_assoc,List.getElem?_append_left (by omega),hH,ZZ];rfl
  cases hp:Qby ⟨ts,[]⟩ with
  |err p e =>
   rw [hp] at cf
   have e0:(e != 0)=true:=by simpa using Qfp hW hp
   have cr:=Qf6 hs (.fn (.func 16) [] [.ptr (h.length+1) 0 0]) H hHG (fun Y=>h.length+2≤Y.length∧(∀ i,i<h.length→Y[i]? = h[i]?)∧Y[h.length]? = some (pgB nilV nilV))
    (fun Y a b L hl hy=>⟨by simp only [Qsg,List.length_set];omega,hst (fun _=>True) Y a b L hl hy.2.1,by rw [List.getElem?_append_left (by simp only [List.length_set];omega),List.getElem?_set_ne (by omega),List.getElem?_set_ne (by omega)];exact hy.2.2⟩) (p:=p) (e:=e)
    (FunW.cl (cf.mono fun o h' q=>by
     obtain ⟨q1,⟨Y,hY⟩,q2⟩:=q
     obtain ⟨y1,y2,y3,y4,y5⟩:=hc0 Y hY
     exact ⟨q1,⟨Y,y1,y2,by omega,y4,y5⟩,q2⟩))
   rw [hH] at cr
   refine Qe Tryd.func7 rfl Tryd.call7 Tryd.ntmps7 (congrArg Array.toList Tryd.results7) (by simp) ?_
   repeat (first|((first|(with_reducible (first|refine Qa fun K E hK hE=>?_|refine FunW.retE (FunW.call cr) fun Y=>?_)));simp -implicitDefEqProofs only [Qc,Qd,OpW,QC,aop,undef,XF,AS.ev,Qs,AV.QqF,↓reduceIte,Qy,Qm,aBin,QR,Xc,Xq,ti26,zi26,sp26,e0,Qsg,seval])|(with_reducible refine Qg fun K hK=>?_)|((with_reducible refine hK _ ?_);clear hK)|(refine Qh rfl ?_;simp only [↓reduceIte]))
   have hY:=Y.2
   generalize Y.1=Y1 at *
   obtain ⟨y0,y1,y2⟩:=hY
   have u1:∀ y,(Y1.set h.length y)[h.length]? = some y:=fun y=>List.getElem?_set_self (by omega)
   have ht:∀ y,(Y1.set h.length y).take h.length=h:=fun y=>List.ext_getElem? fun i=>by
    by_cases hi:i<h.length
    ·rw [List.getElem?_take_of_lt hi,List.getElem?_set_ne (by omega)];exact y1 i hi
    ·rw [List.getElem?_take_eq_none (by omega),List.getElem?_eq_none (by omega)]
   simp -implicitDefEqProofs only [Qc,↓reduceIte,Nat.reduceAdd,y2]
   repeat (first|(with_reducible (first|refine Qn ?_|refine Qu ?_))|((with_reducible refine hK _ ?_);clear hK))
   simp -implicitDefEqProofs only [Qc,↓reduceIte,Qw,Qv,ti26,List.mapM_cons,List.mapM_nil,Option.pure_def,Option.bind_eq_bind,Qw,Qv,u1,QG,Qp,Qt,Qrz,seval]
   exact Ql (ht _) (Qk2 _ _) ⟨by rw [hp],rfl⟩
  |ok pg s2 =>
   rw [hp] at cf
   have e0:((0:Int) != 0)=false:=rfl
   obtain ⟨D,hDe⟩:∃ D,D=pgB (.sl 2 (vs Dc.av pg.decls) none) (.sl 6 (vs Rl.av pg.rules) none):=⟨_,rfl⟩
   have cr:=QiQ hs (.fn (.func 16) [] [.ptr (h.length+1) 0 0]) H hHG (fun Y=>h.length+2≤Y.length∧(∀ i,i<h.length→Y[i]? = h[i]?)∧Y[h.length]? = some (pgB nilV nilV)∧Y[h.length+1]? = some D)
    (fun Y a b L hl hy=>⟨by simp only [Qsg,List.length_set];omega,hst (fun _=>True) Y a b L hl hy.2.1,by rw [List.getElem?_append_left (by simp only [List.length_set];omega),List.getElem?_set_ne (by omega),List.getElem?_set_ne (by omega)];exact hy.2.2.1,by rw [List.getElem?_append_left (by simp only [List.length_set];omega),List.getElem?_set_ne (by omega),List.getElem?_set_ne (by omega)];exact hy.2.2.2⟩)
    (FunW.cl (cf.mono fun o h' q=>by
     obtain ⟨q1,⟨Y,hY,hY2⟩,q2⟩:=q
     obtain ⟨y1,y2,y3,y4,y5⟩:=hc0 Y hY
     exact ⟨q1,⟨Y,y1,y2,by omega,y4,y5,by rw [hDe];exact hY2⟩,q2⟩))
   rw [hH] at cr
   refine Qe Tryd.func7 rfl Tryd.call7 Tryd.ntmps7 (congrArg Array.toList Tryd.results7) (by simp) ?_
   repeat (first|((first|(with_reducible (first|refine Qa fun K E hK hE=>?_|refine FunW.retE (FunW.call cr) fun Y=>?_)));simp -implicitDefEqProofs only [Qc,Qd,OpW,QC,aop,undef,XF,AS.ev,Qs,AV.QqF,↓reduceIte,Qw,Qv,Qy,Qm,aBin,QR,ti26,zi26,Qsg,seval])|(with_reducible (first|refine Qg fun K hK=>?_|refine Qk ?_|refine Qb ?_))|((with_reducible refine hK _ ?_);clear hK)|(refine Qh rfl ?_;simp only [↓reduceIte,Qrt]))
   have hY:=Y.2
   generalize Y.1=Y1 at *
   obtain ⟨y0,y1,y2,y3⟩:=hY
   rw [hDe] at y3
   have u1:∀ y,(Y1.set h.length y)[h.length]? = some y:=fun y=>List.getElem?_set_self (by omega)
   have ht:∀ y,(Y1.set h.length y).take h.length=h:=fun y=>List.ext_getElem? fun i=>by
    by_cases hi:i<h.length
    ·rw [List.getElem?_take_of_lt hi,List.getElem?_set_ne (by omega)];exact y1 i hi
    ·rw [List.getElem?_take_eq_none (by omega),List.getElem?_eq_none (by omega)]
   simp -implicitDefEqProofs only [Qc,↓reduceIte,Nat.reduceAdd,y2,y3]
   repeat (first|(with_reducible refine Qn ?_)|((with_reducible refine hK _ ?_);clear hK))
   simp -implicitDefEqProofs only [Qc,↓reduceIte,Qw,Qv,ti26,List.mapM_cons,List.mapM_nil,Option.pure_def,Option.bind_eq_bind,Qw,Qv,u1,QG,Qp,Qt,Qrz,seval]
   exact Ql (ht _) (.keep (QmQ _ (.inl pg))) ⟨by rw [hp];rfl,rfl⟩
theorem QeW:QI Tryd.prog 12 [.v (.string (mkB l))] h fun o h'=>o = .ret (rsR (Qc6 l))∧h'=h:=by
 rw [Qc6]
 cases hs:XK l with
 |inr q =>
  obtain ⟨p,e⟩:=q
  have cr:=fun fv L=>QdX hs fv (h++L) (hG.app L)
  have e0:(e != 0)=true:=by simpa using Zh hs
  refine Qe Tryd.func12 rfl Tryd.call12 Tryd.ntmps12 (congrArg Array.toList Tryd.results12) (by simp) ?_
  repeat (first|((first|(with_reducible (first|refine Qa fun K E hK hE=>?_|refine FunW.ret (FunW.call (cr _ _)) ?_)));simp -implicitDefEqProofs only [Qc,Qd,OpW,QC,aop,undef,AS.ev,Qs,AV.QqF,↓reduceIte,Qy,Qm,aBin,QR,Xc,Xq,ti34,zi34,sp34,e0,seval])|(with_reducible (first|refine Qg fun K hK=>?_|refine Qn ?_|refine Qu ?_))|((with_reducible refine hK _ ?_);clear hK)|(refine Qh rfl ?_;simp only [↓reduceIte]))
  simp -implicitDefEqProofs only [Qc,↓reduceIte,Qw,Qv,ti34,List.mapM_cons,List.mapM_nil,Option.pure_def,Option.bind_eq_bind,Qw,Qv,QG,Qp,Qt,Qrz,seval]
  exact Ql (htake _ _) (Qk5 _ _) ⟨rfl,rfl⟩
 |inl ts =>
  obtain ⟨hD,hW,hN,hl⟩:=QaF hs
  obtain ⟨H,hH⟩:∃ H,H=h++[rZ0,rZ0]:=⟨_,rfl⟩
  have hHl:H.length=h.length+2:=by rw [hH];simp
  have hHG:Zw H:=by rw [hH];exact hG.app _
  have hPo:=Qpb H ts (.cells 66 4 [.agg [.sl 3 (tks ts) none,.i 0,.v (.slice none 0 0),.v (.map none)]])
  have hout:∀ i,i<h.length→(H++[iC 0,eC 0,.cells 66 4 [.agg [.sl 3 (tks ts) none,.i 0,.v (.slice none 0 0),.v (.map none)]]]++[.dead,.dead])[i]? = h[i]? := fun i hi=>by
   rw [List.append_assoc,List.getElem?_append_left (by omega),hH,List.getElem?_append_left hi]
  have hlen:(H++[iC 0,eC 0,.cells 66 4 [.agg [.sl 3 (tks ts) none,.i 0,.v (.slice none 0 0),.v (.map none)]]]++[AB.dead,.dead]).length=h.length+7:=by simp only [Qsg,QrC,QrD,hHl]
  have cf:=QkC (P:=P0 H ts) (s:=⟨ts,[]⟩) hW hPo hN hD (o:=h.length+1) (by omega) (by simp only [P0];omega) (by simp only [P0];omega) (by simp only [P0];omega)
   (by rw [List.append_assoc,List.getElem?_append_left (by omega),hH,hget];rfl)
  have hst:∀ (K:AH→Prop) (Y:AH) a b L,H.length+1<Y.length→(∀ i,i<h.length→Y[i]? = h[i]?)→∀ i,i<h.length→((Y.set H.length a).set (H.length+1) b++L)[i]? = h[i]? := fun K Y a b L hl hy i hi=>by
   rw [List.getElem?_append_left (by simp only [List.length_set];omega),List.getElem?_set_ne (by omega),List.getElem?_set_ne (by omega)];exact hy i hi
  have hc0:∀ Y,KpO (H++[iC 0,eC 0,.cells 66 4 [.agg [.sl 3 (tks ts) none,.i 0,.v (.slice none 0 0),.v (.map none)]]]++[AB.dead,.dead]) (P0 H ts) (h.length+1) Y→Y[H.length]? = some (iC 0)∧Y[H.length+1]? = some (eC 0)∧h.length+7≤Y.length∧(∀ i,i<h.length→Y[i]? = h[i]?)∧Y[h.length]? = some (rZ0):=fun Y hY=>by
   refine ⟨?_,?_,by have:=hY.long;omega,fun i hi=>?_,?_⟩
   ·rw [hY.out H.length (by omega) (by omega) (by simp only [P0];omega) (by simp only [P0];omega) (by simp only [P0];omega),List.append_assoc,ZZ];rfl
   ·rw [hY.out (H.length+1) (by omega) (by omega) (by simp only [P0];omega) (by simp only [P0];omega) (by simp only [P0];omega),List.append_assoc,hget];rfl
   ·rw [hY.out i (by omega) (by omega) (by simp only [P0];omega) (by simp only [P0];omega) (by simp only [P0];omega)];exact hout i hi
   ·rw [hY.out h.length (by omega) (by omega) (by simp only [P0];omega) (by simp only [P0];omega) (by simp only [P0];omega),List.append_assoc,List.getElem?_append_left (by omega),hH,ZZ];rfl
  cases hp:ZU ⟨ts,[]⟩ with
  |err p e =>
   rw [hp] at cf
   have e0:(e != 0)=true:=by simpa using QgL hW hp
   have cr:=Qf6 hs (.fn (.func 26) [] [.ptr (h.length+1) 0 0]) H hHG (fun Y=>h.length+2≤Y.length∧(∀ i,i<h.length→Y[i]? = h[i]?)∧Y[h.length]? = some (rZ0))
    (fun Y a b L hl hy=>⟨by simp only [Qsg,List.length_set];omega,hst (fun _=>True) Y a b L hl hy.2.1,by rw [List.getElem?_append_left (by simp only [List.length_set];omega),List.getElem?_set_ne (by omega),List.getElem?_set_ne (by omega)];exact hy.2.2⟩) (p:=p) (e:=e)
    (FunW.cl (cf.mono fun o h' q=>by
     obtain ⟨q1,⟨Y,hY⟩,q2⟩:=q
     obtain ⟨y1,y2,y3,y4,y5⟩:=hc0 Y hY
     exact ⟨q1,⟨Y,y1,y2,by omega,y4,y5⟩,q2⟩))
   rw [hH] at cr
   refine Qe Tryd.func12 rfl Tryd.call12 Tryd.ntmps12 (congrArg Array.toList Tryd.results12) (by simp) ?_
   repeat (first|((first|(with_reducible (first|refine Qa fun K E hK hE=>?_|refine FunW.retE (FunW.call cr) fun Y=>?_)));simp -implicitDefEqProofs only [Qc,Qd,OpW,QC,aop,undef,XF,AS.ev,Qs,AV.QqF,↓reduceIte,Qy,Qm,aBin,QR,Xc,Xq,ti34,zi34,sp34,e0,Qsg,seval])|(with_reducible refine Qg fun K hK=>?_)|((with_reducible refine hK _ ?_);clear hK)|(refine Qh rfl ?_;simp only [↓reduceIte]))
   have hY:=Y.2
   generalize Y.1=Y1 at *
   obtain ⟨y0,y1,y2⟩:=hY
   have u1:∀ y,(Y1.set h.length y)[h.length]? = some y:=fun y=>List.getElem?_set_self (by omega)
   have ht:∀ y,(Y1.set h.length y).take h.length=h:=fun y=>List.ext_getElem? fun i=>by
    by_cases hi:i<h.length
    ·rw [List.getElem?_take_of_lt hi,List.getElem?_set_ne (by omega)];exact y1 i hi
    ·rw [List.getElem?_take_eq_none (by omega),List.getElem?_eq_none (by omega)]
   simp -implicitDefEqProofs only [Qc,↓reduceIte,Nat.reduceAdd,y2]
   repeat (first|(with_reducible (first|refine Qn ?_|refine Qu ?_))|((with_reducible refine hK _ ?_);clear hK))
   simp -implicitDefEqProofs only [Qc,↓reduceIte,Qw,Qv,ti34,List.mapM_cons,List.mapM_nil,Option.pure_def,Option.bind_eq_bind,Qw,Qv,u1,QG,Qp,Qt,Qrz,seval]
   exact Ql (ht _) (Qk5 _ _) ⟨by rw [hp],rfl⟩
  |ok pg s2 =>
   rw [hp] at cf
   have e0:((0:Int) != 0)=false:=rfl
   obtain ⟨D,hDe⟩:∃ D,D=AB.cells 34 6 [pg.av]:=⟨_,rfl⟩
   have cr:=QiQ hs (.fn (.func 26) [] [.ptr (h.length+1) 0 0]) H hHG (fun Y=>h.length+2≤Y.length∧(∀ i,i<h.length→Y[i]? = h[i]?)∧Y[h.length]? = some (rZ0)∧Y[h.length+1]? = some D)
    (fun Y a b L hl hy=>⟨by simp only [Qsg,List.length_set];omega,hst (fun _=>True) Y a b L hl hy.2.1,by rw [List.getElem?_append_left (by simp only [List.length_set];omega),List.getElem?_set_ne (by omega),List.getElem?_set_ne (by omega)];exact hy.2.2.1,by rw [List.getElem?_append_left (by simp only [List.length_set];omega),List.getElem?_set_ne (by omega),List.getElem?_set_ne (by omega)];exact hy.2.2.2⟩)
    (FunW.cl (cf.mono fun o h' q=>by
     obtain ⟨q1,⟨Y,hY,hY2⟩,q2⟩:=q
     obtain ⟨y1,y2,y3,y4,y5⟩:=hc0 Y hY
     exact ⟨q1,⟨Y,y1,y2,by omega,y4,y5,by rw [hDe];exact hY2⟩,q2⟩))
   rw [hH] at cr
   refine Qe Tryd.func12 rfl Tryd.call12 Tryd.ntmps12 (congrArg Array.toList Tryd.results12) (by simp) ?_
   repeat (first|((first|(with_reducible (first|refine Qa fun K E hK hE=>?_|refine FunW.retE (FunW.call cr) fun Y=>?_)));simp -implicitDefEqProofs only [Qc,Qd,OpW,QC,aop,undef,XF,AS.ev,Qs,AV.QqF,↓reduceIte,Qw,Qv,Qy,Qm,aBin,QR,ti34,zi34,Qsg,seval])|(with_reducible (first|refine Qg fun K hK=>?_|refine Qk ?_|refine Qb ?_))|((with_reducible refine hK _ ?_);clear hK)|(refine Qh rfl ?_;simp only [↓reduceIte,Qrt]))
   have hY:=Y.2
   generalize Y.1=Y1 at *
   obtain ⟨y0,y1,y2,y3⟩:=hY
   rw [hDe] at y3
   have u1:∀ y,(Y1.set h.length y)[h.length]? = some y:=fun y=>List.getElem?_set_self (by omega)
   have ht:∀ y,(Y1.set h.length y).take h.length=h:=fun y=>List.ext_getElem? fun i=>by
    by_cases hi:i<h.length
    ·rw [List.getElem?_take_of_lt hi,List.getElem?_set_ne (by omega)];exact y1 i hi
    ·rw [List.getElem?_take_eq_none (by omega),List.getElem?_eq_none (by omega)]
   have rc:=Rl.cells pg
   have ri:=Rl.isAgg pg
   simp -implicitDefEqProofs only [Qc,↓reduceIte,Nat.reduceAdd,y2,y3,rc,ri]
   repeat (first|(with_reducible refine Qn ?_)|((with_reducible refine hK _ ?_);clear hK))
   simp -implicitDefEqProofs only [Qc,↓reduceIte,Qw,Qv,ti34,List.mapM_cons,List.mapM_nil,Option.pure_def,Option.bind_eq_bind,Qw,Qv,u1,rc,ri,QG,Qp,Qt,Qrz,seval]
   exact Ql (ht _) (.keep (Qlc _ (.inl pg))) ⟨by rw [hp];rfl,rfl⟩
end
end Go.Proofs.YticgcpebdldbgaaDoor.Ab
set_option maxRecDepth 4000
namespace Go.Proofs.YticgcpebdldbgaaDoor.Ab
open Go.Proofs
def tvB (n:Nat) (l:List Int):Prop:=∀ v∈l,0≤v∧v<n
theorem tvB.mono {n m:Nat} {l:List Int} (h:tvB n l) (hn:n≤m):tvB m l:=fun v hv=>by have:=h v hv;omega
theorem tvB.app {n:Nat} {l m:List Int} (h:tvB n l) (k:tvB n m):tvB n (l++m):=fun v hv=>(List.mem_append.1 hv).elim (h v) (k v)
theorem Qaa (n:Nat):tvB n []:=fun v hv=>(List.not_mem_nil hv).elim
def VbT (f:PS→PR T):Prop:=∀ s t s2,f s = .ok t s2→s.names.length≤s2.names.length∧tvB s2.names.length t.vars∧tvB s2.names.length (XD t.args)
theorem Qbq {b:List UInt8} {s s2:PS} {u:Unit} (h:XC b s = .ok u s2):s2.names=s.names:=by
 unfold XC at h
 split at h
 ·cases h;rfl
 ·cases h
theorem QkL {s s2:PS} {x:ByteArray} (h:Zq s = .ok x s2):s2.names=s.names:=by
 unfold Zq at h
 split at h
 ·cases h
 ·split at h
  ·cases h
  ·cases h;rfl
theorem QiV (t:T):XD [t]=t.vars:=by simp [XD]
section
variable {ex:PS→PR T} (H:VbT ex)
include H
theorem Qlv:∀ (m:Nat) (l:List T) (s:PS) (a:List T) (s2:PS),tvB s.names.length (XD l)→YK ex m l s = .ok a s2→s.names.length≤s2.names.length∧tvB s2.names.length (XD a)
 |0,_,_,_,_,_,h=>by cases h
 |m+1,l,s,a,s2,hl,h=>by
  rw [YK] at h
  obtain ⟨t,s1,h1,h⟩:=bind_ok h
  obtain ⟨a1,a2,_⟩:=H s t s1 h1
  have hl2:tvB s1.names.length (XD (l++[t])):=by rw [Qdc,QiV];exact (hl.mono a1).app a2
  split at h
  ·obtain ⟨b1,b2⟩:=Qlv m (l++[t]) s1.nx a s2 hl2 h
   exact ⟨Nat.le_trans a1 b1,b2⟩
  ·obtain ⟨u,s3,h3,h⟩:=bind_ok h
   have e:=Qbq h3
   cases h
   rw [e];exact ⟨a1,hl2⟩
theorem Qo8 {s s2:PS} {g:G} (h:Yk ex s = .ok g s2):s.names.length≤s2.names.length∧tvB s2.names.length (XD g.args):=by
 rw [Yk] at h
 obtain ⟨x,s1,h1,h⟩:=bind_ok h
 have e:=QkL h1
 split at h
 ·obtain ⟨l,s3,h3,h⟩:=bind_ok h
  obtain ⟨b1,b2⟩:=Qlv H _ [] s1.nx l s3 (by rw [XD];exact Qaa _) h3
  cases h
  exact ⟨by rw [← e];exact b1,b2⟩
 ·cases h
  exact ⟨by rw [e];exact Nat.le_refl _,by show tvB _ (XD []);rw [XD];exact Qaa _⟩
theorem QpG:VbT (pOpT ex):=fun s t s2 h=>by
 unfold pOpT at h
 split at h
 ·cases h;exact ⟨Nat.le_refl _,by simp only [T.vars];exact Qaa _,Qaa _⟩
 ·split at h
  ·unfold pVari at h
   split at h
   ·rename_i hv
    cases h
    refine ⟨Nat.le_refl _,?_,Qaa _⟩
    show tvB s.nx.names.length [_]
    intro v hm
    rw [List.mem_singleton] at hm
    subst hm
    omega
   ·cases h
    refine ⟨by show s.names.length≤(s.nx.names++[_]).length;rw [List.length_append];exact Nat.le_add_right _ _,?_,Qaa _⟩
    show tvB (s.nx.names++[_]).length [_]
    intro v hm
    rw [List.mem_singleton] at hm
    subst hm
    rw [List.length_append,List.length_singleton]
    omega
  ·split at h
   ·obtain ⟨a,s1,h1,h⟩:=bind_ok h
    obtain ⟨b1,b2⟩:=Qo8 H h1
    cases h
    refine ⟨b1,?_,b2⟩
    simp only [T.vars]
    exact b2
   ·split at h
    ·split at h
     ·cases h
     ·cases h;exact ⟨Nat.le_refl _,by simp only [T.vars];exact Qaa _,Qaa _⟩
    ·split at h
     ·obtain ⟨t1,s1,h1,h⟩:=bind_ok h
      obtain ⟨u,s3,h3,h⟩:=bind_ok h
      obtain ⟨a1,a2⟩:=H _ _ _ h1
      have e:=Qbq h3
      cases h
      rw [e];exact ⟨a1,a2⟩
     ·cases h
end
theorem Qhx {op:PS→PR T} (H:VbT op) (ops:List (List UInt8)):∀ (m:Nat) (t:T) (s:PS) (a:T) (s2:PS),tvB s.names.length t.vars→tvB s.names.length (XD t.args)→Xz op ops m t s = .ok a s2→s.names.length≤s2.names.length∧tvB s2.names.length a.vars∧tvB s2.names.length (XD a.args)
 |0,t,s,a,s2,ht,hk,h=>by cases h;exact ⟨Nat.le_refl _,ht,hk⟩
 |m+1,t,s,a,s2,ht,hk,h=>by
  rw [Xz] at h
  split at h
  ·obtain ⟨u,s3,h3,h⟩:=bind_ok h
   obtain ⟨a1,a2,_⟩:=H _ _ _ h3
   have a1':s.names.length≤s3.names.length:=a1
   have hv:tvB s3.names.length (XD [t,u]):=by simp only [XD,QrS];exact (ht.mono a1').app a2
   obtain ⟨b1,b2⟩:=Qhx H ops m (.mk 2 0 s.tk.text [t,u]) s3 a s2 (by simp only [T.vars];exact hv) hv h
   exact ⟨Nat.le_trans a1' b1,b2⟩
  ·cases h;exact ⟨Nat.le_refl _,ht,hk⟩
theorem QjK {op:PS→PR T} (H:VbT op) (ops:List (List UInt8)):VbT (XU op ops):=fun s t s2 h=>by
 rw [XU] at h
 obtain ⟨u,s1,h1,h⟩:=bind_ok h
 obtain ⟨a1,a2,a3⟩:=H _ _ _ h1
 obtain ⟨b1,b2⟩:=Qhx H ops _ u s1 t s2 a2 a3 h
 exact ⟨Nat.le_trans a1 b1,b2⟩
theorem Qjr:∀ n:Nat,VbT (XT n)
 |0=>fun s t s2 h=>by cases h
 |n+1=>QjK (QjK (QpG (Qjr n)) Yt) ZQ
theorem QgJ:VbT XL:=fun s t s2 h=>Qjr _ s t s2 h
theorem Qmj {op:Int} {s s2:PS} {g:G} (h:Qa0 op s = .ok g s2):s.names.length≤s2.names.length∧tvB s2.names.length (XD g.args):=by
 rw [Qa0] at h
 obtain ⟨u,s1,h1,h⟩:=bind_ok h
 obtain ⟨t,s3,h3,h⟩:=bind_ok h
 obtain ⟨w,s4,h4,h⟩:=bind_ok h
 obtain ⟨a1,a2,_⟩:=QgJ _ _ _ h3
 have e1:=Qbq h1
 have e4:=Qbq h4
 cases h
 rw [e4]
 exact ⟨by rw [← e1];exact a1,by show tvB _ (XD [t]);rw [QiV];exact a2⟩
theorem Qnt {s s2:PS} {g:G} (h:ZK s = .ok g s2):s.names.length≤s2.names.length∧tvB s2.names.length (XD g.args):=by
 have e0:XD []=[]:=rfl
 unfold ZK at h
 split at h
 ·split at h
  ·cases h;exact ⟨Nat.le_refl _,by show tvB _ (XD []);rw [e0];exact Qaa _⟩
  ·split at h
   ·cases h;exact ⟨Nat.le_refl _,by show tvB _ (XD []);rw [e0];exact Qaa _⟩
   ·split at h
    ·exact Qmj (s:=s.nx) h
    ·split at h
     ·exact Qmj (s:=s.nx) h
     ·cases h
 ·obtain ⟨t,s1,h1,h⟩:=bind_ok h
  obtain ⟨a1,a2,a3⟩:=QgJ _ _ _ h1
  split at h
  ·rename_i op turn hc
   obtain ⟨u,s3,h3,h⟩:=bind_ok h
   obtain ⟨b1,b2,_⟩:=QgJ _ _ _ h3
   have b1':s1.names.length≤s3.names.length:=b1
   cases h
   refine ⟨Nat.le_trans a1 b1',?_⟩
   show tvB s2.names.length (XD (if turn=true then [u,t] else [t,u]))
   split
   ·simp only [XD,QrS];exact b2.app (a2.mono b1')
   ·simp only [XD,QrS];exact (a2.mono b1').app b2
  ·split at h
   ·cases h
    exact ⟨a1,a3⟩
   ·cases h
theorem Qil (l:List G) (g:G):Xe (l++[g])=Xe l++XD g.args:=by simp [Xe]
theorem Qhc (most:Nat):∀ (m:Nat) (l:List G) (s:PS) (a:List G) (s2:PS),tvB s.names.length (Xe l)→X5 most m l s = .ok a s2→s.names.length≤s2.names.length∧tvB s2.names.length (Xe a)
 |0,_,_,_,_,_,h=>by cases h
 |m+1,l,s,a,s2,hl,h=>by
  rw [X5] at h
  split at h
  ·cases h
  ·obtain ⟨g,s1,h1,h⟩:=bind_ok h
   obtain ⟨a1,a2⟩:=Qnt h1
   have hl2:tvB s1.names.length (Xe (l++[g])):=by rw [Qil];exact (hl.mono a1).app a2
   split at h
   ·cases h
   ·split at h
    ·obtain ⟨b1,b2⟩:=Qhc most m _ s1.nx a s2 hl2 h
     exact ⟨Nat.le_trans a1 b1,b2⟩
    ·cases h;exact ⟨a1,hl2⟩
theorem QnV {most:Nat} {s s2:PS} {a:List G} (h:Yi most s = .ok a s2):tvB s2.names.length (Xe a):=(Qhc most _ [] s a s2 (Qaa _) h).2
end Go.Proofs.YticgcpebdldbgaaDoor.Ab
set_option maxRecDepth 4000
namespace Go.Proofs.YticgcpebdldbgaaDoor.Ab
open Go.Proofs
structure KpG (h:AH) (P:Pz) (o o2:Nat) (Y:AH):Prop where
 long:h.length≤Y.length
 out:∀ i,i<h.length→i≠o→i≠o2→i≠P.i→i≠P.j→i≠P.g→Y[i]? = h[i]?
def GfQ (h:AH) (P:Pz) (o o2:Nat):PR (List G×List ByteArray)→AOut→AH→Prop
 | .ok q _,x,h'=>x = .ret (.tup [])∧∃ Y:{Y:AH // KpG h P o o2 Y∧Y[o]? = some (.cells 32 1 [.sl 3 (lvG gv h.length q.1) none])∧At Y h.length (layG 54 h.length q.1)∧Y[o2]? = some (.cells 46 1 [.sl 1 (strs q.2) none])},h'=Y.1
 | .err p e,x,h'=>x = .panic (Fl p e)∧∃ Y:{Y:AH // KpG h P o o2 Y∧Y[o2]? = h[o2]?},h'=Y.1
def qV (l:List G):List G:=l.map fun g=>⟨g.op,g.name,maps (fun v=>((plc (ded [] (Xe l)) v:Nat):Int)) g.args⟩
def qN (s:PS) (l:List G):List ByteArray:=(ded [] (Xe l)).map fun v=>s.names.getD v.toNat eB
theorem Ql6 (s:PS):Qft s=(Yi 40 s).bind fun l s=>(pEnd s).bind fun _ s=>.ok (qV l,qN s l) s:=rfl
theorem QlC (l:List G):Xj gG [] l=(qV l,ded [] (Xe l)):=by
 have:=Qbv [] l []
 simp only [QrS] at this
 exact this
mutual
theorem T.Qra:∀ t:T,t.vars.length≤t.nds
 | .mk k i x l=>by
  have:=Qej l
  simp only [T.vars,T.nds]
  split
  ·simp
  ·split
   ·omega
   ·simp
theorem Qej:∀ l:List T,(XD l).length≤ndsL l
 |[]=>by simp [XD]
 |t::l=>by
  have h1:=T.Qra t
  have h2:=Qej l
  simp only [XD,ndsL,Qsg]
  omega
end
theorem QfC:∀ l:List G,(Xe l).length≤ndG l
 |[]=>Nat.le_refl _
 |g::l=>by
  have h1:=Qej g.args
  have h2:=QfC l
  have e:Xe (g::l)=XD g.args++Xe l:=by simp [Xe]
  rw [e,List.length_append,ndG];omega
section
variable {P:Pz} {s:PS} (hW:Wst P.all s) {h:AH} (H:P.ok h) (hN:P.all.length≤1000000) (hD:TkOk P.all) {o o2:Nat} (hol:o<h.length) (hoi:o≠P.i) (hoj:o≠P.j) (hog:o≠P.g)
 (hpl:o2<h.length) (hpi:o2≠P.i) (hpj:o2≠P.j) (hpg:o2≠P.g) (hoo:o≠o2)
include hW H hN hD hol hoi hoj hog hpl hpi hpj hpg hoo
theorem QiE (hob:h[o]? = some (.cells 32 1 [nilV])) (hob2:h[o2]? = some (.cells 46 1 [nilV])):QI Tryd.prog 28 [.ptr P.i 0 0,.ptr o 0 0,.ptr o2 0 0] (ph h P s) (GfQ h P o o2 (Qft s)):=by
 have cg:=QcD hW H hN hD 40 (by omega)
 rw [Ql6]
 cases hr:Yi 40 s with
 |err p e =>
  rw [hr] at cg
  have cg2:QI Tryd.prog 29 [.ptr P.i 0 0,.i 40] (ph h P s) fun o h'=>o = .panic (Fl p e)∧∃ s2:PS,h'=ph h P s2:=cg
  refine Qe Tryd.func28 rfl Tryd.call28 Tryd.ntmps28 (congrArg Array.toList Tryd.results28) (by simp) ?_
  repeat (first|((first|(with_reducible (first|refine Qa fun K E hK hE=>?_|refine FunW.panE (FunW.call cg2) fun r=>?_)));simp -implicitDefEqProofs only [Qc,Qd,OpW,QC,aop,undef,AS.ev,Qs,↓reduceIte,Nat.reduceLT])|(with_reducible refine hE _ _ ?_))
  exact .inr ⟨rfl,⟨_,⟨by rw [QN];exact Nat.le_refl _,fun i h1 h2 h3 h4 h5 h6=>by rw [YN H h4 h5 h6]⟩,by rw [YN H hpi hpj hpg]⟩,rfl⟩
 |ok l s2 =>
  rw [hr] at cg
  have cg2:QI Tryd.prog 29 [.ptr P.i 0 0,.i 40] (ph h P s) fun o h'=>o = .ret (.sl 3 (lvG gv h.length l) none)∧h'=ph h P s2++layG 54 h.length l:=cg
  have hW2:Wst P.all s2:=Kp.Ps.ok (n:=wdOf P.all) (Kp.Qbl trivial 40) hW hr
  have hl0:=QdF hr
  have f1:=QN h P s2
  obtain ⟨X,hX⟩:∃ X,X=(ph h P s2++layG 54 h.length l).set o (.cells 32 1 [.sl 3 (lvG gv h.length l) none]):=⟨_,rfl⟩
  have hXl:X.length=h.length+gsz l:=by rw [hX,List.length_set,List.length_append,QN,QL]
  have g0:(ph h P s2++layG 54 h.length l)[o]? = some (.cells 32 1 [nilV]):=by rw [List.getElem?_append_left (by omega),YN H hoi hoj hog];exact hob
  have hXo:X[o]? = some (.cells 32 1 [.sl 3 (lvG gv h.length l) none]):=by rw [hX];exact List.getElem?_set_self (by rw [List.length_append];omega)
  have hXi:X[P.i]? = some (pN P s2 (some P.g)):=by rw [hX,List.getElem?_set_ne hoi,List.getElem?_append_left (by rw [f1];exact H.i),XQ H];rfl
  have hXlow:∀ i,i<h.length→i≠o→i≠P.i→i≠P.j→i≠P.g→X[i]? = h[i]? := fun i h1 h2 h3 h4 h5=>by rw [hX,List.getElem?_set_ne (Ne.symm h2),List.getElem?_append_left (by omega),YN H h3 h4 h5]
  have hXA:At X h.length (layG 54 h.length l):=by
   have:=At.base (At.mid [] (layG 54 h.length l) [] rfl) f1
   rw [List.nil_append,List.append_nil] at this
   refine At.keep this fun i i1 i2=>?_
   rw [hX,List.getElem?_set_ne (by omega)]
  have hi3:=hXi
  rw [pN] at hi3
  by_cases hk:s2.tk.kind=0
  ·have ce:=QiW hW2 hXi hk
   have hE:((PR.ok l s2).bind fun l s=>(pEnd s).bind fun _ s=>PR.ok (qV l,qN s l) s) = .ok (qV l,qN s2 l) s2:=by
    have:pEnd s2 = .ok () s2:=by rw [pEnd,if_pos hk]
    show (pEnd s2).bind _=_
    rw [this];rfl
   rw [hE]
   rw [hX] at ce hi3
   refine Qe Tryd.func28 rfl Tryd.call28 Tryd.ntmps28 (congrArg Array.toList Tryd.results28) (by simp) ?_
   iterate 6 (try (first|((first|(with_reducible (first|refine Qa fun K E hK hE=>?_|refine FunW.ret (FunW.call cg2) ?_|refine FunW.ret (FunW.call ce) ?_)));simp -implicitDefEqProofs only [Qc,Qd,OpW,QC,aop,undef,AS.ev,Qs,AV.QqF,↓reduceIte,Qf,Qy,Qm,ti32,QF,Qq,g0,hi3,seval])|((with_reducible refine hK _ ?_);clear hK)))
   rw [← hX]
   have hXo2:X[o2]? = some (.cells 46 1 [nilV]):=by rw [hXlow o2 hpl (Ne.symm hoo) hpi hpj hpg];exact hob2
   refine YB o2 46 1 1 (.grow 9 1 0) (.inr ⟨_,rfl⟩) [nilV] [.sl 1 [] (some X.length)] 0 hXo2 rfl rfl (by simp [AV.cells]) ?_
   obtain ⟨X2,hX2⟩:∃ X2,X2=(X++[AB.grow 9 1 0]).set o2 (.cells 46 1 [.sl 1 [] (some X.length)]):=⟨_,rfl⟩
   rw [← hX2]
   have hX2l:X2.length=X.length+1:=by rw [hX2,List.length_set,List.length_append];rfl
   have hX2e:∀ i,i<X.length→i≠o2→X2[i]? = X[i]? := fun i h1 h2=>by rw [hX2,List.getElem?_set_ne (Ne.symm h2),List.getElem?_append_left h1]
   have hX2p:X2[o2]? = some (.cells 46 1 [.sl 1 [] (some X.length)]):=by rw [hX2];exact List.getElem?_set_self (by rw [List.length_append];omega)
   have hX2t:X2[X.length]? = some (.grow 9 1 0):=by rw [hX2,List.getElem?_set_ne (by omega),List.getElem?_append_right (Nat.le_refl _),Nat.sub_self];rfl
   iterate 2 (try (first|(((with_reducible refine Qa fun K E hK hE=>?_));simp -implicitDefEqProofs only [Qc,Qd,OpW,aop,AV.QqF,↓reduceIte,zi84,seval])|((with_reducible refine hK _ ?_);clear hK)))
   refine YB X2.length 84 2 1 (.grow 3 1 0) (.inr ⟨_,rfl⟩) [.agg [.v (.map none),.v (.slice none 0 0)]] [.agg [.v (.map none),.sl 1 [] (some (X2.length+1))]] 1 (by rw [List.getElem?_append_right (Nat.le_refl _),Nat.sub_self];rfl) rfl (by rw [List.length_append];rfl) (by simp [AV.cells]) ?_
   have hZ:((X2++[AB.cells 84 2 [.agg [.v (.map none),.v (.slice none 0 0)]]])++[AB.grow 3 1 0]).set X2.length (AB.cells 84 2 [.agg [.v (.map none),.sl 1 [] (some (X2.length+1))]])=X2++[AB.cells 84 2 [.agg [.v (.map none),.sl 1 [] (some (X2.length+1))]],AB.grow 3 1 0]:=by
    rw [List.append_assoc,List.set_append_right _ _ (Nat.le_refl _),Nat.sub_self];rfl
   have hN0:NSt (X2++[AB.cells 84 2 [.agg [.v (.map none),.sl 1 [] (some (X2.length+1))]],.grow 3 1 0]) X2.length []:=⟨.v (.map none),by rw [List.getElem?_append_right (Nat.le_refl _),Nat.sub_self];rfl,by rw [List.getElem?_append_right (by omega),Nat.add_sub_cancel_left];rfl,.inl ⟨rfl,rfl⟩⟩
   rw [hZ]
   obtain ⟨Z0,hZ0⟩:∃ Z0,Z0=X2++[AB.cells 84 2 [.agg [.v (.map none),.sl 1 [] (some (X2.length+1))]],AB.grow 3 1 0]:=⟨_,rfl⟩
   rw [← hZ0] at hN0
   rw [← hZ0]
   have hZl:Z0.length=X2.length+2:=by rw [hZ0,List.length_append];rfl
   have hZe:∀ i,i<X2.length→Z0[i]? = X2[i]? := fun i h1=>by rw [hZ0,List.getElem?_append_left h1]
   obtain ⟨hok,hl40⟩:=Qbx hr
   have hps:∀ g∈l,pss g.args:=fun g hg=>(QdA (hok g hg)).1
   have hnd:∀ m:List G,(∀ g∈m,ndsL g.args≤200)→ndG m≤200 * m.length:=fun m=>by
    induction m with
    |nil=>intro _;exact Nat.le_refl _
    |cons g m ih =>
     intro hm
     have h1:=hm g (by simp)
     have h2:=ih fun x hx=>hm x (by simp [hx])
     rw [ndG,List.length_cons];omega
   have hnl:=hnd l fun g hg=>(QdA (hok g hg)).2
   have hZA:At Z0 h.length (layG 54 h.length l):=hXA.keep fun i i1 i2=>by rw [QL] at i2;rw [hZe i (by omega),hX2e i (by omega) (by omega)]
   have hZo:Z0[o]? = some (.cells 32 1 [.sl 3 (lvG gv h.length l) none]):=by rw [hZe o (by omega),hX2e o (by omega) hoo];exact hXo
   have c1:=retQ (Qew l hps Z0 X2.length h.length [] (by omega) (by simp only [QrD];omega) (by omega) (by omega) hN0 hZA)
   rw [QeY gv 3 h.length hl0] at c1
   repeat (first|((first|(with_reducible (first|refine Qa fun K E hK hE=>?_|refine FunW.retE (FunW.call c1) fun Y=>?_)));simp -implicitDefEqProofs only [Qc,Qd,OpW,QC,aop,undef,XF,AS.ev,Qs,↓reduceIte,Qf,Qw,Qv,aLen,goInt,ti32,ti82,un82,QeK,hZo,seval])|((with_reducible refine hK _ ?_);clear hK))
   have hY:=Y.2
   generalize Y.1=Y1 at *
   obtain ⟨_,p1,n1,a1⟩:=hY
   rw [QlC] at n1 a1
   simp only at n1 a1
   obtain ⟨toV,z1,z2,z3⟩:=n1
   have hvb:=QnV hr
   generalize hOr:ded [] (Xe l)=ord at *
   have hord:∀ v∈ord,0≤v∧v<s2.names.length:=fun v hv=>hvb v (by rw [← hOr,QiR] at hv;exact hv.resolve_left (List.not_mem_nil))
   have hl1:X2.length+1<Y1.length:=Qr z2
   have hYe:∀ i,i<X2.length→¬ (h.length≤i∧i<h.length+gsz l)→Y1[i]? = X2[i]? := fun i h1 h2=>by rw [p1.out i h1 h2,hZe i h1]
   have hYi:Y1[P.i]? = some (pN P s2 (some P.g)):=by rw [hYe P.i (by have:=H.i;omega) (by have:=H.i;omega),hX2e P.i (by have:=H.i;omega) (Ne.symm hpi)];exact hXi
   have hYo:Y1[o]? = some (.cells 32 1 [.sl 3 (lvG gv h.length l) none]):=by rw [hYe o (by omega) (by omega),hX2e o (by omega) hoo];exact hXo
   have hYp:Y1[o2]? = some (.cells 46 1 [.sl 1 [] (some X.length)]):=by rw [hYe o2 (by omega) (by omega)];exact hX2p
   have hYt:Y1[X.length]? = some (.grow 9 1 0):=by rw [hYe X.length (by omega) (by omega)];exact hX2t
   have hYk:KpG h P o o2 Y1:=⟨by omega,fun i h1 h2 h3 h4 h5 h6=>by rw [hYe i (by omega) (by omega),hX2e i (by omega) h3];exact hXlow i h1 h2 h4 h5 h6⟩
   have hqn:qN s2 l=ord.map fun v=>s2.names.getD v.toNat eB:=by rw [qN,hOr]
   have hnm:(qN s2 l).length=ord.length:=by rw [hqn,List.length_map]
   have hob:ord.length≤1000000:=by
    have:=QcV [] (Xe l)
    have h3:(Xe l).length≤ndG l:=QfC l
    rw [hOr] at this
    simp only [QrD] at this
    omega
   simp -implicitDefEqProofs only [Qc,z1]
   iterate 1 (try (((with_reducible refine hK _ ?_);clear hK)))
   iterate 2 (try ((with_reducible refine Qi ?_)))
   obtain ⟨I,hI⟩:∃ I:Nat→AS→Prop,I=fun m' s=>∃ j:Nat,m'=ord.length - j∧j≤ord.length∧s.h.length=Y1.length∧(∀ i,i≠o2→i≠X.length→s.h[i]? = Y1[i]?)∧s.h[o2]? = some (.cells 46 1 [.sl 1 (strs ((qN s2 l).take j)) (some X.length)])∧s.h[X.length]? = some (.grow 9 1 j)∧s.tm 0 = .ptr P.i 0 0∧s.tm 2 = .ptr o2 0 0∧s.tm 16 = .sl 1 (ints ord) (some (X2.length+1))∧s.tm 17 = .i ord.length∧s.tm 18 = .i j:=⟨_,rfl⟩;refine QZ I ?_ (m:=ord.length) ?_
   ·intro m' s hs;rw [hI] at hs;obtain ⟨tm,hp⟩:=s;dsimp only at hs;obtain ⟨j,rfl,hj,hle,hfr,hs2,hst,t0,t2,t16,t17,t18⟩:=hs
    have hpi2:hp[P.i]? = some (pN P s2 (some P.g)):=by rw [hfr P.i (Ne.symm hpi) (by have:=H.i;omega)];exact hYi
    rw [pN] at hpi2
    by_cases hlt:j<ord.length
    ·have y1:((j:Nat):Int)<((ord.length:Nat):Int):=by omega
     have hv:=hord _ (List.getElem_mem hlt)
     obtain ⟨k,hk⟩:∃ k:Nat,ord[j]=(k:Int):=⟨ord[j].toNat,by omega⟩
     have hat:(ints ord)[j]? = some (.i ((k:Nat):Int)):=by rw [← hk];exact QnO hlt
     rw [hk] at hv
     have hkl:k<s2.names.length:=by omega
     have hnk:(strs s2.names)[k]? = some (.v (.string s2.names[k])):=by rw [strs,List.getElem?_map,List.getElem?_eq_getElem hkl];rfl
     have w1:IntKind.i64.wrap (((j:Nat):Int)+1)=((j+1:Nat):Int):=X3 (by omega)
     have htl:(strs ((qN s2 l).take j)).length=j:=by rw [YU,List.length_take,hnm];omega
     have hm1:(j+1) * 16≤140737488355328:=by omega
     have hm2:j+1≤maxLen:=by simp only [maxLen];omega
     have hX9:X.length<hp.length:=Qr hst
     have u1:∀ y,(hp.set X.length y)[o2]? = some (.cells 46 1 [.sl 1 (strs ((qN s2 l).take j)) (some X.length)]):=fun y=>by rw [List.getElem?_set_ne (by omega)];exact hs2
     have hnext:strs ((qN s2 l).take (j+1))=strs ((qN s2 l).take j)++[.v (.string s2.names[k])]:=by
      rw [List.take_succ_eq_append_getElem (by omega),QbS]
      congr 1
      simp only [hqn,List.getElem_map,hk,Qr2,strs,QrE,QrI]
      rw [List.getD_eq_getElem?_getD,List.getElem?_eq_getElem hkl];rfl
     repeat (first|((first|(with_reducible (first|refine Qa fun K E hK hE=>?_|refine Qj fun K E hK hE=>?_))|(refine QV (id:=7) [(0,0),(1,0),(2,0),(3,0),(4,0),(5,0),(6,0),(7,0),(8,0),(9,2),(10,2)] mixed (by kernel_rfl) fun K hK=>?_));simp -implicitDefEqProofs only [Qc,Qd,OpW,aop,undef,AS.ev,AV.QqF,↓reduceIte,Qf,Qw,Qv,Qy,Qm,QS,aBin,QD,Xy,Yd,ti3,ti9,zi9,ti46,ei46,ai46,YP,ei82,Qq,t0,t2,t16,t17,t18,y1,hat,hs2,hst,hpi2,hkl,hnk,YU,htl,hm1,hm2,u1,w1,seval])|(with_reducible (first|refine Qg fun K hK=>?_|refine Qi ?_|refine Qk ?_|refine Qb ?_|refine Qo ?_))|((with_reducible refine hK _ ?_);clear hK)|(refine Qh rfl ?_;simp only [↓reduceIte]))
     refine Xw.mk (m':=ord.length - (j+1)) (by omega) ?_
     rw [hI]
     refine ⟨j+1,rfl,hlt,by simp only [List.length_set];exact hle,fun i h1 h2=>by rw [List.getElem?_set_ne (Ne.symm h1),List.getElem?_set_ne (Ne.symm h2)];exact hfr i h1 h2,?_,?_,t0,t2,t16,t17,rfl⟩
     ·rw [hnext];exact List.getElem?_set_self (by rw [List.length_set];omega)
     ·rw [List.getElem?_set_ne (by omega)];exact List.getElem?_set_self hX9
    ·have hjl:j=ord.length:=by omega
     have y1:¬ ((j:Nat):Int)<((ord.length:Nat):Int):=by omega
     have hX9:X.length<hp.length:=Qr hst
     refine Qak o2 46 1 [.sl 1 (strs ((qN s2 l).take j)) (some X.length)] [.sl 1 (strs ((qN s2 l).take j)) none] 0
      (Wk.sl rfl (fun y hy=>by obtain ⟨x,_,rfl⟩:=List.mem_map.1 hy;rfl) (WkL.refl _)) hs2 rfl rfl (fun x hx=>by rw [List.mem_singleton] at hx;subst hx;rfl) ?_
     repeat (first|(((with_reducible refine Qa fun K E hK hE=>?_));simp -implicitDefEqProofs only [Qc,Qd,OpW,aop,AS.ev,Nat.reduceLT,aBin,t17,t18,y1])|(with_reducible (first|refine Qg fun K hK=>?_|refine QE ?_|refine QA ?_|refine QB ?_))|((with_reducible refine hK _ ?_);clear hK)|(refine Qh rfl ?_;simp only [↓reduceIte,Qrt]))
     simp -implicitDefEqProofs only [Qrr,Qrv,List.mapM_nil,Option.pure_def,Qrr,QG,Qp,Qrz]
     have elv:lvG gv h.length (qV l)=lvG gv h.length l:=by
      have:=Qh7 Qom h.length [] l
      rw [QlC] at this
      exact this
     have egs:gsz (qV l)=gsz l:=by
      have:=Yl [] l
      rw [QlC] at this
      exact this
     have htk:(qN s2 l).take j=qN s2 l:=List.take_of_length_le (by omega)
     refine .inr ⟨rfl,⟨_,⟨by rw [List.length_set,hle];exact hYk.long,fun i h1 h2 h3 h4 h5 h6=>?_⟩,?_,?_,?_⟩,rfl⟩
     ·rw [List.getElem?_set_ne (Ne.symm h3),hfr i h3 (by omega)];exact hYk.out i h1 h2 h3 h4 h5 h6
     ·rw [List.getElem?_set_ne (Ne.symm hoo),hfr o hoo (by omega),elv];exact hYo
     ·refine a1.keep fun i i1 i2=>?_
      rw [QL,egs] at i2
      rw [List.getElem?_set_ne (by omega),hfr i (by omega) (by omega)]
     ·rw [htk];exact List.getElem?_set_self (by omega)
   ·rw [hI]
    exact ⟨0,rfl,Nat.zero_le _,rfl,fun _ _ _=>rfl,hYp,hYt,rfl,rfl,rfl,rfl,rfl⟩
  ·have ce:=QmR hW2 hXi hk
   have hE:((PR.ok l s2).bind fun l s=>(pEnd s).bind fun _ s=>PR.ok (qV l,qN s l) s) = .err s2.tk.pos 16:=by
    have:pEnd s2 = .err s2.tk.pos 16:=by rw [pEnd,if_neg hk]
    show (pEnd s2).bind _=_
    rw [this];rfl
   rw [hE]
   rw [hX] at ce hi3
   refine Qe Tryd.func28 rfl Tryd.call28 Tryd.ntmps28 (congrArg Array.toList Tryd.results28) (by simp) ?_
   repeat (first|((first|(with_reducible (first|refine Qa fun K E hK hE=>?_|refine FunW.ret (FunW.call cg2) ?_|refine FunW.pan (FunW.call ce) ?_)));simp -implicitDefEqProofs only [Qc,Qd,OpW,QC,aop,undef,AS.ev,Qs,AV.QqF,↓reduceIte,Qf,Qy,Qm,ti32,QF,Qq,g0,hi3,seval])|((with_reducible refine hK _ ?_);clear hK)|(with_reducible refine hE _ _ ?_))
   refine .inr ⟨rfl,⟨_,?_⟩,rfl⟩
   rw [← hX]
   exact ⟨⟨by omega,fun i h1 h2 h3 h4 h5 h6=>hXlow i h1 h2 h4 h5 h6⟩,hXlow o2 hpl (Ne.symm hoo) hpi hpj hpg⟩
end
end Go.Proofs.YticgcpebdldbgaaDoor.Ab
set_option maxRecDepth 4000
namespace Go.Proofs.YticgcpebdldbgaaDoor.Ab
open Go.Proofs
abbrev cG (v:AV):AB:=.cells 32 1 [v]
abbrev cS (v:AV):AB:=.cells 46 1 [v]
def QhM (l:List UInt8):(List G×List ByteArray) ⊕ (Int×Int):=match XK l with
 | .inr e=>.inr e
 | .inl ts=>match Qft ⟨ts,[]⟩ with
  | .ok p _=>.inl p
  | .err p e=>.inr (p,e)
theorem Qii {all:List Tk} {s:PS} (hW:Wst all s) {p e:Int} (h:Qft s = .err p e):e≠0:=Kp.Ps.err (n:=wdOf all) (Kp.Qp6 trivial) hW h
def SqQ (h:AH):(List G×List ByteArray) ⊕ (Int×Int)→AOut→AH→Prop
 | .inl q,o,h'=>∃ n,h.length≤n∧o = .ret (.tup [.sl 3 (lvG gv n q.1) none,.sl 1 (strs q.2) none,.i 0,.i 0])∧At h' n (layG 54 n q.1)∧h.length≤h'.length∧h'.take h.length=h
 | .inr e,o,h'=>o = .ret (.tup [nilV,nilV,.i e.1,.i e.2])∧h'=h
def sqR:(List G×List ByteArray) ⊕ (Int×Int)→AV
 | .inl q=>.tup [.sl 3 (vs G.goal q.1) none,.sl 1 (strs q.2) none,.i 0,.i 0]
 | .inr e=>.tup [nilV,nilV,.i e.1,.i e.2]
theorem Qg8 (n:Nat) (a b:Int):Below n (.tup [nilV,nilV,.i a,.i b]):=.tup _ fun x hx=>by
 simp only [List.mem_cons,List.not_mem_nil,or_false] at hx
 rcases hx with rfl|rfl|rfl|rfl <;> exact .v _
theorem Qij {P:Program} {f:FuncId} {args:List AV} {h:AH} {Q Q0:AOut→AH→Prop} (H:QI P f args h Q0)
  (hp:(∀ (i:Nat) b,h[i]? = some b→b.Below h.length)→∀ o h',Q0 o h'→Q o h'∨∃ l l',o = .ret (.tup l)∧h.length≤h'.length∧(∀ b∈h'.take h.length,b.Below h.length)∧l'.length=l.length∧(∀ (j:Nat) a a',l[j]? = some a→l'[j]? = some a'→Melt h' h.length a a')∧Q (.ret (.tup l')) (h'.take h.length)):QI P f args h Q:=by
 refine ⟨H.1,fun F n c vals hF hs hh hvs=>(H.2 F n c vals hF hs hh hvs).mono ?_⟩
 rintro e w' ⟨o,c',hQ,hev,hst,hw,hex⟩
 rcases hp (fun i b hb=>by subst hh;exact hs.below hb) o c'.h hQ with hq|⟨l,l',rfl,h1,h2,hl,h3,h4⟩
 ·exact ⟨o,c',hq,hev,hst,hw,hex⟩
 ·obtain ⟨x,rfl,hr⟩:=hex
  refine ⟨.ret (.tup l'),c'.cut h.length,h4,hev.cut (by rw [hh];exact Nat.le_refl _) h1,hst.cut h1 h2,hw,x,rfl,?_⟩
  cases hr with
  |tup _ cs hl' hr =>
   refine .tup _ cs (by omega) fun j a' u ha' hu=>?_
   obtain ⟨a,ha⟩:∃ a,l[j]? = some a:=⟨_,List.getElem?_eq_getElem (by rw [← hl];exact Qr ha')⟩
   exact (h3 j a a' ha ha').rel hst h1 (hr j a u ha hu)
section
variable (l:List UInt8) (h:AH) (hG:Zw h)
include hG
theorem Qlq:QI Tryd.prog 13 [.v (.string (mkB l))] h (SqQ h (QhM l)):=by
 rw [QhM]
 cases hs:XK l with
 |inr q =>
  obtain ⟨p,e⟩:=q
  have cr:=fun fv L=>QdX hs fv (h++L) (hG.app L)
  have e0:(e != 0)=true:=by simpa using Zh hs
  refine Qe Tryd.func13 rfl Tryd.call13 Tryd.ntmps13 (congrArg Array.toList Tryd.results13) (by simp) ?_
  repeat (first|((first|(with_reducible (first|refine Qa fun K E hK hE=>?_|refine FunW.ret (FunW.call (cr _ _)) ?_)));simp -implicitDefEqProofs only [Qc,Qd,OpW,QC,aop,undef,AS.ev,Qs,AV.QqF,↓reduceIte,Qy,Qm,aBin,QR,zi32,ti46,zi46,e0,seval])|(with_reducible (first|refine Qg fun K hK=>?_|refine Qn ?_|refine Qu ?_))|((with_reducible refine hK _ ?_);clear hK)|(refine Qh rfl ?_;simp only [↓reduceIte]))
  simp -implicitDefEqProofs only [Qc,↓reduceIte,Nat.reduceEqDiff,Qw,Qv,ti46,List.mapM_cons,List.mapM_nil,Option.pure_def,Option.bind_eq_bind,Qw,Qv,QG,Qp,Qt,Qrz]
  exact Ql (htake _ _) (.keep (Qg8 _ _ _)) ⟨rfl,rfl⟩
 |inl ts =>
  obtain ⟨hD,hW,hN,hl⟩:=QaF hs
  obtain ⟨H,hH⟩:∃ H,H=h++[cS nilV,cG nilV]:=⟨_,rfl⟩
  have hHl:H.length=h.length+2:=by rw [hH];simp
  have hHG:Zw H:=by rw [hH];exact hG.app _
  have hPo:=Qpb H ts (.cells 66 4 [.agg [.sl 3 (tks ts) none,.i 0,.v (.slice none 0 0),.v (.map none)]])
  have hout:∀ i,i<h.length→(H++[iC 0,eC 0,.cells 66 4 [.agg [.sl 3 (tks ts) none,.i 0,.v (.slice none 0 0),.v (.map none)]]]++[.dead,.dead])[i]? = h[i]? := fun i hi=>by
   rw [List.append_assoc,List.getElem?_append_left (by omega),hH,List.getElem?_append_left hi]
  have hlen:(H++[iC 0,eC 0,.cells 66 4 [.agg [.sl 3 (tks ts) none,.i 0,.v (.slice none 0 0),.v (.map none)]]]++[AB.dead,.dead]).length=h.length+7:=by simp only [Qsg,QrC,QrD,hHl]
  have cf:=QiE (P:=P0 H ts) (s:=⟨ts,[]⟩) hW hPo hN hD (o:=h.length+1) (o2:=h.length) (by omega) (by simp only [P0];omega) (by simp only [P0];omega) (by simp only [P0];omega) (by omega) (by simp only [P0];omega) (by simp only [P0];omega) (by simp only [P0];omega) (by omega)
   (by rw [List.append_assoc,List.getElem?_append_left (by omega),hH,hget];rfl) (by rw [List.append_assoc,List.getElem?_append_left (by omega),hH,ZZ];rfl)
  have hst:∀ (K:AH→Prop) (Y:AH) a b L,H.length+1<Y.length→(∀ i,i<h.length→Y[i]? = h[i]?)→∀ i,i<h.length→((Y.set H.length a).set (H.length+1) b++L)[i]? = h[i]? := fun K Y a b L hl hy i hi=>by
   rw [List.getElem?_append_left (by simp only [List.length_set];omega),List.getElem?_set_ne (by omega),List.getElem?_set_ne (by omega)];exact hy i hi
  have hc0:∀ Y,KpG (H++[iC 0,eC 0,.cells 66 4 [.agg [.sl 3 (tks ts) none,.i 0,.v (.slice none 0 0),.v (.map none)]]]++[AB.dead,.dead]) (P0 H ts) (h.length+1) h.length Y→Y[H.length]? = some (iC 0)∧Y[H.length+1]? = some (eC 0)∧h.length+7≤Y.length∧(∀ i,i<h.length→Y[i]? = h[i]?):=fun Y hY=>by
   refine ⟨?_,?_,by have:=hY.long;omega,fun i hi=>?_⟩
   ·rw [hY.out H.length (by omega) (by omega) (by omega) (by simp only [P0];omega) (by simp only [P0];omega) (by simp only [P0];omega),List.append_assoc,ZZ];rfl
   ·rw [hY.out (H.length+1) (by omega) (by omega) (by omega) (by simp only [P0];omega) (by simp only [P0];omega) (by simp only [P0];omega),List.append_assoc,hget];rfl
   ·rw [hY.out i (by omega) (by omega) (by omega) (by simp only [P0];omega) (by simp only [P0];omega) (by simp only [P0];omega)];exact hout i hi
  cases hp:Qft ⟨ts,[]⟩ with
  |err p e =>
   rw [hp] at cf
   have e0:(e != 0)=true:=by simpa using Qii hW hp
   have cr:=Qf6 hs (.fn (.func 28) [] [.ptr (h.length+1) 0 0,.ptr h.length 0 0]) H hHG (fun Y=>h.length+2≤Y.length∧(∀ i,i<h.length→Y[i]? = h[i]?)∧Y[h.length]? = some (cS nilV))
    (fun Y a b L hl hy=>⟨by simp only [Qsg,List.length_set];omega,hst (fun _=>True) Y a b L hl hy.2.1,by rw [List.getElem?_append_left (by simp only [List.length_set];omega),List.getElem?_set_ne (by omega),List.getElem?_set_ne (by omega)];exact hy.2.2⟩) (p:=p) (e:=e)
    (FunW.cl (cf.mono fun o h' q=>by
     obtain ⟨q1,⟨Y,hY,hY2⟩,q2⟩:=q
     obtain ⟨y1,y2,y3,y4⟩:=hc0 Y hY
     exact ⟨q1,⟨Y,y1,y2,by omega,y4,by rw [hY2,List.append_assoc,List.getElem?_append_left (by omega),hH,ZZ];rfl⟩,q2⟩))
   rw [hH] at cr
   refine Qe Tryd.func13 rfl Tryd.call13 Tryd.ntmps13 (congrArg Array.toList Tryd.results13) (by simp) ?_
   repeat (first|((first|(with_reducible (first|refine Qa fun K E hK hE=>?_|refine FunW.retE (FunW.call cr) fun Y=>?_)));simp -implicitDefEqProofs only [Qc,Qd,OpW,QC,aop,undef,XF,AS.ev,Qs,AV.QqF,↓reduceIte,Qy,Qm,aBin,QR,zi32,ti46,zi46,e0,Qsg,seval])|(with_reducible refine Qg fun K hK=>?_)|((with_reducible refine hK _ ?_);clear hK)|(refine Qh rfl ?_;simp only [↓reduceIte]))
   have hY:=Y.2
   generalize Y.1=Y1 at *
   obtain ⟨y0,y1,y2⟩:=hY
   have u1:∀ y,(Y1.set h.length y)[h.length]? = some y:=fun y=>List.getElem?_set_self (by omega)
   have ht:∀ y,(Y1.set h.length y).take h.length=h:=fun y=>List.ext_getElem? fun i=>by
    by_cases hi:i<h.length
    ·rw [List.getElem?_take_of_lt hi,List.getElem?_set_ne (by omega)];exact y1 i hi
    ·rw [List.getElem?_take_eq_none (by omega),List.getElem?_eq_none (by omega)]
   simp -implicitDefEqProofs only [Qc,↓reduceIte,y2]
   repeat (first|(with_reducible (first|refine Qn ?_|refine Qu ?_))|((with_reducible refine hK _ ?_);clear hK))
   simp -implicitDefEqProofs only [Qc,↓reduceIte,Nat.reduceEqDiff,Qw,Qv,ti46,List.mapM_cons,List.mapM_nil,Option.pure_def,Option.bind_eq_bind,Qw,Qv,u1,QG,Qp,Qt,Qrz]
   refine Ql (ht _) (.keep (Qg8 _ _ _)) ?_
   rw [hp];exact ⟨rfl,rfl⟩
  |ok pg s2 =>
   rw [hp] at cf
   have e0:((0:Int) != 0)=false:=rfl
   have cr:=QiQ hs (.fn (.func 28) [] [.ptr (h.length+1) 0 0,.ptr h.length 0 0]) H hHG (fun Y=>h.length+7≤Y.length∧(∀ i,i<h.length→Y[i]? = h[i]?)∧Y[h.length+1]? = some (cG (.sl 3 (lvG gv (h.length+7) pg.1) none))∧At Y (h.length+7) (layG 54 (h.length+7) pg.1)∧Y[h.length]? = some (cS (.sl 1 (strs pg.2) none)))
    (fun Y a b L hl hy=>⟨by simp only [Qsg,List.length_set];omega,hst (fun _=>True) Y a b L hl hy.2.1,by rw [List.getElem?_append_left (by simp only [List.length_set];omega),List.getElem?_set_ne (by omega),List.getElem?_set_ne (by omega)];exact hy.2.2.1,
     (hy.2.2.2.1.keep fun i i1 i2=>by rw [List.getElem?_set_ne (by omega),List.getElem?_set_ne (by omega)]).app L,
     by rw [List.getElem?_append_left (by simp only [List.length_set];omega),List.getElem?_set_ne (by omega),List.getElem?_set_ne (by omega)];exact hy.2.2.2.2⟩)
    (FunW.cl (cf.mono fun o h' q=>by
     obtain ⟨q1,⟨Y,hY,hY1,hY2,hY3⟩,q2⟩:=q
     rw [hlen] at hY1 hY2
     obtain ⟨y1,y2,y3,y4⟩:=hc0 Y hY
     exact ⟨q1,⟨Y,y1,y2,y3,y4,hY1,hY2,hY3⟩,q2⟩))
   rw [hH] at cr
   refine Qe Tryd.func13 rfl Tryd.call13 Tryd.ntmps13 (congrArg Array.toList Tryd.results13) (by simp) ?_
   repeat (first|((first|(with_reducible (first|refine Qa fun K E hK hE=>?_|refine FunW.retE (FunW.call cr) fun Y=>?_))|(refine QQ (id:=5) [(0,0),(1,0),(2,0),(3,2),(4,0),(5,0)] mixed (by kernel_rfl) fun K hK=>?_));simp -implicitDefEqProofs only [Qc,Qd,OpW,QC,aop,undef,AS.ev,Qs,AV.QqF,↓reduceIte,Qw,Qv,Qy,Qm,aBin,QR,ti32,zi32,ti46,zi46,Qsg,seval])|(with_reducible (first|refine Qg fun K hK=>?_|refine Qk ?_|refine Qb ?_))|((with_reducible refine hK _ ?_);clear hK)|(refine Qh rfl ?_;simp only [↓reduceIte,Qrt]))
   have hY:=Y.2
   generalize Y.1=Y1 at *
   obtain ⟨y0,y1,y2,y3,y4⟩:=hY
   have u1:∀ y,(Y1.set h.length y)[h.length]? = some y:=fun y=>List.getElem?_set_self (by omega)
   have u2:∀ y,(Y1.set h.length y)[h.length+1]? = some (cG (.sl 3 (lvG gv (h.length+7) pg.1) none)):=fun y=>by rw [List.getElem?_set_ne (by omega)];exact y2
   simp -implicitDefEqProofs only [Qc,↓reduceIte,y2,y4]
   repeat (first|(with_reducible refine Qn ?_)|((with_reducible refine hK _ ?_);clear hK))
   simp -implicitDefEqProofs only [Qc,↓reduceIte,Nat.reduceEqDiff,Qw,Qv,ti46,List.mapM_cons,List.mapM_nil,Option.pure_def,Option.bind_eq_bind,Qw,Qv,u1,QG,Qp,Qt,Qrz]
   rw [hp]
   refine .inr ⟨h.length+7,by omega,rfl,y3.keep fun i i1 i2=>?_,by rw [List.length_set];omega,?_⟩
   ·rw [List.getElem?_set_ne (by omega)]
   ·exact List.ext_getElem? fun i=>by
     by_cases hi:i<h.length
     ·rw [List.getElem?_take_of_lt hi,List.getElem?_set_ne (by omega)];exact y1 i hi
     ·rw [List.getElem?_take_eq_none (by omega),List.getElem?_eq_none (by omega)]
theorem Qip:QI Tryd.prog 13 [.v (.string (mkB l))] h fun o h'=>o = .ret (sqR (QhM l))∧h'=h:=by
 refine Qij (Qlq l h hG) fun hbel o h' q=>?_
 cases hq:QhM l with
 |inr e=>rw [hq] at q;exact .inl q
 |inl g =>
  rw [hq] at q
  obtain ⟨n,hn,rfl,hA,hl,ht⟩:=q
  refine .inr ⟨_,[.sl 3 (vs G.goal g.1) none,.sl 1 (strs g.2) none,.i 0,.i 0],rfl,hl,fun b hb=>?_,rfl,fun j a a' h1 h2=>?_,rfl,ht⟩
  ·rw [ht] at hb
   obtain ⟨k,hk⟩:=List.mem_iff_getElem?.1 hb
   exact hbel k b hk
  ·match j,h1,h2 with
   |0,h1,h2 =>
    cases h1;cases h2
    obtain ⟨e1,e2⟩:=QgF (m:=h.length) (w:=3) (vw:=gv) (vA:=G.goal) (fun _ _=>rfl) (fun _=>rfl) (fun n g hm hA j a a' h1 h3=>by
     match j,h1,h3 with
     |0,h1,h3=>cases h1;cases h3;exact .keep (.v _)
     |1,h1,h3=>cases h1;cases h3;exact .keep (.v _)
     |2,h1,h3=>cases h1;cases h3;exact Qd8 hm hA
     |j+3,h1,h3=>simp [gv,AV.cells] at h1) n g.1 hn hA
    exact .sl (by rw [Y9,Yo]) (fun y hy=>by obtain ⟨x,_,rfl⟩:=List.mem_map.1 hy;rfl) e1 e2
   |1,h1,h2=>cases h1;cases h2;exact .keep (.sl 1 _ none (Qet _ _) (fun b hb=>by cases hb))
   |2,h1,h2=>cases h1;cases h2;exact .keep (.v _)
   |3,h1,h2=>cases h1;cases h2;exact .keep (.v _)
   |j+4,h1,h2=>simp at h1
end
end Go.Proofs.YticgcpebdldbgaaDoor.Ab

