/-
  An abstract program logic, contracts of functions, and laws of terms and rules (part 6).
-/
import Derived.Test.YticgcpebdldbgaaGreatDoorAbTwo
import Derived.Test.YticgcpebdldbgaaGreatDoorAbFive
import Derived.Test.YticgcpebdldbgaaGreatDoorAbFour
import Derived.Test.YticgcpebdldbgaaGreatDoorAbThree
set_option linter.unusedVariables false
set_option linter.unusedSimpArgs false
set_option maxHeartbeats 4000000
set_option maxRecDepth 4000
namespace Go.Proofs.YticgcpebdldbgaaGreatDoor.Ab
open Go.Proofs
structure KpG (h:AH) (P:Pz) (o o2:Nat) (Y:AH):Prop where
 long:h.length<=Y.length
 out:∀i,i<h.length->i≠o->i≠o2->i≠P.i->i≠P.j->i≠P.g->Y[i]? = h[i]?
def GfQ(h:AH)(P:Pz)(o o2:Nat):PR (List G×List ByteArray)->AOut->AH->Prop
 | .ok q _,x,h'=>x = .ret (.tup [])/\∃Y:{Y:AH // KpG h P o o2 Y/\Y[o]? = some (.cells 32 1 [.sl 3 (lvG gv h.length q.1) none])/\At Y h.length (layG 48 h.length q.1)/\Y[o2]? = some (.cells 33 1 [.sl 1 (strs q.2) none])},h'=Y.1
 | .err p e,x,h'=>x = .panic (Fl p e)/\∃Y:{Y:AH // KpG h P o o2 Y/\Y[o2]? = h[o2]?},h'=Y.1
def qV(l:List G):List G:=l.map fun g=>⟨g.op,g.name,maps (fun v=>((plc (ded [] (Qy l)) v:Nat):Int)) g.args⟩
def qN(s:PS)(l:List G):List ByteArray:=(ded [] (Qy l)).map fun v=>s.names.getD v.toNat eB
theorem QnY(s:PS):QgJ s=(Xp 40 s).bind fun l s=>(pEnd s).bind fun _ s=>.ok (qV l,qN s l) s:=rfl
theorem Qoc(l:List G):Q4 gG [] l=(qV l,ded [] (Qy l)):=by
 have:=QbK [] l []
 simp only[Qu5]at this
 exact this
mutual
theorem T.Quo:∀t:T,t.vars.length<=t.nds
 | .mk k i x l=>by
  have:=QfP l
  simp only[T.vars,T.nds]
  split
  ·simp
  ·split
   ·omega
   ·simp
theorem QfP:∀l:List T,(QG l).length<=ndsL l
 |[]=>by simp[QG]
 |t::l=>by
  have h1:=T.Quo t
  have h2:=QfP l
  simp only[QG,ndsL,Qvt]
  omega
end
theorem Qgx:∀l:List G,(Qy l).length<=ndG l
 |[]=>Nat.le_refl _
 |g::l=>by
  have h1:=QfP g.args
  have h2:=Qgx l
  have e:Qy (g::l)=QG g.args++Qy l:=by simp[Qy]
  rw[e,List.length_append,ndG];omega
section
variable{P:Pz}{s:PS}(hW:Wst P.all s){h:AH}(H:P.ok h)(hN:P.all.length<=1000000)(hD:TkOk P.all){o o2:Nat}(hol:o<h.length)(hoi:o≠P.i)(hoj:o≠P.j)(hog:o≠P.g)
 (hpl:o2<h.length) (hpi:o2≠P.i) (hpj:o2≠P.j) (hpg:o2≠P.g) (hoo:o≠o2)
include hW H hN hD hol hoi hoj hog hpl hpi hpj hpg hoo
theorem Qkd(hob:h[o]? = some (.cells 32 1 [nilV]))(hob2:h[o2]? = some (.cells 33 1 [nilV])):Qj Tryz.prog 28 [.ptr P.i 0 0,.ptr o 0 0,.ptr o2 0 0] (ph h P s) (GfQ h P o o2 (QgJ s)):=by
 have cg:=Qdg hW H hN hD 40 (by omega)
 rw[QnY]
 cases hr:Xp 40 s with
 |err p e =>
  rw[hr]at cg
  have cg2:Qj Tryz.prog 29 [.ptr P.i 0 0,.i 40] (ph h P s) fun o h'=>o = .panic (Fl p e)/\∃s2:PS,h'=ph h P s2:=cg
  refine Qa Tryz.func28 rfl Tryz.call28 Tryz.ntmps28 Tryz.results28 (by simp) ?_
  with_reducible repeat first|(first|refine Qf fun K E hK hE=>?_|refine FunW.panE (FunW.call cg2) fun r=>?_);simp only[go_sem,seval]|refine hE _ _ ?_
  exact .inr ⟨rfl,⟨_,⟨by rw[Qq];exact Nat.le_refl _,fun i h1 h2 h3 h4 h5 h6=>by rw[Yo H h4 h5 h6]⟩,by rw[Yo H hpi hpj hpg]⟩,rfl⟩
 |ok l s2 =>
  rw[hr]at cg
  have cg2:Qj Tryz.prog 29 [.ptr P.i 0 0,.i 40] (ph h P s) fun o h'=>o = .ret (.sl 3 (lvG gv h.length l) none)/\h'=ph h P s2++layG 48 h.length l:=cg
  have hW2:Wst P.all s2:=Kp.Ps.ok (n:=wdOf P.all) (Kp.goals_ps trivial 40) hW hr
  have hl0:=Qec hr
  have f1:=Qq h P s2
  obtain⟨X,hX⟩:∃X,X=(ph h P s2++layG 48 h.length l).set o (.cells 32 1 [.sl 3 (lvG gv h.length l) none]):=⟨_,rfl⟩
  have hXl:X.length=h.length+gsz l:=by rw[hX,List.length_set,List.length_append,Qq,Qm]
  have g0:(ph h P s2++layG 48 h.length l)[o]? = some (.cells 32 1 [nilV]):=by rw[List.getElem?_append_left (by omega),Yo H hoi hoj hog];exact hob
  have hXo:X[o]? = some (.cells 32 1 [.sl 3 (lvG gv h.length l) none]):=by rw[hX];exact List.getElem?_set_self (by rw[List.length_append];omega)
  have hXi:X[P.i]? = some (pN P s2 (some P.g)):=by rw[hX,List.getElem?_set_ne hoi,List.getElem?_append_left (by rw[f1];exact H.i),Xz H];rfl
  have hXlow:∀i,i<h.length->i≠o->i≠P.i->i≠P.j->i≠P.g->X[i]? = h[i]? := fun i h1 h2 h3 h4 h5=>by rw[hX,List.getElem?_set_ne (Ne.symm h2),List.getElem?_append_left (by omega),Yo H h3 h4 h5]
  have hXA:At X h.length (layG 48 h.length l):=by
   have:=At.base (At.mid [] (layG 48 h.length l) [] rfl) f1
   rw[List.nil_append,List.append_nil]at this
   refine At.keep this fun i i1 i2=>?_
   rw[hX,List.getElem?_set_ne (by omega)]
  have hi3:=hXi
  rw[pN]at hi3
  by_cases hk:s2.tk.kind=0
  ·have ce:=QkE hW2 hXi hk
   have hE:((PR.ok l s2).bind fun l s=>(pEnd s).bind fun _ s=>PR.ok (qV l,qN s l) s) = .ok (qV l,qN s2 l) s2:=by
    have:pEnd s2 = .ok () s2:=by rw[pEnd,if_pos hk]
    show(pEnd s2).bind _=_
    rw[this];rfl
   rw[hE]
   rw[hX]at ce hi3
   refine Qa Tryz.func28 rfl Tryz.call28 Tryz.ntmps28 Tryz.results28 (by simp) ?_
   iterate 6 (try (first|((first|(with_reducible (first|refine Qf fun K E hK hE=>?_|refine FunW.QtJ cg2 ?_|refine FunW.QtJ ce ?_)));simp only[go_sem,seval,g0,hi3])|((with_reducible refine hK _ ?_);clear hK)))
   rw[<-hX]
   have hXo2:X[o2]? = some (.cells 33 1 [nilV]):=by rw[hXlow o2 hpl (Ne.symm hoo) hpi hpj hpg];exact hob2
   refine XD o2 33 1 1 (.grow 9 1 0) (.inr ⟨_,rfl⟩) [nilV] [.sl 1 [] (some X.length)] 0 hXo2 rfl rfl (by simp[AV.cells]) ?_
   obtain⟨X2,hX2⟩:∃X2,X2=(X++[AB.grow 9 1 0]).set o2 (.cells 33 1 [.sl 1 [] (some X.length)]):=⟨_,rfl⟩
   rw[<-hX2]
   have hX2l:X2.length=X.length+1:=by rw[hX2,List.length_set,List.length_append];rfl
   have hX2e:∀i,i<X.length->i≠o2->X2[i]? = X[i]? := fun i h1 h2=>by rw[hX2,List.getElem?_set_ne (Ne.symm h2),List.getElem?_append_left h1]
   have hX2p:X2[o2]? = some (.cells 33 1 [.sl 1 [] (some X.length)]):=by rw[hX2];exact List.getElem?_set_self (by rw[List.length_append];omega)
   have hX2t:X2[X.length]? = some (.grow 9 1 0):=by rw[hX2,List.getElem?_set_ne (by omega),List.getElem?_append_right (Nat.le_refl _),Nat.sub_self];rfl
   iterate 2 (try (first|(((with_reducible refine Qf fun K E hK hE=>?_));simp only[go_sem,seval])|((with_reducible refine hK _ ?_);clear hK)))
   refine XD X2.length 80 2 1 (.grow 3 1 0) (.inr ⟨_,rfl⟩) [.agg [.v (.map none),.v (.slice none 0 0)]] [.agg [.v (.map none),.sl 1 [] (some (X2.length+1))]] 1 (by rw[List.getElem?_append_right (Nat.le_refl _),Nat.sub_self];rfl) rfl (by rw[List.length_append];rfl) (by simp[AV.cells]) ?_
   have hZ:((X2++[AB.cells 80 2 [.agg [.v (.map none),.v (.slice none 0 0)]]])++[AB.grow 3 1 0]).set X2.length (AB.cells 80 2 [.agg [.v (.map none),.sl 1 [] (some (X2.length+1))]])=X2++[AB.cells 80 2 [.agg [.v (.map none),.sl 1 [] (some (X2.length+1))]],AB.grow 3 1 0]:=by
    rw[List.append_assoc,List.set_append_right _ _ (Nat.le_refl _),Nat.sub_self];rfl
   have hN0:NSt (X2++[AB.cells 80 2 [.agg [.v (.map none),.sl 1 [] (some (X2.length+1))]],.grow 3 1 0]) X2.length []:=⟨.v (.map none),by rw[List.getElem?_append_right (Nat.le_refl _),Nat.sub_self];rfl,by rw[List.getElem?_append_right (by omega),Nat.add_sub_cancel_left];rfl,.inl ⟨rfl,rfl⟩⟩
   rw[hZ]
   obtain⟨Z0,hZ0⟩:∃Z0,Z0=X2++[AB.cells 80 2 [.agg [.v (.map none),.sl 1 [] (some (X2.length+1))]],AB.grow 3 1 0]:=⟨_,rfl⟩
   rw[<-hZ0]at hN0
   rw[<-hZ0]
   have hZl:Z0.length=X2.length+2:=by rw[hZ0,List.length_append];rfl
   have hZe:∀i,i<X2.length->Z0[i]? = X2[i]? := fun i h1=>by rw[hZ0,List.getElem?_append_left h1]
   obtain⟨hok,hl40⟩:=Qam hr
   have hps:∀g∈l,pss g.args:=fun g hg=>(QbH (hok g hg)).1
   have hnd:∀m:List G,(∀g∈m,ndsL g.args<=200)->ndG m<=200 * m.length:=fun m=>by
    induction m with
    |nil=>intro _;exact Nat.le_refl _
    |cons g m ih =>
     intro hm
     have h1:=hm g (by simp)
     have h2:=ih fun x hx=>hm x (by simp[hx])
     rw[ndG,List.length_cons];omega
   have hnl:=hnd l fun g hg=>(QbH (hok g hg)).2
   have hZA:At Z0 h.length (layG 48 h.length l):=hXA.keep fun i i1 i2=>by rw[Qm]at i2;rw[hZe i (by omega),hX2e i (by omega) (by omega)]
   have hZo:Z0[o]? = some (.cells 32 1 [.sl 3 (lvG gv h.length l) none]):=by rw[hZe o (by omega),hX2e o (by omega) hoo];exact hXo
   have c1:=retQ (QeV l hps Z0 X2.length h.length [] (by omega) (by simp only[QuQ];omega) (by omega) (by omega) hN0 hZA)
   rw[Qf9 gv 3 h.length hl0]at c1
   with_reducible repeat first|(first|refine Qf fun K E hK hE=>?_|refine FunW.retE (FunW.call c1) fun Y=>?_);simp only[go_sem,seval,hZo]|refine hK _ ?_;clear hK
   have hY:=Y.2
   generalize Y.1=Y1 at *
   obtain⟨_,p1,n1,a1⟩:=hY
   rw[Qoc]at n1 a1
   simp only at n1 a1
   obtain⟨toV,z1,z2,z3⟩:=n1
   have hvb:=Qo8 hr
   generalize hOr:ded [] (Qy l)=ord at *
   have hord:∀v∈ord,0<=v/\v<s2.names.length:=fun v hv=>hvb v (by rw[<-hOr,Za]at hv;exact hv.resolve_left (List.not_mem_nil))
   have hl1:X2.length+1<Y1.length:=Qe z2
   have hYe:∀i,i<X2.length->¬(h.length<=i/\i<h.length+gsz l)->Y1[i]? = X2[i]? := fun i h1 h2=>by rw[p1.out i h1 h2,hZe i h1]
   have hYi:Y1[P.i]? = some (pN P s2 (some P.g)):=by rw[hYe P.i (by have:=H.i;omega) (by have:=H.i;omega),hX2e P.i (by have:=H.i;omega) (Ne.symm hpi)];exact hXi
   have hYo:Y1[o]? = some (.cells 32 1 [.sl 3 (lvG gv h.length l) none]):=by rw[hYe o (by omega) (by omega),hX2e o (by omega) hoo];exact hXo
   have hYp:Y1[o2]? = some (.cells 33 1 [.sl 1 [] (some X.length)]):=by rw[hYe o2 (by omega) (by omega)];exact hX2p
   have hYt:Y1[X.length]? = some (.grow 9 1 0):=by rw[hYe X.length (by omega) (by omega)];exact hX2t
   have hYk:KpG h P o o2 Y1:=⟨by omega,fun i h1 h2 h3 h4 h5 h6=>by rw[hYe i (by omega) (by omega),hX2e i (by omega) h3];exact hXlow i h1 h2 h4 h5 h6⟩
   have hqn:qN s2 l=ord.map fun v=>s2.names.getD v.toNat eB:=by rw[qN,hOr]
   have hnm:(qN s2 l).length=ord.length:=by rw[hqn,List.length_map]
   have hob:ord.length<=1000000:=by
    have:=Xq [] (Qy l)
    have h3:(Qy l).length<=ndG l:=Qgx l
    rw[hOr]at this
    simp only[QuQ]at this
    omega
   simp only[Xt,QuC,QuD,QuE,Ys,z1,Ys]
   iterate 1 (try (((with_reducible refine hK _ ?_);clear hK)))
   iterate 2 (try ((with_reducible refine QI ?_)))
   obtain⟨I,hI⟩:∃I:Nat->AS->Prop,I=fun m' s=>∃j:Nat,m'=ord.length - j/\j<=ord.length/\s.h.length=Y1.length/\(∀i,i≠o2->i≠X.length->s.h[i]? = Y1[i]?)/\s.h[o2]? = some (.cells 33 1 [.sl 1 (strs ((qN s2 l).take j)) (some X.length)])/\s.h[X.length]? = some (.grow 9 1 j)/\s.tm 0 = .ptr P.i 0 0/\s.tm 2 = .ptr o2 0 0/\s.tm 16 = .sl 1 (ints ord) (some (X2.length+1))/\s.tm 17 = .i ord.length/\s.tm 18 = .i j:=⟨_,rfl⟩;refine Qi I ?_ (m:=ord.length) ?_
   ·intro m' s hs;rw[hI]at hs;obtain⟨tm,hp⟩:=s;dsimp only at hs;obtain⟨j,rfl,hj,hle,hfr,hs2,hst,t0,t2,t16,t17,t18⟩:=hs
    have hpi2:hp[P.i]? = some (pN P s2 (some P.g)):=by rw[hfr P.i (Ne.symm hpi) (by have:=H.i;omega)];exact hYi
    rw[pN]at hpi2
    by_cases hlt:j<ord.length
    ·have y1:((j:Nat):Int)<((ord.length:Nat):Int):=by omega
     have hv:=hord _ (List.getElem_mem hlt)
     obtain⟨k,hk⟩:∃k:Nat,ord[j]=(k:Int):=⟨ord[j].toNat,by omega⟩
     have hat:(ints ord)[j]? = some (.i ((k:Nat):Int)):=by rw[<-hk];exact QbJ hlt
     rw[hk]at hv
     have hkl:k<s2.names.length:=by omega
     have hnk:(strs s2.names)[k]? = some (.v (.string s2.names[k])):=by rw[strs,List.getElem?_map,List.getElem?_eq_getElem hkl];rfl
     have w1:IntKind.i64.wrap (((j:Nat):Int)+1)=((j+1:Nat):Int):=Qz (by omega)
     have htl:(strs ((qN s2 l).take j)).length=j:=by rw[Xd,List.length_take,hnm];omega
     have hm1:(j+1) * 16<=140737488355328:=by omega
     have hm2:j+1<=maxLen:=by simp only[maxLen];omega
     have hX9:X.length<hp.length:=Qe hst
     have u1:∀y,(hp.set X.length y)[o2]? = some (.cells 33 1 [.sl 1 (strs ((qN s2 l).take j)) (some X.length)]):=fun y=>by rw[List.getElem?_set_ne (by omega)];exact hs2
     have hnext:strs ((qN s2 l).take (j+1))=strs ((qN s2 l).take j)++[.v (.string s2.names[k])]:=by
      rw[List.take_succ_eq_append_getElem (by omega),QaW]
      congr 1
      simp only[hqn,List.getElem_map,hk,Qvf,strs,QuR,QuV]
      rw[List.getD_eq_getElem?_getD,List.getElem?_eq_getElem hkl];rfl
     repeat first|(first|with_reducible (first|refine Qf fun K E hK hE=>?_|refine QC fun K E hK hE=>?_)|refine Qn (id:=7) [(0,0),(1,0),(2,0),(3,0),(4,0),(5,0),(6,0),(7,0),(8,0),(9,2),(10,2)] mixed (by kernel_rfl) fun K hK=>?_);simp only[go_sem,seval,t0,t2,t16,t17,t18,y1,hat,hs2,hst,hpi2,hkl,hnk,Xd,htl,hm1,hm2,u1,w1]|with_reducible (first|refine Qo fun K hK=>?_|refine QI ?_|refine QR ?_|refine Qh ?_|refine Xm ?_|refine hK _ ?_;clear hK|refine Qk rfl ?_;simp only[↓reduceIte])
     refine Qv.mk (m':=ord.length - (j+1)) (by omega) ?_
     rw[hI]
     refine⟨j+1,rfl,hlt,by simp only[List.length_set];exact hle,fun i h1 h2=>by rw[List.getElem?_set_ne (Ne.symm h1),List.getElem?_set_ne (Ne.symm h2)];exact hfr i h1 h2,?_,?_,t0,t2,t16,t17,rfl⟩
     ·rw[hnext];exact List.getElem?_set_self (by rw[List.length_set];omega)
     ·rw[List.getElem?_set_ne (by omega)];exact List.getElem?_set_self hX9
    ·have hjl:j=ord.length:=by omega
     have y1:¬((j:Nat):Int)<((ord.length:Nat):Int):=by omega
     have hX9:X.length<hp.length:=Qe hst
     refine YU o2 33 1 [.sl 1 (strs ((qN s2 l).take j)) (some X.length)] [.sl 1 (strs ((qN s2 l).take j)) none] 0
      (Wk.sl rfl (fun y hy=>by obtain⟨x,_,rfl⟩:=List.mem_map.1 hy;rfl) (WkL.refl _)) hs2 rfl rfl (fun x hx=>by rw[List.mem_singleton]at hx;subst hx;rfl) ?_
     with_reducible repeat first|refine Qf fun K E hK hE=>?_;simp only[go_sem,seval,t17,t18,y1]|refine Qo fun K hK=>?_|refine YS ?_|refine Yv ?_|refine Yu ?_|refine hK _ ?_;clear hK|refine Qk rfl ?_;simp only[↓reduceIte,QuG]
     simp only[go_sem]
     have elv:lvG gv h.length (qV l)=lvG gv h.length l:=by
      have:=QjU Qqe h.length [] l
      rw[Qoc]at this
      exact this
     have egs:gsz (qV l)=gsz l:=by
      have:=XV [] l
      rw[Qoc]at this
      exact this
     have htk:(qN s2 l).take j=qN s2 l:=List.take_of_length_le (by omega)
     refine .inr ⟨rfl,⟨_,⟨by rw[List.length_set,hle];exact hYk.long,fun i h1 h2 h3 h4 h5 h6=>?_⟩,?_,?_,?_⟩,rfl⟩
     ·rw[List.getElem?_set_ne (Ne.symm h3),hfr i h3 (by omega)];exact hYk.out i h1 h2 h3 h4 h5 h6
     ·rw[List.getElem?_set_ne (Ne.symm hoo),hfr o hoo (by omega),elv];exact hYo
     ·refine a1.keep fun i i1 i2=>?_
      rw[Qm,egs]at i2
      rw[List.getElem?_set_ne (by omega),hfr i (by omega) (by omega)]
     ·rw[htk];exact List.getElem?_set_self (by omega)
   ·rw[hI]
    exact⟨0,rfl,Nat.zero_le _,rfl,fun _ _ _=>rfl,hYp,hYt,rfl,rfl,rfl,rfl,rfl⟩
  ·have ce:=Qna hW2 hXi hk
   have hE:((PR.ok l s2).bind fun l s=>(pEnd s).bind fun _ s=>PR.ok (qV l,qN s l) s) = .err s2.tk.pos 16:=by
    have:pEnd s2 = .err s2.tk.pos 16:=by rw[pEnd,if_neg hk]
    show(pEnd s2).bind _=_
    rw[this];rfl
   rw[hE]
   rw[hX]at ce hi3
   refine Qa Tryz.func28 rfl Tryz.call28 Tryz.ntmps28 Tryz.results28 (by simp) ?_
   with_reducible repeat first|(first|refine Qf fun K E hK hE=>?_|refine FunW.QtJ cg2 ?_|refine FunW.pan (FunW.call ce) ?_);simp only[go_sem,seval,g0,hi3]|refine hK _ ?_;clear hK|refine hE _ _ ?_
   refine .inr ⟨rfl,⟨_,?_⟩,rfl⟩
   rw[<-hX]
   exact⟨⟨by omega,fun i h1 h2 h3 h4 h5 h6=>hXlow i h1 h2 h4 h5 h6⟩,hXlow o2 hpl (Ne.symm hoo) hpi hpj hpg⟩
end
end Go.Proofs.YticgcpebdldbgaaGreatDoor.Ab
set_option maxRecDepth 4000
namespace Go.Proofs.YticgcpebdldbgaaGreatDoor.Ab
open Go.Proofs
abbrev cG(v:AV):AB:=.cells 32 1 [v]
abbrev cS(v:AV):AB:=.cells 33 1 [v]
def Qi2(l:List UInt8):(List G×List ByteArray) ⊕ (Int×Int):=match XN l with
 | .inr e=>.inr e
 | .inl ts=>match QgJ ⟨ts,[]⟩with
  | .ok p _=>.inl p
  | .err p e=>.inr (p,e)
theorem Qj7{all:List Tk}{s:PS}(hW:Wst all s){p e:Int}(h:QgJ s = .err p e):e≠0:=Kp.Ps.err (n:=wdOf all) (Kp.query_ps trivial) hW h
def SqQ(h:AH):(List G×List ByteArray) ⊕ (Int×Int)->AOut->AH->Prop
 | .inl q,o,h'=>∃n,h.length<=n/\o = .ret (.tup [.sl 3 (lvG gv n q.1) none,.sl 1 (strs q.2) none,.i 0,.i 0])/\At h' n (layG 48 n q.1)/\h.length<=h'.length/\h'.take h.length=h
 | .inr e,o,h'=>o = .ret (.tup [nilV,nilV,.i e.1,.i e.2])/\h'=h
def sqR:(List G×List ByteArray) ⊕ (Int×Int)->AV
 | .inl q=>.tup [.sl 3 (vs G.goal q.1) none,.sl 1 (strs q.2) none,.i 0,.i 0]
 | .inr e=>.tup [nilV,nilV,.i e.1,.i e.2]
theorem Qjo(n:Nat)(a b:Int):Below n (.tup [nilV,nilV,.i a,.i b]):=.tup _ fun x hx=>by
 simp only[List.mem_cons,List.not_mem_nil,or_false]at hx
 rcases hx with rfl|rfl|rfl|rfl <;> exact .v _
theorem QeF{P:Program}{f:FuncId}{args:List AV}{h:AH}{Q Q0:AOut->AH->Prop}(H:Qj P f args h Q0)
  (hp:(∀(i:Nat) b,h[i]? = some b->b.Below h.length)->∀o h',Q0 o h'->Q o h'\/∃l l',o = .ret (.tup l)/\h.length<=h'.length/\(∀b∈h'.take h.length,b.Below h.length)/\l'.length=l.length/\(∀(j:Nat) a a',l[j]? = some a->l'[j]? = some a'->Melt h' h.length a a')/\Q (.ret (.tup l')) (h'.take h.length)):Qj P f args h Q:=by
 refine⟨H.1,fun F n c vals hF hs hh hvs=>(H.2 F n c vals hF hs hh hvs).mono ?_⟩
 rintro e w' ⟨o,c',hQ,hev,hst,hw,hex⟩
 rcases hp (fun i b hb=>by subst hh;exact hs.below hb) o c'.h hQ with hq|⟨l,l',rfl,h1,h2,hl,h3,h4⟩
 ·exact⟨o,c',hq,hev,hst,hw,hex⟩
 ·obtain⟨x,rfl,hr⟩:=hex
  refine⟨.ret (.tup l'),c'.cut h.length,h4,hev.cut (by rw[hh];exact Nat.le_refl _) h1,hst.cut h1 h2,hw,x,rfl,?_⟩
  cases hr with
  |tup _ cs hl' hr =>
   refine .tup _ cs (by omega) fun j a' u ha' hu=>?_
   obtain⟨a,ha⟩:∃a,l[j]? = some a:=⟨_,List.getElem?_eq_getElem (by rw[<-hl];exact Qe ha')⟩
   exact(h3 j a a' ha ha').rel hst h1 (hr j a u ha hu)
section
variable(l:List UInt8)(h:AH)(hG:Zf h)
include hG
theorem Qod:Qj Tryz.prog 10 [.v (.string (mkB l))] h (SqQ h (Qi2 l)):=by
 rw[Qi2]
 cases hs:XN l with
 |inr q =>
  obtain⟨p,e⟩:=q
  have cr:=fun fv L=>Qfw hs fv (h++L) (hG.app L)
  have e0:(e != 0)=true:=by simpa using ZB hs
  refine Qa Tryz.func10 rfl Tryz.call10 Tryz.ntmps10 Tryz.results10 (by simp) ?_
  repeat first|(first|refine FunW.QtJ (cr _ _) ?_|refine Qb ?_);simp only[go_sem,seval,e0]|refine hK _ ?_;clear hK
  exact Qc (htake _ _) (.keep (Qjo _ _ _)) ⟨rfl,rfl⟩
 |inl ts =>
  obtain⟨hD,hW,hN,hl⟩:=QbR hs
  obtain⟨H,hH⟩:∃H,H=h++[cS nilV,cG nilV]:=⟨_,rfl⟩
  have hHl:H.length=h.length+2:=by rw[hH];simp
  have hHG:Zf H:=by rw[hH];exact hG.app _
  have hPo:=QqG H ts (.cells 61 4 [.agg [.sl 3 (tks ts) none,.i 0,.v (.slice none 0 0),.v (.map none)]])
  have hout:∀i,i<h.length->(H++[iC 0,eC 0,.cells 61 4 [.agg [.sl 3 (tks ts) none,.i 0,.v (.slice none 0 0),.v (.map none)]]]++[.dead,.dead])[i]? = h[i]? := fun i hi=>by
   rw[List.append_assoc,List.getElem?_append_left (by omega),hH,List.getElem?_append_left hi]
  have hlen:(H++[iC 0,eC 0,.cells 61 4 [.agg [.sl 3 (tks ts) none,.i 0,.v (.slice none 0 0),.v (.map none)]]]++[AB.dead,.dead]).length=h.length+7:=by simp only[Qvt,QuP,QuQ,hHl]
  have cf:=Qkd (P:=P0 H ts) (s:=⟨ts,[]⟩) hW hPo hN hD (o:=h.length+1) (o2:=h.length) (by omega) (by simp only[P0];omega) (by simp only[P0];omega) (by simp only[P0];omega) (by omega) (by simp only[P0];omega) (by simp only[P0];omega) (by simp only[P0];omega) (by omega)
   (by rw[List.append_assoc,List.getElem?_append_left (by omega),hH,hget];rfl) (by rw[List.append_assoc,List.getElem?_append_left (by omega),hH,Y8];rfl)
  have hst:∀(K:AH->Prop) (Y:AH) a b L,H.length+1<Y.length->(∀i,i<h.length->Y[i]? = h[i]?)->∀i,i<h.length->((Y.set H.length a).set (H.length+1) b++L)[i]? = h[i]? := fun K Y a b L hl hy i hi=>by
   rw[List.getElem?_append_left (by simp only[List.length_set];omega),List.getElem?_set_ne (by omega),List.getElem?_set_ne (by omega)];exact hy i hi
  have hc0:∀Y,KpG (H++[iC 0,eC 0,.cells 61 4 [.agg [.sl 3 (tks ts) none,.i 0,.v (.slice none 0 0),.v (.map none)]]]++[AB.dead,.dead]) (P0 H ts) (h.length+1) h.length Y->Y[H.length]? = some (iC 0)/\Y[H.length+1]? = some (eC 0)/\h.length+7<=Y.length/\(∀i,i<h.length->Y[i]? = h[i]?):=fun Y hY=>by
   refine⟨?_,?_,by have:=hY.long;omega,fun i hi=>?_⟩
   ·rw[hY.out H.length (by omega) (by omega) (by omega) (by simp only[P0];omega) (by simp only[P0];omega) (by simp only[P0];omega),List.append_assoc,Y8];rfl
   ·rw[hY.out (H.length+1) (by omega) (by omega) (by omega) (by simp only[P0];omega) (by simp only[P0];omega) (by simp only[P0];omega),List.append_assoc,hget];rfl
   ·rw[hY.out i (by omega) (by omega) (by omega) (by simp only[P0];omega) (by simp only[P0];omega) (by simp only[P0];omega)];exact hout i hi
  cases hp:QgJ ⟨ts,[]⟩with
  |err p e =>
   rw[hp]at cf
   have e0:(e != 0)=true:=by simpa using Qj7 hW hp
   have cr:=QhH hs (.fn (.func 28) [] [.ptr (h.length+1) 0 0,.ptr h.length 0 0]) H hHG (fun Y=>h.length+2<=Y.length/\(∀i,i<h.length->Y[i]? = h[i]?)/\Y[h.length]? = some (cS nilV))
    (fun Y a b L hl hy=>⟨by simp only[Qvt,List.length_set];omega,hst (fun _=>True) Y a b L hl hy.2.1,by rw[List.getElem?_append_left (by simp only[List.length_set];omega),List.getElem?_set_ne (by omega),List.getElem?_set_ne (by omega)];exact hy.2.2⟩) (p:=p) (e:=e)
    (FunW.cl (cf.mono fun o h' q=>by
     obtain⟨q1,⟨Y,hY,hY2⟩,q2⟩:=q
     obtain⟨y1,y2,y3,y4⟩:=hc0 Y hY
     exact⟨q1,⟨Y,y1,y2,by omega,y4,by rw[hY2,List.append_assoc,List.getElem?_append_left (by omega),hH,Y8];rfl⟩,q2⟩))
   rw[hH]at cr
   refine Qa Tryz.func10 rfl Tryz.call10 Tryz.ntmps10 Tryz.results10 (by simp) ?_
   repeat first|(first|refine FunW.retE (FunW.call cr) fun Y=>?_|refine Qb ?_);simp only[go_sem,seval,e0,Qvt]|refine hK _ ?_;clear hK
   have hY:=Y.2
   generalize Y.1=Y1 at *
   obtain⟨y0,y1,y2⟩:=hY
   have u1:∀y,(Y1.set h.length y)[h.length]? = some y:=fun y=>List.getElem?_set_self (by omega)
   have ht:∀y,(Y1.set h.length y).take h.length=h:=fun y=>List.ext_getElem? fun i=>by
    by_cases hi:i<h.length
    ·rw[List.getElem?_take_of_lt hi,List.getElem?_set_ne (by omega)];exact y1 i hi
    ·rw[List.getElem?_take_eq_none (by omega),List.getElem?_eq_none (by omega)]
   simp only[Qbc,Qbn,↓reduceIte,QuP,QuQ,QuO,Qva,QuC,Qu6,QuE,y2]
   repeat first|refine Qb ?_;simp only[go_sem,seval]|refine hK _ ?_;clear hK
   simp only[go_sem,seval,u1]
   refine Qc (ht _) (.keep (Qjo _ _ _)) ?_
   simp only[hp];exact⟨rfl,rfl⟩
  |ok pg s2 =>
   rw[hp]at cf
   have e0:((0:Int) != 0)=false:=rfl
   have cr:=Qkg hs (.fn (.func 28) [] [.ptr (h.length+1) 0 0,.ptr h.length 0 0]) H hHG (fun Y=>h.length+7<=Y.length/\(∀i,i<h.length->Y[i]? = h[i]?)/\Y[h.length+1]? = some (cG (.sl 3 (lvG gv (h.length+7) pg.1) none))/\At Y (h.length+7) (layG 48 (h.length+7) pg.1)/\Y[h.length]? = some (cS (.sl 1 (strs pg.2) none)))
    (fun Y a b L hl hy=>⟨by simp only[Qvt,List.length_set];omega,hst (fun _=>True) Y a b L hl hy.2.1,by rw[List.getElem?_append_left (by simp only[List.length_set];omega),List.getElem?_set_ne (by omega),List.getElem?_set_ne (by omega)];exact hy.2.2.1,
     (hy.2.2.2.1.keep fun i i1 i2=>by rw[List.getElem?_set_ne (by omega),List.getElem?_set_ne (by omega)]).app L,
     by rw[List.getElem?_append_left (by simp only[List.length_set];omega),List.getElem?_set_ne (by omega),List.getElem?_set_ne (by omega)];exact hy.2.2.2.2⟩)
    (FunW.cl (cf.mono fun o h' q=>by
     obtain⟨q1,⟨Y,hY,hY1,hY2,hY3⟩,q2⟩:=q
     rw[hlen]at hY1 hY2
     obtain⟨y1,y2,y3,y4⟩:=hc0 Y hY
     exact⟨q1,⟨Y,y1,y2,y3,y4,hY1,hY2,hY3⟩,q2⟩))
   rw[hH]at cr
   refine Qa Tryz.func10 rfl Tryz.call10 Tryz.ntmps10 Tryz.results10 (by simp) ?_
   repeat first|(first|refine FunW.retE (FunW.call cr) fun Y=>?_|refine Ql (id:=5) [(0,0),(1,0),(2,0),(3,2),(4,0),(5,0)] mixed (by kernel_rfl) fun K hK=>?_|refine Qb ?_);simp only[go_sem,seval,Qvt]|refine hK _ ?_;clear hK
   have hY:=Y.2
   generalize Y.1=Y1 at *
   obtain⟨y0,y1,y2,y3,y4⟩:=hY
   have u1:∀y,(Y1.set h.length y)[h.length]? = some y:=fun y=>List.getElem?_set_self (by omega)
   have u2:∀y,(Y1.set h.length y)[h.length+1]? = some (cG (.sl 3 (lvG gv (h.length+7) pg.1) none)):=fun y=>by rw[List.getElem?_set_ne (by omega)];exact y2
   simp only[Qcu,QcB,QuW,QuX,QaC,QuY,↓reduceIte,QuP,QuQ,QuO,Qva,QuC,Qu6,QuE,y2,y4]
   repeat first|refine Qb ?_;simp only[go_sem,seval]|refine hK _ ?_;clear hK
   simp only[go_sem,seval,u1]
   simp only[Qjw,hp]
   refine .inr ⟨h.length+7,by omega,rfl,y3.keep fun i i1 i2=>?_,by rw[List.length_set];omega,?_⟩
   ·rw[List.getElem?_set_ne (by omega)]
   ·exact List.ext_getElem? fun i=>by
     by_cases hi:i<h.length
     ·rw[List.getElem?_take_of_lt hi,List.getElem?_set_ne (by omega)];exact y1 i hi
     ·rw[List.getElem?_take_eq_none (by omega),List.getElem?_eq_none (by omega)]
theorem Qj8:Qj Tryz.prog 10 [.v (.string (mkB l))] h fun o h'=>o = .ret (sqR (Qi2 l))/\h'=h:=by
 refine QeF (Qod l h hG) fun hbel o h' q=>?_
 cases hq:Qi2 l with
 |inr e=>rw[hq]at q;exact .inl q
 |inl g =>
  rw[hq]at q
  obtain⟨n,hn,rfl,hA,hl,ht⟩:=q
  refine .inr ⟨_,[.sl 3 (vs G.goal g.1) none,.sl 1 (strs g.2) none,.i 0,.i 0],rfl,hl,fun b hb=>?_,rfl,fun j a a' h1 h2=>?_,rfl,ht⟩
  ·rw[ht]at hb
   obtain⟨k,hk⟩:=List.mem_iff_getElem?.1 hb
   exact hbel k b hk
  ·match j,h1,h2 with
   |0,h1,h2 =>
    cases h1;cases h2
    obtain⟨e1,e2⟩:=Qhu (m:=h.length) (w:=3) (vw:=gv) (vA:=G.goal) (fun _ _=>rfl) (fun _=>rfl) (fun n g hm hA j a a' h1 h3=>by
     match j,h1,h3 with
     |0,h1,h3=>cases h1;cases h3;exact .keep (.v _)
     |1,h1,h3=>cases h1;cases h3;exact .keep (.v _)
     |2,h1,h3=>cases h1;cases h3;exact Qfe hm hA
     |j+3,h1,h3=>simp[gv,AV.cells]at h1) n g.1 hn hA
    exact .sl (by rw[QS,X1]) (fun y hy=>by obtain⟨x,_,rfl⟩:=List.mem_map.1 hy;rfl) e1 e2
   |1,h1,h2=>cases h1;cases h2;exact .keep (.sl 1 _ none (QbC _ _) (fun b hb=>by cases hb))
   |2,h1,h2=>cases h1;cases h2;exact .keep (.v _)
   |3,h1,h2=>cases h1;cases h2;exact .keep (.v _)
   |j+4,h1,h2=>simp at h1
end
end Go.Proofs.YticgcpebdldbgaaGreatDoor.Ab
set_option maxRecDepth 4000
namespace Go.Proofs.YticgcpebdldbgaaGreatDoor.Ab
open Go.Proofs
theorem Qbz(b:Nat)(l:List G):c1ok (rowW b l):=by unfold rowW;split <;> exact⟨rfl,rfl,rfl⟩
theorem Qby(b:Nat){l:List G}{j:Nat}(h:j<l.length):rowW b l = .arr b 0 l.length:=by
 cases l with
 |nil=>cases h
 |cons a l=>rfl
theorem YC(vw:G->AV)(ty w:Nat){l:List G}{j:Nat}(h:j<l.length):blkW vw ty w l = .cells ty w (vs vw l):=by
 cases l with
 |nil=>cases h
 |cons a l=>rfl
def mixG(f:Int->Int)(l:List G)(j:Nat):List G:=mG f (l.take j)++l.drop j
theorem QcF(f:Int->Int)(l:List G):mixG f l 0=l:=by simp[mixG,mG]
theorem Qei(f:Int->Int)(l:List G):mixG f l l.length=mG f l:=by simp[mixG]
theorem YK(f:Int->Int)(l:List G){j:Nat}(h:j<=l.length):(mixG f l j).length=l.length:=by
 simp only[mixG,mG,Qvt,List.length_map,List.length_take,List.length_drop];omega
theorem Qej(f:Int->Int)(vw:G->AV){l:List G}{j:Nat}(h:j<l.length):(vs vw (mixG f l j))[j]? = some (vw l[j]):=by
 have h1:(mG f (l.take j)).length=j:=by simp only[mG,List.length_map,List.length_take];omega
 rw[vs,List.getElem?_map,mixG,List.getElem?_append_right (by omega),h1,Nat.sub_self,List.drop_eq_getElem_cons h];rfl
theorem Qek(f:Int->Int)(vw:G->AV){l:List G}{j:Nat}(h:j<l.length):(vs vw (mixG f l j)).set j (vw ⟨(l[j]).op,(l[j]).name,maps f (l[j]).args⟩)=vs vw (mixG f l (j+1)):=by
 have h1:(mG f (l.take j)).length=j:=by simp only[mG,List.length_map,List.length_take];omega
 rw[mixG,mixG,List.drop_eq_getElem_cons h,List.take_succ_eq_append_getElem h,QbD,List.set_append_right _ _ (by rw[QS];omega),QS,h1,Nat.sub_self]
 simp only[mG,List.map_append,vs,QuR,QuV,Qu6,List.append_assoc,Qu4,Qu3]
theorem QcA{l:List G}{j:Nat}(h:j<l.length):Qy (l.drop j)=QG (l[j]).args++Qy (l.drop (j+1)):=by
 rw[List.drop_eq_getElem_cons h];unfold Qy;rw[List.flatMap_cons]
theorem Qk3{l:List G}{j:Nat}(h:j<l.length):ndG (l.drop j)=ndsL (l[j]).args+ndG (l.drop (j+1)):=by
 rw[List.drop_eq_getElem_cons h,ndG]
theorem QbI{l:List G}{j:Nat}(h:j<l.length):∀v∈QG (l[j]).args,v∈Qy l:=fun v hv=>by
 unfold Qy
 rw[List.mem_flatMap]
 exact⟨l[j],List.getElem_mem h,hv⟩
theorem Qln{l:List G}(h:SmG l){j:Nat}(hj:j<l.length):ndsL (l[j]).args<=2400:=by
 have:∀(l:List G) (j:Nat) (hj:j<l.length),ndsL (l[j]).args<=ndG l:=fun l=>by
  induction l with
  |nil=>intro j hj;simp at hj
  |cons g l ih =>
   intro j hj
   cases j with
   |zero=>rw[ndG];show ndsL g.args<=_;omega
   |succ j=>rw[ndG];have:=ih j (by simpa using hj);simp only[List.getElem_cons_succ];omega
 exact Nat.le_trans (this l j hj) h.2.1
def RuC(h:AH)(i:Nat)(all:List Tk):PR Rl->AOut->AH->Prop
 | .ok r s,o,h'=>∃H0 Z,o = .ret (.tup [.agg [.v (.string r.name),rowW H0.length r.keep,rowW (H0.length+1) r.remove,rowW (H0.length+2) r.guard,rowW (H0.length+3) r.body,.i r.vars],.b true])/\h'=H0++(blkA r.keep::blkA r.remove::blkG r.guard::blkG r.body::Z)/\h.length<=H0.length/\H0.take h.length=hs h i (rdB all none s 0 0)
 | .err p e,o,h'=>∃s Z,o = .ret (.tup [.agg [.v (.string eB),nilV,nilV,nilV,nilV,.i 0],.b false])/\h.length<=Z.length/\h'=Z/\Z.take h.length=hs h i (rdB all none s p e)
def QsA(h:AH)(i:Nat)(all:List Tk):PR Rl->AOut->AH->Prop
 | .ok r s,o,h'=>o = .ret (.tup [r.av,.b true])/\h'=hs h i (rdB all none s 0 0)
 | .err p e,o,h'=>o = .ret (.tup [(⟨eB,[],[],[],[],0⟩:Rl).av,.b false])/\∃s,h'=hs h i (rdB all none s p e)
theorem Qeh{h':AH}{m:Nat}{vw:G->AV}{ty w:Nat}(hv:vwOk vw w){l:List G}{id:Nat}(hi:m<=id)(hg:h'[id]? = some (blkW vw ty w l)):Melt h' m (rowW id l) (.sl w (vs vw l) none):=by
 cases l with
 |nil=>exact .nil w
 |cons a l =>
  refine .arr hi hg (QS _ _) (fun y hy=>by obtain⟨x,_,rfl⟩:=List.mem_map.1 hy;exact hv.1 x) (Nat.le_refl _) fun j b b' e1 e2=>?_
  rw[e1]at e2
  cases e2
  refine .keep ?_
  obtain⟨x,hx,hxa⟩:=List.mem_flatMap.1 (List.mem_of_getElem? e1)
  obtain⟨y,_,rfl⟩:=List.mem_map.1 hx
  exact hv.2 _ y b hxa
theorem Qqg{h:AH}{i:Nat}(hi:i<h.length)(all:List Tk)(x:AB)(s:PS)(p e:Int)(hb:∀(k:Nat) b,(hs h i x)[k]? = some b->b.Below h.length):∀b∈hs h i (rdB all none s p e),b.Below h.length:=fun b hb2=>by
 obtain⟨k,hk⟩:=Yt hb2
 by_cases h1:i=k
 ·subst h1;rw[Qnn hi]at hk;cases hk;exact Zy _ (fun g hg=>by cases hg) _ _ _
 ·refine hb k b ?_
  unfold hs at hk ⊢
  rw[List.getElem?_set_ne h1]at hk ⊢
  exact hk
theorem QpN{f:FuncId}{args:List AV}{h:AH}{i:Nat}(hi:i<h.length){all:List Tk}{x:AB}{r:PR Rl}(C:Qj Tryz.prog f args (hs h i x) (RuC h i all r)):Qj Tryz.prog f args (hs h i x) (QsA h i all r):=by
 refine QeF C fun hb0 o h' hQ=>?_
 rw[ZX]at hb0 ⊢
 cases r with
 |err p e =>
  obtain⟨s,Z,rfl,hz,rfl,ht⟩:=hQ
  refine .inr ⟨_,[(⟨eB,[],[],[],[],0⟩:Rl).av,.b false],rfl,hz,?_,rfl,fun j a a' e1 e2=>?_,rfl,s,ht⟩
  ·rw[ht];exact Qqg hi all x s p e hb0
  ·match j,e1,e2 with
   |0,e1,e2 =>
    cases e1;cases e2
    refine .agg rfl fun j a a' e1 e2=>?_
    match j,e1,e2 with
    |0,e1,e2=>cases e1;cases e2;exact .keep (.v _)
    |1,e1,e2=>cases e1;cases e2;exact .nil 2
    |2,e1,e2=>cases e1;cases e2;exact .nil 2
    |3,e1,e2=>cases e1;cases e2;exact .nil 3
    |4,e1,e2=>cases e1;cases e2;exact .nil 3
    |5,e1,e2=>cases e1;cases e2;exact .keep (.v _)
    |j+6,e1,e2=>simp at e1
   |1,e1,e2=>cases e1;cases e2;exact .keep (.v _)
   |j+2,e1,e2=>simp at e1
 |ok r s =>
  obtain⟨H0,Z,rfl,rfl,hz,ht⟩:=hQ
  have htk:(H0++(blkA r.keep::blkA r.remove::blkG r.guard::blkG r.body::Z)).take h.length=hs h i (rdB all none s 0 0):=by rw[List.take_append_of_le_length hz];exact ht
  refine .inr ⟨_,[r.av,.b true],rfl,by rw[List.length_append];omega,?_,rfl,fun j a a' e1 e2=>?_,rfl,htk⟩
  ·rw[htk];exact Qqg hi all x s 0 0 hb0
  ·match j,e1,e2 with
   |0,e1,e2 =>
    cases e1;cases e2
    refine .agg rfl fun j a a' e1 e2=>?_
    match j,e1,e2 with
    |0,e1,e2=>cases e1;cases e2;exact .keep (.v _)
    |1,e1,e2=>cases e1;cases e2;exact Qeh Qa9 hz (by rw[List.getElem?_append_right (Nat.le_refl _),Nat.sub_self];rfl)
    |2,e1,e2=>cases e1;cases e2;exact Qeh Qa9 (by omega) (by rw[List.getElem?_append_right (by omega),Nat.add_sub_cancel_left];rfl)
    |3,e1,e2=>cases e1;cases e2;exact Qeh Qbi (by omega) (by rw[List.getElem?_append_right (by omega),Nat.add_sub_cancel_left];rfl)
    |4,e1,e2=>cases e1;cases e2;exact Qeh Qbi (by omega) (by rw[List.getElem?_append_right (by omega),Nat.add_sub_cancel_left];rfl)
    |5,e1,e2=>cases e1;cases e2;exact .keep (.v _)
    |j+6,e1,e2=>simp at e1
   |1,e1,e2=>cases e1;cases e2;exact .keep (.v _)
   |j+2,e1,e2=>simp at e1
theorem FunW.retV{P:Program}{α:Type}{fv:AV}{args:List AV}{h:AH}{h':α->AH}{r:α->AV}{Q:AOut->AH->Prop}(H:FunW P fv args h fun o h2=>∃x,o = .ret (r x)/\h2=h' x)(k:∀x,Q (.ret (r x)) (h' x)):FunW P fv args h Q:=H.mono (by rintro _ _ ⟨x,rfl,rfl⟩;exact k x)
structure EW where
 x:ByteArray
 a:AV
 b:AV
 c:AV
 d:AV
 s:PS
 Y:AH
 ha:c1ok a
 hb:c1ok b
 hc:c1ok c
 hd:c1ok d
theorem Qrf(f:Int->Int)(b:Nat)(l:List G):rowW b (mG f l)=rowW b l:=by
 cases l with
 |nil=>rfl
 |cons a l=>simp[rowW,mG]
theorem ZA(vw:G->AV)(ty w b:Nat)(l:List G):(l=[]/\rowW b l = .v (.slice none 0 0)/\blkW vw ty w l = .dead)\/(l≠[]/\rowW b l = .arr b 0 l.length/\blkW vw ty w l = .cells ty w (vs vw l)):=by
 cases l with
 |nil=>exact .inl ⟨rfl,rfl,rfl⟩
 |cons a l=>exact .inr ⟨by simp,rfl,rfl⟩
theorem ZR:∀l:List T,(QG l).length<=ndsL l
 |[]=>Nat.le_refl _
 |t::l=>by rw[QG,ndsL,List.length_append];have:=T.QtT t;have:=ZR l;omega
theorem QeX:∀l:List G,(Qy l).length<=ndG l
 |[]=>Nat.le_refl _
 |g::l=>by
  have h1:=ZR g.args
  have h2:=QeX l
  have e:Qy (g::l)=QG g.args++Qy l:=by unfold Qy;rw[List.flatMap_cons]
  rw[e,List.length_append,ndG];omega
theorem Qos{h:AH}{i:Nat}(hi:i<h.length)(all:List Tk)(s:PS)(X c:AB):((hs h i X++[c])++([AB.grow 9 1 0]:AH)).set i (rdB all (some (h.length+1)) s 0 0)=((h++[c,.dead]).set i (rdB all (some (h.length+1)) s 0 0)).set (h.length+1) (AB.grow 9 1 0):=by
 unfold hs
 rw[List.append_assoc,List.set_append_left _ _ (by simpa using hi),List.set_set,List.set_append_left _ _ hi,List.set_append_right _ _ (by simp),List.length_set,Nat.add_sub_cancel_left];rfl
section
variable{h:AH}{i:Nat}(hi:i<h.length)(all:List Tk)
include hi
theorem Qqu(s:PS)(p e:Int)(c:AB):(((rh (h++[c,.dead]) i (h.length+1) all s p e).set i (rdB all none s p e)))[h.length]? = some c:=by
 unfold rh hs2
 rw[List.getElem?_set_ne (by omega),List.getElem?_set_ne (by omega),List.getElem?_set_ne (by omega),List.getElem?_append_right (Nat.le_refl _),Nat.sub_self];rfl
theorem Qof(s:PS)(p e:Int)(c:AB):(((rh (h++[c,.dead]) i (h.length+1) all s p e).set i (rdB all none s p e))).take h.length=hs h i (rdB all none s p e):=by
 unfold rh hs2 hs
 rw[List.set_append_left _ _ hi,List.set_append_right _ _ (by simp),List.set_append_left _ _ (by simpa using hi),List.set_set]
 rw[List.take_append_of_le_length (by simp)]
 exact List.take_of_length_le (by simp)
end
section
variable{all:List Tk}{i:Nat}(hN:all.length<=1000000)(hD:TkOk all)(hX:TxOk all)
include hN hD hX
theorem Qmm{s:PS}(hW:Wst all s){h:AH}(hi:i<h.length)(tok:Option Nat):Qj Tryz.prog 27 [.ptr i 0 0] (hs h i (rdB all tok s 0 0)) (RuC h i all (Yf s)):=by
 have f1:=fun x=>ZX h i x
 have f2:=Qlf hi all tok s 0 0
 have f3:=fun x L=>Qe0 (h:=h) (i:=i) x L
 have f5:=fun x y L=>Qhq (h:=h) (i:=i) x y L
 have f7:=fun x y L=>QjR (h:=h) hi x y L
 have hW0:Wst all ⟨s.toks,[]⟩:=(wdOf all).cl s hW
 generalize hR:Yf s=R
 rw[Yf]at hR
 obtain⟨h9,e9⟩:∃h9,h9=h++[cR0,.dead]:=⟨_,rfl⟩
 have l9:h9.length=h.length+2:=by rw[e9];simp
 have HI9:IG h9 i (h.length+1):=⟨by omega,by omega,by omega⟩
 have cp:=QpA HI9 (Qn1 hN hD hX hW0 HI9)
 refine Qa Tryz.func27 rfl Tryz.call27 Tryz.ntmps27 Tryz.results27 (by simp) ?_
 iterate 4 (try (first|(((with_reducible refine Qf fun K E hK hE=>?_));simp only[go_sem,seval,f1,f2,f7])|((with_reducible refine hK _ ?_);clear hK)))
 refine XD i 69 5 1 (.grow 9 1 0) (.inr ⟨_,rfl⟩) [.agg [.sl 3 (tks all) none,.i ((all.length - s.toks.length:Nat):Int),.v (.slice none 0 0),.i 0,.i 0]] [.agg [.sl 3 (tks all) none,.i ((all.length - s.toks.length:Nat):Int),.sl 1 [] (some (h.length+1)),.i 0,.i 0]] 2 (Qhp hi _ _) rfl (by simp[flat,AV.cells,ZX]) (by simp[AV.cells]) ?_
 have hb:=Qos hi all ⟨s.toks,[]⟩ (.cells 69 5 [.agg [.sl 3 (tks all) none,.i ((all.length - s.toks.length:Nat):Int),.v (.slice none 0 0),.i 0,.i 0]]) cR0
 rw[<-e9]at hb
 simp only[rdB,strs,QuV]at hb
 rw[hb]
 show Q8 _ _ _ _ ⟨_,rh h9 i (h.length+1) all ⟨s.toks,[]⟩ 0 0⟩
 refine Qw (fun s'=>s'.tm 2 = .ptr h.length 0 0/\((∃(p e:Int) (s2:PS) (Z:AH),R = .err p e/\s'.tm 5 = .b false/\s'.h=rh h9 i (h.length+1) all s2 p e++Z)\/(∃(r:Rl) (s2:PS),Ya ⟨s.toks,[]⟩ = .ok r s2/\s'.tm 5 = .b true/\s'.tm 4 = .ptr (h9.length+4) 0 0/\s'.h=rh h9 i (h.length+1) all s2 0 0++(layW r++[.cells 40 6 [Q7 h9.length r]])))) ?_ ?_
 ·rintro⟨tm,hp⟩ ⟨t2,hh⟩
  dsimp only at t2 hh
  rcases hh with⟨p,e,s2,Z,hRR,t5,rfl⟩|⟨r,s2,hpt,t5,t4,rfl⟩
  ·subst hRR
   refine YU i 69 5 [.agg [.sl 3 (tks all) none,.i ((all.length - s2.toks.length:Nat):Int),.sl 1 (strs s2.names) (some (h.length+1)),.i p,.i e]] [.agg [.sl 3 (tks all) none,.i ((all.length - s2.toks.length:Nat):Int),.sl 1 (strs s2.names) none,.i p,.i e]] 2 (Wk.sl rfl (fun y hy=>by obtain⟨x,_,rfl⟩:=List.mem_map.1 hy;rfl) (WkL.refl _)) (QpF HI9.il HI9.ig all s2 p e _) rfl rfl (fun x hx=>by rw[List.mem_singleton]at hx;subst hx;rfl) ?_
   rw[List.set_append_left _ _ (by rw[YB];omega)]
   have g1:((rh h9 i (h.length+1) all s2 p e).set i (rdB all none s2 p e))[h.length]? = some cR0:=by rw[e9];exact Qqu hi all s2 p e cR0
   have g2:((rh h9 i (h.length+1) all s2 p e).set i (rdB all none s2 p e)).take h.length=hs h i (rdB all none s2 p e):=by rw[e9];exact Qof hi all s2 p e cR0
   have g4:((rh h9 i (h.length+1) all s2 p e).set i (rdB all none s2 p e)).length=h9.length:=by rw[List.length_set,YB]
   show Q8 _ _ _ _ ⟨tm,(rh h9 i (h.length+1) all s2 p e).set i (rdB all none s2 p e)++Z⟩
   generalize (rh h9 i (h.length+1) all s2 p e).set i (rdB all none s2 p e)=H0 at *
   have g3:=Qe g1
   have gn:∀L:AH,(H0++L)[h.length]? = some cR0:=fun L=>by rw[List.getElem?_append_left g3];exact g1
   have sn:∀(L:AH) x,(H0++L).set h.length x=H0.set h.length x++L:=fun L x=>List.set_append_left _ _ g3
   have gx:∀(L:AH) x,(H0.set h.length x++L)[h.length]? = some x:=fun L x=>by rw[List.getElem?_append_left (by simpa using g3),List.getElem?_set_self g3]
   have gt:∀x,(H0.set h.length x).take h.length=H0.take h.length:=fun x=>List.take_set_of_le (Nat.le_refl _)
   repeat first|refine Qb ?_;simp only[go_sem,seval,t2,t5,gn,sn]|refine hK _ ?_;clear hK
   simp only[go_sem,seval,t2,gx]
   exact .inr ⟨s2,_,rfl,by rw[List.length_append,List.length_set];omega,rfl,by rw[List.take_append_of_le_length (by rw[List.length_set];omega),gt];exact g2⟩
  ·have hRR:R = .ok r.numd s2:=by rw[<-hR,hpt];rfl
   subst hRR
   refine YU i 69 5 [.agg [.sl 3 (tks all) none,.i ((all.length - s2.toks.length:Nat):Int),.sl 1 (strs s2.names) (some (h.length+1)),.i 0,.i 0]] [.agg [.sl 3 (tks all) none,.i ((all.length - s2.toks.length:Nat):Int),.sl 1 (strs s2.names) none,.i 0,.i 0]] 2 (Wk.sl rfl (fun y hy=>by obtain⟨x,_,rfl⟩:=List.mem_map.1 hy;rfl) (WkL.refl _)) (QpF HI9.il HI9.ig all s2 0 0 _) rfl rfl (fun x hx=>by rw[List.mem_singleton]at hx;subst hx;rfl) ?_
   rw[List.set_append_left _ _ (by rw[YB];omega)]
   have g1:((rh h9 i (h.length+1) all s2 0 0).set i (rdB all none s2 0 0))[h.length]? = some cR0:=by rw[e9];exact Qqu hi all s2 0 0 cR0
   have g2:((rh h9 i (h.length+1) all s2 0 0).set i (rdB all none s2 0 0)).take h.length=hs h i (rdB all none s2 0 0):=by rw[e9];exact Qof hi all s2 0 0 cR0
   have g4:((rh h9 i (h.length+1) all s2 0 0).set i (rdB all none s2 0 0)).length=h9.length:=by rw[List.length_set,YB]
   show Q8 _ _ _ _ ⟨tm,(rh h9 i (h.length+1) all s2 0 0).set i (rdB all none s2 0 0)++(layW r++[.cells 40 6 [Q7 h9.length r]])⟩
   generalize (rh h9 i (h.length+1) all s2 0 0).set i (rdB all none s2 0 0)=H0 at *
   have g3:=Qe g1
   have gn:∀L:AH,(H0++L)[h.length]? = some cR0:=fun L=>by rw[List.getElem?_append_left g3];exact g1
   have sn:∀(L:AH) x,(H0++L).set h.length x=H0.set h.length x++L:=fun L x=>List.set_append_left _ _ g3
   have gx:∀(L:AH) x,(H0.set h.length x++L)[h.length]? = some x:=fun L x=>by rw[List.getElem?_append_left (by simpa using g3),List.getElem?_set_self g3]
   have gt:∀x,(H0.set h.length x).take h.length=H0.take h.length:=fun x=>List.take_set_of_le (Nat.le_refl _)
   have l10:h9.length=H0.length:=g4.symm
   simp only[l10,layW,Qu4,Qu3]at t4 ⊢
   have hpre:=QgL hpt
   have sm1:SmG r.keep:=QgW (fun g hg=>Qd8 (hpre.ka g hg)) (by have:=hpre.h4;omega)
   have sm2:SmG r.remove:=QgW (fun g hg=>Qd8 (hpre.ra g hg)) (by have:=hpre.h4;omega)
   have sm3:SmG r.guard:=QgW (fun g hg=>QbH (hpre.ga g hg)) hpre.g12
   have sm4:SmG r.body:=QgW (fun g hg=>QbH (hpre.ba g hg)) hpre.b12
   obtain⟨U1,hU1⟩:∃U,U=ded [] (Qy r.keep):=⟨_,rfl⟩
   obtain⟨U2,hU2⟩:∃U,U=ded U1 (Qy r.remove):=⟨_,rfl⟩
   obtain⟨U3,hU3⟩:∃U,U=ded U2 (Qy r.guard):=⟨_,rfl⟩
   obtain⟨U4,hU4⟩:∃U,U=ded U3 (Qy r.body):=⟨_,rfl⟩
   have hUa:U4=ded [] r.allV:=by
    rw[hU4,hU3,hU2,hU1,<-Q1,<-Q1,<-Q1]
    congr 1;simp[Rl.allV,Qy]
   obtain⟨F,hF⟩:∃F,F=plcN U4:=⟨_,rfl⟩
   have hnumd:r.numd=⟨r.name,mG F r.keep,mG F r.remove,mG F r.guard,mG F r.body,((U4.length:Nat):Int)⟩:=by rw[hF,hUa];rfl
   have hin1:∀v∈Qy r.keep,v∈U4:=fun v hv=>by rw[hU4,hU3,hU2,hU1];exact Za.2 (.inl (Za.2 (.inl (Za.2 (.inl (Za.2 (.inr hv)))))))
   have hin2:∀v∈Qy r.remove,v∈U4:=fun v hv=>by rw[hU4,hU3,hU2];exact Za.2 (.inl (Za.2 (.inl (Za.2 (.inr hv)))))
   have hin3:∀v∈Qy r.guard,v∈U4:=fun v hv=>by rw[hU4,hU3];exact Za.2 (.inl (Za.2 (.inr hv)))
   have hin4:∀v∈Qy r.body,v∈U4:=fun v hv=>by rw[hU4];exact Za.2 (.inr hv)
   have nd1:=sm1.2.1
   have nd2:=sm2.2.1
   have nd3:=sm3.2.1
   have nd4:=sm4.2.1
   have gvl:∀l:List G,(Qy l).length<=ndG l:=QeX
   have b1:U1.length<=2400:=by rw[hU1];have:=Xq [] (Qy r.keep);have:=gvl r.keep;simp only[QuQ]at *;omega
   have b2:U2.length<=4800:=by rw[hU2];have:=Xq U1 (Qy r.remove);have:=gvl r.remove;omega
   have b3:U3.length<=7200:=by rw[hU3];have:=Xq U2 (Qy r.guard);have:=gvl r.guard;omega
   have b4:U4.length<=9600:=by rw[hU4];have:=Xq U3 (Qy r.body);have:=gvl r.body;omega
   have rk:=Qbz H0.length r.keep
   have rr:=Qbz (H0.length+1) r.remove
   have rg:=Qbz (H0.length+2) r.guard
   have rb:=Qbz (H0.length+3) r.body
   have ord:∀(K R' G' B C:AB) (u:List Int) (l:List T),u.length+ndsL l<=1000000->Qj Tryz.prog 34 [.sl 1 (ints u) (some (H0.length+5)),.sl 4 (avs l) none] (H0++[K,R',G',B,C,.grow 3 1 u.length]) fun o h'=>o = .ret (.sl 1 (ints (ded u (QG l))) (some (H0.length+5)))/\h'=H0++[K,R',G',B,C,.grow 3 1 (ded u (QG l)).length]:=fun K R' G' B C u l hb=>by
    have V:TokGr (fun n=>H0++[K,R',G',B,C,.grow 3 1 n]) (H0.length+6) (H0.length+5) 3 1:=⟨fun n=>by simp,by omega,fun n=>by rw[hget];rfl,fun n n'=>by rw[hset];rfl⟩
    have:=Qi0 V l u [] hb
    simp only[Qu5]at this
    exact this
   iterate 9 (try (first|(((with_reducible refine Qf fun K E hK hE=>?_));simp only[go_sem,seval,t5])|(with_reducible (first|refine Qo fun K hK=>?_|refine QR ?_|refine Qh ?_))|((with_reducible refine hK _ ?_);clear hK)|(refine Qk rfl ?_;simp only[↓reduceIte,QuG])))
   refine X7 6 3 1 rfl ?_
   rw[List.length_append,List.append_assoc]
   simp only[QuP,QuQ,Qu4,Qu3,QuO,Nat.reduceAdd]
   refine Qw (fun s=>s.tm 2 = .ptr h.length 0 0/\s.tm 4 = .ptr (H0.length+4) 0 0/\s.tm 6 = .sl 1 (ints U1) (some (H0.length+5))/\s.h=H0++[blkA r.keep,blkA r.remove,blkG r.guard,blkG r.body,.cells 40 6 [Q7 H0.length r],.grow 3 1 U1.length]) ?_ ?_
   rotate_left
   ·repeat first|refine Qb ?_;simp only[go_sem,seval]|refine hK _ ?_;clear hK
    obtain⟨I,hI⟩:∃I:Nat->AS->Prop,I=fun m' s=>∃(j:Nat) (v:List Int),m'=r.keep.length - j/\j<=r.keep.length/\ded v (Qy (r.keep.drop j))=U1/\v.length+ndG (r.keep.drop j)<=2400/\s.tm 7 = .i j/\s.tm 2 = .ptr h.length 0 0/\s.tm 4 = .ptr (H0.length+4) 0 0/\s.tm 6 = .sl 1 (ints v) (some (H0.length+5))/\s.h=H0++[blkA r.keep,blkA r.remove,blkG r.guard,blkG r.body,.cells 40 6 [Q7 H0.length r],.grow 3 1 v.length]:=⟨_,rfl⟩;refine Qi I ?_ (m:=r.keep.length) ?_
    ·intro m' s hs;rw[hI]at hs;obtain⟨tm,hp⟩:=s;dsimp only at hs;obtain⟨j,v,rfl,hj,hv,hvb,tj,t2,t4,t6,rfl⟩:=hs
     have hs12:=sm1.2.2
     have wj:IntKind.i64.wrap (((j:Nat):Int)+1)=((j+1:Nat):Int):=Qz (by omega)
     by_cases hlt:j<r.keep.length
     ·have hrow:rowW H0.length r.keep = .arr H0.length 0 r.keep.length:=Qby _ hlt
      have hblk:blkA r.keep = .cells 105 2 (vs G.atom r.keep):=YC _ _ _ hlt
      have hel:=Qg2 G.atom hlt
      have hec:=G.Qt7 r.keep[j]
      have hea:(r.keep[j]).atom.isAgg=true:=rfl
      have hlv:(vs G.atom r.keep).length=r.keep.length:=QS _ _
      have y1:((j:Nat):Int)<((r.keep.length:Nat):Int):=by omega
      rw[QcA hlt,Q1]at hv
      rw[Qk3 hlt]at hvb
      have co:=fun K R' G' B C=>ord K R' G' B C v r.keep[j].args (by omega)
      have hdl:=Xq v (QG r.keep[j].args)
      have hvn:=ZR r.keep[j].args
      repeat first|(first|refine FunW.QtJ (co _ _ _ _ _) ?_|refine Qb ?_);simp only[go_sem,seval,t4,t6,tj,Q7,hrow,hblk,hel,hec,y1,wj]|refine hK _ ?_;clear hK
      refine Qv.mk (m':=r.keep.length - (j+1)) (by omega) ?_
      rw[hI]
      exact⟨j+1,ded v (QG r.keep[j].args),rfl,hlt,hv,by omega,rfl,t2,t4,rfl,by rw[Q7,hrow,hblk]⟩
     ·have hjl:j=r.keep.length:=by omega
      have hvu:v=U1:=by rw[<-hv,hjl,List.drop_length];rfl
      subst hvu
      have hx:(r.keep=[]/\rowW H0.length r.keep = .v (.slice none 0 0)/\blkA r.keep = .dead)\/(r.keep≠[]/\rowW H0.length r.keep = .arr H0.length 0 r.keep.length/\blkA r.keep = .cells 105 2 (vs G.atom r.keep)):=ZA _ _ _ _ _
      rcases hx with⟨hn,hrow,hblk⟩|⟨hn,hrow,hblk⟩
      ·have y1:¬((j:Nat):Int)<0:=by omega
       have y0:pv Tryz.prog (Builtin.len_ #[38] 3 #[Value.slice none 0 0])=some (.int .i64 0):=by kernel_rfl
       repeat first|refine Qb ?_;simp only[go_sem,seval,t4,tj,Q7,hrow,hblk,y1,y0]|refine hK _ ?_;clear hK
       (try (refine hK _ ?_;rw[Qp]))
       exact⟨t2,t4,t6,by rw[Q7,hrow,hblk]⟩
      ·have y1:¬((j:Nat):Int)<((r.keep.length:Nat):Int):=by omega
       have hlv:(vs G.atom r.keep).length=r.keep.length:=QS _ _
       repeat first|refine Qb ?_;simp only[go_sem,seval,t4,tj,Q7,hrow,hblk,y1]|refine hK _ ?_;clear hK
       (try (refine hK _ ?_;rw[Qp]))
       exact⟨t2,t4,t6,by rw[Q7,hrow,hblk]⟩
    ·rw[hI]
     exact⟨0,[],rfl,Nat.zero_le _,hU1.symm,by rw[List.drop_zero];(try simp only[QuQ]);omega,rfl,t2,t4,rfl,rfl⟩
   rintro⟨tm,hp⟩ ⟨t2,t4,t6,rfl⟩
   dsimp only at t2 t4 t6
   refine Qw (fun s=>s.tm 2 = .ptr h.length 0 0/\s.tm 4 = .ptr (H0.length+4) 0 0/\s.tm 6 = .sl 1 (ints U2) (some (H0.length+5))/\s.h=H0++[blkA r.keep,blkA r.remove,blkG r.guard,blkG r.body,.cells 40 6 [Q7 H0.length r],.grow 3 1 U2.length]) ?_ ?_
   rotate_left
   ·repeat first|refine Qb ?_;simp only[go_sem,seval]|refine hK _ ?_;clear hK
    obtain⟨I,hI⟩:∃I:Nat->AS->Prop,I=fun m' s=>∃(j:Nat) (v:List Int),m'=r.remove.length - j/\j<=r.remove.length/\ded v (Qy (r.remove.drop j))=U2/\v.length+ndG (r.remove.drop j)<=4800/\s.tm 8 = .i j/\s.tm 2 = .ptr h.length 0 0/\s.tm 4 = .ptr (H0.length+4) 0 0/\s.tm 6 = .sl 1 (ints v) (some (H0.length+5))/\s.h=H0++[blkA r.keep,blkA r.remove,blkG r.guard,blkG r.body,.cells 40 6 [Q7 H0.length r],.grow 3 1 v.length]:=⟨_,rfl⟩;refine Qi I ?_ (m:=r.remove.length) ?_
    ·intro m' s hs;rw[hI]at hs;obtain⟨tm,hp⟩:=s;dsimp only at hs;obtain⟨j,v,rfl,hj,hv,hvb,tj,t2,t4,t6,rfl⟩:=hs
     have hs12:=sm2.2.2
     have wj:IntKind.i64.wrap (((j:Nat):Int)+1)=((j+1:Nat):Int):=Qz (by omega)
     by_cases hlt:j<r.remove.length
     ·have hrow:rowW (H0.length+1) r.remove = .arr (H0.length+1) 0 r.remove.length:=Qby _ hlt
      have hblk:blkA r.remove = .cells 105 2 (vs G.atom r.remove):=YC _ _ _ hlt
      have hel:=Qg2 G.atom hlt
      have hec:=G.Qt7 r.remove[j]
      have hea:(r.remove[j]).atom.isAgg=true:=rfl
      have hlv:(vs G.atom r.remove).length=r.remove.length:=QS _ _
      have y1:((j:Nat):Int)<((r.remove.length:Nat):Int):=by omega
      rw[QcA hlt,Q1]at hv
      rw[Qk3 hlt]at hvb
      have co:=fun K R' G' B C=>ord K R' G' B C v r.remove[j].args (by omega)
      have hdl:=Xq v (QG r.remove[j].args)
      have hvn:=ZR r.remove[j].args
      repeat first|(first|refine FunW.QtJ (co _ _ _ _ _) ?_|refine Qb ?_);simp only[go_sem,seval,t4,t6,tj,Q7,hrow,hblk,hel,hec,y1,wj]|refine hK _ ?_;clear hK
      refine Qv.mk (m':=r.remove.length - (j+1)) (by omega) ?_
      rw[hI]
      exact⟨j+1,ded v (QG r.remove[j].args),rfl,hlt,hv,by omega,rfl,t2,t4,rfl,by rw[Q7,hrow,hblk]⟩
     ·have hjl:j=r.remove.length:=by omega
      have hvu:v=U2:=by rw[<-hv,hjl,List.drop_length];rfl
      subst hvu
      have hx:(r.remove=[]/\rowW (H0.length+1) r.remove = .v (.slice none 0 0)/\blkA r.remove = .dead)\/(r.remove≠[]/\rowW (H0.length+1) r.remove = .arr (H0.length+1) 0 r.remove.length/\blkA r.remove = .cells 105 2 (vs G.atom r.remove)):=ZA _ _ _ _ _
      rcases hx with⟨hn,hrow,hblk⟩|⟨hn,hrow,hblk⟩
      ·have y1:¬((j:Nat):Int)<0:=by omega
       have y0:pv Tryz.prog (Builtin.len_ #[38] 3 #[Value.slice none 0 0])=some (.int .i64 0):=by kernel_rfl
       repeat first|refine Qb ?_;simp only[go_sem,seval,t4,tj,Q7,hrow,hblk,y1,y0]|refine hK _ ?_;clear hK
       (try (refine hK _ ?_;rw[Qp]))
       exact⟨t2,t4,t6,by rw[Q7,hrow,hblk]⟩
      ·have y1:¬((j:Nat):Int)<((r.remove.length:Nat):Int):=by omega
       have hlv:(vs G.atom r.remove).length=r.remove.length:=QS _ _
       repeat first|refine Qb ?_;simp only[go_sem,seval,t4,tj,Q7,hrow,hblk,y1]|refine hK _ ?_;clear hK
       (try (refine hK _ ?_;rw[Qp]))
       exact⟨t2,t4,t6,by rw[Q7,hrow,hblk]⟩
    ·rw[hI]
     exact⟨0,U1,rfl,Nat.zero_le _,hU2.symm,by rw[List.drop_zero];(try simp only[QuQ]);omega,rfl,t2,t4,t6,rfl⟩
   rintro⟨tm,hp⟩ ⟨t2,t4,t6,rfl⟩
   dsimp only at t2 t4 t6
   refine Qw (fun s=>s.tm 2 = .ptr h.length 0 0/\s.tm 4 = .ptr (H0.length+4) 0 0/\s.tm 6 = .sl 1 (ints U3) (some (H0.length+5))/\s.h=H0++[blkA r.keep,blkA r.remove,blkG r.guard,blkG r.body,.cells 40 6 [Q7 H0.length r],.grow 3 1 U3.length]) ?_ ?_
   rotate_left
   ·repeat first|refine Qb ?_;simp only[go_sem,seval]|refine hK _ ?_;clear hK
    obtain⟨I,hI⟩:∃I:Nat->AS->Prop,I=fun m' s=>∃(j:Nat) (v:List Int),m'=r.guard.length - j/\j<=r.guard.length/\ded v (Qy (r.guard.drop j))=U3/\v.length+ndG (r.guard.drop j)<=7200/\s.tm 9 = .i j/\s.tm 2 = .ptr h.length 0 0/\s.tm 4 = .ptr (H0.length+4) 0 0/\s.tm 6 = .sl 1 (ints v) (some (H0.length+5))/\s.h=H0++[blkA r.keep,blkA r.remove,blkG r.guard,blkG r.body,.cells 40 6 [Q7 H0.length r],.grow 3 1 v.length]:=⟨_,rfl⟩;refine Qi I ?_ (m:=r.guard.length) ?_
    ·intro m' s hs;rw[hI]at hs;obtain⟨tm,hp⟩:=s;dsimp only at hs;obtain⟨j,v,rfl,hj,hv,hvb,tj,t2,t4,t6,rfl⟩:=hs
     have hs12:=sm3.2.2
     have wj:IntKind.i64.wrap (((j:Nat):Int)+1)=((j+1:Nat):Int):=Qz (by omega)
     by_cases hlt:j<r.guard.length
     ·have hrow:rowW (H0.length+2) r.guard = .arr (H0.length+2) 0 r.guard.length:=Qby _ hlt
      have hblk:blkG r.guard = .cells 46 3 (vs G.goal r.guard):=YC _ _ _ hlt
      have hel:=Qg2 G.goal hlt
      have hec:=G.Qt6 r.guard[j]
      have hea:(r.guard[j]).goal.isAgg=true:=rfl
      have hlv:(vs G.goal r.guard).length=r.guard.length:=QS _ _
      have y1:((j:Nat):Int)<((r.guard.length:Nat):Int):=by omega
      rw[QcA hlt,Q1]at hv
      rw[Qk3 hlt]at hvb
      have co:=fun K R' G' B C=>ord K R' G' B C v r.guard[j].args (by omega)
      have hdl:=Xq v (QG r.guard[j].args)
      have hvn:=ZR r.guard[j].args
      repeat first|(first|refine FunW.QtJ (co _ _ _ _ _) ?_|refine Qb ?_);simp only[go_sem,seval,t4,t6,tj,Q7,hrow,hblk,hel,hec,y1,wj]|refine hK _ ?_;clear hK
      refine Qv.mk (m':=r.guard.length - (j+1)) (by omega) ?_
      rw[hI]
      exact⟨j+1,ded v (QG r.guard[j].args),rfl,hlt,hv,by omega,rfl,t2,t4,rfl,by rw[Q7,hrow,hblk]⟩
     ·have hjl:j=r.guard.length:=by omega
      have hvu:v=U3:=by rw[<-hv,hjl,List.drop_length];rfl
      subst hvu
      have hx:(r.guard=[]/\rowW (H0.length+2) r.guard = .v (.slice none 0 0)/\blkG r.guard = .dead)\/(r.guard≠[]/\rowW (H0.length+2) r.guard = .arr (H0.length+2) 0 r.guard.length/\blkG r.guard = .cells 46 3 (vs G.goal r.guard)):=ZA _ _ _ _ _
      rcases hx with⟨hn,hrow,hblk⟩|⟨hn,hrow,hblk⟩
      ·have y1:¬((j:Nat):Int)<0:=by omega
       have y0:pv Tryz.prog (Builtin.len_ #[32] 3 #[Value.slice none 0 0])=some (.int .i64 0):=by kernel_rfl
       repeat first|refine Qb ?_;simp only[go_sem,seval,t4,tj,Q7,hrow,hblk,y1,y0]|refine hK _ ?_;clear hK
       (try (refine hK _ ?_;rw[Qp]))
       exact⟨t2,t4,t6,by rw[Q7,hrow,hblk]⟩
      ·have y1:¬((j:Nat):Int)<((r.guard.length:Nat):Int):=by omega
       have hlv:(vs G.goal r.guard).length=r.guard.length:=QS _ _
       repeat first|refine Qb ?_;simp only[go_sem,seval,t4,tj,Q7,hrow,hblk,y1]|refine hK _ ?_;clear hK
       (try (refine hK _ ?_;rw[Qp]))
       exact⟨t2,t4,t6,by rw[Q7,hrow,hblk]⟩
    ·rw[hI]
     exact⟨0,U2,rfl,Nat.zero_le _,hU3.symm,by rw[List.drop_zero];(try simp only[QuQ]);omega,rfl,t2,t4,t6,rfl⟩
   rintro⟨tm,hp⟩ ⟨t2,t4,t6,rfl⟩
   dsimp only at t2 t4 t6
   refine Qw (fun s=>s.tm 2 = .ptr h.length 0 0/\s.tm 4 = .ptr (H0.length+4) 0 0/\s.tm 6 = .sl 1 (ints U4) (some (H0.length+5))/\s.h=H0++[blkA r.keep,blkA r.remove,blkG r.guard,blkG r.body,.cells 40 6 [Q7 H0.length r],.grow 3 1 U4.length]) ?_ ?_
   rotate_left
   ·repeat first|refine Qb ?_;simp only[go_sem,seval]|refine hK _ ?_;clear hK
    obtain⟨I,hI⟩:∃I:Nat->AS->Prop,I=fun m' s=>∃(j:Nat) (v:List Int),m'=r.body.length - j/\j<=r.body.length/\ded v (Qy (r.body.drop j))=U4/\v.length+ndG (r.body.drop j)<=9600/\s.tm 10 = .i j/\s.tm 2 = .ptr h.length 0 0/\s.tm 4 = .ptr (H0.length+4) 0 0/\s.tm 6 = .sl 1 (ints v) (some (H0.length+5))/\s.h=H0++[blkA r.keep,blkA r.remove,blkG r.guard,blkG r.body,.cells 40 6 [Q7 H0.length r],.grow 3 1 v.length]:=⟨_,rfl⟩;refine Qi I ?_ (m:=r.body.length) ?_
    ·intro m' s hs;rw[hI]at hs;obtain⟨tm,hp⟩:=s;dsimp only at hs;obtain⟨j,v,rfl,hj,hv,hvb,tj,t2,t4,t6,rfl⟩:=hs
     have hs12:=sm4.2.2
     have wj:IntKind.i64.wrap (((j:Nat):Int)+1)=((j+1:Nat):Int):=Qz (by omega)
     by_cases hlt:j<r.body.length
     ·have hrow:rowW (H0.length+3) r.body = .arr (H0.length+3) 0 r.body.length:=Qby _ hlt
      have hblk:blkG r.body = .cells 46 3 (vs G.goal r.body):=YC _ _ _ hlt
      have hel:=Qg2 G.goal hlt
      have hec:=G.Qt6 r.body[j]
      have hea:(r.body[j]).goal.isAgg=true:=rfl
      have hlv:(vs G.goal r.body).length=r.body.length:=QS _ _
      have y1:((j:Nat):Int)<((r.body.length:Nat):Int):=by omega
      rw[QcA hlt,Q1]at hv
      rw[Qk3 hlt]at hvb
      have co:=fun K R' G' B C=>ord K R' G' B C v r.body[j].args (by omega)
      have hdl:=Xq v (QG r.body[j].args)
      have hvn:=ZR r.body[j].args
      repeat first|(first|refine FunW.QtJ (co _ _ _ _ _) ?_|refine Qb ?_);simp only[go_sem,seval,t4,t6,tj,Q7,hrow,hblk,hel,hec,y1,wj]|refine hK _ ?_;clear hK
      refine Qv.mk (m':=r.body.length - (j+1)) (by omega) ?_
      rw[hI]
      exact⟨j+1,ded v (QG r.body[j].args),rfl,hlt,hv,by omega,rfl,t2,t4,rfl,by rw[Q7,hrow,hblk]⟩
     ·have hjl:j=r.body.length:=by omega
      have hvu:v=U4:=by rw[<-hv,hjl,List.drop_length];rfl
      subst hvu
      have hx:(r.body=[]/\rowW (H0.length+3) r.body = .v (.slice none 0 0)/\blkG r.body = .dead)\/(r.body≠[]/\rowW (H0.length+3) r.body = .arr (H0.length+3) 0 r.body.length/\blkG r.body = .cells 46 3 (vs G.goal r.body)):=ZA _ _ _ _ _
      rcases hx with⟨hn,hrow,hblk⟩|⟨hn,hrow,hblk⟩
      ·have y1:¬((j:Nat):Int)<0:=by omega
       have y0:pv Tryz.prog (Builtin.len_ #[32] 3 #[Value.slice none 0 0])=some (.int .i64 0):=by kernel_rfl
       repeat first|refine Qb ?_;simp only[go_sem,seval,t4,tj,Q7,hrow,hblk,y1,y0]|refine hK _ ?_;clear hK
       (try (refine hK _ ?_;rw[Qp]))
       exact⟨t2,t4,t6,by rw[Q7,hrow,hblk]⟩
      ·have y1:¬((j:Nat):Int)<((r.body.length:Nat):Int):=by omega
       have hlv:(vs G.goal r.body).length=r.body.length:=QS _ _
       repeat first|refine Qb ?_;simp only[go_sem,seval,t4,tj,Q7,hrow,hblk,y1]|refine hK _ ?_;clear hK
       (try (refine hK _ ?_;rw[Qp]))
       exact⟨t2,t4,t6,by rw[Q7,hrow,hblk]⟩
    ·rw[hI]
     exact⟨0,U3,rfl,Nat.zero_le _,hU4.symm,by rw[List.drop_zero];(try simp only[QuQ]);omega,rfl,t2,t4,t6,rfl⟩
   rintro⟨tm,hp⟩ ⟨t2,t4,t6,rfl⟩
   dsimp only at t2 t4 t6
   refine Qw (fun s=>s.tm 2 = .ptr h.length 0 0/\s.tm 4 = .ptr (H0.length+4) 0 0/\s.tm 6 = .sl 1 (ints U4) (some (H0.length+5))/\s.h=H0++[blkA (mG F r.keep),blkA r.remove,blkG r.guard,blkG r.body,.cells 40 6 [Q7 H0.length r],.grow 3 1 U4.length]) ?_ ?_
   rotate_left
   ·repeat first|refine Qb ?_;simp only[go_sem,seval]|refine hK _ ?_;clear hK
    obtain⟨I,hI⟩:∃I:Nat->AS->Prop,I=fun m' s=>∃j:Nat,m'=r.keep.length - j/\j<=r.keep.length/\s.tm 11 = .i j/\s.tm 2 = .ptr h.length 0 0/\s.tm 4 = .ptr (H0.length+4) 0 0/\s.tm 6 = .sl 1 (ints U4) (some (H0.length+5))/\s.h=H0++[blkA (mixG F r.keep j),blkA r.remove,blkG r.guard,blkG r.body,.cells 40 6 [Q7 H0.length r],.grow 3 1 U4.length]:=⟨_,rfl⟩;refine Qi I ?_ (m:=r.keep.length) ?_
    ·intro m' s hs;rw[hI]at hs;obtain⟨tm,hp⟩:=s;dsimp only at hs;obtain⟨j,rfl,hj,tj,t2,t4,t6,rfl⟩:=hs
     have hs12:=sm1.2.2
     have wj:IntKind.i64.wrap (((j:Nat):Int)+1)=((j+1:Nat):Int):=Qz (by omega)
     by_cases hlt:j<r.keep.length
     ·have hrow:rowW H0.length r.keep = .arr H0.length 0 r.keep.length:=Qby _ hlt
      have hblk:blkA (mixG F r.keep j) = .cells 105 2 (vs G.atom (mixG F r.keep j)):=YC _ _ _ (by rw[YK F _ hj];exact hlt)
      have hblk2:blkA (mixG F r.keep (j+1)) = .cells 105 2 (vs G.atom (mixG F r.keep (j+1))):=YC _ _ _ (by rw[YK F _ (by omega)];exact hlt)
      have hel:=Qej F G.atom hlt
      have hse:=Qek F G.atom hlt
      have hec:=G.Qt7 r.keep[j]
      have hea:(r.keep[j]).atom.isAgg=true:=rfl
      have hlv:(vs G.atom (mixG F r.keep j)).length=r.keep.length:=by rw[QS,YK F _ hj]
      have y1:((j:Nat):Int)<((r.keep.length:Nat):Int):=by omega
      have cr:=Qad U4 (some (H0.length+5)) (by omega) 1000000 (Nat.le_refl _) r.keep[j].args (Nat.le_trans (Qln sm1 hlt) (by omega)) (sm1.1 _ (List.getElem_mem hlt)) (fun v hv=>hin1 v (QbI hlt v hv))
      rw[<-hF]at cr
      repeat first|refine Qb ?_;simp only[go_sem,seval,t4,tj,Q7,hrow,hblk,y1]|refine hK _ ?_;clear hK
      first|refine Ql (id:=25) [(0,0),(1,0),(2,0),(3,0),(4,0),(5,0),(6,0),(7,0),(8,0),(9,0),(10,1),(11,0),(12,0),(13,2)] mixed (by kernel_rfl) fun K hK=>?_|refine Qn (id:=25) [(0,0),(1,0),(2,0),(3,0),(4,0),(5,0),(6,0),(7,0),(8,0),(9,0),(10,1),(11,0),(12,0),(13,2)] mixed (by kernel_rfl) fun K hK=>?_
      (try simp only[QuL,QuT]);refine Xn 10 (fun K1 hK1=>?_);simp only[go_sem,seval,t4,t6,tj,hel,hec,y1];refine hK1 _ ?_;clear hK1
      (try simp only[QuL,QuT]);refine Xn 4 (fun K1 hK1=>?_);simp only[go_sem,seval];(repeat ((((with_reducible refine XW cr ?_));simp only[go_sem,seval,hel,hec,hea,y1])));refine hK1 _ ?_;clear hK1
      refine hK _ ?_
      repeat first|refine Qb ?_;simp only[go_sem,seval,tj,wj]|refine hK _ ?_;clear hK|clear hK;refine hK _ ?_;clear hK
      refine Qv.mk (m':=r.keep.length - (j+1)) (by omega) ?_
      rw[hI]
      exact⟨j+1,rfl,hlt,rfl,t2,t4,t6,by rw[hblk2,<-hse,Q7,hrow];rfl⟩
     ·have hjl:j=r.keep.length:=by omega
      have hme:mixG F r.keep j=mG F r.keep:=by rw[hjl];exact Qei F _
      have hx:(r.keep=[]/\rowW H0.length r.keep = .v (.slice none 0 0)/\blkA r.keep = .dead)\/(r.keep≠[]/\rowW H0.length r.keep = .arr H0.length 0 r.keep.length/\blkA r.keep = .cells 105 2 (vs G.atom r.keep)):=ZA _ _ _ _ _
      rw[hme]
      rcases hx with⟨hn,hrow,_⟩|⟨hn,hrow,_⟩
      ·have y1:¬((j:Nat):Int)<0:=by omega
       have y0:pv Tryz.prog (Builtin.len_ #[38] 3 #[Value.slice none 0 0])=some (.int .i64 0):=by kernel_rfl
       repeat first|refine Qb ?_;simp only[go_sem,seval,t4,tj,Q7,hrow,y1,y0]|refine hK _ ?_;clear hK
       (try (refine hK _ ?_;rw[Qp]))
       exact⟨t2,t4,t6,by rw[Q7,hrow]⟩
      ·have y1:¬((j:Nat):Int)<((r.keep.length:Nat):Int):=by omega
       have hblk:blkA (mG F r.keep) = .cells 105 2 (vs G.atom (mG F r.keep)):=YC _ _ _ (j:=0) (by have:=List.length_pos_iff.2 hn;simpa [mG]using this)
       have hlv:(vs G.atom (mG F r.keep)).length=r.keep.length:=by rw[QS];simp[mG]
       repeat first|refine Qb ?_;simp only[go_sem,seval,t4,tj,Q7,hrow,hblk,y1]|refine hK _ ?_;clear hK
       (try (refine hK _ ?_;rw[Qp]))
       exact⟨t2,t4,t6,by rw[Q7,hrow,hblk]⟩
    ·rw[hI]
     exact⟨0,rfl,Nat.zero_le _,rfl,t2,t4,t6,by rw[QcF]⟩
   rintro⟨tm,hp⟩ ⟨t2,t4,t6,rfl⟩
   dsimp only at t2 t4 t6
   refine Qw (fun s=>s.tm 2 = .ptr h.length 0 0/\s.tm 4 = .ptr (H0.length+4) 0 0/\s.tm 6 = .sl 1 (ints U4) (some (H0.length+5))/\s.h=H0++[blkA (mG F r.keep),blkA (mG F r.remove),blkG r.guard,blkG r.body,.cells 40 6 [Q7 H0.length r],.grow 3 1 U4.length]) ?_ ?_
   rotate_left
   ·repeat first|refine Qb ?_;simp only[go_sem,seval]|refine hK _ ?_;clear hK
    obtain⟨I,hI⟩:∃I:Nat->AS->Prop,I=fun m' s=>∃j:Nat,m'=r.remove.length - j/\j<=r.remove.length/\s.tm 12 = .i j/\s.tm 2 = .ptr h.length 0 0/\s.tm 4 = .ptr (H0.length+4) 0 0/\s.tm 6 = .sl 1 (ints U4) (some (H0.length+5))/\s.h=H0++[blkA (mG F r.keep),blkA (mixG F r.remove j),blkG r.guard,blkG r.body,.cells 40 6 [Q7 H0.length r],.grow 3 1 U4.length]:=⟨_,rfl⟩;refine Qi I ?_ (m:=r.remove.length) ?_
    ·intro m' s hs;rw[hI]at hs;obtain⟨tm,hp⟩:=s;dsimp only at hs;obtain⟨j,rfl,hj,tj,t2,t4,t6,rfl⟩:=hs
     have hs12:=sm2.2.2
     have wj:IntKind.i64.wrap (((j:Nat):Int)+1)=((j+1:Nat):Int):=Qz (by omega)
     by_cases hlt:j<r.remove.length
     ·have hrow:rowW (H0.length+1) r.remove = .arr (H0.length+1) 0 r.remove.length:=Qby _ hlt
      have hblk:blkA (mixG F r.remove j) = .cells 105 2 (vs G.atom (mixG F r.remove j)):=YC _ _ _ (by rw[YK F _ hj];exact hlt)
      have hblk2:blkA (mixG F r.remove (j+1)) = .cells 105 2 (vs G.atom (mixG F r.remove (j+1))):=YC _ _ _ (by rw[YK F _ (by omega)];exact hlt)
      have hel:=Qej F G.atom hlt
      have hse:=Qek F G.atom hlt
      have hec:=G.Qt7 r.remove[j]
      have hea:(r.remove[j]).atom.isAgg=true:=rfl
      have hlv:(vs G.atom (mixG F r.remove j)).length=r.remove.length:=by rw[QS,YK F _ hj]
      have y1:((j:Nat):Int)<((r.remove.length:Nat):Int):=by omega
      have cr:=Qad U4 (some (H0.length+5)) (by omega) 1000000 (Nat.le_refl _) r.remove[j].args (Nat.le_trans (Qln sm2 hlt) (by omega)) (sm2.1 _ (List.getElem_mem hlt)) (fun v hv=>hin2 v (QbI hlt v hv))
      rw[<-hF]at cr
      repeat first|refine Qb ?_;simp only[go_sem,seval,t4,tj,Q7,hrow,hblk,y1]|refine hK _ ?_;clear hK
      first|refine Ql (id:=29) [(0,0),(1,0),(2,0),(3,0),(4,0),(5,0),(6,0),(7,0),(8,0),(9,0),(10,1),(11,0),(12,0),(13,2)] mixed (by kernel_rfl) fun K hK=>?_|refine Qn (id:=29) [(0,0),(1,0),(2,0),(3,0),(4,0),(5,0),(6,0),(7,0),(8,0),(9,0),(10,1),(11,0),(12,0),(13,2)] mixed (by kernel_rfl) fun K hK=>?_
      (try simp only[QuL,QuT]);refine Xn 10 (fun K1 hK1=>?_);simp only[go_sem,seval,t4,t6,tj,hel,hec,y1];refine hK1 _ ?_;clear hK1
      (try simp only[QuL,QuT]);refine Xn 4 (fun K1 hK1=>?_);simp only[go_sem,seval];(repeat ((((with_reducible refine XW cr ?_));simp only[go_sem,seval,hel,hec,hea,y1])));refine hK1 _ ?_;clear hK1
      refine hK _ ?_
      repeat first|refine Qb ?_;simp only[go_sem,seval,tj,wj]|refine hK _ ?_;clear hK|clear hK;refine hK _ ?_;clear hK
      refine Qv.mk (m':=r.remove.length - (j+1)) (by omega) ?_
      rw[hI]
      exact⟨j+1,rfl,hlt,rfl,t2,t4,t6,by rw[hblk2,<-hse,Q7,hrow];rfl⟩
     ·have hjl:j=r.remove.length:=by omega
      have hme:mixG F r.remove j=mG F r.remove:=by rw[hjl];exact Qei F _
      have hx:(r.remove=[]/\rowW (H0.length+1) r.remove = .v (.slice none 0 0)/\blkA r.remove = .dead)\/(r.remove≠[]/\rowW (H0.length+1) r.remove = .arr (H0.length+1) 0 r.remove.length/\blkA r.remove = .cells 105 2 (vs G.atom r.remove)):=ZA _ _ _ _ _
      rw[hme]
      rcases hx with⟨hn,hrow,_⟩|⟨hn,hrow,_⟩
      ·have y1:¬((j:Nat):Int)<0:=by omega
       have y0:pv Tryz.prog (Builtin.len_ #[38] 3 #[Value.slice none 0 0])=some (.int .i64 0):=by kernel_rfl
       repeat first|refine Qb ?_;simp only[go_sem,seval,t4,tj,Q7,hrow,y1,y0]|refine hK _ ?_;clear hK
       (try (refine hK _ ?_;rw[Qp]))
       exact⟨t2,t4,t6,by rw[Q7,hrow]⟩
      ·have y1:¬((j:Nat):Int)<((r.remove.length:Nat):Int):=by omega
       have hblk:blkA (mG F r.remove) = .cells 105 2 (vs G.atom (mG F r.remove)):=YC _ _ _ (j:=0) (by have:=List.length_pos_iff.2 hn;simpa [mG]using this)
       have hlv:(vs G.atom (mG F r.remove)).length=r.remove.length:=by rw[QS];simp[mG]
       repeat first|refine Qb ?_;simp only[go_sem,seval,t4,tj,Q7,hrow,hblk,y1]|refine hK _ ?_;clear hK
       (try (refine hK _ ?_;rw[Qp]))
       exact⟨t2,t4,t6,by rw[Q7,hrow,hblk]⟩
    ·rw[hI]
     exact⟨0,rfl,Nat.zero_le _,rfl,t2,t4,t6,by rw[QcF]⟩
   rintro⟨tm,hp⟩ ⟨t2,t4,t6,rfl⟩
   dsimp only at t2 t4 t6
   refine Qw (fun s=>s.tm 2 = .ptr h.length 0 0/\s.tm 4 = .ptr (H0.length+4) 0 0/\s.tm 6 = .sl 1 (ints U4) (some (H0.length+5))/\s.h=H0++[blkA (mG F r.keep),blkA (mG F r.remove),blkG (mG F r.guard),blkG r.body,.cells 40 6 [Q7 H0.length r],.grow 3 1 U4.length]) ?_ ?_
   rotate_left
   ·repeat first|refine Qb ?_;simp only[go_sem,seval]|refine hK _ ?_;clear hK
    obtain⟨I,hI⟩:∃I:Nat->AS->Prop,I=fun m' s=>∃j:Nat,m'=r.guard.length - j/\j<=r.guard.length/\s.tm 13 = .i j/\s.tm 2 = .ptr h.length 0 0/\s.tm 4 = .ptr (H0.length+4) 0 0/\s.tm 6 = .sl 1 (ints U4) (some (H0.length+5))/\s.h=H0++[blkA (mG F r.keep),blkA (mG F r.remove),blkG (mixG F r.guard j),blkG r.body,.cells 40 6 [Q7 H0.length r],.grow 3 1 U4.length]:=⟨_,rfl⟩;refine Qi I ?_ (m:=r.guard.length) ?_
    ·intro m' s hs;rw[hI]at hs;obtain⟨tm,hp⟩:=s;dsimp only at hs;obtain⟨j,rfl,hj,tj,t2,t4,t6,rfl⟩:=hs
     have hs12:=sm3.2.2
     have wj:IntKind.i64.wrap (((j:Nat):Int)+1)=((j+1:Nat):Int):=Qz (by omega)
     by_cases hlt:j<r.guard.length
     ·have hrow:rowW (H0.length+2) r.guard = .arr (H0.length+2) 0 r.guard.length:=Qby _ hlt
      have hblk:blkG (mixG F r.guard j) = .cells 46 3 (vs G.goal (mixG F r.guard j)):=YC _ _ _ (by rw[YK F _ hj];exact hlt)
      have hblk2:blkG (mixG F r.guard (j+1)) = .cells 46 3 (vs G.goal (mixG F r.guard (j+1))):=YC _ _ _ (by rw[YK F _ (by omega)];exact hlt)
      have hel:=Qej F G.goal hlt
      have hse:=Qek F G.goal hlt
      have hec:=G.Qt6 r.guard[j]
      have hea:(r.guard[j]).goal.isAgg=true:=rfl
      have hlv:(vs G.goal (mixG F r.guard j)).length=r.guard.length:=by rw[QS,YK F _ hj]
      have y1:((j:Nat):Int)<((r.guard.length:Nat):Int):=by omega
      have cr:=Qad U4 (some (H0.length+5)) (by omega) 1000000 (Nat.le_refl _) r.guard[j].args (Nat.le_trans (Qln sm3 hlt) (by omega)) (sm3.1 _ (List.getElem_mem hlt)) (fun v hv=>hin3 v (QbI hlt v hv))
      rw[<-hF]at cr
      repeat first|refine Qb ?_;simp only[go_sem,seval,t4,tj,Q7,hrow,hblk,y1]|refine hK _ ?_;clear hK
      first|refine Ql (id:=33) [(0,0),(1,0),(2,0),(3,0),(4,0),(5,0),(6,0),(7,0),(8,0),(9,0),(10,1),(11,0),(12,0),(13,2)] mixed (by kernel_rfl) fun K hK=>?_|refine Qn (id:=33) [(0,0),(1,0),(2,0),(3,0),(4,0),(5,0),(6,0),(7,0),(8,0),(9,0),(10,1),(11,0),(12,0),(13,2)] mixed (by kernel_rfl) fun K hK=>?_
      (try simp only[QuL,QuT]);refine Xn 10 (fun K1 hK1=>?_);simp only[go_sem,seval,t4,t6,tj,hel,hec,y1];refine hK1 _ ?_;clear hK1
      (try simp only[QuL,QuT]);refine Xn 4 (fun K1 hK1=>?_);simp only[go_sem,seval];(repeat ((((with_reducible refine XW cr ?_));simp only[go_sem,seval,hel,hec,hea,y1])));refine hK1 _ ?_;clear hK1
      refine hK _ ?_
      repeat first|refine Qb ?_;simp only[go_sem,seval,tj,wj]|refine hK _ ?_;clear hK|clear hK;refine hK _ ?_;clear hK
      refine Qv.mk (m':=r.guard.length - (j+1)) (by omega) ?_
      rw[hI]
      exact⟨j+1,rfl,hlt,rfl,t2,t4,t6,by rw[hblk2,<-hse,Q7,hrow];rfl⟩
     ·have hjl:j=r.guard.length:=by omega
      have hme:mixG F r.guard j=mG F r.guard:=by rw[hjl];exact Qei F _
      have hx:(r.guard=[]/\rowW (H0.length+2) r.guard = .v (.slice none 0 0)/\blkG r.guard = .dead)\/(r.guard≠[]/\rowW (H0.length+2) r.guard = .arr (H0.length+2) 0 r.guard.length/\blkG r.guard = .cells 46 3 (vs G.goal r.guard)):=ZA _ _ _ _ _
      rw[hme]
      rcases hx with⟨hn,hrow,_⟩|⟨hn,hrow,_⟩
      ·have y1:¬((j:Nat):Int)<0:=by omega
       have y0:pv Tryz.prog (Builtin.len_ #[32] 3 #[Value.slice none 0 0])=some (.int .i64 0):=by kernel_rfl
       repeat first|refine Qb ?_;simp only[go_sem,seval,t4,tj,Q7,hrow,y1,y0]|refine hK _ ?_;clear hK
       (try (refine hK _ ?_;rw[Qp]))
       exact⟨t2,t4,t6,by rw[Q7,hrow]⟩
      ·have y1:¬((j:Nat):Int)<((r.guard.length:Nat):Int):=by omega
       have hblk:blkG (mG F r.guard) = .cells 46 3 (vs G.goal (mG F r.guard)):=YC _ _ _ (j:=0) (by have:=List.length_pos_iff.2 hn;simpa [mG]using this)
       have hlv:(vs G.goal (mG F r.guard)).length=r.guard.length:=by rw[QS];simp[mG]
       repeat first|refine Qb ?_;simp only[go_sem,seval,t4,tj,Q7,hrow,hblk,y1]|refine hK _ ?_;clear hK
       (try (refine hK _ ?_;rw[Qp]))
       exact⟨t2,t4,t6,by rw[Q7,hrow,hblk]⟩
    ·rw[hI]
     exact⟨0,rfl,Nat.zero_le _,rfl,t2,t4,t6,by rw[QcF]⟩
   rintro⟨tm,hp⟩ ⟨t2,t4,t6,rfl⟩
   dsimp only at t2 t4 t6
   refine Qw (fun s=>s.tm 2 = .ptr h.length 0 0/\s.tm 4 = .ptr (H0.length+4) 0 0/\s.tm 6 = .sl 1 (ints U4) (some (H0.length+5))/\s.h=H0++[blkA (mG F r.keep),blkA (mG F r.remove),blkG (mG F r.guard),blkG (mG F r.body),.cells 40 6 [Q7 H0.length r],.grow 3 1 U4.length]) ?_ ?_
   rotate_left
   ·repeat first|refine Qb ?_;simp only[go_sem,seval]|refine hK _ ?_;clear hK
    obtain⟨I,hI⟩:∃I:Nat->AS->Prop,I=fun m' s=>∃j:Nat,m'=r.body.length - j/\j<=r.body.length/\s.tm 14 = .i j/\s.tm 2 = .ptr h.length 0 0/\s.tm 4 = .ptr (H0.length+4) 0 0/\s.tm 6 = .sl 1 (ints U4) (some (H0.length+5))/\s.h=H0++[blkA (mG F r.keep),blkA (mG F r.remove),blkG (mG F r.guard),blkG (mixG F r.body j),.cells 40 6 [Q7 H0.length r],.grow 3 1 U4.length]:=⟨_,rfl⟩;refine Qi I ?_ (m:=r.body.length) ?_
    ·intro m' s hs;rw[hI]at hs;obtain⟨tm,hp⟩:=s;dsimp only at hs;obtain⟨j,rfl,hj,tj,t2,t4,t6,rfl⟩:=hs
     have hs12:=sm4.2.2
     have wj:IntKind.i64.wrap (((j:Nat):Int)+1)=((j+1:Nat):Int):=Qz (by omega)
     by_cases hlt:j<r.body.length
     ·have hrow:rowW (H0.length+3) r.body = .arr (H0.length+3) 0 r.body.length:=Qby _ hlt
      have hblk:blkG (mixG F r.body j) = .cells 46 3 (vs G.goal (mixG F r.body j)):=YC _ _ _ (by rw[YK F _ hj];exact hlt)
      have hblk2:blkG (mixG F r.body (j+1)) = .cells 46 3 (vs G.goal (mixG F r.body (j+1))):=YC _ _ _ (by rw[YK F _ (by omega)];exact hlt)
      have hel:=Qej F G.goal hlt
      have hse:=Qek F G.goal hlt
      have hec:=G.Qt6 r.body[j]
      have hea:(r.body[j]).goal.isAgg=true:=rfl
      have hlv:(vs G.goal (mixG F r.body j)).length=r.body.length:=by rw[QS,YK F _ hj]
      have y1:((j:Nat):Int)<((r.body.length:Nat):Int):=by omega
      have cr:=Qad U4 (some (H0.length+5)) (by omega) 1000000 (Nat.le_refl _) r.body[j].args (Nat.le_trans (Qln sm4 hlt) (by omega)) (sm4.1 _ (List.getElem_mem hlt)) (fun v hv=>hin4 v (QbI hlt v hv))
      rw[<-hF]at cr
      repeat first|refine Qb ?_;simp only[go_sem,seval,t4,tj,Q7,hrow,hblk,y1]|refine hK _ ?_;clear hK
      first|refine Ql (id:=37) [(0,0),(1,0),(2,0),(3,0),(4,0),(5,0),(6,0),(7,0),(8,0),(9,0),(10,1),(11,0),(12,0),(13,2)] mixed (by kernel_rfl) fun K hK=>?_|refine Qn (id:=37) [(0,0),(1,0),(2,0),(3,0),(4,0),(5,0),(6,0),(7,0),(8,0),(9,0),(10,1),(11,0),(12,0),(13,2)] mixed (by kernel_rfl) fun K hK=>?_
      (try simp only[QuL,QuT]);refine Xn 10 (fun K1 hK1=>?_);simp only[go_sem,seval,t4,t6,tj,hel,hec,y1];refine hK1 _ ?_;clear hK1
      (try simp only[QuL,QuT]);refine Xn 4 (fun K1 hK1=>?_);simp only[go_sem,seval];(repeat ((((with_reducible refine XW cr ?_));simp only[go_sem,seval,hel,hec,hea,y1])));refine hK1 _ ?_;clear hK1
      refine hK _ ?_
      repeat first|refine Qb ?_;simp only[go_sem,seval,tj,wj]|refine hK _ ?_;clear hK|clear hK;refine hK _ ?_;clear hK
      refine Qv.mk (m':=r.body.length - (j+1)) (by omega) ?_
      rw[hI]
      exact⟨j+1,rfl,hlt,rfl,t2,t4,t6,by rw[hblk2,<-hse,Q7,hrow];rfl⟩
     ·have hjl:j=r.body.length:=by omega
      have hme:mixG F r.body j=mG F r.body:=by rw[hjl];exact Qei F _
      have hx:(r.body=[]/\rowW (H0.length+3) r.body = .v (.slice none 0 0)/\blkG r.body = .dead)\/(r.body≠[]/\rowW (H0.length+3) r.body = .arr (H0.length+3) 0 r.body.length/\blkG r.body = .cells 46 3 (vs G.goal r.body)):=ZA _ _ _ _ _
      rw[hme]
      rcases hx with⟨hn,hrow,_⟩|⟨hn,hrow,_⟩
      ·have y1:¬((j:Nat):Int)<0:=by omega
       have y0:pv Tryz.prog (Builtin.len_ #[32] 3 #[Value.slice none 0 0])=some (.int .i64 0):=by kernel_rfl
       repeat first|refine Qb ?_;simp only[go_sem,seval,t4,tj,Q7,hrow,y1,y0]|refine hK _ ?_;clear hK
       (try (refine hK _ ?_;rw[Qp]))
       exact⟨t2,t4,t6,by rw[Q7,hrow]⟩
      ·have y1:¬((j:Nat):Int)<((r.body.length:Nat):Int):=by omega
       have hblk:blkG (mG F r.body) = .cells 46 3 (vs G.goal (mG F r.body)):=YC _ _ _ (j:=0) (by have:=List.length_pos_iff.2 hn;simpa [mG]using this)
       have hlv:(vs G.goal (mG F r.body)).length=r.body.length:=by rw[QS];simp[mG]
       repeat first|refine Qb ?_;simp only[go_sem,seval,t4,tj,Q7,hrow,hblk,y1]|refine hK _ ?_;clear hK
       (try (refine hK _ ?_;rw[Qp]))
       exact⟨t2,t4,t6,by rw[Q7,hrow,hblk]⟩
    ·rw[hI]
     exact⟨0,rfl,Nat.zero_le _,rfl,t2,t4,t6,by rw[QcF]⟩
   rintro⟨tm,hp⟩ ⟨t2,t4,t6,rfl⟩
   dsimp only at t2 t4 t6
   repeat first|refine Qb ?_;simp only[go_sem,seval,t2,t4,t6,gn,sn,rk.2.2,rr.2.2,rg.2.2,rb.2.2,Q7]|refine hK _ ?_;clear hK
   simp only[go_sem,seval,t2,gx]
   rw[hnumd]
   refine .inr ⟨_,_,?_,rfl,by rw[List.length_set];omega,by rw[gt];exact g2⟩
   simp only[Qrf,List.length_set]
 ·have t0i:(0:Nat)=0:=rfl
  cases hp:Ya ⟨s.toks,[]⟩with
  |err p e =>
   have hRR:R = .err p e:=by rw[<-hR,hp];rfl
   rw[hp]at cp
   have cp2:Qj Tryz.prog 57 [.ptr i 0 0] (rh h9 i (h.length+1) all ⟨s.toks,[]⟩ 0 0) fun o h'=>∃w:EW,o = .ret (.tup [.agg [.v (.string w.x),w.a,w.b,w.c,w.d,.i 0],.b false])/\h'=rh h9 i (h.length+1) all w.s p e++w.Y:=cp.mono (by
    rintro o h' ⟨v,s2,Y,⟨x,a,b,c,d,rfl,ha,hb,hc,hd⟩,rfl,rfl⟩
    exact⟨⟨x,a,b,c,d,s2,Y,ha,hb,hc,hd⟩,rfl,rfl⟩)
   have wa:=fun w:EW=>w.ha.1
   have wb:=fun w:EW=>w.hb.1
   have wc:=fun w:EW=>w.hc.1
   have wd:=fun w:EW=>w.hd.1
   have wa3:=fun w:EW=>w.ha.2.2
   have wb3:=fun w:EW=>w.hb.2.2
   have wc3:=fun w:EW=>w.hc.2.2
   have wd3:=fun w:EW=>w.hd.2.2
   have m1:=YB h9 i (h.length+1) all
   have m2:∀(s2:PS) (p e:Int) (Y:AH) (c:AB),((rh h9 i (h.length+1) all s2 p e++Y)++[c])[(rh h9 i (h.length+1) all s2 p e++Y).length]? = some c:=fun s2 p e Y c=>List.getElem?_concat_length
   repeat first|(first|refine FunW.retV (FunW.call cp2) fun w=>?_|refine Qb ?_);simp only[go_sem,seval,wa3,wb3,wc3,wd3]|refine hK _ ?_;clear hK
   (try (refine hK _ ?_;rw[Qp]))
   exact⟨rfl,.inl ⟨p,e,w.s,_,hRR,rfl,rfl⟩⟩
  |ok r s2 =>
   rw[hp]at cp
   have q1:=YB h9 i (h.length+1) all
   have q2:=QaT h9 i (h.length+1) all
   have q3:=QcO h9 i (h.length+1) all
   have q5:=ZL h9 i (h.length+1) all
   have q6:=QaS h9 i (h.length+1) all
   have cp2:Qj Tryz.prog 57 [.ptr i 0 0] (rh h9 i (h.length+1) all ⟨s.toks,[]⟩ 0 0) fun o h'=>o = .ret (.tup [.agg [.v (.string r.name),rowW h9.length r.keep,rowW (h9.length+1) r.remove,rowW (h9.length+2) r.guard,rowW (h9.length+3) r.body,.i 0],.b true])/\h'=rh h9 i (h.length+1) all s2 0 0++[blkA r.keep,blkA r.remove,blkG r.guard,blkG r.body]:=cp.mono (fun o h' q=>q)
   have rk:=Qbz h9.length r.keep
   have rr:=Qbz (h9.length+1) r.remove
   have rg:=Qbz (h9.length+2) r.guard
   have rb:=Qbz (h9.length+3) r.body
   repeat first|(first|refine FunW.QtJ cp2 ?_|refine Qb ?_);simp only[go_sem,seval,q1,q3,q6,rk.2.2,rr.2.2,rg.2.2,rb.2.2]|refine hK _ ?_;clear hK
   (try (refine hK _ ?_;rw[Qp]))
   exact⟨rfl,.inr ⟨r,s2,rfl,rfl,rfl,rfl⟩⟩
end
end Go.Proofs.YticgcpebdldbgaaGreatDoor.Ab
set_option maxRecDepth 4000
namespace Go.Proofs.YticgcpebdldbgaaGreatDoor.Ab
open Go.Proofs
section
variable(l:List UInt8)(hl:l.length<=16384)(k0:Nat)(hk0:k0<=l.length)(h:AH)(k:Nat)(hk:k=l.length - (QJ false (l.drop k0)).length)(he:QJ false (l.drop k0)=l.drop k)
include hl hk0 hk he
theorem Qon(hk2:k=l.length):Qj Tryz.prog 51 [.v (.string (mkB l)),.i k0] h fun o h'=>o = .ret (rdT k (XP (l.drop k)))/\h'=h:=by
 have hsl:=fun b=>XF Tryz.prog 9 3 (by kernel_rfl) b
 have z1:¬((k0:Nat):Int)<0:=by omega
 have z2:¬((l.length:Nat):Int)<((k0:Nat):Int):=by omega
 have z3:¬((k0:Nat):Int)>((l.length:Nat):Int):=by omega
 have z4:¬((l.length:Nat):Int)>16384:=by omega
 have z5:¬(16384:Int)<((l.length:Nat):Int):=by omega
 have cs:=ZP l hl k0 hk0
 rw[<-hk]at cs
 have _u:=he
 have y1:(((k:Nat):Int)==((l.length:Nat):Int))=true:=by rw[hk2];simp
 have e:rdT k (XP (l.drop k)) = .tup [tkv 0 k [],.i k,.i 0]:=by rw[hk2,List.drop_length];rfl
 have hsp:=YL Tryz.prog 9 (by kernel_rfl) (mkB l) (some (.i64,(k:Nat))) (some (.i64,(k:Nat))) k (k+0) ⟨by omega,by rw[Qg];omega,by omega⟩ ⟨by omega,by omega,by omega⟩
 simp only[QuE]at hsp
 rw[X8 l k 0 (by omega),List.take_zero]at hsp
 rw[e]
 refine Qa Tryz.func51 rfl Tryz.call51 Tryz.ntmps51 Tryz.results51 (by simp) ?_
 repeat (first|refine Qd cs ?_|refine Qb ?_);simp only[go_sem,seval,Xx,hsl,Qg,z1,z2,z4,y1,hsp]
 exact Qc (htake _ _) (.keep (YY (QcW _ _ _ _) _ _)) ⟨rfl,rfl⟩
theorem Qop(hk2:k<l.length)(hL:lowB l[k]=true):Qj Tryz.prog 51 [.v (.string (mkB l)),.i k0] h fun o h'=>o = .ret (rdT k (XP (l.drop k)))/\h'=h:=by
 have hsl:=fun b=>XF Tryz.prog 9 3 (by kernel_rfl) b
 have z1:¬((k0:Nat):Int)<0:=by omega
 have z2:¬((l.length:Nat):Int)<((k0:Nat):Int):=by omega
 have z3:¬((k0:Nat):Int)>((l.length:Nat):Int):=by omega
 have z4:¬((l.length:Nat):Int)>16384:=by omega
 have z5:¬(16384:Int)<((l.length:Nat):Int):=by omega
 have cs:=ZP l hl k0 hk0
 rw[<-hk]at cs
 have _u:=he
 have y1:(((k:Nat):Int)==((l.length:Nat):Int))=false:=by simp;omega
 have hix:=Xb Tryz.prog 9 (by kernel_rfl) (mkB l) k (by rw[Qg];exact hk2)
 rw[Xy l k hk2]at hix
 have cl:=ZZ l[k]
 have cu:=QaU l[k]
 have cd:=Zz l[k]
 have hd:=drop_cons hk2
 have hlu:=Qe3 l[k]
 rw[hL]at cl hlu
 rw[Bool.true_or]at hlu
 have h97:97<=l[k].toNat:=(of_decide_eq_true hL).1
 obtain⟨w,hw⟩:∃w,w=(l.drop k).takeWhile isW:=⟨_,rfl⟩
 have hn:w.length<=l.length - k:=by rw[hw,<-List.length_drop];exact(List.takeWhile_prefix _).length_le
 have ht:XP (l.drop k)=if 40<w.length then .inr 7 else .inl (1,w):=by rw[hw,hd,XP,if_pos hlu,if_pos h97]
 have hwt:(l.drop k).take w.length=w:=by rw[hw];exact(List.prefix_iff_eq_take.1 (List.takeWhile_prefix isW)).symm
 refine Qa Tryz.func51 rfl Tryz.call51 Tryz.ntmps51 Tryz.results51 (by simp) ?_
 repeat first|(first|refine Qd cs ?_|refine Qd cl ?_|refine Qb ?_);simp only[go_sem,seval,hsl,Qg,z1,z2,z4,y1,hix]|refine hK _ ?_;clear hK
 obtain⟨I,hI⟩:∃I:Nat->AS->Prop,I=fun m' s=>∃j:Nat,m'=w.length - j/\j<=w.length/\j+((l.drop (k+j)).takeWhile isW).length=w.length/\s.tm 0 = .v (.string (mkB l))/\s.tm 1 = .i k/\s.tm 4 = .ptr h.length 0 0/\s.tm 7 = .i ((k+j:Nat):Int)/\s.tm 8 = .i 1/\s.h=h++[.cells 54 3 [zTok]]:=⟨_,rfl⟩;refine Qi I ?_ (m:=w.length) ?_
 ·intro m' s hs;rw[hI]at hs;obtain⟨tm,hp⟩:=s;dsimp only at hs;obtain⟨j,rfl,hj,hw2,t0,t1,t4,t7,t8,rfl⟩:=hs
  (with_reducible refine Qo fun K hK=>?_)
  refine Qw (fun s=>s.tm 78 = .b (decide (j<w.length))/\s.tm 0 = .v (.string (mkB l))/\s.tm 1 = .i k/\s.tm 4 = .ptr h.length 0 0/\s.tm 7 = .i ((k+j:Nat):Int)/\s.tm 8 = .i 1/\s.h=h++[.cells 54 3 [zTok]]) ?_ ?_
  ·rintro⟨tm,hq⟩ ⟨t78,t0,t1,t4,t7,t8,rfl⟩
   dsimp only at t78 t0 t1 t4 t7 t8
   by_cases hjw:j<w.length
   ·rw[decide_eq_true hjw]at t78
    have hlt:k+j<l.length:=by omega
    have w5:IntKind.i64.wrap (((k+j:Nat):Int)+1)=((k+(j+1):Nat):Int):=by rw[QO (by omega)];omega
    rw[drop_cons hlt,List.takeWhile_cons]at hw2
    have hc:isW l[k+j]=true:=by
     cases q:isW l[k+j]with
     |true=>rfl
     |false =>
      rw[q]at hw2
      simp at hw2;omega
    rw[if_pos hc,List.length_cons]at hw2
    refine Qk (by exact t78) ?_
    simp only[↓reduceIte]
    repeat first|refine Qb ?_;simp only[go_sem,seval,t7,w5]|refine hK _ ?_;clear hK
    refine Qv.mk (m':=w.length - (j+1)) (by omega) ?_
    rw[hI]
    exact⟨j+1,rfl,by omega,by rw[show k+(j+1)=k+j+1 by omega];omega,t0,t1,t4,rfl,t8,rfl⟩
   ·rw[decide_eq_false hjw]at t78
    have hje:j=w.length:=by omega
    subst hje
    have hsp:=YL Tryz.prog 9 (by kernel_rfl) (mkB l) (some (.i64,(k:Nat))) (some (.i64,(k+w.length:Nat))) k (k+w.length) ⟨by omega,by rw[Qg];omega,by omega⟩ ⟨by omega,by omega,by omega⟩
    have w6:IntKind.i64.wrap (((k+w.length:Nat):Int) - ((k:Nat):Int))=((w.length:Nat):Int):=by rw[QO (by omega)];omega
    simp only[QuE]at hsp
    rw[X8 l k _ (by omega),hwt]at hsp
    refine Qk (by exact t78) ?_
    simp only[↓reduceIte,QuG]
    by_cases h40:40<w.length
    ·have x1:((w.length:Nat):Int)>40:=by omega
     have x2:(40:Int)<((w.length:Nat):Int):=by omega
     repeat first|refine Qb ?_;simp only[go_sem,seval,t1,t4,t7,zTok,w6,x1]|refine hK _ ?_;clear hK|clear hK;refine hK _ ?_;clear hK
     exact Qc (htake _ _) (.keep (Xf _ k (.inr 7))) ⟨by rw[ht,if_pos h40];rfl,rfl⟩
    ·have x1:¬((w.length:Nat):Int)>40:=by omega
     have x2:¬(40:Int)<((w.length:Nat):Int):=by omega
     repeat first|refine Qb ?_;simp only[go_sem,seval,Xx,t0,t1,t4,t7,t8,zTok,w6,x1,hsp]|refine hK _ ?_;clear hK|clear hK;refine hK _ ?_;clear hK
     exact Qc (htake _ _) (.keep (Xf _ k (.inl (1,w)))) ⟨by rw[ht,if_neg h40];rfl,rfl⟩
  ·skip
   by_cases hlt:k+j<l.length
   ·have y2:((k+j:Nat):Int)<((l.length:Nat):Int):=by omega
    have hix2:=Xb Tryz.prog 9 (by kernel_rfl) (mkB l) (k+j) (by rw[Qg];exact hlt)
    rw[Xy l (k+j) hlt]at hix2
    have bl:=ZZ l[k+j]
    have bu:=QaU l[k+j]
    have bd:=Zz l[k+j]
    have hisW:isW l[k+j]=((lowB l[k+j]||upB l[k+j])||isD l[k+j]):=by rw[<-Qe3];rfl
    have hjw:decide (j<w.length)=isW l[k+j]:=by
     rw[drop_cons hlt,List.takeWhile_cons]at hw2
     cases q:isW l[k+j]with
     |true=>rw[if_pos q,List.length_cons]at hw2;exact decide_eq_true (by omega)
     |false=>rw[q]at hw2;simp at hw2;exact decide_eq_false (by omega)
    cases q1:lowB l[k+j]with
    |true =>
     rw[q1]at bl
     repeat first|refine owN ?_|(first|refine Qd bl ?_|refine owK fun K hK=>?_|refine nwcS fun K hK=>?_|refine nwcR fun K hK=>?_|refine Qb ?_);simp only[go_sem,seval,t0,t7,hsl,Qg,y2,Xx,QQ,t1,t4,t8,hix2]|refine hK _ ?_;clear hK
     exact⟨by rw[hjw,hisW,q1];rfl,t0,t1,t4,t7,t8,rfl⟩
    |false =>
     rw[q1]at bl
     cases q2:upB l[k+j]with
     |true =>
      rw[q2]at bu
      repeat first|refine owN ?_|(first|refine Qd bl ?_|refine Qd bu ?_|refine owK fun K hK=>?_|refine nwcS fun K hK=>?_|refine nwcR fun K hK=>?_|refine Qb ?_);simp only[go_sem,seval,t0,t7,hsl,Qg,y2,Xx,QQ,t1,t4,t8,hix2]|refine hK _ ?_;clear hK
      exact⟨by rw[hjw,hisW,q1,q2];rfl,t0,t1,t4,t7,t8,rfl⟩
     |false =>
      rw[q2]at bu
      cases q3:isD l[k+j]with
      |true =>
       rw[q3]at bd
       repeat first|refine owN ?_|(first|refine Qd bl ?_|refine Qd bu ?_|refine Qd bd ?_|refine owK fun K hK=>?_|refine nwcS fun K hK=>?_|refine nwcR fun K hK=>?_|refine Qb ?_);simp only[go_sem,seval,t0,t7,hsl,Qg,y2,Xx,QQ,t1,t4,t8,hix2]|refine hK _ ?_;clear hK
       exact⟨by rw[hjw,hisW,q1,q2,q3];rfl,t0,t1,t4,t7,t8,rfl⟩
      |false =>
       rw[q3]at bd
       repeat first|refine owN ?_|(first|refine Qd bl ?_|refine Qd bu ?_|refine Qd bd ?_|refine owK fun K hK=>?_|refine nwcS fun K hK=>?_|refine nwcR fun K hK=>?_|refine Qb ?_);simp only[go_sem,seval,t0,t7,hsl,Qg,y2,Xx,QQ,t1,t4,t8,hix2]|refine hK _ ?_;clear hK
       exact⟨by rw[hjw,hisW,q1,q2,q3];rfl,t0,t1,t4,t7,t8,rfl⟩
   ·have y2:¬((k+j:Nat):Int)<((l.length:Nat):Int):=by omega
    have hjw:decide (j<w.length)=false:=by
     rw[List.drop_eq_nil_of_le (by omega),List.takeWhile_nil,List.length_nil,Nat.add_zero]at hw2
     exact decide_eq_false (by omega)
    repeat first|refine owN ?_|(first|refine owK fun K hK=>?_|refine nwcS fun K hK=>?_|refine nwcR fun K hK=>?_|refine Qb ?_);simp only[go_sem,seval,t0,t7,hsl,Qg,y2,Xx,QQ,t1,t4,t8]|refine hK _ ?_;clear hK
    exact⟨by rw[hjw];rfl,t0,t1,t4,t7,t8,rfl⟩
 ·rw[hI]
  exact⟨0,rfl,Nat.zero_le _,by rw[Nat.add_zero,<-hw,Nat.zero_add],rfl,rfl,rfl,rfl,rfl,rfl⟩
theorem QpK(hk2:k<l.length)(hL:lowB l[k]=false)(hU:upB l[k]=true):Qj Tryz.prog 51 [.v (.string (mkB l)),.i k0] h fun o h'=>o = .ret (rdT k (XP (l.drop k)))/\h'=h:=by
 have hsl:=fun b=>XF Tryz.prog 9 3 (by kernel_rfl) b
 have z1:¬((k0:Nat):Int)<0:=by omega
 have z2:¬((l.length:Nat):Int)<((k0:Nat):Int):=by omega
 have z3:¬((k0:Nat):Int)>((l.length:Nat):Int):=by omega
 have z4:¬((l.length:Nat):Int)>16384:=by omega
 have z5:¬(16384:Int)<((l.length:Nat):Int):=by omega
 have cs:=ZP l hl k0 hk0
 rw[<-hk]at cs
 have _u:=he
 have y1:(((k:Nat):Int)==((l.length:Nat):Int))=false:=by simp;omega
 have hix:=Xb Tryz.prog 9 (by kernel_rfl) (mkB l) k (by rw[Qg];exact hk2)
 rw[Xy l k hk2]at hix
 have cl:=ZZ l[k]
 have cu:=QaU l[k]
 have cd:=Zz l[k]
 have hd:=drop_cons hk2
 have hlu:=Qe3 l[k]
 rw[hL]at cl hlu
 rw[hU]at cu hlu
 rw[Bool.or_true]at hlu
 have h97:¬97<=l[k].toNat:=fun q=>by
  have h1:=of_decide_eq_true hU
  have h2:=of_decide_eq_false hL
  omega
 obtain⟨w,hw⟩:∃w,w=(l.drop k).takeWhile isW:=⟨_,rfl⟩
 have hn:w.length<=l.length - k:=by rw[hw,<-List.length_drop];exact(List.takeWhile_prefix _).length_le
 have ht:XP (l.drop k)=if 40<w.length then .inr 7 else .inl (2,w):=by rw[hw,hd,XP,if_pos hlu,if_neg h97]
 have hwt:(l.drop k).take w.length=w:=by rw[hw];exact(List.prefix_iff_eq_take.1 (List.takeWhile_prefix isW)).symm
 refine Qa Tryz.func51 rfl Tryz.call51 Tryz.ntmps51 Tryz.results51 (by simp) ?_
 repeat first|(first|refine Qd cs ?_|refine Qd cl ?_|refine Qd cu ?_|refine Qb ?_);simp only[go_sem,seval,hsl,Qg,z1,z2,z4,y1,hix]|refine hK _ ?_;clear hK
 obtain⟨I,hI⟩:∃I:Nat->AS->Prop,I=fun m' s=>∃j:Nat,m'=w.length - j/\j<=w.length/\j+((l.drop (k+j)).takeWhile isW).length=w.length/\s.tm 0 = .v (.string (mkB l))/\s.tm 1 = .i k/\s.tm 4 = .ptr h.length 0 0/\s.tm 7 = .i ((k+j:Nat):Int)/\s.tm 8 = .i 2/\s.h=h++[.cells 54 3 [zTok]]:=⟨_,rfl⟩;refine Qi I ?_ (m:=w.length) ?_
 ·intro m' s hs;rw[hI]at hs;obtain⟨tm,hp⟩:=s;dsimp only at hs;obtain⟨j,rfl,hj,hw2,t0,t1,t4,t7,t8,rfl⟩:=hs
  (with_reducible refine Qo fun K hK=>?_)
  refine Qw (fun s=>s.tm 78 = .b (decide (j<w.length))/\s.tm 0 = .v (.string (mkB l))/\s.tm 1 = .i k/\s.tm 4 = .ptr h.length 0 0/\s.tm 7 = .i ((k+j:Nat):Int)/\s.tm 8 = .i 2/\s.h=h++[.cells 54 3 [zTok]]) ?_ ?_
  ·rintro⟨tm,hq⟩ ⟨t78,t0,t1,t4,t7,t8,rfl⟩
   dsimp only at t78 t0 t1 t4 t7 t8
   by_cases hjw:j<w.length
   ·rw[decide_eq_true hjw]at t78
    have hlt:k+j<l.length:=by omega
    have w5:IntKind.i64.wrap (((k+j:Nat):Int)+1)=((k+(j+1):Nat):Int):=by rw[QO (by omega)];omega
    rw[drop_cons hlt,List.takeWhile_cons]at hw2
    have hc:isW l[k+j]=true:=by
     cases q:isW l[k+j]with
     |true=>rfl
     |false =>
      rw[q]at hw2
      simp at hw2;omega
    rw[if_pos hc,List.length_cons]at hw2
    refine Qk (by exact t78) ?_
    simp only[↓reduceIte]
    repeat first|refine Qb ?_;simp only[go_sem,seval,t7,w5]|refine hK _ ?_;clear hK
    refine Qv.mk (m':=w.length - (j+1)) (by omega) ?_
    rw[hI]
    exact⟨j+1,rfl,by omega,by rw[show k+(j+1)=k+j+1 by omega];omega,t0,t1,t4,rfl,t8,rfl⟩
   ·rw[decide_eq_false hjw]at t78
    have hje:j=w.length:=by omega
    subst hje
    have hsp:=YL Tryz.prog 9 (by kernel_rfl) (mkB l) (some (.i64,(k:Nat))) (some (.i64,(k+w.length:Nat))) k (k+w.length) ⟨by omega,by rw[Qg];omega,by omega⟩ ⟨by omega,by omega,by omega⟩
    have w6:IntKind.i64.wrap (((k+w.length:Nat):Int) - ((k:Nat):Int))=((w.length:Nat):Int):=by rw[QO (by omega)];omega
    simp only[QuE]at hsp
    rw[X8 l k _ (by omega),hwt]at hsp
    refine Qk (by exact t78) ?_
    simp only[↓reduceIte,QuG]
    by_cases h40:40<w.length
    ·have x1:((w.length:Nat):Int)>40:=by omega
     have x2:(40:Int)<((w.length:Nat):Int):=by omega
     repeat first|refine Qb ?_;simp only[go_sem,seval,t1,t4,t7,zTok,w6,x1]|refine hK _ ?_;clear hK|clear hK;refine hK _ ?_;clear hK
     exact Qc (htake _ _) (.keep (Xf _ k (.inr 7))) ⟨by rw[ht,if_pos h40];rfl,rfl⟩
    ·have x1:¬((w.length:Nat):Int)>40:=by omega
     have x2:¬(40:Int)<((w.length:Nat):Int):=by omega
     repeat first|refine Qb ?_;simp only[go_sem,seval,Xx,t0,t1,t4,t7,t8,zTok,w6,x1,hsp]|refine hK _ ?_;clear hK|clear hK;refine hK _ ?_;clear hK
     exact Qc (htake _ _) (.keep (Xf _ k (.inl (2,w)))) ⟨by rw[ht,if_neg h40];rfl,rfl⟩
  ·skip
   by_cases hlt:k+j<l.length
   ·have y2:((k+j:Nat):Int)<((l.length:Nat):Int):=by omega
    have hix2:=Xb Tryz.prog 9 (by kernel_rfl) (mkB l) (k+j) (by rw[Qg];exact hlt)
    rw[Xy l (k+j) hlt]at hix2
    have bl:=ZZ l[k+j]
    have bu:=QaU l[k+j]
    have bd:=Zz l[k+j]
    have hisW:isW l[k+j]=((lowB l[k+j]||upB l[k+j])||isD l[k+j]):=by rw[<-Qe3];rfl
    have hjw:decide (j<w.length)=isW l[k+j]:=by
     rw[drop_cons hlt,List.takeWhile_cons]at hw2
     cases q:isW l[k+j]with
     |true=>rw[if_pos q,List.length_cons]at hw2;exact decide_eq_true (by omega)
     |false=>rw[q]at hw2;simp at hw2;exact decide_eq_false (by omega)
    cases q1:lowB l[k+j]with
    |true =>
     rw[q1]at bl
     repeat first|refine owN ?_|(first|refine Qd bl ?_|refine owK fun K hK=>?_|refine nwcS fun K hK=>?_|refine nwcR fun K hK=>?_|refine Qb ?_);simp only[go_sem,seval,t0,t7,hsl,Qg,y2,Xx,QQ,t1,t4,t8,hix2]|refine hK _ ?_;clear hK
     exact⟨by rw[hjw,hisW,q1];rfl,t0,t1,t4,t7,t8,rfl⟩
    |false =>
     rw[q1]at bl
     cases q2:upB l[k+j]with
     |true =>
      rw[q2]at bu
      repeat first|refine owN ?_|(first|refine Qd bl ?_|refine Qd bu ?_|refine owK fun K hK=>?_|refine nwcS fun K hK=>?_|refine nwcR fun K hK=>?_|refine Qb ?_);simp only[go_sem,seval,t0,t7,hsl,Qg,y2,Xx,QQ,t1,t4,t8,hix2]|refine hK _ ?_;clear hK
      exact⟨by rw[hjw,hisW,q1,q2];rfl,t0,t1,t4,t7,t8,rfl⟩
     |false =>
      rw[q2]at bu
      cases q3:isD l[k+j]with
      |true =>
       rw[q3]at bd
       repeat first|refine owN ?_|(first|refine Qd bl ?_|refine Qd bu ?_|refine Qd bd ?_|refine owK fun K hK=>?_|refine nwcS fun K hK=>?_|refine nwcR fun K hK=>?_|refine Qb ?_);simp only[go_sem,seval,t0,t7,hsl,Qg,y2,Xx,QQ,t1,t4,t8,hix2]|refine hK _ ?_;clear hK
       exact⟨by rw[hjw,hisW,q1,q2,q3];rfl,t0,t1,t4,t7,t8,rfl⟩
      |false =>
       rw[q3]at bd
       repeat first|refine owN ?_|(first|refine Qd bl ?_|refine Qd bu ?_|refine Qd bd ?_|refine owK fun K hK=>?_|refine nwcS fun K hK=>?_|refine nwcR fun K hK=>?_|refine Qb ?_);simp only[go_sem,seval,t0,t7,hsl,Qg,y2,Xx,QQ,t1,t4,t8,hix2]|refine hK _ ?_;clear hK
       exact⟨by rw[hjw,hisW,q1,q2,q3];rfl,t0,t1,t4,t7,t8,rfl⟩
   ·have y2:¬((k+j:Nat):Int)<((l.length:Nat):Int):=by omega
    have hjw:decide (j<w.length)=false:=by
     rw[List.drop_eq_nil_of_le (by omega),List.takeWhile_nil,List.length_nil,Nat.add_zero]at hw2
     exact decide_eq_false (by omega)
    repeat first|refine owN ?_|(first|refine owK fun K hK=>?_|refine nwcS fun K hK=>?_|refine nwcR fun K hK=>?_|refine Qb ?_);simp only[go_sem,seval,t0,t7,hsl,Qg,y2,Xx,QQ,t1,t4,t8]|refine hK _ ?_;clear hK
    exact⟨by rw[hjw];rfl,t0,t1,t4,t7,t8,rfl⟩
 ·rw[hI]
  exact⟨0,rfl,Nat.zero_le _,by rw[Nat.add_zero,<-hw,Nat.zero_add],rfl,rfl,rfl,rfl,rfl,rfl⟩
theorem Qoo(hk2:k<l.length)(hL:lowB l[k]=false)(hU:upB l[k]=false)(hD:isD l[k]=true):Qj Tryz.prog 51 [.v (.string (mkB l)),.i k0] h fun o h'=>o = .ret (rdT k (XP (l.drop k)))/\h'=h:=by
 have hsl:=fun b=>XF Tryz.prog 9 3 (by kernel_rfl) b
 have z1:¬((k0:Nat):Int)<0:=by omega
 have z2:¬((l.length:Nat):Int)<((k0:Nat):Int):=by omega
 have z3:¬((k0:Nat):Int)>((l.length:Nat):Int):=by omega
 have z4:¬((l.length:Nat):Int)>16384:=by omega
 have z5:¬(16384:Int)<((l.length:Nat):Int):=by omega
 have cs:=ZP l hl k0 hk0
 rw[<-hk]at cs
 have _u:=he
 have y1:(((k:Nat):Int)==((l.length:Nat):Int))=false:=by simp;omega
 have hix:=Xb Tryz.prog 9 (by kernel_rfl) (mkB l) k (by rw[Qg];exact hk2)
 rw[Xy l k hk2]at hix
 have cl:=ZZ l[k]
 have cu:=QaU l[k]
 have cd:=Zz l[k]
 have hd:=drop_cons hk2
 have hlu:=Qe3 l[k]
 rw[hL]at cl hlu
 rw[hU]at cu hlu
 rw[hD]at cd
 obtain⟨w,hw⟩:∃w,w=(l.drop k).takeWhile isD:=⟨_,rfl⟩
 have hn:w.length<=l.length - k:=by rw[hw,<-List.length_drop];exact(List.takeWhile_prefix _).length_le
 have ht:XP (l.drop k)=if 2147483648<numVal w then .inr 5 else .inl (3,w):=by rw[hw,hd,XP,if_neg (by rw[hlu];decide),if_pos hD]
 have hwt:(l.drop k).take w.length=w:=by rw[hw];exact(List.prefix_iff_eq_take.1 (List.takeWhile_prefix isD)).symm
 have hwd:∀c∈w,isD c=true:=fun c hc=>by
  rw[hw]at hc
  exact List.all_eq_true.1 List.all_takeWhile c hc
 have cv:=Qko w hwd (by omega)
 refine Qa Tryz.func51 rfl Tryz.call51 Tryz.ntmps51 Tryz.results51 (by simp) ?_
 repeat (first|refine Qd cs ?_|refine Qd cl ?_|refine Qd cu ?_|refine Qd cd ?_|refine Qb ?_);simp only[go_sem,seval,hsl,Qg,z1,z2,z4,y1,hix]
 obtain⟨I,hI⟩:∃I:Nat->AS->Prop,I=fun m' s=>∃j:Nat,m'=w.length - j/\j<=w.length/\j+((l.drop (k+j)).takeWhile isD).length=w.length/\s.tm 0 = .v (.string (mkB l))/\s.tm 1 = .i k/\s.tm 4 = .ptr h.length 0 0/\s.tm 7 = .i ((k+j:Nat):Int)/\s.tm 8 = .i 3/\s.h=h++[.cells 54 3 [zTok]]:=⟨_,rfl⟩;refine Qi I ?_ (m:=w.length) ?_
 ·intro m' s hs;rw[hI]at hs;obtain⟨tm,hp⟩:=s;dsimp only at hs;obtain⟨j,rfl,hj,hw2,t0,t1,t4,t7,t8,rfl⟩:=hs
  by_cases hlt:k+j<l.length
  ·have y2:((k+j:Nat):Int)<((l.length:Nat):Int):=by omega
   have hix2:=Xb Tryz.prog 9 (by kernel_rfl) (mkB l) (k+j) (by rw[Qg];exact hlt)
   rw[Xy l (k+j) hlt]at hix2
   have bd:=Zz l[k+j]
   have w5:IntKind.i64.wrap (((k+j:Nat):Int)+1)=((k+(j+1):Nat):Int):=by rw[QO (by omega)];omega
   have hd2:=drop_cons hlt
   rw[hd2,List.takeWhile_cons]at hw2
   cases q3:isD l[k+j]with
   |true =>
    rw[q3]at bd
    rw[if_pos q3,List.length_cons]at hw2
    repeat (first|refine Qd bd ?_|refine Qb ?_);simp only[go_sem,seval,t0,t7,hsl,zTok,Qg,y2,hix2,w5]
    refine Qv.mk (m':=w.length - (j+1)) (by omega) ?_
    rw[hI]
    exact⟨j+1,rfl,by omega,by rw[show k+(j+1)=k+j+1 by omega];omega,t0,t1,t4,rfl,t8,rfl⟩
   |false =>
    rw[q3]at bd
    rw[if_neg (by rw[q3];decide),List.length_nil,Nat.add_zero]at hw2
    subst hw2
    have hsp:=YL Tryz.prog 9 (by kernel_rfl) (mkB l) (some (.i64,(k:Nat))) (some (.i64,(k+w.length:Nat))) k (k+w.length) ⟨by omega,by rw[Qg];omega,by omega⟩ ⟨by omega,by omega,by omega⟩
    simp only[QuE]at hsp
    rw[X8 l k _ (by omega),hwt]at hsp
    by_cases hb:2147483648<numVal w
    ·have x1:((min (numVal w) 2147483649:Nat):Int)>2147483648:=by omega
     have x2:(2147483648:Int)<((min (numVal w) 2147483649:Nat):Int):=by omega
     repeat (first|refine Qd bd ?_|refine Qd cv ?_|refine Qb ?_);simp only[go_sem,seval,Xx,t0,t1,t4,t7,hsl,zTok,Qg,y2,hix2,hsp,x1]
     exact Qc (htake _ _) (.keep (Xf _ k (.inr 5))) ⟨by rw[ht,if_pos hb];rfl,rfl⟩
    ·have x1:¬((min (numVal w) 2147483649:Nat):Int)>2147483648:=by omega
     have x2:¬(2147483648:Int)<((min (numVal w) 2147483649:Nat):Int):=by omega
     repeat (first|refine Qd bd ?_|refine Qd cv ?_|refine Qb ?_);simp only[go_sem,seval,Xx,t0,t1,t4,t7,t8,hsl,zTok,Qg,y2,hix2,hsp,x1]
     exact Qc (htake _ _) (.keep (Xf _ k (.inl (3,w)))) ⟨by rw[ht,if_neg hb];rfl,rfl⟩
  ·have y2:¬((k+j:Nat):Int)<((l.length:Nat):Int):=by omega
   rw[List.drop_eq_nil_of_le (by omega),List.takeWhile_nil,List.length_nil,Nat.add_zero]at hw2
   subst hw2
   have hsp:=YL Tryz.prog 9 (by kernel_rfl) (mkB l) (some (.i64,(k:Nat))) (some (.i64,(k+w.length:Nat))) k (k+w.length) ⟨by omega,by rw[Qg];omega,by omega⟩ ⟨by omega,by omega,by omega⟩
   simp only[QuE]at hsp
   rw[X8 l k _ (by omega),hwt]at hsp
   by_cases hb:2147483648<numVal w
   ·have x1:((min (numVal w) 2147483649:Nat):Int)>2147483648:=by omega
    have x2:(2147483648:Int)<((min (numVal w) 2147483649:Nat):Int):=by omega
    repeat (first|refine Qd cv ?_|refine Qb ?_);simp only[go_sem,seval,Xx,t0,t1,t4,t7,hsl,zTok,Qg,y2,hsp,x1]
    exact Qc (htake _ _) (.keep (Xf _ k (.inr 5))) ⟨by rw[ht,if_pos hb];rfl,rfl⟩
   ·have x1:¬((min (numVal w) 2147483649:Nat):Int)>2147483648:=by omega
    have x2:¬(2147483648:Int)<((min (numVal w) 2147483649:Nat):Int):=by omega
    repeat (first|refine Qd cv ?_|refine Qb ?_);simp only[go_sem,seval,Xx,t0,t1,t4,t7,t8,hsl,zTok,Qg,y2,hsp,x1]
    exact Qc (htake _ _) (.keep (Xf _ k (.inl (3,w)))) ⟨by rw[ht,if_neg hb];rfl,rfl⟩
 ·rw[hI]
  exact⟨0,rfl,Nat.zero_le _,by rw[Nat.add_zero,<-hw,Nat.zero_add],rfl,rfl,rfl,rfl,rfl,rfl⟩
theorem Qmh(hk2:k<l.length)(hL:lowB l[k]=false)(hU:upB l[k]=false)(hD:isD l[k]=false)(hs:Qd5 (l.drop k)=none):Qj Tryz.prog 51 [.v (.string (mkB l)),.i k0] h fun o h'=>o = .ret (rdT k (XP (l.drop k)))/\h'=h:=by
 have hsl:=fun b=>XF Tryz.prog 9 3 (by kernel_rfl) b
 have z1:¬((k0:Nat):Int)<0:=by omega
 have z2:¬((l.length:Nat):Int)<((k0:Nat):Int):=by omega
 have z3:¬((k0:Nat):Int)>((l.length:Nat):Int):=by omega
 have z4:¬((l.length:Nat):Int)>16384:=by omega
 have z5:¬(16384:Int)<((l.length:Nat):Int):=by omega
 have cs:=ZP l hl k0 hk0
 rw[<-hk]at cs
 have _u:=he
 have y1:(((k:Nat):Int)==((l.length:Nat):Int))=false:=by simp;omega
 have hix:=Xb Tryz.prog 9 (by kernel_rfl) (mkB l) k (by rw[Qg];exact hk2)
 rw[Xy l k hk2]at hix
 have cl:=ZZ l[k]
 have cu:=QaU l[k]
 have cd:=Zz l[k]
 have hd:=drop_cons hk2
 have hlu:=Qe3 l[k]
 rw[hL]at cl hlu
 rw[hU]at cu hlu
 rw[hD]at cd
 have cy:=QdR l hl k (by omega)
 rw[hs]at cy
 simp only[Option.getD_none]at cy
 have hs2:=hs
 rw[hd]at hs2
 have ht:XP (l.drop k) = .inr 16:=by rw[hd,XP,if_neg (by rw[hlu];decide),if_neg (by rw[hD];decide),hs2]
 have w1:IntKind.i64.wrap (((k:Nat):Int)+(([]:List UInt8).length:Nat))=((k:Nat):Int):=by rw[QO (by simp only[QuQ];omega)];simp
 have w2:IntKind.i64.wrap (((k:Nat):Int)+0)=((k:Nat):Int):=by rw[QO (by omega)];omega
 rw[ht]
 refine Qa Tryz.func51 rfl Tryz.call51 Tryz.ntmps51 Tryz.results51 (by simp) ?_
 repeat (first|refine Qd cs ?_|refine Qd cl ?_|refine Qd cu ?_|refine Qd cd ?_|refine Qd cy ?_|refine Qb ?_);simp only[go_sem,seval,hsl,Qg,z1,z2,z4,y1,hix,w2]
 exact Qc (htake _ _) (.keep (Xf _ k (.inr 16))) ⟨rfl,rfl⟩
theorem Qmi(hk2:k<l.length)(hL:lowB l[k]=false)(hU:upB l[k]=false)(hD:isD l[k]=false)(x:List UInt8)(hs:Qd5 (l.drop k)=some x):Qj Tryz.prog 51 [.v (.string (mkB l)),.i k0] h fun o h'=>o = .ret (rdT k (XP (l.drop k)))/\h'=h:=by
 have hsl:=fun b=>XF Tryz.prog 9 3 (by kernel_rfl) b
 have z1:¬((k0:Nat):Int)<0:=by omega
 have z2:¬((l.length:Nat):Int)<((k0:Nat):Int):=by omega
 have z3:¬((k0:Nat):Int)>((l.length:Nat):Int):=by omega
 have z4:¬((l.length:Nat):Int)>16384:=by omega
 have z5:¬(16384:Int)<((l.length:Nat):Int):=by omega
 have cs:=ZP l hl k0 hk0
 rw[<-hk]at cs
 have _u:=he
 have y1:(((k:Nat):Int)==((l.length:Nat):Int))=false:=by simp;omega
 have hix:=Xb Tryz.prog 9 (by kernel_rfl) (mkB l) k (by rw[Qg];exact hk2)
 rw[Xy l k hk2]at hix
 have cl:=ZZ l[k]
 have cu:=QaU l[k]
 have cd:=Zz l[k]
 have hd:=drop_cons hk2
 have hlu:=Qe3 l[k]
 rw[hL]at cl hlu
 rw[hU]at cu hlu
 rw[hD]at cd
 have cy:=QdR l hl k (by omega)
 rw[hs]at cy
 simp only[Option.getD_some]at cy
 have hs2:=hs
 rw[hd]at hs2
 have ht:XP (l.drop k) = .inl (4,x):=by rw[hd,XP,if_neg (by rw[hlu];decide),if_neg (by rw[hD];decide),hs2]
 obtain⟨x1,x3,xp⟩:=QfJ hs
 rw[QaO,beq_iff_eq]at xp
 have xl:x.length<=l.length - k:=by have:=congrArg List.length xp;rw[List.length_take,List.length_drop]at this;omega
 have w1:IntKind.i64.wrap (((k:Nat):Int)+((x.length:Nat):Int))=((k+x.length:Nat):Int):=by rw[QO (by omega)];omega
 have q1:(((k+x.length:Nat):Int)==((k:Nat):Int))=false:=by simp;omega
 have hsp:=YL Tryz.prog 9 (by kernel_rfl) (mkB l) (some (.i64,(k:Nat))) (some (.i64,(k+x.length:Nat))) k (k+x.length) ⟨by omega,by rw[Qg];omega,by omega⟩ ⟨by omega,by omega,by omega⟩
 simp only[QuE]at hsp
 rw[X8 l k _ (by omega),xp]at hsp
 rw[ht]
 refine Qa Tryz.func51 rfl Tryz.call51 Tryz.ntmps51 Tryz.results51 (by simp) ?_
 repeat (first|refine Qd cs ?_|refine Qd cl ?_|refine Qd cu ?_|refine Qd cd ?_|refine Qd cy ?_|refine Qb ?_);simp only[go_sem,seval,Xx,hsl,Qg,z1,z2,z4,y1,hix,w1,q1,hsp]
 exact Qc (htake _ _) (.keep (Xf _ k (.inl (4,x)))) ⟨rfl,rfl⟩
end
theorem Qmg(l:List UInt8)(hl:l.length<=16384)(k0:Nat)(hk0:k0<=l.length)(h:AH):Qj Tryz.prog 51 [.v (.string (mkB l)),.i k0] h fun o h'=>o = .ret (Qff l.length (l.drop k0))/\h'=h:=by
 obtain⟨j,j1,j2⟩:=QcT (l.drop k0)
 have e1:QJ false (l.drop k0)=l.drop (l.length - (QJ false (l.drop k0)).length):=by
  rw[List.length_drop]at j1
  rw[j2,List.drop_drop,List.length_drop]
  congr 1;omega
 have en:Qff l.length (l.drop k0)=rdT (l.length - (QJ false (l.drop k0)).length) (XP (l.drop (l.length - (QJ false (l.drop k0)).length))):=by rw[Qff,<-e1]
 rw[en]
 generalize hk:l.length - (QJ false (l.drop k0)).length=k at *
 by_cases e:k=l.length
 ·exact Qon l hl k0 hk0 h k hk.symm e1 e
 ·have hlt:k<l.length:=by omega
  cases hL:lowB l[k]with
  |true=>exact Qop l hl k0 hk0 h k hk.symm e1 hlt hL
  |false =>
   cases hU:upB l[k]with
   |true=>exact QpK l hl k0 hk0 h k hk.symm e1 hlt hL hU
   |false =>
    cases hD:isD l[k]with
    |true=>exact Qoo l hl k0 hk0 h k hk.symm e1 hlt hL hU hD
    |false =>
     cases hs:Qd5 (l.drop k)with
     |none=>exact Qmh l hl k0 hk0 h k hk.symm e1 hlt hL hU hD hs
     |some x=>exact Qmi l hl k0 hk0 h k hk.symm e1 hlt hL hU hD x hs
end Go.Proofs.YticgcpebdldbgaaGreatDoor.Ab
set_option maxRecDepth 4000
namespace Go.Proofs.YticgcpebdldbgaaGreatDoor.Ab
open Go.Proofs
theorem Qmk(l:List UInt8)(hl:l.length<=16384)(h:AH):Qj Tryz.prog 23 [.v (.string (mkB l))] h fun o h'=>o = .ret (scR (XN l))/\h'=h:=by
 have hsl0:=fun b=>XF Tryz.prog 9 3 (by kernel_rfl) b
 have w0:IntKind.i64.wrap (((l.length:Nat):Int)+1)=((l.length+1:Nat):Int):=Qz (by omega)
 rw[XN,if_neg (by omega)]
 generalize hR:ZG l.length (l.length+1) l=R
 refine Qa Tryz.func23 rfl Tryz.call23 Tryz.ntmps23 Tryz.results23 (by simp) ?_
 iterate 6 (try (first|(((with_reducible refine Qf fun K E hK hE=>?_));simp only[go_sem,seval])|((with_reducible refine hK _ ?_);clear hK)))
 refine X7 5 54 3 rfl ?_
 repeat first|refine Qb ?_;simp only[go_sem,seval,hsl0,Qg,w0]|refine hK _ ?_;clear hK
 obtain⟨I,hI⟩:∃I:Nat->AS->Prop,I=fun m' s=>∃(ts:List Tk) (k:Nat) (G:AH),m'=l.length - k/\k<=l.length/\ts.length<=k/\(∃m,l.length - k<m/\scJ ts (ZG l.length m (l.drop k))=R)/\s.tm 0 = .v (.string (mkB l))/\s.tm 5 = .sl 3 (tks ts) (some h.length)/\s.tm 6 = .i k/\s.tm 12 = .i ((l.length+1:Nat):Int)/\s.tm 13 = .i ts.length/\s.h=h++(.grow 54 3 ts.length::G):=⟨_,rfl⟩;refine Qi I ?_ (m:=l.length) ?_
 ·intro m' s hs;rw[hI]at hs;obtain⟨tm,hp⟩:=s;dsimp only at hs;obtain⟨ts,k,G,rfl,hk,htl,⟨m,hm,hR2⟩,t0,t5,t6,t12,t13,rfl⟩:=hs
  have yl:((ts.length:Nat):Int)<((l.length+1:Nat):Int):=by omega
  have wl:IntKind.i64.wrap (((ts.length:Nat):Int)+1)=((ts.length+1:Nat):Int):=Qz (by omega)
  have hm1:m=m - 1+1:=by omega
  rw[hm1,ZG]at hR2
  have cn:=fun L=>Qmg l hl k hk (h++L)
  obtain⟨j,j1,j2⟩:=QcT (l.drop k)
  have hsl:(QJ false (l.drop k)).length<=l.length - k:=by rw[j2,List.length_drop,List.length_drop];omega
  have e1:QJ false (l.drop k)=l.drop (l.length - (QJ false (l.drop k)).length):=by
   rw[List.length_drop]at j1
   rw[j2,List.drop_drop,List.length_drop]
   congr 1;omega
  rw[Qff]at cn
  have x1:∀(Y:AH),(G++Y)[G.length]? = Y[0]? := fun Y=>Y8 _ _
  have x2:∀(Y:AH) k,(G++Y)[G.length+k]? = Y[k]? := fun Y k=>hget _ _ _
  have x3:∀(Y:AH) y,(G++Y).set G.length y=G++Y.set 0 y:=fun Y y=>Qah _ _ _
  have ev:(tks ts).length=ts.length:=X4 _
  cases ht:XP (QJ false (l.drop k))with
  |inr e =>
   rw[ht]at hR2 cn
   have hR3:Sum.inr (((l.length - (QJ false (l.drop k)).length:Nat):Int),e)=R:=hR2
   subst hR3
   have he:(e != 0)=true:=by
    have:=QhV ht
    simpa using this
   repeat first|(first|refine FunW.QtJ (cn _) ?_|refine Qb ?_);simp only[go_sem,seval,t0,t6,t12,t13,yl,rdT,zTok,he]|refine hK _ ?_;clear hK
   exact Qc (htake _ _) (.keep (QfE _ (.inr (_,e)))) ⟨rfl,rfl⟩
  |inl p =>
   obtain⟨kd,x⟩:=p
   rw[ht]at hR2 cn
   have hm2:(ts.length+1) * 32<=140737488355328:=by omega
   have hm3:ts.length+1<=maxLen:=by simp only[maxLen];omega
   have e0:((0:Int) != 0)=false:=rfl
   rcases QhW ht with⟨k0,hx1,hx2⟩|⟨k0,hx1,r,hx2⟩
   ·subst k0
    subst hx2
    have hR3:Sum.inl (ts++[⟨0,((l.length - (QJ false (l.drop k)).length:Nat):Int),eB⟩])=R:=hR2
    subst hR3
    have z1:((0:Int)==0)=true:=rfl
    generalize l.length - (QJ false (l.drop k)).length=i at *
    have evs:tks (ts++[⟨0,((i:Nat):Int),eB⟩])=tks ts++[.agg [.i 0,.i i,.v (.string (mkB []))]]:=by rw[tks,List.map_append];rfl
    repeat first|(first|refine FunW.QtJ (cn _) ?_|refine Qb ?_);simp only[go_sem,seval,t0,t5,t6,t12,t13,yl,rdT,tkv,x1,x3,ev,hm2,hm3,List.append_assoc]|refine hK _ ?_;clear hK
    refine Qc (htake _ _) (r':=.tup [.sl 3 (tks ts++[.agg [.i 0,.i i,.v (.string (mkB []))]]) none,.i 0,.i 0]) (Frz.tup rfl fun j a a' h1 h2=>?_) ⟨by rw[scR,evs],rfl⟩
    match j,h1,h2 with
    |0,h1,h2=>cases h1;cases h2;exact .tok (by rw[<-evs];exact QaX _ _)
    |1,h1,h2=>cases h1;cases h2;exact .keep (.v _)
    |2,h1,h2=>cases h1;cases h2;exact .keep (.v _)
    |j+3,h1,h2=>simp at h1
   ·have hR3:scJ (ts++[⟨kd,((l.length - (QJ false (l.drop k)).length:Nat):Int),mkB x⟩]) (ZG l.length (m - 1) ((QJ false (l.drop k)).drop x.length))=R:=by
     rw[<-hR2]
     show _=scJ ts (if kd=0 then _ else match ZG l.length (m - 1) ((QJ false (l.drop k)).drop x.length)with | .inl ts=>_ | .inr e=>_)
     rw[if_neg k0]
     cases ZG l.length (m - 1) ((QJ false (l.drop k)).drop x.length)with
     |inl us=>simp[scJ]
     |inr e=>rfl
    have hxl:0<x.length:=List.length_pos_iff.2 hx1
    have hxr:x.length<=(QJ false (l.drop k)).length:=by rw[hx2,List.length_append];omega
    have e9:(QJ false (l.drop k)).drop x.length=l.drop (l.length - (QJ false (l.drop k)).length+x.length):=by
     conv=>lhs;rw[e1]
     rw[List.drop_drop]
    rw[e9]at hR3
    generalize (QJ false (l.drop k)).length=u at *
    have z1:(kd==0)=false:=by simpa using k0
    have evs:tks (ts++[⟨kd,((l.length - u:Nat):Int),mkB x⟩])=tks ts++[.agg [.i kd,.i ((l.length - u:Nat):Int),.v (.string (mkB x))]]:=by rw[tks,List.map_append];rfl
    repeat first|(first|refine FunW.QtJ (cn _) ?_|refine Qb ?_);simp only[go_sem,seval,t0,t5,t6,t12,t13,yl,wl,rdT,tkv,z1,x1,x3,ev,hm2,hm3,List.append_assoc]|refine hK _ ?_;clear hK
    refine Qv.mk (m':=l.length - (l.length - u+x.length)) (by omega) ?_
    rw[hI]
    refine⟨ts++[⟨kd,((l.length - u:Nat):Int),mkB x⟩],l.length - u+x.length,G++[.cells 54 3 [tkv kd ((l.length - u:Nat):Int) x]],rfl,by omega,by simp;omega,⟨m - 1,by omega,hR3⟩,t0,?_,rfl,t12,?_,?_⟩
    ·rw[evs];rfl
    ·rw[List.length_append];rfl
    ·rw[List.length_append];rfl
 ·rw[hI]
  exact⟨[],0,[],rfl,Nat.zero_le _,Nat.le_refl _,⟨l.length+1,by omega,by rw[<-hR];cases h0:ZG l.length (l.length+1) l <;> simp[scJ,h0]⟩,rfl,rfl,rfl,rfl,rfl,rfl⟩
end Go.Proofs.YticgcpebdldbgaaGreatDoor.Ab
set_option maxRecDepth 4000
namespace Go.Proofs.YticgcpebdldbgaaGreatDoor.Ab
open Go.Proofs
def txs:List Tk->Nat
 |[]=>0
 |t::l=>t.text.toList.length+txs l
theorem QoD:∀{l:List Tk} {t:Tk},t∈l->t.text.toList.length<=txs l
 |u::l,t,h=>by
  rw[txs]
  rcases List.mem_cons.1 h with rfl|h
  ·omega
  ·have:=QoD h;omega
theorem Qlm(tot:Nat):∀(m:Nat) (q:List UInt8) (ts:List Tk),ZG tot m q = .inl ts->txs ts<=q.length
 |0,_,_,h=>by cases h;exact Nat.zero_le _
 |m+1,q,ts,h=>by
  rw[ZG]at h
  have hsk:=QbS false q
  cases ht:XP (QJ false q)with
  |inr e=>rw[ht]at h;cases h
  |inl p =>
   obtain⟨k,x⟩:=p
   rw[ht]at h
   simp only at h
   split at h
   ·cases h
    show eB.toList.length+0<=_
    rw[show eB.toList=[]from by rw[Lib.toList_data];rfl]
    exact Nat.zero_le _
   ·rename_i k0
    rcases QhW ht with⟨k1,_,_⟩|⟨k1,hx1,r,hx2⟩
    ·exact absurd k1 k0
    ·cases hs:ZG tot m ((QJ false q).drop x.length)with
     |inr e=>rw[hs]at h;cases h
     |inl us =>
      rw[hs]at h
      cases h
      have h1:=Qlm tot m _ us hs
      have h2:x.length<=(QJ false q).length:=by rw[hx2,List.length_append];omega
      rw[List.length_drop]at h1
      show(mkB x).toList.length+txs us<=_
      rw[QdJ];omega
theorem Qrg{l:List UInt8}{ts:List Tk}(h:XN l = .inl ts)(hl:l.length<=1000000):TxOk ts:=by
 rw[XN]at h
 split at h
 ·cases h
 ·have:=Qlm _ _ _ _ h
  exact fun t ht=>Nat.le_trans (QoD ht) (by omega)
theorem QkS(h:AH)(a x y:AB)(L:AH):hs (h++[a,x]) (h.length+1) y++L=h++(a::y::L):=by
 unfold hs
 rw[List.set_append_right _ _ (by omega),Nat.add_sub_cancel_left]
 simp
theorem Qqk(h:AH)(a x:AB):h.length+1<(h++[a,x]).length:=by simp
theorem RC.lit{P:Program}{f:FuncId}{args:List AV}{x y:AB}{r:AV}{h:AH}(H:RC P f args (h.length+1) none x r y)(a:AB)(L:AH):Qj P f args (h++(a::x::L)) fun o h'=>o = .ret r/\h'=h++(a::y::L):=by
 have:=H.app (h:=h++[a,x]) (Qqk h a x) (fun g hg=>by cases hg) L
 rwa [QkS,QkS]at this
section
variable{all:List Tk}(hN:all.length<=1000000)(hD:TkOk all)(hX:TxOk all)
include hN hD hX
theorem QpP{s:PS}(hW:Wst all s)(h:AH)(a:AB):Qj Tryz.prog 27 [.ptr (h.length+1) 0 0] (h++[a,rdB all none s 0 0]) fun o h'=>match Yf s with
  | .ok r s2=>o = .ret (.tup [r.av,.b true])/\h'=h++[a,rdB all none s2 0 0]
  | .err p e=>o = .ret (.tup [(⟨eB,[],[],[],[],0⟩:Rl).av,.b false])/\∃s2,h'=h++[a,rdB all none s2 p e]:=by
 have hi:=Qqk h a (rdB all none s 0 0)
 have:=QpN hi (Qmm hN hD hX hW hi none)
 have e1:=QkS h a (rdB all none s 0 0) (rdB all none s 0 0) []
 rw[List.append_nil]at e1
 rw[e1]at this
 refine this.mono fun o h' q=>?_
 have e2:=fun y=>QkS h a (rdB all none s 0 0) y []
 simp only[Qu5]at e2
 cases hp:Yf s with
 |ok r s2=>rw[hp]at q;exact⟨q.1,by rw[q.2,e2]⟩
 |err p e=>rw[hp]at q;obtain⟨q1,s2,q2⟩:=q;exact⟨q1,s2,by rw[q2,e2]⟩
end
theorem Qso(ts:List Tk):rdB ts none ⟨ts,[]⟩ 0 0 = .cells 69 5 [.agg [.sl 3 (tks ts) none,.i 0,.sl 1 [] none,.i 0,.i 0]]:=by
 unfold rdB
 rw[Nat.sub_self];rfl
theorem Qd0(l:List UInt8)(hl:l.length<=16384)(h:AH):Qj Tryz.prog 15 [.v (.string (mkB l))] h fun o h'=>o = .ret (rsR (Qfs l))/\h'=h:=by
 have cs:=fun L=>Qmk l hl (h++L)
 unfold Qfs
 cases hs:XN l with
 |inr q =>
  obtain⟨x,e⟩:=q
  simp only[hs,scR]at cs
  have y1:(e != 0)=true:=by simpa using ZB hs
  refine Qa Tryz.func15 rfl Tryz.call15 Tryz.ntmps15 Tryz.results15 (by simp) ?_
  repeat first|(first|refine FunW.QtJ (cs _) ?_|refine Qb ?_);simp only[go_sem,seval,y1]|refine hK _ ?_;clear hK
  exact Qc (htake _ _) (QfA _ _) ⟨rfl,rfl⟩
 |inl ts =>
  simp only[hs,scR]at cs
  obtain⟨hD,hW,hN,_⟩:=QbR hs
  have hX:=Qrg hs (by omega)
  have y1:((0:Int) != 0)=false:=rfl
  have cr:=QpP hN hD hX hW h cR0
  have e0:=Qso ts
  simp only
  refine Qa Tryz.func15 rfl Tryz.call15 Tryz.ntmps15 Tryz.results15 (by simp) ?_
  iterate 14 (try (first|((first|(with_reducible (first|refine Qf fun K E hK hE=>?_|refine FunW.QtJ (cs _) ?_)));simp only[go_sem,seval])|(with_reducible (first|refine Qo fun K hK=>?_|refine QR ?_|refine Qh ?_))|((with_reducible refine hK _ ?_);clear hK)|(refine Qk rfl ?_;simp only[↓reduceIte,QuG])))
  refine YU (h.length+1) 69 5 [.agg [.sl 3 (tks ts) none,.i 0,nilV,.i 0,.i 0]] [.agg [.sl 3 (tks ts) none,.i 0,.sl 1 [] none,.i 0,.i 0]] 2 (Wk.nilS 1) (by rw[hget];rfl) rfl (by simp[flat,AV.cells]) (by simp[AV.cells]) ?_
  rw[hset,List.set_cons_succ,List.set_cons_zero,<-e0]
  have hpo:Z9 ⟨ts,[]⟩=(Yf ⟨ts,[]⟩).bind fun r s=>(pEnd s).bind fun _ s=>.ok r s:=rfl
  rw[hpo]
  cases hp:Yf ⟨ts,[]⟩with
  |err p e =>
   rw[hp]at cr
   simp only[PR.bind]
   have rc:=Rl.cells (⟨eB,[],[],[],[],0⟩:Rl)
   have ri:=Rl.isAgg (⟨eB,[],[],[],[],0⟩:Rl)
   repeat first|(first|refine FunW.retE (FunW.call cr) fun w=>?_|refine Qb ?_);simp only[go_sem,seval,rc,ri]|refine hK _ ?_;clear hK
   refine X6 (h.length+1) 8 0 0 (by rw[hget];rfl) rfl ?_
   simp only[hset,Qu6,Qu7]
   refine Qn (id:=9) [(0,0),(1,1),(2,1),(3,1),(4,1),(5,1),(6,1),(7,1),(8,1),(9,2),(10,0),(11,0)] mixed (by kernel_rfl) fun K hK=>?_
   simp only[go_sem,seval]
   repeat first|refine Qb ?_;simp only[go_sem,seval]|refine hK _ ?_;clear hK
   exact Qc (htake _ _) (QfA _ _) ⟨rfl,rfl⟩
  |ok r s2 =>
   rw[hp]at cr
   have hW2:Wst ts s2:=Kp.Ps.ok (n:=wdOf ts) (Kp.rule_ps trivial) hW hp
   have ct:=(Qce (tok:=none) hW2 (h.length+1) 0 0).lit cR0
   have cf:=fun x c=>(Qen (all:=ts) (tok:=none) (s:=s2) (h.length+1) x c).lit cR0
   have e1:=Tk.QtK s2.tk
   have e2:=Tk.QtL s2.tk
   have rc:=Rl.cells r
   have ri:=Rl.isAgg r
   simp only[PR.bind]
   by_cases hk:s2.tk.kind=0
   ·have z1:(s2.tk.kind != 0)=false:=by simpa using hk
    rw[pEnd,if_pos hk]
    repeat first|(first|refine FunW.QtJ cr ?_|refine FunW.QtJ (ct _) ?_|refine Qb ?_);simp only[go_sem,seval,e1,e2,rc,ri,z1]|refine hK _ ?_;clear hK
    exact Qc (htake _ _) (.keep (Qjb _ (.inl r))) ⟨rfl,rfl⟩
   ·have z1:(s2.tk.kind != 0)=true:=by simpa using hk
    rw[pEnd,if_neg hk]
    repeat first|(first|refine FunW.QtJ cr ?_|refine FunW.QtJ (ct _) ?_|refine FunW.QtJ (cf _ _ _) ?_|refine Qb ?_);simp only[go_sem,seval,e1,e2,rc,ri,z1]|refine hK _ ?_;clear hK
    refine X6 (h.length+1) 8 0 0 (by rw[hget];rfl) rfl ?_
    simp only[hset,Qu6,Qu7]
    refine Qn (id:=9) [(0,0),(1,1),(2,1),(3,1),(4,1),(5,1),(6,1),(7,1),(8,1),(9,2),(10,0),(11,0)] mixed (by kernel_rfl) fun K hK=>?_
    simp only[go_sem,seval]
    repeat first|refine Qb ?_;simp only[go_sem,seval]|refine hK _ ?_;clear hK
    exact Qc (htake _ _) (QfA _ _) ⟨rfl,rfl⟩
end Go.Proofs.YticgcpebdldbgaaGreatDoor.Ab
set_option maxRecDepth 4000
namespace Go.Proofs.YticgcpebdldbgaaGreatDoor.Ab
open Go.Proofs
theorem Qeg(f:Int->Int):∀l:List T,(maps f l).length=l.length
 |[]=>rfl
 |t::l=>by rw[maps,List.length_cons,List.length_cons,Qeg f l]
mutual
theorem T.Quf(f:Int->Int):∀{t:T},t.QtP=true->(∀v∈t.vars,0<=f v/\f v<=1048576)->(t.map f).QtP=true
 | .mk k i n l,h,hv=>by
  have ih:=@QaD f l
  rw[T.QtP]at h
  rw[T.map]
  rw[T.vars]at hv
  by_cases h0:k=0
  ·rw[if_pos h0]at h
   rw[if_neg (by omega),if_neg (by omega),T.QtP,if_pos h0];exact h
  rw[if_neg h0]at h
  by_cases h1:k=1
  ·rw[if_pos h1]at h hv
   rw[if_pos h1,T.QtP,if_neg h0,if_pos h1]
   have:=hv i (by simp)
   simp only[Bool.and_eq_true]at h ⊢
   exact⟨⟨by simpa using this,h.1.2⟩,h.2⟩
  rw[if_neg h1]at h hv
  by_cases h2:k=2
  ·rw[if_pos h2]at h hv
   rw[if_neg h1,if_pos h2,T.QtP,if_neg h0,if_neg h1,if_pos h2]
   have hl:(maps f l).length=l.length:=Qeg f l
   rw[hl]
   split at h
   ·cases h
   ·rename_i hi
    rw[if_neg hi]
    split at h
    ·cases h
    ·rename_i hn
     rw[if_neg hn]
     exact ih h hv
  ·rw[if_neg h2]at h;cases h
theorem QaD(f:Int->Int):∀{l:List T},YA l=true->(∀v∈QG l,0<=f v/\f v<=1048576)->YA (maps f l)=true
 |[],_,_=>rfl
 |t::l,h,hv=>by
  rw[YA,Bool.and_eq_true]at h
  rw[QG]at hv
  rw[maps,YA,T.Quf f h.1 fun v hm=>hv v (List.mem_append_left _ hm),QaD f h.2 fun v hm=>hv v (List.mem_append_right _ hm)];rfl
end
mutual
theorem T.Qul(f:Int->Int):∀t:T,(t.map f).size=t.size/\(t.map f).dep=t.dep
 | .mk k i n l=>by
  have ih:=Zm f l
  rw[T.map]
  by_cases h1:k=1
  ·rw[if_pos h1];simp only[T.size,T.dep,if_neg (show ¬k=2 by omega)];exact⟨trivial,trivial⟩
  rw[if_neg h1]
  by_cases h2:k=2
  ·rw[if_pos h2];simp only[T.size,T.dep,if_pos h2];rw[ih.1,ih.2];exact⟨rfl,rfl⟩
  ·rw[if_neg h2];exact⟨rfl,rfl⟩
theorem Zm(f:Int->Int):∀l:List T,sizes (maps f l)=sizes l/\deps (maps f l)=deps l
 |[]=>⟨rfl,rfl⟩
 |t::l=>by
  have h1:=T.Qul f t
  have h2:=Zm f l
  simp only[maps,sizes,deps,h1.1,h1.2,h2.1,h2.2];exact⟨trivial,trivial⟩
end
theorem Qfx{g:G}(h:QA g=true):YA g.args=true:=by
 rw[QA,Bool.and_eq_true,Bool.and_eq_true,(Z1 g.args 200 20 (by omega) (by omega)).1,Bool.and_eq_true]at h
 exact h.2.2.1
theorem Qb2{f:Int->Int}{g:G}(h:QA g=true)(hv:∀v∈QG g.args,0<=f v/\f v<=1048576):QA ⟨g.op,g.name,maps f g.args⟩=true:=by
 rw[QA,Bool.and_eq_true,Bool.and_eq_true,(Z1 _ 200 20 (by omega) (by omega)).1,Bool.and_eq_true,decide_eq_true_eq,decide_eq_true_eq]at h ⊢
 refine⟨h.1,?_,QaD f h.2.2.1 hv,?_⟩
 ·show(maps f g.args).length<=6
  rw[Qeg];exact h.2.1
 ·show((sizes (maps f g.args):Nat):Int)<=200/\((deps (maps f g.args):Nat):Int)<=20
  rw[(Zm f _).1,(Zm f _).2];exact h.2.2.2
theorem Qaj{g:G}(h:QA g=true):ndsL g.args<=200:=by
 have hf:=Qfx h
 rw[QA,Bool.and_eq_true,Bool.and_eq_true,(Z1 g.args 200 20 (by omega) (by omega)).1,Bool.and_eq_true,decide_eq_true_eq,decide_eq_true_eq]at h
 have:=Qcy g.args hf
 omega
mutual
theorem T.QuB:∀(t:T),t.vars.length<=t.nds
 | .mk k i n l=>by
  simp only[T.vars,T.nds]
  split
  ·simp
  ·split
   ·have:=Qju l;omega
   ·simp
theorem Qju:∀(l:List T),(QG l).length<=ndsL l
 |[]=>by simp[QG,ndsL]
 |t::l=>by
  have h1:=T.QuB t
  have h2:=Qju l
  simp only[QG,ndsL,Qvt];omega
end
theorem Qbx{g:G}(h:Qu g=true):(QG g.args).length<=200:=by
 have h1:=Qju g.args
 rw[Qu]at h
 split at h
 ·exact Nat.le_trans h1 (Qaj h)
 ·rw[Bool.and_eq_true,Bool.and_eq_true,Bool.and_eq_true,(Z1 g.args 200 20 (by omega) (by omega)).1,Bool.and_eq_true,decide_eq_true_eq,decide_eq_true_eq,decide_eq_true_eq]at h
  have:=Qcy g.args h.2.2.2.1
  omega
theorem Qf7{f:Int->Int}{g:G}(h:Qu g=true)(hv:∀v∈QG g.args,0<=f v/\f v<=1048576):Qu ⟨g.op,g.name,maps f g.args⟩=true:=by
 rw[Qu]at h ⊢
 split at h
 ·rename_i h0
  rw[if_pos h0]
  exact Qb2 (g:=⟨0,g.name,g.args⟩) h hv
 ·rename_i h0
  rw[if_neg h0]
  rw[Bool.and_eq_true,Bool.and_eq_true,Bool.and_eq_true,(Z1 _ 200 20 (by omega) (by omega)).1,Bool.and_eq_true,decide_eq_true_eq,decide_eq_true_eq,decide_eq_true_eq]at h ⊢
  refine⟨h.1,h.2.1,?_,QaD f h.2.2.2.1 hv,?_⟩
  ·show((maps f g.args).length:Int)=_
   rw[Qeg];exact h.2.2.1
  ·show((sizes (maps f g.args):Nat):Int)<=200/\((deps (maps f g.args):Nat):Int)<=20
   rw[(Zm f _).1,(Zm f _).2];exact h.2.2.2.2
mutual
theorem T.Qum(f:Int->Int):∀t:T,(t.map f).vars=t.vars.map f
 | .mk k i n l=>by
  have ih:=Qci f l
  rw[T.map,T.vars]
  by_cases h1:k=1
  ·rw[if_pos h1,if_pos h1,T.vars,if_pos h1];rfl
  rw[if_neg h1,if_neg h1]
  by_cases h2:k=2
  ·rw[if_pos h2,if_pos h2,T.vars,if_neg h1,if_pos h2,ih]
  ·rw[if_neg h2,if_neg h2,T.vars,if_neg h1,if_neg h2];rfl
theorem Qci(f:Int->Int):∀l:List T,QG (maps f l)=(QG l).map f
 |[]=>rfl
 |t::l=>by rw[maps,QG,QG,List.map_append,T.Qum f t,Qci f l]
end
def cntS(n v:Int):Int:=if n<0\/v>n\/v<0 then -1 else max n (v+1)
def cntL(n:Int)(l:List Int):Int:=l.foldl cntS n
theorem Qm6(all:List Int):∀(post pre:List Int),pre++post=all->cntL ((ded [] pre).length:Nat) (post.map fun v=>((plc (ded [] all) v:Nat):Int))=((ded [] all).length:Nat)
 |[],pre,h=>by
  rw[List.append_nil]at h
  rw[h];rfl
 |v::post,pre,h=>by
  have ih:=Qm6 all post (pre++[v]) (by rw[<-h];simp)
  have e1:ded [] (pre++[v])=ins (ded [] pre) v:=by rw[Q1];rfl
  obtain⟨r,hr⟩:=Qb7 (ins (ded [] pre) v) post
  have hD:ded [] all=ins (ded [] pre) v++r:=by rw[<-h,Q1,ded,hr]
  have hp:plc (ded [] all) v=plc (ins (ded [] pre) v) v:=by rw[hD];exact Qdp r (QjY.2 (.inr rfl))
  rw[<-ih,List.map_cons]
  show cntL (cntS _ _) _=_
  rw[hp,e1]
  congr 1
  by_cases hm:v∈ded [] pre
  ·have:ins (ded [] pre) v=ded [] pre:=if_pos hm
   rw[this]
   have:=Qn4 hm
   rw[cntS,if_neg (by omega)]
   omega
  ·have:ins (ded [] pre) v=ded [] pre++[v]:=if_neg hm
   rw[this,Qb0 [] hm,cntS,if_neg (by omega),List.length_append,List.length_singleton]
   omega
theorem Qhk(l:List G)(h:∀g∈l,(QG g.args).length<=200):(l.flatMap fun g=>QG g.args).length<=200 * l.length:=by
 induction l with
 |nil=>simp
 |cons g l ih =>
  have h1:=h g (by simp)
  have h2:=ih fun x hx=>h x (by simp[hx])
  rw[List.flatMap_cons,List.length_append,List.length_cons]
  omega
structure RlOk (r:Rl):Prop extends RlPre r where
 cnt:cntL 0 r.allV=r.vars
 vnn:0<=r.vars
theorem Qq2{r:Rl}(h:RlPre r):RlOk r.numd:=by
 have hl:r.allV.length<=5600:=by
  have hk:=Qhk r.keep fun g hg=>Nat.le_trans (Qju g.args) (Qaj (h.ka g hg))
  have hr:=Qhk r.remove fun g hg=>Nat.le_trans (Qju g.args) (Qaj (h.ra g hg))
  have hg:=Qhk r.guard fun g hg=>Qbx (h.ga g hg)
  have hb:=Qhk r.body fun g hg=>Qbx (h.ba g hg)
  have h4:=h.h4
  have g12:=h.g12
  have b12:=h.b12
  rw[Rl.allV]
  simp only[List.flatMap_append,Qvt]
  omega
 have hd:(ded [] r.allV).length<=5600:=by
  have:=Xq [] r.allV
  simp only[QuQ]at this
  omega
 have hv:∀v∈r.allV,(0:Int)<=((plc (ded [] r.allV) v:Nat):Int)/\((plc (ded [] r.allV) v:Nat):Int)<=1048576:=fun v hv=>by
  have:=Qn4 (s:=ded [] r.allV) (Za.2 (.inr hv))
  omega
 have sub:∀(l:List G),(∀g∈l,g∈r.keep++r.remove++r.guard++r.body)->∀g∈l,∀v∈QG g.args,v∈r.allV:=fun l hs g hg v hv=>List.mem_flatMap.2 ⟨g,hs g hg,hv⟩
 have at_:∀l,(∀g∈l,g∈r.keep++r.remove++r.guard++r.body)->atomsOk l->atomsOk (l.map fun g:G=>(⟨g.op,g.name,maps (fun v=>((plc (ded [] r.allV) v:Nat):Int)) g.args⟩:G)):=fun l hs hl x hx=>by
  obtain⟨g,hg,rfl⟩:=List.mem_map.1 hx
  exact Qb2 (hl g hg) fun v hm=>hv v (sub l hs g hg v hm)
 have go_:∀l,(∀g∈l,g∈r.keep++r.remove++r.guard++r.body)->goalsOk l->goalsOk (l.map fun g:G=>(⟨g.op,g.name,maps (fun v=>((plc (ded [] r.allV) v:Nat):Int)) g.args⟩:G)):=fun l hs hl x hx=>by
  obtain⟨g,hg,rfl⟩:=List.mem_map.1 hx
  exact Qf7 (hl g hg) fun v hm=>hv v (sub l hs g hg v hm)
 have hall:r.numd.allV=r.allV.map fun v=>((plc (ded [] r.allV) v:Nat):Int):=by
  show((r.keep.map _++r.remove.map _++r.guard.map _++r.body.map _).flatMap fun g:G=>QG g.args)=_
  rw[<-List.map_append,<-List.map_append,<-List.map_append,List.flatMap_map,Rl.allV,List.map_flatMap]
  simp only[Qci]
 refine⟨⟨at_ _ (fun g hg=>by simp[hg]) h.ka,at_ _ (fun g hg=>by simp[hg]) h.ra,go_ _ (fun g hg=>by simp[hg]) h.ga,go_ _ (fun g hg=>by simp[hg]) h.ba,?_,?_,?_,?_⟩,?_,Int.natCast_nonneg _⟩
 ·show 1<=(r.keep.map _).length+(r.remove.map _).length
  rw[List.length_map,List.length_map];exact h.h1
 ·show(r.keep.map _).length+(r.remove.map _).length<=4
  rw[List.length_map,List.length_map];exact h.h4
 ·show(r.guard.map _).length<=12
  rw[List.length_map];exact h.g12
 ·show(r.body.map _).length<=12
  rw[List.length_map];exact h.b12
 ·rw[hall]
  exact Qm6 r.allV r.allV [] rfl
theorem Qot{s:PS}{r:Rl}{s2:PS}(h:Yf s = .ok r s2):RlOk r:=by
 rw[Yf]at h
 obtain⟨q,s1,h1,h⟩:=bind_ok h
 cases h
 exact Qq2 (QgL h1)
theorem QkN{g:G}(h:Qu g=true):ndsL g.args<=200:=(QbH h).2
theorem Qky{g:G}(h:QA g=true):ndsL g.args<=200:=(Qd8 h).2
theorem QgE:∀n,n<=1000000->∀t:T,t.nds<=n->Pure Tryz.prog 65 [t.av,t.av] (.b true)
 |0,_,t,hn=>by have:=T.QtW t;omega
 |n+1,hb,t,hn=>by
  intro h
  have hnd:=T.QtW t
  have hll:=XE t.args
  refine Qa Tryz.func65 rfl Tryz.call65 Tryz.ntmps65 Tryz.results65 (by simp) ?_
  iterate 2 (try (first|(((with_reducible refine Qf fun K E hK hE=>?_));simp only[go_sem,seval])|((with_reducible refine hK _ ?_);clear hK)))
  refine Qw (fun st=>st.tm 2 = .ptr h.length 0 0/\st.tm 3 = .ptr (h.length+1) 0 0/\st.h=h++[.cells 48 4 [t.av],.cells 48 4 [t.av]]) ?_ ?_
  ·rintro⟨tm,hp⟩ ⟨t2,t3,rfl⟩
   simp only at t2 t3
   repeat first|refine Qb ?_;simp only[go_sem,seval,t2]|refine hK _ ?_;clear hK
   obtain⟨I,hI⟩:∃I:Nat->AS->Prop,I=fun m' s=>∃j:Nat,m'=t.args.length - j/\j<=t.args.length/\s.tm 2 = .ptr h.length 0 0/\s.tm 3 = .ptr (h.length+1) 0 0/\s.tm 36 = .i t.args.length/\s.tm 37 = .i j/\s.h=h++[.cells 48 4 [t.av],.cells 48 4 [t.av]]:=⟨_,rfl⟩;refine Qi I ?_ (m:=t.args.length) ?_
   ·intro m' s hs;rw[hI]at hs;obtain⟨tm,hp⟩:=s;dsimp only at hs;obtain⟨j,rfl,hj,t2,t3,ta,tb,rfl⟩:=hs
    by_cases hlt:j<t.args.length
    ·have y1:((j:Nat):Int)<((t.args.length:Nat):Int):=by omega
     have wj:IntKind.i64.wrap (((j:Nat):Int)+1)=((j+1:Nat):Int):=Qz (by omega)
     have hg:=Zp hlt
     have cs:=QgE n (by omega) t.args[j] (by omega)
     repeat first|(first|refine XW cs ?_|refine Ql (id:=6) [(0,0),(1,0),(2,0),(3,0),(4,0),(5,0),(6,0),(7,0),(8,0),(9,0),(10,1),(11,0)] mixed (by kernel_rfl) fun K hK=>?_|refine Qb ?_);simp only[go_sem,seval,t2,t3,ta,tb,y1,wj,ZD hlt]|refine hK _ ?_;clear hK
     refine Qv.mk (m':=t.args.length - (j+1)) (by omega) ?_
     rw[hI]
     exact⟨j+1,rfl,hlt,t2,t3,ta,rfl,rfl⟩
    ·have y1:¬((j:Nat):Int)<((t.args.length:Nat):Int):=by omega
     repeat first|refine Qb ?_;simp only[go_sem,seval,ta,tb,y1]|refine hK _ ?_;clear hK|clear hK;refine hK _ ?_;clear hK
     (refine Qc (htake _ _) (.keep (.v _)) ⟨rfl,rfl⟩)
   ·rw[hI]
    exact⟨0,rfl,Nat.zero_le _,t2,t3,rfl,rfl,rfl⟩
  ·repeat first|refine owN ?_|(first|refine owK fun K hK=>?_|refine nwcS fun K hK=>?_|refine nwcR fun K hK=>?_|refine Qb ?_);simp only[go_sem,seval]|refine hK _ ?_;clear hK
   exact⟨rfl,rfl,rfl⟩
theorem Qfb(l:List T)(hn:ndsL l<=1000000):Pure Tryz.prog 36 [.sl 4 (avs l) none,.sl 4 (avs l) none] (.b true):=by
 intro h
 have hll:=XE l
 refine Qa Tryz.func36 rfl Tryz.call36 Tryz.ntmps36 Tryz.results36 (by simp) ?_
 repeat refine Qb ?_;simp only[go_sem,seval]
 obtain⟨I,hI⟩:∃I:Nat->AS->Prop,I=fun m' s=>∃j:Nat,m'=l.length - j/\j<=l.length/\s.tm 0 = .sl 4 (avs l) none/\s.tm 1 = .sl 4 (avs l) none/\s.tm 12 = .i l.length/\s.tm 13 = .i j/\s.h=h:=⟨_,rfl⟩;refine Qi I ?_ (m:=l.length) ?_
 ·intro m' s hs;rw[hI]at hs;obtain⟨tm,hp⟩:=s;dsimp only at hs;obtain⟨j,rfl,hj,t0,t1,ta,tb,rfl⟩:=hs
  by_cases hlt:j<l.length
  ·have y1:((j:Nat):Int)<((l.length:Nat):Int):=by omega
   have wj:IntKind.i64.wrap (((j:Nat):Int)+1)=((j+1:Nat):Int):=Qz (by omega)
   have hg:=Zp hlt
   have cs:=QgE 1000000 (Nat.le_refl _) l[j] (by omega)
   repeat first|(first|refine XW cs ?_|refine Ql (id:=6) [(0,0),(1,0),(2,0),(3,0),(4,0),(5,0),(6,0),(7,0),(8,1),(9,0)] mixed (by kernel_rfl) fun K hK=>?_|refine Qb ?_);simp only[go_sem,seval,t0,t1,ta,tb,y1,wj,ZD hlt]|refine hK _ ?_;clear hK
   refine Qv.mk (m':=l.length - (j+1)) (by omega) ?_
   rw[hI]
   exact⟨j+1,rfl,hlt,t0,t1,ta,rfl,rfl⟩
  ·have y1:¬((j:Nat):Int)<((l.length:Nat):Int):=by omega
   repeat refine Qb ?_;simp only[go_sem,seval,ta,tb,y1]
   (refine Qc List.take_length (.keep (.v _)) ⟨rfl,rfl⟩)
 ·rw[hI]
  exact⟨0,rfl,Nat.zero_le _,rfl,rfl,rfl,rfl,rfl⟩
theorem Qe4(l:List G)(hl:l.length<=1000000)(hn:∀g∈l,ndsL g.args<=1000000):Pure Tryz.prog 38 [.sl 2 (vs G.atom l) none,.sl 2 (vs G.atom l) none] (.b true):=by
 intro h
 have ev:(vs G.atom l).length=l.length:=QS _ _
 refine Qa Tryz.func38 rfl Tryz.call38 Tryz.ntmps38 Tryz.results38 (by simp) ?_
 repeat refine Qb ?_;simp only[go_sem,seval,ev]
 obtain⟨I,hI⟩:∃I:Nat->AS->Prop,I=fun m' s=>∃j:Nat,m'=l.length - j/\j<=l.length/\s.tm 0 = .sl 2 (vs G.atom l) none/\s.tm 1 = .sl 2 (vs G.atom l) none/\s.tm 12 = .i l.length/\s.tm 13 = .i j/\s.h=h:=⟨_,rfl⟩;refine Qi I ?_ (m:=l.length) ?_
 ·intro m' s hs;rw[hI]at hs;obtain⟨tm,hp⟩:=s;dsimp only at hs;obtain⟨j,rfl,hj,t0,t1,ta,tb,rfl⟩:=hs
  by_cases hlt:j<l.length
  ·have y1:((j:Nat):Int)<((l.length:Nat):Int):=by omega
   have wj:IntKind.i64.wrap (((j:Nat):Int)+1)=((j+1:Nat):Int):=Qz (by omega)
   have cs:=Qfb l[j].args (hn _ (List.getElem_mem hlt))
   have e1:=YR l[j]
   have e2:(G.atom l[j]).isAgg=true:=rfl
   repeat first|(first|refine XW cs ?_|refine Ql (id:=6) [(0,0),(1,0),(2,0),(3,0),(4,0),(5,0),(6,0),(7,0),(8,0),(9,0),(10,0),(11,0),(12,0),(13,0),(14,0),(15,0),(16,0),(17,0),(18,0),(19,0),(20,0),(21,0),(22,1),(23,0),(24,0)] mixed (by kernel_rfl) fun K hK=>?_|refine Qb ?_);simp only[go_sem,seval,t0,t1,ta,tb,y1,wj,ev,Qg2 (f:=G.atom) hlt,e1]|refine hK _ ?_;clear hK
   refine Qv.mk (m':=l.length - (j+1)) (by omega) ?_
   rw[hI]
   exact⟨j+1,rfl,hlt,t0,t1,ta,rfl,rfl⟩
  ·have y1:¬((j:Nat):Int)<((l.length:Nat):Int):=by omega
   repeat refine Qb ?_;simp only[go_sem,seval,ta,tb,y1]
   (refine Qc List.take_length (.keep (.v _)) ⟨rfl,rfl⟩)
 ·rw[hI]
  exact⟨0,rfl,Nat.zero_le _,rfl,rfl,rfl,rfl,rfl⟩
theorem Qe7(l:List G)(hl:l.length<=1000000)(hn:∀g∈l,ndsL g.args<=1000000):Pure Tryz.prog 12 [.sl 3 (vs G.goal l) none,.sl 3 (vs G.goal l) none] (.b true):=by
 intro h
 have ev:(vs G.goal l).length=l.length:=QS _ _
 refine Qa Tryz.func12 rfl Tryz.call12 Tryz.ntmps12 Tryz.results12 (by simp) ?_
 repeat refine Qb ?_;simp only[go_sem,seval,ev]
 obtain⟨I,hI⟩:∃I:Nat->AS->Prop,I=fun m' s=>∃j:Nat,m'=l.length - j/\j<=l.length/\s.tm 0 = .sl 3 (vs G.goal l) none/\s.tm 1 = .sl 3 (vs G.goal l) none/\s.tm 12 = .i l.length/\s.tm 13 = .i j/\s.h=h:=⟨_,rfl⟩;refine Qi I ?_ (m:=l.length) ?_
 ·intro m' s hs;rw[hI]at hs;obtain⟨tm,hp⟩:=s;dsimp only at hs;obtain⟨j,rfl,hj,t0,t1,ta,tb,rfl⟩:=hs
  by_cases hlt:j<l.length
  ·have y1:((j:Nat):Int)<((l.length:Nat):Int):=by omega
   have wj:IntKind.i64.wrap (((j:Nat):Int)+1)=((j+1:Nat):Int):=Qz (by omega)
   have cs:=Qfb l[j].args (hn _ (List.getElem_mem hlt))
   have e1:=Q2 l[j]
   have e2:(G.goal l[j]).isAgg=true:=rfl
   repeat first|(first|refine XW cs ?_|refine Ql (id:=6) [(0,0),(1,0),(2,0),(3,0),(4,0),(5,0),(6,0),(7,0),(8,0),(9,0),(10,0),(11,0),(12,0),(13,0),(14,0),(15,0),(16,0),(17,0),(18,0),(19,0),(20,0),(21,0),(22,0),(23,0),(24,0),(25,0),(26,0),(27,0),(28,0),(29,0),(30,0),(31,0),(32,0),(33,0),(34,0),(35,1),(36,0),(37,0)] mixed (by kernel_rfl) fun K hK=>?_|refine Qb ?_);simp only[go_sem,seval,t0,t1,ta,tb,y1,wj,ev,Qg2 (f:=G.goal) hlt,e1]|refine hK _ ?_;clear hK
   refine Qv.mk (m':=l.length - (j+1)) (by omega) ?_
   rw[hI]
   exact⟨j+1,rfl,hlt,t0,t1,ta,rfl,rfl⟩
  ·have y1:¬((j:Nat):Int)<((l.length:Nat):Int):=by omega
   repeat refine Qb ?_;simp only[go_sem,seval,ta,tb,y1]
   (refine Qc List.take_length (.keep (.v _)) ⟨rfl,rfl⟩)
 ·rw[hI]
  exact⟨0,rfl,Nat.zero_le _,rfl,rfl,rfl,rfl,rfl⟩
theorem QjT(l:List ByteArray)(hl:l.length<=1000000):Pure Tryz.prog 13 [.sl 1 (strs l) none,.sl 1 (strs l) none] (.b true):=by
 intro h
 refine Qa Tryz.func13 rfl Tryz.call13 Tryz.ntmps13 Tryz.results13 (by simp) ?_
 repeat refine Qb ?_;simp only[go_sem,seval,Xd]
 obtain⟨I,hI⟩:∃I:Nat->AS->Prop,I=fun m' s=>∃j:Nat,m'=l.length - j/\j<=l.length/\s.tm 0 = .sl 1 (strs l) none/\s.tm 1 = .sl 1 (strs l) none/\s.tm 12 = .i l.length/\s.tm 13 = .i j/\s.h=h:=⟨_,rfl⟩;refine Qi I ?_ (m:=l.length) ?_
 ·intro m' s hs;rw[hI]at hs;obtain⟨tm,hp⟩:=s;dsimp only at hs;obtain⟨j,rfl,hj,t0,t1,ta,tb,rfl⟩:=hs
  by_cases hlt:j<l.length
  ·have y1:((j:Nat):Int)<((l.length:Nat):Int):=by omega
   have wj:IntKind.i64.wrap (((j:Nat):Int)+1)=((j+1:Nat):Int):=Qz (by omega)
   have hat:(strs l)[j]? = some (.v (.string l[j])):=by rw[strs,List.getElem?_map,List.getElem?_eq_getElem hlt];rfl
   repeat first|(first|refine Ql (id:=6) [(0,0),(1,0),(2,0),(3,0),(4,0),(5,0),(6,0),(7,0),(8,0)] mixed (by kernel_rfl) fun K hK=>?_|refine Qb ?_);simp only[go_sem,seval,t0,t1,ta,tb,y1,wj,Xd,hat]|refine hK _ ?_;clear hK
   refine Qv.mk (m':=l.length - (j+1)) (by omega) ?_
   rw[hI]
   exact⟨j+1,rfl,hlt,t0,t1,ta,rfl,rfl⟩
  ·have y1:¬((j:Nat):Int)<((l.length:Nat):Int):=by omega
   repeat refine Qb ?_;simp only[go_sem,seval,ta,tb,y1]
   (refine Qc List.take_length (.keep (.v _)) ⟨rfl,rfl⟩)
 ·rw[hI]
  exact⟨0,rfl,Nat.zero_le _,rfl,rfl,rfl,rfl,rfl⟩
structure RlB (r:Rl):Prop where
 ke:r.keep.length<=1000000/\∀g∈r.keep,ndsL g.args<=1000000
 re:r.remove.length<=1000000/\∀g∈r.remove,ndsL g.args<=1000000
 gu:r.guard.length<=1000000/\∀g∈r.guard,ndsL g.args<=1000000
 bo:r.body.length<=1000000/\∀g∈r.body,ndsL g.args<=1000000
theorem RlOk.bnd{r:Rl}(h:RlOk r):RlB r:=by
 have h4:=h.h4
 have h5:=h.g12
 have h6:=h.b12
 exact⟨⟨by omega,fun g hg=>by have:=Qky (h.ka g hg);omega⟩,⟨by omega,fun g hg=>by have:=Qky (h.ra g hg);omega⟩,⟨by omega,fun g hg=>by have:=QkN (h.ga g hg);omega⟩,⟨by omega,fun g hg=>by have:=QkN (h.ba g hg);omega⟩⟩
theorem QgD(r:Rl)(hr:RlB r):Pure Tryz.prog 16 [r.av,r.av] (.b true):=by
 intro h
 have c1:=Qe4 r.keep hr.ke.1 hr.ke.2
 have c2:=Qe4 r.remove hr.re.1 hr.re.2
 have c3:=Qe7 r.guard hr.gu.1 hr.gu.2
 have c4:=Qe7 r.body hr.bo.1 hr.bo.2
 have rc:=Rl.cells r
 have ri:=Rl.isAgg r
 refine Qa Tryz.func16 rfl Tryz.call16 Tryz.ntmps16 Tryz.results16 (by simp) ?_
 repeat first|refine owN ?_|(first|refine Qd c1 ?_|refine Qd c2 ?_|refine Qd c3 ?_|refine Qd c4 ?_|refine owK fun K hK=>?_|refine nwcS fun K hK=>?_|refine nwcR fun K hK=>?_|refine Qb ?_);simp only[go_sem,seval,rc]|refine hK _ ?_;clear hK
 (refine Qc (htake _ _) (.keep (.v _)) ⟨rfl,rfl⟩)
end Go.Proofs.YticgcpebdldbgaaGreatDoor.Ab
set_option maxRecDepth 8000
namespace Go.Proofs.YticgcpebdldbgaaGreatDoor.Ab
open Go.Proofs
def exS1:List UInt8:=[99,111,110,115,116,114,97,105,110,116,32,112,47,49,46,32,114,32,64,32,112,40,88,41,32,92,32,112,40,89,41,32,60,61,62,32,88,32,62,32,89,32,124,32,116,114,117,101,46]
def exS2:List UInt8:=[112,40,88,41,32,60,61,62,32,88,46]
def exS3:List UInt8:=[112,40,88,44,32,95,44,32,89,41,44,32,88,32,61,32,49,32,45,32,45,50]
def exG0:G:=⟨7,eB,[T.mk 1 1 eB [],T.mk 1 0 eB []]⟩
def exR:Rl:=⟨{data:=#[114]},[⟨0,{data:=#[112]},[T.mk 1 0 eB []]⟩],[⟨0,{data:=#[112]},[T.mk 1 1 eB []]⟩],[exG0],[],2⟩
def exP:Pg:=⟨[⟨{data:=#[112]},1⟩],[exR]⟩
def exT:T:=.mk 2 0 {data:=#[45]} [.mk 0 1 eB [],.mk 0 (-2) eB []]
def exG1:G:=⟨3,eB,[T.mk 1 0 eB [],exT]⟩
def exL:List G:=[⟨0,{data:=#[112]},[T.mk 1 0 eB [],T.mk 1 1 eB [],T.mk 1 2 eB []]⟩,exG1]
def exN:List ByteArray:=[{data:=#[88]},{data:=#[95]},{data:=#[89]}]
theorem exW1:Qla exS1 = .inl exP:=by kernel_rfl
theorem exW2:Qla exS2 = .inr (10,16):=by kernel_rfl
theorem exW3:Qi2 exS3 = .inl (exL,exN):=by kernel_rfl
def strX:List AV:=[.v (.string {data:=#[88]}),.v (.string {data:=#[95]}),.v (.string {data:=#[89]})]
theorem Qgd(h:AH)(hG:Zf h):Qj Tryz.prog 6 [] h fun o h'=>o = .ret (.b true)/\h'=h:=by
 have c1:=fun L=>Qdo exS1 (h++L) (hG.app L)
 have c2:=fun L=>Qdo exS2 (h++L) (hG.app L)
 have c3:=fun L=>Qj8 exS3 (h++L) (hG.app L)
 have c1':=Qdo exS1 h hG
 rw[exW1,psR]at c1'
 simp only[exW2,psR]at c2
 simp only[exW3,sqR]at c3
 rw[show mkB exS1={data:=#[99,111,110,115,116,114,97,105,110,116,32,112,47,49,46,32,114,32,64,32,112,40,88,41,32,92,32,112,40,89,41,32,60,61,62,32,88,32,62,32,89,32,124,32,116,114,117,101,46]} from rfl]at c1'
 simp only[show mkB exS2={data:=#[112,40,88,41,32,60,61,62,32,88,46]} from rfl]at c2
 simp only[show mkB exS3={data:=#[112,40,88,44,32,95,44,32,89,41,44,32,88,32,61,32,49,32,45,32,45,50]} from rfl,show strs exN=strX from rfl]at c3
 have cT:Pure Tryz.prog 13 [.sl 1 strX none,.sl 1 strX none] (.b true):=QjT exN (by decide)
 have pc:=Pg.cells exP
 have pi:=Pg.isAgg exP
 have zc:=Pg.cells ⟨[],[]⟩
 have zi:=Pg.isAgg ⟨[],[]⟩
 have rc:=Rl.cells exR
 have ri:=Rl.isAgg exR
 refine Qa Tryz.func6 rfl Tryz.call6 Tryz.ntmps6 Tryz.results6 (by simp) ?_
 iterate 2 (try (first|(((with_reducible refine Qf fun K E hK hE=>?_));simp only[go_sem,seval])|((with_reducible refine hK _ ?_);clear hK)))
 refine Qw (fun st=>st.tm 1 = .ptr h.length 0 0/\st.tm 2 = .i 0/\st.tm 3 = .i 0/\st.h=h++[.cells 26 2 [exP.av]]) ?_ ?_
 ·rintro⟨tm,hp⟩ ⟨t1,t2,t3,rfl⟩
  simp only at t1 t2 t3
  refine Qw (fun st=>st.tm 1 = .ptr h.length 0 0/\st.tm 2 = .i 0/\st.tm 3 = .i 0/\st.tm 5 = .i 10/\st.tm 6 = .i 16/\st.h=h++[.cells 26 2 [exP.av],.cells 26 2 [(⟨[],[]⟩:Pg).av]]) ?_ ?_
  ·rintro⟨tm,hp⟩ ⟨t1,t2,t3,t5,t6,rfl⟩
   simp only at t1 t2 t3 t5 t6
   refine Qw (fun st=>st.tm 1 = .ptr h.length 0 0/\st.tm 2 = .i 0/\st.tm 3 = .i 0/\st.tm 5 = .i 10/\st.tm 6 = .i 16/\st.tm 7 = .sl 3 (vs G.goal exL) none/\st.tm 8 = .sl 1 strX none/\st.tm 10 = .i 0/\st.h=h++[.cells 26 2 [exP.av],.cells 26 2 [(⟨[],[]⟩:Pg).av]]) ?_ ?_
   ·rintro⟨tm,hp⟩ ⟨t1,t2,t3,t5,t6,t7,t8,t10,rfl⟩
    simp only at t1 t2 t3 t5 t6 t7 t8 t10
    refine Qw (fun st=>st.tm 1 = .ptr h.length 0 0/\st.tm 7 = .sl 3 (vs G.goal exL) none/\st.h=h++[.cells 26 2 [exP.av],.cells 26 2 [(⟨[],[]⟩:Pg).av]]) ?_ ?_
    ·rintro⟨tm,hp⟩ ⟨t1,t7,rfl⟩
     simp only at t1 t7
     refine Qw (fun st=>st.tm 11 = .ptr (h.length+2) 0 0/\st.tm 7 = .sl 3 (vs G.goal exL) none/\st.h=h++[.cells 26 2 [exP.av],.cells 26 2 [(⟨[],[]⟩:Pg).av],.cells 40 6 [exR.av]]) ?_ ?_
     ·rintro⟨tm,hp⟩ ⟨t11,t7,rfl⟩
      simp only at t11 t7
      have q1:(exR.name.toList==({data:=#[114]}:ByteArray).toList)=true:=beq_self_eq_true _
      have k1:(vs G.atom exR.keep).length=1:=rfl
      have k2:(vs G.atom exR.remove).length=1:=rfl
      have k3:(vs G.goal exR.guard).length=1:=rfl
      have k4:(vs G.goal exR.body).length=0:=rfl
      have g0:(vs G.goal exR.guard)[0]? = some exG0.goal:=rfl
      have e1:=Q2 exG0
      have e2:exG0.goal.isAgg=true:=rfl
      have a0:(avs exG0.args)[0]? = some (T.mk 1 1 eB []).av:=rfl
      have x1:(exG0.op==7)=true:=rfl
      have g1:(vs G.goal exL)[1]? = some exG1.goal:=rfl
      have e3:=Q2 exG1
      have e4:exG1.goal.isAgg=true:=rfl
      have a1:(avs exG1.args)[1]? = some exT.av:=rfl
      have a2:(avs exT.args)[1]? = some (T.mk 0 (-2) eB []).av:=rfl
      have a3:(avs exT.args).length=2:=rfl
      have a4:(avs exG1.args).length=2:=rfl
      have a5:(avs exG0.args).length=2:=rfl
      have a6:(vs G.goal exL).length=2:=rfl
      have x2:((T.mk 1 1 eB []).int==1)=true:=rfl
      have x3:((T.mk 0 (-2) eB []).int == -2)=true:=rfl
      have x4:(exR.vars==2)=true:=rfl
      have u0:(0:Int)<((1:Nat):Int):=by decide
      have u1:(1:Int)<((2:Nat):Int):=by decide
      have u2:(0:Int)<((2:Nat):Int):=by decide
      have u3:(((1:Nat):Int)==1)=true:=rfl
      have u4:(((0:Nat):Int)==0)=true:=rfl
      have u5:(0:Int)<=1:=by decide
      simp only[List.append_eq,Qu4,Qu3]
      repeat first|refine owN ?_|(first|refine owK fun K hK=>?_|refine nwcS fun K hK=>?_|refine nwcR fun K hK=>?_|refine Qb ?_);simp only[go_sem,seval,t11,rc,q1,k1,u3,k2,k3,g0,e1,x1,u0,a0,a5,x2,u2,k4,t7,g1,e3,a6,x4,u1,u5,a1,a2,a3,a4,x3]|refine hK _ ?_;clear hK
      (refine Qc (htake _ _) (.keep (.v _)) ⟨rfl,rfl⟩)
     ·have hl:(vs Rl.av exP.rules).length=1:=rfl
      have hg:(vs Rl.av exP.rules)[0]? = some exR.av:=rfl
      have u0:(0:Int)<((1:Nat):Int):=by decide
      repeat first|refine Qb ?_;simp only[go_sem,seval,t1,pc,hl,hg,rc,ri,u0]|refine hK _ ?_;clear hK
      exact⟨rfl,t7,rfl⟩
    ·have k1:(vs Dc.av exP.decls).length=1:=rfl
     have k2:(vs Rl.av exP.rules).length=1:=rfl
     have k3:(vs G.goal exL).length=2:=rfl
     have u3:(((1:Nat):Int) != 1)=false:=rfl
     have u4:(((2:Nat):Int) != 2)=false:=rfl
     have eX:[AV.v (.string {data:=#[88]}),.v (.string {data:=#[95]}),.v (.string {data:=#[89]})]=strX:=rfl
     (try simp only[Qvd])
     repeat first|refine owN ?_|(first|refine Qd cT ?_|refine owK fun K hK=>?_|refine nwcS fun K hK=>?_|refine nwcR fun K hK=>?_|refine Qb ?_);simp only[go_sem,seval,t1,t2,t3,pc,k1,k2,u3,t5,t6,t7,t10,t8,k3,u4,eX]|refine hK _ ?_;clear hK
     exact⟨t1,t7,rfl⟩
   ·repeat first|(first|refine FunW.QtJ (c3 _) ?_|refine Qb ?_);simp only[go_sem,seval]|refine hK _ ?_;clear hK
    exact⟨t1,t2,t3,t5,t6,rfl,rfl,rfl,rfl⟩
  ·repeat first|(first|refine FunW.QtJ (c2 _) ?_|refine Qb ?_);simp only[go_sem,seval,zc,zi]|refine hK _ ?_;clear hK
   exact⟨t1,t2,t3,rfl,rfl,rfl⟩
 ·repeat first|(first|refine FunW.QtJ c1' ?_|refine Qb ?_);simp only[go_sem,seval,pc,pi]|refine hK _ ?_;clear hK
  exact⟨rfl,rfl,rfl,rfl⟩
end Go.Proofs.YticgcpebdldbgaaGreatDoor.Ab
set_option maxRecDepth 4000
namespace Go.Proofs.YticgcpebdldbgaaGreatDoor.Ab
open Go.Proofs
theorem QnZ{l:List UInt8}{r:Rl}(h:Qfs l = .inl r):RlOk r:=by
 unfold Qfs at h
 cases hs:XN l with
 |inr q=>rw[hs]at h;cases h
 |inl ts =>
  rw[hs]at h
  simp only at h
  cases hp:Z9 ⟨ts,[]⟩with
  |err p c=>rw[hp]at h;cases h
  |ok q s2 =>
   rw[hp]at h
   cases h
   obtain⟨r2,s3,e1,e2⟩:=bind_ok (show(Yf ⟨ts,[]⟩).bind (fun r s=>(pEnd s).bind fun _ s=>.ok r s) = .ok r s2 from hp)
   obtain⟨u,s4,e3,e4⟩:=bind_ok e2
   cases e4
   exact Qot e1
theorem Qtm:RlB (⟨eB,[],[],[],[],0⟩:Rl):=by
 refine⟨?_,?_,?_,?_⟩ <;> first|exact Nat.zero_le _|(intro g hg;cases hg)|exact⟨Nat.zero_le _,fun g hg=>by cases hg⟩
section
variable(l:List UInt8)(hmx:l.length<=9223372036854775807)(h:AH)(hG:Zf h)
include hmx hG
theorem QsW:Qj Tryz.prog 5 [.v (.string (mkB l))] h fun o h'=>o = .ret (.b true)/\h'=h:=by
 have hsl:=fun b=>XF Tryz.prog 9 3 (by kernel_rfl) b
 have ca:=fun L=>Qgd (h++L) (hG.app L)
 have ca0:=Qgd h hG
 by_cases hb:4000<l.length
 ·have z1:((l.length:Nat):Int)>4000:=by omega
  have z2:(4000:Int)<((l.length:Nat):Int):=by omega
  refine Qa Tryz.func5 rfl Tryz.call5 Tryz.ntmps5 Tryz.results5 (by simp) ?_
  repeat (first|refine FunW.QtJ ca0 ?_|refine Qb ?_);simp only[go_sem,seval,hsl,Qg,z1]
  exact .inr ⟨rfl,rfl⟩
 ·have z1:¬((l.length:Nat):Int)>4000:=by omega
  have z2:¬(4000:Int)<((l.length:Nat):Int):=by omega
  have cp:=Qf1 l h hG
  have cq:=fun L=>Qd0 l (by omega) (h++L)
  cases hp:Qfs l with
  |inr q =>
   obtain⟨x,e⟩:=q
   simp only[hp,rsR]at cp cq
   have rc:=Rl.cells (⟨eB,[],[],[],[],0⟩:Rl)
   have ri:=Rl.isAgg (⟨eB,[],[],[],[],0⟩:Rl)
   have cz:=QgD (⟨eB,[],[],[],[],0⟩:Rl) Qtm
   have u1:(x==x)=true:=by simp
   have u2:(e==e)=true:=by simp
   refine Qa Tryz.func5 rfl Tryz.call5 Tryz.ntmps5 Tryz.results5 (by simp) ?_
   repeat (first|refine Qd cz ?_|refine FunW.QtJ cp ?_|refine FunW.QtJ (cq _) ?_|refine FunW.QtJ (ca _) ?_|refine Qb ?_);simp only[go_sem,seval,hsl,Qg,z1,rc,ri]
   exact Qc (htake _ _) (.keep (.v _)) ⟨rfl,rfl⟩
  |inl r =>
   simp only[hp,rsR]at cp cq
   have rc:=Rl.cells r
   have ri:=Rl.isAgg r
   have cz:=QgD r (QnZ hp).bnd
   have u1:((0:Int)==0)=true:=rfl
   refine Qa Tryz.func5 rfl Tryz.call5 Tryz.ntmps5 Tryz.results5 (by simp) ?_
   repeat (first|refine Qd cz ?_|refine FunW.QtJ cp ?_|refine FunW.QtJ (cq _) ?_|refine FunW.QtJ (ca _) ?_|refine Qb ?_);simp only[go_sem,seval,hsl,Qg,z1,rc,ri]
   exact Qc (htake _ _) (.keep (.v _)) ⟨rfl,rfl⟩
end
end Go.Proofs.YticgcpebdldbgaaGreatDoor.Ab
set_option maxRecDepth 4000
namespace Go.Proofs.YticgcpebdldbgaaGreatDoor.Ab
open Go.Proofs
section
variable(l:List UInt8)(hmx:l.length<=9223372036854775807)(h:AH)(hG:Zf h)
include hmx hG
end
end Go.Proofs.YticgcpebdldbgaaGreatDoor.Ab
namespace Go.Proofs.YticgcpebdldbgaaGreatDoor.Ab
theorem Qhe{H:Type}{enc:TypeId×Value->H}{P:Program}{w:World}{base:Nat}{sp:Nat->Bool}{held:Bool}{fuel:Nat}{t e:TypeId}{n:Nat}{cs:List Value}{zs:List (List UInt8)}{p:List MemPlace}
  (ht:P.underlying t=some (.array n e)) (he:P.underlying e=some .string) (hce:P.cellsOf e=1) (hct:P.cellsOf t=n)
  (h:DataW.trod enc P w base sp held fuel t cs=some (.agg (zs.map fun z=>.lit (.string z)),p)):cs=zs.map fun z=>Value.string ⟨z.toArray⟩:=by
 cases fuel with
 |zero=>simp[DataW.trod]at h
 |succ fuel =>
  simp only[DataW.trod,ht,hce,hct,Nat.mul_one]at h
  split at h
  ·rename_i hl
   obtain⟨xs,hm,hx⟩:=Option.map_eq_some_iff.1 h
   have hxs:xs.map (·.1)=zs.map fun z=>(DataW.lit (.string z):DataW H):=by
    have:=congrArg Prod.fst hx
    simpa using this
   have hxl:xs.length=n:=by simpa using Lib.mapM_length hm
   have hzl:zs.length=n:=by
    have:=congrArg List.length hxs
    simp at this
    omega
   apply List.ext_getElem?
   intro i
   by_cases hi:i<n
   ·obtain⟨b,hb,hf⟩:=Lib.mapM_at hm i i (by simp[hi])
    obtain⟨s,hc,rfl,_⟩:=DataW.trod_string he hf
    have h1:cs[i]? = some (.string s):=by
     have:=congrArg (·[0]?) hc
     simpa [List.getElem?_take,List.getElem?_drop]using this
    have h2:(xs.map (·.1))[i]? = some (DataW.lit (.string s.data.toList):DataW H):=by simp[hb]
    rw[hxs]at h2
    simp only[List.getElem?_map,Option.map_eq_some_iff,DataW.lit.injEq,Lit.string.injEq]at h2
    obtain⟨z',hz',hz2⟩:=h2
    have:s=⟨z'.toArray⟩:=by rw[hz2]
    simp[h1,hz',this]
   ·rw[List.getElem?_eq_none (by omega),List.getElem?_eq_none (by simp;omega)]
  ·cases h
theorem Qnw{P:Program}{W:World}{nm:String}{zs:List (List UInt8)}{g:Nat}{t e:TypeId}{n:Nat}
  (hg:P.globalNamed nm=some g) (hty:(P.globals[g]?).map (·.type)=some t) (ht:P.underlying t=some (.array n e)) (he:P.underlying e=some .string) (hce:P.cellsOf e=1) (hct:P.cellsOf t=n)
  (h:laidMet P [(nm,.agg (zs.map fun z=>.lit (.string z)))] W):∃ty fr,W.heap[g]? = some (.cells (zs.map fun z=>Value.string ⟨z.toArray⟩).toArray ty fr):=by
 obtain⟨ps,⟨g',t',cs,fuel,p,q,hg',ht',hvar,hd,_,_⟩,_⟩:=h
 obtain rfl:=Option.some.inj (hg.symm.trans hg')
 obtain rfl:=Option.some.inj (hty.symm.trans ht')
 have:=Qhe ht he hce hct hd
 refine QoI hg (cs:=(zs.map fun z=>Value.string ⟨z.toArray⟩).toArray) ?_
 rw[hvar,<-this]
open Go.Proofs
theorem open_string{H:Type}{enc:TypeId×Value->H}{P:Program}{W:World}{r:Reach}{b0:Nat}{t:TypeId}{v:Value}{d:DataW H}{ps:List MemPlace}(ht:P.underlying t=some .string)(hv:Value.okWide P W r b0 t v)(hd:DataW.Trod enc P W 0 (fun _=>true) true t v d ps):∃s:ByteArray,v = .string s/\s.size<=maxLen:=by
 obtain⟨fuel,hf⟩:=hd
 have hc:v.cells.toList=[v]:=by
  cases v with
  |agg cs=>simp[Value.okWide,ht,Cell.okWide,Cell.ok]at hv
  |_=>rfl
 rw[hc]at hf
 obtain⟨s,h1,_,h2⟩:=DataW.trod_string ht hf
 cases h1
 exact⟨s,rfl,h2⟩
theorem QpX{s:ByteArray}(hs:s.size<=maxLen):s.data.toList.length<=9223372036854775807:=by
 have:s.size=s.data.toList.length:=by show s.data.size=_;simp
 simp only[maxLen]at hs
 omega
theorem Qr3(s:ByteArray)(hs:s.size<=maxLen)(h:AH)(hG:Zf h):Qj Tryz.prog 5 [.v (.string s)] h fun o h'=>o = .ret (.b true)/\h'=h:=by
 have:=QsW s.data.toList (QpX hs) h hG
 rwa [Qhv]at this
end Go.Proofs.YticgcpebdldbgaaGreatDoor.Ab

