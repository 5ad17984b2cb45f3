/-
  An abstract program logic, contracts of functions, and laws of terms and rules (part 6).
-/
import Derived.Test.YticgcpebdldbgaaDoorAbFive
import Derived.Test.YticgcpebdldbgaaDoorAbTwo
import Derived.Test.YticgcpebdldbgaaDoorAbThree
set_option linter.unusedVariables false
set_option linter.unusedSimpArgs false
set_option maxHeartbeats 4000000
set_option maxRecDepth 4000
namespace Go.Proofs.YticgcpebdldbgaaDoor.Ab
open Go.Proofs
structure KpG (h:AH) (P:Pz) (o o2:Nat) (Y:AH):Prop where
 long:h.length≤Y.length
 out:∀ i,i<h.length→i≠o→i≠o2→i≠P.i→i≠P.j→i≠P.g→Y[i]? = h[i]?
def GfQ (h:AH) (P:Pz) (o o2:Nat):PR (List G×List ByteArray)→AOut→AH→Prop
 | .ok q _,x,h'=>x = .ret (.tup [])∧∃ Y:{Y:AH // KpG h P o o2 Y∧Y[o]? = some (.cells 32 1 [.sl 3 (lvG gv h.length q.1) none])∧At Y h.length (layG 54 h.length q.1)∧Y[o2]? = some (.cells 46 1 [.sl 1 (strs q.2) none])},h'=Y.1
 | .err p e,x,h'=>x = .panic (Fl p e)∧∃ Y:{Y:AH // KpG h P o o2 Y∧Y[o2]? = h[o2]?},h'=Y.1
def qV (l:List G):List G:=l.map fun g=>⟨g.op,g.name,maps (fun v=>((plc (ded [] (QL l)) v:Nat):Int)) g.args⟩
def qN (s:PS) (l:List G):List ByteArray:=(ded [] (QL l)).map fun v=>s.names.getD v.toNat eB
theorem QlP (s:PS):QfC s=(Yo 40 s).bind fun l s=>(pEnd s).bind fun _ s=>.ok (qV l,qN s l) s:=rfl
theorem QlZ (l:List G):Xl gG [] l=(qV l,ded [] (QL l)):=by
 have:=Qbp [] l []
 simp only [Qrs] at this
 exact this
mutual
theorem T.QqL:∀ t:T,t.vars.length≤t.nds
 | .mk k i x l=>by
  have:=QeE l
  simp only [T.vars,T.nds]
  split
  ·simp
  ·split
   ·omega
   ·simp
theorem QeE:∀ l:List T,(Q4 l).length≤ndsL l
 |[]=>by simp [Q4]
 |t::l=>by
  have h1:=T.QqL t
  have h2:=QeE l
  simp only [Q4,ndsL,QrQ]
  omega
end
theorem Qfq:∀ l:List G,(QL l).length≤ndG l
 |[]=>Nat.le_refl _
 |g::l=>by
  have h1:=QeE g.args
  have h2:=Qfq l
  have e:QL (g::l)=Q4 g.args++QL l:=by simp [QL]
  rw [e,List.length_append,ndG];omega
section
variable {P:Pz} {s:PS} (hW:Wst P.all s) {h:AH} (H:P.ok h) (hN:P.all.length≤1000000) (hD:TkOk P.all) {o o2:Nat} (hol:o<h.length) (hoi:o≠P.i) (hoj:o≠P.j) (hog:o≠P.g)
 (hpl:o2<h.length) (hpi:o2≠P.i) (hpj:o2≠P.j) (hpg:o2≠P.g) (hoo:o≠o2)
include hW H hN hD hol hoi hoj hog hpl hpi hpj hpg hoo
theorem Qiz (hob:h[o]? = some (.cells 32 1 [nilV])) (hob2:h[o2]? = some (.cells 46 1 [nilV])):QJ Tryd.prog 28 [.ptr P.i 0 0,.ptr o 0 0,.ptr o2 0 0] (ph h P s) (GfQ h P o o2 (QfC s)):=by
 have cg:=QcJ hW H hN hD 40 (by omega)
 rw [QlP]
 cases hr:Yo 40 s with
 |err p e =>
  rw [hr] at cg
  have cg2:QJ Tryd.prog 29 [.ptr P.i 0 0,.i 40] (ph h P s) fun o h'=>o = .panic (Fl p e)∧∃ s2:PS,h'=ph h P s2:=cg
  refine Qe Tryd.func28 rfl Tryd.call28 Tryd.ntmps28 (congrArg Array.toList Tryd.results28) (by simp) ?_
  repeat (first|((first|(with_reducible (first|refine Qa fun K E hK hE=>?_|refine FunW.panE (FunW.call cg2) fun r=>?_)));simp -implicitDefEqProofs only [Qc,Qd,OpW,QE,aop,undef,AS.ev,Qq,↓reduceIte,Nat.reduceLT])|(with_reducible refine hE _ _ ?_))
  exact .inr ⟨rfl,⟨_,⟨by rw [QS];exact Nat.le_refl _,fun i h1 h2 h3 h4 h5 h6=>by rw [Zn H h4 h5 h6]⟩,by rw [Zn H hpi hpj hpg]⟩,rfl⟩
 |ok l s2 =>
  rw [hr] at cg
  have cg2:QJ Tryd.prog 29 [.ptr P.i 0 0,.i 40] (ph h P s) fun o h'=>o = .ret (.sl 3 (lvG gv h.length l) none)∧h'=ph h P s2++layG 54 h.length l:=cg
  have hW2:Wst P.all s2:=Kp.Ps.ok (n:=wdOf P.all) (Kp.goals_ps trivial 40) hW hr
  have hl0:=Qdv hr
  have f1:=QS h P s2
  obtain ⟨X,hX⟩:∃ X,X=(ph h P s2++layG 54 h.length l).set o (.cells 32 1 [.sl 3 (lvG gv h.length l) none]):=⟨_,rfl⟩
  have hXl:X.length=h.length+gsz l:=by rw [hX,List.length_set,List.length_append,QS,QN]
  have g0:(ph h P s2++layG 54 h.length l)[o]? = some (.cells 32 1 [nilV]):=by rw [List.getElem?_append_left (by omega),Zn H hoi hoj hog];exact hob
  have hXo:X[o]? = some (.cells 32 1 [.sl 3 (lvG gv h.length l) none]):=by rw [hX];exact List.getElem?_set_self (by rw [List.length_append];omega)
  have hXi:X[P.i]? = some (pN P s2 (some P.g)):=by rw [hX,List.getElem?_set_ne hoi,List.getElem?_append_left (by rw [f1];exact H.i),XS H];rfl
  have hXlow:∀ i,i<h.length→i≠o→i≠P.i→i≠P.j→i≠P.g→X[i]? = h[i]? := fun i h1 h2 h3 h4 h5=>by rw [hX,List.getElem?_set_ne (Ne.symm h2),List.getElem?_append_left (by omega),Zn H h3 h4 h5]
  have hXA:At X h.length (layG 54 h.length l):=by
   have:=At.base (At.mid [] (layG 54 h.length l) [] rfl) f1
   rw [List.nil_append,List.append_nil] at this
   refine At.keep this fun i i1 i2=>?_
   rw [hX,List.getElem?_set_ne (by omega)]
  have hi3:=hXi
  rw [pN] at hi3
  by_cases hk:s2.tk.kind=0
  ·have ce:=QmO hW2 hXi hk
   have hE:((PR.ok l s2).bind fun l s=>(pEnd s).bind fun _ s=>PR.ok (qV l,qN s l) s) = .ok (qV l,qN s2 l) s2:=by
    have:pEnd s2 = .ok () s2:=by rw [pEnd,if_pos hk]
    show (pEnd s2).bind _=_
    rw [this];rfl
   rw [hE]
   rw [hX] at ce hi3
   refine Qe Tryd.func28 rfl Tryd.call28 Tryd.ntmps28 (congrArg Array.toList Tryd.results28) (by simp) ?_
   iterate 6 (try (first|((first|(with_reducible (first|refine Qa fun K E hK hE=>?_|refine FunW.ret (FunW.call cg2) ?_|refine FunW.ret (FunW.call ce) ?_)));simp -implicitDefEqProofs only [Qc,Qd,OpW,QE,aop,undef,AS.ev,Qq,AV.Qp8,↓reduceIte,Qg,QB,Qp,ti32,QI,Qs,g0,hi3,seval])|((with_reducible refine hK _ ?_);clear hK)))
   rw [← hX]
   have hXo2:X[o2]? = some (.cells 46 1 [nilV]):=by rw [hXlow o2 hpl (Ne.symm hoo) hpi hpj hpg];exact hob2
   refine Yr o2 46 1 1 (.grow 9 1 0) (.inr ⟨_,rfl⟩) [nilV] [.sl 1 [] (some X.length)] 0 hXo2 rfl rfl (by simp [AV.cells]) ?_
   obtain ⟨X2,hX2⟩:∃ X2,X2=(X++[AB.grow 9 1 0]).set o2 (.cells 46 1 [.sl 1 [] (some X.length)]):=⟨_,rfl⟩
   rw [← hX2]
   have hX2l:X2.length=X.length+1:=by rw [hX2,List.length_set,List.length_append];rfl
   have hX2e:∀ i,i<X.length→i≠o2→X2[i]? = X[i]? := fun i h1 h2=>by rw [hX2,List.getElem?_set_ne (Ne.symm h2),List.getElem?_append_left h1]
   have hX2p:X2[o2]? = some (.cells 46 1 [.sl 1 [] (some X.length)]):=by rw [hX2];exact List.getElem?_set_self (by rw [List.length_append];omega)
   have hX2t:X2[X.length]? = some (.grow 9 1 0):=by rw [hX2,List.getElem?_set_ne (by omega),List.getElem?_append_right (Nat.le_refl _),Nat.sub_self];rfl
   iterate 2 (try (first|(((with_reducible refine Qa fun K E hK hE=>?_));simp -implicitDefEqProofs only [Qc,Qd,OpW,aop,AV.Qp8,↓reduceIte,zi84,seval])|((with_reducible refine hK _ ?_);clear hK)))
   refine Yr X2.length 84 2 1 (.grow 3 1 0) (.inr ⟨_,rfl⟩) [.agg [.v (.map none),.v (.slice none 0 0)]] [.agg [.v (.map none),.sl 1 [] (some (X2.length+1))]] 1 (by rw [List.getElem?_append_right (Nat.le_refl _),Nat.sub_self];rfl) rfl (by rw [List.length_append];rfl) (by simp [AV.cells]) ?_
   have hZ:((X2++[AB.cells 84 2 [.agg [.v (.map none),.v (.slice none 0 0)]]])++[AB.grow 3 1 0]).set X2.length (AB.cells 84 2 [.agg [.v (.map none),.sl 1 [] (some (X2.length+1))]])=X2++[AB.cells 84 2 [.agg [.v (.map none),.sl 1 [] (some (X2.length+1))]],AB.grow 3 1 0]:=by
    rw [List.append_assoc,List.set_append_right _ _ (Nat.le_refl _),Nat.sub_self];rfl
   have hN0:NSt (X2++[AB.cells 84 2 [.agg [.v (.map none),.sl 1 [] (some (X2.length+1))]],.grow 3 1 0]) X2.length []:=⟨.v (.map none),by rw [List.getElem?_append_right (Nat.le_refl _),Nat.sub_self];rfl,by rw [List.getElem?_append_right (by omega),Nat.add_sub_cancel_left];rfl,.inl ⟨rfl,rfl⟩⟩
   rw [hZ]
   obtain ⟨Z0,hZ0⟩:∃ Z0,Z0=X2++[AB.cells 84 2 [.agg [.v (.map none),.sl 1 [] (some (X2.length+1))]],AB.grow 3 1 0]:=⟨_,rfl⟩
   rw [← hZ0] at hN0
   rw [← hZ0]
   have hZl:Z0.length=X2.length+2:=by rw [hZ0,List.length_append];rfl
   have hZe:∀ i,i<X2.length→Z0[i]? = X2[i]? := fun i h1=>by rw [hZ0,List.getElem?_append_left h1]
   obtain ⟨hok,hl40⟩:=Qbo hr
   have hps:∀ g∈l,pss g.args:=fun g hg=>(Qdu (hok g hg)).1
   have hnd:∀ m:List G,(∀ g∈m,ndsL g.args≤200)→ndG m≤200 * m.length:=fun m=>by
    induction m with
    |nil=>intro _;exact Nat.le_refl _
    |cons g m ih =>
     intro hm
     have h1:=hm g (by simp)
     have h2:=ih fun x hx=>hm x (by simp [hx])
     rw [ndG,List.length_cons];omega
   have hnl:=hnd l fun g hg=>(Qdu (hok g hg)).2
   have hZA:At Z0 h.length (layG 54 h.length l):=hXA.keep fun i i1 i2=>by rw [QN] at i2;rw [hZe i (by omega),hX2e i (by omega) (by omega)]
   have hZo:Z0[o]? = some (.cells 32 1 [.sl 3 (lvG gv h.length l) none]):=by rw [hZe o (by omega),hX2e o (by omega) hoo];exact hXo
   have c1:=retQ (Qd1 l hps Z0 X2.length h.length [] (by omega) (by simp only [Qrd];omega) (by omega) (by omega) hN0 hZA)
   rw [QeY gv 3 h.length hl0] at c1
   repeat (first|((first|(with_reducible (first|refine Qa fun K E hK hE=>?_|refine FunW.retE (FunW.call c1) fun Y=>?_)));simp -implicitDefEqProofs only [Qc,Qd,OpW,QE,aop,undef,XL,AS.ev,Qq,↓reduceIte,Qg,Qw,Qv,aLen,goInt,ti32,ti82,un82,QdW,hZo,seval])|((with_reducible refine hK _ ?_);clear hK))
   have hY:=Y.2
   generalize Y.1=Y1 at *
   obtain ⟨_,p1,n1,a1⟩:=hY
   rw [QlZ] at n1 a1
   simp only at n1 a1
   obtain ⟨toV,z1,z2,z3⟩:=n1
   have hvb:=QmW hr
   generalize hOr:ded [] (QL l)=ord at *
   have hord:∀ v∈ord,0≤v∧v<s2.names.length:=fun v hv=>hvb v (by rw [← hOr,Qii] at hv;exact hv.resolve_left (List.not_mem_nil))
   have hl1:X2.length+1<Y1.length:=Qt z2
   have hYe:∀ i,i<X2.length→¬ (h.length≤i∧i<h.length+gsz l)→Y1[i]? = X2[i]? := fun i h1 h2=>by rw [p1.out i h1 h2,hZe i h1]
   have hYi:Y1[P.i]? = some (pN P s2 (some P.g)):=by rw [hYe P.i (by have:=H.i;omega) (by have:=H.i;omega),hX2e P.i (by have:=H.i;omega) (Ne.symm hpi)];exact hXi
   have hYo:Y1[o]? = some (.cells 32 1 [.sl 3 (lvG gv h.length l) none]):=by rw [hYe o (by omega) (by omega),hX2e o (by omega) hoo];exact hXo
   have hYp:Y1[o2]? = some (.cells 46 1 [.sl 1 [] (some X.length)]):=by rw [hYe o2 (by omega) (by omega)];exact hX2p
   have hYt:Y1[X.length]? = some (.grow 9 1 0):=by rw [hYe X.length (by omega) (by omega)];exact hX2t
   have hYk:KpG h P o o2 Y1:=⟨by omega,fun i h1 h2 h3 h4 h5 h6=>by rw [hYe i (by omega) (by omega),hX2e i (by omega) h3];exact hXlow i h1 h2 h4 h5 h6⟩
   have hqn:qN s2 l=ord.map fun v=>s2.names.getD v.toNat eB:=by rw [qN,hOr]
   have hnm:(qN s2 l).length=ord.length:=by rw [hqn,List.length_map]
   have hob:ord.length≤1000000:=by
    have:=Zy [] (QL l)
    have h3:(QL l).length≤ndG l:=Qfq l
    rw [hOr] at this
    simp only [Qrd] at this
    omega
   simp -implicitDefEqProofs only [Qc,z1]
   iterate 1 (try (((with_reducible refine hK _ ?_);clear hK)))
   iterate 2 (try ((with_reducible refine Qj ?_)))
   obtain ⟨I,hI⟩:∃ I:Nat→AS→Prop,I=fun m' s=>∃ j:Nat,m'=ord.length - j∧j≤ord.length∧s.h.length=Y1.length∧(∀ i,i≠o2→i≠X.length→s.h[i]? = Y1[i]?)∧s.h[o2]? = some (.cells 46 1 [.sl 1 (strs ((qN s2 l).take j)) (some X.length)])∧s.h[X.length]? = some (.grow 9 1 j)∧s.tm 0 = .ptr P.i 0 0∧s.tm 2 = .ptr o2 0 0∧s.tm 16 = .sl 1 (ints ord) (some (X2.length+1))∧s.tm 17 = .i ord.length∧s.tm 18 = .i j:=⟨_,rfl⟩;refine QO I ?_ (m:=ord.length) ?_
   ·intro m' s hs;rw [hI] at hs;obtain ⟨tm,hp⟩:=s;dsimp only at hs;obtain ⟨j,rfl,hj,hle,hfr,hs2,hst,t0,t2,t16,t17,t18⟩:=hs
    have hpi2:hp[P.i]? = some (pN P s2 (some P.g)):=by rw [hfr P.i (Ne.symm hpi) (by have:=H.i;omega)];exact hYi
    rw [pN] at hpi2
    by_cases hlt:j<ord.length
    ·have y1:((j:Nat):Int)<((ord.length:Nat):Int):=by omega
     have hv:=hord _ (List.getElem_mem hlt)
     obtain ⟨k,hk⟩:∃ k:Nat,ord[j]=(k:Int):=⟨ord[j].toNat,by omega⟩
     have hat:(ints ord)[j]? = some (.i ((k:Nat):Int)):=by rw [← hk];exact Qdw hlt
     rw [hk] at hv
     have hkl:k<s2.names.length:=by omega
     have hnk:(strs s2.names)[k]? = some (.v (.string s2.names[k])):=by rw [strs,List.getElem?_map,List.getElem?_eq_getElem hkl];rfl
     have w1:IntKind.i64.wrap (((j:Nat):Int)+1)=((j+1:Nat):Int):=Xk (by omega)
     have htl:(strs ((qN s2 l).take j)).length=j:=by rw [YK,List.length_take,hnm];omega
     have hm1:(j+1) * 16≤140737488355328:=by omega
     have hm2:j+1≤maxLen:=by simp only [maxLen];omega
     have hX9:X.length<hp.length:=Qt hst
     have u1:∀ y,(hp.set X.length y)[o2]? = some (.cells 46 1 [.sl 1 (strs ((qN s2 l).take j)) (some X.length)]):=fun y=>by rw [List.getElem?_set_ne (by omega)];exact hs2
     have hnext:strs ((qN s2 l).take (j+1))=strs ((qN s2 l).take j)++[.v (.string s2.names[k])]:=by
      rw [List.take_succ_eq_append_getElem (by omega),QbQ]
      congr 1
      simp only [hqn,List.getElem_map,hk,QrC,strs,Qre,Qri]
      rw [List.getD_eq_getElem?_getD,List.getElem?_eq_getElem hkl];rfl
     repeat (first|((first|(with_reducible (first|refine Qa fun K E hK hE=>?_|refine Qk fun K E hK hE=>?_))|(refine XP (id:=7) [(0,0),(1,0),(2,0),(3,0),(4,0),(5,0),(6,0),(7,0),(8,0),(9,2),(10,2)] mixed (by kernel_rfl) fun K hK=>?_));simp -implicitDefEqProofs only [Qc,Qd,OpW,aop,undef,AS.ev,AV.Qp8,↓reduceIte,Qg,Qw,Qv,QB,Qp,QK,aBin,QH,XD,Yb,ti3,ti9,zi9,ti46,ei46,ai46,YG,ei82,Qs,t0,t2,t16,t17,t18,y1,hat,hs2,hst,hpi2,hkl,hnk,YK,htl,hm1,hm2,u1,w1,seval])|(with_reducible (first|refine Qf fun K hK=>?_|refine Qj ?_|refine Qm ?_|refine Qb ?_|refine Qo ?_))|((with_reducible refine hK _ ?_);clear hK)|(refine Qh rfl ?_;simp only [↓reduceIte]))
     refine Xi.mk (m':=ord.length - (j+1)) (by omega) ?_
     rw [hI]
     refine ⟨j+1,rfl,hlt,by simp only [List.length_set];exact hle,fun i h1 h2=>by rw [List.getElem?_set_ne (Ne.symm h1),List.getElem?_set_ne (Ne.symm h2)];exact hfr i h1 h2,?_,?_,t0,t2,t16,t17,rfl⟩
     ·rw [hnext];exact List.getElem?_set_self (by rw [List.length_set];omega)
     ·rw [List.getElem?_set_ne (by omega)];exact List.getElem?_set_self hX9
    ·have hjl:j=ord.length:=by omega
     have y1:¬ ((j:Nat):Int)<((ord.length:Nat):Int):=by omega
     have hX9:X.length<hp.length:=Qt hst
     refine QaZ o2 46 1 [.sl 1 (strs ((qN s2 l).take j)) (some X.length)] [.sl 1 (strs ((qN s2 l).take j)) none] 0
      (Wk.sl rfl (fun y hy=>by obtain ⟨x,_,rfl⟩:=List.mem_map.1 hy;rfl) (WkL.refl _)) hs2 rfl rfl (fun x hx=>by rw [List.mem_singleton] at hx;subst hx;rfl) ?_
     repeat (first|(((with_reducible refine Qa fun K E hK hE=>?_));simp -implicitDefEqProofs only [Qc,Qd,OpW,aop,AS.ev,Nat.reduceLT,aBin,t17,t18,y1])|(with_reducible (first|refine Qf fun K hK=>?_|refine QG ?_|refine QD ?_|refine QC ?_))|((with_reducible refine hK _ ?_);clear hK)|(refine Qh rfl ?_;simp only [↓reduceIte,Qq3]))
     simp -implicitDefEqProofs only [Qq1,Qq5,List.mapM_nil,Option.pure_def,Qq1,QF,Qn,Qq9]
     have elv:lvG gv h.length (qV l)=lvG gv h.length l:=by
      have:=Qie QnK h.length [] l
      rw [QlZ] at this
      exact this
     have egs:gsz (qV l)=gsz l:=by
      have:=Ye [] l
      rw [QlZ] at this
      exact this
     have htk:(qN s2 l).take j=qN s2 l:=List.take_of_length_le (by omega)
     refine .inr ⟨rfl,⟨_,⟨by rw [List.length_set,hle];exact hYk.long,fun i h1 h2 h3 h4 h5 h6=>?_⟩,?_,?_,?_⟩,rfl⟩
     ·rw [List.getElem?_set_ne (Ne.symm h3),hfr i h3 (by omega)];exact hYk.out i h1 h2 h3 h4 h5 h6
     ·rw [List.getElem?_set_ne (Ne.symm hoo),hfr o hoo (by omega),elv];exact hYo
     ·refine a1.keep fun i i1 i2=>?_
      rw [QN,egs] at i2
      rw [List.getElem?_set_ne (by omega),hfr i (by omega) (by omega)]
     ·rw [htk];exact List.getElem?_set_self (by omega)
   ·rw [hI]
    exact ⟨0,rfl,Nat.zero_le _,rfl,fun _ _ _=>rfl,hYp,hYt,rfl,rfl,rfl,rfl,rfl⟩
  ·have ce:=Qob hW2 hXi hk
   have hE:((PR.ok l s2).bind fun l s=>(pEnd s).bind fun _ s=>PR.ok (qV l,qN s l) s) = .err s2.tk.pos 16:=by
    have:pEnd s2 = .err s2.tk.pos 16:=by rw [pEnd,if_neg hk]
    show (pEnd s2).bind _=_
    rw [this];rfl
   rw [hE]
   rw [hX] at ce hi3
   refine Qe Tryd.func28 rfl Tryd.call28 Tryd.ntmps28 (congrArg Array.toList Tryd.results28) (by simp) ?_
   repeat (first|((first|(with_reducible (first|refine Qa fun K E hK hE=>?_|refine FunW.ret (FunW.call cg2) ?_|refine FunW.pan (FunW.call ce) ?_)));simp -implicitDefEqProofs only [Qc,Qd,OpW,QE,aop,undef,AS.ev,Qq,AV.Qp8,↓reduceIte,Qg,QB,Qp,ti32,QI,Qs,g0,hi3,seval])|((with_reducible refine hK _ ?_);clear hK)|(with_reducible refine hE _ _ ?_))
   refine .inr ⟨rfl,⟨_,?_⟩,rfl⟩
   rw [← hX]
   exact ⟨⟨by omega,fun i h1 h2 h3 h4 h5 h6=>hXlow i h1 h2 h4 h5 h6⟩,hXlow o2 hpl (Ne.symm hoo) hpi hpj hpg⟩
end
end Go.Proofs.YticgcpebdldbgaaDoor.Ab
set_option maxRecDepth 4000
namespace Go.Proofs.YticgcpebdldbgaaDoor.Ab
open Go.Proofs
abbrev cG (v:AV):AB:=.cells 32 1 [v]
abbrev cS (v:AV):AB:=.cells 46 1 [v]
def Qhp (l:List UInt8):(List G×List ByteArray) ⊕ (Int×Int):=match Ya l with
 | .inr e=>.inr e
 | .inl ts=>match QfC ⟨ts,[]⟩ with
  | .ok p _=>.inl p
  | .err p e=>.inr (p,e)
theorem Qiu {all:List Tk} {s:PS} (hW:Wst all s) {p e:Int} (h:QfC s = .err p e):e≠0:=Kp.Ps.err (n:=wdOf all) (Kp.query_ps trivial) hW h
def SqQ (h:AH):(List G×List ByteArray) ⊕ (Int×Int)→AOut→AH→Prop
 | .inl q,o,h'=>∃ n,h.length≤n∧o = .ret (.tup [.sl 3 (lvG gv n q.1) none,.sl 1 (strs q.2) none,.i 0,.i 0])∧At h' n (layG 54 n q.1)∧h.length≤h'.length∧h'.take h.length=h
 | .inr e,o,h'=>o = .ret (.tup [nilV,nilV,.i e.1,.i e.2])∧h'=h
def sqR:(List G×List ByteArray) ⊕ (Int×Int)→AV
 | .inl q=>.tup [.sl 3 (vs G.goal q.1) none,.sl 1 (strs q.2) none,.i 0,.i 0]
 | .inr e=>.tup [nilV,nilV,.i e.1,.i e.2]
theorem QhH (n:Nat) (a b:Int):Below n (.tup [nilV,nilV,.i a,.i b]):=.tup _ fun x hx=>by
 simp only [List.mem_cons,List.not_mem_nil,or_false] at hx
 rcases hx with rfl|rfl|rfl|rfl <;> exact .v _
theorem QhY {P:Program} {f:FuncId} {args:List AV} {h:AH} {Q Q0:AOut→AH→Prop} (H:QJ P f args h Q0)
  (hp:(∀ (i:Nat) b,h[i]? = some b→b.Below h.length)→∀ o h',Q0 o h'→Q o h'∨∃ l l',o = .ret (.tup l)∧h.length≤h'.length∧(∀ b∈h'.take h.length,b.Below h.length)∧l'.length=l.length∧(∀ (j:Nat) a a',l[j]? = some a→l'[j]? = some a'→Melt h' h.length a a')∧Q (.ret (.tup l')) (h'.take h.length)):QJ P f args h Q:=by
 refine ⟨H.1,fun F n c vals hF hs hh hvs=>(H.2 F n c vals hF hs hh hvs).mono ?_⟩
 rintro e w' ⟨o,c',hQ,hev,hst,hw,hex⟩
 rcases hp (fun i b hb=>by subst hh;exact hs.below hb) o c'.h hQ with hq|⟨l,l',rfl,h1,h2,hl,h3,h4⟩
 ·exact ⟨o,c',hq,hev,hst,hw,hex⟩
 ·obtain ⟨x,rfl,hr⟩:=hex
  refine ⟨.ret (.tup l'),c'.cut h.length,h4,hev.cut (by rw [hh];exact Nat.le_refl _) h1,hst.cut h1 h2,hw,x,rfl,?_⟩
  cases hr with
  |tup _ cs hl' hr =>
   refine .tup _ cs (by omega) fun j a' u ha' hu=>?_
   obtain ⟨a,ha⟩:∃ a,l[j]? = some a:=⟨_,List.getElem?_eq_getElem (by rw [← hl];exact Qt ha')⟩
   exact (h3 j a a' ha ha').rel hst h1 (hr j a u ha hu)
section
variable (l:List UInt8) (h:AH) (hG:ZP h)
include hG
theorem Ql0:QJ Tryd.prog 13 [.v (.string (mkB l))] h (SqQ h (Qhp l)):=by
 rw [Qhp]
 cases hs:Ya l with
 |inr q =>
  obtain ⟨p,e⟩:=q
  have cr:=fun fv L=>Qhs hs fv (h++L) (hG.app L)
  have e0:(e != 0)=true:=by simpa using Qac hs
  refine Qe Tryd.func13 rfl Tryd.call13 Tryd.ntmps13 (congrArg Array.toList Tryd.results13) (by simp) ?_
  repeat (first|((first|(with_reducible (first|refine Qa fun K E hK hE=>?_|refine FunW.ret (FunW.call (cr _ _)) ?_)));simp -implicitDefEqProofs only [Qc,Qd,OpW,QE,aop,undef,AS.ev,Qq,AV.Qp8,↓reduceIte,QB,Qp,aBin,QY,zi32,ti46,zi46,e0,seval])|(with_reducible (first|refine Qf fun K hK=>?_|refine Ql ?_|refine Qu ?_))|((with_reducible refine hK _ ?_);clear hK)|(refine Qh rfl ?_;simp only [↓reduceIte]))
  simp -implicitDefEqProofs only [Qc,↓reduceIte,Nat.reduceEqDiff,Qw,Qv,ti46,List.mapM_cons,List.mapM_nil,Option.pure_def,Option.bind_eq_bind,Qw,Qv,QF,Qn,Qr,Qq9]
  exact Qi (htake _ _) (.keep (QhH _ _ _)) ⟨rfl,rfl⟩
 |inl ts =>
  obtain ⟨hD,hW,hN,hl⟩:=QcU hs
  obtain ⟨H,hH⟩:∃ H,H=h++[cS nilV,cG nilV]:=⟨_,rfl⟩
  have hHl:H.length=h.length+2:=by rw [hH];simp
  have hHG:ZP H:=by rw [hH];exact hG.app _
  have hPo:=QoO H ts (.cells 66 4 [.agg [.sl 3 (tks ts) none,.i 0,.v (.slice none 0 0),.v (.map none)]])
  have hout:∀ i,i<h.length→(H++[iC 0,eC 0,.cells 66 4 [.agg [.sl 3 (tks ts) none,.i 0,.v (.slice none 0 0),.v (.map none)]]]++[.dead,.dead])[i]? = h[i]? := fun i hi=>by
   rw [List.append_assoc,List.getElem?_append_left (by omega),hH,List.getElem?_append_left hi]
  have hlen:(H++[iC 0,eC 0,.cells 66 4 [.agg [.sl 3 (tks ts) none,.i 0,.v (.slice none 0 0),.v (.map none)]]]++[AB.dead,.dead]).length=h.length+7:=by simp only [QrQ,Qrc,Qrd,hHl]
  have cf:=Qiz (P:=P0 H ts) (s:=⟨ts,[]⟩) hW hPo hN hD (o:=h.length+1) (o2:=h.length) (by omega) (by simp only [P0];omega) (by simp only [P0];omega) (by simp only [P0];omega) (by omega) (by simp only [P0];omega) (by simp only [P0];omega) (by simp only [P0];omega) (by omega)
   (by rw [List.append_assoc,List.getElem?_append_left (by omega),hH,hget];rfl) (by rw [List.append_assoc,List.getElem?_append_left (by omega),hH,Z4];rfl)
  have hst:∀ (K:AH→Prop) (Y:AH) a b L,H.length+1<Y.length→(∀ i,i<h.length→Y[i]? = h[i]?)→∀ i,i<h.length→((Y.set H.length a).set (H.length+1) b++L)[i]? = h[i]? := fun K Y a b L hl hy i hi=>by
   rw [List.getElem?_append_left (by simp only [List.length_set];omega),List.getElem?_set_ne (by omega),List.getElem?_set_ne (by omega)];exact hy i hi
  have hc0:∀ Y,KpG (H++[iC 0,eC 0,.cells 66 4 [.agg [.sl 3 (tks ts) none,.i 0,.v (.slice none 0 0),.v (.map none)]]]++[AB.dead,.dead]) (P0 H ts) (h.length+1) h.length Y→Y[H.length]? = some (iC 0)∧Y[H.length+1]? = some (eC 0)∧h.length+7≤Y.length∧(∀ i,i<h.length→Y[i]? = h[i]?):=fun Y hY=>by
   refine ⟨?_,?_,by have:=hY.long;omega,fun i hi=>?_⟩
   ·rw [hY.out H.length (by omega) (by omega) (by omega) (by simp only [P0];omega) (by simp only [P0];omega) (by simp only [P0];omega),List.append_assoc,Z4];rfl
   ·rw [hY.out (H.length+1) (by omega) (by omega) (by omega) (by simp only [P0];omega) (by simp only [P0];omega) (by simp only [P0];omega),List.append_assoc,hget];rfl
   ·rw [hY.out i (by omega) (by omega) (by omega) (by simp only [P0];omega) (by simp only [P0];omega) (by simp only [P0];omega)];exact hout i hi
  cases hp:QfC ⟨ts,[]⟩ with
  |err p e =>
   rw [hp] at cf
   have e0:(e != 0)=true:=by simpa using Qiu hW hp
   have cr:=Qji hs (.fn (.func 28) [] [.ptr (h.length+1) 0 0,.ptr h.length 0 0]) H hHG (fun Y=>h.length+2≤Y.length∧(∀ i,i<h.length→Y[i]? = h[i]?)∧Y[h.length]? = some (cS nilV))
    (fun Y a b L hl hy=>⟨by simp only [QrQ,List.length_set];omega,hst (fun _=>True) Y a b L hl hy.2.1,by rw [List.getElem?_append_left (by simp only [List.length_set];omega),List.getElem?_set_ne (by omega),List.getElem?_set_ne (by omega)];exact hy.2.2⟩) (p:=p) (e:=e)
    (FunW.cl (cf.mono fun o h' q=>by
     obtain ⟨q1,⟨Y,hY,hY2⟩,q2⟩:=q
     obtain ⟨y1,y2,y3,y4⟩:=hc0 Y hY
     exact ⟨q1,⟨Y,y1,y2,by omega,y4,by rw [hY2,List.append_assoc,List.getElem?_append_left (by omega),hH,Z4];rfl⟩,q2⟩))
   rw [hH] at cr
   refine Qe Tryd.func13 rfl Tryd.call13 Tryd.ntmps13 (congrArg Array.toList Tryd.results13) (by simp) ?_
   repeat (first|((first|(with_reducible (first|refine Qa fun K E hK hE=>?_|refine FunW.retE (FunW.call cr) fun Y=>?_)));simp -implicitDefEqProofs only [Qc,Qd,OpW,QE,aop,undef,XL,AS.ev,Qq,AV.Qp8,↓reduceIte,QB,Qp,aBin,QY,zi32,ti46,zi46,e0,QrQ,seval])|(with_reducible refine Qf fun K hK=>?_)|((with_reducible refine hK _ ?_);clear hK)|(refine Qh rfl ?_;simp only [↓reduceIte]))
   have hY:=Y.2
   generalize Y.1=Y1 at *
   obtain ⟨y0,y1,y2⟩:=hY
   have u1:∀ y,(Y1.set h.length y)[h.length]? = some y:=fun y=>List.getElem?_set_self (by omega)
   have ht:∀ y,(Y1.set h.length y).take h.length=h:=fun y=>List.ext_getElem? fun i=>by
    by_cases hi:i<h.length
    ·rw [List.getElem?_take_of_lt hi,List.getElem?_set_ne (by omega)];exact y1 i hi
    ·rw [List.getElem?_take_eq_none (by omega),List.getElem?_eq_none (by omega)]
   simp -implicitDefEqProofs only [Qc,↓reduceIte,y2]
   repeat (first|(with_reducible (first|refine Ql ?_|refine Qu ?_))|((with_reducible refine hK _ ?_);clear hK))
   simp -implicitDefEqProofs only [Qc,↓reduceIte,Nat.reduceEqDiff,Qw,Qv,ti46,List.mapM_cons,List.mapM_nil,Option.pure_def,Option.bind_eq_bind,Qw,Qv,u1,QF,Qn,Qr,Qq9]
   refine Qi (ht _) (.keep (QhH _ _ _)) ?_
   rw [hp];exact ⟨rfl,rfl⟩
  |ok pg s2 =>
   rw [hp] at cf
   have e0:((0:Int) != 0)=false:=rfl
   have cr:=Ql4 hs (.fn (.func 28) [] [.ptr (h.length+1) 0 0,.ptr h.length 0 0]) H hHG (fun Y=>h.length+7≤Y.length∧(∀ i,i<h.length→Y[i]? = h[i]?)∧Y[h.length+1]? = some (cG (.sl 3 (lvG gv (h.length+7) pg.1) none))∧At Y (h.length+7) (layG 54 (h.length+7) pg.1)∧Y[h.length]? = some (cS (.sl 1 (strs pg.2) none)))
    (fun Y a b L hl hy=>⟨by simp only [QrQ,List.length_set];omega,hst (fun _=>True) Y a b L hl hy.2.1,by rw [List.getElem?_append_left (by simp only [List.length_set];omega),List.getElem?_set_ne (by omega),List.getElem?_set_ne (by omega)];exact hy.2.2.1,
     (hy.2.2.2.1.keep fun i i1 i2=>by rw [List.getElem?_set_ne (by omega),List.getElem?_set_ne (by omega)]).app L,
     by rw [List.getElem?_append_left (by simp only [List.length_set];omega),List.getElem?_set_ne (by omega),List.getElem?_set_ne (by omega)];exact hy.2.2.2.2⟩)
    (FunW.cl (cf.mono fun o h' q=>by
     obtain ⟨q1,⟨Y,hY,hY1,hY2,hY3⟩,q2⟩:=q
     rw [hlen] at hY1 hY2
     obtain ⟨y1,y2,y3,y4⟩:=hc0 Y hY
     exact ⟨q1,⟨Y,y1,y2,y3,y4,hY1,hY2,hY3⟩,q2⟩))
   rw [hH] at cr
   refine Qe Tryd.func13 rfl Tryd.call13 Tryd.ntmps13 (congrArg Array.toList Tryd.results13) (by simp) ?_
   repeat (first|((first|(with_reducible (first|refine Qa fun K E hK hE=>?_|refine FunW.retE (FunW.call cr) fun Y=>?_))|(refine Xj (id:=5) [(0,0),(1,0),(2,0),(3,2),(4,0),(5,0)] mixed (by kernel_rfl) fun K hK=>?_));simp -implicitDefEqProofs only [Qc,Qd,OpW,QE,aop,undef,AS.ev,Qq,AV.Qp8,↓reduceIte,Qw,Qv,QB,Qp,aBin,QY,ti32,zi32,ti46,zi46,QrQ,seval])|(with_reducible (first|refine Qf fun K hK=>?_|refine Qm ?_|refine Qb ?_))|((with_reducible refine hK _ ?_);clear hK)|(refine Qh rfl ?_;simp only [↓reduceIte,Qq3]))
   have hY:=Y.2
   generalize Y.1=Y1 at *
   obtain ⟨y0,y1,y2,y3,y4⟩:=hY
   have u1:∀ y,(Y1.set h.length y)[h.length]? = some y:=fun y=>List.getElem?_set_self (by omega)
   have u2:∀ y,(Y1.set h.length y)[h.length+1]? = some (cG (.sl 3 (lvG gv (h.length+7) pg.1) none)):=fun y=>by rw [List.getElem?_set_ne (by omega)];exact y2
   simp -implicitDefEqProofs only [Qc,↓reduceIte,y2,y4]
   repeat (first|(with_reducible refine Ql ?_)|((with_reducible refine hK _ ?_);clear hK))
   simp -implicitDefEqProofs only [Qc,↓reduceIte,Nat.reduceEqDiff,Qw,Qv,ti46,List.mapM_cons,List.mapM_nil,Option.pure_def,Option.bind_eq_bind,Qw,Qv,u1,QF,Qn,Qr,Qq9]
   rw [hp]
   refine .inr ⟨h.length+7,by omega,rfl,y3.keep fun i i1 i2=>?_,by rw [List.length_set];omega,?_⟩
   ·rw [List.getElem?_set_ne (by omega)]
   ·exact List.ext_getElem? fun i=>by
     by_cases hi:i<h.length
     ·rw [List.getElem?_take_of_lt hi,List.getElem?_set_ne (by omega)];exact y1 i hi
     ·rw [List.getElem?_take_eq_none (by omega),List.getElem?_eq_none (by omega)]
theorem Qiw:QJ Tryd.prog 13 [.v (.string (mkB l))] h fun o h'=>o = .ret (sqR (Qhp l))∧h'=h:=by
 refine QhY (Ql0 l h hG) fun hbel o h' q=>?_
 cases hq:Qhp l with
 |inr e=>rw [hq] at q;exact .inl q
 |inl g =>
  rw [hq] at q
  obtain ⟨n,hn,rfl,hA,hl,ht⟩:=q
  refine .inr ⟨_,[.sl 3 (vs G.goal g.1) none,.sl 1 (strs g.2) none,.i 0,.i 0],rfl,hl,fun b hb=>?_,rfl,fun j a a' h1 h2=>?_,rfl,ht⟩
  ·rw [ht] at hb
   obtain ⟨k,hk⟩:=List.mem_iff_getElem?.1 hb
   exact hbel k b hk
  ·match j,h1,h2 with
   |0,h1,h2 =>
    cases h1;cases h2
    obtain ⟨e1,e2⟩:=Qge (m:=h.length) (w:=3) (vw:=gv) (vA:=G.goal) (fun _ _=>rfl) (fun _=>rfl) (fun n g hm hA j a a' h1 h3=>by
     match j,h1,h3 with
     |0,h1,h3=>cases h1;cases h3;exact .keep (.v _)
     |1,h1,h3=>cases h1;cases h3;exact .keep (.v _)
     |2,h1,h3=>cases h1;cases h3;exact Qec hm hA
     |j+3,h1,h3=>simp [gv,AV.cells] at h1) n g.1 hn hA
    exact .sl (by rw [Y5,Yn]) (fun y hy=>by obtain ⟨x,_,rfl⟩:=List.mem_map.1 hy;rfl) e1 e2
   |1,h1,h2=>cases h1;cases h2;exact .keep (.sl 1 _ none (Qey _ _) (fun b hb=>by cases hb))
   |2,h1,h2=>cases h1;cases h2;exact .keep (.v _)
   |3,h1,h2=>cases h1;cases h2;exact .keep (.v _)
   |j+4,h1,h2=>simp at h1
end
end Go.Proofs.YticgcpebdldbgaaDoor.Ab
set_option maxRecDepth 4000
namespace Go.Proofs.YticgcpebdldbgaaDoor.Ab
open Go.Proofs
def i64 (n:Int):Prop := -9223372036854775808≤n∧n≤9223372036854775807
mutual
def T.ok:T→Prop
 | .mk k i n l=>i64 k∧i64 i∧n.size≤9223372036854775807∧oks l
def oks:List T→Prop
 |[]=>True
 |t::l=>t.ok∧oks l
end
theorem T.ok_eq (t:T):t.ok↔i64 t.kind∧i64 t.int∧t.name.size≤9223372036854775807∧oks t.args:=by cases t;simp only [T.ok,T.kind,T.int,T.name,T.args]
theorem Qir:∀ {l:List T} {k:Nat} (h:k<l.length),oks l→(l[k]).ok
 |t::l,0,_,h=>h.1
 |t::l,k+1,h,ho=>Qir (l:=l) (by simpa using h) ho.2
def G.ok (g:G):Prop:=i64 g.op∧g.name.size≤9223372036854775807∧oks g.args
mutual
def T.Qqe:T→Bool
 | .mk k i n l =>
  if k=0 then decide (-2147483648≤i∧i≤2147483648)&&Zj n&&l.isEmpty else
  if k=1 then decide (0≤i∧i≤1048576)&&Zj n&&l.isEmpty else
  if k=2 then (if i≠0∨6<l.length then false else if (!ZJ n&&!(opB n&&decide (l.length=2)))=true then false else Yx l) else false
def Yx:List T→Bool
 |[]=>true
 |t::l=>t.Qqe&&Yx l
end
theorem T.Qqg (t:T):t.Qqe=if t.kind=0 then decide (-2147483648≤t.int∧t.int≤2147483648)&&Zj t.name&&t.args.isEmpty else
  if t.kind=1 then decide (0≤t.int∧t.int≤1048576)&&Zj t.name&&t.args.isEmpty else
  if t.kind=2 then (if t.int≠0∨6<t.args.length then false else if (!ZJ t.name&&!(opB t.name&&decide (t.args.length=2)))=true then false else Yx t.args) else false:=by
 cases t;rw [T.Qqe];rfl
theorem Qh5 {l:List T} {k:Nat} (h:k<l.length):Yx (l.drop k)=((l[k]).Qqe&&Yx (l.drop (k+1))):=by
 rw [List.drop_eq_getElem_cons h];simp only [Yx]
theorem QdU {p q:Prop} [Decidable p] [Decidable q]:(decide p&&decide q)=decide (p∧q):=by
 by_cases hp:p <;> by_cases hq:q <;> simp [hp,hq]
mutual
theorem T.Qqm:∀ (t:T) (b d:Int),(t.run b d).1=(t.Qqe&&decide ((t.size:Int)≤b∧(t.dep:Int)≤d))∧((t.run b d).1=true→(t.run b d).2=b - t.size)
 | .mk k i n l,b,d=>by
  have hs:=size_pos (.mk k i n l)
  have hd:1≤(T.mk k i n l).dep:=by rw [T.QqM];omega
  rw [T.run,T.Qqe]
  by_cases h1:b - 1<0∨d<1
  ·rw [if_pos h1,decide_eq_false (show ¬ (((T.mk k i n l).size:Int)≤b∧((T.mk k i n l).dep:Int)≤d) by omega),Bool.and_false]
   exact ⟨rfl,fun h=>by cases h⟩
  rw [if_neg h1]
  have one:k≠2→(T.mk k i n l).size=1∧(T.mk k i n l).dep=1:=fun h=>by simp only [T.size,T.dep,if_neg h];exact ⟨trivial,trivial⟩
  by_cases k0:k=0
  ·obtain ⟨e1,e2⟩:=one (by omega)
   rw [if_pos k0,if_pos k0,e1,e2,decide_eq_true (show ((1:Nat):Int)≤b∧((1:Nat):Int)≤d by omega),Bool.and_true]
   exact ⟨rfl,fun _=>rfl⟩
  rw [if_neg k0,if_neg k0]
  by_cases k1:k=1
  ·obtain ⟨e1,e2⟩:=one (by omega)
   rw [if_pos k1,if_pos k1,e1,e2,decide_eq_true (show ((1:Nat):Int)≤b∧((1:Nat):Int)≤d by omega),Bool.and_true]
   exact ⟨rfl,fun _=>rfl⟩
  rw [if_neg k1,if_neg k1]
  by_cases k2:k=2
  ·rw [if_pos k2,if_pos k2]
   by_cases h2:i≠0∨6<l.length
   ·rw [if_pos h2,if_pos h2];exact ⟨rfl,fun h=>by cases h⟩
   rw [if_neg h2,if_neg h2]
   by_cases h3:(!ZJ n&&!(opB n&&decide (l.length=2)))=true
   ·rw [if_pos h3,if_pos h3];exact ⟨rfl,fun h=>by cases h⟩
   rw [if_neg h3,if_neg h3]
   have e1:(T.mk k i n l).size=1+sizes l:=by simp only [T.size,if_pos k2]
   have e2:(T.mk k i n l).dep=1+deps l:=by simp only [T.dep,if_pos k2]
   obtain ⟨r1,r2⟩:=ZK l (b - 1) (d - 1) (by omega) (by omega)
   rw [e1,e2]
   refine ⟨?_,fun h=>by rw [r2 h];omega⟩
   rw [r1]
   congr 1
   exact decide_eq_decide.2 (by omega)
  ·rw [if_neg k2,if_neg k2];exact ⟨rfl,fun h=>by cases h⟩
theorem ZK:∀ (l:List T) (b d:Int),0≤b→0≤d→(runL l b d).1=(Yx l&&decide ((sizes l:Int)≤b∧(deps l:Int)≤d))∧((runL l b d).1=true→(runL l b d).2=b - sizes l)
 |[],b,d,hb,hd=>by
  rw [runL,Yx,sizes,deps,decide_eq_true (show ((0:Nat):Int)≤b∧((0:Nat):Int)≤d by omega)]
  exact ⟨rfl,fun _=>by omega⟩
 |t::l,b,d,hb,hd=>by
  obtain ⟨r1,r2⟩:=T.Qqm t b d
  rw [runL,Yx,sizes,deps]
  by_cases h:(t.run b d).1=true
  ·rw [if_pos h]
   have e:=r2 h
   rw [r1,Bool.and_eq_true,decide_eq_true_eq] at h
   obtain ⟨hf,h1,h2⟩:=h
   obtain ⟨q1,q2⟩:=ZK l (t.run b d).2 d (by omega) hd
   rw [hf,Bool.true_and]
   refine ⟨?_,fun h=>by rw [q2 h];omega⟩
   rw [q1]
   congr 1
   exact decide_eq_decide.2 (by omega)
  ·rw [if_neg h]
   refine ⟨?_,fun h=>by cases h⟩
   rw [r1] at h
   cases hf:t.Qqe with
   |false=>rfl
   |true =>
    rw [hf,Bool.true_and,decide_eq_true_eq] at h
    rw [decide_eq_false (by omega),Bool.and_false]
end
theorem T.QqE (t:T):(t.run 200 20).1=(t.Qqe&&(decide (t.size≤200)&&decide (t.dep≤20))):=by
 rw [(T.Qqm t 200 20).1,QdU]
 congr 1
 exact decide_eq_decide.2 (by omega)
def rargs:List T→Nat→Bool
 |[],n=>decide (n≤200)
 |t::l,n=>(t.run 200 20).1&&rargs l (n+t.size)
theorem Qjh:∀ (l:List T) (n:Nat),200<n→rargs l n=false
 |[],n,h=>by rw [rargs,decide_eq_false (by omega)]
 |t::l,n,h=>by rw [rargs,Qjh l _ (by omega),Bool.and_false]
theorem Qhr:∀ (l:List T) (n:Nat),n≤200→rargs l n=(runL l (200 - n) 20).1
 |[],n,h=>by rw [rargs,runL,decide_eq_true h]
 |t::l,n,h=>by
  obtain ⟨r1,_⟩:=T.Qqm t 200 20
  obtain ⟨q1,q2⟩:=T.Qqm t (200 - n) 20
  rw [rargs,runL,r1]
  by_cases hq:(t.run (200 - n) 20).1=true
  ·rw [if_pos hq,q2 hq]
   rw [q1,Bool.and_eq_true,decide_eq_true_eq] at hq
   rw [hq.1,decide_eq_true (by omega),Bool.true_and,Bool.true_and,Qhr l (n+t.size) (by omega)]
   congr 2;omega
  ·rw [if_neg hq]
   rw [q1] at hq
   cases hf:t.Qqe with
   |false=>rfl
   |true =>
    rw [hf,Bool.true_and,decide_eq_true_eq] at hq
    by_cases h2:n+t.size≤200
    ·rw [decide_eq_false (by omega)];rfl
    ·rw [Qjh l _ (by omega),Bool.and_false]
theorem Ql1 (l:List T):rargs l 0=(runL l 200 20).1:=by
 have:=Qhr l 0 (by omega)
 simpa using this
mutual
theorem T.Qqr:∀ t:T,t.size≤t.nds
 | .mk k i n l=>by
  simp only [T.size,T.nds]
  have:=Qev l
  split <;> omega
theorem Qev:∀ l:List T,sizes l≤ndsL l
 |[]=>Nat.le_refl _
 |t::l=>by
  simp only [sizes,ndsL]
  have:=T.Qqr t
  have:=Qev l
  omega
end
theorem QmR (t:T) (k0:t.kind=0):Pure Tryd.prog 80 [t.av] (.b t.Qqe):=by
 intro h
 have z0:(t.kind==0)=true:=by simp [k0]
 by_cases c1:t.int ≥ -2147483648
 rotate_left
 ·have e1:¬ -2147483648≤t.int:=by omega
  have R:t.Qqe=false:=by
   rw [T.Qqg,if_pos k0];simp [e1]
  rw [R]
  refine Qe Tryd.func80 rfl Tryd.call80 Tryd.ntmps80 (congrArg Array.toList Tryd.results80) (by simp) ?_
  repeat (first|(((with_reducible refine Qa fun K E hK hE=>?_));simp -implicitDefEqProofs only [Qc,Qd,OpW,aop,undef,AS.ev,Qq,AV.Qp8,↓reduceIte,Qg,Qw,Qv,aBin,ti3,Xy,Xz,z0,c1,seval])|(with_reducible (first|refine Qf fun K hK=>?_|refine Qj ?_|refine Ql ?_|refine Qu ?_|refine Qy ?_))|((with_reducible refine hK _ ?_);clear hK)|(refine Qh rfl ?_;simp only [↓reduceIte]))
  simp only [QF,Qn,Qr,upd,↓reduceIte,Qq5,Qq9];first|refine Qi (htake _ _) (.keep (.v _)) ⟨rfl,rfl⟩|refine Qi List.take_length (.keep (.v _)) ⟨rfl,rfl⟩
 have e1 : -2147483648≤t.int:=by omega
 by_cases c2:t.int≤2147483648
 rotate_left
 ·skip
  have R:t.Qqe=false:=by
   rw [T.Qqg,if_pos k0];simp [e1,c2]
  rw [R]
  refine Qe Tryd.func80 rfl Tryd.call80 Tryd.ntmps80 (congrArg Array.toList Tryd.results80) (by simp) ?_
  repeat (first|(((with_reducible refine Qa fun K E hK hE=>?_));simp -implicitDefEqProofs only [Qc,Qd,OpW,aop,undef,AS.ev,Qq,AV.Qp8,↓reduceIte,Qg,Qw,Qv,aBin,ti3,Xy,Xz,z0,c1,c2,seval])|(with_reducible (first|refine Qf fun K hK=>?_|refine Qj ?_|refine Ql ?_|refine Qu ?_|refine Qy ?_))|((with_reducible refine hK _ ?_);clear hK)|(refine Qh rfl ?_;simp only [↓reduceIte]))
  simp only [QF,Qn,Qr,upd,↓reduceIte,Qq5,Qq9];first|refine Qi (htake _ _) (.keep (.v _)) ⟨rfl,rfl⟩|refine Qi List.take_length (.keep (.v _)) ⟨rfl,rfl⟩
 cases c3:Zj t.name with
 |false =>
  have c3':(t.name.toList==({data:=#[]}:ByteArray).toList)=false:=c3
  have R:t.Qqe=false:=by
   rw [T.Qqg,if_pos k0];simp [e1,c2,c3]
  rw [R]
  refine Qe Tryd.func80 rfl Tryd.call80 Tryd.ntmps80 (congrArg Array.toList Tryd.results80) (by simp) ?_
  repeat (first|(((with_reducible refine Qa fun K E hK hE=>?_));simp -implicitDefEqProofs only [Qc,Qd,OpW,aop,undef,AS.ev,Qq,AV.Qp8,↓reduceIte,Qg,Qw,Qv,aBin,ti3,ti9,Xy,Xz,Yj,z0,c1,c2,c3',seval])|(with_reducible (first|refine Qf fun K hK=>?_|refine Qj ?_|refine Ql ?_|refine Qu ?_|refine Qy ?_))|((with_reducible refine hK _ ?_);clear hK)|(refine Qh rfl ?_;simp only [↓reduceIte]))
  simp only [QF,Qn,Qr,upd,↓reduceIte,Qq5,Qq9];first|refine Qi (htake _ _) (.keep (.v _)) ⟨rfl,rfl⟩|refine Qi List.take_length (.keep (.v _)) ⟨rfl,rfl⟩
 |true =>
  have c3':(t.name.toList==({data:=#[]}:ByteArray).toList)=true:=c3
  cases hl:t.args with
  |nil =>
   have c4:((0:Int)==0)=true:=rfl
   have R:t.Qqe=true:=by
    rw [T.Qqg,if_pos k0];simp [e1,c2,c3,hl]
   rw [R]
   refine Qe Tryd.func80 rfl Tryd.call80 Tryd.ntmps80 (congrArg Array.toList Tryd.results80) (by simp) ?_
   repeat (first|(((with_reducible refine Qa fun K E hK hE=>?_));simp -implicitDefEqProofs only [Qc,Qd,OpW,aop,undef,AS.ev,Qq,AV.Qp8,↓reduceIte,Qg,Qw,Qv,aBin,aLen,goInt,ti3,ti9,ti50,un50,Xy,Xz,Yj,Yk,z0,c1,c2,c3',hl,Qf1,seval])|(with_reducible (first|refine Qf fun K hK=>?_|refine Qj ?_|refine Ql ?_|refine Qu ?_|refine Qy ?_))|((with_reducible refine hK _ ?_);clear hK)|(refine Qh rfl ?_;simp only [↓reduceIte]))
   simp only [QF,Qn,Qr,upd,↓reduceIte,Qq5,Qq9];first|refine Qi (htake _ _) (.keep (.v _)) ⟨rfl,rfl⟩|refine Qi List.take_length (.keep (.v _)) ⟨rfl,rfl⟩
  |cons a l =>
   have c4:(((l.length+1:Nat):Int)==0)=false:=by simp;omega
   have R:t.Qqe=false:=by
    rw [T.Qqg,if_pos k0];simp [e1,c2,c3,hl]
   rw [R]
   refine Qe Tryd.func80 rfl Tryd.call80 Tryd.ntmps80 (congrArg Array.toList Tryd.results80) (by simp) ?_
   repeat (first|(((with_reducible refine Qa fun K E hK hE=>?_));simp -implicitDefEqProofs only [Qc,Qd,OpW,aop,undef,AS.ev,Qq,AV.Qp8,↓reduceIte,Qg,Qw,Qv,aBin,aLen,goInt,ti3,ti9,ti50,un50,Xy,Xz,Yj,Yk,z0,c1,c2,c3',hl,c4,seval])|(with_reducible (first|refine Qf fun K hK=>?_|refine Qj ?_|refine Ql ?_|refine Qu ?_|refine Qy ?_))|((with_reducible refine hK _ ?_);clear hK)|(refine Qh rfl ?_;simp only [↓reduceIte]))
   simp only [QF,Qn,Qr,upd,↓reduceIte,Qq5,Qq9];first|refine Qi (htake _ _) (.keep (.v _)) ⟨rfl,rfl⟩|refine Qi List.take_length (.keep (.v _)) ⟨rfl,rfl⟩
theorem QmS (t:T) (k1:t.kind=1):Pure Tryd.prog 80 [t.av] (.b t.Qqe):=by
 intro h
 have k0:¬ t.kind=0:=by omega
 have z0:(t.kind==0)=false:=by simp [k1]
 have z1:(t.kind==1)=true:=by simp [k1]
 by_cases c1:t.int≥0
 rotate_left
 ·have e1:¬ 0≤t.int:=by omega
  have R:t.Qqe=false:=by
   rw [T.Qqg,if_neg k0,if_pos k1];simp [e1]
  rw [R]
  refine Qe Tryd.func80 rfl Tryd.call80 Tryd.ntmps80 (congrArg Array.toList Tryd.results80) (by simp) ?_
  repeat (first|(((with_reducible refine Qa fun K E hK hE=>?_));simp -implicitDefEqProofs only [Qc,Qd,OpW,aop,undef,AS.ev,Qq,AV.Qp8,↓reduceIte,Qg,Qw,Qv,aBin,ti3,Xy,Xz,z0,z1,c1,seval])|(with_reducible (first|refine Qf fun K hK=>?_|refine Qj ?_|refine Ql ?_|refine Qu ?_|refine Qy ?_))|((with_reducible refine hK _ ?_);clear hK)|(refine Qh rfl ?_;simp only [↓reduceIte,Qq3]))
  simp only [QF,Qn,Qr,upd,↓reduceIte,Qq5,Qq9];first|refine Qi (htake _ _) (.keep (.v _)) ⟨rfl,rfl⟩|refine Qi List.take_length (.keep (.v _)) ⟨rfl,rfl⟩
 have e1:0≤t.int:=by omega
 by_cases c2:t.int≤1048576
 rotate_left
 ·skip
  have R:t.Qqe=false:=by
   rw [T.Qqg,if_neg k0,if_pos k1];simp [e1,c2]
  rw [R]
  refine Qe Tryd.func80 rfl Tryd.call80 Tryd.ntmps80 (congrArg Array.toList Tryd.results80) (by simp) ?_
  repeat (first|(((with_reducible refine Qa fun K E hK hE=>?_));simp -implicitDefEqProofs only [Qc,Qd,OpW,aop,undef,AS.ev,Qq,AV.Qp8,↓reduceIte,Qg,Qw,Qv,aBin,ti3,Xy,Xz,z0,z1,c1,c2,seval])|(with_reducible (first|refine Qf fun K hK=>?_|refine Qj ?_|refine Ql ?_|refine Qu ?_|refine Qy ?_))|((with_reducible refine hK _ ?_);clear hK)|(refine Qh rfl ?_;simp only [↓reduceIte,Qq3]))
  simp only [QF,Qn,Qr,upd,↓reduceIte,Qq5,Qq9];first|refine Qi (htake _ _) (.keep (.v _)) ⟨rfl,rfl⟩|refine Qi List.take_length (.keep (.v _)) ⟨rfl,rfl⟩
 cases c3:Zj t.name with
 |false =>
  have c3':(t.name.toList==({data:=#[]}:ByteArray).toList)=false:=c3
  have R:t.Qqe=false:=by
   rw [T.Qqg,if_neg k0,if_pos k1];simp [e1,c2,c3]
  rw [R]
  refine Qe Tryd.func80 rfl Tryd.call80 Tryd.ntmps80 (congrArg Array.toList Tryd.results80) (by simp) ?_
  repeat (first|(((with_reducible refine Qa fun K E hK hE=>?_));simp -implicitDefEqProofs only [Qc,Qd,OpW,aop,undef,AS.ev,Qq,AV.Qp8,↓reduceIte,Qg,Qw,Qv,aBin,ti3,ti9,Xy,Xz,Yj,z0,z1,c1,c2,c3',seval])|(with_reducible (first|refine Qf fun K hK=>?_|refine Qj ?_|refine Ql ?_|refine Qu ?_|refine Qy ?_))|((with_reducible refine hK _ ?_);clear hK)|(refine Qh rfl ?_;simp only [↓reduceIte,Qq3]))
  simp only [QF,Qn,Qr,upd,↓reduceIte,Qq5,Qq9];first|refine Qi (htake _ _) (.keep (.v _)) ⟨rfl,rfl⟩|refine Qi List.take_length (.keep (.v _)) ⟨rfl,rfl⟩
 |true =>
  have c3':(t.name.toList==({data:=#[]}:ByteArray).toList)=true:=c3
  cases hl:t.args with
  |nil =>
   have c4:((0:Int)==0)=true:=rfl
   have R:t.Qqe=true:=by
    rw [T.Qqg,if_neg k0,if_pos k1];simp [e1,c2,c3,hl]
   rw [R]
   refine Qe Tryd.func80 rfl Tryd.call80 Tryd.ntmps80 (congrArg Array.toList Tryd.results80) (by simp) ?_
   repeat (first|(((with_reducible refine Qa fun K E hK hE=>?_));simp -implicitDefEqProofs only [Qc,Qd,OpW,aop,undef,AS.ev,Qq,AV.Qp8,↓reduceIte,Qg,Qw,Qv,aBin,aLen,goInt,ti3,ti9,ti50,un50,Xy,Xz,Yj,Yk,z0,z1,c1,c2,c3',hl,Qf1,seval])|(with_reducible (first|refine Qf fun K hK=>?_|refine Qj ?_|refine Ql ?_|refine Qu ?_|refine Qy ?_))|((with_reducible refine hK _ ?_);clear hK)|(refine Qh rfl ?_;simp only [↓reduceIte,Qq3]))
   simp only [QF,Qn,Qr,upd,↓reduceIte,Qq5,Qq9];first|refine Qi (htake _ _) (.keep (.v _)) ⟨rfl,rfl⟩|refine Qi List.take_length (.keep (.v _)) ⟨rfl,rfl⟩
  |cons a l =>
   have c4:(((l.length+1:Nat):Int)==0)=false:=by simp;omega
   have R:t.Qqe=false:=by
    rw [T.Qqg,if_neg k0,if_pos k1];simp [e1,c2,c3,hl]
   rw [R]
   refine Qe Tryd.func80 rfl Tryd.call80 Tryd.ntmps80 (congrArg Array.toList Tryd.results80) (by simp) ?_
   repeat (first|(((with_reducible refine Qa fun K E hK hE=>?_));simp -implicitDefEqProofs only [Qc,Qd,OpW,aop,undef,AS.ev,Qq,AV.Qp8,↓reduceIte,Qg,Qw,Qv,aBin,aLen,goInt,ti3,ti9,ti50,un50,Xy,Xz,Yj,Yk,z0,z1,c1,c2,c3',hl,c4,seval])|(with_reducible (first|refine Qf fun K hK=>?_|refine Qj ?_|refine Ql ?_|refine Qu ?_|refine Qy ?_))|((with_reducible refine hK _ ?_);clear hK)|(refine Qh rfl ?_;simp only [↓reduceIte,Qq3]))
   simp only [QF,Qn,Qr,upd,↓reduceIte,Qq5,Qq9];first|refine Qi (htake _ _) (.keep (.v _)) ⟨rfl,rfl⟩|refine Qi List.take_length (.keep (.v _)) ⟨rfl,rfl⟩
theorem QjN (t:T) (k0:¬ t.kind=0) (k1:¬ t.kind=1) (k2:¬ t.kind=2):Pure Tryd.prog 80 [t.av] (.b t.Qqe):=by
 intro h
 have z0:(t.kind==0)=false:=by simp [k0]
 have z1:(t.kind==1)=false:=by simp [k1]
 have z2:(t.kind==2)=false:=by simp [k2]
 have R:t.Qqe=false:=by
  rw [T.Qqg,if_neg k0,if_neg k1,if_neg k2]
 rw [R]
 refine Qe Tryd.func80 rfl Tryd.call80 Tryd.ntmps80 (congrArg Array.toList Tryd.results80) (by simp) ?_
 repeat (first|(((with_reducible refine Qa fun K E hK hE=>?_));simp -implicitDefEqProofs only [Qc,Qd,OpW,aop,undef,AS.ev,Qq,AV.Qp8,↓reduceIte,Qg,Qw,Qv,aBin,ti3,Xy,z0,z1,z2,seval])|(with_reducible (first|refine Qf fun K hK=>?_|refine Qj ?_|refine Ql ?_|refine Qm ?_|refine Qb ?_|refine Qo ?_))|((with_reducible refine hK _ ?_);clear hK)|(refine Qh rfl ?_;simp only [↓reduceIte,Qq3]))
 simp only [QF,Qn,Qr,upd,↓reduceIte,Qq5,Qq9];first|refine Qi (htake _ _) (.keep (.v _)) ⟨rfl,rfl⟩|refine Qi List.take_length (.keep (.v _)) ⟨rfl,rfl⟩
theorem QmQ (n:Nat) (hb:n≤1000000) (ih:∀ t:T,t.nds≤n→t.ok→Pure Tryd.prog 80 [t.av] (.b t.Qqe)) (t:T) (hn:t.nds≤n+1) (ho:t.ok) (k2:t.kind=2) :
  Pure Tryd.prog 80 [t.av] (.b t.Qqe):=by
 intro h
 have k0:¬ t.kind=0:=by omega
 have k1:¬ t.kind=1:=by omega
 have z0:(t.kind==0)=false:=by simp [k2]
 have z1:(t.kind==1)=false:=by simp [k2]
 have z2:(t.kind==2)=true:=by simp [k2]
 obtain ⟨o1,o2,o3,o4⟩:=(T.ok_eq t).1 ho
 have hnd:=T.Qqp t
 have hll:=YT t.args
 have co:=Qdn t.name
 have cr:Pure Tryd.prog 43 [.v (.string t.name)] (.b (ZJ t.name)):=Qco t.name (by simp only [maxLen];omega)
 refine Qe Tryd.func80 rfl Tryd.call80 Tryd.ntmps80 (congrArg Array.toList Tryd.results80) (by simp) ?_
 iterate 15 (try (first|(((with_reducible refine Qa fun K E hK hE=>?_));simp -implicitDefEqProofs only [Qc,Qd,OpW,aop,undef,AS.ev,Qq,AV.Qp8,↓reduceIte,Qg,Qw,Qv,aBin,ti3,Xy,z0,z1,z2,seval])|(with_reducible (first|refine Qf fun K hK=>?_|refine Qj ?_))|((with_reducible refine hK _ ?_);clear hK)|(refine Qh rfl ?_;simp only [↓reduceIte,Qq3])))
 refine QX (fun s=>s.tm 3 = .b (opB t.name&&decide (t.args.length=2))∧s.tm 1 = .ptr h.length 0 0∧s.h=h++[.cells 54 4 [t.av]]) ?_ ?_
 rotate_left
 ·cases ho:opB t.name with
  |false =>
   rw [ho] at co
   repeat (first|((first|(with_reducible (first|refine Qk fun K E hK hE=>?_|refine Qz co ?_)));simp -implicitDefEqProofs only [Qc,Qd,OpW,QE,aop,undef,AS.ev,↓reduceIte,Qg,Qw,Qv,ti9,Yj,seval])|(with_reducible refine Qb ?_)|((with_reducible refine hK _ ?_);clear hK))
   exact ⟨rfl,rfl,rfl⟩
  |true =>
   rw [ho] at co
   by_cases hl2:t.args.length=2
   ·have h2:((t.args.length:Int)==2)=true:=by rw [hl2];rfl
    rw [decide_eq_true hl2]
    repeat (first|((first|(with_reducible (first|refine Qk fun K E hK hE=>?_|refine Qz co ?_)));simp -implicitDefEqProofs only [Qc,Qd,OpW,QE,aop,AS.ev,↓reduceIte,Qg,Qw,Qv,aBin,aLen,goInt,ti9,ti50,un50,Yj,Yk,h2,seval])|(with_reducible refine Qb ?_)|((with_reducible refine hK _ ?_);clear hK))
    exact ⟨rfl,rfl,rfl⟩
   ·have h2:((t.args.length:Int)==2)=false:=by rw [beq_eq_false_iff_ne];omega
    rw [decide_eq_false hl2]
    repeat (first|((first|(with_reducible (first|refine Qk fun K E hK hE=>?_|refine Qz co ?_)));simp -implicitDefEqProofs only [Qc,Qd,OpW,QE,aop,AS.ev,↓reduceIte,Qg,Qw,Qv,aBin,aLen,goInt,ti9,ti50,un50,Yj,Yk,h2,seval])|(with_reducible refine Qb ?_)|((with_reducible refine hK _ ?_);clear hK))
    exact ⟨rfl,rfl,rfl⟩
 rintro ⟨tm,hp⟩ ⟨t3,t1,hh⟩
 dsimp only at t3 t1 hh
 subst hh
 obtain ⟨p,ep⟩:∃ p,p=(opB t.name&&decide (t.args.length=2)):=⟨_,rfl⟩
 rw [← ep] at t3
 have RR:t.Qqe=if t.int≠0∨6<t.args.length then false else if (!ZJ t.name&&!p)=true then false else Yx t.args:=by rw [T.Qqg,if_neg k0,if_neg k1,if_pos k2,← ep]
 refine QX (fun s=>t.Qqe=Yx t.args∧t.args.length≤6∧s.tm 1 = .ptr h.length 0 0∧s.h=h++[.cells 54 4 [t.av]]) ?_ ?_
 rotate_left
 ·by_cases i0:t.int=0
  rotate_left
  ·have y0:(t.int != 0)=true:=by simp [i0]
   have R:t.Qqe=false:=by rw [RR,if_pos (.inl i0)]
   rw [R]
   repeat (first|(((with_reducible refine Qa fun K E hK hE=>?_));simp -implicitDefEqProofs only [Qc,Qd,OpW,aop,undef,AS.ev,↓reduceIte,Qg,Qw,Qv,aBin,ti3,Xz,t1,y0,seval])|(with_reducible (first|refine Ql ?_|refine Qu ?_|refine Qy ?_))|((with_reducible refine hK _ ?_);clear hK)|(refine Qh rfl ?_;simp only [↓reduceIte]))
   simp only [QF,Qn,Qr,upd,↓reduceIte,Qq5,Qq9];first|refine Qi (htake _ _) (.keep (.v _)) ⟨rfl,rfl⟩|refine Qi List.take_length (.keep (.v _)) ⟨rfl,rfl⟩
  have y0:(t.int != 0)=false:=by simp [i0]
  cases p with
  |true =>
   have hl2:t.args.length=2:=by
    have:=ep.symm;rw [Bool.and_eq_true,decide_eq_true_eq] at this;exact this.2
   have R:t.Qqe=Yx t.args:=by rw [RR,if_neg (by omega),if_neg (by simp)]
   repeat (first|(((with_reducible refine Qa fun K E hK hE=>?_));simp -implicitDefEqProofs only [Qc,Qd,OpW,aop,undef,AS.ev,↓reduceIte,Qg,Qw,Qv,aBin,ti3,Xz,t1,t3,y0,seval])|(with_reducible (first|refine Qm ?_|refine Qb ?_))|((with_reducible refine hK _ ?_);clear hK)|(refine Qh rfl ?_;simp only [↓reduceIte,Qq3]))
   exact ⟨R,by omega,t1,rfl⟩
  |false =>
   cases hr:ZJ t.name with
   |false =>
    rw [hr] at cr
    have R:t.Qqe=false:=by rw [RR];split;rfl;rw [if_pos (by rw [hr];rfl)]
    rw [R]
    repeat (first|((first|(with_reducible (first|refine Qa fun K E hK hE=>?_|refine Qz cr ?_)));simp -implicitDefEqProofs only [Qc,Qd,OpW,QE,aop,undef,AS.ev,↓reduceIte,Qg,Qw,Qv,aBin,ti3,ti9,Xz,Yj,t1,t3,y0,seval])|(with_reducible (first|refine Ql ?_|refine Qu ?_|refine Qy ?_))|((with_reducible refine hK _ ?_);clear hK)|(refine Qh rfl ?_;simp only [↓reduceIte]))
    simp only [QF,Qn,Qr,upd,↓reduceIte,Qq5,Qq9];first|refine Qi (htake _ _) (.keep (.v _)) ⟨rfl,rfl⟩|refine Qi List.take_length (.keep (.v _)) ⟨rfl,rfl⟩
   |true =>
    rw [hr] at cr
    by_cases a6:t.args.length>6
    ·have y6:(t.args.length:Int)>6:=by omega
     have R:t.Qqe=false:=by rw [RR,if_pos (.inr a6)]
     rw [R]
     repeat (first|((first|(with_reducible (first|refine Qa fun K E hK hE=>?_|refine Qz cr ?_)));simp -implicitDefEqProofs only [Qc,Qd,OpW,QE,aop,AS.ev,↓reduceIte,Qg,Qw,Qv,aBin,aLen,goInt,ti3,ti9,ti50,un50,Xz,Yj,Yk,t1,t3,y0,y6,seval])|(with_reducible (first|refine Ql ?_|refine Qu ?_|refine Qy ?_))|((with_reducible refine hK _ ?_);clear hK)|(refine Qh rfl ?_;simp only [↓reduceIte]))
     simp only [QF,Qn,Qr,upd,↓reduceIte,Qq5,Qq9];first|refine Qi (htake _ _) (.keep (.v _)) ⟨rfl,rfl⟩|refine Qi List.take_length (.keep (.v _)) ⟨rfl,rfl⟩
    ·have y6:¬ (t.args.length:Int)>6:=by omega
     have R:t.Qqe=Yx t.args:=by rw [RR,if_neg (by omega),if_neg (by rw [hr];simp)]
     repeat (first|((first|(with_reducible (first|refine Qa fun K E hK hE=>?_|refine Qz cr ?_)));simp -implicitDefEqProofs only [Qc,Qd,OpW,QE,aop,AS.ev,↓reduceIte,Qg,Qw,Qv,aBin,aLen,goInt,ti3,ti9,ti50,un50,Xz,Yj,Yk,t1,t3,y0,y6,seval])|(with_reducible (first|refine Qm ?_|refine Qb ?_))|((with_reducible refine hK _ ?_);clear hK)|(refine Qh rfl ?_;simp only [↓reduceIte,Qq3]))
     exact ⟨R,by omega,t1,rfl⟩
 rintro ⟨tm,hp⟩ ⟨R,hl6,t1,hh⟩
 dsimp only at t1 hh
 subst hh
 rw [R]
 repeat (first|(((with_reducible refine Qa fun K E hK hE=>?_));simp -implicitDefEqProofs only [Xb,Xh,Qd,OpW,aop,AS.ev,Q8,QbN,Nat.reduceLT])|(with_reducible (first|refine Qf fun K hK=>?_|refine Qj ?_))|((with_reducible refine hK _ ?_);clear hK))
 obtain ⟨I,hI⟩:∃ I:Nat→AS→Prop,I=fun m' s=>∃ (k:Nat),m'=t.args.length - k∧k≤t.args.length∧Yx t.args=Yx (t.args.drop k)∧s.tm 1 = .ptr h.length 0 0∧s.tm 4 = .i k∧s.h=h++[AB.cells 54 4 [t.av]]:=⟨_,rfl⟩;refine QO I ?_ (m:=t.args.length) ?_
 ·intro m' s hs;rw [hI] at hs;obtain ⟨tm,hp⟩:=s;dsimp only at hs;obtain ⟨k,rfl,hk,he,t1,t4,rfl⟩:=hs
  by_cases hlt:k<t.args.length
  ·have hg:=Qay hlt
   have z9:(k:Int)<t.args.length:=by omega
   have c:=ih t.args[k] (by have:=Z7 hlt;omega) (Qir hlt o4)
   rw [Qh5 hlt] at he
   cases hr:(t.args[k]).Qqe with
   |true =>
    rw [hr] at c he
    repeat (first|((first|(with_reducible (first|refine Qa fun K E hK hE=>?_|refine Qk fun K E hK hE=>?_|refine Qz c ?_)));simp -implicitDefEqProofs only [Qc,Qd,OpW,QE,aop,AS.ev,↓reduceIte,Qg,Qw,Qv,QK,aBin,aLen,goInt,ti50,ei50,un50,ti54,Yk,t1,t4,z9,hg,seval])|(with_reducible (first|refine Qf fun K hK=>?_|refine Qj ?_|refine Qm ?_|refine Qb ?_|refine Qo ?_))|((with_reducible refine hK _ ?_);clear hK)|(refine Qh rfl ?_;simp only [↓reduceIte,Qq3]))
    refine Xi.mk (m':=t.args.length - (k+1)) (by omega) ?_
    rw [hI]
    refine ⟨k+1,rfl,hlt,by rw [he];rfl,t1,?_,rfl⟩
    simp only [upd,↓reduceIte]
    rw [Xk (by omega)]
   |false =>
    rw [hr] at c he
    repeat (first|((first|(with_reducible (first|refine Qa fun K E hK hE=>?_|refine Qz c ?_)));simp -implicitDefEqProofs only [Qc,Qd,OpW,QE,aop,AS.ev,↓reduceIte,Qg,Qw,Qv,QK,aBin,aLen,goInt,ti50,ei50,un50,ti54,Yk,t1,t4,z9,hg,seval])|(with_reducible (first|refine Qf fun K hK=>?_|refine Qj ?_|refine Ql ?_|refine Qm ?_|refine Qb ?_|refine Qu ?_|refine Qy ?_))|((with_reducible refine hK _ ?_);clear hK)|(refine Qh rfl ?_;simp only [↓reduceIte]))
    simp only [QF,Qn,Qr,upd,↓reduceIte,Qq5,Qq9];first|refine Qi (htake _ _) (.keep (.v _)) ⟨by rw [he];rfl,rfl⟩|refine Qi List.take_length (.keep (.v _)) ⟨by rw [he];rfl,rfl⟩
  ·have z9:¬ (k:Int)<t.args.length:=by omega
   have hkl:k=t.args.length:=by omega
   rw [hkl,List.drop_length] at he
   repeat (first|(((with_reducible refine Qa fun K E hK hE=>?_));simp -implicitDefEqProofs only [Qc,Qd,OpW,aop,AS.ev,↓reduceIte,Qg,Qw,Qv,aBin,aLen,goInt,ti50,un50,Yk,t1,t4,z9,seval])|(with_reducible (first|refine Qf fun K hK=>?_|refine Ql ?_|refine QG ?_|refine Qb ?_|refine Qu ?_|refine QD ?_|refine Qy ?_|refine QC ?_))|((with_reducible refine hK _ ?_);clear hK)|(clear hK;(with_reducible refine hK _ ?_);clear hK)|(refine Qh rfl ?_;simp only [↓reduceIte,Qq3]))
   simp only [QF,Qn,Qr,upd,↓reduceIte,Qq5,Qq9];first|refine Qi (htake _ _) (.keep (.v _)) ⟨by rw [he];rfl,rfl⟩|refine Qi List.take_length (.keep (.v _)) ⟨by rw [he];rfl,rfl⟩
 ·rw [hI]
  exact ⟨0,by omega,Nat.zero_le _,by rw [List.drop_zero],t1,rfl,rfl⟩
theorem Qht (n:Nat):n≤1000000→∀ t:T,t.nds≤n→t.ok→Pure Tryd.prog 80 [t.av] (.b t.Qqe):=by
 induction n with
 |zero=>intro _ t hn _;have:=T.Qqp t;omega
 |succ n ih =>
  intro hb t hn ho
  by_cases k0:t.kind=0
  ·exact QmR t k0
  by_cases k1:t.kind=1
  ·exact QmS t k1
  by_cases k2:t.kind=2
  ·exact QmQ n (by omega) (ih (by omega)) t hn ho k2
  ·exact QjN t k0 k1 k2
theorem QeR (t:T) (hn:t.nds≤1000000) (ho:t.ok):Pure Tryd.prog 66 [t.av] (.b (t.run 200 20).1):=by
 intro h
 have hs:=T.Qqr t
 have c1:=Qht 1000000 (Nat.le_refl _) t hn ho
 have c2:=Qdb 1000000 t (by omega) (Nat.le_refl _)
 have c3:=Qgt 1000000 t (by omega) (Nat.le_refl _)
 rw [T.QqE]
 cases hf:t.Qqe with
 |false =>
  rw [hf] at c1
  refine Qe Tryd.func66 rfl Tryd.call66 Tryd.ntmps66 (congrArg Array.toList Tryd.results66) (by simp) ?_
  repeat (first|((first|(with_reducible (first|refine Qa fun K E hK hE=>?_|refine Qz c1 ?_)));simp -implicitDefEqProofs only [Qc,Qd,OpW,QE,aop,undef,AS.ev,Qq,AV.Qp8,↓reduceIte,Qw,Qv,ti54,seval])|(with_reducible refine Ql ?_)|((with_reducible refine hK _ ?_);clear hK))
  simp only [QF,Qn,Qr,upd,↓reduceIte,Qq5,Qq9];first|refine Qi (htake _ _) (.keep (.v _)) ⟨rfl,rfl⟩|refine Qi List.take_length (.keep (.v _)) ⟨rfl,rfl⟩
 |true =>
  rw [hf] at c1
  by_cases q1:t.size≤200
  ·have z1:(t.size:Int)≤200:=by omega
   by_cases q2:t.dep≤20
   ·have z2:(t.dep:Int)≤20:=by omega
    rw [decide_eq_true q1,decide_eq_true q2]
    refine Qe Tryd.func66 rfl Tryd.call66 Tryd.ntmps66 (congrArg Array.toList Tryd.results66) (by simp) ?_
    repeat (first|((first|(with_reducible (first|refine Qa fun K E hK hE=>?_|refine Qz c1 ?_|refine Qz c2 ?_|refine Qz c3 ?_)));simp -implicitDefEqProofs only [Qc,Qd,OpW,QE,aop,undef,AS.ev,Qq,AV.Qp8,↓reduceIte,Qw,Qv,aBin,ti54,z1,z2,seval])|(with_reducible refine Ql ?_)|((with_reducible refine hK _ ?_);clear hK))
    simp only [QF,Qn,Qr,upd,↓reduceIte,Qq5,Qq9];first|refine Qi (htake _ _) (.keep (.v _)) ⟨rfl,rfl⟩|refine Qi List.take_length (.keep (.v _)) ⟨rfl,rfl⟩
   ·have z2:¬ (t.dep:Int)≤20:=by omega
    rw [decide_eq_true q1,decide_eq_false q2]
    refine Qe Tryd.func66 rfl Tryd.call66 Tryd.ntmps66 (congrArg Array.toList Tryd.results66) (by simp) ?_
    repeat (first|((first|(with_reducible (first|refine Qa fun K E hK hE=>?_|refine Qz c1 ?_|refine Qz c2 ?_|refine Qz c3 ?_)));simp -implicitDefEqProofs only [Qc,Qd,OpW,QE,aop,undef,AS.ev,Qq,AV.Qp8,↓reduceIte,Qw,Qv,aBin,ti54,z1,z2,seval])|(with_reducible refine Ql ?_)|((with_reducible refine hK _ ?_);clear hK))
    simp only [QF,Qn,Qr,upd,↓reduceIte,Qq5,Qq9];first|refine Qi (htake _ _) (.keep (.v _)) ⟨rfl,rfl⟩|refine Qi List.take_length (.keep (.v _)) ⟨rfl,rfl⟩
  ·have z1:¬ (t.size:Int)≤200:=by omega
   rw [decide_eq_false q1]
   refine Qe Tryd.func66 rfl Tryd.call66 Tryd.ntmps66 (congrArg Array.toList Tryd.results66) (by simp) ?_
   repeat (first|((first|(with_reducible (first|refine Qa fun K E hK hE=>?_|refine Qz c1 ?_|refine Qz c2 ?_)));simp -implicitDefEqProofs only [Qc,Qd,OpW,QE,aop,undef,AS.ev,Qq,AV.Qp8,↓reduceIte,Qw,Qv,aBin,ti54,z1,seval])|(with_reducible refine Ql ?_)|((with_reducible refine hK _ ?_);clear hK))
   simp only [QF,Qn,Qr,upd,↓reduceIte,Qq5,Qq9];first|refine Qi (htake _ _) (.keep (.v _)) ⟨rfl,rfl⟩|refine Qi List.take_length (.keep (.v _)) ⟨rfl,rfl⟩
theorem Qaq (l:List T) (hn:ndsL l≤1000000) (ho:oks l):Pure Tryd.prog 44 [.sl 4 (avs l) none] (.b (runL l 200 20).1):=by
 intro h
 have hll:=YT l
 rw [← Ql1]
 refine Qe Tryd.func44 rfl Tryd.call44 Tryd.ntmps44 (congrArg Array.toList Tryd.results44) (by simp) ?_
 repeat (first|(((with_reducible refine Qa fun K E hK hE=>?_));simp -implicitDefEqProofs only [Qc,Qd,OpW,aop,AS.ev,Nat.reduceLT])|(with_reducible (first|refine Qf fun K hK=>?_|refine Qj ?_))|((with_reducible refine hK _ ?_);clear hK))
 obtain ⟨I,hI⟩:∃ I:Nat→AS→Prop,I=fun m' s=>∃ (k n:Nat),m'=l.length - k∧k≤l.length∧n+sizes (l.drop k)≤1000000∧rargs l 0=rargs (l.drop k) n∧s.tm 0 = .sl 4 (avs l) none∧s.tm 3 = .i n∧s.tm 4 = .i k∧s.h=h:=⟨_,rfl⟩;refine QO I ?_ (m:=l.length) ?_
 ·intro m' s hs;rw [hI] at hs;obtain ⟨tm,hp⟩:=s;dsimp only at hs;obtain ⟨k,n,rfl,hk,hs,he,t0,t3,t4,rfl⟩:=hs
  by_cases hlt:k<l.length
  ·have hg:=Qay hlt
   have z9:(k:Int)<l.length:=by omega
   have hnk:(l[k]).nds≤1000000:=by have:=Z7 hlt;omega
   have c:=QeR l[k] hnk (Qir hlt ho)
   have c2:=Qdb 1000000 l[k] (by have:=T.Qqr l[k];omega) (Nat.le_refl _)
   rw [List.drop_eq_getElem_cons hlt,rargs] at he
   rw [List.drop_eq_getElem_cons hlt,sizes] at hs
   have hw:IntKind.i64.wrap ((n:Int)+((l[k]).size:Nat))=((n+(l[k]).size:Nat):Int):=by rw [XR (by omega)];omega
   cases hr:((l[k]).run 200 20).1 with
   |true =>
    rw [hr] at c he
    repeat (first|((first|(with_reducible (first|refine Qa fun K E hK hE=>?_|refine Qk fun K E hK hE=>?_|refine Qz c ?_|refine Qz c2 ?_)));simp -implicitDefEqProofs only [Qc,Qd,OpW,QE,aop,AS.ev,↓reduceIte,Qw,Qv,QK,aBin,aLen,goInt,ei50,un50,ti54,t0,t3,t4,z9,hg,hw,seval])|(with_reducible (first|refine Qf fun K hK=>?_|refine Qj ?_|refine Qm ?_|refine Qb ?_|refine Qo ?_))|((with_reducible refine hK _ ?_);clear hK)|(refine Qh rfl ?_;simp only [↓reduceIte,Qq3]))
    refine Xi.mk (m':=l.length - (k+1)) (by omega) ?_
    rw [hI]
    refine ⟨k+1,n+(l[k]).size,rfl,hlt,by omega,by rw [he];rfl,t0,rfl,?_,rfl⟩
    simp only [upd,↓reduceIte]
    rw [Xk (by omega)]
   |false =>
    rw [hr] at c he
    repeat (first|((first|(with_reducible (first|refine Qa fun K E hK hE=>?_|refine Qz c ?_)));simp -implicitDefEqProofs only [Qc,Qd,OpW,QE,aop,AS.ev,↓reduceIte,Qw,Qv,QK,aBin,aLen,goInt,ei50,un50,ti54,t0,t4,z9,hg,seval])|(with_reducible (first|refine Qf fun K hK=>?_|refine Qj ?_|refine Ql ?_|refine Qm ?_|refine Qb ?_|refine Qu ?_|refine Qy ?_))|((with_reducible refine hK _ ?_);clear hK)|(refine Qh rfl ?_;simp only [↓reduceIte]))
    simp only [QF,Qn,Qr,upd,↓reduceIte,Qq5,Qq9]
    exact Qi (Qlh _) (.keep (.v _)) ⟨by rw [he];rfl,rfl⟩
  ·have z9:¬ (k:Int)<l.length:=by omega
   have hkl:k=l.length:=by omega
   rw [hkl,List.drop_length,rargs] at he
   by_cases q:n≤200
   ·have z1:(n:Int)≤200:=by omega
    repeat (first|(((with_reducible refine Qa fun K E hK hE=>?_));simp -implicitDefEqProofs only [Qc,Qd,OpW,aop,AS.ev,↓reduceIte,aBin,aLen,goInt,un50,t0,t3,t4,z9,z1,seval])|(with_reducible (first|refine Qf fun K hK=>?_|refine Ql ?_|refine QG ?_|refine Qb ?_|refine QD ?_|refine QC ?_))|((with_reducible refine hK _ ?_);clear hK)|(clear hK;(with_reducible refine hK _ ?_);clear hK)|(refine Qh rfl ?_;simp only [↓reduceIte,Qq3]))
    simp only [QF,Qn,Qr,upd,↓reduceIte,Qq5,Qq9]
    exact Qi (Qlh _) (.keep (.v _)) ⟨by rw [he,decide_eq_true q],rfl⟩
   ·have z1:¬ (n:Int)≤200:=by omega
    repeat (first|(((with_reducible refine Qa fun K E hK hE=>?_));simp -implicitDefEqProofs only [Qc,Qd,OpW,aop,AS.ev,↓reduceIte,aBin,aLen,goInt,un50,t0,t3,t4,z9,z1,seval])|(with_reducible (first|refine Qf fun K hK=>?_|refine Ql ?_|refine QG ?_|refine Qb ?_|refine QD ?_|refine QC ?_))|((with_reducible refine hK _ ?_);clear hK)|(clear hK;(with_reducible refine hK _ ?_);clear hK)|(refine Qh rfl ?_;simp only [↓reduceIte,Qq3]))
    simp only [QF,Qn,Qr,upd,↓reduceIte,Qq5,Qq9]
    exact Qi (Qlh _) (.keep (.v _)) ⟨by rw [he,decide_eq_false q],rfl⟩
 ·rw [hI]
  exact ⟨0,0,by omega,Nat.zero_le _,by have:=Qev l;simp only [Qrg];omega,by rw [List.drop_zero],rfl,rfl,rfl,rfl⟩
theorem Qar (g:G) (hn:ndsL g.args≤1000000) (ho:g.ok):Pure Tryd.prog 21 [g.atom] (.b (QP g)):=by
 intro h
 obtain ⟨o1,o2,o3⟩:=ho
 have cr:Pure Tryd.prog 43 [.v (.string g.name)] (.b (ZJ g.name)):=Qco g.name (by simp only [maxLen];omega)
 have ca:=Qaq g.args hn o3
 cases hr:ZJ g.name with
 |false =>
  rw [hr] at cr
  refine Qe Tryd.func21 rfl Tryd.call21 Tryd.ntmps21 (congrArg Array.toList Tryd.results21) (by simp) ?_
  repeat (first|((first|(with_reducible (first|refine Qa fun K E hK hE=>?_|refine Qz cr ?_)));simp -implicitDefEqProofs only [Qc,Qd,OpW,QE,aop,undef,AS.ev,Qq,AV.Qp8,↓reduceIte,Qg,Qw,Qv,ti9,Qc2,YO,seval])|(with_reducible refine Ql ?_)|((with_reducible refine hK _ ?_);clear hK))
  simp only [QF,Qn,Qr,upd,↓reduceIte,Qq5,Qq9];first|refine Qi (htake _ _) (.keep (.v _)) ⟨by rw [QP,hr];rfl,rfl⟩|refine Qi List.take_length (.keep (.v _)) ⟨by rw [QP,hr];rfl,rfl⟩
 |true =>
  rw [hr] at cr
  by_cases q:g.args.length≤6
  ·have z:(g.args.length:Int)≤6:=by omega
   refine Qe Tryd.func21 rfl Tryd.call21 Tryd.ntmps21 (congrArg Array.toList Tryd.results21) (by simp) ?_
   repeat (first|((first|(with_reducible (first|refine Qa fun K E hK hE=>?_|refine Qz cr ?_|refine Qz ca ?_)));simp -implicitDefEqProofs only [Qc,Qd,OpW,QE,aop,undef,AS.ev,Qq,AV.Qp8,↓reduceIte,Qg,Qw,Qv,aBin,aLen,goInt,ti9,ti50,un50,Qc2,Zs,YO,z,seval])|(with_reducible refine Ql ?_)|((with_reducible refine hK _ ?_);clear hK))
   simp only [QF,Qn,Qr,upd,↓reduceIte,Qq5,Qq9];first|refine Qi (htake _ _) (.keep (.v _)) ⟨by rw [QP,hr,decide_eq_true q];rfl,rfl⟩|refine Qi List.take_length (.keep (.v _)) ⟨by rw [QP,hr,decide_eq_true q];rfl,rfl⟩
  ·have z:¬ (g.args.length:Int)≤6:=by omega
   refine Qe Tryd.func21 rfl Tryd.call21 Tryd.ntmps21 (congrArg Array.toList Tryd.results21) (by simp) ?_
   repeat (first|((first|(with_reducible (first|refine Qa fun K E hK hE=>?_|refine Qz cr ?_)));simp -implicitDefEqProofs only [Qc,Qd,OpW,QE,aop,undef,AS.ev,Qq,AV.Qp8,↓reduceIte,Qg,Qw,Qv,aBin,aLen,goInt,ti9,ti50,un50,Qc2,Zs,YO,z,seval])|(with_reducible refine Ql ?_)|((with_reducible refine hK _ ?_);clear hK))
   simp only [QF,Qn,Qr,upd,↓reduceIte,Qq5,Qq9];first|refine Qi (htake _ _) (.keep (.v _)) ⟨by rw [QP,hr,decide_eq_false q];rfl,rfl⟩|refine Qi List.take_length (.keep (.v _)) ⟨by rw [QP,hr,decide_eq_false q];rfl,rfl⟩
def YY (op:Int):Int:=if op=1∨op=2 then 0 else if op=11∨op=12 then 1 else if 2<op∧op<11 then 2 else -1
theorem Qjz (op:Int):Pure Tryd.prog 46 [.i op] (.i (YY op)):=by
 intro h
 by_cases k1:op=1
 ·have z1:(op==1)=true:=by simp [k1]
  have R:YY op=0:=by simp [YY,k1]
  rw [R]
  refine Qe Tryd.func46 rfl Tryd.call46 Tryd.ntmps46 (congrArg Array.toList Tryd.results46) (by simp) ?_
  repeat (first|(((with_reducible refine Qa fun K E hK hE=>?_));simp -implicitDefEqProofs only [Qc,Qd,OpW,aop,undef,AS.ev,Qq,↓reduceIte,aBin,z1,seval])|(with_reducible (first|refine Qf fun K hK=>?_|refine Qj ?_|refine Ql ?_|refine Qu ?_|refine Qy ?_))|((with_reducible refine hK _ ?_);clear hK)|(refine Qh rfl ?_;simp only [↓reduceIte]))
  simp only [QF,Qn,Qr,upd,↓reduceIte,Qq5,Qq9];first|refine Qi (htake _ _) (.keep (.v _)) ⟨rfl,rfl⟩|refine Qi List.take_length (.keep (.v _)) ⟨rfl,rfl⟩
 have z1:(op==1)=false:=by simp [k1]
 by_cases k2:op=2
 ·have z2:(op==2)=true:=by simp [k2]
  have R:YY op=0:=by simp [YY,k2]
  rw [R]
  refine Qe Tryd.func46 rfl Tryd.call46 Tryd.ntmps46 (congrArg Array.toList Tryd.results46) (by simp) ?_
  repeat (first|(((with_reducible refine Qa fun K E hK hE=>?_));simp -implicitDefEqProofs only [Qc,Qd,OpW,aop,undef,AS.ev,Qq,↓reduceIte,aBin,z1,z2,seval])|(with_reducible (first|refine Qf fun K hK=>?_|refine Qj ?_|refine Ql ?_|refine Qu ?_|refine Qy ?_))|((with_reducible refine hK _ ?_);clear hK)|(refine Qh rfl ?_;simp only [↓reduceIte]))
  simp only [QF,Qn,Qr,upd,↓reduceIte,Qq5,Qq9];first|refine Qi (htake _ _) (.keep (.v _)) ⟨rfl,rfl⟩|refine Qi List.take_length (.keep (.v _)) ⟨rfl,rfl⟩
 have z2:(op==2)=false:=by simp [k2]
 by_cases k11:op=11
 ·have z11:(op==11)=true:=by simp [k11]
  have R:YY op=1:=by simp [YY,k11]
  rw [R]
  refine Qe Tryd.func46 rfl Tryd.call46 Tryd.ntmps46 (congrArg Array.toList Tryd.results46) (by simp) ?_
  repeat (first|(((with_reducible refine Qa fun K E hK hE=>?_));simp -implicitDefEqProofs only [Qc,Qd,OpW,aop,undef,AS.ev,Qq,↓reduceIte,aBin,z1,z2,z11,seval])|(with_reducible (first|refine Qf fun K hK=>?_|refine Qj ?_|refine Ql ?_|refine Qu ?_|refine Qy ?_))|((with_reducible refine hK _ ?_);clear hK)|(refine Qh rfl ?_;simp only [↓reduceIte,Qq3]))
  simp only [QF,Qn,Qr,upd,↓reduceIte,Qq5,Qq9];first|refine Qi (htake _ _) (.keep (.v _)) ⟨rfl,rfl⟩|refine Qi List.take_length (.keep (.v _)) ⟨rfl,rfl⟩
 have z11:(op==11)=false:=by simp [k11]
 by_cases k12:op=12
 ·have z12:(op==12)=true:=by simp [k12]
  have R:YY op=1:=by simp [YY,k12]
  rw [R]
  refine Qe Tryd.func46 rfl Tryd.call46 Tryd.ntmps46 (congrArg Array.toList Tryd.results46) (by simp) ?_
  repeat (first|(((with_reducible refine Qa fun K E hK hE=>?_));simp -implicitDefEqProofs only [Qc,Qd,OpW,aop,undef,AS.ev,Qq,↓reduceIte,aBin,z1,z2,z11,z12,seval])|(with_reducible (first|refine Qf fun K hK=>?_|refine Qj ?_|refine Ql ?_|refine Qu ?_|refine Qy ?_))|((with_reducible refine hK _ ?_);clear hK)|(refine Qh rfl ?_;simp only [↓reduceIte,Qq3]))
  simp only [QF,Qn,Qr,upd,↓reduceIte,Qq5,Qq9];first|refine Qi (htake _ _) (.keep (.v _)) ⟨rfl,rfl⟩|refine Qi List.take_length (.keep (.v _)) ⟨rfl,rfl⟩
 have z12:(op==12)=false:=by simp [k12]
 by_cases g1:op>2
 ·by_cases g2:op<11
  ·have R:YY op=2:=by rw [YY,if_neg (by omega),if_neg (by omega),if_pos (by omega)]
   rw [R]
   refine Qe Tryd.func46 rfl Tryd.call46 Tryd.ntmps46 (congrArg Array.toList Tryd.results46) (by simp) ?_
   repeat (first|(((with_reducible refine Qa fun K E hK hE=>?_));simp -implicitDefEqProofs only [Qc,Qd,OpW,aop,undef,AS.ev,Qq,↓reduceIte,aBin,z1,z2,z11,z12,g1,g2,seval])|(with_reducible (first|refine Qf fun K hK=>?_|refine Qj ?_|refine Ql ?_|refine Qu ?_|refine Qy ?_))|((with_reducible refine hK _ ?_);clear hK)|(refine Qh rfl ?_;simp only [↓reduceIte,Qq3]))
   simp only [QF,Qn,Qr,upd,↓reduceIte,Qq5,Qq9];first|refine Qi (htake _ _) (.keep (.v _)) ⟨rfl,rfl⟩|refine Qi List.take_length (.keep (.v _)) ⟨rfl,rfl⟩
  ·have R:YY op = -1:=by rw [YY,if_neg (by omega),if_neg (by omega),if_neg (by omega)]
   rw [R]
   refine Qe Tryd.func46 rfl Tryd.call46 Tryd.ntmps46 (congrArg Array.toList Tryd.results46) (by simp) ?_
   repeat (first|(((with_reducible refine Qa fun K E hK hE=>?_));simp -implicitDefEqProofs only [Qc,Qd,OpW,aop,undef,AS.ev,Qq,↓reduceIte,aBin,z1,z2,z11,z12,g1,g2,seval])|(with_reducible (first|refine Qf fun K hK=>?_|refine Qj ?_|refine Ql ?_|refine Qm ?_|refine Qb ?_|refine Qo ?_))|((with_reducible refine hK _ ?_);clear hK)|(refine Qh rfl ?_;simp only [↓reduceIte,Qq3]))
   simp only [QF,Qn,Qr,upd,↓reduceIte,Qq5,Qq9];first|refine Qi (htake _ _) (.keep (.v _)) ⟨rfl,rfl⟩|refine Qi List.take_length (.keep (.v _)) ⟨rfl,rfl⟩
 ·have R:YY op = -1:=by rw [YY,if_neg (by omega),if_neg (by omega),if_neg (by omega)]
  rw [R]
  refine Qe Tryd.func46 rfl Tryd.call46 Tryd.ntmps46 (congrArg Array.toList Tryd.results46) (by simp) ?_
  repeat (first|(((with_reducible refine Qa fun K E hK hE=>?_));simp -implicitDefEqProofs only [Qc,Qd,OpW,aop,undef,AS.ev,Qq,↓reduceIte,aBin,z1,z2,z11,z12,g1,seval])|(with_reducible (first|refine Qf fun K hK=>?_|refine Qj ?_|refine Ql ?_|refine Qm ?_|refine Qb ?_|refine Qo ?_))|((with_reducible refine hK _ ?_);clear hK)|(refine Qh rfl ?_;simp only [↓reduceIte,Qq3]))
  simp only [QF,Qn,Qr,upd,↓reduceIte,Qq5,Qq9];first|refine Qi (htake _ _) (.keep (.v _)) ⟨rfl,rfl⟩|refine Qi List.take_length (.keep (.v _)) ⟨rfl,rfl⟩
theorem Qjy (op:Int) (n:Nat):decide (YY op=(n:Int))=(decide (0<op∧op≤12)&&decide ((n:Int)=QaD op)):=by
  rw [QdU]
  apply decide_eq_decide.2
  rw [YY,QaD]
  by_cases h1:op=1∨op=2
  ·rw [if_pos h1,if_pos h1];omega
  rw [if_neg h1,if_neg h1]
  by_cases h2:op=11∨op=12
  ·rw [if_pos h2,if_pos h2];omega
  rw [if_neg h2,if_neg h2]
  split <;> omega
theorem Qas (g:G) (hn:ndsL g.args≤1000000) (ho:g.ok):Pure Tryd.prog 23 [g.goal] (.b (QU g)):=by
  intro h
  by_cases k0:g.op=0
  ·have z0:(g.op==0)=true:=by simp [k0]
   have c:=Qar ⟨0,g.name,g.args⟩ hn ⟨by show i64 0;unfold i64;omega,ho.2.1,ho.2.2⟩
   rw [show G.atom ⟨0,g.name,g.args⟩=AV.agg [.v (.string g.name),.sl 4 (avs g.args) none] from rfl] at c
   rw [QU,if_pos k0]
   refine Qe Tryd.func23 rfl Tryd.call23 Tryd.ntmps23 (congrArg Array.toList Tryd.results23) (by simp) ?_
   repeat (first|((first|(with_reducible (first|refine Qa fun K E hK hE=>?_|refine Qz c ?_)));simp -implicitDefEqProofs only [Qc,Qd,OpW,QE,aop,undef,AS.ev,Qq,AV.Qp8,↓reduceIte,Qg,Qw,Qv,aBin,Xf,Xu,ti3,ti9,ti50,X4,Qb8,ZG,zi72,sp72,Q7,z0,seval])|(with_reducible (first|refine Qf fun K hK=>?_|refine Ql ?_|refine Qu ?_))|((with_reducible refine hK _ ?_);clear hK)|(refine Qh rfl ?_;simp only [↓reduceIte]))
   simp only [QF,Qn,Qr,upd,↓reduceIte,Qq5,Qq9];first|refine Qi (htake _ _) (.keep (.v _)) ⟨rfl,rfl⟩|refine Qi List.take_length (.keep (.v _)) ⟨rfl,rfl⟩
  have z0:(g.op==0)=false:=by simp [k0]
  have ca:=Qaq g.args hn ho.2.2
  have cy:=Qjz g.op
  have key:=Qjy g.op g.args.length
  have R:QU g=(Zj g.name&&(decide (YY g.op=(g.args.length:Int))&&(runL g.args 200 20).1)):=by
   rw [QU,if_neg k0,key]
   cases Zj g.name <;> cases decide (0<g.op∧g.op≤12) <;> simp
  rw [R]
  cases c3:Zj g.name with
  |false =>
   have c3':(g.name.toList==({data:=#[]}:ByteArray).toList)=false:=c3
   refine Qe Tryd.func23 rfl Tryd.call23 Tryd.ntmps23 (congrArg Array.toList Tryd.results23) (by simp) ?_
   repeat (first|((first|(with_reducible refine Qa fun K E hK hE=>?_)|(refine Xj (id:=3) [(0,0),(1,0),(2,0),(3,0),(4,0),(5,0),(6,1),(7,0),(8,0),(9,0),(10,0),(11,0),(12,0),(13,0),(14,0),(15,1),(16,0),(17,0)] mixed (by kernel_rfl) fun K hK=>?_));simp -implicitDefEqProofs only [Qc,Qd,OpW,aop,undef,AS.ev,Qq,AV.Qp8,↓reduceIte,Qg,Qw,Qv,aBin,ti3,ti9,X4,Qb8,Q7,z0,c3',seval])|(with_reducible (first|refine Qf fun K hK=>?_|refine Ql ?_|refine Qm ?_|refine Qb ?_))|((with_reducible refine hK _ ?_);clear hK)|(refine Qh rfl ?_;simp only [↓reduceIte,Qq3]))
   simp only [QF,Qn,Qr,upd,↓reduceIte,Qq5,Qq9];first|refine Qi (htake _ _) (.keep (.v _)) ⟨rfl,rfl⟩|refine Qi List.take_length (.keep (.v _)) ⟨rfl,rfl⟩
  |true =>
   have c3':(g.name.toList==({data:=#[]}:ByteArray).toList)=true:=c3
   by_cases q:YY g.op=(g.args.length:Int)
   ·have q':(YY g.op==(g.args.length:Int))=true:=by simp [q]
    rw [decide_eq_true q]
    refine Qe Tryd.func23 rfl Tryd.call23 Tryd.ntmps23 (congrArg Array.toList Tryd.results23) (by simp) ?_
    repeat (first|((first|(with_reducible (first|refine Qa fun K E hK hE=>?_|refine QcE ca ?_|refine QcE cy ?_))|(refine Xj (id:=3) [(0,0),(1,0),(2,0),(3,0),(4,0),(5,0),(6,1),(7,0),(8,0),(9,0),(10,0),(11,0),(12,0),(13,0),(14,0),(15,1),(16,0),(17,0)] mixed (by kernel_rfl) fun K hK=>?_));simp -implicitDefEqProofs only [Qc,Qd,OpW,aop,undef,AS.ev,Qq,AV.Qp8,↓reduceIte,Qg,Qw,Qv,aBin,aLen,goInt,ti3,ti9,ti50,un50,X4,Qb8,ZG,Q7,z0,c3',q',seval])|(with_reducible (first|refine Qf fun K hK=>?_|refine Ql ?_|refine Qm ?_|refine Qb ?_))|((with_reducible refine hK _ ?_);clear hK)|(refine Qh rfl ?_;simp only [↓reduceIte,Qq3]))
    simp only [QF,Qn,Qr,upd,↓reduceIte,Qq5,Qq9];first|refine Qi (htake _ _) (.keep (.v _)) ⟨rfl,rfl⟩|refine Qi List.take_length (.keep (.v _)) ⟨rfl,rfl⟩
   ·have q':(YY g.op==(g.args.length:Int))=false:=by simp [q]
    rw [decide_eq_false q]
    refine Qe Tryd.func23 rfl Tryd.call23 Tryd.ntmps23 (congrArg Array.toList Tryd.results23) (by simp) ?_
    repeat (first|((first|(with_reducible (first|refine Qa fun K E hK hE=>?_|refine QcE cy ?_))|(refine Xj (id:=3) [(0,0),(1,0),(2,0),(3,0),(4,0),(5,0),(6,1),(7,0),(8,0),(9,0),(10,0),(11,0),(12,0),(13,0),(14,0),(15,1),(16,0),(17,0)] mixed (by kernel_rfl) fun K hK=>?_));simp -implicitDefEqProofs only [Qc,Qd,OpW,aop,undef,AS.ev,Qq,AV.Qp8,↓reduceIte,Qg,Qw,Qv,aBin,aLen,goInt,ti3,ti9,ti50,un50,X4,Qb8,ZG,Q7,z0,c3',q',seval])|(with_reducible (first|refine Qf fun K hK=>?_|refine Ql ?_|refine Qm ?_|refine Qb ?_))|((with_reducible refine hK _ ?_);clear hK)|(refine Qh rfl ?_;simp only [↓reduceIte,Qq3]))
    simp only [QF,Qn,Qr,upd,↓reduceIte,Qq5,Qq9];first|refine Qi (htake _ _) (.keep (.v _)) ⟨rfl,rfl⟩|refine Qi List.take_length (.keep (.v _)) ⟨rfl,rfl⟩
mutual
theorem T.QqJ:∀ t:T,t.Qqe=true→t.nds=t.size
 | .mk k i n l,h=>by
  simp only [T.Qqe] at h
  simp only [T.nds,T.size]
  split at h
  ·rename_i k0
   simp only [Bool.and_eq_true,List.isEmpty_iff] at h
   rw [if_neg (by omega),h.2];rfl
  ·split at h
   ·rename_i k0 k1
    simp only [Bool.and_eq_true,List.isEmpty_iff] at h
    rw [if_neg (by omega),h.2];rfl
   ·split at h
    ·rename_i k2
     split at h
     ·cases h
     ·split at h
      ·cases h
      ·rw [if_pos k2,Qb9 l h]
    ·cases h
theorem Qb9:∀ l:List T,Yx l=true→ndsL l=sizes l
 |[],_=>rfl
 |t::l,h=>by
  simp only [Yx,Bool.and_eq_true] at h
  simp only [ndsL,sizes]
  rw [T.QqJ t h.1,Qb9 l h.2]
end
theorem scan_ns (tot:Nat):∀ (m:Nat) (l:List UInt8),(∀ ts,QaM tot m l = .inl ts→∀ t∈ts,In tot t.pos)∧∀ p e,QaM tot m l = .inr (p,e)→In tot p
 |0,l=>⟨fun ts h t ht=>by (cases h;cases ht),fun p e h=>by (cases h)⟩
 |m+1,l=>by
  have hp:In tot ((tot - (Xw false l).length:Nat):Int):=⟨by omega,by omega⟩
  rw [QaM]
  cases ht:ZL (Xw false l) with
  |inr c=>exact ⟨fun ts h=>by (cases h),fun p e h=>by (cases h;exact hp)⟩
  |inl kx =>
   obtain ⟨k,x⟩:=kx
   simp only
   split
   ·refine ⟨fun ts h t ht=>?_,fun p e h=>by cases h⟩
    cases h
    rw [List.mem_singleton.1 ht];exact hp
   ·obtain ⟨i1,i2⟩:=scan_ns tot m ((Xw false l).drop x.length)
    cases h2:QaM tot m ((Xw false l).drop x.length) with
    |inl us =>
     refine ⟨fun ts h t ht=>?_,fun p e h=>by cases h⟩
     cases h
     rcases List.mem_cons.1 ht with rfl|ht
     ·exact hp
     ·exact i1 us h2 t ht
    |inr q =>
     refine ⟨fun ts h=>(by cases h),fun p e h=>?_⟩
     cases h
     exact i2 p e h2
theorem QfJ (l:List UInt8):(∀ ts,Ya l = .inl ts→∀ t∈ts,In l.length t.pos)∧∀ p e,Ya l = .inr (p,e)→In l.length p:=by
 rw [Ya]
 split
 ·exact ⟨fun ts h=>(by cases h),fun p e h=>by cases h;exact ⟨Int.le_refl _,by omega⟩⟩
 ·exact scan_ns _ _ _
theorem QlQ {l:List UInt8} {x e:Int} (h:QaT l = .inr (x,e)):In l.length x:=by
 unfold QaT at h
 cases hs:Ya l with
 |inr q =>
  rw [hs] at h
  cases h
  exact (QfJ l).2 x e hs
 |inl ts =>
  rw [hs] at h
  simp only at h
  have:=prog_ps (n:=l.length) (by omega) ⟨ts,[]⟩ ((QfJ l).1 ts hs)
  cases hp:Qeh ⟨ts,[]⟩ with
  |ok p s2=>rw [hp] at h;cases h
  |err p c =>
   rw [hp] at h this
   cases h
   exact this
structure RlPre (r:Rl):Prop where
 ka:atomsOk r.keep
 ra:atomsOk r.remove
 ga:goalsOk r.guard
 ba:goalsOk r.body
 h1:1≤r.keep.length+r.remove.length
 h4:r.keep.length+r.remove.length≤4
 g12:r.guard.length≤12
 b12:r.body.length≤12
theorem Qez {name:ByteArray} {keep remove:List G} {s:PS} {r:Rl} {s2:PS} (h:Zm name keep remove s = .ok r s2) (hk:atomsOk keep) (hr:atomsOk remove) (h1:1≤keep.length+remove.length) (h4:keep.length+remove.length≤4):RlPre r:=by
 have hb:∀ b:List G,goalsOk b∧b.length≤12→goalsOk (match b with|[x]=>if x.op=1 then [] else b|_=>b)∧(match b with|[x]=>if x.op=1 then [] else b|_=>b).length≤12:=fun b hb=>by
  split
  ·split
   ·exact ⟨fun _ h=>(List.not_mem_nil h).elim,by decide⟩
   ·exact hb
  ·exact hb
 unfold Zm at h
 simp only at h
 obtain ⟨b,s1,e1,h⟩:=bind_ok h
 have g1:=Qbo e1
 split at h
 ·obtain ⟨b2,s3,e2,h⟩:=bind_ok h
  have g2:=Qbo e2
  obtain ⟨u,s4,e3,h⟩:=bind_ok h
  cases h
  exact ⟨hk,hr,g1.1,(hb b2 g2).1,h1,h4,g1.2,(hb b2 g2).2⟩
 ·obtain ⟨u,s4,e3,h⟩:=bind_ok h
  cases h
  exact ⟨hk,hr,fun _ h=>(List.not_mem_nil h).elim,(hb b g1).1,h1,h4,Nat.zero_le _,(hb b g1).2⟩
theorem QgR {name:ByteArray} {s:PS} {r:Rl} {s2:PS} (h:Qj3 name s = .ok r s2):RlPre r:=by
 rw [Qj3] at h
 obtain ⟨f,s1,e1,h⟩:=bind_ok h
 obtain ⟨f1,f2,f3⟩:=QcK e1
 have no:atomsOk []:=fun _ h=>(List.not_mem_nil h).elim
 rw [Qnh] at h
 split at h
 ·exact Qez h no f1 (by simp;omega) (by simp;omega)
 split at h
 ·exact Qez h f1 no (by simp;omega) (by simp;omega)
 split at h
 ·obtain ⟨rem,s3,e2,h⟩:=bind_ok h
  obtain ⟨r1,r2,r3⟩:=QcK e2
  obtain ⟨u,s4,e3,h⟩:=bind_ok h
  exact Qez h f1 r1 (by omega) (by omega)
 ·cases h
theorem Qj4 {s:PS} {r:Rl} {s2:PS} (h:Zl s = .ok r s2):RlPre r:=by
 rw [Qem] at h
 split at h
 ·obtain ⟨x,s1,e1,h⟩:=bind_ok h
  exact QgR h
 ·exact QgR h
theorem Qdz (f:Int→Int):∀ l:List T,(maps f l).length=l.length
 |[]=>rfl
 |t::l=>by rw [maps,List.length_cons,List.length_cons,Qdz f l]
mutual
theorem T.QqA (f:Int→Int):∀ {t:T},t.Qqe=true→(∀ v∈t.vars,0≤f v∧f v≤1048576)→(t.map f).Qqe=true
 | .mk k i n l,h,hv=>by
  have ih:=@QaB f l
  rw [T.Qqe] at h
  rw [T.map]
  rw [T.vars] at hv
  by_cases h0:k=0
  ·rw [if_pos h0] at h
   rw [if_neg (by omega),if_neg (by omega),T.Qqe,if_pos h0];exact h
  rw [if_neg h0] at h
  by_cases h1:k=1
  ·rw [if_pos h1] at h hv
   rw [if_pos h1,T.Qqe,if_neg h0,if_pos h1]
   have:=hv i (by simp)
   simp only [Bool.and_eq_true] at h ⊢
   exact ⟨⟨by simpa using this,h.1.2⟩,h.2⟩
  rw [if_neg h1] at h hv
  by_cases h2:k=2
  ·rw [if_pos h2] at h hv
   rw [if_neg h1,if_pos h2,T.Qqe,if_neg h0,if_neg h1,if_pos h2]
   have hl:(maps f l).length=l.length:=Qdz f l
   rw [hl]
   split at h
   ·cases h
   ·rename_i hi
    rw [if_neg hi]
    split at h
    ·cases h
    ·rename_i hn
     rw [if_neg hn]
     exact ih h hv
  ·rw [if_neg h2] at h;cases h
theorem QaB (f:Int→Int):∀ {l:List T},Yx l=true→(∀ v∈Q4 l,0≤f v∧f v≤1048576)→Yx (maps f l)=true
 |[],_,_=>rfl
 |t::l,h,hv=>by
  rw [Yx,Bool.and_eq_true] at h
  rw [Q4] at hv
  rw [maps,Yx,T.QqA f h.1 fun v hm=>hv v (List.mem_append_left _ hm),QaB f h.2 fun v hm=>hv v (List.mem_append_right _ hm)];rfl
end
mutual
theorem T.QqG (f:Int→Int):∀ t:T,(t.map f).size=t.size∧(t.map f).dep=t.dep
 | .mk k i n l=>by
  have ih:=ZA f l
  rw [T.map]
  by_cases h1:k=1
  ·rw [if_pos h1];simp only [T.size,T.dep,if_neg (show ¬ k=2 by omega)];exact ⟨trivial,trivial⟩
  rw [if_neg h1]
  by_cases h2:k=2
  ·rw [if_pos h2];simp only [T.size,T.dep,if_pos h2];rw [ih.1,ih.2];exact ⟨rfl,rfl⟩
  ·rw [if_neg h2];exact ⟨rfl,rfl⟩
theorem ZA (f:Int→Int):∀ l:List T,sizes (maps f l)=sizes l∧deps (maps f l)=deps l
 |[]=>⟨rfl,rfl⟩
 |t::l=>by
  have h1:=T.QqG f t
  have h2:=ZA f l
  simp only [maps,sizes,deps,h1.1,h1.2,h2.1,h2.2];exact ⟨trivial,trivial⟩
end
theorem Qbg {g:G} (h:QP g=true):Yx g.args=true:=by
 rw [QP,Bool.and_eq_true,Bool.and_eq_true,(ZK g.args 200 20 (by omega) (by omega)).1,Bool.and_eq_true] at h
 exact h.2.2.1
theorem QbC {f:Int→Int} {g:G} (h:QP g=true) (hv:∀ v∈Q4 g.args,0≤f v∧f v≤1048576):QP ⟨g.op,g.name,maps f g.args⟩=true:=by
 rw [QP,Bool.and_eq_true,Bool.and_eq_true,(ZK _ 200 20 (by omega) (by omega)).1,Bool.and_eq_true,decide_eq_true_eq,decide_eq_true_eq] at h ⊢
 refine ⟨h.1,?_,QaB f h.2.2.1 hv,?_⟩
 ·show (maps f g.args).length≤6
  rw [Qdz];exact h.2.1
 ·show ((sizes (maps f g.args):Nat):Int)≤200∧((deps (maps f g.args):Nat):Int)≤20
  rw [(ZA f _).1,(ZA f _).2];exact h.2.2.2
theorem Qai {g:G} (h:QP g=true):ndsL g.args≤200:=by
 have hf:=Qbg h
 rw [QP,Bool.and_eq_true,Bool.and_eq_true,(ZK g.args 200 20 (by omega) (by omega)).1,Bool.and_eq_true,decide_eq_true_eq,decide_eq_true_eq] at h
 have:=Qb9 g.args hf
 omega
mutual
theorem T.QqY:∀ (t:T),t.vars.length≤t.nds
 | .mk k i n l=>by
  simp only [T.vars,T.nds]
  split
  ·simp
  ·split
   ·have:=QhM l;omega
   ·simp
theorem QhM:∀ (l:List T),(Q4 l).length≤ndsL l
 |[]=>by simp [Q4,ndsL]
 |t::l=>by
  have h1:=T.QqY t
  have h2:=QhM l
  simp only [Q4,ndsL,QrQ];omega
end
theorem Qbh {g:G} (h:QU g=true):(Q4 g.args).length≤200:=by
 have h1:=QhM g.args
 rw [QU] at h
 split at h
 ·exact Nat.le_trans h1 (Qai h)
 ·rw [Bool.and_eq_true,Bool.and_eq_true,Bool.and_eq_true,(ZK g.args 200 20 (by omega) (by omega)).1,Bool.and_eq_true,decide_eq_true_eq,decide_eq_true_eq,decide_eq_true_eq] at h
  have:=Qb9 g.args h.2.2.2.1
  omega
theorem QeV {f:Int→Int} {g:G} (h:QU g=true) (hv:∀ v∈Q4 g.args,0≤f v∧f v≤1048576):QU ⟨g.op,g.name,maps f g.args⟩=true:=by
 rw [QU] at h ⊢
 split at h
 ·rename_i h0
  rw [if_pos h0]
  exact QbC (g:=⟨0,g.name,g.args⟩) h hv
 ·rename_i h0
  rw [if_neg h0]
  rw [Bool.and_eq_true,Bool.and_eq_true,Bool.and_eq_true,(ZK _ 200 20 (by omega) (by omega)).1,Bool.and_eq_true,decide_eq_true_eq,decide_eq_true_eq,decide_eq_true_eq] at h ⊢
  refine ⟨h.1,h.2.1,?_,QaB f h.2.2.2.1 hv,?_⟩
  ·show ((maps f g.args).length:Int)=_
   rw [Qdz];exact h.2.2.1
  ·show ((sizes (maps f g.args):Nat):Int)≤200∧((deps (maps f g.args):Nat):Int)≤20
   rw [(ZA f _).1,(ZA f _).2];exact h.2.2.2.2
mutual
theorem T.QqH (f:Int→Int):∀ t:T,(t.map f).vars=t.vars.map f
 | .mk k i n l=>by
  have ih:=QbT f l
  rw [T.map,T.vars]
  by_cases h1:k=1
  ·rw [if_pos h1,if_pos h1,T.vars,if_pos h1];rfl
  rw [if_neg h1,if_neg h1]
  by_cases h2:k=2
  ·rw [if_pos h2,if_pos h2,T.vars,if_neg h1,if_pos h2,ih]
  ·rw [if_neg h2,if_neg h2,T.vars,if_neg h1,if_neg h2];rfl
theorem QbT (f:Int→Int):∀ l:List T,Q4 (maps f l)=(Q4 l).map f
 |[]=>rfl
 |t::l=>by rw [maps,Q4,Q4,List.map_append,T.QqH f t,QbT f l]
end
def cntS (n v:Int):Int:=if n<0∨v>n∨v<0 then -1 else max n (v+1)
def cntL (n:Int) (l:List Int):Int:=l.foldl cntS n
theorem Qk2 (all:List Int):∀ (post pre:List Int),pre++post=all→cntL ((ded [] pre).length:Nat) (post.map fun v=>((plc (ded [] all) v:Nat):Int))=((ded [] all).length:Nat)
 |[],pre,h=>by
  rw [List.append_nil] at h
  rw [h];rfl
 |v::post,pre,h=>by
  have ih:=Qk2 all post (pre++[v]) (by rw [← h];simp)
  have e1:ded [] (pre++[v])=ins (ded [] pre) v:=by rw [Yh];rfl
  obtain ⟨r,hr⟩:=Qa0 (ins (ded [] pre) v) post
  have hD:ded [] all=ins (ded [] pre) v++r:=by rw [← h,Yh,ded,hr]
  have hp:plc (ded [] all) v=plc (ins (ded [] pre) v) v:=by rw [hD];exact QcR r (Qij.2 (.inr rfl))
  rw [← ih,List.map_cons]
  show cntL (cntS _ _) _=_
  rw [hp,e1]
  congr 1
  by_cases hm:v∈ded [] pre
  ·have:ins (ded [] pre) v=ded [] pre:=if_pos hm
   rw [this]
   have:=QlU hm
   rw [cntS,if_neg (by omega)]
   omega
  ·have:ins (ded [] pre) v=ded [] pre++[v]:=if_neg hm
   rw [this,QbB [] hm,cntS,if_neg (by omega),List.length_append,List.length_singleton]
   omega
theorem Qa3 (l:List G) (h:∀ g∈l,(Q4 g.args).length≤200):(l.flatMap fun g=>Q4 g.args).length≤200 * l.length:=by
 induction l with
 |nil=>simp
 |cons g l ih =>
  have h1:=h g (by simp)
  have h2:=ih fun x hx=>h x (by simp [hx])
  rw [List.flatMap_cons,List.length_append,List.length_cons]
  omega
structure RlOk (r:Rl):Prop extends RlPre r where
 cnt:cntL 0 r.allV=r.vars
 vnn:0≤r.vars
theorem Qon {r:Rl} (h:RlPre r):RlOk r.numd:=by
 have hl:r.allV.length≤5600:=by
  have hk:=Qa3 r.keep fun g hg=>Nat.le_trans (QhM g.args) (Qai (h.ka g hg))
  have hr:=Qa3 r.remove fun g hg=>Nat.le_trans (QhM g.args) (Qai (h.ra g hg))
  have hg:=Qa3 r.guard fun g hg=>Qbh (h.ga g hg)
  have hb:=Qa3 r.body fun g hg=>Qbh (h.ba g hg)
  have h4:=h.h4
  have g12:=h.g12
  have b12:=h.b12
  rw [Rl.allV]
  simp only [List.flatMap_append,QrQ]
  omega
 have hd:(ded [] r.allV).length≤5600:=by
  have:=Zy [] r.allV
  simp only [Qrd] at this
  omega
 have hv:∀ v∈r.allV,(0:Int)≤((plc (ded [] r.allV) v:Nat):Int)∧((plc (ded [] r.allV) v:Nat):Int)≤1048576:=fun v hv=>by
  have:=QlU (s:=ded [] r.allV) (Qii.2 (.inr hv))
  omega
 have sub:∀ (l:List G),(∀ g∈l,g∈r.keep++r.remove++r.guard++r.body)→∀ g∈l,∀ v∈Q4 g.args,v∈r.allV:=fun l hs g hg v hv=>List.mem_flatMap.2 ⟨g,hs g hg,hv⟩
 have at_:∀ l,(∀ g∈l,g∈r.keep++r.remove++r.guard++r.body)→atomsOk l→atomsOk (l.map fun g:G=>(⟨g.op,g.name,maps (fun v=>((plc (ded [] r.allV) v:Nat):Int)) g.args⟩:G)):=fun l hs hl x hx=>by
  obtain ⟨g,hg,rfl⟩:=List.mem_map.1 hx
  exact QbC (hl g hg) fun v hm=>hv v (sub l hs g hg v hm)
 have go_:∀ l,(∀ g∈l,g∈r.keep++r.remove++r.guard++r.body)→goalsOk l→goalsOk (l.map fun g:G=>(⟨g.op,g.name,maps (fun v=>((plc (ded [] r.allV) v:Nat):Int)) g.args⟩:G)):=fun l hs hl x hx=>by
  obtain ⟨g,hg,rfl⟩:=List.mem_map.1 hx
  exact QeV (hl g hg) fun v hm=>hv v (sub l hs g hg v hm)
 have hall:r.numd.allV=r.allV.map fun v=>((plc (ded [] r.allV) v:Nat):Int):=by
  show ((r.keep.map _++r.remove.map _++r.guard.map _++r.body.map _).flatMap fun g:G=>Q4 g.args)=_
  rw [← List.map_append,← List.map_append,← List.map_append,List.flatMap_map,Rl.allV,List.map_flatMap]
  simp only [QbT]
 refine ⟨⟨at_ _ (fun g hg=>by simp [hg]) h.ka,at_ _ (fun g hg=>by simp [hg]) h.ra,go_ _ (fun g hg=>by simp [hg]) h.ga,go_ _ (fun g hg=>by simp [hg]) h.ba,?_,?_,?_,?_⟩,?_,Int.natCast_nonneg _⟩
 ·show 1≤(r.keep.map _).length+(r.remove.map _).length
  rw [List.length_map,List.length_map];exact h.h1
 ·show (r.keep.map _).length+(r.remove.map _).length≤4
  rw [List.length_map,List.length_map];exact h.h4
 ·show (r.guard.map _).length≤12
  rw [List.length_map];exact h.g12
 ·show (r.body.map _).length≤12
  rw [List.length_map];exact h.b12
 ·rw [hall]
  exact Qk2 r.allV r.allV [] rfl
theorem Qma {s:PS} {r:Rl} {s2:PS} (h:ZZ s = .ok r s2):RlOk r:=by
 rw [ZZ] at h
 obtain ⟨q,s1,h1,h⟩:=bind_ok h
 cases h
 exact Qon (Qj4 h1)
theorem QfI:∀ (m:Nat) (l:List Rl) (s:PS) (a:List Rl) (s2:PS),(∀ r∈l,RlOk r)→l.length≤40→Z1 m l s = .ok a s2→(∀ r∈a,RlOk r)∧a.length≤40
 |0,l,s,a,s2,hl,h4,h=>by cases h;exact ⟨hl,h4⟩
 |m+1,l,s,a,s2,hl,h4,h=>by
  rw [Z1] at h
  split at h
  ·cases h;exact ⟨hl,h4⟩
  split at h
  ·cases h
  ·obtain ⟨r,s1,h1,h⟩:=bind_ok h
   exact QfI m _ s1 a s2 (fun x hx=>by
    rcases List.mem_append.1 hx with hx|hx
    ·exact hl x hx
    ·rw [List.mem_singleton.1 hx];exact Qma h1) (by rw [List.length_append,List.length_singleton];omega) h
theorem Qfg:∀ (m:Nat) (l:List Dc) (s:PS) (a:List Dc) (s2:PS),Z8 m l s = .ok a s2→a.length≤30
 |0,l,s,a,s2,h=>by cases h
 |m+1,l,s,a,s2,h=>by
  rw [Z8] at h
  split at h
  ·cases h
  ·obtain ⟨x,s1,h1,h⟩:=bind_ok h
   obtain ⟨u,s3,h3,h⟩:=bind_ok h
   split at h
   ·cases h
   split at h
   ·cases h
   split at h
   ·exact Qfg m _ _ a s2 h
   ·obtain ⟨v,s4,h4,h⟩:=bind_ok h
    cases h
    rw [List.length_append,List.length_singleton];omega
theorem Qfh:∀ (m:Nat) (l:List Dc) (s:PS) (a:List Dc) (s2:PS),l.length≤30→Zt m l s = .ok a s2→a.length≤30
 |0,l,s,a,s2,hl,h=>by cases h;exact hl
 |m+1,l,s,a,s2,hl,h=>by
  rw [Zt] at h
  split at h
  ·obtain ⟨d,s1,h1,h⟩:=bind_ok h
   exact Qfh m d s1 a s2 (Qfg _ _ _ _ _ h1) h
  ·cases h;exact hl
theorem Qls {l:List UInt8}:(∀ p,QaT l = .inl p→p.rules.length≤40∧p.decls.length≤30∧∀ r∈p.rules,RlOk r)∧∀ x e,QaT l = .inr (x,e)→0≤x∧x≤l.length:=by
 refine ⟨fun p h=>?_,fun x e h=>QlQ h⟩
 unfold QaT at h
 cases hs:Ya l with
 |inr q=>rw [hs] at h;cases h
 |inl ts =>
  rw [hs] at h
  simp only at h
  cases hp:Qeh ⟨ts,[]⟩ with
  |err p c=>rw [hp] at h;cases h
  |ok q s2 =>
   rw [hp] at h
   cases h
   rw [Qeh] at hp
   obtain ⟨d,s1,h1,hp⟩:=bind_ok hp
   obtain ⟨r,s3,h2,hp⟩:=bind_ok hp
   cases hp
   obtain ⟨a1,a2⟩:=QfI _ [] s1 r _ (fun _ h=>(List.not_mem_nil h).elim) (by decide) h2
   exact ⟨a2,Qfh _ [] _ d s1 (by decide) h1,a1⟩
mutual
theorem T.Qqh:∀ (t:T),t.vars.length≤t.nds
 | .mk k i n l=>by
  simp only [T.vars,T.nds]
  split
  ·simp
  ·split
   ·have:=YL l;omega
   ·simp
theorem YL:∀ (l:List T),(Q4 l).length≤ndsL l
 |[]=>by simp [Q4,ndsL]
 |t::l=>by
  have h1:=T.Qqh t
  have h2:=YL l
  simp only [Q4,ndsL,QrQ];omega
end
theorem QmX (u:List Int) (own:Option Nat) (n:Int) (hb:u.length≤1000000):Pure Tryd.prog 83 [.sl 1 (ints u) own,.i n] (.b (decide (n∈u))):=by
 intro h
 refine Qe Tryd.func83 rfl Tryd.call83 Tryd.ntmps83 (congrArg Array.toList Tryd.results83) (by simp) ?_
 repeat (first|(((with_reducible refine Qa fun K E hK hE=>?_));simp -implicitDefEqProofs only [Qc,Qd,OpW,aop,AS.ev,Nat.reduceLT])|(with_reducible (first|refine Qf fun K hK=>?_|refine Qj ?_))|((with_reducible refine hK _ ?_);clear hK))
 obtain ⟨I,hI⟩:∃ I:Nat→AS→Prop,I=fun m' s=>∃ j:Nat,m'=u.length - j∧j≤u.length∧(n∈u↔n∈u.drop j)∧s.tm 0 = .sl 1 (ints u) own∧s.tm 1 = .i n∧s.tm 5 = .i j∧s.h=h:=⟨_,rfl⟩;refine QO I ?_ (m:=u.length) ?_
 ·intro m' s hs;rw [hI] at hs;obtain ⟨tm,hp⟩:=s;dsimp only at hs;obtain ⟨j,rfl,hj,he,t0,t1,t5,rfl⟩:=hs
  by_cases hlt:j<u.length
  ·rw [List.drop_eq_getElem_cons hlt,List.mem_cons] at he
   by_cases hz:u[j]=n
   ·have hb1:(u[j]==n)=true:=by simpa using hz
    have hm:n∈u:=he.2 (.inl hz.symm)
    repeat (first|(((with_reducible refine Qa fun K E hK hE=>?_));simp -implicitDefEqProofs only [Qc,Qd,OpW,aop,AS.ev,↓reduceIte,Qw,Qv,QK,aBin,aLen,goInt,ti3,ei82,un82,t0,t1,t5,hlt,Qdw hlt,hb1,seval])|(with_reducible (first|refine Qf fun K hK=>?_|refine Qj ?_|refine Ql ?_|refine Qm ?_|refine Qb ?_|refine Qu ?_|refine Qy ?_))|((with_reducible refine hK _ ?_);clear hK)|(refine Qh rfl ?_;simp only [↓reduceIte]))
    simp only [QF,Qn,Qr,upd,↓reduceIte,Qq5,Qq9]
    exact Qi List.take_length (.keep (.v _)) ⟨by rw [decide_eq_true hm],rfl⟩
   ·have hb1:(u[j]==n)=false:=by simpa using hz
    repeat (first|((first|(with_reducible (first|refine Qa fun K E hK hE=>?_|refine Qk fun K E hK hE=>?_)));simp -implicitDefEqProofs only [Qc,Qd,OpW,aop,AS.ev,↓reduceIte,Qw,Qv,QK,aBin,aLen,goInt,ti3,ei82,un82,t0,t1,t5,hlt,Qdw hlt,hb1,seval])|(with_reducible (first|refine Qf fun K hK=>?_|refine Qj ?_|refine Qm ?_|refine Qb ?_|refine Qo ?_))|((with_reducible refine hK _ ?_);clear hK)|(refine Qh rfl ?_;simp only [↓reduceIte,Qq3]))
    refine Xi.mk (m':=u.length - (j+1)) (by omega) ?_
    rw [hI]
    refine ⟨j+1,rfl,hlt,he.trans ⟨fun h=>h.elim (fun e=>absurd e.symm hz) id,.inr⟩,t0,t1,?_,rfl⟩
    simp only [upd,↓reduceIte]
    rw [Xk (by omega)]
  ·have hjl:j=u.length:=by omega
   rw [hjl,List.drop_length] at he
   have hm:¬ n∈u:=fun h=>by simpa using he.1 h
   repeat (first|(((with_reducible refine Qa fun K E hK hE=>?_));simp -implicitDefEqProofs only [Qc,Qd,OpW,aop,AS.ev,↓reduceIte,aBin,aLen,goInt,un82,t0,t5,hlt,seval])|(with_reducible (first|refine Qf fun K hK=>?_|refine Ql ?_|refine QG ?_|refine Qb ?_|refine QD ?_|refine QC ?_))|((with_reducible refine hK _ ?_);clear hK)|(clear hK;(with_reducible refine hK _ ?_);clear hK)|(refine Qh rfl ?_;simp only [↓reduceIte,Qq3]))
   simp only [QF,Qn,Qr,upd,↓reduceIte,Qq5,Qq9]
   exact Qi List.take_length (.keep (.v _)) ⟨by rw [decide_eq_false hm],rfl⟩
 ·rw [hI]
  exact ⟨0,by omega,Nat.zero_le _,by simp,rfl,rfl,rfl,rfl⟩
theorem Qhj (t:T):ndsL t.uses≤ndsL t.args:=by
 unfold T.uses
 split
 ·exact Nat.le_refl _
 ·simp [ndsL]
structure TokGr (H:Nat→AH) (m k e s:Nat):Prop where
 len:∀ n,(H n).length=m
 lt:k<m
 get:∀ n,(H n)[k]? = some (.grow e s n)
 set:∀ n n',(H n).set k (.grow e s n')=H n'
theorem TokGr.old {H:Nat→AH} {m k e s:Nat} (V:TokGr H m k e s):∀ n n' (i:Nat) b,(H n')[i]? = some b→(H n)[i]? = some b∨b.Below m:=by
 intro n n' i b hb
 rw [← V.set n n'] at hb
 by_cases hi:k=i
 ·subst hi
  rw [List.getElem?_set_self (by rw [V.len];exact V.lt)] at hb
  cases hb
  exact .inr trivial
 ·rw [List.getElem?_set_ne hi] at hb
  exact .inl hb
theorem QcM {σ:Type} {H:σ→AH} {m:Nat} (hm:∀ s,(H s).length=m) (hH:∀ s s' (i:Nat) b,(H s')[i]? = some b→(H s)[i]? = some b∨b.Below m) {s s2:σ} {L own:AH} {r r':AV} {Q:AV→AH→Prop}
  (hf:Frz (H s2++(L++own)) (m+L.length) r r') (hq:Q r' (H s2++L)):Leaves (H s++L) (H s2++(L++own)) r Q:=by
 have ht:(H s2++(L++own)).take (m+L.length)=H s2++L:=by
  rw [← List.append_assoc,← hm s2,← List.length_append,List.take_left]
 refine .inl ⟨m+L.length,r',by rw [List.length_append,hm];exact Nat.le_refl _,by simp [hm],.inr fun i b hb=>?_,hf,by rw [ht];exact hq⟩
 rw [ht] at hb
 rcases Nat.lt_or_ge i m with hi|hi
 ·rw [List.getElem?_append_left (by rw [hm];exact hi)] at hb
  rcases hH s s2 i b hb with h|h
  ·exact .inl (by rw [List.getElem?_append_left (by rw [hm];exact hi)];exact h)
  ·exact .inr (h.mono (by omega))
 ·rw [List.getElem?_append_right (by rw [hm];exact hi),hm] at hb
  exact .inl (by rw [List.getElem?_append_right (by rw [hm];exact hi),hm];exact hb)
theorem T.QqT (t:T):t.vars=if t.kind=1 then [t.int] else Q4 t.uses:=by
 cases t with|mk k i n l =>
 show T.vars (.mk k i n l)=if k=1 then [i] else Q4 (if k=2 then l else [])
 simp only [T.vars]
 by_cases h1:k=1
 ·rw [if_pos h1,if_pos h1]
 ·rw [if_neg h1,if_neg h1]
  by_cases h2:k=2
  ·rw [if_pos h2,if_pos h2]
  ·rw [if_neg h2,if_neg h2];rfl
theorem QaK {H:Nat→AH} {m k:Nat} (V:TokGr H m k 3 1):∀ n,n≤1000000→∀ (t:T) (u:List Int) (L:AH),t.nds≤n→u.length+t.nds≤1000000 →
  QJ Tryd.prog 68 [.sl 1 (ints u) (some k),t.av] (H u.length++L) fun o h'=>o = .ret (.sl 1 (ints (ded u t.vars)) (some k))∧h'=H (ded u t.vars).length++L
 |0,_,t,_,_,hn,_=>by have:=T.Qqp t;omega
 |n+1,hb,t,u,L,hn,hu=>by
  have e:=T.QqT t
  have hnd:=T.Qqp t
  have hm:=V.len
  have gk:∀ (n:Nat) (L:AH) (k:Nat),(H n++L)[m+k]? = L[k]? := fun u L k=>by rw [← hm u];exact hget _ _ _
  have sk:∀ (n:Nat) (L:AH) (k:Nat) (b:AB),(H n++L).set (m+k) b=H n++L.set k b:=fun u L k b=>by rw [← hm u];exact hset _ _ _ _
  have gt:∀ (n:Nat) (L:AH),(H n++L)[k]? = some (.grow 3 1 n):=fun n L=>by rw [List.getElem?_append_left (by rw [hm];exact V.lt)];exact V.get n
  have st:∀ (n n':Nat) (L:AH),(H n++L).set k (.grow 3 1 n')=H n'++L:=fun n n' L=>by rw [List.set_append_left _ _ (by rw [hm];exact V.lt),V.set]
  have ca:=Qbf t
  have ch:=QmX u (some k) t.int (by omega)
  have hlu:=YT t.uses
  have hul:=Qhj t
  by_cases h1:t.kind=1
  ·have b1:(t.kind==1)=true:=by simpa using h1
   have hus:t.uses=[]:=by unfold T.uses;rw [if_neg (by omega)]
   rw [if_pos h1] at e
   by_cases hmem:t.int∈u
   ·have hed:ded u t.vars=ded u (Q4 (t.uses.drop 0)):=by rw [e,hus];exact if_pos hmem
    have hlen':u.length+ndsL (t.uses.drop 0)≤1000000:=by rw [List.drop_zero];omega
    rw [decide_eq_true hmem] at ch
    refine Qe Tryd.func68 rfl Tryd.call68 Tryd.ntmps68 (congrArg Array.toList Tryd.results68) (by simp) ?_
    repeat (first|((first|(with_reducible (first|refine Qa fun K E hK hE=>?_|refine Qz ca ?_|refine Qz ch ?_)));simp -implicitDefEqProofs only [Qc,Qd,OpW,QE,aop,undef,AS.ev,Qq,AV.Qp8,↓reduceIte,Qg,Qw,Qv,aBin,ti3,ti54,Xy,Xz,b1,hm,gk,seval])|(with_reducible (first|refine Qf fun K hK=>?_|refine Qj ?_|refine Qm ?_|refine Qb ?_))|((with_reducible refine hK _ ?_);clear hK)|(refine Qh rfl ?_;simp only [↓reduceIte,Qq3]))
    obtain ⟨I,hI⟩:∃ I:Nat→AS→Prop,I=fun m' s=>∃ (j:Nat) (v:List Int) (M:AH),m'=t.uses.length - j∧j≤t.uses.length∧ded u t.vars=ded v (Q4 (t.uses.drop j))∧v.length+ndsL (t.uses.drop j)≤1000000∧s.tm 0 = .sl 1 (ints v) (some k)∧s.tm 5 = .sl 4 (avs t.uses) none∧s.tm 6 = .i j∧s.h=H v.length++(L++M):=⟨_,rfl⟩;refine QO I ?_ (m:=t.uses.length) ?_
    ·intro m' s hs;rw [hI] at hs;obtain ⟨tm,hp⟩:=s;dsimp only at hs;obtain ⟨j,v,M,rfl,hj,hw,hv,t0,t5,t6,rfl⟩:=hs
     by_cases hlt:j<t.uses.length
     ·rw [List.drop_eq_getElem_cons hlt] at hw hv
      simp only [Q4,Yh] at hw
      simp only [ndsL] at hv
      have hcc:=fun L=>QaK V n (by omega) t.uses[j] v L (Nat.le_trans (Z7 hlt) (by omega)) (by omega)
      have hdl:=Zy v (t.uses[j]).vars
      have hvl:=T.Qqh t.uses[j]
      repeat (first|((first|(with_reducible (first|refine Qa fun K E hK hE=>?_|refine Qk fun K E hK hE=>?_|refine FunW.ret (FunW.call (hcc _)) ?_)));simp -implicitDefEqProofs only [Qc,Qd,OpW,QE,aop,AS.ev,↓reduceIte,Qw,Qv,QK,aBin,aLen,goInt,ei50,un50,ti54,t0,t5,t6,hlt,Qay hlt,seval])|(with_reducible (first|refine Qf fun K hK=>?_|refine Qj ?_|refine Qm ?_|refine Qb ?_|refine Qo ?_))|((with_reducible refine hK _ ?_);clear hK)|(refine Qh rfl ?_;simp only [↓reduceIte]))
      refine Xi.mk (m':=t.uses.length - (j+1)) (by omega) ?_
      rw [hI]
      refine ⟨j+1,_,_,rfl,hlt,hw,by omega,rfl,t5,?_,rfl⟩
      simp only [upd,↓reduceIte]
      rw [Xk (by omega)]
     ·have hjl:j=t.uses.length:=by omega
      rw [hjl,List.drop_length] at hw
      simp only [Q4,ded] at hw
      repeat (first|(((with_reducible refine Qa fun K E hK hE=>?_));simp -implicitDefEqProofs only [Qc,Qd,OpW,aop,AS.ev,↓reduceIte,aBin,aLen,goInt,un50,t0,t5,t6,hlt,seval])|(with_reducible (first|refine Qf fun K hK=>?_|refine Ql ?_|refine QG ?_|refine Qb ?_|refine QD ?_|refine QC ?_))|((with_reducible refine hK _ ?_);clear hK)|(clear hK;(with_reducible refine hK _ ?_);clear hK)|(refine Qh rfl ?_;simp only [↓reduceIte,Qq3]))
      simp only [QF,Qn,Qr,upd,↓reduceIte,Qq5,Qq9]
      exact QcM V.len V.old (.keep (.sl 1 _ _ (Qan _ _) (fun b hb=>by cases hb;have:=V.lt;omega))) ⟨by rw [hw],by rw [hw]⟩
    ·rw [hI]
     exact ⟨0,_,_,by omega,Nat.zero_le _,hed,hlen',rfl,rfl,rfl,rfl⟩
   ·have hed:ded u t.vars=ded (u++[t.int]) (Q4 (t.uses.drop 0)):=by rw [e,hus];exact if_neg hmem
    have hlen':(u++[t.int]).length+ndsL (t.uses.drop 0)≤1000000:=by rw [hus,List.length_append];simp only [List.drop_nil,ndsL,List.length_singleton];omega
    rw [decide_eq_false hmem] at ch
    have hb1:u.length+1≤maxLen:=by simp only [maxLen];omega
    have hb2:(u.length+1) * 8≤140737488355328:=by omega
    refine Qe Tryd.func68 rfl Tryd.call68 Tryd.ntmps68 (congrArg Array.toList Tryd.results68) (by simp) ?_
    repeat (first|((first|(with_reducible (first|refine Qa fun K E hK hE=>?_|refine Qk fun K E hK hE=>?_|refine Qz ca ?_|refine Qz ch ?_)));simp -implicitDefEqProofs only [Qc,Qd,OpW,QE,aop,undef,AS.ev,Qq,AV.Qp8,↓reduceIte,Qg,Qw,Qv,aBin,QH,XD,Yb,ti3,zi3,ti54,Xy,Xz,ei82,ai82,b1,hm,gk,gt,st,hb1,hb2,seval])|(with_reducible (first|refine Qf fun K hK=>?_|refine Qj ?_|refine Qb ?_))|((with_reducible refine hK _ ?_);clear hK)|(refine Qh rfl ?_;simp only [↓reduceIte]))
    obtain ⟨I,hI⟩:∃ I:Nat→AS→Prop,I=fun m' s=>∃ (j:Nat) (v:List Int) (M:AH),m'=t.uses.length - j∧j≤t.uses.length∧ded u t.vars=ded v (Q4 (t.uses.drop j))∧v.length+ndsL (t.uses.drop j)≤1000000∧s.tm 0 = .sl 1 (ints v) (some k)∧s.tm 5 = .sl 4 (avs t.uses) none∧s.tm 6 = .i j∧s.h=H v.length++(L++M):=⟨_,rfl⟩;refine QO I ?_ (m:=t.uses.length) ?_
    ·intro m' s hs;rw [hI] at hs;obtain ⟨tm,hp⟩:=s;dsimp only at hs;obtain ⟨j,v,M,rfl,hj,hw,hv,t0,t5,t6,rfl⟩:=hs
     by_cases hlt:j<t.uses.length
     ·rw [List.drop_eq_getElem_cons hlt] at hw hv
      simp only [Q4,Yh] at hw
      simp only [ndsL] at hv
      have hcc:=fun L=>QaK V n (by omega) t.uses[j] v L (Nat.le_trans (Z7 hlt) (by omega)) (by omega)
      have hdl:=Zy v (t.uses[j]).vars
      have hvl:=T.Qqh t.uses[j]
      repeat (first|((first|(with_reducible (first|refine Qa fun K E hK hE=>?_|refine Qk fun K E hK hE=>?_|refine FunW.ret (FunW.call (hcc _)) ?_)));simp -implicitDefEqProofs only [Qc,Qd,OpW,QE,aop,AS.ev,↓reduceIte,Qw,Qv,QK,aBin,aLen,goInt,ei50,un50,ti54,t0,t5,t6,hlt,Qay hlt,seval])|(with_reducible (first|refine Qf fun K hK=>?_|refine Qj ?_|refine Qm ?_|refine Qb ?_|refine Qo ?_))|((with_reducible refine hK _ ?_);clear hK)|(refine Qh rfl ?_;simp only [↓reduceIte]))
      refine Xi.mk (m':=t.uses.length - (j+1)) (by omega) ?_
      rw [hI]
      refine ⟨j+1,_,_,rfl,hlt,hw,by omega,rfl,t5,?_,rfl⟩
      simp only [upd,↓reduceIte]
      rw [Xk (by omega)]
     ·have hjl:j=t.uses.length:=by omega
      rw [hjl,List.drop_length] at hw
      simp only [Q4,ded] at hw
      repeat (first|(((with_reducible refine Qa fun K E hK hE=>?_));simp -implicitDefEqProofs only [Qc,Qd,OpW,aop,AS.ev,↓reduceIte,aBin,aLen,goInt,un50,t0,t5,t6,hlt,seval])|(with_reducible (first|refine Qf fun K hK=>?_|refine Ql ?_|refine QG ?_|refine Qb ?_|refine QD ?_|refine QC ?_))|((with_reducible refine hK _ ?_);clear hK)|(clear hK;(with_reducible refine hK _ ?_);clear hK)|(refine Qh rfl ?_;simp only [↓reduceIte,Qq3]))
      simp only [QF,Qn,Qr,upd,↓reduceIte,Qq5,Qq9]
      exact QcM V.len V.old (.keep (.sl 1 _ _ (Qan _ _) (fun b hb=>by cases hb;have:=V.lt;omega))) ⟨by rw [hw],by rw [hw]⟩
    ·rw [hI]
     exact ⟨0,_,_,by omega,Nat.zero_le _,hed,hlen',by rw [Qib,Qm0];rfl,rfl,rfl,by rw [List.length_append];rfl⟩
  ·have b1:(t.kind==1)=false:=by simpa using h1
   rw [if_neg h1] at e
   have hed:ded u t.vars=ded u (Q4 (t.uses.drop 0)):=by rw [e,List.drop_zero]
   have hlen':u.length+ndsL (t.uses.drop 0)≤1000000:=by rw [List.drop_zero];omega
   refine Qe Tryd.func68 rfl Tryd.call68 Tryd.ntmps68 (congrArg Array.toList Tryd.results68) (by simp) ?_
   repeat (first|((first|(with_reducible (first|refine Qa fun K E hK hE=>?_|refine Qz ca ?_)));simp -implicitDefEqProofs only [Qc,Qd,OpW,QE,aop,undef,AS.ev,Qq,AV.Qp8,↓reduceIte,Qg,Qw,Qv,aBin,ti3,ti54,Xy,b1,hm,gk,seval])|(with_reducible (first|refine Qf fun K hK=>?_|refine Qj ?_|refine Qm ?_|refine Qb ?_))|((with_reducible refine hK _ ?_);clear hK)|(refine Qh rfl ?_;simp only [↓reduceIte,Qq3]))
   obtain ⟨I,hI⟩:∃ I:Nat→AS→Prop,I=fun m' s=>∃ (j:Nat) (v:List Int) (M:AH),m'=t.uses.length - j∧j≤t.uses.length∧ded u t.vars=ded v (Q4 (t.uses.drop j))∧v.length+ndsL (t.uses.drop j)≤1000000∧s.tm 0 = .sl 1 (ints v) (some k)∧s.tm 5 = .sl 4 (avs t.uses) none∧s.tm 6 = .i j∧s.h=H v.length++(L++M):=⟨_,rfl⟩;refine QO I ?_ (m:=t.uses.length) ?_
   ·intro m' s hs;rw [hI] at hs;obtain ⟨tm,hp⟩:=s;dsimp only at hs;obtain ⟨j,v,M,rfl,hj,hw,hv,t0,t5,t6,rfl⟩:=hs
    by_cases hlt:j<t.uses.length
    ·rw [List.drop_eq_getElem_cons hlt] at hw hv
     simp only [Q4,Yh] at hw
     simp only [ndsL] at hv
     have hcc:=fun L=>QaK V n (by omega) t.uses[j] v L (Nat.le_trans (Z7 hlt) (by omega)) (by omega)
     have hdl:=Zy v (t.uses[j]).vars
     have hvl:=T.Qqh t.uses[j]
     repeat (first|((first|(with_reducible (first|refine Qa fun K E hK hE=>?_|refine Qk fun K E hK hE=>?_|refine FunW.ret (FunW.call (hcc _)) ?_)));simp -implicitDefEqProofs only [Qc,Qd,OpW,QE,aop,AS.ev,↓reduceIte,Qw,Qv,QK,aBin,aLen,goInt,ei50,un50,ti54,t0,t5,t6,hlt,Qay hlt,seval])|(with_reducible (first|refine Qf fun K hK=>?_|refine Qj ?_|refine Qm ?_|refine Qb ?_|refine Qo ?_))|((with_reducible refine hK _ ?_);clear hK)|(refine Qh rfl ?_;simp only [↓reduceIte]))
     refine Xi.mk (m':=t.uses.length - (j+1)) (by omega) ?_
     rw [hI]
     refine ⟨j+1,_,_,rfl,hlt,hw,by omega,rfl,t5,?_,rfl⟩
     simp only [upd,↓reduceIte]
     rw [Xk (by omega)]
    ·have hjl:j=t.uses.length:=by omega
     rw [hjl,List.drop_length] at hw
     simp only [Q4,ded] at hw
     repeat (first|(((with_reducible refine Qa fun K E hK hE=>?_));simp -implicitDefEqProofs only [Qc,Qd,OpW,aop,AS.ev,↓reduceIte,aBin,aLen,goInt,un50,t0,t5,t6,hlt,seval])|(with_reducible (first|refine Qf fun K hK=>?_|refine Ql ?_|refine QG ?_|refine Qb ?_|refine QD ?_|refine QC ?_))|((with_reducible refine hK _ ?_);clear hK)|(clear hK;(with_reducible refine hK _ ?_);clear hK)|(refine Qh rfl ?_;simp only [↓reduceIte,Qq3]))
     simp only [QF,Qn,Qr,upd,↓reduceIte,Qq5,Qq9]
     exact QcM V.len V.old (.keep (.sl 1 _ _ (Qan _ _) (fun b hb=>by cases hb;have:=V.lt;omega))) ⟨by rw [hw],by rw [hw]⟩
   ·rw [hI]
    exact ⟨0,_,_,by omega,Nat.zero_le _,hed,hlen',rfl,rfl,rfl,rfl⟩
theorem Qmi (h:AH) (e s:Nat):TokGr (fun n=>h++[.grow e s n]) (h.length+1) h.length e s where
 len:=fun n=>by simp
 lt:=by omega
 get:=fun n=>by rw [Z4];rfl
 set:=fun n n'=>by rw [QbK];rfl
theorem Qgv (t:T) (hn:t.nds≤1000000):Pure Tryd.prog 45 [t.av] (.sl 1 (ints (ded [] t.vars)) none):=by
 intro h
 refine Qe Tryd.func45 rfl Tryd.call45 Tryd.ntmps45 (congrArg Array.toList Tryd.results45) (by simp) ?_
 repeat (first|(((with_reducible refine Qa fun K E hK hE=>?_));simp -implicitDefEqProofs only [Qc,Qd,OpW,aop,undef,AS.ev,Qq,AV.Qp8,↓reduceIte,Qw,Qv,ti54,seval])|((with_reducible refine hK _ ?_);clear hK))
 refine Qh7 3 1 ?_
 have hcc:=QaK (Qmi (h++[.cells 54 4 [t.av]]) 3 1) 1000000 (Nat.le_refl _) t [] [] hn (by simpa using hn)
 simp only [List.append_assoc,Qrr,Qrq,Qrs,QmZ,Qrd] at hcc
 (try simp -implicitDefEqProofs only [Qc])
 (try simp only [hlen,Qrc,Qrd,Qrb] at hcc)
 repeat (first|(((with_reducible refine FunW.ret (FunW.call hcc) ?_));simp -implicitDefEqProofs only [Xb,Xh,Qd,OpW,QE,aop,AS.ev,Q8,Yq,↓reduceIte,Nat.reduceLT])|(with_reducible refine Ql ?_)|((with_reducible refine hK _ ?_);clear hK))
 simp only [QF,Qn,Qr,upd,↓reduceIte,Qq5,Qq9];first|refine Qi (htake _ _) (.tok (Qan _ _)) ⟨rfl,rfl⟩|refine Qi List.take_length (.tok (Qan _ _)) ⟨rfl,rfl⟩
theorem YP (n:Int) (a b:List Int):cntL n (a++b)=cntL (cntL n a) b:=List.foldl_append
theorem Qds:∀ (l:List Int) (n:Int),n<0→cntL n l<0
 |[],n,h=>h
 |v::l,n,h=>by
  show cntL (cntS n v) l<0
  rw [cntS,if_pos (.inl h)]
  exact Qds l _ (by decide)
theorem Qf5 (n v:Int):cntS n v = -1∨(0≤n∧0≤v∧v≤n∧cntS n v=max n (v+1)):=by
 unfold cntS
 split
 ·exact .inl rfl
 ·exact .inr ⟨by omega,by omega,by omega,rfl⟩
theorem ZN:∀ (l:List Int) (n:Int),0≤n→cntL n l≤n+l.length
 |[],n,h=>by show n≤n+(0:Nat);omega
 |v::l,n,h=>by
  show cntL (cntS n v) l≤_
  rw [List.length_cons]
  rcases Qf5 n v with e|⟨h1,h2,h3,e⟩
  ·rw [e]
   have:=Qds l (-1) (by decide)
   omega
  ·have:=ZN l (cntS n v) (by rw [e];omega)
   rw [e] at this ⊢
   omega
theorem Qh2:∀ (l:List Int) (n:Int) (u r:List Int),0≤n→(∀ v∈u,0≤v∧v<n)→0≤cntL n l→ded u l=u++r→cntL n r=cntL n l
 |[],n,u,r,_,_,_,h=>by
  have:r=[]:=by
   have h1:u=u++r:=h
   simpa using h1
  rw [this]
 |v::l,n,u,r,hn,hu,h0,h=>by
  have hc:0≤cntL (cntS n v) l:=h0
  have hs:0≤cntS n v:=by
   rcases Int.lt_or_le (cntS n v) 0 with q|q
   ·have:=Qds l _ q;omega
   ·exact q
  rcases Qf5 n v with e|⟨h1,h2,h3,e⟩
  ·rw [e] at hs;omega
  ·have h':ded (ins u v) l=u++r:=h
   show _=cntL (cntS n v) l
   by_cases hm:v∈u
   ·rw [show ins u v=u from if_pos hm] at h'
    have hv:=hu v hm
    have en:cntS n v=n:=by rw [e];omega
    rw [en] at hc ⊢
    exact Qh2 l n u r hn hu hc h'
   ·rw [show ins u v=u++[v] from if_neg hm] at h'
    obtain ⟨q,hq⟩:=Qa0 (u++[v]) l
    have hr:r=v::q:=by
     rw [h',List.append_assoc] at hq
     exact List.append_cancel_left hq
    have h'':ded (u++[v]) l=(u++[v])++q:=by rw [h',hr,List.append_assoc];rfl
    rw [hr]
    show cntL (cntS n v) q=_
    refine Qh2 l (cntS n v) (u++[v]) q hs (fun x hx=>?_) hc h''
    rcases List.mem_append.1 hx with hx|hx
    ·have:=hu x hx;rw [e];omega
    ·rw [List.mem_singleton] at hx;subst hx;rw [e];omega
theorem QmN {l:List Int} {n:Int} (hn:0≤n) (h:0≤cntL n l):cntL n (ded [] l)=cntL n l:=Qh2 l n [] _ hn (fun v hv=>(List.not_mem_nil hv).elim) h rfl
theorem Qb3 {a b:List Int} {n:Int} (h:0≤cntL n (a++b)):0≤cntL n a:=by
 rw [YP] at h
 rcases Int.lt_or_le (cntL n a) 0 with q|q
 ·have:=Qds b _ q;omega
 ·exact q
theorem Z5 (n0:Int) (h0:0≤n0) (l:List T) (hb:n0+ndsL l≤1000000) (hc:0≤cntL n0 (Q4 l)):Pure Tryd.prog 22 [.i n0,.sl 4 (avs l) none] (.i (cntL n0 (Q4 l))):=by
 intro h
 have hll:=YT l
 refine Qe Tryd.func22 rfl Tryd.call22 Tryd.ntmps22 (congrArg Array.toList Tryd.results22) (by simp) ?_
 repeat (first|(((with_reducible refine Qa fun K E hK hE=>?_));simp -implicitDefEqProofs only [Qc,Qd,OpW,aop,undef,AS.ev,Qq,↓reduceIte,aLen,goInt,un50,seval])|(with_reducible (first|refine Qf fun K hK=>?_|refine Qj ?_))|((with_reducible refine hK _ ?_);clear hK))
 obtain ⟨I,hI⟩:∃ I:Nat→AS→Prop,I=fun m' s=>∃ i:Nat,m'=l.length - i∧i≤l.length∧s.tm 0 = .i (cntL n0 (Q4 (l.take i)))∧s.tm 1 = .sl 4 (avs l) none∧s.tm 9 = .i l.length∧s.tm 10 = .i i∧∃ G,s.h=h++G:=⟨_,rfl⟩;refine QO I ?_ (m:=l.length) ?_
 ·intro m' s hs;rw [hI] at hs;obtain ⟨tm,hp⟩:=s;dsimp only at hs;obtain ⟨i,rfl,hi,t0,t1,t9,t10,G,rfl⟩:=hs
  by_cases hlt:i<l.length
  ·have z1:((i:Nat):Int)<((l.length:Nat):Int):=by omega
   have hl1:l.take (i+1)=l.take i++[l[i]]:=List.take_succ_eq_append_getElem hlt
   have hsp:Q4 l=Q4 (l.take i)++(l[i].vars++Q4 (l.drop (i+1))):=by
    have:=congrArg Q4 (List.take_append_drop i l)
    rw [Qae,List.drop_eq_getElem_cons hlt,Q4] at this
    exact this.symm
   have hnd:=Z7 hlt
   have c1:0≤cntL n0 (Q4 (l.take i)):=Qb3 (b:=l[i].vars++Q4 (l.drop (i+1))) (by rw [← hsp];exact hc)
   have c2:0≤cntL n0 (Q4 (l.take i)++l[i].vars):=Qb3 (b:=Q4 (l.drop (i+1))) (by rw [List.append_assoc,← hsp];exact hc)
   have hle:=ZN (Q4 l) n0 h0
   have hvl:=YL l
   rw [YP] at c2
   have hcv:=Qgv l[i] (by omega)
   have e2:=QmN c1 c2
   have e3:cntL n0 (Q4 (l.take (i+1)))=cntL (cntL n0 (Q4 (l.take i))) (ded [] l[i].vars):=by rw [hl1,Qae,Q4,Q4,List.append_nil,YP,e2]
   have c4:0≤cntL (cntL n0 (Q4 (l.take i))) (ded [] l[i].vars):=by rw [e2];exact c2
   have wi:IntKind.i64.wrap (((i:Nat):Int)+1)=((i+1:Nat):Int):=Xk (by omega)
   have hb2:cntL n0 (Q4 (l.take i))≤n0+ndsL l:=by
    have h1:=ZN (Q4 (l.take i)) n0 h0
    have h2:(Q4 (l.take i)).length≤(Q4 l).length:=by rw [hsp,List.length_append];omega
    omega
   have hdl:(ded [] l[i].vars).length≤1000000:=by
    have h1:=Zy [] l[i].vars
    have h2:=T.Qqh l[i]
    simp only [Qrd] at h1
    omega
   generalize hn1:cntL n0 (Q4 (l.take i))=n1 at *
   generalize hu:ded [] l[i].vars=us at *
   have hI0:=hI
   have e1:=T.Qp9 l[i]
   have e9:=T.Qqa l[i]
   repeat (first|((first|(with_reducible (first|refine Qa fun K E hK hE=>?_|refine Qz hcv ?_)));simp -implicitDefEqProofs only [Qc,Qd,OpW,QE,aop,AS.ev,↓reduceIte,Qw,Qv,QK,aBin,aLen,goInt,ei50,ti54,un82,t1,t9,t10,z1,Qay hlt,seval])|(with_reducible (first|refine Qf fun K hK=>?_|refine Qj ?_|refine Qm ?_|refine Qb ?_))|((with_reducible refine hK _ ?_);clear hK)|(refine Qh rfl ?_;simp only [↓reduceIte]))
   obtain ⟨I,hI⟩:∃ I:Nat→AS→Prop,I=fun m' s=>∃ k:Nat,m'=us.length - k∧k≤us.length∧s.tm 0 = .i (cntL n1 (us.take k))∧s.tm 1 = .sl 4 (avs l) none∧s.tm 9 = .i l.length∧s.tm 10 = .i i∧s.tm 17 = .sl 1 (ints us) none∧s.tm 18 = .i us.length∧s.tm 19 = .i k∧∃ G,s.h=h++G:=⟨_,rfl⟩;refine QO I ?_ (m:=us.length) ?_
   ·intro m' s hs;rw [hI] at hs;obtain ⟨tm,hp⟩:=s;dsimp only at hs;obtain ⟨k,rfl,hk,u0,u1,u9,u10,u17,u18,u19,G2,rfl⟩:=hs
    by_cases hkt:k<us.length
    ·have y1:((k:Nat):Int)<((us.length:Nat):Int):=by omega
     have hu1:us.take (k+1)=us.take k++[us[k]]:=List.take_succ_eq_append_getElem hkt
     have hus:us=us.take k++(us[k]::us.drop (k+1)):=by rw [← List.drop_eq_getElem_cons hkt,List.take_append_drop]
     have d1:0≤cntL n1 (us.take k):=Qb3 (b:=us[k]::us.drop (k+1)) (by rw [← hus];exact c4)
     have d2:0≤cntL n1 (us.take k++[us[k]]):=Qb3 (b:=us.drop (k+1)) (by rw [List.append_assoc];show 0≤cntL n1 (us.take k++(us[k]::us.drop (k+1)));rw [← hus];exact c4)
     have d3:=ZN (us.take k) n1 c1
     rw [List.length_take] at d3
     rw [YP] at d2
     have d4:cntL n1 (us.take (k+1))=cntS (cntL n1 (us.take k)) us[k]:=by rw [hu1,YP];rfl
     have d5:0≤cntS (cntL n1 (us.take k)) us[k]:=d2
     generalize cntL n1 (us.take k)=c at *
     have hat:(ints us)[k]? = some (.i us[k]):=Qdw hkt
     generalize us[k]=v at *
     rcases Qf5 c v with e|⟨q1,q2,q3,e⟩
     ·omega
     ·have y2:¬ c<0:=by omega
      have y3:¬ v>c:=by omega
      have y4:¬ c<v:=by omega
      have y5:¬ v<0:=by omega
      have w1:IntKind.i64.wrap (v+1)=v+1:=XR (by omega)
      have w2:IntKind.i64.wrap (((k:Nat):Int)+1)=((k+1:Nat):Int):=Xk (by omega)
      repeat (first|((first|(with_reducible (first|refine Qa fun K E hK hE=>?_|refine Qk fun K E hK hE=>?_)));simp -implicitDefEqProofs only [Qc,Qd,OpW,aop,AS.ev,↓reduceIte,Qw,Qv,QK,aBin,ti3,ei82,u0,u17,u18,u19,y1,hat,y2,y3,y5,w1,w2,seval])|(with_reducible (first|refine Qf fun K hK=>?_|refine Qj ?_|refine Qm ?_|refine Qb ?_|refine Qo ?_))|((with_reducible refine hK _ ?_);clear hK)|(refine Qh rfl ?_;simp only [↓reduceIte,Qq3]))
      refine Xi.mk (m':=us.length - (k+1)) (by omega) ?_
      rw [hI]
      refine ⟨k+1,rfl,hkt,?_,u1,u9,u10,u17,u18,rfl,_,rfl⟩
      rw [d4,e,show max c (v+1)=if v+1>c then v+1 else c by split <;> omega]
      rfl
    ·have hkl:k=us.length:=by omega
     have y1:¬ ((k:Nat):Int)<((us.length:Nat):Int):=by omega
     repeat (first|((first|(with_reducible (first|refine Qa fun K E hK hE=>?_|refine Qk fun K E hK hE=>?_)));simp -implicitDefEqProofs only [Qc,Qd,OpW,aop,AS.ev,↓reduceIte,aBin,u10,u18,u19,y1,wi,seval])|(with_reducible (first|refine Qf fun K hK=>?_|refine QG ?_|refine Qb ?_|refine QD ?_|refine Qo ?_|refine QC ?_))|((with_reducible refine hK _ ?_);clear hK)|(clear hK;(with_reducible refine hK _ ?_);clear hK)|(refine Qh rfl ?_;simp only [↓reduceIte,Qq3]))
     refine Xi.mk (m':=l.length - (i+1)) (by omega) ?_
     rw [hI0]
     refine ⟨i+1,rfl,hlt,?_,u1,u9,rfl,_,rfl⟩
     rw [e3]
     show tm 0=_
     rw [u0,hkl,List.take_length]
   ·rw [hI]
    exact ⟨0,rfl,Nat.zero_le _,t0,t1,t9,t10,rfl,rfl,rfl,_,rfl⟩
  ·have hil:i=l.length:=by omega
   have z1:¬ ((i:Nat):Int)<((l.length:Nat):Int):=by omega
   rw [hil,List.take_length] at t0
   repeat (first|(((with_reducible refine Qa fun K E hK hE=>?_));simp -implicitDefEqProofs only [Qc,Qd,OpW,aop,AS.ev,↓reduceIte,aBin,t0,t9,t10,z1,seval])|(with_reducible (first|refine Qf fun K hK=>?_|refine Ql ?_|refine QG ?_|refine Qb ?_|refine QD ?_|refine QC ?_))|((with_reducible refine hK _ ?_);clear hK)|(clear hK;(with_reducible refine hK _ ?_);clear hK)|(refine Qh rfl ?_;simp only [↓reduceIte,Qq3]))
   simp only [QF,Qn,Qr,upd,↓reduceIte,Qq5,Qq9];first|refine Qi (htake _ _) (.keep (.v _)) ⟨rfl,rfl⟩|refine Qi List.take_length (.keep (.v _)) ⟨rfl,rfl⟩
 ·rw [hI]
  exact ⟨0,rfl,Nat.zero_le _,rfl,rfl,rfl,rfl,[],by rw [List.append_nil]⟩
theorem Qde {s:ByteArray} (h:ZJ s=true):1≤s.size∧s.size≤40:=by
 rw [ZJ,Bool.and_eq_true,decide_eq_true_eq] at h
 exact ⟨h.1.1,h.1.2.1⟩
theorem Qa1 {s:ByteArray} (h:Zj s=true):s.size=0:=by
 unfold Zj at h
 rw [beq_iff_eq] at h
 have:=congrArg List.length h
 rw [Lib.toList_data,Lib.toList_data] at this
 simpa using this
mutual
theorem T.QqK:∀ t:T,t.Qqe=true→t.ok
 | .mk k i n l,h=>by
  rw [T.Qqe] at h
  rw [T.ok]
  split at h
  ·rename_i h0
   simp only [Bool.and_eq_true,decide_eq_true_eq,List.isEmpty_iff] at h
   obtain ⟨⟨h1,h2⟩,h3⟩:=h
   subst h3
   exact ⟨⟨by omega,by omega⟩,⟨by omega,by omega⟩,by rw [Qa1 h2];omega,trivial⟩
  ·split at h
   ·simp only [Bool.and_eq_true,decide_eq_true_eq,List.isEmpty_iff] at h
    obtain ⟨⟨h1,h2⟩,h3⟩:=h
    subst h3
    exact ⟨⟨by omega,by omega⟩,⟨by omega,by omega⟩,by rw [Qa1 h2];omega,trivial⟩
   ·split at h
    ·split at h
     ·cases h
     ·rename_i h4
      split at h
      ·cases h
      ·rename_i h5
       refine ⟨⟨by omega,by omega⟩,⟨by omega,by omega⟩,?_,Qca l h⟩
       by_cases hs:n.size=1
       ·omega
       ·have ho:=Qgn hs
        rw [ho,Bool.false_and,Bool.not_false,Bool.and_true] at h5
        have:=Qde (s:=n) (by simpa using h5)
        omega
    ·cases h
theorem Qca:∀ l:List T,Yx l=true→oks l
 |[],_=>trivial
 |t::l,h=>by
  rw [Yx,Bool.and_eq_true] at h
  exact ⟨T.QqK t h.1,Qca l h.2⟩
end
theorem QiM {g:G} (h:QP g=true) (ho:i64 g.op):g.ok:=by
 have hf:=Qbg h
 rw [QP,Bool.and_eq_true] at h
 have:=Qde h.1
 exact ⟨ho,by omega,Qca _ hf⟩
theorem QiY {g:G} (h:QU g=true):g.ok:=by
 rw [QU] at h
 split at h
 ·rename_i h0
  obtain ⟨_,h1,h2⟩:=QiM (g:=⟨0,g.name,g.args⟩) h ⟨by show (-9223372036854775808:Int)≤0;omega,by show (0:Int)≤9223372036854775807;omega⟩
  exact ⟨⟨by omega,by omega⟩,h1,h2⟩
 ·simp only [Bool.and_eq_true,decide_eq_true_eq] at h
  obtain ⟨h1,h2,h3,h4⟩:=h
  have hf:Yx g.args=true:=by
   rw [(ZK g.args 200 20 (by omega) (by omega)).1,Bool.and_eq_true] at h4
   exact h4.1
  exact ⟨⟨by omega,by omega⟩,by rw [Qa1 h2];omega,Qca _ hf⟩
theorem Qcn {g:G} (h:QP g=true):Pure Tryd.prog 21 [g.atom] (.b true):=by
 have h0:QP ⟨0,g.name,g.args⟩=true:=h
 have:=Qar ⟨0,g.name,g.args⟩ (by have:=(QfX h).2;show ndsL g.args≤1000000;omega) (QiM h0 ⟨by show (-9223372036854775808:Int)≤0;omega,by show (0:Int)≤9223372036854775807;omega⟩)
 rw [h0] at this
 exact this
theorem Qbn {g:G} (h:QU g=true):ndsL g.args≤200:=(Qdu h).2
theorem Qdr {g:G} (h:QP g=true):ndsL g.args≤200:=(QfX h).2
theorem Qd2 (g:G) (l:List G):QL (g::l)=Q4 g.args++QL l:=by simp [QL]
theorem Qfp (l m:List G):QL (l++m)=QL l++QL m:=by simp [QL]
theorem Qg5 (l:List G) {i:Nat} (h:i<l.length):QL l=QL (l.take i)++(Q4 l[i].args++QL (l.drop (i+1)))∧QL (l.take (i+1))=QL (l.take i)++Q4 l[i].args:=by
 constructor
 ·have:=congrArg QL (List.take_append_drop i l)
  rw [Qfp,List.drop_eq_getElem_cons h,Qd2] at this
  exact this.symm
 ·rw [List.take_succ_eq_append_getElem h,Qfp,Qd2]
  simp [QL]
theorem Qdt (l:List G) (n0:Int) (h0:0≤cntL n0 (QL l)) {i:Nat} (h:i<l.length):0≤cntL n0 (QL (l.take i))∧0≤cntL (cntL n0 (QL (l.take i))) (Q4 l[i].args)∧cntL n0 (QL (l.take (i+1)))=cntL (cntL n0 (QL (l.take i))) (Q4 l[i].args)∧(QL (l.take i)).length≤(QL l).length:=by
 obtain ⟨h1,h2⟩:=Qg5 l h
 rw [h1] at h0
 refine ⟨Qb3 h0,?_,by rw [h2,YP],by rw [h1,List.length_append];omega⟩
 rw [← List.append_assoc] at h0
 have:=Qb3 h0
 rwa [YP] at this
theorem Qkp (r:Rl) (hr:RlOk r):Pure Tryd.prog 8 [r.av] (.b true):=by
 intro h
 have rc:=Rl.cells r
 have ri:=Rl.isAgg r
 have lk:(vs G.atom r.keep).length=r.keep.length:=Y5 _ _
 have lr:(vs G.atom r.remove).length=r.remove.length:=Y5 _ _
 have lg:(vs G.goal r.guard).length=r.guard.length:=Y5 _ _
 have lb:(vs G.goal r.body).length=r.body.length:=Y5 _ _
 have h1:=hr.h1
 have h4:=hr.h4
 have hg12:=hr.g12
 have hb12:=hr.b12
 have bk:=Qa3 r.keep fun g hg=>Nat.le_trans (YL g.args) (Qdr (hr.ka g hg))
 have br:=Qa3 r.remove fun g hg=>Nat.le_trans (YL g.args) (Qdr (hr.ra g hg))
 have bg:=Qa3 r.guard fun g hg=>Nat.le_trans (YL g.args) (Qbn (hr.ga g hg))
 have bb:=Qa3 r.body fun g hg=>Nat.le_trans (YL g.args) (Qbn (hr.ba g hg))
 have eV:r.allV=QL r.keep++QL r.remove++QL r.guard++QL r.body:=by simp [Rl.allV,QL]
 have hcnt:=hr.cnt
 have hvl:0≤cntL 0 r.allV:=by rw [hcnt];exact hr.vnn
 rw [eV] at hvl hcnt
 have n4:=hvl
 have n3:=Qb3 n4
 have n2:=Qb3 n3
 have n1:=Qb3 n2
 have m1:=ZN (QL r.keep) 0 (by omega)
 rw [YP,YP,YP] at n4 hcnt
 rw [YP,YP] at n3
 rw [YP] at n2
 have m2:=ZN (QL r.remove) _ n1
 have m3:=ZN (QL r.guard) _ n2
 have m4:=ZN (QL r.body) _ n3
 change (QL r.keep).length≤_ at bk
 change (QL r.remove).length≤_ at br
 change (QL r.guard).length≤_ at bg
 change (QL r.body).length≤_ at bb
 have w1:IntKind.i64.wrap (((r.keep.length:Nat):Int)+((r.remove.length:Nat):Int))=((r.keep.length+r.remove.length:Nat):Int):=by rw [XR (by omega)];omega
 have w2:IntKind.i64.wrap (4 - ((r.keep.length:Nat):Int))=((4 - r.keep.length:Nat):Int):=by rw [XR (by omega)];omega
 have z1:¬ ((r.keep.length+r.remove.length:Nat):Int)<1:=by omega
 have z2:¬ ((r.keep.length:Nat):Int)>4:=by omega
 have z2':¬ (4:Int)<((r.keep.length:Nat):Int):=by omega
 have z3:¬ ((r.remove.length:Nat):Int)>((4 - r.keep.length:Nat):Int):=by omega
 have z3':¬ ((4 - r.keep.length:Nat):Int)<((r.remove.length:Nat):Int):=by omega
 have z4:¬ ((r.guard.length:Nat):Int)>12:=by omega
 have z4':¬ (12:Int)<((r.guard.length:Nat):Int):=by omega
 have z5:¬ ((r.body.length:Nat):Int)>12:=by omega
 have z5':¬ (12:Int)<((r.body.length:Nat):Int):=by omega
 refine Qe Tryd.func8 rfl Tryd.call8 Tryd.ntmps8 (congrArg Array.toList Tryd.results8) (by simp) ?_
 obtain ⟨N1,eN1⟩:∃ N,N=cntL 0 (QL r.keep):=⟨_,rfl⟩
 obtain ⟨N2,eN2⟩:∃ N,N=cntL N1 (QL r.remove):=⟨_,rfl⟩
 obtain ⟨N3,eN3⟩:∃ N,N=cntL N2 (QL r.guard):=⟨_,rfl⟩
 obtain ⟨N4,eN4⟩:∃ N,N=cntL N3 (QL r.body):=⟨_,rfl⟩
 have N1H:=n1
 have N2H:=n2
 have N3H:=n3
 have N4H:=n4
 rw [← eN1] at n1 n2 n3 n4 N2H N3H N4H hcnt m1 m2 m3 m4
 rw [← eN2] at n2 n3 n4 N3H N4H hcnt m2 m3 m4
 rw [← eN3] at n3 n4 N4H hcnt m3 m4
 rw [← eN4] at n4 hcnt m4
 have N1p:=n1
 have N2p:=n2
 have N3p:=n3
 iterate 2 (try (first|(((with_reducible refine Qa fun K E hK hE=>?_));simp -implicitDefEqProofs only [Qc,Qd,OpW,aop,undef,AS.ev,Qq,AV.Qp8,↓reduceIte,rc,seval])|((with_reducible refine hK _ ?_);clear hK)))
 refine QX (fun st=>st.tm 1 = .ptr h.length 0 0∧st.h=h++[.cells 34 6 [r.av]]) ?_ ?_
 ·rintro ⟨tm,hp⟩ ⟨t1,rfl⟩
  simp only at t1
  refine QX (fun st=>st.tm 1 = .ptr h.length 0 0∧st.tm 3 = .i 0∧st.h=h++[.cells 34 6 [r.av]]) ?_ ?_
  ·rintro ⟨tm,hp⟩ ⟨t1,t3,rfl⟩
   simp only at t1 t3
   refine QX (fun st=>st.tm 1 = .ptr h.length 0 0∧st.tm 3 = .i (N1)∧st.h=h++[.cells 34 6 [r.av]]) ?_ ?_
   ·rintro ⟨tm,hp⟩ ⟨t1,t3,rfl⟩
    simp only at t1 t3
    refine QX (fun st=>st.tm 1 = .ptr h.length 0 0∧st.tm 3 = .i (N2)∧st.h=h++[.cells 34 6 [r.av]]) ?_ ?_
    ·rintro ⟨tm,hp⟩ ⟨t1,t3,rfl⟩
     simp only at t1 t3
     refine QX (fun st=>st.tm 1 = .ptr h.length 0 0∧st.tm 3 = .i (N3)∧st.h=h++[.cells 34 6 [r.av]]) ?_ ?_
     ·rintro ⟨tm,hp⟩ ⟨t1,t3,rfl⟩
      simp only at t1 t3
      refine QX (fun st=>st.tm 1 = .ptr h.length 0 0∧st.tm 3 = .i (N4)∧st.h=h++[.cells 34 6 [r.av]]) ?_ ?_
      ·rintro ⟨tm,hp⟩ ⟨t1,t3,rfl⟩
       simp only at t1 t3
       have q1:(N4==r.vars)=true:=by rw [hcnt];exact beq_self_eq_true _
       repeat (first|(((with_reducible refine Qa fun K E hK hE=>?_));simp -implicitDefEqProofs only [Qc,Qd,OpW,aop,AS.ev,↓reduceIte,Qg,Qw,Qv,aBin,ti3,Qk6,t1,t3,rc,q1,seval])|(with_reducible refine Ql ?_)|((with_reducible refine hK _ ?_);clear hK))
       simp only [QF,Qn,Qr,upd,↓reduceIte,Qq5,Qq9];first|refine Qi (htake _ _) (.keep (.v _)) ⟨rfl,rfl⟩|refine Qi List.take_length (.keep (.v _)) ⟨rfl,rfl⟩
      ·repeat (first|(((with_reducible refine Qa fun K E hK hE=>?_));simp -implicitDefEqProofs only [Qc,Qd,OpW,aop,AS.ev,↓reduceIte,Nat.reduceLT,Qg,Qw,Qv,aLen,goInt,ti32,un32,ZQ,t1,rc,lb])|(with_reducible refine Qj ?_)|((with_reducible refine hK _ ?_);clear hK))
       obtain ⟨I,hI⟩:∃ I:Nat→AS→Prop,I=fun m' s=>∃ i:Nat,m'=r.body.length - i∧i≤r.body.length∧s.tm 1 = .ptr h.length 0 0∧s.tm 3 = .i (cntL (N3) (QL (r.body.take i)))∧s.tm 112 = .i r.body.length∧s.tm 113 = .i i∧s.h=h++[.cells 34 6 [r.av]]:=⟨_,rfl⟩;refine QO I ?_ (m:=r.body.length) ?_
       ·intro m' s hs;rw [hI] at hs;obtain ⟨tm,hp⟩:=s;dsimp only at hs;obtain ⟨i,rfl,hi,t1,t3,ta,tb,rfl⟩:=hs
        by_cases hlt:i<r.body.length
        ·have y1:((i:Nat):Int)<((r.body.length:Nat):Int):=by omega
         obtain ⟨c1,c2,c3,c4⟩:=Qdt r.body (N3) N4H hlt
         have c5:=ZN (QL (r.body.take i)) (N3) (N3p)
         have hm:=List.getElem_mem hlt
         have cR:=Qas r.body[i] (by have:=Qbn (hr.ba _ hm);omega) (QiY (hr.ba _ hm))
         rw [hr.ba _ hm] at cR
         have hnd:=Qbn (hr.ba _ hm)
         have wi:IntKind.i64.wrap (((i:Nat):Int)+1)=((i+1:Nat):Int):=Xk (by omega)
         have cC:=Z5 (cntL (N3) (QL (r.body.take i))) c1 r.body[i].args (by omega) c2
         rw [← c3] at cC
         generalize cntL (N3) (QL (r.body.take i))=nn at *
         have e1:=Q7 r.body[i]
         have e2:(G.goal r.body[i]).isAgg=true:=rfl
         repeat (first|((first|(with_reducible (first|refine Qa fun K E hK hE=>?_|refine Qk fun K E hK hE=>?_|refine Qz cR ?_|refine Qz cC ?_)));simp -implicitDefEqProofs only [Qc,Qd,OpW,QE,aop,AS.ev,↓reduceIte,Qg,Qw,Qv,QK,aBin,ti32,ei32,ZQ,ti50,ti52,ZG,t1,t3,ta,tb,y1,rc,lb,QhO (f:=G.goal) hlt,e1,e2,wi,seval])|(with_reducible (first|refine Qf fun K hK=>?_|refine Qj ?_|refine Qm ?_|refine Qb ?_|refine Qo ?_))|((with_reducible refine hK _ ?_);clear hK)|(refine Qh rfl ?_;simp only [↓reduceIte,Qq3]))
         refine Xi.mk (m':=r.body.length - (i+1)) (by omega) ?_
         rw [hI]
         exact ⟨i+1,rfl,hlt,t1,rfl,ta,rfl,rfl⟩
        ·have hil:i=r.body.length:=by omega
         have y1:¬ ((i:Nat):Int)<((r.body.length:Nat):Int):=by omega
         rw [hil,List.take_length] at t3
         repeat (first|(((with_reducible refine Qa fun K E hK hE=>?_));simp -implicitDefEqProofs only [Qc,Qd,OpW,aop,AS.ev,Nat.reduceLT,aBin,ta,tb,y1])|(with_reducible (first|refine Qf fun K hK=>?_|refine QG ?_|refine Qb ?_|refine QD ?_|refine QC ?_))|((with_reducible refine hK _ ?_);clear hK)|(refine Qh rfl ?_;simp only [↓reduceIte,Qq3]))
         exact ⟨t1,by rw [eN4];exact t3,rfl⟩
       ·rw [hI]
        exact ⟨0,rfl,Nat.zero_le _,t1,t3,rfl,rfl,rfl⟩
     ·repeat (first|(((with_reducible refine Qa fun K E hK hE=>?_));simp -implicitDefEqProofs only [Qc,Qd,OpW,aop,AS.ev,↓reduceIte,Nat.reduceLT,Qg,Qw,Qv,aLen,goInt,ti32,un32,Qa2,t1,rc,lg])|(with_reducible refine Qj ?_)|((with_reducible refine hK _ ?_);clear hK))
      obtain ⟨I,hI⟩:∃ I:Nat→AS→Prop,I=fun m' s=>∃ i:Nat,m'=r.guard.length - i∧i≤r.guard.length∧s.tm 1 = .ptr h.length 0 0∧s.tm 3 = .i (cntL (N2) (QL (r.guard.take i)))∧s.tm 90 = .i r.guard.length∧s.tm 91 = .i i∧s.h=h++[.cells 34 6 [r.av]]:=⟨_,rfl⟩;refine QO I ?_ (m:=r.guard.length) ?_
      ·intro m' s hs;rw [hI] at hs;obtain ⟨tm,hp⟩:=s;dsimp only at hs;obtain ⟨i,rfl,hi,t1,t3,ta,tb,rfl⟩:=hs
       by_cases hlt:i<r.guard.length
       ·have y1:((i:Nat):Int)<((r.guard.length:Nat):Int):=by omega
        obtain ⟨c1,c2,c3,c4⟩:=Qdt r.guard (N2) N3H hlt
        have c5:=ZN (QL (r.guard.take i)) (N2) (N2p)
        have hm:=List.getElem_mem hlt
        have cR:=Qas r.guard[i] (by have:=Qbn (hr.ga _ hm);omega) (QiY (hr.ga _ hm))
        rw [hr.ga _ hm] at cR
        have hnd:=Qbn (hr.ga _ hm)
        have wi:IntKind.i64.wrap (((i:Nat):Int)+1)=((i+1:Nat):Int):=Xk (by omega)
        have cC:=Z5 (cntL (N2) (QL (r.guard.take i))) c1 r.guard[i].args (by omega) c2
        rw [← c3] at cC
        generalize cntL (N2) (QL (r.guard.take i))=nn at *
        have e1:=Q7 r.guard[i]
        have e2:(G.goal r.guard[i]).isAgg=true:=rfl
        repeat (first|((first|(with_reducible (first|refine Qa fun K E hK hE=>?_|refine Qk fun K E hK hE=>?_|refine Qz cR ?_|refine Qz cC ?_)));simp -implicitDefEqProofs only [Qc,Qd,OpW,QE,aop,AS.ev,↓reduceIte,Qg,Qw,Qv,QK,aBin,ti32,ei32,Qa2,ti50,ti52,ZG,t1,t3,ta,tb,y1,rc,lg,QhO (f:=G.goal) hlt,e1,e2,wi,seval])|(with_reducible (first|refine Qf fun K hK=>?_|refine Qj ?_|refine Qm ?_|refine Qb ?_|refine Qo ?_))|((with_reducible refine hK _ ?_);clear hK)|(refine Qh rfl ?_;simp only [↓reduceIte,Qq3]))
        refine Xi.mk (m':=r.guard.length - (i+1)) (by omega) ?_
        rw [hI]
        exact ⟨i+1,rfl,hlt,t1,rfl,ta,rfl,rfl⟩
       ·have hil:i=r.guard.length:=by omega
        have y1:¬ ((i:Nat):Int)<((r.guard.length:Nat):Int):=by omega
        rw [hil,List.take_length] at t3
        repeat (first|(((with_reducible refine Qa fun K E hK hE=>?_));simp -implicitDefEqProofs only [Qc,Qd,OpW,aop,AS.ev,Nat.reduceLT,aBin,ta,tb,y1])|(with_reducible (first|refine Qf fun K hK=>?_|refine QG ?_|refine Qb ?_|refine QD ?_|refine QC ?_))|((with_reducible refine hK _ ?_);clear hK)|(refine Qh rfl ?_;simp only [↓reduceIte,Qq3]))
        exact ⟨t1,by rw [eN3];exact t3,rfl⟩
      ·rw [hI]
       exact ⟨0,rfl,Nat.zero_le _,t1,t3,rfl,rfl,rfl⟩
    ·repeat (first|(((with_reducible refine Qa fun K E hK hE=>?_));simp -implicitDefEqProofs only [Qc,Qd,OpW,aop,AS.ev,↓reduceIte,Nat.reduceLT,Qg,Qw,Qv,aLen,goInt,ti31,un31,Qb7,t1,rc,lr])|(with_reducible refine Qj ?_)|((with_reducible refine hK _ ?_);clear hK))
     obtain ⟨I,hI⟩:∃ I:Nat→AS→Prop,I=fun m' s=>∃ i:Nat,m'=r.remove.length - i∧i≤r.remove.length∧s.tm 1 = .ptr h.length 0 0∧s.tm 3 = .i (cntL (N1) (QL (r.remove.take i)))∧s.tm 68 = .i r.remove.length∧s.tm 69 = .i i∧s.h=h++[.cells 34 6 [r.av]]:=⟨_,rfl⟩;refine QO I ?_ (m:=r.remove.length) ?_
     ·intro m' s hs;rw [hI] at hs;obtain ⟨tm,hp⟩:=s;dsimp only at hs;obtain ⟨i,rfl,hi,t1,t3,ta,tb,rfl⟩:=hs
      by_cases hlt:i<r.remove.length
      ·have y1:((i:Nat):Int)<((r.remove.length:Nat):Int):=by omega
       obtain ⟨c1,c2,c3,c4⟩:=Qdt r.remove (N1) N2H hlt
       have c5:=ZN (QL (r.remove.take i)) (N1) (N1p)
       have hm:=List.getElem_mem hlt
       have cR:=Qcn (hr.ra _ hm)
       have hnd:=Qdr (hr.ra _ hm)
       have wi:IntKind.i64.wrap (((i:Nat):Int)+1)=((i+1:Nat):Int):=Xk (by omega)
       have cC:=Z5 (cntL (N1) (QL (r.remove.take i))) c1 r.remove[i].args (by omega) c2
       rw [← c3] at cC
       generalize cntL (N1) (QL (r.remove.take i))=nn at *
       have e1:=YO r.remove[i]
       have e2:(G.atom r.remove[i]).isAgg=true:=rfl
       repeat (first|((first|(with_reducible (first|refine Qa fun K E hK hE=>?_|refine Qk fun K E hK hE=>?_|refine Qz cR ?_|refine Qz cC ?_)));simp -implicitDefEqProofs only [Qc,Qd,OpW,QE,aop,AS.ev,↓reduceIte,Qg,Qw,Qv,QK,aBin,ti31,ei31,Qb7,ti50,ti72,Zs,t1,t3,ta,tb,y1,rc,lr,QhO (f:=G.atom) hlt,e1,e2,wi,seval])|(with_reducible (first|refine Qf fun K hK=>?_|refine Qj ?_|refine Qm ?_|refine Qb ?_|refine Qo ?_))|((with_reducible refine hK _ ?_);clear hK)|(refine Qh rfl ?_;simp only [↓reduceIte,Qq3]))
       refine Xi.mk (m':=r.remove.length - (i+1)) (by omega) ?_
       rw [hI]
       exact ⟨i+1,rfl,hlt,t1,rfl,ta,rfl,rfl⟩
      ·have hil:i=r.remove.length:=by omega
       have y1:¬ ((i:Nat):Int)<((r.remove.length:Nat):Int):=by omega
       rw [hil,List.take_length] at t3
       repeat (first|(((with_reducible refine Qa fun K E hK hE=>?_));simp -implicitDefEqProofs only [Qc,Qd,OpW,aop,AS.ev,Nat.reduceLT,aBin,ta,tb,y1])|(with_reducible (first|refine Qf fun K hK=>?_|refine QG ?_|refine Qb ?_|refine QD ?_|refine QC ?_))|((with_reducible refine hK _ ?_);clear hK)|(refine Qh rfl ?_;simp only [↓reduceIte,Qq3]))
       exact ⟨t1,by rw [eN2];exact t3,rfl⟩
     ·rw [hI]
      exact ⟨0,rfl,Nat.zero_le _,t1,t3,rfl,rfl,rfl⟩
   ·repeat (first|(((with_reducible refine Qa fun K E hK hE=>?_));simp -implicitDefEqProofs only [Qc,Qd,OpW,aop,AS.ev,↓reduceIte,Nat.reduceLT,Qg,Qw,Qv,aLen,goInt,ti31,un31,Qby,t1,rc,lk])|(with_reducible refine Qj ?_)|((with_reducible refine hK _ ?_);clear hK))
    obtain ⟨I,hI⟩:∃ I:Nat→AS→Prop,I=fun m' s=>∃ i:Nat,m'=r.keep.length - i∧i≤r.keep.length∧s.tm 1 = .ptr h.length 0 0∧s.tm 3 = .i (cntL (0) (QL (r.keep.take i)))∧s.tm 46 = .i r.keep.length∧s.tm 47 = .i i∧s.h=h++[.cells 34 6 [r.av]]:=⟨_,rfl⟩;refine QO I ?_ (m:=r.keep.length) ?_
    ·intro m' s hs;rw [hI] at hs;obtain ⟨tm,hp⟩:=s;dsimp only at hs;obtain ⟨i,rfl,hi,t1,t3,ta,tb,rfl⟩:=hs
     by_cases hlt:i<r.keep.length
     ·have y1:((i:Nat):Int)<((r.keep.length:Nat):Int):=by omega
      obtain ⟨c1,c2,c3,c4⟩:=Qdt r.keep (0) N1H hlt
      have c5:=ZN (QL (r.keep.take i)) (0) (by omega)
      have hm:=List.getElem_mem hlt
      have cR:=Qcn (hr.ka _ hm)
      have hnd:=Qdr (hr.ka _ hm)
      have wi:IntKind.i64.wrap (((i:Nat):Int)+1)=((i+1:Nat):Int):=Xk (by omega)
      have cC:=Z5 (cntL (0) (QL (r.keep.take i))) c1 r.keep[i].args (by omega) c2
      rw [← c3] at cC
      generalize cntL (0) (QL (r.keep.take i))=nn at *
      have e1:=YO r.keep[i]
      have e2:(G.atom r.keep[i]).isAgg=true:=rfl
      repeat (first|((first|(with_reducible (first|refine Qa fun K E hK hE=>?_|refine Qk fun K E hK hE=>?_|refine Qz cR ?_|refine Qz cC ?_)));simp -implicitDefEqProofs only [Qc,Qd,OpW,QE,aop,AS.ev,↓reduceIte,Qg,Qw,Qv,QK,aBin,ti31,ei31,Qby,ti50,ti72,Zs,t1,t3,ta,tb,y1,rc,lk,QhO (f:=G.atom) hlt,e1,e2,wi,seval])|(with_reducible (first|refine Qf fun K hK=>?_|refine Qj ?_|refine Qm ?_|refine Qb ?_|refine Qo ?_))|((with_reducible refine hK _ ?_);clear hK)|(refine Qh rfl ?_;simp only [↓reduceIte,Qq3]))
      refine Xi.mk (m':=r.keep.length - (i+1)) (by omega) ?_
      rw [hI]
      exact ⟨i+1,rfl,hlt,t1,rfl,ta,rfl,rfl⟩
     ·have hil:i=r.keep.length:=by omega
      have y1:¬ ((i:Nat):Int)<((r.keep.length:Nat):Int):=by omega
      rw [hil,List.take_length] at t3
      repeat (first|(((with_reducible refine Qa fun K E hK hE=>?_));simp -implicitDefEqProofs only [Qc,Qd,OpW,aop,AS.ev,Nat.reduceLT,aBin,ta,tb,y1])|(with_reducible (first|refine Qf fun K hK=>?_|refine QG ?_|refine Qb ?_|refine QD ?_|refine QC ?_))|((with_reducible refine hK _ ?_);clear hK)|(refine Qh rfl ?_;simp only [↓reduceIte,Qq3]))
      exact ⟨t1,by rw [eN1];exact t3,rfl⟩
    ·rw [hI]
     exact ⟨0,rfl,Nat.zero_le _,t1,t3,rfl,rfl,rfl⟩
  ·repeat (first|(((with_reducible refine Qk fun K E hK hE=>?_));simp -implicitDefEqProofs only [Xb,Xh,Qd,OpW,aop,AS.ev,Q8,QbN,Nat.reduceLT])|(with_reducible refine Qb ?_)|((with_reducible refine hK _ ?_);clear hK))
   exact ⟨t1,rfl,rfl⟩
 ·(with_reducible refine Qa fun K E hK hE=>?_)
  (try simp only [QrA]);refine QA 8 (fun K1 hK1=>?_);simp -implicitDefEqProofs only [Qc,Qd,OpW,aop,AS.ev,↓reduceIte,Qg,Qw,Qv,aBin,aLen,goInt,ti31,un31,Qby,Qb7,rc,lk,lr,w1,z1,seval];refine hK1 _ ?_;clear hK1
  (try simp only [Qq8,Qrg]);refine QA 8 (fun K1 hK1=>?_);simp -implicitDefEqProofs only [Qc,Qd,OpW,aop,AS.ev,↓reduceIte,Qg,Qw,Qv,aBin,aLen,goInt,ti31,un31,Qby,Qb7,rc,lk,z2,seval];refine hK1 _ ?_;clear hK1
  (try simp only [Qq8,Qrg]);refine QA 8 (fun K1 hK1=>?_);simp -implicitDefEqProofs only [Qc,Qd,OpW,aop,AS.ev,↓reduceIte,Qg,Qw,Qv,aBin,aLen,goInt,ti31,un31,Qby,rc,lk,lr,w2,z3,seval];refine hK1 _ ?_;clear hK1
  (try simp only [Qq8,Qrg])
  simp -implicitDefEqProofs only [Qc,Qd,OpW,aop,AS.ev,↓reduceIte,Qg,Qw,Qv,aBin,aLen,goInt,ti32,un32,Qa2,ZQ,rc,lg,lb,z4,z5,seval]
  repeat (first|(with_reducible (first|refine Qm ?_|refine Qb ?_))|((with_reducible refine hK _ ?_);clear hK)|(refine Qh rfl ?_;simp only [↓reduceIte,Qq3]))
  exact ⟨rfl,rfl⟩
theorem Qid (l:List ByteArray) (hl:l.length≤1000000):Pure Tryd.prog 14 [.sl 1 (strs l) none,.sl 1 (strs l) none] (.b true):=by
 intro h
 refine Qe Tryd.func14 rfl Tryd.call14 Tryd.ntmps14 (congrArg Array.toList Tryd.results14) (by simp) ?_
 repeat (first|(((with_reducible refine Qa fun K E hK hE=>?_));simp -implicitDefEqProofs only [Qc,Qd,OpW,aop,undef,AS.ev,Qq,↓reduceIte,aBin,aLen,goInt,un46,YK,seval])|(with_reducible (first|refine Qf fun K hK=>?_|refine Qj ?_|refine Qm ?_|refine Qb ?_))|((with_reducible refine hK _ ?_);clear hK)|(refine Qh rfl ?_;simp only [↓reduceIte,Qq3]))
 obtain ⟨I,hI⟩:∃ I:Nat→AS→Prop,I=fun m' s=>∃ j:Nat,m'=l.length - j∧j≤l.length∧s.tm 0 = .sl 1 (strs l) none∧s.tm 1 = .sl 1 (strs l) none∧s.tm 12 = .i l.length∧s.tm 13 = .i j∧s.h=h:=⟨_,rfl⟩;refine QO I ?_ (m:=l.length) ?_
 ·intro m' s hs;rw [hI] at hs;obtain ⟨tm,hp⟩:=s;dsimp only at hs;obtain ⟨j,rfl,hj,t0,t1,ta,tb,rfl⟩:=hs
  by_cases hlt:j<l.length
  ·have y1:((j:Nat):Int)<((l.length:Nat):Int):=by omega
   have wj:IntKind.i64.wrap (((j:Nat):Int)+1)=((j+1:Nat):Int):=Xk (by omega)
   have hat:(strs l)[j]? = some (.v (.string l[j])):=by rw [strs,List.getElem?_map,List.getElem?_eq_getElem hlt];rfl
   repeat (first|((first|(with_reducible (first|refine Qa fun K E hK hE=>?_|refine Qk fun K E hK hE=>?_))|(refine Xj (id:=6) [(0,0),(1,0),(2,0),(3,0),(4,0),(5,0),(6,0),(7,0),(8,0)] mixed (by kernel_rfl) fun K hK=>?_));simp -implicitDefEqProofs only [Qc,Qd,OpW,aop,AS.ev,↓reduceIte,Qw,Qv,QK,aBin,ti9,ei46,t0,t1,ta,tb,y1,wj,YK,hat,seval])|(with_reducible (first|refine Qf fun K hK=>?_|refine Qj ?_|refine Qm ?_|refine Qb ?_|refine Qo ?_))|((with_reducible refine hK _ ?_);clear hK)|(refine Qh rfl ?_;simp only [↓reduceIte,Qq3]))
   refine Xi.mk (m':=l.length - (j+1)) (by omega) ?_
   rw [hI]
   exact ⟨j+1,rfl,hlt,t0,t1,ta,rfl,rfl⟩
  ·have y1:¬ ((j:Nat):Int)<((l.length:Nat):Int):=by omega
   repeat (first|(((with_reducible refine Qa fun K E hK hE=>?_));simp -implicitDefEqProofs only [Qc,Qd,OpW,aop,AS.ev,Nat.reduceLT,aBin,ta,tb,y1])|(with_reducible (first|refine Qf fun K hK=>?_|refine Ql ?_|refine QG ?_|refine Qb ?_|refine QD ?_|refine QC ?_))|((with_reducible refine hK _ ?_);clear hK)|(clear hK;(with_reducible refine hK _ ?_);clear hK)|(refine Qh rfl ?_;simp only [↓reduceIte,Qq3]))
   simp only [QF,Qn,Qr,upd,↓reduceIte,Qq5,Qq9];first|refine Qi (htake _ _) (.keep (.v _)) ⟨rfl,rfl⟩|refine Qi List.take_length (.keep (.v _)) ⟨rfl,rfl⟩
 ·rw [hI]
  exact ⟨0,rfl,Nat.zero_le _,rfl,rfl,rfl,rfl,rfl⟩
structure RlB (r:Rl):Prop where
 ke:r.keep.length≤1000000∧∀ g∈r.keep,ndsL g.args≤1000000
 re:r.remove.length≤1000000∧∀ g∈r.remove,ndsL g.args≤1000000
 gu:r.guard.length≤1000000∧∀ g∈r.guard,ndsL g.args≤1000000
 bo:r.body.length≤1000000∧∀ g∈r.body,ndsL g.args≤1000000
end Go.Proofs.YticgcpebdldbgaaDoor.Ab
set_option maxRecDepth 8000
namespace Go.Proofs.YticgcpebdldbgaaDoor.Ab
open Go.Proofs
def exS1:List UInt8:=[99,111,110,115,116,114,97,105,110,116,32,112,47,49,46,32,114,32,64,32,112,40,88,41,32,92,32,112,40,89,41,32,60,61,62,32,88,32,62,32,89,32,124,32,116,114,117,101,46]
def exS2:List UInt8:=[112,40,88,41,32,60,61,62,32,88,46]
def exS3:List UInt8:=[112,40,88,44,32,95,44,32,89,41,44,32,88,32,61,32,49,32,45,32,45,50]
def exG0:G:=⟨7,eB,[T.mk 1 1 eB [],T.mk 1 0 eB []]⟩
def exR:Rl:=⟨{data:=#[114]},[⟨0,{data:=#[112]},[T.mk 1 0 eB []]⟩],[⟨0,{data:=#[112]},[T.mk 1 1 eB []]⟩],[exG0],[],2⟩
def exP:Pg:=⟨[⟨{data:=#[112]},1⟩],[exR]⟩
def exT:T:=.mk 2 0 {data:=#[45]} [.mk 0 1 eB [],.mk 0 (-2) eB []]
def exG1:G:=⟨3,eB,[T.mk 1 0 eB [],exT]⟩
def exL:List G:=[⟨0,{data:=#[112]},[T.mk 1 0 eB [],T.mk 1 1 eB [],T.mk 1 2 eB []]⟩,exG1]
def exN:List ByteArray:=[{data:=#[88]},{data:=#[95]},{data:=#[89]}]
theorem exW1:QaT exS1 = .inl exP:=by kernel_rfl
theorem exW2:QaT exS2 = .inr (10,16):=by kernel_rfl
theorem exW3:Qhp exS3 = .inl (exL,exN):=by kernel_rfl
def strX:List AV:=[.v (.string {data:=#[88]}),.v (.string {data:=#[95]}),.v (.string {data:=#[89]})]
theorem Qe4 (h:AH) (hG:ZP h):QJ Tryd.prog 6 [] h fun o h'=>o = .ret (.b true)∧h'=h:=by
 have c1:=fun L=>Qbq exS1 (h++L) (hG.app L)
 have c2:=fun L=>Qbq exS2 (h++L) (hG.app L)
 have c3:=fun L=>Qiw exS3 (h++L) (hG.app L)
 have c1':=Qbq exS1 h hG
 rw [exW1,psR] at c1'
 simp only [exW2,psR] at c2
 simp only [exW3,sqR] at c3
 rw [show mkB exS1={data:=#[99,111,110,115,116,114,97,105,110,116,32,112,47,49,46,32,114,32,64,32,112,40,88,41,32,92,32,112,40,89,41,32,60,61,62,32,88,32,62,32,89,32,124,32,116,114,117,101,46]} from rfl] at c1'
 simp only [show mkB exS2={data:=#[112,40,88,41,32,60,61,62,32,88,46]} from rfl] at c2
 simp only [show mkB exS3={data:=#[112,40,88,44,32,95,44,32,89,41,44,32,88,32,61,32,49,32,45,32,45,50]} from rfl,show strs exN=strX from rfl] at c3
 have cT:Pure Tryd.prog 14 [.sl 1 strX none,.sl 1 strX none] (.b true):=Qid exN (by decide)
 have pc:=Pg.cells exP
 have pi:=Pg.isAgg exP
 have zc:=Pg.cells ⟨[],[]⟩
 have zi:=Pg.isAgg ⟨[],[]⟩
 have rc:=Rl.cells exR
 have ri:=Rl.isAgg exR
 refine Qe Tryd.func6 rfl Tryd.call6 Tryd.ntmps6 (congrArg Array.toList Tryd.results6) (by simp) ?_
 iterate 2 (try (first|(((with_reducible refine Qa fun K E hK hE=>?_));simp -implicitDefEqProofs only [Xb,Xh,Qd,OpW,aop,AS.ev,Q8,Yf,Nat.reduceLT])|((with_reducible refine hK _ ?_);clear hK)))
 refine QX (fun st=>st.tm 1 = .ptr h.length 0 0∧st.tm 2 = .i 0∧st.tm 3 = .i 0∧st.h=h++[.cells 26 2 [exP.av]]) ?_ ?_
 ·rintro ⟨tm,hp⟩ ⟨t1,t2,t3,rfl⟩
  simp only at t1 t2 t3
  refine QX (fun st=>st.tm 1 = .ptr h.length 0 0∧st.tm 2 = .i 0∧st.tm 3 = .i 0∧st.tm 5 = .i 10∧st.tm 6 = .i 16∧st.h=h++[.cells 26 2 [exP.av],.cells 26 2 [(⟨[],[]⟩:Pg).av]]) ?_ ?_
  ·rintro ⟨tm,hp⟩ ⟨t1,t2,t3,t5,t6,rfl⟩
   simp only at t1 t2 t3 t5 t6
   refine QX (fun st=>st.tm 1 = .ptr h.length 0 0∧st.tm 2 = .i 0∧st.tm 3 = .i 0∧st.tm 5 = .i 10∧st.tm 6 = .i 16∧st.tm 7 = .sl 3 (vs G.goal exL) none∧st.tm 8 = .sl 1 strX none∧st.tm 10 = .i 0∧st.h=h++[.cells 26 2 [exP.av],.cells 26 2 [(⟨[],[]⟩:Pg).av]]) ?_ ?_
   ·rintro ⟨tm,hp⟩ ⟨t1,t2,t3,t5,t6,t7,t8,t10,rfl⟩
    simp only at t1 t2 t3 t5 t6 t7 t8 t10
    refine QX (fun st=>st.tm 1 = .ptr h.length 0 0∧st.tm 7 = .sl 3 (vs G.goal exL) none∧st.h=h++[.cells 26 2 [exP.av],.cells 26 2 [(⟨[],[]⟩:Pg).av]]) ?_ ?_
    ·rintro ⟨tm,hp⟩ ⟨t1,t7,rfl⟩
     simp only at t1 t7
     refine QX (fun st=>st.tm 11 = .ptr (h.length+2) 0 0∧st.tm 7 = .sl 3 (vs G.goal exL) none∧st.h=h++[.cells 26 2 [exP.av],.cells 26 2 [(⟨[],[]⟩:Pg).av],.cells 34 6 [exR.av]]) ?_ ?_
     ·rintro ⟨tm,hp⟩ ⟨t11,t7,rfl⟩
      simp only at t11 t7
      have q1:(exR.name.toList==({data:=#[114]}:ByteArray).toList)=true:=beq_self_eq_true _
      have k1:(vs G.atom exR.keep).length=1:=rfl
      have k2:(vs G.atom exR.remove).length=1:=rfl
      have k3:(vs G.goal exR.guard).length=1:=rfl
      have k4:(vs G.goal exR.body).length=0:=rfl
      have g0:(vs G.goal exR.guard)[0]? = some exG0.goal:=rfl
      have e1:=Q7 exG0
      have e2:exG0.goal.isAgg=true:=rfl
      have a0:(avs exG0.args)[0]? = some (T.mk 1 1 eB []).av:=rfl
      have x1:(exG0.op==7)=true:=rfl
      have g1:(vs G.goal exL)[1]? = some exG1.goal:=rfl
      have e3:=Q7 exG1
      have e4:exG1.goal.isAgg=true:=rfl
      have a1:(avs exG1.args)[1]? = some exT.av:=rfl
      have a2:(avs exT.args)[1]? = some (T.mk 0 (-2) eB []).av:=rfl
      have a3:(avs exT.args).length=2:=rfl
      have a4:(avs exG1.args).length=2:=rfl
      have a5:(avs exG0.args).length=2:=rfl
      have a6:(vs G.goal exL).length=2:=rfl
      have x2:((T.mk 1 1 eB []).int==1)=true:=rfl
      have x3:((T.mk 0 (-2) eB []).int == -2)=true:=rfl
      have x4:(exR.vars==2)=true:=rfl
      have u0:(0:Int)<((1:Nat):Int):=by decide
      have u1:(1:Int)<((2:Nat):Int):=by decide
      have u2:(0:Int)<((2:Nat):Int):=by decide
      have u3:(((1:Nat):Int)==1)=true:=rfl
      have u4:(((0:Nat):Int)==0)=true:=rfl
      have u5:(0:Int)≤1:=by decide
      (with_reducible refine Qa fun K E hK hE=>?_)
      simp only [List.append_eq,Qrr,Qrq]
      (try simp only [QrA,Qq8,Qrg]);refine QA 8 (fun K1 hK1=>?_);simp -implicitDefEqProofs only [Qc,Qd,OpW,aop,AS.ev,↓reduceIte,Qg,Qw,Qv,aBin,aLen,goInt,ti9,ti31,un31,QnJ,Qby,t11,rc,q1,k1,u3,seval];refine hK1 _ ?_;clear hK1
      (try simp only [Qq8,Qrg]);refine QA 8 (fun K1 hK1=>?_);simp -implicitDefEqProofs only [Qc,Qd,OpW,aop,AS.ev,↓reduceIte,Qg,Qw,Qv,aBin,aLen,goInt,ti31,un31,Qb7,t11,rc,k2,u3,seval];refine hK1 _ ?_;clear hK1
      (try simp only [Qq8,Qrg]);refine QA 8 (fun K1 hK1=>?_);simp -implicitDefEqProofs only [Qc,Qd,OpW,aop,AS.ev,↓reduceIte,Qg,Qw,Qv,aBin,aLen,goInt,ti32,un32,Qa2,t11,rc,k3,u3,seval];refine hK1 _ ?_;clear hK1
      (try simp only [Qq8,Qrg]);refine QA 8 (fun K1 hK1=>?_);simp -implicitDefEqProofs only [Qc,Qd,OpW,aop,AS.ev,↓reduceIte,Qg,Qw,Qv,QK,aBin,ti3,ti32,ei32,Qa2,X4,QrM,t11,rc,k3,g0,e1,x1,u0,seval];refine hK1 _ ?_;clear hK1
      (try simp only [Qq8,Qrg]);refine QA 8 (fun K1 hK1=>?_);simp -implicitDefEqProofs only [Qc,Qd,OpW,aop,AS.ev,↓reduceIte,Qg,Qw,Qv,QK,aBin,ti3,ei32,ti50,ei50,ZG,Xz,QrM,k3,g0,e1,a0,a5,x2,u0,u2,seval];refine hK1 _ ?_;clear hK1
      (try simp only [Qq8,Qrg]);refine QA 8 (fun K1 hK1=>?_);simp -implicitDefEqProofs only [Qc,Qd,OpW,aop,AS.ev,↓reduceIte,Qg,Qw,Qv,aBin,aLen,goInt,ti32,un32,ZQ,Qk6,t11,rc,k4,seval];refine hK1 _ ?_;clear hK1
      (try simp only [Qq8,Qrg]);refine QA 8 (fun K1 hK1=>?_);simp -implicitDefEqProofs only [Qc,Qd,OpW,aop,AS.ev,↓reduceIte,Qg,Qw,Qv,QK,aBin,ti3,ei32,ti50,ZG,t7,rc,g1,e3,a6,x4,u1,u5,seval];refine hK1 _ ?_;clear hK1
      (try simp only [Qq8,Qrg])
      simp -implicitDefEqProofs only [Qc,Qd,OpW,aop,AS.ev,↓reduceIte,Qg,Qw,Qv,QK,aBin,ti3,ti50,ei50,Xz,Yk,a1,a2,a3,a4,x3,u1,u5,seval]
      repeat (first|(with_reducible refine Ql ?_)|((with_reducible refine hK _ ?_);clear hK))
      simp only [QF,Qn,Qr,upd,↓reduceIte,Qq5,Qq9];first|refine Qi (htake _ _) (.keep (.v _)) ⟨rfl,rfl⟩|refine Qi List.take_length (.keep (.v _)) ⟨rfl,rfl⟩
     ·have hl:(vs Rl.av exP.rules).length=1:=rfl
      have hg:(vs Rl.av exP.rules)[0]? = some exR.av:=rfl
      have u0:(0:Int)<((1:Nat):Int):=by decide
      repeat (first|(((with_reducible refine Qk fun K E hK hE=>?_));simp -implicitDefEqProofs only [Qc,Qd,OpW,aop,undef,AS.ev,AV.Qp8,↓reduceIte,Qg,Qw,Qv,QB,Qp,QK,ti24,ei24,QaS,ti34,zi34,QrM,t1,pc,hl,hg,rc,ri,u0,seval])|(with_reducible refine Qb ?_)|((with_reducible refine hK _ ?_);clear hK))
      exact ⟨rfl,t7,rfl⟩
    ·have k1:(vs Dc.av exP.decls).length=1:=rfl
     have k2:(vs Rl.av exP.rules).length=1:=rfl
     have k3:(vs G.goal exL).length=2:=rfl
     have u3:(((1:Nat):Int) != 1)=false:=rfl
     have u4:(((2:Nat):Int) != 2)=false:=rfl
     have eX:[AV.v (.string {data:=#[88]}),.v (.string {data:=#[95]}),.v (.string {data:=#[89]})]=strX:=rfl
     (with_reducible refine Qa fun K E hK hE=>?_)
     (try simp only [QrA])
     (try simp only [QrA,Qq8,Qrg]);refine QA 8 (fun K1 hK1=>?_);simp -implicitDefEqProofs only [Qc,Qd,OpW,aop,AS.ev,↓reduceIte,Qg,aBin,QiS,t1,t2,t3,seval];refine hK1 _ ?_;clear hK1
     (try simp only [Qq8,Qrg]);refine QA 8 (fun K1 hK1=>?_);simp -implicitDefEqProofs only [Qc,Qd,OpW,aop,AS.ev,↓reduceIte,Qg,Qw,Qv,aBin,aLen,goInt,ti23,un23,ti24,un24,QaS,t1,pc,k1,k2,u3,seval];refine hK1 _ ?_;clear hK1
     (try simp only [Qq8,Qrg]);refine QA 8 (fun K1 hK1=>?_);simp -implicitDefEqProofs only [Qc,Qd,OpW,aop,AS.ev,↓reduceIte,aBin,t5,t6,u3,seval];refine hK1 _ ?_;clear hK1
     (try simp only [Qq8,Qrg]);refine QA 8 (fun K1 hK1=>?_);simp -implicitDefEqProofs only [Qc,Qd,OpW,aop,AS.ev,↓reduceIte,aBin,t7,t10,seval];refine hK1 _ ?_;clear hK1
     (try simp only [Qq8,Qrg])
     simp -implicitDefEqProofs only [Qc,Qd,OpW,aop,AS.ev,AV.Qp8,↓reduceIte,aBin,QH,aLen,goInt,zi9,un32,ei46,t8,k3,u4,eX,seval]
     repeat (first|(((with_reducible refine Qz cT ?_));simp -implicitDefEqProofs only [Qc,Qd,OpW,QE,aop,AS.ev,↓reduceIte,seval])|(with_reducible (first|refine Qm ?_|refine Qb ?_))|((with_reducible refine hK _ ?_);clear hK)|(refine Qh rfl ?_;simp only [↓reduceIte,Qq3]))
     exact ⟨t1,t7,rfl⟩
   ·repeat (first|((first|(with_reducible (first|refine Qk fun K E hK hE=>?_|refine FunW.ret (FunW.call (c3 _)) ?_)));simp -implicitDefEqProofs only [Qc,Qd,OpW,QE,aop,AS.ev,↓reduceIte,QY,seval])|(with_reducible refine Qb ?_)|((with_reducible refine hK _ ?_);clear hK))
    exact ⟨t1,t2,t3,t5,t6,rfl,rfl,rfl,rfl⟩
  ·repeat (first|((first|(with_reducible (first|refine Qk fun K E hK hE=>?_|refine FunW.ret (FunW.call (c2 _)) ?_)));simp -implicitDefEqProofs only [Qc,Qd,OpW,QE,aop,undef,AS.ev,AV.Qp8,↓reduceIte,QB,Qp,QY,ti26,zi26,zc,zi,seval])|(with_reducible refine Qb ?_)|((with_reducible refine hK _ ?_);clear hK))
   exact ⟨t1,t2,t3,rfl,rfl,rfl⟩
 ·repeat (first|((first|(with_reducible (first|refine Qk fun K E hK hE=>?_|refine FunW.ret (FunW.call c1') ?_)));simp -implicitDefEqProofs only [Qc,Qd,OpW,QE,aop,undef,AS.ev,AV.Qp8,↓reduceIte,QB,Qp,QY,ti26,zi26,pc,pi,seval])|(with_reducible refine Qb ?_)|((with_reducible refine hK _ ?_);clear hK))
  exact ⟨rfl,rfl,rfl,rfl⟩
end Go.Proofs.YticgcpebdldbgaaDoor.Ab
set_option maxRecDepth 4000
namespace Go.Proofs.YticgcpebdldbgaaDoor.Ab
open Go.Proofs
theorem Qiv {l:List UInt8} {p e:Int} (h:QaT l = .inr (p,e)):e≠0:=by
 unfold QaT at h
 cases hs:Ya l with
 |inr q=>rw [hs] at h;cases h;exact Qac hs
 |inl ts =>
  rw [hs] at h
  obtain ⟨hD,hW,hN,hl⟩:=QcU hs
  simp only at h
  cases hp:Qeh ⟨ts,[]⟩ with
  |ok p s2=>rw [hp] at h;cases h
  |err p c=>rw [hp] at h;cases h;exact QfB hW hp
section
variable (l:List UInt8) (hmx:l.length≤9223372036854775807) (h:AH) (hG:ZP h)
include hmx hG
theorem QpW:QJ Tryd.prog 3 [.v (.string (mkB l))] h fun o h'=>o = .ret (.b true)∧h'=h:=by
 have hsl:=fun b=>Zz Tryd.prog 9 3 (by kernel_rfl) b
 have ca:=fun L=>Qe4 (h++L) (hG.app L)
 have ca0:=Qe4 h hG
 by_cases hb:4000<l.length
 ·have z1:((l.length:Nat):Int)>4000:=by omega
  have z2:(4000:Int)<((l.length:Nat):Int):=by omega
  refine Qe Tryd.func3 rfl Tryd.call3 Tryd.ntmps3 (congrArg Array.toList Tryd.results3) (by simp) ?_
  repeat (first|((first|(with_reducible (first|refine Qa fun K E hK hE=>?_|refine FunW.ret (FunW.call ca0) ?_)));simp -implicitDefEqProofs only [Qc,Qd,OpW,QE,aop,undef,AS.ev,Qq,↓reduceIte,aBin,aLen,goInt,hsl,Q3,z1,seval])|(with_reducible (first|refine Qf fun K hK=>?_|refine Ql ?_|refine Qu ?_))|((with_reducible refine hK _ ?_);clear hK)|(refine Qh rfl ?_;simp only [↓reduceIte]))
  simp -implicitDefEqProofs only [Yq,↓reduceIte,Qq5,QF,Qn,Qr,Qq9]
  exact .inr ⟨rfl,rfl⟩
 ·have z1:¬ ((l.length:Nat):Int)>4000:=by omega
  have z2:¬ (4000:Int)<((l.length:Nat):Int):=by omega
  have cp:=Qbq l h hG
  obtain ⟨v1,v2⟩:=Qls (l:=l)
  cases hp:QaT l with
  |inr q =>
   obtain ⟨x,e⟩:=q
   rw [hp,psR] at cp
   obtain ⟨b1,b2⟩:=v2 x e hp
   have y1:(e != 0)=true:=by simpa using Qiv hp
   have zc:=Pg.cells ⟨[],[]⟩
   have zi:=Pg.isAgg ⟨[],[]⟩
   have k1:(vs Dc.av []).length=0:=rfl
   have k2:(vs Rl.av []).length=0:=rfl
   have u1:(((0:Nat):Int)==0)=true:=rfl
   have u2:x≥0:=b1
   have u3:x≤((l.length:Nat):Int):=b2
   refine Qe Tryd.func3 rfl Tryd.call3 Tryd.ntmps3 (congrArg Array.toList Tryd.results3) (by simp) ?_
   repeat (first|((first|(with_reducible (first|refine Qa fun K E hK hE=>?_|refine FunW.ret (FunW.call cp) ?_|refine FunW.ret (FunW.call (ca _)) ?_)));simp -implicitDefEqProofs only [Qc,Qd,OpW,QE,aop,undef,AS.ev,Qq,AV.Qp8,↓reduceIte,Qg,Qw,Qv,QB,Qp,aBin,QY,aLen,goInt,ti23,un23,ti24,un24,ti26,QiS,QaS,zi26,hsl,Q3,z1,y1,zc,zi,k1,k2,u2,u3,seval])|(with_reducible (first|refine Qf fun K hK=>?_|refine Ql ?_|refine Qm ?_|refine Qb ?_|refine Qu ?_))|((with_reducible refine hK _ ?_);clear hK)|(refine Qh rfl ?_;simp only [↓reduceIte,Qq3]))
   simp -implicitDefEqProofs only [Yq,↓reduceIte,Qq5,QF,Qn,Qr,Qq9]
   exact Qi (htake _ _) (.keep (.v _)) ⟨rfl,rfl⟩
  |inl p =>
   rw [hp,psR] at cp
   obtain ⟨b1,b2,b3⟩:=v1 p hp
   have pc:=Pg.cells p
   have pi:=Pg.isAgg p
   have ld:(vs Dc.av p.decls).length=p.decls.length:=Y5 _ _
   have lr:(vs Rl.av p.rules).length=p.rules.length:=Y5 _ _
   have y1:((0:Int) != 0)=false:=rfl
   have y2:¬ ((p.rules.length:Nat):Int)>40:=by omega
   have y2':¬ (40:Int)<((p.rules.length:Nat):Int):=by omega
   have y3:¬ ((p.decls.length:Nat):Int)>30:=by omega
   have y3':¬ (30:Int)<((p.decls.length:Nat):Int):=by omega
   refine Qe Tryd.func3 rfl Tryd.call3 Tryd.ntmps3 (congrArg Array.toList Tryd.results3) (by simp) ?_
   repeat (first|((first|(with_reducible (first|refine Qa fun K E hK hE=>?_|refine FunW.ret (FunW.call cp) ?_)));simp -implicitDefEqProofs only [Qc,Qd,OpW,QE,aop,undef,AS.ev,Qq,AV.Qp8,↓reduceIte,Qg,Qw,Qv,QB,Qp,aBin,QY,aLen,goInt,ti23,un23,ti24,un24,ti26,QiS,QaS,zi26,hsl,Q3,z1,pc,pi,ld,lr,y2,y3,seval])|(with_reducible (first|refine Qf fun K hK=>?_|refine Qj ?_|refine Qm ?_|refine Qb ?_))|((with_reducible refine hK _ ?_);clear hK)|(refine Qh rfl ?_;simp only [↓reduceIte,Qq3]))
   obtain ⟨I,hI⟩:∃ I:Nat→AS→Prop,I=fun m' s=>∃ j:Nat,m'=p.rules.length - j∧j≤p.rules.length∧s.tm 3 = .ptr h.length 0 0∧s.tm 54 = .i p.rules.length∧s.tm 55 = .i j∧s.h=h++[.cells 26 2 [p.av]]:=⟨_,rfl⟩;refine QO I ?_ (m:=p.rules.length) ?_
   ·intro m' s hs;rw [hI] at hs;obtain ⟨tm,hp⟩:=s;dsimp only at hs;obtain ⟨j,rfl,hj,t3,ta,tb,rfl⟩:=hs
    by_cases hlt:j<p.rules.length
    ·have w1:((j:Nat):Int)<((p.rules.length:Nat):Int):=by omega
     have wj:IntKind.i64.wrap (((j:Nat):Int)+1)=((j+1:Nat):Int):=Xk (by omega)
     have cv:=Qkp p.rules[j] (b3 _ (List.getElem_mem hlt))
     have e1:=Rl.cells p.rules[j]
     have e2:=Rl.isAgg p.rules[j]
     repeat (first|((first|(with_reducible (first|refine Qa fun K E hK hE=>?_|refine Qk fun K E hK hE=>?_|refine Qz cv ?_)));simp -implicitDefEqProofs only [Qc,Qd,OpW,QE,aop,AS.ev,↓reduceIte,Qg,Qw,Qv,QK,aBin,ti24,ei24,QaS,ti34,t3,ta,tb,w1,wj,pc,lr,QhO (f:=Rl.av) hlt,e1,e2,seval])|(with_reducible (first|refine Qf fun K hK=>?_|refine Qj ?_|refine Qm ?_|refine Qb ?_|refine Qo ?_))|((with_reducible refine hK _ ?_);clear hK)|(refine Qh rfl ?_;simp only [↓reduceIte,Qq3]))
     refine Xi.mk (m':=p.rules.length - (j+1)) (by omega) ?_
     rw [hI]
     exact ⟨j+1,rfl,hlt,t3,ta,rfl,rfl⟩
    ·have w1:¬ ((j:Nat):Int)<((p.rules.length:Nat):Int):=by omega
     repeat (first|((first|(with_reducible (first|refine Qa fun K E hK hE=>?_|refine FunW.ret (FunW.call (ca _)) ?_)));simp -implicitDefEqProofs only [Qc,Qd,OpW,QE,aop,AS.ev,↓reduceIte,Nat.reduceLT,aBin,ta,tb,w1])|(with_reducible (first|refine Qf fun K hK=>?_|refine Ql ?_|refine QG ?_|refine Qb ?_|refine QD ?_|refine QC ?_))|((with_reducible refine hK _ ?_);clear hK)|(clear hK;(with_reducible refine hK _ ?_);clear hK)|(refine Qh rfl ?_;simp only [↓reduceIte,Qq3]))
     simp -implicitDefEqProofs only [Yq,↓reduceIte,Qq5,QF,Qn,Qr,Qq9]
     exact Qi (htake _ _) (.keep (.v _)) ⟨rfl,rfl⟩
   ·rw [hI]
    exact ⟨0,rfl,Nat.zero_le _,rfl,rfl,rfl,rfl⟩
end
end Go.Proofs.YticgcpebdldbgaaDoor.Ab
namespace Go.Proofs.YticgcpebdldbgaaDoor.Ab
theorem Qf4 {H:Type} {enc:TypeId×Value→H} {P:Program} {w:World} {base:Nat} {sp:Nat→Bool} {held:Bool} {fuel:Nat} {t e:TypeId} {n:Nat} {cs:List Value} {zs:List (List UInt8)} {p:List MemPlace}
  (ht:P.underlying t=some (.array n e)) (he:P.underlying e=some .string) (hce:P.cellsOf e=1) (hct:P.cellsOf t=n)
  (h:DataW.trod enc P w base sp held fuel t cs=some (.agg (zs.map fun z=>.lit (.string z)),p)):cs=zs.map fun z=>Value.string ⟨z.toArray⟩:=by
 cases fuel with
 |zero=>simp [DataW.trod] at h
 |succ fuel =>
  simp only [DataW.trod,ht,hce,hct,Nat.mul_one] at h
  split at h
  ·rename_i hl
   obtain ⟨xs,hm,hx⟩:=Option.map_eq_some_iff.1 h
   have hxs:xs.map (·.1)=zs.map fun z=>(DataW.lit (.string z):DataW H):=by
    have:=congrArg Prod.fst hx
    simpa using this
   have hxl:xs.length=n:=by simpa using Lib.mapM_length hm
   have hzl:zs.length=n:=by
    have:=congrArg List.length hxs
    simp at this
    omega
   apply List.ext_getElem?
   intro i
   by_cases hi:i<n
   ·obtain ⟨b,hb,hf⟩:=Lib.mapM_at hm i i (by simp [hi])
    obtain ⟨s,hc,rfl,_⟩:=DataW.trod_string he hf
    have h1:cs[i]? = some (.string s):=by
     have:=congrArg (·[0]?) hc
     simpa [List.getElem?_take,List.getElem?_drop] using this
    have h2:(xs.map (·.1))[i]? = some (DataW.lit (.string s.data.toList):DataW H):=by simp [hb]
    rw [hxs] at h2
    simp only [List.getElem?_map,Option.map_eq_some_iff,DataW.lit.injEq,Lit.string.injEq] at h2
    obtain ⟨z',hz',hz2⟩:=h2
    have:s=⟨z'.toArray⟩:=by rw [hz2]
    simp [h1,hz',this]
   ·rw [List.getElem?_eq_none (by omega),List.getElem?_eq_none (by simp;omega)]
  ·cases h
theorem Qlr {P:Program} {W:World} {nm:String} {zs:List (List UInt8)} {g:Nat} {t e:TypeId} {n:Nat}
  (hg:P.globalNamed nm=some g) (hty:(P.globals[g]?).map (·.type)=some t) (ht:P.underlying t=some (.array n e)) (he:P.underlying e=some .string) (hce:P.cellsOf e=1) (hct:P.cellsOf t=n)
  (h:laidMet P [(nm,.agg (zs.map fun z=>.lit (.string z)))] W):∃ ty fr,W.heap[g]? = some (.cells (zs.map fun z=>Value.string ⟨z.toArray⟩).toArray ty fr):=by
 obtain ⟨ps,⟨g',t',cs,fuel,p,q,hg',ht',hvar,hd,_,_⟩,_⟩:=h
 obtain rfl:=Option.some.inj (hg.symm.trans hg')
 obtain rfl:=Option.some.inj (hty.symm.trans ht')
 have:=Qf4 ht he hce hct hd
 refine Qmq hg (cs:=(zs.map fun z=>Value.string ⟨z.toArray⟩).toArray) ?_
 rw [hvar,← this]
open Go.Proofs
theorem open_string {H:Type} {enc:TypeId×Value→H} {P:Program} {W:World} {r:Reach} {b0:Nat} {t:TypeId} {v:Value} {d:DataW H} {ps:List MemPlace} (ht:P.underlying t=some .string) (hv:Value.okWide P W r b0 t v) (hd:DataW.Trod enc P W 0 (fun _=>true) true t v d ps):∃ s:ByteArray,v = .string s∧s.size≤maxLen:=by
 obtain ⟨fuel,hf⟩:=hd
 have hc:v.cells.toList=[v]:=by
  cases v with
  |agg cs=>simp [Value.okWide,ht,Cell.okWide,Cell.ok] at hv
  |_=>rfl
 rw [hc] at hf
 obtain ⟨s,h1,_,h2⟩:=DataW.trod_string ht hf
 cases h1
 exact ⟨s,rfl,h2⟩
theorem Qo8 (s:ByteArray) (hs:s.size≤maxLen) (h:AH) (hG:ZP h):QJ Tryd.prog 3 [.v (.string s)] h fun o h'=>o = .ret (.b true)∧h'=h:=by
 have:=QpW s.data.toList (by simp only [maxLen] at hs;have:s.size=s.data.toList.length:=(by show s.data.size=_;simp);omega) h hG
 rwa [Qgf] at this
end Go.Proofs.YticgcpebdldbgaaDoor.Ab

