/-
  An abstract program logic, contracts of functions, and laws of terms and rules (part 6).
-/
import Derived.Test.YtenheconhibonaaGreatDoorAbTwo
import Derived.Test.YtenheconhibonaaGreatDoorAbFour
import Derived.Test.YtenheconhibonaaGreatDoorAbFive
import Derived.Test.YtenheconhibonaaGreatDoorAbThree
set_option linter.unusedVariables false
set_option linter.unusedSimpArgs false
set_option maxHeartbeats 4000000
set_option maxRecDepth 4000
namespace Go.Proofs.YtenheconhibonaaGreatDoor.Ab
open Go.Proofs
structure KpO (h:AH) (P:Pz) (o:Nat) (Y:AH):Prop where
 long:h.length<=Y.length
 out:∀i,i<h.length->i≠o->i≠P.i->i≠P.j->i≠P.g->Y[i]? = h[i]?
abbrev pgB(d r:AV):AB:=.cells 35 2 [.agg [d,r]]
def PgQ(h:AH)(P:Pz)(o:Nat):PR Pg->AOut->AH->Prop
 | .ok pg _,x,h'=>x = .ret (.tup [])/\∃Y:{Y:AH // KpO h P o Y/\Y[o]? = some (pgB (.sl 2 (vs Dc.av pg.decls) none) (.sl 6 (vs Rl.av pg.rules) none))},h'=Y.1
 | .err p e,x,h'=>x = .panic (Fl p e)/\∃Y:{Y:AH // KpO h P o Y},h'=Y.1
section
variable{P:Pz}{s:PS}(hW:Wst P.all s){h:AH}(H:P.ok h)(hN:P.all.length<=1000000)(hD:TkOk P.all){o:Nat}(hol:o<h.length)(hoi:o≠P.i)(hoj:o≠P.j)(hog:o≠P.g)
include hW H hN hD hol hoi hoj hog
omit hW hN hD hol hoi hoj hog in
theorem Qvk(s':PS)(L:AH):KpO h P o (ph h P s'++L):=⟨by rw[Qza,QE];omega,fun i h1 h2 h3 h4 h5=>by rw[Qzc (by rw[QE];exact h1),QaS H h3 h4 h5]⟩
theorem QoP(hob:h[o]? = some (pgB nilV nilV)):Qp Tryz.prog 74 [.ptr P.i 0 0,.ptr o 0 0] (ph h P s) (PgQ h P o (QjU s)):=by
 have cd:=Qof hW H hN hD
 rw[QjU]
 cases hd:ZP (s.toks.length+1) [] s with
 |err p e =>
  rw[hd]at cd
  have cd2:Qp Tryz.prog 75 [.ptr P.i 0 0] (ph h P s) fun x h'=>x = .panic (Fl p e)/\∃s1:PS,h'=ph h P s1:=cd
  refine Qc Tryz.func74 rfl Tryz.call74 Tryz.ntmps74 Tryz.results74 (by simp) ?_
  repeat first|(first|refine FunW.panE (FunW.call cd2) fun r=>?_|refine Qa ?_);simp only[go_sem,seval]|refine hK _ ?_;clear hK
  have:=Qvk (o:=o) H r []
  rw[QyM]at this
  exact .inr ⟨rfl,⟨_,this⟩,rfl⟩
 |ok d s1 =>
  rw[hd]at cd
  have cd2:Qp Tryz.prog 75 [.ptr P.i 0 0] (ph h P s) fun x h'=>x = .ret (.sl 2 (vs Dc.av d) none)/\h'=ph h P s1:=cd
  have hW1:Wst P.all s1:=Kp.Ps.ok (n:=wdOf P.all) (Kp.decls_ps trivial _ _) hW hd
  have ho1:(ph h P s1)[o]? = some (pgB nilV nilV):=by rw[QaS H hoi hoj hog];exact hob
  generalize hRr:((PR.ok d s1).bind fun d s=>(QaI (s.toks.length+1) [] s).bind fun r s=>PR.ok (⟨d,r⟩:Pg) s)=R
  have hR0:((QaI (s1.toks.length+1) [] s1).bind fun r s=>PR.ok (⟨d,r⟩:Pg) s)=R:=hRr
  clear hRr
  refine Qc Tryz.func74 rfl Tryz.call74 Tryz.ntmps74 Tryz.results74 (by simp) ?_
  iterate 3 (try (first|((first|(refine Qd fun K E hK hE=>?_)|(with_reducible refine FunW.Qxr cd2 ?_));simp only[go_sem,seval,ho1])|((with_reducible refine hK _ ?_);clear hK)))
  refine ZH o 35 2 6 (.grow 25 6 0) (.inr ⟨_,rfl⟩) [.agg [.sl 2 (vs Dc.av d) none,nilV]] [.agg [.sl 2 (vs Dc.av d) none,.sl 6 [] (some h.length)]] 1 (Qzj (by rw[QE];exact hol)) rfl (by simp[flat,AV.cells,QE]) (by simp[AV.cells]) ?_
  iterate 1 (try ((refine QA ?_)))
  obtain⟨I,hI⟩:∃I:Nat->AS->Prop,I=fun m' s=>∃(rs:List Rl) (s2:PS) (own:Option Nat) (m:List (ByteArray×AV)),m'=s2.toks.length/\Wst P.all s2/\rs.length<=40/\(∃k,s2.toks.length+1<=k/\((QaI k rs s2).bind fun r s=>PR.ok (⟨d,r⟩:Pg) s)=R)/\KpO h P o s.h/\PIn P s.h s2 own m/\s.h[o]? = some (pgB (.sl 2 (vs Dc.av d) none) (.sl 6 (vs Rl.av rs) (some h.length)))/\s.h[h.length]? = some (.grow 25 6 rs.length)/\s.tm 0 = .ptr P.i 0 0/\s.tm 1 = .ptr o 0 0:=⟨_,rfl⟩;refine Qv I ?_ (m:=s1.toks.length) ?_
  ·intro m' s hs;rw[hI]at hs;obtain⟨tm,hp⟩:=s;dsimp only at hs;obtain⟨rs,s2,own,m,rfl,hW2,hl40,⟨k,hk,hR2⟩,hkp,hpin,hob2,htk,t0,t1⟩:=hs
   have hk1:k=k - 1+1:=by omega
   have hpl:=Qf htk
   have hWc:Wst P.all ⟨s2.toks,[]⟩:=⟨hW2.wf,hW2.suf,by have:=hW2.nms;simp only[Qyx];omega⟩
   have hoh:o≠h.length:=by omega
   rw[hk1,QaI]at hR2
   have e1:=Tk.Qxs s2.tk
   have e2:=Tk.Qxt s2.tk
   have hi2:=hpin.i
   rw[pN]at hi2
   by_cases h0:s2.tk.kind=0
   ·rw[Qzh h0]at hR2
    subst hR2
    refine QcI o 35 2 [.agg [.sl 2 (vs Dc.av d) none,.sl 6 (vs Rl.av rs) (some h.length)]] [.agg [.sl 2 (vs Dc.av d) none,.sl 6 (vs Rl.av rs) none]] 1
     (Wk.sl rfl (fun y hy=>by obtain⟨x,_,rfl⟩:=QzD.1 hy;rfl) (WkL.refl _)) hob2 rfl rfl (fun x hx=>by rw[Qz8]at hx;subst hx;rfl) ?_
    have hX2:(hp.set o (pgB (.sl 2 (vs Dc.av d) none) (.sl 6 (vs Rl.av rs) none)))[P.i]? = some (pN P s2 own):=by rw[Qzd hoi];exact hpin.i
    have cn:=QoF hW2 hX2
    have hi3:=hX2
    rw[pN]at hi3
    have z1:(s2.tk.kind != 0)=false:=by simpa using h0
    repeat first|(first|refine FunW.Qxr cn ?_|refine Qa ?_);simp only[go_sem,seval,t0,hi3,e1,e2,z1]|refine hK _ ?_;clear hK
    exact .inr ⟨rfl,⟨_,⟨by rw[Qzm];exact hkp.long,fun i h1 h2 h3 h4 h5=>by rw[Qzd (QAg h2)];exact hkp.out i h1 h2 h3 h4 h5⟩,Qzj (by omega)⟩,rfl⟩
   ·rw[Qzf h0]at hR2
    have z1:(s2.tk.kind != 0)=true:=by simpa using h0
    have cn:=QoF hW2 hpin.i
    have ev:(vs Rl.av rs).length=rs.length:=Qh _ _
    by_cases hm:40<=rs.length
    ·rw[Qzh hm]at hR2
     subst hR2
     have cr:=QsM hW2 hpin.i ((rs.length:Nat):Int) 40 (by omega)
     repeat first|(first|refine FunW.Qxr cn ?_|refine Qa ?_);simp only[go_sem,seval,t0,hi2,e1,e2,z1]|refine hK _ ?_;clear hK
     refine Q2 6 [(0,0),(1,0),(2,0),(3,0),(4,0),(5,0)] mixed rfl rfl rfl (by kernel_rfl) (fun v h'=>v=Fl s2.tk.pos 6/\h'=hp) ?_ ?_
     ·rintro tm v h' ⟨rfl,rfl⟩
      exact .inr ⟨rfl,⟨_,hkp⟩,rfl⟩
     ·simp only[go_sem,seval,t0,t1,hi2,hob2,ev]
      exact fun _=>(FunW.call cr).mono (by rintro _ _ ⟨rfl,rfl⟩;exact⟨_,rfl,rfl,rfl⟩)
    ·rw[Qzf hm]at hR2
     have cr:=Qrn hW2 hpin.i ((rs.length:Nat):Int) 40 (by omega)
     have cR:=QiV hpin hWc hN hD
     repeat first|(first|refine FunW.Qxr cn ?_|refine Qa ?_);simp only[go_sem,seval,t0,hi2,e1,e2,z1]|refine hK _ ?_;clear hK
     first|refine Qj (id:=2) [(0,0),(1,0),(2,0),(3,0),(4,0),(5,0),(6,2)] mixed (by kernel_rfl) fun K hK=>?_|refine Q1 (id:=2) [(0,0),(1,0),(2,0),(3,0),(4,0),(5,0),(6,2)] mixed (by kernel_rfl) fun K hK=>?_
     simp only[go_sem,seval,t0,t1,hi2,hob2,ev]
     refine QL (FunW.call cr) Zl ?_
     simp only[X6,Ql,Nat.reduceLT]
     cases hr:Qa4 s2 with
     |err p e =>
      rw[hr]at cR hR2
      have hR3:PR.err p e=R:=hR2
      subst hR3
      have cR2:Qp Tryz.prog 73 [.ptr P.i 0 0] hp fun o h'=>o = .panic (Fl p e)/\∃Y:{Y:AH // ErrY hp P Y},h'=Y.1:=cR
      refine hK _ ?_
      clear hK
      repeat first|refine Qa ?_;simp only[go_sem,seval]|refine hK _ ?_;clear hK
      refine Q2 3 [(0,0),(1,0),(2,0)] mixed rfl rfl rfl (by kernel_rfl) (fun v h'=>v=Fl p e/\∃Y:{Y:AH // ErrY hp P Y},h'=Y.1) ?_ ?_
      ·rintro tm v h' ⟨rfl,⟨Y,hY⟩,rfl⟩
       exact .inr ⟨rfl,⟨h',QzL hkp.long hY.long,fun i h1 h2 h3 h4 h5=>by rw[hY.out i (by have:=hkp.long;omega) h3 h4];exact hkp.out i h1 h2 h3 h4 h5⟩,rfl⟩
      ·simp only[go_sem,seval,t0,t1,hob2]
       exact fun _=>(FunW.call cR2).mono (by rintro _ _ ⟨rfl,x,rfl⟩;exact⟨_,rfl,rfl,x,rfl⟩)
     |ok r s6 =>
      rw[hr]at cR hR2
      have hR3:((QaI (k - 1) (rs++[r]) s6).bind fun r s=>PR.ok (⟨d,r⟩:Pg) s)=R:=hR2
      have hW6:Wst P.all s6:=Kp.Ps.ok (n:=wdOf P.all) (Kp.rule_ps trivial) hW2 hr
      have hl6:=(QnN s2 hW2.wf r s6 hr).2
      have cR2:Qp Tryz.prog 73 [.ptr P.i 0 0] hp fun o h'=>o = .ret r.av/\h'=(hp.set P.i (pN P s6 none)).set P.j (kB s6):=cR
      have pil:=Qf hpin.i
      have pjl:=Qf hpin.j
      have pij:P.i≠P.j:=H.ij
      generalize hX:(hp.set P.i (pN P s6 none)).set P.j (kB s6)=X at *
      have hXo:X[o]? = some (pgB (.sl 2 (vs Dc.av d) none) (.sl 6 (vs Rl.av rs) (some h.length))):=by rw[<-hX,Qzd (QAg hoj),Qzd (QAg hoi)];exact hob2
      have hXt:X[h.length]? = some (.grow 25 6 rs.length):=by rw[<-hX,Qzd (by have:=H.j;omega),Qzd (by have:=H.i;omega)];exact htk
      have hXs:∀y,(X.set h.length y)[o]? = some (pgB (.sl 2 (vs Dc.av d) none) (.sl 6 (vs Rl.av rs) (some h.length))):=fun y=>by rw[Qzd (QAg hoh)];exact hXo
      have hXl:X.length=hp.length:=by rw[<-hX,Qzm,Qzm]
      have rc:=Rl.cells r
      have ri:=Rl.isAgg r
      have hm1:(rs.length+1) * 120<=140737488355328:=by omega
      have hm2:rs.length+1<=maxLen:=by simp only[maxLen];omega
      have evs:vs Rl.av (rs++[r])=vs Rl.av rs++[r.av]:=by rw[Qb9];rfl
      have fin:∀tm':Nat->AV,tm' 0 = .ptr P.i 0 0->tm' 1 = .ptr o 0 0->QZ I s2.toks.length ⟨tm',(X.set h.length (.grow 25 6 (rs.length+1))).set o (pgB (.sl 2 (vs Dc.av d) none) (.sl 6 (vs Rl.av rs++[r.av]) (some h.length)))⟩:=fun tm' k0 k1=>by
       have hYi:((X.set h.length (.grow 25 6 (rs.length+1))).set o (pgB (.sl 2 (vs Dc.av d) none) (.sl 6 (vs Rl.av rs++[r.av]) (some h.length))))[P.i]? = some (pN P s6 none):=by
        rw[Qzd hoi,Qzd (by have:=H.i;omega),<-hX,Qzd (QAg pij),Qzj pil]
       have hYj:((X.set h.length (.grow 25 6 (rs.length+1))).set o (pgB (.sl 2 (vs Dc.av d) none) (.sl 6 (vs Rl.av rs++[r.av]) (some h.length))))[P.j]? = some (kB s6):=by
        rw[Qzd hoj,Qzd (by have:=H.j;omega),<-hX,Qzj (by rw[Qzm];exact pjl)]
       refine QZ.mk (m':=s6.toks.length) (by omega) ?_
       rw[hI]
       refine⟨rs++[r],s6,none,kn s6.names,rfl,hW6,by simp;omega,⟨k - 1,by omega,hR3⟩,⟨by simp only[Qzm,hXl];exact hkp.long,fun i h1 h2 h3 h4 h5=>?_⟩,⟨hYi,hYj⟩,?_,?_,k0,k1⟩
       ·rw[Qzd (QAg h2),Qzd (by omega),<-hX,Qzd (QAg h4),Qzd (QAg h3)];exact hkp.out i h1 h2 h3 h4 h5
       ·rw[evs];exact Qzj (by simp only[Qzm,hXl];omega)
       ·rw[Qza,Qzd hoh,Qzj (by rw[hXl];exact hpl)];rfl
      refine hK _ ?_
      clear hK
      repeat first|refine Qa ?_;simp only[go_sem,seval]|refine hK _ ?_;clear hK
      refine YG (.node [(2,0)] 3 0 (.leaf [(3,2),(0,0),(1,0),(4,0),(5,2),(6,0),(7,2)]) (.node [(0,0)] 3 1 (.leaf [(3,2),(1,0),(4,0),(5,2),(6,0),(7,2)]) (.leaf [(1,0),(3,2),(4,0),(5,2),(6,0),(7,2)]))) mixed (by kernel_rfl) (fun K2 hK2=>?_)
      simp only[OT.walk]
      simp only[go_sem,seval,t0,t1,hob2]
      refine⟨?_,?_⟩
      ·refine QL (FunW.call cR2) Zl ?_
       simp only[go_sem,seval,t1,hXo,hXt,hXs,rc,hm1,hm2,ev]
       refine hK2 _ (fin _ ?_ ?_) <;> assumption
      ·refine⟨?_,?_⟩
       ·refine QL (FunW.call cR2) Zl ?_
        simp only[go_sem,seval,t1,hXo,hXt,hXs,rc,hm1,hm2,ev]
        refine hK2 _ (fin _ ?_ ?_) <;> assumption
       ·refine QL (FunW.call cR2) Zl ?_
        simp only[go_sem,seval,t1,hXt,hXs,rc,hm1,hm2,ev]
        refine hK2 _ (fin _ ?_ ?_) <;> assumption
  ·rw[hI]
   have hg:∀i (y z:AB),i≠o->i<h.length->(((ph h P s1).set o y++[AB.grow 25 6 0]).set o z)[i]? = (ph h P s1)[i]? := fun i y z h1 h2=>by
    rw[Qzd (QAg h1),Qzc (by rw[Qzm,QE];exact h2),Qzd (QAg h1)]
   refine⟨[],s1,some P.g,kn s1.names,rfl,hW1,Qzy _,⟨_,Qzl _,hR0⟩,⟨by simp only[Qzm,Qza,QE];omega,fun i h1 h2 h3 h4 h5=>?_⟩,⟨?_,?_⟩,?_,?_,rfl,rfl⟩
   ·rw[hg i _ _ h2 h1,QaS H h3 h4 h5]
   ·rw[hg _ _ _ (QAg hoi) H.i,Yg H];rfl
   ·rw[hg _ _ _ (QAg hoj) H.j,QsC H];rfl
   ·exact Qzj (by simp only[Qzm,Qza,QE];omega)
   ·rw[Qzd (by omega)]
    have e:((ph h P s1).set o (AB.cells 35 2 [.agg [.sl 2 (vs Dc.av d) none,nilV]])).length=h.length:=by rw[Qzm,QE]
    rw[<-e,Qzi (Qzl _),Qz0];rfl
end
end Go.Proofs.YtenheconhibonaaGreatDoor.Ab
namespace Go.Proofs.YtenheconhibonaaGreatDoor.Ab
open Go.Proofs
abbrev Qjr{a:List AV}{h:AH}{Q:AOut->AH->Prop}:=@Qc Tryz.prog 72 _ _ a h Q Tryz.func72 rfl Tryz.call72 _ Tryz.ntmps72 _ Tryz.results72
def RfQ(h:AH)(P:Pz)(o:Nat):PR Rl->AOut->AH->Prop
 | .ok r _,x,h'=>x = .ret (.tup [])/\∃Y:{Y:AH // KpO h P o Y/\Y[o]? = some (.cells 25 6 [r.av])},h'=Y.1
 | .err p e,x,h'=>x = .panic (Fl p e)/\∃Y:{Y:AH // KpO h P o Y},h'=Y.1
section
variable{P:Pz}{s:PS}(hW:Wst P.all s){h:AH}(H:P.ok h)(hN:P.all.length<=1000000)(hD:TkOk P.all){o:Nat}(hol:o<h.length)(hoi:o≠P.i)(hoj:o≠P.j)(hog:o≠P.g)
include hW H hN hD hol hoi hoj hog
theorem QoZ(hob:h[o]? = some (.cells 25 6 [.agg [.v (.string {data:=#[]}),nilV,nilV,nilV,nilV,.i 0]])):Qp Tryz.prog 72 [.ptr P.i 0 0,.ptr o 0 0] (ph h P s) (RfQ h P o (QbD s)):=by
 have hpin:PIn P (ph h P s) s (some P.g) (kn s.names):=⟨by rw[Yg H];rfl,by rw[QsC H];rfl⟩
 have hWc:Wst P.all ⟨s.toks,[]⟩:=⟨hW.wf,hW.suf,by have:=hW.nms;simp only[Qyx];omega⟩
 have cR:=QiV hpin hWc hN hD
 rw[QbD]
 cases hr:Qa4 s with
 |err p e =>
  rw[hr]at cR
  have cR2:Qp Tryz.prog 73 [.ptr P.i 0 0] (ph h P s) fun o h'=>o = .panic (Fl p e)/\∃Y:{Y:AH // ErrY (ph h P s) P Y},h'=Y.1:=cR
  refine Qjr (by simp) ?_
  repeat (first|refine FunW.panE (FunW.call cR2) fun Y=>?_|refine Qa ?_);simp only[go_sem,seval]
  have hY:=Y.2
  exact .inr ⟨rfl,⟨Y.1,by have:=hY.long;rw[QE]at this;exact this,fun i h1 h2 h3 h4 h5=>by rw[hY.out i (by rw[QE];exact h1) h3 h4,QaS H h3 h4 h5]⟩,rfl⟩
 |ok r s6 =>
  rw[hr]at cR
  have hW6:Wst P.all s6:=Kp.Ps.ok (n:=wdOf P.all) (Kp.rule_ps trivial) hW hr
  have cR2:Qp Tryz.prog 73 [.ptr P.i 0 0] (ph h P s) fun o h'=>o = .ret r.av/\h'=((ph h P s).set P.i (pN P s6 none)).set P.j (kB s6):=cR
  have pil:=H.i
  have pjl:=H.j
  have pij:P.i≠P.j:=H.ij
  generalize hX:((ph h P s).set P.i (pN P s6 none)).set P.j (kB s6)=X at *
  have hXl:X.length=h.length:=by rw[<-hX,Qzm,Qzm,QE]
  have hXo:X[o]? = some (.cells 25 6 [.agg [.v (.string {data:=#[]}),nilV,nilV,nilV,nilV,.i 0]]):=by rw[<-hX,Qzd (QAg hoj),Qzd (QAg hoi),QaS H hoi hoj hog];exact hob
  have hXi:(X.set o (.cells 25 6 [r.av]))[P.i]? = some (pN P s6 none):=by rw[Qzd hoi,<-hX,Qzd (QAg pij),Qzj (by rw[QE];exact pil)]
  have hkp:KpO h P o (X.set o (.cells 25 6 [r.av])):=⟨by rw[Qzm,hXl];exact Qzl _,fun i h1 h2 h3 h4 h5=>by rw[Qzd (QAg h2),<-hX,Qzd (QAg h4),Qzd (QAg h3),QaS H h3 h4 h5]⟩
  have hXo2:(X.set o (.cells 25 6 [r.av]))[o]? = some (.cells 25 6 [r.av]):=Qzj (by omega)
  have rc:=Rl.cells r
  have ri:=Rl.isAgg r
  have hi3:=hXi
  rw[pN]at hi3
  by_cases hk:s6.tk.kind=0
  ·have ce:=Qsa hW6 hXi hk
   have hE:((PR.ok r s6).bind fun r s=>(pEnd s).bind fun _ s=>PR.ok r s) = .ok r s6:=by
    have:pEnd s6 = .ok () s6:=by rw[pEnd,Qzh hk]
    show(pEnd s6).bind _=_
    rw[this];rfl
   rw[hE]
   refine Qjr (by simp) ?_
   repeat (first|refine FunW.Qxr cR2 ?_|refine FunW.Qxr ce ?_|refine Qa ?_);simp only[go_sem,seval,hXo,rc,ri,hi3]
   exact .inr ⟨rfl,⟨_,hkp,hXo2⟩,rfl⟩
  ·have ce:=QtN hW6 hXi hk
   have hE:((PR.ok r s6).bind fun r s=>(pEnd s).bind fun _ s=>PR.ok r s) = .err s6.tk.pos 16:=by
    have:pEnd s6 = .err s6.tk.pos 16:=by rw[pEnd,Qzf hk]
    show(pEnd s6).bind _=_
    rw[this];rfl
   rw[hE]
   refine Qjr (by simp) ?_
   repeat (first|refine FunW.Qxr cR2 ?_|refine FunW.pan (FunW.call ce) ?_|refine Qa ?_);simp only[go_sem,seval,hXo,rc,ri,hi3]
   exact .inr ⟨rfl,⟨_,hkp⟩,rfl⟩
end
end Go.Proofs.YtenheconhibonaaGreatDoor.Ab
namespace Go.Proofs.YtenheconhibonaaGreatDoor.Ab
theorem QkM{P:Program}{N:Nat}{x:Code}{Q:AExit->AS->Prop}{tm:Nat->AV}{h:AH}(id d k off:Nat){ty s:Nat}{xs:List AV}(hb:h[id]? = some (.cells ty s xs))(hd:tm d = .ptr id k off)
  (H:Xs P N x Q ⟨upd tm d (.pin s xs k off),h.set id .dead⟩):Xs P N x Q ⟨tm,h⟩:=by
 intro F n base c a hF hst hr R hR
 have hh:c.h=h:=hr.h
 subst hh
 have hev:=Ev.kill hb
 have hst2:=hst.kill hb
 refine H F n base (c.kill id) a hF hst2 ⟨rfl,hr.size,hr.above,hr.defers.ev hev,RoundOk.ev hev hr.round,fun t=>?_⟩ R fun e' s' c' a' ex hq h1 h2 h3 h4=>hR e' s' c' a' ex hq (Ev.trans hst hev h1) h2 h3 h4
 show Rel (c.kill id) (if t=d then .pin s xs k off else tm t) _
 split
 ·rename_i ht
  subst ht
  have h0:=hr.tm t
  rw[show(AS.mk tm c.h).tm t=tm t from rfl,hd]at h0
  generalize a.tmps.getD t undef=u at h0
  cases h0 with
  |ptr _ _ _ x hid ho h1 =>
   obtain⟨B,hρ,rfl⟩:=h1 _ _ _ hb
   obtain⟨h4,f,h5⟩:=QfH hst hb hρ
   have:=Rel.pin (c:=c.kill id) s xs k off B 0 f h4 (fun j a hj=>(h5 j a hj).1) (fun j a hj=>(h5 j a hj).2)
   rwa [Qyv]at this
 ·exact(hr.tm t).ev hst hev
open Go.Proofs
theorem Qau.Qx0{P:Program}{f:FuncId}{args:List AV}{h:AH}{m:AMode}{Q Q':AMode->AH->Prop}(H:Qau P f args h m Q)(hq:∀m' h',Q m' h'->Q' m' h'):Qau P f args h m Q' :=
 ⟨H.1,fun F n c vals u hF hro hs hh hvals hm=>(H.2 F n c vals u hF hro hs hh hvals hm).mono fun e u' w' ⟨x,m',c',h1,h2,h3⟩=>⟨x,m',c',h1,hq _ _ h2,h3⟩⟩
abbrev iC(n:Int):AB:=.cells 3 1 [.i n]
abbrev eC(n:Int):AB:=.cells 49 1 [.i n]
theorem Qrf{h:AH}{k:Nat}:Qau Tryz.prog 105 [.ptr k 0 0,.ptr (k+1) 0 0] h .ret fun m' h'=>m' = .ret/\h'=h:=by
 refine Qau.Qx0 (QdE (Q:=fun h'=>h'=h) Tryz.func105 rfl Tryz.call105 Tryz.ntmps105 (QzP Array.toList Tryz.results105) (by simp) (by decide) (by decide) .ret ?_) (fun m' h' q=>q)
 have hn2:∀xo yo,pv Tryz.prog (do eqGuard .neq 20 xo yo .nilIface .nilIface;binOp .neq 20 .nilIface .nilIface)=some (.bool false):=fun xo yo=>by
  cases xo <;> cases yo <;> kernel_rfl
 repeat refine Qa ?_;simp only[go_sem,seval,recV,hn2]
 exact .inr ⟨⟨_,rfl⟩,rfl⟩
theorem Qre{h:AH}{k:Nat}{a0 e0:Int}(hk:h[k]? = some (iC a0))(hk1:h[k+1]? = some (eC e0))(p e:Int):Qau Tryz.prog 105 [.ptr k 0 0,.ptr (k+1) 0 0] h (.pan (Fl p e) false) fun m' h'=>m' = .pan (Fl p e) true/\∃L,h'=(h.set k (iC p)).set (k+1) (eC e)++L:=by
 refine Qau.Qx0 (QdE (Q:=fun h'=>∃L,h'=(h.set k (iC p)).set (k+1) (eC e)++L) Tryz.func105 rfl Tryz.call105 Tryz.ntmps105 (QzP Array.toList Tryz.results105) (by simp) (by decide) (by decide) (.pan (Fl p e) false) ?_) (fun m' h' q=>q)
 have hn:∀H,notNil Tryz.prog 20 H (.ifc 155 (.agg [.i p,.i e])) .nilIface=true:=fun H=>by kernel_rfl
 have ha:Qi6 Tryz.prog (.ifc 155 (.agg [.i p,.i e])) 20 155 true=some (.tup [.agg [.i p,.i e],.v (.bool true)]):=by kernel_rfl
 have l1:=Qf hk
 have l2:=Qf hk1
 have g1:∀L,(h++L)[k]? = some (iC a0):=fun L=>hext hk L
 have g2:∀L y,((h++L).set k y)[k+1]? = some (eC e0):=fun L y=>by rw[Qzd (by omega)];exact hext hk1 L
 repeat refine Qa ?_;simp only[go_sem,seval,recV,Fl,hn,ha]
 refine QkM h.length 3 0 0 (ty:=155) (s:=2) (xs:=[.agg [.i p,.i e]]) (by rw[Qzi (Qzl _),Qz0];rfl) rfl ?_
 have g3:(h++[AB.cells 155 2 [.agg [.i p,.i e]]]).set h.length .dead=h++[.dead]:=by rw[Qz7 _ _ (Qzl _),Qz0];rfl
 rw[g3]
 repeat first|(first|refine Q1 (id:=5) [(0,1),(1,1),(2,1),(3,1),(4,2),(5,2)] mixed (by kernel_rfl) fun K hK=>?_|refine Qa ?_);simp only[go_sem,seval,g1,g2]|refine hK _ ?_;clear hK
 simp only[go_sem]
 refine .inr ⟨⟨_,rfl⟩,[.dead],?_⟩
 rw[Qzw _ _ l1,Qzw _ _ (by rw[Qzm];exact l2)]
def symC:Array Value:=(XQ.map fun x=>Value.string (mkB x)).toArray
def Qbx(h:AH):Prop:=HasG h 3 symC
theorem QsI(j:Nat)(h:j<XQ.length):pv Tryz.prog (Instr.index 232 (.agg symC) (.int .i64 (j:Int)))=some (.string (mkB XQ[j])):=by
 have h23:j<23:=h
 have key:∀m:Fin 23,pv Tryz.prog (Instr.index 232 (.agg symC) (.int .i64 ((m:Nat):Int)))=some (.string (mkB (XQ[(m:Nat)]'m.isLt))):=by
  have hx:∀(m:Fin 23),(match pv Tryz.prog (Instr.index 232 (.agg symC) (.int .i64 ((m:Nat):Int)))with|some (.string b)=>b.data.toList==XQ[(m:Nat)]'m.isLt|_=>false)=true:=by decide +kernel
  intro m
  have:=hx m
  split at this
  ·rename_i b hb
   rw[hb]
   rw[show b=mkB (XQ[(m:Nat)]'m.isLt)from by rw[<-QAb.1 this];exact(Qnx b).symm]
  ·cases this
 exact key ⟨j,h23⟩
theorem QjW(x l:List UInt8):x.isPrefixOf l=(l.take x.length==x):=by
 rw[Bool.eq_iff_iff,List.isPrefixOf_iff_prefix,QAb,QA7]
 exact eq_comm
theorem Qiy(l:List UInt8)(k n:Nat)(h:k+n<=l.length):((mkB l).extract k (k+n)).toList=(l.drop k).take n:=by
 rw[Lib.toList_data,ByteArray.data_extract,mkB]
 simp only[Array.toList_extract,List.extract_eq_take_drop]
 rw[QAe]
theorem QdU(l:List UInt8)(k n:Nat)(h:k+n<=l.length):(mkB l).extract k (k+n)=mkB ((l.drop k).take n):=by
 apply toList_inj
 rw[Qiy l k n h,QiM]
theorem QmS(l:List UInt8)(hl:l.length<=16384)(k:Nat)(hk:k<=l.length)(h:AH)(hG:Qbx h) :
  Qp Tryz.prog 187 [.v (.string (mkB l)),.i k] h fun o h'=>o = .ret (.v (.string (mkB ((QhL (l.drop k)).getD []))))/\h'=h:=by
 have hsl:=fun b=>ZB Tryz.prog 9 3 (by kernel_rfl) b
 have z1:¬((k:Nat):Int)<0:=by omega
 have z2:¬((l.length:Nat):Int)<((k:Nat):Int):=by omega
 have z3:¬((k:Nat):Int)>((l.length:Nat):Int):=by omega
 refine Qc Tryz.func187 rfl Tryz.call187 Tryz.ntmps187 Tryz.results187 (by simp) ?_
 iterate 10 (try (first|(((refine Qd fun K E hK hE=>?_));simp only[go_sem,seval,hsl,QW,z1,z2])|(refine QN fun K hK=>?_)|(refine Xu ?_)|(refine Qk ?_)|((with_reducible refine hK _ ?_);clear hK)|(refine Qw rfl ?_;simp only[↓reduceIte,Qyn])))
 refine Qh2 0 rfl fun K E hK hE=>?_
 simp only[go_sem,seval,QrV]
 refine⟨_,symC,rfl,hG,rfl,rfl,?_⟩
 refine hK _ ?_
 clear hK hE
 iterate 1 (try ((refine QA ?_)))
 obtain⟨I,hI⟩:∃I:Nat->AS->Prop,I=fun m' s=>∃j:Nat,m'=XQ.length - j/\j<=XQ.length/\(XQ.drop j).find? (fun x=>x.isPrefixOf (l.drop k))=QhL (l.drop k)/\s.tm 0 = .v (.string (mkB l))/\s.tm 1 = .i k/\s.tm 15 = .v (.agg symC)/\s.tm 16 = .i j/\s.h=h:=⟨_,rfl⟩;refine Qv I ?_ (m:=XQ.length) ?_
 ·intro m' s hs;rw[hI]at hs;obtain⟨tm,hp⟩:=s;dsimp only at hs;obtain⟨j,rfl,hj,he,t0,t1,t15,t16,rfl⟩:=hs
  by_cases hlt:j<XQ.length
  ·have y1:((j:Nat):Int)<23:=by have:XQ.length=23:=rfl;omega
   have hix:=QsI j hlt
   have hx3:XQ[j].length<=3:=by have:∀x∈XQ,x.length<=3:=(by decide);exact this _ (QzF hlt)
   rw[Qzq hlt,List.find?_cons]at he
   generalize hx:XQ[j]=x at *
   have w1:IntKind.i64.wrap (((l.length:Nat):Int) - ((k:Nat):Int))=((l.length - k:Nat):Int):=by rw[Xk (by omega)];omega
   have w2:IntKind.i64.wrap (((k:Nat):Int)+((x.length:Nat):Int))=((k+x.length:Nat):Int):=by rw[Xk (by omega)];omega
   have w3:IntKind.i64.wrap (((j:Nat):Int)+1)=((j+1:Nat):Int):=QY (by omega)
   by_cases hle:x.length<=l.length - k
   ·have y2:((x.length:Nat):Int)<=((l.length - k:Nat):Int):=by omega
    have y3:((l.length - k:Nat):Int)>=((x.length:Nat):Int):=by omega
    have hsp:=QeE Tryz.prog 9 (by kernel_rfl) (mkB l) (some (.i64,(k:Nat))) (some (.i64,(k+x.length:Nat))) k (k+x.length) ⟨by omega,by rw[QW];omega,by omega⟩ ⟨by omega,by omega,by omega⟩
    simp only[Qyl]at hsp
    have hq:(((mkB l).extract k (k+x.length)).toList==(mkB x).toList)=x.isPrefixOf (l.drop k):=by rw[Qiy l k _ (by omega),QiM,QjW]
    cases hc:x.isPrefixOf (l.drop k)with
    |true =>
     rw[hc]at hq he
     repeat first|refine Qa ?_;simp only[go_sem,seval,QbO,t0,t1,t15,t16,hsl,QW,y1,y2,hix,w1,w2,hsp,hq]|refine hK _ ?_;clear hK
     exact Qb Qzb (.keep (.v _)) ⟨by rw[<-he];rfl,rfl⟩
    |false =>
     rw[hc]at hq he
     repeat first|refine Qa ?_;simp only[go_sem,seval,QbO,t0,t1,t15,t16,hsl,QW,y1,y2,hix,w1,w2,w3,hsp,hq]|refine hK _ ?_;clear hK
     refine QZ.mk (m':=XQ.length - (j+1)) (by omega) ?_
     rw[hI]
     exact⟨j+1,rfl,by omega,he,t0,t1,t15,rfl,rfl⟩
   ·have y2:¬((x.length:Nat):Int)<=((l.length - k:Nat):Int):=by omega
    have y3:¬((l.length - k:Nat):Int)>=((x.length:Nat):Int):=by omega
    have hc:x.isPrefixOf (l.drop k)=false:=by
     rw[QjW,QAi]
     intro e
     have:=QzP List.length e
     rw[QzE,QzM]at this
     omega
    rw[hc]at he
    repeat first|refine Qa ?_;simp only[go_sem,seval,t0,t1,t15,t16,hsl,QW,y1,y2,hix,w1,w3]|refine hK _ ?_;clear hK
    refine QZ.mk (m':=XQ.length - (j+1)) (by omega) ?_
    rw[hI]
    exact⟨j+1,rfl,by omega,he,t0,t1,t15,rfl,rfl⟩
  ·have hjl:j=XQ.length:=by omega
   have y1:¬((j:Nat):Int)<23:=by have:XQ.length=23:=rfl;omega
   rw[hjl,QzG,List.find?_nil]at he
   repeat first|refine Qa ?_;simp only[go_sem,seval,t16,y1]|refine hK _ ?_;clear hK|clear hK;refine hK _ ?_;clear hK
   exact Qb Qzb (.keep (.v _)) ⟨by rw[<-he];rfl,rfl⟩
 ·rw[hI]
  exact⟨0,rfl,Qzy _,rfl,rfl,rfl,rfl,rfl,rfl⟩
end Go.Proofs.YtenheconhibonaaGreatDoor.Ab
namespace Go.Proofs.YtenheconhibonaaGreatDoor.Ab
open Go.Proofs
abbrev QaX{a:List AV}{h:AH}{Q:AOut->AH->Prop}:=@Qc Tryz.prog 177 _ _ a h Q Tryz.func177 rfl Tryz.call177 _ Tryz.ntmps177 _ Tryz.results177
def tkv(k i:Int)(x:List UInt8):AV:=.agg [.i k,.i i,.v (.string (mkB x))]
def zTok:AV:=.agg [.i 0,.i 0,.v (.string {data:=#[]})]
theorem QhO(n:Nat)(k i:Int)(x:List UInt8):Below n (tkv k i x):=.agg _ fun a ha=>by
 simp only[Qzn,Qzz,QAf]at ha
 rcases ha with rfl|rfl|rfl <;> exact .v _
theorem QaN{n:Nat}{t:AV}(ht:Below n t)(a b:Int):Below n (.tup [t,.i a,.i b]):=.tup _ fun x hx=>by
 simp only[Qzn,Qzz,QAf]at hx
 rcases hx with rfl|rfl|rfl
 ·exact ht
 ·exact .v _
 ·exact .v _
def rdT(k:Nat):Int×List UInt8 ⊕ Int->AV
 | .inl (kd,x)=>.tup [tkv kd k x,.i ((k+x.length:Nat):Int),.i 0]
 | .inr e=>.tup [zTok,.i k,.i e]
theorem QuN:zTok=tkv 0 0 []:=rfl
theorem ZY(n k:Nat)(r:Int×List UInt8 ⊕ Int):Below n (rdT k r):=by
 cases r with
 |inl p=>exact QaN (QhO n _ _ _) _ _
 |inr e=>exact QaN (QuN▸QhO n _ _ _) _ _
theorem Qm4(c:UInt8):(clsN (c.toNat:Nat)=2/\isL c=true/\97<=c.toNat)\/(clsN (c.toNat:Nat)=3/\isL c=true/\¬97<=c.toNat)\/(clsN (c.toNat:Nat)=4/\isL c=false/\isD c=true)\/((clsN (c.toNat:Nat)=0\/clsN (c.toNat:Nat)=1)/\isL c=false/\isD c=false):=by
 have hc:=c.toNat_lt
 unfold clsN isL isD
 simp only[Qzu,decide_eq_false_iff_not]
 repeat' split
 all_goals omega
section
variable(l:List UInt8)(hl:l.length<=16384)(k:Nat)(h:AH)
include hl
theorem QrE(hk:k=l.length):Qp Tryz.prog 177 [.v (.string (mkB l)),.i k] h fun o h'=>o = .ret (rdT k (ZO (l.drop k)))/\h'=h:=by
 have _hu:=hl
 have hsl:=fun b=>ZB Tryz.prog 9 3 (by kernel_rfl) b
 have z1:(((k:Nat):Int)==((l.length:Nat):Int))=true:=by rw[hk];simp
 have e:rdT k (ZO (l.drop k)) = .tup [tkv 0 k [],.i k,.i 0]:=by rw[hk,QzG];rfl
 rw[e]
 refine QaX (by simp) ?_
 repeat refine Qa ?_;simp only[go_sem,seval,hsl,QW,z1]
 exact Qb (htake _ _) (.keep (QaN (QhO _ _ _ _) _ _)) ⟨rfl,rfl⟩
theorem Qpd(hk:k<l.length)(hL:isL l[k]=true):Qp Tryz.prog 177 [.v (.string (mkB l)),.i k] h fun o h'=>o = .ret (rdT k (ZO (l.drop k)))/\h'=h:=by
 have hsl:=fun b=>ZB Tryz.prog 9 3 (by kernel_rfl) b
 have z1:(((k:Nat):Int)==((l.length:Nat):Int))=false:=by simp;omega
 have hix:=Qa6 Tryz.prog 9 (by kernel_rfl) (mkB l) k (by rw[QW];exact hk)
 rw[QbB l k hk]at hix
 have cp:=Qee (((l[k]).toNat:Nat):Int)
 have cr:=QlB l hl isW 2 Qu0 k (by omega)
 have hd:=drop_cons hk
 have hn:((l.drop k).takeWhile isW).length<=l.length - k:=by rw[<-QzM];exact(QA2 _).length_le
 obtain⟨w,hw⟩:∃w,w=(l.drop k).takeWhile isW:=⟨_,rfl⟩
 rw[<-hw]at cr hn
 have ht:ZO (l.drop k)=if 40<w.length then .inr 7 else .inl (if 97<=l[k].toNat then 1 else 2,w):=by rw[hw,hd,ZO,Qzh hL]
 have w1:IntKind.i64.wrap (((k+w.length:Nat):Int) - ((k:Nat):Int))=((w.length:Nat):Int):=by rw[Xk (by omega)];omega
 have hsp:=QeE Tryz.prog 9 (by kernel_rfl) (mkB l) (some (.i64,(k:Nat))) (some (.i64,(k+w.length:Nat))) k (k+w.length) ⟨by omega,by rw[QW];omega,by omega⟩ ⟨by omega,by omega,by omega⟩
 simp only[Qyl]at hsp
 have hwt:(l.drop k).take w.length=w:=by rw[hw];exact(QA7.1 (QA2 isW)).symm
 rw[QdU l k _ (by omega),hwt]at hsp
 have hcl:=Qm4 l[k]
 have q23:((2:Int)==3)=false:=rfl
 have q32:((3:Int)==2)=false:=rfl
 rw[ht]
 by_cases h40:40<w.length
 ·have y1:((w.length:Nat):Int)>40:=by omega
  have y2:(40:Int)<((w.length:Nat):Int):=by omega
  rw[Qzh h40]
  by_cases h97:97<=l[k].toNat
  ·have c2:clsN (((l[k]).toNat:Nat):Int)=2:=by rcases hcl with⟨a,b,c⟩|⟨a,b,c⟩|⟨a,b,c⟩|⟨a,b,c⟩ <;> first|exact a|omega|exact absurd (b.symm.trans hL) (by decide)
   rw[c2]at cp
   refine QaX (by simp) ?_
   repeat (first|refine Qe cp ?_|refine Qe cr ?_|refine Qa ?_);simp only[go_sem,seval,hsl,QW,z1,hix,w1,y1,q23]
   exact Qb (htake _ _) (.keep (ZY _ _ (.inr 7))) ⟨rfl,rfl⟩
  ·have c2:clsN (((l[k]).toNat:Nat):Int)=3:=by rcases hcl with⟨a,b,c⟩|⟨a,b,c⟩|⟨a,b,c⟩|⟨a,b,c⟩ <;> first|exact a|omega|exact absurd (b.symm.trans hL) (by decide)
   rw[c2]at cp
   refine QaX (by simp) ?_
   repeat (first|refine Qe cp ?_|refine Qe cr ?_|refine Qa ?_);simp only[go_sem,seval,hsl,QW,z1,hix,w1,y1,q32]
   exact Qb (htake _ _) (.keep (ZY _ _ (.inr 7))) ⟨rfl,rfl⟩
 ·have y1:¬((w.length:Nat):Int)>40:=by omega
  have y2:¬(40:Int)<((w.length:Nat):Int):=by omega
  rw[Qzf h40]
  by_cases h97:97<=l[k].toNat
  ·have c2:clsN (((l[k]).toNat:Nat):Int)=2:=by rcases hcl with⟨a,b,c⟩|⟨a,b,c⟩|⟨a,b,c⟩|⟨a,b,c⟩ <;> first|exact a|omega|exact absurd (b.symm.trans hL) (by decide)
   rw[c2]at cp
   rw[Qzh h97]
   refine QaX (by simp) ?_
   repeat (first|refine Qe cp ?_|refine Qe cr ?_|refine Qa ?_);simp only[go_sem,seval,QbO,hsl,QW,z1,hix,w1,y1,hsp,q23]
   exact Qb (htake _ _) (.keep (ZY _ k (.inl (1,w)))) ⟨rfl,rfl⟩
  ·have c2:clsN (((l[k]).toNat:Nat):Int)=3:=by rcases hcl with⟨a,b,c⟩|⟨a,b,c⟩|⟨a,b,c⟩|⟨a,b,c⟩ <;> first|exact a|omega|exact absurd (b.symm.trans hL) (by decide)
   rw[c2]at cp
   rw[Qzf h97]
   refine QaX (by simp) ?_
   repeat (first|refine Qe cp ?_|refine Qe cr ?_|refine Qa ?_);simp only[go_sem,seval,QbO,hsl,QW,z1,hix,w1,y1,hsp,q32]
   exact Qb (htake _ _) (.keep (ZY _ k (.inl (2,w)))) ⟨rfl,rfl⟩
theorem QrG(hk:k<l.length)(hL:isL l[k]=false)(hD:isD l[k]=false)(hG:Qbx h):Qp Tryz.prog 177 [.v (.string (mkB l)),.i k] h fun o h'=>o = .ret (rdT k (ZO (l.drop k)))/\h'=h:=by
 have hsl:=fun b=>ZB Tryz.prog 9 3 (by kernel_rfl) b
 have z1:(((k:Nat):Int)==((l.length:Nat):Int))=false:=by simp;omega
 have hix:=Qa6 Tryz.prog 9 (by kernel_rfl) (mkB l) k (by rw[QW];exact hk)
 rw[QbB l k hk]at hix
 have cp:=Qee (((l[k]).toNat:Nat):Int)
 have hd:=drop_cons hk
 have cs:=fun b=>QmS l hl k (by omega) (h++[b]) (hG.app [b])
 have ht:ZO (l.drop k)=match QhL (l.drop k)with|some x=>.inl (4,x)|none=>.inr 16:=by rw[hd,ZO,Qzf (by rw[hL];decide),Qzf (by rw[hD];decide)];rfl
 have hcl:=Qm4 l[k]
 have c0:clsN (((l[k]).toNat:Nat):Int)=0\/clsN (((l[k]).toNat:Nat):Int)=1:=by rcases hcl with⟨a,b,c⟩|⟨a,b,c⟩|⟨a,b,c⟩|⟨a,b,c⟩ <;> first|exact a|exact absurd (b.symm.trans hL) (by decide)|exact absurd (c.symm.trans hD) (by decide)
 generalize hcn:clsN (((l[k]).toNat:Nat):Int)=cn at *
 clear hcl
 have u2:(cn==2)=false:=by simp;omega
 have u3:(cn==3)=false:=by simp;omega
 have u4:(cn==4)=false:=by simp;omega
 rw[ht]
 cases hs:QhL (l.drop k)with
 |none =>
  rw[hs]at cs
  have hq:((mkB []).toList==({data:=#[]}:ByteArray).toList)=true:=by rw[QiM,Lib.toList_data];rfl
  simp only[Option.getD_none]at cs
  refine QaX (by simp) ?_
  repeat (first|refine Qe cp ?_|refine FunW.Qxr (cs _) ?_|refine Qa ?_);simp only[go_sem,seval,hsl,QW,z1,hix,u2,u3,u4,hq]
  exact Qb (htake _ _) (.keep (ZY _ _ (.inr 16))) ⟨rfl,rfl⟩
 |some x =>
  rw[hs]at cs
  obtain⟨x1,x3,xp⟩:=QlQ hs
  rw[QjW,QAb]at xp
  have xl:x.length<=l.length - k:=by have:=QzP List.length xp;rw[QzE,QzM]at this;omega
  have hq:((mkB x).toList==({data:=#[]}:ByteArray).toList)=false:=by
   rw[QiM,QAi]
   intro e
   have:=QzP List.length e
   rw[Lib.toList_data,show({data:=#[]}:ByteArray).data.toList.length=0 from rfl]at this
   omega
  simp only[QA6]at cs
  have w1:IntKind.i64.wrap (((k:Nat):Int)+((x.length:Nat):Int))=((k+x.length:Nat):Int):=by rw[Xk (by omega)];omega
  have hsp:=QeE Tryz.prog 9 (by kernel_rfl) (mkB l) (some (.i64,(k:Nat))) (some (.i64,(k+x.length:Nat))) k (k+x.length) ⟨by omega,by rw[QW];omega,by omega⟩ ⟨by omega,by omega,by omega⟩
  simp only[Qyl]at hsp
  rw[QdU l k _ (by omega),xp]at hsp
  refine QaX (by simp) ?_
  repeat (first|refine Qe cp ?_|refine FunW.Qxr (cs _) ?_|refine Qa ?_);simp only[go_sem,seval,QbO,hsl,QW,z1,hix,u2,u3,u4,hq,w1,hsp]
  exact Qb (htake _ _) (.keep (ZY _ _ (.inl (4,x)))) ⟨rfl,rfl⟩
end
end Go.Proofs.YtenheconhibonaaGreatDoor.Ab
namespace Go.Proofs.YtenheconhibonaaGreatDoor.Ab
open Go.Proofs
abbrev QgP {a : List AV} {h : AH} {Q : AOut -> AH -> Prop} := @Qc Tryz.prog 164 _ _ a h Q Tryz.func164 rfl Tryz.call164 _ Tryz.ntmps164 _ Tryz.results164
theorem QwZ {n : Int} (h : 0 <= n /\ n <= 255) : IntKind.u8.wrap n = n := IntWalk.u8_in n h
theorem QwF (n : Int) (hn : 0 <= n /\ n < 256) : pv Tryz.prog (convert 5 3 (.int .u8 n)) = some (.int .i64 n) := by
  have : pv Tryz.prog (convert 5 3 (.int .u8 n)) = some (.int .i64 (IntKind.i64.wrap n)) := by kernel_rfl
  rw [this, Xk (by omega)]
theorem QlI (q : List UInt8) : ∃ j, j <= q.length /\ Xy false q = q.drop j := by
  have : ∀ (b : Bool) (q : List UInt8), ∃ j, j <= q.length /\ Xy b q = q.drop j := fun b q => by
    induction q generalizing b with
    | nil => exact ⟨0, Qzl _, by cases b <;> rfl⟩
    | cons c r ih =>
      cases b with
      | true =>
        rw [Xy]
        split
        · obtain ⟨j, h1, h2⟩ := ih false; exact ⟨j + 1, by simp; omega, by rw [h2]; rfl⟩
        · obtain ⟨j, h1, h2⟩ := ih true; exact ⟨j + 1, by simp; omega, by rw [h2]; rfl⟩
      | false =>
        rw [Xy]
        split
        · obtain ⟨j, h1, h2⟩ := ih false; exact ⟨j + 1, by simp; omega, by rw [h2]; rfl⟩
        · split
          · obtain ⟨j, h1, h2⟩ := ih true; exact ⟨j + 1, by simp; omega, by rw [h2]; rfl⟩
          · exact ⟨0, Qzy _, rfl⟩
  exact this false q
section
variable (l : List UInt8) (hl : l.length <= 16384) (k : Nat) (h : AH)
include hl
theorem QrF (hk : k < l.length) (hD : isD l[k] = true) : Qp Tryz.prog 177 [.v (.string (mkB l)), .i k] h fun o h' => o = .ret (rdT k (ZO (l.drop k))) /\ h' = h := by
  have hsl := fun b => ZB Tryz.prog 9 3 (by kernel_rfl) b
  have z1 : (((k : Nat) : Int) == ((l.length : Nat) : Int)) = false := by simp; omega
  have hix := Qa6 Tryz.prog 9 (by kernel_rfl) (mkB l) k (by rw [QW]; exact hk)
  rw [QbB l k hk] at hix
  have cp := Qee (((l[k]).toNat : Nat) : Int)
  have cr := QlB l hl isD 4 QpN k (by omega)
  have hd := drop_cons hk
  have hn : ((l.drop k).takeWhile isD).length <= l.length - k := by rw [<- QzM]; exact (QA2 _).length_le
  obtain ⟨w, hw⟩ : ∃ w, w = (l.drop k).takeWhile isD := ⟨_, rfl⟩
  rw [<- hw] at cr hn
  have hL : isL l[k] = false := by rcases Qm4 l[k] with ⟨a, b, c⟩ | ⟨a, b, c⟩ | ⟨a, b, c⟩ | ⟨a, b, c⟩
                                   · exact absurd ((QpN l[k]).2 hD) (by omega)
                                   · exact absurd ((QpN l[k]).2 hD) (by omega)
                                   · exact b
                                   · exact b
  have c4 : clsN (((l[k]).toNat : Nat) : Int) = 4 := by rcases Qm4 l[k] with ⟨a, b, c⟩ | ⟨a, b, c⟩ | ⟨a, b, c⟩ | ⟨a, b, c⟩ <;> first | exact a | exact absurd (b.symm.trans hL) (by decide) | exact absurd (c.symm.trans hD) (by decide)
  rw [c4] at cp
  have ht : ZO (l.drop k) = if 2147483648 < numVal w then .inr 5 else .inl (3, w) := by rw [hw, hd, ZO, Qzf (by rw [hL]; decide), Qzh hD]
  have hsp := QeE Tryz.prog 9 (by kernel_rfl) (mkB l) (some (.i64, (k : Nat))) (some (.i64, (k + w.length : Nat))) k (k + w.length) ⟨by omega, by rw [QW]; omega, by omega⟩ ⟨by omega, by omega, by omega⟩
  simp only [Qyl] at hsp
  have hwt : (l.drop k).take w.length = w := by rw [hw]; exact (QA7.1 (QA2 isD)).symm
  rw [QdU l k _ (by omega), hwt] at hsp
  have q42 : ((4 : Int) == 2) = false := rfl
  have q43 : ((4 : Int) == 3) = false := rfl
  have hwd : ∀ (j : Nat) (hj : j < w.length), l[k + j]'(by omega) = w[j] /\ isD w[j] = true := fun j hj => by
    constructor
    · have : (l.drop k)[j]? = w[j]? := by
        conv => rhs; rw [<- hwt, QAK, Qzh hj]
      rw [QzO, Qzg (by omega), Qzg hj] at this
      exact QAH this
    · have : ∀ c ∈ w, isD c = true := fun c hc => by
        rw [hw] at hc
        exact QzB.1 List.all_takeWhile c hc
      exact this _ (QzF hj)
  rw [ht]
  refine QaX (by simp) ?_
  repeat (first | refine Qe cp ?_ | refine Qe cr ?_ | refine Qa ?_); simp only [go_sem, seval, hsl, QW, z1, hix, q42, q43]
  obtain ⟨I, hI⟩ : ∃ I : Nat -> AS -> Prop, I = fun m' s => ∃ j : Nat, m' = w.length - j /\ j <= w.length /\ numVal (w.take j) <= 2147483648 /\ s.tm 0 = .v (.string (mkB l)) /\ s.tm 1 = .i k /\ s.tm 4 = .ptr h.length 0 0 /\ s.tm 5 = .i ((k + w.length : Nat) : Int) /\ s.tm 7 = .i (numVal (w.take j) : Nat) /\ s.tm 8 = .i ((k + j : Nat) : Int) /\ s.h = h ++ [.cells 127 3 [.agg [.i 3, .i k, .v (.string { data := #[] })]]] := ⟨_, rfl⟩; refine Qv I ?_ (m := w.length) ?_
  · intro m' s hs; rw [hI] at hs; obtain ⟨tm, hp⟩ := s; dsimp only at hs; obtain ⟨j, rfl, hj, hv, t0, t1, t4, t5, t7, t8, rfl⟩ := hs
    by_cases hlt : j < w.length
    · have y1 : (((k + j : Nat) : Int) < ((k + w.length : Nat) : Int)) := by omega
      obtain ⟨d1, d2⟩ := hwd j hlt
      have hix2 := Qa6 Tryz.prog 9 (by kernel_rfl) (mkB l) (k + j) (by rw [QW]; omega)
      rw [QbB l (k + j) (by omega), d1] at hix2
      have hcd : 48 <= (w[j]).toNat /\ (w[j]).toNat <= 57 := by unfold isD at d2; simpa using d2
      obtain ⟨n1, n2⟩ := Qht hlt
      generalize hnv : numVal (w.take j) = v at *
      have w1 : IntKind.i64.wrap (10 * ((v : Nat) : Int)) = ((10 * v : Nat) : Int) := by rw [Xk (by omega)]; omega
      have w2 : IntKind.u8.wrap ((((w[j]).toNat : Nat) : Int) - 48) = (((w[j]).toNat - 48 : Nat) : Int) := by rw [QwZ (by omega)]; omega
      have w3 := QwF (((w[j]).toNat - 48 : Nat) : Int) (by omega)
      have w4 : IntKind.i64.wrap (((10 * v : Nat) : Int) + (((w[j]).toNat - 48 : Nat) : Int)) = ((numVal (w.take (j + 1)) : Nat) : Int) := by rw [Xk (by omega)]; omega
      have w5 : IntKind.i64.wrap (((k + j : Nat) : Int) + 1) = ((k + (j + 1) : Nat) : Int) := by rw [Xk (by omega)]; omega
      by_cases hb : 2147483648 < numVal (w.take (j + 1))
      · have y2 : ((numVal (w.take (j + 1)) : Nat) : Int) > 2147483648 := by omega
        have y3 : (2147483648 : Int) < ((numVal (w.take (j + 1)) : Nat) : Int) := by omega
        rw [show (if 2147483648 < numVal w then (Sum.inr 5 : Int × List UInt8 ⊕ Int) else .inl (3, w)) = .inr 5 from Qzh (by omega)]
        repeat refine Qa ?_; simp only [go_sem, seval, t0, t1, t4, t5, t7, t8, y1, hix2, w1, w2, w3, w4, y2]
        exact Qb (htake _ _) (.keep (ZY _ k (.inr 5))) ⟨rfl, rfl⟩
      · have y2 : ¬ ((numVal (w.take (j + 1)) : Nat) : Int) > 2147483648 := by omega
        have y3 : ¬ (2147483648 : Int) < ((numVal (w.take (j + 1)) : Nat) : Int) := by omega
        repeat refine Qa ?_; simp only [go_sem, seval, t0, t5, t7, t8, y1, hix2, w1, w2, w3, w4, y2, w5]
        refine QZ.mk (m' := w.length - (j + 1)) (by omega) ?_
        rw [hI]
        exact ⟨j + 1, rfl, hlt, by omega, t0, t1, t4, t5, rfl, rfl, rfl⟩
    · have hjl : j = w.length := by omega
      have y1 : ¬ (((k + j : Nat) : Int) < ((k + w.length : Nat) : Int)) := by omega
      rw [hjl, Qzb] at hv
      repeat refine Qa ?_; simp only [go_sem, seval, QbO, t0, t1, t4, t5, t8, y1, hsp]
      exact Qb (htake _ _) (.keep (ZY _ k (.inl (3, w)))) ⟨by rw [show (if 2147483648 < numVal w then (Sum.inr 5 : Int × List UInt8 ⊕ Int) else .inl (3, w)) = .inl (3, w) from Qzf (by omega)]; rfl, rfl⟩
  · rw [hI]
    refine ⟨0, rfl, Qzy _, by simp [numVal], rfl, rfl, rfl, rfl, rfl, rfl, rfl⟩
theorem Qpc (hk : k <= l.length) (hG : Qbx h) : Qp Tryz.prog 177 [.v (.string (mkB l)), .i k] h fun o h' => o = .ret (rdT k (ZO (l.drop k))) /\ h' = h := by
  by_cases e : k = l.length
  · exact QrE l hl k h e
  · have hlt : k < l.length := by omega
    by_cases hL : isL l[k] = true
    · exact Qpd l hl k h hlt hL
    · by_cases hD : isD l[k] = true
      · exact QrF l hl k h hlt hD
      · exact QrG l hl k h hlt (by simpa using hL) (by simpa using hD) hG
def QmF (tot : Nat) (q : List UInt8) : AV := rdT (tot - (Xy false q).length) (ZO (Xy false q))
theorem Qsq (hk : k <= l.length) (hG : Qbx h) : Qp Tryz.prog 164 [.v (.string (mkB l)), .i k] h fun o h' => o = .ret (QmF l.length (l.drop k)) /\ h' = h := by
  have hsl := fun b => ZB Tryz.prog 9 3 (by kernel_rfl) b
  have z1 : ¬ ((k : Nat) : Int) < 0 := by omega
  have z2 : ¬ ((l.length : Nat) : Int) < ((k : Nat) : Int) := by omega
  have z3 : ¬ ((k : Nat) : Int) > ((l.length : Nat) : Int) := by omega
  have z4 : ¬ ((l.length : Nat) : Int) > 16384 := by omega
  have z5 : ¬ (16384 : Int) < ((l.length : Nat) : Int) := by omega
  have cs := Qo1 l hl k hk
  obtain ⟨j, j1, j2⟩ := QlI (l.drop k)
  have e1 : Xy false (l.drop k) = l.drop (l.length - (Xy false (l.drop k)).length) := by
    rw [QzM] at j1
    rw [j2, QBj, QzM]
    congr 1; omega
  have cr := fun b => Qpc l hl (l.length - (Xy false (l.drop k)).length) (h ++ [b]) (by omega) (hG.app [b])
  rw [<- e1] at cr
  have fin : ∀ n, Below n (QmF l.length (l.drop k)) := fun n => ZY _ _ _
  cases hr : ZO (Xy false (l.drop k)) with
  | inl p =>
    obtain ⟨kd, x⟩ := p
    have e2 : QmF l.length (l.drop k) = rdT (l.length - (Xy false (l.drop k)).length) (.inl (kd, x)) := by rw [QmF, hr]
    rw [e2] at fin ⊢
    rw [hr] at cr
    generalize l.length - (Xy false (l.drop k)).length = i at *
    refine QgP (by simp) ?_
    repeat (first | refine Qe cs ?_ | refine FunW.Qxr (cr _) ?_ | refine Qa ?_); simp only [go_sem, seval, hsl, QW, z1, z2, z4, rdT, tkv]
    exact Qb (htake _ _) (.keep (fin _)) ⟨rfl, rfl⟩
  | inr e =>
    have e2 : QmF l.length (l.drop k) = rdT (l.length - (Xy false (l.drop k)).length) (.inr e) := by rw [QmF, hr]
    rw [e2] at fin ⊢
    rw [hr] at cr
    generalize l.length - (Xy false (l.drop k)).length = i at *
    refine QgP (by simp) ?_
    repeat (first | refine Qe cs ?_ | refine FunW.Qxr (cr _) ?_ | refine Qa ?_); simp only [go_sem, seval, hsl, QW, z1, z2, z4, rdT, zTok]
    exact Qb (htake _ _) (.keep (fin _)) ⟨rfl, rfl⟩
end
end Go.Proofs.YtenheconhibonaaGreatDoor.Ab
namespace Go.Proofs.YtenheconhibonaaGreatDoor.Ab
open Go.Proofs
def scR:List Tk ⊕ (Int×Int)->AV
 | .inl ts=>.tup [.sl 3 (tks ts) none,.i 0,.i 0]
 | .inr p=>.tup [.v (.slice none 0 0),.i p.1,.i p.2]
def scJ(ts:List Tk):List Tk ⊕ (Int×Int)->List Tk ⊕ (Int×Int)
 | .inl us=>.inl (ts++us)
 | .inr p=>.inr p
theorem QlD(n:Nat)(r:List Tk ⊕ (Int×Int)):Below n (scR r):=by
 cases r with
 |inl ts =>
  refine .tup _ fun x hx=>?_
  simp only[Qzn,Qzz,QAf]at hx
  rcases hx with rfl|rfl|rfl
  ·exact .sl 3 _ none (QeS _ _) (fun b hb=>by cases hb)
  ·exact .v _
  ·exact .v _
 |inr p =>
  refine .tup _ fun x hx=>?_
  simp only[Qzn,Qzz,QAf]at hx
  rcases hx with rfl|rfl|rfl <;> exact .v _
theorem QqN(l:List UInt8)(hl:16384<l.length)(h:AH):Qp Tryz.prog 164 [.v (.string (mkB l)),.i 0] h fun o h'=>o = .ret (.tup [zTok,.i 0,.i 6])/\h'=h:=by
 have hsl:=fun b=>ZB Tryz.prog 9 3 (by kernel_rfl) b
 have z1:¬(0:Int)<0:=by omega
 have z2:¬((l.length:Nat):Int)<0:=by omega
 have z3:¬(0:Int)>((l.length:Nat):Int):=by omega
 have z4:((l.length:Nat):Int)>16384:=by omega
 have z5:(16384:Int)<((l.length:Nat):Int):=by omega
 refine QgP (by simp) ?_
 repeat refine Qa ?_;simp only[go_sem,seval,hsl,QW,z1,z2,z4]
 exact Qb (htake _ _) (.keep (ZY _ 0 (.inr 6))) ⟨rfl,rfl⟩
theorem QnV{q:List UInt8}{e:Int}(h:ZO q = .inr e):e≠0:=by
 cases q with
 |nil=>cases h
 |cons c r =>
  rw[ZO]at h
  split at h
  ·split at h
   ·cases h;decide
   ·cases h
  ·split at h
   ·split at h
    ·cases h;decide
    ·cases h
   ·split at h
    ·cases h
    ·cases h;decide
theorem QlE(l:List UInt8)(h:AH)(hG:Qbx h):Qp Tryz.prog 141 [.v (.string (mkB l))] h fun o h'=>o = .ret (scR (YV l))/\h'=h:=by
 by_cases hl:16384<l.length
 ·have cn:=fun L=>QqN l hl (h++L)
  rw[YV,Qzh hl]
  have e2:((6:Int) != 0)=true:=rfl
  refine Qc Tryz.func141 rfl Tryz.call141 Tryz.ntmps141 Tryz.results141 (by simp) ?_
  iterate 6 (try (first|(((refine Qd fun K E hK hE=>?_));simp only[go_sem,seval])|((with_reducible refine hK _ ?_);clear hK)))
  refine Zu 5 127 3 rfl ?_
  iterate 4 (try ((refine QA ?_)))
  obtain⟨I,hI⟩:∃I:Nat->AS->Prop,I=fun m' s=>m'=0/\s.tm 0 = .v (.string (mkB l))/\s.tm 6 = .i 0/\s.h=h++[.grow 127 3 0]:=⟨_,rfl⟩;refine Qv I ?_ (m:=0) ?_
  ·intro m' s hs;rw[hI]at hs;obtain⟨tm,hp⟩:=s;dsimp only at hs;obtain⟨rfl,t0,t6,rfl⟩:=hs
   repeat first|(first|refine FunW.Qxr (cn _) ?_|refine Qa ?_);simp only[go_sem,seval,t0,t6,zTok,e2]|refine hK _ ?_;clear hK
   exact Qb (htake _ _) (.keep (QlD _ (.inr (0,6)))) ⟨rfl,rfl⟩
  ·rw[hI]
   exact⟨rfl,rfl,rfl,rfl⟩
 ·have hl2:l.length<=16384:=by omega
  rw[YV,Qzf hl]
  generalize hR:Qbt l.length (l.length+1) l=R
  refine Qc Tryz.func141 rfl Tryz.call141 Tryz.ntmps141 Tryz.results141 (by simp) ?_
  iterate 6 (try (first|(((refine Qd fun K E hK hE=>?_));simp only[go_sem,seval])|((with_reducible refine hK _ ?_);clear hK)))
  refine Zu 5 127 3 rfl ?_
  iterate 4 (try ((refine QA ?_)))
  obtain⟨I,hI⟩:∃I:Nat->AS->Prop,I=fun m' s=>∃(ts:List Tk) (k:Nat) (G:AH),m'=l.length - k/\k<=l.length/\ts.length<=k/\(∃m,l.length - k<m/\scJ ts (Qbt l.length m (l.drop k))=R)/\s.tm 0 = .v (.string (mkB l))/\s.tm 5 = .sl 3 (tks ts) (some h.length)/\s.tm 6 = .i k/\s.h=h++(.grow 127 3 ts.length::G):=⟨_,rfl⟩;refine Qv I ?_ (m:=l.length) ?_
  ·intro m' s hs;rw[hI]at hs;obtain⟨tm,hp⟩:=s;dsimp only at hs;obtain⟨ts,k,G,rfl,hk,htl,⟨m,hm,hR2⟩,t0,t5,t6,rfl⟩:=hs
   have hm1:m=m - 1+1:=by omega
   rw[hm1,Qbt]at hR2
   have cn:=fun L=>Qsq l hl2 k (h++L) hk (hG.app L)
   obtain⟨j,j1,j2⟩:=QlI (l.drop k)
   have hsl:(Xy false (l.drop k)).length<=l.length - k:=by rw[j2,QzM,QzM];omega
   have e1:Xy false (l.drop k)=l.drop (l.length - (Xy false (l.drop k)).length):=by
    rw[QzM]at j1
    rw[j2,QBj,QzM]
    congr 1;omega
   rw[QmF]at cn
   have x1:∀(Y:AH),(G++Y)[G.length]? = Y[0]? := fun Y=>XP _ _
   have x2:∀(Y:AH) k,(G++Y)[G.length+k]? = Y[k]? := fun Y k=>hget _ _ _
   have x3:∀(Y:AH) y,(G++Y).set G.length y=G++Y.set 0 y:=fun Y y=>Qaa _ _ _
   have ev:(tks ts).length=ts.length:=Qdx _
   cases ht:ZO (Xy false (l.drop k))with
   |inr e =>
    rw[ht]at hR2 cn
    have hR3:Sum.inr (((l.length - (Xy false (l.drop k)).length:Nat):Int),e)=R:=hR2
    subst hR3
    have he:(e != 0)=true:=by
     have:=QnV ht
     simpa using this
    repeat first|(first|refine FunW.Qxr (cn _) ?_|refine Qa ?_);simp only[go_sem,seval,t0,t6,rdT,zTok,he]|refine hK _ ?_;clear hK
    exact Qb (htake _ _) (.keep (QlD _ (.inr (_,e)))) ⟨rfl,rfl⟩
   |inl p =>
    obtain⟨kd,x⟩:=p
    rw[ht]at hR2 cn
    have hm2:(ts.length+1) * 32<=140737488355328:=by omega
    have hm3:ts.length+1<=maxLen:=by simp only[maxLen];omega
    have e0:((0:Int) != 0)=false:=rfl
    rcases Qkh ht with⟨k0,hx1,hx2⟩|⟨k0,hx1,r,hx2⟩
    ·subst k0
     subst hx2
     have hR3:Sum.inl (ts++[⟨0,((l.length - (Xy false (l.drop k)).length:Nat):Int),eB⟩])=R:=hR2
     subst hR3
     have z1:((0:Int)==0)=true:=rfl
     generalize l.length - (Xy false (l.drop k)).length=i at *
     have evs:tks (ts++[⟨0,((i:Nat):Int),eB⟩])=tks ts++[.agg [.i 0,.i i,.v (.string (mkB []))]]:=by rw[tks,Qz3];rfl
     repeat first|(first|refine FunW.Qxr (cn _) ?_|refine Qa ?_);simp only[go_sem,seval,t0,t5,t6,rdT,tkv,x1,x3,ev,hm2,hm3,Qze]|refine hK _ ?_;clear hK
     refine Qb (htake _ _) (r':=.tup [.sl 3 (tks ts++[.agg [.i 0,.i i,.v (.string (mkB []))]]) none,.i 0,.i 0]) (Frz.tup rfl fun j a a' h1 h2=>?_) ⟨by rw[scR,evs],rfl⟩
     match j,h1,h2 with
     |0,h1,h2=>cases h1;cases h2;exact .tok (by rw[<-evs];exact QeS _ _)
     |1,h1,h2=>cases h1;cases h2;exact .keep (.v _)
     |2,h1,h2=>cases h1;cases h2;exact .keep (.v _)
     |j+3,h1,h2=>simp at h1
    ·have hR3:scJ (ts++[⟨kd,((l.length - (Xy false (l.drop k)).length:Nat):Int),mkB x⟩]) (Qbt l.length (m - 1) ((Xy false (l.drop k)).drop x.length))=R:=by
      rw[<-hR2]
      show _=scJ ts (if kd=0 then _ else match Qbt l.length (m - 1) ((Xy false (l.drop k)).drop x.length)with | .inl ts=>_ | .inr e=>_)
      rw[Qzf k0]
      cases Qbt l.length (m - 1) ((Xy false (l.drop k)).drop x.length)with
      |inl us=>simp[scJ]
      |inr e=>rfl
     have hxl:0<x.length:=QAq.2 hx1
     have hxr:x.length<=(Xy false (l.drop k)).length:=by rw[hx2,Qza];omega
     have e9:(Xy false (l.drop k)).drop x.length=l.drop (l.length - (Xy false (l.drop k)).length+x.length):=by
      conv=>lhs;rw[e1]
      rw[QBj]
     rw[e9]at hR3
     generalize (Xy false (l.drop k)).length=u at *
     have z1:(kd==0)=false:=by simpa using k0
     have evs:tks (ts++[⟨kd,((l.length - u:Nat):Int),mkB x⟩])=tks ts++[.agg [.i kd,.i ((l.length - u:Nat):Int),.v (.string (mkB x))]]:=by rw[tks,Qz3];rfl
     repeat first|(first|refine FunW.Qxr (cn _) ?_|refine Qa ?_);simp only[go_sem,seval,t0,t5,t6,rdT,tkv,z1,x1,x3,ev,hm2,hm3,Qze]|refine hK _ ?_;clear hK
     refine QZ.mk (m':=l.length - (l.length - u+x.length)) (by omega) ?_
     rw[hI]
     refine⟨ts++[⟨kd,((l.length - u:Nat):Int),mkB x⟩],l.length - u+x.length,G++[.cells 127 3 [tkv kd ((l.length - u:Nat):Int) x]],rfl,by omega,by simp;omega,⟨m - 1,by omega,hR3⟩,t0,?_,rfl,?_⟩
     ·rw[evs];rfl
     ·rw[Qza];rfl
  ·rw[hI]
   exact⟨[],0,[],rfl,Qzy _,Qzl _,⟨l.length+1,by omega,by rw[<-hR];cases h0:Qbt l.length (l.length+1) l <;> simp[scJ,h0]⟩,rfl,rfl,rfl,rfl⟩
structure OneTk (tot:Nat) (t:Tk):Prop where
 int:t.kind=3->(∀c∈t.text.toList,isD c=true)/\numVal t.text.toList<=2147483648
 pos:0<=t.pos/\t.pos<=tot
 nam:t.kind=1->opB t.text=false
theorem Qsx{x:ByteArray}(h:opB x=true):∃c,x.toList=[c]/\isL c=false:=by
 rcases QjS.1 h with h|h
 ·simp only[Xq,Qzn,Qzz,QAf]at h
  rcases h with h|h|h <;> exact⟨_,h,by decide⟩
 ·simp only[Yr,Qzn,Qzz,QAf]at h
  rcases h with h|h <;> exact⟨_,h,by decide⟩
theorem QuE{q x:List UInt8}{k:Int}(h:ZO q = .inl (k,x)):(k=3->(∀c∈x,isD c=true)/\numVal x<=2147483648)/\(k=1->opB (mkB x)=false):=by
 cases q with
 |nil=>cases h;exact⟨fun e=>absurd e (by decide),fun e=>absurd e (by decide)⟩
 |cons c r =>
  rw[ZO]at h
  split at h
  ·rename_i hL
   split at h
   ·cases h
   ·cases h
    refine⟨fun e=>by split at e <;> exact absurd e (by decide),fun _=>?_⟩
    cases ho:opB (mkB ((c::r).takeWhile isW))with
    |false=>rfl
    |true =>
     obtain⟨d,h1,h2⟩:=Qsx ho
     have hw:isW c=true:=by unfold isW;rw[hL];rfl
     rw[QiM,QAU,Qzh hw,List.cons.injEq]at h1
     rw[h1.1]at hL
     rw[hL]at h2;cases h2
  ·split at h
   ·split at h
    ·cases h
    ·rename_i hb
     cases h
     exact⟨fun _=>⟨fun d hd=>QzB.1 List.all_takeWhile d hd,by omega⟩,fun e=>absurd e (by decide)⟩
   ·split at h
    ·cases h;exact⟨fun e=>absurd e (by decide),fun e=>absurd e (by decide)⟩
    ·cases h
theorem QnP(tot:Nat):∀(m:Nat) (q:List UInt8) (ts:List Tk),Qbt tot m q = .inl ts->q.length<m->(∀t∈ts,OneTk tot t)/\(∃a e,ts=a++[e]/\e.kind=0/\∀t∈a,t.kind≠0)/\ts.length<=q.length+1
 |0,_,_,_,h=>by omega
 |m+1,q,ts,h,hm=>by
  rw[Qbt]at h
  have hsk:=Qdu false q
  cases ht:ZO (Xy false q)with
  |inr e=>rw[ht]at h;cases h
  |inl p =>
   obtain⟨k,x⟩:=p
   rw[ht]at h
   simp only at h
   obtain⟨h1,h2⟩:=QuE ht
   split at h
   ·rename_i k0
    cases h
    refine⟨fun t hm=>?_,⟨[],_,rfl,rfl,fun t h=>(Qzz h).elim⟩,by simp⟩
    rw[Qz8]at hm
    subst hm
    exact⟨fun e=>absurd (show(0:Int)=3 from e) (by decide),⟨by show(0:Int)<=((tot - _:Nat):Int);omega,by show((tot - _:Nat):Int)<=_;omega⟩,fun e=>absurd (show(0:Int)=1 from e) (by decide)⟩
   ·rename_i k0
    rcases Qkh ht with⟨k1,_,_⟩|⟨k1,hx1,r,hx2⟩
    ·exact absurd k1 k0
    ·have hxl:0<x.length:=QAq.2 hx1
     have hxr:x.length<=(Xy false q).length:=by rw[hx2,Qza];omega
     cases hs:Qbt tot m ((Xy false q).drop x.length)with
     |inr e=>rw[hs]at h;cases h
     |inl us =>
      rw[hs]at h
      cases h
      obtain⟨a1,⟨a,e,a2,a3,a4⟩,a5⟩:=QnP tot m _ us hs (by rw[QzM];omega)
      rw[QzM]at a5
      refine⟨fun t hm=>?_,⟨⟨k,_,mkB x⟩::a,e,by rw[a2];rfl,a3,fun t hm=>?_⟩,by simp only[Qyw];omega⟩
      ·rw[Qzn]at hm
       rcases hm with rfl|hm
       ·exact⟨fun e=>by rw[QiM];exact h1 e,⟨by show(0:Int)<=((tot - _:Nat):Int);omega,by show((tot - _:Nat):Int)<=_;omega⟩,h2⟩
       ·exact a1 t hm
      ·rw[Qzn]at hm
       rcases hm with rfl|hm
       ·exact k1
       ·exact a4 t hm
theorem QiX{l:List UInt8}{ts:List Tk}(h:YV l = .inl ts):TkOk ts/\Wst ts ⟨ts,[]⟩/\ts.length<=1000000/\l.length<=16384:=by
 rw[YV]at h
 split at h
 ·cases h
 ·rename_i hl
  obtain⟨h1,⟨a,e,h2,h3,h4⟩,h5⟩:=QnP l.length (l.length+1) l ts h (by omega)
  exact⟨⟨fun t ht=>(h1 t ht).int,fun t ht=>⟨(h1 t ht).pos.1,by have:=(h1 t ht).pos.2;omega⟩,fun t ht=>(h1 t ht).nam⟩,⟨⟨a,e,h2,h3,h4⟩,List.suffix_refl _,by simp⟩,by omega,by omega⟩
end Go.Proofs.YtenheconhibonaaGreatDoor.Ab
namespace Go.Proofs.YtenheconhibonaaGreatDoor.Ab
open Go.Proofs
theorem QlF(tot:Nat):∀(m:Nat) (q:List UInt8) (p:Int×Int),Qbt tot m q = .inr p->p.2≠0
 |0,_,_,h=>by cases h
 |m+1,q,p,h=>by
  rw[Qbt]at h
  cases ht:ZO (Xy false q)with
  |inr e=>rw[ht]at h;cases h;exact QnV ht
  |inl y =>
   obtain⟨k,x⟩:=y
   rw[ht]at h
   simp only at h
   split at h
   ·cases h
   ·cases hs:Qbt tot m ((Xy false q).drop x.length)with
    |inr e=>rw[hs]at h;cases h;exact QlF tot m _ _ hs
    |inl us=>rw[hs]at h;cases h
theorem Qc5{l:List UInt8}{p:Int×Int}(h:YV l = .inr p):p.2≠0:=by
 rw[YV]at h
 split at h
 ·cases h;decide
 ·exact QlF _ _ _ _ h
theorem QlO{l:List UInt8}{ts:List Tk}(hs:YV l = .inl ts)(h:AH)(hG:Qbx h):Qp Tryz.prog 106 [.v (.string (mkB l))] h fun o h'=>o = .ret (.agg [.sl 3 (tks ts) none,.i 0])/\h'=h:=by
 have cs:=fun L=>QlE l (h++L) (hG.app L)
 rw[hs,scR]at cs
 have e0:((0:Int) != 0)=false:=rfl
 refine Qc Tryz.func106 rfl Tryz.call106 Tryz.ntmps106 Tryz.results106 (by simp) ?_
 repeat (first|refine FunW.Qxr (cs _) ?_|refine Qa ?_);simp only[go_sem,seval]
 refine Qb (htake _ _) (.keep (.agg _ fun a ha=>?_)) ⟨rfl,rfl⟩
 simp only[Qzn,Qzz,QAf]at ha
 rcases ha with rfl|rfl
 ·exact .sl 3 _ none (QeS _ _) (fun b hb=>by cases hb)
 ·exact .v _
theorem Qo6{l:List UInt8}{p e:Int}(hs:YV l = .inr (p,e))(h:AH)(hG:Qbx h):Qp Tryz.prog 106 [.v (.string (mkB l))] h fun o h'=>o = .panic (Fl p e)/\h'=h:=by
 have cs:=fun L=>QlE l (h++L) (hG.app L)
 rw[hs,scR]at cs
 have e0:(e != 0)=true:=by simpa using Qc5 hs
 have hu:=Tryz.underlying155
 refine Qc Tryz.func106 rfl Tryz.call106 Tryz.ntmps106 Tryz.results106 (by simp) ?_
 repeat (first|refine FunW.Qxr (cs _) ?_|refine Qa ?_);simp only[go_sem,seval,e0,hu]
 exact Qb (htake _ _) (.keep (Qdf _ _ _)) ⟨rfl,rfl⟩
def P0(h:AH)(ts:List Tk):Pz:=⟨ts,h.length+2,h.length+4,h.length+3⟩
def hp0(h:AH)(ts:List Tk):AH:=ph (h++[iC 0,eC 0,.cells 117 4 [.agg [.sl 3 (tks ts) none,.i 0,.v (.slice none 0 0),.v (.map none)]]]++[.dead,.dead]) (P0 h ts) ⟨ts,[]⟩
theorem QuU(h:AH)(ts:List Tk)(x:AB):(P0 h ts).ok (h++[iC 0,eC 0,x]++[.dead,.dead]):=by
 refine⟨?_,?_,?_,?_,?_,?_⟩ <;> simp only[P0,Qza,Qyw,Qyx] <;> omega
theorem Qs9(h:AH)(ts:List Tk):Qp Tryz.prog 107 [.ptr (h.length+2) 0 0] (h++[iC 0,eC 0,.cells 117 4 [.agg [.sl 3 (tks ts) none,.i 0,.v (.slice none 0 0),.v (.map none)]]]) fun o h'=>o = .ret (.tup [])/\h'=hp0 h ts:=by
 have:=Ql8 (X:=h++[iC 0,eC 0,.cells 117 4 [.agg [.sl 3 (tks ts) none,.i 0,.v (.slice none 0 0),.v (.map none)]]]) (P:=P0 h ts) (s:=⟨ts,[]⟩) (by
  show(h++_)[h.length+2]? = _
  rw[hget]
  simp only[P0,Qz0];rfl) (by simp[P0])
 refine this.mono ?_
 rintro o h' ⟨rfl,rfl⟩
 refine⟨rfl,?_⟩
 rw[hp0]
 congr 1
 simp[P0,Pz.to]
theorem panQ{P:Program}{rs:List ResultVar}{h H:AH}{Q:AOut->AH->Prop}{tm:Nat->AV}{p e a0 e0:Int}{k:Nat}(hP:P=Tryz.prog)(hk:H[k]? = some (iC a0))(hk1:H[k+1]? = some (eC e0))(hq:∀L,Zr P rs h Q .ret ⟨tm,(H.set k (iC p)).set (k+1) (eC e)++L⟩) :
  Qgj P rs h Q [(105,[.ptr k 0 0,.ptr (k+1) 0 0])] (.pan (Fl p e) false) ⟨tm,H⟩:=by
 subst hP
 simp only[Qgj]
 refine Qau.Qx0 (Qre hk hk1 p e) ?_
 rintro m' h' ⟨rfl,L,rfl⟩
 exact hq L
theorem rtQ{P:Program}{rs:List ResultVar}{h H:AH}{Q:AOut->AH->Prop}{tm:Nat->AV}{k:Nat}(hP:P=Tryz.prog)(hq:Zr P rs h Q .ret ⟨tm,H⟩) :
  Qgj P rs h Q [(105,[.ptr k 0 0,.ptr (k+1) 0 0])] .ret ⟨tm,H⟩:=by
 subst hP
 simp only[Qgj]
 refine Qau.Qx0 Qrf ?_
 rintro m' h' ⟨rfl,rfl⟩
 exact hq
theorem Qpe(n:Nat)(a b:Int):Below n (.tup [.i a,.i b]):=.tup _ fun x hx=>by
 simp only[Qzn,Qzz,QAf]at hx
 rcases hx with rfl|rfl <;> exact .v _
theorem QlA{l:List UInt8}{p e:Int}(hs:YV l = .inr (p,e))(fv:AV)(h:AH)(hG:Qbx h):Qp Tryz.prog 65 [.v (.string (mkB l)),fv] h fun o h'=>o = .ret (.tup [.i p,.i e])/\h'=h:=by
 have cs:=fun L=>Qo6 hs (h++L) (hG.app L)
 refine QaP Tryz.func65 rfl Tryz.call65 Tryz.ntmps65 (QzP Array.toList Tryz.results65) (by simp) ?_
 refine YC (Yf ?_)
 repeat refine Qa ?_;simp only[go_sem,seval]
 show DefW _ _ _ _ _ _
 refine YC (Qch 1 rfl rfl rfl ?_)
 simp only[go_sem,seval]
 refine⟨_,_,_,rfl,?_⟩
 show DefW _ _ _ _ _ _
 refine YC (Yf ?_)
 repeat (first|refine FunW.pan (FunW.call (cs _)) ?_|refine Qa ?_);simp only[go_sem,seval]
 simp only[AExit.Qyd,QlY]
 refine panQ (a0:=0) (e0:=0) rfl (by rw[XP];rfl) (by rw[hget];rfl) fun L=>?_
 rw[Qaa,hset]
 simp only[go_sem,seval,Qze]
 exact Qb (htake _ _) (.keep (Qpe _ _ _)) ⟨rfl,rfl⟩
section
variable{l:List UInt8}{ts:List Tk}(hs:YV l = .inl ts)(fv:AV)(h:AH)(hG:Qbx h)(Ok:AH->Prop)(hOk:∀Y a b L,h.length+1<Y.length->Ok Y->Ok ((Y.set h.length a).set (h.length+1) b++L))
include hs hG hOk
theorem Qri(HF:FunW Tryz.prog fv [.ptr (h.length+2) 0 0] (hp0 h ts) fun o h'=>o = .ret (.tup [])/\∃Y:{Y:AH // Y[h.length]? = some (iC 0)/\Y[h.length+1]? = some (eC 0)/\Ok Y},h'=Y.1) :
  Qp Tryz.prog 65 [.v (.string (mkB l)),fv] h fun o h'=>o = .ret (.tup [.i 0,.i 0])/\∃Y:{Y:AH // Ok Y},h'=Y.1:=by
 have cs:=fun L=>QlO hs (h++L) (hG.app L)
 have cc:=Qs9 h ts
 refine QaP Tryz.func65 rfl Tryz.call65 Tryz.ntmps65 (QzP Array.toList Tryz.results65) (by simp) ?_
 refine YC (Yf ?_)
 repeat refine Qa ?_;simp only[go_sem,seval]
 show DefW _ _ _ _ _ _
 refine YC (Qch 1 rfl rfl rfl ?_)
 simp only[go_sem,seval]
 refine⟨_,_,_,rfl,?_⟩
 show DefW _ _ _ _ _ _
 refine YC (Yf ?_)
 repeat (first|refine FunW.Qxr (cs _) ?_|refine Qa ?_);simp only[go_sem,seval]
 show DefW _ _ _ _ _ _
 refine YC (Yf ?_)
 repeat (first|refine FunW.Qxr cc ?_|refine Qa ?_);simp only[go_sem,seval]
 show DefW _ _ _ _ _ _
 refine YC (Yf ?_)
 repeat (first|refine FunW.retE HF fun Y=>?_|refine Qa ?_);simp only[go_sem,seval]
 have hY:=Y.2
 generalize Y.1=Y1 at *
 obtain⟨y1,y2,y3⟩:=hY
 have l1:=Qf y1
 have l2:=Qf y2
 repeat refine Qa ?_;simp only[go_sem,seval]
 show DefW _ _ _ _ _ _
 refine Yf ?_
 have u1:∀y,(Y1.set h.length y)[h.length+1]? = some (eC 0):=fun y=>by rw[Qzd (by omega)];exact y2
 have u2:∀y z,((Y1.set h.length y).set (h.length+1) z)[h.length]? = some y:=fun y z=>by rw[Qzd (by omega),Qzj l1]
 have u3:∀y z,((Y1.set h.length y).set (h.length+1) z)[h.length+1]? = some z:=fun y z=>Qzj (by rw[Qzm];exact l2)
 repeat refine Qa ?_;simp only[go_sem,seval,y1,u1]
 simp only[QlY]
 refine rtQ rfl ?_
 simp only[go_sem,seval,u2,u3]
 have:=hOk Y1 (iC 0) (eC 0) [] l2 y3
 rw[QyM]at this
 exact .inr ⟨rfl,⟨_,this⟩,rfl⟩
theorem QnJ{p e:Int}(HF:FunW Tryz.prog fv [.ptr (h.length+2) 0 0] (hp0 h ts) fun o h'=>o = .panic (Fl p e)/\∃Y:{Y:AH // Y[h.length]? = some (iC 0)/\Y[h.length+1]? = some (eC 0)/\Ok Y},h'=Y.1) :
  Qp Tryz.prog 65 [.v (.string (mkB l)),fv] h fun o h'=>o = .ret (.tup [.i p,.i e])/\∃Y:{Y:AH // Ok Y},h'=Y.1:=by
 have cs:=fun L=>QlO hs (h++L) (hG.app L)
 have cc:=Qs9 h ts
 refine QaP Tryz.func65 rfl Tryz.call65 Tryz.ntmps65 (QzP Array.toList Tryz.results65) (by simp) ?_
 refine YC (Yf ?_)
 repeat refine Qa ?_;simp only[go_sem,seval]
 show DefW _ _ _ _ _ _
 refine YC (Qch 1 rfl rfl rfl ?_)
 simp only[go_sem,seval]
 refine⟨_,_,_,rfl,?_⟩
 show DefW _ _ _ _ _ _
 refine YC (Yf ?_)
 repeat (first|refine FunW.Qxr (cs _) ?_|refine Qa ?_);simp only[go_sem,seval]
 show DefW _ _ _ _ _ _
 refine YC (Yf ?_)
 repeat (first|refine FunW.Qxr cc ?_|refine Qa ?_);simp only[go_sem,seval]
 show DefW _ _ _ _ _ _
 refine YC (Yf ?_)
 repeat (first|refine FunW.panE HF fun Y=>?_|refine Qa ?_);simp only[go_sem,seval]
 have hY:=Y.2
 generalize Y.1=Y1 at *
 obtain⟨y1,y2,y3⟩:=hY
 have l1:=Qf y1
 have l2:=Qf y2
 simp only[AExit.Qyd,QlY]
 refine panQ rfl y1 y2 fun L=>?_
 have u2:∀y z,((Y1.set h.length y).set (h.length+1) z++L)[h.length]? = some y:=fun y z=>by rw[Qzc (by simp only[Qzm];exact l1),Qzd (by omega),Qzj l1]
 have u3:∀y z,((Y1.set h.length y).set (h.length+1) z++L)[h.length+1]? = some z:=fun y z=>by rw[Qzc (by simp only[Qzm];exact l2)];exact Qzj (by rw[Qzm];exact l2)
 simp only[go_sem,seval,u2,u3]
 exact .inr ⟨rfl,⟨_,hOk Y1 (iC p) (eC e) L l2 y3⟩,rfl⟩
end
end Go.Proofs.YtenheconhibonaaGreatDoor.Ab
namespace Go.Proofs.YtenheconhibonaaGreatDoor.Ab
open Go.Proofs
abbrev Qjn{a:List AV}{h:AH}{Q:AOut->AH->Prop}:=@Qc Tryz.prog 27 _ _ a h Q Tryz.func27 rfl Tryz.call27 _ Tryz.ntmps27 _ Tryz.results27
abbrev Qjo{a:List AV}{h:AH}{Q:AOut->AH->Prop}:=@Qc Tryz.prog 28 _ _ a h Q Tryz.func28 rfl Tryz.call28 _ Tryz.ntmps28 _ Tryz.results28
theorem FunW.cl{P:Program}{f:FuncId}{args cap:List AV}{h:AH}{Q:AOut->AH->Prop}(H:Qp P f (args++cap) h Q):FunW P (.fn (.func f) [] cap) args h Q:=FunW.fn (by rw[QyK];exact H)
def psR:Pg ⊕ (Int×Int)->AV
 | .inl p=>.tup [p.av,.i 0,.i 0]
 | .inr e=>.tup [(⟨[],[]⟩:Pg).av,.i e.1,.i e.2]
theorem Qto(n:Nat)(p:Pg):Below n p.av:=.agg _ fun a ha=>by
 simp only[Qzn,Qzz,QAf]at ha
 rcases ha with rfl|rfl
 ·exact QaU Dc.av n 2 (fun d=>Dc.bel n d) _
 ·exact QaU Rl.av n 6 (fun r=>Rl.bel n r) _
theorem Qq9(n:Nat)(r:Pg ⊕ (Int×Int)):Below n (psR r):=by
 cases r with
 |inl p=>exact QaN (Qto n p) _ _
 |inr e=>exact QaN (Qto n _) _ _
theorem Qra{H:AH}{m:Nat}(p e:Int):Frz H m (.tup [.agg [.v (.slice none 0 0),.v (.slice none 0 0)],.i p,.i e]) (psR (.inr (p,e))):=by
 refine .tup rfl fun j a a' h1 h2=>?_
 match j,h1,h2 with
 |0,h1,h2 =>
  cases h1;cases h2
  refine .agg rfl fun j a a' h1 h2=>?_
  match j,h1,h2 with
  |0,h1,h2=>cases h1;cases h2;exact .nil 2
  |1,h1,h2=>cases h1;cases h2;exact .nil 6
  |j+2,h1,h2=>simp at h1
 |1,h1,h2=>cases h1;cases h2;exact .keep (.v _)
 |2,h1,h2=>cases h1;cases h2;exact .keep (.v _)
 |j+3,h1,h2=>simp at h1
abbrev rZ0:AB:=.cells 25 6 [.agg [.v (.string {data:=#[]}),nilV,nilV,nilV,nilV,.i 0]]
def rsR:Rl ⊕ (Int×Int)->AV
 | .inl r=>.tup [r.av,.i 0,.i 0]
 | .inr e=>.tup [(⟨eB,[],[],[],[],0⟩:Rl).av,.i e.1,.i e.2]
theorem Qtq(n:Nat)(r:Rl):Below n r.av:=.agg _ fun a ha=>Rl.bel n r a (by rw[Rl.cells];exact ha)
theorem Qro(n:Nat)(r:Rl ⊕ (Int×Int)):Below n (rsR r):=by
 cases r with
 |inl p=>exact QaN (Qtq n p) _ _
 |inr e=>exact QaN (Qtq n _) _ _
theorem Qrp{H:AH}{m:Nat}(p e:Int):Frz H m (.tup [.agg [.v (.string {data:=#[]}),nilV,nilV,nilV,nilV,.i 0],.i p,.i e]) (rsR (.inr (p,e))):=by
 refine .tup rfl fun j a a' h1 h2=>?_
 match j,h1,h2 with
 |0,h1,h2 =>
  cases h1;cases h2
  refine .agg rfl fun j a a' h1 h2=>?_
  match j,h1,h2 with
  |0,h1,h2=>cases h1;cases h2;exact .keep (.v _)
  |1,h1,h2=>cases h1;cases h2;exact .nil 2
  |2,h1,h2=>cases h1;cases h2;exact .nil 2
  |3,h1,h2=>cases h1;cases h2;exact .nil 3
  |4,h1,h2=>cases h1;cases h2;exact .nil 3
  |5,h1,h2=>cases h1;cases h2;exact .keep (.v _)
  |j+6,h1,h2=>simp at h1
 |1,h1,h2=>cases h1;cases h2;exact .keep (.v _)
 |2,h1,h2=>cases h1;cases h2;exact .keep (.v _)
 |j+3,h1,h2=>simp at h1
theorem QqZ{all:List Tk}{s:PS}(hW:Wst all s){p e:Int}(h:QbD s = .err p e):e≠0:=Kp.Ps.err (n:=wdOf all) (Kp.one_ps trivial) hW h
theorem QoL{all:List Tk}{s:PS}(hW:Wst all s){p e:Int}(h:QjU s = .err p e):e≠0:=Kp.Ps.err (n:=wdOf all) (Kp.prog_ps trivial) hW h
section
variable(l:List UInt8)(h:AH)(hG:Qbx h)
include hG
theorem QoM:Qp Tryz.prog 28 [.v (.string (mkB l))] h fun o h'=>o = .ret (psR (Qlr l))/\h'=h:=by
 rw[Qlr]
 cases hs:YV l with
 |inr q =>
  obtain⟨p,e⟩:=q
  have cr:=fun fv L=>QlA hs fv (h++L) (hG.app L)
  have e0:(e != 0)=true:=by simpa using Qc5 hs
  refine Qjo (by simp) ?_
  repeat first|(first|refine FunW.Qxr (cr _ _) ?_|refine Qa ?_);simp only[go_sem,seval,e0]|refine hK _ ?_;clear hK
  exact Qb (htake _ _) (Qra _ _) ⟨rfl,rfl⟩
 |inl ts =>
  obtain⟨hD,hW,hN,hl⟩:=QiX hs
  obtain⟨H,hH⟩:∃H,H=h++[pgB nilV nilV,pgB nilV nilV]:=⟨_,rfl⟩
  have hHl:H.length=h.length+2:=by rw[hH];simp
  have hHG:Qbx H:=by rw[hH];exact hG.app _
  have hPo:=QuU H ts (.cells 117 4 [.agg [.sl 3 (tks ts) none,.i 0,.v (.slice none 0 0),.v (.map none)]])
  have hout:∀i,i<h.length->(H++[iC 0,eC 0,.cells 117 4 [.agg [.sl 3 (tks ts) none,.i 0,.v (.slice none 0 0),.v (.map none)]]]++[.dead,.dead])[i]? = h[i]? := fun i hi=>by
   rw[Qze,Qzc (by omega),hH,Qzc hi]
  have hlen:(H++[iC 0,eC 0,.cells 117 4 [.agg [.sl 3 (tks ts) none,.i 0,.v (.slice none 0 0),.v (.map none)]]]++[AB.dead,.dead]).length=h.length+7:=by simp only[Qza,Qyw,Qyx,hHl]
  have cf:=QoP (P:=P0 H ts) (s:=⟨ts,[]⟩) hW hPo hN hD (o:=h.length+1) (by omega) (by simp only[P0];omega) (by simp only[P0];omega) (by simp only[P0];omega)
   (by rw[Qze,Qzc (by omega),hH,hget];rfl)
  have hst:∀(K:AH->Prop) (Y:AH) a b L,H.length+1<Y.length->(∀i,i<h.length->Y[i]? = h[i]?)->∀i,i<h.length->((Y.set H.length a).set (H.length+1) b++L)[i]? = h[i]? := fun K Y a b L hl hy i hi=>by
   rw[Qzc (by simp only[Qzm];omega),Qzd (by omega),Qzd (by omega)];exact hy i hi
  have hc0:∀Y,KpO (H++[iC 0,eC 0,.cells 117 4 [.agg [.sl 3 (tks ts) none,.i 0,.v (.slice none 0 0),.v (.map none)]]]++[AB.dead,.dead]) (P0 H ts) (h.length+1) Y->Y[H.length]? = some (iC 0)/\Y[H.length+1]? = some (eC 0)/\h.length+7<=Y.length/\(∀i,i<h.length->Y[i]? = h[i]?)/\Y[h.length]? = some (pgB nilV nilV):=fun Y hY=>by
   refine⟨?_,?_,by have:=hY.long;omega,fun i hi=>?_,?_⟩
   ·rw[hY.out H.length (by omega) (by omega) (by simp only[P0];omega) (by simp only[P0];omega) (by simp only[P0];omega),Qze,XP];rfl
   ·rw[hY.out (H.length+1) (by omega) (by omega) (by simp only[P0];omega) (by simp only[P0];omega) (by simp only[P0];omega),Qze,hget];rfl
   ·rw[hY.out i (by omega) (by omega) (by simp only[P0];omega) (by simp only[P0];omega) (by simp only[P0];omega)];exact hout i hi
   ·rw[hY.out h.length (by omega) (by omega) (by simp only[P0];omega) (by simp only[P0];omega) (by simp only[P0];omega),Qze,Qzc (by omega),hH,XP];rfl
  cases hp:QjU ⟨ts,[]⟩with
  |err p e =>
   rw[hp]at cf
   have e0:(e != 0)=true:=by simpa using QoL hW hp
   have cr:=QnJ hs (.fn (.func 74) [] [.ptr (h.length+1) 0 0]) H hHG (fun Y=>h.length+2<=Y.length/\(∀i,i<h.length->Y[i]? = h[i]?)/\Y[h.length]? = some (pgB nilV nilV))
    (fun Y a b L hl hy=>⟨by simp only[Qza,Qzm];omega,hst (fun _=>True) Y a b L hl hy.2.1,by rw[Qzc (by simp only[Qzm];omega),Qzd (by omega),Qzd (by omega)];exact hy.2.2⟩) (p:=p) (e:=e)
    (FunW.cl (cf.mono fun o h' q=>by
     obtain⟨q1,⟨Y,hY⟩,q2⟩:=q
     obtain⟨y1,y2,y3,y4,y5⟩:=hc0 Y hY
     exact⟨q1,⟨Y,y1,y2,by omega,y4,y5⟩,q2⟩))
   rw[hH]at cr
   refine Qjo (by simp) ?_
   repeat first|(first|refine FunW.retE (FunW.call cr) fun Y=>?_|refine Qa ?_);simp only[go_sem,seval,e0,Qza]|refine hK _ ?_;clear hK
   have hY:=Y.2
   generalize Y.1=Y1 at *
   obtain⟨y0,y1,y2⟩:=hY
   have u1:∀y,(Y1.set h.length y)[h.length]? = some y:=fun y=>Qzj (by omega)
   have ht:∀y,(Y1.set h.length y).take h.length=h:=fun y=>QzY fun i=>by
    by_cases hi:i<h.length
    ·rw[Qzx hi,Qzd (by omega)];exact y1 i hi
    ·rw[QAz (by omega),QzR (by omega)]
   simp only[QD,QK,↓reduceIte,Qyw,Qyx,Nat.reduceAdd,Qyv,QyR,Qyj,QyN,Qyl,y2]
   repeat first|refine Qa ?_;simp only[go_sem,seval]|refine hK _ ?_;clear hK
   simp only[go_sem,seval,u1]
   exact Qb (ht _) (Qra _ _) ⟨by simp only[hp],rfl⟩
  |ok pg s2 =>
   rw[hp]at cf
   have e0:((0:Int) != 0)=false:=rfl
   obtain⟨D,hDe⟩:∃D,D=pgB (.sl 2 (vs Dc.av pg.decls) none) (.sl 6 (vs Rl.av pg.rules) none):=⟨_,rfl⟩
   have cr:=Qri hs (.fn (.func 74) [] [.ptr (h.length+1) 0 0]) H hHG (fun Y=>h.length+2<=Y.length/\(∀i,i<h.length->Y[i]? = h[i]?)/\Y[h.length]? = some (pgB nilV nilV)/\Y[h.length+1]? = some D)
    (fun Y a b L hl hy=>⟨by simp only[Qza,Qzm];omega,hst (fun _=>True) Y a b L hl hy.2.1,by rw[Qzc (by simp only[Qzm];omega),Qzd (by omega),Qzd (by omega)];exact hy.2.2.1,by rw[Qzc (by simp only[Qzm];omega),Qzd (by omega),Qzd (by omega)];exact hy.2.2.2⟩)
    (FunW.cl (cf.mono fun o h' q=>by
     obtain⟨q1,⟨Y,hY,hY2⟩,q2⟩:=q
     obtain⟨y1,y2,y3,y4,y5⟩:=hc0 Y hY
     exact⟨q1,⟨Y,y1,y2,by omega,y4,y5,by rw[hDe];exact hY2⟩,q2⟩))
   rw[hH]at cr
   refine Qjo (by simp) ?_
   repeat first|(first|refine FunW.retE (FunW.call cr) fun Y=>?_|refine Qa ?_);simp only[go_sem,seval,Qza]|refine hK _ ?_;clear hK
   have hY:=Y.2
   generalize Y.1=Y1 at *
   obtain⟨y0,y1,y2,y3⟩:=hY
   rw[hDe]at y3
   have u1:∀y,(Y1.set h.length y)[h.length]? = some y:=fun y=>Qzj (by omega)
   have ht:∀y,(Y1.set h.length y).take h.length=h:=fun y=>QzY fun i=>by
    by_cases hi:i<h.length
    ·rw[Qzx hi,Qzd (by omega)];exact y1 i hi
    ·rw[QAz (by omega),QzR (by omega)]
   simp only[QD,QK,QyD,QyE,Xb,QyF,↓reduceIte,Qyw,Qyx,Nat.reduceAdd,Qyv,QyR,Qyj,QyN,Qyl,y2,y3]
   repeat first|refine Qa ?_;simp only[go_sem,seval]|refine hK _ ?_;clear hK
   simp only[go_sem,seval,u1]
   exact Qb (ht _) (.keep (Qq9 _ (.inl pg))) ⟨by simp only[hp];rfl,rfl⟩
theorem Qh7:Qp Tryz.prog 27 [.v (.string (mkB l))] h fun o h'=>o = .ret (rsR (Qls l))/\h'=h:=by
 rw[Qls]
 cases hs:YV l with
 |inr q =>
  obtain⟨p,e⟩:=q
  have cr:=fun fv L=>QlA hs fv (h++L) (hG.app L)
  have e0:(e != 0)=true:=by simpa using Qc5 hs
  refine Qjn (by simp) ?_
  repeat first|(first|refine FunW.Qxr (cr _ _) ?_|refine Qa ?_);simp only[go_sem,seval,e0]|refine hK _ ?_;clear hK
  exact Qb (htake _ _) (Qrp _ _) ⟨rfl,rfl⟩
 |inl ts =>
  obtain⟨hD,hW,hN,hl⟩:=QiX hs
  obtain⟨H,hH⟩:∃H,H=h++[rZ0,rZ0]:=⟨_,rfl⟩
  have hHl:H.length=h.length+2:=by rw[hH];simp
  have hHG:Qbx H:=by rw[hH];exact hG.app _
  have hPo:=QuU H ts (.cells 117 4 [.agg [.sl 3 (tks ts) none,.i 0,.v (.slice none 0 0),.v (.map none)]])
  have hout:∀i,i<h.length->(H++[iC 0,eC 0,.cells 117 4 [.agg [.sl 3 (tks ts) none,.i 0,.v (.slice none 0 0),.v (.map none)]]]++[.dead,.dead])[i]? = h[i]? := fun i hi=>by
   rw[Qze,Qzc (by omega),hH,Qzc hi]
  have hlen:(H++[iC 0,eC 0,.cells 117 4 [.agg [.sl 3 (tks ts) none,.i 0,.v (.slice none 0 0),.v (.map none)]]]++[AB.dead,.dead]).length=h.length+7:=by simp only[Qza,Qyw,Qyx,hHl]
  have cf:=QoZ (P:=P0 H ts) (s:=⟨ts,[]⟩) hW hPo hN hD (o:=h.length+1) (by omega) (by simp only[P0];omega) (by simp only[P0];omega) (by simp only[P0];omega)
   (by rw[Qze,Qzc (by omega),hH,hget];rfl)
  have hst:∀(K:AH->Prop) (Y:AH) a b L,H.length+1<Y.length->(∀i,i<h.length->Y[i]? = h[i]?)->∀i,i<h.length->((Y.set H.length a).set (H.length+1) b++L)[i]? = h[i]? := fun K Y a b L hl hy i hi=>by
   rw[Qzc (by simp only[Qzm];omega),Qzd (by omega),Qzd (by omega)];exact hy i hi
  have hc0:∀Y,KpO (H++[iC 0,eC 0,.cells 117 4 [.agg [.sl 3 (tks ts) none,.i 0,.v (.slice none 0 0),.v (.map none)]]]++[AB.dead,.dead]) (P0 H ts) (h.length+1) Y->Y[H.length]? = some (iC 0)/\Y[H.length+1]? = some (eC 0)/\h.length+7<=Y.length/\(∀i,i<h.length->Y[i]? = h[i]?)/\Y[h.length]? = some (rZ0):=fun Y hY=>by
   refine⟨?_,?_,by have:=hY.long;omega,fun i hi=>?_,?_⟩
   ·rw[hY.out H.length (by omega) (by omega) (by simp only[P0];omega) (by simp only[P0];omega) (by simp only[P0];omega),Qze,XP];rfl
   ·rw[hY.out (H.length+1) (by omega) (by omega) (by simp only[P0];omega) (by simp only[P0];omega) (by simp only[P0];omega),Qze,hget];rfl
   ·rw[hY.out i (by omega) (by omega) (by simp only[P0];omega) (by simp only[P0];omega) (by simp only[P0];omega)];exact hout i hi
   ·rw[hY.out h.length (by omega) (by omega) (by simp only[P0];omega) (by simp only[P0];omega) (by simp only[P0];omega),Qze,Qzc (by omega),hH,XP];rfl
  cases hp:QbD ⟨ts,[]⟩with
  |err p e =>
   rw[hp]at cf
   have e0:(e != 0)=true:=by simpa using QqZ hW hp
   have cr:=QnJ hs (.fn (.func 72) [] [.ptr (h.length+1) 0 0]) H hHG (fun Y=>h.length+2<=Y.length/\(∀i,i<h.length->Y[i]? = h[i]?)/\Y[h.length]? = some (rZ0))
    (fun Y a b L hl hy=>⟨by simp only[Qza,Qzm];omega,hst (fun _=>True) Y a b L hl hy.2.1,by rw[Qzc (by simp only[Qzm];omega),Qzd (by omega),Qzd (by omega)];exact hy.2.2⟩) (p:=p) (e:=e)
    (FunW.cl (cf.mono fun o h' q=>by
     obtain⟨q1,⟨Y,hY⟩,q2⟩:=q
     obtain⟨y1,y2,y3,y4,y5⟩:=hc0 Y hY
     exact⟨q1,⟨Y,y1,y2,by omega,y4,y5⟩,q2⟩))
   rw[hH]at cr
   refine Qjn (by simp) ?_
   repeat first|(first|refine FunW.retE (FunW.call cr) fun Y=>?_|refine Qa ?_);simp only[go_sem,seval,e0,Qza]|refine hK _ ?_;clear hK
   have hY:=Y.2
   generalize Y.1=Y1 at *
   obtain⟨y0,y1,y2⟩:=hY
   have u1:∀y,(Y1.set h.length y)[h.length]? = some y:=fun y=>Qzj (by omega)
   have ht:∀y,(Y1.set h.length y).take h.length=h:=fun y=>QzY fun i=>by
    by_cases hi:i<h.length
    ·rw[Qzx hi,Qzd (by omega)];exact y1 i hi
    ·rw[QAz (by omega),QzR (by omega)]
   simp only[QD,QK,↓reduceIte,Qyw,Qyx,Nat.reduceAdd,Qyv,QyR,Qyj,QyN,Qyl,y2]
   repeat first|refine Qa ?_;simp only[go_sem,seval]|refine hK _ ?_;clear hK
   simp only[go_sem,seval,u1]
   exact Qb (ht _) (Qrp _ _) ⟨by simp only[hp],rfl⟩
  |ok pg s2 =>
   rw[hp]at cf
   have e0:((0:Int) != 0)=false:=rfl
   obtain⟨D,hDe⟩:∃D,D=AB.cells 25 6 [pg.av]:=⟨_,rfl⟩
   have cr:=Qri hs (.fn (.func 72) [] [.ptr (h.length+1) 0 0]) H hHG (fun Y=>h.length+2<=Y.length/\(∀i,i<h.length->Y[i]? = h[i]?)/\Y[h.length]? = some (rZ0)/\Y[h.length+1]? = some D)
    (fun Y a b L hl hy=>⟨by simp only[Qza,Qzm];omega,hst (fun _=>True) Y a b L hl hy.2.1,by rw[Qzc (by simp only[Qzm];omega),Qzd (by omega),Qzd (by omega)];exact hy.2.2.1,by rw[Qzc (by simp only[Qzm];omega),Qzd (by omega),Qzd (by omega)];exact hy.2.2.2⟩)
    (FunW.cl (cf.mono fun o h' q=>by
     obtain⟨q1,⟨Y,hY,hY2⟩,q2⟩:=q
     obtain⟨y1,y2,y3,y4,y5⟩:=hc0 Y hY
     exact⟨q1,⟨Y,y1,y2,by omega,y4,y5,by rw[hDe];exact hY2⟩,q2⟩))
   rw[hH]at cr
   refine Qjn (by simp) ?_
   repeat first|(first|refine FunW.retE (FunW.call cr) fun Y=>?_|refine Qa ?_);simp only[go_sem,seval,Qza]|refine hK _ ?_;clear hK
   have hY:=Y.2
   generalize Y.1=Y1 at *
   obtain⟨y0,y1,y2,y3⟩:=hY
   rw[hDe]at y3
   have u1:∀y,(Y1.set h.length y)[h.length]? = some y:=fun y=>Qzj (by omega)
   have ht:∀y,(Y1.set h.length y).take h.length=h:=fun y=>QzY fun i=>by
    by_cases hi:i<h.length
    ·rw[Qzx hi,Qzd (by omega)];exact y1 i hi
    ·rw[QAz (by omega),QzR (by omega)]
   have rc:=Rl.cells pg
   have ri:=Rl.isAgg pg
   simp only[QD,QK,QyD,QyE,QU,QX,Xb,QyF,↓reduceIte,Qyw,Qyx,Nat.reduceAdd,Qyv,QyR,Qyj,QyN,Qyl,y2,y3,rc,ri]
   repeat first|refine Qa ?_;simp only[go_sem,seval]|refine hK _ ?_;clear hK
   simp only[go_sem,seval,u1,rc,ri]
   exact Qb (ht _) (.keep (Qro _ (.inl pg))) ⟨by simp only[hp];rfl,rfl⟩
end
end Go.Proofs.YtenheconhibonaaGreatDoor.Ab
namespace Go.Proofs.YtenheconhibonaaGreatDoor.Ab
open Go.Proofs
def tvB(n:Nat)(l:List Int):Prop:=∀v∈l,0<=v/\v<n
theorem tvB.mono{n m:Nat}{l:List Int}(h:tvB n l)(hn:n<=m):tvB m l:=fun v hv=>by have:=h v hv;omega
theorem tvB.app{n:Nat}{l m:List Int}(h:tvB n l)(k:tvB n m):tvB n (l++m):=fun v hv=>(QzH.1 hv).elim (h v) (k v)
def VbT(f:PS->PR T):Prop:=∀s t s2,f s = .ok t s2->s.names.length<=s2.names.length/\tvB s2.names.length t.vars/\tvB s2.names.length (Xz t.args)
section
variable{ex:PS->PR T}(H:VbT ex)
include H
end
end Go.Proofs.YtenheconhibonaaGreatDoor.Ab
namespace Go.Proofs.YtenheconhibonaaGreatDoor.Ab
open Go.Proofs
structure KpG (h:AH) (P:Pz) (o o2:Nat) (Y:AH):Prop where
 long:h.length<=Y.length
 out:∀i,i<h.length->i≠o->i≠o2->i≠P.i->i≠P.j->i≠P.g->Y[i]? = h[i]?
section
variable{P:Pz}{s:PS}(hW:Wst P.all s){h:AH}(H:P.ok h)(hN:P.all.length<=1000000)(hD:TkOk P.all){o o2:Nat}(hol:o<h.length)(hoi:o≠P.i)(hoj:o≠P.j)(hog:o≠P.g)
 (hpl:o2<h.length) (hpi:o2≠P.i) (hpj:o2≠P.j) (hpg:o2≠P.g) (hoo:o≠o2)
include hW H hN hD hol hoi hoj hog hpl hpi hpj hpg hoo
end
end Go.Proofs.YtenheconhibonaaGreatDoor.Ab
namespace Go.Proofs.YtenheconhibonaaGreatDoor.Ab
open Go.Proofs
abbrev cG(v:AV):AB:=.cells 23 1 [v]
section
variable(l:List UInt8)(h:AH)(hG:Qbx h)
include hG
end
end Go.Proofs.YtenheconhibonaaGreatDoor.Ab
namespace Go.Proofs.YtenheconhibonaaGreatDoor.Ab
open Go.Proofs
theorem Qjh(tot:Nat)(x w:List UInt8)(ts:List Tk)(N:List ByteArray):cmpOp ⟨symT tot x w::ts,N⟩=if x=[61]then some (3,false)else if x=[61,61]then some (5,false)else if x=[92,61]then some (6,false)else if x=[60]then some (7,false)else if x=[61,60]then some (8,false)else if x=[62]then some (7,true)else
  if x=[62,61]then some (8,true)else if x=[61,58,61]then some (9,false)else if x=[61,92,61]then some (10,false)else none:=by
 have e:(PS.tk ⟨symT tot x w::ts,N⟩).text.toList=x:=by show(mkB x).toList=x;rw[ZK]
 rw[cmpOp,Qzf (by show ¬(4:Int)=1;decide),Qzf (by show ¬(4:Int)≠4;decide),e]
theorem Qp8{tot:Nat}{w:List UInt8}{ts:List Tk}{c:UInt8}{x:List UInt8}(hc:isW c=false)(h1:((c::x)==sLp)=false)(h2:Xq.any (fun b=>(c::x)==b)=false)(h3:Yr.any (fun b=>(c::x)==b)=false)(h4:∀N,cmpOp ⟨symT tot (c::x) w::ts,N⟩=none) :
  GA ((c::x)++w) (symT tot (c::x) w::ts):=by
 obtain⟨a1,a2,a3⟩:=QmR (tot:=tot) (w:=w) (ts:=ts) hc h1 h2 h3
 exact⟨a1,a2,a3,h4⟩
theorem Qwr{w:List UInt8}{ts:List Tk}(h:GA w ts):GA (32::w) ts:=⟨⟨KWd.sp w,h.a.par⟩,h.s,h.p,h.c⟩
theorem Qne(tot:Nat)(w:List UInt8)(ts:List Tk):GA (44::w) (symT tot [44] w::ts):=Qp8 (x:=[]) (by decide) (by decide) (by decide) (by decide) fun N=>by rw[Qjh];rfl
theorem Qtb(p:Int):GA [] [⟨0,p,eB⟩]:=⟨⟨fun c q e=>(by cases e),fun N=>rfl⟩,fun N=>rfl,fun N=>rfl,fun N=>by rw[cmpOp,Qzf (by show ¬(0:Int)=1;decide),Qzh (by show(0:Int)≠4;decide)]⟩
def QdB:List G->List UInt8
 |[]=>[]
 |g::l=>44::32::(tG g++QdB l)
theorem Qha:∀(l:List G) (g:G) (acc:List G) (tot:Nat) (w:List UInt8) (ts:List Tk) (u:List Int),(∀x∈g::l,Qo x=true)->Sc tot w ts->GA w ts->(∀N,PS.is ⟨ts,N⟩ Yb=false)->okV u->(tG g).length+(QdB l).length+w.length<=tot->u.length+ndG (g::l)<=1000000 ->
  ∃ts',Sc tot (tG g++(QdB l++w)) ts'/\okV (Qu kG u (g::l)).2/\∀most m,acc.length+(g::l).length<=most->ts'.length<=m->YU most m acc ⟨ts',labs u⟩ = .ok (acc++(Qu kG u (g::l)).1) ⟨ts,labs (Qu kG u (g::l)).2⟩
 |[],g,acc,tot,w,ts,u,hr,h,ha,hc,hu,hl,hn=>by
  obtain⟨ts',h1,h2,h3⟩:=Qe5 (hr g (by simp)) h ha hu (by simp only[QdB,Qyx]at hl;omega)
  rw[ndG,ndG]at hn
  have hk:=Qqs (u:=u) (g:=g) (by omega) (hr g (by simp))
  refine⟨ts',h1,h2,fun most m hm hl2=>?_⟩
  obtain⟨m,rfl⟩:∃k,m=k+1:=⟨m - 1,by have:=QAq.2 h1.ne;omega⟩
  simp only[Qyw,Qyx]at hm
  rw[YU,Qzf (by omega),h3]
  show(if Qo (kG u g).1=false then _ else if PS.is ⟨ts,_⟩ Yb=true then _ else _)=_
  rw[Qzf (by rw[hk];decide),Qzf (by rw[hc];decide)];rfl
 |x::l,g,acc,tot,w,ts,u,hr,h,ha,hc,hu,hl,hn=>by
  have hlen:(QdB (x::l)).length=2+(tG x).length+(QdB l).length:=by simp[QdB];omega
  have e:∀r,QdB (x::l)++r=44::32::(tG x++(QdB l++r)):=fun r=>by simp[QdB]
  rw[ndG]at hn
  have hk:=Qqs (u:=u) (g:=g) (by omega) (hr g (by simp))
  have hkl:=Qk7 u g
  have hu1:okV (kG u g).2:=by
   obtain⟨_,_,h2,_⟩:=Qe5 (hr g (by simp)) (Sc.nil tot) (Qtb _) hu (by simp only[Qyx];omega)
   exact h2
  obtain⟨ts1,h1,h2,h3⟩:=Qha l x (acc++[(kG u g).1]) tot w ts (kG u g).2 (fun y hy=>hr y (QzV _ hy)) h ha hc hu1 (by omega) (by omega)
  have hsc:=Qgf (Sc.sp (c:=32) (by decide) h1)
  have hw1:(tG x++(QdB l++w)).length=(tG x).length+(QdB l).length+w.length:=by simp only[Qza];omega
  obtain⟨ts2,h4,_,h5⟩:=Qe5 (hr g (by simp)) hsc (Qne _ _ _) hu (by rw[Qyw,Qyw,hw1];omega)
  refine⟨ts2,by rw[e];exact h4,h2,fun most m hm hl2=>?_⟩
  obtain⟨m,rfl⟩:∃k,m=k+1:=⟨m - 1,by have:=QAq.2 h4.ne;omega⟩
  have k2:=Xj tot [44] (32::(tG x++(QdB l++w))) ts1 (labs (kG u g).2)
  have hl3:=(Qg2 _ (h4.wf (labs u)) _ _ h5).2
  simp only[Qyw]at hl3 hm
  rw[YU,Qzf (by omega),h5]
  show(if Qo (kG u g).1=false then _ else if PS.is ⟨_,_⟩ Yb=true then _ else _)=_
  rw[Qzf (by rw[hk];decide),Qzh (by rw[k2];decide),knx h1.ne,h3 most m (by simp only[Qza,Qyw,Qyx];omega) (by omega),Qze]
  rfl
theorem Qua(g:G)(l:List G)(hr:∀x∈g::l,Qo x=true):(jG (g::l)).data.toList=tG g++QdB l:=by
 have e:∀x∈g::l,txtG x=Qat x:=fun x hx=>by rw[txtG,Qzh (hr x hx)]
 have ht:∀m:List G,(∀x∈m,txtG x=Qat x)->(Xw false (m.map txtG)).data.toList=QdB m:=fun m=>by
  induction m with
  |nil=>intro _;rfl
  |cons x m ih =>
   intro hm
   rw[List.map_cons,Xw,QC,Qzf (by decide),QC,ih fun y hy=>hm y (QzV _ hy),hm x (by simp)]
   rfl
 rw[jG,List.map_cons,Xw,QC,Qzh rfl,ht l fun x hx=>e x (QzV _ hx),e g (by simp)]
 rfl
theorem Qg5:∀l:List G,X1 l=Xz (QaG l)
 |[]=>rfl
 |g::l=>by
  rw[Qag,YQ,<-Qg5 l]
  unfold X1
  rw[QBc]
def tA(g:G):List UInt8:=(funT g.name (txts g.args)).data.toList
def QbQ:List G->List UInt8
 |[]=>[]
 |g::l=>44::32::(tA g++QbQ l)
def kA(u:List Int)(g:G):G×List Int:=(⟨0,g.name,(nXs u g.args).1⟩,(nXs u g.args).2)
theorem Qdc{g:G}(h:Qt g=true):Qbz g.args=true/\g.args.length<=6/\X2 g.name=true:=by
 rw[Qt,Qzk,Qzk,Qzu]at h
 obtain⟨h1,h2,h3⟩:=h
 have h5:=(Qc2 g.args 200 20 (by decide) (by decide)).1
 rw[h5,Qzk]at h3
 exact⟨h3.1,h2,h1⟩
theorem Qqq{u:List Int}{g:G}(hb:u.length+ndsL g.args<=1000000)(h:Qt g=true):Qt (kA u g).1=true:=Qqr (u:=u) (g:=g) hb h
theorem Qhb:∀(l:List G) (g:G) (acc:List G) (tot:Nat) (w:List UInt8) (ts:List Tk) (u:List Int),(∀x∈g::l,Qt x=true)->Sc tot w ts->Aft w ts->(∀N,PS.is ⟨ts,N⟩ Yb=false)->(∀N,PS.is ⟨ts,N⟩ sAt=false)->okV u->(tA g).length+(QbQ l).length+w.length<=tot->u.length+ndG (g::l)<=1000000 ->
  ∃ts',Sc tot (tA g++(QbQ l++w)) ts'/\okV (Qu kA u (g::l)).2/\(∃p r,ts'=⟨1,p,g.name⟩::r/\r≠[]/\∀N,PS.is ⟨r,N⟩ sAt=false)/\∀pre m,pre+acc.length+(g::l).length<=4->ts'.length<=m->YO pre m acc ⟨ts',labs u⟩ = .ok (acc++(Qu kA u (g::l)).1) ⟨ts,labs (Qu kA u (g::l)).2⟩
 |[],g,acc,tot,w,ts,u,hr,h,ha,hc,hat,hu,hl,hn=>by
  obtain⟨f1,f2,f3⟩:=Qdc (hr g (by simp))
  obtain⟨ts',h1,h2,⟨p,r,e1,e2,e3⟩,h3⟩:=Qdj g.name f3 g.args (fun t ht=>Qb3 (Zh f1 t ht)) h ha hu (by simp only[QbQ,Qyx]at hl;exact hl)
  rw[ndG,ndG]at hn
  have hk:=Qqq (u:=u) (g:=g) (by omega) (hr g (by simp))
  refine⟨ts',h1,h2,⟨p,r,e1,e2,e3 hat⟩,fun pre m hm hl2=>?_⟩
  obtain⟨m,rfl⟩:∃k,m=k+1:=⟨m - 1,by have:=QAq.2 h1.ne;omega⟩
  simp only[Qyw,Qyx]at hm
  rw[YO,Qzf (by omega),h3]
  show(if Qt (kA u g).1=false then _ else if PS.is ⟨ts,_⟩ Yb=true then _ else _)=_
  rw[Qzf (by rw[hk];decide),Qzf (by rw[hc];decide)];rfl
 |x::l,g,acc,tot,w,ts,u,hr,h,ha,hc,hat,hu,hl,hn=>by
  obtain⟨f1,f2,f3⟩:=Qdc (hr g (by simp))
  have hlen:(QbQ (x::l)).length=2+(tA x).length+(QbQ l).length:=by simp[QbQ];omega
  have e:∀r,QbQ (x::l)++r=44::32::(tA x++(QbQ l++r)):=fun r=>by simp[QbQ]
  rw[ndG]at hn
  have hk:=Qqq (u:=u) (g:=g) (by omega) (hr g (by simp))
  have hkl:(kA u g).2.length<=u.length+ndsL g.args:=Qk7 u g
  have rd:=fun(w':List UInt8) (ts':List Tk) (hs':Sc tot w' ts') (ha':Aft w' ts') hl'=>Qdj g.name f3 g.args (fun t ht=>Qb3 (Zh f1 t ht)) (tot:=tot) (u:=u) hs' ha' hu hl'
  have hu1:okV (kA u g).2:=by
   obtain⟨_,_,h2,_⟩:=rd [] _ (Sc.nil tot) (Qtb _).a (by simp only[Qyx];show(tA g).length+0<=tot;omega)
   exact h2
  obtain⟨ts1,h1,h2,_,h3⟩:=Qhb l x (acc++[(kA u g).1]) tot w ts (kA u g).2 (fun y hy=>hr y (QzV _ hy)) h ha hc hat hu1 (by omega) (by omega)
  have hsc:=Qgf (Sc.sp (c:=32) (by decide) h1)
  have hw1:(tA x++(QbQ l++w)).length=(tA x).length+(QbQ l).length+w.length:=by simp only[Qza];omega
  obtain⟨ts2,h4,_,⟨p,r,e1,e2,e3⟩,h5⟩:=rd _ _ hsc (Qne _ _ _).a (by rw[Qyw,Qyw,hw1];show(tA g).length+_<=tot;omega)
  refine⟨ts2,by rw[e];exact h4,h2,⟨p,r,e1,e2,e3 fun N=>by rw[Xj];decide⟩,fun pre m hm hl2=>?_⟩
  obtain⟨m,rfl⟩:∃k,m=k+1:=⟨m - 1,by have:=QAq.2 h4.ne;omega⟩
  have k2:=Xj tot [44] (32::(tA x++(QbQ l++w))) ts1 (labs (kA u g).2)
  have hl3:=((QfX (QaF.less (Qzy _))) _ (h4.wf (labs u)) _ _ h5).2
  simp only[Qyw]at hl3 hm
  rw[YO,Qzf (by omega),h5]
  show(if Qt (kA u g).1=false then _ else if PS.is ⟨_,_⟩ Yb=true then _ else _)=_
  rw[Qzf (by rw[hk];decide),Qzh (by exact(by rw[k2];decide:PS.is ⟨symT tot [44] (32::(tA x++(QbQ l++w)))::ts1,labs (kA u g).2⟩ Yb=true)),knx h1.ne]
  show YO pre m (acc++[(kA u g).1]) ⟨ts1,labs (kA u g).2⟩=_
  rw[h3 pre m (by simp only[Qza,Qyw,Qyx];omega) (by omega),Qze]
  rfl
theorem Qt7(g:G)(l:List G)(hr:∀x∈g::l,Qt x=true):(jA (g::l)).data.toList=tA g++QbQ l:=by
 have e:∀x∈g::l,txtA x=funT x.name (txts x.args):=fun x hx=>by rw[txtA,Qzh (hr x hx)]
 have ht:∀m:List G,(∀x∈m,txtA x=funT x.name (txts x.args))->(Xw false (m.map txtA)).data.toList=QbQ m:=fun m=>by
  induction m with
  |nil=>intro _;rfl
  |cons x m ih =>
   intro hm
   rw[List.map_cons,Xw,QC,Qzf (by decide),QC,ih fun y hy=>hm y (QzV _ hy),hm x (by simp)]
   rfl
 rw[jA,List.map_cons,Xw,QC,Qzh rfl,ht l fun x hx=>e x (QzV _ hx),e g (by simp)]
 rfl
def tAs:List G->List UInt8
 |[]=>[]
 |g::l=>tA g++QbQ l
def tGs:List G->List UInt8
 |[]=>[]
 |g::l=>tG g++QdB l
theorem Qtf{l:List G}(hr:∀x∈l,Qt x=true):(jA l).data.toList=tAs l:=by
 cases l with
 |nil=>rfl
 |cons g l=>exact Qt7 g l hr
theorem Qtg{l:List G}(hr:∀x∈l,Qo x=true):(jG l).data.toList=tGs l:=by
 cases l with
 |nil=>rfl
 |cons g l=>exact Qua g l hr
theorem Qmx{l:List G}(hne:l≠[])(h12:l.length<=12)(hr:∀x∈l,Qo x=true){tot:Nat}{w:List UInt8}{ts:List Tk}{u:List Int}(h:Sc tot w ts)(ha:GA w ts)(hc:∀N,PS.is ⟨ts,N⟩ Yb=false)(hu:okV u)(hl:(tGs l).length+w.length<=tot)(hn:u.length+ndG l<=1000000) :
  ∃ts',Sc tot (tGs l++w) ts'/\okV (Qu kG u l).2/\YP 12 ⟨ts',labs u⟩ = .ok (Qu kG u l).1 ⟨ts,labs (Qu kG u l).2⟩:=by
 cases l with
 |nil=>exact absurd rfl hne
 |cons g l =>
  simp only[tGs,Qza]at hl
  obtain⟨ts',h1,h2,h3⟩:=Qha l g [] tot w ts u hr h ha hc hu (by omega) hn
  refine⟨ts',by rw[tGs,Qze];exact h1,h2,?_⟩
  rw[YP]
  have:=h3 12 (ts'.length+1) (by simpa using h12) (by omega)
  rwa [QyK]at this
theorem QjF{l:List G}(hne:l≠[]){pre:Nat}(h4:pre+l.length<=4)(hr:∀x∈l,Qt x=true){tot:Nat}{w:List UInt8}{ts:List Tk}{u:List Int}(h:Sc tot w ts)(ha:Aft w ts)(hc:∀N,PS.is ⟨ts,N⟩ Yb=false)(hat:∀N,PS.is ⟨ts,N⟩ sAt=false)(hu:okV u)(hl:(tAs l).length+w.length<=tot)(hn:u.length+ndG l<=1000000) :
  ∃ts',Sc tot (tAs l++w) ts'/\okV (Qu kA u l).2/\(∃p n r,ts'=⟨1,p,n⟩::r/\r≠[]/\∀N,PS.is ⟨r,N⟩ sAt=false)/\Yt pre ⟨ts',labs u⟩ = .ok (Qu kA u l).1 ⟨ts,labs (Qu kA u l).2⟩:=by
 cases l with
 |nil=>exact absurd rfl hne
 |cons g l =>
  simp only[tAs,Qza]at hl
  obtain⟨ts',h1,h2,⟨p,r,e1,e2,e3⟩,h3⟩:=Qhb l g [] tot w ts u hr h ha hc hat hu (by omega) hn
  refine⟨ts',by rw[tAs,Qze];exact h1,h2,⟨p,_,r,e1,e2,e3⟩,?_⟩
  rw[Yt]
  have:=h3 pre (ts'.length+1) (by simpa using h4) (by omega)
  rwa [QyK]at this
def truG:G:=⟨1,eB,[]⟩
def QbS(l:List G):List G:=if l=[]then[truG]else l
def finB(l:List G):List G:=match l with|[x]=>if x.op=1 then[]else l|_=>l
theorem Qp3(u:List Int){l:List G}(h:QcX l=false):finB (Qu kG u (QbS l)).1=(Qu kG u l).1:=by
 cases l with
 |nil=>rfl
 |cons g l =>
  rw[QbS,Qzf (by simp)]
  cases l with
  |nil =>
   have:¬g.op=1:=by simpa [QcX]using h
   show(if g.op=1 then _ else _)=_
   rw[Qzf this]
  |cons x l=>rfl
theorem Qgw(u:List Int)(l:List G):(Qu kG u (QbS l)).2=(Qu kG u l).2:=by
 cases l with
 |nil=>rfl
 |cons g l=>rw[QbS,Qzf (by simp)]
theorem Qr3{l:List G}(hr:∀x∈l,Qo x=true)(h12:l.length<=12):QbS l≠[]/\(QbS l).length<=12/\(∀x∈QbS l,Qo x=true)/\ndG (QbS l)=ndG l:=by
 unfold QbS
 split
 ·rename_i h
  subst h
  exact⟨by simp,by simp,fun x hx=>by rw[Qz8]at hx;subst hx;decide +kernel,rfl⟩
 ·rename_i h;exact⟨h,h12,hr,rfl⟩
def QhM(g b:List G):List UInt8:=(if g=[]then[]else tGs g++[32,124,32])++(tGs (QbS b)++[46])
theorem Qe6{g b:List G}(hg:∀x∈g,Qo x=true)(hb:∀x∈b,Qo x=true)(hg12:g.length<=12)(hb12:b.length<=12)(h1t:QcX b=false){tot:Nat}{w:List UInt8}{ts:List Tk}{u:List Int}(h:Sc tot w ts)(hu:okV u)(hl:(QhM g b).length+w.length<=tot)(hn:u.length+ndG g+ndG b<=1000000)(name:ByteArray)(keep remove:List G) :
  ∃ts',Sc tot (QhM g b++w) ts'/\ZW name keep remove ⟨ts',labs u⟩ = .ok ⟨name,keep,remove,(Qu kG u g).1,(Qu kG (Qu kG u g).2 b).1,0⟩ ⟨ts,labs (Qu kG (Qu kG u g).2 b).2⟩:=by
 obtain⟨b1,b2,b3,b4⟩:=Qr3 hb hb12
 have hdot:Sc tot (46::w) (symT tot [46] w::ts):=Sc.sym [46] (fun c r e=>by cases e;decide) (by simp) rfl h
 have gdot:GA (46::w) (symT tot [46] w::ts):=Qp8 (x:=[]) (by decide) (by decide) (by decide) (by decide) fun N=>by rw[Qjh];rfl
 have kl:∀(l:List G) (v:List Int),(Qu kG v l).2.length<=v.length+ndG l:=fun l=>by
  induction l with
  |nil=>intro v;exact Qzl _
  |cons x l ih =>
   intro v
   have h1:=Qk7 v x
   have h2:=ih (kG v x).2
   show(Qu kG (kG v x).2 l).2.length<=_
   rw[ndG];omega
 have fin:∀(gg bb:List G) (v:List Int),((XE sDot ⟨symT tot [46] w::ts,labs v⟩).bind fun _ s=>PR.ok (⟨name,keep,remove,gg,finB bb,0⟩:Rl) s) = .ok ⟨name,keep,remove,gg,finB bb,0⟩ ⟨ts,labs v⟩:=fun gg bb v=>by
  rw[XE,Qzh (by rw[Xj];decide),knx h.ne];rfl
 have hpt:∀s,ZW name keep remove s=(YP 12 s).bind fun b s=>if s.is sBar then(YP 12 s.nx).bind fun b2 s=>((XE sDot s).bind fun _ s=>PR.ok (⟨name,keep,remove,b,finB b2,0⟩:Rl) s)else((XE sDot s).bind fun _ s=>PR.ok (⟨name,keep,remove,[],finB b,0⟩:Rl) s):=fun s=>rfl
 by_cases hgn:g=[]
 ·subst hgn
  rw[QhM,Qzh rfl,QyK]at hl ⊢
  simp only[Qza,Qyw,Qyx]at hl
  obtain⟨ts',h2,h3,h4⟩:=Qmx b1 b2 b3 hdot gdot (fun N=>by rw[Xj];decide) hu (by rw[Qyw];omega) (by rw[b4];omega)
  refine⟨ts',by rw[Qze];exact h2,?_⟩
  rw[hpt,h4]
  show(if PS.is ⟨_,_⟩ sBar=true then _ else _)=_
  rw[Qzf (by rw[Xj];decide),fin,Qp3 _ h1t,Qgw];rfl
 ·rw[QhM,Qzf hgn]at hl ⊢
  simp only[Qza,Qyw,Qyx]at hl
  have rb:=fun v (hv:okV v) (hvl:v.length+ndG (QbS b)<=1000000)=>Qmx b1 b2 b3 hdot gdot (fun N=>by rw[Xj];decide) (u:=v) hv (by rw[Qyw];omega) hvl
  have bar:∀tb,Sc tot (tGs (QbS b)++46::w) tb->Sc tot (32::124::32::(tGs (QbS b)++46::w)) (symT tot [124] (32::(tGs (QbS b)++46::w))::tb)/\GA (32::124::32::(tGs (QbS b)++46::w)) (symT tot [124] (32::(tGs (QbS b)++46::w))::tb):=fun tb hb =>
   ⟨Sc.sp (by decide) (Sc.sym [124] (fun c r e=>by cases e;decide) (by simp) rfl (Sc.sp (by decide) hb)),Qwr (Qp8 (x:=[]) (by decide) (by decide) (by decide) (by decide) fun N=>by rw[Qjh];rfl)⟩
  have rg:=fun tb (hs:Sc tot (32::124::32::(tGs (QbS b)++46::w)) (symT tot [124] (32::(tGs (QbS b)++46::w))::tb)) ha=>Qmx hgn hg12 hg hs ha (fun N=>by rw[Xj];decide) hu (by simp only[Qza,Qyw];omega) (by omega)
  obtain⟨_,c1,_,_⟩:=rb [] (fun v hv=>by cases hv) (by rw[b4];simp only[Qyx];omega)
  obtain⟨d1,d2⟩:=bar _ c1
  obtain⟨_,_,hug,_⟩:=rg _ d1 d2
  have hgl:=kl g u
  obtain⟨tb,e1,_,e3⟩:=rb (Qu kG u g).2 hug (by rw[b4];omega)
  obtain⟨f1,f2⟩:=bar _ e1
  obtain⟨tg,g1,_,g3⟩:=rg _ f1 f2
  refine⟨tg,by simpa using g1,?_⟩
  rw[hpt,g3]
  show(if PS.is ⟨_,_⟩ sBar=true then _ else _)=_
  rw[Qzh (by rw[Xj];decide),knx e1.ne,e3]
  show((XE sDot _).bind _)=_
  rw[fin,Qp3 _ h1t,Qgw]
mutual
theorem T.Qx5:∀t:T,t.Qxz=true->∀v∈t.vars,0<=v/\v<=1048576
 | .mk k i n l,h,v,hv=>by
  rw[T.Qxz]at h
  rw[T.vars]at hv
  by_cases k1:k=1
  ·rw[Qzh k1]at hv
   rw[Qzf (by omega),Qzh k1]at h
   simp only[Qzk,Qzu]at h
   rw[Qz8.1 hv];exact h.1.1
  ·rw[Qzf k1]at hv
   by_cases k2:k=2
   ·rw[Qzh k2]at hv
    rw[Qzf (by omega),Qzf k1,Qzh k2]at h
    split at h
    ·cases h
    ·split at h
     ·cases h
     ·exact QhT l h v hv
   ·rw[Qzf k2]at hv;cases hv
theorem QhT:∀l:List T,Qbz l=true->∀v∈Xz l,0<=v/\v<=1048576
 |[],_,v,hv=>by cases hv
 |t::l,h,v,hv=>by
  rw[Qbz,Qzk]at h
  rw[Xz]at hv
  rcases QzH.1 hv with hv|hv
  ·exact T.Qx5 t h.1 v hv
  ·exact QhT l h.2 v hv
end
theorem Qui{u:List Int}{l:List T}(hf:Qbz l=true)(hu:okV u):okV (nXs u l).2:=by
 rw[Qlh]
 intro v hv
 rcases QjK.1 hv with h|h
 ·exact hu v h
 ·exact QhT l hf v h
theorem okA:∀{l:List G} {u:List Int},(∀x∈l,Qt x=true)->okV u->okV (Qu kA u l).2
 |[],_,_,hu=>hu
 |g::l,u,hr,hu=>okA (l:=l) (u:=(kA u g).2) (fun x hx=>hr x (QzV _ hx)) (Qui (Qdc (hr g (by simp))).1 hu)
theorem lenA:∀(l:List G) (u:List Int),(Qu kA u l).2.length<=u.length+ndG l
 |[],u=>Qzl _
 |g::l,u=>by
  have h1:(kA u g).2.length<=u.length+ndsL g.args:=Qk7 u g
  have h2:=lenA l (kA u g).2
  show(Qu kA (kA u g).2 l).2.length<=_
  rw[ndG];omega
def Qmv(name:ByteArray)(s:PS):PR Rl:=(Yt 0 s).bind fun first s =>
 if s.is ZN then ZW name [] first s.nx else if s.is Qc4 then ZW name first [] s.nx else
 if s.is QdC then(Yt first.length s.nx).bind fun rem s=>(XE ZN s).bind fun _ s=>ZW name first rem s else .err s.tk.pos 16
theorem QnG(s:PS):ZS s=if s.tk.kind=1/\s.nx.is sAt=true then(QaM s).bind fun x s=>Qmv x s.nx else Qmv eB s:=rfl
def kR(x:Rl):Rl:=⟨x.name,(Qu kA [] x.keep).1,(Qu kA (Qu kA [] x.keep).2 x.remove).1,(Qu kG (Qu kA (Qu kA [] x.keep).2 x.remove).2 x.guard).1,(Qu kG (Qu kG (Qu kA (Qu kA [] x.keep).2 x.remove).2 x.guard).2 x.body).1,0⟩
def Qb8(k r:List G):List UInt8:=if r=[]then tAs k++[32,61,61,62,32]else(if k=[]then[]else tAs k++[32,92,32])++(tAs r++[32,60,61,62,32])
theorem Qj7{tot:Nat}{w:List UInt8}{ts:List Tk}(x:List UInt8)(hx:x=ZN\/x=Qc4\/x=QdC)(h:Sc tot w ts) :
  Sc tot (32::(x++32::w)) (symT tot x (32::w)::ts)/\Aft (32::(x++32::w)) (symT tot x (32::w)::ts)/\(∀N,PS.is ⟨symT tot x (32::w)::ts,N⟩ Yb=false)/\∀N,PS.is ⟨symT tot x (32::w)::ts,N⟩ sAt=false:=by
 refine⟨Sc.sp (by decide) (Qgg (fun c r e=>?_) ?_ ?_ h),⟨KWd.sp _,fun N=>?_⟩,fun N=>?_,fun N=>?_⟩
 ·rcases hx with rfl|rfl|rfl <;> (cases e;decide)
 ·rcases hx with rfl|rfl|rfl <;> (intro q;cases q)
 ·rcases hx with rfl|rfl|rfl <;> rfl
 ·rw[Xj];rcases hx with rfl|rfl|rfl <;> decide
 ·rw[Xj];rcases hx with rfl|rfl|rfl <;> decide
 ·rw[Xj];rcases hx with rfl|rfl|rfl <;> decide
theorem Qou{k r g b:List G}(hk:∀x∈k,Qt x=true)(hrr:∀x∈r,Qt x=true)(hg:∀x∈g,Qo x=true)(hb:∀x∈b,Qo x=true)(h0:0<k.length+r.length)(h4:k.length+r.length<=4)(hg12:g.length<=12)(hb12:b.length<=12)(h1t:QcX b=false)
  (name:ByteArray) {tot:Nat} {w:List UInt8} {ts:List Tk} (h:Sc tot w ts) (hl:(Qb8 k r).length+(QhM g b).length+w.length<=tot) (hn:ndG k+ndG r+ndG g+ndG b<=1000000) :
  ∃ts' N,Sc tot (Qb8 k r++(QhM g b++w)) ts'/\(∃p n q,ts'=⟨1,p,n⟩::q/\q≠[]/\∀N,PS.is ⟨q,N⟩ sAt=false) /\
   Qmv name ⟨ts',[]⟩ = .ok ⟨name,(Qu kA [] k).1,(Qu kA (Qu kA [] k).2 r).1,(Qu kG (Qu kA (Qu kA [] k).2 r).2 g).1,(Qu kG (Qu kG (Qu kA (Qu kA [] k).2 r).2 g).2 b).1,0⟩ ⟨ts,N⟩:=by
 have e0:([]:List ByteArray)=labs []:=rfl
 have hu0:okV []:=fun v hv=>by cases hv
 obtain⟨u1,eu1⟩:∃u,u=(Qu kA [] k).2:=⟨_,rfl⟩
 obtain⟨u2,eu2⟩:∃u,u=(Qu kA u1 r).2:=⟨_,rfl⟩
 have hu1:okV u1:=by rw[eu1];exact okA hk hu0
 have hu2:okV u2:=by rw[eu2];exact okA hrr hu1
 have l1:=lenA k []
 rw[<-eu1,Qyx]at l1
 have l2:=lenA r u1
 rw[<-eu2]at l2
 rw[<-eu1,<-eu2]
 by_cases hr0:r=[]
 ·subst hr0
  have hk0:k≠[]:=by intro e;subst e;simp at h0
  have e2:u2=u1:=eu2
  rw[Qb8,Qzh rfl]at hl ⊢
  simp only[Qza,Qyw,Qyx]at hl
  rw[e2]at hu2 l2 ⊢
  obtain⟨t1,a1,a2⟩:=Qe6 hg hb hg12 hb12 h1t h hu1 (by omega) (by omega) name (Qu kA [] k).1 []
  obtain⟨b1,b2,b3,b4⟩:=Qj7 Qc4 (.inr (.inl rfl)) a1
  obtain⟨t2,c1,_,c3,c4⟩:=QjF hk0 (pre:=0) (by simpa using h4) hk b1 b2 b3 b4 hu0 (by simp only[Qc4,Qyw,Qza,Qyx];omega) (by simp only[Qyx];omega)
  refine⟨t2,labs (Qu kG (Qu kG u1 g).2 b).2,by simpa [Qc4]using c1,c3,?_⟩
  rw[e0,Qmv,c4,<-eu1]
  show(if PS.is ⟨_,_⟩ ZN=true then _ else if PS.is ⟨_,_⟩ Qc4=true then _ else _)=_
  rw[Qzf (by rw[Xj];decide),Qzh (by rw[Xj];decide),knx a1.ne,a2];rfl
 ·rw[Qb8,Qzf hr0]at hl ⊢
  by_cases hk0:k=[]
  ·subst hk0
   have e1:u1=[]:=eu1
   rw[Qzh rfl,QyK]at hl ⊢
   simp only[Qza,Qyw,Qyx]at hl
   obtain⟨t1,a1,a2⟩:=Qe6 hg hb hg12 hb12 h1t h hu2 (by omega) (by omega) name [] (Qu kA u1 r).1
   obtain⟨b1,b2,b3,b4⟩:=Qj7 ZN (.inl rfl) a1
   obtain⟨t2,c1,_,c3,c4⟩:=QjF hr0 (pre:=0) (by simpa using h4) hrr b1 b2 b3 b4 hu1 (by simp only[ZN,Qyw,Qza,Qyx];omega) (by omega)
   refine⟨t2,labs (Qu kG (Qu kG u2 g).2 b).2,by simpa [ZN]using c1,c3,?_⟩
   rw[e1]at c4
   rw[e0,Qmv,c4]
   show(if PS.is ⟨_,_⟩ ZN=true then _ else _)=_
   rw[Qzh (by rw[Xj];decide),knx a1.ne]
   rw[e1]at eu2 a2
   rw[<-eu2,e1,a2];rfl
  ·rw[Qzf hk0]at hl ⊢
   simp only[Qza,Qyw,Qyx]at hl
   obtain⟨t1,a1,a2⟩:=Qe6 hg hb hg12 hb12 h1t h hu2 (by omega) (by omega) name (Qu kA [] k).1 (Qu kA u1 r).1
   obtain⟨b1,b2,b3,b4⟩:=Qj7 ZN (.inl rfl) a1
   obtain⟨t2,c1,_,_,c4⟩:=QjF hr0 (pre:=k.length) h4 hrr b1 b2 b3 b4 hu1 (by simp only[ZN,Qyw,Qza,Qyx];omega) (by omega)
   obtain⟨d1,d2,d3,d4⟩:=Qj7 QdC (.inr (.inr rfl)) c1
   obtain⟨t3,f1,_,f3,f4⟩:=QjF hk0 (pre:=0) (by omega) hk d1 d2 d3 d4 hu0 (by simp only[QdC,ZN,Qyw,Qza,Qyx];omega) (by simp only[Qyx];omega)
   refine⟨t3,labs (Qu kG (Qu kG u2 g).2 b).2,by simpa [ZN,QdC]using f1,f3,?_⟩
   rw[e0,Qmv,f4,<-eu1]
   show(if PS.is ⟨_,_⟩ ZN=true then _ else if PS.is ⟨_,_⟩ Qc4=true then _ else if PS.is ⟨_,_⟩ QdC=true then _ else _)=_
   rw[Qzf (by rw[Xj];decide),Qzf (by rw[Xj];decide),Qzh (by rw[Xj];decide),knx c1.ne,Qan,c4,<-eu2]
   show(XE ZN _).bind _=_
   rw[XE,Qzh (by rw[Xj];decide),knx a1.ne]
   exact a2
def Qka(n:ByteArray):List UInt8:=if XN n=true then[]else n.data.toList++[32,64,32]
def Qfk(x:Rl):List UInt8:=Qka x.name++(Qb8 x.keep x.remove++QhM x.guard x.body)
def Rl.nd(x:Rl):Nat:=ndG x.keep+ndG x.remove+ndG x.guard+ndG x.body
theorem Qm7{n:ByteArray}(h:XN n=true):n=eB:=by
 have:=QaL h
 cases hh:n with|mk d =>
 rw[hh]at this
 have:d.size=0:=this
 have:d=#[]:=Array.eq_empty_of_size_eq_zero this
 rw[this];rfl
theorem Qvj{x:Rl}(hx:Xr x=true)(hn:x.nd<=1000000){tot:Nat}{w:List UInt8}{ts:List Tk}(h:Sc tot w ts)(hl:(Qfk x).length+w.length<=tot) :
  ∃ts' N,Sc tot (Qfk x++w) ts'/\(∃p n q,ts'=⟨1,p,n⟩::q/\X2 n=true)/\ZS ⟨ts',[]⟩ = .ok (kR x) ⟨ts,N⟩:=by
 simp only[Xr,preR,Qzk,QzW,Qzu,QAG,QzB]at hx
 obtain⟨⟨hnm,⟨h0,h4⟩,⟨h12,h13⟩,h1t⟩,hk,hr,hg,hb⟩:=hx
 simp only[Qfk,Qza]at hl
 obtain⟨t1,N,a1,⟨p,n,q,e1,e2,e3⟩,a3⟩:=Qou hk hr hg hb h0 h4 h12 h13 h1t x.name h (by omega) hn
 have hfst:X2 n=true:=by
  -- the first token is the name of the first head
  have hd:∀(l:List G) (r:List UInt8) (t:List Tk),l≠[]->(∀x∈l,Qt x=true)->Sc tot (tAs l++r) t->∀p n q,t=⟨1,p,n⟩::q->KWd r->X2 n=true:=fun l r t hl0 hl1 hs p n q et hwd=>by
   cases l with
   |nil=>exact absurd rfl hl0
   |cons g l =>
    obtain⟨f1,f2,f3⟩:=Qdc (hl1 g (by simp))
    obtain⟨c,q2,ec,hc,hall⟩:=Qcr f3
    obtain⟨_,h40⟩:=Qc1 f3
    obtain⟨rest,er,hw⟩:∃rest,tAs (g::l)++r=(c::q2)++rest/\KWd rest:=by
     rw[tAs,tA]
     cases ha:g.args with
     |nil =>
      rw[QiI,ec]
      cases l with
      |nil=>exact⟨r,by simp[QbQ],hwd⟩
      |cons y l=>exact⟨_,by rw[QbQ];simp;rfl,fun d z e=>by cases e;decide⟩
     |cons y m =>
      rw[Qdk,ec]
      exact⟨40::(tlT y++(tails m++[41])++(QbQ l++r)),by simp,fun d z e=>by cases e;decide⟩
    have h1:=hs ((tAs (g::l)++r).length+1) (QAV _)
    rw[er]at h1
    have hL:isL c=true:=by rw[isL,Qzu];omega
    rw[ec]at hall h40
    have ht:=(QhN (r:=rest) hall hw).1
    have htok:ZO ((c::q2)++rest) = .inl (1,c::q2):=by
     rw[QyL]at ht ⊢
     rw[ZO,Qzh hL,ht,Qzf (by omega),Qzh hc.1]
    obtain⟨g1,g2⟩:=QiY htok (by decide)
    rw[Qbt,g2,htok]at h1
    simp only at h1
    rw[Qzf (by decide),et]at h1
    split at h1
    ·have h3:=(List.cons.inj (Sum.inl.inj h1)).1
     have h4:mkB (c::q2)=n:=QzP Tk.text h3
     rw[<-h4,<-ec]
     have:mkB g.name.data.toList=g.name:=by cases g.name;rfl
     rw[this];exact f3
    ·cases h1
  rw[Qb8]at a1
  split at a1
  ·rename_i hr0
   have hk0:x.keep≠[]:=by intro e;rw[e,hr0]at h0;simp at h0
   exact hd x.keep _ t1 hk0 hk (by rw[Qze]at a1;exact a1) p n q e1 (KWd.sp _)
  ·rename_i hr0
   split at a1
   ·exact hd x.remove _ t1 hr0 hr (by rw[QyK,Qze]at a1;exact a1) p n q e1 (KWd.sp _)
   ·rename_i hk0
    exact hd x.keep _ t1 hk0 hk (by rw[Qze,Qze]at a1;exact a1) p n q e1 (KWd.sp _)
 by_cases hem:XN x.name=true
 ·refine⟨t1,N,?_,⟨p,n,q,e1,hfst⟩,?_⟩
  ·rw[Qfk,Qka,Qzh hem,QyK,Qze];exact a1
  ·rw[QnG,e1,Qzf (by rintro⟨_,h2⟩;rw[knx e2,e3]at h2;cases h2),<-e1]
   rw[Qm7 hem]at a3
   rw[a3,kR,Qm7 hem]
 ·have hrn:X2 x.name=true:=hnm.resolve_left hem
  obtain⟨c,q2,ec,hc,hall⟩:=Qcr hrn
  obtain⟨hres,h40⟩:=Qc1 hrn
  have hL:isL c=true:=by rw[isL,Qzu];omega
  have hat:Sc tot (32::([64]++32::(Qb8 x.keep x.remove++(QhM x.guard x.body++w)))) (symT tot [64] (32::(Qb8 x.keep x.remove++(QhM x.guard x.body++w)))::t1):=Sc.sp (by decide) (Qgg (fun c r e=>by cases e;decide) (by simp) rfl a1)
  have hmk:mkB (c::q2)=x.name:=by rw[<-ec];cases x.name;rfl
  rw[ec]at hall h40
  have hw:=QiW (tot:=tot) hL hc.1 hall h40 (KWd.sp _) hat
  rw[hmk]at hw
  obtain⟨p0,hw2⟩:∃p0,Sc tot (Qfk x++w) (⟨1,p0,x.name⟩::symT tot [64] (32::(Qb8 x.keep x.remove++(QhM x.guard x.body++w)))::t1):=⟨_,by rw[Qfk,Qka,Qzf hem,ec];simpa using hw⟩
  refine⟨_,N,hw2,⟨_,_,_,rfl,hrn⟩,?_⟩
  ·rw[QnG,Qzh ⟨rfl,by rw[knx (by simp),Xj];decide⟩]
   rw[QaM,Qzf (by show ¬((1:Int)≠1);decide),Qzf (by show ¬resB x.name=true;rw[hres];decide),knx (by simp)]
   show Qmv x.name (PS.nx ⟨_::t1,_⟩)=_
   rw[knx a1.ne,a3];rfl
def opz(g:G):G:=⟨0,g.name,g.args⟩
def Rl.op0(r:Rl):Rl:=⟨r.name,r.keep.map opz,r.remove.map opz,r.guard,r.body,r.vars⟩
theorem Qtl(r:Rl):r.op0.av=r.av:=by
 have e:∀l:List G,vs G.atom (l.map opz)=vs G.atom l:=fun l=>by rw[vs,vs,QAu];rfl
 show AV.agg [_,.sl 2 (vs G.atom (r.keep.map opz)) none,.sl 2 (vs G.atom (r.remove.map opz)) none,_,_,_]=_
 rw[e,e];rfl
theorem Qvf(u:List Int)(g:G):kA u g=nG u (opz g):=rfl
theorem Qns:∀(l:List G) (u:List Int),Qu kA u l=Qu nG u (l.map opz)
 |[],_=>rfl
 |g::l,u=>by rw[Qu,List.map_cons,Qu,Qns l,Qvf]
theorem Qlc:∀(l:List G) (u:List Int),Qu nG u (l.map opz)=((Qu nG u l).1.map opz,(Qu nG u l).2)
 |[],_=>rfl
 |g::l,u=>by
  have e:nG u (opz g)=(opz (nG u g).1,(nG u g).2):=rfl
  rw[List.map_cons,Qu,Qu,e,Qlc l];rfl
theorem Qvg:(kG:List Int->G->G×List Int)=nG:=by funext u g;rfl
theorem Qvh(x:Rl):kR x={numR x.op0 with vars:=0}:=by
 unfold kR numR
 simp only[Qns,Qvg]
 rfl
theorem Qst(r:Rl):numR r.op0=(numR r).op0:=by
 unfold numR Rl.op0
 simp only[Qlc]
theorem Qn1(r:Rl):r.allV=Xz (QdP r):=by
 have e:∀l:List G,l.flatMap (fun g=>Xz g.args)=Xz (QaG l):=Qg5
 have ea:∀a b:List G,QaG (a++b)=QaG a++QaG b:=fun a b=>by
  induction a with
  |nil=>rfl
  |cons x a ih=>rw[QyL,Qag,Qag,ih,Qze]
 unfold Rl.allV
 simp only[e,ea,QdP,YQ,Qze]
theorem QqS(r:Rl):r.numd=numR r:=by
 rw[Qhr]
 unfold Rl.numd
 rw[Qn1];rfl
theorem QqQ(r:Rl)(v:Int):numR {r with vars:=v}=numR r:=rfl
theorem Qub(r:Rl):(kR (numR r)).numd=(numR r).op0:=by
 rw[QqS,Qvh,QqQ,<-Qst r,QiP,QiP]
theorem Qvl{r:Rl}(hx:Xr (numR r)=true)(hn:(numR r).nd<=1000000){tot:Nat}{w:List UInt8}{ts:List Tk}(h:Sc tot w ts)(hl:(Qfk (numR r)).length+w.length<=tot) :
  ∃ts' N,Sc tot (Qfk (numR r)++w) ts'/\(∃p n q,ts'=⟨1,p,n⟩::q/\X2 n=true)/\∀N0,Qa4 ⟨ts',N0⟩ = .ok (numR r).op0 ⟨ts,N⟩:=by
 obtain⟨ts',N,h1,h2,h3⟩:=Qvj hx hn h hl
 refine⟨ts',N,h1,h2,fun N0=>?_⟩
 rw[Qa4]
 show(ZS ⟨ts',[]⟩).bind _=_
 rw[h3,<-Qub];rfl
theorem Qim{x:Rl}(hx:Xr x=true):(QdS x).data.toList=Qfk x:=by
 simp only[Xr,preR,Qzk,QzW,Qzu,QAG,QzB]at hx
 obtain⟨⟨hnm,⟨h0,h4⟩,⟨h12,h13⟩,h1t⟩,hk,hr,hg,hb⟩:=hx
 have e1:(t1R x).data.toList=Qka x.name:=by
  unfold t1R Qka
  split
  ·rfl
  ·rw[QC]
 have e2:(t2R x).data.toList=Qka x.name++tAs x.keep:=by rw[t2R,QC,e1,Qtf hk]
 have e3:(t3R x (t2R x)).data.toList=Qka x.name++Qb8 x.keep x.remove:=by
  unfold t3R Qb8
  split
  ·rw[QC,e2,Qze]
  ·rw[QC,QC,Qtf hr]
   split
   ·rename_i hk0
    rw[e2,hk0]
    simp[tAs]
   ·rw[QC,e2];simp
 have e4:(t4R x (t3R x (t2R x))).data.toList=Qka x.name++(Qb8 x.keep x.remove++(if x.guard=[]then[]else tGs x.guard++[32,124,32])):=by
  unfold t4R
  split
  ·rw[e3];simp
  ·rw[QC,QC,e3,Qtg hg];simp
 rw[QdS,QC,QC,Qtg hb]
 have e5:(t5R x (t4R x (t3R x (t2R x)))).data.toList++tGs x.body=Qka x.name++(Qb8 x.keep x.remove++((if x.guard=[]then[]else tGs x.guard++[32,124,32])++tGs (QbS x.body))):=by
  unfold t5R QbS
  split
  ·rename_i hb0
   rw[QC,e4,hb0]
   show _++[]=_
   have:tGs [truG]=Qid.data.toList:=by
    show tG truG++[]=_
    rw[QyM,tG,Qat,Qzf (by decide),Qzh (by decide)]
   rw[this];simp
  ·rw[e4];simp
 rw[<-Qze,e5,Qfk,QhM]
 simp
theorem Qow{r:Rl}(hx:Xr (numR r)=true)(hn:(numR r).nd<=1000000)(hs:(QdS (numR r)).data.toList.length<=16384):Qls (QdS (numR r)).data.toList = .inl (numR r).op0:=by
 rw[Qim hx]at hs ⊢
 obtain⟨tot,htot⟩:∃t,t=(Qfk (numR r)).length:=⟨_,rfl⟩
 obtain⟨ts,N,h1,_,h3⟩:=Qvl hx hn (Sc.nil tot) (by simp only[Qyx];omega)
 rw[QyM]at h1
 have hsc:YV (Qfk (numR r)) = .inl ts:=by
  rw[YV,Qzf (by omega),<-htot]
  exact h1 _ (by omega)
 rw[Qls,hsc]
 have hp:QbD ⟨ts,[]⟩ = .ok (numR r).op0 ⟨[⟨0,((tot:Nat):Int),eB⟩],N⟩:=by
  rw[QbD,h3]
  rfl
 simp only[hp]
def tD(d:Dc):List UInt8:=(txtD d).data.toList
def Qe0:List Dc->List UInt8
 |[]=>[]
 |d::l=>44::32::(tD d++Qe0 l)
theorem QwJ{d:Dc}(h:ZC d=true):∃c q e r,d.name.data.toList=c::q/\Lib.decDigits d.arity.toNat=e::r/\tD d=(c::q)++47::(e::r)/\isL c=true/\97<=c.toNat/\(∀x∈c::q,isW x=true)/\(c::q).length<=40/\(∀x∈e::r,isD x=true)/\numVal (e::r)=d.arity.toNat/\0<=d.arity/\d.arity<=6/\resB d.name=false:=by
 rw[ZC,Qzk,Qzu]at h
 obtain⟨h1,h2,h3⟩:=h
 obtain⟨c,q,ec,hc,hall⟩:=Qcr h1
 obtain⟨hres,h40⟩:=Qc1 h1
 obtain⟨e,r,ed,_,_⟩:=Qjj d.arity.toNat
 obtain⟨hd,hv⟩:=QbW d.arity.toNat
 rw[ec]at hall h40
 rw[ed]at hd hv
 refine⟨c,q,e,r,ec,ed,?_,by rw[isL,Qzu];omega,hc.1,hall,h40,hd,hv,h2,h3,hres⟩
 rw[tD,txtD,QC,QC,ec,decZ,Qzf (by omega),QbV,ed]
 show((c::q)++[47])++_=_
 simp
theorem Qix:∀(l:List Dc) (d:Dc) (acc:List Dc) (tot:Nat) (w:List UInt8) (ts:List Tk) (N:List ByteArray),(∀x∈d::l,ZC x=true)->acc.length+(d::l).length<=30->Sc tot w ts->(tD d).length+(Qe0 l).length+w.length+1<=tot ->
  ∃ts',Sc tot (tD d++(Qe0 l++46::w)) ts'/\∀m,ts'.length<=m->Qa3 m acc ⟨ts',N⟩ = .ok (acc++d::l) ⟨ts,N⟩
 |l,d,acc,tot,w,ts,N,hr,h30,h,hl=>by
  obtain⟨c,q,e,r,ec,ed,et,g1,g2,g3,g4,g5,g6,g7,g8,g9⟩:=QwJ (hr d (by simp))
  have hmk:mkB (c::q)=d.name:=by rw[<-ec];cases d.name;rfl
  -- name / number, before what follows
  have one:∀(v:List UInt8) (us:List Tk),KWd v->Sc tot v us->∃p0 p1 p2,Sc tot (tD d++v) (⟨1,p0,d.name⟩::⟨4,p1,mkB [47]⟩::⟨3,p2,mkB (e::r)⟩::us):=fun v us hv hs=>by
   have s1:=Sc.digits g5 (by rw[g6];omega) hv.dig hs
   have s2:Sc tot ([47]++((e::r)++v)) (symT tot [47] ((e::r)++v)::_):=Sc.sym [47] (fun c r e=>by cases e;decide) (by simp) rfl s1
   have s3:=QiW g1 g2 g3 g4 (fun d z e=>by cases e;decide) s2
   rw[hmk]at s3
   have ev:tD d++v=(c::q)++([47]++((e::r)++v)):=by rw[et];simp
   exact⟨_,_,_,by rw[ev];exact s3⟩
  have stp:∀(p0 p1 p2:Int) (us:List Tk) (m:Nat),us≠[]->Qa3 (m+1) acc ⟨⟨1,p0,d.name⟩::⟨4,p1,mkB [47]⟩::⟨3,p2,mkB (e::r)⟩::us,N⟩ =
    if PS.is ⟨us,N⟩ Yb then Qa3 m (acc++[d]) (PS.nx ⟨us,N⟩)else(XE sDot ⟨us,N⟩).bind fun _ s2=>.ok (acc++[d]) s2:=fun p0 p1 p2 us m hus=>by
   have ev:valT (mkB (e::r))=d.arity:=by rw[valT,ZK,g6];omega
   rw[Qa3,Qzf (by simp only[Qyw]at h30;omega),QaM,Qzf (by show ¬((1:Int)≠1);decide),Qzf (by show ¬resB d.name=true;rw[g9];decide),knx (by simp)]
   show(XE QeN _).bind _=_
   rw[XE,Qzh (by show(((4:Int)==4)&&((mkB [47]).toList==QeN))=true;rw[ZK];decide),knx (by simp)]
   simp only[PR.bind,QuD,ev,knx hus]
   rw[Qzf (by decide),Qzf (by omega)]
  cases l with
  |nil =>
   have hd:Sc tot (46::w) (symT tot [46] w::ts):=Sc.sym [46] (fun c r e=>by cases e;decide) (by simp) rfl h
   obtain⟨p0,p1,p2,s⟩:=one (46::w) _ (fun c q e=>by cases e;decide) hd
   refine⟨_,s,fun m hm=>?_⟩
   obtain⟨m,rfl⟩:∃k,m=k+1:=⟨m - 1,by simp only[Qyw]at hm;omega⟩
   rw[stp p0 p1 p2 _ m (by simp),Qzf (by rw[Xj];decide),XE,Qzh (by rw[Xj];decide),knx h.ne];rfl
  |cons x l =>
   have hlen:(Qe0 (x::l)).length=2+(tD x).length+(Qe0 l).length:=by simp[Qe0];omega
   have ee:∀r,Qe0 (x::l)++r=44::32::(tD x++(Qe0 l++r)):=fun r=>by simp[Qe0]
   obtain⟨t1,a1,a2⟩:=Qix l x (acc++[d]) tot w ts N (fun y hy=>hr y (QzV _ hy)) (by simp only[Qza,Qyw,Qyx]at h30 ⊢;omega) h (by omega)
   have hc:=Qgf (Sc.sp (c:=32) (by decide) a1)
   obtain⟨p0,p1,p2,s⟩:=one _ _ (fun c q e=>by cases e;decide) hc
   refine⟨_,by rw[ee];exact s,fun m hm=>?_⟩
   simp only[Qyw]at hm
   obtain⟨m,rfl⟩:∃k,m=k+1:=⟨m - 1,by omega⟩
   rw[stp p0 p1 p2 _ m (by simp),Qzh (by rw[Xj];decide),knx a1.ne,a2 m (by omega),Qze];rfl
def Qc6:List Rl->List UInt8
 |[]=>[]
 |r::l=>Qfk (numR r)++10::Qc6 l
def QdO:List Dc->List UInt8
 |[]=>[]
 |d::l=>conB.data.toList++(tD d++(Qe0 l++[46,10]))
theorem Qhc:∀(l:List Rl) (acc:List Rl) (tot:Nat),(∀r∈l,Xr (numR r)=true/\(numR r).nd<=1000000)->acc.length+l.length<=40->(Qc6 l).length<=tot ->
  ∃ts,Sc tot (Qc6 l) ts/\(∀N,¬((PS.tk ⟨ts,N⟩).kind=1/\(PS.tk ⟨ts,N⟩).text.toList=QkG))/\∀m N,ts.length<=m->∃s,QaI m acc ⟨ts,N⟩ = .ok (acc++l.map fun r=>(numR r).op0) s
 |[],acc,tot,_,_,_=>by
  refine⟨_,Sc.nil tot,fun N h=>absurd h.1 (by show ¬(0:Int)=1;decide),fun m N hm=>⟨⟨[⟨0,((tot:Nat):Int),eB⟩],N⟩,?_⟩⟩
  obtain⟨m,rfl⟩:∃k,m=k+1:=⟨m - 1,by simp only[Qyw]at hm;omega⟩
  rw[QaI,Qzh (by rfl)];simp
 |r::l,acc,tot,hr,h40,hl=>by
  simp only[Qc6,Qza,Qyw]at hl h40
  obtain⟨t1,a1,_,a3⟩:=Qhc l (acc++[(numR r).op0]) tot (fun x hx=>hr x (QzV _ hx)) (by simp only[Qza,Qyw,Qyx];omega) (by omega)
  have hnl:Sc tot (10::Qc6 l) t1:=Sc.sp (by decide) a1
  obtain⟨h1,h2⟩:=hr r (by simp)
  obtain⟨t2,N2,b1,⟨p,n,q,e1,e2⟩,b3⟩:=Qvl h1 h2 hnl (by rw[Qyw];omega)
  refine⟨t2,b1,fun N h=>?_,fun m N hm=>?_⟩
  ·rw[e1]at h
   have h3:n.toList=QkG:=h.2
   have h4:=(Qc1 e2).1
   have:resB n=true:=by
    simp only[resB,h3];decide +kernel
   rw[this]at h4;cases h4
  ·have hm0:=QAq.2 b1.ne
   obtain⟨m,rfl⟩:∃k,m=k+1:=⟨m - 1,by omega⟩
   have hl3:=(QnN _ (b1.wf N) _ _ (b3 N)).2
   simp only at hl3
   obtain⟨s,hs⟩:=a3 m N2 (by omega)
   refine⟨s,?_⟩
   rw[QaI,Qzf (by rw[e1];show ¬(1:Int)=0;decide),Qzf (by omega),b3 N]
   show QaI m (acc++[(numR r).op0]) ⟨t1,N2⟩=_
   rw[hs,List.map_cons,Qze];rfl
theorem Qmw{d:List Dc}(hd:∀x∈d,ZC x=true)(h30:d.length<=30){tot:Nat}{w:List UInt8}{ts:List Tk}(N:List ByteArray)(h:Sc tot w ts)(hc:¬((PS.tk ⟨ts,N⟩).kind=1/\(PS.tk ⟨ts,N⟩).text.toList=QkG))(hl:(QdO d).length+w.length<=tot) :
  ∃ts',Sc tot (QdO d++w) ts'/\∀m,ts'.length<m->ZP m [] ⟨ts',N⟩ = .ok d ⟨ts,N⟩:=by
 cases d with
 |nil =>
  refine⟨ts,h,fun m hm=>?_⟩
  obtain⟨m,rfl⟩:∃k,m=k+1:=⟨m - 1,by omega⟩
  rw[ZP,Qzf hc]
 |cons d l =>
  have e:QdO (d::l)++w=(99::[111,110,115,116,114,97,105,110,116])++(32::(tD d++(Qe0 l++46::(10::w)))):=by
   rw[QdO]
   show([99,111,110,115,116,114,97,105,110,116,32]++_)++w=_
   simp
  have hlen:=QzP List.length e
  simp only[Qza,Qyw,Qyx]at hlen
  obtain⟨t1,a1,a2⟩:=Qix l d [] tot (10::w) ts N hd (by simpa using h30) (Sc.sp (by decide) h) (by simp only[Qyw];omega)
  have s:=QiW (tot:=tot) (c:=99) (q:=[111,110,115,116,114,97,105,110,116]) (by decide) (by decide) (by decide) (by decide) (KWd.sp _) (Sc.sp (c:=32) (by decide) a1)
  refine⟨_,by rw[e];exact s,fun m hm=>?_⟩
  simp only[Qyw]at hm
  obtain⟨m,rfl⟩:∃k,m=k+2:=⟨m - 2,by omega⟩
  rw[ZP,Qzh ⟨rfl,by show(mkB _).toList=QkG;rw[ZK];rfl⟩,knx a1.ne]
  show(Qa3 (List.length (_::t1)+1) [] ⟨t1,N⟩).bind _=_
  rw[a2 _ (by simp only[Qyw];omega)]
  show ZP (m+1) ([]++d::l) ⟨ts,N⟩=_
  rw[ZP,Qzf hc,QyK]
theorem Qwt{p:Pg}(hd:∀x∈p.decls,ZC x=true)(h30:p.decls.length<=30)(hr:∀r∈p.rules,Xr (numR r)=true/\(numR r).nd<=1000000)(h40:p.rules.length<=40)(hs:(QdO p.decls++Qc6 p.rules).length<=16384) :
  Qlr (QdO p.decls++Qc6 p.rules) = .inl ⟨p.decls,p.rules.map fun r=>(numR r).op0⟩:=by
 obtain⟨tot,htot⟩:∃t,t=(QdO p.decls++Qc6 p.rules).length:=⟨_,rfl⟩
 rw[Qza]at htot
 obtain⟨t1,a1,a2,a3⟩:=Qhc p.rules [] tot hr (by simpa using h40) (by omega)
 obtain⟨t2,b1,b2⟩:=Qmw hd h30 [] a1 (a2 []) (by omega)
 have hsc:YV (QdO p.decls++Qc6 p.rules) = .inl t2:=by
  rw[YV,Qzf (by omega),Qza,<-htot]
  exact b1 _ (by rw[Qza];omega)
 obtain⟨s,hs3⟩:=a3 (t1.length+1) [] (by omega)
 rw[Qlr,hsc]
 have hp:QjU ⟨t2,[]⟩ = .ok ⟨p.decls,p.rules.map fun r=>(numR r).op0⟩ s:=by
  rw[QjU]
  show(ZP (t2.length+1) [] ⟨t2,[]⟩).bind _=_
  rw[b2 _ (by omega)]
  show(QaI (t1.length+1) [] ⟨t1,[]⟩).bind _=_
  rw[hs3];rfl
 simp only[hp]
theorem QpV{l:List Dc}:(QgI l).data.toList=QdO l:=by
 have ht:∀m:List Dc,(Xw false (m.map txtD)).data.toList=Qe0 m:=fun m=>by
  induction m with
  |nil=>rfl
  |cons x m ih =>
   rw[List.map_cons,Xw,QC,Qzf (by decide),QC,ih];rfl
 cases l with
 |nil=>rfl
 |cons d l =>
  rw[QgI,Qzf (by simp),QC,QC,jD,List.map_cons,Xw,QC,Qzh rfl,ht,QdO]
  show(_++(tD d++Qe0 l))++[46,10]=_
  simp
theorem empty_of{s:ByteArray}(h:XN s=false):s≠{data:=#[]}:=by
 intro e;rw[e]at h;revert h;decide +kernel
theorem QnQ{s:ByteArray}(h:XN (Qb7 s)=false):Qb7 s=s/\s.data.toList.length<=16384:=by
 rw[Qb7]at h ⊢
 by_cases hs:16384<s.size
 ·rw[Qzh hs]at h
  exact absurd rfl (empty_of h)
 ·rw[Qzf hs]
  exact⟨rfl,by rw[<-Lib.size_eq];omega⟩
theorem Qfh{r:Rl}(h:XN (Qbc r)=false):Xr (numR r)=true/\Qbc r=QdS (numR r)/\(QdS (numR r)).data.toList.length<=16384:=by
 unfold Qbc at h ⊢
 by_cases h1:Xr (numR r)=true
 ·rw[Qzh h1]at h ⊢
  obtain⟨h3,h4⟩:=QnQ h
  exact⟨h1,h3,h4⟩
 ·rw[Qzf h1]at h;exact absurd rfl (empty_of h)
theorem Qrq{r:Rl}(h:XN (Qbc r)=false)(hn:(numR r).nd<=1000000):Qls (Qbc r).data.toList = .inl (numR r).op0:=by
 obtain⟨h1,h2,h3⟩:=Qfh h
 rw[h2]
 exact Qow h1 hn h3
theorem QiK:∀{l:List Rl},(∀r∈l,XN (Qbc r)=false)->(Qfy l).data.toList=Qc6 l
 |[],_=>rfl
 |r::l,h=>by
  obtain⟨h1,h2,h3⟩:=Qfh (h r (by simp))
  rw[Qfy,QC,QC,QiK fun x hx=>h x (by simp[hx]),h2,Qim h1,Qc6]
  show(_++[10])++_=_
  simp
theorem Qq8{p:Pg}(h:XN (Qbw p)=false)(hn:∀r∈p.rules,(numR r).nd<=1000000):Qlr (Qbw p).data.toList = .inl ⟨p.decls,p.rules.map fun r=>(numR r).op0⟩:=by
 unfold Qbw at h ⊢
 by_cases h1:30<p.decls.length\/40<p.rules.length
 ·rw[Qzh h1]at h;exact absurd rfl (empty_of h)
 ·rw[Qzf h1]at h ⊢
  by_cases h2:p.decls.all ZC=true
  ·rw[Qzh h2]at h ⊢
   by_cases h3:Qca p.rules=true
   ·rw[Qzh h3]at h ⊢
    obtain⟨h4,h5⟩:=QnQ h
    have hl:∀r∈p.rules,XN (Qbc r)=false:=fun r hr=>by
     have:=QzB.1 h3 r hr
     simpa using this
    rw[h4]
    rw[QC,QpV,QiK hl]at h5 ⊢
    exact Qwt (fun x hx=>QzB.1 h2 x hx) (by omega) (fun r hr=>⟨(Qfh (hl r hr)).1,hn r hr⟩) (by omega) h5
   ·rw[Qzf h3]at h;exact absurd rfl (empty_of h)
  ·rw[Qzf h2]at h;exact absurd rfl (empty_of h)
theorem Qup(p:Pg):vs Rl.av (p.rules.map fun r=>(numR r).op0)=vs Rl.av (p.rules.map numR):=by
 rw[vs,vs,QAu,QAu]
 exact QAh fun r _=>Qtl (numR r)
theorem Qey:∀l:List G,ndG l<=ndsG l
 |[]=>Qzl _
 |g::l=>by rw[ndG,ndsG];have:=Qey l;omega
def eqF(d:Nat)(xs ys:Array Value):List Field->Sem Bool
 |[]=>pure true
 |f::fs =>
  if f.name ≠ "_" then do
   let a<-part f.type xs f.offset
   let b<-part f.type ys f.offset
   let r<-Op.equalIn d f.type a b
   if (!r)=true then pure false else eqF d xs ys fs
  else eqF d xs ys fs
theorem Qtp{α:Type}{P:Program}(c:Prop)[Decidable c](a b:Sem α):pv P (if c then a else b)=if c then pv P a else pv P b:=by split <;> rfl
theorem Qrd{P:Program}(d:Nat)(t:TypeId)(xs ys:Array Value)(fs:Array Field)(ht:P.underlying t=some (.struct fs))(hp:P.stoodInHeld t=false) :
  pv P (Op.equalIn (d+1) t (.agg xs) (.agg ys))=pv P (eqF d xs ys fs.toList):=by
 have hprog:pv P program=some P:=rfl
 simp only[Op.equalIn,Yu,QeF P ht,Qyo,hprog,hp,Qyn,Qz5]
 rw[<-Array.forIn_toList]
 generalize fs.toList=fs
 clear ht
 induction fs with
 |nil=>rfl
 |cons f fs ih =>
  simp only[List.forIn_cons,eqF,Yu,Qtp]
  split
  ·cases pv P (part f.type xs f.offset)with
   |none=>rfl
   |some a =>
    simp only[Qyo]
    cases pv P (part f.type ys f.offset)with
    |none=>rfl
    |some b =>
     simp only[Qyo]
     cases pv P (Op.equalIn d f.type a b)with
     |none=>rfl
     |some r =>
      cases r
      ·rfl
      ·simp only[Qyo,QyG,Qyn,Qz5]
       exact ih
  ·exact ih
theorem Qr9(x:ByteArray)(a:Int)(xo yo:Operand):Qgl Tryz.prog .neq 38 xo yo [.v (.string x),.v (.int .i64 a)] [.v (.string x),.v (.int .i64 a)]=some (.v (.bool false)):=by
 unfold Qgl
 simp only[QfF,Qyl]
 obtain⟨fs,hfs,hlist⟩:∃fs,Tryz.prog.underlying 38=some (.struct fs)/\pv Tryz.prog (eqF 9999 [Value.string x,Value.int .i64 a].toArray [Value.string x,Value.int .i64 a].toArray fs.toList)=some true:=by
  refine⟨_,Tryz.underlying38,?_⟩
  have h1:pv Tryz.prog (Op.equalIn 9999 9 (.string x) (.string x))=some (x==x):=by kernel_rfl
  have h2:pv Tryz.prog (Op.equalIn 9999 3 (.int .i64 a) (.int .i64 a))=some (a==a):=by kernel_rfl
  have p1:pv Tryz.prog (part 9 [Value.string x,Value.int .i64 a].toArray 0)=some (.string x):=by kernel_rfl
  have p2:pv Tryz.prog (part 3 [Value.string x,Value.int .i64 a].toArray 1)=some (.int .i64 a):=by kernel_rfl
  have hx:(x==x)=true:=by
   obtain⟨⟨l⟩⟩:=x
   show((⟨l⟩:Array UInt8)==⟨l⟩)=true
   simp
  rw[hx]at h1
  simp[eqF,Yu,Qtp,h1,h2,p1,p2,QhB]
 have he:pv Tryz.prog (Op.equal 38 (.agg [Value.string x,Value.int .i64 a].toArray) (.agg [Value.string x,Value.int .i64 a].toArray))=some true:=(Qrd 9999 38 _ _ fs hfs (by kernel_rfl)).trans hlist
 have hg:pv Tryz.prog (eqGuard .neq 38 xo yo (.agg [Value.string x,Value.int .i64 a].toArray) (.agg [Value.string x,Value.int .i64 a].toArray))=some ():=by kernel_rfl
 have hb:pv Tryz.prog (binOp .neq 38 (.agg [Value.string x,Value.int .i64 a].toArray) (.agg [Value.string x,Value.int .i64 a].toArray))=(pv Tryz.prog (Op.equal 38 (.agg [Value.string x,Value.int .i64 a].toArray) (.agg [Value.string x,Value.int .i64 a].toArray))).bind fun b=>some (.bool (!b)):=by
  show pv Tryz.prog (Op.equal _ _ _ >>= fun b=>pure (Value.bool (!b)))=_
  rw[Yu];rfl
 rw[Yu,hg,Option.bind_some,hb,he]
 rfl
theorem Qo0(p:Pg)(hd:p.decls.length<=1000000)(hl:p.rules.length<=1000000)(hr:∀r∈p.rules,gN r.keep<=1000000/\gN r.remove<=1000000/\gN r.guard<=1000000/\gN r.body<=1000000):Pure Tryz.prog 29 [p.av,p.av] (.b true):=by
 intro h
 have pc:=Pg.cells p
 have pi:=Pg.isAgg p
 have ld:(vs Dc.av p.decls).length=p.decls.length:=Qh _ _
 have lr:(vs Rl.av p.rules).length=p.rules.length:=Qh _ _
 have u1:(((p.decls.length:Nat):Int) != ((p.decls.length:Nat):Int))=false:=by simp
 have u2:(((p.rules.length:Nat):Int) != ((p.rules.length:Nat):Int))=false:=by simp
 refine Qc Tryz.func29 rfl Tryz.call29 Tryz.ntmps29 Tryz.results29 (by simp) ?_
 iterate 2 (try (first|(((refine Qd fun K E hK hE=>?_));simp only[go_sem,seval,pc])|((with_reducible refine hK _ ?_);clear hK)))
 refine XT (fun st=>st.tm 2 = .ptr h.length 0 0/\st.tm 3 = .ptr (h.length+1) 0 0/\st.h=h++[.cells 35 2 [p.av],.cells 35 2 [p.av]]) ?_ ?_
 ·rintro⟨tm,hp⟩ ⟨t2,t3,rfl⟩
  simp only at t2 t3
  refine XT (fun st=>st.tm 2 = .ptr h.length 0 0/\st.tm 3 = .ptr (h.length+1) 0 0/\st.h=h++[.cells 35 2 [p.av],.cells 35 2 [p.av]]) ?_ ?_
  ·rintro⟨tm,hp⟩ ⟨t2,t3,rfl⟩
   simp only at t2 t3
   repeat first|refine Qa ?_;simp only[go_sem,seval]|refine hK _ ?_;clear hK
   obtain⟨I,hI⟩:∃I:Nat->AS->Prop,I=fun m' s=>∃j:Nat,m'=p.rules.length - j/\j<=p.rules.length/\s.tm 2 = .ptr h.length 0 0/\s.tm 3 = .ptr (h.length+1) 0 0/\s.tm 6 = .i j/\s.h=h++[.cells 35 2 [p.av],.cells 35 2 [p.av]]:=⟨_,rfl⟩;refine Qv I ?_ (m:=p.rules.length) ?_
   ·intro m' s hs;rw[hI]at hs;obtain⟨tm,hp⟩:=s;dsimp only at hs;obtain⟨j,rfl,hj,t2,t3,tb,rfl⟩:=hs
    by_cases hlt:j<p.rules.length
    ·have y1:((j:Nat):Int)<((p.rules.length:Nat):Int):=by omega
     have wj:IntKind.i64.wrap (((j:Nat):Int)+1)=((j+1:Nat):Int):=QY (by omega)
     have cs:=QeO p.rules[j] (hr _ (QzF hlt))
     have e1:=Rl.cells p.rules[j]
     have e2:=Rl.isAgg p.rules[j]
     repeat first|(first|refine Qq cs ?_|refine Qj (id:=11) [(0,0),(1,0),(2,0),(3,0),(4,0),(5,0),(6,0),(7,0),(8,0),(9,0),(10,1),(11,0)] mixed (by kernel_rfl) fun K hK=>?_|refine Qa ?_);simp only[go_sem,seval,t2,t3,tb,y1,wj,pc,lr,Z2 (f:=Rl.av) hlt,e1,e2]|refine hK _ ?_;clear hK
     refine QZ.mk (m':=p.rules.length - (j+1)) (by omega) ?_
     rw[hI]
     exact⟨j+1,rfl,hlt,t2,t3,rfl,rfl⟩
    ·have y1:¬((j:Nat):Int)<((p.rules.length:Nat):Int):=by omega
     repeat first|refine Qa ?_;simp only[go_sem,seval,t2,tb,y1,pc,lr]|refine hK _ ?_;clear hK|clear hK;refine hK _ ?_;clear hK
     (refine Qb (htake _ _) (.keep (.v _)) ⟨rfl,rfl⟩)
   ·rw[hI]
    exact⟨0,rfl,Qzy _,t2,t3,rfl,rfl⟩
  ·repeat first|refine Qa ?_;simp only[go_sem,seval]|refine hK _ ?_;clear hK
   obtain⟨I,hI⟩:∃I:Nat->AS->Prop,I=fun m' s=>∃j:Nat,m'=p.decls.length - j/\j<=p.decls.length/\s.tm 2 = .ptr h.length 0 0/\s.tm 3 = .ptr (h.length+1) 0 0/\s.tm 5 = .i j/\s.h=h++[.cells 35 2 [p.av],.cells 35 2 [p.av]]:=⟨_,rfl⟩;refine Qv I ?_ (m:=p.decls.length) ?_
   ·intro m' s hs;rw[hI]at hs;obtain⟨tm,hp⟩:=s;dsimp only at hs;obtain⟨j,rfl,hj,t2,t3,tb,rfl⟩:=hs
    by_cases hlt:j<p.decls.length
    ·have y1:((j:Nat):Int)<((p.decls.length:Nat):Int):=by omega
     have wj:IntKind.i64.wrap (((j:Nat):Int)+1)=((j+1:Nat):Int):=QY (by omega)
     have e1:=Dc.cells p.decls[j]
     have e2:=Dc.isAgg p.decls[j]
     have e3:=Qr9 p.decls[j].name p.decls[j].arity
     have e4:p.decls[j].av = .agg [.v (.string p.decls[j].name),.v (.int .i64 p.decls[j].arity)]:=rfl
     repeat first|(first|refine Qj (id:=6) [(0,0),(1,0),(2,0),(3,0),(4,0),(5,0),(6,0),(7,0),(8,0),(9,0),(10,0)] mixed (by kernel_rfl) fun K hK=>?_|refine Qa ?_);simp only[go_sem,seval,t2,t3,tb,y1,wj,pc,ld,Z2 (f:=Dc.av) hlt,e3,e4]|refine hK _ ?_;clear hK
     refine QZ.mk (m':=p.decls.length - (j+1)) (by omega) ?_
     rw[hI]
     exact⟨j+1,rfl,hlt,t2,t3,rfl,rfl⟩
    ·have y1:¬((j:Nat):Int)<((p.decls.length:Nat):Int):=by omega
     repeat first|refine Qa ?_;simp only[go_sem,seval,t2,tb,y1,pc,ld]|refine hK _ ?_;clear hK
     (try (refine hK _ ?_;rw[XJ]))
     exact⟨t2,t3,rfl⟩
   ·rw[hI]
    exact⟨0,rfl,Qzy _,t2,t3,rfl,rfl⟩
 ·repeat first|refine Qa ?_;simp only[go_sem,seval,pc,ld,lr]|refine hK _ ?_;clear hK
  (try (refine hK _ ?_;rw[XJ]))
  exact⟨rfl,rfl,rfl⟩
abbrev Qjq{a:List AV}{h:AH}{Q:AOut->AH->Prop}:=@Qc Tryz.prog 7 _ _ a h Q Tryz.func7 rfl Tryz.call7 _ Tryz.ntmps7 _ Tryz.results7
theorem QnR{r:Rl}(h:r.small):r.nd<=1000000:=by
 obtain⟨_,h1,h2,h3,h4⟩:=h
 have e1:=Qey r.keep
 have e2:=Qey r.remove
 have e3:=Qey r.guard
 have e4:=Qey r.body
 unfold Rl.nd
 omega
abbrev QuL(D:List Dc)(x:AV):AB:=.cells 35 2 [.agg [.sl 2 (vs Dc.av D) none,x]]
theorem Qwu(p:Pg)(hp:p.ok)(h:AH)(hG:Xl h)(hS:Qbx h):Qp Tryz.prog 7 [p.av] h fun o h'=>o = .ret (.b true)/\h'=h:=by
 have c0:=Qmy p.rules hp.2.2.2 hp.2.1
 have ce:=fun L=>QkQ (h++L) (hG.app L)
 obtain⟨D,eD⟩:∃D,D=p.decls:=⟨_,rfl⟩
 obtain⟨R,eR⟩:∃R,R=p.rules:=⟨_,rfl⟩
 have epv:p.av=AV.agg [.sl 2 (vs Dc.av D) none,.sl 6 (vs Rl.av R) none]:=by rw[eD,eR];rfl
 obtain⟨b0,hb0⟩:∃b,b=Qhe p.rules:=⟨_,rfl⟩
 rw[<-hb0,<-eR]at c0
 rw[epv]
 cases b0 with
 |true =>
  refine Qjq (by simp) ?_
  repeat first|(first|refine Qe c0 ?_|refine FunW.Qxr (ce _) ?_|refine Qa ?_);simp only[go_sem,seval]|refine hK _ ?_;clear hK
  (refine Qb (htake _ _) (.keep (.v _)) ⟨rfl,rfl⟩)
 |false =>
 by_cases q1:(R.length:Int)>20
 ·refine Qjq (by simp) ?_
  repeat first|(first|refine Qe c0 ?_|refine FunW.Qxr (ce _) ?_|refine Qa ?_);simp only[go_sem,seval,Qh,q1]|refine hK _ ?_;clear hK
  (refine Qb (htake _ _) (.keep (.v _)) ⟨rfl,rfl⟩)
 by_cases q2:(D.length:Int)>40
 ·refine Qjq (by simp) ?_
  repeat first|(first|refine Qe c0 ?_|refine FunW.Qxr (ce _) ?_|refine Qa ?_);simp only[go_sem,seval,Qh,q1,q2]|refine hK _ ?_;clear hK
  (refine Qb (htake _ _) (.keep (.v _)) ⟨rfl,rfl⟩)
 have hru:∀r∈R,r.small:=by
  rw[Qhe]at hb0
  have:=Bool.or_eq_false_iff.1 hb0.symm
  intro r hr
  refine QsU ?_
  rw[<-Bool.not_eq_true];intro hc
  have h2:=this.2
  rw[List.any_eq_false]at h2
  exact h2 r (eR▸hr) hc
 have d1:=fun L=>QfG p (by rw[<-eD];omega) (by rw[<-eR];omega) (fun r hr=>(hru r (eR▸hr)).fits) (h++L) (hG.app L)
 rw[epv]at d1
 refine Qjq (by simp) ?_
 iterate 12 (try (first|((first|(refine Qd fun K E hK hE=>?_)|(with_reducible refine Qe c0 ?_));simp only[go_sem,seval,Qh,q1,q2])|(refine QN fun K hK=>?_)|(refine Xu ?_)|(refine Qk ?_)|((with_reducible refine hK _ ?_);clear hK)|(refine Qw rfl ?_;simp only[↓reduceIte,Qyn])))
 refine ZH (h.length+1) 35 2 6 (.grow 25 6 0) (.inr ⟨_,rfl⟩) [.agg [.sl 2 (vs Dc.av D) none,.v (.slice none 0 0)]] [.agg [.sl 2 (vs Dc.av D) none,.sl 6 [] (some (h.length+2))]] 1 (by rw[hget];rfl) rfl (by simp[flat,AV.cells]) (by simp[AV.cells]) ?_
 have hb:((h++[AB.cells 35 2 [.agg [.sl 2 (vs Dc.av D) none,.sl 6 (vs Rl.av R) none]],.cells 35 2 [.agg [.sl 2 (vs Dc.av D) none,.v (.slice none 0 0)]]])++[AB.grow 25 6 0]).set (h.length+1) (.cells 35 2 [.agg [.sl 2 (vs Dc.av D) none,.sl 6 [] (some (h.length+2))]])=h++[.cells 35 2 [.agg [.sl 2 (vs Dc.av D) none,.sl 6 (vs Rl.av R) none]],QuL D (.sl 6 [] (some (h.length+2))),.grow 25 6 0]:=by
  rw[Qze,Qz7 _ _ (by omega),QAe];rfl
 rw[hb]
 clear hb
 refine XT (fun st=>∃L,st.tm 1 = .ptr h.length 0 0/\st.tm 3 = .ptr (h.length+1) 0 0/\st.h=h++(.cells 35 2 [.agg [.sl 2 (vs Dc.av D) none,.sl 6 (vs Rl.av R) none]]::QuL D (.sl 6 (vs Rl.av (R.map numR)) (some (h.length+2))) :: .grow 25 6 R.length::L)) ?_ ?_
 rotate_left
 ·repeat first|refine Qa ?_;simp only[go_sem,seval]|refine hK _ ?_;clear hK
  obtain⟨I,hI⟩:∃I:Nat->AS->Prop,I=fun m' s=>∃(k:Nat) (L:AH),m'=R.length - k/\k<=R.length/\s.tm 1 = .ptr h.length 0 0/\s.tm 3 = .ptr (h.length+1) 0 0/\s.tm 4 = .i k/\s.h=h++(.cells 35 2 [.agg [.sl 2 (vs Dc.av D) none,.sl 6 (vs Rl.av R) none]]::QuL D (.sl 6 (vs Rl.av ((R.take k).map numR)) (some (h.length+2))) :: .grow 25 6 k::L):=⟨_,rfl⟩;refine Qv I ?_ (m:=R.length) ?_
  ·intro m' s hs;rw[hI]at hs;obtain⟨tm,hp⟩:=s;dsimp only at hs;obtain⟨k,L,rfl,hk,t1,t3,t4,rfl⟩:=hs
   by_cases hlt:k<R.length
   ·have z9:(k:Int)<R.length:=by omega
    have wk:IntKind.i64.wrap (((k:Nat):Int)+1)=((k+1:Nat):Int):=QY (by omega)
    have hgk:=Z2 Rl.av hlt
    obtain⟨r,hr⟩:∃r,r=R[k]:=⟨_,rfl⟩
    have hsm:r.small:=by rw[hr];exact hru _ (QzF hlt)
    have hsx:=QhI hsm
    have hts:vs Rl.av ((R.take (k+1)).map numR)=vs Rl.av ((R.take k).map numR)++[(numR r).av]:=by
     rw[QAp hlt,Qz3,Qb9,hr];rfl
    have hml:(vs Rl.av ((R.take k).map numR)).length=k:=by rw[Qh,QzJ,QzE];omega
    rw[<-hr]at hgk
    obtain⟨a1,a2,a3,a4,a5⟩:=hsm.fits
    have cn:=QdY r a1 a2 a3 a4 a5
    have c1:=fun L=>QeJ r a1 a2 a3 a4 a5 (h++L) (hG.app L)
    have rc:=Rl.cells r
    have ri:=Rl.isAgg r
    have xc:=Rl.cells (numR r)
    have xi:=Rl.isAgg (numR r)
    have hm2:k+1<=maxLen:=by simp only[maxLen];omega
    have hm:(k+1) * 120<=140737488355328:=by omega
    cases he:XN (Qbc r)with
    |true =>
     have z1:((Qbc r).toList==({data:=#[]}:ByteArray).toList)=true:=he
     repeat first|(first|refine Qe cn ?_|refine FunW.Qxr (c1 _) ?_|refine Qa ?_);simp only[go_sem,seval,t1,t3,t4,z9,wk,hgk,rc,ri,xc,xi,hml,hm2,hm,z1,Qh]|refine hK _ ?_;clear hK|clear hK;refine hK _ ?_;clear hK
     refine QZ.mk (m':=R.length - (k+1)) (by omega) ?_
     rw[hI]
     exact⟨k+1,_,rfl,hlt,t1,t3,rfl,by rw[hts]⟩
    |false =>
     have z1:((Qbc r).toList==({data:=#[]}:ByteArray).toList)=false:=he
     have cp:=fun L=>Qh7 (Qbc r).data.toList (h++L) (hS.app L)
     rw[Qrq he (QnR hsx),QqJ]at cp
     simp only[rsR,Qtl]at cp
     have cs:=QeO (numR r) hsx.gNs
     have u1:((0:Int) != 0)=false:=rfl
     repeat first|(first|refine Qe cn ?_|refine Qe cs ?_|refine FunW.Qxr (c1 _) ?_|refine FunW.Qxr (cp _) ?_|refine Qa ?_);simp only[go_sem,seval,t1,t3,t4,z9,wk,hgk,rc,ri,xc,xi,hml,hm2,hm,z1,Qh]|refine hK _ ?_;clear hK
     refine QZ.mk (m':=R.length - (k+1)) (by omega) ?_
     rw[hI]
     exact⟨k+1,_,rfl,hlt,t1,t3,rfl,by rw[hts]⟩
   ·have z9:¬(k:Int)<R.length:=by omega
    have hkR:k=R.length:=by omega
    subst hkR
    rw[Qzb]
    repeat first|refine Qa ?_;simp only[go_sem,seval,t1,t4,z9,Qh]|refine hK _ ?_;clear hK
    (try (refine hK _ ?_;rw[XJ]))
    exact⟨L,t1,t3,rfl⟩
  ·rw[hI]
   exact⟨0,[],rfl,Qzy _,rfl,rfl,rfl,rfl⟩
 rintro⟨tm,hp⟩ ⟨L,t1,t3,rfl⟩
 dsimp only at t1 t3
 have hlR:(vs Rl.av (R.map numR)).length=R.length:=by rw[Qh,QzJ]
 cases he:XN (Qbw p)with
 |true =>
  have z1:((Qbw p).toList==({data:=#[]}:ByteArray).toList)=true:=he
  repeat first|(first|refine FunW.Qxr (d1 _) ?_|refine FunW.Qxr (ce _) ?_|refine Qa ?_);simp only[go_sem,seval,t1,z1]|refine hK _ ?_;clear hK
  (refine Qb (htake _ _) (.keep (.v _)) ⟨rfl,rfl⟩)
 |false =>
  have z1:((Qbw p).toList==({data:=#[]}:ByteArray).toList)=false:=he
  have hnd:∀r∈p.rules,(numR r).nd<=1000000:=fun r hr=>QnR (QhI (hru r (eR▸hr)))
  have cp:=fun L=>QoM (Qbw p).data.toList (h++L) (hS.app L)
  have eQ:(⟨p.decls,p.rules.map fun r=>(numR r).op0⟩:Pg).av = .agg [.sl 2 (vs Dc.av D) none,.sl 6 (vs Rl.av (R.map numR)) none]:=by
   show AV.agg [.sl 2 (vs Dc.av p.decls) none,.sl 6 (vs Rl.av (p.rules.map fun r=>(numR r).op0)) none]=_
   rw[Qup,eD,eR]
  rw[Qq8 he hnd,QqJ]at cp
  simp only[psR,eQ]at cp
  have cs:Pure Tryz.prog 29 [.agg [.sl 2 (vs Dc.av D) none,.sl 6 (vs Rl.av (R.map numR)) none],.agg [.sl 2 (vs Dc.av D) none,.sl 6 (vs Rl.av (R.map numR)) none]] (.b true):=Qo0 ⟨D,R.map numR⟩ (by show D.length<=_;omega) (by show(R.map numR).length<=_;rw[QzJ];omega) (fun r hr=>by
   obtain⟨x,hx,rfl⟩:=QzD.1 hr
   exact(QhI (hru x hx)).gNs)
  have u1:((0:Int)==0)=true:=rfl
  refine QcI (h.length+1) 35 2 [.agg [.sl 2 (vs Dc.av D) none,.sl 6 (vs Rl.av (R.map numR)) (some (h.length+2))]] [.agg [.sl 2 (vs Dc.av D) none,.sl 6 (vs Rl.av (R.map numR)) none]] 1 (Wk.sl rfl (fun y hy=>by obtain⟨x,_,rfl⟩:=QzD.1 hy;rw[Rl.cells];rfl) (WkL.refl _)) (by rw[hget];rfl) rfl (by simp[flat,AV.cells]) (by simp[AV.cells]) ?_
  rw[hset,List.set_cons_succ,List.set_cons_zero]
  repeat first|(first|refine Qe cs ?_|refine FunW.Qxr (d1 _) ?_|refine FunW.Qxr (cp _) ?_|refine FunW.Qxr (ce _) ?_|refine Qa ?_);simp only[go_sem,seval,t1,t3,z1]|refine hK _ ?_;clear hK
  (refine Qb (htake _ _) (.keep (.v _)) ⟨rfl,rfl⟩)
theorem Qjg{H:Type}{enc:TypeId×Value->H}{P:Program}{w:World}{base:Nat}{sp:Nat->Bool}{held:Bool}{fuel:Nat}{t e:TypeId}{n:Nat}{cs:List Value}{zs:List (List UInt8)}{p:List MemPlace}
  (ht:P.underlying t=some (.array n e)) (he:P.underlying e=some .string) (hce:P.cellsOf e=1) (hct:P.cellsOf t=n)
  (h:DataW.trod enc P w base sp held fuel t cs=some (.agg (zs.map fun z=>.lit (.string z)),p)):cs=zs.map fun z=>Value.string ⟨z.toArray⟩:=by
 cases fuel with
 |zero=>simp[DataW.trod]at h
 |succ fuel =>
  simp only[DataW.trod,ht,hce,hct,QA3]at h
  split at h
  ·rename_i hl
   obtain⟨xs,hm,hx⟩:=Qzo.1 h
   have hxs:xs.map (·.1)=zs.map fun z=>(DataW.lit (.string z):DataW H):=by
    have:=QzP Prod.fst hx
    simpa using this
   have hxl:xs.length=n:=by simpa using Lib.mapM_length hm
   have hzl:zs.length=n:=by
    have:=QzP List.length hxs
    simp at this
    omega
   apply QzY
   intro i
   by_cases hi:i<n
   ·obtain⟨b,hb,hf⟩:=Lib.mapM_at hm i i (by simp[hi])
    obtain⟨s,hc,rfl,_⟩:=DataW.trod_string he hf
    have h1:cs[i]? = some (.string s):=by
     have:=QzP (·[0]?) hc
     simpa [QAK,QzO]using this
    have h2:(xs.map (·.1))[i]? = some (DataW.lit (.string s.data.toList):DataW H):=by simp[hb]
    rw[hxs]at h2
    simp only[QzN,Qzo,DataW.lit.injEq,Lit.string.injEq]at h2
    obtain⟨z',hz',hz2⟩:=h2
    have:s=⟨z'.toArray⟩:=by rw[hz2]
    simp[h1,hz',this]
   ·rw[QzR (by omega),QzR (by simp;omega)]
  ·cases h
theorem Qqy{P:Program}{W:World}{nm:String}{zs:List (List UInt8)}{g:Nat}{t e:TypeId}{n:Nat}
  (hg:P.globalNamed nm=some g) (hty:(P.globals[g]?).map (·.type)=some t) (ht:P.underlying t=some (.array n e)) (he:P.underlying e=some .string) (hce:P.cellsOf e=1) (hct:P.cellsOf t=n)
  (h:laidMet P [(nm,.agg (zs.map fun z=>.lit (.string z)))] W):∃ty fr,W.heap[g]? = some (.cells (zs.map fun z=>Value.string ⟨z.toArray⟩).toArray ty fr):=by
 obtain⟨ps,⟨g',t',cs,fuel,p,q,hg',ht',hvar,hd,_,_⟩,_⟩:=h
 obtain rfl:=QAH (hg.symm.trans hg')
 obtain rfl:=QAH (hty.symm.trans ht')
 have:=Qjg ht he hce hct hd
 refine QlV hg (cs:=(zs.map fun z=>Value.string ⟨z.toArray⟩).toArray) ?_
 rw[hvar,<-this]
end Go.Proofs.YtenheconhibonaaGreatDoor.Ab

