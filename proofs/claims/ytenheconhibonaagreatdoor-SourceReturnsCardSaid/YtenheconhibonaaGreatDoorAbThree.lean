/-
  An abstract program logic, contracts of functions, and laws of terms and rules (part 3).
-/
import Derived.Test.YtenheconhibonaaGreatDoorAbTwo
import Derived.RecoverIn
set_option linter.unusedVariables false
set_option linter.unusedSimpArgs false
set_option maxHeartbeats 4000000
set_option maxRecDepth 4000
namespace Go.Proofs.YtenheconhibonaaGreatDoor.Ab
abbrev DA:=FuncId×List AV
def RelD(c:Cx)(d:DA)(x:Deferred):Prop:=∃caps,x.target = .fn (.func d.1) caps/\RelL c d.2 (x.args++caps)
theorem RelD.ev{c c':Cx}(hs:St c)(h:Ev c c'){d:DA}{x:Deferred}(hr:RelD c d x):RelD c' d x :=
 let ⟨caps,e,r⟩:=hr;⟨caps,e,r.ev hs h⟩
inductive Ent where
 |mark (D:Nat)
 |call (d:DA) (x:Deferred)
def Ent.dfr:Ent->Deferred
 | .mark D=>Qny D
 | .call _ x=>x
def Ent.da:Ent->Option DA
 | .mark _=>none
 | .call d _=>some d
def Ent.mk? : Ent->Option Nat
 | .mark D=>some D
 | .call _ _=>none
def Ent.ok(c:Cx)(lo:Nat):Ent->Prop
 | .mark D=>lo<=D/\c.w.heap[D]? = some (.deferred (some []))/\¬c.owns D
 | .call d x=>RelD c d x
theorem Ent.ok.ev{c c':Cx}(hs:St c)(h:Ev c c'){lo:Nat}{e:Ent}(hk:e.ok c lo):e.ok c' lo:=by
 cases e with
 |mark D =>
  obtain⟨h1,h2,h3⟩:=hk
  have hlt:=(Qzs.1 h2).1
  exact⟨h1,(h.frame D hlt h3).trans h2,fun ho=>h3 (h.owns hlt ho)⟩
 |call d x=>exact RelD.ev hs h hk
def DefsOk(c:Cx)(lo:Nat)(ds:List DA)(l:List Deferred):Prop :=
 ∃es:List Ent,l=es.map Ent.dfr/\ds=es.filterMap Ent.da/\(es.filterMap Ent.mk?).Nodup/\∀e∈es,e.ok c lo
theorem DefsOk.ev{c c':Cx}(hs:St c)(h:Ev c c'){lo:Nat}{ds:List DA}{l:List Deferred}(hd:DefsOk c lo ds l):DefsOk c' lo ds l :=
 let ⟨es,h1,h2,h3,h4⟩:=hd;⟨es,h1,h2,h3,fun e he=>(h4 e he).ev hs h⟩
theorem QqF(Ds:List Nat):(Ds.map Ent.mark).map Ent.dfr=Ds.map Qny:=by rw[QAu];rfl
theorem Qso(Ds:List Nat):(Ds.map Ent.mark).filterMap Ent.da=[]:=by
 induction Ds with
 |nil=>rfl
 |cons D Ds ih=>rw[List.map_cons,List.filterMap_cons,ih];rfl
theorem Qsp(Ds:List Nat):(Ds.map Ent.mark).filterMap Ent.mk? = Ds:=by
 induction Ds with
 |nil=>rfl
 |cons D Ds ih=>rw[List.map_cons,List.filterMap_cons,ih];rfl
theorem DefsOk.marks{c c':Cx}(hs:St c)(h:Ev c c'){lo:Nat}{ds:List DA}{l l':List Deferred}(hlo:lo<=c.w.heap.size)(hd:DefsOk c lo ds l)(hd':DefOk c' ⟨c.w.heap.size,l⟩ l'):DefsOk c' lo ds l':=by
 obtain⟨Ds,f1,f2,f3⟩:=hd'
 obtain⟨es,e1,e2,e3,e4⟩:=hd
 refine⟨Ds.map Ent.mark++es,?_,?_,?_,?_⟩
 ·rw[f1,Qz3,QqF,e1]
 ·rw[List.filterMap_append,Qso,QyK,e2]
 ·rw[List.filterMap_append,Qsp,List.nodup_append]
  refine⟨f2,e3,fun a ha b hb hab=>?_⟩
  subst hab
  have g1:=(f3 a ha).1
  simp only[List.mem_filterMap]at hb
  obtain⟨e,he,hm⟩:=hb
  cases e with
  |call d x=>cases hm
  |mark D =>
   simp only[Ent.mk?,Qyp]at hm
   subst hm
   have:=(Qzs.1 (e4 _ he).2.1).1
   simp only at g1
   omega
 ·intro e he
  rcases QzH.1 he with he|he
  ·obtain⟨D,hD,rfl⟩:=QzD.1 he
   obtain⟨g1,g2,g3⟩:=f3 D hD
   exact⟨QzL hlo g1,g2,g3⟩
  ·exact(e4 e he).ev hs h
structure SRd (N lo:Nat) (c:Cx) (s:AS) (a:Act) (ds:List DA):Prop where
 h:c.h=s.h
 size:a.tmps.size=N
 above:lo<=c.w.heap.size
 defs:DefsOk c lo ds a.defers
 tm:∀t,Rel c (s.tm t) (a.tmps.getD t undef)
theorem SRd.sr{N lo:Nat}{c:Cx}{s:AS}{a:Act}{ds:List DA}(h:SRd N lo c s a ds){F:Fence}(hro:F.round=none):SR N (⟨c.w.heap.size,a.defers⟩,F) c s a :=
 ⟨h.h,h.size,Qzl _,⟨[],rfl,QAN,fun D hD=>by cases hD⟩,fun l hl=>(by rw[hro]at hl;cases hl),h.tm⟩
theorem SRd.QxW{N lo:Nat}{c c':Cx}{s s':AS}{a a':Act}{ds:List DA}{F:Fence}(hs:St c)(h:SRd N lo c s a ds)(hev:Ev c c')(hr:SR N (⟨c.w.heap.size,a.defers⟩,F) c' s' a'):SRd N lo c' s' a' ds :=
 ⟨hr.h,hr.size,QzL h.above hev.size,h.defs.marks hs hev h.above hr.defers,hr.tm⟩
def DefW(P:Program)(N:Nat)(code:Code)(Q:AExit->AS->List DA->Prop)(s:AS)(ds:List DA):Prop :=
 ∀(F:Fence) (n lo:Nat) (c:Cx) (a:Act),WF F->F.round=none->St c->SRd N lo c s a ds ->
  ∀R:Exit->Act->World->Prop,(∀e s' ds' c' a' e',Q e s' ds'->Ev c c'->St c'->SRd N lo c' s' a' ds'->ExC c' e e'->R e' a' c'.w)->code.wpIn F n P R a c.w
section rules
variable{P:Program}{N:Nat}{Q:AExit->AS->List DA->Prop}{s:AS}{ds:List DA}
theorem Yf{code:Code}(H:Xs P N code (fun e s'=>Q e s' ds) s):DefW P N code Q s ds:=by
 intro F n lo c a hF hro hst hr R hR
 refine H F n ⟨c.w.heap.size,a.defers⟩ c a hF hst (hr.sr hro) R fun e s' c' a' e' hQ hev hst' hsr hex=>?_
 exact hR e s' ds c' a' e' hQ hev hst' (hr.QxW hst hev hsr) hex
def AExit.Qyd(K:AS->List DA->Prop)(Q:AExit->AS->List DA->Prop):AExit->AS->List DA->Prop
 | .normal,s,ds=>K s ds
 |e,s,ds=>Q e s ds
theorem YC{x y:Code}(h:DefW P N x (AExit.Qyd (fun s ds=>DefW P N y Q s ds) Q) s ds):DefW P N (.seq x y) Q s ds:=by
 intro F n lo c a hF hro hs hr R hR
 refine wpIn_seq (h F n lo c a hF hro hs hr _ ?_)
 intro e s' ds' c' a' e' hQ hev hst hsr hex
 cases e with
 |normal =>
  cases hex
  exact hQ F n lo c' a' hF hro hst hsr R fun e s2 ds2 c2 a2 e2 hQ2 hev2 hst2 hsr2 hex2=>hR e s2 ds2 c2 a2 e2 hQ2 (Ev.trans hs hev hev2) hst2 hsr2 hex2
 |exit id=>cases hex;exact hR _ s' ds' c' a' _ hQ hev hst hsr rfl
 |ret=>cases hex;exact hR _ s' ds' c' a' _ hQ hev hst hsr rfl
 |panic av=>obtain⟨x,rfl,hx⟩:=hex;exact hR _ s' ds' c' a' _ hQ hev hst hsr ⟨x,rfl,hx⟩
theorem QpY{o:Operand}{x y:Code}{t:Bool}(ho:s.ev o = .v (.bool t))(h:DefW P N (if t then x else y) Q s ds):DefW P N (.cond o x y) Q s ds:=by
 intro F n lo c a hF hro hs hr R hR
 have he:=(hr.sr hro).eval o
 rw[ho]at he
 have hx:a.eval o = .bool t:=by
  generalize a.eval o=u at he
  cases he;rfl
 exact wpIn_cond hx (h F n lo c a hF hro hs hr R hR)
theorem Qch{id:Nat}{ops:Array Oper}(i:Nat){o:Oper}{cl:Call}{f:Operand}(ho:ops.toList[i]? = some o)(hop:o.op = .defer cl)(hcl:cl.callee = .value f)
  (H:OpsW P N ops (ops.toList.take i) (fun s1=>Qn ops s1.tm o=some true/\∃g first cap,s1.ev f = .fn (.func g) first cap /\
   OpsW P N ops (ops.toList.drop (i+1)) (fun s2=>Q .normal s2 ((g,first++cl.args.toList.map s1.ev++cap)::ds)) (fun r s2=>Q (.panic r) s2 ((g,first++cl.args.toList.map s1.ev++cap)::ds)) (AS.put N s1 o.dst (.v undef)))
   (fun r s1=>Q (.panic r) s1 ds) s):DefW P N (.region id ops false) Q s ds:=by
 intro F n lo c a hF hro hst hr R hR
 refine wpIn_region ?_
 have hlt:=Qf ho
 have hi:(ops.toList.take i).length=i:=by rw[QzE];omega
 have hrange:List.range ops.size=List.range' 0 (ops.toList.take i).length++(i::(List.range' (i+1) (ops.toList.drop (i+1)).length++[])):=by
  rw[hi,QyM,QzM,QAy,<-QzS]
  have:ops.toList.length=i+(1+(ops.toList.length - (i+1))):=by omega
  conv=>lhs;rw[this]
  rw[<-QAD,Qyv,<-QAD]
  rfl
 have hget:∀j,(ops.toList.drop (i+1))[j]? = ops[i+1+j]? := fun j=>by rw[QzO];simp
 rw[hrange]
 refine QcZ hF (ops.toList.take i) 0 s c a (fun j hj=>by rw[QAK,Qzh (by omega)];simp) H hst (hr.sr hro) ?_ ?_
 ·intro s1 c1 a1 h1 h2 h3 h4
  have h0:ops[i]? = some o:=by rw[<-ho];simp
  obtain⟨hw,g,first,cap,hf,hpost⟩:=h1
  simp only[wpOpsIn,h0]
  rw[Q7 h4 hw]
  simp only[QAj]
  have hr1:=hr.QxW hst h2 h4
  have hfv:=h4.eval f
  rw[hf]at hfv
  obtain⟨vs,ws,hae,hv1,hv2⟩:∃vs ws,a1.eval f = .func (.func g) vs ws/\RelL c1 first vs/\RelL c1 cap ws:=by
   generalize a1.eval f=u at hfv
   cases hfv with
   |fn _ _ _ vs ws e1 e2 g1 g2=>exact⟨vs,ws,rfl,⟨e1,g1⟩,⟨e2,g2⟩⟩
  have hargs:RelL c1 (cl.args.toList.map s1.ev) (cl.args.map a1.eval):=by
   refine⟨by simp,fun j x u hx hu=>?_⟩
   rw[QzN]at hx
   rw[Array.getElem?_map]at hu
   cases hj:cl.args[j]? with
   |none=>simp[hj]at hu
   |some q =>
    simp only[hj,Qyl,Qyp]at hu
    simp only[QAd,hj,Qyl,Qyp]at hx
    subst hx;subst hu
    exact h4.eval q
  have hD:RelD c1 (g,first++cl.args.toList.map s1.ev++cap) ⟨.fn (.func g) ws,vs++cl.args.map a1.eval⟩:=⟨ws,rfl,RelL.append (RelL.append hv1 hargs) hv2⟩
  have hrun:(execOp a1.eval o).run P c1.w = .ok (.defer ⟨.fn (.func g) ws,vs++cl.args.map a1.eval⟩) c1.w:=by
   simp only[execOp,hop,resolve,hcl,hae,Deferred.ofValue,Sem.run_bind,Sem.run_pure,Result.andThen_ok]
  refine⟨fun f _=>hF.fn f,?_⟩
  rw[hro,Oper.semAt_none,hrun,Oper.uponIn_defer]
  have hput:=h4.put h3 (Ev.refl c1) o.dst (.v undef)
  rw[h4.h]at hput
  have hd2:DefsOk c1 lo ((g,first++cl.args.toList.map s1.ev++cap)::ds) (⟨.fn (.func g) ws,vs++cl.args.map a1.eval⟩::a1.defers):=by
   obtain⟨es,e1,e2,e3,e4⟩:=hr1.defs
   refine⟨.call _ ⟨.fn (.func g) ws,vs++cl.args.map a1.eval⟩::es,by rw[e1];rfl,by rw[e2];rfl,e3,fun e he=>?_⟩
   rcases Qzn.1 he with rfl|he
   ·exact hD
   ·exact e4 e he
  have hdf:((({a1 with defers:=⟨.fn (.func g) ws,vs++cl.args.map a1.eval⟩::a1.defers}:Act).put o.dst undef)).defers=⟨.fn (.func g) ws,vs++cl.args.map a1.eval⟩::a1.defers:=by
   cases o.dst <;> rfl
  have htm:((({a1 with defers:=⟨.fn (.func g) ws,vs++cl.args.map a1.eval⟩::a1.defers}:Act).put o.dst undef)).tmps=(a1.put o.dst undef).tmps:=by
   cases o.dst <;> rfl
  have hr2:SRd N lo c1 (AS.put N s1 o.dst (.v undef)) (({a1 with defers:=⟨.fn (.func g) ws,vs++cl.args.map a1.eval⟩::a1.defers}:Act).put o.dst undef) ((g,first++cl.args.toList.map s1.ev++cap)::ds) :=
   ⟨hput.h,by rw[htm];exact hput.size,hr1.above,by rw[hdf];exact hd2,fun t=>by rw[htm];exact hput.tm t⟩
  refine QcZ hF _ (i+1) _ c1 _ (fun j _=>hget j) hpost h3 (hr2.sr hro) ?_ ?_
  ·intro s' c' a' hQ k1 k2 k3
   simp only[wpOpsIn]
   exact hR _ s' _ c' a' _ hQ (Ev.trans hst h2 k1) k2 (hr2.QxW h3 k1 k3) rfl
  ·intro r s' c' a' x hQ k1 k2 k3 hx
   exact hR _ s' _ c' a' _ hQ (Ev.trans hst h2 k1) k2 (hr2.QxW h3 k1 k3) ⟨x,rfl,hx⟩
 ·intro r s' c' a' x hQ h1 h2 h3 hx
  exact hR _ s' ds c' a' _ hQ h1 h2 (hr.QxW hst h1 h3) ⟨x,rfl,hx⟩
end rules
inductive AMode where
 |ret
 |pan (v:AV) (recovered:Bool)
def MdC(c:Cx):AMode->FrameMode->Prop
 | .ret,u=>u = .returning
 | .pan v b,u=>∃x,u = .panicking [{v:=x,recovered:=b}]/\Rel c v x
theorem MdC.ev{c c':Cx}(hs:St c)(h:Ev c c'){m:AMode}{u:FrameMode}(hm:MdC c m u):MdC c' m u:=by
 cases m with
 |ret=>exact hm
 |pan v b=>obtain⟨x,e,r⟩:=hm;exact⟨x,e,r.ev hs h⟩
theorem MdC.run{c:Cx}{m:AMode}{u:FrameMode}(hm:MdC c m u):u ≠ .run:=by
 cases m with
 |ret=>rw[show u = .returning from hm];simp
 |pan v b=>obtain⟨x,e,r⟩:=hm;rw[e];simp
def AMode.settle:AMode->AMode
 | .pan _ true=>.ret
 |m=>m
theorem MdC.settle{c:Cx}{m:AMode}{u:FrameMode}(hm:MdC c m u):MdC c m.settle (Go.settle u):=by
 cases m with
 |ret=>rw[show u = .returning from hm];rfl
 |pan v b =>
  obtain⟨x,rfl,r⟩:=hm
  cases b with
  |true=>rfl
  |false=>exact⟨x,rfl,r⟩
def Qau(P:Program)(f:FuncId)(args:List AV)(h:AH)(m:AMode)(Q:AMode->AH->Prop):Prop :=
 (∀vals w,(callFunc f vals).run P w = .ok (.enter f vals) w) /\
 ∀(F:Fence) (n:Nat) (c:Cx) (vals:Array Value) (u:FrameMode),WF F->F.round=none->St c->c.h=h->RelL c args vals->MdC c m u ->
  CallsDIn F n P f vals u c.w fun e u' w'=>∃x m' c',e = .returned x/\Q m' c'.h/\Ev c c'/\St c'/\c'.w=w'/\MdC c' m' u'
def Qgj(P:Program)(rs:List ResultVar)(h:AH)(Q:AOut->AH->Prop):List DA->AMode->AS->Prop
 |[],.ret,s=>Zr P rs h Q .ret s
 |[],.pan v _,s=>Zr P rs h Q (.panic v) s
 |d::ds,m,s=>Qau P d.1 d.2 s.h m fun m' h'=>Qgj P rs h Q ds m'.settle ⟨s.tm,h'⟩
structure Out (N:Nat) (c:Cx) (s:AS) (tmps:Array Value):Prop where
 h:c.h=s.h
 size:tmps.size=N
 tm:∀t,Rel c (s.tm t) (tmps.getD t undef)
theorem QbX{P:Program}{F:Fence}(hF:WF F)(hro:F.round=none){n:Nat}{fn:Func}{tmps:Array Value}{rs:List ResultVar}(hrs:fn.results.toList=rs){Q:AOut->AH->Prop}{c0:Cx}(hs0:St c0) :
  ∀(es:List Ent) (c:Cx) (s:AS) (m:AMode) (u:FrameMode),Ev c0 c->St c->Out fn.ntmps c s tmps->(es.filterMap Ent.mk?).Nodup->(∀e∈es,e.ok c c0.w.heap.size)->MdC c m u->(∀v,m ≠ .pan v true) ->
   Qgj P rs c0.h Q (es.filterMap Ent.da) m s ->
   LeavesInM F n P fn tmps (fun e w'=>∃o c',Q o c'.h/\Ev c0 c'/\St c'/\c'.w=w'/\EndC c' o e) (es.map Ent.dfr) u c.w
 |[],c,s,m,u,hev,hst,hout,_,_,hm,hnr,H=>by
  have hsr:SR fn.ntmps (⟨0,[]⟩,F) c s {tmps:=tmps,defers:=[]}:=⟨hout.h,hout.size,Qzy _,⟨[],rfl,QAN,fun D h=>by cases h⟩,fun l hl=>(by rw[hro]at hl;cases hl),hout.tm⟩
  cases m with
  |ret =>
   rw[show u = .returning from hm]
   obtain⟨r,hres,hl⟩:=(show Zr P rs c0.h Q .ret s from H)
   subst hrs
   obtain⟨x,hrun,hx⟩:=Qcq hst hsr hres
   rw[<-hout.h]at hl
   obtain⟨c3,r',h1,h2,h3,h4,h5⟩:=Qa0 hs0 hst hev hx hl
   exact⟨x,hrun,.ret r',c3,h1,h2,h3,h4,x,rfl,h5⟩
  |pan v b =>
   obtain⟨x,rfl,hx⟩:=hm
   have hl:Leaves c0.h s.h v fun r h'=>Q (.panic r) h':=H
   rw[<-hout.h]at hl
   obtain⟨c3,r',h1,h2,h3,h4,h5⟩:=Qa0 hs0 hst hev hx hl
   cases b with
   |true=>exact absurd rfl (hnr v)
   |false=>exact⟨.panic r',c3,h1,h2,h3,h4,x,rfl,h5⟩
 | .mark D::es,c,s,m,u,hev,hst,hout,hnd,hok,hm,hnr,H=>by
  obtain⟨hD1,hD2,hD3⟩:=hok (.mark D) (by simp)
  simp only[Qyy,LeavesInM]
  refine⟨hm.run,.inl ⟨D,_,rfl,QaJ hD2,?_⟩⟩
  have hnd':=QA9.1 (show(D::es.filterMap Ent.mk?).Nodup from hnd)
  have hold:∀k,k≠D->({c.w with heap:=c.w.heap.setIfInBounds D (.deferred none)}:World).heap[k]? = c.w.heap[k]? := fun k hk=>by
   show(c.w.heap.setIfInBounds D _)[k]? = _
   rw[Qz2 (fun e=>hk e.symm)]
  have hsz:({c.w with heap:=c.w.heap.setIfInBounds D (.deferred none)}:World).heap.size=c.w.heap.size:=by simp
  have hidle:∀k,({c.w with heap:=c.w.heap.setIfInBounds D (.deferred none)}:World).heap[k]? = c.w.heap[k]? \/ (c0.w.heap.size<=k/\¬c.owns k/\∃o,c.w.heap[k]? = some (.deferred o)):=fun k=>by
   by_cases hk:k=D
   ·subst hk;exact .inr ⟨hD1,hD3,_,hD2⟩
   ·exact .inl (hold k hk)
  have hcells:∀(k:Nat) cs t fr,c.w.heap[k]? = some (Obj.cells cs t fr)->({c.w with heap:=c.w.heap.setIfInBounds D (.deferred none)}:World).heap[k]? = c.w.heap[k]? := fun k cs t fr hk=>by
   rcases hidle k with h|⟨_,_,o,h⟩
   ·exact h
   ·rw[hk]at h;cases h
  have hst2:=hst.idle hsz fun k o hk=>by
   rcases hidle k with h|⟨_,_,d,h⟩
   ·exact .inl (h.trans hk)
   ·rw[hk]at h;cases h;exact .inr ⟨d,rfl⟩
  have hrel:∀a x,Rel c a x->Rel (c.to {c.w with heap:=c.w.heap.setIfInBounds D (.deferred none)}) a x:=fun a x hax=>hax.idle hsz hcells
  refine QbX hF hro hrs hs0 es (c.to _) s m u (Ev.idle hst hev rfl rfl rfl hsz hidle) hst2 ⟨hout.h,hout.size,fun t=>hrel _ _ (hout.tm t)⟩ hnd'.2 (fun e he=>?_) ?_ hnr H
  ·have:=hok e (by simp[he])
   cases e with
   |mark D' =>
    obtain⟨g1,g2,g3⟩:=this
    have hne:D'≠D:=fun h=>hnd'.1 (by subst h;exact List.mem_filterMap.2 ⟨_,he,rfl⟩)
    exact⟨g1,(hold D' hne).trans g2,g3⟩
   |call d x =>
    obtain⟨caps,e,r⟩:=this
    exact⟨caps,e,r.1,fun j a u h1 h2=>hrel _ _ (r.2 j a u h1 h2)⟩
  ·cases m with
   |ret=>exact hm
   |pan v b=>obtain⟨x,e,r⟩:=hm;exact⟨x,e,hrel _ _ r⟩
 | .call d x::es,c,s,m,u,hev,hst,hout,hnd,hok,hm,hnr,H=>by
  obtain⟨caps,htar,hargs⟩:=hok (.call d x) (by simp)
  obtain⟨hcall,hbody⟩:=(show Qau P d.1 d.2 s.h m fun m' h'=>Qgj P rs c0.h Q (es.filterMap Ent.da) m'.settle ⟨s.tm,h'⟩from H)
  simp only[Qyy,LeavesInM,Ent.dfr]
  refine⟨hm.run,.inr ⟨fun hd=>by simp[hF.depth]at hd,_,_,d.1,x.args++caps,htar,by rw[htar];simp only[invoke,hcall],fun _ _=>hF.fn _,?_⟩⟩
  refine(hbody F (n - 1) c _ u hF hro hst hout.h hargs hm).mono ?_
  rintro e u' w' ⟨y,m',c',rfl,hQ,hev',hst',rfl,hm'⟩
  refine QbX hF hro hrs hs0 es c' ⟨s.tm,c'.h⟩ m'.settle (Go.settle u') (Ev.trans hs0 hev hev') hst' ⟨rfl,hout.size,fun t=>(hout.tm t).ev hst hev'⟩ hnd (fun e he=>(hok e (by simp[he])).ev hst hev') hm'.settle (fun v h=>?_) hQ
  cases m' with
  |ret=>cases h
  |pan v' b=>cases b <;> cases h
def QlY(P:Program)(rs:List ResultVar)(h:AH)(Q:AOut->AH->Prop):AExit->AS->List DA->Prop
 | .normal,s,ds | .ret,s,ds=>Qgj P rs h Q ds .ret s
 | .panic v,s,ds=>Qgj P rs h Q ds (.pan v false) s
 | .exit _,_,_=>False
theorem QaP{P:Program}{f:FuncId}{fn:Func}{code:Code}{args:List AV}{h:AH}{Q:AOut->AH->Prop}(hf:P.funcs[f]? = some fn)(hb:fn.body=some code)
  (hcall:∀vals w,(callFunc f vals).run P w = .ok (.enter f vals) w) {N:Nat} (hN:fn.ntmps=N) {rs:List ResultVar} (hrs:fn.results.toList=rs) (hn:args.length<=N) (H:DefW P N code (QlY P rs h Q) ⟨Xm args,h⟩ []):Qp P f args h Q:=by
 subst hN
 refine⟨hcall,fun F n c vals hF hs hh hvals=>Qcf ?_⟩
 subst hh
 refine callsIn_of_wp_marks hf hb (hF.plain.fn f) ?_
 have hsr:SRd fn.ntmps c.w.heap.size c ⟨Xm args,c.h⟩ {tmps:=vals++Array.replicate (fn.ntmps - vals.size) undef,defers:=[]} []:=by
  refine⟨rfl,by have:=hvals.1;simp;omega,Qzl _,⟨[],rfl,rfl,QAN,fun e h=>by cases h⟩,fun t=>?_⟩
  simp only[Xm]
  rw[Qzr,QAL,QzQ]
  have hsz:=hvals.1
  by_cases ht:t<vals.size
  ·rw[Qzh ht]
   obtain⟨u,hu⟩:∃u,vals[t]? = some u:=⟨_,Qzv ht⟩
   obtain⟨a,ha⟩:∃a,args[t]? = some a:=⟨_,Qzg (by omega)⟩
   rw[hu,ha]
   exact hvals.2 t a u ha hu
  ·rw[Qzf ht,QzR (by omega),QAo]
   split
   ·exact .v _
   ·exact .v _
 refine H F.plain n c.w.heap.size c _ hF.plain rfl hs hsr _ ?_
 intro e s' ds' c' a' e' hQ hev hst hr hex
 obtain⟨es,e1,e2,e3,e4⟩:=hr.defs
 subst e2
 have hout:Out fn.ntmps c' s' a'.tmps:=⟨hr.h,hr.size,hr.tm⟩
 have key:=fun(m:AMode) (u:FrameMode) (hm:MdC c' m u) (hnr:∀v,m ≠ .pan v true) H=>e1▸QbX (P:=P) hF.plain rfl (n:=n) (fn:=fn) (tmps:=a'.tmps) hrs (Q:=Q) hs es c' s' m u hev hst hout e3 e4 hm hnr H
 cases e with
 |normal=>cases hex;exact key .ret .returning rfl (fun v h=>by cases h) hQ
 |ret=>cases hex;exact key .ret .returning rfl (fun v h=>by cases h) hQ
 |panic av =>
  obtain⟨x,rfl,hx⟩:=hex
  exact key (.pan av false) _ ⟨x,rfl,hx⟩ (fun v h=>by cases h) hQ
 |exit id=>exact hQ.elim
theorem Qal{P:Program}{F:Fence}{n:Nat}{fn:Func}{tmps:Array Value}{R:Ending->World->Prop}:∀(ds:List Deferred) (u:FrameMode) (w:World) (fr:Frame)
  (cs:List Frame),fr.mode=u->fr.defers=ds->fr.tmps=tmps->P.funcs[fr.fn]? = some fn->fr.kind = .deferred->F.fn fr.fn->F.room (cs.length+1+n)->LeavesInM F n P fn tmps R ds u w ->
  ∃e w' fr',R e w'/\ComesIn (Machine.fenced P F) P (lone fr cs w) (lone fr' cs w') e/\fr'.fn=fr.fn/\fr'.kind = .deferred/\fr'.going P w' e:=by
 intro ds
 induction ds with
 |nil =>
  intro u w fr cs hu hd ht hf hk _ _ h
  cases u with
  |run=>exact h.elim
  |returning =>
   obtain⟨v,hr,hR⟩:=h
   exact⟨.returned v,w,fr,hR,StepsIn.refl _,rfl,hk,hu,hd,fn,hf,ht▸hr⟩
  |panicking chain=>exact⟨.panicked chain,w,fr,h,StepsIn.refl _,rfl,hk,hu,hd,fn,hf⟩
 |cons d ds ih =>
  intro u w fr cs hu hd ht hf hk hb hroom h
  obtain⟨hrun,h⟩:=h
  rcases h with⟨r,w',htar,htake,hrest⟩|⟨hn,fv,cap,f,args,htar,hinv,hlead,hFf,hcall⟩
  ·have h1:=step_collected (cs:=cs) (hu▸hrun) hd htar htake
   have i1:(lone fr cs w).fenced P F:=fenced_out hb hroom (hu▸hrun) hd (fun g hg=>by rw[htar]at hg;simp[Target.leads]at hg)
   obtain⟨e',w'',fr',hR',hs',hfn',hl'⟩:=ih u w' {fr with defers:=[]++ds} cs hu rfl ht hf hk hb hroom hrest
   exact⟨e',w'',fr',hR',ComesIn.of_steps (.one i1 h1) hs',hfn',hl'⟩
  ·have h1:=step_defer (cs:=cs) (hu▸hrun) hd htar hinv
   have i1:(lone fr cs w).fenced P F:=fenced_out hb hroom (hu▸hrun) hd hlead
   have hroom':F.room (({fr with defers:=ds}::cs).length+1+(n - 1)):=Fence.room_enter hroom hn
   obtain⟨e,u',w',frX,hR,hsteps,hkX,hfX,hgo⟩:=hcall {fr with defers:=ds} cs hu hroom'
   cases e with
   |outgrown=>exact⟨.outgrown,w',fr,hR,Outgrown.of_steps (.one h1) hsteps,rfl,hk,trivial⟩
   |returned v =>
    have i2:(lone frX ({{fr with defers:=ds} with mode:=u'}::cs) w').fenced P F:=fenced_going (n:=n - 1) (hfX▸hFf) hroom' hgo
    have h2:=step_going_returned (c:={{fr with defers:=ds} with mode:=u'}) (cs:=cs) hkX hgo
    obtain⟨e',w'',fr',hR',hs',hfn',hl'⟩:=ih (Go.settle u') w' {{{fr with defers:=ds} with mode:=u'} with mode:=Go.settle u'} cs rfl rfl ht hf hk hb hroom hR
    exact⟨e',w'',fr',hR',ComesIn.of_steps (.head i1 h1 (StepsIn.trans hsteps (.one i2 h2))) hs',hfn',hl'⟩
   |panicked chain =>
    have i2:(lone frX ({{fr with defers:=ds} with mode:=u'}::cs) w').fenced P F:=fenced_going (n:=n - 1) (hfX▸hFf) hroom' hgo
    have h2:=step_going_panicked (c:={{fr with defers:=ds} with mode:=u'}) (cs:=cs) hgo
    obtain⟨e',w'',fr',hR',hs',hfn',hl'⟩:=ih (raised u' chain) w' {{{fr with defers:=ds} with mode:=u'} with mode:=raised u' chain} cs rfl rfl ht hf hk hb hroom hR
    exact⟨e',w'',fr',hR',ComesIn.of_steps (.head i1 h1 (StepsIn.trans hsteps (.one i2 h2))) hs',hfn',hl'⟩
theorem QdA{P:Program}{F:Fence}{n:Nat}{f:FuncId}{fn:Func}{c:Code}{args:Array Value}{u:FrameMode}{w:World}{R:Ending->World->Prop}
  (hf:P.funcs[f]? = some fn) (hb:fn.body=some c) (hF:F.fn f)
  (h:c.wpIn F n P (bodyPostM F n P fn R) {tmps:=args++Array.replicate (fn.ntmps - args.size) undef,defers:=[]} w) (hro:F.round=none) :
  CallsDIn F n P f args u w fun e u' w'=>u'=u/\R e w':=by
 refine⟨hF,fun c₀ cs hu hr=>?_⟩
 let b:Frame:={(default:Frame)with fn:=f,kind:=.deferred,roundOf:=none}
 have henter:Frame.enter P f args .deferred =
   b.atR {tmps:=args++Array.replicate (fn.ntmps - args.size) undef,defers:=[]} [.code c]:=by
  simp[Frame.enter,Frame.atR,hf,hb,b]
 have hc:({c₀ with mode:=u}:Frame)=c₀:=by subst hu;rfl
 obtain⟨e,a',w',hq,harr⟩:=h b [] (c₀::cs) hro.symm hF hr
 rw[<-henter]at harr
 cases e with
 |normal =>
  obtain⟨e',w'',fr',hR,hs,hfn,hk,hl⟩:=Qal a'.defers .returning w' {b.atR a' []with mode:=.returning} (c₀::cs) rfl rfl rfl hf rfl hF hr hq
  exact⟨e',u,w'',fr',⟨rfl,hR⟩,(by rw[hc];exact ComesIn.of_steps (StepsIn.trans harr (.one (fenced_calm (fr:=b.atR a' []) hF hr rfl) (stepR_end rfl))) hs),hk,hfn,hl⟩
 |ret =>
  obtain⟨todo,hs₀⟩:=harr.1 rfl
  obtain⟨e',w'',fr',hR,hs,hfn,hk,hl⟩:=Qal a'.defers .returning w' {b.atR a' todo with mode:=.returning} (c₀::cs) rfl rfl rfl hf rfl hF hr hq
  exact⟨e',u,w'',fr',⟨rfl,hR⟩,(by rw[hc];exact ComesIn.of_steps hs₀ hs),hk,hfn,hl⟩
 |panic chain =>
  obtain⟨todo,hs₀⟩:=harr
  obtain⟨e',w'',fr',hR,hs,hfn,hk,hl⟩:=Qal a'.defers (.panicking chain) w' {b.atR a' todo with mode:=.panicking chain} (c₀::cs) rfl rfl rfl hf rfl hF hr hq
  exact⟨e',u,w'',fr',⟨rfl,hR⟩,(by rw[hc];exact ComesIn.of_steps hs₀ hs),hk,hfn,hl⟩
 |exit id=>exact hq.elim
 |goto l=>exact hq.elim
 |outgrown=>exact⟨.outgrown,u,w',b,⟨rfl,hq⟩,harr.resolve_left (by simp[b]),rfl,rfl,trivial⟩
theorem Qgy{P:Program}{f:FuncId}{fn:Func}{code:Code}{args:List AV}{h:AH}{Q:AH->Prop}(hf:P.funcs[f]? = some fn)(hb:fn.body=some code)
  (hcall:∀vals w,(callFunc f vals).run P w = .ok (.enter f vals) w) {N:Nat} (hN:fn.ntmps=N) {rs:List ResultVar} (hrs:fn.results.toList=rs) (hn:args.length<=N)
  (H:DefW P N code (QlY P rs h fun o h'=>(∃r,o = .ret r)/\Q h') ⟨Xm args,h⟩ []) (m:AMode):Qau P f args h m fun m' h'=>m'=m/\Q h':=by
 subst hN
 refine⟨hcall,fun F n c vals u hF hro hs hh hvals hm=>?_⟩
 subst hh
 refine(QdA (R:=fun e w'=>∃(o:AOut) (c':Cx),((∃r,o=AOut.ret r)/\Q c'.h)/\Ev c c'/\St c'/\c'.w=w'/\EndC c' o e) hf hb (hF.fn f) ?_ hro).mono ?_
 ·have hsr:SRd fn.ntmps c.w.heap.size c ⟨Xm args,c.h⟩ {tmps:=vals++Array.replicate (fn.ntmps - vals.size) undef,defers:=[]} []:=by
   refine⟨rfl,by have:=hvals.1;simp;omega,Qzl _,⟨[],rfl,rfl,QAN,fun e h=>by cases h⟩,fun t=>?_⟩
   simp only[Xm]
   rw[Qzr,QAL,QzQ]
   have hsz:=hvals.1
   by_cases ht:t<vals.size
   ·rw[Qzh ht]
    obtain⟨u,hu⟩:∃u,vals[t]? = some u:=⟨_,Qzv ht⟩
    obtain⟨a,ha⟩:∃a,args[t]? = some a:=⟨_,Qzg (by omega)⟩
    rw[hu,ha]
    exact hvals.2 t a u ha hu
   ·rw[Qzf ht,QzR (by omega),QAo]
    split
    ·exact .v _
    ·exact .v _
  refine H F n c.w.heap.size c _ hF hro hs hsr _ ?_
  intro e s' ds' c' a' e' hQ hev hst hr hex
  obtain⟨es,e1,e2,e3,e4⟩:=hr.defs
  subst e2
  have hout:Out fn.ntmps c' s' a'.tmps:=⟨hr.h,hr.size,hr.tm⟩
  have key:=fun(m:AMode) (u:FrameMode) (hm:MdC c' m u) (hnr:∀v,m ≠ .pan v true) H=>e1▸QbX (P:=P) hF hro (n:=n) (fn:=fn) (tmps:=a'.tmps) hrs (Q:=fun o h'=>(∃r,o=AOut.ret r)/\Q h') hs es c' s' m u hev hst hout e3 e4 hm hnr H
  cases e with
  |normal=>cases hex;exact key .ret .returning rfl (fun v h=>by cases h) hQ
  |ret=>cases hex;exact key .ret .returning rfl (fun v h=>by cases h) hQ
  |panic av =>
   obtain⟨x,rfl,hx⟩:=hex
   exact key (.pan av false) _ ⟨x,rfl,hx⟩ (fun v h=>by cases h) hQ
  |exit id=>exact hQ.elim
 ·rintro e u' w' ⟨rfl,o,c',⟨⟨r,rfl⟩,hQ⟩,hev,hst',rfl,x,rfl,hx⟩
  exact⟨x,m,c',rfl,⟨rfl,hQ⟩,hev,hst',rfl,hm.ev hs hev⟩
theorem Qh1{P:Program}{f:FuncId}{fn:Func}{code:Code}{args:List AV}{h:AH}{Q:AH->Prop}(hf:P.funcs[f]? = some fn)(hb:fn.body=some code)
  (hcall:∀vals w,(callFunc f vals).run P w = .ok (.enter f vals) w) {N:Nat} (hN:fn.ntmps=N) {rs:List ResultVar} (hrs:fn.results.toList=rs) (hn:args.length<=N)
  (H:Xs P N code (Zr P rs h fun o h'=>(∃r,o = .ret r)/\Q h') ⟨Xm args,h⟩) (m:AMode):Qau P f args h m fun m' h'=>m'=m/\Q h' :=
 Qgy hf hb hcall hN hrs hn (Yf (H.mono fun e s hq=>by cases e <;> exact hq)) m
end Go.Proofs.YtenheconhibonaaGreatDoor.Ab
namespace Go.Proofs.YtenheconhibonaaGreatDoor.Ab
open Go.Proofs
def HB(h:AH)(i j:Nat)(u:Bool)(tx:ByteArray):AH:=hs2 h i (bw 138 i j u tx) j (.grow 5 1 tx.size)
theorem wTy:BTy 138:=.inr rfl
abbrev lpa:ByteArray:={data:=#[40]}
abbrev rpa:ByteArray:={data:=#[41]}
def encB(b:Bool)(x:ByteArray):ByteArray:=if b then lpa++x++rpa else x
theorem Qau.mono{P:Program}{f:FuncId}{args:List AV}{h:AH}{m:AMode}{Q Q':AMode->AH->Prop}(H:Qau P f args h m Q)(hq:∀m' h',Q m' h'->Q' m' h'):Qau P f args h m Q' :=
 ⟨H.1,fun F n c vals u hF hro hs hh hvals hm=>(H.2 F n c vals u hF hro hs hh hvals hm).mono fun e u' w' ⟨x,m',c',h1,h2,h3⟩=>⟨x,m',c',h1,hq _ _ h2,h3⟩⟩
theorem Qkm{h:AH}{i j:Nat}(hi:i<h.length)(hj:j<h.length)(hij:i≠j)(u:Bool)(tx:ByteArray)(b:UInt8)(hs:tx.size<140737488355328)(m:AMode) :
  Qau Tryz.prog 149 [.ptr i 0 0,.v (.int .u8 (b.toNat:Nat))] (HB h i j u tx) m fun m' h'=>m'=m/\h'=HB h i j true (tx++{data:=#[b]}):=by
 have f1:=fun x y=>ZR h i x j y
 have f2:=fun x y=>Z6 (h:=h) hi hij x y
 have f3:=fun x y z=>Qf3 (h:=h) (i:=i) (j:=j) hij x y z
 have f5:=fun x y z=>Qf4 (h:=h) (i:=i) (j:=j) x y z
 have f7:=fun x y=>Qdh (h:=h) (i:=i) hj x y
 have c1:=Qcg wTy hij u tx h hi hj
 have e1:Q6 (tx++{data:=#[b]})=Q6 tx++[.v (.int .u8 (b.toNat:Nat))]:=QbI tx _
 have e2:(tx++({data:=#[b]}:ByteArray)).size=tx.size+1:=Qg _ _
 have hs':tx.size+1<=140737488355328:=hs
 have hm:tx.size+1<=maxLen:=by simp only[maxLen];omega
 refine Qh1 Tryz.func149 rfl Tryz.call149 Tryz.ntmps149 (QzP Array.toList Tryz.results149) (by simp) ?_ m
 rw[HB,HB,bw1,e1,e2]
 repeat (first|refine FunW.Qxr c1 ?_|refine Qa ?_);simp only[go_sem,seval,f2,f3,f5,f7,bw1,Yi,hm,hs',QA3]
 exact .inr ⟨⟨_,rfl⟩,rfl⟩
theorem QcJ{h:AH}{i j:Nat}(hi:i<h.length)(hj:j<h.length)(hij:i≠j)(need u:Bool)(tx body:ByteArray){fv r:AV}(hs:tx.size+(encB need body).size<=140737488355328)
  (hw:FunW Tryz.prog fv [] (HB h i j (u||need) (if need then tx++lpa else tx)) fun o h'=>o = .ret r/\h'=HB h i j true ((if need then tx++lpa else tx)++body)) :
  Qp Tryz.prog 122 [.ptr i 0 0,.b need,fv] (HB h i j u tx) fun o h'=>o = .ret (.tup [])/\h'=HB h i j true (tx++encB need body):=by
 have f2:=fun x y=>Z6 (h:=h) hi hij x y
 have e0:∀u tx,HB h i j u tx=hs2 h i (bw 138 i j u tx) j (.grow 5 1 tx.size):=fun _ _=>rfl
 have f0:∀u tx,(HB h i j u tx)[i]? = some (bw 138 i j u tx):=fun u tx=>f2 _ _
 have f1:∀u tx,bw 138 i j u tx = .cells 138 2 [.agg [if u then .ptr i 0 0 else .v (.pointer none),.sl 1 (Q6 tx) (some j)]]:=fun _ _=>rfl
 cases need
 ·rw[QAm,Qzf (by decide)]at hw
  refine Qc Tryz.func122 rfl Tryz.call122 Tryz.ntmps122 Tryz.results122 (by simp) ?_
  repeat (first|refine FunW.ret hw ?_|refine Qa ?_);simp only[go_sem,seval]
  exact .inr ⟨rfl,rfl⟩
 ·rw[QAl,Qzh rfl]at hw
  have hsz:tx.size+body.size+2<=140737488355328:=by
   rw[encB,Qzh rfl,Qg,Qg]at hs
   have:lpa.size=1:=rfl
   have:rpa.size=1:=rfl
   omega
  have c1:=Qkl wTy hij u tx 40 (by omega) h hi hj
  rw[<-e0,<-e0,show((UInt8.toNat 40:Nat):Int)=40 from rfl]at c1
  refine QaP Tryz.func122 rfl Tryz.call122 Tryz.ntmps122 (QzP Array.toList Tryz.results122) (by simp) ?_
  refine YC (YC (Yf ?_))
  repeat refine Qa ?_;simp only[go_sem,seval]
  show DefW _ _ _ _ _ _
  refine QpY rfl (YC (Yf ?_))
  repeat (first|refine FunW.Qxr c1 ?_|refine Qa ?_);simp only[go_sem,seval,f0,f1]
  show DefW _ _ _ _ _ _
  refine Qch 3 rfl rfl rfl ?_
  simp only[go_sem,seval,f0,f1]
  refine⟨_,_,_,rfl,?_⟩
  show DefW _ _ _ _ _ _
  refine Yf ?_
  repeat (first|refine FunW.ret hw ?_|refine Qa ?_);simp only[go_sem,seval]
  simp only[QlY,Qgj]
  refine Qau.mono (Qkm hi hj hij true ((tx++lpa)++body) 41 (by rw[Qg,Qg];have:lpa.size=1:=rfl;omega) .ret) ?_
  rintro m' h' ⟨rfl,rfl⟩
  simp only[AMode.settle,Qgj]
  simp only[go_sem]
  exact .inr ⟨rfl,by rw[encB,Qzh rfl,ByteArray.append_assoc,ByteArray.append_assoc,ByteArray.append_assoc]⟩
end Go.Proofs.YtenheconhibonaaGreatDoor.Ab
namespace Go.Proofs.YtenheconhibonaaGreatDoor.Ab
open Go.Proofs
abbrev ZT:ByteArray:={data:=#[44,32]}
def binT(o:Int)(n:ByteArray)(oa oc:Int)(x y:ByteArray):ByteArray:=(encB ((oa==1)&&(o==2)) x++(({data:=#[32]}:ByteArray)++n++{data:=#[32]}))++encB ((oc != 0)&&((oc==1)||(o==2))) y
def Xw:Bool->List ByteArray->ByteArray
 |_,[]=>.empty
 |f,x::r=>(if f then x else ZT++x)++Xw false r
def funT(n:ByteArray)(l:List ByteArray):ByteArray:=n++encB (decide (0<l.length)) (Xw true l)
mutual
def T.txt:T->ByteArray
 | .mk k i n l=>if (T.mk k i n l).oper≠0 then(match l.map T.oper,txts l with
   |[oa,oc],[x,y]=>binT (ofB n) n oa oc x y
   |_,_=>.empty)else
  if k=0 then decZ i else if k=1 then vOf (decN i.toNat)else funT n (txts l)
def txts:List T->List ByteArray
 |[]=>[]
 |t::l=>t.txt::txts l
end
theorem QuG(l:List T):txts l=l.map T.txt:=by
 induction l with
 |nil=>rfl
 |cons t l ih=>rw[txts,ih];rfl
mutual
def T.lex:T->Prop
 | .mk k i n l=>(k=0 -> -9223372036854775807<=i/\i<=9223372036854775807)/\(k=1->0<=i/\i<=1048576)/\l.length<=1000000/\n.size<=1000000/\lexL l
def lexL:List T->Prop
 |[]=>True
 |t::l=>t.lex/\lexL l
end
section
variable{h:AH}{i j:Nat}(hi:i<h.length)(hj:j<h.length)(hij:i≠j)
theorem Qie(h:AH)(i j:Nat)(u:Bool)(tx:ByteArray):(HB h i j u tx).length=h.length:=ZR _ _ _ _ _
theorem Qgk(h:AH)(i j:Nat)(u:Bool)(tx:ByteArray)(L:AH):(HB h i j u tx++L)[h.length]? = L[0]? := Qsg _ _ _
theorem Qko(h:AH)(i j:Nat)(u:Bool)(tx:ByteArray)(L:AH)(k:Nat):(HB h i j u tx++L)[h.length+k]? = L[k]? := Qqi _ _ _ _
theorem QrW(h:AH)(i j:Nat)(u:Bool)(tx:ByteArray)(z:AB)(L:AH):(HB h i j u tx++L).set h.length z=HB h i j u tx++L.set 0 z:=Qqh _ _ _ _
theorem QtB(h:AH)(i j:Nat)(u:Bool)(tx:ByteArray)(z:AB)(L:AH)(k:Nat):(HB h i j u tx++L).set (h.length+k) z=HB h i j u tx++L.set k z:=Qni _ _ _ _ _
include hi hj in
theorem QmW(u:Bool)(tx:ByteArray)(L:AH):HB (h++L) i j u tx=HB h i j u tx++L:=QjC hi hj _ _ _
include hi hij in
theorem QlZ(u:Bool)(tx:ByteArray):(HB h i j u tx)[i]? = some (.cells 138 2 [.agg [if u then .ptr i 0 0 else .v (.pointer none),.sl 1 (Q6 tx) (some j)]]):=Z6 hi hij _ _
include hi hij in
theorem QfV(u:Bool)(tx:ByteArray)(L:AH):(HB h i j u tx++L)[i]? = some (.cells 138 2 [.agg [if u then .ptr i 0 0 else .v (.pointer none),.sl 1 (Q6 tx) (some j)]]):=Qk2 hi hij _ _ _
theorem QuT{u u':Bool}{tx tx':ByteArray}(hij:i≠j)(H:Xl (HB h i j u tx)):Xl (HB h i j u' tx'):=by
 obtain⟨k,ty,fr,e⟩:=H
 refine⟨k,ty,fr,?_⟩
 have hk:=Qf e
 rw[Qie]at hk
 by_cases h1:i=k
 ·subst h1;rw[HB,Z6 hk hij]at e;cases e
 ·by_cases h2:j=k
  ·subst h2;rw[HB,Qdh hk]at e;cases e
  ·rw[HB,Yo _ _ h1 h2]at e ⊢;exact e
theorem X7{u u':Bool}{tx tx':ByteArray}{L:AH}{r r':AV}{Q:AV->AH->Prop}(hi:i<h.length)(hj:j<h.length)(hij:i≠j)(hf:Frz (HB h i j u' tx'++L) h.length r r')(hq:Q r' (HB h i j u' tx')):Leaves (HB h i j u tx) (HB h i j u' tx'++L) r Q :=
 Qoy hij (Qr4 hi hj) trivial hf hq
end
def Wri(f:FuncId)(args:List AV)(h:AH)(i j:Nat)(u:Bool)(tx add:ByteArray):Prop :=
 Qp Tryz.prog f args (HB h i j u tx) fun o h'=>o = .ret (.tup [])/\h'=HB h i j true (tx++add)
theorem wstr{h:AH}{i j:Nat}(hi:i<h.length)(hj:j<h.length)(hij:i≠j)(u:Bool)(tx s:ByteArray)(hs:tx.size+s.size<=140737488355328) :
  Qp Tryz.prog 35 [.ptr i 0 0,.v (.string s)] (HB h i j u tx) fun o h'=>o = .ret (.tup [.i s.size,.v .nilIface])/\h'=HB h i j true (tx++s) :=
 Qc8 wTy hij u tx s hs h hi hj
theorem Qa7{p:Prop}(h:2=3):p:=by cases h
theorem Qru{G G':AH}{p q i:Nat}{t a:T}{r:AV}(hp:G[p]? = some (.cells 134 1 [.ptr i 0 0]))(hq:G[q]? = some (.cells 69 4 [t.av]))(ha:t.args[0]? = some a)
  (H:Qp Tryz.prog 86 [.ptr i 0 0,a.av] G fun o h'=>o = .ret r/\h'=G') :
  Qp Tryz.prog 125 [.ptr p 0 0,.ptr q 0 0] G fun o h'=>o = .ret (.tup [])/\h'=G':=by
 have e1:t.av = .agg [.i t.kind,.i t.int,.v (.string t.name),.sl 4 (avs t.args) none]:=by cases t;rfl
 have hlt:0<t.args.length:=Qf ha
 have hz:(0:Int)<t.args.length:=by omega
 have hg:=Qcd hlt
 have ea:t.args[0]=a:=by rw[Qzg hlt]at ha;injection ha
 rw[ea]at hg
 rw[e1]at hq
 refine Qc Tryz.func125 rfl Tryz.call125 Tryz.ntmps125 Tryz.results125 (by simp) ?_
 repeat first|(first|refine QL (FunW.call H) Qa7 ?_|refine Q1 (id:=0) [(0,0),(1,0),(2,0),(3,0),(4,0),(5,2)] mixed (by kernel_rfl) fun K hK=>?_|refine Qa ?_);simp only[go_sem,seval,hp,hq,hz,hg]|refine hK _ ?_;clear hK
 simp only[go_sem]
 exact .inr ⟨rfl,rfl⟩
theorem Qrv{G G':AH}{p q i:Nat}{t a:T}{r:AV}(hp:G[p]? = some (.cells 134 1 [.ptr i 0 0]))(hq:G[q]? = some (.cells 69 4 [t.av]))(ha:t.args[1]? = some a)
  (H:Qp Tryz.prog 86 [.ptr i 0 0,a.av] G fun o h'=>o = .ret r/\h'=G') :
  Qp Tryz.prog 126 [.ptr p 0 0,.ptr q 0 0] G fun o h'=>o = .ret (.tup [])/\h'=G':=by
 have e1:t.av = .agg [.i t.kind,.i t.int,.v (.string t.name),.sl 4 (avs t.args) none]:=by cases t;rfl
 have hlt:1<t.args.length:=Qf ha
 have hz:(1:Int)<t.args.length:=by omega
 have z1:(0:Int)<=1:=by decide
 have hg:=Qcd hlt
 have ea:t.args[1]=a:=by rw[Qzg hlt]at ha;injection ha
 rw[ea]at hg
 rw[e1]at hq
 refine Qc Tryz.func126 rfl Tryz.call126 Tryz.ntmps126 Tryz.results126 (by simp) ?_
 repeat first|(first|refine QL (FunW.call H) Qa7 ?_|refine Q1 (id:=0) [(0,0),(1,0),(2,0),(3,0),(4,0),(5,2)] mixed (by kernel_rfl) fun K hK=>?_|refine Qa ?_);simp only[go_sem,seval,hp,hq,hz,z1,hg]|refine hK _ ?_;clear hK
 simp only[go_sem]
 exact .inr ⟨rfl,rfl⟩
theorem QiG(f:Bool)(l:List ByteArray):∀x r,l=x::r->(Xw f l).size=(if f then 0 else 2)+x.size+(Xw false r).size:=by
 rintro x r rfl
 rw[Xw,Qg]
 cases f
 ·simp only[Qyn,Qz5,Qg];have:ZT.size=2:=rfl;omega
 ·simp
theorem QkU{h:AH}{i j:Nat}(hi:i<h.length)(hj:j<h.length)(hij:i≠j)(l:List T){p q:Nat}(hp:p<h.length)(hq:q<h.length)(hpi:i≠p)(hpj:j≠p)(hqi:i≠q)(hqj:j≠q)
  (gp:h[p]? = some (.cells 134 1 [.ptr i 0 0])) (gq:h[q]? = some (.cells 44 1 [.sl 4 (avs l) none])) (hl:l.length<=1000000)
  (ih:∀t∈l,∀(h:AH),i<h.length->j<h.length->Xl (HB h i j true (.empty))->∀tx:ByteArray,tx.size+t.txt.size<=140737488355328->Wri 86 [.ptr i 0 0,t.av] h i j true tx t.txt)
  (hG:Xl (HB h i j true (.empty))) (tx:ByteArray) (hs:tx.size+(Xw true (txts l)).size<=140737488355328) :
  Wri 123 [.ptr q 0 0,.ptr p 0 0] h i j true tx (Xw true (txts l)):=by
 have k0:∀u tx L,(HB h i j u tx++L)[p]? = some (.cells 134 1 [.ptr i 0 0]):=fun u tx L=>by
  rw[Qzc (by rw[Qie];exact hp),HB,Yo _ _ hpi hpj,gp]
 have k1:∀u tx,(HB h i j u tx)[q]? = some (.cells 44 1 [.sl 4 (avs l) none]):=fun u tx=>by
  rw[HB,Yo _ _ hqi hqj,gq]
 have f1:=Qie h i j
 have f2:=fun u tx L=>Qgk h i j u tx L
 have f3:=fun u tx L=>Qko h i j u tx L
 have f4:=fun u tx z L=>QrW h i j u tx z L
 have f5:=fun u tx z L=>QtB h i j u tx z L
 have f6:=fun u tx L=>QfV (h:=h) hi hij u tx L
 refine Qc Tryz.func123 rfl Tryz.call123 Tryz.ntmps123 Tryz.results123 (by simp) ?_
 repeat refine Qa ?_;simp only[go_sem,seval,k1]
 obtain⟨I,hI⟩:∃I:Nat->AS->Prop,I=fun m' s=>∃(k:Nat) (cur:ByteArray),m'=l.length - k/\k<=l.length/\cur++Xw (decide (k=0)) (txts (l.drop k))=tx++Xw true (txts l)/\s.tm 0 = .ptr q 0 0/\s.tm 1 = .ptr p 0 0/\s.tm 4 = .sl 4 (avs l) none/\s.tm 5 = .i l.length/\s.tm 6 = .i k/\(∃L,s.h=HB h i j true cur++L):=⟨_,rfl⟩;refine Qv I ?_ (m:=l.length) ?_
 ·intro m' s hs;rw[hI]at hs;obtain⟨tm,hp⟩:=s;dsimp only at hs;obtain⟨k,cur,rfl,hk,he,t0,t1,t4,t5,t6,L,rfl⟩:=hs
  by_cases hlt:k<l.length
  ·have hg:=Qcd hlt
   have z1:(k:Int)<l.length:=by omega
   have hsz:cur.size+(Xw (decide (k=0)) (txts (l.drop k))).size=tx.size+(Xw true (txts l)).size:=by rw[<-Qg,he,Qg]
   have hd:txts (l.drop k)=(l[k]).txt::txts (l.drop (k+1)):=by rw[Qzq hlt];rfl
   have hcm:ZT.size=2:=rfl
   rw[hd,Xw,Qg]at hsz
   rw[hd,Xw]at he
   have gapp:=fun(u:Bool) (tx:ByteArray) (L:AH)=>QmW (h:=h) (i:=i) (j:=j) hi hj u tx L
   have glen:∀L:AH,i<(h++L).length/\j<(h++L).length:=fun L=>by rw[Qza];omega
   by_cases hk0:k=0
   ·rw[QzA hk0,Qzh rfl]at hsz he
    have z2:¬(k:Int)>0:=by omega
    have c:=ih l[k] (QzF hlt) (h++(L++[AB.cells 69 4 [l[k].av]])) (glen _).1 (glen _).2 (by rw[gapp];exact HasG.app hG _) cur (by omega)
    rw[Wri,gapp,gapp]at c
    repeat (first|refine FunW.Qxr c ?_|refine Qa ?_);simp only[go_sem,seval,t1,t4,t5,t6,z1,z2,hg,k0,f1,f3,f5]
    refine QZ.mk (m':=l.length - (k+1)) (by omega) ?_
    rw[hI]
    refine⟨k+1,cur++(l[k]).txt,rfl,hlt,?_,t0,t1,t4,t5,?_,_,rfl⟩
    ·rw[Qzt (Nat.succ_ne_zero k),ByteArray.append_assoc];exact he
    ·simp only[upd,↓reduceIte]
     rw[QY (by omega)]
   ·rw[Qzt hk0,Qzf (by decide),Qg]at hsz
    rw[Qzt hk0,Qzf (by decide)]at he
    have z2:(k:Int)>0:=by omega
    have c1:=wstr (h:=h++(L++[AB.cells 69 4 [l[k].av]])) (glen _).1 (glen _).2 hij true cur ZT (by omega)
    rw[gapp,gapp]at c1
    have c:=ih l[k] (QzF hlt) (h++(L++[AB.cells 69 4 [l[k].av]])) (glen _).1 (glen _).2 (by rw[gapp];exact HasG.app hG _) (cur++ZT) (by rw[Qg];omega)
    rw[Wri,gapp,gapp]at c
    repeat (first|refine FunW.Qxr c ?_|refine FunW.Qxr c1 ?_|refine Qa ?_);simp only[go_sem,seval,t1,t4,t5,t6,z1,z2,hg,k0,f1,f3,f5,f6]
    refine QZ.mk (m':=l.length - (k+1)) (by omega) ?_
    rw[hI]
    refine⟨k+1,(cur++ZT)++(l[k]).txt,rfl,hlt,?_,t0,t1,t4,t5,?_,_,rfl⟩
    ·rw[Qzt (Nat.succ_ne_zero k)];simp only[ByteArray.append_assoc]at he ⊢;exact he
    ·simp only[upd,↓reduceIte]
     rw[QY (by omega)]
  ·have hkn:k=l.length:=by omega
   subst hkn
   have z1:¬((l.length:Nat):Int)<l.length:=by omega
   rw[QzG,txts,Xw,ByteArray.append_empty]at he
   repeat refine Qa ?_;simp only[go_sem,seval,t5,t6,z1]
   exact X7 hi hj hij (.keep (.tup _ fun x hx=>by cases hx)) ⟨rfl,by rw[he]⟩
 ·rw[hI]
  exact⟨0,tx,rfl,by omega,rfl,rfl,rfl,rfl,rfl,rfl,[],(QyM _).symm⟩
theorem QhQ(l:List T):(txts l).length=l.length:=by rw[QuG,QzJ]
theorem Qbm{h:AH}{i j:Nat}(hi:i<h.length)(hj:j<h.length)(hij:i≠j)(l:List T)(hl:l.length<=1000000)(s:ByteArray)
  (ih:∀t∈l,∀(h:AH),i<h.length->j<h.length->Xl (HB h i j true (.empty))->∀tx:ByteArray,tx.size+t.txt.size<=140737488355328->Wri 86 [.ptr i 0 0,t.av] h i j true tx t.txt)
  (hG:Xl (HB h i j true (.empty))) (u:Bool) (tx:ByteArray) (hs:tx.size+(funT s (txts l)).size<=140737488355328) :
  Wri 84 [.ptr i 0 0,.v (.string s),.sl 4 (avs l) none] h i j u tx (funT s (txts l)):=by
 obtain⟨L,hL⟩:∃L:AH,L=[AB.cells 134 1 [.ptr i 0 0],AB.cells 44 1 [.sl 4 (avs l) none]]:=⟨_,rfl⟩
 have hlL:(h++L).length=h.length+2:=by rw[hL];simp
 have hi':i<(h++L).length:=by omega
 have hj':j<(h++L).length:=by omega
 have gapp:=fun(u:Bool) (tx:ByteArray) (L:AH)=>QmW (h:=h) (i:=i) (j:=j) hi hj u tx L
 have hsz:(funT s (txts l)).size=s.size+(encB (decide (0<(txts l).length)) (Xw true (txts l))).size:=by rw[funT,Qg]
 rw[QhQ]at hsz
 obtain⟨body,hbody⟩:∃b,b=Xw true (txts l):=⟨_,rfl⟩
 rw[<-hbody]at hsz
 have hbs:body.size<=(encB (decide (0<l.length)) body).size:=by
  rw[encB];split
  ·rw[Qg,Qg];omega
  ·exact Qzl _
 have c1:=wstr (h:=h++L) hi' hj' hij u tx s (by omega)
 rw[gapp,gapp,hL]at c1
 have gp:(h++L)[h.length]? = some (.cells 134 1 [.ptr i 0 0]):=by rw[hL];simp
 have gq:(h++L)[h.length+1]? = some (.cells 44 1 [.sl 4 (avs l) none]):=by rw[hL];simp
 have hn:decide ((l.length:Int)>0)=decide (0<l.length):=by rw[Bool.eq_iff_iff];simp
 have hx:((if decide (0<l.length)=true then tx++s++lpa else tx++s)).size+body.size<=140737488355328:=by
  by_cases h0:0<l.length
  ·rw[Qzh (QzA h0),Qg,Qg]
   rw[encB,Qzh (QzA h0),Qg,Qg]at hsz
   omega
  ·rw[Qzf (by simpa using h0),Qg]
   omega
 have hw:=QkU (h:=h++L) hi' hj' hij l (p:=h.length) (q:=h.length+1) (by omega) (by omega) (by omega) (by omega) (by omega) (by omega) gp gq hl ih (by rw[gapp];exact HasG.app hG _)
  (if decide (0<l.length)=true then tx++s++lpa else tx++s) (by rw[<-hbody];exact hx)
 rw[<-hbody]at hw
 have c2:=QcJ (h:=h++L) hi' hj' hij (decide (0<l.length)) true (tx++s) body (fv:=.fn (.func 123) [] [.ptr (h.length+1) 0 0,.ptr h.length 0 0]) (by rw[Qg];omega) (FunW.fn hw)
 rw[gapp,gapp,hL]at c2
 have f2:=fun u tx L=>Qgk h i j u tx L
 have f3:=fun u tx L=>Qko h i j u tx L
 have f6:=fun u tx L=>QfV (h:=h) hi hij u tx L
 have f1:=Qie h i j
 refine Qc Tryz.func84 rfl Tryz.call84 Tryz.ntmps84 Tryz.results84 (by simp) ?_
 repeat (first|refine FunW.Qxr c1 ?_|refine FunW.Qxr c2 ?_|refine Qa ?_);simp only[go_sem,seval,f1,f2,f3,f6,hn]
 exact X7 hi hj hij (.keep (.tup _ fun x hx=>by cases hx)) ⟨rfl,by rw[funT,QhQ,<-hbody,ByteArray.append_assoc]⟩
end Go.Proofs.YtenheconhibonaaGreatDoor.Ab
namespace Go.Proofs.YtenheconhibonaaGreatDoor.Ab
open Go.Proofs
abbrev YS{a:List AV}{h:AH}{Q:AOut->AH->Prop}:=@Qc Tryz.prog 86 _ _ a h Q Tryz.func86 rfl Tryz.call86 _ Tryz.ntmps86 _ Tryz.results86
def TIh(i j:Nat)(t:T):Prop:=∀(h:AH),i<h.length->j<h.length->Xl (HB h i j true (.empty))->∀(u:Bool) (tx:ByteArray),tx.size+t.txt.size<=140737488355328->Wri 86 [.ptr i 0 0,t.av] h i j u tx t.txt
theorem QpZ(b:Bool)(x tx:ByteArray):(if b=true then tx++lpa else tx).size+x.size<=tx.size+(encB b x).size:=by
 rw[encB];split
 ·rw[Qg,Qg,Qg];omega
 ·exact Qzl _
theorem QsW{h:AH}{i j:Nat}(hi:i<h.length)(hj:j<h.length)(hij:i≠j)(n:ByteArray)(x:Int)(a c:T)(hn:n.size<=1000000)(ho:ofB n≠0)(hla:a.args.length<=1000000)(hlc:c.args.length<=1000000)(iha:TIh i j a)(ihc:TIh i j c)
  (hG:Xl (HB h i j true (.empty))) (u:Bool) (tx:ByteArray) (hs:tx.size+(binT (ofB n) n a.oper c.oper a.txt c.txt).size<=140737488355328) :
  Wri 86 [.ptr i 0 0,(T.mk 2 x n [a,c]).av] h i j u tx (binT (ofB n) n a.oper c.oper a.txt c.txt):=by
 obtain⟨t,ht⟩:∃t,t=T.mk 2 x n [a,c]:=⟨_,rfl⟩
 have eo:t.oper=ofB n:=by rw[ht];rfl
 have eav:t.av = .agg [.i 2,.i x,.v (.string n),.sl 4 (avs [a,c]) none]:=by rw[ht];rfl
 obtain⟨L,hL⟩:∃L:AH,L=[AB.cells 134 1 [.ptr i 0 0],AB.cells 69 4 [t.av]]:=⟨_,rfl⟩
 have hlL:(h++L).length=h.length+2:=by rw[hL];simp
 have hi':i<(h++L).length:=by omega
 have hj':j<(h++L).length:=by omega
 have gapp:=fun(u:Bool) (tx:ByteArray) (L:AH)=>QmW (h:=h) (i:=i) (j:=j) hi hj u tx L
 have hG':Xl (HB (h++L) i j true (.empty)):=by rw[gapp];exact HasG.app hG _
 have gp:∀u tx,(HB (h++L) i j u tx)[h.length]? = some (.cells 134 1 [.ptr i 0 0]):=fun u tx=>by rw[gapp,Qgk,hL];rfl
 have gq:∀u tx,(HB (h++L) i j u tx)[h.length+1]? = some (.cells 69 4 [t.av]):=fun u tx=>by rw[gapp,Qko,hL];rfl
 have ct:=Qdn t (by rw[ht];simp[maxLen,T.args])
 rw[eo,eav]at ct
 have ca:=Qdn a (by simp only[maxLen];omega)
 have cc:=Qdn c (by simp only[maxLen];omega)
 obtain⟨o,eoo⟩:∃o,o=ofB n:=⟨_,rfl⟩
 obtain⟨oa,eoa⟩:∃o,o=a.oper:=⟨_,rfl⟩
 obtain⟨oc,eoc⟩:∃o,o=c.oper:=⟨_,rfl⟩
 rw[<-eoo]at ct
 rw[<-eoa]at ca
 rw[<-eoc]at cc
 rw[<-eoo,<-eoa,<-eoc]at hs ⊢
 rw[<-eoo]at ho
 have hm:=hs
 simp only[binT,Qg]at hm
 have hsp:({data:=#[32]}:ByteArray).size=1:=rfl
 -- the first operand
 have hw1:=fun(u:Bool) (q:Bool) (tx':ByteArray) (hq:tx'.size+a.txt.size<=140737488355328)=>Qru (p:=h.length) (q:=h.length+1) (t:=t) (a:=a) (gp u tx') (gq u tx') (by rw[ht];rfl) (iha (h++L) hi' hj' hG' u tx' hq)
 have hw2:=fun(u:Bool) (q:Bool) (tx':ByteArray) (hq:tx'.size+c.txt.size<=140737488355328)=>Qrv (p:=h.length) (q:=h.length+1) (t:=t) (a:=c) (gp u tx') (gq u tx') (by rw[ht];rfl) (ihc (h++L) hi' hj' hG' u tx' hq)
 have e1:=QpZ ((oa==1)&&(o==2)) a.txt tx
 have c1:=QcJ (h:=h++L) hi' hj' hij ((oa==1)&&(o==2)) u tx a.txt (fv:=.fn (.func 125) [] [.ptr h.length 0 0,.ptr (h.length+1) 0 0]) (by omega) (FunW.fn (hw1 _ true _ (by omega)))
 obtain⟨tx1,etx1⟩:∃z,z=tx++encB ((oa==1)&&(o==2)) a.txt:=⟨_,rfl⟩
 rw[<-etx1]at c1
 have hsz1:tx1.size=tx.size+(encB ((oa==1)&&(o==2)) a.txt).size:=by rw[etx1,Qg]
 have c2:=wstr (h:=h++L) hi' hj' hij true tx1 (({data:=#[32]}:ByteArray)++n++{data:=#[32]}) (by simp only[Qg];omega)
 obtain⟨tx2,etx2⟩:∃z,z=tx1++(({data:=#[32]}:ByteArray)++n++{data:=#[32]}):=⟨_,rfl⟩
 rw[<-etx2]at c2
 have hsz2:tx2.size=tx1.size+(1+n.size+1):=by rw[etx2];simp only[Qg,hsp]
 have e3:=QpZ ((oc != 0)&&((oc==1)||(o==2))) c.txt tx2
 have c3:=QcJ (h:=h++L) hi' hj' hij ((oc != 0)&&((oc==1)||(o==2))) true tx2 c.txt (fv:=.fn (.func 126) [] [.ptr h.length 0 0,.ptr (h.length+1) 0 0]) (by omega) (FunW.fn (hw2 _ true _ (by omega)))
 have efin:tx2++encB ((oc != 0)&&((oc==1)||(o==2))) c.txt=tx++binT o n oa oc a.txt c.txt:=by
  rw[etx2,etx1,binT];simp only[ByteArray.append_assoc]
 rw[efin]at c3
 rw[gapp,gapp,hL,eav]at c1 c2 c3
 have f1:=Qie h i j
 have f2:=fun u tx L=>Qgk h i j u tx L
 have f3:=fun u tx L=>Qko h i j u tx L
 have f6:=fun u tx L=>QfV (h:=h) hi hij u tx L
 have hsa1:=fun xo yo=>QbN Tryz.prog 9 xo yo ({data:=#[32]}:ByteArray) n (by omega)
 have hsa2:=fun xo yo=>QbN Tryz.prog 9 xo yo (({data:=#[32]}:ByteArray)++n) {data:=#[32]} (by rw[Qg];omega)
 have ga:(avs [a,c])[0]? = some a.av:=rfl
 have gc:(avs [a,c])[1]? = some c.av:=rfl
 have hav:(T.mk 2 x n [a,c]).av = .agg [.i 2,.i x,.v (.string n),.sl 4 (avs [a,c]) none]:=rfl
 have ho':(o != 0)=true:=by simpa using ho
 rw[hav]
 have hll:(avs [a,c]).length=2:=rfl
 have z0:((0:Int)<=1)=True:=by simp
 have z1:((0:Int)<((2:Nat):Int))=True:=by simp
 have z2:((1:Int)<((2:Nat):Int))=True:=by simp
 obtain⟨q1,eq1⟩:∃z,z=((oa==1)&&(o==2)):=⟨_,rfl⟩
 obtain⟨q3,eq3⟩:∃z,z=((oc != 0)&&((oc==1)||(o==2))):=⟨_,rfl⟩
 rw[<-eq1]at c1
 rw[<-eq3]at c3
 cases b1:(oa==1)
 ·cases b2:(o==2)
  ·cases b3:(oc != 0)
   ·have hq1:q1=false:=by rw[eq1,b1,b2];rfl
    have hq3:q3=false:=by rw[eq3,b2,b3];rfl
    rw[hq1]at c1
    rw[hq3]at c3
    refine YS (by simp) ?_
    repeat first|(first|with_reducible (first|refine Qd fun K E hK hE=>?_|refine Qs fun K E hK hE=>?_|refine Qe ct ?_|refine Qq ca ?_|refine Qq cc ?_|refine FunW.Qxr c1 ?_|refine FunW.Qxr c3 ?_|refine QL (FunW.call c2) Qa7 ?_)|refine Qj (id:=4) [(0,0),(1,0),(2,0),(3,0),(4,1),(5,0),(6,0),(7,0),(8,0),(9,1),(10,0),(11,0)] mixed (by kernel_rfl) fun K hK=>?_|refine Qj (id:=6) [(0,0),(1,0),(2,0),(3,0),(4,0),(5,0),(6,0),(7,2)] mixed (by kernel_rfl) fun K hK=>?_);simp only[X6,XK,YF,Qr,Qi,Qn,OpW,Yx,aop,undef,AS.ev,Ql,Xc,Q5,Ye,Qz,Xm,Qyq,QyJ,AV.Qxu,QD,Xe,QK,QyD,QyE,QU,QX,Xb,Xd,QyF,↓reduceIte,Qyw,Qyx,Nat.reduceAdd,Nat.reduceLT,Nat.reduceLeDiff,Nat.reduceEqDiff,Qyv,QyI,QyR,Qm,Xt,Xv,QM,aBin,hlen,happ,Qyj,Qyk,Qyl,Qyo,Qym,Qyy,QyC,QyL,QyK,Qa5,Qap,Int.toNat_zero,Int.toNat_one,Qyn,beq_true,T.Qxs,T.Qxt,ti9,ti44,ei44,ti69,Qbe,QaZ,Qfn,Qaz,Qy6,QR,f1,f2,f3,f6,ho',hll,ga,gc,z0,z1,z2,b1,b3,hsa1,hsa2,T.Qxt,T.Qxs]|with_reducible (first|refine QA ?_|refine QI ?_|refine hK _ ?_;clear hK|refine Qw rfl ?_;simp only[↓reduceIte])
    simp only[Qyl,Qyp,List.mapM_nil,Option.pure_def,Qyl,Zr,Xf,Qyt]
    exact X7 hi hj hij (.keep (.tup _ fun x hx=>by cases hx)) ⟨rfl,rfl⟩
   ·cases b4:(oc==1)
    ·have hq1:q1=false:=by rw[eq1,b1,b2];rfl
     have hq3:q3=false:=by rw[eq3,b2,b3,b4];rfl
     rw[hq1]at c1
     rw[hq3]at c3
     refine YS (by simp) ?_
     repeat first|(first|with_reducible (first|refine Qd fun K E hK hE=>?_|refine Qs fun K E hK hE=>?_|refine Qe ct ?_|refine Qq ca ?_|refine Qq cc ?_|refine FunW.Qxr c1 ?_|refine FunW.Qxr c3 ?_|refine QL (FunW.call c2) Qa7 ?_)|refine Qj (id:=4) [(0,0),(1,0),(2,0),(3,0),(4,1),(5,0),(6,0),(7,0),(8,0),(9,1),(10,0),(11,0)] mixed (by kernel_rfl) fun K hK=>?_|refine Qj (id:=6) [(0,0),(1,0),(2,0),(3,0),(4,0),(5,0),(6,0),(7,2)] mixed (by kernel_rfl) fun K hK=>?_);simp only[X6,XK,YF,Qr,Qi,Qn,OpW,Yx,aop,undef,AS.ev,Ql,Xc,Q5,Ye,Qz,Xm,Qyq,QyJ,AV.Qxu,QD,Xe,QK,QyD,QyE,QU,QX,Xb,Xd,QyF,↓reduceIte,Qyw,Qyx,Nat.reduceAdd,Nat.reduceLT,Nat.reduceLeDiff,Nat.reduceEqDiff,Qyv,QyI,QyR,Qm,Xt,Xv,QM,aBin,hlen,happ,Qyj,Qyk,Qyl,Qyo,Qym,Qyy,QyC,QyL,QyK,Qa5,Qap,Qyr,Int.toNat_zero,Int.toNat_one,Qyn,beq_true,T.Qxs,T.Qxt,ti9,ti44,ei44,ti69,Qbe,QaZ,Qfn,Qaz,Qy6,QR,f1,f2,f3,f6,ho',hll,ga,gc,z0,z1,z2,b1,b2,b3,b4,hsa1,hsa2,T.Qxt,T.Qxs]|with_reducible (first|refine QA ?_|refine QI ?_|refine hK _ ?_;clear hK|refine Qw rfl ?_;simp only[↓reduceIte])
     simp only[Qyl,Qyp,List.mapM_nil,Option.pure_def,Qyl,Zr,Xf,Qyt]
     exact X7 hi hj hij (.keep (.tup _ fun x hx=>by cases hx)) ⟨rfl,rfl⟩
    ·have hq1:q1=false:=by rw[eq1,b1,b2];rfl
     have hq3:q3=true:=by rw[eq3,b2,b3,b4];rfl
     rw[hq1]at c1
     rw[hq3]at c3
     refine YS (by simp) ?_
     repeat first|(first|with_reducible (first|refine Qd fun K E hK hE=>?_|refine Qs fun K E hK hE=>?_|refine Qe ct ?_|refine Qq ca ?_|refine Qq cc ?_|refine FunW.Qxr c1 ?_|refine FunW.Qxr c3 ?_|refine QL (FunW.call c2) Qa7 ?_)|refine Qj (id:=4) [(0,0),(1,0),(2,0),(3,0),(4,1),(5,0),(6,0),(7,0),(8,0),(9,1),(10,0),(11,0)] mixed (by kernel_rfl) fun K hK=>?_|refine Qj (id:=6) [(0,0),(1,0),(2,0),(3,0),(4,0),(5,0),(6,0),(7,2)] mixed (by kernel_rfl) fun K hK=>?_);simp only[X6,XK,YF,Qr,Qi,Qn,OpW,Yx,aop,undef,AS.ev,Ql,Xc,Q5,Ye,Qz,Xm,Qyq,QyJ,AV.Qxu,QD,Xe,QK,QyD,QyE,QU,QX,Xb,Xd,QyF,QyG,↓reduceIte,Qyw,Qyx,Nat.reduceAdd,Nat.reduceLT,Nat.reduceLeDiff,Nat.reduceEqDiff,Qyv,QyI,QyR,Qm,Xt,Xv,QM,aBin,hlen,happ,Qyj,Qyk,Qyl,Qyo,Qym,Qyy,QyC,QyL,QyK,Qa5,Qap,Qyr,Int.toNat_zero,Int.toNat_one,Qyn,beq_true,beq_false,T.Qxs,T.Qxt,ti9,ti44,ei44,ti69,Qbe,QaZ,Qfn,Qaz,Qy6,QR,f1,f2,f3,f6,ho',hll,ga,gc,z0,z1,z2,b1,b3,b4,hsa1,hsa2,T.Qxt,T.Qxs]|with_reducible (first|refine QA ?_|refine QI ?_|refine hK _ ?_;clear hK|refine Qw rfl ?_;simp only[↓reduceIte])
     simp only[Qyl,Qyp,List.mapM_nil,Option.pure_def,Qyl,Zr,Xf,Qyt]
     exact X7 hi hj hij (.keep (.tup _ fun x hx=>by cases hx)) ⟨rfl,rfl⟩
  ·cases b3:(oc != 0)
   ·have hq1:q1=false:=by rw[eq1,b1,b2];rfl
    have hq3:q3=false:=by rw[eq3,b2,b3];rfl
    rw[hq1]at c1
    rw[hq3]at c3
    refine YS (by simp) ?_
    repeat first|(first|with_reducible (first|refine Qd fun K E hK hE=>?_|refine Qs fun K E hK hE=>?_|refine Qe ct ?_|refine Qq ca ?_|refine Qq cc ?_|refine FunW.Qxr c1 ?_|refine FunW.Qxr c3 ?_|refine QL (FunW.call c2) Qa7 ?_)|refine Qj (id:=4) [(0,0),(1,0),(2,0),(3,0),(4,1),(5,0),(6,0),(7,0),(8,0),(9,1),(10,0),(11,0)] mixed (by kernel_rfl) fun K hK=>?_|refine Qj (id:=6) [(0,0),(1,0),(2,0),(3,0),(4,0),(5,0),(6,0),(7,2)] mixed (by kernel_rfl) fun K hK=>?_);simp only[X6,XK,YF,Qr,Qi,Qn,OpW,Yx,aop,undef,AS.ev,Ql,Xc,Q5,Ye,Qz,Xm,Qyq,QyJ,AV.Qxu,QD,Xe,QK,QyD,QyE,QU,QX,Xb,Xd,QyF,↓reduceIte,Qyw,Qyx,Nat.reduceAdd,Nat.reduceLT,Nat.reduceLeDiff,Nat.reduceEqDiff,Qyv,QyI,QyR,Qm,Xt,Xv,QM,aBin,hlen,happ,Qyj,Qyk,Qyl,Qyo,Qym,Qyy,QyC,QyL,QyK,Qa5,Qap,Int.toNat_zero,Int.toNat_one,Qyn,beq_true,T.Qxs,T.Qxt,ti9,ti44,ei44,ti69,Qbe,QaZ,Qfn,Qaz,Qy6,QR,f1,f2,f3,f6,ho',hll,ga,gc,z0,z1,z2,b1,b3,hsa1,hsa2,T.Qxt,T.Qxs]|with_reducible (first|refine QA ?_|refine QI ?_|refine hK _ ?_;clear hK|refine Qw rfl ?_;simp only[↓reduceIte])
    simp only[Qyl,Qyp,List.mapM_nil,Option.pure_def,Qyl,Zr,Xf,Qyt]
    exact X7 hi hj hij (.keep (.tup _ fun x hx=>by cases hx)) ⟨rfl,rfl⟩
   ·cases b4:(oc==1)
    ·have hq1:q1=false:=by rw[eq1,b1,b2];rfl
     have hq3:q3=true:=by rw[eq3,b2,b3,b4];rfl
     rw[hq1]at c1
     rw[hq3]at c3
     refine YS (by simp) ?_
     repeat first|(first|with_reducible (first|refine Qd fun K E hK hE=>?_|refine Qs fun K E hK hE=>?_|refine Qe ct ?_|refine Qq ca ?_|refine Qq cc ?_|refine FunW.Qxr c1 ?_|refine FunW.Qxr c3 ?_|refine QL (FunW.call c2) Qa7 ?_)|refine Qj (id:=4) [(0,0),(1,0),(2,0),(3,0),(4,1),(5,0),(6,0),(7,0),(8,0),(9,1),(10,0),(11,0)] mixed (by kernel_rfl) fun K hK=>?_|refine Qj (id:=6) [(0,0),(1,0),(2,0),(3,0),(4,0),(5,0),(6,0),(7,2)] mixed (by kernel_rfl) fun K hK=>?_);simp only[X6,XK,YF,Qr,Qi,Qn,OpW,Yx,aop,undef,AS.ev,Ql,Xc,Q5,Ye,Qz,Xm,Qyq,QyJ,AV.Qxu,QD,Xe,QK,QyD,QyE,QU,QX,Xb,Xd,QyF,↓reduceIte,Qyw,Qyx,Nat.reduceAdd,Nat.reduceLT,Nat.reduceLeDiff,Nat.reduceEqDiff,Qyv,QyI,QyR,Qm,Xt,Xv,QM,aBin,hlen,happ,Qyj,Qyk,Qyl,Qyo,Qym,Qyy,QyC,QyL,QyK,Qa5,Qap,Qyr,Int.toNat_zero,Int.toNat_one,Qyn,beq_true,T.Qxs,T.Qxt,ti9,ti44,ei44,ti69,Qbe,QaZ,Qfn,Qaz,Qy6,QR,f1,f2,f3,f6,ho',hll,ga,gc,z0,z1,z2,b1,b2,b3,b4,hsa1,hsa2,T.Qxt,T.Qxs]|with_reducible (first|refine QA ?_|refine QI ?_|refine hK _ ?_;clear hK|refine Qw rfl ?_;simp only[↓reduceIte])
     simp only[Qyl,Qyp,List.mapM_nil,Option.pure_def,Qyl,Zr,Xf,Qyt]
     exact X7 hi hj hij (.keep (.tup _ fun x hx=>by cases hx)) ⟨rfl,rfl⟩
    ·have hq1:q1=false:=by rw[eq1,b1,b2];rfl
     have hq3:q3=true:=by rw[eq3,b2,b3,b4];rfl
     rw[hq1]at c1
     rw[hq3]at c3
     refine YS (by simp) ?_
     repeat first|(first|with_reducible (first|refine Qd fun K E hK hE=>?_|refine Qs fun K E hK hE=>?_|refine Qe ct ?_|refine Qq ca ?_|refine Qq cc ?_|refine FunW.Qxr c1 ?_|refine FunW.Qxr c3 ?_|refine QL (FunW.call c2) Qa7 ?_)|refine Qj (id:=4) [(0,0),(1,0),(2,0),(3,0),(4,1),(5,0),(6,0),(7,0),(8,0),(9,1),(10,0),(11,0)] mixed (by kernel_rfl) fun K hK=>?_|refine Qj (id:=6) [(0,0),(1,0),(2,0),(3,0),(4,0),(5,0),(6,0),(7,2)] mixed (by kernel_rfl) fun K hK=>?_);simp only[X6,XK,YF,Qr,Qi,Qn,OpW,Yx,aop,undef,AS.ev,Ql,Xc,Q5,Ye,Qz,Xm,Qyq,QyJ,AV.Qxu,QD,Xe,QK,QyD,QyE,QU,QX,Xb,Xd,QyF,QyG,↓reduceIte,Qyw,Qyx,Nat.reduceAdd,Nat.reduceLT,Nat.reduceLeDiff,Nat.reduceEqDiff,Qyv,QyI,QyR,Qm,Xt,Xv,QM,aBin,hlen,happ,Qyj,Qyk,Qyl,Qyo,Qym,Qyy,QyC,QyL,QyK,Qa5,Qap,Qyr,Int.toNat_zero,Int.toNat_one,Qyn,beq_true,beq_false,T.Qxs,T.Qxt,ti9,ti44,ei44,ti69,Qbe,QaZ,Qfn,Qaz,Qy6,QR,f1,f2,f3,f6,ho',hll,ga,gc,z0,z1,z2,b1,b3,b4,hsa1,hsa2,T.Qxt,T.Qxs]|with_reducible (first|refine QA ?_|refine QI ?_|refine hK _ ?_;clear hK|refine Qw rfl ?_;simp only[↓reduceIte])
     simp only[Qyl,Qyp,List.mapM_nil,Option.pure_def,Qyl,Zr,Xf,Qyt]
     exact X7 hi hj hij (.keep (.tup _ fun x hx=>by cases hx)) ⟨rfl,rfl⟩
 ·cases b2:(o==2)
  ·cases b3:(oc != 0)
   ·have hq1:q1=false:=by rw[eq1,b1,b2];rfl
    have hq3:q3=false:=by rw[eq3,b2,b3];rfl
    rw[hq1]at c1
    rw[hq3]at c3
    refine YS (by simp) ?_
    repeat first|(first|with_reducible (first|refine Qd fun K E hK hE=>?_|refine Qs fun K E hK hE=>?_|refine Qe ct ?_|refine Qq ca ?_|refine Qq cc ?_|refine FunW.Qxr c1 ?_|refine FunW.Qxr c3 ?_|refine QL (FunW.call c2) Qa7 ?_)|refine Qj (id:=4) [(0,0),(1,0),(2,0),(3,0),(4,1),(5,0),(6,0),(7,0),(8,0),(9,1),(10,0),(11,0)] mixed (by kernel_rfl) fun K hK=>?_|refine Qj (id:=6) [(0,0),(1,0),(2,0),(3,0),(4,0),(5,0),(6,0),(7,2)] mixed (by kernel_rfl) fun K hK=>?_);simp only[X6,XK,YF,Qr,Qi,Qn,OpW,Yx,aop,undef,AS.ev,Ql,Xc,Q5,Ye,Qz,Xm,Qyq,QyJ,AV.Qxu,QD,Xe,QK,QyD,QyE,QU,QX,Xb,Xd,QyF,↓reduceIte,Qyw,Qyx,Nat.reduceAdd,Nat.reduceLT,Nat.reduceLeDiff,Nat.reduceEqDiff,Qyv,QyI,QyR,Qm,Xt,Xv,QM,aBin,hlen,happ,Qyj,Qyk,Qyl,Qyo,Qym,Qyy,QyC,QyL,QyK,Qa5,Qap,Qyr,Int.toNat_zero,Int.toNat_one,Qyn,beq_true,T.Qxs,T.Qxt,ti9,ti44,ei44,ti69,Qbe,QaZ,Qfn,Qaz,Qy6,QR,f1,f2,f3,f6,ho',hll,ga,gc,z0,z1,z2,b1,b2,b3,hsa1,hsa2,T.Qxt,T.Qxs]|with_reducible (first|refine QA ?_|refine QI ?_|refine hK _ ?_;clear hK|refine Qw rfl ?_;simp only[↓reduceIte])
    simp only[Qyl,Qyp,List.mapM_nil,Option.pure_def,Qyl,Zr,Xf,Qyt]
    exact X7 hi hj hij (.keep (.tup _ fun x hx=>by cases hx)) ⟨rfl,rfl⟩
   ·cases b4:(oc==1)
    ·have hq1:q1=false:=by rw[eq1,b1,b2];rfl
     have hq3:q3=false:=by rw[eq3,b2,b3,b4];rfl
     rw[hq1]at c1
     rw[hq3]at c3
     refine YS (by simp) ?_
     repeat first|(first|with_reducible (first|refine Qd fun K E hK hE=>?_|refine Qs fun K E hK hE=>?_|refine Qe ct ?_|refine Qq ca ?_|refine Qq cc ?_|refine FunW.Qxr c1 ?_|refine FunW.Qxr c3 ?_|refine QL (FunW.call c2) Qa7 ?_)|refine Qj (id:=4) [(0,0),(1,0),(2,0),(3,0),(4,1),(5,0),(6,0),(7,0),(8,0),(9,1),(10,0),(11,0)] mixed (by kernel_rfl) fun K hK=>?_|refine Qj (id:=6) [(0,0),(1,0),(2,0),(3,0),(4,0),(5,0),(6,0),(7,2)] mixed (by kernel_rfl) fun K hK=>?_);simp only[X6,XK,YF,Qr,Qi,Qn,OpW,Yx,aop,undef,AS.ev,Ql,Xc,Ye,Qz,Xm,Qyq,QyJ,AV.Qxu,QD,Xe,QK,QyD,QyE,QU,QX,Xb,Xd,QyF,↓reduceIte,Qyw,Qyx,Nat.reduceAdd,Nat.reduceLT,Nat.reduceLeDiff,Nat.reduceEqDiff,Qyv,QyI,QyR,Qm,Xt,Xv,QM,aBin,hlen,happ,Qyj,Qyk,Qyl,Qyo,Qym,Qyy,QyC,QyL,QyK,Qa5,Qap,Qyr,Int.toNat_zero,Int.toNat_one,Qyn,T.Qxs,T.Qxt,ti9,ti44,ei44,ti69,Qbe,QaZ,Qfn,Qaz,Qy6,QR,f1,f2,f3,f6,ho',hll,ga,gc,z0,z1,z2,b1,b2,b3,b4,hsa1,hsa2,T.Qxt,T.Qxs]|with_reducible (first|refine QA ?_|refine QI ?_|refine hK _ ?_;clear hK|refine Qw rfl ?_;simp only[↓reduceIte])
     simp only[Qyl,Qyp,List.mapM_nil,Option.pure_def,Qyl,Zr,Xf,Qyt]
     exact X7 hi hj hij (.keep (.tup _ fun x hx=>by cases hx)) ⟨rfl,rfl⟩
    ·have hq1:q1=false:=by rw[eq1,b1,b2];rfl
     have hq3:q3=true:=by rw[eq3,b2,b3,b4];rfl
     rw[hq1]at c1
     rw[hq3]at c3
     refine YS (by simp) ?_
     repeat first|(first|with_reducible (first|refine Qd fun K E hK hE=>?_|refine Qs fun K E hK hE=>?_|refine Qe ct ?_|refine Qq ca ?_|refine Qq cc ?_|refine FunW.Qxr c1 ?_|refine FunW.Qxr c3 ?_|refine QL (FunW.call c2) Qa7 ?_)|refine Qj (id:=4) [(0,0),(1,0),(2,0),(3,0),(4,1),(5,0),(6,0),(7,0),(8,0),(9,1),(10,0),(11,0)] mixed (by kernel_rfl) fun K hK=>?_|refine Qj (id:=6) [(0,0),(1,0),(2,0),(3,0),(4,0),(5,0),(6,0),(7,2)] mixed (by kernel_rfl) fun K hK=>?_);simp only[X6,XK,YF,Qr,Qi,Qn,OpW,Yx,aop,undef,AS.ev,Ql,Xc,Q5,Ye,Qz,Xm,Qyq,QyJ,AV.Qxu,QD,Xe,QK,QyD,QyE,QU,QX,Xb,Xd,QyF,QyG,↓reduceIte,Qyw,Qyx,Nat.reduceAdd,Nat.reduceLT,Nat.reduceLeDiff,Nat.reduceEqDiff,Qyv,QyI,QyR,Qm,Xt,Xv,QM,aBin,hlen,happ,Qyj,Qyk,Qyl,Qyo,Qym,Qyy,QyC,QyL,QyK,Qa5,Qap,Qyr,Int.toNat_zero,Int.toNat_one,beq_false,T.Qxs,T.Qxt,ti9,ti44,ei44,ti69,Qbe,QaZ,Qfn,Qaz,Qy6,QR,f1,f2,f3,f6,ho',hll,ga,gc,z0,z1,z2,b1,b2,b3,b4,hsa1,hsa2,T.Qxt,T.Qxs]|with_reducible (first|refine QA ?_|refine QI ?_|refine hK _ ?_;clear hK|refine Qw rfl ?_;simp only[↓reduceIte])
     simp only[Qyl,Qyp,List.mapM_nil,Option.pure_def,Qyl,Zr,Xf,Qyt]
     exact X7 hi hj hij (.keep (.tup _ fun x hx=>by cases hx)) ⟨rfl,rfl⟩
  ·cases b3:(oc != 0)
   ·have hq1:q1=true:=by rw[eq1,b1,b2];rfl
    have hq3:q3=false:=by rw[eq3,b2,b3];rfl
    rw[hq1]at c1
    rw[hq3]at c3
    refine YS (by simp) ?_
    repeat first|(first|with_reducible (first|refine Qd fun K E hK hE=>?_|refine Qs fun K E hK hE=>?_|refine Qe ct ?_|refine Qq ca ?_|refine Qq cc ?_|refine FunW.Qxr c1 ?_|refine FunW.Qxr c3 ?_|refine QL (FunW.call c2) Qa7 ?_)|refine Qj (id:=4) [(0,0),(1,0),(2,0),(3,0),(4,1),(5,0),(6,0),(7,0),(8,0),(9,1),(10,0),(11,0)] mixed (by kernel_rfl) fun K hK=>?_|refine Qj (id:=6) [(0,0),(1,0),(2,0),(3,0),(4,0),(5,0),(6,0),(7,2)] mixed (by kernel_rfl) fun K hK=>?_);simp only[X6,XK,YF,Qr,Qi,Qn,OpW,Yx,aop,undef,AS.ev,Ql,Xc,Q5,Ye,Qz,Xm,Qyq,QyJ,AV.Qxu,QD,Xe,QK,QyD,QyE,QU,QX,Xb,Xd,QyF,↓reduceIte,Qyw,Qyx,Nat.reduceAdd,Nat.reduceLT,Nat.reduceLeDiff,Nat.reduceEqDiff,Qyv,QyI,QyR,Qm,Xt,Xv,QM,aBin,hlen,happ,Qyj,Qyk,Qyl,Qyo,Qym,Qyy,QyC,QyL,QyK,Qa5,Qap,Qyr,Int.toNat_zero,Int.toNat_one,Qyn,beq_true,T.Qxs,T.Qxt,ti9,ti44,ei44,ti69,Qbe,QaZ,Qfn,Qaz,Qy6,QR,f1,f2,f3,f6,ho',hll,ga,gc,z0,z1,z2,b1,b2,b3,hsa1,hsa2,T.Qxt,T.Qxs]|with_reducible (first|refine QA ?_|refine QI ?_|refine hK _ ?_;clear hK|refine Qw rfl ?_;simp only[↓reduceIte])
    simp only[Qyl,Qyp,List.mapM_nil,Option.pure_def,Qyl,Zr,Xf,Qyt]
    exact X7 hi hj hij (.keep (.tup _ fun x hx=>by cases hx)) ⟨rfl,rfl⟩
   ·cases b4:(oc==1)
    ·have hq1:q1=true:=by rw[eq1,b1,b2];rfl
     have hq3:q3=true:=by rw[eq3,b2,b3,b4];rfl
     rw[hq1]at c1
     rw[hq3]at c3
     refine YS (by simp) ?_
     repeat first|(first|with_reducible (first|refine Qd fun K E hK hE=>?_|refine Qs fun K E hK hE=>?_|refine Qe ct ?_|refine Qq ca ?_|refine Qq cc ?_|refine FunW.Qxr c1 ?_|refine FunW.Qxr c3 ?_|refine QL (FunW.call c2) Qa7 ?_)|refine Qj (id:=4) [(0,0),(1,0),(2,0),(3,0),(4,1),(5,0),(6,0),(7,0),(8,0),(9,1),(10,0),(11,0)] mixed (by kernel_rfl) fun K hK=>?_|refine Qj (id:=6) [(0,0),(1,0),(2,0),(3,0),(4,0),(5,0),(6,0),(7,2)] mixed (by kernel_rfl) fun K hK=>?_);simp only[X6,XK,YF,Qr,Qi,Qn,OpW,Yx,aop,undef,AS.ev,Ql,Xc,Ye,Qz,Xm,Qyq,QyJ,AV.Qxu,QD,Xe,QK,QyD,QyE,QU,QX,Xb,Xd,QyF,↓reduceIte,Qyw,Qyx,Nat.reduceAdd,Nat.reduceLT,Nat.reduceLeDiff,Nat.reduceEqDiff,Qyv,QyI,QyR,Qm,Xt,Xv,QM,aBin,hlen,happ,Qyj,Qyk,Qyl,Qyo,Qym,Qyy,QyC,QyL,QyK,Qa5,Qap,Qyr,Int.toNat_zero,Int.toNat_one,Qyn,T.Qxs,T.Qxt,ti9,ti44,ei44,ti69,Qbe,QaZ,Qfn,Qaz,Qy6,QR,f1,f2,f3,f6,ho',hll,ga,gc,z0,z1,z2,b1,b2,b3,b4,hsa1,hsa2,T.Qxt,T.Qxs]|with_reducible (first|refine QA ?_|refine QI ?_|refine hK _ ?_;clear hK|refine Qw rfl ?_;simp only[↓reduceIte])
     simp only[Qyl,Qyp,List.mapM_nil,Option.pure_def,Qyl,Zr,Xf,Qyt]
     exact X7 hi hj hij (.keep (.tup _ fun x hx=>by cases hx)) ⟨rfl,rfl⟩
    ·have hq1:q1=true:=by rw[eq1,b1,b2];rfl
     have hq3:q3=true:=by rw[eq3,b2,b3,b4];rfl
     rw[hq1]at c1
     rw[hq3]at c3
     refine YS (by simp) ?_
     repeat first|(first|with_reducible (first|refine Qd fun K E hK hE=>?_|refine Qs fun K E hK hE=>?_|refine Qe ct ?_|refine Qq ca ?_|refine Qq cc ?_|refine FunW.Qxr c1 ?_|refine FunW.Qxr c3 ?_|refine QL (FunW.call c2) Qa7 ?_)|refine Qj (id:=4) [(0,0),(1,0),(2,0),(3,0),(4,1),(5,0),(6,0),(7,0),(8,0),(9,1),(10,0),(11,0)] mixed (by kernel_rfl) fun K hK=>?_|refine Qj (id:=6) [(0,0),(1,0),(2,0),(3,0),(4,0),(5,0),(6,0),(7,2)] mixed (by kernel_rfl) fun K hK=>?_);simp only[X6,XK,YF,Qr,Qi,Qn,OpW,Yx,aop,undef,AS.ev,Ql,Xc,Q5,Ye,Qz,Xm,Qyq,QyJ,AV.Qxu,QD,Xe,QK,QyD,QyE,QU,QX,Xb,Xd,QyF,QyG,↓reduceIte,Qyw,Qyx,Nat.reduceAdd,Nat.reduceLT,Nat.reduceLeDiff,Nat.reduceEqDiff,Qyv,QyI,QyR,Qm,Xt,Xv,QM,aBin,hlen,happ,Qyj,Qyk,Qyl,Qyo,Qym,Qyy,QyC,QyL,QyK,Qa5,Qap,Qyr,Int.toNat_zero,Int.toNat_one,beq_false,T.Qxs,T.Qxt,ti9,ti44,ei44,ti69,Qbe,QaZ,Qfn,Qaz,Qy6,QR,f1,f2,f3,f6,ho',hll,ga,gc,z0,z1,z2,b1,b2,b3,b4,hsa1,hsa2,T.Qxt,T.Qxs]|with_reducible (first|refine QA ?_|refine QI ?_|refine hK _ ?_;clear hK|refine Qw rfl ?_;simp only[↓reduceIte])
     simp only[Qyl,Qyp,List.mapM_nil,Option.pure_def,Qyl,Zr,Xf,Qyt]
     exact X7 hi hj hij (.keep (.tup _ fun x hx=>by cases hx)) ⟨rfl,rfl⟩
theorem Qg9(h:AH)(_:3=3):Keep h h:=Keep.refl h
theorem Qrx{h:AH}{i j:Nat}(hi:i<h.length)(hj:j<h.length)(hij:i≠j)(t:T)(ho:t.oper=0)(hl:t.args.length<=1000000)
  (l0:t.kind=0 -> -9223372036854775807<=t.int/\t.int<=9223372036854775807) (l1:t.kind=1->0<=t.int/\t.int<=1048576)
  (ih:∀a∈t.args,TIh i j a) (hG:Xl (HB h i j true (.empty))) (u:Bool) (tx:ByteArray)
  (s:ByteArray) (es:s=if t.kind=0 then decZ t.int else if t.kind=1 then vOf (decN t.int.toNat)else funT t.name (txts t.args)) (hs:tx.size+s.size<=140737488355328) :
  Wri 86 [.ptr i 0 0,t.av] h i j u tx s:=by
 have eav:t.av = .agg [.i t.kind,.i t.int,.v (.string t.name),.sl 4 (avs t.args) none]:=by cases t;rfl
 obtain⟨L,hL⟩:∃L:AH,L=[AB.cells 134 1 [.ptr i 0 0],AB.cells 69 4 [t.av]]:=⟨_,rfl⟩
 have hlL:(h++L).length=h.length+2:=by rw[hL];simp
 have hi':i<(h++L).length:=by omega
 have hj':j<(h++L).length:=by omega
 have gapp:=fun(u:Bool) (tx:ByteArray) (L:AH)=>QmW (h:=h) (i:=i) (j:=j) hi hj u tx L
 have hG':Xl (HB (h++L) i j true (.empty)):=by rw[gapp];exact HasG.app hG _
 have hG2:Xl (HB (h++L) i j u tx):=QuT hij hG'
 have ct:=Qdn t (by simp only[maxLen];omega)
 rw[ho,eav]at ct
 have f1:=Qie h i j
 have f2:=fun u tx L=>Qgk h i j u tx L
 have f3:=fun u tx L=>Qko h i j u tx L
 have f6:=fun u tx L=>QfV (h:=h) hi hij u tx L
 by_cases k0:t.kind=0
 ·rw[Qzh k0]at es
  rw[k0]at eav ct
  have c1:=QiF t.int (by have:=l0 k0;omega) (l0 k0).2 _ hG2
  have c2:=wstr (h:=h++L) hi' hj' hij u tx s hs
  rw[es]at c2
  rw[gapp,hL,eav]at c1
  rw[gapp,gapp,hL,eav]at c2
  rw[eav,es]
  refine YS (by simp) ?_
  repeat first|(first|refine Qe ct ?_|refine QL (FunW.call c1) (Qg9 _) ?_|refine QL (FunW.call c2) Qa7 ?_|refine Q1 (id:=9) [(0,0),(1,0),(2,0),(3,0),(4,0),(5,3),(6,2)] mixed (by kernel_rfl) fun K hK=>?_|refine Qa ?_);simp only[go_sem,seval,f1,f2,f3,f6]|refine hK _ ?_;clear hK
  simp only[go_sem]
  exact X7 hi hj hij (.keep (.tup _ fun x hx=>by cases hx)) ⟨rfl,rfl⟩
 ·rw[Qzf k0]at es
  have m0:(t.kind==0)=false:=by simpa using k0
  by_cases k1:t.kind=1
  ·rw[Qzh k1]at es
   rw[k1]at eav ct
   have z1:((1:Int)==0)=false:=by decide
   have en:t.int=(t.int.toNat:Int):=by have:=l1 k1;omega
   have c1:=Qqx t.int.toNat (by have:=l1 k1;omega) _ hG2
   rw[<-en]at c1
   have c2:=wstr (h:=h++L) hi' hj' hij u tx s hs
   rw[es]at c2
   rw[gapp,hL,eav]at c1
   rw[gapp,gapp,hL,eav]at c2
   rw[eav,es]
   refine YS (by simp) ?_
   repeat first|(first|refine Qe ct ?_|refine QL (FunW.call c1) (Qg9 _) ?_|refine QL (FunW.call c2) Qa7 ?_|refine Q1 (id:=11) [(0,0),(1,0),(2,0),(3,0),(4,0),(5,3),(6,2)] mixed (by kernel_rfl) fun K hK=>?_|refine Qa ?_);simp only[go_sem,seval,f1,f2,f3,f6,z1]|refine hK _ ?_;clear hK
   simp only[go_sem]
   exact X7 hi hj hij (.keep (.tup _ fun x hx=>by cases hx)) ⟨rfl,rfl⟩
  ·rw[Qzf k1]at es
   have m1:(t.kind==1)=false:=by simpa using k1
   have c1:=Qbm (h:=h++L) hi' hj' hij t.args hl t.name (fun a ha h hi hj hG tx hs=>ih a ha h hi hj hG true tx hs) hG' u tx (by rw[<-es];exact hs)
   rw[Wri,<-es,gapp,gapp,hL,eav]at c1
   rw[eav]
   refine YS (by simp) ?_
   repeat (first|refine Qe ct ?_|refine FunW.Qxr c1 ?_|refine Qa ?_);simp only[go_sem,seval,f1,f2,f3,m0,m1]
   exact X7 hi hj hij (.keep (.tup _ fun x hx=>by cases hx)) ⟨rfl,rfl⟩
mutual
theorem T.QxO:∀(t:T),t.lex->∀(i j:Nat),i≠j->TIh i j t
 | .mk k x n l,hx,i,j,hij=>fun h hi hj hG u tx hs=>by
  obtain⟨l0,l1,hl,hn,hll⟩:=hx
  have ih:=Qdb l hll i j hij
  by_cases ho:(T.mk k x n l).oper=0
  ·have es:(T.mk k x n l).txt=if k=0 then decZ x else if k=1 then vOf (decN x.toNat)else funT n (txts l):=by rw[T.txt,Qzf (by simpa using ho)]
   exact Qrx hi hj hij (T.mk k x n l) ho hl l0 l1 ih hG u tx _ es hs
  ·have hk:k=2/\l.length=2/\ofB n≠0:=by
    simp only[T.oper]at ho
    split at ho
    ·exact absurd rfl ho
    ·rename_i hq
     exact⟨Decidable.byContradiction fun e=>hq (.inl e),Decidable.byContradiction fun e=>hq (.inr e),ho⟩
   obtain⟨rfl,h2,hon⟩:=hk
   match l,h2,hll,ih with
   |[a,c],_,hll,ih =>
    have et:(T.mk 2 x n [a,c]).txt=binT (ofB n) n a.oper c.oper a.txt c.txt:=by rw[T.txt,Qzh ho];rfl
    rw[et]at hs ⊢
    have la:a.args.length<=1000000:=by cases a;exact hll.1.2.2.1
    have lc:c.args.length<=1000000:=by cases c;exact hll.2.1.2.2.1
    exact QsW hi hj hij n x a c hn hon la lc (ih a (by simp)) (ih c (by simp)) hG u tx hs
theorem Qdb:∀(l:List T),lexL l->∀(i j:Nat),i≠j->∀a∈l,TIh i j a
 |[],_,_,_,_,a,ha=>by cases ha
 |t::l,hx,i,j,hij,a,ha=>by
  have h1:=T.QxO t hx.1 i j hij
  have h2:=Qdb l hx.2 i j hij
  rcases Qzn.1 ha with e|e
  ·rw[e];exact h1
  ·exact h2 a e
end
theorem Qtv{c:Cx}(hst:St c)(id ty e:Nat)(p:Value)(hb:c.h[id]? = some (.cells ty 2 [.agg [.v p,.v (.slice none 0 0)]])) :
  ∃c2,Ev c c2/\St c2/\c2.h=(c.h++[AB.grow e 1 0]).set id (AB.cells ty 2 [.agg [.v p,.sl 1 [] (some c.h.length)]])/\c2.w=c.w:=by
 obtain⟨hev,hst1⟩:=Qpo hst e 1
 have hlt:=Qf hb
 have hb1:(c.add c.w (.grow e 1 0) none).h[id]? = some (.cells ty 2 [.agg [.v p,.v (.slice none 0 0)]]):=by
  simp only[Cx.add];rw[Qzc hlt];exact hb
 obtain⟨B,cur,hρ,hcur,h3,h4⟩:=hst1.blocks id _ hb1
 have hev2:=Ev.turn (b':=.cells ty 2 [.agg [.v p,.sl 1 [] (some c.h.length)]]) hst1 hb1 rfl hρ (w:=c.w) rfl rfl rfl rfl (fun _ _=>rfl) (.inr ⟨_,rfl,rfl,fun _ cur _ h=>⟨cur,h,rfl⟩⟩)
 have htok:((c.add c.w (.grow e 1 0) none).turn c.w id (.cells ty 2 [.agg [.v p,.sl 1 [] (some c.h.length)]])).tokNil c.h.length 1:=by
  refine⟨by simp[Cx.turn,Cx.add],fun e2 s2 n2 hg2=>?_⟩
  simp only[Cx.turn,Cx.add]at hg2
  rw[Qzd (by omega),Qzi (Qzl _),Qz0]at hg2
  simp at hg2
  exact⟨hg2.2.1.symm,fun _=>by simp[Cx.turn,Cx.add]⟩
 have hfl:flat [AV.agg [.v p,.v (.slice none 0 0)]]=[.v p,.v (.slice none 0 0)]:=rfl
 have hst2:=St.turn (b':=.cells ty 2 [.agg [.v p,.sl 1 [] (some c.h.length)]]) hst1 hb1 rfl hρ (w:=c.w) (fun _ _=>rfl) hev2 ⟨B,cur,hρ,hcur,(by simp[AV.cells]),by
  intro j a' hj
  have hj':[AV.v p,.sl 1 [] (some c.h.length)][j]? = some a':=hj
  match j with
  |0 =>
   simp only[Qyj,Qyp]at hj'
   subst hj'
   obtain⟨u,g1,g2,g3⟩:=h4 0 (.v p) (by rw[hfl];rfl)
   exact⟨u,g1,g2,g3.ev hst1 hev2⟩
  |1 =>
   simp only[Qyk,Qyj,Qyp]at hj'
   subst hj'
   obtain⟨u,g1,g2,g3⟩:=h4 1 (.v (.slice none 0 0)) (by rw[hfl];rfl)
   cases g3
   exact⟨_,g1,g2,.slnil _ _ fun b hb=>by cases hb;exact htok⟩
  |j+2=>simp at hj'⟩
 exact⟨_,Ev.trans hst hev hev2,hst2,rfl,rfl⟩
theorem QaW{P:Program}{N:Nat}{code:Code}{Q:AExit->AS->Prop}{tm:Nat->AV}{h:AH}(id ty e:Nat)(p:Value)(hb:h[id]? = some (.cells ty 2 [.agg [.v p,.v (.slice none 0 0)]]))
  (H:Xs P N code Q ⟨tm,(h++[AB.grow e 1 0]).set id (AB.cells ty 2 [.agg [.v p,.sl 1 [] (some h.length)]])⟩):Xs P N code Q ⟨tm,h⟩:=by
 intro F n base c a hF hst hr R hR
 have hh:c.h=h:=hr.h
 subst hh
 obtain⟨c2,hev,hst2,hh2,hw⟩:=Qtv hst id ty e p hb
 rw[<-hw]
 exact H F n base c2 a hF hst2 ⟨hh2,hr.size,QzL hr.above hev.size,hr.defers.ev hev,RoundOk.ev hev hr.round,fun t=>(hr.tm t).ev hst hev⟩ R fun e' s' c' a' ex hq h1 h2 h3 h4=>hR e' s' c' a' ex hq (Ev.trans hst hev h1) h2 h3 h4
theorem Qml{P:Program}{fv:AV}{args:List AV}{h:AH}{Q:AOut->AH->Prop}(id ty e:Nat)(p:Value)(hb:h[id]? = some (.cells ty 2 [.agg [.v p,.v (.slice none 0 0)]]))
  (H:FunW P fv args ((h++[AB.grow e 1 0]).set id (AB.cells ty 2 [.agg [.v p,.sl 1 [] (some h.length)]])) Q):FunW P fv args h Q:=by
 intro F n c v vals hF hs hh hv hvs o a next Qx h1 h2
 subst hh
 obtain⟨c2,hev,hst2,hh2,hw⟩:=Qtv hs id ty e p hb
 rw[<-hw]
 exact H F n c2 v vals hF hst2 hh2 (hv.ev hs hev) (hvs.ev hs hev) o a next Qx (fun r c' x hQ he=>h1 r c' x hQ (Ev.trans hs hev he)) (fun r c' x hQ he=>h2 r c' x hQ (Ev.trans hs hev he))
theorem Qrz(fv:AV):Pure Tryz.prog 82 [.b false,fv] (.v (.string {data:=#[]})):=by
 intro h
 refine Qc Tryz.func82 rfl Tryz.call82 Tryz.ntmps82 Tryz.results82 (by simp) ?_
 repeat refine Qa ?_;simp only[go_sem,seval]
 first|refine Qb (htake _ _) (.keep (.v _)) ⟨rfl,rfl⟩|refine Qb Qzb (.keep (.v _)) ⟨rfl,rfl⟩
theorem QnU(fv r:AV)(s:ByteArray)(h:AH)(h0:0<s.size)(hs:s.size<=140737488355328)
  (hw:FunW Tryz.prog fv [.ptr h.length 0 0] (HB (h++[AB.dead,AB.dead]) h.length (h.length+1) false .empty) fun o h'=>o = .ret r/\h'=HB (h++[AB.dead,AB.dead]) h.length (h.length+1) true s) :
  Qp Tryz.prog 82 [.b true,fv] h fun o h'=>o = .ret (.v (.string s))/\h'=h:=by
 have hi:h.length<(h++[AB.dead,AB.dead]).length:=by simp
 have hj:h.length+1<(h++[AB.dead,AB.dead]).length:=by simp
 have e0:HB (h++[AB.dead,AB.dead]) h.length (h.length+1) false .empty=h++[AB.cells 138 2 [.agg [.v (.pointer none),.sl 1 [] (some (h.length+1))]],AB.grow 5 1 0]:=by
  simp[HB,hs2,bw];rfl
 have e1:HB (h++[AB.dead,AB.dead]) h.length (h.length+1) true s=h++[bw 138 h.length (h.length+1) true s,AB.grow 5 1 s.size]:=by
  simp[HB,hs2]
 have c1:=Qdv (ty:=138) (i:=h.length) (j:=h.length+1) (by omega) s h0 hs (h++[AB.dead,AB.dead]) hi hj
 have e2:hs2 (h++[AB.dead,AB.dead]) h.length (bw 138 h.length (h.length+1) true s) (h.length+1) .gone=h++[bw 138 h.length (h.length+1) true s,AB.gone]:=by
  simp[hs2]
 rw[e2,<-HB,e1]at c1
 rw[e1,e0]at hw
 refine Qc Tryz.func82 rfl Tryz.call82 Tryz.ntmps82 Tryz.results82 (by simp) ?_
 repeat refine Qa ?_;simp only[go_sem,seval]
 refine Qml h.length 138 5 (.pointer none) (by simp) ?_
 refine FunW.ret (h':=h++[bw 138 h.length (h.length+1) true s,AB.grow 5 1 s.size]) (r:=r) (by simpa using hw) ?_
 rw[bw1]at c1 ⊢
 simp only[go_sem,seval]
 repeat (first|refine FunW.Qxr c1 ?_|refine Qa ?_);simp only[go_sem,seval]
 first|refine Qb (htake _ _) (.keep (.v _)) ⟨rfl,rfl⟩|refine Qb Qzb (.keep (.v _)) ⟨rfl,rfl⟩
abbrev XO{a:List AV}{h:AH}{Q:AOut->AH->Prop}:=@Qc Tryz.prog 139 _ _ a h Q Tryz.func139 rfl Tryz.call139 _ Tryz.ntmps139 _ Tryz.results139
def X2(s:ByteArray):Bool:=decide (Qkk 1 s)&&!resB s
def XN(s:ByteArray):Bool:=s.toList==({data:=#[]}:ByteArray).toList
mutual
def T.run:T->Int->Int->Bool×Int
 | .mk k i n l,b,d =>
  if b - 1<0\/d<1 then(false,b - 1)else
  if k=0 then(decide (-2147483648<=i/\i<=2147483648)&&XN n&&l.isEmpty,b - 1)else
  if k=1 then(decide (0<=i/\i<=1048576)&&XN n&&l.isEmpty,b - 1)else
  if k=2 then(if i≠0\/6<l.length then(false,b - 1)else if (!X2 n&&!(opB n&&decide (l.length=2)))=true then(false,b - 1)else runL l (b - 1) (d - 1))else(false,b - 1)
def runL:List T->Int->Int->Bool×Int
 |[],b,d=>(true,b)
 |t::l,b,d=>if (t.run b d).1=true then runL l (t.run b d).2 d else(false,(t.run b d).2)
end
theorem T.run_eq(t:T)(b d:Int):t.run b d=if b - 1<0\/d<1 then(false,b - 1)else
  if t.kind=0 then(decide (-2147483648<=t.int/\t.int<=2147483648)&&XN t.name&&t.args.isEmpty,b - 1)else
  if t.kind=1 then(decide (0<=t.int/\t.int<=1048576)&&XN t.name&&t.args.isEmpty,b - 1)else
  if t.kind=2 then(if t.int≠0\/6<t.args.length then(false,b - 1)else if (!X2 t.name&&!(opB t.name&&decide (t.args.length=2)))=true then(false,b - 1)else runL t.args (b - 1) (d - 1))else(false,b - 1):=by
 cases t;rw[T.run];rfl
theorem Qrr{l:List T}{k:Nat}(h:k<l.length)(b d:Int):runL (l.drop k) b d=if ((l[k]).run b d).1=true then runL (l.drop (k+1)) ((l[k]).run b d).2 d else(false,((l[k]).run b d).2):=by
 rw[Qzq h];simp only[runL]
def bud(b:Int):AB:=.cells 149 1 [.agg [.i b]]
theorem Qpq(d:Int)(ih:∀(t:T) (b:Int) (i:Nat),-1<=b->b<=1000->Chg Tryz.prog 139 [.ptr i 0 0,t.av,.i d] i (bud b) (.b (t.run b d).1) (bud (t.run b d).2))
  (l:List T) (hl:l.length<=1000) (b:Int) (i:Nat) (hb : -1<=b/\b<=1000) (hr:∀(t:T) (b:Int),-1<=b/\b<=1000->(t.run b d).1=true -> -1<=(t.run b d).2/\(t.run b d).2<=1000) :
  Chg Tryz.prog 101 [.ptr i 0 0,.sl 4 (avs l) none,.i d] i (bud b) (.b (runL l b d).1) (bud (runL l b d).2):=by
 intro h hi
 have f1:=fun x=>ZU h i x
 refine Qc Tryz.func101 rfl Tryz.call101 Tryz.ntmps101 Tryz.results101 (by simp) ?_
 repeat refine Qa ?_;simp only[go_sem,seval]
 obtain⟨I,hI⟩:∃I:Nat->AS->Prop,I=fun m' s=>∃(k:Nat) (b':Int),m'=l.length - k/\k<=l.length/\(-1<=b'/\b'<=1000)/\runL l b d=runL (l.drop k) b' d/\s.tm 0 = .ptr i 0 0/\s.tm 1 = .sl 4 (avs l) none/\s.tm 2 = .i d/\s.tm 9 = .i l.length/\s.tm 10 = .i k/\s.h=hs h i (bud b'):=⟨_,rfl⟩;refine Qv I ?_ (m:=l.length) ?_
 ·intro m' s hs;rw[hI]at hs;obtain⟨tm,hp⟩:=s;dsimp only at hs;obtain⟨k,b',rfl,hk,hb',he,t0,t1,t2,t9,t10,rfl⟩:=hs
  by_cases hlt:k<l.length
  ·have hg:=Qcd hlt
   have c:=ih l[k] b' i hb'.1 hb'.2 h hi
   rw[Qrr hlt]at he
   cases hr1:((l[k]).run b' d).1 with
   |true =>
    rw[hr1]at c he
    repeat (first|refine FunW.Qxr c ?_|refine Qa ?_);simp only[go_sem,seval,t0,t1,t2,t9,t10,hlt,hg]
    refine QZ.mk (m':=l.length - (k+1)) (by omega) ?_
    rw[hI]
    refine⟨k+1,_,rfl,hlt,hr _ _ hb' hr1,by rw[he,Qzh rfl],t0,t1,t2,t9,?_,rfl⟩
    simp only[upd,↓reduceIte]
    rw[QY (by omega)]
   |false =>
    rw[hr1]at c he
    rw[Qzf (by simp)]at he
    repeat (first|refine FunW.Qxr c ?_|refine Qa ?_);simp only[go_sem,seval,t0,t1,t2,t9,t10,hlt,hg]
    rw[he]
    exact .inr ⟨rfl,rfl⟩
  ·have hkn:k=l.length:=by omega
   subst hkn
   rw[QzG]at he
   repeat refine Qa ?_;simp only[go_sem,seval,t9,t10,hlt]
   rw[he]
   exact .inr ⟨rfl,rfl⟩
 ·rw[hI]
  exact⟨0,b,rfl,by omega,hb,rfl,rfl,rfl,rfl,rfl,rfl,rfl⟩
mutual
theorem T.QxU:∀(t:T) (b d:Int),-1<=b/\b<=1000->(t.run b d).1=true -> -1<=(t.run b d).2/\(t.run b d).2<=1000
 | .mk k i n l,b,d,hb,h=>by
  rw[T.run]at h ⊢
  split at h
  ·cases h
  rename_i hn
  rw[Qzf hn]
  split at h
  ·rename_i hk;rw[Qzh hk];exact⟨by simp only;omega,by simp only;omega⟩
  rename_i hk;rw[Qzf hk]
  split at h
  ·rename_i hk;rw[Qzh hk];exact⟨by simp only;omega,by simp only;omega⟩
  rename_i hk;rw[Qzf hk]
  split at h
  ·rename_i hk2
   rw[Qzh hk2]
   split at h
   ·cases h
   rename_i hk;rw[Qzf hk]
   split at h
   ·cases h
   rename_i hk;rw[Qzf hk]
   exact Qgb l _ _ (by omega) h
  ·cases h
theorem Qgb:∀(l:List T) (b d:Int),-1<=b/\b<=1000->(runL l b d).1=true -> -1<=(runL l b d).2/\(runL l b d).2<=1000
 |[],b,d,hb,h=>by simpa only[runL]using hb
 |t::l,b,d,hb,h=>by
  rw[runL]at h ⊢
  split at h
  ·rename_i ht
   rw[Qzh ht]
   exact Qgb l _ _ (T.QxU t b d hb ht) h
  ·cases h
end
theorem XM(n:Nat)(b:Int):(bud b).Below n:=fun a ha=>by
 simp[flat,AV.cells]at ha
 subst ha;exact .v _
theorem QrL:∀(dn:Nat) (t:T) (b:Int) (i:Nat),dn<=1000 -> -1<=b->b<=1000->Chg Tryz.prog 139 [.ptr i 0 0,t.av,.i (dn:Int)] i (bud b) (.b (t.run b dn).1) (bud (t.run b dn).2):=by
 intro dn
 induction dn with
 |zero =>
  intro t b i hdn hb0 hb1 h hi
  have w1:IntKind.i64.wrap (b - 1)=b - 1:=Xk (by omega)
  have f1:=fun x L=>Qmn hi x L
  have f2:=fun x y L=>Qmo hi x y L
  have f3:=fun x L=>QcR (h:=h) (i:=i) x L
  have f4:=fun x=>ZU h i x
  have fb:∀b,bud b = .cells 149 1 [.agg [.i b]]:=fun _=>rfl
  by_cases m0:b - 1<0
  ·have hn:(b - 1<0\/((0:Nat):Int)<1):=.inl m0
   have R:t.run b ((0:Nat):Int)=(false,b - 1):=by
    rw[T.run_eq,Qzh hn]
   rw[R]
   refine XO (by simp) ?_
   repeat refine Qa ?_;simp only[go_sem,seval,w1,f1,f2,f4,fb,m0]
   exact Q4 (XM _ _) (.keep (.v _)) ⟨rfl,rfl⟩
  ·have hn:(b - 1<0\/((0:Nat):Int)<1):=.inr (by omega)
   have d0:(0:Int)<1:=by omega
   have R:t.run b ((0:Nat):Int)=(false,b - 1):=by
    rw[T.run_eq,Qzh hn]
   rw[R]
   refine XO (by simp) ?_
   repeat refine Qa ?_;simp only[go_sem,seval,w1,f1,f2,f4,fb,m0,d0]
   exact Q4 (XM _ _) (.keep (.v _)) ⟨rfl,rfl⟩
 |succ dn ih =>
  intro t b i hdn hb0 hb1 h hi
  have w1:IntKind.i64.wrap (b - 1)=b - 1:=Xk (by omega)
  have f1:=fun x L=>Qmn hi x L
  have f2:=fun x y L=>Qmo hi x y L
  have f3:=fun x L=>QcR (h:=h) (i:=i) x L
  have f4:=fun x=>ZU h i x
  have fb:∀b,bud b = .cells 149 1 [.agg [.i b]]:=fun _=>rfl
  have wd:IntKind.i64.wrap (((dn+1:Nat):Int) - 1)=(dn:Int):=by rw[Xk (by omega)];omega
  by_cases m0:b - 1<0
  ·have hn:(b - 1<0\/((dn+1:Nat):Int)<1):=.inl m0
   have R:t.run b ((dn+1:Nat):Int)=(false,b - 1):=by
    rw[T.run_eq,Qzh hn]
   rw[R]
   refine XO (by simp) ?_
   repeat refine Qa ?_;simp only[go_sem,seval,w1,f1,f2,f4,fb,m0]
   exact Q4 (XM _ _) (.keep (.v _)) ⟨rfl,rfl⟩
  have d0:¬((dn+1:Nat):Int)<1:=by omega
  have hn:¬(b - 1<0\/((dn+1:Nat):Int)<1):=by omega
  by_cases k0:t.kind=0
  ·have z0:(t.kind==0)=true:=by simp[k0]
   by_cases c1:t.int >= -2147483648
   rotate_left
   ·have e1:¬-2147483648<=t.int:=by omega
    have R:t.run b ((dn+1:Nat):Int)=(false,b - 1):=by
     rw[T.run_eq,Qzf hn,Qzh k0];simp[e1]
    rw[R]
    refine XO (by simp) ?_
    repeat refine Qa ?_;simp only[go_sem,seval,w1,f1,f2,f3,f4,fb,m0,d0,z0,c1]
    exact Q4 (XM _ _) (.keep (.v _)) ⟨rfl,rfl⟩
   have e1 : -2147483648<=t.int:=by omega
   by_cases c2:t.int<=2147483648
   rotate_left
   ·skip
    have R:t.run b ((dn+1:Nat):Int)=(false,b - 1):=by
     rw[T.run_eq,Qzf hn,Qzh k0];simp[e1,c2]
    rw[R]
    refine XO (by simp) ?_
    repeat refine Qa ?_;simp only[go_sem,seval,w1,f1,f2,f3,f4,fb,m0,d0,z0,c1,c2]
    exact Q4 (XM _ _) (.keep (.v _)) ⟨rfl,rfl⟩
   cases c3:XN t.name with
   |false =>
    have c3':(t.name.toList==({data:=#[]}:ByteArray).toList)=false:=c3
    have R:t.run b ((dn+1:Nat):Int)=(false,b - 1):=by
     rw[T.run_eq,Qzf hn,Qzh k0];simp[e1,c2,c3]
    rw[R]
    refine XO (by simp) ?_
    repeat refine Qa ?_;simp only[go_sem,seval,w1,f1,f2,f3,f4,fb,m0,d0,z0,c1,c2,c3']
    exact Q4 (XM _ _) (.keep (.v _)) ⟨rfl,rfl⟩
   |true =>
    have c3':(t.name.toList==({data:=#[]}:ByteArray).toList)=true:=c3
    cases hl:t.args with
    |nil =>
     have c4:((0:Int)==0)=true:=rfl
     have R:t.run b ((dn+1:Nat):Int)=(true,b - 1):=by
      rw[T.run_eq,Qzf hn,Qzh k0];simp[e1,c2,c3,hl]
     rw[R]
     refine XO (by simp) ?_
     repeat refine Qa ?_;simp only[go_sem,seval,w1,f1,f2,f3,f4,fb,m0,d0,z0,c1,c2,c3',hl,Qpx]
     exact Q4 (XM _ _) (.keep (.v _)) ⟨rfl,rfl⟩
    |cons a l =>
     have c4:(((l.length+1:Nat):Int)==0)=false:=by simp;omega
     have R:t.run b ((dn+1:Nat):Int)=(false,b - 1):=by
      rw[T.run_eq,Qzf hn,Qzh k0];simp[e1,c2,c3,hl]
     rw[R]
     refine XO (by simp) ?_
     repeat refine Qa ?_;simp only[go_sem,seval,w1,f1,f2,f3,f4,fb,m0,d0,z0,c1,c2,c3',hl,c4]
     exact Q4 (XM _ _) (.keep (.v _)) ⟨rfl,rfl⟩
  have z0:(t.kind==0)=false:=by simp[k0]
  by_cases k1:t.kind=1
  ·have z1:(t.kind==1)=true:=by simp[k1]
   by_cases c1:t.int>=0
   rotate_left
   ·have e1:¬0<=t.int:=by omega
    have R:t.run b ((dn+1:Nat):Int)=(false,b - 1):=by
     rw[T.run_eq,Qzf hn,Qzf k0,Qzh k1];simp[e1]
    rw[R]
    refine XO (by simp) ?_
    repeat refine Qa ?_;simp only[go_sem,seval,w1,f1,f2,f3,f4,fb,m0,d0,z0,z1,c1]
    exact Q4 (XM _ _) (.keep (.v _)) ⟨rfl,rfl⟩
   have e1:0<=t.int:=by omega
   by_cases c2:t.int<=1048576
   rotate_left
   ·skip
    have R:t.run b ((dn+1:Nat):Int)=(false,b - 1):=by
     rw[T.run_eq,Qzf hn,Qzf k0,Qzh k1];simp[e1,c2]
    rw[R]
    refine XO (by simp) ?_
    repeat refine Qa ?_;simp only[go_sem,seval,w1,f1,f2,f3,f4,fb,m0,d0,z0,z1,c1,c2]
    exact Q4 (XM _ _) (.keep (.v _)) ⟨rfl,rfl⟩
   cases c3:XN t.name with
   |false =>
    have c3':(t.name.toList==({data:=#[]}:ByteArray).toList)=false:=c3
    have R:t.run b ((dn+1:Nat):Int)=(false,b - 1):=by
     rw[T.run_eq,Qzf hn,Qzf k0,Qzh k1];simp[e1,c2,c3]
    rw[R]
    refine XO (by simp) ?_
    repeat refine Qa ?_;simp only[go_sem,seval,w1,f1,f2,f3,f4,fb,m0,d0,z0,z1,c1,c2,c3']
    exact Q4 (XM _ _) (.keep (.v _)) ⟨rfl,rfl⟩
   |true =>
    have c3':(t.name.toList==({data:=#[]}:ByteArray).toList)=true:=c3
    cases hl:t.args with
    |nil =>
     have c4:((0:Int)==0)=true:=rfl
     have R:t.run b ((dn+1:Nat):Int)=(true,b - 1):=by
      rw[T.run_eq,Qzf hn,Qzf k0,Qzh k1];simp[e1,c2,c3,hl]
     rw[R]
     refine XO (by simp) ?_
     repeat refine Qa ?_;simp only[go_sem,seval,w1,f1,f2,f3,f4,fb,m0,d0,z0,z1,c1,c2,c3',hl,Qpx]
     exact Q4 (XM _ _) (.keep (.v _)) ⟨rfl,rfl⟩
    |cons a l =>
     have c4:(((l.length+1:Nat):Int)==0)=false:=by simp;omega
     have R:t.run b ((dn+1:Nat):Int)=(false,b - 1):=by
      rw[T.run_eq,Qzf hn,Qzf k0,Qzh k1];simp[e1,c2,c3,hl]
     rw[R]
     refine XO (by simp) ?_
     repeat refine Qa ?_;simp only[go_sem,seval,w1,f1,f2,f3,f4,fb,m0,d0,z0,z1,c1,c2,c3',hl,c4]
     exact Q4 (XM _ _) (.keep (.v _)) ⟨rfl,rfl⟩
  have z1:(t.kind==1)=false:=by simp[k1]
  by_cases k2:t.kind=2
  rotate_left
  ·have z2:(t.kind==2)=false:=by simp[k2]
   have R:t.run b ((dn+1:Nat):Int)=(false,b - 1):=by
    rw[T.run_eq,Qzf hn,Qzf k0,Qzf k1,Qzf k2]
   rw[R]
   refine XO (by simp) ?_
   repeat refine Qa ?_;simp only[go_sem,seval,w1,f1,f2,f3,f4,fb,m0,d0,z0,z1,z2]
   exact Q4 (XM _ _) (.keep (.v _)) ⟨rfl,rfl⟩
  have z2:(t.kind==2)=true:=by simp[k2]
  by_cases i0:t.int=0
  rotate_left
  ·have y0:(t.int != 0)=true:=by simp[i0]
   have R:t.run b ((dn+1:Nat):Int)=(false,b - 1):=by
    rw[T.run_eq,Qzf hn,Qzf k0,Qzf k1,Qzh k2,Qzh (.inl i0)]
   rw[R]
   refine XO (by simp) ?_
   repeat refine Qa ?_;simp only[go_sem,seval,w1,f1,f2,f3,f4,fb,m0,d0,z0,z1,z2,y0]
   exact Q4 (XM _ _) (.keep (.v _)) ⟨rfl,rfl⟩
  have y0:(t.int != 0)=false:=by simp[i0]
  by_cases a6:t.args.length>6
  ·have y6:(t.args.length:Int)>6:=by omega
   have R:t.run b ((dn+1:Nat):Int)=(false,b - 1):=by
    rw[T.run_eq,Qzf hn,Qzf k0,Qzf k1,Qzh k2,Qzh (.inr a6)]
   rw[R]
   refine XO (by simp) ?_
   repeat refine Qa ?_;simp only[go_sem,seval,w1,f1,f2,f3,f4,fb,m0,d0,z0,z1,z2,y0,y6]
   exact Q4 (XM _ _) (.keep (.v _)) ⟨rfl,rfl⟩
  have y6:¬(t.args.length:Int)>6:=by omega
  have a6':¬6<t.args.length:=a6
  have cr:=Qdr t.name
  have co:=QeC t.name
  have er:(decide (Qkk 1 t.name)&&!resB t.name)=X2 t.name:=rfl
  rw[er]at cr
  have hind:=fun b2 hb=>Qpq dn (fun t b i h0 h1=>ih t b i (by omega) h0 h1) t.args (by omega) b2 i hb (fun t b hb h=>T.QxU t b dn hb h)
  have ca:=(hind (b - 1) (by omega)).app hi [.cells 69 4 [t.av]]
  rw[fb,fb]at ca
  cases hr:X2 t.name with
  |true =>
   rw[hr]at cr
   have R:t.run b ((dn+1:Nat):Int)=runL t.args (b - 1) (dn:Int):=by
    rw[T.run_eq,Qzf hn,Qzf k0,Qzf k1,Qzh k2,Qzf (show ¬(t.int≠0\/6<t.args.length) by omega),hr,Qzf (by simp)];rw[show(((dn+1:Nat):Int) - 1)=(dn:Int) by omega]
   rw[R]
   refine XO (by simp) ?_
   repeat (first|refine Qe cr ?_|refine FunW.Qxr ca ?_|refine Qa ?_);simp only[go_sem,seval,w1,f1,f2,f3,f4,fb,m0,d0,z0,z1,z2,y0,y6,wd]
   exact Q4 (XM _ _) (.keep (.v _)) ⟨rfl,rfl⟩
  |false =>
   rw[hr]at cr
   cases ho:opB t.name with
   |false =>
    rw[ho]at co
    have R:t.run b ((dn+1:Nat):Int)=(false,b - 1):=by
     rw[T.run_eq,Qzf hn,Qzf k0,Qzf k1,Qzh k2,Qzf (show ¬(t.int≠0\/6<t.args.length) by omega),hr,ho,Qzh (by simp)]
    rw[R]
    refine XO (by simp) ?_
    repeat (first|refine Qe cr ?_|refine Qe co ?_|refine Qa ?_);simp only[go_sem,seval,w1,f1,f2,f3,f4,fb,m0,d0,z0,z1,z2,y0,y6]
    exact Q4 (XM _ _) (.keep (.v _)) ⟨rfl,rfl⟩
   |true =>
    rw[ho]at co
    by_cases l2:t.args.length=2
    ·have z3:((t.args.length:Int)==2)=true:=by simp[l2]
     have R:t.run b ((dn+1:Nat):Int)=runL t.args (b - 1) (dn:Int):=by
      rw[T.run_eq,Qzf hn,Qzf k0,Qzf k1,Qzh k2,Qzf (show ¬(t.int≠0\/6<t.args.length) by omega),hr,ho,Qzf (by simp[l2])];rw[show(((dn+1:Nat):Int) - 1)=(dn:Int) by omega]
     rw[R]
     refine XO (by simp) ?_
     repeat (first|refine Qe cr ?_|refine Qe co ?_|refine FunW.Qxr ca ?_|refine Qa ?_);simp only[go_sem,seval,w1,f1,f2,f3,f4,fb,m0,d0,z0,z1,z2,y0,y6,z3,wd]
     exact Q4 (XM _ _) (.keep (.v _)) ⟨rfl,rfl⟩
    ·have z3:((t.args.length:Int)==2)=false:=by simp;omega
     have R:t.run b ((dn+1:Nat):Int)=(false,b - 1):=by
      rw[T.run_eq,Qzf hn,Qzf k0,Qzf k1,Qzh k2,Qzf (show ¬(t.int≠0\/6<t.args.length) by omega),hr,ho,Qzh (by simp[l2])]
     rw[R]
     refine XO (by simp) ?_
     repeat (first|refine Qe cr ?_|refine Qe co ?_|refine Qa ?_);simp only[go_sem,seval,w1,f1,f2,f3,f4,fb,m0,d0,z0,z1,z2,y0,y6,z3]
     exact Q4 (XM _ _) (.keep (.v _)) ⟨rfl,rfl⟩
abbrev Qjs{a:List AV}{h:AH}{Q:AOut->AH->Prop}:=@Qc Tryz.prog 80 _ _ a h Q Tryz.func80 rfl Tryz.call80 _ Tryz.ntmps80 _ Tryz.results80
theorem Chg.at{P:Program}{f:FuncId}{args:List AV}{i:Nat}{x y:AB}{r:AV}(H:Chg P f args i x r y){h:AH}(hx:h[i]? = some x):Qp P f args h fun o h'=>o = .ret r/\h'=h.set i y:=by
 have:=H h (Qf hx)
 rwa [Qt2 hx]at this
theorem Qs7(l:List T)(hl:l.length<=1000)(h:AH)(i:Nat)(hx:h[i]? = some (.cells 149 1 [.agg [.i 200]])):Qp Tryz.prog 101 [.ptr i 0 0,.sl 4 (avs l) none,.i 20] h
  fun o h'=>o = .ret (.b (runL l 200 20).1)/\h'=h.set i (.cells 149 1 [.agg [.i (runL l 200 20).2]]) :=
 (Qpq 20 (fun t b i h0 h1=>QrL 20 t b i (by omega) h0 h1) l hl 200 i (by omega) (fun t b hb h=>T.QxU t b 20 hb h)).at hx
def Qt(g:G):Bool:=X2 g.name&&(decide (g.args.length<=6)&&(runL g.args 200 20).1)
theorem ZZ(g:G):Pure Tryz.prog 80 [g.atom] (.b (Qt g)):=by
 intro h
 have cr:=Qdr g.name
 have er:(decide (Qkk 1 g.name)&&!resB g.name)=X2 g.name:=rfl
 rw[er]at cr
 cases hr:X2 g.name with
 |false =>
  rw[hr]at cr
  refine Qjs (by simp) ?_
  repeat (first|refine Qe cr ?_|refine Qa ?_);simp only[go_sem,seval,Yc]
  first|refine Qb (htake _ _) (.keep (.v _)) ⟨by rw[Qt,hr];rfl,rfl⟩|refine Qb Qzb (.keep (.v _)) ⟨by rw[Qt,hr];rfl,rfl⟩
 |true =>
  rw[hr]at cr
  by_cases hl:(g.args.length:Int)<=6
  ·have hl':decide (g.args.length<=6)=true:=QzA (by omega)
   have ca:=Qs7 g.args (by omega) (h++[.cells 66 2 [g.atom],.cells 149 1 [.agg [.i 200]]]) (h.length+1) (by rw[hget];rfl)
   rw[hset]at ca
   refine Qjs (by simp) ?_
   repeat (first|refine Qe cr ?_|refine FunW.Qxr ca ?_|refine Qa ?_);simp only[go_sem,seval,Yc,hl]
   first|refine Qb (htake _ _) (.keep (.v _)) ⟨by rw[Qt,hr,hl'];rfl,rfl⟩|refine Qb Qzb (.keep (.v _)) ⟨by rw[Qt,hr,hl'];rfl,rfl⟩
  ·have hl':decide (g.args.length<=6)=false:=Qzt (by omega)
   refine Qjs (by simp) ?_
   repeat (first|refine Qe cr ?_|refine Qa ?_);simp only[go_sem,seval,Yc,hl]
   first|refine Qb (htake _ _) (.keep (.v _)) ⟨by rw[Qt,hr,hl'];rfl,rfl⟩|refine Qb Qzb (.keep (.v _)) ⟨by rw[Qt,hr,hl'];rfl,rfl⟩
def Qbo(op:Int):Int:=if op=1\/op=2 then 0 else if op=11\/op=12 then 1 else 2
def Qo(g:G):Bool:=if g.op=0 then Qt ⟨0,g.name,g.args⟩else
 decide (0<g.op/\g.op<=12)&&(XN g.name&&(decide ((g.args.length:Int)=Qbo g.op)&&(runL g.args 200 20).1))
theorem Qbs{s:ByteArray}(h:X2 s=true):1<=s.size/\s.size<=40:=by
 rw[X2,Qzk,Qzu]at h
 exact⟨h.1.1,h.1.2.1⟩
theorem Qjl(b:Bool)(x:ByteArray):(encB b x).size<=x.size+2:=by
 rw[encB];split
 ·rw[Qg,Qg];have:lpa.size=1:=rfl;have:rpa.size=1:=rfl;omega
 ·omega
theorem QjE(l:List ByteArray):∀f,(Xw f l).size<=(l.map fun x=>x.size+2).sum:=by
 induction l with
 |nil=>intro f;rw[Xw];simp
 |cons x l ih =>
  intro f
  have h1:=ih false
  rw[QiG f _ x l rfl,List.map_cons,List.sum_cons]
  split <;> omega
theorem Qs0(t:ByteArray):(vOf t).size=t.size+1:=by rw[vOf,Qg];have:({data:=#[86]}:ByteArray).size=1:=rfl;omega
theorem QaL{s:ByteArray}(h:XN s=true):s.size=0:=by
 rw[XN,Qe1,Qzu]at h
 exact h
mutual
theorem T.Qyb:∀(t:T) (b d:Int),(t.run b d).1=true->t.lex/\(t.txt.size:Int)+4<=60 * (b - (t.run b d).2)/\0<t.txt.size/\(t.run b d).2<=b
 | .mk k i n l,b,d,h=>by
  rw[T.run]at h ⊢
  split at h
  ·cases h
  rename_i h1
  rw[Qzf h1]
  split at h
  ·rename_i k0
   subst k0
   rw[Qzh rfl]
   simp only[Qzk,Qzu]at h
   obtain⟨⟨hr,hn⟩,hl⟩:=h
   have hl':l=[]:=by simpa using hl
   subst hl'
   have hn':=QaL hn
   have hz:=QgH i (by omega) (by omega)
   have hp:=Qr8 i
   have et:(T.mk 0 i n []).txt=decZ i:=by rw[T.txt,Qzf (by simp[T.oper,T.kind]),Qzh rfl]
   rw[et]
   refine⟨⟨fun _=>by omega,fun e=>(by cases e),by simp,by omega,trivial⟩,?_,hp,?_⟩ <;> simp only <;> omega
  ·rename_i k0
   rw[Qzf k0]
   split at h
   ·rename_i k1
    subst k1
    rw[Qzh rfl]
    simp only[Qzk,Qzu]at h
    obtain⟨⟨hr,hn⟩,hl⟩:=h
    have hl':l=[]:=by simpa using hl
    subst hl'
    have hn':=QaL hn
    have hz:=Qm5 (n:=i.toNat) (by omega)
    have et:(T.mk 1 i n []).txt=vOf (decN i.toNat):=by rw[T.txt,Qzf (by simp[T.oper,T.kind]),Qzf k0,Qzh rfl]
    rw[et,Qs0]
    refine⟨⟨fun e=>(by cases e),fun _=>hr,by simp,by omega,trivial⟩,?_,by omega,?_⟩ <;> simp only <;> omega
   ·rename_i k1
    rw[Qzf k1]
    split at h
    ·rename_i k2
     subst k2
     rw[Qzh rfl]
     split at h
     ·cases h
     rename_i h3
     rw[Qzf h3]
     split at h
     ·cases h
     rename_i h4
     rw[Qzf h4]
     have hL:=Qgc l (b - 1) (d - 1) h
     have hll:l.length<=6:=by omega
     have hns:1<=n.size/\n.size<=40:=by
      simp only[QAG,Qzk,not_and,Bool.not_eq_false,Qzu]at h4
      cases hrb:X2 n with
      |true=>exact Qbs hrb
      |false =>
       rw[hrb]at h4
       have hop:opB n=true:=by
        cases ho:opB n with
        |true=>rfl
        |false=>rw[ho]at h4;simp at h4
       by_cases hs1:n.size=1
       ·omega
       ·rw[QjT hs1]at hop;cases hop
     refine⟨⟨fun e=>(by cases e),fun e=>(by cases e),by omega,by omega,hL.1⟩,?_⟩
     by_cases ho:(T.mk 2 i n l).oper=0
     ·have et:(T.mk 2 i n l).txt=funT n (txts l):=by rw[T.txt,Qzf (by simpa using ho),Qzf k0,Qzf k1]
      rw[et,funT,Qg]
      have e1:=Qjl (decide (0<(txts l).length)) (Xw true (txts l))
      have e2:=QjE (txts l) true
      have e3:=hL.2.1
      refine⟨?_,?_,?_⟩ <;> omega
     ·have hk:l.length=2:=by
       simp only[T.oper]at ho
       split at ho
       ·exact absurd rfl ho
       ·rename_i hq;exact Decidable.byContradiction fun e=>hq (.inr e)
      match l,hk,hL with
      |[a,c],_,hL =>
       have et:(T.mk 2 i n [a,c]).txt=binT (ofB n) n a.oper c.oper a.txt c.txt:=by rw[T.txt,Qzh ho];rfl
       rw[et,binT]
       simp only[Qg]
       have hsp:({data:=#[32]}:ByteArray).size=1:=rfl
       have e1:=Qjl ((a.oper==1)&&(ofB n==2)) a.txt
       have e2:=Qjl ((c.oper != 0)&&((c.oper==1)||(ofB n==2))) c.txt
       have e3:=hL.2.1
       have e4:=hL.2.2
       simp only[txts,Qyy,QyC,List.sum_cons,List.sum_nil]at e3
       refine⟨?_,?_,?_⟩ <;> omega
    ·cases h
theorem Qgc:∀(l:List T) (b d:Int),(runL l b d).1=true->lexL l/\((((txts l).map fun x=>x.size+2).sum:Nat):Int)<=60 * (b - (runL l b d).2)/\(runL l b d).2<=b
 |[],b,d,h=>by rw[runL];exact⟨trivial,by simp[txts],Int.le_refl _⟩
 |t::l,b,d,h=>by
  rw[runL]at h ⊢
  split at h
  ·rename_i h1
   rw[Qzh h1]
   have ht:=T.Qyb t b d h1
   have hl:=Qgc l _ d h
   refine⟨⟨ht.1,hl.1⟩,?_,?_⟩
   ·rw[txts,List.map_cons,List.sum_cons]
    have:=hl.2.1
    have:=ht.2.1
    omega
   ·have:=hl.2.2;have:=ht.2.2.2;omega
  ·cases h
end
mutual
/-- the occurrences of variables -/
def T.vars:T->List Int
 | .mk k i _ l=>if k=1 then[i]else if k=2 then Xz l else[]
def Xz:List T->List Int
 |[]=>[]
 |t::l=>t.vars++Xz l
end
theorem YQ:∀l r:List T,Xz (l++r)=Xz l++Xz r
 |[],r=>rfl
 |t::l,r=>by simp only[QyL,Xz,YQ l r,Qze]
def ins(s:List Int)(n:Int):List Int:=if n∈s then s else s++[n]
def ded:List Int->List Int->List Int
 |s,[]=>s
 |s,n::l=>ded (ins s n) l
theorem Qaj:∀s l r:List Int,ded s (l++r)=ded (ded s l) r
 |s,[],r=>rfl
 |s,n::l,r=>by simp only[QyL,ded,Qaj]
theorem Qt5(s:List Int)(n:Int):∃r,ins s n=s++r:=by
 unfold ins
 split
 ·exact⟨[],by simp⟩
 ·exact⟨[n],rfl⟩
theorem QbJ:∀s l:List Int,∃r,ded s l=s++r
 |s,[]=>⟨[],by simp[ded]⟩
 |s,n::l=>by
  obtain⟨r,h⟩:=Qt5 s n
  obtain⟨r',h'⟩:=QbJ (ins s n) l
  exact⟨r++r',by rw[ded,h',h,Qze]⟩
theorem Qhn{s:List Int}{n v:Int}:v∈ins s n↔v∈s\/v=n:=by
 unfold ins
 split
 ·rename_i h
  exact⟨.inl,fun h'=>h'.elim id (fun e=>e▸h)⟩
 ·simp
theorem QjK:∀{s l:List Int} {v:Int},v∈ded s l↔v∈s\/v∈l
 |s,[],v=>by simp[ded]
 |s,n::l,v=>by
  simp only[ded,QjK (l:=l),Qhn,Qzn,or_assoc]
theorem Qot(s:List Int)(n:Int):(ins s n).length<=s.length+1:=by
 unfold ins
 split
 ·omega
 ·simp
theorem Qdd:∀s l:List Int,(ded s l).length<=s.length+l.length
 |s,[]=>by simp[ded]
 |s,n::l=>by
  have h1:=Qdd (ins s n) l
  have h2:=Qot s n
  simp only[ded,Qyw]
  omega
def plc:List Int->Int->Nat
 |[],_=>0
 |a::l,n=>if a=n then 0 else plc l n+1
theorem QiU{n:Int}:∀{s:List Int} (r:List Int),n∈s->plc (s++r) n=plc s n
 |a::s,r,h=>by
  simp only[QyL,plc]
  split
  ·rfl
  ·rename_i hne
   rw[QiU r (by rcases Qzn.1 h with h|h;exact absurd h.symm hne;exact h)]
theorem Qq6{n:Int}:∀{s:List Int},n∉s->plc s n=s.length
 |[],_=>rfl
 |a::s,h=>by
  simp only[Qzn,not_or]at h
  simp only[plc,Qzf (fun e:a=n=>h.1 e.symm),Qq6 h.2,Qyw]
theorem QbM{n:Int}{s:List Int}(r:List Int)(h:n∉s):plc (s++n::r) n=s.length:=by
 induction s with
 |nil=>simp[plc]
 |cons a s ih =>
  simp only[Qzn,not_or]at h
  simp only[QyL,plc,Qzf (fun e:a=n=>h.1 e.symm),ih h.2,Qyw]
theorem QnI{n:Int}:∀{s:List Int},n∈s->plc s n<s.length
 |a::s,h=>by
  simp only[plc,Qyw]
  split
  ·omega
  ·rename_i hne
   have:=QnI (s:=s) (n:=n) (by rcases Qzn.1 h with h|h;exact absurd h.symm hne;exact h)
   omega
theorem Qq3{n:Int}:∀{s:List Int} (h:plc s n<s.length),s[plc s n]=n
 |a::s,h=>by
  simp only[plc]at h ⊢
  by_cases e:a=n
  ·simp[e]
  ·simp only[Qzf e,Qyw]at h ⊢
   simp only[QAY]
   exact Qq3 (by omega)
theorem Qq5{n:Int}{s:List Int}(h:n∈s):s[plc s n]'(QnI h)=n:=Qq3 _
mutual
def T.map(g:Int->Int):T->T
 | .mk k i n l=>if k=1 then .mk k (g i) n l else if k=2 then .mk k i n (maps g l)else .mk k i n l
def maps(g:Int->Int):List T->List T
 |[]=>[]
 |t::l=>t.map g::maps g l
end
mutual
def T.mapS{σ:Type}(g:σ->Int->Int×σ):σ->T->T×σ
 |s,.mk k i n l=>if k=1 then(.mk k (g s i).1 n l,(g s i).2)else if k=2 then(.mk k i n (Xn g s l).1,(Xn g s l).2)else(.mk k i n l,s)
def Xn{σ:Type}(g:σ->Int->Int×σ):σ->List T->List T×σ
 |s,[]=>([],s)
 |s,t::l=>((T.mapS g s t).1::(Xn g (T.mapS g s t).2 l).1,(Xn g (T.mapS g s t).2 l).2)
end
theorem T.QxB{σ:Type}(g:σ->Int->Int×σ)(s:σ)(t:T):T.mapS g s t=if t.kind=1 then(.mk t.kind (g s t.int).1 t.name t.args,(g s t.int).2)else if t.kind=2 then(.mk t.kind t.int t.name (Xn g s t.args).1,(Xn g s t.args).2)else(t,s):=by
 cases t;simp only[T.mapS,T.kind,T.int,T.name,T.args];rfl
theorem QfD{σ:Type}(g:σ->Int->Int×σ):∀(s:σ) (l r:List T),Xn g s (l++r)=((Xn g s l).1++(Xn g (Xn g s l).2 r).1,(Xn g (Xn g s l).2 r).2)
 |s,[],r=>by simp[Xn]
 |s,t::l,r=>by simp only[QyL,Xn,QfD g _ l r]
theorem Qa1{σ:Type}(g:σ->Int->Int×σ):∀(s:σ) (l:List T),(Xn g s l).1.length=l.length
 |s,[]=>by simp[Xn]
 |s,t::l=>by simp only[Xn,Qyw,Qa1 g _ l]
theorem QoC{σ:Type}(g:σ->Int->Int×σ)(s:σ){l:List T}{k:Nat}(h:k<l.length) :
  (Xn g s (l.take (k+1))).1=(Xn g s (l.take k)).1++[(T.mapS g (Xn g s (l.take k)).2 l[k]).1]/\(Xn g s (l.take (k+1))).2=(T.mapS g (Xn g s (l.take k)).2 l[k]).2:=by
 rw[QAp h,QfD]
 exact⟨by simp[Xn],by simp[Xn]⟩
def gNum:List Int->Int->Int×List Int:=fun s n=>((plc (ins s n) n:Nat),ins s n)
mutual
theorem T.QxR:∀(s:List Int) (t:T) (r:List Int),T.mapS gNum s t=(t.map fun n=>((plc (ded s t.vars++r) n:Nat):Int),ded s t.vars)
 |s,.mk k i n l,r=>by
  simp only[T.mapS,T.map,T.vars]
  split
  ·rename_i h
   simp only[gNum,ded]
   rw[QiU r (Qhn.2 (.inr rfl))]
  ·split
   ·rw[Qbi s l r]
   ·rfl
theorem Qbi:∀(s:List Int) (l:List T) (r:List Int),Xn gNum s l=(maps (fun n=>((plc (ded s (Xz l)++r) n:Nat):Int)) l,ded s (Xz l))
 |s,[],r=>rfl
 |s,t::l,r=>by
  obtain⟨q,hq⟩:=QbJ (ded s t.vars) (Xz l)
  simp only[Xn,maps,Xz]
  rw[T.QxR s t (q++r)]
  simp only
  rw[Qbi _ l r]
  simp only[Qaj,hq,Qze]
end
def ZA(s:List Int):List (Int×AV):=s.zipIdx.map fun p=>(p.1,AV.v (.int .i64 ((p.2:Nat):Int)))
theorem Qhq(s:List Int)(n:Int):ZA (s++[n])=ZA s++[(n,.v (.int .i64 s.length))]:=by
 simp[ZA,List.zipIdx_append]
theorem Qhu(n:Int):∀(s:List Int),QjD n (ZA s)=if n∈s then some (.v (.int .i64 (plc s n:Nat)))else none:=by
 have gen:∀(s:List Int) (k:Nat),QjD n ((s.zipIdx k).map fun p=>(p.1,AV.v (.int .i64 ((p.2:Nat):Int))))=if n∈s then some (.v (.int .i64 ((k+plc s n:Nat):Int)))else none:=by
  intro s
  induction s with
  |nil=>intro k;rfl
  |cons a s ih =>
   intro k
   simp only[List.zipIdx_cons,Qyy,QjD,ih]
   by_cases h:n=a
   ·subst h;simp[plc]
   ·rw[Qzf h]
    simp only[Qzn,h,false_or,plc,Qzf (fun e:a=n=>h e.symm)]
    split
    ·congr 3;omega
    ·rfl
 intro s
 have:=gen s 0
 simpa [ZA]using this
def Qu{X σ:Type}(g:σ->X->X×σ):σ->List X->List X×σ
 |s,[]=>([],s)
 |s,x::l=>((g s x).1::(Qu g (g s x).2 l).1,(Qu g (g s x).2 l).2)
theorem Qcm{σ:Type}(g:σ->Int->Int×σ):∀(s:σ) (l:List T),Xn g s l=Qu (T.mapS g) s l
 |s,[]=>rfl
 |s,t::l=>by rw[Xn,Qu,Qcm g _ l]
theorem Qan{X σ:Type}(g:σ->X->X×σ):∀(s:σ) (l:List X),(Qu g s l).1.length=l.length
 |s,[]=>rfl
 |s,x::l=>by simp only[Qu,Qyw,Qan g _ l]
def mapB(s:List Int):AB:=.map (imap (ZA s))
theorem ZJ(s:List Int)(n:Nat):(mapB s).Below n:=by
 intro kv hkv
 simp only[imap,ZA,QzD]at hkv
 obtain⟨_,⟨_,_,rfl⟩,rfl⟩:=hkv
 exact .v _
theorem Qez(s:List Int):(imap (ZA s)).length=s.length:=by simp[imap,ZA]
theorem Qfz{X σ:Type}(g:σ->X->X×σ):∀(s:σ) (l r:List X),Qu g s (l++r)=((Qu g s l).1++(Qu g (Qu g s l).2 r).1,(Qu g (Qu g s l).2 r).2)
 |s,[],r=>by simp[Qu]
 |s,x::l,r=>by simp only[QyL,Qu,Qfz g _ l r]
mutual
theorem T.Qx4(f:Int->Int):∀t:T,(t.map f).vars=t.vars.map f
 | .mk k i n l=>by
  simp only[T.map,T.vars]
  by_cases h1:k=1
  ·simp[h1,T.vars]
  ·by_cases h2:k=2
   ·simp only[Qzf h1,Qzh h2,T.vars];exact Qfo f l
   ·simp[h1,h2,T.vars]
theorem Qfo(f:Int->Int):∀l:List T,Xz (maps f l)=(Xz l).map f
 |[]=>rfl
 |t::l=>by rw[maps,Xz,Xz,T.Qx4 f t,Qfo f l,Qz3]
end
mutual
theorem T.map_map(f g:Int->Int):∀t:T,(t.map f).map g=t.map fun n=>g (f n)
 | .mk k i n l=>by
  simp only[T.map]
  by_cases h1:k=1
  ·simp[h1,T.map]
  ·by_cases h2:k=2
   ·simp only[Qzf h1,Qzh h2,T.map];rw[Qhm f g l]
   ·simp[h1,h2,T.map]
theorem Qhm(f g:Int->Int):∀l:List T,maps g (maps f l)=maps (fun n=>g (f n)) l
 |[]=>rfl
 |t::l=>by rw[maps,maps,maps,T.map_map f g t,Qhm f g l]
end
mutual
theorem T.map_congr{f g:Int->Int}:∀(t:T),(∀v∈t.vars,f v=g v)->t.map f=t.map g
 | .mk k i n l,h=>by
  simp only[T.map,T.vars]at h ⊢
  by_cases h1:k=1
  ·simp only[Qzh h1]at h ⊢;rw[h i (by simp)]
  ·by_cases h2:k=2
   ·simp only[Qzf h1,Qzh h2]at h ⊢;rw[Qe9 l h]
   ·simp[h1,h2]
theorem Qe9{f g:Int->Int}:∀(l:List T),(∀v∈Xz l,f v=g v)->maps f l=maps g l
 |[],_=>rfl
 |t::l,h=>by
  rw[maps,maps,T.map_congr t fun v hv=>h v (by rw[Xz];exact QzH.2 (.inl hv)),Qe9 l fun v hv=>h v (by rw[Xz];exact QzH.2 (.inr hv))]
end
inductive Res (α:Type) where
 |ok (a:α) (r:List UInt8)
 |err (e:Int)
def mkB(l:List UInt8):ByteArray:=⟨l.toArray⟩
def isD(c:UInt8):Bool:=decide (48<=c.toNat/\c.toNat<=57)
def isL(c:UInt8):Bool:=decide (97<=c.toNat/\c.toNat<=122\/65<=c.toNat/\c.toNat<=90\/c.toNat=95)
def isW(c:UInt8):Bool:=isL c||isD c
def skipSp:List UInt8->List UInt8
 |[]=>[]
 |c::r=>if c.toNat=32 then skipSp r else c::r
def headD:List UInt8->Bool
 |c::_=>isD c
 |[]=>false
def numVal(l:List UInt8):Nat:=l.foldl (fun n c=>10 * n+(c.toNat - 48)) 0
def eB:ByteArray:={data:=#[]}
def pInt(s:Bool)(sign:Int):List UInt8->Res T
 |[]=>.err 16
 |c::r=>if c.toNat=48 then(if sign<0\/(s&&headD r)=true then .err 16 else .ok (.mk 0 0 eB []) r)else
  if numVal ((c::r).takeWhile isD)<=2147483648 then .ok (.mk 0 (sign * numVal ((c::r).takeWhile isD)) eB []) ((c::r).dropWhile isD)else .err 5
def varV(s:ByteArray):Option Nat:=match Lib.decFrom 0 (s.data.toList.drop 1)with
 |some k=>if k<=1048576/\s.data.toList=(vOf (decN k)).data.toList then some k else none
 |none=>none
def Qvv(ex:List UInt8->Res T):Nat->List T->List UInt8->Res (List T)
 |0,_,_=>.err 16
 |m+1,l,r=>match skipSp r with
  |[]=>.err 16
  |c::r2=>if c.toNat=44 then(match ex r2 with
    | .ok t r3=>Qvv ex m (l++[t]) r3
    | .err e=>.err e)else if c.toNat=41 then .ok l r2 else .err 16
def Qwx(ex:List UInt8->Res T)(r:List UInt8):Res (List T):=match skipSp r with
 |[]=>.ok [] []
 |c::r2=>if c.toNat=40 then(match ex r2 with
   | .ok t r3=>Qvv ex (r3.length+1) [t] r3
   | .err e=>.err e)else .ok [] (c::r2)
def Qwy(ex:List UInt8->Res T)(r:List UInt8):Res T :=
 if (r.headD 0).toNat<97 then(match varV (mkB (r.takeWhile isW))with
  |some k=>.ok (.mk 1 k eB []) (r.dropWhile isW)
  |none=>.err 7)else
 if X2 (mkB (r.takeWhile isW))=true then(match Qwx ex (r.dropWhile isW)with
  | .ok l r2=>.ok (.mk 2 0 (mkB (r.takeWhile isW)) l) r2
  | .err e=>.err e)else .err 7
def Qvw(s:Bool)(ex:List UInt8->Res T)(r:List UInt8):Res T:=match skipSp r with
 |[]=>.err 16
 |c::r2 =>
  if isD c=true then pInt s 1 (c::r2)else
  if c.toNat=45 then(if headD r2=true then pInt s (-1) r2 else .err 16)else
  if isL c=true then Qwy ex (c::r2)else
  if c.toNat=40 then(match ex r2 with
   | .ok t r3=>(match skipSp r3 with
    |d::r4=>if d.toNat=41 then .ok t r4 else .err 16
    |[]=>.err 16)
   | .err e=>.err e)else .err 16
def QpL(op:List UInt8->Res T)(st:Int):Nat->T->List UInt8->Res T
 |0,t,r=>.ok t (skipSp r)
 |m+1,t,r=>match skipSp r with
  |[]=>.ok t []
  |c::r2=>if ofB (mkB [c])=st then(match op r2 with
    | .ok u r3=>QpL op st m (.mk 2 0 (mkB [c]) [t,u]) r3
    | .err e=>.err e)else .ok t (c::r2)
def chain(op:List UInt8->Res T)(st:Int)(r:List UInt8):Res T:=match op r with
 | .ok t r2=>QpL op st (r2.length+1) t r2
 | .err e=>.err e
def Qvu(s:Bool):Nat->List UInt8->Res T
 |0=>fun _=>.err 16
 |n+1=>chain (chain (Qvw s (Qvu s n)) 2) 1
structure Tk where
  kind : Int
  pos : Int
  text : ByteArray
structure PS where
  toks : List Tk
  names : List ByteArray
inductive PR (α : Type) where
  | ok (a : α) (s : PS)
  | err (pos e : Int)
def PR.bind {α β : Type} (x : PR α) (f : α -> PS -> PR β) : PR β := match x with
  | .ok a s => f a s
  | .err p e => .err p e
def PS.tk (s : PS) : Tk := s.toks.headD ⟨0, 0, eB⟩
def PS.nx (s : PS) : PS := ⟨match s.toks with | _ :: u :: r => u :: r | l => l, s.names⟩
def PS.is (s : PS) (b : List UInt8) : Bool := (s.tk.kind == 4) && (s.tk.text.toList == b)
def PS.oneOf (s : PS) (l : List (List UInt8)) : Bool := l.any s.is
def XE (b : List UInt8) (s : PS) : PR Unit := if s.is b then .ok () s.nx else .err s.tk.pos 16
def QaM (s : PS) : PR ByteArray := if s.tk.kind ≠ 1 then .err s.tk.pos 16 else if resB s.tk.text then .err s.tk.pos 7 else .ok s.tk.text s.nx
def nameAt (l : List ByteArray) (x : ByteArray) : Nat := l.findIdx fun y => y.toList == x.toList
def pVari (x : ByteArray) (s : PS) : T × PS :=
  if nameAt s.names x < s.names.length /\ x.toList ≠ [95] then (.mk 1 (nameAt s.names x : Nat) eB [], s) else (.mk 1 (s.names.length : Nat) eB [], ⟨s.toks, s.names ++ [x]⟩)
def valT (x : ByteArray) : Int := (numVal x.toList : Nat)
def sAt : List UInt8 := [64]
def Yb : List UInt8 := [44]
def sDot : List UInt8 := [46]
def sLp : List UInt8 := [40]
def sRp : List UInt8 := [41]
def sBar : List UInt8 := [124]
def QeN : List UInt8 := [47]
def QdC : List UInt8 := [92]
def QhF : List UInt8 := [45]
def ZN : List UInt8 := [60, 61, 62]
def Qc4 : List UInt8 := [61, 61, 62]
def Xq : List (List UInt8) := [[42], [47], [37]]
def Yr : List (List UInt8) := [[43], [45]]
def ZV (ex : PS -> PR T) : Nat -> List T -> PS -> PR (List T)
  | 0, _, s => .err s.tk.pos 16
  | m + 1, l, s => (ex s).bind fun t s => if s.is Yb then ZV ex m (l ++ [t]) s.nx else (XE sRp s).bind fun _ s => .ok (l ++ [t]) s
def Zq (ex : PS -> PR T) (s : PS) : PR G := (QaM s).bind fun x s => if s.is sLp then (ZV ex s.toks.length [] s.nx).bind fun l s => .ok ⟨0, x, l⟩ s else .ok ⟨0, x, []⟩ s
def pOpT (ex : PS -> PR T) (s : PS) : PR T :=
  if s.tk.kind = 3 then .ok (.mk 0 (valT s.tk.text) eB []) s.nx else
  if s.tk.kind = 2 then .ok (pVari s.tk.text s.nx).1 (pVari s.tk.text s.nx).2 else
  if s.tk.kind = 1 then (Zq ex s).bind fun a s => .ok (.mk 2 0 a.name a.args) s else
  if s.is QhF then (if s.nx.tk.kind ≠ 3 \/ s.nx.tk.pos ≠ s.tk.pos + 1 then .err s.nx.tk.pos 16 else .ok (.mk 0 (-valT s.nx.tk.text) eB []) s.nx.nx) else
  if s.is sLp then (ex s.nx).bind fun t s => (XE sRp s).bind fun _ s => .ok t s else .err s.tk.pos 16
def XW (op : PS -> PR T) (ops : List (List UInt8)) : Nat -> T -> PS -> PR T
  | 0, t, s => .ok t s
  | m + 1, t, s => if s.oneOf ops then (op s.nx).bind fun u s2 => XW op ops m (.mk 2 0 s.tk.text [t, u]) s2 else .ok t s
def XB (op : PS -> PR T) (ops : List (List UInt8)) (s : PS) : PR T := (op s).bind fun t s => XW op ops s.toks.length t s
def Ys : Nat -> PS -> PR T
  | 0, s => .err s.tk.pos 16
  | n + 1, s => XB (XB (pOpT (Ys n)) Xq) Yr s
def XD (s : PS) : PR T := Ys (s.toks.length + 1) s
def cmpOp (s : PS) : Option (Int × Bool) :=
  if s.tk.kind = 1 then (if s.tk.text.toList = [105, 115] then some (4, false) else none) else
  if s.tk.kind ≠ 4 then none else
  if s.tk.text.toList = [61] then some (3, false) else if s.tk.text.toList = [61, 61] then some (5, false) else if s.tk.text.toList = [92, 61] then some (6, false) else
  if s.tk.text.toList = [60] then some (7, false) else if s.tk.text.toList = [61, 60] then some (8, false) else if s.tk.text.toList = [62] then some (7, true) else
  if s.tk.text.toList = [62, 61] then some (8, true) else if s.tk.text.toList = [61, 58, 61] then some (9, false) else if s.tk.text.toList = [61, 92, 61] then some (10, false) else none
def QdZ (op : Int) (s : PS) : PR G := (XE sLp s).bind fun _ s => (XD s).bind fun t s => (XE sRp s).bind fun _ s => .ok ⟨op, eB, [t]⟩ s
def ZQ (s : PS) : PR G :=
  if s.tk.kind = 1 /\ resB s.tk.text = true then
    (if s.tk.text.toList = [116, 114, 117, 101] then .ok ⟨1, eB, []⟩ s.nx else if s.tk.text.toList = [102, 97, 105, 108] then .ok ⟨2, eB, []⟩ s.nx else
     if s.tk.text.toList = [105, 110, 116] then QdZ 11 s.nx else if s.tk.text.toList = [103, 114, 111, 117, 110, 100] then QdZ 12 s.nx else .err s.tk.pos 7)
  else (XD s).bind fun t s2 => match cmpOp s2 with
    | some (op, turn) => (XD s2.nx).bind fun u s3 => .ok ⟨op, eB, if turn then [u, t] else [t, u]⟩ s3
    | none => if s.tk.kind = 1 /\ t.name.toList = s.tk.text.toList then .ok ⟨0, t.name, t.args⟩ s2 else .err s2.tk.pos 16
def YU (most : Nat) : Nat -> List G -> PS -> PR (List G)
  | 0, _, s => .err s.tk.pos 16
  | m + 1, l, s => if most <= l.length then .err s.tk.pos 6 else (ZQ s).bind fun g s2 =>
      if Qo g = false then .err s.tk.pos 6 else if s2.is Yb then YU most m (l ++ [g]) s2.nx else .ok (l ++ [g]) s2
def YP (most : Nat) (s : PS) : PR (List G) := YU most (s.toks.length + 1) [] s
def YO (pre : Nat) : Nat -> List G -> PS -> PR (List G)
  | 0, _, s => .err s.tk.pos 16
  | m + 1, l, s => if 4 <= pre + l.length then .err s.tk.pos 6 else (Zq XD s).bind fun g s2 =>
      if Qt g = false then .err s.tk.pos 6 else if s2.is Yb then YO pre m (l ++ [g]) s2.nx else .ok (l ++ [g]) s2
def Yt (pre : Nat) (s : PS) : PR (List G) := YO pre (s.toks.length + 1) [] s
def ZW (name : ByteArray) (keep remove : List G) (s : PS) : PR Rl := (YP 12 s).bind fun b s =>
  let fin (g b : List G) (s : PS) : PR Rl := (XE sDot s).bind fun _ s => .ok ⟨name, keep, remove, g, match b with | [x] => if x.op = 1 then [] else b | _ => b, 0⟩ s
  if s.is sBar then (YP 12 s.nx).bind fun b2 s => fin b b2 s else fin [] b s
def ZS (s : PS) : PR Rl :=
  let body (name : ByteArray) (s : PS) : PR Rl := (Yt 0 s).bind fun first s =>
    if s.is ZN then ZW name [] first s.nx else if s.is Qc4 then ZW name first [] s.nx else
    if s.is QdC then (Yt first.length s.nx).bind fun rem s => (XE ZN s).bind fun _ s => ZW name first rem s else .err s.tk.pos 16
  if s.tk.kind = 1 /\ s.nx.is sAt = true then (QaM s).bind fun x s => body x s.nx else body eB s
def Rl.allV (r : Rl) : List Int := (r.keep ++ r.remove ++ r.guard ++ r.body).flatMap fun g => Xz g.args
def Rl.numd (r : Rl) : Rl :=
  let f := fun v => ((plc (ded [] r.allV) v : Nat) : Int)
  let m := List.map fun g : G => (⟨g.op, g.name, maps f g.args⟩ : G)
  ⟨r.name, m r.keep, m r.remove, m r.guard, m r.body, (ded [] r.allV).length⟩
def Qa4 (s : PS) : PR Rl := (ZS ⟨s.toks, []⟩).bind fun r s => .ok r.numd s
def Qa3 : Nat -> List Dc -> PS -> PR (List Dc)
  | 0, _, s => .err s.tk.pos 16
  | m + 1, l, s => if 30 <= l.length then .err s.tk.pos 6 else (QaM s).bind fun x s => (XE QeN s).bind fun _ s =>
      if s.tk.kind ≠ 3 then .err s.tk.pos 16 else if valT s.tk.text > 6 then .err s.tk.pos 6 else
      if s.nx.is Yb then Qa3 m (l ++ [⟨x, valT s.tk.text⟩]) s.nx.nx else (XE sDot s.nx).bind fun _ s2 => .ok (l ++ [⟨x, valT s.tk.text⟩]) s2
def QkG : List UInt8 := [99, 111, 110, 115, 116, 114, 97, 105, 110, 116]
def ZP : Nat -> List Dc -> PS -> PR (List Dc)
  | 0, l, s => .ok l s
  | m + 1, l, s => if s.tk.kind = 1 /\ s.tk.text.toList = QkG then (Qa3 (s.toks.length + 1) l s.nx).bind fun l s => ZP m l s else .ok l s
def QaI : Nat -> List Rl -> PS -> PR (List Rl)
  | 0, l, s => .ok l s
  | m + 1, l, s => if s.tk.kind = 0 then .ok l s else if 40 <= l.length then .err s.tk.pos 6 else (Qa4 s).bind fun r s => QaI m (l ++ [r]) s
def QjU (s : PS) : PR Pg := (ZP (s.toks.length + 1) [] s).bind fun d s => (QaI (s.toks.length + 1) [] s).bind fun r s => .ok ⟨d, r⟩ s
def pEnd (s : PS) : PR Unit := if s.tk.kind = 0 then .ok () s else .err s.tk.pos 16
def QbD (s : PS) : PR Rl := (Qa4 s).bind fun r s => (pEnd s).bind fun _ s => .ok r s
def X1 (l : List G) : List Int := l.flatMap fun g => Xz g.args
def isSp(c:UInt8):Bool:=decide (c.toNat=32\/c.toNat=9\/c.toNat=10\/c.toNat=13)
def Xy:Bool->List UInt8->List UInt8
 |_,[]=>[]
 |true,c::r=>if c.toNat=10 then Xy false r else Xy true r
 |false,c::r=>if isSp c then Xy false r else if c.toNat=35 then Xy true r else c::r
def XQ:List (List UInt8):=[[61,58,61],[61,92,61],[60,61,62],[61,61,62],[61,61],[92,61],[61,60],[62,61],[64],[44],[46],[40],[41],[124],[47],[92],[43],[45],[42],[37],[61],[60],[62]]
def QhL(l:List UInt8):Option (List UInt8):=XQ.find? fun x=>x.isPrefixOf l
def ZO(l:List UInt8):Int×List UInt8 ⊕ Int:=match l with
 |[]=>.inl (0,[])
 |c::r =>
  if isL c then(if 40<((c::r).takeWhile isW).length then .inr 7 else .inl (if 97<=c.toNat then 1 else 2,(c::r).takeWhile isW))else
  if isD c then(if 2147483648<numVal ((c::r).takeWhile isD)then .inr 5 else .inl (3,(c::r).takeWhile isD))else
  match QhL (c::r)with
  |some x=>.inl (4,x)
  |none=>.inr 16
def Qbt(tot:Nat):Nat->List UInt8->List Tk ⊕ (Int×Int)
 |0,_=>.inl []
 |m+1,l=>match ZO (Xy false l)with
  | .inr e=>.inr (((tot - (Xy false l).length:Nat):Int),e)
  | .inl (k,x)=>if k=0 then .inl [⟨0,((tot - (Xy false l).length:Nat):Int),eB⟩]else
   match Qbt tot m ((Xy false l).drop x.length)with
   | .inl ts=>.inl (⟨k,((tot - (Xy false l).length:Nat):Int),mkB x⟩::ts)
   | .inr e=>.inr e
def YV(l:List UInt8):List Tk ⊕ (Int×Int):=if 16384<l.length then .inr (0,6)else Qbt l.length (l.length+1) l
theorem Qdu:∀(b:Bool) (l:List UInt8),(Xy b l).length<=l.length
 |_,[]=>by rw[Xy];exact Qzl _
 |true,c::r=>by
  rw[Xy,Qyw]
  split
  ·exact QBd (Qdu false r)
  ·exact QBd (Qdu true r)
 |false,c::r=>by
  rw[Xy]
  split
  ·exact QBd (Qdu false r)
  ·split
   ·exact QBd (Qdu true r)
   ·exact Qzl _
theorem QlQ{l x:List UInt8}(h:QhL l=some x):0<x.length/\x.length<=3/\x.isPrefixOf l=true:=by
 have h1:=List.mem_of_find?_eq_some h
 have h2:=List.find?_some h
 refine⟨?_,?_,h2⟩
 ·have:∀x∈XQ,0<x.length:=by decide
  exact this x h1
 ·have:∀x∈XQ,x.length<=3:=by decide
  exact this x h1
def PS.wf(s:PS):Prop:=∃l e,s.toks=l++[e]/\e.kind=0/\∀t∈l,t.kind≠0
theorem Qae{s:PS}(h:s.wf):s.nx.wf:=by
 obtain⟨l,e,hl,he,ha⟩:=h
 cases l with
 |nil=>exact⟨[],e,by simp only[PS.nx,hl,QyK],he,ha⟩
 |cons t l =>
  have e2:s.nx.toks=l++[e]:=by
   cases l with
   |nil=>simp only[PS.nx,hl,QyL,QyK]
   |cons u l=>simp only[PS.nx,hl,QyL]
  exact⟨l,e,e2,he,fun x hx=>ha x (by simp[hx])⟩
theorem QwY{s:PS}(h:s.wf)(hk:s.tk.kind≠0):s.toks=s.tk::s.nx.toks:=by
 obtain⟨l,e,hl,he,ha⟩:=h
 cases l with
 |nil =>
  have:s.tk=e:=by simp only[PS.tk,hl,QyK,Qz4]
  rw[this]at hk;exact absurd he hk
 |cons t l =>
  have e1:s.tk=t:=by simp only[PS.tk,hl,QyL,Qz4]
  have e2:s.nx.toks=l++[e]:=by
   cases l with
   |nil=>simp only[PS.nx,hl,QyL,QyK]
   |cons u l=>simp only[PS.nx,hl,QyL]
  rw[e1,e2,hl];rfl
theorem XX{s:PS}(h:s.wf)(hk:s.tk.kind≠0):s.nx.toks.length+1=s.toks.length:=by
 rw[QwY h hk];rfl
theorem QuM{s:PS}(h:s.wf):s.nx.toks.length<=s.toks.length:=by
 by_cases hk:s.tk.kind=0
 ·unfold PS.nx
  split
  ·rename_i he;rw[he];simp
  ·exact Qzl _
 ·have:=XX h hk;omega
theorem Qxv{s:PS}{b:List UInt8}(h:s.is b=true):s.tk.kind=4:=by
 simp only[PS.is,Qzk,QAb]at h;exact h.1
theorem Qfb{s:PS}{l:List (List UInt8)}(h:s.oneOf l=true):s.tk.kind=4:=by
 rw[PS.oneOf,QBf]at h
 obtain⟨b,_,hb⟩:=h
 exact Qxv hb
theorem bind_ok{α β:Type}{x:PR α}{f:α->PS->PR β}{b:β}{s2:PS}(h:x.bind f = .ok b s2):∃a s,x = .ok a s/\f a s = .ok b s2:=by
 cases x with
 |ok a s=>exact⟨a,s,rfl,h⟩
 |err p e=>cases h
def Eat{α:Type}(k:Nat)(f:PS->PR α):Prop:=∀s,s.wf->∀a s2,f s = .ok a s2->s2.wf/\s2.toks.length+k<=s.toks.length
theorem Eat.less{α:Type}{j k:Nat}{f:PS->PR α}(h:Eat k f)(hj:j<=k):Eat j f:=fun s hs a s2 e=>by
 obtain⟨h1,h2⟩:=h s hs a s2 e
 exact⟨h1,by omega⟩
theorem Qcy(b:List UInt8):Eat 1 (XE b):=fun s hs a s2 e=>by
 unfold XE at e
 split at e
 ·rename_i h
  cases e
  exact⟨Qae hs,QAT (XX hs (by rw[Qxv h];decide))⟩
 ·cases e
theorem Qex:Eat 1 QaM:=fun s hs a s2 e=>by
 unfold QaM at e
 split at e
 ·cases e
 ·rename_i h
  split at e
  ·cases e
  ·cases e
   exact⟨Qae hs,QAT (XX hs (by omega))⟩
theorem Qm2{ex:PS->PR T}(H:Eat 0 ex):∀(m:Nat) (l:List T),Eat 1 (ZV ex m l)
 |0,_=>fun s _ a s2 e=>by cases e
 |m+1,l=>fun s hs a s2 e=>by
  rw[ZV]at e
  obtain⟨t,s1,h1,h2⟩:=bind_ok e
  obtain⟨w1,l1⟩:=H s hs t s1 h1
  split at h2
  ·rename_i hc
   have hl:=XX w1 (by rw[Qxv hc];decide)
   obtain⟨w2,l2⟩:=Qm2 H m _ s1.nx (Qae w1) a s2 h2
   exact⟨w2,by omega⟩
  ·obtain⟨u,s3,h3,h4⟩:=bind_ok h2
   cases h4
   obtain⟨w2,l2⟩:=Qcy _ s1 w1 u _ h3
   exact⟨w2,by omega⟩
theorem QfX{ex:PS->PR T}(H:Eat 0 ex):Eat 1 (Zq ex):=fun s hs a s2 e=>by
 rw[Zq]at e
 obtain⟨x,s1,h1,h2⟩:=bind_ok e
 obtain⟨w1,l1⟩:=Qex s hs x s1 h1
 split at h2
 ·rename_i hc
  have hl:=XX w1 (by rw[Qxv hc];decide)
  obtain⟨l,s3,h3,h4⟩:=bind_ok h2
  cases h4
  obtain⟨w2,l2⟩:=Qm2 H _ _ s1.nx (Qae w1) l _ h3
  exact⟨w2,by omega⟩
 ·cases h2
  exact⟨w1,l1⟩
theorem QhS(x:ByteArray)(s:PS):(pVari x s).2.toks=s.toks:=by unfold pVari;split <;> rfl
theorem Qhx{ex:PS->PR T}(H:Eat 0 ex):Eat 1 (pOpT ex):=fun s hs a s2 e=>by
 rw[pOpT]at e
 split at e
 ·rename_i h
  cases e
  exact⟨Qae hs,QAT (XX hs (by omega))⟩
 split at e
 ·rename_i h
  cases e
  have ht:=QhS s.tk.text s.nx
  refine⟨?_,by rw[ht];exact QAT (XX hs (by omega))⟩
  obtain⟨l,e',h1,h2,h3⟩:=Qae hs
  exact⟨l,e',by rw[ht];exact h1,h2,h3⟩
 split at e
 ·obtain⟨g,s1,h1,h2⟩:=bind_ok e
  cases h2
  exact QfX H s hs g _ h1
 split at e
 ·rename_i h
  split at e
  ·cases e
  ·rename_i hn
   cases e
   have hl:=XX hs (by rw[Qxv h];decide)
   have hle:=QuM (Qae hs)
   exact⟨Qae (Qae hs),by omega⟩
 split at e
 ·rename_i h
  have hl:=XX hs (by rw[Qxv h];decide)
  obtain⟨t,s1,h1,h2⟩:=bind_ok e
  obtain⟨w1,l1⟩:=H s.nx (Qae hs) t s1 h1
  obtain⟨u,s3,h3,h4⟩:=bind_ok h2
  cases h4
  obtain⟨w2,l2⟩:=Qcy _ s1 w1 u _ h3
  exact⟨w2,by omega⟩
 ·cases e
theorem Qip{op:PS->PR T}(H:Eat 0 op)(ops:List (List UInt8)):∀(m:Nat) (t:T),Eat 0 (XW op ops m t)
 |0,t=>fun s hs a s2 e=>by cases e;exact⟨hs,Qzl _⟩
 |m+1,t=>fun s hs a s2 e=>by
  rw[XW]at e
  split at e
  ·rename_i h
   have hl:=XX hs (by rw[Qfb h];decide)
   obtain⟨u,s1,h1,h2⟩:=bind_ok e
   obtain⟨w1,l1⟩:=H s.nx (Qae hs) u s1 h1
   obtain⟨w2,l2⟩:=Qip H ops m _ s1 w1 a s2 h2
   exact⟨w2,by omega⟩
  ·cases e;exact⟨hs,Qzl _⟩
theorem QbU{op:PS->PR T}{k:Nat}(H:Eat k op)(ops:List (List UInt8)):Eat k (XB op ops):=fun s hs a s2 e=>by
 rw[XB]at e
 obtain⟨t,s1,h1,h2⟩:=bind_ok e
 obtain⟨w1,l1⟩:=H s hs t s1 h1
 obtain⟨w2,l2⟩:=Qip (H.less (Qzy _)) ops _ t s1 w1 a s2 h2
 exact⟨w2,by omega⟩
theorem QcK:∀n,Eat 1 (Ys n)
 |0=>fun s _ a s2 e=>by cases e
 |n+1=>QbU (QbU (Qhx ((QcK n).less (Qzy _))) Xq) Yr
theorem bind_congr{α β:Type}{x:PR α}{f g:α->PS->PR β}(h:∀a s,x = .ok a s->f a s=g a s):x.bind f=x.bind g:=by
 cases x with
 |ok a s=>exact h a s rfl
 |err p e=>rfl
theorem Qgt{ex ex':PS->PR T}(H:Eat 0 ex){N:Nat}(hx:∀s,s.wf->s.toks.length<=N->ex s=ex' s):∀(m m':Nat) (l:List T) (s:PS),s.wf->s.toks.length<=N->s.toks.length<m->s.toks.length<m'->ZV ex m l s=ZV ex' m' l s
 |0,_,_,_,_,_,h,_=>by omega
 |_,0,_,_,_,_,_,h=>by omega
 |m+1,m'+1,l,s,hs,hN,h,h'=>by
  rw[ZV,ZV,<-hx s hs hN]
  refine bind_congr fun t s1 h1=>?_
  obtain⟨w1,l1⟩:=H s hs t s1 h1
  split
  ·rename_i hc
   have hl:=XX w1 (by rw[Qxv hc];decide)
   exact Qgt H hx m m' _ s1.nx (Qae w1) (by omega) (by omega) (by omega)
  ·rfl
theorem QaK{op op':PS->PR T}(H:Eat 0 op)(ops:List (List UInt8)){N:Nat}(hx:∀s,s.wf->s.toks.length<=N->op s=op' s):∀(m m':Nat) (t:T) (s:PS),s.wf->s.toks.length<=N+1->s.toks.length<=m->s.toks.length<=m'->XW op ops m t s=XW op' ops m' t s
 |0,m',t,s,hs,hN,h,_=>by
  obtain⟨l,e,hl,_⟩:=hs
  rw[hl]at h;simp at h
 |m+1,0,t,s,hs,hN,_,h=>by
  obtain⟨l,e,hl,_⟩:=hs
  rw[hl]at h;simp at h
 |m+1,m'+1,t,s,hs,hN,h,h'=>by
  rw[XW,XW]
  split
  ·rename_i hc
   have hl:=XX hs (by rw[Qfb hc];decide)
   rw[<-hx s.nx (Qae hs) (by omega)]
   refine bind_congr fun u s1 h1=>?_
   obtain⟨w1,l1⟩:=H s.nx (Qae hs) u s1 h1
   exact QaK H ops hx m m' _ s1 w1 (by omega) (by omega) (by omega)
  ·rfl
theorem Qoj:∀(N n n':Nat),N<n->N<n'->∀s,s.wf->s.toks.length<=N->Ys n s=Ys n' s:=by
 intro N
 induction N with
 |zero=>intro n n' _ _ s hs h;obtain⟨l,e,hl,_⟩:=hs;rw[hl]at h;simp at h
 |succ N ih =>
  intro n n' hn hn' s hs h
  obtain⟨a,rfl⟩:∃a,n=a+1:=⟨n - 1,by omega⟩
  obtain⟨a',rfl⟩:∃a',n'=a'+1:=⟨n' - 1,by omega⟩
  have hE:=(QcK a).less (Qzy 1)
  have hop:∀s,s.wf->s.toks.length<=N+1->pOpT (Ys a) s=pOpT (Ys a') s:=fun s hs h=>by
   rw[pOpT,pOpT]
   split
   ·rfl
   split
   ·rfl
   split
   ·rename_i hk
    congr 1
    rw[Zq,Zq]
    refine bind_congr fun x s1 h1=>?_
    obtain⟨w1,l1⟩:=Qex s hs x s1 h1
    split
    ·rename_i hc
     have hl:=XX w1 (by rw[Qxv hc];decide)
     rw[Qgt hE (ex':=Ys a') (N:=N) (fun s hs h=>ih a a' (by omega) (by omega) s hs h) s1.toks.length s1.toks.length [] s1.nx (Qae w1) (by omega) (by omega) (by omega)]
    ·rfl
   split
   ·rfl
   split
   ·rename_i hc
    have hl:=XX hs (by rw[Qxv hc];decide)
    rw[ih a a' (by omega) (by omega) s.nx (Qae hs) (by omega)]
   ·rfl
  have hO:=(Qhx hE).less (Qzy 1)
  have hmul:∀s,s.wf->s.toks.length<=N+1->XB (pOpT (Ys a)) Xq s=XB (pOpT (Ys a')) Xq s:=fun s hs h=>by
   rw[XB,XB,<-hop s hs h]
   refine bind_congr fun t s1 h1=>?_
   obtain⟨w1,l1⟩:=hO s hs t s1 h1
   exact QaK hO Xq hop _ _ t s1 w1 (by omega) (by omega) (by omega)
  have hM:=QbU hO Xq
  show(XB (pOpT (Ys a)) Xq s).bind (fun t s=>XW (XB (pOpT (Ys a)) Xq) Yr s.toks.length t s)=(XB (pOpT (Ys a')) Xq s).bind (fun t s=>XW (XB (pOpT (Ys a')) Xq) Yr s.toks.length t s)
  rw[<-hmul s hs h]
  refine bind_congr fun t s1 h1=>?_
  obtain⟨w1,l1⟩:=hM s hs t s1 h1
  exact QaK hM Yr hmul _ _ t s1 w1 (by omega) (by omega) (by omega)
theorem QaF:Eat 1 XD:=fun s hs a s2 e=>QcK _ s hs a s2 e
theorem Qfl{n:Nat}{s:PS}(hs:s.wf)(hn:s.toks.length<n):Ys n s=XD s:=Qoj s.toks.length n _ hn (QAV _) s hs (Qzl _)
theorem QnC(op:Int):Eat 1 (QdZ op):=fun s hs a s2 e=>by
 rw[QdZ]at e
 obtain⟨u,s1,h1,e⟩:=bind_ok e
 obtain⟨t,s3,h3,e⟩:=bind_ok e
 obtain⟨v,s4,h4,e⟩:=bind_ok e
 cases e
 obtain⟨w1,l1⟩:=Qcy _ s hs u s1 h1
 obtain⟨w2,l2⟩:=QaF s1 w1 t s3 h3
 obtain⟨w3,l3⟩:=Qcy _ s3 w2 v _ h4
 exact⟨w3,by omega⟩
theorem Qit{s:PS}{x:Int×Bool}(h:cmpOp s=some x):s.tk.kind≠0:=by
 unfold cmpOp at h
 split at h
 ·omega
 ·split at h
  ·cases h
  ·omega
theorem Qg2:Eat 1 ZQ:=fun s hs a s2 e=>by
 rw[ZQ]at e
 split at e
 ·rename_i hk
  have hl:=XX hs (by omega)
  have hw:=Qae hs
  split at e
  ·cases e;exact⟨hw,by omega⟩
  split at e
  ·cases e;exact⟨hw,by omega⟩
  split at e
  ·obtain⟨h1,h2⟩:=QnC 11 s.nx hw a s2 e
   exact⟨h1,by omega⟩
  split at e
  ·obtain⟨h1,h2⟩:=QnC 12 s.nx hw a s2 e
   exact⟨h1,by omega⟩
  ·cases e
 ·obtain⟨t,s1,h1,e⟩:=bind_ok e
  obtain⟨w1,l1⟩:=QaF s hs t s1 h1
  cases hc:cmpOp s1 with
  |some x =>
   obtain⟨op,turn⟩:=x
   rw[hc]at e
   simp only at e
   have hl:=XX w1 (Qit hc)
   obtain⟨u,s3,h3,e⟩:=bind_ok e
   cases e
   obtain⟨w2,l2⟩:=QaF s1.nx (Qae w1) u _ h3
   exact⟨w2,by omega⟩
  |none =>
   rw[hc]at e
   simp only at e
   split at e
   ·cases e;exact⟨w1,l1⟩
   ·cases e
theorem QiA(most:Nat):∀(m:Nat) (l:List G),Eat 1 (YU most m l)
 |0,_=>fun s _ a s2 e=>by cases e
 |m+1,l=>fun s hs a s2 e=>by
  rw[YU]at e
  split at e
  ·cases e
  ·obtain⟨g,s1,h1,e⟩:=bind_ok e
   obtain⟨w1,l1⟩:=Qg2 s hs g s1 h1
   split at e
   ·cases e
   ·split at e
    ·rename_i hc
     have hl:=XX w1 (by rw[Qxv hc];decide)
     obtain⟨w2,l2⟩:=QiA most m _ s1.nx (Qae w1) a s2 e
     exact⟨w2,by omega⟩
    ·cases e;exact⟨w1,l1⟩
theorem QkZ(most:Nat):Eat 1 (YP most):=fun s hs a s2 e=>QiA most _ [] s hs a s2 e
theorem QiC(pre:Nat):∀(m:Nat) (l:List G),Eat 1 (YO pre m l)
 |0,_=>fun s _ a s2 e=>by cases e
 |m+1,l=>fun s hs a s2 e=>by
  rw[YO]at e
  split at e
  ·cases e
  ·obtain⟨g,s1,h1,e⟩:=bind_ok e
   obtain⟨w1,l1⟩:=QfX (QaF.less (Qzy 1)) s hs g s1 h1
   split at e
   ·cases e
   ·split at e
    ·rename_i hc
     have hl:=XX w1 (by rw[Qxv hc];decide)
     obtain⟨w2,l2⟩:=QiC pre m _ s1.nx (Qae w1) a s2 e
     exact⟨w2,by omega⟩
    ·cases e;exact⟨w1,l1⟩
theorem Qk1(pre:Nat):Eat 1 (Yt pre):=fun s hs a s2 e=>QiC pre _ [] s hs a s2 e
theorem Qkb(name:ByteArray)(keep remove:List G):Eat 1 (ZW name keep remove):=fun s hs a s2 e=>by
 unfold ZW at e
 simp only at e
 obtain⟨b,s1,h1,e⟩:=bind_ok e
 obtain⟨w1,l1⟩:=QkZ 12 s hs b s1 h1
 split at e
 ·rename_i hc
  have hl:=XX w1 (by rw[Qxv hc];decide)
  obtain⟨b2,s3,h3,e⟩:=bind_ok e
  obtain⟨w2,l2⟩:=QkZ 12 s1.nx (Qae w1) b2 s3 h3
  obtain⟨u,s4,h4,e⟩:=bind_ok e
  cases e
  obtain⟨w3,l3⟩:=Qcy _ s3 w2 u _ h4
  exact⟨w3,by omega⟩
 ·obtain⟨u,s4,h4,e⟩:=bind_ok e
  cases e
  obtain⟨w3,l3⟩:=Qcy _ s1 w1 u _ h4
  exact⟨w3,by omega⟩
theorem Qq0:Eat 1 ZS:=fun s hs a s2 e=>by
 have body:∀(name:ByteArray),Eat 1 fun s=>(Yt 0 s).bind fun first s =>
   if s.is ZN then ZW name [] first s.nx else if s.is Qc4 then ZW name first [] s.nx else
   if s.is QdC then(Yt first.length s.nx).bind fun rem s=>(XE ZN s).bind fun _ s=>ZW name first rem s else .err s.tk.pos 16:=fun name s hs a s2 e=>by
  simp only at e
  obtain⟨f,s1,h1,e⟩:=bind_ok e
  obtain⟨w1,l1⟩:=Qk1 0 s hs f s1 h1
  split at e
  ·rename_i hc
   have hl:=XX w1 (by rw[Qxv hc];decide)
   obtain⟨w2,l2⟩:=Qkb name [] f s1.nx (Qae w1) a s2 e
   exact⟨w2,by omega⟩
  split at e
  ·rename_i hc
   have hl:=XX w1 (by rw[Qxv hc];decide)
   obtain⟨w2,l2⟩:=Qkb name f [] s1.nx (Qae w1) a s2 e
   exact⟨w2,by omega⟩
  split at e
  ·rename_i hc
   have hl:=XX w1 (by rw[Qxv hc];decide)
   obtain⟨r,s3,h3,e⟩:=bind_ok e
   obtain⟨w2,l2⟩:=Qk1 _ s1.nx (Qae w1) r s3 h3
   obtain⟨u,s4,h4,e⟩:=bind_ok e
   obtain⟨w3,l3⟩:=Qcy _ s3 w2 u s4 h4
   obtain⟨w4,l4⟩:=Qkb name f r s4 w3 a s2 e
   exact⟨w4,by omega⟩
  ·cases e
 unfold ZS at e
 simp only at e
 split at e
 ·obtain⟨x,s1,h1,e⟩:=bind_ok e
  obtain⟨w1,l1⟩:=Qex s hs x s1 h1
  have hle:=QuM w1
  obtain⟨w2,l2⟩:=body x s1.nx (Qae w1) a s2 e
  exact⟨w2,by omega⟩
 ·exact body eB s hs a s2 e
theorem QnN:Eat 1 Qa4:=fun s hs a s2 e=>by
 rw[Qa4]at e
 obtain⟨r,s1,h1,e⟩:=bind_ok e
 cases e
 exact Qq0 ⟨s.toks,[]⟩ hs r _ h1
def tkS(t u:Tk):Prop:=t.kind=u.kind/\t.text=u.text
def lSim:List Tk->List Tk->Prop
 |[],[]=>True
 |t::l,u::m=>tkS t u/\(∀t2 u2,l.head? = some t2->m.head? = some u2->t2.kind=3->t.kind=4/\t.text.toList=QhF->(t2.pos=t.pos+1↔u2.pos=u.pos+1))/\lSim l m
 |_,_=>False
def Ends(r:List Tk):Prop:=∃e,r=[e]/\e.kind=0/\e.text=eB
structure Sm (r:List Tk) (s s':PS):Prop where
 ex:∃l m e,s.toks=l++[e]/\(e.kind=0/\e.text=eB)/\(∀t∈l,t.kind≠0)/\s'.toks=m++r/\lSim l m
 w:s'.wf
 n:s.names=s'.names
theorem Sm.wf{r:List Tk}{s s':PS}(h:Sm r s s'):s.wf:=by
 obtain⟨l,m,e,h1,h2,h3,_⟩:=h.ex
 exact⟨l,e,h1,h2.1,h3⟩
def Lv(r:List Tk)(s:PS):Prop:=1<s.toks.length\/Ends r
def RelP{α:Type}(r:List Tk)(x y:PR α):Prop:=match x with
 | .ok a s2=>Lv r s2->∃s2',y = .ok a s2'/\Sm r s2 s2'
 | .err _ e=>Ends r->∃p,y = .err p e
theorem Sm.tk{r:List Tk}{s s':PS}(h:Sm r s s')(hl:Lv r s):tkS s.tk s'.tk:=by
 obtain⟨l,m,e,h1,h2,h3,h4,h5⟩:=h.ex
 cases l with
 |nil =>
  cases m with
  |cons u m=>exact h5.elim
  |nil =>
   rcases hl with hl|⟨e',rfl,he',hx'⟩
   ·rw[h1]at hl;simp at hl
   ·have a1:s.tk=e:=by simp only[PS.tk,h1,QyK,Qz4]
    have a2:s'.tk=e':=by simp only[PS.tk,h4,QyK,Qz4]
    rw[a1,a2]
    exact⟨by rw[h2.1,he'],by rw[h2.2,hx']⟩
 |cons t l =>
  cases m with
  |nil=>exact h5.elim
  |cons u m =>
   have a1:s.tk=t:=by simp only[PS.tk,h1,QyL,Qz4]
   have a2:s'.tk=u:=by simp only[PS.tk,h4,QyL,Qz4]
   rw[a1,a2];exact h5.1
theorem Sm.ne{r:List Tk}{s s':PS}(h:Sm r s s'):r≠[]:=by
 intro hr
 obtain⟨l,m,e,h1,h2,h3,h4,h5⟩:=h.ex
 obtain⟨l',e',g1,g2,g3⟩:=h.w
 subst hr
 rw[QyM]at h4
 rw[h4]at g1
 have key:∀(l m:List Tk),lSim l m->(∀t∈l,t.kind≠0)->∀u∈m,u.kind≠0:=by
  intro l
  induction l with
  |nil=>intro m h _ u hu;cases m with
   |nil=>cases hu
   |cons=>exact h.elim
  |cons t l ih =>
   intro m h ha u hu
   cases m with
   |nil=>exact h.elim
   |cons v m =>
    rcases Qzn.1 hu with rfl|hu
    ·rw[<-h.1.1];exact ha t (by simp)
    ·exact ih m h.2.2 (fun x hx=>ha x (by simp[hx])) u hu
 exact key l m h5 h3 e' (by rw[g1];simp) g2
theorem QjR{s:PS}{t:Tk}{l:List Tk}(h:s.toks=t::l)(hl:l≠[]):s.nx.toks=l:=by
 cases l with
 |nil=>exact absurd rfl hl
 |cons u l=>simp only[PS.nx,h]
theorem Qtk{s:PS}{t:Tk}(h:s.toks=[t]):s.nx.toks=[t]:=by simp only[PS.nx,h]
theorem Sm.nx{r:List Tk}{s s':PS}(h:Sm r s s')(hl:Lv r s):Sm r s.nx s'.nx:=by
 have hne:=h.ne
 refine⟨?_,Qae h.w,h.n⟩
 obtain⟨l,m,e,h1,h2,h3,h4,h5⟩:=h.ex
 cases l with
 |nil =>
  cases m with
  |cons u m=>exact h5.elim
  |nil =>
   rcases hl with hl|⟨e',rfl,he'⟩
   ·rw[h1]at hl;simp at hl
   ·exact⟨[],[],e,Qtk h1,h2,h3,Qtk h4,trivial⟩
 |cons t l =>
  cases m with
  |nil=>exact h5.elim
  |cons u m=>exact⟨l,m,e,QjR h1 (by simp),h2,fun x hx=>h3 x (by simp[hx]),QjR h4 (by simp[hne]),h5.2.2⟩
theorem Sm.is{r:List Tk}{s s':PS}(h:Sm r s s')(hl:Lv r s)(b:List UInt8):s'.is b=s.is b:=by
 obtain⟨h1,h2⟩:=h.tk hl
 rw[PS.is,PS.is,h1,h2]
theorem Sm.oneOf{r:List Tk}{s s':PS}(h:Sm r s s')(hl:Lv r s)(l:List (List UInt8)):s'.oneOf l=s.oneOf l:=by
 have:s'.is=s.is:=funext fun b=>h.is hl b
 rw[PS.oneOf,PS.oneOf,this]
def PS.far(s:PS):Prop:=s.nx.tk.kind≠3\/s.nx.tk.pos≠s.tk.pos+1
theorem Sm.far{r:List Tk}{s s':PS}(h:Sm r s s')(hk:s.tk.kind=4/\s.tk.text.toList=QhF):(s.far/\(Ends r->s'.far))\/(s.far↔s'.far):=by
 have hne:=h.ne
 obtain⟨l,m,e,h1,h2,h3,h4,h5⟩:=h.ex
 cases l with
 |nil =>
  have a1:s.tk=e:=by simp only[PS.tk,h1,QyK,Qz4]
  rw[a1,h2.1]at hk;cases hk.1
 |cons t l =>
  cases m with
  |nil=>exact h5.elim
  |cons u m =>
   have a1:s.tk=t:=by simp only[PS.tk,h1,QyL,Qz4]
   have a2:s'.tk=u:=by simp only[PS.tk,h4,QyL,Qz4]
   have b1:s.nx.toks=l++[e]:=QjR h1 (by simp)
   have b2:s'.nx.toks=m++r:=QjR h4 (by simp[hne])
   cases l with
   |nil =>
    cases m with
    |cons=>exact h5.2.2.elim
    |nil =>
     have c1:s.nx.tk=e:=by simp only[PS.tk,b1,QyK,Qz4]
     refine .inl ⟨.inl (by rw[c1,h2.1];decide),fun⟨e',he,h6,_⟩=>.inl ?_⟩
     have c2:s'.nx.tk=e':=by simp only[PS.tk,b2,he,QyK,Qz4]
     rw[c2,h6];decide
   |cons t2 l =>
    cases m with
    |nil=>exact h5.2.2.elim
    |cons u2 m =>
     have c1:s.nx.tk=t2:=by simp only[PS.tk,b1,QyL,Qz4]
     have c2:s'.nx.tk=u2:=by simp only[PS.tk,b2,QyL,Qz4]
     refine .inr ?_
     rw[PS.far,PS.far,a1,a2,c1,c2,<-h5.2.2.1.1]
     rw[a1]at hk
     by_cases k3:t2.kind=3
     ·have:=h5.2.1 t2 u2 rfl rfl k3 hk
      simp only[k3,ne_eq,not_true_eq_false,false_or,this]
     ·simp[k3]
def RelQ{α:Type}(r:List Tk)(x y:PR α):Prop:=match x with
 | .ok a s2=>∃s2',y = .ok a s2'/\Sm r s2 s2'
 | .err _ e=>Ends r->∃p,y = .err p e
theorem RelQ.p{α:Type}{r:List Tk}{x y:PR α}(h:RelQ r x y):RelP r x y:=by
 cases x with
 |ok a s2=>exact fun _=>h
 |err p e=>exact h
theorem Eat.z{α:Type}{f:PS->PR α}(h:Eat 1 f):Eat 0 f:=h.less (Qzy 1)
def Quk(name:ByteArray)(first:List G)(s:PS):PR Rl:=if s.is ZN then ZW name [] first s.nx else if s.is Qc4 then ZW name first [] s.nx else
  if s.is QdC then(Yt first.length s.nx).bind fun rem s=>(XE ZN s).bind fun _ s=>ZW name first rem s else .err s.tk.pos 16
def QsA(name:ByteArray)(s:PS):PR Rl:=(Yt 0 s).bind fun first s=>Quk name first s
theorem Qlt(s:PS):ZS s=if s.tk.kind=1/\s.nx.is sAt=true then(QaM s).bind fun x s=>QsA x s.nx else QsA eB s:=rfl
theorem Sm.names{r:List Tk}{s s':PS}(h:Sm r s s')(l:List ByteArray):Sm r ⟨s.toks,l⟩ ⟨s'.toks,l⟩:=⟨h.ex,h.w,rfl⟩
theorem Qsi{m:List Tk}(h:lSim [] m):m=[]:=by
 cases m with
 |nil=>rfl
 |cons=>exact h.elim
theorem Sm.all{r:List Tk}{s s':PS}(h:Sm r s s')(h1:s.toks.length<=1):s'.toks=r/\s.tk.kind=0:=by
 obtain⟨l,m,e,a1,a2,a3,a4,a5⟩:=h.ex
 cases l with
 |nil =>
  have:=Qsi a5
  subst this
  exact⟨a4,by simp only[PS.tk,a1,QyK,Qz4];exact a2.1⟩
 |cons t l=>rw[a1]at h1;simp at h1
theorem Sm.end{r:List Tk}{s s':PS}(h:Sm r s s')(h1:s.tk.kind=0):s.toks.length<=1:=by
 obtain⟨l,m,e,a1,a2,a3,a4,a5⟩:=h.ex
 cases l with
 |nil=>rw[a1];simp
 |cons t l =>
  have:s.tk=t:=by simp only[PS.tk,a1,QyL,Qz4]
  rw[this]at h1
  exact absurd h1 (a3 t (by simp))
def noSym(d:UInt8):Bool:=XQ.all fun x=>!x.contains d
theorem Qq7{d:UInt8}(t:List UInt8):∀(x l:List UInt8),x.contains d=false->x.isPrefixOf (l++d::t)=x.isPrefixOf l
 |[],_,_=>by simp
 |y::x,[],h=>by
  rw[List.contains_cons,Bool.or_eq_false_iff]at h
  have:(y==d)=false:=by
   have:=h.1
   rw[QAi]at this ⊢
   exact fun q=>this q.symm
  rw[QyK,List.isPrefixOf_cons_cons,this]
  rfl
 |y::x,c::l,h=>by
  rw[List.contains_cons,Bool.or_eq_false_iff]at h
  rw[QyL,List.isPrefixOf_cons_cons,List.isPrefixOf_cons_cons,Qq7 t x l h.2]
theorem find_congr{α:Type}{p q:α->Bool}:∀{l:List α},(∀x∈l,p x=q x)->l.find? p=l.find? q
 |[],_=>rfl
 |x::l,h=>by rw[List.find?_cons,List.find?_cons,h x (by simp),find_congr fun y hy=>h y (by simp[hy])]
theorem Quy{d:UInt8}(hd:noSym d=true)(t l:List UInt8):QhL (l++d::t)=QhL l :=
 find_congr fun x hx=>Qq7 t x l (by
  have:=QzB.1 hd x hx
  simpa using this)
structure Stop (d:UInt8):Prop where
 w:isW d=false
 g:isD d=false
 s:noSym d=true
theorem Qkh{l x:List UInt8}{k:Int}(h:ZO l = .inl (k,x)):(k=0/\l=[]/\x=[])\/(k≠0/\x≠[]/\∃r,l=x++r):=by
 cases l with
 |nil =>
  rw[ZO]at h
  cases h
  exact .inl ⟨rfl,rfl,rfl⟩
 |cons c r =>
  have tw:∀(p:UInt8->Bool),p c=true->(c::r).takeWhile p≠[]/\∃s,c::r=(c::r).takeWhile p++s:=fun p hp =>
   ⟨by rw[QAU,Qzh hp];simp,(c::r).dropWhile p,(List.takeWhile_append_dropWhile).symm⟩
  refine .inr ?_
  rw[ZO]at h
  split at h
  ·rename_i hL
   split at h
   ·cases h
   ·have e:=Sum.inl.inj h
    have e1:=(QBh e).1
    have e2:=(QBh e).2
    obtain⟨a1,a2⟩:=tw isW (by simp[isW,hL])
    refine⟨?_,by rw[<-e2];exact a1,by rw[<-e2];exact a2⟩
    rw[<-e1];split <;> decide
  split at h
  ·rename_i hD
   split at h
   ·cases h
   ·have e:=Sum.inl.inj h
    have e1:=(QBh e).1
    have e2:=(QBh e).2
    obtain⟨a1,a2⟩:=tw isD hD
    exact⟨by rw[<-e1];decide,by rw[<-e2];exact a1,by rw[<-e2];exact a2⟩
  ·split at h
   ·rename_i y hy
    have e:=Sum.inl.inj h
    have e1:=(QBh e).1
    have e2:=(QBh e).2
    subst e2
    obtain⟨a1,a2,a3⟩:=QlQ hy
    refine⟨by rw[<-e1];decide,by intro q;rw[q]at a1;simp at a1,?_⟩
    obtain⟨s,hs⟩:=List.isPrefixOf_iff_prefix.1 a3
    exact⟨s,hs.symm⟩
   ·cases h
def Qlr(l:List UInt8):Pg ⊕ (Int×Int):=match YV l with
 | .inr e=>.inr e
 | .inl ts=>match QjU ⟨ts,[]⟩with
  | .ok p _=>.inl p
  | .err p e=>.inr (p,e)
def Qls(l:List UInt8):Rl ⊕ (Int×Int):=match YV l with
 | .inr e=>.inr e
 | .inl ts=>match QbD ⟨ts,[]⟩with
  | .ok p _=>.inl p
  | .err p e=>.inr (p,e)
theorem ZK(x:List UInt8):(mkB x).toList=x:=by rw[Lib.toList_data];rfl
theorem QrD{c:UInt8}(r:List UInt8)(h:isSp c=true\/c.toNat=35):ZO (c::r) = .inr 16:=by
 have key:∀n:Nat,c.toNat=n->n<256->c=UInt8.ofNat n:=fun n h1 h2=>by
  apply UInt8.toNat_inj.1
  rw[h1];simp;omega
 have:c=32\/c=9\/c=10\/c=13\/c=35:=by
  rcases h with h|h
  ·simp only[isSp,Qzu]at h
   rcases h with h|h|h|h
   ·exact .inl (key _ h (by decide))
   ·exact .inr (.inl (key _ h (by decide)))
   ·exact .inr (.inr (.inl (key _ h (by decide))))
   ·exact .inr (.inr (.inr (.inl (key _ h (by decide)))))
  ·exact .inr (.inr (.inr (.inr (key _ h (by decide)))))
 rcases this with rfl|rfl|rfl|rfl|rfl <;> rfl
def near(t u:Tk):Prop:=t.text.toList=QhF/\u.kind=3/\u.pos=t.pos+1
instance (t u:Tk):Decidable (near t u):=inferInstanceAs (Decidable (_/\_/\_))
def seps:List (List UInt8):=[[32],[9,10],[13,32],[32,35,120,10],[32,32]]
inductive Spr:Option Tk->List Tk->List UInt8->Prop where
 |nil (p:Option Tk):Spr p [] []
 |first (t:Tk) (l:List Tk) (w:List UInt8):Spr (some t) l w->Spr none (t::l) (t.text.toList++w)
 |near (p t:Tk) (l:List Tk) (w:List UInt8):near p t->Spr (some t) l w->Spr (some p) (t::l) (t.text.toList++w)
 |far (p t:Tk) (l:List Tk) (d w:List UInt8):¬near p t->d∈seps->Spr (some t) l w->Spr (some p) (t::l) (d++(t.text.toList++w))
def Eats{α:Type}(k:Nat)(f:List UInt8->Res α):Prop:=∀r a r2,f r = .ok a r2->r2.length+k<=r.length
theorem Eats.zero{α:Type}{k:Nat}{f:List UInt8->Res α}(H:Eats k f):Eats 0 f:=fun r a r2 h=>by have:=H r a r2 h;omega
def QfA:List UInt8->List UInt8
 |[]=>[]
 |c::r=>(if c.toNat=40\/c.toNat=41 then[32,c,32,32]else if c.toNat=44 then[32,c]else[c])++QfA r
def Lo(l l':List UInt8):Prop:=skipSp l'=skipSp (QfA l)
theorem QeQ(r:List UInt8):skipSp (32::r)=skipSp r:=by rw[skipSp,Qzh (by decide)]
theorem QeP:∀r,skipSp (skipSp r)=skipSp r
 |[]=>rfl
 |c::r=>by
  rw[skipSp];split
  ·exact QeP r
  ·rename_i h;rw[skipSp,Qzf h]
theorem Lo.skip{l l':List UInt8}(h:Lo l l'):Lo l (skipSp l'):=by rw[Lo,QeP];exact h
theorem Qdl:∀l:List UInt8,skipSp (QfA l)=skipSp (QfA (skipSp l))
 |[]=>rfl
 |c::r=>by
  by_cases h:c.toNat=32
  ·rw[skipSp,Qzh h,QfA,Qzf (by omega),Qzf (by omega),List.singleton_append,skipSp,Qzh h]
   exact Qdl r
  ·rw[skipSp,Qzf h]
theorem Lo.left{l l':List UInt8}(h:Lo l l'):Lo (skipSp l) l':=by rw[Lo,<-Qdl];exact h
theorem QmO{r r2:List UInt8}{c:UInt8}(h:skipSp r=c::r2):c.toNat≠32:=by
 induction r with
 |nil=>cases h
 |cons d r ih =>
  rw[skipSp]at h
  split at h
  ·exact ih h
  ·rename_i hd;cases h;exact hd
theorem Lo.nil{l l':List UInt8}(h:Lo l l')(hs:skipSp l=[]):skipSp l'=[]:=by
 rw[Lo,Qdl,hs]at h;exact h
theorem Lo.cons{l l' r:List UInt8}{c:UInt8}(h:Lo l l')(hs:skipSp l=c::r):∃r',skipSp l'=c::r'/\Lo r r'/\(c.toNat≠40->c.toNat≠41->r'=QfA r):=by
 have hc:=QmO hs
 rw[Lo,Qdl,hs,QfA]at h
 by_cases h1:c.toNat=40\/c.toNat=41
 ·rw[Qzh h1]at h
  simp only[QyL,QyK]at h
  rw[QeQ,skipSp,Qzf hc]at h
  refine⟨_,h,?_,fun a b=>by omega⟩
  rw[Lo,QeQ,QeQ]
 ·rw[Qzf h1]at h
  by_cases h2:c.toNat=44
  ·rw[Qzh h2]at h
   simp only[QyL,QyK]at h
   rw[QeQ,skipSp,Qzf hc]at h
   exact⟨_,h,rfl,fun _ _=>rfl⟩
  ·rw[Qzf h2]at h
   simp only[QyL,QyK]at h
   rw[skipSp,Qzf hc]at h
   exact⟨_,h,rfl,fun _ _=>rfl⟩
theorem Lo.refl(r:List UInt8):Lo r (QfA r):=rfl
def LoR{α:Type}:Res α->Res α->Prop
 | .ok a r,.ok b r'=>a=b/\Lo r r'
 | .err e,.err e'=>e=e'
 |_,_=>False
theorem LoR.ok{α:Type}{a:α}{r:List UInt8}{y:Res α}(h:LoR (.ok a r) y):∃r',y = .ok a r'/\Lo r r':=by
 cases y with
 |err e=>exact h.elim
 |ok b r'=>obtain⟨rfl,h⟩:=h;exact⟨r',rfl,h⟩
theorem LoR.err{α:Type}{e:Int}{y:Res α}(h:LoR (.err e) y):y = .err e:=by
 cases y with
 |ok b r'=>exact h.elim
 |err e'=>have h:e=e':=h;subst h;rfl
end Go.Proofs.YtenheconhibonaaGreatDoor.Ab
namespace Go.Proofs.YtenheconhibonaaGreatDoor.Ab
open Go.Proofs
abbrev Qde{a:List AV}{h:AH}{Q:AOut->AH->Prop}:=@Qc Tryz.prog 85 _ _ a h Q Tryz.func85 rfl Tryz.call85 _ Tryz.ntmps85 _ Tryz.results85
abbrev Qby{a:List AV}{h:AH}{Q:AOut->AH->Prop}:=@Qc Tryz.prog 87 _ _ a h Q Tryz.func87 rfl Tryz.call87 _ Tryz.ntmps87 _ Tryz.results87
def QfP(op:Int):ByteArray:=if op=3 then{data:=#[61]} else if op=4 then{data:=#[105,115]} else if op=5 then{data:=#[61,61]} else if op=6 then{data:=#[92,61]} else if op=7 then{data:=#[60]} else if op=8 then{data:=#[61,60]} else if op=9 then{data:=#[61,58,61]} else{data:=#[61,92,61]}
theorem Qpz:Pure Tryz.prog 87 [.i 3] (.v (.string {data:=#[61]})):=by
 intro h
 refine Qby (by simp) ?_
 repeat refine Qa ?_;simp only[go_sem,seval]
 first|refine Qb (htake _ _) (.keep (.v _)) ⟨rfl,rfl⟩|refine Qb Qzb (.keep (.v _)) ⟨rfl,rfl⟩
theorem QpA:Pure Tryz.prog 87 [.i 4] (.v (.string {data:=#[105,115]})):=by
 intro h
 have z3:((4:Int)==3)=false:=by decide
 refine Qby (by simp) ?_
 repeat refine Qa ?_;simp only[go_sem,seval,z3]
 first|refine Qb (htake _ _) (.keep (.v _)) ⟨rfl,rfl⟩|refine Qb Qzb (.keep (.v _)) ⟨rfl,rfl⟩
theorem QpB:Pure Tryz.prog 87 [.i 5] (.v (.string {data:=#[61,61]})):=by
 intro h
 have z3:((5:Int)==3)=false:=by decide
 have z4:((5:Int)==4)=false:=by decide
 refine Qby (by simp) ?_
 repeat refine Qa ?_;simp only[go_sem,seval,z3,z4]
 first|refine Qb (htake _ _) (.keep (.v _)) ⟨rfl,rfl⟩|refine Qb Qzb (.keep (.v _)) ⟨rfl,rfl⟩
theorem QpC:Pure Tryz.prog 87 [.i 6] (.v (.string {data:=#[92,61]})):=by
 intro h
 have z3:((6:Int)==3)=false:=by decide
 have z4:((6:Int)==4)=false:=by decide
 have z5:((6:Int)==5)=false:=by decide
 refine Qby (by simp) ?_
 repeat refine Qa ?_;simp only[go_sem,seval,z3,z4,z5]
 first|refine Qb (htake _ _) (.keep (.v _)) ⟨rfl,rfl⟩|refine Qb Qzb (.keep (.v _)) ⟨rfl,rfl⟩
theorem QpD:Pure Tryz.prog 87 [.i 7] (.v (.string {data:=#[60]})):=by
 intro h
 have z3:((7:Int)==3)=false:=by decide
 have z4:((7:Int)==4)=false:=by decide
 have z5:((7:Int)==5)=false:=by decide
 have z6:((7:Int)==6)=false:=by decide
 refine Qby (by simp) ?_
 repeat refine Qa ?_;simp only[go_sem,seval,z3,z4,z5,z6]
 first|refine Qb (htake _ _) (.keep (.v _)) ⟨rfl,rfl⟩|refine Qb Qzb (.keep (.v _)) ⟨rfl,rfl⟩
theorem QpE:Pure Tryz.prog 87 [.i 8] (.v (.string {data:=#[61,60]})):=by
 intro h
 have z3:((8:Int)==3)=false:=by decide
 have z4:((8:Int)==4)=false:=by decide
 have z5:((8:Int)==5)=false:=by decide
 have z6:((8:Int)==6)=false:=by decide
 have z7:((8:Int)==7)=false:=by decide
 refine Qby (by simp) ?_
 repeat refine Qa ?_;simp only[go_sem,seval,z3,z4,z5,z6,z7]
 first|refine Qb (htake _ _) (.keep (.v _)) ⟨rfl,rfl⟩|refine Qb Qzb (.keep (.v _)) ⟨rfl,rfl⟩
theorem QpF:Pure Tryz.prog 87 [.i 9] (.v (.string {data:=#[61,58,61]})):=by
 intro h
 have z3:((9:Int)==3)=false:=by decide
 have z4:((9:Int)==4)=false:=by decide
 have z5:((9:Int)==5)=false:=by decide
 have z6:((9:Int)==6)=false:=by decide
 have z7:((9:Int)==7)=false:=by decide
 have z8:((9:Int)==8)=false:=by decide
 refine Qby (by simp) ?_
 repeat refine Qa ?_;simp only[go_sem,seval,z3,z4,z5,z6,z7,z8]
 first|refine Qb (htake _ _) (.keep (.v _)) ⟨rfl,rfl⟩|refine Qb Qzb (.keep (.v _)) ⟨rfl,rfl⟩
theorem Qn4:Pure Tryz.prog 87 [.i 10] (.v (.string {data:=#[61,92,61]})):=by
 intro h
 have z3:((10:Int)==3)=false:=by decide
 have z4:((10:Int)==4)=false:=by decide
 have z5:((10:Int)==5)=false:=by decide
 have z6:((10:Int)==6)=false:=by decide
 have z7:((10:Int)==7)=false:=by decide
 have z8:((10:Int)==8)=false:=by decide
 have z9:((10:Int)==9)=false:=by decide
 refine Qby (by simp) ?_
 repeat refine Qa ?_;simp only[go_sem,seval,z3,z4,z5,z6,z7,z8,z9]
 first|refine Qb (htake _ _) (.keep (.v _)) ⟨rfl,rfl⟩|refine Qb Qzb (.keep (.v _)) ⟨rfl,rfl⟩
theorem QkE(op:Int)(h3:3<=op)(h10:op<=10):Pure Tryz.prog 87 [.i op] (.v (.string (QfP op))):=by
 have:op=3\/op=4\/op=5\/op=6\/op=7\/op=8\/op=9\/op=10:=by omega
 rcases this with rfl|rfl|rfl|rfl|rfl|rfl|rfl|rfl
 ·exact Qpz
 ·exact QpA
 ·exact QpB
 ·exact QpC
 ·exact QpD
 ·exact QpE
 ·exact QpF
 ·exact Qn4
theorem Qik(op:Int)(h3:3<=op)(h10:op<=10):(QfP op).size<=3:=by
 have:op=3\/op=4\/op=5\/op=6\/op=7\/op=8\/op=9\/op=10:=by omega
 rcases this with rfl|rfl|rfl|rfl|rfl|rfl|rfl|rfl <;> decide
abbrev Qid:ByteArray:={data:=#[116,114,117,101]}
abbrev Qp2:ByteArray:={data:=#[102,97,105,108]}
abbrev intB:ByteArray:={data:=#[105,110,116]}
abbrev grdB:ByteArray:={data:=#[103,114,111,117,110,100]}
def pairT(op:Int):List ByteArray->ByteArray
 |[x,y]=>(x++(({data:=#[32]}:ByteArray)++QfP op++{data:=#[32]}))++y
 |_=>.empty
def Qat(g:G):ByteArray:=if g.op=0 then funT g.name (txts g.args)else if g.op=1 then Qid else if g.op=2 then Qp2 else if g.op=11 then funT intB (txts g.args)else if g.op=12 then funT grdB (txts g.args)else pairT g.op (txts g.args)
theorem QuS{h:AH}(hG:Xl h)(u:Bool)(tx:ByteArray):Xl (HB (h++[AB.dead,AB.dead]) h.length (h.length+1) u tx):=by
 obtain⟨k,ty,fr,e⟩:=hG
 refine⟨k,ty,fr,?_⟩
 have hk:=Qf e
 rw[HB,Yo _ _ (by omega) (by omega),Qzc hk,e]
section
variable{h:AH}{i j p:Nat}(hi:i<h.length)(hj:j<h.length)(hij:i≠j)(hpi:i≠p)(hpj:j≠p)
theorem Qpw(hi:i<h.length)(hj:j<h.length)(hij:i≠j)(hpi:i≠p)(hpj:j≠p)(g:G)(gp:h[p]? = some (.cells 66 2 [g.atom]))(hx:lexL g.args)(hl:g.args.length<=1000000)
  (hG:Xl (HB h i j true (.empty))) (u:Bool) (tx:ByteArray) (hs:tx.size+(funT g.name (txts g.args)).size<=140737488355328) :
  Wri 83 [.ptr i 0 0,.ptr p 0 0] h i j u tx (funT g.name (txts g.args)):=by
 have k1:∀u tx,(HB h i j u tx)[p]? = some (.cells 66 2 [.agg [.v (.string g.name),.sl 4 (avs g.args) none]]):=fun u tx=>by
  rw[HB,Yo _ _ hpi hpj,gp];rfl
 have c1:=Qbm hi hj hij g.args hl g.name (fun a ha h hi hj hG tx hs=>Qdb g.args hx i j hij a ha h hi hj hG true tx hs) hG u tx hs
 rw[Wri]at c1
 refine Qc Tryz.func83 rfl Tryz.call83 Tryz.ntmps83 Tryz.results83 (by simp) ?_
 repeat (first|refine FunW.Qxr c1 ?_|refine Qa ?_);simp only[go_sem,seval,k1]
 exact .inr ⟨rfl,rfl⟩
theorem Qol(hi:i<h.length)(hj:j<h.length)(hij:i≠j)(hpi:i≠p)(hpj:j≠p)(g:G)(gp:h[p]? = some (.cells 53 3 [g.goal]))(hx:lexL g.args)(hl:g.args.length<=1000000)(ho:g.op=0)
  (hG:Xl (HB h i j true (.empty))) (u:Bool) (tx:ByteArray) (hs:tx.size+(funT g.name (txts g.args)).size<=140737488355328) :
  Wri 85 [.ptr i 0 0,.ptr p 0 0] h i j u tx (funT g.name (txts g.args)):=by
 have k1:∀u tx,(HB h i j u tx)[p]? = some (.cells 53 3 [.agg [.i 0,.v (.string g.name),.sl 4 (avs g.args) none]]):=fun u tx=>by
  rw[HB,Yo _ _ hpi hpj,gp,<-ho];rfl
 have c1:=Qbm hi hj hij g.args hl g.name (fun a ha h hi hj hG tx hs=>Qdb g.args hx i j hij a ha h hi hj hG true tx hs) hG u tx hs
 rw[Wri]at c1
 refine Qde (by simp) ?_
 repeat (first|refine FunW.Qxr c1 ?_|refine Qa ?_);simp only[go_sem,seval,k1]
 exact .inr ⟨rfl,rfl⟩
theorem Qoo(hi:i<h.length)(hj:j<h.length)(hij:i≠j)(hpi:i≠p)(hpj:j≠p)(g:G)(gp:h[p]? = some (.cells 53 3 [g.goal]))(hx:lexL g.args)(hl:g.args.length<=1000000)(ho:g.op=1)
  (hG:Xl (HB h i j true (.empty))) (u:Bool) (tx:ByteArray) (hs:tx.size+(Qid).size<=140737488355328) :
  Wri 85 [.ptr i 0 0,.ptr p 0 0] h i j u tx (Qid):=by
 have k1:∀u tx,(HB h i j u tx)[p]? = some (.cells 53 3 [.agg [.i 1,.v (.string g.name),.sl 4 (avs g.args) none]]):=fun u tx=>by
  rw[HB,Yo _ _ hpi hpj,gp,<-ho];rfl
 have z0:((1:Int)==0)=false:=by decide
 have c1:=wstr hi hj hij u tx Qid hs
 have f6:=fun u tx=>QlZ (h:=h) hi hij u tx
 refine Qde (by simp) ?_
 repeat (first|refine FunW.Qxr c1 ?_|refine Qa ?_);simp only[go_sem,seval,k1,f6,z0]
 exact .inr ⟨rfl,rfl⟩
theorem Qom(hi:i<h.length)(hj:j<h.length)(hij:i≠j)(hpi:i≠p)(hpj:j≠p)(g:G)(gp:h[p]? = some (.cells 53 3 [g.goal]))(hx:lexL g.args)(hl:g.args.length<=1000000)(ho:g.op=2)
  (hG:Xl (HB h i j true (.empty))) (u:Bool) (tx:ByteArray) (hs:tx.size+(Qp2).size<=140737488355328) :
  Wri 85 [.ptr i 0 0,.ptr p 0 0] h i j u tx (Qp2):=by
 have k1:∀u tx,(HB h i j u tx)[p]? = some (.cells 53 3 [.agg [.i 2,.v (.string g.name),.sl 4 (avs g.args) none]]):=fun u tx=>by
  rw[HB,Yo _ _ hpi hpj,gp,<-ho];rfl
 have z0:((2:Int)==0)=false:=by decide
 have z1:((2:Int)==1)=false:=by decide
 have c1:=wstr hi hj hij u tx Qp2 hs
 have f6:=fun u tx=>QlZ (h:=h) hi hij u tx
 refine Qde (by simp) ?_
 repeat (first|refine FunW.Qxr c1 ?_|refine Qa ?_);simp only[go_sem,seval,k1,f6,z0,z1]
 exact .inr ⟨rfl,rfl⟩
theorem Qqc(hi:i<h.length)(hj:j<h.length)(hij:i≠j)(hpi:i≠p)(hpj:j≠p)(g:G)(gp:h[p]? = some (.cells 53 3 [g.goal]))(hx:lexL g.args)(hl:g.args.length<=1000000)(ho:g.op=11)
  (hG:Xl (HB h i j true (.empty))) (u:Bool) (tx:ByteArray) (hs:tx.size+(funT intB (txts g.args)).size<=140737488355328) :
  Wri 85 [.ptr i 0 0,.ptr p 0 0] h i j u tx (funT intB (txts g.args)):=by
 have k1:∀u tx,(HB h i j u tx)[p]? = some (.cells 53 3 [.agg [.i 11,.v (.string g.name),.sl 4 (avs g.args) none]]):=fun u tx=>by
  rw[HB,Yo _ _ hpi hpj,gp,<-ho];rfl
 have z0:((11:Int)==0)=false:=by decide
 have z1:((11:Int)==1)=false:=by decide
 have z2:((11:Int)==2)=false:=by decide
 have c1:=Qbm hi hj hij g.args hl intB (fun a ha h hi hj hG tx hs=>Qdb g.args hx i j hij a ha h hi hj hG true tx hs) hG u tx hs
 rw[Wri]at c1
 refine Qde (by simp) ?_
 repeat (first|refine FunW.Qxr c1 ?_|refine Qa ?_);simp only[go_sem,seval,k1,z0,z1,z2]
 exact .inr ⟨rfl,rfl⟩
theorem QkW(hi:i<h.length)(hj:j<h.length)(hij:i≠j)(hpi:i≠p)(hpj:j≠p)(g:G)(gp:h[p]? = some (.cells 53 3 [g.goal]))(hx:lexL g.args)(hl:g.args.length<=1000000)(ho:g.op=12)
  (hG:Xl (HB h i j true (.empty))) (u:Bool) (tx:ByteArray) (hs:tx.size+(funT grdB (txts g.args)).size<=140737488355328) :
  Wri 85 [.ptr i 0 0,.ptr p 0 0] h i j u tx (funT grdB (txts g.args)):=by
 have k1:∀u tx,(HB h i j u tx)[p]? = some (.cells 53 3 [.agg [.i 12,.v (.string g.name),.sl 4 (avs g.args) none]]):=fun u tx=>by
  rw[HB,Yo _ _ hpi hpj,gp,<-ho];rfl
 have z0:((12:Int)==0)=false:=by decide
 have z1:((12:Int)==1)=false:=by decide
 have z2:((12:Int)==2)=false:=by decide
 have z11:((12:Int)==11)=false:=by decide
 have c1:=Qbm hi hj hij g.args hl grdB (fun a ha h hi hj hG tx hs=>Qdb g.args hx i j hij a ha h hi hj hG true tx hs) hG u tx hs
 rw[Wri]at c1
 refine Qde (by simp) ?_
 repeat (first|refine FunW.Qxr c1 ?_|refine Qa ?_);simp only[go_sem,seval,k1,z0,z1,z2,z11]
 exact .inr ⟨rfl,rfl⟩
theorem Qon(hi:i<h.length)(hj:j<h.length)(hij:i≠j)(hpi:i≠p)(hpj:j≠p)(op:Int)(n:ByteArray)(a c:T)(gp:h[p]? = some (.cells 53 3 [.agg [.i op,.v (.string n),.sl 4 (avs [a,c]) none]]))(hx:lexL [a,c])(h3:3<=op)(h10:op<=10)
  (hG:Xl (HB h i j true (.empty))) (u:Bool) (tx:ByteArray) (hs:tx.size+(pairT op (txts [a,c])).size<=140737488355328) :
  Wri 85 [.ptr i 0 0,.ptr p 0 0] h i j u tx (pairT op (txts [a,c])):=by
 have k1:∀u tx,(HB h i j u tx)[p]? = some (.cells 53 3 [.agg [.i op,.v (.string n),.sl 4 (avs [a,c]) none]]):=fun u tx=>by
  rw[HB,Yo _ _ hpi hpj,gp]
 have f6:=fun u tx=>QlZ (h:=h) hi hij u tx
 have et:pairT op (txts [a,c])=(a.txt++(({data:=#[32]}:ByteArray)++QfP op++{data:=#[32]}))++c.txt:=rfl
 rw[et]at hs ⊢
 simp only[Qg]at hs
 have hsp:({data:=#[32]}:ByteArray).size=1:=rfl
 have cb:=QkE op h3 h10
 have hbz:=Qik op h3 h10
 have c1:=T.QxO a hx.1 i j hij h hi hj hG u tx (by omega)
 have c2:=wstr hi hj hij true (tx++a.txt) (({data:=#[32]}:ByteArray)++QfP op++{data:=#[32]}) (by simp only[Qg];omega)
 have c3:=T.QxO c hx.2.1 i j hij h hi hj hG true ((tx++a.txt)++(({data:=#[32]}:ByteArray)++QfP op++{data:=#[32]})) (by simp only[Qg];omega)
 rw[Wri]at c1 c3
 have z0:(op==0)=false:=by simp;omega
 have z1:(op==1)=false:=by simp;omega
 have z2:(op==2)=false:=by simp;omega
 have z11:(op==11)=false:=by simp;omega
 have z12:(op==12)=false:=by simp;omega
 have hsa1:=fun xo yo=>QbN Tryz.prog 9 xo yo ({data:=#[32]}:ByteArray) (QfP op) (by omega)
 have hsa2:=fun xo yo=>QbN Tryz.prog 9 xo yo (({data:=#[32]}:ByteArray)++QfP op) {data:=#[32]} (by rw[Qg];omega)
 have ga:(avs [a,c])[0]? = some a.av:=rfl
 have gc:(avs [a,c])[1]? = some c.av:=rfl
 have hll:(avs [a,c]).length=2:=rfl
 have y0:((0:Int)<=1)=True:=by simp
 have y1:((0:Int)<((2:Nat):Int))=True:=by simp
 have y2:((1:Int)<((2:Nat):Int))=True:=by simp
 refine Qde (by simp) ?_
 repeat first|(first|with_reducible (first|refine Qd fun K E hK hE=>?_|refine Qs fun K E hK hE=>?_|refine Qq cb ?_|refine FunW.Qxr c1 ?_|refine FunW.Qxr c3 ?_|refine QL (FunW.call c2) Qa7 ?_)|refine Qj (id:=2) [(0,0),(1,0),(2,0),(3,0),(4,0),(5,1),(6,0),(7,0),(8,2)] mixed (by kernel_rfl) fun K hK=>?_);simp only[X6,XK,YF,Qr,Qi,Qn,OpW,Yx,aop,undef,AS.ev,Ql,Xc,Ye,Qz,Xm,Qyq,QyJ,QD,↓reduceIte,Qyw,Qyx,Nat.reduceAdd,Nat.reduceLT,Nat.reduceLeDiff,Nat.reduceEqDiff,Qyv,QyI,QyR,Qm,Xt,Xv,QM,aBin,Qyj,Qyk,Qyl,Qym,Qyy,QyC,Qa5,Int.toNat_zero,Int.toNat_one,T.Qxs,T.Qxt,ti3,ti44,ei44,QdH,QdI,ti69,Qaz,Qy6,QR,k1,f6,z0,z1,z2,z11,z12,hsa1,hsa2,ga,gc,hll,y0,y1,y2,T.Qxt,T.Qxs]|with_reducible (first|refine QA ?_|refine QI ?_|refine hK _ ?_;clear hK|refine Qw rfl ?_;simp only[↓reduceIte,Qyn])
 simp only[Qyl,Qyp,List.mapM_nil,Option.pure_def,Qyl,Zr,Xf,Qyt]
 exact .inr ⟨rfl,by simp only[ByteArray.append_assoc]⟩
end
end Go.Proofs.YtenheconhibonaaGreatDoor.Ab
namespace Go.Proofs.YtenheconhibonaaGreatDoor.Ab
open Go.Proofs
theorem Z1(g:G):Pure Tryz.prog 61 [g.goal] (.b (Qo g)):=by
 intro h
 refine Qc Tryz.func61 rfl Tryz.call61 Tryz.ntmps61 Tryz.results61 (by simp) ?_
 iterate 4 (try (first|(((refine Qd fun K E hK hE=>?_));simp only[go_sem,seval,QJ])|((with_reducible refine hK _ ?_);clear hK)))
 refine XT (fun s=>g.op≠0/\s.tm 1 = .ptr h.length 0 0/\s.tm 3 = .i (Qbo g.op)/\s.h=h++[.cells 53 3 [g.goal]]) ?_ ?_
 ·rintro⟨tm,hp⟩ ⟨k0,t1,t3,hh⟩
  dsimp only at t1 t3 hh
  subst hh
  cases p0:decide (g.op>0)
  ·skip
   have R:Qo g=false:=by
    rw[Qo,Qzf k0,Qzt (by simp at p0;omega)];rfl
   repeat first|refine owN ?_|(first|refine owK fun K hK=>?_|refine nwcS fun K hK=>?_|refine nwcR fun K hK=>?_|refine Qa ?_);simp only[go_sem,seval,QJ,t1,p0]|refine hK _ ?_;clear hK
   first|refine Qb (htake _ _) (.keep (.v _)) ⟨by rw[R],rfl⟩|refine Qb Qzb (.keep (.v _)) ⟨by rw[R],rfl⟩
  cases p1:decide (g.op<=12)
  ·skip
   have R:Qo g=false:=by
    rw[Qo,Qzf k0,Qzt (by simp at p1;omega)];rfl
   repeat first|refine owN ?_|(first|refine owK fun K hK=>?_|refine nwcS fun K hK=>?_|refine nwcR fun K hK=>?_|refine Qa ?_);simp only[go_sem,seval,QJ,t1,p0,p1]|refine hK _ ?_;clear hK
   first|refine Qb (htake _ _) (.keep (.v _)) ⟨by rw[R],rfl⟩|refine Qb Qzb (.keep (.v _)) ⟨by rw[R],rfl⟩
  have p2:decide (0<g.op/\g.op<=12)=true:=QzA ⟨QA4 p0,QA4 p1⟩
  cases c3:XN g.name
  ·have c3':(g.name.toList==({data:=#[]}:ByteArray).toList)=false:=c3
   have R:Qo g=false:=by
    rw[Qo,Qzf k0,p2,c3];rfl
   repeat first|refine owN ?_|(first|refine owK fun K hK=>?_|refine nwcS fun K hK=>?_|refine nwcR fun K hK=>?_|refine Qa ?_);simp only[go_sem,seval,QJ,t1,p0,p1,c3']|refine hK _ ?_;clear hK
   first|refine Qb (htake _ _) (.keep (.v _)) ⟨by rw[R],rfl⟩|refine Qb Qzb (.keep (.v _)) ⟨by rw[R],rfl⟩
  have c3':(g.name.toList==({data:=#[]}:ByteArray).toList)=true:=c3
  cases c4:((g.args.length:Int)==Qbo g.op)
  ·have c5:decide ((g.args.length:Int)=Qbo g.op)=false:=Qzt (by simpa using c4)
   have R:Qo g=false:=by
    rw[Qo,Qzf k0,p2,c3,c5];rfl
   repeat first|refine owN ?_|(first|refine owK fun K hK=>?_|refine nwcS fun K hK=>?_|refine nwcR fun K hK=>?_|refine Qa ?_);simp only[go_sem,seval,QJ,t1,p0,p1,c3',t3,c4]|refine hK _ ?_;clear hK
   first|refine Qb (htake _ _) (.keep (.v _)) ⟨by rw[R],rfl⟩|refine Qb Qzb (.keep (.v _)) ⟨by rw[R],rfl⟩
  have c5:decide ((g.args.length:Int)=Qbo g.op)=true:=QzA (by simpa using c4)
  have c6:(g.args.length:Int)<=2:=by
   have c7:(g.args.length:Int)=Qbo g.op:=by simpa using c4
   rw[c7,Qbo];split <;> (try split) <;> decide
  have ca:=Qs7 g.args (by omega) (h++[.cells 53 3 [g.goal],.cells 149 1 [.agg [.i 200]]]) (h.length+1) (by rw[hget];rfl)
  rw[hset]at ca
  have R:Qo g=(runL g.args 200 20).1:=by
   rw[Qo,Qzf k0,p2,c3,c5];rfl
  repeat first|refine owN ?_|(first|refine FunW.Qxr ca ?_|refine owK fun K hK=>?_|refine nwcS fun K hK=>?_|refine nwcR fun K hK=>?_|refine Qa ?_);simp only[go_sem,seval,QJ,t1,p0,p1,c3',t3,c4]|refine hK _ ?_;clear hK
  first|refine Qb (htake _ _) (.keep (.v _)) ⟨by rw[R],rfl⟩|refine Qb Qzb (.keep (.v _)) ⟨by rw[R],rfl⟩
 ·by_cases k0:g.op=0
  ·have c:=ZZ ⟨0,g.name,g.args⟩
   rw[show G.atom ⟨0,g.name,g.args⟩=AV.agg [.v (.string g.name),.sl 4 (avs g.args) none]from rfl]at c
   have R:Qo g=Qt ⟨0,g.name,g.args⟩:=by
    rw[Qo,Qzh k0]
   have z0:(g.op==0)=true:=by simp[k0]
   repeat first|(first|refine Qe c ?_|refine Qa ?_);simp only[go_sem,seval,QJ,z0]|refine hK _ ?_;clear hK
   first|refine Qb (htake _ _) (.keep (.v _)) ⟨by rw[R],rfl⟩|refine Qb Qzb (.keep (.v _)) ⟨by rw[R],rfl⟩
  have z0:(g.op==0)=false:=by simp[k0]
  by_cases k1:g.op=1
  ·have z1:(g.op==1)=true:=by simp[k1]
   have gn:Qbo g.op=0:=by simp[Qbo,k1]
   repeat first|refine Qa ?_;simp only[go_sem,seval,QJ,z0,z1]|refine hK _ ?_;clear hK
   exact⟨k0,rfl,by rw[gn];rfl,rfl⟩
  have z1:(g.op==1)=false:=by simp[k1]
  by_cases k2:g.op=2
  ·have z2:(g.op==2)=true:=by simp[k2]
   have gn:Qbo g.op=0:=by simp[Qbo,k2]
   repeat first|refine Qa ?_;simp only[go_sem,seval,QJ,z0,z1,z2]|refine hK _ ?_;clear hK
   exact⟨k0,rfl,by rw[gn];rfl,rfl⟩
  have z2:(g.op==2)=false:=by simp[k2]
  by_cases k11:g.op=11
  ·have z11:(g.op==11)=true:=by simp[k11]
   have gn:Qbo g.op=1:=by simp[Qbo,k11]
   repeat first|refine Qa ?_;simp only[go_sem,seval,QJ,z0,z1,z2,z11]|refine hK _ ?_;clear hK
   exact⟨k0,rfl,by rw[gn];rfl,rfl⟩
  have z11:(g.op==11)=false:=by simp[k11]
  by_cases k12:g.op=12
  ·have z12:(g.op==12)=true:=by simp[k12]
   have gn:Qbo g.op=1:=by simp[Qbo,k12]
   repeat first|refine Qa ?_;simp only[go_sem,seval,QJ,z0,z1,z2,z11,z12]|refine hK _ ?_;clear hK
   exact⟨k0,rfl,by rw[gn];rfl,rfl⟩
  have z12:(g.op==12)=false:=by simp[k12]
  have gn:Qbo g.op=2:=by simp[Qbo,k1,k2,k11,k12]
  repeat first|refine Qa ?_;simp only[go_sem,seval,QJ,z0,z1,z2,z11,z12]|refine hK _ ?_;clear hK
  exact⟨k0,rfl,by rw[gn];rfl,rfl⟩
def txtA(g:G):ByteArray:=if Qt g=true then funT g.name (txts g.args)else{data:=#[]}
def txtG(g:G):ByteArray:=if Qo g=true then Qat g else{data:=#[]}
theorem Qg0{s:ByteArray}{l:List ByteArray}(h0:1<=s.size):1<=(funT s l).size:=by rw[funT,Qg];omega
theorem Qmk(s:ByteArray)(l:List ByteArray):(funT s l).size<=s.size+2+(l.map fun x=>x.size+2).sum:=by
 rw[funT,Qg]
 have e1:=Qjl (decide (0<l.length)) (Xw true l)
 have e2:=QjE l true
 omega
theorem Qeb{g:G}(h:Qt g=true):lexL g.args/\g.args.length<=6/\1<=(funT g.name (txts g.args)).size/\(funT g.name (txts g.args)).size<=15000:=by
 simp only[Qt,Qzk,Qzu]at h
 obtain⟨h1,h2,h3⟩:=h
 have hn:=Qbs h1
 have hl:=Qgc g.args 200 20 h3
 have hr:=Qgb g.args 200 20 (by omega) h3
 refine⟨hl.1,h2,Qg0 hn.1,?_⟩
 have:=Qmk g.name (txts g.args)
 have:=hl.2.1
 omega
theorem QnT{h:AH}(hG:Xl h)(b:AB):Xl (HB (h++[b]++[AB.dead,AB.dead]) (h++[b]).length ((h++[b]).length+1) true (.empty)):=QuS (hG.app [b]) _ _
theorem Qkf(g:G)(hl:g.args.length<=1000000)(h:AH)(hG:Xl h):Qp Tryz.prog 37 [g.atom] h fun o h'=>o = .ret (.v (.string (txtA g)))/\h'=h:=by
 have cr:=ZZ g
 cases hr:Qt g with
 |false =>
  rw[hr]at cr
  have c1:=Qrz (.fn (.func 83) [] [.ptr h.length 0 0])
  refine Qc Tryz.func37 rfl Tryz.call37 Tryz.ntmps37 Tryz.results37 (by simp) ?_
  repeat (first|refine Qe cr ?_|refine Qe c1 ?_|refine Qa ?_);simp only[go_sem,seval,Yc,QbR]
  first|refine Qb (htake _ _) (.keep (.v _)) ⟨by rw[txtA,Qzf (by rw[hr];decide)],rfl⟩|refine Qb Qzb (.keep (.v _)) ⟨by rw[txtA,Qzf (by rw[hr];decide)],rfl⟩
 |true =>
  rw[hr]at cr
  obtain⟨hx,h6,hs0,hs1⟩:=Qeb hr
  have hk:=Qpw (h:=h++[AB.cells 66 2 [g.atom]]++[AB.dead,AB.dead]) (i:=(h++[AB.cells 66 2 [g.atom]]).length) (j:=(h++[AB.cells 66 2 [g.atom]]).length+1) (p:=h.length)
   (by simp) (by simp) (by omega) (by simp) (by simp;omega) g (by simp) hx hl (QnT hG _) false .empty (by rw[show(ByteArray.empty).size=0 from rfl];omega)
  rw[Wri,ByteArray.empty_append]at hk
  have c1:=QnU (.fn (.func 83) [] [.ptr h.length 0 0]) (.tup []) (funT g.name (txts g.args)) (h++[AB.cells 66 2 [g.atom]]) hs0 (by omega) (FunW.fn hk)
  refine Qc Tryz.func37 rfl Tryz.call37 Tryz.ntmps37 Tryz.results37 (by simp) ?_
  repeat (first|refine Qe cr ?_|refine FunW.Qxr c1 ?_|refine Qa ?_);simp only[go_sem,seval,Yc,QbR]
  first|refine Qb (htake _ _) (.keep (.v _)) ⟨by rw[txtA,Qzh hr],rfl⟩|refine Qb Qzb (.keep (.v _)) ⟨by rw[txtA,Qzh hr],rfl⟩
theorem Qen{g:G}(h:Qo g=true):lexL g.args/\g.args.length<=6/\1<=(Qat g).size/\(Qat g).size<=15000 /\
  (g.op=0\/g.op=1\/g.op=2\/g.op=11\/g.op=12\/(3<=g.op/\g.op<=10/\g.args.length=2)):=by
 rw[Qo]at h
 by_cases k0:g.op=0
 ·rw[Qzh k0]at h
  obtain⟨h1,h2,h3,h4⟩:=Qeb h
  rw[Qat,Qzh k0]
  exact⟨h1,h2,h3,h4,.inl k0⟩
 rw[Qzf k0]at h
 simp only[Qzk,Qzu]at h
 obtain⟨h1,hn,h2,h3⟩:=h
 have hl:=Qgc g.args 200 20 h3
 have hr:=Qgb g.args 200 20 (by omega) h3
 have hgn:Qbo g.op<=2:=by rw[Qbo];split <;> (try split) <;> decide
 refine⟨hl.1,by omega,?_⟩
 rw[Qat,Qzf k0]
 by_cases k1:g.op=1
 ·rw[Qzh k1];exact⟨by decide,by decide,by omega⟩
 rw[Qzf k1]
 by_cases k2:g.op=2
 ·rw[Qzh k2];exact⟨by decide,by decide,by omega⟩
 rw[Qzf k2]
 have hl2:=hl.2.1
 by_cases k11:g.op=11
 ·rw[Qzh k11]
  refine⟨Qg0 (by decide),?_,by omega⟩
  have:=Qmk intB (txts g.args)
  have:intB.size=3:=rfl
  omega
 rw[Qzf k11]
 by_cases k12:g.op=12
 ·rw[Qzh k12]
  refine⟨Qg0 (by decide),?_,by omega⟩
  have:=Qmk grdB (txts g.args)
  have:grdB.size=6:=rfl
  omega
 rw[Qzf k12]
 have hn2:g.args.length=2:=by
  have:Qbo g.op=2:=by simp[Qbo,k1,k2,k11,k12]
  omega
 have hb:=Qik g.op (by omega) (by omega)
 match hg:g.args,hn2 with
 |[a,c],_ =>
  rw[hg]at hl2 hr
  simp only[txts,pairT,Qg,Qyy,QyC,List.sum_cons,List.sum_nil]at hl2 ⊢
  have:({data:=#[32]}:ByteArray).size=1:=rfl
  refine⟨by omega,by omega,.inr (.inr (.inr (.inr (.inr ⟨by omega,by omega,rfl⟩))))⟩
theorem Qqb{h:AH}{i j p:Nat}(hi:i<h.length)(hj:j<h.length)(hij:i≠j)(hpi:i≠p)(hpj:j≠p)(g:G)(gp:h[p]? = some (.cells 53 3 [g.goal]))(hr:Qo g=true)
  (hG:Xl (HB h i j true (.empty))) (u:Bool) (tx:ByteArray) (hs:tx.size+(Qat g).size<=140737488355328) :
  Wri 85 [.ptr i 0 0,.ptr p 0 0] h i j u tx (Qat g):=by
 obtain⟨hx,hl,_,_,ho⟩:=Qen hr
 have hl':g.args.length<=1000000:=by omega
 rcases ho with ho|ho|ho|ho|ho|⟨h3,h10,h2⟩
 ·have e:Qat g=funT g.name (txts g.args):=by simp[Qat,ho]
  rw[e]at hs ⊢;exact Qol hi hj hij hpi hpj g gp hx hl' ho hG u tx hs
 ·have e:Qat g=Qid:=by simp[Qat,ho]
  rw[e]at hs ⊢;exact Qoo hi hj hij hpi hpj g gp hx hl' ho hG u tx hs
 ·have e:Qat g=Qp2:=by simp[Qat,ho]
  rw[e]at hs ⊢;exact Qom hi hj hij hpi hpj g gp hx hl' ho hG u tx hs
 ·have e:Qat g=funT intB (txts g.args):=by simp[Qat,ho]
  rw[e]at hs ⊢;exact Qqc hi hj hij hpi hpj g gp hx hl' ho hG u tx hs
 ·have e:Qat g=funT grdB (txts g.args):=by simp[Qat,ho]
  rw[e]at hs ⊢;exact QkW hi hj hij hpi hpj g gp hx hl' ho hG u tx hs
 ·have e:Qat g=pairT g.op (txts g.args):=by
   rw[Qat,Qzf (by omega),Qzf (by omega),Qzf (by omega),Qzf (by omega),Qzf (by omega)]
  rw[e]at hs ⊢
  obtain⟨op,n,l⟩:=g
  match l,h2 with
  |[a,c],_=>exact Qon hi hj hij hpi hpj op n a c gp hx h3 h10 hG u tx hs
theorem Qkg(g:G)(hl:g.args.length<=1000000)(h:AH)(hG:Xl h):Qp Tryz.prog 39 [g.goal] h fun o h'=>o = .ret (.v (.string (txtG g)))/\h'=h:=by
 have cr:=Z1 g
 cases hr:Qo g with
 |false =>
  rw[hr]at cr
  have c1:=Qrz (.fn (.func 85) [] [.ptr h.length 0 0])
  refine Qc Tryz.func39 rfl Tryz.call39 Tryz.ntmps39 Tryz.results39 (by simp) ?_
  repeat (first|refine Qe cr ?_|refine Qe c1 ?_|refine Qa ?_);simp only[go_sem,seval,QJ,Qak]
  first|refine Qb (htake _ _) (.keep (.v _)) ⟨by rw[txtG,Qzf (by rw[hr];decide)],rfl⟩|refine Qb Qzb (.keep (.v _)) ⟨by rw[txtG,Qzf (by rw[hr];decide)],rfl⟩
 |true =>
  rw[hr]at cr
  obtain⟨hx,h6,hs0,hs1,_⟩:=Qen hr
  have hk:=Qqb (h:=h++[AB.cells 53 3 [g.goal]]++[AB.dead,AB.dead]) (i:=(h++[AB.cells 53 3 [g.goal]]).length) (j:=(h++[AB.cells 53 3 [g.goal]]).length+1) (p:=h.length)
   (by simp) (by simp) (by omega) (by simp) (by simp;omega) g (by simp) hr (QnT hG _) false .empty (by rw[show(ByteArray.empty).size=0 from rfl];omega)
  rw[Wri,ByteArray.empty_append]at hk
  have c1:=QnU (.fn (.func 85) [] [.ptr h.length 0 0]) (.tup []) (Qat g) (h++[AB.cells 53 3 [g.goal]]) hs0 (by omega) (FunW.fn hk)
  refine Qc Tryz.func39 rfl Tryz.call39 Tryz.ntmps39 Tryz.results39 (by simp) ?_
  repeat (first|refine Qe cr ?_|refine FunW.Qxr c1 ?_|refine Qa ?_);simp only[go_sem,seval,QJ,Qak]
  first|refine Qb (htake _ _) (.keep (.v _)) ⟨by rw[txtG,Qzh hr],rfl⟩|refine Qb Qzb (.keep (.v _)) ⟨by rw[txtG,Qzh hr],rfl⟩
end Go.Proofs.YtenheconhibonaaGreatDoor.Ab
namespace Go.Proofs.YtenheconhibonaaGreatDoor.Ab
open Go.Proofs
def HS(h:AH)(i j:Nat)(u:Bool)(tx:ByteArray):AH:=hs2 h i (bw 74 i j u tx) j (.grow 5 1 tx.size)
theorem sTy:BTy 74:=.inl rfl
section
variable{h:AH}{i j:Nat}(hi:i<h.length)(hj:j<h.length)(hij:i≠j)
theorem QmY(h:AH)(i j:Nat)(u:Bool)(tx:ByteArray):(HS h i j u tx).length=h.length:=ZR _ _ _ _ _
theorem QmZ(h:AH)(i j:Nat)(u:Bool)(tx:ByteArray)(L:AH)(k:Nat):(HS h i j u tx++L)[h.length+k]? = L[k]? := Qqi _ _ _ _
theorem Qi4(h:AH)(i j:Nat)(u:Bool)(tx:ByteArray)(z:AB)(L:AH)(k:Nat):(HS h i j u tx++L).set (h.length+k) z=HS h i j u tx++L.set k z:=Qni _ _ _ _ _
include hi hj in
theorem QmX(u:Bool)(tx:ByteArray)(L:AH):HS (h++L) i j u tx=HS h i j u tx++L:=QjC hi hj _ _ _
include hi hij in
theorem Qi3(u:Bool)(tx:ByteArray)(L:AH):(HS h i j u tx++L)[i]? = some (.cells 74 2 [.agg [if u then .ptr i 0 0 else .v (.pointer none),.sl 1 (Q6 tx) (some j)]]):=Qk2 hi hij _ _ _
theorem Qkp{h:AH}(hG:Xl h)(l:AH)(hl:l.length=2)(u:Bool)(tx:ByteArray):Xl (HS (h++l) h.length (h.length+1) u tx):=by
 obtain⟨k,ty,fr,e⟩:=hG
 refine⟨k,ty,fr,?_⟩
 have hk:=Qf e
 rw[HS,Yo _ _ (by omega) (by omega),Qzc hk,e]
end
theorem sstr{h:AH}{i j:Nat}(hi:i<h.length)(hj:j<h.length)(hij:i≠j)(u:Bool)(tx s:ByteArray)(hs:tx.size+s.size<=140737488355328) :
  Qp Tryz.prog 35 [.ptr i 0 0,.v (.string s)] (HS h i j u tx) fun o h'=>o = .ret (.tup [.i s.size,.v .nilIface])/\h'=HS h i j true (tx++s) :=
 Qc8 sTy hij u tx s hs h hi hj
theorem Qpj(h:AH)(u:Bool)(tx:ByteArray):HS (h++[AB.dead,AB.dead]) h.length (h.length+1) u tx=h++[bw 74 h.length (h.length+1) u tx,AB.grow 5 1 tx.size]:=by
 simp[HS,hs2]
theorem Qfj(h L:AH)(tx:ByteArray)(h0:0<tx.size)(hs:tx.size<=140737488355328):Qp Tryz.prog 41 [.ptr h.length 0 0] (HS (h++[AB.dead,AB.dead]) h.length (h.length+1) true tx++L)
  fun o h'=>o = .ret (.v (.string tx))/\h'=h++([bw 74 h.length (h.length+1) true tx,AB.gone]++L):=by
 have c:=(Qdv (ty:=74) (i:=h.length) (j:=h.length+1) (by omega) tx h0 hs).app (h:=h++[AB.dead,AB.dead]) (by simp) (by simp) L
 rw[<-HS]at c
 have e:hs2 (h++[AB.dead,AB.dead]) h.length (bw 74 h.length (h.length+1) true tx) (h.length+1) .gone=h++[bw 74 h.length (h.length+1) true tx,AB.gone]:=by
  simp[hs2]
 rw[e,Qze]at c
 exact c
section
variable{X:Type}(f:X->AV)(tx:X->ByteArray)(fv:AV)
theorem Qms(h:AH):Qp Tryz.prog 36 [.sl 2 [] none,fv] h fun o h'=>o = .ret (.v (.string .empty))/\h'=h:=by
 have c:=Qct (ty:=74) (i:=h.length) (h++[AB.dead]) (by simp)
 have e:hs (h++[AB.dead]) h.length (bw00 74)=h++[bw00 74]:=by simp[hs]
 rw[e,bw00]at c
 refine Qc Tryz.func36 rfl Tryz.call36 Tryz.ntmps36 Tryz.results36 (by simp) ?_
 iterate 8 (try (first|(((refine Qd fun K E hK hE=>?_));simp only[go_sem,seval])|(refine QN fun K hK=>?_)|(refine QA ?_)|((with_reducible refine hK _ ?_);clear hK)))
 obtain⟨I,hI⟩:∃I:Nat->AS->Prop,I=fun m' s=>m'=0/\s.tm 1=fv/\s.tm 5 = .ptr h.length 0 0/\s.tm 8 = .sl 2 [] none/\s.tm 9 = .i 0/\s.tm 10 = .i 0/\s.h=h++[.cells 74 2 [.agg [.v (.pointer none),.v (.slice none 0 0)]]]:=⟨_,rfl⟩;refine Qv I ?_ (m:=0) ?_
 ·intro m' s hs;rw[hI]at hs;obtain⟨tm,hp⟩:=s;dsimp only at hs;obtain⟨rfl,t1,t5,t8,t9,t10,rfl⟩:=hs
  have z:¬((0:Int)<0):=by decide
  repeat first|(first|refine FunW.Qxr c ?_|refine Qa ?_);simp only[go_sem,seval,t5,t9,t10,z]|refine hK _ ?_;clear hK|clear hK;refine hK _ ?_;clear hK
  first|refine Qb (htake _ _) (.keep (.v _)) ⟨rfl,rfl⟩|refine Qb Qzb (.keep (.v _)) ⟨rfl,rfl⟩
 ·rw[hI]
  exact⟨rfl,rfl,rfl,rfl,rfl,rfl,rfl⟩
theorem Qk4(hfc:∀x,(f x).isAgg=true/\(f x).cells.length=2/\(f x).cells.all AV.cell1=true)(l:List X)(hl:0<l.length)(hl2:l.length<=1000000)(h:AH)(hG:Xl h)
  (ih:∀x∈l,∀h:AH,Xl h->FunW Tryz.prog fv [f x] h fun o h'=>o = .ret (.v (.string (tx x)))/\h'=h)
  (h0:0<(Xw true (l.map tx)).size) (hs:(Xw true (l.map tx)).size<=140737488355328) :
  Qp Tryz.prog 36 [.sl 2 (vs f l) none,fv] h fun o h'=>o = .ret (.v (.string (Xw true (l.map tx))))/\h'=h:=by
 have hi:h.length<(h++[AB.dead,AB.dead]).length:=by simp
 have hj:h.length+1<(h++[AB.dead,AB.dead]).length:=by simp
 have hle:(h++[AB.dead,AB.dead]).length=h.length+2:=by simp
 have f1:=fun u tx=>(QmY (h++[AB.dead,AB.dead]) h.length (h.length+1) u tx).trans hle
 have f3:∀u tx L k,(HS (h++[AB.dead,AB.dead]) h.length (h.length+1) u tx++L)[h.length+2+k]? = L[k]? := fun u tx L k=>by rw[<-hle];exact QmZ _ _ _ u tx L k
 have f2:∀u tx L,(HS (h++[AB.dead,AB.dead]) h.length (h.length+1) u tx++L)[h.length+2]? = L[0]? := fun u tx L=>f3 u tx L 0
 have f5:∀u tx z L k,(HS (h++[AB.dead,AB.dead]) h.length (h.length+1) u tx++L).set (h.length+2+k) z=HS (h++[AB.dead,AB.dead]) h.length (h.length+1) u tx++L.set k z:=fun u tx z L k=>by rw[<-hle];exact Qi4 _ _ _ u tx z L k
 have f4:∀u tx z L,(HS (h++[AB.dead,AB.dead]) h.length (h.length+1) u tx++L).set (h.length+2) z=HS (h++[AB.dead,AB.dead]) h.length (h.length+1) u tx++L.set 0 z:=fun u tx z L=>f5 u tx z L 0
 have f6:=fun u tx L=>Qi3 (h:=h++[AB.dead,AB.dead]) (i:=h.length) (j:=h.length+1) hi (by omega) u tx L
 have gapp:=fun u tx L=>QmX (h:=h++[AB.dead,AB.dead]) (i:=h.length) (j:=h.length+1) hi hj u tx L
 refine Qc Tryz.func36 rfl Tryz.call36 Tryz.ntmps36 Tryz.results36 (by simp) ?_
 iterate 8 (try (first|(((refine Qd fun K E hK hE=>?_));simp only[go_sem,seval,Qh])|(refine QN fun K hK=>?_)|(refine QA ?_)|((with_reducible refine hK _ ?_);clear hK)))
 refine QaW h.length 74 5 (.pointer none) (by simp) ?_
 obtain⟨I,hI⟩:∃I:Nat->AS->Prop,I=fun m' s=>∃(k:Nat) (cur:ByteArray),m'=l.length - k/\k<=l.length/\cur++Xw (decide (k=0)) ((l.drop k).map tx)=Xw true (l.map tx)/\s.tm 1=fv/\s.tm 5 = .ptr h.length 0 0/\s.tm 8 = .sl 2 (vs f l) none/\s.tm 9 = .i l.length/\s.tm 10 = .i k/\(∃L,s.h=HS (h++[AB.dead,AB.dead]) h.length (h.length+1) (decide (0<k)) cur++L):=⟨_,rfl⟩;refine Qv I ?_ (m:=l.length) ?_
 ·intro m' s hs;rw[hI]at hs;obtain⟨tm,hp⟩:=s;dsimp only at hs;obtain⟨k,cur,rfl,hk,he,t1,t5,t8,t9,t10,L,rfl⟩:=hs
  by_cases hlt:k<l.length
  ·have hg:=Z2 f hlt
   have z1:(k:Int)<l.length:=by omega
   obtain⟨hag,hcl,hc1⟩:=hfc l[k]
   have hsz:cur.size+(Xw (decide (k=0)) ((l.drop k).map tx)).size=(Xw true (l.map tx)).size:=by rw[<-Qg,he]
   have hd:(l.drop k).map tx=tx (l[k])::(l.drop (k+1)).map tx:=by rw[Qzq hlt];rfl
   have hcm:ZT.size=2:=rfl
   rw[hd,Xw,Qg]at hsz
   rw[hd,Xw]at he
   have glen:∀L:AH,h.length<(h++[AB.dead,AB.dead]++L).length/\h.length+1<(h++[AB.dead,AB.dead]++L).length:=fun L=>by rw[Qza];omega
   have hG':=fun u tx L=>HasG.app (Qkp hG [AB.dead,AB.dead] rfl u tx) L
   by_cases hk0:k=0
   ·rw[QzA hk0,Qzh rfl]at hsz he
    have z2:¬(k:Int)>0:=by omega
    have c2:=ih l[k] (QzF hlt) (HS (h++[AB.dead,AB.dead]) h.length (h.length+1) (decide (0<k)) cur++(L++[AB.cells 66 2 [f l[k]]])) (hG' _ _ _)
    have c1:=sstr (h:=h++[AB.dead,AB.dead]++(L++[AB.cells 66 2 [f l[k]]])) (glen _).1 (glen _).2 (by omega) (decide (0<k)) cur (tx (l[k])) (by omega)
    rw[gapp,gapp]at c1
    repeat first|(first|refine FunW.ret c2 ?_|refine FunW.Qxr c1 ?_|refine Qa ?_);simp only[go_sem,seval,t1,t5,t8,t9,t10,z1,z2,hg,hcl,hag,hc1,f1,f3,f5,Qh]|refine hK _ ?_;clear hK
    refine QZ.mk (m':=l.length - (k+1)) (by omega) ?_
    rw[hI]
    refine⟨k+1,cur++tx (l[k]),rfl,hlt,?_,t1,t5,t8,t9,?_,_,rfl⟩
    ·rw[Qzt (Nat.succ_ne_zero k),ByteArray.append_assoc];exact he
    ·simp only[upd,↓reduceIte]
     rw[QY (by omega)]
   ·rw[Qzt hk0,Qzf (by decide),Qg]at hsz
    rw[Qzt hk0,Qzf (by decide)]at he
    have z2:(k:Int)>0:=by omega
    have c0:=sstr (h:=h++[AB.dead,AB.dead]++(L++[AB.cells 66 2 [f l[k]]])) (glen _).1 (glen _).2 (by omega) (decide (0<k)) cur ZT (by omega)
    rw[gapp,gapp]at c0
    have c2:=ih l[k] (QzF hlt) (HS (h++[AB.dead,AB.dead]) h.length (h.length+1) true (cur++ZT)++(L++[AB.cells 66 2 [f l[k]]])) (hG' _ _ _)
    have c1:=sstr (h:=h++[AB.dead,AB.dead]++(L++[AB.cells 66 2 [f l[k]]])) (glen _).1 (glen _).2 (by omega) true (cur++ZT) (tx (l[k])) (by rw[Qg];omega)
    rw[gapp,gapp]at c1
    repeat first|(first|refine FunW.ret c2 ?_|refine FunW.Qxr c1 ?_|refine FunW.Qxr c0 ?_|refine Qa ?_);simp only[go_sem,seval,t1,t5,t8,t9,t10,z1,z2,hg,hcl,hag,hc1,f1,f3,f5,Qh]|refine hK _ ?_;clear hK
    refine QZ.mk (m':=l.length - (k+1)) (by omega) ?_
    rw[hI]
    refine⟨k+1,(cur++ZT)++tx (l[k]),rfl,hlt,?_,t1,t5,t8,t9,?_,_,rfl⟩
    ·rw[Qzt (Nat.succ_ne_zero k)];simp only[ByteArray.append_assoc]at he ⊢;exact he
    ·simp only[upd,↓reduceIte]
     rw[QY (by omega)]
  ·have hkn:k=l.length:=by omega
   subst hkn
   have z1:¬((l.length:Nat):Int)<l.length:=by omega
   rw[QzG,List.map_nil,Xw,ByteArray.append_empty]at he
   rw[QzA hl]
   rw[<-he]at h0 hs
   have c:=Qfj h L cur h0 hs
   repeat first|(first|refine FunW.Qxr c ?_|refine Qa ?_);simp only[go_sem,seval,t5,t9,t10,z1]|refine hK _ ?_;clear hK|clear hK;refine hK _ ?_;clear hK
   first|refine Qb (htake _ _) (.keep (.v _)) ⟨by rw[he],rfl⟩|refine Qb Qzb (.keep (.v _)) ⟨by rw[he],rfl⟩
 ·rw[hI]
  refine⟨0,.empty,rfl,by omega,by rw[ByteArray.empty_append];rfl,rfl,rfl,rfl,rfl,rfl,[],?_⟩
  rw[Qpj]
  simp[bw];rfl
end
section
variable{X:Type}(f:X->AV)(tx:X->ByteArray)(fv:AV)
theorem Qmu(h:AH):Qp Tryz.prog 38 [.sl 3 [] none,fv] h fun o h'=>o = .ret (.v (.string .empty))/\h'=h:=by
 have c:=Qct (ty:=74) (i:=h.length) (h++[AB.dead]) (by simp)
 have e:hs (h++[AB.dead]) h.length (bw00 74)=h++[bw00 74]:=by simp[hs]
 rw[e,bw00]at c
 refine Qc Tryz.func38 rfl Tryz.call38 Tryz.ntmps38 Tryz.results38 (by simp) ?_
 iterate 8 (try (first|(((refine Qd fun K E hK hE=>?_));simp only[go_sem,seval])|(refine QN fun K hK=>?_)|(refine QA ?_)|((with_reducible refine hK _ ?_);clear hK)))
 obtain⟨I,hI⟩:∃I:Nat->AS->Prop,I=fun m' s=>m'=0/\s.tm 1=fv/\s.tm 5 = .ptr h.length 0 0/\s.tm 8 = .sl 3 [] none/\s.tm 9 = .i 0/\s.tm 10 = .i 0/\s.h=h++[.cells 74 2 [.agg [.v (.pointer none),.v (.slice none 0 0)]]]:=⟨_,rfl⟩;refine Qv I ?_ (m:=0) ?_
 ·intro m' s hs;rw[hI]at hs;obtain⟨tm,hp⟩:=s;dsimp only at hs;obtain⟨rfl,t1,t5,t8,t9,t10,rfl⟩:=hs
  have z:¬((0:Int)<0):=by decide
  repeat first|(first|refine FunW.Qxr c ?_|refine Qa ?_);simp only[go_sem,seval,t5,t9,t10,z]|refine hK _ ?_;clear hK|clear hK;refine hK _ ?_;clear hK
  first|refine Qb (htake _ _) (.keep (.v _)) ⟨rfl,rfl⟩|refine Qb Qzb (.keep (.v _)) ⟨rfl,rfl⟩
 ·rw[hI]
  exact⟨rfl,rfl,rfl,rfl,rfl,rfl,rfl⟩
theorem Qk6(hfc:∀x,(f x).isAgg=true/\(f x).cells.length=3/\(f x).cells.all AV.cell1=true)(l:List X)(hl:0<l.length)(hl2:l.length<=1000000)(h:AH)(hG:Xl h)
  (ih:∀x∈l,∀h:AH,Xl h->FunW Tryz.prog fv [f x] h fun o h'=>o = .ret (.v (.string (tx x)))/\h'=h)
  (h0:0<(Xw true (l.map tx)).size) (hs:(Xw true (l.map tx)).size<=140737488355328) :
  Qp Tryz.prog 38 [.sl 3 (vs f l) none,fv] h fun o h'=>o = .ret (.v (.string (Xw true (l.map tx))))/\h'=h:=by
 have hi:h.length<(h++[AB.dead,AB.dead]).length:=by simp
 have hj:h.length+1<(h++[AB.dead,AB.dead]).length:=by simp
 have hle:(h++[AB.dead,AB.dead]).length=h.length+2:=by simp
 have f1:=fun u tx=>(QmY (h++[AB.dead,AB.dead]) h.length (h.length+1) u tx).trans hle
 have f3:∀u tx L k,(HS (h++[AB.dead,AB.dead]) h.length (h.length+1) u tx++L)[h.length+2+k]? = L[k]? := fun u tx L k=>by rw[<-hle];exact QmZ _ _ _ u tx L k
 have f2:∀u tx L,(HS (h++[AB.dead,AB.dead]) h.length (h.length+1) u tx++L)[h.length+2]? = L[0]? := fun u tx L=>f3 u tx L 0
 have f5:∀u tx z L k,(HS (h++[AB.dead,AB.dead]) h.length (h.length+1) u tx++L).set (h.length+2+k) z=HS (h++[AB.dead,AB.dead]) h.length (h.length+1) u tx++L.set k z:=fun u tx z L k=>by rw[<-hle];exact Qi4 _ _ _ u tx z L k
 have f4:∀u tx z L,(HS (h++[AB.dead,AB.dead]) h.length (h.length+1) u tx++L).set (h.length+2) z=HS (h++[AB.dead,AB.dead]) h.length (h.length+1) u tx++L.set 0 z:=fun u tx z L=>f5 u tx z L 0
 have f6:=fun u tx L=>Qi3 (h:=h++[AB.dead,AB.dead]) (i:=h.length) (j:=h.length+1) hi (by omega) u tx L
 have gapp:=fun u tx L=>QmX (h:=h++[AB.dead,AB.dead]) (i:=h.length) (j:=h.length+1) hi hj u tx L
 refine Qc Tryz.func38 rfl Tryz.call38 Tryz.ntmps38 Tryz.results38 (by simp) ?_
 iterate 8 (try (first|(((refine Qd fun K E hK hE=>?_));simp only[go_sem,seval,Qh])|(refine QN fun K hK=>?_)|(refine QA ?_)|((with_reducible refine hK _ ?_);clear hK)))
 refine QaW h.length 74 5 (.pointer none) (by simp) ?_
 obtain⟨I,hI⟩:∃I:Nat->AS->Prop,I=fun m' s=>∃(k:Nat) (cur:ByteArray),m'=l.length - k/\k<=l.length/\cur++Xw (decide (k=0)) ((l.drop k).map tx)=Xw true (l.map tx)/\s.tm 1=fv/\s.tm 5 = .ptr h.length 0 0/\s.tm 8 = .sl 3 (vs f l) none/\s.tm 9 = .i l.length/\s.tm 10 = .i k/\(∃L,s.h=HS (h++[AB.dead,AB.dead]) h.length (h.length+1) (decide (0<k)) cur++L):=⟨_,rfl⟩;refine Qv I ?_ (m:=l.length) ?_
 ·intro m' s hs;rw[hI]at hs;obtain⟨tm,hp⟩:=s;dsimp only at hs;obtain⟨k,cur,rfl,hk,he,t1,t5,t8,t9,t10,L,rfl⟩:=hs
  by_cases hlt:k<l.length
  ·have hg:=Z2 f hlt
   have z1:(k:Int)<l.length:=by omega
   obtain⟨hag,hcl,hc1⟩:=hfc l[k]
   have hsz:cur.size+(Xw (decide (k=0)) ((l.drop k).map tx)).size=(Xw true (l.map tx)).size:=by rw[<-Qg,he]
   have hd:(l.drop k).map tx=tx (l[k])::(l.drop (k+1)).map tx:=by rw[Qzq hlt];rfl
   have hcm:ZT.size=2:=rfl
   rw[hd,Xw,Qg]at hsz
   rw[hd,Xw]at he
   have glen:∀L:AH,h.length<(h++[AB.dead,AB.dead]++L).length/\h.length+1<(h++[AB.dead,AB.dead]++L).length:=fun L=>by rw[Qza];omega
   have hG':=fun u tx L=>HasG.app (Qkp hG [AB.dead,AB.dead] rfl u tx) L
   by_cases hk0:k=0
   ·rw[QzA hk0,Qzh rfl]at hsz he
    have z2:¬(k:Int)>0:=by omega
    have c2:=ih l[k] (QzF hlt) (HS (h++[AB.dead,AB.dead]) h.length (h.length+1) (decide (0<k)) cur++(L++[AB.cells 53 3 [f l[k]]])) (hG' _ _ _)
    have c1:=sstr (h:=h++[AB.dead,AB.dead]++(L++[AB.cells 53 3 [f l[k]]])) (glen _).1 (glen _).2 (by omega) (decide (0<k)) cur (tx (l[k])) (by omega)
    rw[gapp,gapp]at c1
    repeat first|(first|refine FunW.ret c2 ?_|refine FunW.Qxr c1 ?_|refine Qa ?_);simp only[go_sem,seval,t1,t5,t8,t9,t10,z1,z2,hg,hcl,hag,hc1,f1,f3,f5,Qh]|refine hK _ ?_;clear hK
    refine QZ.mk (m':=l.length - (k+1)) (by omega) ?_
    rw[hI]
    refine⟨k+1,cur++tx (l[k]),rfl,hlt,?_,t1,t5,t8,t9,?_,_,rfl⟩
    ·rw[Qzt (Nat.succ_ne_zero k),ByteArray.append_assoc];exact he
    ·simp only[upd,↓reduceIte]
     rw[QY (by omega)]
   ·rw[Qzt hk0,Qzf (by decide),Qg]at hsz
    rw[Qzt hk0,Qzf (by decide)]at he
    have z2:(k:Int)>0:=by omega
    have c0:=sstr (h:=h++[AB.dead,AB.dead]++(L++[AB.cells 53 3 [f l[k]]])) (glen _).1 (glen _).2 (by omega) (decide (0<k)) cur ZT (by omega)
    rw[gapp,gapp]at c0
    have c2:=ih l[k] (QzF hlt) (HS (h++[AB.dead,AB.dead]) h.length (h.length+1) true (cur++ZT)++(L++[AB.cells 53 3 [f l[k]]])) (hG' _ _ _)
    have c1:=sstr (h:=h++[AB.dead,AB.dead]++(L++[AB.cells 53 3 [f l[k]]])) (glen _).1 (glen _).2 (by omega) true (cur++ZT) (tx (l[k])) (by rw[Qg];omega)
    rw[gapp,gapp]at c1
    repeat first|(first|refine FunW.ret c2 ?_|refine FunW.Qxr c1 ?_|refine FunW.Qxr c0 ?_|refine Qa ?_);simp only[go_sem,seval,t1,t5,t8,t9,t10,z1,z2,hg,hcl,hag,hc1,f1,f3,f5,Qh]|refine hK _ ?_;clear hK
    refine QZ.mk (m':=l.length - (k+1)) (by omega) ?_
    rw[hI]
    refine⟨k+1,(cur++ZT)++tx (l[k]),rfl,hlt,?_,t1,t5,t8,t9,?_,_,rfl⟩
    ·rw[Qzt (Nat.succ_ne_zero k)];simp only[ByteArray.append_assoc]at he ⊢;exact he
    ·simp only[upd,↓reduceIte]
     rw[QY (by omega)]
  ·have hkn:k=l.length:=by omega
   subst hkn
   have z1:¬((l.length:Nat):Int)<l.length:=by omega
   rw[QzG,List.map_nil,Xw,ByteArray.append_empty]at he
   rw[QzA hl]
   rw[<-he]at h0 hs
   have c:=Qfj h L cur h0 hs
   repeat first|(first|refine FunW.Qxr c ?_|refine Qa ?_);simp only[go_sem,seval,t5,t9,t10,z1]|refine hK _ ?_;clear hK|clear hK;refine hK _ ?_;clear hK
   first|refine Qb (htake _ _) (.keep (.v _)) ⟨by rw[he],rfl⟩|refine Qb Qzb (.keep (.v _)) ⟨by rw[he],rfl⟩
 ·rw[hI]
  refine⟨0,.empty,rfl,by omega,by rw[ByteArray.empty_append];rfl,rfl,rfl,rfl,rfl,rfl,[],?_⟩
  rw[Qpj]
  simp[bw];rfl
end
section
variable{X:Type}(f:X->AV)(tx:X->ByteArray)(fv:AV)
theorem Qmt(h:AH):Qp Tryz.prog 56 [.sl 2 [] none,fv] h fun o h'=>o = .ret (.v (.string .empty))/\h'=h:=by
 have c:=Qct (ty:=74) (i:=h.length) (h++[AB.dead]) (by simp)
 have e:hs (h++[AB.dead]) h.length (bw00 74)=h++[bw00 74]:=by simp[hs]
 rw[e,bw00]at c
 refine Qc Tryz.func56 rfl Tryz.call56 Tryz.ntmps56 Tryz.results56 (by simp) ?_
 iterate 8 (try (first|(((refine Qd fun K E hK hE=>?_));simp only[go_sem,seval])|(refine QN fun K hK=>?_)|(refine QA ?_)|((with_reducible refine hK _ ?_);clear hK)))
 obtain⟨I,hI⟩:∃I:Nat->AS->Prop,I=fun m' s=>m'=0/\s.tm 1=fv/\s.tm 5 = .ptr h.length 0 0/\s.tm 8 = .sl 2 [] none/\s.tm 9 = .i 0/\s.tm 10 = .i 0/\s.h=h++[.cells 74 2 [.agg [.v (.pointer none),.v (.slice none 0 0)]]]:=⟨_,rfl⟩;refine Qv I ?_ (m:=0) ?_
 ·intro m' s hs;rw[hI]at hs;obtain⟨tm,hp⟩:=s;dsimp only at hs;obtain⟨rfl,t1,t5,t8,t9,t10,rfl⟩:=hs
  have z:¬((0:Int)<0):=by decide
  repeat first|(first|refine FunW.Qxr c ?_|refine Qa ?_);simp only[go_sem,seval,t5,t9,t10,z]|refine hK _ ?_;clear hK|clear hK;refine hK _ ?_;clear hK
  first|refine Qb (htake _ _) (.keep (.v _)) ⟨rfl,rfl⟩|refine Qb Qzb (.keep (.v _)) ⟨rfl,rfl⟩
 ·rw[hI]
  exact⟨rfl,rfl,rfl,rfl,rfl,rfl,rfl⟩
theorem Qk5(hfc:∀x,(f x).isAgg=true/\(f x).cells.length=2/\(f x).cells.all AV.cell1=true)(l:List X)(hl:0<l.length)(hl2:l.length<=1000000)(h:AH)(hG:Xl h)
  (ih:∀x∈l,∀h:AH,Xl h->FunW Tryz.prog fv [f x] h fun o h'=>o = .ret (.v (.string (tx x)))/\h'=h)
  (h0:0<(Xw true (l.map tx)).size) (hs:(Xw true (l.map tx)).size<=140737488355328) :
  Qp Tryz.prog 56 [.sl 2 (vs f l) none,fv] h fun o h'=>o = .ret (.v (.string (Xw true (l.map tx))))/\h'=h:=by
 have hi:h.length<(h++[AB.dead,AB.dead]).length:=by simp
 have hj:h.length+1<(h++[AB.dead,AB.dead]).length:=by simp
 have hle:(h++[AB.dead,AB.dead]).length=h.length+2:=by simp
 have f1:=fun u tx=>(QmY (h++[AB.dead,AB.dead]) h.length (h.length+1) u tx).trans hle
 have f3:∀u tx L k,(HS (h++[AB.dead,AB.dead]) h.length (h.length+1) u tx++L)[h.length+2+k]? = L[k]? := fun u tx L k=>by rw[<-hle];exact QmZ _ _ _ u tx L k
 have f2:∀u tx L,(HS (h++[AB.dead,AB.dead]) h.length (h.length+1) u tx++L)[h.length+2]? = L[0]? := fun u tx L=>f3 u tx L 0
 have f5:∀u tx z L k,(HS (h++[AB.dead,AB.dead]) h.length (h.length+1) u tx++L).set (h.length+2+k) z=HS (h++[AB.dead,AB.dead]) h.length (h.length+1) u tx++L.set k z:=fun u tx z L k=>by rw[<-hle];exact Qi4 _ _ _ u tx z L k
 have f4:∀u tx z L,(HS (h++[AB.dead,AB.dead]) h.length (h.length+1) u tx++L).set (h.length+2) z=HS (h++[AB.dead,AB.dead]) h.length (h.length+1) u tx++L.set 0 z:=fun u tx z L=>f5 u tx z L 0
 have f6:=fun u tx L=>Qi3 (h:=h++[AB.dead,AB.dead]) (i:=h.length) (j:=h.length+1) hi (by omega) u tx L
 have gapp:=fun u tx L=>QmX (h:=h++[AB.dead,AB.dead]) (i:=h.length) (j:=h.length+1) hi hj u tx L
 refine Qc Tryz.func56 rfl Tryz.call56 Tryz.ntmps56 Tryz.results56 (by simp) ?_
 iterate 8 (try (first|(((refine Qd fun K E hK hE=>?_));simp only[go_sem,seval,Qh])|(refine QN fun K hK=>?_)|(refine QA ?_)|((with_reducible refine hK _ ?_);clear hK)))
 refine QaW h.length 74 5 (.pointer none) (by simp) ?_
 obtain⟨I,hI⟩:∃I:Nat->AS->Prop,I=fun m' s=>∃(k:Nat) (cur:ByteArray),m'=l.length - k/\k<=l.length/\cur++Xw (decide (k=0)) ((l.drop k).map tx)=Xw true (l.map tx)/\s.tm 1=fv/\s.tm 5 = .ptr h.length 0 0/\s.tm 8 = .sl 2 (vs f l) none/\s.tm 9 = .i l.length/\s.tm 10 = .i k/\(∃L,s.h=HS (h++[AB.dead,AB.dead]) h.length (h.length+1) (decide (0<k)) cur++L):=⟨_,rfl⟩;refine Qv I ?_ (m:=l.length) ?_
 ·intro m' s hs;rw[hI]at hs;obtain⟨tm,hp⟩:=s;dsimp only at hs;obtain⟨k,cur,rfl,hk,he,t1,t5,t8,t9,t10,L,rfl⟩:=hs
  by_cases hlt:k<l.length
  ·have hg:=Z2 f hlt
   have z1:(k:Int)<l.length:=by omega
   obtain⟨hag,hcl,hc1⟩:=hfc l[k]
   have hsz:cur.size+(Xw (decide (k=0)) ((l.drop k).map tx)).size=(Xw true (l.map tx)).size:=by rw[<-Qg,he]
   have hd:(l.drop k).map tx=tx (l[k])::(l.drop (k+1)).map tx:=by rw[Qzq hlt];rfl
   have hcm:ZT.size=2:=rfl
   rw[hd,Xw,Qg]at hsz
   rw[hd,Xw]at he
   have glen:∀L:AH,h.length<(h++[AB.dead,AB.dead]++L).length/\h.length+1<(h++[AB.dead,AB.dead]++L).length:=fun L=>by rw[Qza];omega
   have hG':=fun u tx L=>HasG.app (Qkp hG [AB.dead,AB.dead] rfl u tx) L
   by_cases hk0:k=0
   ·rw[QzA hk0,Qzh rfl]at hsz he
    have z2:¬(k:Int)>0:=by omega
    have c2:=ih l[k] (QzF hlt) (HS (h++[AB.dead,AB.dead]) h.length (h.length+1) (decide (0<k)) cur++(L++[AB.cells 38 2 [f l[k]]])) (hG' _ _ _)
    have c1:=sstr (h:=h++[AB.dead,AB.dead]++(L++[AB.cells 38 2 [f l[k]]])) (glen _).1 (glen _).2 (by omega) (decide (0<k)) cur (tx (l[k])) (by omega)
    rw[gapp,gapp]at c1
    repeat first|(first|refine FunW.ret c2 ?_|refine FunW.Qxr c1 ?_|refine Qa ?_);simp only[go_sem,seval,t1,t5,t8,t9,t10,z1,z2,hg,hcl,hag,hc1,f1,f3,f5,Qh]|refine hK _ ?_;clear hK
    refine QZ.mk (m':=l.length - (k+1)) (by omega) ?_
    rw[hI]
    refine⟨k+1,cur++tx (l[k]),rfl,hlt,?_,t1,t5,t8,t9,?_,_,rfl⟩
    ·rw[Qzt (Nat.succ_ne_zero k),ByteArray.append_assoc];exact he
    ·simp only[upd,↓reduceIte]
     rw[QY (by omega)]
   ·rw[Qzt hk0,Qzf (by decide),Qg]at hsz
    rw[Qzt hk0,Qzf (by decide)]at he
    have z2:(k:Int)>0:=by omega
    have c0:=sstr (h:=h++[AB.dead,AB.dead]++(L++[AB.cells 38 2 [f l[k]]])) (glen _).1 (glen _).2 (by omega) (decide (0<k)) cur ZT (by omega)
    rw[gapp,gapp]at c0
    have c2:=ih l[k] (QzF hlt) (HS (h++[AB.dead,AB.dead]) h.length (h.length+1) true (cur++ZT)++(L++[AB.cells 38 2 [f l[k]]])) (hG' _ _ _)
    have c1:=sstr (h:=h++[AB.dead,AB.dead]++(L++[AB.cells 38 2 [f l[k]]])) (glen _).1 (glen _).2 (by omega) true (cur++ZT) (tx (l[k])) (by rw[Qg];omega)
    rw[gapp,gapp]at c1
    repeat first|(first|refine FunW.ret c2 ?_|refine FunW.Qxr c1 ?_|refine FunW.Qxr c0 ?_|refine Qa ?_);simp only[go_sem,seval,t1,t5,t8,t9,t10,z1,z2,hg,hcl,hag,hc1,f1,f3,f5,Qh]|refine hK _ ?_;clear hK
    refine QZ.mk (m':=l.length - (k+1)) (by omega) ?_
    rw[hI]
    refine⟨k+1,(cur++ZT)++tx (l[k]),rfl,hlt,?_,t1,t5,t8,t9,?_,_,rfl⟩
    ·rw[Qzt (Nat.succ_ne_zero k)];simp only[ByteArray.append_assoc]at he ⊢;exact he
    ·simp only[upd,↓reduceIte]
     rw[QY (by omega)]
  ·have hkn:k=l.length:=by omega
   subst hkn
   have z1:¬((l.length:Nat):Int)<l.length:=by omega
   rw[QzG,List.map_nil,Xw,ByteArray.append_empty]at he
   rw[QzA hl]
   rw[<-he]at h0 hs
   have c:=Qfj h L cur h0 hs
   repeat first|(first|refine FunW.Qxr c ?_|refine Qa ?_);simp only[go_sem,seval,t5,t9,t10,z1]|refine hK _ ?_;clear hK|clear hK;refine hK _ ?_;clear hK
   first|refine Qb (htake _ _) (.keep (.v _)) ⟨by rw[he],rfl⟩|refine Qb Qzb (.keep (.v _)) ⟨by rw[he],rfl⟩
 ·rw[hI]
  refine⟨0,.empty,rfl,by omega,by rw[ByteArray.empty_append];rfl,rfl,rfl,rfl,rfl,rfl,[],?_⟩
  rw[Qpj]
  simp[bw];rfl
end
end Go.Proofs.YtenheconhibonaaGreatDoor.Ab
namespace Go.Proofs.YtenheconhibonaaGreatDoor.Ab
open Go.Proofs
section
variable{X:Type}(f:X->AV)(p:X->Bool)(fv:AV)
theorem Qkw(hfc:∀x,(f x).isAgg=true/\(f x).cells.length=2/\(f x).cells.all AV.cell1=true)(l:List X)(hl2:l.length<=1000000)(h:AH)
  (ih:∀x∈l,∀h:AH,FunW Tryz.prog fv [f x] h fun o h'=>o = .ret (.b (p x))/\h'=h) :
  Qp Tryz.prog 79 [.sl 2 (vs f l) none,fv] h fun o h'=>o = .ret (.b (l.all p))/\h'=h:=by
 refine Qc Tryz.func79 rfl Tryz.call79 Tryz.ntmps79 Tryz.results79 (by simp) ?_
 repeat refine Qa ?_;simp only[go_sem,seval,Qh]
 obtain⟨I,hI⟩:∃I:Nat->AS->Prop,I=fun m' s=>∃(k:Nat),m'=l.length - k/\k<=l.length/\l.all p=(l.drop k).all p/\s.tm 1=fv/\s.tm 7 = .sl 2 (vs f l) none/\s.tm 8 = .i l.length/\s.tm 9 = .i k/\(∃L,s.h=h++L):=⟨_,rfl⟩;refine Qv I ?_ (m:=l.length) ?_
 ·intro m' s hs;rw[hI]at hs;obtain⟨tm,hp⟩:=s;dsimp only at hs;obtain⟨k,rfl,hk,he,t1,t7,t8,t9,L,rfl⟩:=hs
  by_cases hlt:k<l.length
  ·have hg:=Z2 f hlt
   have z1:(k:Int)<l.length:=by omega
   obtain⟨hag,hcl,hc1⟩:=hfc l[k]
   have c2:=ih l[k] (QzF hlt) (h++(L++[AB.cells 66 2 [f l[k]]]))
   rw[Qzq hlt,List.all_cons]at he
   cases hp1:p l[k]with
   |true =>
    rw[hp1]at c2 he
    repeat (first|refine FunW.ret c2 ?_|refine Qa ?_);simp only[go_sem,seval,t1,t7,t8,t9,z1,hg,hcl,hag,hc1,Qh]
    refine QZ.mk (m':=l.length - (k+1)) (by omega) ?_
    rw[hI]
    refine⟨k+1,rfl,hlt,by rw[he,Qy3],t1,t7,t8,?_,_,rfl⟩
    simp only[upd,↓reduceIte]
    rw[QY (by omega)]
   |false =>
    rw[hp1]at c2 he
    repeat (first|refine FunW.ret c2 ?_|refine Qa ?_);simp only[go_sem,seval,t1,t7,t8,t9,z1,hg,hcl,hag,hc1,Qh]
    first|refine Qb (htake _ _) (.keep (.v _)) ⟨by rw[he,QAv],rfl⟩|refine Qb Qzb (.keep (.v _)) ⟨by rw[he,QAv],rfl⟩
  ·have hkn:k=l.length:=by omega
   subst hkn
   have z1:¬((l.length:Nat):Int)<l.length:=by omega
   rw[QzG]at he
   repeat refine Qa ?_;simp only[go_sem,seval,t8,t9,z1]
   first|refine Qb (htake _ _) (.keep (.v _)) ⟨by rw[he];rfl,rfl⟩|refine Qb Qzb (.keep (.v _)) ⟨by rw[he];rfl,rfl⟩
 ·rw[hI]
  exact⟨0,rfl,by omega,rfl,rfl,rfl,rfl,rfl,[],(QyM _).symm⟩
end
section
variable{X:Type}(f:X->AV)(p:X->Bool)(fv:AV)
theorem Qgr(hfc:∀x,(f x).isAgg=true/\(f x).cells.length=3/\(f x).cells.all AV.cell1=true)(l:List X)(hl2:l.length<=1000000)(h:AH)
  (ih:∀x∈l,∀h:AH,FunW Tryz.prog fv [f x] h fun o h'=>o = .ret (.b (p x))/\h'=h) :
  Qp Tryz.prog 60 [.sl 3 (vs f l) none,fv] h fun o h'=>o = .ret (.b (l.all p))/\h'=h:=by
 refine Qc Tryz.func60 rfl Tryz.call60 Tryz.ntmps60 Tryz.results60 (by simp) ?_
 repeat refine Qa ?_;simp only[go_sem,seval,Qh]
 obtain⟨I,hI⟩:∃I:Nat->AS->Prop,I=fun m' s=>∃(k:Nat),m'=l.length - k/\k<=l.length/\l.all p=(l.drop k).all p/\s.tm 1=fv/\s.tm 7 = .sl 3 (vs f l) none/\s.tm 8 = .i l.length/\s.tm 9 = .i k/\(∃L,s.h=h++L):=⟨_,rfl⟩;refine Qv I ?_ (m:=l.length) ?_
 ·intro m' s hs;rw[hI]at hs;obtain⟨tm,hp⟩:=s;dsimp only at hs;obtain⟨k,rfl,hk,he,t1,t7,t8,t9,L,rfl⟩:=hs
  by_cases hlt:k<l.length
  ·have hg:=Z2 f hlt
   have z1:(k:Int)<l.length:=by omega
   obtain⟨hag,hcl,hc1⟩:=hfc l[k]
   have c2:=ih l[k] (QzF hlt) (h++(L++[AB.cells 53 3 [f l[k]]]))
   rw[Qzq hlt,List.all_cons]at he
   cases hp1:p l[k]with
   |true =>
    rw[hp1]at c2 he
    repeat (first|refine FunW.ret c2 ?_|refine Qa ?_);simp only[go_sem,seval,t1,t7,t8,t9,z1,hg,hcl,hag,hc1,Qh]
    refine QZ.mk (m':=l.length - (k+1)) (by omega) ?_
    rw[hI]
    refine⟨k+1,rfl,hlt,by rw[he,Qy3],t1,t7,t8,?_,_,rfl⟩
    simp only[upd,↓reduceIte]
    rw[QY (by omega)]
   |false =>
    rw[hp1]at c2 he
    repeat (first|refine FunW.ret c2 ?_|refine Qa ?_);simp only[go_sem,seval,t1,t7,t8,t9,z1,hg,hcl,hag,hc1,Qh]
    first|refine Qb (htake _ _) (.keep (.v _)) ⟨by rw[he,QAv],rfl⟩|refine Qb Qzb (.keep (.v _)) ⟨by rw[he,QAv],rfl⟩
  ·have hkn:k=l.length:=by omega
   subst hkn
   have z1:¬((l.length:Nat):Int)<l.length:=by omega
   rw[QzG]at he
   repeat refine Qa ?_;simp only[go_sem,seval,t8,t9,z1]
   first|refine Qb (htake _ _) (.keep (.v _)) ⟨by rw[he];rfl,rfl⟩|refine Qb Qzb (.keep (.v _)) ⟨by rw[he];rfl,rfl⟩
 ·rw[hI]
  exact⟨0,rfl,by omega,rfl,rfl,rfl,rfl,rfl,[],(QyM _).symm⟩
end
section
variable{X:Type}(f:X->AV)(p:X->Bool)(fv:AV)
theorem Qpp(hfc:∀x,(f x).isAgg=true/\(f x).cells.length=2/\(f x).cells.all AV.cell1=true)(l:List X)(hl2:l.length<=1000000)(h:AH)
  (ih:∀x∈l,∀h:AH,FunW Tryz.prog fv [f x] h fun o h'=>o = .ret (.b (p x))/\h'=h) :
  Qp Tryz.prog 53 [.sl 2 (vs f l) none,fv] h fun o h'=>o = .ret (.b (l.all p))/\h'=h:=by
 refine Qc Tryz.func53 rfl Tryz.call53 Tryz.ntmps53 Tryz.results53 (by simp) ?_
 repeat refine Qa ?_;simp only[go_sem,seval,Qh]
 obtain⟨I,hI⟩:∃I:Nat->AS->Prop,I=fun m' s=>∃(k:Nat),m'=l.length - k/\k<=l.length/\l.all p=(l.drop k).all p/\s.tm 1=fv/\s.tm 7 = .sl 2 (vs f l) none/\s.tm 8 = .i l.length/\s.tm 9 = .i k/\(∃L,s.h=h++L):=⟨_,rfl⟩;refine Qv I ?_ (m:=l.length) ?_
 ·intro m' s hs;rw[hI]at hs;obtain⟨tm,hp⟩:=s;dsimp only at hs;obtain⟨k,rfl,hk,he,t1,t7,t8,t9,L,rfl⟩:=hs
  by_cases hlt:k<l.length
  ·have hg:=Z2 f hlt
   have z1:(k:Int)<l.length:=by omega
   obtain⟨hag,hcl,hc1⟩:=hfc l[k]
   have c2:=ih l[k] (QzF hlt) (h++(L++[AB.cells 38 2 [f l[k]]]))
   rw[Qzq hlt,List.all_cons]at he
   cases hp1:p l[k]with
   |true =>
    rw[hp1]at c2 he
    repeat (first|refine FunW.ret c2 ?_|refine Qa ?_);simp only[go_sem,seval,t1,t7,t8,t9,z1,hg,hcl,hag,hc1,Qh]
    refine QZ.mk (m':=l.length - (k+1)) (by omega) ?_
    rw[hI]
    refine⟨k+1,rfl,hlt,by rw[he,Qy3],t1,t7,t8,?_,_,rfl⟩
    simp only[upd,↓reduceIte]
    rw[QY (by omega)]
   |false =>
    rw[hp1]at c2 he
    repeat (first|refine FunW.ret c2 ?_|refine Qa ?_);simp only[go_sem,seval,t1,t7,t8,t9,z1,hg,hcl,hag,hc1,Qh]
    first|refine Qb (htake _ _) (.keep (.v _)) ⟨by rw[he,QAv],rfl⟩|refine Qb Qzb (.keep (.v _)) ⟨by rw[he,QAv],rfl⟩
  ·have hkn:k=l.length:=by omega
   subst hkn
   have z1:¬((l.length:Nat):Int)<l.length:=by omega
   rw[QzG]at he
   repeat refine Qa ?_;simp only[go_sem,seval,t8,t9,z1]
   first|refine Qb (htake _ _) (.keep (.v _)) ⟨by rw[he];rfl,rfl⟩|refine Qb Qzb (.keep (.v _)) ⟨by rw[he];rfl,rfl⟩
 ·rw[hI]
  exact⟨0,rfl,by omega,rfl,rfl,rfl,rfl,rfl,[],(QyM _).symm⟩
end
theorem Qjd(g:G):g.atom.isAgg=true/\g.atom.cells.length=2/\g.atom.cells.all AV.cell1=true:=⟨rfl,rfl,rfl⟩
theorem Qg3(g:G):g.goal.isAgg=true/\g.goal.cells.length=3/\g.goal.cells.all AV.cell1=true:=⟨rfl,rfl,rfl⟩
def Qb7(s:ByteArray):ByteArray:=if 16384<s.size then{data:=#[]} else s
theorem Qdt(s:ByteArray):Pure Tryz.prog 40 [.v (.string s)] (.v (.string (Qb7 s))):=by
 intro h
 have hsl:=ZB Tryz.prog 9 3 QsZ s
 by_cases hz:16384<s.size
 ·have z:(s.size:Int)>16384:=by omega
  refine Qc Tryz.func40 rfl Tryz.call40 Tryz.ntmps40 Tryz.results40 (by simp) ?_
  repeat refine Qa ?_;simp only[go_sem,seval,hsl,z]
  first|refine Qb (htake _ _) (.keep (.v _)) ⟨by rw[Qb7,Qzh hz],rfl⟩|refine Qb Qzb (.keep (.v _)) ⟨by rw[Qb7,Qzh hz],rfl⟩
 ·have z:¬(s.size:Int)>16384:=by omega
  refine Qc Tryz.func40 rfl Tryz.call40 Tryz.ntmps40 Tryz.results40 (by simp) ?_
  repeat refine Qa ?_;simp only[go_sem,seval,hsl,z]
  first|refine Qb (htake _ _) (.keep (.v _)) ⟨by rw[Qb7,Qzf hz],rfl⟩|refine Qb Qzb (.keep (.v _)) ⟨by rw[Qb7,Qzf hz],rfl⟩
def catB:List ByteArray->ByteArray
 |[]=>.empty
 |x::l=>x++catB l
def QlM(l:List ByteArray):List AV:=vs (fun s=>.v (.string s)) l
theorem QsG{h:AH}{i j:Nat}(hi:i<h.length)(hj:j<h.length)(hij:i≠j)(l:List ByteArray)(hl:0<l.length)(hl2:l.length<=1000000)(u:Bool)(tx:ByteArray)(hs:tx.size+(catB l).size<=140737488355328) :
  Qp Tryz.prog 34 [.sl 1 (QlM l) none,.ptr i 0 0] (HS h i j u tx) fun o h'=>o = .ret (.tup [])/\h'=HS h i j true (tx++catB l):=by
 have hlv:(QlM l).length=l.length:=Qh _ _
 refine Qc Tryz.func34 rfl Tryz.call34 Tryz.ntmps34 Tryz.results34 (by simp) ?_
 repeat refine Qa ?_;simp only[go_sem,seval,hlv]
 obtain⟨I,hI⟩:∃I:Nat->AS->Prop,I=fun m' s=>∃(k:Nat) (cur:ByteArray),m'=l.length - k/\k<=l.length/\cur++catB (l.drop k)=tx++catB l/\s.tm 1 = .ptr i 0 0/\s.tm 5 = .sl 1 (QlM l) none/\s.tm 6 = .i l.length/\s.tm 7 = .i k/\s.h=HS h i j (u||decide (0<k)) cur:=⟨_,rfl⟩;refine Qv I ?_ (m:=l.length) ?_
 ·intro m' s hs;rw[hI]at hs;obtain⟨tm,hp⟩:=s;dsimp only at hs;obtain⟨k,cur,rfl,hk,he,t1,t5,t6,t7,rfl⟩:=hs
  by_cases hlt:k<l.length
  ·have hg:(QlM l)[k]? = some (.v (.string l[k])):=Z2 _ hlt
   have z1:(k:Int)<l.length:=by omega
   have hsz:cur.size+(catB (l.drop k)).size=tx.size+(catB l).size:=by rw[<-Qg,he,Qg]
   rw[Qzq hlt,catB]at he hsz
   rw[Qg]at hsz
   have c:=sstr hi hj hij (u||decide (0<k)) cur l[k] (by omega)
   repeat (first|refine FunW.Qxr c ?_|refine Qa ?_);simp only[go_sem,seval,t1,t5,t6,t7,z1,hg,hlv]
   refine QZ.mk (m':=l.length - (k+1)) (by omega) ?_
   rw[hI]
   refine⟨k+1,cur++l[k],rfl,hlt,by rw[ByteArray.append_assoc];exact he,t1,t5,t6,?_,by rw[QzA (Nat.succ_pos k),QAl]⟩
   simp only[upd,↓reduceIte]
   rw[QY (by omega)]
  ·have hkn:k=l.length:=by omega
   subst hkn
   have z1:¬((l.length:Nat):Int)<l.length:=by omega
   rw[QzG,catB,ByteArray.append_empty]at he
   rw[QzA hl,QAl]
   repeat refine Qa ?_;simp only[go_sem,seval,t6,t7,z1]
   exact .inr ⟨rfl,by rw[he]⟩
 ·rw[hI]
  exact⟨0,tx,rfl,by omega,rfl,rfl,rfl,rfl,rfl,by rw[Qzt (by omega),QAm]⟩
end Go.Proofs.YtenheconhibonaaGreatDoor.Ab
namespace Go.Proofs.YtenheconhibonaaGreatDoor.Ab
open Go.Proofs
section
variable{X:Type}(f:X->AV)(fv:AV)
theorem QcW(hfc:∀x,(f x).isAgg=true/\(f x).cells.length=4/\(f x).cells.all AV.cell1=true)(hfb:∀(n:Nat) x,∀a∈(f x).cells,Below n a)(g:List Int->X->X×List Int)(w:X->Nat)(hw:∀s x,(g s x).2.length<=s.length+w x)
  (l:List X) (hl2:l.length<=1000000) (m:Nat) (h:AH) (hm:m<h.length) (s0:List Int) (hs0:s0.length+(l.map w).sum<=1000000)
  (ih:∀x∈l,∀(h:AH) (s:List Int),m<h.length->s.length+w x<=1000000->FunW Tryz.prog fv [f x] (hs h m (mapB s)) fun o h'=>o = .ret (f (g s x).1)/\h'=hs h m (mapB (g s x).2)) :
  Qp Tryz.prog 96 [.sl 4 (vs f l) none,fv] (hs h m (mapB s0)) fun o h'=>o = .ret (.sl 4 (vs f (Qu g s0 l).1) none)/\h'=hs h m (mapB (Qu g s0 l).2):=by
 have f1:=fun x=>ZU h m x
 have f2:=fun x L=>QcR (h:=h) (i:=m) x L
 have f3:=fun x L k=>QiE (h:=h) (i:=m) x L k
 have f4:=fun x y L=>Qdi (h:=h) (i:=m) x y L
 have f5:=fun x y L k=>Qe3 (h:=h) (i:=m) x y L k
 refine Qc Tryz.func96 rfl Tryz.call96 Tryz.ntmps96 Tryz.results96 (by simp) ?_
 iterate 4 (try (first|(((refine Qd fun K E hK hE=>?_));simp only[go_sem,seval])|((with_reducible refine hK _ ?_);clear hK)))
 refine Zu 5 69 4 rfl ?_
 repeat first|refine Qa ?_;simp only[go_sem,seval,Qh]|refine hK _ ?_;clear hK
 obtain⟨I,hI⟩:∃I:Nat->AS->Prop,I=fun m' s=>∃(k:Nat) (out:List X) (cur:List Int),m'=l.length - k/\k<=l.length/\out.length=k/\Qu g s0 l=(out++(Qu g cur (l.drop k)).1,(Qu g cur (l.drop k)).2)/\cur.length+((l.drop k).map w).sum<=1000000/\s.tm 1=fv/\s.tm 5 = .sl 4 (vs f out) (some h.length)/\s.tm 8 = .sl 4 (vs f l) none/\s.tm 9 = .i l.length/\s.tm 10 = .i k/\(∃L,s.h=hs h m (mapB cur)++(AB.grow 69 4 k::L)):=⟨_,rfl⟩;refine Qv I ?_ (m:=l.length) ?_
 ·intro m' s hs;rw[hI]at hs;obtain⟨tm,hp⟩:=s;dsimp only at hs;obtain⟨k,out,cur,rfl,hk,ho,he,hw2,t1,t5,t8,t9,t10,L,rfl⟩:=hs
  by_cases hlt:k<l.length
  ·have hg:=Z2 f hlt
   have z1:(k:Int)<l.length:=by omega
   obtain⟨hag,hcl,hc1⟩:=hfc l[k]
   have hd:l.drop k=l[k]::l.drop (k+1):=Qzq hlt
   rw[hd]at he hw2
   rw[List.map_cons,List.sum_cons]at hw2
   simp only[Qu]at he
   obtain⟨x',ex'⟩:∃x',x'=(g cur l[k]).1:=⟨_,rfl⟩
   obtain⟨cur',ec'⟩:∃x',x'=(g cur l[k]).2:=⟨_,rfl⟩
   have hwk:=hw cur l[k]
   obtain⟨hag',hcl',hc1'⟩:=hfc x'
   have c2:=ih l[k] (QzF hlt) (h++(AB.grow 69 4 k::(L++[AB.cells 69 4 [f l[k]]]))) cur (by rw[Qza];omega) (by omega)
   rw[QbA hm,QbA hm,<-ex',<-ec']at c2
   rw[<-ex',<-ec']at he
   rw[<-ec']at hwk
   have hb1:k+1<=maxLen:=by simp only[maxLen];omega
   have hb2:(k+1) * 56<=140737488355328:=by omega
   have e5:vs f (out++[x'])=vs f out++[f x']:=Qb9 f out [x']
   repeat first|(first|refine FunW.ret c2 ?_|refine Qa ?_);simp only[go_sem,seval,t1,t5,t8,t9,t10,z1,hg,hag,hcl,hc1,hcl',hc1',f1,f2,f3,f4,f5,hb1,hb2,ho,Qh]|refine hK _ ?_;clear hK
   refine QZ.mk (m':=l.length - (k+1)) (by omega) ?_
   rw[hI]
   refine⟨k+1,out++[x'],cur',rfl,hlt,by rw[Qza,ho];rfl,?_,by omega,t1,?_,t8,t9,?_,_,rfl⟩
   ·rw[he];simp only[Qze,QyL,QyK]
   ·rw[e5];rfl
   ·simp only[upd,↓reduceIte]
    rw[QY (by omega)]
  ·have hkn:k=l.length:=by omega
   subst hkn
   have z1:¬((l.length:Nat):Int)<l.length:=by omega
   rw[QzG]at he
   simp only[Qu,QyM]at he
   repeat first|refine Qa ?_;simp only[go_sem,seval,t5,t9,t10,z1]|refine hK _ ?_;clear hK|clear hK;refine hK _ ?_;clear hK
   rw[he]
   exact Q4 (ZJ _ _) (.tok (QhU f _ (hfb _) _)) ⟨rfl,rfl⟩
 ·rw[hI]
  exact⟨0,[],s0,rfl,by omega,rfl,rfl,hs0,rfl,(by show AV.sl 4 [] (some (hs h m (mapB s0)).length)=_;rw[ZU];rfl),rfl,rfl,rfl,[],rfl⟩
end
section
variable{X:Type}(f:X->AV)(fv:AV)
theorem Qle(hfc:∀x,(f x).isAgg=true/\(f x).cells.length=2/\(f x).cells.all AV.cell1=true)(hfb:∀(n:Nat) x,∀a∈(f x).cells,Below n a)(g:List Int->X->X×List Int)(w:X->Nat)(hw:∀s x,(g s x).2.length<=s.length+w x)
  (l:List X) (hl2:l.length<=1000000) (m:Nat) (h:AH) (hm:m<h.length) (s0:List Int) (hs0:s0.length+(l.map w).sum<=1000000)
  (ih:∀x∈l,∀(h:AH) (s:List Int),m<h.length->s.length+w x<=1000000->FunW Tryz.prog fv [f x] (hs h m (mapB s)) fun o h'=>o = .ret (f (g s x).1)/\h'=hs h m (mapB (g s x).2)) :
  Qp Tryz.prog 47 [.sl 2 (vs f l) none,fv] (hs h m (mapB s0)) fun o h'=>o = .ret (.sl 2 (vs f (Qu g s0 l).1) none)/\h'=hs h m (mapB (Qu g s0 l).2):=by
 have f1:=fun x=>ZU h m x
 have f2:=fun x L=>QcR (h:=h) (i:=m) x L
 have f3:=fun x L k=>QiE (h:=h) (i:=m) x L k
 have f4:=fun x y L=>Qdi (h:=h) (i:=m) x y L
 have f5:=fun x y L k=>Qe3 (h:=h) (i:=m) x y L k
 refine Qc Tryz.func47 rfl Tryz.call47 Tryz.ntmps47 Tryz.results47 (by simp) ?_
 iterate 4 (try (first|(((refine Qd fun K E hK hE=>?_));simp only[go_sem,seval])|((with_reducible refine hK _ ?_);clear hK)))
 refine Zu 5 66 2 rfl ?_
 repeat first|refine Qa ?_;simp only[go_sem,seval,Qh]|refine hK _ ?_;clear hK
 obtain⟨I,hI⟩:∃I:Nat->AS->Prop,I=fun m' s=>∃(k:Nat) (out:List X) (cur:List Int),m'=l.length - k/\k<=l.length/\out.length=k/\Qu g s0 l=(out++(Qu g cur (l.drop k)).1,(Qu g cur (l.drop k)).2)/\cur.length+((l.drop k).map w).sum<=1000000/\s.tm 1=fv/\s.tm 5 = .sl 2 (vs f out) (some h.length)/\s.tm 8 = .sl 2 (vs f l) none/\s.tm 9 = .i l.length/\s.tm 10 = .i k/\(∃L,s.h=hs h m (mapB cur)++(AB.grow 66 2 k::L)):=⟨_,rfl⟩;refine Qv I ?_ (m:=l.length) ?_
 ·intro m' s hs;rw[hI]at hs;obtain⟨tm,hp⟩:=s;dsimp only at hs;obtain⟨k,out,cur,rfl,hk,ho,he,hw2,t1,t5,t8,t9,t10,L,rfl⟩:=hs
  by_cases hlt:k<l.length
  ·have hg:=Z2 f hlt
   have z1:(k:Int)<l.length:=by omega
   obtain⟨hag,hcl,hc1⟩:=hfc l[k]
   have hd:l.drop k=l[k]::l.drop (k+1):=Qzq hlt
   rw[hd]at he hw2
   rw[List.map_cons,List.sum_cons]at hw2
   simp only[Qu]at he
   obtain⟨x',ex'⟩:∃x',x'=(g cur l[k]).1:=⟨_,rfl⟩
   obtain⟨cur',ec'⟩:∃x',x'=(g cur l[k]).2:=⟨_,rfl⟩
   have hwk:=hw cur l[k]
   obtain⟨hag',hcl',hc1'⟩:=hfc x'
   have c2:=ih l[k] (QzF hlt) (h++(AB.grow 66 2 k::(L++[AB.cells 66 2 [f l[k]]]))) cur (by rw[Qza];omega) (by omega)
   rw[QbA hm,QbA hm,<-ex',<-ec']at c2
   rw[<-ex',<-ec']at he
   rw[<-ec']at hwk
   have hb1:k+1<=maxLen:=by simp only[maxLen];omega
   have hb2:(k+1) * 40<=140737488355328:=by omega
   have e5:vs f (out++[x'])=vs f out++[f x']:=Qb9 f out [x']
   repeat first|(first|refine FunW.ret c2 ?_|refine Qa ?_);simp only[go_sem,seval,t1,t5,t8,t9,t10,z1,hg,hag,hcl,hc1,hcl',hc1',f1,f2,f3,f4,f5,hb1,hb2,ho,Qh]|refine hK _ ?_;clear hK
   refine QZ.mk (m':=l.length - (k+1)) (by omega) ?_
   rw[hI]
   refine⟨k+1,out++[x'],cur',rfl,hlt,by rw[Qza,ho];rfl,?_,by omega,t1,?_,t8,t9,?_,_,rfl⟩
   ·rw[he];simp only[Qze,QyL,QyK]
   ·rw[e5];rfl
   ·simp only[upd,↓reduceIte]
    rw[QY (by omega)]
  ·have hkn:k=l.length:=by omega
   subst hkn
   have z1:¬((l.length:Nat):Int)<l.length:=by omega
   rw[QzG]at he
   simp only[Qu,QyM]at he
   repeat first|refine Qa ?_;simp only[go_sem,seval,t5,t9,t10,z1]|refine hK _ ?_;clear hK|clear hK;refine hK _ ?_;clear hK
   rw[he]
   exact Q4 (ZJ _ _) (.tok (QhU f _ (hfb _) _)) ⟨rfl,rfl⟩
 ·rw[hI]
  exact⟨0,[],s0,rfl,by omega,rfl,rfl,hs0,rfl,(by show AV.sl 2 [] (some (hs h m (mapB s0)).length)=_;rw[ZU];rfl),rfl,rfl,rfl,[],rfl⟩
end
section
variable{X:Type}(f:X->AV)(fv:AV)
theorem Qlf(hfc:∀x,(f x).isAgg=true/\(f x).cells.length=3/\(f x).cells.all AV.cell1=true)(hfb:∀(n:Nat) x,∀a∈(f x).cells,Below n a)(g:List Int->X->X×List Int)(w:X->Nat)(hw:∀s x,(g s x).2.length<=s.length+w x)
  (l:List X) (hl2:l.length<=1000000) (m:Nat) (h:AH) (hm:m<h.length) (s0:List Int) (hs0:s0.length+(l.map w).sum<=1000000)
  (ih:∀x∈l,∀(h:AH) (s:List Int),m<h.length->s.length+w x<=1000000->FunW Tryz.prog fv [f x] (hs h m (mapB s)) fun o h'=>o = .ret (f (g s x).1)/\h'=hs h m (mapB (g s x).2)) :
  Qp Tryz.prog 49 [.sl 3 (vs f l) none,fv] (hs h m (mapB s0)) fun o h'=>o = .ret (.sl 3 (vs f (Qu g s0 l).1) none)/\h'=hs h m (mapB (Qu g s0 l).2):=by
 have f1:=fun x=>ZU h m x
 have f2:=fun x L=>QcR (h:=h) (i:=m) x L
 have f3:=fun x L k=>QiE (h:=h) (i:=m) x L k
 have f4:=fun x y L=>Qdi (h:=h) (i:=m) x y L
 have f5:=fun x y L k=>Qe3 (h:=h) (i:=m) x y L k
 refine Qc Tryz.func49 rfl Tryz.call49 Tryz.ntmps49 Tryz.results49 (by simp) ?_
 iterate 4 (try (first|(((refine Qd fun K E hK hE=>?_));simp only[go_sem,seval])|((with_reducible refine hK _ ?_);clear hK)))
 refine Zu 5 53 3 rfl ?_
 repeat first|refine Qa ?_;simp only[go_sem,seval,Qh]|refine hK _ ?_;clear hK
 obtain⟨I,hI⟩:∃I:Nat->AS->Prop,I=fun m' s=>∃(k:Nat) (out:List X) (cur:List Int),m'=l.length - k/\k<=l.length/\out.length=k/\Qu g s0 l=(out++(Qu g cur (l.drop k)).1,(Qu g cur (l.drop k)).2)/\cur.length+((l.drop k).map w).sum<=1000000/\s.tm 1=fv/\s.tm 5 = .sl 3 (vs f out) (some h.length)/\s.tm 8 = .sl 3 (vs f l) none/\s.tm 9 = .i l.length/\s.tm 10 = .i k/\(∃L,s.h=hs h m (mapB cur)++(AB.grow 53 3 k::L)):=⟨_,rfl⟩;refine Qv I ?_ (m:=l.length) ?_
 ·intro m' s hs;rw[hI]at hs;obtain⟨tm,hp⟩:=s;dsimp only at hs;obtain⟨k,out,cur,rfl,hk,ho,he,hw2,t1,t5,t8,t9,t10,L,rfl⟩:=hs
  by_cases hlt:k<l.length
  ·have hg:=Z2 f hlt
   have z1:(k:Int)<l.length:=by omega
   obtain⟨hag,hcl,hc1⟩:=hfc l[k]
   have hd:l.drop k=l[k]::l.drop (k+1):=Qzq hlt
   rw[hd]at he hw2
   rw[List.map_cons,List.sum_cons]at hw2
   simp only[Qu]at he
   obtain⟨x',ex'⟩:∃x',x'=(g cur l[k]).1:=⟨_,rfl⟩
   obtain⟨cur',ec'⟩:∃x',x'=(g cur l[k]).2:=⟨_,rfl⟩
   have hwk:=hw cur l[k]
   obtain⟨hag',hcl',hc1'⟩:=hfc x'
   have c2:=ih l[k] (QzF hlt) (h++(AB.grow 53 3 k::(L++[AB.cells 53 3 [f l[k]]]))) cur (by rw[Qza];omega) (by omega)
   rw[QbA hm,QbA hm,<-ex',<-ec']at c2
   rw[<-ex',<-ec']at he
   rw[<-ec']at hwk
   have hb1:k+1<=maxLen:=by simp only[maxLen];omega
   have hb2:(k+1) * 48<=140737488355328:=by omega
   have e5:vs f (out++[x'])=vs f out++[f x']:=Qb9 f out [x']
   repeat first|(first|refine FunW.ret c2 ?_|refine Qa ?_);simp only[go_sem,seval,t1,t5,t8,t9,t10,z1,hg,hag,hcl,hc1,hcl',hc1',f1,f2,f3,f4,f5,hb1,hb2,ho,Qh]|refine hK _ ?_;clear hK
   refine QZ.mk (m':=l.length - (k+1)) (by omega) ?_
   rw[hI]
   refine⟨k+1,out++[x'],cur',rfl,hlt,by rw[Qza,ho];rfl,?_,by omega,t1,?_,t8,t9,?_,_,rfl⟩
   ·rw[he];simp only[Qze,QyL,QyK]
   ·rw[e5];rfl
   ·simp only[upd,↓reduceIte]
    rw[QY (by omega)]
  ·have hkn:k=l.length:=by omega
   subst hkn
   have z1:¬((l.length:Nat):Int)<l.length:=by omega
   rw[QzG]at he
   simp only[Qu,QyM]at he
   repeat first|refine Qa ?_;simp only[go_sem,seval,t5,t9,t10,z1]|refine hK _ ?_;clear hK|clear hK;refine hK _ ?_;clear hK
   rw[he]
   exact Q4 (ZJ _ _) (.tok (QhU f _ (hfb _) _)) ⟨rfl,rfl⟩
 ·rw[hI]
  exact⟨0,[],s0,rfl,by omega,rfl,rfl,hs0,rfl,(by show AV.sl 3 [] (some (hs h m (mapB s0)).length)=_;rw[ZU];rfl),rfl,rfl,rfl,[],rfl⟩
end
end Go.Proofs.YtenheconhibonaaGreatDoor.Ab
namespace Go.Proofs.YtenheconhibonaaGreatDoor.Ab
open Go.Proofs
abbrev Qf1{a:List AV}{h:AH}{Q:AOut->AH->Prop}:=@Qc Tryz.prog 97 _ _ a h Q Tryz.func97 rfl Tryz.call97 _ Tryz.ntmps97 _ Tryz.results97
theorem Qii(l:List T):avs l=vs T.av l:=QcE l
theorem QmT(t:T):t.av.isAgg=true/\t.av.cells.length=4/\t.av.cells.all AV.cell1=true:=by cases t;exact⟨rfl,rfl,rfl⟩
theorem Qkd(n:Nat)(t:T):∀a∈t.av.cells,Below n a:=fun a ha=>QfY n [t] a (by rw[QtK,QQ];exact QzH.2 (.inl ha))
mutual
theorem T.QxC:∀(t:T),t.vars.length<=t.nds
 | .mk k i n l=>by
  simp only[T.vars,T.nds]
  split
  ·simp
  ·split
   ·have:=Qc7 l;omega
   ·simp
theorem Qc7:∀(l:List T),(Xz l).length<=ndsL l
 |[]=>by simp[Xz,ndsL]
 |t::l=>by
  have h1:=T.QxC t
  have h2:=Qc7 l
  simp only[Xz,ndsL,Qza];omega
end
abbrev nT(s:List Int)(t:T):T×List Int:=T.mapS gNum s t
theorem QmD(s:List Int)(t:T):(nT s t).2.length<=s.length+t.nds:=by
 rw[nT,T.QxR s t []]
 have:=Qdd s t.vars
 have:=T.QxC t
 simp only
 omega
theorem QjN(l:List T):(l.map T.nds).sum=ndsL l:=by
 induction l with
 |nil=>rfl
 |cons t l ih=>rw[List.map_cons,List.sum_cons,ih];rfl
def NIh(m:Nat)(t:T):Prop:=∀(h:AH) (s:List Int),m<h.length->s.length+t.nds<=1000000->FunW Tryz.prog (.fn (.func 97) [.mp m] []) [t.av] (hs h m (mapB s)) fun o h'=>o = .ret ((nT s t).1).av/\h'=hs h m (mapB (nT s t).2)
theorem Qlo(m:Nat)(t:T)(hl:t.args.length<=1000000)(ih:∀a∈t.args,NIh m a)(h:AH)(s:List Int)(hm:m<h.length)(hs0:s.length+t.nds<=1000000) :
  Qp Tryz.prog 97 [.mp m,t.av] (hs h m (mapB s)) fun o h'=>o = .ret ((nT s t).1).av/\h'=hs h m (mapB (nT s t).2):=by
 have eav:t.av = .agg [.i t.kind,.i t.int,.v (.string t.name),.sl 4 (avs t.args) none]:=by cases t;rfl
 have en:nT s t=if t.kind=1 then(.mk t.kind (gNum s t.int).1 t.name t.args,(gNum s t.int).2)else if t.kind=2 then(.mk t.kind t.int t.name (Xn gNum s t.args).1,(Xn gNum s t.args).2)else(t,s):=T.QxB gNum s t
 have f1:=fun x=>ZU h m x
 have f2:=fun x L=>QcR (h:=h) (i:=m) x L
 have f3:=fun x L k=>QiE (h:=h) (i:=m) x L k
 have f4:=fun x y L=>Qdi (h:=h) (i:=m) x y L
 have f5:=fun x y L k=>Qe3 (h:=h) (i:=m) x y L k
 have f6:∀s L,(hs h m (mapB s)++L)[m]? = some (.map (imap (ZA s))):=fun s L=>Qmn hm _ L
 have f7:∀s s' L,(hs h m (mapB s)++L).set m (.map (imap (ZA s')))=hs h m (mapB s')++L:=fun s s' L=>Qmo hm _ _ L
 by_cases k1:t.kind=1
 ·rw[Qzh k1]at en
  rw[k1]at eav
  by_cases hmem:t.int∈s
  ·have hf:QgY (.int .i64) (.int .i64 t.int) (imap (ZA s))=some (some (.i (plc s t.int:Nat))):=by rw[QcL,Qhu,Qzh hmem]
   have e1:ins s t.int=s:=Qzh hmem
   rw[eav,en]
   refine Qf1 (by simp) ?_
   repeat refine Qa ?_;simp only[go_sem,seval,f1,f2,f3,f4,f5,f6,hf]
   refine Q4 (ZJ _ _) (.keep ?_) ?_
   exact T.QxD _ (.mk _ _ _ _)
   exact⟨by simp only[gNum,e1,k1];rfl,by simp only[gNum,e1]⟩
  ·have hf:QgY (.int .i64) (.int .i64 t.int) (imap (ZA s))=some none:=by rw[QcL,Qhu,Qzf hmem]
   have e1:ins s t.int=s++[t.int]:=Qzf hmem
   have hu:updA (.int .i64) (.int .i64 t.int) (.i s.length) (imap (ZA s))=some (imap (ZA (s++[t.int]))):=by
    rw[Qki _ _ _ (by rw[Qhu,Qzf hmem]),Qhq]
   rw[eav,en]
   refine Qf1 (by simp) ?_
   repeat refine Qa ?_;simp only[go_sem,seval,f1,f2,f3,f4,f5,f6,f7,hf,hu,Qez]
   refine Q4 (ZJ _ _) (.keep ?_) ?_
   exact T.QxD _ (.mk _ _ _ _)
   exact⟨by simp only[gNum,e1,k1,QbM [] hmem];rfl,by simp only[gNum,e1]⟩
 ·rw[Qzf k1]at en
  have z1:(t.kind==1)=false:=by simpa using k1
  by_cases k2:t.kind=2
  ·rw[Qzh k2]at en
   have hnd:s.length+ndsL t.args<=1000000:=by cases t;simp only[T.nds]at hs0;simp only[T.args];omega
   rw[k2]at eav
   have z2:((2:Int)==1)=false:=by decide
   have c:=QcW T.av (.fn (.func 97) [.mp m] []) QmT Qkd nT T.nds QmD t.args hl m (h++[AB.cells 69 4 [t.av],AB.cells 69 4 [.agg [.i 0,.i 0,.v (.string {data:=#[]}),.v (.slice none 0 0)]]]) (by rw[Qza];omega) s (by rw[QjN];exact hnd) ih
   rw[<-Qii,<-Qii,<-Qcm,QbA hm,QbA hm,eav]at c
   rw[eav,en]
   refine Qf1 (by simp) ?_
   repeat (first|refine FunW.Qxr c ?_|refine Qa ?_);simp only[go_sem,seval,f1,f2,f3,f4,f5,z2]
   refine Q4 (ZJ _ _) (.keep ?_) ?_
   exact T.QxD _ (.mk _ _ _ _)
   exact⟨by simp only[k2];rfl,rfl⟩
  ·rw[Qzf k2]at en
   have z2:(t.kind==2)=false:=by simpa using k2
   rw[eav,en]
   refine Qf1 (by simp) ?_
   repeat refine Qa ?_;simp only[go_sem,seval,f1,f2,f3,f5,z1,z2]
   refine Q4 (ZJ _ _) (.keep ?_) ?_
   exact T.QxD _ (.mk _ _ _ _)
   exact⟨by rw[<-eav],rfl⟩
mutual
theorem T.Qx1:∀(t:T),t.nds<=1000000->∀m,NIh m t
 | .mk k i n l,hn,m=>fun h s hm hs0=>by
  refine FunW.fn ?_
  have hnl:ndsL l<=1000000:=by simp only[T.nds]at hn;omega
  exact Qlo m (.mk k i n l) (by have:=Yy l;simp only[T.args];omega) (QeA l hnl m) h s hm hs0
theorem QeA:∀(l:List T),ndsL l<=1000000->∀m,∀a∈l,NIh m a
 |[],_,_,a,ha=>by cases ha
 |t::l,hn,m,a,ha=>by
  simp only[ndsL]at hn
  have h1:=T.Qx1 t (by omega) m
  have h2:=QeA l (by omega) m
  rcases Qzn.1 ha with e|e
  ·rw[e];exact h1
  ·exact h2 a e
end
def nG(s:List Int)(g:G):G×List Int:=({g with args:=(Xn gNum s g.args).1},(Xn gNum s g.args).2)
def G.nds(g:G):Nat:=ndsL g.args
theorem Qfa(s:List Int)(g:G):(nG s g).2.length<=s.length+g.nds:=by
 rw[nG,Qbi s g.args []]
 have:=Qdd s (Xz g.args)
 have:=Qc7 g.args
 simp only[G.nds]
 omega
theorem Qlm(m:Nat)(g:G)(hn:g.nds<=1000000)(h:AH)(s:List Int)(hm:m<h.length)(hs0:s.length+g.nds<=1000000) :
  Qp Tryz.prog 48 [.mp m,g.atom] (hs h m (mapB s)) fun o h'=>o = .ret ((nG s g).1).atom/\h'=hs h m (mapB (nG s g).2):=by
 have f1:=fun x=>ZU h m x
 have f2:=fun x L=>QcR (h:=h) (i:=m) x L
 have f3:=fun x L k=>QiE (h:=h) (i:=m) x L k
 have f4:=fun x y L=>Qdi (h:=h) (i:=m) x y L
 have f5:=fun x y L k=>Qe3 (h:=h) (i:=m) x y L k
 have c:=QcW T.av (.fn (.func 97) [.mp m] []) QmT Qkd nT T.nds QmD g.args (by have:=Yy g.args;simp only[G.nds]at hn;omega) m (h++[AB.cells 66 2 [g.atom],AB.cells 66 2 [.agg [.v (.string {data:=#[]}),.v (.slice none 0 0)]]]) (by rw[Qza];omega) s (by rw[QjN];exact hs0) (QeA g.args hn m)
 rw[<-Qii,<-Qii,<-Qcm,QbA hm,QbA hm]at c
 refine Qc Tryz.func48 rfl Tryz.call48 Tryz.ntmps48 Tryz.results48 (by simp) ?_
 repeat (first|refine FunW.Qxr c ?_|refine Qa ?_);simp only[go_sem,seval,f1,f2,f3,f4,f5,Yc,QbR]
 refine Q4 (ZJ _ _) (.keep ?_) ?_
 ·exact .agg _ (Qcc _ (nG s g).1)
 ·exact⟨rfl,rfl⟩
theorem Qln(m:Nat)(g:G)(hn:g.nds<=1000000)(h:AH)(s:List Int)(hm:m<h.length)(hs0:s.length+g.nds<=1000000) :
  Qp Tryz.prog 50 [.mp m,g.goal] (hs h m (mapB s)) fun o h'=>o = .ret ((nG s g).1).goal/\h'=hs h m (mapB (nG s g).2):=by
 have f1:=fun x=>ZU h m x
 have f2:=fun x L=>QcR (h:=h) (i:=m) x L
 have f3:=fun x L k=>QiE (h:=h) (i:=m) x L k
 have f4:=fun x y L=>Qdi (h:=h) (i:=m) x y L
 have f5:=fun x y L k=>Qe3 (h:=h) (i:=m) x y L k
 have c:=QcW T.av (.fn (.func 97) [.mp m] []) QmT Qkd nT T.nds QmD g.args (by have:=Yy g.args;simp only[G.nds]at hn;omega) m (h++[AB.cells 53 3 [g.goal],AB.cells 53 3 [.agg [.i 0,.v (.string {data:=#[]}),.v (.slice none 0 0)]]]) (by rw[Qza];omega) s (by rw[QjN];exact hs0) (QeA g.args hn m)
 rw[<-Qii,<-Qii,<-Qcm,QbA hm,QbA hm]at c
 refine Qc Tryz.func50 rfl Tryz.call50 Tryz.ntmps50 Tryz.results50 (by simp) ?_
 repeat (first|refine FunW.Qxr c ?_|refine Qa ?_);simp only[go_sem,seval,f1,f2,f3,f4,f5,QJ,Qak]
 refine Q4 (ZJ _ _) (.keep ?_) ?_
 ·exact .agg _ (Qdg _ (nG s g).1)
 ·exact⟨rfl,rfl⟩
theorem Qb4{X:Type}(g:List Int->X->X×List Int)(w:X->Nat)(hw:∀s x,(g s x).2.length<=s.length+w x):∀(l:List X) (s:List Int),(Qu g s l).2.length<=s.length+(l.map w).sum
 |[],s=>by simp[Qu]
 |x::l,s=>by
  rw[Qu,List.map_cons,List.sum_cons]
  have:=Qb4 g w hw l (g s x).2
  have:=hw s x
  simp only
  omega
def wG(l:List G):Nat:=(l.map G.nds).sum
theorem QrM:∀{l:List G} {g:G},g∈l->g.nds<=wG l
 |x::l,g,h=>by
  simp only[wG,Qyy,List.sum_cons]
  rcases Qzn.1 h with rfl|h
  ·omega
  ·have:=QrM h;simp only[wG]at this;omega
def numR(r:Rl):Rl :=
 ⟨r.name,(Qu nG [] r.keep).1,(Qu nG (Qu nG [] r.keep).2 r.remove).1,(Qu nG (Qu nG (Qu nG [] r.keep).2 r.remove).2 r.guard).1,
  (Qu nG (Qu nG (Qu nG (Qu nG [] r.keep).2 r.remove).2 r.guard).2 r.body).1,(Qu nG (Qu nG (Qu nG (Qu nG [] r.keep).2 r.remove).2 r.guard).2 r.body).2.length⟩
theorem QrY(n:Nat)(r:Rl):Below n r.av:=by
 refine .agg _ fun a ha=>?_
 simp only[Qzn,Qzz,QAf]at ha
 rcases ha with rfl|rfl|rfl|rfl|rfl|rfl
 ·exact .v _
 ·exact QaU _ n 2 (Qcc n) _
 ·exact QaU _ n 2 (Qcc n) _
 ·exact QaU _ n 3 (Qdg n) _
 ·exact QaU _ n 3 (Qdg n) _
 ·exact .v _
theorem QdY(r:Rl)(h1:r.keep.length<=100000)(h2:r.remove.length<=100000)(h3:r.guard.length<=100000)(h4:r.body.length<=100000)(hw:wG r.keep+wG r.remove+wG r.guard+wG r.body<=1000000) :
  Pure Tryz.prog 13 [r.av] (numR r).av:=by
 intro h
 obtain⟨s1,es1⟩:∃s,s=(Qu nG [] r.keep).2:=⟨_,rfl⟩
 obtain⟨s2,es2⟩:∃s,s=(Qu nG s1 r.remove).2:=⟨_,rfl⟩
 obtain⟨s3,es3⟩:∃s,s=(Qu nG s2 r.guard).2:=⟨_,rfl⟩
 obtain⟨s4,es4⟩:∃s,s=(Qu nG s3 r.body).2:=⟨_,rfl⟩
 obtain⟨l1,el1⟩:∃s,s=(Qu nG [] r.keep).1:=⟨_,rfl⟩
 obtain⟨l2,el2⟩:∃s,s=(Qu nG s1 r.remove).1:=⟨_,rfl⟩
 obtain⟨l3,el3⟩:∃s,s=(Qu nG s2 r.guard).1:=⟨_,rfl⟩
 obtain⟨l4,el4⟩:∃s,s=(Qu nG s3 r.body).1:=⟨_,rfl⟩
 have en:numR r=⟨r.name,l1,l2,l3,l4,s4.length⟩:=by rw[numR,<-es1,<-es2,<-es3,<-es4,<-el1,<-el2,<-el3,<-el4]
 have w1:s1.length<=wG r.keep:=by rw[es1];have:=Qb4 nG G.nds Qfa r.keep [];simpa [wG]using this
 have w2:s2.length<=s1.length+wG r.remove:=by rw[es2];exact Qb4 nG G.nds Qfa r.remove s1
 have w3:s3.length<=s2.length+wG r.guard:=by rw[es3];exact Qb4 nG G.nds Qfa r.guard s2
 have w4:s4.length<=s3.length+wG r.body:=by rw[es4];exact Qb4 nG G.nds Qfa r.body s3
 obtain⟨zv,hz⟩:∃z,z=AB.cells 25 6 [.agg [.v (.string {data:=#[]}),.v (.slice none 0 0),.v (.slice none 0 0),.v (.slice none 0 0),.v (.slice none 0 0),.v (.int .i64 0)]]:=⟨_,rfl⟩
 have e:∀x y z,hs (h++[x,y,AB.dead]) (h.length+2) z=h++[x,y,z]:=fun x y z=>by simp[hs]
 have hlt:∀x y:AB,h.length+2<(h++[x,y,AB.dead]).length:=fun x y=>by simp
 have cA:=fun(l:List G) (hl:l.length<=100000) (s:List Int) (hs0:s.length+wG l<=1000000) x=>Qle G.atom (.fn (.func 48) [.mp (h.length+2)] []) Qjd Qcc nG G.nds Qfa l (by omega) (h.length+2) (h++[x,zv,AB.dead]) (hlt _ _) s hs0
  (fun g hg h s hm hs1=>FunW.fn (Qlm _ g (by have:=QrM hg;omega) h s hm hs1))
 have cG:=fun(l:List G) (hl:l.length<=100000) (s:List Int) (hs0:s.length+wG l<=1000000) x=>Qlf G.goal (.fn (.func 50) [.mp (h.length+2)] []) Qg3 Qdg nG G.nds Qfa l (by omega) (h.length+2) (h++[x,zv,AB.dead]) (hlt _ _) s hs0
  (fun g hg h s hm hs1=>FunW.fn (Qln _ g (by have:=QrM hg;omega) h s hm hs1))
 have c1:=cA r.keep h1 [] (by simp only[Qyx];omega) (.cells 25 6 [.agg [.v (.string r.name),.sl 2 (vs G.atom r.keep) none,.sl 2 (vs G.atom r.remove) none,.sl 3 (vs G.goal r.guard) none,.sl 3 (vs G.goal r.body) none,.v (.int .i64 r.vars)]])
 have c2:=cA r.remove h2 s1 (by omega) (.cells 25 6 [.agg [.v (.string r.name),.sl 2 (vs G.atom l1) none,.sl 2 (vs G.atom r.remove) none,.sl 3 (vs G.goal r.guard) none,.sl 3 (vs G.goal r.body) none,.v (.int .i64 r.vars)]])
 have c3:=cG r.guard h3 s2 (by omega) (.cells 25 6 [.agg [.v (.string r.name),.sl 2 (vs G.atom l1) none,.sl 2 (vs G.atom l2) none,.sl 3 (vs G.goal r.guard) none,.sl 3 (vs G.goal r.body) none,.v (.int .i64 r.vars)]])
 have c4:=cG r.body h4 s3 (by omega) (.cells 25 6 [.agg [.v (.string r.name),.sl 2 (vs G.atom l1) none,.sl 2 (vs G.atom l2) none,.sl 3 (vs G.goal l3) none,.sl 3 (vs G.goal r.body) none,.v (.int .i64 r.vars)]])
 rw[e,e,<-es1,<-el1,show mapB [] = .map []from rfl,hz]at c1
 rw[e,e,<-es2,<-el2,hz]at c2
 rw[e,e,<-es3,<-el3,hz]at c3
 rw[e,e,<-es4,<-el4,hz]at c4
 have mb:mapB s4 = .map (imap (ZA s4)):=rfl
 rw[en]
 refine Qc Tryz.func13 rfl Tryz.call13 Tryz.ntmps13 Tryz.results13 (by simp) ?_
 rw[show r.av=AV.agg [.v (.string r.name),.sl 2 (vs G.atom r.keep) none,.sl 2 (vs G.atom r.remove) none,.sl 3 (vs G.goal r.guard) none,.sl 3 (vs G.goal r.body) none,.v (.int .i64 r.vars)]from rfl]
 repeat (first|refine FunW.Qxr c1 ?_|refine FunW.Qxr c2 ?_|refine FunW.Qxr c3 ?_|refine FunW.Qxr c4 ?_|refine Qa ?_);simp only[go_sem,seval,mb,Qez]
 exact Qb (htake _ _) (.keep (QrY _ ⟨r.name,l1,l2,l3,l4,s4.length⟩)) ⟨rfl,rfl⟩
def QcX:List G->Bool
 |[g]=>g.op==1
 |_=>false
theorem Qhw{l:List G}(h:l.length=1)(h0:0<l.length):QcX l=(l[0].op==1):=by
 match l,h with
 |[g],_=>rfl
def preR(r:Rl):Bool:=(XN r.name||X2 r.name)&&(decide (0<r.keep.length+r.remove.length/\r.keep.length+r.remove.length<=4)&&(decide (r.guard.length<=12/\r.body.length<=12)&&!QcX r.body))
def Xr(r:Rl):Bool:=preR r&&(r.keep.all Qt&&(r.remove.all Qt&&(r.guard.all Qo&&r.body.all Qo)))
theorem Qj2(r:Rl)(h1:r.keep.length<=100000)(h2:r.remove.length<=100000)(h3:r.guard.length<=100000)(h4:r.body.length<=100000) :
  Pure Tryz.prog 33 [r.av] (.b (Xr r)):=by
 intro h
 have er:r.av=AV.agg [.v (.string r.name),.sl 2 (vs G.atom r.keep) none,.sl 2 (vs G.atom r.remove) none,.sl 3 (vs G.goal r.guard) none,.sl 3 (vs G.goal r.body) none,.v (.int .i64 r.vars)]:=rfl
 have cn:Pure Tryz.prog 55 [.v (.string r.name)] (.b (X2 r.name)):=Qdr r.name
 have hadd:IntKind.i64.wrap ((r.keep.length:Int)+r.remove.length)=((r.keep.length+r.remove.length:Nat):Int):=by rw[Xk (by omega)];omega
 obtain⟨n,en⟩:∃n:Nat,n=r.keep.length+r.remove.length:=⟨_,rfl⟩
 rw[<-en]at hadd
 refine Qc Tryz.func33 rfl Tryz.call33 Tryz.ntmps33 Tryz.results33 (by simp) ?_
 rw[er]
 iterate 4 (try (first|(((refine Qd fun K E hK hE=>?_));simp only[go_sem,seval,Qh,hadd])|((with_reducible refine hK _ ?_);clear hK)))
 refine XT (fun s=>preR r=true/\s.tm 1 = .ptr h.length 0 0/\s.h=h++[.cells 25 6 [.agg [.v (.string r.name),.sl 2 (vs G.atom r.keep) none,.sl 2 (vs G.atom r.remove) none,.sl 3 (vs G.goal r.guard) none,.sl 3 (vs G.goal r.body) none,.v (.int .i64 r.vars)]]]) ?_ ?_
 ·rintro⟨tm,hp⟩ ⟨hpr,t1,hh⟩
  dsimp only at t1 hh
  subst hh
  have a1:=fun h=>Qkw G.atom Qt (.fn (.func 80) [] []) Qjd r.keep (by omega) h (fun g _ h=>FunW.call (ZZ g h))
  have a2:=fun h=>Qkw G.atom Qt (.fn (.func 80) [] []) Qjd r.remove (by omega) h (fun g _ h=>FunW.call (ZZ g h))
  have a3:=fun h=>Qgr G.goal Qo (.fn (.func 61) [] []) Qg3 r.guard (by omega) h (fun g _ h=>FunW.call (Z1 g h))
  have a4:=fun h=>Qgr G.goal Qo (.fn (.func 61) [] []) Qg3 r.body (by omega) h (fun g _ h=>FunW.call (Z1 g h))
  obtain⟨b1,w1⟩:∃b,b=(r.keep.all Qt):=⟨_,rfl⟩
  rw[<-w1]at a1
  cases b1
  ·have v1:(r.keep.all Qt)=false:=w1.symm
   have R:Xr r=false:=by rw[Xr,hpr,v1];rfl
   repeat first|(first|refine FunW.Qxr (a1 _) ?_|refine Qa ?_);simp only[go_sem,seval,t1]|refine hK _ ?_;clear hK
   first|refine Qb (htake _ _) (.keep (.v _)) ⟨by rw[R],rfl⟩|refine Qb Qzb (.keep (.v _)) ⟨by rw[R],rfl⟩
  have v1:(r.keep.all Qt)=true:=w1.symm
  obtain⟨b2,w2⟩:∃b,b=(r.remove.all Qt):=⟨_,rfl⟩
  rw[<-w2]at a2
  cases b2
  ·have v2:(r.remove.all Qt)=false:=w2.symm
   have R:Xr r=false:=by rw[Xr,hpr,v1,v2];rfl
   repeat first|(first|refine FunW.Qxr (a1 _) ?_|refine FunW.Qxr (a2 _) ?_|refine Qa ?_);simp only[go_sem,seval,t1]|refine hK _ ?_;clear hK
   first|refine Qb (htake _ _) (.keep (.v _)) ⟨by rw[R],rfl⟩|refine Qb Qzb (.keep (.v _)) ⟨by rw[R],rfl⟩
  have v2:(r.remove.all Qt)=true:=w2.symm
  obtain⟨b3,w3⟩:∃b,b=(r.guard.all Qo):=⟨_,rfl⟩
  rw[<-w3]at a3
  cases b3
  ·have v3:(r.guard.all Qo)=false:=w3.symm
   have R:Xr r=false:=by rw[Xr,hpr,v1,v2,v3];rfl
   repeat first|(first|refine FunW.Qxr (a1 _) ?_|refine FunW.Qxr (a2 _) ?_|refine FunW.Qxr (a3 _) ?_|refine Qa ?_);simp only[go_sem,seval,t1]|refine hK _ ?_;clear hK
   first|refine Qb (htake _ _) (.keep (.v _)) ⟨by rw[R],rfl⟩|refine Qb Qzb (.keep (.v _)) ⟨by rw[R],rfl⟩
  have v3:(r.guard.all Qo)=true:=w3.symm
  obtain⟨b4,w4⟩:∃b,b=(r.body.all Qo):=⟨_,rfl⟩
  rw[<-w4]at a4
  cases b4
  ·have v4:(r.body.all Qo)=false:=w4.symm
   have R:Xr r=false:=by rw[Xr,hpr,v1,v2,v3,v4];rfl
   repeat first|(first|refine FunW.Qxr (a1 _) ?_|refine FunW.Qxr (a2 _) ?_|refine FunW.Qxr (a3 _) ?_|refine FunW.Qxr (a4 _) ?_|refine Qa ?_);simp only[go_sem,seval,t1]|refine hK _ ?_;clear hK
   first|refine Qb (htake _ _) (.keep (.v _)) ⟨by rw[R],rfl⟩|refine Qb Qzb (.keep (.v _)) ⟨by rw[R],rfl⟩
  have v4:(r.body.all Qo)=true:=w4.symm
  have R:Xr r=true:=by rw[Xr,hpr,v1,v2,v3,v4];rfl
  repeat first|(first|refine FunW.Qxr (a1 _) ?_|refine FunW.Qxr (a2 _) ?_|refine FunW.Qxr (a3 _) ?_|refine FunW.Qxr (a4 _) ?_|refine Qa ?_);simp only[go_sem,seval,t1]|refine hK _ ?_;clear hK
  first|refine Qb (htake _ _) (.keep (.v _)) ⟨by rw[R],rfl⟩|refine Qb Qzb (.keep (.v _)) ⟨by rw[R],rfl⟩
 ·have ee:(r.name.toList==({data:=#[]}:ByteArray).toList)=XN r.name:=rfl
  have hgg:∀k:Nat,((r.guard.length:Int)>12)=(12<r.guard.length):=fun _=>by rw[eq_iff_iff];omega
  cases ce:XN r.name
  ·rw[ce]at ee
   cases cr:X2 r.name
   ·have R:Xr r=false:=by rw[Xr,preR,ce,cr];rfl
    rw[cr]at cn
    repeat first|(first|refine Qe cn ?_|refine Qa ?_);simp only[go_sem,seval,ee]|refine hK _ ?_;clear hK
    first|refine Qb (htake _ _) (.keep (.v _)) ⟨by rw[R],rfl⟩|refine Qb Qzb (.keep (.v _)) ⟨by rw[R],rfl⟩
   ·have hn:(XN r.name||X2 r.name)=true:=by rw[ce,cr];rfl
    rw[cr]at cn
    by_cases n0:n=0
    ·have R:Xr r=false:=by rw[Xr,preR,hn,Qzt (by omega)];rfl
     have m0:((n:Int)==0)=true:=by simp[n0]
     repeat first|(first|refine Qe cn ?_|refine Qa ?_);simp only[go_sem,seval,ee,m0]|refine hK _ ?_;clear hK
     first|refine Qb (htake _ _) (.keep (.v _)) ⟨by rw[R],rfl⟩|refine Qb Qzb (.keep (.v _)) ⟨by rw[R],rfl⟩
    have m0:((n:Int)==0)=false:=by simp;omega
    by_cases n4:n>4
    ·have R:Xr r=false:=by rw[Xr,preR,hn,Qzt (by omega)];rfl
     have m4:(n:Int)>4:=by omega
     repeat first|(first|refine Qe cn ?_|refine Qa ?_);simp only[go_sem,seval,ee,m0,m4]|refine hK _ ?_;clear hK
     first|refine Qb (htake _ _) (.keep (.v _)) ⟨by rw[R],rfl⟩|refine Qb Qzb (.keep (.v _)) ⟨by rw[R],rfl⟩
    have m4:¬(n:Int)>4:=by omega
    have hh:decide (0<r.keep.length+r.remove.length/\r.keep.length+r.remove.length<=4)=true:=QzA (by omega)
    by_cases g0:r.guard.length>12
    ·have R:Xr r=false:=by rw[Xr,preR,hn,hh,Qzt (by omega)];rfl
     have mg:(r.guard.length:Int)>12:=by omega
     repeat first|(first|refine Qe cn ?_|refine Qa ?_);simp only[go_sem,seval,ee,m0,m4,mg,Qh]|refine hK _ ?_;clear hK
     first|refine Qb (htake _ _) (.keep (.v _)) ⟨by rw[R],rfl⟩|refine Qb Qzb (.keep (.v _)) ⟨by rw[R],rfl⟩
    have mg:¬(r.guard.length:Int)>12:=by omega
    by_cases b0:r.body.length>12
    ·have R:Xr r=false:=by rw[Xr,preR,hn,hh,Qzt (by omega)];rfl
     have mb:(r.body.length:Int)>12:=by omega
     repeat first|(first|refine Qe cn ?_|refine Qa ?_);simp only[go_sem,seval,ee,m0,m4,mg,mb,Qh]|refine hK _ ?_;clear hK
     first|refine Qb (htake _ _) (.keep (.v _)) ⟨by rw[R],rfl⟩|refine Qb Qzb (.keep (.v _)) ⟨by rw[R],rfl⟩
    have mb:¬(r.body.length:Int)>12:=by omega
    have hgb:decide (r.guard.length<=12/\r.body.length<=12)=true:=QzA (by omega)
    by_cases b1:r.body.length=1
    ·have hb0:0<r.body.length:=by omega
     have m1:((r.body.length:Int)==1)=true:=by simp;omega
     have m2:(0:Int)<r.body.length:=by omega
     have hg0:=Z2 G.goal hb0
     have hone:=Qhw b1 hb0
     cases co:(r.body[0].op==1)
     ·have P:preR r=true:=by rw[preR,hn,hh,hgb,hone,co];rfl
      repeat first|(first|refine Qe cn ?_|refine Qa ?_);simp only[go_sem,seval,ee,m0,m4,mg,mb,m1,m2,hg0,co,Qh,QJ]|refine hK _ ?_;clear hK
      exact⟨P,rfl,rfl⟩
     ·have R:Xr r=false:=by rw[Xr,preR,hn,hh,hgb,hone,co];rfl
      repeat first|(first|refine Qe cn ?_|refine Qa ?_);simp only[go_sem,seval,ee,m0,m4,mg,mb,m1,m2,hg0,co,Qh,QJ]|refine hK _ ?_;clear hK
      first|refine Qb (htake _ _) (.keep (.v _)) ⟨by rw[R],rfl⟩|refine Qb Qzb (.keep (.v _)) ⟨by rw[R],rfl⟩
    ·have m1:((r.body.length:Int)==1)=false:=by simp;omega
     have hone:QcX r.body=false:=by
      match hq:r.body,b1 with
      |[],_=>rfl
      |[g],b1=>exact absurd rfl b1
      |_::_::_,_=>rfl
     have P:preR r=true:=by rw[preR,hn,hh,hgb,hone];rfl
     repeat first|(first|refine Qe cn ?_|refine Qa ?_);simp only[go_sem,seval,ee,m0,m4,mg,mb,m1,Qh]|refine hK _ ?_;clear hK
     exact⟨P,rfl,rfl⟩
  ·rw[ce]at ee
   have hn:(XN r.name||X2 r.name)=true:=by rw[ce];rfl
   by_cases n0:n=0
   ·have R:Xr r=false:=by rw[Xr,preR,hn,Qzt (by omega)];rfl
    have m0:((n:Int)==0)=true:=by simp[n0]
    repeat first|refine Qa ?_;simp only[go_sem,seval,ee,m0]|refine hK _ ?_;clear hK
    first|refine Qb (htake _ _) (.keep (.v _)) ⟨by rw[R],rfl⟩|refine Qb Qzb (.keep (.v _)) ⟨by rw[R],rfl⟩
   have m0:((n:Int)==0)=false:=by simp;omega
   by_cases n4:n>4
   ·have R:Xr r=false:=by rw[Xr,preR,hn,Qzt (by omega)];rfl
    have m4:(n:Int)>4:=by omega
    repeat first|refine Qa ?_;simp only[go_sem,seval,ee,m0,m4]|refine hK _ ?_;clear hK
    first|refine Qb (htake _ _) (.keep (.v _)) ⟨by rw[R],rfl⟩|refine Qb Qzb (.keep (.v _)) ⟨by rw[R],rfl⟩
   have m4:¬(n:Int)>4:=by omega
   have hh:decide (0<r.keep.length+r.remove.length/\r.keep.length+r.remove.length<=4)=true:=QzA (by omega)
   by_cases g0:r.guard.length>12
   ·have R:Xr r=false:=by rw[Xr,preR,hn,hh,Qzt (by omega)];rfl
    have mg:(r.guard.length:Int)>12:=by omega
    repeat first|refine Qa ?_;simp only[go_sem,seval,ee,m0,m4,mg,Qh]|refine hK _ ?_;clear hK
    first|refine Qb (htake _ _) (.keep (.v _)) ⟨by rw[R],rfl⟩|refine Qb Qzb (.keep (.v _)) ⟨by rw[R],rfl⟩
   have mg:¬(r.guard.length:Int)>12:=by omega
   by_cases b0:r.body.length>12
   ·have R:Xr r=false:=by rw[Xr,preR,hn,hh,Qzt (by omega)];rfl
    have mb:(r.body.length:Int)>12:=by omega
    repeat first|refine Qa ?_;simp only[go_sem,seval,ee,m0,m4,mg,mb,Qh]|refine hK _ ?_;clear hK
    first|refine Qb (htake _ _) (.keep (.v _)) ⟨by rw[R],rfl⟩|refine Qb Qzb (.keep (.v _)) ⟨by rw[R],rfl⟩
   have mb:¬(r.body.length:Int)>12:=by omega
   have hgb:decide (r.guard.length<=12/\r.body.length<=12)=true:=QzA (by omega)
   by_cases b1:r.body.length=1
   ·have hb0:0<r.body.length:=by omega
    have m1:((r.body.length:Int)==1)=true:=by simp;omega
    have m2:(0:Int)<r.body.length:=by omega
    have hg0:=Z2 G.goal hb0
    have hone:=Qhw b1 hb0
    cases co:(r.body[0].op==1)
    ·have P:preR r=true:=by rw[preR,hn,hh,hgb,hone,co];rfl
     repeat first|refine Qa ?_;simp only[go_sem,seval,ee,m0,m4,mg,mb,m1,m2,hg0,co,Qh,QJ]|refine hK _ ?_;clear hK
     exact⟨P,rfl,rfl⟩
    ·have R:Xr r=false:=by rw[Xr,preR,hn,hh,hgb,hone,co];rfl
     repeat first|refine Qa ?_;simp only[go_sem,seval,ee,m0,m4,mg,mb,m1,m2,hg0,co,Qh,QJ]|refine hK _ ?_;clear hK
     first|refine Qb (htake _ _) (.keep (.v _)) ⟨by rw[R],rfl⟩|refine Qb Qzb (.keep (.v _)) ⟨by rw[R],rfl⟩
   ·have m1:((r.body.length:Int)==1)=false:=by simp;omega
    have hone:QcX r.body=false:=by
     match hq:r.body,b1 with
     |[],_=>rfl
     |[g],b1=>exact absurd rfl b1
     |_::_::_,_=>rfl
    have P:preR r=true:=by rw[preR,hn,hh,hgb,hone];rfl
    repeat first|refine Qa ?_;simp only[go_sem,seval,ee,m0,m4,mg,mb,m1,Qh]|refine hK _ ?_;clear hK
    exact⟨P,rfl,rfl⟩
theorem QvN{l:List ByteArray}(h:∀x∈l,x.size<=15000):(l.map fun x=>x.size+2).sum<=15002 * l.length:=by
 induction l with
 |nil=>simp
 |cons x l ih =>
  rw[List.map_cons,List.sum_cons,Qyw]
  have:=h x (by simp)
  have:=ih fun y hy=>h y (by simp[hy])
  omega
theorem Qb2{X:Type}(tx:X->ByteArray)(l:List X)(h:∀x∈l,1<=(tx x).size/\(tx x).size<=15000):(Xw true (l.map tx)).size<=15002 * l.length/\(0<l.length->0<(Xw true (l.map tx)).size):=by
 have h1:=QjE (l.map tx) true
 have h2:=QvN (l:=l.map tx) fun x hx=>by obtain⟨y,hy,rfl⟩:=QzD.1 hx;exact(h y hy).2
 rw[QzJ]at h2
 refine⟨by omega,fun h0=>?_⟩
 match l,h0 with
 |x::l,_ =>
  have:=(h x (by simp)).1
  rw[List.map_cons,QiG true _ (tx x) (l.map tx) rfl]
  omega
theorem QrH{g:G}(h:Qt g=true):1<=(txtA g).size/\(txtA g).size<=15000:=by
 rw[txtA,Qzh h];exact⟨(Qeb h).2.2.1,(Qeb h).2.2.2⟩
theorem QrJ{g:G}(h:Qo g=true):1<=(txtG g).size/\(txtG g).size<=15000:=by
 rw[txtG,Qzh h];exact⟨(Qen h).2.2.1,(Qen h).2.2.2.1⟩
def jA(l:List G):ByteArray:=Xw true (l.map txtA)
def jG(l:List G):ByteArray:=Xw true (l.map txtG)
theorem Qqo{l:List G}(hv:l.all Qt=true):(jA l).size<=15002 * l.length:=(Qb2 txtA l fun x hx=>QrH (QzB.1 hv x hx)).1
theorem Qqp{l:List G}(hv:l.all Qo=true):(jG l).size<=15002 * l.length:=(Qb2 txtG l fun x hx=>QrJ (QzB.1 hv x hx)).1
theorem Qmq(l:List G)(hv:l.all Qt=true)(hl:l.length<=100000)(h:AH)(hG:Xl h) :
  Qp Tryz.prog 36 [.sl 2 (vs G.atom l) none,.fn (.func 37) [] []] h fun o h'=>o = .ret (.v (.string (jA l)))/\h'=h:=by
 cases l with
 |nil=>exact Qms _ h
 |cons x l =>
  have hj:=Qb2 txtA (x::l) fun x hx=>QrH (QzB.1 hv x hx)
  refine Qk4 G.atom txtA _ Qjd (x::l) (by simp) (by omega) h hG (fun g hg h hG=>FunW.call (Qkf g ?_ h hG)) (hj.2 (by simp)) (by omega)
  have:=(Qeb (QzB.1 hv g hg)).2.1
  omega
theorem Qmr(l:List G)(hv:l.all Qo=true)(hl:l.length<=100000)(h:AH)(hG:Xl h) :
  Qp Tryz.prog 38 [.sl 3 (vs G.goal l) none,.fn (.func 39) [] []] h fun o h'=>o = .ret (.v (.string (jG l)))/\h'=h:=by
 cases l with
 |nil=>exact Qmu _ h
 |cons x l =>
  have hj:=Qb2 txtG (x::l) fun x hx=>QrJ (QzB.1 hv x hx)
  refine Qk6 G.goal txtG _ Qg3 (x::l) (by simp) (by omega) h hG (fun g hg h hG=>FunW.call (Qkg g ?_ h hG)) (hj.2 (by simp)) (by omega)
  have:=(Qen (QzB.1 hv g hg)).2.1
  omega
abbrev atB:ByteArray:={data:=#[32,64,32]}
abbrev impB:ByteArray:={data:=#[32,61,61,62,32]}
abbrev bsB:ByteArray:={data:=#[32,92,32]}
abbrev simB:ByteArray:={data:=#[32,60,61,62,32]}
abbrev barB:ByteArray:={data:=#[32,124,32]}
abbrev dotB:ByteArray:={data:=#[46]}
def t1R(x:Rl):ByteArray:=if XN x.name=true then .empty else x.name++atB
def t3R(x:Rl)(t:ByteArray):ByteArray:=if x.remove=[]then t++impB else(if x.keep=[]then t else t++bsB)++(jA x.remove++simB)
def t4R(x:Rl)(t:ByteArray):ByteArray:=if x.guard=[]then t else t++(jG x.guard++barB)
def t5R(x:Rl)(t:ByteArray):ByteArray:=if x.body=[]then t++Qid else t
def t2R(x:Rl):ByteArray:=t1R x++jA x.keep
def QdS(x:Rl):ByteArray:=t5R x (t4R x (t3R x (t2R x)))++(jG x.body++dotB)
def Qbc(r:Rl):ByteArray:=if Xr (numR r)=true then Qb7 (QdS (numR r))else{data:=#[]}
theorem QeJ(r:Rl)(h1:r.keep.length<=100000)(h2:r.remove.length<=100000)(h3:r.guard.length<=100000)(h4:r.body.length<=100000)(hw:wG r.keep+wG r.remove+wG r.guard+wG r.body<=1000000)
  (h:AH) (hG:Xl h):Qp Tryz.prog 10 [r.av] h fun o h'=>o = .ret (.v (.string (Qbc r)))/\h'=h:=by
 have cn:=QdY r h1 h2 h3 h4 hw
 obtain⟨x,ex⟩:∃x,x=numR r:=⟨_,rfl⟩
 rw[<-ex]at cn
 have l1:x.keep.length<=100000:=by rw[ex];simp only[numR,Qan];exact h1
 have l2:x.remove.length<=100000:=by rw[ex];simp only[numR,Qan];exact h2
 have l3:x.guard.length<=100000:=by rw[ex];simp only[numR,Qan];exact h3
 have l4:x.body.length<=100000:=by rw[ex];simp only[numR,Qan];exact h4
 have cr:=Qj2 x l1 l2 l3 l4
 have exv:x.av=AV.agg [.v (.string x.name),.sl 2 (vs G.atom x.keep) none,.sl 2 (vs G.atom x.remove) none,.sl 3 (vs G.goal x.guard) none,.sl 3 (vs G.goal x.body) none,.v (.int .i64 x.vars)]:=rfl
 have erv:r.av=AV.agg [.v (.string r.name),.sl 2 (vs G.atom r.keep) none,.sl 2 (vs G.atom r.remove) none,.sl 3 (vs G.goal r.guard) none,.sl 3 (vs G.goal r.body) none,.v (.int .i64 r.vars)]:=rfl
 rw[exv,erv]at cn
 rw[exv]at cr
 rw[Qbc,<-ex,erv]
 cases hr:Xr x with
 |false =>
  rw[hr]at cr
  rw[Qzf (by decide)]
  refine Qc Tryz.func10 rfl Tryz.call10 Tryz.ntmps10 Tryz.results10 (by simp) ?_
  repeat first|(first|refine Qe cn ?_|refine Qe cr ?_|refine Qa ?_);simp only[go_sem,seval]|refine hK _ ?_;clear hK
  first|refine Qb (htake _ _) (.keep (.v _)) ⟨rfl,rfl⟩|refine Qb Qzb (.keep (.v _)) ⟨rfl,rfl⟩
 |true =>
  rw[hr]at cr
  rw[Qzh rfl]
  have hr':=hr
  simp only[Xr,Qzk]at hr'
  obtain⟨hpre,v1,v2,v3,v4⟩:=hr'
  have hnx:x.name.size<=140737488:=by
   rw[preR,Qzk,QzW]at hpre
   rcases hpre.1 with e|e
   ·have:=QaL e;omega
   ·have:=(Qbs e).2;omega
  have k1:=Qqo v1
  have k2:=Qqo v2
  have k3:=Qqp v3
  have k4:=Qqp v4
  obtain⟨H0,eH⟩:∃H:AH,H=h++[AB.cells 25 6 [.agg [.v (.string x.name),.sl 2 (vs G.atom x.keep) none,.sl 2 (vs G.atom x.remove) none,.sl 3 (vs G.goal x.guard) none,.sl 3 (vs G.goal x.body) none,.v (.int .i64 x.vars)]]]:=⟨_,rfl⟩
  have hl0:H0.length=h.length+1:=by rw[eH];simp
  have hi:h.length+1<(H0++[AB.dead,AB.dead]).length:=by rw[Qza,hl0];simp
  have hj:h.length+2<(H0++[AB.dead,AB.dead]).length:=by rw[Qza,hl0];simp
  have hij:h.length+1≠h.length+2:=by omega
  have g0:∀u tx,(HS (H0++[AB.dead,AB.dead]) (h.length+1) (h.length+2) u tx)[h.length]? = some (AB.cells 25 6 [.agg [.v (.string x.name),.sl 2 (vs G.atom x.keep) none,.sl 2 (vs G.atom x.remove) none,.sl 3 (vs G.goal x.guard) none,.sl 3 (vs G.goal x.body) none,.v (.int .i64 x.vars)]]):=fun u tx=>by
   rw[HS,Yo _ _ (by omega) (by omega),eH];simp
  have hGs:∀u tx,Xl (HS (H0++[AB.dead,AB.dead]) (h.length+1) (h.length+2) u tx):=fun u tx=>by
   have:=Qkp (h:=H0) (by rw[eH];exact HasG.app hG _) [AB.dead,AB.dead] rfl u tx
   rwa [hl0]at this
  have put:=fun(l:List ByteArray) (hl:0<l.length) (hl2:l.length<=1000000) (u:Bool) (tx:ByteArray) (hs:tx.size+(catB l).size<=140737488355328)=>FunW.fn (first:=[]) (args:=[.sl 1 (QlM l) none]) (cap:=[.ptr (h.length+1) 0 0]) (QsG hi hj hij l hl hl2 u tx hs)
  have put1:=fun(a:ByteArray) (u:Bool) (tx:ByteArray) (hs:tx.size+a.size<=140737488355328) =>
   show FunW Tryz.prog (.fn (.func 34) [] [.ptr (h.length+1) 0 0]) [.sl 1 [.v (.string a)] none] (HS (H0++[AB.dead,AB.dead]) (h.length+1) (h.length+2) u tx) (fun o h'=>o = .ret (.tup [])/\h'=HS (H0++[AB.dead,AB.dead]) (h.length+1) (h.length+2) true (tx++a))from by
    have:=put [a] (by simp) (by simp) u tx (by simp only[catB,ByteArray.append_empty];exact hs)
    simp only[catB,ByteArray.append_empty]at this
    exact this
  have put2:=fun(a b:ByteArray) (u:Bool) (tx:ByteArray) (hs:tx.size+a.size+b.size<=140737488355328) =>
   show FunW Tryz.prog (.fn (.func 34) [] [.ptr (h.length+1) 0 0]) [.sl 1 [.v (.string a),.v (.string b)] none] (HS (H0++[AB.dead,AB.dead]) (h.length+1) (h.length+2) u tx) (fun o h'=>o = .ret (.tup [])/\h'=HS (H0++[AB.dead,AB.dead]) (h.length+1) (h.length+2) true (tx++(a++b)))from by
    have:=put [a,b] (by simp) (by simp) u tx (by simp only[catB,ByteArray.append_empty,Qg];omega)
    simp only[catB,ByteArray.append_empty]at this
    exact this
  have s1:(t1R x).size<=140737492:=by rw[t1R];split <;> first|decide|(rw[Qg];have:atB.size=3:=rfl;omega)
  have s2:(t2R x).size<=2000000000:=by rw[t2R,Qg];omega
  have s3:(t3R x (t2R x)).size<=4000000000:=by
   have i1:impB.size=5:=rfl
   have i2:bsB.size=3:=rfl
   have i3:simB.size=5:=rfl
   rw[t3R];split
   ·rw[Qg];omega
   ·split <;> simp only[Qg] <;> omega
  have s4:(t4R x (t3R x (t2R x))).size<=6000000000:=by
   have i1:barB.size=3:=rfl
   rw[t4R];split
   ·omega
   ·simp only[Qg];omega
  have s5:(t5R x (t4R x (t3R x (t2R x)))).size<=7000000000:=by
   have i1:Qid.size=4:=rfl
   rw[t5R];split
   ·simp only[Qg];omega
   ·omega
  have sa:atB.size=3:=rfl
  have si:impB.size=5:=rfl
  have sb:bsB.size=3:=rfl
  have ss:simB.size=5:=rfl
  have sr:barB.size=3:=rfl
  have sd:dotB.size=1:=rfl
  have st:Qid.size=4:=rfl
  obtain⟨J,eJ⟩:∃J:Bool->ByteArray->AS->Prop,J=fun u tx s=>s.tm 1 = .ptr h.length 0 0/\s.tm 3 = .ptr (h.length+1) 0 0/\s.tm 4 = .fn (.func 34) [] [.ptr (h.length+1) 0 0]/\s.h=HS (H0++[AB.dead,AB.dead]) (h.length+1) (h.length+2) u tx:=⟨_,rfl⟩
  refine Qc Tryz.func10 rfl Tryz.call10 Tryz.ntmps10 Tryz.results10 (by simp) ?_
  iterate 17 (try (first|((first|(refine Qd fun K E hK hE=>?_)|(with_reducible (first|refine Qe cn ?_|refine Qe cr ?_)));simp only[go_sem,seval])|(refine QN fun K hK=>?_)|(refine Xu ?_)|(refine Qk ?_)|((with_reducible refine hK _ ?_);clear hK)|(refine Qw rfl ?_;simp only[↓reduceIte,Qyn])))
  refine QaW (h.length+1) 74 5 (.pointer none) (by simp) ?_
  have e0:((h++[AB.cells 25 6 [.agg [.v (.string x.name),.sl 2 (vs G.atom x.keep) none,.sl 2 (vs G.atom x.remove) none,.sl 3 (vs G.goal x.guard) none,.sl 3 (vs G.goal x.body) none,.v (.int .i64 x.vars)]],AB.cells 74 2 [.agg [.v (.pointer none),.v (.slice none 0 0)]]])++[AB.grow 5 1 0]).set (h.length+1)
    (AB.cells 74 2 [.agg [.v (.pointer none),.sl 1 [] (some (h++[AB.cells 25 6 [.agg [.v (.string x.name),.sl 2 (vs G.atom x.keep) none,.sl 2 (vs G.atom x.remove) none,.sl 3 (vs G.goal x.guard) none,.sl 3 (vs G.goal x.body) none,.v (.int .i64 x.vars)]],AB.cells 74 2 [.agg [.v (.pointer none),.v (.slice none 0 0)]]]).length)]])=HS (H0++[AB.dead,AB.dead]) (h.length+1) (h.length+2) false .empty:=by
   rw[eH];simp[HS,hs2,bw];rfl
  rw[e0]
  refine XT (J (!XN x.name) (t1R x)) ?_ ?_
  rotate_left
  ·have ee:(x.name.toList==({data:=#[]}:ByteArray).toList)=XN x.name:=rfl
   cases ce:XN x.name
   ·rw[ce]at ee
    have p:=put2 x.name atB false .empty (by have:ByteArray.empty.size=0:=rfl;omega)
    rw[ByteArray.empty_append]at p
    repeat first|(first|refine FunW.ret p ?_|refine Qa ?_);simp only[go_sem,seval,g0,ee]|refine hK _ ?_;clear hK
    rw[eJ,t1R,ce]
    exact⟨rfl,rfl,rfl,rfl⟩
   ·rw[ce]at ee
    repeat first|refine Qa ?_;simp only[go_sem,seval,g0,ee]|refine hK _ ?_;clear hK
    rw[eJ,t1R,ce]
    exact⟨rfl,rfl,rfl,rfl⟩
  rintro⟨tm,hp⟩ hJ
  rw[eJ]at hJ
  obtain⟨t1,t3,t4,hh⟩:=hJ
  dsimp only at t1 t3 t4 hh
  subst hh
  refine XT (J true (t2R x)) ?_ ?_
  rotate_left
  ·have c:=Qmq x.keep v1 l1 _ (hGs (!XN x.name) (t1R x))
   have p:=put1 (jA x.keep) (!XN x.name) (t1R x) (by omega)
   repeat first|(first|refine FunW.Qxr c ?_|refine FunW.ret p ?_|refine Qa ?_);simp only[go_sem,seval,g0,t1,t4]|refine hK _ ?_;clear hK
   rw[eJ,t2R]
   exact⟨t1,t3,t4,rfl⟩
  clear t1 t3 t4
  rintro⟨tm,hp⟩ hJ
  rw[eJ]at hJ
  obtain⟨t1,t3,t4,hh⟩:=hJ
  dsimp only at t1 t3 t4 hh
  subst hh
  refine XT (J true (t3R x (t2R x))) ?_ ?_
  rotate_left
  ·by_cases q0:x.remove=[]
   ·have z0:((x.remove.length:Int)==0)=true:=by rw[q0];rfl
    have p:=put1 impB true (t2R x) (by omega)
    repeat first|(first|refine FunW.ret p ?_|refine Qa ?_);simp only[go_sem,seval,g0,t1,t4,z0,Qh]|refine hK _ ?_;clear hK|clear hK;clear hK;refine hK _ ?_;clear hK
    rw[eJ,t3R,Qzh q0]
    exact⟨t1,t3,t4,rfl⟩
   ·have hq:x.remove.length≠0:=fun e=>q0 (List.length_eq_zero_iff.1 e)
    have z0:((x.remove.length:Int)==0)=false:=by simp;omega
    by_cases q1:x.keep=[]
    ·have z1:¬(x.keep.length:Int)>0:=by rw[q1];decide
     have c:=Qmq x.remove v2 l2 _ (hGs true (t2R x))
     have p:=put2 (jA x.remove) simB true (t2R x) (by omega)
     repeat first|(first|refine FunW.Qxr c ?_|refine FunW.ret p ?_|refine Qa ?_);simp only[go_sem,seval,g0,t1,t4,z0,z1,Qh]|refine hK _ ?_;clear hK|clear hK;clear hK;refine hK _ ?_;clear hK
     rw[eJ,t3R,Qzf q0,Qzh q1]
     exact⟨t1,t3,t4,rfl⟩
    ·have hq1:x.keep.length≠0:=fun e=>q1 (List.length_eq_zero_iff.1 e)
     have z1:(x.keep.length:Int)>0:=by omega
     have p1:=put1 bsB true (t2R x) (by omega)
     have c:=Qmq x.remove v2 l2 _ (hGs true (t2R x++bsB))
     have p:=put2 (jA x.remove) simB true (t2R x++bsB) (by rw[Qg];omega)
     repeat first|(first|refine FunW.Qxr c ?_|refine FunW.ret p ?_|refine FunW.ret p1 ?_|refine Qa ?_);simp only[go_sem,seval,g0,t1,t4,z0,z1,Qh]|refine hK _ ?_;clear hK|clear hK;clear hK;refine hK _ ?_;clear hK
     rw[eJ,t3R,Qzf q0,Qzf q1]
     exact⟨t1,t3,t4,rfl⟩
  clear t1 t3 t4
  rintro⟨tm,hp⟩ hJ
  rw[eJ]at hJ
  obtain⟨t1,t3,t4,hh⟩:=hJ
  dsimp only at t1 t3 t4 hh
  subst hh
  refine XT (J true (t4R x (t3R x (t2R x)))) ?_ ?_
  rotate_left
  ·by_cases q0:x.guard=[]
   ·have z0:¬(x.guard.length:Int)>0:=by rw[q0];decide
    repeat first|refine Qa ?_;simp only[go_sem,seval,g0,t1,z0,Qh]|refine hK _ ?_;clear hK
    rw[eJ,t4R,Qzh q0]
    exact⟨t1,t3,t4,rfl⟩
   ·have hq:x.guard.length≠0:=fun e=>q0 (List.length_eq_zero_iff.1 e)
    have z0:(x.guard.length:Int)>0:=by omega
    have c:=Qmr x.guard v3 l3 _ (hGs true (t3R x (t2R x)))
    have p:=put2 (jG x.guard) barB true (t3R x (t2R x)) (by omega)
    repeat first|(first|refine FunW.Qxr c ?_|refine FunW.ret p ?_|refine Qa ?_);simp only[go_sem,seval,g0,t1,t4,z0,Qh]|refine hK _ ?_;clear hK
    rw[eJ,t4R,Qzf q0]
    exact⟨t1,t3,t4,rfl⟩
  clear t1 t3 t4
  rintro⟨tm,hp⟩ hJ
  rw[eJ]at hJ
  obtain⟨t1,t3,t4,hh⟩:=hJ
  dsimp only at t1 t3 t4 hh
  subst hh
  refine XT (J true (t5R x (t4R x (t3R x (t2R x))))) ?_ ?_
  rotate_left
  ·by_cases q0:x.body=[]
   ·have z0:((x.body.length:Int)==0)=true:=by rw[q0];rfl
    have p:=put1 Qid true (t4R x (t3R x (t2R x))) (by omega)
    repeat first|(first|refine FunW.ret p ?_|refine Qa ?_);simp only[go_sem,seval,g0,t1,t4,z0,Qh]|refine hK _ ?_;clear hK
    rw[eJ,t5R,Qzh q0]
    exact⟨t1,t3,t4,rfl⟩
   ·have hq:x.body.length≠0:=fun e=>q0 (List.length_eq_zero_iff.1 e)
    have z0:((x.body.length:Int)==0)=false:=by simp;omega
    repeat first|refine Qa ?_;simp only[go_sem,seval,g0,t1,z0,Qh]|refine hK _ ?_;clear hK
    rw[eJ,t5R,Qzf q0]
    exact⟨t1,t3,t4,rfl⟩
  clear t1 t3 t4
  rintro⟨tm,hp⟩ hJ
  rw[eJ]at hJ
  obtain⟨t1,t3,t4,hh⟩:=hJ
  dsimp only at t1 t3 t4 hh
  subst hh
  have c:=Qmr x.body v4 l4 _ (hGs true (t5R x (t4R x (t3R x (t2R x)))))
  have p:=put2 (jG x.body) dotB true (t5R x (t4R x (t3R x (t2R x)))) (by omega)
  have sz:(QdS x).size<=9000000000/\0<(QdS x).size:=by rw[QdS,Qg,Qg];omega
  have c2:=Qdv (ty:=74) (i:=h.length+1) (j:=h.length+2) hij (QdS x) sz.2 (by omega) (H0++[AB.dead,AB.dead]) hi hj
  have e2:hs2 (H0++[AB.dead,AB.dead]) (h.length+1) (bw 74 (h.length+1) (h.length+2) true (QdS x)) (h.length+2) .gone=h++[AB.cells 25 6 [.agg [.v (.string x.name),.sl 2 (vs G.atom x.keep) none,.sl 2 (vs G.atom x.remove) none,.sl 3 (vs G.goal x.guard) none,.sl 3 (vs G.goal x.body) none,.v (.int .i64 x.vars)]],bw 74 (h.length+1) (h.length+2) true (QdS x),AB.gone]:=by
   rw[eH];simp[hs2]
  rw[e2,<-HS]at c2
  rw[<-QdS]at p
  have c3:=Qdt (QdS x)
  repeat first|(first|refine FunW.Qxr c ?_|refine FunW.ret p ?_|refine FunW.Qxr c2 ?_|refine Qe c3 ?_|refine Qa ?_);simp only[go_sem,seval,g0,t1,t3,t4]|refine hK _ ?_;clear hK
  first|refine Qb (htake _ _) (.keep (.v _)) ⟨rfl,rfl⟩|refine Qb Qzb (.keep (.v _)) ⟨rfl,rfl⟩
abbrev QfZ{a:List AV}{h:AH}{Q:AOut->AH->Prop}:=@Qc Tryz.prog 54 _ _ a h Q Tryz.func54 rfl Tryz.call54 _ Tryz.ntmps54 _ Tryz.results54
abbrev Qjm{a:List AV}{h:AH}{Q:AOut->AH->Prop}:=@Qc Tryz.prog 18 _ _ a h Q Tryz.func18 rfl Tryz.call18 _ Tryz.ntmps18 _ Tryz.results18
def Qfw(l:List G):ByteArray:=if 40<l.length then{data:=#[]} else if l.all Qo=true then Qb7 (jG l)else{data:=#[]}
theorem Qoq(l:List G)(hl:l.length<=100000)(h:AH)(hG:Xl h):Qp Tryz.prog 18 [.sl 3 (vs G.goal l) none] h fun o h'=>o = .ret (.v (.string (Qfw l)))/\h'=h:=by
 by_cases q:40<l.length
 ·have z:(l.length:Int)>40:=by omega
  refine Qjm (by simp) ?_
  repeat refine Qa ?_;simp only[go_sem,seval,z,Qh]
  first|refine Qb (htake _ _) (.keep (.v _)) ⟨by rw[Qfw,Qzh q],rfl⟩|refine Qb Qzb (.keep (.v _)) ⟨by rw[Qfw,Qzh q],rfl⟩
 ·have z:¬(l.length:Int)>40:=by omega
  have a:=Qgr G.goal Qo (.fn (.func 61) [] []) Qg3 l (by omega) h (fun g _ h=>FunW.call (Z1 g h))
  cases hv:l.all Qo with
  |false =>
   rw[hv]at a
   refine Qjm (by simp) ?_
   repeat (first|refine FunW.Qxr a ?_|refine Qa ?_);simp only[go_sem,seval,z,Qh]
   first|refine Qb (htake _ _) (.keep (.v _)) ⟨by rw[Qfw,Qzf q,hv];rfl,rfl⟩|refine Qb Qzb (.keep (.v _)) ⟨by rw[Qfw,Qzf q,hv];rfl,rfl⟩
  |true =>
   rw[hv]at a
   have c:=Qmr l hv hl h hG
   have c3:=Qdt (jG l)
   refine Qjm (by simp) ?_
   repeat (first|refine FunW.Qxr a ?_|refine FunW.Qxr c ?_|refine Qe c3 ?_|refine Qa ?_);simp only[go_sem,seval,z,Qh]
   first|refine Qb (htake _ _) (.keep (.v _)) ⟨by rw[Qfw,Qzf q,Qzh hv],rfl⟩|refine Qb Qzb (.keep (.v _)) ⟨by rw[Qfw,Qzf q,Qzh hv],rfl⟩
def ZC(d:Dc):Bool:=X2 d.name&&decide (0<=d.arity/\d.arity<=6)
theorem Qmb(d:Dc):Pure Tryz.prog 54 [d.av] (.b (ZC d)):=by
 intro h
 have cn:Pure Tryz.prog 55 [.v (.string d.name)] (.b (X2 d.name)):=Qdr d.name
 have ed:d.av=AV.agg [.v (.string d.name),.v (.int .i64 d.arity)]:=rfl
 cases hr:X2 d.name with
 |false =>
  have R:ZC d=false:=by rw[ZC,hr];rfl
  rw[hr]at cn
  refine QfZ (by simp) ?_
  rw[ed]
  repeat (first|refine Qe cn ?_|refine Qa ?_);simp only[go_sem,seval]
  first|refine Qb (htake _ _) (.keep (.v _)) ⟨by rw[R],rfl⟩|refine Qb Qzb (.keep (.v _)) ⟨by rw[R],rfl⟩
 |true =>
  rw[hr]at cn
  by_cases a0:d.arity>=0
  ·by_cases a6:d.arity<=6
   ·have R:ZC d=true:=by rw[ZC,hr,QzA (by omega)];rfl
    refine QfZ (by simp) ?_
    rw[ed]
    repeat (first|refine Qe cn ?_|refine Qa ?_);simp only[go_sem,seval,a0,a6]
    first|refine Qb (htake _ _) (.keep (.v _)) ⟨by rw[R],rfl⟩|refine Qb Qzb (.keep (.v _)) ⟨by rw[R],rfl⟩
   ·have R:ZC d=false:=by rw[ZC,hr,Qzt (by omega)];rfl
    refine QfZ (by simp) ?_
    rw[ed]
    repeat (first|refine Qe cn ?_|refine Qa ?_);simp only[go_sem,seval,a0,a6]
    first|refine Qb (htake _ _) (.keep (.v _)) ⟨by rw[R],rfl⟩|refine Qb Qzb (.keep (.v _)) ⟨by rw[R],rfl⟩
  ·have R:ZC d=false:=by rw[ZC,hr,Qzt (by omega)];rfl
   refine QfZ (by simp) ?_
   rw[ed]
   repeat (first|refine Qe cn ?_|refine Qa ?_);simp only[go_sem,seval,a0]
   first|refine Qb (htake _ _) (.keep (.v _)) ⟨by rw[R],rfl⟩|refine Qb Qzb (.keep (.v _)) ⟨by rw[R],rfl⟩
abbrev slB:ByteArray:={data:=#[47]}
def txtD(d:Dc):ByteArray:=(d.name++slB)++decZ d.arity
theorem Qjk(d:Dc)(hn:d.name.size<=1000)(ha:0<=d.arity/\d.arity<=6)(h:AH)(hG:Xl h):Qp Tryz.prog 57 [d.av] h fun o h'=>o = .ret (.v (.string (txtD d)))/\h'=h:=by
 have ed:d.av=AV.agg [.v (.string d.name),.v (.int .i64 d.arity)]:=rfl
 have c:=QiF d.arity (by omega) (by omega) (h++[.cells 38 2 [.agg [.v (.string d.name),.v (.int .i64 d.arity)]]]) (hG.app _)
 have ss:slB.size=1:=rfl
 have hz:=QgH d.arity (by omega) (by omega)
 have hsa1:=fun xo yo=>QbN Tryz.prog 9 xo yo d.name slB (by omega)
 have hsa2:=fun xo yo=>QbN Tryz.prog 9 xo yo (d.name++slB) (decZ d.arity) (by rw[Qg];omega)
 refine Qc Tryz.func57 rfl Tryz.call57 Tryz.ntmps57 Tryz.results57 (by simp) ?_
 rw[ed]
 repeat first|(first|refine QL (FunW.call c) (Qg9 _) ?_|refine Qj (id:=1) [(0,0),(1,0),(2,0),(3,0),(4,0),(5,3),(6,0),(7,0)] mixed (by kernel_rfl) fun K hK=>?_|refine Qa ?_);simp only[go_sem,seval,↓hsa1,↓hsa2]|refine hK _ ?_;clear hK
 first|refine Qb (htake _ _) (.keep (.v _)) ⟨rfl,rfl⟩|refine Qb Qzb (.keep (.v _)) ⟨rfl,rfl⟩
theorem QpU(d:Dc):d.av.isAgg=true/\d.av.cells.length=2/\d.av.cells.all AV.cell1=true:=⟨rfl,rfl,rfl⟩
abbrev conB:ByteArray:={data:=#[99,111,110,115,116,114,97,105,110,116,32]}
abbrev endB:ByteArray:={data:=#[46,10]}
abbrev nlB:ByteArray:={data:=#[10]}
def jD(l:List Dc):ByteArray:=Xw true (l.map txtD)
theorem QrI{d:Dc}(h:ZC d=true):1<=(txtD d).size/\(txtD d).size<=15000:=by
 rw[ZC,Qzk,Qzu]at h
 have hn:=Qbs h.1
 have hz:=QgH d.arity (by omega) (by omega)
 have ss:slB.size=1:=rfl
 rw[txtD,Qg,Qg]
 omega
theorem Qt9{l:List Dc}(hv:l.all ZC=true):(jD l).size<=15002 * l.length:=(Qb2 txtD l fun x hx=>QrI (QzB.1 hv x hx)).1
theorem Qt8(l:List Dc)(hv:l.all ZC=true)(hl:l.length<=100000)(h:AH)(hG:Xl h) :
  Qp Tryz.prog 56 [.sl 2 (vs Dc.av l) none,.fn (.func 57) [] []] h fun o h'=>o = .ret (.v (.string (jD l)))/\h'=h:=by
 cases l with
 |nil=>exact Qmt _ h
 |cons x l =>
  have hj:=Qb2 txtD (x::l) fun x hx=>QrI (QzB.1 hv x hx)
  refine Qk5 Dc.av txtD _ QpU (x::l) (by simp) (by omega) h hG (fun d hd h hG=>FunW.call (Qjk d ?_ ?_ h hG)) (hj.2 (by simp)) (by omega)
  all_goals
   have hr:=QzB.1 hv d hd
   rw[ZC,Qzk,Qzu]at hr
  ·have:=(Qbs hr.1).2;omega
  ·exact hr.2
def QgI(l:List Dc):ByteArray:=if l=[]then .empty else(conB++jD l)++endB
def Qfy:List Rl->ByteArray
 |[]=>.empty
 |r::l=>(Qbc r++nlB)++Qfy l
def Qca(l:List Rl):Bool:=l.all fun r=>!XN (Qbc r)
def Qbw(p:Pg):ByteArray:=if 30<p.decls.length\/40<p.rules.length then{data:=#[]} else if p.decls.all ZC=true then(if Qca p.rules=true then Qb7 (QgI p.decls++Qfy p.rules)else{data:=#[]})else{data:=#[]}
def Rl.fits(r:Rl):Prop:=r.keep.length<=100000/\r.remove.length<=100000/\r.guard.length<=100000/\r.body.length<=100000/\wG r.keep+wG r.remove+wG r.guard+wG r.body<=1000000
theorem QoY(r:Rl):(Qbc r).size<=16384:=by
 rw[Qbc]
 split
 ·rw[Qb7];split
  ·decide
  ·omega
 ·decide
theorem Quu(r:Rl):r.av.isAgg=true/\r.av.cells.length=6/\r.av.cells.all AV.cell1=true:=⟨rfl,rfl,rfl⟩
abbrev Qei{a:List AV}{h:AH}{Q:AOut->AH->Prop}:=@Qc Tryz.prog 16 _ _ a h Q Tryz.func16 rfl Tryz.call16 _ Tryz.ntmps16 _ Tryz.results16
theorem QfG(p:Pg)(hd:p.decls.length<=100000)(hr:p.rules.length<=100000)(hf:∀r∈p.rules,r.fits)(h:AH)(hG:Xl h) :
  Qp Tryz.prog 16 [p.av] h fun o h'=>o = .ret (.v (.string (Qbw p)))/\h'=h:=by
 have epv:p.av=AV.agg [.sl 2 (vs Dc.av p.decls) none,.sl 6 (vs Rl.av p.rules) none]:=rfl
 rw[epv]
 by_cases q1:30<p.decls.length
 ·have z1:(p.decls.length:Int)>30:=by omega
  refine Qei (by simp) ?_
  repeat first|refine Qa ?_;simp only[go_sem,seval,z1,Qh]|refine hK _ ?_;clear hK
  first|refine Qb (htake _ _) (.keep (.v _)) ⟨by rw[Qbw,Qzh (.inl q1)],rfl⟩|refine Qb Qzb (.keep (.v _)) ⟨by rw[Qbw,Qzh (.inl q1)],rfl⟩
 have z1:¬(p.decls.length:Int)>30:=by omega
 by_cases q2:40<p.rules.length
 ·have z2:(p.rules.length:Int)>40:=by omega
  refine Qei (by simp) ?_
  repeat first|refine Qa ?_;simp only[go_sem,seval,z1,z2,Qh]|refine hK _ ?_;clear hK
  first|refine Qb (htake _ _) (.keep (.v _)) ⟨by rw[Qbw,Qzh (.inr q2)],rfl⟩|refine Qb Qzb (.keep (.v _)) ⟨by rw[Qbw,Qzh (.inr q2)],rfl⟩
 have z2:¬(p.rules.length:Int)>40:=by omega
 have hno:¬(30<p.decls.length\/40<p.rules.length):=by omega
 have a:=Qpp Dc.av ZC (.fn (.func 54) [] []) QpU p.decls (by omega) (h++[AB.cells 35 2 [.agg [.sl 2 (vs Dc.av p.decls) none,.sl 6 (vs Rl.av p.rules) none]]]) (fun d _ h=>FunW.call (Qmb d h))
 cases hv:p.decls.all ZC with
 |false =>
  rw[hv]at a
  refine Qei (by simp) ?_
  repeat first|(first|refine FunW.Qxr a ?_|refine Qa ?_);simp only[go_sem,seval,z1,z2,Qh]|refine hK _ ?_;clear hK
  first|refine Qb (htake _ _) (.keep (.v _)) ⟨by rw[Qbw,Qzf hno,hv];rfl,rfl⟩|refine Qb Qzb (.keep (.v _)) ⟨by rw[Qbw,Qzf hno,hv];rfl,rfl⟩
 |true =>
 rw[hv]at a
 by_cases q3:p.decls=[]/\p.rules=[]
 ·obtain⟨e1,e2⟩:=q3
  have R:Qbw p={data:=#[]}:=by rw[Qbw,Qzf hno,Qzh hv,e1,e2];rfl
  rw[e1,e2]at a ⊢
  have c:=Qct (ty:=74) (i:=h.length+1) (h++[AB.cells 35 2 [.agg [.sl 2 (vs Dc.av []) none,.sl 6 (vs Rl.av []) none]],AB.dead]) (by simp)
  have e:hs (h++[AB.cells 35 2 [.agg [.sl 2 (vs Dc.av []) none,.sl 6 (vs Rl.av []) none]],AB.dead]) (h.length+1) (bw00 74)=h++[AB.cells 35 2 [.agg [.sl 2 (vs Dc.av []) none,.sl 6 (vs Rl.av []) none]],bw00 74]:=by simp[hs]
  rw[e,bw00]at c
  simp only[Qtx]at a c
  have c3:=Qdt .empty
  have y1:¬((0:Int)>30):=by decide
  have y2:¬((0:Int)>40):=by decide
  have y3:¬((0:Int)>0):=by decide
  have y4:¬((0:Int)<0):=by decide
  rw[R]
  refine Qei (by simp) ?_
  repeat first|(first|refine FunW.Qxr a ?_|refine Qa ?_);simp only[go_sem,seval,y1,y2,y3,Qtx]|refine hK _ ?_;clear hK
  obtain⟨I,hI⟩:∃I:Nat->AS->Prop,I=fun m' s=>m'=0/\s.tm 3 = .ptr (h.length+1) 0 0/\s.tm 33 = .i 0/\s.tm 34 = .i 0/\s.h=h++[AB.cells 35 2 [.agg [.sl 2 [] none,.sl 6 [] none]],.cells 74 2 [.agg [.v (.pointer none),.v (.slice none 0 0)]]]:=⟨_,rfl⟩;refine Qv I ?_ (m:=0) ?_
  ·intro m' s hs;rw[hI]at hs;obtain⟨tm,hp⟩:=s;dsimp only at hs;obtain⟨rfl,t3,t33,t34,rfl⟩:=hs
   repeat first|(first|refine FunW.Qxr c ?_|refine Qe c3 ?_|refine Qa ?_);simp only[go_sem,seval,t3,t33,t34,y4]|refine hK _ ?_;clear hK|clear hK;refine hK _ ?_;clear hK
   first|refine Qb (htake _ _) (.keep (.v _)) ⟨rfl,rfl⟩|refine Qb Qzb (.keep (.v _)) ⟨rfl,rfl⟩
  ·rw[hI]
   exact⟨rfl,rfl,rfl,rfl,rfl⟩
 ·have k1:=Qt9 hv
  have hb1:conB.size=11:=rfl
  have hb2:endB.size=2:=rfl
  have hb3:nlB.size=1:=rfl
  have s1:(QgI p.decls).size<=2000000000:=by
   rw[QgI];split
   ·decide
   ·simp only[Qg];omega
  obtain⟨H0,eH⟩:∃H:AH,H=h++[AB.cells 35 2 [.agg [.sl 2 (vs Dc.av p.decls) none,.sl 6 (vs Rl.av p.rules) none]]]:=⟨_,rfl⟩
  have hl0:H0.length=h.length+1:=by rw[eH];simp
  have hi:h.length+1<(H0++[AB.dead,AB.dead]).length:=by rw[Qza,hl0];simp
  have hj:h.length+2<(H0++[AB.dead,AB.dead]).length:=by rw[Qza,hl0];simp
  have hle:(H0++[AB.dead,AB.dead]).length=h.length+3:=by rw[Qza,hl0];rfl
  have hij:h.length+1≠h.length+2:=by omega
  have g0:∀u tx,(HS (H0++[AB.dead,AB.dead]) (h.length+1) (h.length+2) u tx)[h.length]? = some (AB.cells 35 2 [.agg [.sl 2 (vs Dc.av p.decls) none,.sl 6 (vs Rl.av p.rules) none]]):=fun u tx=>by
   rw[HS,Yo _ _ (by omega) (by omega),eH];simp
  have hGs:∀u tx,Xl (HS (H0++[AB.dead,AB.dead]) (h.length+1) (h.length+2) u tx):=fun u tx=>by
   have:=Qkp (h:=H0) (by rw[eH];exact HasG.app hG _) [AB.dead,AB.dead] rfl u tx
   rwa [hl0]at this
  obtain⟨u1,eu⟩:∃u:Bool,u=!decide (p.decls=[]):=⟨_,rfl⟩
  refine Qei (by simp) ?_
  iterate 19 (try (first|((first|(refine Qd fun K E hK hE=>?_)|(with_reducible refine FunW.Qxr a ?_));simp only[go_sem,seval,z1,z2,Qh])|(refine QN fun K hK=>?_)|(refine Xu ?_)|(refine Qk ?_)|((with_reducible refine hK _ ?_);clear hK)|(refine Qw rfl ?_;simp only[↓reduceIte,Qyn])))
  refine QaW (h.length+1) 74 5 (.pointer none) (by simp) ?_
  have e0:((h++[AB.cells 35 2 [.agg [.sl 2 (vs Dc.av p.decls) none,.sl 6 (vs Rl.av p.rules) none]],AB.cells 74 2 [.agg [.v (.pointer none),.v (.slice none 0 0)]]])++[AB.grow 5 1 0]).set (h.length+1)
    (AB.cells 74 2 [.agg [.v (.pointer none),.sl 1 [] (some (h++[AB.cells 35 2 [.agg [.sl 2 (vs Dc.av p.decls) none,.sl 6 (vs Rl.av p.rules) none]],AB.cells 74 2 [.agg [.v (.pointer none),.v (.slice none 0 0)]]]).length)]])=HS (H0++[AB.dead,AB.dead]) (h.length+1) (h.length+2) false .empty:=by
   rw[eH];simp[HS,hs2,bw];rfl
  rw[e0]
  refine XT (fun s=>s.tm 1 = .ptr h.length 0 0/\s.tm 3 = .ptr (h.length+1) 0 0/\s.h=HS (H0++[AB.dead,AB.dead]) (h.length+1) (h.length+2) u1 (QgI p.decls)) ?_ ?_
  rotate_left
  ·by_cases q0:p.decls=[]
   ·have z0:¬(p.decls.length:Int)>0:=by rw[q0];decide
    have eu1:u1=false:=by rw[eu,QzA q0];rfl
    repeat first|refine Qa ?_;simp only[go_sem,seval,g0,z0,Qh]|refine hK _ ?_;clear hK
    rw[eu1,QgI,Qzh q0]
    exact⟨rfl,rfl,rfl⟩
   ·have hq:p.decls.length≠0:=fun e=>q0 (List.length_eq_zero_iff.1 e)
    have z0:(p.decls.length:Int)>0:=by omega
    have eu1:u1=true:=by rw[eu,Qzt q0];rfl
    have c:=Qt8 p.decls hv hd _ (hGs false .empty)
    have hsa1:=fun xo yo=>QbN Tryz.prog 9 xo yo conB (jD p.decls) (by omega)
    have hsa2:=fun xo yo=>QbN Tryz.prog 9 xo yo (conB++jD p.decls) endB (by rw[Qg];omega)
    have w:=sstr hi hj hij false .empty ((conB++jD p.decls)++endB) (by simp only[Qg];have:ByteArray.empty.size=0:=rfl;omega)
    rw[ByteArray.empty_append]at w
    repeat first|(first|refine FunW.Qxr c ?_|refine FunW.Qxr w ?_|refine Qa ?_);simp only[go_sem,seval,g0,z0,Qh,↓hsa1,↓hsa2]|refine hK _ ?_;clear hK
    rw[eu1,QgI,Qzf q0]
    exact⟨rfl,rfl,rfl⟩
  rintro⟨tm,hp⟩ ⟨t1,t3,hh⟩
  dsimp only at t1 t3 hh
  subst hh
  have f1:=fun u tx=>(QmY (H0++[AB.dead,AB.dead]) (h.length+1) (h.length+2) u tx).trans hle
  have f3:∀u tx L k,(HS (H0++[AB.dead,AB.dead]) (h.length+1) (h.length+2) u tx++L)[h.length+3+k]? = L[k]? := fun u tx L k=>by rw[<-hle];exact QmZ _ _ _ u tx L k
  have f2:∀u tx L,(HS (H0++[AB.dead,AB.dead]) (h.length+1) (h.length+2) u tx++L)[h.length+3]? = L[0]? := fun u tx L=>f3 u tx L 0
  have f5:∀u tx z L k,(HS (H0++[AB.dead,AB.dead]) (h.length+1) (h.length+2) u tx++L).set (h.length+3+k) z=HS (H0++[AB.dead,AB.dead]) (h.length+1) (h.length+2) u tx++L.set k z:=fun u tx z L k=>by rw[<-hle];exact Qi4 _ _ _ u tx z L k
  have f4:∀u tx z L,(HS (H0++[AB.dead,AB.dead]) (h.length+1) (h.length+2) u tx++L).set (h.length+3) z=HS (H0++[AB.dead,AB.dead]) (h.length+1) (h.length+2) u tx++L.set 0 z:=fun u tx z L=>f5 u tx z L 0
  have gapp:=fun u tx L=>QmX (h:=H0++[AB.dead,AB.dead]) (i:=h.length+1) (j:=h.length+2) hi hj u tx L
  have htk:∀u tx L,(HS (H0++[AB.dead,AB.dead]) (h.length+1) (h.length+2) u tx++L)=h++([AB.cells 35 2 [.agg [.sl 2 (vs Dc.av p.decls) none,.sl 6 (vs Rl.av p.rules) none]],bw 74 (h.length+1) (h.length+2) u tx,AB.grow 5 1 tx.size]++L):=fun u tx L=>by
   rw[<-Qze];congr 1;rw[eH];simp[HS,hs2]
  repeat first|refine Qa ?_;simp only[go_sem,seval,g0,t1,Qh]|refine hK _ ?_;clear hK
  obtain⟨I,hI⟩:∃I:Nat->AS->Prop,I=fun m' s=>∃(k:Nat) (cur:ByteArray),m'=p.rules.length - k/\k<=p.rules.length/\cur++Qfy (p.rules.drop k)=QgI p.decls++Qfy p.rules/\Qca p.rules=Qca (p.rules.drop k)/\cur.size<=2000000000+16385 * k/\((u1||decide (0<k))=true->0<cur.size)/\s.tm 3 = .ptr (h.length+1) 0 0/\s.tm 32 = .sl 6 (vs Rl.av p.rules) none/\s.tm 33 = .i p.rules.length/\s.tm 34 = .i k/\(∃L,s.h=HS (H0++[AB.dead,AB.dead]) (h.length+1) (h.length+2) (u1||decide (0<k)) cur++L):=⟨_,rfl⟩;refine Qv I ?_ (m:=p.rules.length) ?_
  ·intro m' s hs;rw[hI]at hs;obtain⟨tm,hp⟩:=s;dsimp only at hs;obtain⟨k,cur,rfl,hk,he,hal,hcs,hcu,t3,t32,t33,t34,L,rfl⟩:=hs
   by_cases hlt:k<p.rules.length
   ·have hg:=Z2 Rl.av hlt
    have y1:(k:Int)<p.rules.length:=by omega
    obtain⟨hag,hcl,hc1⟩:=Quu p.rules[k]
    obtain⟨b1,b2,b3,b4,b5⟩:=hf p.rules[k] (QzF hlt)
    have c:=QeJ p.rules[k] b1 b2 b3 b4 b5 (HS (H0++[AB.dead,AB.dead]) (h.length+1) (h.length+2) (u1||decide (0<k)) cur++(L++[AB.cells 25 6 [(p.rules[k]).av]])) (HasG.app (hGs _ _) _)
    have hsz:=QoY p.rules[k]
    have hd1:p.rules.drop k=p.rules[k]::p.rules.drop (k+1):=Qzq hlt
    rw[hd1]at he hal
    rw[Qfy]at he
    simp only[Qca,QyD]at hal
    have ee:((Qbc p.rules[k]).toList==({data:=#[]}:ByteArray).toList)=XN (Qbc p.rules[k]):=rfl
    cases ce:XN (Qbc p.rules[k])
    ·rw[ce]at ee hal
     have glen:h.length+1<(H0++[AB.dead,AB.dead]++(L++[AB.cells 25 6 [(p.rules[k]).av]])).length/\h.length+2<(H0++[AB.dead,AB.dead]++(L++[AB.cells 25 6 [(p.rules[k]).av]])).length:=by rw[Qza];omega
     have w:=sstr glen.1 glen.2 hij (u1||decide (0<k)) cur (Qbc p.rules[k]++nlB) (by rw[Qg];omega)
     rw[gapp,gapp]at w
     have hsa:=fun xo yo=>QbN Tryz.prog 9 xo yo (Qbc p.rules[k]) nlB (by omega)
     repeat first|(first|refine FunW.Qxr c ?_|refine FunW.Qxr w ?_|refine Qa ?_);simp only[go_sem,seval,t3,t32,t33,t34,y1,hg,hag,hcl,hc1,f1,f3,f5,Qh,ee,↓hsa]|refine hK _ ?_;clear hK
     refine QZ.mk (m':=p.rules.length - (k+1)) (by omega) ?_
     rw[hI]
     refine⟨k+1,cur++(Qbc p.rules[k]++nlB),rfl,hlt,by rw[ByteArray.append_assoc];exact he,by rw[Qca,hal];rfl,by rw[Qg,Qg];omega,fun _=>by rw[Qg,Qg];omega,t3,t32,t33,?_,_,by rw[QzA (Nat.succ_pos k),QAl]⟩
     simp only[upd,↓reduceIte]
     rw[QY (by omega)]
    ·rw[ce]at ee hal
     have R:Qbw p={data:=#[]}:=by
      rw[Qbw,Qzf hno,Qzh hv,Qzf]
      rw[Qca,hal];simp
     repeat first|(first|refine FunW.Qxr c ?_|refine Qa ?_);simp only[go_sem,seval,t32,t33,t34,y1,hg,hag,hcl,hc1,f1,f3,f5,Qh,ee]|refine hK _ ?_;clear hK
     simp only[htk]
     simp only[go_sem,upd];first|refine Qb (htake _ _) (.keep (.v _)) ⟨by rw[R],rfl⟩|refine Qb Qzb (.keep (.v _)) ⟨by rw[R],rfl⟩
   ·have hkn:k=p.rules.length:=by omega
    subst hkn
    have y1:¬((p.rules.length:Nat):Int)<p.rules.length:=by omega
    rw[QzG]at he hal
    rw[Qfy,ByteArray.append_empty]at he
    have hu:(u1||decide (0<p.rules.length))=true:=by
     rw[eu]
     by_cases q0:p.decls=[]
     ·have:p.rules.length≠0:=fun e=>q3 ⟨q0,List.length_eq_zero_iff.1 e⟩
      rw[QzA (show 0<p.rules.length by omega),QAl]
     ·rw[Qzt q0];rfl
    rw[hu]
    have h0:=hcu hu
    have c:=(Qdv (ty:=74) (i:=h.length+1) (j:=h.length+2) hij cur h0 (by omega)).app (h:=H0++[AB.dead,AB.dead]) hi hj L
    rw[<-HS]at c
    have e2:hs2 (H0++[AB.dead,AB.dead]) (h.length+1) (bw 74 (h.length+1) (h.length+2) true cur) (h.length+2) .gone++L=h++([AB.cells 35 2 [.agg [.sl 2 (vs Dc.av p.decls) none,.sl 6 (vs Rl.av p.rules) none]],bw 74 (h.length+1) (h.length+2) true cur,AB.gone]++L):=by
     rw[<-Qze];congr 1;rw[eH];simp[hs2]
    rw[e2]at c
    have c3:=Qdt cur
    have R:Qbw p=Qb7 cur:=by
     rw[Qbw,Qzf hno,Qzh hv,Qzh (by rw[hal];rfl),he]
    repeat first|(first|refine FunW.Qxr c ?_|refine Qe c3 ?_|refine Qa ?_);simp only[go_sem,seval,t3,t33,t34,y1]|refine hK _ ?_;clear hK|clear hK;refine hK _ ?_;clear hK
    first|refine Qb (htake _ _) (.keep (.v _)) ⟨by rw[R],rfl⟩|refine Qb Qzb (.keep (.v _)) ⟨by rw[R],rfl⟩
  ·rw[hI]
   refine⟨0,QgI p.decls,rfl,by omega,rfl,rfl,by omega,fun hu=>?_,t3,rfl,rfl,rfl,[],by rw[Qzt (Nat.lt_irrefl 0),QAm,QyM]⟩
   rw[Qzt (Nat.lt_irrefl 0),QAm,eu]at hu
   rw[QgI,Qzf (by simpa using hu),Qg,Qg]
   omega
abbrev leqB:ByteArray:={data:=#[108,101,113]}
def vT(i:Int):T:=.mk 1 i {data:=#[]} []
def leqG(x y:Int):G:=⟨0,leqB,[vT x,vT y]⟩
def exR:Rl:=⟨{data:=#[]},[],[leqG 3 4,leqG 4 3],[],[⟨3,{data:=#[]},[vT 3,vT 4]⟩],0⟩
def exP:Pg:=⟨[⟨leqB,2⟩],[exR]⟩
def exN:Rl:=⟨{data:=#[]},[],[],[],[],0⟩
theorem Qu6:numR exR=⟨{data:=#[]},[],[leqG 0 1,leqG 1 0],[],[⟨3,{data:=#[]},[vT 0,vT 1]⟩],2⟩:=by kernel_rfl
theorem QtP:Qbc exN={data:=#[]}:=by kernel_rfl
theorem QtR:Qbc exR={data:=#[108,101,113,40,86,48,44,32,86,49,41,44,32,108,101,113,40,86,49,44,32,86,48,41,32,60,61,62,32,86,48,32,61,32,86,49,46]}:=by kernel_rfl
theorem QtQ:Qbw exP={data:=#[99,111,110,115,116,114,97,105,110,116,32,108,101,113,47,50,46,10,108,101,113,40,86,48,44,32,86,49,41,44,32,108,101,113,40,86,49,44,32,86,48,41,32,60,61,62,32,86,48,32,61,32,86,49,46,10]}:=by kernel_rfl
theorem Qsc:Qfw exR.body={data:=#[86,51,32,61,32,86,52]}:=by kernel_rfl
theorem Qgi(i:Int):Pure Tryz.prog 32 [.i i] (vT i).av:=by
 intro h
 refine Qc Tryz.func32 rfl Tryz.call32 Tryz.ntmps32 Tryz.results32 (by simp) ?_
 repeat refine Qa ?_;simp only[go_sem,seval]
 refine Qb (r':=(vT i).av) (htake _ _) ?_ ⟨rfl,rfl⟩
 exact .agg rfl (Qjy (.keep (.v _)) (Qjy (.keep (.v _)) (Qjy (.keep (.v _)) (QtY (.nil 4)))))
theorem Qnr(x y:Int):Pure Tryz.prog 31 [.i x,.i y] (leqG x y).atom:=by
 intro h
 have c1:=Qgi x
 have c2:=Qgi y
 refine Qc Tryz.func31 rfl Tryz.call31 Tryz.ntmps31 Tryz.results31 (by simp) ?_
 repeat (first|refine Qe c1 ?_|refine Qe c2 ?_|refine Qa ?_);simp only[go_sem,seval]
 refine Qb (r':=(leqG x y).atom) (htake _ _) ?_ ⟨rfl,rfl⟩
 exact .keep (.agg _ (Qcc _ (leqG x y)))
theorem QtO:WkL (flat [.agg [.v (.string {data:=#[]}),.v (.slice none 0 0),.sl 2 [(leqG 3 4).atom,(leqG 4 3).atom] none,.v (.slice none 0 0),.sl 3 [.agg [.i 3,.v (.string {data:=#[]}),.sl 4 [(vT 3).av,(vT 4).av] none]] none,.i 0]]) (flat [exR.av]) :=
 .cons (.refl _) (.cons (.nilS 2) (.cons (.refl _) (.cons (.nilS 3) (.cons (.refl _) (.cons (.refl _) .nil)))))
theorem Qm9:exR.fits:=by refine⟨?_,?_,?_,?_,?_⟩ <;> decide
theorem Qsb:exN.fits:=by refine⟨?_,?_,?_,?_,?_⟩ <;> decide
theorem QkQ(h:AH)(hG:Xl h):Qp Tryz.prog 9 [] h fun o h'=>o = .ret (.b true)/\h'=h:=by
 have v3:=Qgi 3
 have v4:=Qgi 4
 have q1:=Qnr 3 4
 have q2:=Qnr 4 3
 obtain⟨a1,a2,a3,a4,a5⟩:=Qm9
 obtain⟨b1,b2,b3,b4,b5⟩:=Qsb
 have cn:=QdY exR a1 a2 a3 a4 a5
 rw[Qu6]at cn
 have c1:=fun L=>QeJ exR a1 a2 a3 a4 a5 (h++L) (hG.app L)
 have c2:=fun L=>Qn9 (args:=[.agg [.v (.string {data:=#[]}),.v (.slice none 0 0),.v (.slice none 0 0),.v (.slice none 0 0),.v (.slice none 0 0),.i 0]]) (.cons (.agg (.cons (.refl _) (.cons (.nilS 2) (.cons (.nilS 2) (.cons (.nilS 3) (.cons (.nilS 3) (.cons (.refl _) .nil))))))) .nil) (QeJ exN b1 b2 b3 b4 b5 (h++L) (hG.app L))
 have c3:∀L,Qp Tryz.prog 16 [.agg [.sl 2 [.agg [.v (.string leqB),.i 2]] none,.sl 6 [exR.av] none]] (h++L) fun o h'=>o = .ret (.v (.string (Qbw exP)))/\h'=h++L :=
  fun L=>QfG exP (by decide) (by decide) (by intro r hr;rw[Qz8.1 hr];exact Qm9) (h++L) (hG.app L)
 have c4:=fun L=>Qoq exR.body a4 (h++L) (hG.app L)
 rw[QtR]at c1
 rw[QtP]at c2
 rw[QtQ]at c3
 rw[Qsc]at c4
 refine Qc Tryz.func9 rfl Tryz.call9 Tryz.ntmps9 Tryz.results9 (by simp) ?_
 iterate 8 (try (first|((first|(refine Qd fun K E hK hE=>?_)|(with_reducible (first|refine Qe v3 ?_|refine Qe v4 ?_|refine Qe q1 ?_|refine Qe q2 ?_)));simp only[go_sem,seval,Yc])|((with_reducible refine hK _ ?_);clear hK)))
 refine Qh3 h.length 25 6 _ [exR.av] (by simp only[XP,Qyj]) (by intro x hx;simp at hx;subst hx;rfl) QtO ?_
 simp only[Qaa,QyN]
 clear v3 v4 q1 q2
 iterate 5 (try (first|((first|(refine Qd fun K E hK hE=>?_)|(with_reducible refine Qe cn ?_));simp only[go_sem,seval,Rl.cells,Rl.isAgg])|((with_reducible refine hK _ ?_);clear hK)))
 have z2:((2:Int)==2)=true:=by decide
 have z2':(((2:Nat):Int)==2)=true:=by decide
 repeat first|refine owN ?_|(first|refine FunW.Qxr (c1 _) ?_|refine FunW.Qxr (c3 _) ?_|refine FunW.Qxr (c4 _) ?_|refine FunW.Qxr (c2 _) ?_|refine owK fun K hK=>?_|refine nwcS fun K hK=>?_|refine nwcR fun K hK=>?_|refine Qa ?_);simp only[go_sem,seval,Rl.cells,Rl.isAgg,Qh,z2']|refine hK _ ?_;clear hK
 exact Qb (htake _ _) (.keep (.v _)) ⟨rfl,rfl⟩
end Go.Proofs.YtenheconhibonaaGreatDoor.Ab

