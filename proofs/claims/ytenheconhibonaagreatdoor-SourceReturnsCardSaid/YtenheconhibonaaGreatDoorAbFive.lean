/-
  An abstract program logic, contracts of functions, and laws of terms and rules (part 5).
-/
import Derived.Test.YtenheconhibonaaGreatDoorAbTwo
import Derived.Test.YtenheconhibonaaGreatDoorAbFour
import Derived.Test.YtenheconhibonaaGreatDoorAbThree
set_option linter.unusedVariables false
set_option linter.unusedSimpArgs false
set_option maxHeartbeats 4000000
set_option maxRecDepth 4000
namespace Go.Proofs.YtenheconhibonaaGreatDoor.Ab
open Go.Proofs
abbrev QgQ{a:List AV}{h:AH}{Q:AOut->AH->Prop}:=@Qc Tryz.prog 189 _ _ a h Q Tryz.func189 rfl Tryz.call189 _ Tryz.ntmps189 _ Tryz.results189
def phx(h:AH)(P:Pz)(a b c:AB):AH:=((h.set P.i a).set P.j b).set P.g c
section
variable{h:AH}{P:Pz}(H:P.ok h)
include H
theorem Qco(a b c:AB):(phx h P a b c).length=h.length:=by have _u:=H;simp[phx]
theorem QwD(a b c:AB)(L:AH):(phx h P a b c++L)[P.i]? = some a:=by
 rw[Qzc (by rw[Qco H];exact H.i)]
 unfold phx
 rw[Qzd (QAg H.ig),Qzd (QAg H.ij),Qzj H.i]
theorem QwE(a b c:AB)(L:AH):(phx h P a b c++L)[P.j]? = some b:=by
 rw[Qzc (by rw[Qco H];exact H.j)]
 unfold phx
 rw[Qzd (QAg H.jg),Qzj (by simpa using H.j)]
theorem QwC(a b c:AB)(L:AH):(phx h P a b c++L)[P.g]? = some c:=by
 rw[Qzc (by rw[Qco H];exact H.g)]
 unfold phx
 rw[Qzj (by simpa using H.g)]
theorem QvA(a b c a':AB)(L:AH):(phx h P a b c++L).set P.i a'=phx h P a' b c++L:=by
 rw[Qzw _ _ (by rw[Qco H];exact H.i)]
 unfold phx
 rw[QA8 _ _ (QAg H.ig),QA8 _ _ (QAg H.ij),QAS]
theorem QvB(a b c b':AB)(L:AH):(phx h P a b c++L).set P.j b'=phx h P a b' c++L:=by
 rw[Qzw _ _ (by rw[Qco H];exact H.j)]
 unfold phx
 rw[QA8 _ _ (QAg H.jg),QAS]
theorem Qvz(a b c c':AB)(L:AH):(phx h P a b c++L).set P.g c'=phx h P a b c'++L:=by
 rw[Qzw _ _ (by rw[Qco H];exact H.g)]
 unfold phx
 rw[QAS]
theorem QsD(a b c:AB)(L:AH):(phx h P a b c++L)[h.length]? = L[0]? := by rw[<-Qco H a b c];exact XP _ _
theorem Qq1(a b c y:AB)(L:AH):(phx h P a b c++L).set h.length y=phx h P a b c++L.set 0 y:=by rw[<-Qco H a b c];exact Qaa _ _ _
end
theorem Qlu(h:AH)(P:Pz)(s:PS):ph h P s=phx h P (.cells 117 4 [.agg [.sl 3 (tks P.all) none,.i ((P.all.length - s.toks.length:Nat):Int),.sl 1 (strs s.names) (some P.g),.mp P.j]]) (.map (smap (kn s.names))) (.grow 9 1 s.names.length):=rfl
theorem Qov{names:List ByteArray}{x:ByteArray}(h:¬(nameAt names x<names.length/\x.toList≠[95])):kn (names++[x])=supd x (.i (names.length:Nat)) (kn names):=by
 rw[Qqu]
 unfold QiJ
 rw[Qzf]
 rintro⟨h1,h2⟩
 simp only at h1 h2
 rw[Qnn x h1 _ names rfl]at h2
 by_cases h3:nameAt names x<names.length
 ·exact h ⟨h3,h1⟩
 ·rw[Qzf h3]at h2;cases h2
theorem QuJ(n:Nat)(x:ByteArray)(s:PS):(pVari x s).1.lv n=lf 1 (pVari x s).1.int/\(pVari x s).1.args=[]:=by unfold pVari;split <;> exact⟨rfl,rfl⟩
section
variable{P:Pz}{s:PS}(hW:Wst P.all s){h:AH}(H:P.ok h)(hN:P.all.length<=1000000)
include hW H hN
theorem Qkj(x:ByteArray):Qp Tryz.prog 189 [.ptr P.i 0 0,.v (.string x)] (ph h P s) fun o h'=>o = .ret (lf 1 (pVari x s).1.int)/\h'=ph h P (pVari x s).2:=by
 have f1:=Qco H
 have f2:=QwD H
 have f3:=QwE H
 have f4:=QwC H
 have f5:=QvA H
 have f6:=QvB H
 have f7:=Qvz H
 have f8:=QsD H
 have f9:=Qq1 H
 have hfind:=QkS x (kn s.names)
 have hn:=hW.nms
 have hupd:=QnW x
 by_cases hc:nameAt s.names x<s.names.length/\x.toList≠[95]
 ·rw[Qnn x hc.2 _ s.names rfl,Qzh hc.1]at hfind
  have z1:(x.toList==({data:=#[95]}:ByteArray).toList)=false:=by
   rw[Lib.toList_data {data:=#[95]}];simpa using hc.2
  have cv:=QlU (nameAt s.names x:Nat)
  have hv:pVari x s=(.mk 1 (nameAt s.names x:Nat) eB [],s):=by unfold pVari;rw[Qzh hc]
  rw[hv]
  refine QgQ (by simp) ?_
  rw[Qlu]
  repeat (first|refine Qe cv ?_|refine Qa ?_);simp only[go_sem,seval,f1,f2,f3,f8,f9,hfind,z1]
  exact Q9 H (s:=s) (s':=s) (.keep (Qer _ _ _)) ⟨rfl,rfl⟩
 ·have hv:pVari x s=(.mk 1 (s.names.length:Nat) eB [],⟨s.toks,s.names++[x]⟩):=by unfold pVari;rw[Qzf hc]
  have hkn:=Qov hc
  have cv:=QlU (s.names.length:Nat)
  have hm:(s.names.length+1) * 16<=140737488355328:=by omega
  have hm2:s.names.length+1<=maxLen:=by simp only[maxLen];omega
  rw[hv]
  cases hg:sget x (kn s.names)with
  |none =>
   rw[hg]at hfind
   refine QgQ (by simp) ?_
   rw[Qlu]
   repeat (first|refine Qe cv ?_|refine Qa ?_);simp only[go_sem,seval,f1,f2,f3,f4,f5,f6,f7,f8,f9,hfind,Qcu,hm,hm2,hupd]
   have es:ph h P ⟨s.toks,s.names++[x]⟩=phx h P (.cells 117 4 [.agg [.sl 3 (tks P.all) none,.i ((P.all.length - s.toks.length:Nat):Int),.sl 1 (strs s.names++[.v (.string x)]) (some P.g),.mp P.j]]) (.map (smap (supd x (.i (s.names.length:Nat)) (kn s.names)))) (.grow 9 1 (s.names.length+1)):=by
    rw[Qlu,hkn,QhK,Qza];rfl
   rw[<-es]
   exact Q9 H (s:=s) (s':=⟨s.toks,s.names++[x]⟩) (.keep (Qer _ _ _)) ⟨rfl,rfl⟩
  |some v =>
   have hx:x.toList=[95]:=by
    by_cases e:x.toList=[95]
    ·exact e
    ·rw[Qnn x e _ s.names rfl]at hg
     by_cases h3:nameAt s.names x<s.names.length
     ·exact absurd ⟨h3,e⟩ hc
     ·rw[Qzf h3]at hg;cases hg
   have z1:(x.toList==({data:=#[95]}:ByteArray).toList)=true:=by
    rw[Lib.toList_data {data:=#[95]}];simpa using hx
   rw[hg]at hfind
   refine QgQ (by simp) ?_
   rw[Qlu]
   repeat (first|refine Qe cv ?_|refine Qa ?_);simp only[go_sem,seval,f1,f2,f3,f4,f5,f6,f7,f8,f9,hfind,z1,Qcu,hm,hm2,hupd]
   have es:ph h P ⟨s.toks,s.names++[x]⟩=phx h P (.cells 117 4 [.agg [.sl 3 (tks P.all) none,.i ((P.all.length - s.toks.length:Nat):Int),.sl 1 (strs s.names++[.v (.string x)]) (some P.g),.mp P.j]]) (.map (smap (supd x (.i (s.names.length:Nat)) (kn s.names)))) (.grow 9 1 (s.names.length+1)):=by
    rw[Qlu,hkn,QhK,Qza];rfl
   rw[<-es]
   exact Q9 H (s:=s) (s':=⟨s.toks,s.names++[x]⟩) (.keep (Qer _ _ _)) ⟨rfl,rfl⟩
end
end Go.Proofs.YtenheconhibonaaGreatDoor.Ab
namespace Go.Proofs.YtenheconhibonaaGreatDoor.Ab
open Go.Proofs
theorem FunW.meth{P:Program}{f:FuncId}{x:AV}{h:AH}{Q:AOut->AH->Prop}(H:Qp P f [x] h Q):FunW P (.fn (.func f) [x] []) [] h Q:=FunW.fn H
def TQ(h:AH)(P:Pz):PR T->AOut->AH->Prop
 | .ok t s,o,h'=>o = .ret (t.lv h.length)/\h'=ph h P s++t.lay 69 h.length
 | .err p e,o,h'=>o = .panic (Fl p e)/\∃s,h'=ph h P s
def CQ(g:Nat)(h:AH)(P:Pz):PR T->AOut->AH->Prop
 | .ok t s,o,h'=>o = .ret (t.lv (h.length+g))/\∃N,h'=ph h P s++N/\At N g (t.lay 69 (h.length+g))
 | .err p e,o,h'=>o = .panic (Fl p e)/\∃s,h'=ph h P s
def TRd(P:Pz)(f:FuncId)(g:PS->PR T)(N:Nat):Prop:=∀s:PS,s.toks.length<N->Wst P.all s->∀h:AH,P.ok h->Qp Tryz.prog f [.ptr P.i 0 0] (ph h P s) (TQ h P (g s))
theorem Qgh{P:Pz}{f:FuncId}{args:List AV}{h:AH}{s:PS}(H:P.ok h)(g:Nat){r:PR T}(C:Qp Tryz.prog f args (ph h P s) (CQ g h P r)):Qp Tryz.prog f args (ph h P s) (TQ h P r):=by
 refine QbT C fun hb0 o h' hQ=>?_
 cases r with
 |err p e=>exact .inl hQ
 |ok t s2 =>
  obtain⟨rfl,N,rfl,hN⟩:=hQ
  rw[QE]at hb0 ⊢
  have hb:∀b∈ph h P s2,b.Below h.length:=fun b hb=>by
   obtain⟨k,hk⟩:=Qab hb
   rcases Qdp H (s0:=s) hk with h1|h1
   ·exact hb0 k b h1
   ·exact h1
  obtain⟨K,hk⟩:=QwA (QE h P s2) hb g t hN
  exact .inr ⟨_,_,_,_,rfl,K,hk,rfl,rfl⟩
section
variable{P:Pz}{f:FuncId}{g:PS->PR T}{N:Nat}(HR:TRd P f g N){s:PS}(hs:s.toks.length<N)(hW:Wst P.all s){h:AH}(H:P.ok h)
include HR hs hW H
theorem TRd.ok{t:T}{s2:PS}(e:g s = .ok t s2)(L:AH){k:Nat}(hk:k=h.length+L.length):Qp Tryz.prog f [.ptr P.i 0 0] (ph h P s++L) fun o h'=>o = .ret (t.lv k)/\h'=ph h P s2++(L++t.lay 69 k):=by
 have:=HR s hs hW (h++L) (H.app L)
 rw[QP H,e]at this
 subst hk
 exact this.mono fun o h' q=>by simpa only[TQ,QP H,Qza,Qze]using q
theorem TRd.err{p c:Int}(e:g s = .err p c)(L:AH):Qp Tryz.prog f [.ptr P.i 0 0] (ph h P s++L) fun o h'=>o = .panic (Fl p c)/\∃s2:PS,h'=ph h P s2++L:=by
 have:=HR s hs hW (h++L) (H.app L)
 rw[QP H,e]at this
 exact this.mono fun o h' q=>by simpa only[TQ,QP H]using q
end
theorem Qve{s:PS}{b:ByteArray}(h:s.is b.toList=true):s.tk.text=b:=by
 simp only[PS.is,Qzk,QAb]at h
 exact toList_inj h.2
theorem QG{h:AH}{P:Pz}(H:P.ok h)(s s2:PS)(p e:Int)(L:AH){Q:AOut->AH->Prop}(hq:Q (.panic (Fl p e)) (ph h P s2)):Leaves (ph h P s) (ph h P s2++L) (Fl p e) fun v h'=>Q (.panic v) h' :=
 Q9 H (s:=s) (s':=s2) (.keep (Qdf _ _ _)) hq
end Go.Proofs.YtenheconhibonaaGreatDoor.Ab
namespace Go.Proofs.YtenheconhibonaaGreatDoor.Ab
theorem Qtc{S:Nat->Bool}:∀{l:List Tr} {f:AH},(∀t∈l,t.c<2)->hS S l f=f
 |l,f,H=>Qbp fun t ht h2=>by have:=H t ht;omega
theorem QrT{P:Program}{N:Nat}{base:Bs×Fence}{ops:Array Oper}{F:Fence}{n:Nat}(hF:WF F){Qx:Exit->Act->World->Prop}{x:Nat}{ox:Oper}{f:Operand}{asx:Array Operand}{tys:Array TypeId}(hox:ops[x]? = some ox)
  (hop:ox.op = .call ⟨.value f,asx,tys⟩) {tr:List Tr} {tm0:Nat->AV} {h0:AH} (hruns:Runs P N ops tr tm0 h0) (hlow:∀t∈tr,t.c<2) (hxt:∀t∈tr,t.i≠x)
  (hpw:tr.Pairwise (fun a b=>clash ops a.o b.o a.c b.c=true->Anc ops a.i b.i)) (hnd:(tr.map (·.i)).Nodup) (hkind:∀t∈tr,kindOk t.o t.c=true)
  (hrd:∀t∈tr,∀d,t.o.dst=some d->d∈readsOf ops ox->Anc ops t.i x) (hall:∀i,i<ops.size->(∃t∈tr,t.i=i)\/i=x\/Anc ops x i) (htopo:topo ops [] (tr.map (fun t=>(t.i,t.c))++[(x,1)])=true)
  (haw:Qn ops (tmS N (fun _=>true) tr tm0) ox=some true) {G:AV->AH->Prop} (H:FunW P (AS.ev ⟨tmS N (fun _=>true) tr tm0,[]⟩ f) (asx.toList.map (AS.ev ⟨tmS N (fun _=>true) tr tm0,[]⟩)) h0 (fun o h'=>∃v,o = .panic v/\G v h')) :
  ∀(fuel:Nat) (listed:Array Bool) (c:Cx) (a:Act),listed.size=ops.size->Down ops (fun i=>listed.getD i false)->listed.getD x false=false->St c->SR N base c ⟨tmS N (fun i=>listed.getD i false) tr tm0,h0⟩ a ->
   tr.countP (fun t=>!listed.getD t.i false)<fuel ->
   (∀tm' v h' c' a' u,G v h'->Ev c c'->St c'->SR N base c' ⟨tm',h'⟩ a'->Rel c' v u->Qx (.panic [{v:=u,recovered:=false}]) a' c'.w)->wpAnyIn F n P .any ops Qx fuel listed a c.w:=by
 intro fuel
 induction fuel with
 |zero=>intro listed c a hsz hd hx hst hr hc hQ;omega
 |succ fuel ih =>
  intro listed c a hsz hd hx hst hr hc hQ
  refine⟨fun h=>?_,fun i hi=>?_⟩
  ·exfalso
   have:=QeU hsz h _ [] htopo (fun i hi=>by cases hi) (x,1) (QAC _ (by simp))
   simp only at this
   rw[hx]at this;cases this
  have hi':=hi
  obtain⟨h1,o,ho,_⟩:=mem_ready.1 hi'
  have hlt:i<ops.size:=(Qzs.1 ho).1
  have hd':=QgJ hsz hd hi
  by_cases hix:i=x
  ·subst hix
   rw[hox]at ho;cases ho
   -- what it reads is there
   have hreads:∀y∈readsOf ops ox,tmS N (fun i=>listed.getD i false) tr tm0 y=tmS N (fun _=>true) tr tm0 y:=fun y hy=>QaT rfl fun t ht hd=>by
    have ha:=hrd t ht y hd hy
    have h2:(listed.setIfInBounds i true).getD t.i false=true:=hd'.anc ha (by rw[QaQ (by omega)];simp)
    rw[QaQ (by omega)]at h2
    by_cases hti:t.i=i
    ·exact absurd hti (hxt t ht)
    ·simpa [hti]using h2
   unfold wpOpIn
   simp only[hox]
   rw[Q7 hr (by rw[Qec (tm:=tmS N (fun i=>listed.getD i false) tr tm0) (tm':=tmS N (fun _=>true) tr tm0) hreads];exact haw)]
   simp only[QAj]
   have hargs:∀y∈ox.op.operands,AS.ev ⟨tmS N (fun i=>listed.getD i false) tr tm0,[]⟩ y=AS.ev ⟨tmS N (fun _=>true) tr tm0,[]⟩ y:=Qek hreads
   refine QcY (K:=fun _=>False) (E:=fun r s'=>G r s'.h) ?_ hF hst hr (fun s' c' a' hs=>hs.elim) ?_
   ·unfold OpW
    simp only[hop]
    have hev:=hargs
    rw[hop]at hev
    have h1':AS.ev ⟨tmS N (fun i=>listed.getD i false) tr tm0,h0⟩ f=AS.ev ⟨tmS N (fun _=>true) tr tm0,[]⟩ f:=(Qcz _ _ _ _).trans (hev f (by simp[Op.operands,Call.operands]))
    have h2':asx.toList.map (AS.ev ⟨tmS N (fun i=>listed.getD i false) tr tm0,h0⟩)=asx.toList.map (AS.ev ⟨tmS N (fun _=>true) tr tm0,[]⟩):=QAh fun y hy=>(Qcz _ _ _ _).trans (hev y (by simp[Op.operands,Call.operands,QAw,hy]))
    rw[h1',h2']
    refine H.mono ?_
    rintro o h' ⟨v,rfl,g⟩
    exact g
   ·intro r s' c' u hE hev hst' hr' hru
    obtain⟨tm',h'⟩:=s'
    exact hQ tm' r h' c' a u hE hev hst' hr' hru
  ·have hx':(listed.setIfInBounds i true).getD x false=false:=by rw[QaQ (by omega),hx];simp;exact fun e=>hix e.symm
   rcases hall i hlt with⟨t,ht,hti⟩|h|h
   ·have e0:∀S,hS S tr h0=h0:=fun S=>Qtc hlow
    refine Qea hF hruns hpw hnd hkind hi ht hti hsz (fun i j h hj=>hd.anc h hj) (fun i j h hj=>hd'.anc h hj) hst (by rw[e0];exact hr) fun c' a' hev hst' hr'=>?_
    rw[e0]at hr'
    refine ih _ c' a' (by simpa using hsz) hd' hx' hst' hr' ?_ fun tm' v h' c2 a2 u g e2 s2 r2 ru=>hQ tm' v h' c2 a2 u g (Ev.trans hst hev e2) s2 r2 ru
    have:=QeZ (fuel:=tr.countP (fun t=>!listed.getD t.i false) - 1) hsz ⟨t,ht,hti⟩ hi (by omega)
    have hpos:0<tr.countP (fun t=>!listed.getD t.i false):=by
     rw[List.countP_pos_iff]
     refine⟨t,ht,?_⟩
     rw[Qzr,Qzv (by omega)]at h1 ⊢
     subst hti
     simpa using h1
    omega
   ·exact absurd h hix
   ·exfalso
    have h2:(listed.setIfInBounds i true).getD x false=true:=hd'.anc h (by rw[QaQ (by omega)];simp)
    rw[hx']at h2;cases h2
def Qvx(ops:Array Oper)(x:Nat)(ρ:List (Nat×Nat)):Bool :=
 decide (ρ.length<ops.size)&&Qhz ops (masks ops.toList []) ρ&&topo ops [] (ρ++[(x,1)])&&QoH (ρ.map (·.1))&&(ρ.all fun p=>decide (p.2<2)&&!(p.1==x)&&(match ops[p.1]? with|some o=>kindOk o p.2&&(match ops[x]?,o.dst with|some ox,some d=>!(readsOf ops ox).contains d||((masks ops.toList []).getD x 0).testBit p.1|_,_=>true)|none=>false)) &&
 ((List.range ops.size).all fun i=>(ρ.map (·.1)).contains i||i==x||((masks ops.toList []).getD i 0).testBit x)
def callOf(o:Oper):Option (Operand×List Operand):=match o.op with
 | .call ⟨.value f,asx,_⟩=>some (f,asx.toList)
 |_=>none
theorem Q2{P:Program}{N:Nat}{Q:AExit->AS->Prop}{s:AS}{id:Nat}{ops:Array Oper}(x:Nat)(ρ:List (Nat×Nat))(hm:P.follows .mixedOrders=true){ox:Oper}{f:Operand}{asx:List Operand}(hox:ops[x]? = some ox)(hcl:callOf ox=some (f,asx))(hgd:ox.guard=none)
  (hok:Qvx ops x ρ=true) (G:AV->AH->Prop) (hG:∀tm v h',G v h'->Q (.panic v) ⟨tm,h'⟩)
  (H:AnyW P N ops ρ (fun s'=>s'.h=s.h->FunW P (s'.ev f) (asx.map s'.ev) s'.h (fun o h'=>∃v,o = .panic v/\G v h')) s):Xs P N (.region id ops true) Q s:=by
 intro F n base c a hF hst hr R hR
 refine wpIn_region_any hm ?_
 obtain⟨tm,hp⟩:=s
 simp only[Qvx,Qzk]at hok
 obtain⟨⟨⟨⟨⟨hp0,hp1⟩,hp2⟩,hp3⟩,hp4⟩,hp5⟩:=hok
 rw[QzB]at hp4
 have hk:(ρ.all fun p=>match ops[p.1]? with|some o=>kindOk o p.2|none=>false)=true:=by
  rw[QzB]
  intro p hp
  have:=hp4 p hp
  simp only[Qzk]at this
  revert this
  cases ops[p.1]? with
  |none=>simp
  |some o=>simp only[Qzk];exact fun h=>h.2.1
 obtain⟨tr,rfl,hruns,hK⟩:=QcB H hk
 have hev:Ev c (c.to {c.w with drawn:=c.w.drawn+1}):=Ev.idle hst (Ev.refl c) rfl rfl rfl rfl fun k=>.inl rfl
 have hst':St (c.to {c.w with drawn:=c.w.drawn+1}):=hst.idle rfl fun k o hk=>.inl hk
 have hr':SR N (base,F) (c.to {c.w with drawn:=c.w.drawn+1}) ⟨tm,hp⟩ a:=⟨hr.h,hr.size,QzL hr.above hev.size,hr.defers.ev hev,RoundOk.ev hev hr.round,fun t=>(hr.tm t).ev hst hev⟩
 have hops:=Qds hruns
 have hnone:∀j,(Array.replicate ops.size false).getD j false=false:=fun j=>by
  rw[Qzr,QAo]
  split <;> rfl
 have hmk:∀(k i:Nat),((masks ops.toList []).getD k 0).testBit i=true->Anc ops i k:=Qb6 ops.toList [] (fun j o h=>by simpa using h) (fun k i h=>by simp at h)
 have hlow:∀t∈tr,t.c<2:=fun t ht=>by
  have:=hp4 (t.i,t.c) (QzD.2 ⟨t,ht,rfl⟩)
  simp only[Qzk,Qzu]at this
  exact this.1.1
 have hxt:∀t∈tr,t.i≠x:=fun t ht=>by
  have:=hp4 (t.i,t.c) (QzD.2 ⟨t,ht,rfl⟩)
  simp only[Qzk,QAG,QAi]at this
  exact this.1.2
 have hS0:hS (fun _=>true) tr hp=hp:=Qtc hlow
 rw[hS0]at hK
 obtain⟨as',tys,hop,rfl⟩:∃(as':Array Operand) (tys:Array TypeId),ox.op = .call ⟨.value f,as',tys⟩/\asx=as'.toList:=by
  unfold callOf at hcl
  split at hcl
  ·rename_i f' as' tys e
   simp only[Qyp,QAJ]at hcl
   obtain⟨rfl,rfl⟩:=hcl
   exact⟨_,_,e,rfl⟩
  ·cases hcl
 have hF0:=hK rfl
 refine QrT (base:=(base,F)) hF hox hop hruns hlow hxt (Qfd hmk tr hp1 hops) ?_ ?_ ?_ ?_ hp2 ?_ (G:=G) ?_ _ _ (c.to {c.w with drawn:=c.w.drawn+1}) a (by simp) ?_ (hnone _) hst' ?_ ?_ ?_
 ·have:=Qdm hp3
  rw[QAu]at this
  exact this
 ·intro t ht
  have:=QzB.1 hk (t.i,t.c) (QzD.2 ⟨t,ht,rfl⟩)
  simpa [hops t ht]using this
 ·intro t ht d hd hr
  have:=hp4 (t.i,t.c) (QzD.2 ⟨t,ht,rfl⟩)
  simp only[hops t ht,hox,hd,Qzk,QzW,QAG]at this
  rcases this.2.2 with h|h
  ·rw[List.contains_eq_mem,decide_eq_false_iff_not]at h
   exact absurd hr h
  ·exact hmk _ _ h
 ·intro i hi
  have:=QzB.1 hp5 i (List.mem_range.2 hi)
  simp only[QzW,QAb]at this
  rcases this with(h|h)|h
  ·have h:i∈(tr.map fun t=>(t.i,t.c)).map (·.1):=by simpa using h
   rw[QAu]at h
   obtain⟨t,ht,rfl⟩:=QzD.1 h
   exact .inl ⟨t,ht,rfl⟩
  ·exact .inr (.inl h)
  ·exact .inr (.inr (hmk _ _ h))
 ·simp only[Qn,hgd]
 ·rw[Qcz _ hp [] f]at hF0
  have e2:as'.toList.map (AS.ev ⟨tmS N (fun _=>true) tr tm,hp⟩)=as'.toList.map (AS.ev ⟨tmS N (fun _=>true) tr tm,[]⟩):=QAh fun y _=>Qcz _ _ _ _
  rw[e2]at hF0
  exact hF0
 ·intro j o ho hj
  simp only at hj
  rw[hnone]at hj;cases hj
 ·have e1:tmS N (fun i=>(Array.replicate ops.size false).getD i false) tr tm=tm:=funext fun x=>Z9 fun t _ h=>by rw[hnone]at h;cases h
  rw[e1];exact hr'
 ·refine Nat.lt_of_le_of_lt List.countP_le_length ?_
  have:=QA4 hp0
  simp only[QzJ]at this;omega
 ·intro tm' v h' c' a' u hg h1 h2 h3 hu
  exact hR _ _ c' a' _ (hG tm' v h' hg) (Ev.trans hst hev h1) h2 h3 ⟨u,rfl,hu⟩
end Go.Proofs.YtenheconhibonaaGreatDoor.Ab
namespace Go.Proofs.YtenheconhibonaaGreatDoor.Ab
open Go.Proofs
theorem Zl{p:Prop}(h:2=3):p:=by cases h
theorem Qnd(x:ByteArray)(y:AV)(h1:y.cells=[y])(h2:y.cell1=true)(h3:y.isAgg=false)(h:AH)(hb:Below h.length y):Qp Tryz.prog 179 [.v (.string x),y] h fun o h'=>o = .ret (.agg [.i 2,.i 0,.v (.string x),y])/\h'=h:=by
 refine Qc Tryz.func179 rfl Tryz.call179 Tryz.ntmps179 Tryz.results179 (by simp) ?_
 repeat refine Qa ?_;simp only[go_sem,seval,h1,h2]
 refine Qb (htake _ _) (.keep (.agg _ fun a ha=>?_)) ⟨rfl,rfl⟩
 simp only[Qzn,Qzz,QAf]at ha
 rcases ha with rfl|rfl|rfl|rfl
 ·exact .v _
 ·exact .v _
 ·exact .v _
 ·exact hb
abbrev c6:AB:=.cells 69 4 [.agg [.v (.int .i64 0),.v (.int .i64 0),.v (.string {data:=#[]}),.v (.slice none 0 0)]]
section
variable{P:Pz}{f:FuncId}{g:PS->PR T}{Nn:Nat}(HR:TRd P f g Nn)(hEat:Eat 0 g)(hKp:Kp.Ps (wdOf P.all) g)(opsB:List ByteArray)(hob:opsB.length<=10){s:PS}(hs:s.toks.length<Nn)(hW:Wst P.all s){h:AH}(H:P.ok h)(hN:P.all.length<=1000000)
include HR hEat hKp hs hW H hN hob
theorem QpM:Qp Tryz.prog 165 [.ptr P.i 0 0,.fn (.func f) [.ptr P.i 0 0] [],.sl 1 (strs opsB) none] (ph h P s) (CQ 1 h P (XB g (opsB.map ByteArray.toList) s)):=by
 have f1:=QE h P
 have f3:=XF h P
 have f4:=Yp h P
 have f5:=Q8 h P
 have f6:=XR h P
 rw[XB]
 cases hop:g s with
 |err p e =>
  have c1:=fun L=>TRd.err HR hs hW H hop L
  refine Qc Tryz.func165 rfl Tryz.call165 Tryz.ntmps165 Tryz.results165 (by simp) ?_
  with_reducible repeat first|refine Qd fun K E hK hE=>?_;simp only[go_sem,seval,f1]|refine hK _ ?_;clear hK
  refine QgC 0 (fun _ _=>False) rfl ?_ (fun _ _ hf=>hf.elim)
  refine Y8 ?_
  with_reducible repeat first|(first|refine Qs fun K E hK hE=>?_|refine FunW.panE (FunW.meth (c1 _)) fun r=>?_);simp only[go_sem,seval]|refine hE _ _ ?_|refine QeT ?_
  exact QG H s r p e _ ⟨rfl,_,rfl⟩
 |ok a0 s0 =>
  have c1:=TRd.ok HR hs hW H hop [c6] (k:=h.length+1) rfl
  have hW0:Wst P.all s0:=Kp.Ps.ok hKp hW hop
  have hl0:=(hEat s hW.wf a0 s0 hop).2
  simp only[PR.bind]
  generalize hR:XW g (opsB.map ByteArray.toList) s0.toks.length a0 s0=R
  refine Qc Tryz.func165 rfl Tryz.call165 Tryz.ntmps165 Tryz.results165 (by simp) ?_
  with_reducible repeat first|refine Qd fun K E hK hE=>?_;simp only[go_sem,seval,f1]|refine hK _ ?_;clear hK
  obtain⟨I,hI⟩:∃I:Nat->AS->Prop,I=fun m' s=>∃(t:T) (s2:PS) (q:Nat) (L:AH),m'=s2.toks.length/\s2.toks.length<Nn/\Wst P.all s2/\(∃k,s2.toks.length<=k/\XW g (opsB.map ByteArray.toList) k t s2=R)/\L.length=t.sz+1/\At L 0 (t.lay 69 (h.length+1))/\q<=t.sz /\
   (t.lay 69 (h.length+1)++[.dead])[q]? = some .dead/\L[q]? = some (.cells 69 4 [t.lv (h.length+1)])/\s.tm 0 = .ptr P.i 0 0/\s.tm 1 = .fn (.func f) [.ptr P.i 0 0] []/\s.tm 2 = .sl 1 (strs opsB) none/\s.tm 6 = .ptr h.length 0 0/\s.tm 7 = .ptr (h.length+(q+1)) 0 0/\s.h=ph h P s2++(c6::L):=⟨_,rfl⟩
  refine QkN 0 I rfl ?_ ?_
  ·intro key
   refine Y8 ?_
   have e1:=T.Qxx (h.length+1) a0
   have e2:=T.Qxy (h.length+1) a0
   have e3:=T.Qxw 69 (h.length+1) a0
   with_reducible repeat first|(first|refine Qs fun K E hK hE=>?_|refine FunW.ret (FunW.meth c1) ?_);simp only[go_sem,seval,f1,f4,f6,e1,e2,QF]|refine Qk ?_|refine hK _ ?_;clear hK
   refine Y8 (QdT (Qk (key _ ?_)))
   rw[hI]
   refine⟨_,a0,s0,a0.sz,a0.lay 69 (h.length+1)++[.cells 69 4 [a0.lv (h.length+1)]],rfl,by omega,hW0,⟨_,Qzl _,hR⟩,by rw[Qza,e3];rfl,At.mid [] _ _ rfl,Qzl _,?_,?_,rfl,rfl,rfl,rfl,?_,?_⟩
   ·rw[Qzi (by rw[e3];exact Qzl _),e3,Qz0];rfl
   ·rw[Qzi (by rw[e3];exact Qzl _),e3,Qz0];rfl
   ·show AV.ptr (h.length+((a0.lay 69 (h.length+1)).length+1)) 0 0=_
    rw[e3]
   ·rfl
  ·intro m s1 hs1
   rw[hI]at hs1
   obtain⟨tm,hp⟩:=s1
   dsimp only at hs1
   obtain⟨t,s2,q,L,rfl,hl2,hW2,⟨k,hk,hR2⟩,hL,hAt,hq,hdead,hc7,t0,t1,t2,t6,t7,rfl⟩:=hs1
   refine Qiv ?_
   refine Y8 ?_
   with_reducible repeat first|refine Qs fun K E hK hE=>?_;simp only[go_sem,seval,t2,Qcu]|refine Qk ?_|refine hK _ ?_;clear hK
   refine QgB ?_
   obtain⟨I2,hI2⟩:∃I2:Nat->AS->Prop,I2=fun m' s=>∃j:Nat,m'=opsB.length - j/\j<=opsB.length/\(∀b∈opsB.take j,s2.is b.toList=false)/\s.tm 0 = .ptr P.i 0 0/\s.tm 1 = .fn (.func f) [.ptr P.i 0 0] []/\s.tm 2 = .sl 1 (strs opsB) none/\s.tm 6 = .ptr h.length 0 0/\s.tm 7 = .ptr (h.length+(q+1)) 0 0 /\
    s.tm 12 = .sl 1 (strs opsB) none/\s.tm 13 = .i opsB.length/\s.tm 14 = .i j/\s.h=ph h P s2++(c6::L):=⟨_,rfl⟩
   refine Qod I2 ?_ (m:=opsB.length) ?_
   ·intro m' s3 hs3
    rw[hI2]at hs3
    obtain⟨tm,hp⟩:=s3
    dsimp only at hs3
    obtain⟨j,rfl,hj,hno,u0,u1,u2,u6,u7,u12,u13,u14,rfl⟩:=hs3
    by_cases hlt:j<opsB.length
    ·have z1:(((j:Nat):Int)<((opsB.length:Nat):Int)):=by omega
     have hi:=ph_i H s2
     simp only[pB]at hi
     have hix:(strs opsB)[j]? = some (.v (.string opsB[j])):=by rw[strs,QzN,Qzg hlt];rfl
     refine Y8 ?_
     with_reducible repeat first|refine Qs fun K E hK hE=>?_;simp only[go_sem,seval,u14,u13,z1]|refine Qk ?_|refine hK _ ?_;clear hK
     refine Y8 ?_
     with_reducible repeat first|refine Xu ?_|refine Qk ?_|refine Qw rfl ?_;simp only[↓reduceIte]
     refine Qiv (QgB ?_)
     refine Y8 ?_
     with_reducible repeat first|refine Qs fun K E hK hE=>?_;simp only[go_sem,seval,u12,u14,hix,hlt,Qcu]|refine Qk ?_|refine hK _ ?_;clear hK
     refine Y8 ?_
     cases hb:s2.is opsB[j].toList with
     |false =>
      have cs:=fun L=>QmP (P:=P) hW2 (H.app L) hN opsB[j] hb
      simp only[QP H]at cs
      with_reducible repeat first|(first|refine Qs fun K E hK hE=>?_|refine FunW.Qxr (cs _) ?_);simp only[go_sem,seval,u0,hi]|refine Qk ?_|refine hK _ ?_;clear hK
      refine Qiu (t:=false) rfl ?_
      simp only[Qyn,↓reduceIte]
      refine QeX ?_
      with_reducible repeat first|refine Xu ?_|refine Qk ?_|refine QI ?_
      refine QeX ?_
      with_reducible repeat first|refine Qs fun K E hK hE=>?_;simp only[go_sem,seval,u14]|refine Qk ?_|refine hK _ ?_;clear hK
      refine QZ.mk (m':=opsB.length - (j+1)) (by omega) ?_
      rw[hI2]
      refine⟨j+1,rfl,hlt,?_,u0,u1,u2,u6,u7,u12,u13,?_,rfl⟩
      ·intro b hb2
       rw[QAp hlt,QzH,Qz8]at hb2
       rcases hb2 with hb2|rfl
       ·exact hno b hb2
       ·exact hb
      ·simp only[upd,↓reduceIte]
       rw[QY (by omega)]
     |true =>
      have hbk:=PS.Qxv hb
      have htx:=Qve hb
      have cs:=fun L=>Qj9 (P:=P) hW2 (H.app L) hN opsB[j] hb
      simp only[QP H]at cs
      have hWn:=hW2.nx
      have hln:=XX hW2.wf hbk
      with_reducible repeat first|(first|refine Qs fun K E hK hE=>?_|refine FunW.Qxr (cs _) ?_);simp only[go_sem,seval,u0,hi]|refine Qk ?_|refine hK _ ?_;clear hK
      refine Qiu (t:=true) rfl ?_
      simp only[↓reduceIte]
      refine Y8 ?_
      have hone:s2.oneOf (opsB.map ByteArray.toList)=true:=by
       rw[PS.oneOf,QBf]
       exact⟨_,QzD.2 ⟨_,QzF hlt,rfl⟩,hb⟩
      have hk1:k=k - 1+1:=by omega
      have e1:=T.Qxx (h.length+1) t
      have e2:=T.Qxy (h.length+1) t
      cases hop2:g s2.nx with
      |err p e =>
       have hRR:R = .err p e:=by
        rw[<-hR2,hk1,XW,Qzh hone,hop2];rfl
       subst hRR
       have c2:=TRd.err HR (s:=s2.nx) (by omega) hWn H hop2 (c6::L)
       refine Q2 3 [(0,1),(1,0),(2,1)] mixed rfl rfl rfl (by kernel_rfl) (fun v h'=>v=Fl p e/\∃x:PS,h'=ph h P x++(c6::L)) ?_ ?_
       ·rintro tm v h' ⟨rfl,x,rfl⟩
        exact QG H s x p e _ ⟨rfl,_,rfl⟩
       ·simp only[go_sem,seval,u1,u7,f4,hc7,e1,e2]
        exact fun _=>(FunW.meth c2).mono (by rintro _ _ ⟨rfl,x,rfl⟩;exact⟨_,rfl,rfl,x,rfl⟩)
      |ok u s3 =>
       have hW3:Wst P.all s3:=Kp.Ps.ok hKp hWn hop2
       have hl3:=(hEat _ hWn.wf u s3 hop2).2
       have hR3:XW g (opsB.map ByteArray.toList) (k - 1) (.mk 2 0 opsB[j] [t,u]) s3=R:=by
        rw[<-hR2,hk1,XW,Qzh hone,hop2,htx];rfl
       have c2:=TRd.ok HR (s:=s2.nx) (by omega) hWn H hop2 (c6::L) (k:=h.length+1+(t.sz+1)) (by rw[Qyw,hL];omega)
       have g1:∀X,(L++X)[q]? = some (.cells 69 4 [t.lv (h.length+1)]):=fun X=>by rw[Qzc (by omega)];exact hc7
       have g2:∀X y,(L++X).set q y=L.set q y++X:=fun X y=>Qzw _ _ (by omega)
       have e3:=T.Qxx (h.length+1+(t.sz+1)) u
       have e4:=T.Qxy (h.length+1+(t.sz+1)) u
       refine YG (.node [(0,1),(2,1)] 1 3 (.leaf [(1,0),(3,2),(4,6),(5,2),(6,2)]) (.leaf [(3,2),(1,0),(4,6),(5,2),(6,2)])) mixed (by kernel_rfl) fun K hK=>?_
       simp only[OT.walk]
       simp only[go_sem,seval,u1,u7,f4,hc7,e1,e2]
       have hlt2:h.length+(L.length+(u.lay 69 (h.length+1+(t.sz+1))).length+1)<(ph h P s3++(c6::(L++(u.lay 69 (h.length+1+(t.sz+1))++[.cells 69 4 [t.lv (h.length+1),u.lv (h.length+1+(t.sz+1))]])))).length:=by
        simp only[Qza,Qyw,Qyx,QE];omega
       have fin:∀tm':Nat->AV,tm' 0 = .ptr P.i 0 0->tm' 1 = .fn (.func f) [.ptr P.i 0 0] []->tm' 2 = .sl 1 (strs opsB) none->tm' 6 = .ptr h.length 0 0->tm' 7 = .ptr (h.length+(q+1)) 0 0 ->
         ∀Q',Qbf Tryz.prog 31 0 (QZ I s2.toks.length) (Code.goto 0) Q' ⟨tm',ph h P s3++(c6::(L.set q (.cells 69 4 [.agg [.i 2,.i 0,.v (.string opsB[j]),.arr (h.length+(L.length+(u.lay 69 (h.length+1+(t.sz+1))).length+1)) 0 2]])++(u.lay 69 (h.length+1+(t.sz+1))++[.cells 69 4 [t.lv (h.length+1),u.lv (h.length+1+(t.sz+1))]])))⟩:=by
        intro tm' v0 v1 v2 v6 v7 Q'
        refine Qob (Qoc ⟨s3.toks.length,by omega,?_⟩)
        rw[hI]
        have hlv:(T.mk 2 0 opsB[j] [t,u]).lv (h.length+1) = .agg [.i 2,.i 0,.v (.string opsB[j]),.arr (h.length+(L.length+(u.lay 69 (h.length+1+(t.sz+1))).length+1)) 0 2]:=by
         rw[T.Qxw,hL]
         show AV.agg [_,_,_,AV.arr (h.length+1+szs [t,u] - 1) 0 2]=_
         simp only[szs]
         rw[show h.length+1+(t.sz+1+(u.sz+1+0)) - 1=h.length+(t.sz+1+u.sz+1) by omega]
        have hla:(T.mk 2 0 opsB[j] [t,u]).lay 69 (h.length+1)=(t.lay 69 (h.length+1)++[.dead])++(u.lay 69 (h.length+1+(t.sz+1))++[.cells 69 4 [t.lv (h.length+1),u.lv (h.length+1+(t.sz+1))]]):=by
         show lays _ _ (.cells _ 4 (lvs _ [t,u])) [t,u]=_
         simp only[lays,lvs,Qy0,QyZ,Qyn,Qz5,QAj]
         rw[QAA (h.length+1) t.sz 1,Qze];rfl
        refine⟨.mk 2 0 opsB[j] [t,u],s3,q,L.set q (.cells 69 4 [(T.mk 2 0 opsB[j] [t,u]).lv (h.length+1)])++(u.lay 69 (h.length+1+(t.sz+1))++[.cells 69 4 [t.lv (h.length+1),u.lv (h.length+1+(t.sz+1))]]++[.dead]),rfl,by omega,hW3,⟨k - 1,by omega,hR3⟩,?_,?_,?_,?_,?_,v0,v1,v2,v6,v7,?_⟩
        ·simp only[Qza,Qzm,Qyw,Qyx,T.Qxw,T.sz,szs];omega
        ·rw[hla]
         have hlt3:(t.lay 69 (h.length+1)++[AB.dead]).length=t.sz+1:=by rw[Qza,T.Qxw];rfl
         refine At.both ?_ ?_
         ·refine At.app ?_ _
          refine At.set (At.both hAt (At.cons (fun hx=>by cases hx) (At.nil _ _))) fun b hb hq0=>?_
          rw[Nat.sub_zero,hdead]at hb
          cases hb;rfl
         ·rw[hlt3,Qze]
          have:=At.mid (L.set q (.cells 69 4 [(T.mk 2 0 opsB[j] [t,u]).lv (h.length+1)])) (u.lay 69 (h.length+1+(t.sz+1))++[.cells 69 4 [t.lv (h.length+1),u.lv (h.length+1+(t.sz+1))]]) [.dead] (n:=0+(t.sz+1)) (by rw[Qzm,hL,Qyv])
          rwa [Qze]at this
        ·rw[T.sz,szs];omega
        ·rw[hla,Qze,Qzc (by rw[Qza,T.Qxw];show q<t.sz+1;omega)];exact hdead
        ·rw[Qzc (by rw[Qzm];omega),Qzj (by omega)]
        ·rw[hlv];simp only[Qze,QyL]
       refine⟨?_,?_⟩
       ·refine QL (FunW.meth c2) Zl ?_
        simp only[go_sem,seval,f1,e1,e3,QF,tokA,QAx,Qze]
        refine QL (FunW.call (Qnd _ _ rfl rfl rfl _ (.arr _ _ _ hlt2))) Zl ?_
        simp only[go_sem,seval,u7,f4,f6,g1,g2,e1,e2]
        refine hK _ (Qk (fin _ ?_ ?_ ?_ ?_ ?_ _))
        ·exact u0
        ·exact u1
        ·exact u2
        ·exact u6
        ·exact u7
       ·refine QL (FunW.meth c2) Zl ?_
        simp only[go_sem,seval,u7,f1,f4,g1,e1,e2,e3,QF,tokA,QAx,Qze]
        refine QL (FunW.call (Qnd _ _ rfl rfl rfl _ (.arr _ _ _ hlt2))) Zl ?_
        simp only[go_sem,seval,u7,f4,f6,g1,g2,e1,e2]
        refine hK _ (Qk (fin _ ?_ ?_ ?_ ?_ ?_ _))
        ·exact u0
        ·exact u1
        ·exact u2
        ·exact u6
        ·exact u7
    ·have hjl:j=opsB.length:=by omega
     have z1:¬(((j:Nat):Int)<((opsB.length:Nat):Int)):=by omega
     refine Y8 ?_
     with_reducible repeat first|refine Qs fun K E hK hE=>?_;simp only[go_sem,seval,u14,u13,z1]|refine Qk ?_|refine hK _ ?_;clear hK
     refine Y8 ?_
     with_reducible repeat first|refine Qah ?_|refine Qk ?_|refine ZE ?_|refine ZD ?_|refine Qw rfl ?_;simp only[↓reduceIte,Qyn]
     refine QeX ?_
     have e1:=T.Qxx (h.length+1) t
     have e2:=T.Qxy (h.length+1) t
     with_reducible repeat first|refine Qd fun K E hK hE=>?_;simp only[go_sem,seval,u6,u7,f3,f4,f5,hc7,e1,e2,QF]|refine YH ?_|refine hK _ ?_;clear hK
     simp only[go_sem,seval,u6,f3,e1,e2]
     have hone:s2.oneOf (opsB.map ByteArray.toList)=false:=by
      rw[PS.oneOf,List.any_eq_false]
      intro b hb
      obtain⟨b',hb',rfl⟩:=QzD.1 hb
      rw[hjl,Qzb]at hno
      rw[hno b' hb'];simp
     have hRR:R = .ok t s2:=by
      rw[<-hR2]
      cases k with
      |zero=>rfl
      |succ k=>rw[XW,hone];rfl
     subst hRR
     refine .inr ⟨rfl,_,rfl,fun i b hb hl=>?_⟩
     have:=hAt i b hb hl
     rw[show 1+i=(0+i)+1 by omega,Qyk];exact this
   ·rw[hI2]
    exact⟨0,rfl,Qzy _,by simp,t0,t1,t2,t6,t7,rfl,rfl,rfl,rfl⟩
end
end Go.Proofs.YtenheconhibonaaGreatDoor.Ab
namespace Go.Proofs.YtenheconhibonaaGreatDoor.Ab
open Go.Proofs
theorem QvT{P:Pz}{f:FuncId}{args:List AV}{h0 h:AH}{L:AH}{t:T}{s2:PS}(H:P.ok h)(C:Qp Tryz.prog f args h0 (TQ (h++L) P (.ok t s2))){k:Nat}(hk:k=h.length+L.length):Qp Tryz.prog f args h0 fun o h'=>o = .ret (t.lv k)/\h'=ph h P s2++(L++t.lay 69 k):=by
 subst hk
 exact C.mono fun o h' q=>by simpa only[TQ,QP H,Qza,Qze]using q
theorem Qtw{P:Pz}{f:FuncId}{args:List AV}{h0 h:AH}{L:AH}{p c:Int}(H:P.ok h)(C:Qp Tryz.prog f args h0 (TQ (h++L) P (.err p c))):Qp Tryz.prog f args h0 fun o h'=>o = .panic (Fl p c)/\∃s2:PS,h'=ph h P s2++L :=
 C.mono fun o h' q=>by simpa only[TQ,QP H]using q
section
variable{P:Pz}{g:PS->PR T}{Nn:Nat}(hEat:Eat 0 g)(hKp:Kp.Ps (wdOf P.all) g)(hN:P.all.length<=1000000)
include hEat hKp hN
theorem Qiq{f:FuncId}(HR:TRd P f g Nn)(opsB:List ByteArray)(hob:opsB.length<=10){s:PS}(hs:s.toks.length<Nn)(hW:Wst P.all s){h:AH}(H:P.ok h) :
  Qp Tryz.prog 165 [.ptr P.i 0 0,.fn (.func f) [.ptr P.i 0 0] [],.sl 1 (strs opsB) none] (ph h P s) (TQ h P (XB g (opsB.map ByteArray.toList) s)) :=
 Qgh H 1 (QpM HR hEat hKp opsB hob hs hW H hN)
theorem QoO(HR:TRd P 180 g Nn):TRd P 166 (XB g Xq) Nn:=by
 intro s hs hW h H
 have cc:=Qiq hEat hKp hN HR [{data:=#[42]},{data:=#[47]},{data:=#[37]}] (by simp) hs hW (H.app [c6])
 have eo:List.map ByteArray.toList [{data:=#[42]},{data:=#[47]},{data:=#[37]}]=Xq:=by
  simp only[Qyy,QyC,Lib.toList_data];rfl
 rw[eo,QP H]at cc
 simp only[strs,Qyy,QyC]at cc
 have f1:=QE h P
 have f3:=XF h P
 have f5:=Q8 h P
 refine Qgh H 1 ?_
 cases hr:XB g Xq s with
 |err p e =>
  rw[hr]at cc
  replace cc:=Qtw H cc
  refine Qc Tryz.func166 rfl Tryz.call166 Tryz.ntmps166 Tryz.results166 (by simp) ?_
  repeat (first|refine FunW.panE (FunW.call cc) fun r=>?_|refine Qa ?_);simp only[go_sem,seval,f1]
  exact QG H s r p e _ ⟨rfl,_,rfl⟩
 |ok t s2 =>
  rw[hr]at cc
  replace cc:=QvT H cc (k:=h.length+1) rfl
  have e1:=T.Qxx (h.length+1) t
  have e2:=T.Qxy (h.length+1) t
  refine Qc Tryz.func166 rfl Tryz.call166 Tryz.ntmps166 Tryz.results166 (by simp) ?_
  repeat (first|refine FunW.Qxr cc ?_|refine Qa ?_);simp only[go_sem,seval,f1,f3,f5,e1,e2,QF]
  exact .inr ⟨rfl,_,rfl,At.tail (At.all _)⟩
theorem QtS(HR:TRd P 166 g Nn):TRd P 143 (XB g Yr) Nn:=by
 intro s hs hW h H
 have cc:=Qiq hEat hKp hN HR [{data:=#[43]},{data:=#[45]}] (by simp) hs hW (H.app [c6])
 have eo:List.map ByteArray.toList [{data:=#[43]},{data:=#[45]}]=Yr:=by
  simp only[Qyy,QyC,Lib.toList_data];rfl
 rw[eo,QP H]at cc
 simp only[strs,Qyy,QyC]at cc
 have f1:=QE h P
 have f3:=XF h P
 have f5:=Q8 h P
 refine Qgh H 1 ?_
 cases hr:XB g Yr s with
 |err p e =>
  rw[hr]at cc
  replace cc:=Qtw H cc
  refine Qc Tryz.func143 rfl Tryz.call143 Tryz.ntmps143 Tryz.results143 (by simp) ?_
  repeat (first|refine FunW.panE (FunW.call cc) fun r=>?_|refine Qa ?_);simp only[go_sem,seval,f1]
  exact QG H s r p e _ ⟨rfl,_,rfl⟩
 |ok t s2 =>
  rw[hr]at cc
  replace cc:=QvT H cc (k:=h.length+1) rfl
  have e1:=T.Qxx (h.length+1) t
  have e2:=T.Qxy (h.length+1) t
  refine Qc Tryz.func143 rfl Tryz.call143 Tryz.ntmps143 Tryz.results143 (by simp) ?_
  repeat (first|refine FunW.Qxr cc ?_|refine Qa ?_);simp only[go_sem,seval,f1,f3,f5,e1,e2,QF]
  exact .inr ⟨rfl,_,rfl,At.tail (At.all _)⟩
end
end Go.Proofs.YtenheconhibonaaGreatDoor.Ab
namespace Go.Proofs.YtenheconhibonaaGreatDoor.Ab
open Go.Proofs
def GQ(h:AH)(P:Pz):PR G->AOut->AH->Prop
 | .ok a s,o,h'=>o = .ret (.agg [.v (.string a.name),lsl h.length a.args])/\h'=ph h P s++layA 69 h.length a.args
 | .err p e,o,h'=>o = .panic (Fl p e)/\∃s,h'=ph h P s
def GC(g:Nat)(h:AH)(P:Pz):PR G->AOut->AH->Prop
 | .ok a s,o,h'=>o = .ret (.agg [.v (.string a.name),lsl (h.length+g) a.args])/\∃N,h'=ph h P s++N/\At N g (layA 69 (h.length+g) a.args)
 | .err p e,o,h'=>o = .panic (Fl p e)/\∃s,h'=ph h P s
theorem Qng{P:Pz}{f:FuncId}{args:List AV}{h:AH}{s:PS}(H:P.ok h)(g:Nat){r:PR G}(C:Qp Tryz.prog f args (ph h P s) (GC g h P r)):Qp Tryz.prog f args (ph h P s) (GQ h P r):=by
 refine QbT C fun hb0 o h' hQ=>?_
 cases r with
 |err p e=>exact .inl hQ
 |ok t s2 =>
  obtain⟨rfl,N,rfl,hN⟩:=hQ
  rw[QE]at hb0 ⊢
  have hb:∀b∈ph h P s2,b.Below h.length:=fun b hb=>by
   obtain⟨k,hk⟩:=Qab hb
   rcases Qdp H (s0:=s) hk with h1|h1
   ·exact hb0 k b h1
   ·exact h1
  obtain⟨K,hk⟩:=QsB (QE h P s2) hb g t.args hN
  refine .inr ⟨_,.agg [.v (.string t.name),lsl h.length t.args],_,_,rfl,K,.agg rfl fun j a a' h1 h2=>?_,rfl,rfl⟩
  match j,h1,h2 with
  |0,h1,h2=>cases h1;cases h2;exact .keep (.v _)
  |1,h1,h2=>cases h1;cases h2;exact hk
  |j+2,h1,h2=>simp at h1
section
variable{P:Pz}{s:PS}(hW:Wst P.all s){h:AH}(H:P.ok h)(hN:P.all.length<=1000000)(L:AH)
include hW H hN
theorem QmE{x:ByteArray}{s1:PS}(e:QaM s = .ok x s1):Qp Tryz.prog 115 [.ptr P.i 0 0] (ph h P s++L) fun o h'=>o = .ret (.v (.string x))/\h'=ph h P s1++L:=by
 have:=Qli hW (H.app L) hN
 rw[e,QP H]at this
 exact this.mono fun o h' q=>by simpa only[QP H]using q
theorem QjM{p c:Int}(e:QaM s = .err p c):Qp Tryz.prog 115 [.ptr P.i 0 0] (ph h P s++L) fun o h'=>o = .panic (Fl p c)/\∃s1:PS,h'=ph h P s1++L:=by
 have:=Qli hW (H.app L) hN
 rw[e,QP H]at this
 exact this.mono fun o h' q=>by simpa only[QP H]using q
theorem QaE(b:ByteArray)(hb:s.is b.toList=true):Qp Tryz.prog 110 [.ptr P.i 0 0,.v (.string b)] (ph h P s++L) fun o h'=>o = .ret (.b true)/\h'=ph h P s.nx++L:=by
 have:=Qj9 hW (H.app L) hN b hb
 simpa only[QP H]using this
theorem Qbh(b:ByteArray)(hb:s.is b.toList=false):Qp Tryz.prog 110 [.ptr P.i 0 0,.v (.string b)] (ph h P s++L) fun o h'=>o = .ret (.b false)/\h'=ph h P s++L:=by
 have:=QmP hW (H.app L) hN b hb
 simpa only[QP H]using this
theorem X3(b:ByteArray)(hb:s.is b.toList=true):Qp Tryz.prog 116 [.ptr P.i 0 0,.v (.string b)] (ph h P s++L) fun o h'=>o = .ret (.tup [])/\h'=ph h P s.nx++L:=by
 have:=Qoi hW (H.app L) hN b hb
 simpa only[QP H]using this
theorem Yw(b:ByteArray)(hb:s.is b.toList=false):Qp Tryz.prog 116 [.ptr P.i 0 0,.v (.string b)] (ph h P s++L) fun o h'=>o = .panic (Fl s.tk.pos 16)/\h'=ph h P s++L:=by
 have:=Qp1 hW (H.app L) hN b hb
 simpa only[QP H]using this
end
theorem tl(l:List UInt8):(ByteArray.mk l.toArray).toList=l:=by rw[Lib.toList_data]
end Go.Proofs.YtenheconhibonaaGreatDoor.Ab
namespace Go.Proofs.YtenheconhibonaaGreatDoor.Ab
open Go.Proofs
abbrev QgM{a:List AV}{h:AH}{Q:AOut->AH->Prop}:=@Qc Tryz.prog 148 _ _ a h Q Tryz.func148 rfl Tryz.call148 _ Tryz.ntmps148 _ Tryz.results148
abbrev cA0:AB:=.cells 66 2 [.agg [.v (.string {data:=#[]}),.v (.slice none 0 0)]]
def avl(n d:Nat)(l:List T):AV:=if l.isEmpty then .sl 4 [] (some d)else .arr (n+szs l - 1) 0 l.length
section
variable{P:Pz}{ex:PS->PR T}{Nn:Nat}(HR:TRd P 143 ex Nn)(hEat:Eat 0 ex)(hKp:Kp.Ps (wdOf P.all) ex){s:PS}(hs:s.toks.length<Nn+1)(hW:Wst P.all s){h:AH}(H:P.ok h)(hN:P.all.length<=1000000)
include HR hEat hKp hs hW H hN
theorem Qm3:Qp Tryz.prog 148 [.ptr P.i 0 0] (ph h P s) (GC 3 h P (Zq ex s)):=by
 have f1:=QE h P
 have f3:=XF h P
 have f4:=Yp h P
 have f5:=Q8 h P
 have f6:=XR h P
 rw[Zq]
 have hi:=ph_i H s
 simp only[pB]at hi
 cases hn:QaM s with
 |err p e =>
  have cn:=fun L=>QjM hW H hN L hn
  refine QgM (by simp) ?_
  with_reducible repeat first|(first|refine Qd fun K E hK hE=>?_|refine FunW.panE (FunW.call (cn _)) fun r=>?_);simp only[go_sem,seval,f1,hi]|refine hK _ ?_;clear hK|refine hE _ _ ?_
  exact QG H s r p e _ ⟨rfl,_,rfl⟩
 |ok x s1 =>
  have cn:=fun L=>QmE hW H hN L hn
  have hW1:Wst P.all s1:=Kp.Ps.ok (n:=wdOf P.all) (Kp.name_ps trivial) hW hn
  have hl1:=(Qex s hW.wf x s1 hn).2
  have hi1:=ph_i H s1
  simp only[pB]at hi1
  show Qp _ _ _ _ (GC 3 h P (if s1.is sLp=true then(ZV ex s1.toks.length [] s1.nx).bind fun l s=>PR.ok (⟨0,x,l⟩:G) s else PR.ok ⟨0,x,[]⟩ s1))
  cases hp:s1.is sLp with
  |false =>
   have cs:=fun L=>Qbh hW1 H hN L {data:=#[40]} (by rw[Lib.toList_data];exact hp)
   rw[Qzf (by simp)]
   refine QgM (by simp) ?_
   with_reducible repeat first|(first|refine Qd fun K E hK hE=>?_|refine FunW.Qxr (cn _) ?_|refine FunW.Qxr (cs _) ?_);simp only[go_sem,seval,f1,f3,f4,f5,f6,hi,hi1]|refine QN fun K hK=>?_|refine YH ?_|refine Qd5 ?_|refine hK _ ?_;clear hK|refine Qw rfl ?_;simp only[↓reduceIte]
   simp only[go_sem,seval,f3]
   refine .inr ⟨rfl,_,rfl,?_⟩
   exact fun j b hb=>by simp[layA,lays]at hb
  |true =>
   have cs:=fun L=>QaE hW1 H hN L {data:=#[40]} (by rw[Lib.toList_data];exact hp)
   have hk1:=PS.Qxv hp
   have hln1:=XX hW1.wf hk1
   have hWn1:=hW1.nx
   have hi2:=ph_i H s1.nx
   simp only[pB]at hi2
   rw[Qzh rfl]
   generalize hR:((ZV ex s1.toks.length [] s1.nx).bind fun l s=>PR.ok (⟨0,x,l⟩:G) s)=R
   refine QgM (by simp) ?_
   with_reducible repeat first|(first|refine Qd fun K E hK hE=>?_|refine FunW.Qxr (cn _) ?_|refine FunW.Qxr (cs _) ?_);simp only[go_sem,seval,f1,f4,f6,hi,hi1]|refine QN fun K hK=>?_|refine QA ?_|refine Xu ?_|refine Qk ?_|refine hK _ ?_;clear hK|refine Qw rfl ?_;simp only[↓reduceIte,Qyn]
   refine ZH (h.length+1) 66 2 4 .dead (.inl rfl) [.agg [.v (.string x),.v (.slice none 0 0)]] [.agg [.v (.string x),.sl 4 [] (some (h.length+2))]] 1 (by rw[f4];rfl) rfl (by rw[Qza,QE];rfl) (by simp[AV.cells]) ?_
   rw[Qze,f6]
   obtain⟨I,hI⟩:∃I:Nat->AS->Prop,I=fun m' s=>∃(l:List T) (s2:PS),m'=s2.toks.length/\s2.toks.length<Nn/\Wst P.all s2/\l.length+s2.toks.length<=P.all.length+1/\(∃k,s2.toks.length<=k/\((ZV ex k l s2).bind fun l s=>PR.ok (⟨0,x,l⟩:G) s)=R)/\s.tm 0 = .ptr P.i 0 0/\s.tm 2 = .ptr h.length 0 0/\s.tm 3 = .ptr (h.length+1) 0 0 /\
    s.h=ph h P s2++(cA0 :: .cells 66 2 [.agg [.v (.string x),avl (h.length+3) (h.length+2) l]] :: .dead::layA 69 (h.length+3) l):=⟨_,rfl⟩;refine Qv I ?_ (m:=s1.nx.toks.length) ?_
   ·intro m' s hs;rw[hI]at hs;obtain⟨tm,hp⟩:=s;dsimp only at hs;obtain⟨l,s2,rfl,hl2,hW2,hbd,⟨k,hk,hR2⟩,t0,t2,t3,rfl⟩:=hs
    have hlk:1<=s2.toks.length:=by
     have:=Qs2 hW2.wf
     cases hq:s2.toks with
     |nil=>exact absurd hq this
     |cons _ _=>simp
    have hk1:k=k - 1+1:=by omega
    cases hop:ex s2 with
    |err p e =>
     have hRR:R = .err p e:=by
      rw[<-hR2,hk1,ZV,hop];rfl
     subst hRR
     have c2:=TRd.err HR hl2 hW2 H hop (cA0 :: .cells 66 2 [.agg [.v (.string x),avl (h.length+3) (h.length+2) l]] :: .dead::layA 69 (h.length+3) l)
     with_reducible repeat first|refine QN fun K hK=>?_|refine QA ?_
     refine Q2 3 [(0,0),(1,0),(2,1)] mixed rfl rfl rfl (by kernel_rfl) (fun v h'=>v=Fl p e/\∃x2:PS,h'=ph h P x2++(cA0 :: .cells 66 2 [.agg [.v (.string x),avl (h.length+3) (h.length+2) l]] :: .dead::layA 69 (h.length+3) l)) ?_ ?_
     ·rintro tm v h' ⟨rfl,x2,rfl⟩
      exact QG H s x2 p e _ ⟨rfl,_,rfl⟩
     ·simp only[go_sem,seval,t0,t3,f4]
      exact fun _=>(FunW.call c2).mono (by rintro _ _ ⟨rfl,x,rfl⟩;exact⟨_,rfl,rfl,x,rfl⟩)
    |ok u s3 =>
     have hW3:Wst P.all s3:=Kp.Ps.ok hKp hW2 hop
     have hl3:=(hEat s2 hW2.wf u s3 hop).2
     have hi3:=ph_i H s3
     simp only[pB]at hi3
     have hR3:(if s3.is Yb=true then(ZV ex (k - 1) (l++[u]) s3.nx).bind fun l s=>PR.ok (⟨0,x,l⟩:G) s else(XE sRp s3).bind fun _ s=>PR.ok (⟨0,x,l++[u]⟩:G) s)=R:=by
      rw[<-hR2,hk1,ZV,hop]
      simp only[PR.bind]
      split
      ·rfl
      ·cases XE sRp s3 <;> rfl
     with_reducible repeat first|refine QN fun K hK=>?_|refine QA ?_
     have fin:∀tm':Nat->AV,tm' 0 = .ptr P.i 0 0->tm' 2 = .ptr h.length 0 0->tm' 3 = .ptr (h.length+1) 0 0 ->
       K ⟨tm',ph h P s3++(cA0 :: .cells 66 2 [.agg [.v (.string x),.arr (h.length+3+szs (l++[u]) - 1) 0 (l++[u]).length]] :: .dead::layA 69 (h.length+3) (l++[u]))⟩:=by
      intro tm' v0 v2 v3
      refine hK _ ?_
      cases hc:s3.is Yb with
      |true =>
       have cs:=fun L=>QaE hW3 H hN L {data:=#[44]} (by rw[Lib.toList_data];exact hc)
       rw[hc,Qzh rfl]at hR3
       have hln3:=XX hW3.wf (PS.Qxv hc)
       with_reducible repeat first|(first|refine Qd fun K E hK hE=>?_|refine FunW.Qxr (cs _) ?_);simp only[go_sem,seval,v0,hi3]|refine Xu ?_|refine Qk ?_|refine QI ?_|refine hK _ ?_;clear hK|refine Qw rfl ?_;simp only[↓reduceIte,Qyn]
       refine QZ.mk (m':=s3.nx.toks.length) (by omega) ?_
       rw[hI]
       refine⟨l++[u],s3.nx,rfl,by omega,hW3.nx,by simp;omega,⟨k - 1,by omega,hR3⟩,v0,v2,v3,?_⟩
       rw[avl,Qzf (by simp)]
      |false =>
       have cs:=fun L=>Qbh hW3 H hN L {data:=#[44]} (by rw[Lib.toList_data];exact hc)
       rw[hc,Qzf (by simp)]at hR3
       have hat:At (cA0 :: .cells 66 2 [.agg [.v (.string x),.arr (h.length+3+szs (l++[u]) - 1) 0 (l++[u]).length]] :: .dead::layA 69 (h.length+3) (l++[u])) 3 (layA 69 (h.length+3) (l++[u])):=At.tail (At.tail (At.tail (At.all _)))
       cases hr:s3.is sRp with
       |true =>
        have ce:=fun L=>X3 hW3 H hN L {data:=#[41]} (by rw[Lib.toList_data];exact hr)
        have hi4:=ph_i H s3.nx
        simp only[pB]at hi4
        have hRR:R = .ok ⟨0,x,l++[u]⟩ s3.nx:=by
         rw[<-hR3,XE,hr,Qzh rfl];rfl
        subst hRR
        with_reducible repeat first|(first|refine Qd fun K E hK hE=>?_|refine FunW.Qxr (cs _) ?_|refine FunW.Qxr (ce _) ?_);simp only[go_sem,seval,v0,v2,v3,hi3,f3,f4,f5]|refine YH ?_|refine Qah ?_|refine Qk ?_|refine ZE ?_|refine ZD ?_|refine Qcv rfl ?_|refine hK _ ?_;clear hK|clear hK;refine hK _ ?_;clear hK|refine Qw rfl ?_;simp only[↓reduceIte]
        simp only[go_sem,seval,v2,f3]
        refine .inr ⟨?_,_,rfl,?_⟩
        ·show AOut.ret _=AOut.ret (.agg [_,lsl (h.length+3) (l++[u])])
         rw[lsl,Qzf (by simp)]
        ·exact fun j b hb hl=>by
          have:=hat j b hb hl
          rw[QBi 3 j]at this ⊢
          simpa only[Qyk]using this
       |false =>
        have ce:=fun L=>Yw hW3 H hN L {data:=#[41]} (by rw[Lib.toList_data];exact hr)
        have hRR:R = .err s3.tk.pos 16:=by
         rw[<-hR3,XE,hr,Qzf (by simp)];rfl
        subst hRR
        with_reducible repeat first|(first|refine Qd fun K E hK hE=>?_|refine FunW.Qxr (cs _) ?_|refine FunW.pan (FunW.call (ce _)) ?_);simp only[go_sem,seval,v0,hi3]|refine Qah ?_|refine Qk ?_|refine ZE ?_|refine ZD ?_|refine Qcv rfl ?_|refine hK _ ?_;clear hK|clear hK;refine hK _ ?_;clear hK|refine Qw rfl ?_;simp only[↓reduceIte]|refine hE _ _ ?_
        exact QG H s s3 _ _ _ ⟨rfl,_,rfl⟩
     have e3:=T.Qxx (h.length+3+szs l) u
     have e4:=T.Qxy (h.length+3+szs l) u
     have hmx:1<=maxLen:=by decide
     have c2:=TRd.ok HR hl2 hW2 H hop (cA0 :: .cells 66 2 [.agg [.v (.string x),avl (h.length+3) (h.length+2) l]] :: .dead::layA 69 (h.length+3) l) (k:=h.length+3+szs l) (by simp only[Qyw,Yq];omega)
     cases l with
     |nil =>
      simp only[szs,QyI]at e3 e4 c2
      have ea:avl (h.length+3) (h.length+2) [] = .sl 4 [] (some (h.length+2)):=rfl
      have el:layA 69 (h.length+3) []=[]:=rfl
      simp only[ea,el]at c2 ⊢
      refine YG (.node [(2,1)] 3 0 (.leaf [(3,2),(0,0),(1,0),(4,0),(5,2),(6,0),(7,2)]) (.node [(0,0)] 3 1 (.leaf [(3,2),(1,0),(4,0),(5,2),(6,0),(7,2)]) (.leaf [(1,0),(3,2),(4,0),(5,2),(6,0),(7,2)]))) mixed (by kernel_rfl) (fun K2 hK2=>?_)
      simp only[OT.walk]
      simp only[go_sem,seval,t0,t3,f4]
      have e5:h.length+3+szs ([]++[u]) - 1=h.length+((u.lay 69 (h.length+3)).length+1+1+1):=by
       rw[T.Qxw,Zj];simp only[szs];omega
      have e6:layA 69 (h.length+3) ([]++[u])=u.lay 69 (h.length+3)++[.cells 69 4 [u.lv (h.length+3)]]:=by
       rw[Qla];simp[lays,szs,lvs]
      simp only[e5,e6]at fin
      refine⟨?_,?_⟩
      ·refine QL (FunW.call c2) Zl ?_
       simp only[go_sem,seval,t3,f1,f4,f6,e3,QF,hmx,Qze]
       refine hK2 _ (Qk (fin _ ?_ ?_ ?_)) <;> assumption
      ·refine⟨?_,?_⟩
       ·refine QL (FunW.call c2) Zl ?_
        simp only[go_sem,seval,t3,f1,f4,f6,e3,QF,hmx,Qze]
        refine hK2 _ (Qk (fin _ ?_ ?_ ?_)) <;> assumption
       ·refine QL (FunW.call c2) Zl ?_
        simp only[go_sem,seval,t3,f1,f4,f6,e3,QF,hmx,Qze]
        refine hK2 _ (Qk (fin _ ?_ ?_ ?_)) <;> assumption
     |cons a l0 =>
      have hne:a::l0≠[]:=by simp
      generalize hl1:a::l0=l1 at *
      have ea:avl (h.length+3) (h.length+2) l1 = .arr (h.length+3+szs l1 - 1) 0 l1.length:=by rw[avl,Qzf (by simpa using hne)]
      have hsp:=Qd3 hne
      have gid:h.length+3+szs l1 - 1=h.length+(szs l1 - 1+1+1+1):=by omega
      have gA:∀(c:AB) X,(ph h P s3++(cA0::c :: .dead::(layA 69 (h.length+3) l1++X)))[h.length+3+szs l1 - 1]? = some (.cells 69 4 (lvs (h.length+3) l1)):=fun c X=>by
       rw[gid,f4]
       simp only[Qyk]
       rw[Qzc (by rw[Yq];omega)]
       exact(Qk9 _ _ _ hne).1
      have sA:∀(c:AB) X,(ph h P s3++(cA0::c :: .dead::(layA 69 (h.length+3) l1++X))).set (h.length+3+szs l1 - 1) .dead=ph h P s3++(cA0::c :: .dead::(lays 69 (h.length+3) .dead l1++X)):=fun c X=>by
       rw[gid,f6]
       simp only[QyO]
       rw[Qzw _ _ (by rw[Yq];omega),(Qk9 _ _ _ hne).2]
      have hb1:l1.length+1<=maxLen:=by simp only[maxLen];omega
      have hb2:(l1.length+1) * 56<=140737488355328:=by omega
      have e5:h.length+3+szs (l1++[u]) - 1=h.length+(szs l1+((u.lay 69 (h.length+3+szs l1)).length)+1+1+1):=by
       rw[T.Qxw,Zj];simp only[szs];omega
      have e6:=Qla 69 (h.length+3) l1 u
      have e7:(l1++[u]).length=l1.length+1:=by simp
      simp only[e5,e6,e7]at fin
      have e8:=ZI 69 (h.length+3) .dead l1
      have e9:=Qao (h.length+3) l1
      simp only[ea]at c2 ⊢
      refine YG (.node [(2,1)] 3 0 (.leaf [(3,2),(0,0),(1,0),(4,0),(5,4),(6,0),(7,2)]) (.node [(0,0)] 3 1 (.leaf [(3,2),(1,0),(4,0),(5,4),(6,0),(7,2)]) (.leaf [(1,0),(3,2),(4,0),(5,4),(6,0),(7,2)]))) mixed (by kernel_rfl) (fun K2 hK2=>?_)
      simp only[OT.walk]
      simp only[go_sem,seval,t0,t3,f4]
      refine⟨?_,?_⟩
      ·refine QL (FunW.call c2) Zl ?_
       simp only[go_sem,seval,t3,f1,f4,f6,e3,gA,sA,e9,hb1,hb2,Yq,aopR,Qc9,QF,Qze]
       refine hK2 _ (Qk (fin _ ?_ ?_ ?_)) <;> assumption
      ·refine⟨?_,?_⟩
       ·refine QL (FunW.call c2) Zl ?_
        simp only[go_sem,seval,t3,f1,f4,f6,e3,gA,sA,e9,hb1,hb2,Yq,aopR,Qc9,QF,Qze]
        refine hK2 _ (Qk (fin _ ?_ ?_ ?_)) <;> assumption
       ·refine QL (FunW.call c2) Zl ?_
        simp only[go_sem,seval,t3,f1,f4,f6,e3,gA,sA,e9,hb1,hb2,Yq,aopR,Qc9,QF,Qze]
        refine hK2 _ (Qk (fin _ ?_ ?_ ?_)) <;> assumption
   ·rw[hI]
    exact⟨[],s1.nx,rfl,by omega,hWn1,by have:=hWn1.suf.length_le;simp;omega,⟨_,by omega,hR⟩,rfl,rfl,rfl,rfl⟩
end
end Go.Proofs.YtenheconhibonaaGreatDoor.Ab
namespace Go.Proofs.YtenheconhibonaaGreatDoor.Ab
open Go.Proofs
abbrev Zw{a:List AV}{h:AH}{Q:AOut->AH->Prop}:=@Qc Tryz.prog 180 _ _ a h Q Tryz.func180 rfl Tryz.call180 _ Tryz.ntmps180 _ Tryz.results180
structure TkOk (all:List Tk):Prop where
 int:∀t∈all,t.kind=3->(∀c∈t.text.toList,isD c=true)/\numVal t.text.toList<=2147483648
 pos:∀t∈all,0<=t.pos/\t.pos<=1000000
 nam:∀t∈all,t.kind=1->opB t.text=false
theorem QrB{all:List Tk}{s:PS}(hW:Wst all s):s.tk∈all:=by
 refine hW.suf.subset ?_
 cases hq:s.toks with
 |nil=>exact absurd hq (Qs2 hW.wf)
 |cons t l=>unfold PS.tk;rw[hq];simp
theorem QoD(x:ByteArray):mkB x.toList=x:=by rw[Lib.toList_data];exact Qnx x
theorem Qmp{all:List Tk}(hD:TkOk all){s:PS}(hW:Wst all s)(hk:s.tk.kind=3):Pure Tryz.prog 120 [.v (.string s.tk.text)] (.i (valT s.tk.text))/\0<=valT s.tk.text/\valT s.tk.text<=2147483648:=by
 obtain⟨h1,h2⟩:=hD.int _ (QrB hW) hk
 have:=Qlp s.tk.text.toList h1 h2
 rw[QoD]at this
 exact⟨this,by unfold valT;omega,by unfold valT;omega⟩
theorem QiO(N:AH)(g:Nat):At N g []:=fun j b hb=>by simp at hb
section
variable{P:Pz}{ex:PS->PR T}{Nn:Nat}(HR:TRd P 143 ex Nn)(hEat:Eat 0 ex)(hKp:Kp.Ps (wdOf P.all) ex)(hN:P.all.length<=1000000)(hD:TkOk P.all)
include HR hEat hKp hN hD
theorem QoK:TRd P 180 (pOpT ex) (Nn+1):=by
 intro s hs hW h H
 refine Qgh H 2 ?_
 have f1:=QE h P
 have f3:=XF h P
 have f4:=Yp h P
 have f5:=Q8 h P
 have f6:=XR h P
 have hi:=ph_i H s
 have hin:=ph_i H s.nx
 simp only[pB]at hi hin
 have cn:=nextL hW (Yg H s)
 have ct:=fun L=>Xo hW (H.app L) hN
 simp only[QP H]at ct
 have e1:=Tk.Qxs s.tk
 have e2:=Tk.Qxt s.tk
 unfold pOpT
 by_cases h3:s.tk.kind=3
 ·rw[Qzh h3]
  have z1:(s.tk.kind==3)=true:=by simpa using h3
  obtain⟨cv,_,_⟩:=Qmp hD hW h3
  have ci:=Qnk (valT s.tk.text)
  refine Zw (by simp) ?_
  repeat (first|refine FunW.Qxr (cn _) ?_|refine FunW.Qxr (ct _) ?_|refine Qe cv ?_|refine Qe ci ?_|refine Qa ?_);simp only[go_sem,seval,f1,f3,f4,f5,f6,hi,e1,e2,z1]
  exact .inr ⟨rfl,_,rfl,QiO _ _⟩
 ·rw[Qzf h3]
  have z3:(s.tk.kind==3)=false:=by simpa using h3
  by_cases h2:s.tk.kind=2
  ·rw[Qzh h2]
   have z2:(s.tk.kind==2)=true:=by simpa using h2
   have cv:=fun L=>Qkj hW.nx (H.app L) hN s.tk.text
   simp only[QP H]at cv
   obtain⟨hv1,hv2⟩:=QuJ (h.length+2) s.tk.text s.nx
   refine Zw (by simp) ?_
   repeat (first|refine FunW.Qxr (cn _) ?_|refine FunW.Qxr (ct _) ?_|refine FunW.Qxr (cv _) ?_|refine Qa ?_);simp only[go_sem,seval,f1,f3,f4,f5,f6,hi,e1,e2,z3,z2]
   refine .inr ⟨by rw[hv1],_,rfl,?_⟩
   rw[T.QxF,hv2]
   exact QiO _ _
  ·rw[Qzf h2]
   have z2:(s.tk.kind==2)=false:=by simpa using h2
   by_cases h1:s.tk.kind=1
   ·rw[Qzh h1]
    have z1:(s.tk.kind==1)=true:=by simpa using h1
    have ca:=fun L=>Qng (H.app L) 3 (Qm3 HR hEat hKp hs hW (H.app L) hN)
    cases hr:Zq ex s with
    |err p e =>
     rw[hr]at ca
     have ca':∀L,Qp Tryz.prog 148 [.ptr P.i 0 0] (ph h P s++L) fun o h'=>o = .panic (Fl p e)/\∃s1:PS,h'=ph h P s1++L:=fun L=>by
      have:=ca L
      rw[QP H]at this
      exact this.mono fun o h' q=>by simpa only[GQ,QP H]using q
     refine Zw (by simp) ?_
     repeat (first|refine FunW.Qxr (cn _) ?_|refine FunW.panE (FunW.call (ca' _)) fun r=>?_|refine Qa ?_);simp only[go_sem,seval,f1,f4,f6,hi,e1,e2,z3,z2,z1]
     exact QG H s r p e _ ⟨rfl,_,rfl⟩
    |ok a s1 =>
     rw[hr]at ca
     have ca':∀(c d:AB),Qp Tryz.prog 148 [.ptr P.i 0 0] (ph h P s++[c,d]) fun o h'=>o = .ret (.agg [.v (.string a.name),lsl (h.length+2) a.args])/\h'=ph h P s1++(c::d::layA 69 (h.length+2) a.args):=fun c d=>by
      have:=ca [c,d]
      rw[QP H]at this
      exact this.mono fun o h' q=>by simpa only[GQ,QP H,Qza,Qyw,Qyx,Qze,QyL,QyK]using q
     have e5:=Qhi (h.length+2) a.args
     have e6:=Qhj (h.length+2) a.args
     have hat:∀(c d:AB) X,At (c::d::(layA 69 (h.length+2) a.args++X)) 2 (layA 69 (h.length+2) a.args):=fun c d X=>At.mid [c,d] _ _ rfl
     refine Zw (by simp) ?_
     repeat (first|refine FunW.Qxr (cn _) ?_|refine FunW.Qxr (ca' _ _) ?_|refine Qa ?_);simp only[go_sem,seval,f1,f3,f4,f5,f6,hi,e1,e2,z3,z2,z1,e5,QF]
     exact .inr ⟨rfl,_,rfl,hat _ _ _⟩
   ·rw[Qzf h1]
    have z1:(s.tk.kind==1)=false:=by simpa using h1
    cases hm:s.is QhF with
    |true =>
     rw[Qzh rfl]
     have cs:=fun L=>QaE hW H hN L {data:=#[45]} (by rw[Lib.toList_data];exact hm)
     have hWn:=hW.nx
     have cn2:=nextL hWn (Yg H s.nx)
     have e3:=Tk.Qxs s.nx.tk
     have e4:=Tk.Qxt s.nx.tk
     have hp:=hD.pos _ (QrB hW)
     have w1:IntKind.i64.wrap (s.tk.pos+1)=s.tk.pos+1:=Xk (by omega)
     have bad:(s.nx.tk.kind≠3\/s.nx.tk.pos≠s.tk.pos+1)->Qp Tryz.prog 180 [.ptr P.i 0 0] (ph h P s) (CQ 2 h P (.err s.nx.tk.pos 16)):=fun hb=>by
      have cf:=Za s.nx.tk 16
      by_cases hk:s.nx.tk.kind=3
      ·have y1:(s.nx.tk.kind != 3)=false:=by simpa using hk
       have y2:(s.nx.tk.pos != s.tk.pos+1)=true:=by simpa using hb.resolve_left (fun q=>q hk)
       refine Zw (by simp) ?_
       repeat (first|refine FunW.Qxr (cn _) ?_|refine FunW.Qxr (cs _) ?_|refine FunW.Qxr (cn2 _) ?_|refine Qa ?_);simp only[go_sem,seval,f1,f4,f6,hi,hin,e1,e2,e3,e4,z3,z2,z1,y1,y2,w1]
       refine Q2 4 [(0,1),(1,0),(2,0),(3,0)] mixed rfl rfl rfl (by kernel_rfl) (fun v h'=>v=Fl s.nx.tk.pos 16/\∃L,h'=ph h P s.nx++L) ?_ ?_
       ·rintro tm v h' ⟨rfl,L,rfl⟩
        exact QG H s s.nx _ _ _ ⟨rfl,_,rfl⟩
       ·simp only[go_sem,seval,f4,hin,e3,e4]
        exact fun _=>(FunW.call (cf _ _)).mono (by rintro _ _ ⟨rfl,rfl⟩;exact⟨_,rfl,rfl,_,rfl⟩)
      ·have y1:(s.nx.tk.kind != 3)=true:=by simpa using hk
       refine Zw (by simp) ?_
       repeat (first|refine FunW.Qxr (cn _) ?_|refine FunW.Qxr (cs _) ?_|refine FunW.Qxr (cn2 _) ?_|refine Qa ?_);simp only[go_sem,seval,f1,f4,f6,hi,hin,e1,e2,e3,e4,z3,z2,z1,y1]
       refine Q2 4 [(0,1),(1,0),(2,0),(3,0)] mixed rfl rfl rfl (by kernel_rfl) (fun v h'=>v=Fl s.nx.tk.pos 16/\∃L,h'=ph h P s.nx++L) ?_ ?_
       ·rintro tm v h' ⟨rfl,L,rfl⟩
        exact QG H s s.nx _ _ _ ⟨rfl,_,rfl⟩
       ·simp only[go_sem,seval,f4,hin,e3,e4]
        exact fun _=>(FunW.call (cf _ _)).mono (by rintro _ _ ⟨rfl,rfl⟩;exact⟨_,rfl,rfl,_,rfl⟩)
     by_cases hb:s.nx.tk.kind≠3\/s.nx.tk.pos≠s.tk.pos+1
     ·rw[Qzh hb];exact bad hb
     ·rw[Qzf hb]
      have hk:s.nx.tk.kind=3:=Classical.byContradiction fun q=>hb (.inl q)
      have hq:s.nx.tk.pos=s.tk.pos+1:=Classical.byContradiction fun q=>hb (.inr q)
      have y1:(s.nx.tk.kind != 3)=false:=by simpa using hk
      have y2:(s.nx.tk.pos != s.tk.pos+1)=false:=by simpa using hq
      obtain⟨cv,v1,v2⟩:=Qmp hD hWn hk
      have ci:=Qnk (-valT s.nx.tk.text)
      have w2:IntKind.i64.wrap (0 - valT s.nx.tk.text) = -valT s.nx.tk.text:=by rw[Xk (by omega)];omega
      have ct2:=fun L=>Xo hWn (H.app L) hN
      simp only[QP H]at ct2
      refine Zw (by simp) ?_
      repeat (first|refine FunW.Qxr (cn _) ?_|refine FunW.Qxr (cs _) ?_|refine FunW.Qxr (cn2 _) ?_|refine FunW.Qxr (ct2 _) ?_|refine Qe cv ?_|refine Qe ci ?_|refine Qa ?_);simp only[go_sem,seval,f1,f3,f4,f5,f6,hi,hin,e1,e2,e3,e4,z3,z2,z1,y1,y2,w1,w2]
      exact .inr ⟨rfl,_,rfl,QiO _ _⟩
    |false =>
     rw[Qzf (by simp)]
     have cs:=fun L=>Qbh hW H hN L {data:=#[45]} (by rw[Lib.toList_data];exact hm)
     cases hl:s.is sLp with
     |false =>
      rw[Qzf (by simp)]
      have ce:=fun L=>Yw hW H hN L {data:=#[40]} (by rw[Lib.toList_data];exact hl)
      refine Zw (by simp) ?_
      repeat (first|refine FunW.Qxr (cn _) ?_|refine FunW.Qxr (cs _) ?_|refine FunW.pan (FunW.call (ce _)) ?_|refine Qa ?_);simp only[go_sem,seval,f1,f4,f6,hi,e1,e2,z3,z2,z1]
      exact QG H s s _ _ _ ⟨rfl,_,rfl⟩
     |true =>
      rw[Qzh rfl]
      have ce:=fun L=>X3 hW H hN L {data:=#[40]} (by rw[Lib.toList_data];exact hl)
      have hWn:=hW.nx
      have hln:=XX hW.wf (PS.Qxv hl)
      cases hr:ex s.nx with
      |err p e =>
       have cx:=fun L=>TRd.err HR (s:=s.nx) (by omega) hWn H hr L
       refine Zw (by simp) ?_
       repeat (first|refine FunW.Qxr (cn _) ?_|refine FunW.Qxr (cs _) ?_|refine FunW.Qxr (ce _) ?_|refine FunW.panE (FunW.call (cx _)) fun r=>?_|refine Qa ?_);simp only[go_sem,seval,f1,f4,f6,hi,e1,e2,z3,z2,z1]
       exact QG H s r _ _ _ ⟨rfl,_,rfl⟩
      |ok t s1 =>
       have cx:=fun(c d:AB)=>TRd.ok HR (s:=s.nx) (by omega) hWn H hr [c,d] (k:=h.length+2) rfl
       simp only[QyL,QyK]at cx
       have hW1:Wst P.all s1:=Kp.Ps.ok hKp hWn hr
       have hi1:=ph_i H s1
       simp only[pB]at hi1
       have e5:=T.Qxx (h.length+2) t
       have e6:=T.Qxy (h.length+2) t
       have hat:∀(c d:AB) X,At (c::d::(t.lay 69 (h.length+2)++X)) 2 (t.lay 69 (h.length+2)):=fun c d X=>At.mid [c,d] _ _ rfl
       simp only[PR.bind,XE]
       cases hp2:s1.is sRp with
       |false =>
        rw[Qzf (by simp)]
        have ce2:=fun L=>Yw hW1 H hN L {data:=#[41]} (by rw[Lib.toList_data];exact hp2)
        refine Zw (by simp) ?_
        repeat (first|refine FunW.Qxr (cn _) ?_|refine FunW.Qxr (cs _) ?_|refine FunW.Qxr (ce _) ?_|refine FunW.Qxr (cx _ _) ?_|refine FunW.pan (FunW.call (ce2 _)) ?_|refine Qa ?_);simp only[go_sem,seval,f1,f4,f6,hi,hi1,e1,e2,e5,e6,QF,z3,z2,z1]
        exact QG H s s1 _ _ _ ⟨rfl,_,rfl⟩
       |true =>
        rw[Qzh rfl]
        have ce2:=fun L=>X3 hW1 H hN L {data:=#[41]} (by rw[Lib.toList_data];exact hp2)
        refine Zw (by simp) ?_
        repeat (first|refine FunW.Qxr (cn _) ?_|refine FunW.Qxr (cs _) ?_|refine FunW.Qxr (ce _) ?_|refine FunW.Qxr (cx _ _) ?_|refine FunW.Qxr (ce2 _) ?_|refine Qa ?_);simp only[go_sem,seval,f1,f3,f4,f5,f6,hi,hi1,e1,e2,e5,e6,QF,z3,z2,z1]
        exact .inr ⟨rfl,_,rfl,hat _ _ _⟩
end
end Go.Proofs.YtenheconhibonaaGreatDoor.Ab
namespace Go.Proofs.YtenheconhibonaaGreatDoor.Ab
open Go.Proofs
theorem TRd.congr{P:Pz}{f:FuncId}{g g':PS->PR T}{N:Nat}(HR:TRd P f g N)(he:∀s:PS,Wst P.all s->s.toks.length<N->g s=g' s):TRd P f g' N:=fun s hs hW h H=>by rw[<-he s hW hs];exact HR s hs hW h H
section
variable{P:Pz}(hN:P.all.length<=1000000)(hD:TkOk P.all)
include hN hD
theorem Qna:∀N:Nat,TRd P 143 (Ys N) N
 |0=>fun s hs=>absurd hs (Nat.not_lt_zero _)
 |N+1=>by
  have h0:=Qna N
  have hE0:Eat 0 (Ys N):=(QcK N).less (by omega)
  have hK0:Kp.Ps (wdOf P.all) (Ys N):=Kp.exprT_ps trivial N
  have h1:=QoK h0 hE0 hK0 hN hD
  have hE1:Eat 0 (pOpT (Ys N)):=(Qhx hE0).less (by omega)
  have hK1:Kp.Ps (wdOf P.all) (pOpT (Ys N)):=Kp.opT_ps trivial hK0
  have h2:=QoO hE1 hK1 hN h1
  have hE2:Eat 0 (XB (pOpT (Ys N)) Xq):=QbU hE1 Xq
  have hK2:Kp.Ps (wdOf P.all) (XB (pOpT (Ys N)) Xq):=Kp.chain_ps trivial hK1 Xq
  exact QtS hE2 hK2 hN h2
theorem Qke:TRd P 143 XD 1000001 :=
 (Qna hN hD 1000001).congr fun s hW hs=>Qfl hW.wf hs
theorem QkB{s:PS}(hW:Wst P.all s){h:AH}(H:P.ok h):Qp Tryz.prog 148 [.ptr P.i 0 0] (ph h P s) (GQ h P (Zq XD s)) :=
 Qng H 3 (Qm3 (Qke hN hD) (QaF.less (by omega)) (Kp.termT_ps trivial) (by have:=hW.suf.length_le;omega) hW H hN)
end
end Go.Proofs.YtenheconhibonaaGreatDoor.Ab
namespace Go.Proofs.YtenheconhibonaaGreatDoor.Ab
open Go.Proofs
abbrev YI{a:List AV}{h:AH}{Q:AOut->AH->Prop}:=@Qc Tryz.prog 144 _ _ a h Q Tryz.func144 rfl Tryz.call144 _ Tryz.ntmps144 _ Tryz.results144
def MQ(h:AH)(P:Pz)(s:PS):Option (Int×Bool)->AOut->AH->Prop
 |some (op,sw),o,h'=>o = .ret (.tup [.i op,.b sw,.b true])/\h'=ph h P s.nx
 |none,o,h'=>o = .ret (.tup [.i 0,.b false,.b false])/\h'=ph h P s
section
variable{P:Pz}{s:PS}(hW:Wst P.all s){h:AH}(H:P.ok h)(hN:P.all.length<=1000000)
include hW H hN
omit hW H hN in
theorem Yl(n:Nat)(a:Int)(b c:Bool):Below n (.tup [.i a,.b b,.b c]):=.tup _ fun x hx=>by
 simp only[Qzn,Qzz,QAf]at hx
 rcases hx with rfl|rfl|rfl <;> exact .v _
theorem Qu4(hk:s.tk.kind=1)(hx:s.tk.text.toList=[105,115]):Qp Tryz.prog 144 [.ptr P.i 0 0] (ph h P s) (MQ h P s (some (4,false))):=by
 have f1:=QE h P
 have f3:=XF h P
 have f4:=Yp h P
 have f5:=Q8 h P
 have f6:=XR h P
 have hi:=ph_i H s
 have hi0:=Yg H s
 have hin:=ph_i H s.nx
 simp only[pB]at hi hi0 hin
 have cn:=XU hW (Yg H s)
 have ct:=fun L=>Xo hW (H.app L) hN
 simp only[QP H]at ct
 have e1:=Tk.Qxs s.tk
 have e2:=Tk.Qxt s.tk
 have z1:(s.tk.kind==1)=true:=by simpa using hk
 have z2:(s.tk.text.toList==({data:=#[105,115]}:ByteArray).toList)=true:=by rw[hx,Lib.toList_data];rfl
 refine YI (by simp) ?_
 repeat (first|refine FunW.Qxr cn ?_|refine FunW.Qxr (ct _) ?_|refine Qa ?_);simp only[go_sem,seval,f1,f3,f5,hi,hi0,e1,e2,z1,z2]
 exact Q9 H (s:=s) (s':=s.nx) (.keep (Yl _ _ _ _)) ⟨rfl,rfl⟩
theorem Qr6(hk:s.tk.kind=1)(hx:s.tk.text.toList≠[105,115]):Qp Tryz.prog 144 [.ptr P.i 0 0] (ph h P s) (MQ h P s (none)):=by
 have f1:=QE h P
 have f3:=XF h P
 have f4:=Yp h P
 have f5:=Q8 h P
 have f6:=XR h P
 have hi:=ph_i H s
 have hi0:=Yg H s
 have hin:=ph_i H s.nx
 simp only[pB]at hi hi0 hin
 have cn:=XU hW (Yg H s)
 have ct:=fun L=>Xo hW (H.app L) hN
 simp only[QP H]at ct
 have e1:=Tk.Qxs s.tk
 have e2:=Tk.Qxt s.tk
 have z1:(s.tk.kind==1)=true:=by simpa using hk
 have z2:(s.tk.text.toList==({data:=#[105,115]}:ByteArray).toList)=false:=by rw[Lib.toList_data ({data:=#[105,115]}:ByteArray)];simpa using hx
 have z3:(s.tk.kind != 4)=true:=by rw[hk];rfl
 refine YI (by simp) ?_
 repeat (first|refine FunW.Qxr cn ?_|refine Qa ?_);simp only[go_sem,seval,f1,f3,f5,hi0,e1,e2,z1,z2,z3]
 exact Q9 H (s:=s) (s':=s) (.keep (Yl _ _ _ _)) ⟨rfl,rfl⟩
theorem QpR(hk:s.tk.kind≠1)(hk4:s.tk.kind≠4):Qp Tryz.prog 144 [.ptr P.i 0 0] (ph h P s) (MQ h P s (none)):=by
 have f1:=QE h P
 have f3:=XF h P
 have f4:=Yp h P
 have f5:=Q8 h P
 have f6:=XR h P
 have hi:=ph_i H s
 have hi0:=Yg H s
 have hin:=ph_i H s.nx
 simp only[pB]at hi hi0 hin
 have cn:=XU hW (Yg H s)
 have ct:=fun L=>Xo hW (H.app L) hN
 simp only[QP H]at ct
 have e1:=Tk.Qxs s.tk
 have e2:=Tk.Qxt s.tk
 have z1:(s.tk.kind==1)=false:=by simpa using hk
 have z3:(s.tk.kind != 4)=true:=by simpa using hk4
 refine YI (by simp) ?_
 repeat (first|refine FunW.Qxr cn ?_|refine Qa ?_);simp only[go_sem,seval,f1,f3,f5,hi0,e1,e2,z1,z3]
 exact Q9 H (s:=s) (s':=s) (.keep (Yl _ _ _ _)) ⟨rfl,rfl⟩
theorem Qwg(hk:s.tk.kind=4)(hx:s.tk.text.toList=[61]):Qp Tryz.prog 144 [.ptr P.i 0 0] (ph h P s) (MQ h P s (some (3,false))):=by
 have f1:=QE h P
 have f3:=XF h P
 have f4:=Yp h P
 have f5:=Q8 h P
 have f6:=XR h P
 have hi:=ph_i H s
 have hi0:=Yg H s
 have hin:=ph_i H s.nx
 simp only[pB]at hi hi0 hin
 have cn:=XU hW (Yg H s)
 have ct:=fun L=>Xo hW (H.app L) hN
 simp only[QP H]at ct
 have e1:=Tk.Qxs s.tk
 have e2:=Tk.Qxt s.tk
 have z1:(s.tk.kind==1)=false:=by rw[hk];rfl
 have z3:(s.tk.kind != 4)=false:=by rw[hk];rfl
 have y0:(s.tk.text.toList==({data:=#[61]}:ByteArray).toList)=true:=by rw[hx,Lib.toList_data];rfl
 refine YI (by simp) ?_
 repeat first|(first|refine FunW.Qxr cn ?_|refine FunW.Qxr (ct _) ?_|refine Qa ?_);simp only[go_sem,seval,f1,f3,f5,hi0,e1,e2,z1,z3,y0,hi,f4,f6,hin]|refine hK _ ?_;clear hK|clear hK;clear hK;refine hK _ ?_;clear hK
 exact Q9 H (s:=s) (s':=s.nx) (.keep (Yl _ _ _ _)) ⟨rfl,rfl⟩
theorem Qwh(hk:s.tk.kind=4)(hx:s.tk.text.toList=[61,61]):Qp Tryz.prog 144 [.ptr P.i 0 0] (ph h P s) (MQ h P s (some (5,false))):=by
 have f1:=QE h P
 have f3:=XF h P
 have f4:=Yp h P
 have f5:=Q8 h P
 have f6:=XR h P
 have hi:=ph_i H s
 have hi0:=Yg H s
 have hin:=ph_i H s.nx
 simp only[pB]at hi hi0 hin
 have cn:=XU hW (Yg H s)
 have ct:=fun L=>Xo hW (H.app L) hN
 simp only[QP H]at ct
 have e1:=Tk.Qxs s.tk
 have e2:=Tk.Qxt s.tk
 have z1:(s.tk.kind==1)=false:=by rw[hk];rfl
 have z3:(s.tk.kind != 4)=false:=by rw[hk];rfl
 have y0:(s.tk.text.toList==({data:=#[61]}:ByteArray).toList)=false:=by rw[hx,Lib.toList_data];rfl
 have y1:(s.tk.text.toList==({data:=#[61,61]}:ByteArray).toList)=true:=by rw[hx,Lib.toList_data];rfl
 refine YI (by simp) ?_
 repeat first|(first|refine FunW.Qxr cn ?_|refine FunW.Qxr (ct _) ?_|refine Qa ?_);simp only[go_sem,seval,f1,f3,f5,hi0,e1,e2,z1,z3,y0,y1,hi,f4,f6,hin]|refine hK _ ?_;clear hK|clear hK;clear hK;clear hK;refine hK _ ?_;clear hK
 exact Q9 H (s:=s) (s':=s.nx) (.keep (Yl _ _ _ _)) ⟨rfl,rfl⟩
theorem Qwi(hk:s.tk.kind=4)(hx:s.tk.text.toList=[92,61]):Qp Tryz.prog 144 [.ptr P.i 0 0] (ph h P s) (MQ h P s (some (6,false))):=by
 have f1:=QE h P
 have f3:=XF h P
 have f4:=Yp h P
 have f5:=Q8 h P
 have f6:=XR h P
 have hi:=ph_i H s
 have hi0:=Yg H s
 have hin:=ph_i H s.nx
 simp only[pB]at hi hi0 hin
 have cn:=XU hW (Yg H s)
 have ct:=fun L=>Xo hW (H.app L) hN
 simp only[QP H]at ct
 have e1:=Tk.Qxs s.tk
 have e2:=Tk.Qxt s.tk
 have z1:(s.tk.kind==1)=false:=by rw[hk];rfl
 have z3:(s.tk.kind != 4)=false:=by rw[hk];rfl
 have y0:(s.tk.text.toList==({data:=#[61]}:ByteArray).toList)=false:=by rw[hx,Lib.toList_data];rfl
 have y1:(s.tk.text.toList==({data:=#[61,61]}:ByteArray).toList)=false:=by rw[hx,Lib.toList_data];rfl
 have y2:(s.tk.text.toList==({data:=#[92,61]}:ByteArray).toList)=true:=by rw[hx,Lib.toList_data];rfl
 refine YI (by simp) ?_
 repeat first|(first|refine FunW.Qxr cn ?_|refine FunW.Qxr (ct _) ?_|refine Qa ?_);simp only[go_sem,seval,f1,f3,f5,hi0,e1,e2,z1,z3,y0,y1,y2,hi,f4,f6,hin]|refine hK _ ?_;clear hK
 exact Q9 H (s:=s) (s':=s.nx) (.keep (Yl _ _ _ _)) ⟨rfl,rfl⟩
theorem Qwj(hk:s.tk.kind=4)(hx:s.tk.text.toList=[62]):Qp Tryz.prog 144 [.ptr P.i 0 0] (ph h P s) (MQ h P s (some (7,true))):=by
 have f1:=QE h P
 have f3:=XF h P
 have f4:=Yp h P
 have f5:=Q8 h P
 have f6:=XR h P
 have hi:=ph_i H s
 have hi0:=Yg H s
 have hin:=ph_i H s.nx
 simp only[pB]at hi hi0 hin
 have cn:=XU hW (Yg H s)
 have ct:=fun L=>Xo hW (H.app L) hN
 simp only[QP H]at ct
 have e1:=Tk.Qxs s.tk
 have e2:=Tk.Qxt s.tk
 have z1:(s.tk.kind==1)=false:=by rw[hk];rfl
 have z3:(s.tk.kind != 4)=false:=by rw[hk];rfl
 have y0:(s.tk.text.toList==({data:=#[61]}:ByteArray).toList)=false:=by rw[hx,Lib.toList_data];rfl
 have y1:(s.tk.text.toList==({data:=#[61,61]}:ByteArray).toList)=false:=by rw[hx,Lib.toList_data];rfl
 have y2:(s.tk.text.toList==({data:=#[92,61]}:ByteArray).toList)=false:=by rw[hx,Lib.toList_data];rfl
 have y3:(s.tk.text.toList==({data:=#[62]}:ByteArray).toList)=true:=by rw[hx,Lib.toList_data];rfl
 refine YI (by simp) ?_
 repeat first|(first|refine FunW.Qxr cn ?_|refine FunW.Qxr (ct _) ?_|refine Qa ?_);simp only[go_sem,seval,f1,f3,f5,hi0,e1,e2,z1,z3,y0,y1,y2,y3,hi,f4,f6,hin]|refine hK _ ?_;clear hK
 exact Q9 H (s:=s) (s':=s.nx) (.keep (Yl _ _ _ _)) ⟨rfl,rfl⟩
theorem Qwk(hk:s.tk.kind=4)(hx:s.tk.text.toList=[60]):Qp Tryz.prog 144 [.ptr P.i 0 0] (ph h P s) (MQ h P s (some (7,false))):=by
 have f1:=QE h P
 have f3:=XF h P
 have f4:=Yp h P
 have f5:=Q8 h P
 have f6:=XR h P
 have hi:=ph_i H s
 have hi0:=Yg H s
 have hin:=ph_i H s.nx
 simp only[pB]at hi hi0 hin
 have cn:=XU hW (Yg H s)
 have ct:=fun L=>Xo hW (H.app L) hN
 simp only[QP H]at ct
 have e1:=Tk.Qxs s.tk
 have e2:=Tk.Qxt s.tk
 have z1:(s.tk.kind==1)=false:=by rw[hk];rfl
 have z3:(s.tk.kind != 4)=false:=by rw[hk];rfl
 have y0:(s.tk.text.toList==({data:=#[61]}:ByteArray).toList)=false:=by rw[hx,Lib.toList_data];rfl
 have y1:(s.tk.text.toList==({data:=#[61,61]}:ByteArray).toList)=false:=by rw[hx,Lib.toList_data];rfl
 have y2:(s.tk.text.toList==({data:=#[92,61]}:ByteArray).toList)=false:=by rw[hx,Lib.toList_data];rfl
 have y3:(s.tk.text.toList==({data:=#[62]}:ByteArray).toList)=false:=by rw[hx,Lib.toList_data];rfl
 have y4:(s.tk.text.toList==({data:=#[60]}:ByteArray).toList)=true:=by rw[hx,Lib.toList_data];rfl
 refine YI (by simp) ?_
 repeat first|(first|refine FunW.Qxr cn ?_|refine FunW.Qxr (ct _) ?_|refine Qa ?_);simp only[go_sem,seval,f1,f3,f5,hi0,e1,e2,z1,z3,y0,y1,y2,y3,y4,hi,f4,f6,hin]|refine hK _ ?_;clear hK
 exact Q9 H (s:=s) (s':=s.nx) (.keep (Yl _ _ _ _)) ⟨rfl,rfl⟩
theorem Qwl(hk:s.tk.kind=4)(hx:s.tk.text.toList=[62,61]):Qp Tryz.prog 144 [.ptr P.i 0 0] (ph h P s) (MQ h P s (some (8,true))):=by
 have f1:=QE h P
 have f3:=XF h P
 have f4:=Yp h P
 have f5:=Q8 h P
 have f6:=XR h P
 have hi:=ph_i H s
 have hi0:=Yg H s
 have hin:=ph_i H s.nx
 simp only[pB]at hi hi0 hin
 have cn:=XU hW (Yg H s)
 have ct:=fun L=>Xo hW (H.app L) hN
 simp only[QP H]at ct
 have e1:=Tk.Qxs s.tk
 have e2:=Tk.Qxt s.tk
 have z1:(s.tk.kind==1)=false:=by rw[hk];rfl
 have z3:(s.tk.kind != 4)=false:=by rw[hk];rfl
 have y0:(s.tk.text.toList==({data:=#[61]}:ByteArray).toList)=false:=by rw[hx,Lib.toList_data];rfl
 have y1:(s.tk.text.toList==({data:=#[61,61]}:ByteArray).toList)=false:=by rw[hx,Lib.toList_data];rfl
 have y2:(s.tk.text.toList==({data:=#[92,61]}:ByteArray).toList)=false:=by rw[hx,Lib.toList_data];rfl
 have y3:(s.tk.text.toList==({data:=#[62]}:ByteArray).toList)=false:=by rw[hx,Lib.toList_data];rfl
 have y4:(s.tk.text.toList==({data:=#[60]}:ByteArray).toList)=false:=by rw[hx,Lib.toList_data];rfl
 have y5:(s.tk.text.toList==({data:=#[62,61]}:ByteArray).toList)=true:=by rw[hx,Lib.toList_data];rfl
 refine YI (by simp) ?_
 repeat first|(first|refine FunW.Qxr cn ?_|refine FunW.Qxr (ct _) ?_|refine Qa ?_);simp only[go_sem,seval,f1,f3,f5,hi0,e1,e2,z1,z3,y0,y1,y2,y3,y4,y5,hi,f4,f6,hin]|refine hK _ ?_;clear hK|clear hK;clear hK;clear hK;refine hK _ ?_;clear hK
 exact Q9 H (s:=s) (s':=s.nx) (.keep (Yl _ _ _ _)) ⟨rfl,rfl⟩
theorem Qwm(hk:s.tk.kind=4)(hx:s.tk.text.toList=[61,60]):Qp Tryz.prog 144 [.ptr P.i 0 0] (ph h P s) (MQ h P s (some (8,false))):=by
 have f1:=QE h P
 have f3:=XF h P
 have f4:=Yp h P
 have f5:=Q8 h P
 have f6:=XR h P
 have hi:=ph_i H s
 have hi0:=Yg H s
 have hin:=ph_i H s.nx
 simp only[pB]at hi hi0 hin
 have cn:=XU hW (Yg H s)
 have ct:=fun L=>Xo hW (H.app L) hN
 simp only[QP H]at ct
 have e1:=Tk.Qxs s.tk
 have e2:=Tk.Qxt s.tk
 have z1:(s.tk.kind==1)=false:=by rw[hk];rfl
 have z3:(s.tk.kind != 4)=false:=by rw[hk];rfl
 have y0:(s.tk.text.toList==({data:=#[61]}:ByteArray).toList)=false:=by rw[hx,Lib.toList_data];rfl
 have y1:(s.tk.text.toList==({data:=#[61,61]}:ByteArray).toList)=false:=by rw[hx,Lib.toList_data];rfl
 have y2:(s.tk.text.toList==({data:=#[92,61]}:ByteArray).toList)=false:=by rw[hx,Lib.toList_data];rfl
 have y3:(s.tk.text.toList==({data:=#[62]}:ByteArray).toList)=false:=by rw[hx,Lib.toList_data];rfl
 have y4:(s.tk.text.toList==({data:=#[60]}:ByteArray).toList)=false:=by rw[hx,Lib.toList_data];rfl
 have y5:(s.tk.text.toList==({data:=#[62,61]}:ByteArray).toList)=false:=by rw[hx,Lib.toList_data];rfl
 have y6:(s.tk.text.toList==({data:=#[61,60]}:ByteArray).toList)=true:=by rw[hx,Lib.toList_data];rfl
 refine YI (by simp) ?_
 repeat first|(first|refine FunW.Qxr cn ?_|refine FunW.Qxr (ct _) ?_|refine Qa ?_);simp only[go_sem,seval,f1,f3,f5,hi0,e1,e2,z1,z3,y0,y1,y2,y3,y4,y5,y6,hi,f4,f6,hin]|refine hK _ ?_;clear hK|clear hK;clear hK;clear hK;refine hK _ ?_;clear hK
 exact Q9 H (s:=s) (s':=s.nx) (.keep (Yl _ _ _ _)) ⟨rfl,rfl⟩
theorem Qwn(hk:s.tk.kind=4)(hx:s.tk.text.toList=[61,58,61]):Qp Tryz.prog 144 [.ptr P.i 0 0] (ph h P s) (MQ h P s (some (9,false))):=by
 have f1:=QE h P
 have f3:=XF h P
 have f4:=Yp h P
 have f5:=Q8 h P
 have f6:=XR h P
 have hi:=ph_i H s
 have hi0:=Yg H s
 have hin:=ph_i H s.nx
 simp only[pB]at hi hi0 hin
 have cn:=XU hW (Yg H s)
 have ct:=fun L=>Xo hW (H.app L) hN
 simp only[QP H]at ct
 have e1:=Tk.Qxs s.tk
 have e2:=Tk.Qxt s.tk
 have z1:(s.tk.kind==1)=false:=by rw[hk];rfl
 have z3:(s.tk.kind != 4)=false:=by rw[hk];rfl
 have y0:(s.tk.text.toList==({data:=#[61]}:ByteArray).toList)=false:=by rw[hx,Lib.toList_data];rfl
 have y1:(s.tk.text.toList==({data:=#[61,61]}:ByteArray).toList)=false:=by rw[hx,Lib.toList_data];rfl
 have y2:(s.tk.text.toList==({data:=#[92,61]}:ByteArray).toList)=false:=by rw[hx,Lib.toList_data];rfl
 have y3:(s.tk.text.toList==({data:=#[62]}:ByteArray).toList)=false:=by rw[hx,Lib.toList_data];rfl
 have y4:(s.tk.text.toList==({data:=#[60]}:ByteArray).toList)=false:=by rw[hx,Lib.toList_data];rfl
 have y5:(s.tk.text.toList==({data:=#[62,61]}:ByteArray).toList)=false:=by rw[hx,Lib.toList_data];rfl
 have y6:(s.tk.text.toList==({data:=#[61,60]}:ByteArray).toList)=false:=by rw[hx,Lib.toList_data];rfl
 have y7:(s.tk.text.toList==({data:=#[61,58,61]}:ByteArray).toList)=true:=by rw[hx,Lib.toList_data];rfl
 refine YI (by simp) ?_
 repeat first|(first|refine FunW.Qxr cn ?_|refine FunW.Qxr (ct _) ?_|refine Qa ?_);simp only[go_sem,seval,f1,f3,f5,hi0,e1,e2,z1,z3,y0,y1,y2,y3,y4,y5,y6,y7,hi,f4,f6,hin]|refine hK _ ?_;clear hK|clear hK;clear hK;refine hK _ ?_;clear hK
 exact Q9 H (s:=s) (s':=s.nx) (.keep (Yl _ _ _ _)) ⟨rfl,rfl⟩
theorem Qwo(hk:s.tk.kind=4)(hx:s.tk.text.toList=[61,92,61]):Qp Tryz.prog 144 [.ptr P.i 0 0] (ph h P s) (MQ h P s (some (10,false))):=by
 have f1:=QE h P
 have f3:=XF h P
 have f4:=Yp h P
 have f5:=Q8 h P
 have f6:=XR h P
 have hi:=ph_i H s
 have hi0:=Yg H s
 have hin:=ph_i H s.nx
 simp only[pB]at hi hi0 hin
 have cn:=XU hW (Yg H s)
 have ct:=fun L=>Xo hW (H.app L) hN
 simp only[QP H]at ct
 have e1:=Tk.Qxs s.tk
 have e2:=Tk.Qxt s.tk
 have z1:(s.tk.kind==1)=false:=by rw[hk];rfl
 have z3:(s.tk.kind != 4)=false:=by rw[hk];rfl
 have y0:(s.tk.text.toList==({data:=#[61]}:ByteArray).toList)=false:=by rw[hx,Lib.toList_data];rfl
 have y1:(s.tk.text.toList==({data:=#[61,61]}:ByteArray).toList)=false:=by rw[hx,Lib.toList_data];rfl
 have y2:(s.tk.text.toList==({data:=#[92,61]}:ByteArray).toList)=false:=by rw[hx,Lib.toList_data];rfl
 have y3:(s.tk.text.toList==({data:=#[62]}:ByteArray).toList)=false:=by rw[hx,Lib.toList_data];rfl
 have y4:(s.tk.text.toList==({data:=#[60]}:ByteArray).toList)=false:=by rw[hx,Lib.toList_data];rfl
 have y5:(s.tk.text.toList==({data:=#[62,61]}:ByteArray).toList)=false:=by rw[hx,Lib.toList_data];rfl
 have y6:(s.tk.text.toList==({data:=#[61,60]}:ByteArray).toList)=false:=by rw[hx,Lib.toList_data];rfl
 have y7:(s.tk.text.toList==({data:=#[61,58,61]}:ByteArray).toList)=false:=by rw[hx,Lib.toList_data];rfl
 have y8:(s.tk.text.toList==({data:=#[61,92,61]}:ByteArray).toList)=true:=by rw[hx,Lib.toList_data];rfl
 refine YI (by simp) ?_
 repeat first|(first|refine FunW.Qxr cn ?_|refine FunW.Qxr (ct _) ?_|refine Qa ?_);simp only[go_sem,seval,f1,f3,f5,hi0,e1,e2,z1,z3,y0,y1,y2,y3,y4,y5,y6,y7,y8,hi,f4,f6,hin]|refine hK _ ?_;clear hK|clear hK;refine hK _ ?_;clear hK
 exact Q9 H (s:=s) (s':=s.nx) (.keep (Yl _ _ _ _)) ⟨rfl,rfl⟩
theorem Qr5(hk:s.tk.kind=4)(h0:s.tk.text.toList≠[61])(h1:s.tk.text.toList≠[61,61])(h2:s.tk.text.toList≠[92,61])(h3:s.tk.text.toList≠[62])(h4:s.tk.text.toList≠[60])(h5:s.tk.text.toList≠[62,61])(h6:s.tk.text.toList≠[61,60])(h7:s.tk.text.toList≠[61,58,61])(h8:s.tk.text.toList≠[61,92,61]):Qp Tryz.prog 144 [.ptr P.i 0 0] (ph h P s) (MQ h P s (none)):=by
 have f1:=QE h P
 have f3:=XF h P
 have f4:=Yp h P
 have f5:=Q8 h P
 have f6:=XR h P
 have hi:=ph_i H s
 have hi0:=Yg H s
 have hin:=ph_i H s.nx
 simp only[pB]at hi hi0 hin
 have cn:=XU hW (Yg H s)
 have ct:=fun L=>Xo hW (H.app L) hN
 simp only[QP H]at ct
 have e1:=Tk.Qxs s.tk
 have e2:=Tk.Qxt s.tk
 have z1:(s.tk.kind==1)=false:=by rw[hk];rfl
 have z3:(s.tk.kind != 4)=false:=by rw[hk];rfl
 have y0:(s.tk.text.toList==({data:=#[61]}:ByteArray).toList)=false:=by rw[Lib.toList_data ({data:=#[61]}:ByteArray)];simpa using h0
 have y1:(s.tk.text.toList==({data:=#[61,61]}:ByteArray).toList)=false:=by rw[Lib.toList_data ({data:=#[61,61]}:ByteArray)];simpa using h1
 have y2:(s.tk.text.toList==({data:=#[92,61]}:ByteArray).toList)=false:=by rw[Lib.toList_data ({data:=#[92,61]}:ByteArray)];simpa using h2
 have y3:(s.tk.text.toList==({data:=#[62]}:ByteArray).toList)=false:=by rw[Lib.toList_data ({data:=#[62]}:ByteArray)];simpa using h3
 have y4:(s.tk.text.toList==({data:=#[60]}:ByteArray).toList)=false:=by rw[Lib.toList_data ({data:=#[60]}:ByteArray)];simpa using h4
 have y5:(s.tk.text.toList==({data:=#[62,61]}:ByteArray).toList)=false:=by rw[Lib.toList_data ({data:=#[62,61]}:ByteArray)];simpa using h5
 have y6:(s.tk.text.toList==({data:=#[61,60]}:ByteArray).toList)=false:=by rw[Lib.toList_data ({data:=#[61,60]}:ByteArray)];simpa using h6
 have y7:(s.tk.text.toList==({data:=#[61,58,61]}:ByteArray).toList)=false:=by rw[Lib.toList_data ({data:=#[61,58,61]}:ByteArray)];simpa using h7
 have y8:(s.tk.text.toList==({data:=#[61,92,61]}:ByteArray).toList)=false:=by rw[Lib.toList_data ({data:=#[61,92,61]}:ByteArray)];simpa using h8
 refine YI (by simp) ?_
 repeat first|(first|refine FunW.Qxr cn ?_|refine Qa ?_);simp only[go_sem,seval,f1,f3,f5,hi0,e1,e2,z1,z3,y0,y1,y2,y3,y4,y5,y6,y7,y8,f4,f6,hi,hin]|refine hK _ ?_;clear hK
 exact Q9 H (s:=s) (s':=s) (.keep (Yl _ _ _ _)) ⟨rfl,rfl⟩
theorem QgE:Qp Tryz.prog 144 [.ptr P.i 0 0] (ph h P s) (MQ h P s (cmpOp s)):=by
 unfold cmpOp
 by_cases hk:s.tk.kind=1
 ·rw[Qzh hk]
  by_cases hx:s.tk.text.toList=[105,115]
  ·rw[Qzh hx];exact Qu4 hW H hN hk hx
  ·rw[Qzf hx];exact Qr6 hW H hN hk hx
 rw[Qzf hk]
 by_cases hk4:s.tk.kind=4
 case neg=>rw[Qzh hk4];exact QpR hW H hN hk hk4
 rw[Qzf (by simpa using hk4)]
 by_cases h0:s.tk.text.toList=[61]
 ·rw[Qzh h0];exact Qwg hW H hN hk4 h0
 rw[Qzf h0]
 by_cases h1:s.tk.text.toList=[61,61]
 ·rw[Qzh h1];exact Qwh hW H hN hk4 h1
 rw[Qzf h1]
 by_cases h2:s.tk.text.toList=[92,61]
 ·rw[Qzh h2];exact Qwi hW H hN hk4 h2
 rw[Qzf h2]
 by_cases h4:s.tk.text.toList=[60]
 ·rw[Qzh h4];exact Qwk hW H hN hk4 h4
 rw[Qzf h4]
 by_cases h6:s.tk.text.toList=[61,60]
 ·rw[Qzh h6];exact Qwm hW H hN hk4 h6
 rw[Qzf h6]
 by_cases h3:s.tk.text.toList=[62]
 ·rw[Qzh h3];exact Qwj hW H hN hk4 h3
 rw[Qzf h3]
 by_cases h5:s.tk.text.toList=[62,61]
 ·rw[Qzh h5];exact Qwl hW H hN hk4 h5
 rw[Qzf h5]
 by_cases h7:s.tk.text.toList=[61,58,61]
 ·rw[Qzh h7];exact Qwn hW H hN hk4 h7
 rw[Qzf h7]
 by_cases h8:s.tk.text.toList=[61,92,61]
 ·rw[Qzh h8];exact Qwo hW H hN hk4 h8
 rw[Qzf h8]
 exact Qr5 hW H hN hk4 h0 h1 h2 h3 h4 h5 h6 h7 h8
end
end Go.Proofs.YtenheconhibonaaGreatDoor.Ab
namespace Go.Proofs.YtenheconhibonaaGreatDoor.Ab
theorem Qsm(tt:TypeId)(n:Nat)(x y:T):layA tt n [x,y]=x.lay tt n++(.dead::(y.lay tt (n+x.sz+1)++[.cells tt 4 [x.lv n,y.lv (n+x.sz+1)]])):=by
 simp only[layA,lays,lvs,Qy0,QyZ,Qyn,Qz5,QAj]
def tauT(n px sx pd py sy pr:Nat):Nat->Nat:=fun i=>if i<n then i else if i<n+sx then px+(i - n)else if i=n+sx then pd else if i<n+sx+1+sy then py+(i - n - sx - 1)else pr+(i - (n+sx+1+sy))
theorem Qul{tt:TypeId}{A N:AH}{n:Nat}(hn:A.length=n)(hb:∀b∈A,b.Below n)(x y:T){px pd py pr:Nat}(h1:n<=px)(h2:n<=py)(h3:n<=pd)
  (ho:(px+x.sz<=pd/\pd<py/\py+y.sz<=pr)\/(py+y.sz<=pd/\pd<px/\px+x.sz<=pr)) (hx:At (A++N) px (x.lay tt px)) (hy:At (A++N) py (y.lay tt py)) (hr:(A++N)[pr]? = some (.cells tt 4 [x.lv px,y.lv py])) :
  Pack n (tauT n px x.sz pd py y.sz pr) (A++N) (A++layA tt n [x,y])/\Pk n (tauT n px x.sz pd py y.sz pr) (A++layA tt n [x,y]) (.arr pr 0 2) (lsl n [x,y]):=by
 have hlen:(layA tt n [x,y]).length=x.sz+1+(y.sz+1):=by rw[Yq];simp only[szs];try omega
 have hL:(A++layA tt n [x,y]).length=n+(x.sz+1+(y.sz+1)):=by rw[Qza,hlen,hn]
 have shx:Sh n (tauT n px x.sz pd py y.sz pr) (A++layA tt n [x,y]) px n x.sz:=⟨Qzl _,by omega,fun j hj=>by unfold tauT;rw[Qzf (by omega),Qzh (by omega)];omega⟩
 have shy:Sh n (tauT n px x.sz pd py y.sz pr) (A++layA tt n [x,y]) py (n+x.sz+1) y.sz:=⟨by omega,by omega,fun j hj=>by unfold tauT;rw[Qzf (by omega),Qzf (by omega),Qzf (by omega),Qzh (by omega)];omega⟩
 have cl:∀i,n<=i->i<n+(x.sz+1+(y.sz+1))->(i<n+x.sz/\tauT n px x.sz pd py y.sz pr i=px+(i - n))\/(i=n+x.sz/\tauT n px x.sz pd py y.sz pr i=pd) \/
   (n+x.sz<i/\i<n+x.sz+1+y.sz/\tauT n px x.sz pd py y.sz pr i=py+(i - n - x.sz - 1))\/(i=n+x.sz+1+y.sz/\tauT n px x.sz pd py y.sz pr i=pr):=by
  intro i hi hi2
  by_cases a1:i<n+x.sz
  ·exact .inl ⟨a1,by unfold tauT;rw[Qzf (by omega),Qzh a1]⟩
  ·by_cases a2:i=n+x.sz
   ·exact .inr (.inl ⟨a2,by unfold tauT;rw[Qzf (by omega),Qzf a1,Qzh a2]⟩)
   ·by_cases a3:i<n+x.sz+1+y.sz
    ·exact .inr (.inr (.inl ⟨by omega,a3,by unfold tauT;rw[Qzf (by omega),Qzf a1,Qzf a2,Qzh a3]⟩))
    ·refine .inr (.inr (.inr ⟨by omega,?_⟩))
     unfold tauT
     rw[Qzf (by omega),Qzf a1,Qzf a2,Qzf a3]
     omega
 have tr:tauT n px x.sz pd py y.sz pr (n+x.sz+1+y.sz)=pr:=by
  rcases cl (n+x.sz+1+y.sz) (by omega) (by omega)with h|h|h|h <;> omega
 refine⟨QnE hn hb (fun i hi=>by unfold tauT;rw[Qzh hi]) (fun i hi hi2=>?_) (fun i j hi hi2 hj hj2 he=>?_) fun j b' hj=>?_,?_⟩
 ·rcases cl i hi (by omega)with h|h|h|h <;> omega
 ·rw[hlen]at hi2 hj2
  rcases cl i hi hi2 with h|h|h|h <;> rcases cl j hj hj2 with k|k|k|k <;> omega
 ·have hjl:=Qf hj
  rw[hlen]at hjl
  rw[Qsm,QzC,T.Qxw]at hj
  split at hj
  ·rename_i hlt
   obtain⟨b,hbb⟩:∃b,(x.lay tt px)[j]? = some b:=⟨_,Qzg (by rw[T.Qxw];exact hlt)⟩
   cases hl:b.live with
   |false=>exact .inl (T.QxN x j b b' hbb hj hl)
   |true =>
    refine .inr ⟨b,?_,T.pkB x shx j b b' hbb hj⟩
    rw[shx.2.2 j hlt]
    exact hx j b hbb hl
  ·rename_i hge
   cases hk:j - x.sz with
   |zero =>
    rw[hk,Qyj]at hj
    cases hj
    exact .inl rfl
   |succ k =>
    rw[hk,Qyk,QzC,T.Qxw]at hj
    split at hj
    ·rename_i hlt
     obtain⟨b,hbb⟩:∃b,(y.lay tt py)[k]? = some b:=⟨_,Qzg (by rw[T.Qxw];exact hlt)⟩
     cases hl:b.live with
     |false=>exact .inl (T.QxN y k b b' hbb hj hl)
     |true =>
      refine .inr ⟨b,?_,T.pkB y shy k b b' hbb hj⟩
      rw[show n+j=n+x.sz+1+k by omega,shy.2.2 k hlt]
      exact hy k b hbb hl
    ·rename_i hge2
     have hk2:k=y.sz:=by omega
     subst hk2
     rw[Qz0,Qyj]at hj
     cases hj
     refine .inr ⟨_,by rw[show n+j=n+x.sz+1+y.sz by omega,tr];exact hr,.inr ⟨tt,4,_,_,rfl,rfl,?_,?_⟩⟩
     ·intro z hz
      simp only[Qzn,Qzz,QAf]at hz
      rcases hz with rfl|rfl <;> exact T.QxA _ _
     ·have:=Qp4 (R:=Pk n (tauT n px x.sz pd py y.sz pr) (A++layA tt n [x,y])) (xs:=[x.lv px,y.lv py]) (ys:=[x.lv n,y.lv (n+x.sz+1)]) rfl fun i u v hu hv=>by
       match i,hu,hv with
       |0,hu,hv=>cases hu;cases hv;exact⟨by rw[T.QxA,T.QxA],T.QxG shx⟩
       |1,hu,hv=>cases hu;cases hv;exact⟨by rw[T.QxA,T.QxA],T.QxG shy⟩
       |i+2,hu,hv=>simp at hu
      exact⟨QAT this.1,this.2⟩
 ·show Pk _ _ _ _ (.arr (n+szs [x,y] - 1) 0 2)
  have e:n+szs [x,y] - 1=n+x.sz+1+y.sz:=by simp only[szs];omega
  rw[e]
  exact .arr tr.symm (by omega) (by omega)
end Go.Proofs.YtenheconhibonaaGreatDoor.Ab
namespace Go.Proofs.YtenheconhibonaaGreatDoor.Ab
open Go.Proofs
abbrev Y9{a:List AV}{h:AH}{Q:AOut->AH->Prop}:=@Qc Tryz.prog 142 _ _ a h Q Tryz.func142 rfl Tryz.call142 _ Tryz.ntmps142 _ Tryz.results142
def gv(n:Nat)(g:G):AV:=.agg [.i g.op,.v (.string g.name),lsl n g.args]
abbrev zg:AV:=.agg [.i 0,.v (.string {data:=#[]}),.v (.slice none 0 0)]
def WC(g:Nat)(h:AH)(P:Pz):PR G->AOut->AH->Prop
 | .ok a s,o,h'=>o = .ret (.tup [gv (h.length+g) a,.b true])/\∃N,h'=ph h P s++N/\At N g (layA 69 (h.length+g) a.args)
 | .err p e,o,h'=>o = .panic (Fl p e)/\∃s,h'=ph h P s
def WQ(h:AH)(P:Pz):PR G->AOut->AH->Prop
 | .ok a s,o,h'=>o = .ret (.tup [gv h.length a,.b true])/\h'=ph h P s++layA 69 h.length a.args
 | .err p e,o,h'=>o = .panic (Fl p e)/\∃s,h'=ph h P s
theorem Qun{n:Nat}{τ:Nat->Nat}{h2:AH}{m':Nat}{g:G}{y:AV}(hy:Pk n τ h2 y (lsl m' g.args)):Pk n τ h2 (.agg [.i g.op,.v (.string g.name),y]) (gv m' g):=.agg rfl fun j a a' h1 h2=>by
 match j,h1,h2 with
 |0,h1,h2=>cases h1;cases h2;exact .keep (.v _)
 |1,h1,h2=>cases h1;cases h2;exact .keep (.v _)
 |2,h1,h2=>cases h1;cases h2;exact hy
 |j+3,h1,h2=>simp at h1
theorem Qs6{P:Pz}{f:FuncId}{args:List AV}{h:AH}{s:PS}(H:P.ok h)(g:Nat){r:PR G}(C:Qp Tryz.prog f args (ph h P s) (WC g h P r)):Qp Tryz.prog f args (ph h P s) (WQ h P r):=by
 refine QbT C fun hb0 o h' hQ=>?_
 cases r with
 |err p e=>exact .inl hQ
 |ok t s2 =>
  obtain⟨rfl,N,rfl,hN⟩:=hQ
  rw[QE]at hb0 ⊢
  have hb:∀b∈ph h P s2,b.Below h.length:=fun b hb=>by
   obtain⟨k,hk⟩:=Qab hb
   rcases Qdp H (s0:=s) hk with h1|h1
   ·exact hb0 k b h1
   ·exact h1
  obtain⟨K,hk⟩:=QsB (QE h P s2) hb g t.args hN
  refine .inr ⟨_,.tup [gv h.length t,.b true],_,_,rfl,K,.tup rfl fun j a a' h1 h2=>?_,rfl,rfl⟩
  match j,h1,h2 with
  |0,h1,h2=>cases h1;cases h2;exact Qun hk
  |1,h1,h2=>cases h1;cases h2;exact .keep (.v _)
  |j+2,h1,h2=>simp at h1
theorem QnY(n:Nat)(b:Bool):Below n (.tup [zg,.b b]):=.tup _ fun x hx=>by
 simp only[Qzn,Qzz,QAf]at hx
 rcases hx with rfl|rfl
 ·exact .agg _ fun x hx=>by
   simp only[Qzn,Qzz,QAf]at hx
   rcases hx with rfl|rfl|rfl <;> exact .v _
 ·exact .v _
section
variable{P:Pz}{s:PS}(hW:Wst P.all s){h:AH}(H:P.ok h)(hN:P.all.length<=1000000)(hD:TkOk P.all)
include hW H hN hD
theorem Qs4(hk:s.tk.kind≠1):Qp Tryz.prog 142 [.ptr P.i 0 0] (ph h P s) fun o h'=>o = .ret (.tup [zg,.b false])/\h'=ph h P s:=by
 have _hu:=hN;have _hv:=hD
 have f1:=QE h P
 have f3:=XF h P
 have f4:=Yp h P
 have f5:=Q8 h P
 have f6:=XR h P
 have hi:=ph_i H s
 simp only[pB]at hi
 have cn:=nextL hW (Yg H s)
 have e1:=Tk.Qxs s.tk
 have e2:=Tk.Qxt s.tk
 have z1:(s.tk.kind != 1)=true:=by simpa using hk
 refine Y9 (by simp) ?_
 repeat first|with_reducible (first|(first|refine Qd fun K E hK hE=>?_|refine Qs fun K E hK hE=>?_|refine FunW.Qxr (cn _) ?_);simp only[Qr,Qi,Qn,OpW,Yx,aop,undef,Qa2,QyZ,Qy0,QcA,Z5,Qa9,AS.ev,Ql,XZ,Xc,Q5,Ye,YN,Qac,XV,Yd,XA,Qba,Qz,Xm,Qyq,QyJ,AV.Qxu,QD,Zk,YB,Y7,Xe,Y5,Zn,Z4,Y6,QK,Zz,YD,Zd,YM,Zb,Zo,Z7,Zc,QyD,QyE,QU,Yv,QX,Xh,YZ,XH,XG,Xp,Xb,Y0,Xd,YX,Zm,Z3,YY,QyF,Qy2,Qy3,QyG,QyH,↓reduceIte,Qyw,Qyx,Nat.reduceAdd,Nat.reduceLT,Nat.reduceLeDiff,Nat.reduceEqDiff,Nat.reduceSub,Nat.reduceMul,Qyv,QyI,QyS,QyT,QyR,XJ,XY,Qm,Xt,Xv,Zt,XS,aBin,Qif,Qdz,QT,Qbd,XP,hget,Qaa,hset,hlen,happ,Qyj,Qyk,Qy9,QyN,QyO,Qyl,QyY,Qyo,QyX,Qyp,QyU,Qym,Qyy,QyC,QyL,QyK,QyM,Qyu,QyB,Qys,QyA,Qa5,Qap,QjY,QjZ,goInt,QyP,QyQ,Qyr,Qy4,QyW,Int.toNat_zero,Int.toNat_one,QyV,Qy7,Qy8,Qy5,Qyn,Qy1,beq_true,beq_false,rng0,rng1,rng2,rng3,rng4,rng5,rng6,rng7,rng8,Ym,Nat.reducePow,Qzy,QAs,T.Qxs,T.Qxt,Yj,Xx,ti0,zi0,ti3,zi3,un3,ti4,zi4,un4,ti9,ei9,zi9,un9,ti44,ei44,ai44,zi44,un44,ti53,QdH,Qem,QdI,zi53,sp53,ti69,Qfu,QgV,Qbe,QaZ,zi69,sp69,QuA,QuO,QuH,QuB,Qmd,Qju,Qjv,QuP,Quw,QuC,Qme,Qmf,Qmg,QuQ,Qux,Qy6,Int.sub_zero,QdR,QR,f1,f3,f4,f5,f6,hi,e1,e2,z1]|refine QN fun K hK=>?_|refine QA ?_|refine YH ?_|refine QdT ?_|refine QgD ?_|refine Xu ?_|refine Qah ?_|refine Qk ?_|refine Qd5 ?_|refine ZE ?_|refine QI ?_|refine QfJ ?_|refine ZD ?_|refine Qcv rfl ?_|refine hK _ ?_;clear hK|clear hK;refine hK _ ?_;clear hK|clear hK;clear hK;refine hK _ ?_;clear hK|clear hK;clear hK;clear hK;refine hK _ ?_;clear hK|refine Qw rfl ?_;simp only[↓reduceIte,Qyn]|refine hE _ _ ?_|refine QeT ?_|refine Qic ?_)|intro (b:Bool);cases b
 simp only[Qr,Qi,Qn,OpW,Yx,aop,undef,Qa2,QyZ,Qy0,QcA,Z5,Qa9,AS.ev,Ql,XZ,Xc,Q5,Ye,YN,Qac,XV,Yd,XA,Qba,Qz,Xm,Qyq,QyJ,AV.Qxu,QD,Zk,YB,Y7,Xe,Y5,Zn,Z4,Y6,QK,Zz,YD,Zd,YM,Zb,Zo,Z7,Zc,QyD,QyE,QU,Yv,QX,Xh,YZ,XH,XG,Xp,Xb,Y0,Xd,YX,Zm,Z3,YY,QyF,Qy2,Qy3,QyG,QyH,↓reduceIte,Qyw,Qyx,Nat.reduceAdd,Nat.reduceLT,Nat.reduceLeDiff,Nat.reduceEqDiff,Nat.reduceSub,Nat.reduceMul,Qyv,QyI,QyS,QyT,QyR,XJ,XY,Qm,Xt,Xv,Zt,XS,aBin,Qif,Qdz,QT,Qbd,XP,hget,Qaa,hset,hlen,happ,Qyj,Qyk,Qy9,QyN,QyO,Qyl,QyY,Qyo,QyX,Qyp,QyU,Qym,Qyy,QyC,QyL,QyK,QyM,Qyu,QyB,Qys,QyA,Qa5,Qap,QjY,QjZ,goInt,QyP,QyQ,Qyr,Qy4,QyW,Int.toNat_zero,Int.toNat_one,QyV,Qy7,Qy8,Qy5,Qyn,Qy1,beq_true,beq_false,rng0,rng1,rng2,rng3,rng4,rng5,rng6,rng7,rng8,Ym,Nat.reducePow,Qzy,QAs,T.Qxs,T.Qxt,Yj,Xx,ti0,zi0,ti3,zi3,un3,ti4,zi4,un4,ti9,ei9,zi9,un9,ti44,ei44,ai44,zi44,un44,ti53,QdH,Qem,QdI,zi53,sp53,ti69,Qfu,QgV,Qbe,QaZ,zi69,sp69,QuA,QuO,QuH,QuB,Qmd,Qju,Qjv,QuP,Quw,QuC,Qme,Qmf,Qmg,QuQ,Qux,Qy6,Int.sub_zero,QdR,QR,Xt,Xv,f3,QAB,List.mapM_nil,Option.pure_def,Option.bind_eq_bind,QsY,QpH,XJ,XY,Zr,Xf,YE,Qyt]
 exact Q9 H (s:=s) (s':=s) (.keep (QnY _ _)) ⟨rfl,rfl⟩
end
end Go.Proofs.YtenheconhibonaaGreatDoor.Ab
namespace Go.Proofs.YtenheconhibonaaGreatDoor.Ab
open Go.Proofs
section
variable{P:Pz}{s:PS}(hW:Wst P.all s){h:AH}(H:P.ok h)(hN:P.all.length<=1000000)(hD:TkOk P.all)
include hW H hN hD
theorem QrQ(hk:s.tk.kind=1)(h0:s.tk.text.toList≠[116,114,117,101])(h1:s.tk.text.toList≠[102,97,105,108])(h2:s.tk.text.toList≠[105,110,116])(h3:s.tk.text.toList≠[103,114,111,117,110,100]):Qp Tryz.prog 142 [.ptr P.i 0 0] (ph h P s) fun o h'=>o = .ret (.tup [zg,.b false])/\h'=ph h P s:=by
 have _hu:=hD
 have f1:=QE h P
 have f3:=XF h P
 have f4:=Yp h P
 have f5:=Q8 h P
 have f6:=XR h P
 have hi:=ph_i H s
 have hin:=ph_i H s.nx
 simp only[pB]at hi hin
 have cn:=nextL hW (Yg H s)
 have ct:=fun L=>Xo hW (H.app L) hN
 simp only[QP H]at ct
 have e1:=Tk.Qxs s.tk
 have e2:=Tk.Qxt s.tk
 have z1:(s.tk.kind != 1)=false:=by rw[hk];rfl
 have y0:(s.tk.text.toList==({data:=#[116,114,117,101]}:ByteArray).toList)=false:=by rw[Lib.toList_data ({data:=#[116,114,117,101]}:ByteArray)];simpa using h0
 have y1:(s.tk.text.toList==({data:=#[102,97,105,108]}:ByteArray).toList)=false:=by rw[Lib.toList_data ({data:=#[102,97,105,108]}:ByteArray)];simpa using h1
 have y2:(s.tk.text.toList==({data:=#[105,110,116]}:ByteArray).toList)=false:=by rw[Lib.toList_data ({data:=#[105,110,116]}:ByteArray)];simpa using h2
 have y3:(s.tk.text.toList==({data:=#[103,114,111,117,110,100]}:ByteArray).toList)=false:=by rw[Lib.toList_data ({data:=#[103,114,111,117,110,100]}:ByteArray)];simpa using h3
 refine Y9 (by simp) ?_
 repeat (first|refine FunW.Qxr (cn _) ?_|refine Qa ?_);simp only[go_sem,seval,f1,f3,f4,f5,f6,hi,e1,e2,z1,y0,y1,y2,y3]
 exact Q9 H (s:=s) (s':=s) (.keep (QnY _ _)) ⟨rfl,rfl⟩
theorem QrS(hk:s.tk.kind=1)(hx:s.tk.text.toList=[116,114,117,101]):Qp Tryz.prog 142 [.ptr P.i 0 0] (ph h P s) (WC 3 h P (.ok ⟨1,eB,[]⟩ s.nx)):=by
 have _hu:=hD
 have f1:=QE h P
 have f3:=XF h P
 have f4:=Yp h P
 have f5:=Q8 h P
 have f6:=XR h P
 have hi:=ph_i H s
 have hin:=ph_i H s.nx
 simp only[pB]at hi hin
 have cn:=nextL hW (Yg H s)
 have ct:=fun L=>Xo hW (H.app L) hN
 simp only[QP H]at ct
 have e1:=Tk.Qxs s.tk
 have e2:=Tk.Qxt s.tk
 have z1:(s.tk.kind != 1)=false:=by rw[hk];rfl
 have o1:((1:Int)==11)=false:=by decide
 have o2:((1:Int)==12)=false:=by decide
 have y0:(s.tk.text.toList==({data:=#[116,114,117,101]}:ByteArray).toList)=true:=by rw[hx,Lib.toList_data];rfl
 refine Y9 (by simp) ?_
 repeat (first|refine FunW.Qxr (cn _) ?_|refine FunW.Qxr (ct _) ?_|refine Qa ?_);simp only[go_sem,seval,f1,f3,f4,f5,f6,hi,e1,e2,z1,o1,o2,y0]
 exact .inr ⟨rfl,_,rfl,QiO _ _⟩
theorem QrP(hk:s.tk.kind=1)(hx:s.tk.text.toList=[102,97,105,108]):Qp Tryz.prog 142 [.ptr P.i 0 0] (ph h P s) (WC 3 h P (.ok ⟨2,eB,[]⟩ s.nx)):=by
 have _hu:=hD
 have f1:=QE h P
 have f3:=XF h P
 have f4:=Yp h P
 have f5:=Q8 h P
 have f6:=XR h P
 have hi:=ph_i H s
 have hin:=ph_i H s.nx
 simp only[pB]at hi hin
 have cn:=nextL hW (Yg H s)
 have ct:=fun L=>Xo hW (H.app L) hN
 simp only[QP H]at ct
 have e1:=Tk.Qxs s.tk
 have e2:=Tk.Qxt s.tk
 have z1:(s.tk.kind != 1)=false:=by rw[hk];rfl
 have o1:((2:Int)==11)=false:=by decide
 have o2:((2:Int)==12)=false:=by decide
 have y0:(s.tk.text.toList==({data:=#[116,114,117,101]}:ByteArray).toList)=false:=by rw[hx,Lib.toList_data];rfl
 have y1:(s.tk.text.toList==({data:=#[102,97,105,108]}:ByteArray).toList)=true:=by rw[hx,Lib.toList_data];rfl
 refine Y9 (by simp) ?_
 repeat (first|refine FunW.Qxr (cn _) ?_|refine FunW.Qxr (ct _) ?_|refine Qa ?_);simp only[go_sem,seval,f1,f3,f4,f5,f6,hi,e1,e2,z1,o1,o2,y0,y1]
 exact .inr ⟨rfl,_,rfl,QiO _ _⟩
theorem Qs3(hk:s.tk.kind=1)(hx:s.tk.text.toList=[105,110,116]):Qp Tryz.prog 142 [.ptr P.i 0 0] (ph h P s) (WC 3 h P (QdZ 11 s.nx)):=by
 have f1:=QE h P
 have f3:=XF h P
 have f4:=Yp h P
 have f5:=Q8 h P
 have f6:=XR h P
 have hi:=ph_i H s
 have hin:=ph_i H s.nx
 simp only[pB]at hi hin
 have cn:=nextL hW (Yg H s)
 have ct:=fun L=>Xo hW (H.app L) hN
 simp only[QP H]at ct
 have e1:=Tk.Qxs s.tk
 have e2:=Tk.Qxt s.tk
 have z1:(s.tk.kind != 1)=false:=by rw[hk];rfl
 have o1:((11:Int)==11)=true:=by decide
 have o2:((11:Int)==12)=false:=by decide
 have y0:(s.tk.text.toList==({data:=#[116,114,117,101]}:ByteArray).toList)=false:=by rw[hx,Lib.toList_data];rfl
 have y1:(s.tk.text.toList==({data:=#[102,97,105,108]}:ByteArray).toList)=false:=by rw[hx,Lib.toList_data];rfl
 have y2:(s.tk.text.toList==({data:=#[105,110,116]}:ByteArray).toList)=true:=by rw[hx,Lib.toList_data];rfl
 have hWn:=hW.nx
 have HR:=Qke hN hD
 rw[QdZ,XE]
 cases hl:s.nx.is sLp with
 |false =>
  rw[Qzf (by simp)]
  have ce:=fun L=>Yw hWn H hN L {data:=#[40]} (by rw[Lib.toList_data];exact hl)
  refine Y9 (by simp) ?_
  repeat first|(first|refine FunW.Qxr (cn _) ?_|refine FunW.Qxr (ct _) ?_|refine FunW.pan (FunW.call (ce _)) ?_|refine Qa ?_);simp only[go_sem,seval,f1,f4,f6,hi,hin,e1,e2,z1,y0,y1,y2]|refine hK _ ?_;clear hK
  exact QG H s s.nx _ _ _ ⟨rfl,_,rfl⟩
 |true =>
  rw[Qzh rfl]
  have ce:=fun L=>X3 hWn H hN L {data:=#[40]} (by rw[Lib.toList_data];exact hl)
  have hWm:=hWn.nx
  have him:=ph_i H s.nx.nx
  simp only[pB]at him
  have hlm:s.nx.nx.toks.length<1000001:=by have:=hWm.suf.length_le;omega
  show Qp _ _ _ _ (WC 3 h P ((XD s.nx.nx).bind fun t s=>(XE sRp s).bind fun _ s=>.ok ⟨11,eB,[t]⟩ s))
  cases hr:XD s.nx.nx with
  |err p e =>
   have cx:=fun L=>TRd.err HR hlm hWm H hr L
   refine Y9 (by simp) ?_
   repeat first|(first|refine FunW.Qxr (cn _) ?_|refine FunW.Qxr (ct _) ?_|refine FunW.Qxr (ce _) ?_|refine FunW.panE (FunW.call (cx _)) fun r=>?_|refine Qa ?_);simp only[go_sem,seval,f1,f4,f6,hi,hin,e1,e2,z1,y0,y1,y2]|refine hK _ ?_;clear hK
   exact QG H s r _ _ _ ⟨rfl,_,rfl⟩
  |ok t s1 =>
   have cx:=fun(c d e:AB)=>TRd.ok HR hlm hWm H hr [c,d,e] (k:=h.length+3) rfl
   simp only[QyL,QyK]at cx
   have hW1:Wst P.all s1:=Kp.Ps.ok (n:=wdOf P.all) (Kp.termT_ps trivial) hWm hr
   have hi1:=ph_i H s1
   simp only[pB]at hi1
   have e5:=T.Qxx (h.length+3) t
   have e6:=T.Qxy (h.length+3) t
   have hat:∀(c d e:AB),At (c::d::e::(t.lay 69 (h.length+3)++[.cells 69 4 [t.lv (h.length+3)]])) 3 (layA 69 (h.length+3) [t]):=fun c d e=>by
    have:layA 69 (h.length+3) [t]=t.lay 69 (h.length+3)++[.cells 69 4 [t.lv (h.length+3)]]:=by simp[layA,lays,lvs]
    rw[this]
    exact At.tail (At.tail (At.tail (At.all _)))
   have hls:lsl (h.length+3) [t] = .arr (h.length+((t.lay 69 (h.length+3)).length+1+1+1)) 0 1:=by
    rw[T.Qxw]
    show AV.arr (h.length+3+szs [t] - 1) 0 1=_
    simp only[szs]
    congr 1;omega
   simp only[PR.bind,XE]
   cases hp2:s1.is sRp with
   |false =>
    rw[Qzf (by simp)]
    have ce2:=fun L=>Yw hW1 H hN L {data:=#[41]} (by rw[Lib.toList_data];exact hp2)
    refine Y9 (by simp) ?_
    repeat first|(first|refine FunW.Qxr (cn _) ?_|refine FunW.Qxr (ct _) ?_|refine Qa ?_);simp only[go_sem,seval,f1,f4,f6,hi,hin,e1,e2,z1,y0,y1,y2]|refine hK _ ?_;clear hK
    refine FunW.Qxr (ce _) ?_
    simp only[go_sem,seval]
    refine ZG 2 rfl fun K E hK hE=>?_
    simp only[Qyu,QyB,Qys,QyA]
    simp only[go_sem,seval]
    with_reducible repeat refine FunW.Qxr (cx _ _ _) ?_;simp only[go_sem,seval]
    simp only[ArrW]
    simp only[go_sem,seval,f1,f4,f6,e5,QF,QAx]
    repeat first|(first|refine FunW.pan (FunW.call (ce2 _)) ?_|refine Qa ?_);simp only[go_sem,seval,hi1]|refine hK _ ?_;clear hK
    exact QG H s s1 _ _ _ ⟨rfl,_,rfl⟩
   |true =>
    rw[Qzh rfl]
    have ce2:=fun L=>X3 hW1 H hN L {data:=#[41]} (by rw[Lib.toList_data];exact hp2)
    refine Y9 (by simp) ?_
    repeat first|(first|refine FunW.Qxr (cn _) ?_|refine FunW.Qxr (ct _) ?_|refine Qa ?_);simp only[go_sem,seval,f1,f4,f6,hi,hin,e1,e2,z1,y0,y1,y2]|refine hK _ ?_;clear hK
    refine FunW.Qxr (ce _) ?_
    simp only[go_sem,seval]
    refine ZG 2 rfl fun K E hK hE=>?_
    simp only[Qyu,QyB,Qys,QyA]
    simp only[go_sem,seval]
    with_reducible repeat refine FunW.Qxr (cx _ _ _) ?_;simp only[go_sem,seval]
    simp only[ArrW]
    simp only[go_sem,seval,f1,f4,f6,e5,QF,QAx]
    repeat first|(first|refine FunW.Qxr (ce2 _) ?_|refine Qa ?_);simp only[go_sem,seval,f3,f4,f5,hi1]|refine hK _ ?_;clear hK
    refine .inr ⟨?_,_,rfl,hat _ _ _⟩
    rw[gv,hls];rfl
theorem QmV(hk:s.tk.kind=1)(hx:s.tk.text.toList=[103,114,111,117,110,100]):Qp Tryz.prog 142 [.ptr P.i 0 0] (ph h P s) (WC 3 h P (QdZ 12 s.nx)):=by
 have f1:=QE h P
 have f3:=XF h P
 have f4:=Yp h P
 have f5:=Q8 h P
 have f6:=XR h P
 have hi:=ph_i H s
 have hin:=ph_i H s.nx
 simp only[pB]at hi hin
 have cn:=nextL hW (Yg H s)
 have ct:=fun L=>Xo hW (H.app L) hN
 simp only[QP H]at ct
 have e1:=Tk.Qxs s.tk
 have e2:=Tk.Qxt s.tk
 have z1:(s.tk.kind != 1)=false:=by rw[hk];rfl
 have o1:((12:Int)==11)=false:=by decide
 have o2:((12:Int)==12)=true:=by decide
 have y0:(s.tk.text.toList==({data:=#[116,114,117,101]}:ByteArray).toList)=false:=by rw[hx,Lib.toList_data];rfl
 have y1:(s.tk.text.toList==({data:=#[102,97,105,108]}:ByteArray).toList)=false:=by rw[hx,Lib.toList_data];rfl
 have y2:(s.tk.text.toList==({data:=#[105,110,116]}:ByteArray).toList)=false:=by rw[hx,Lib.toList_data];rfl
 have y3:(s.tk.text.toList==({data:=#[103,114,111,117,110,100]}:ByteArray).toList)=true:=by rw[hx,Lib.toList_data];rfl
 have hWn:=hW.nx
 have HR:=Qke hN hD
 rw[QdZ,XE]
 cases hl:s.nx.is sLp with
 |false =>
  rw[Qzf (by simp)]
  have ce:=fun L=>Yw hWn H hN L {data:=#[40]} (by rw[Lib.toList_data];exact hl)
  refine Y9 (by simp) ?_
  repeat first|(first|refine FunW.Qxr (cn _) ?_|refine FunW.Qxr (ct _) ?_|refine FunW.pan (FunW.call (ce _)) ?_|refine Qa ?_);simp only[go_sem,seval,f1,f4,f6,hi,hin,e1,e2,z1,o1,y0,y1,y2,y3]|refine hK _ ?_;clear hK
  exact QG H s s.nx _ _ _ ⟨rfl,_,rfl⟩
 |true =>
  rw[Qzh rfl]
  have ce:=fun L=>X3 hWn H hN L {data:=#[40]} (by rw[Lib.toList_data];exact hl)
  have hWm:=hWn.nx
  have him:=ph_i H s.nx.nx
  simp only[pB]at him
  have hlm:s.nx.nx.toks.length<1000001:=by have:=hWm.suf.length_le;omega
  show Qp _ _ _ _ (WC 3 h P ((XD s.nx.nx).bind fun t s=>(XE sRp s).bind fun _ s=>.ok ⟨12,eB,[t]⟩ s))
  cases hr:XD s.nx.nx with
  |err p e =>
   have cx:=fun L=>TRd.err HR hlm hWm H hr L
   refine Y9 (by simp) ?_
   repeat first|(first|refine FunW.Qxr (cn _) ?_|refine FunW.Qxr (ct _) ?_|refine FunW.Qxr (ce _) ?_|refine FunW.panE (FunW.call (cx _)) fun r=>?_|refine Qa ?_);simp only[go_sem,seval,f1,f4,f6,hi,hin,e1,e2,z1,o1,y0,y1,y2,y3]|refine hK _ ?_;clear hK
   exact QG H s r _ _ _ ⟨rfl,_,rfl⟩
  |ok t s1 =>
   have cx:=fun(c d e:AB)=>TRd.ok HR hlm hWm H hr [c,d,e] (k:=h.length+3) rfl
   simp only[QyL,QyK]at cx
   have hW1:Wst P.all s1:=Kp.Ps.ok (n:=wdOf P.all) (Kp.termT_ps trivial) hWm hr
   have hi1:=ph_i H s1
   simp only[pB]at hi1
   have e5:=T.Qxx (h.length+3) t
   have e6:=T.Qxy (h.length+3) t
   have hat:∀(c d e:AB),At (c::d::e::(t.lay 69 (h.length+3)++[.cells 69 4 [t.lv (h.length+3)]])) 3 (layA 69 (h.length+3) [t]):=fun c d e=>by
    have:layA 69 (h.length+3) [t]=t.lay 69 (h.length+3)++[.cells 69 4 [t.lv (h.length+3)]]:=by simp[layA,lays,lvs]
    rw[this]
    exact At.tail (At.tail (At.tail (At.all _)))
   have hls:lsl (h.length+3) [t] = .arr (h.length+((t.lay 69 (h.length+3)).length+1+1+1)) 0 1:=by
    rw[T.Qxw]
    show AV.arr (h.length+3+szs [t] - 1) 0 1=_
    simp only[szs]
    congr 1;omega
   simp only[PR.bind,XE]
   cases hp2:s1.is sRp with
   |false =>
    rw[Qzf (by simp)]
    have ce2:=fun L=>Yw hW1 H hN L {data:=#[41]} (by rw[Lib.toList_data];exact hp2)
    refine Y9 (by simp) ?_
    repeat first|(first|refine FunW.Qxr (cn _) ?_|refine FunW.Qxr (ct _) ?_|refine Qa ?_);simp only[go_sem,seval,f1,f4,f6,hi,hin,e1,e2,z1,o1,y0,y1,y2,y3]|refine hK _ ?_;clear hK
    refine FunW.Qxr (ce _) ?_
    simp only[go_sem,seval]
    refine ZG 2 rfl fun K E hK hE=>?_
    simp only[Qyu,QyB,Qys,QyA]
    simp only[go_sem,seval]
    with_reducible repeat refine FunW.Qxr (cx _ _ _) ?_;simp only[go_sem,seval]
    simp only[ArrW]
    simp only[go_sem,seval,f1,f4,f6,e5,QF,QAx]
    repeat first|(first|refine FunW.pan (FunW.call (ce2 _)) ?_|refine Qa ?_);simp only[go_sem,seval,hi1]|refine hK _ ?_;clear hK
    exact QG H s s1 _ _ _ ⟨rfl,_,rfl⟩
   |true =>
    rw[Qzh rfl]
    have ce2:=fun L=>X3 hW1 H hN L {data:=#[41]} (by rw[Lib.toList_data];exact hp2)
    refine Y9 (by simp) ?_
    repeat first|(first|refine FunW.Qxr (cn _) ?_|refine FunW.Qxr (ct _) ?_|refine Qa ?_);simp only[go_sem,seval,f1,f4,f6,hi,hin,e1,e2,z1,o1,y0,y1,y2,y3]|refine hK _ ?_;clear hK
    refine FunW.Qxr (ce _) ?_
    simp only[go_sem,seval]
    refine ZG 2 rfl fun K E hK hE=>?_
    simp only[Qyu,QyB,Qys,QyA]
    simp only[go_sem,seval]
    with_reducible repeat refine FunW.Qxr (cx _ _ _) ?_;simp only[go_sem,seval]
    simp only[ArrW]
    simp only[go_sem,seval,f1,f4,f6,e5,QF,QAx]
    repeat first|(first|refine FunW.Qxr (ce2 _) ?_|refine Qa ?_);simp only[go_sem,seval,f3,f4,f5,hi1]|refine hK _ ?_;clear hK
    refine .inr ⟨?_,_,rfl,hat _ _ _⟩
    rw[gv,hls];rfl
end
end Go.Proofs.YtenheconhibonaaGreatDoor.Ab
namespace Go.Proofs.YtenheconhibonaaGreatDoor.Ab
open Go.Proofs
theorem Qt6{s:PS}{b:List UInt8}(h:s.is b=true):s.tk.text.toList=b:=by
 simp only[PS.is,Qzk,QAb]at h;exact h.2
theorem QoJ{s:PS}{l:List (List UInt8)}(h:s.oneOf l=true):s.tk.text.toList∈l:=by
 rw[PS.oneOf,QBf]at h
 obtain⟨b,hb,h⟩:=h
 rw[Qt6 h];exact hb
theorem Qsw{ex:PS->PR T}{s:PS}{t:T}{s2:PS}(h:pOpT ex s = .ok t s2)(hk:s.tk.kind=1):t.name=s.tk.text:=by
 rw[pOpT,Qzf (by omega),Qzf (by omega),Qzh hk]at h
 obtain⟨a,s1,h1,h⟩:=bind_ok h
 cases h
 rw[Zq]at h1
 obtain⟨x,s3,h3,h1⟩:=bind_ok h1
 have hx:x=s.tk.text:=by
  rw[QaM]at h3
  split at h3
  ·cases h3
  ·split at h3
   ·cases h3
   ·cases h3;rfl
 split at h1
 ·obtain⟨l,s4,h4,h1⟩:=bind_ok h1
  cases h1
  exact hx
 ·cases h1
  exact hx
theorem QgA{op:PS->PR T}{ops:List (List UInt8)}:∀(m:Nat) (t:T) (s:PS) (t2:T) (s2:PS),XW op ops m t s = .ok t2 s2->t2.name=t.name\/t2.name.toList∈ops
 |0,t,s,t2,s2,h=>by cases h;exact .inl rfl
 |m+1,t,s,t2,s2,h=>by
  rw[XW]at h
  split at h
  ·rename_i hc
   obtain⟨u,s1,h1,h⟩:=bind_ok h
   rcases QgA m _ s1 t2 s2 h with h|h
   ·exact .inr (by rw[h];exact QoJ hc)
   ·exact .inr h
  ·cases h;exact .inl rfl
theorem Qir{op:PS->PR T}{ops:List (List UInt8)}{s:PS}{t:T}{s2:PS}(h:XB op ops s = .ok t s2):∃t1 s1,op s = .ok t1 s1/\(t.name=t1.name\/t.name.toList∈ops):=by
 rw[XB]at h
 obtain⟨t1,s1,h1,h⟩:=bind_ok h
 exact⟨t1,s1,h1,QgA _ t1 s1 t s2 h⟩
theorem Qrw{s:PS}{t:T}{s2:PS}(h:XD s = .ok t s2)(hk:s.tk.kind=1):t.name=s.tk.text\/t.name.toList∈Xq\/t.name.toList∈Yr:=by
 rw[XD,Ys]at h
 obtain⟨t1,s1,h1,h2⟩:=Qir h
 obtain⟨t3,s3,h3,h4⟩:=Qir h1
 have h5:=Qsw h3 hk
 rcases h2 with h2|h2
 ·rw[h2]
  rcases h4 with h4|h4
  ·exact .inl (by rw[h4,h5])
  ·exact .inr (.inl h4)
 ·exact .inr (.inr h2)
theorem QsX{s:PS}(hk:s.tk.kind=1)(hr:resB s.tk.text=true):XD s = .err s.tk.pos 7:=by
 rw[XD,Ys,XB,XB,pOpT,Qzf (by omega),Qzf (by omega),Qzh hk,Zq,QaM,Qzf (by omega),Qzh hr]
 rfl
def QqY(s:PS):PR G :=
 if s.tk.kind=1/\s.tk.text.toList=[116,114,117,101]then .ok ⟨1,eB,[]⟩ s.nx else if s.tk.kind=1/\s.tk.text.toList=[102,97,105,108]then .ok ⟨2,eB,[]⟩ s.nx else
 if s.tk.kind=1/\s.tk.text.toList=[105,110,116]then QdZ 11 s.nx else if s.tk.kind=1/\s.tk.text.toList=[103,114,111,117,110,100]then QdZ 12 s.nx else
 (XD s).bind fun t s2=>match cmpOp s2 with
  |some (op,turn)=>(XD s2.nx).bind fun u s3=>.ok ⟨op,eB,if turn then[u,t]else[t,u]⟩ s3
  |none=>if s.tk.kind≠1\/opB t.name=true then .err s2.tk.pos 16 else .ok ⟨0,t.name,t.args⟩ s2
theorem QjS{x:ByteArray}:opB x=true↔x.toList∈Xq\/x.toList∈Yr:=by
 simp only[opB,Xq,Yr,QzW,QAb,Lib.toList_data,Qzn,Qzz,QAf]
 constructor
 ·intro h
  rcases h with(((h|h)|h)|h)|h <;> simp[h]
 ·intro h
  rcases h with(h|h|h)|h|h <;> simp[h]
theorem QnM{x:ByteArray}(h:x.toList=[116,114,117,101]\/x.toList=[102,97,105,108]\/x.toList=[105,110,116]\/x.toList=[103,114,111,117,110,100]):resB x=true:=by
 simp only[resB,Lib.toList_data]at h ⊢
 rcases h with h|h|h|h <;> rw[h] <;> decide
theorem Qse{s:PS}(hop:s.tk.kind=1->opB s.tk.text=false):QqY s=ZQ s:=by
 rw[QqY,ZQ]
 by_cases hk:s.tk.kind=1
 ·simp only[hk,QyS,not_true_eq_false,ne_eq,false_or]
  cases hr:resB s.tk.text with
  |true =>
   rw[Qzh rfl,QsX hk hr]
   rfl
  |false =>
   have no:∀b,(s.tk.text.toList=b->resB s.tk.text=true)->¬s.tk.text.toList=b:=fun b h q=>by rw[h q]at hr;cases hr
   rw[Qzf (no _ fun q=>QnM (.inl q)),Qzf (no _ fun q=>QnM (.inr (.inl q))),Qzf (no _ fun q=>QnM (.inr (.inr (.inl q)))),Qzf (no _ fun q=>QnM (.inr (.inr (.inr q)))),Qzf (by decide)]
   refine bind_congr fun t s1 h1=>?_
   cases cmpOp s1 with
   |some x=>rfl
   |none =>
    simp only
    have ht:=Qrw h1 hk
    by_cases ho:opB t.name=true
    ·rw[Qzh ho,Qzf]
     intro q
     have:opB s.tk.text=true:=QjS.2 (by rw[<-q];exact QjS.1 ho)
     rw[hop hk]at this;cases this
    ·rw[Qzf ho,Qzh]
     rcases ht with ht|ht
     ·rw[ht]
     ·exact absurd (QjS.2 ht) ho
 ·simp only[hk,false_and,Qz5,ne_eq,not_false_eq_true,true_or,QAj]
  exact bind_congr fun t s1 _=>by cases cmpOp s1 <;> rfl
end Go.Proofs.YtenheconhibonaaGreatDoor.Ab
namespace Go.Proofs.YtenheconhibonaaGreatDoor.Ab
open Go.Proofs
abbrev Qaw{a:List AV}{h:AH}{Q:AOut->AH->Prop}:=@Qc Tryz.prog 108 _ _ a h Q Tryz.func108 rfl Tryz.call108 _ Tryz.ntmps108 _ Tryz.results108
theorem QkH{P:Program}{N:Nat}{f:FuncId}{args:List AV}{s:AS}{d:Option Tmp}{K:AS->Prop}{r:AV}(H:∀hx,Keep s.h hx->Qp P f args hx fun o h'=>o = .ret r/\h'=hx)(k:K (AS.put N s d r)):QtA P N (.fn (.func f) [] []) args s d K:=⟨r,fun hx hk=>FunW.call (H hx hk),k⟩
def LQ(h:AH)(P:Pz):PR G->AOut->AH->Prop
 | .ok a s,o,h'=>o = .ret (gv h.length a)/\h'=ph h P s++layA 69 h.length a.args
 | .err p e,o,h'=>o = .panic (Fl p e)/\∃s,h'=ph h P s
def LC(h:AH)(P:Pz):PR G->AOut->AH->Prop
 | .ok a s,o,h'=>(∃g y N,o = .ret (.agg [.i a.op,.v (.string a.name),lsl (h.length+g) a.args])/\h'=ph h P s++N/\At N g (layA 69 (h.length+g) a.args)/\y=g) \/
   ∃(x y:T) (px pd py pr:Nat) (N:AH),a.args=[x,y]/\o = .ret (.agg [.i a.op,.v (.string a.name),.arr pr 0 2])/\h'=ph h P s++N/\h.length<=px/\h.length<=py/\h.length<=pd /\
    ((px+x.sz<=pd/\pd<py/\py+y.sz<=pr)\/(py+y.sz<=pd/\pd<px/\px+x.sz<=pr))/\At h' px (x.lay 69 px)/\At h' py (y.lay 69 py)/\h'[pr]? = some (.cells 69 4 [x.lv px,y.lv py])
 | .err p e,o,h'=>o = .panic (Fl p e)/\∃s,h'=ph h P s
theorem Qnt{P:Pz}{f:FuncId}{args:List AV}{h:AH}{s:PS}(H:P.ok h){r:PR G}(C:Qp Tryz.prog f args (ph h P s) (LC h P r)):Qp Tryz.prog f args (ph h P s) (LQ h P r):=by
 refine QbT C fun hb0 o h' hQ=>?_
 cases r with
 |err p e=>exact .inl hQ
 |ok t s2 =>
  have hb:∀b∈ph h P s2,b.Below h.length:=fun b hb=>by
   rw[QE]at hb0
   obtain⟨k,hk⟩:=Qab hb
   rcases Qdp H (s0:=s) hk with h1|h1
   ·exact hb0 k b h1
   ·exact h1
  rw[QE]
  rcases hQ with⟨g,_,N,rfl,rfl,hN,_⟩|⟨x,y,px,pd,py,pr,N,ha,rfl,rfl,h1,h2,h3,h4,h5,h6,h7⟩
  ·obtain⟨K,hk⟩:=QsB (QE h P s2) hb g t.args hN
   exact .inr ⟨_,gv h.length t,_,_,rfl,K,Qun hk,rfl,rfl⟩
  ·obtain⟨K,hk⟩:=Qul (QE h P s2) hb x y h1 h2 h3 h4 h5 h6 h7
   rw[<-ha]at K hk
   exact .inr ⟨_,gv h.length t,_,_,rfl,K,Qun hk,rfl,rfl⟩
theorem At.base{A N M:AH}{n k:Nat}(H:At N k M)(hA:A.length=n):At (A++N) (n+k) M:=fun j b hb hl=>by
 have:=H j b hb hl
 rw[Qzi (by omega),hA,show n+k+j - n=k+j by omega];exact this
theorem Qth{P:Pz}{h:AH}{s3:PS}(c d e f:AB)(t u:T)(op:Int)(sw:Bool):LC h P (.ok ⟨op,eB,if sw then[u,t]else[t,u]⟩ s3)
  (.ret (.agg [.v (.int .i64 op),.v (.string {data:=#[]}),.arr (h.length+((t.lay 69 (h.length+2)).length+((u.lay 69 (h.length+2+t.sz+1)).length+1+1)+1+1)) 0 2]))
  (ph h P s3++(c::d::(t.lay 69 (h.length+2)++(e::(u.lay 69 (h.length+2+t.sz+1)++[f,.cells 69 4 (if sw then[u.lv (h.length+2+t.sz+1),t.lv (h.length+2)]else[t.lv (h.length+2),u.lv (h.length+2+t.sz+1)])]))))):=by
 have l1:=T.Qxw 69 (h.length+2) t
 have l2:=T.Qxw 69 (h.length+2+t.sz+1) u
 have a1:At (ph h P s3++(c::d::(t.lay 69 (h.length+2)++(e::(u.lay 69 (h.length+2+t.sz+1)++[f,.cells 69 4 (if sw then[u.lv (h.length+2+t.sz+1),t.lv (h.length+2)]else[t.lv (h.length+2),u.lv (h.length+2+t.sz+1)])]))))) (h.length+2) (t.lay 69 (h.length+2)) :=
  At.base (At.mid [c,d] _ _ rfl) (QE h P s3)
 have a2:At (ph h P s3++(c::d::(t.lay 69 (h.length+2)++(e::(u.lay 69 (h.length+2+t.sz+1)++[f,.cells 69 4 (if sw then[u.lv (h.length+2+t.sz+1),t.lv (h.length+2)]else[t.lv (h.length+2),u.lv (h.length+2+t.sz+1)])]))))) (h.length+2+t.sz+1) (u.lay 69 (h.length+2+t.sz+1)):=by
  have:=At.base (At.mid (c::d::(t.lay 69 (h.length+2)++[e])) (u.lay 69 (h.length+2+t.sz+1)) [f,.cells 69 4 (if sw then[u.lv (h.length+2+t.sz+1),t.lv (h.length+2)]else[t.lv (h.length+2),u.lv (h.length+2+t.sz+1)])] (n:=2+t.sz+1) (by simp only[Qyw,Qza,Qyx,l1];omega)) (QE h P s3)
  rw[show h.length+(2+t.sz+1)=h.length+2+t.sz+1 by omega]at this
  simpa only[QyL,Qze,QyK]using this
 have a3:(ph h P s3++(c::d::(t.lay 69 (h.length+2)++(e::(u.lay 69 (h.length+2+t.sz+1)++[f,.cells 69 4 (if sw then[u.lv (h.length+2+t.sz+1),t.lv (h.length+2)]else[t.lv (h.length+2),u.lv (h.length+2+t.sz+1)])])))))[h.length+((t.lay 69 (h.length+2)).length+((u.lay 69 (h.length+2+t.sz+1)).length+1+1)+1+1)]? = some (.cells 69 4 (if sw then[u.lv (h.length+2+t.sz+1),t.lv (h.length+2)]else[t.lv (h.length+2),u.lv (h.length+2+t.sz+1)])):=by
  rw[Yp]
  simp only[Qyk]
  rw[hget]
  simp only[Qyk]
  rw[hget]
  rfl
 cases sw with
 |false=>exact .inr ⟨t,u,h.length+2,h.length+2+t.sz,h.length+2+t.sz+1,_,_,rfl,rfl,rfl,by omega,by omega,by omega,.inl ⟨by omega,by omega,by omega⟩,a1,a2,a3⟩
 |true=>exact .inr ⟨u,t,h.length+2+t.sz+1,h.length+2+t.sz,h.length+2,_,_,rfl,rfl,rfl,by omega,by omega,by omega,.inr ⟨by omega,by omega,by omega⟩,a2,a1,a3⟩
section
variable{P:Pz}{s:PS}(hW:Wst P.all s){h:AH}(H:P.ok h)(hN:P.all.length<=1000000)(hD:TkOk P.all)
include hW H hN hD
theorem Qeo{r:PR G}(hw:∀L:AH,Qp Tryz.prog 142 [.ptr P.i 0 0] (ph (h++L) P s) (WC 3 (h++L) P r)):Qp Tryz.prog 108 [.ptr P.i 0 0] (ph h P s) (LQ h P r):=by
 have _u:=hN
 have _v:=hD
 have _w:=hW
 have cw:=fun L=>Qs6 (H.app L) 3 (hw L)
 have f1:=QE h P
 have f3:=XF h P
 have f4:=Yp h P
 have f5:=Q8 h P
 have f6:=XR h P
 refine Qnt H ?_
 cases r with
 |err p e =>
  have cw':∀L,Qp Tryz.prog 142 [.ptr P.i 0 0] (ph h P s++L) fun o h'=>o = .panic (Fl p e)/\∃s1:PS,h'=ph h P s1++L:=fun L=>by
   have:=cw L
   rw[QP H]at this
   exact this.mono fun o h' q=>by simpa only[WQ,QP H]using q
  refine Qaw (by simp) ?_
  repeat (first|refine FunW.panE (FunW.call (cw' _)) fun r=>?_|refine Qa ?_);simp only[go_sem,seval,f1]
  exact QG H s r _ _ _ ⟨rfl,_,rfl⟩
 |ok a s1 =>
  have cw':∀c:AB,Qp Tryz.prog 142 [.ptr P.i 0 0] (ph h P s++[c]) fun o h'=>o = .ret (.tup [gv (h.length+1) a,.b true])/\h'=ph h P s1++(c::layA 69 (h.length+1) a.args):=fun c=>by
   have:=cw [c]
   rw[QP H]at this
   exact this.mono fun o h' q=>by simpa only[WQ,QP H,Qza,Qyw,Qyx,Qze,QyL,QyK]using q
  simp only[gv]at cw'
  have e5:=Qhi (h.length+1) a.args
  have e6:=Qhj (h.length+1) a.args
  refine Qaw (by simp) ?_
  repeat (first|refine FunW.Qxr (cw' _) ?_|refine Qa ?_);simp only[go_sem,seval,f1,f3,f4,f5,f6,QF]
  exact .inr (.inl ⟨1,1,_,rfl,rfl,At.mid [_] _ _ rfl,rfl⟩)
theorem Qqd(hw:∀L:AH,Qp Tryz.prog 142 [.ptr P.i 0 0] (ph h P s++L) fun o h'=>o = .ret (.tup [zg,.b false])/\h'=ph h P s++L) :
  Qp Tryz.prog 108 [.ptr P.i 0 0] (ph h P s) (LQ h P ((XD s).bind fun t s2=>match cmpOp s2 with
   |some (op,turn)=>(XD s2.nx).bind fun u s3=>.ok ⟨op,eB,if turn then[u,t]else[t,u]⟩ s3
   |none=>if s.tk.kind≠1\/opB t.name=true then .err s2.tk.pos 16 else .ok ⟨0,t.name,t.args⟩ s2)):=by
 have f1:=QE h P
 have f3:=XF h P
 have f4:=Yp h P
 have f5:=Q8 h P
 have f6:=XR h P
 have hi:=ph_i H s
 simp only[pB]at hi
 have cn:=nextL hW (Yg H s)
 have e1:=Tk.Qxs s.tk
 have e2:=Tk.Qxt s.tk
 have HR:=Qke hN hD
 have hls:s.toks.length<1000001:=by have:=hW.suf.length_le;omega
 refine Qnt H ?_
 cases hr:XD s with
 |err p e =>
  have cx:=fun L=>TRd.err HR hls hW H hr L
  refine Qaw (by simp) ?_
  repeat first|(first|refine FunW.Qxr (hw _) ?_|refine FunW.Qxr (cn _) ?_|refine FunW.panE (FunW.call (cx _)) fun r=>?_|refine Qa ?_);simp only[go_sem,seval,f1,f4,f6,hi,e1,e2]|refine hK _ ?_;clear hK
  exact QG H s r _ _ _ ⟨rfl,_,rfl⟩
 |ok t s2 =>
  have cx:=fun(c d:AB)=>TRd.ok HR hls hW H hr [c,d] (k:=h.length+2) rfl
  simp only[QyL,QyK]at cx
  have hW2:Wst P.all s2:=Kp.Ps.ok (n:=wdOf P.all) (Kp.termT_ps trivial) hW hr
  have hi2:=ph_i H s2
  simp only[pB]at hi2
  have e3:=T.Qxx (h.length+2) t
  have e4:=T.Qxy (h.length+2) t
  have cm:=fun L=>QgE hW2 (H.app L) hN
  show Qp _ _ _ _ (LC h P (match cmpOp s2 with
   |some (op,turn)=>(XD s2.nx).bind fun u s3=>.ok ⟨op,eB,if turn then[u,t]else[t,u]⟩ s3
   |none=>if s.tk.kind≠1\/opB t.name=true then .err s2.tk.pos 16 else .ok ⟨0,t.name,t.args⟩ s2))
  cases hc:cmpOp s2 with
  |none =>
   rw[hc]at cm
   have cm':∀L,Qp Tryz.prog 144 [.ptr P.i 0 0] (ph h P s2++L) fun o h'=>o = .ret (.tup [.i 0,.b false,.b false])/\h'=ph h P s2++L:=fun L=>by
    have:=cm L
    rw[QP H]at this
    exact this.mono fun o h' q=>by simpa only[MQ,QP H]using q
   have cn2:=nextL hW2 (Yg H s2)
   have cf:=Za s2.tk 16
   by_cases hk:s.tk.kind=1
   ·have z1:(s.tk.kind==1)=true:=by simpa using hk
    have co:=QeC t.name
    cases hop:opB t.name with
    |true =>
     rw[hop]at co
     simp only[or_true,QAj]
     refine Qaw (by simp) ?_
     repeat first|(first|refine FunW.Qxr (hw _) ?_|refine FunW.Qxr (cn _) ?_|refine FunW.Qxr (cx _ _) ?_|refine FunW.Qxr (cm' _) ?_|refine Qe co ?_|refine Qa ?_);simp only[go_sem,seval,f1,f4,f6,hi,e1,e2,e3,e4,QF,z1]|refine hK _ ?_;clear hK
     refine Q2 7 [(0,1),(1,0),(2,0),(3,1),(4,0),(5,0),(6,0)] mixed rfl rfl rfl (by kernel_rfl) (fun v h'=>v=Fl s2.tk.pos 16/\∃L,h'=ph h P s2++L) ?_ ?_
     ·rintro tm v h' ⟨rfl,L,rfl⟩
      exact QG H s s2 _ _ _ ⟨rfl,_,rfl⟩
     ·simp only[go_sem,seval,hi2]
      refine QkH (fun hx hkp=>XU hW2 (hkp _ _ (ph_i H s2 _) (fun _ _ _ q=>by unfold pB at q;cases q))) ?_
      simp only[go_sem,seval]
      exact fun _=>(FunW.call (cf _ _)).mono (by rintro _ _ ⟨rfl,rfl⟩;exact⟨_,rfl,rfl,_,rfl⟩)
    |false =>
     rw[hop]at co
     simp only[hk,ne_eq,not_true_eq_false,Qyn,or_self,Qz5]
     have e5:=Qhi (h.length+2) t.args
     have e6:=Qhj (h.length+2) t.args
     have hat:∀(c d:AB) X,At (c::d::(t.lay 69 (h.length+2)++X)) 2 (layA 69 (h.length+2) t.args):=fun c d X=>by rw[T.QxF];exact At.mid [c,d] _ _ rfl
     refine Qaw (by simp) ?_
     repeat first|(first|refine FunW.Qxr (hw _) ?_|refine FunW.Qxr (cn _) ?_|refine FunW.Qxr (cx _ _) ?_|refine FunW.Qxr (cm' _) ?_|refine Qe co ?_|refine Qa ?_);simp only[go_sem,seval,f1,f3,f4,f5,f6,hi,e1,e2,e3,e4,e5,QF,z1]|refine hK _ ?_;clear hK
     exact .inr (.inl ⟨2,2,_,rfl,rfl,hat _ _ _,rfl⟩)
   ·have z1:(s.tk.kind==1)=false:=by simpa using hk
    rw[Qzh (.inl hk)]
    refine Qaw (by simp) ?_
    repeat first|(first|refine FunW.Qxr (hw _) ?_|refine FunW.Qxr (cn _) ?_|refine FunW.Qxr (cx _ _) ?_|refine FunW.Qxr (cm' _) ?_|refine Qa ?_);simp only[go_sem,seval,f1,f4,f6,hi,e1,e2,e3,e4,QF,z1]|refine hK _ ?_;clear hK
    refine Q2 7 [(0,1),(1,0),(2,0),(3,1),(4,0),(5,0),(6,0)] mixed rfl rfl rfl (by kernel_rfl) (fun v h'=>v=Fl s2.tk.pos 16/\∃L,h'=ph h P s2++L) ?_ ?_
    ·rintro tm v h' ⟨rfl,L,rfl⟩
     exact QG H s s2 _ _ _ ⟨rfl,_,rfl⟩
    ·simp only[go_sem,seval,hi2]
     refine QkH (fun hx hkp=>XU hW2 (hkp _ _ (ph_i H s2 _) (fun _ _ _ q=>by unfold pB at q;cases q))) ?_
     simp only[go_sem,seval]
     exact fun _=>(FunW.call (cf _ _)).mono (by rintro _ _ ⟨rfl,rfl⟩;exact⟨_,rfl,rfl,_,rfl⟩)
  |some x =>
   obtain⟨op,turn⟩:=x
   rw[hc]at cm
   have cm':∀L,Qp Tryz.prog 144 [.ptr P.i 0 0] (ph h P s2++L) fun o h'=>o = .ret (.tup [.i op,.b turn,.b true])/\h'=ph h P s2.nx++L:=fun L=>by
    have:=cm L
    rw[QP H]at this
    exact this.mono fun o h' q=>by simpa only[MQ,QP H]using q
   have hkc:s2.tk.kind≠0:=Qit hc
   have hWn:=hW2.nx
   have hin:=ph_i H s2.nx
   simp only[pB]at hin
   have hln:s2.nx.toks.length<1000001:=by have:=hWn.suf.length_le;omega
   show Qp _ _ _ _ (LC h P ((XD s2.nx).bind fun u s3=>.ok ⟨op,eB,if turn then[u,t]else[t,u]⟩ s3))
   cases hr2:XD s2.nx with
   |err p e =>
    have cy:=fun L=>TRd.err HR hln hWn H hr2 L
    refine Qaw (by simp) ?_
    repeat first|(first|refine FunW.Qxr (hw _) ?_|refine FunW.Qxr (cn _) ?_|refine FunW.Qxr (cx _ _) ?_|refine FunW.Qxr (cm' _) ?_|refine FunW.panE (FunW.call (cy _)) fun r=>?_|refine Qa ?_);simp only[go_sem,seval,f1,f4,f6,hi,e1,e2,e3,e4,QF]|refine hK _ ?_;clear hK
    exact QG H s r _ _ _ ⟨rfl,_,rfl⟩
   |ok u s3 =>
    have cy:=fun(c d f:AB)=>TRd.ok HR hln hWn H hr2 (c::d::(t.lay 69 (h.length+2)++[f])) (k:=h.length+2+t.sz+1) (by simp only[Qyw,Qza,T.Qxw,Qyx];omega)
    simp only[QyL,Qze,QyK]at cy
    have e5:=T.Qxx (h.length+2+t.sz+1) u
    have e6:=T.Qxy (h.length+2+t.sz+1) u
    have g1:∀(X:AH),(t.lay 69 (h.length+2)++X)[(t.lay 69 (h.length+2)).length]? = X[0]? := fun X=>XP _ _
    have g2:∀(X:AH) (y:AB),(t.lay 69 (h.length+2)++X).set (t.lay 69 (h.length+2)).length y=t.lay 69 (h.length+2)++X.set 0 y:=fun X y=>Qaa _ _ _
    have g3:∀(X:AH),(u.lay 69 (h.length+2+t.sz+1)++X)[(u.lay 69 (h.length+2+t.sz+1)).length]? = X[0]? := fun X=>XP _ _
    have g4:∀(X:AH) (y:AB),(u.lay 69 (h.length+2+t.sz+1)++X).set (u.lay 69 (h.length+2+t.sz+1)).length y=u.lay 69 (h.length+2+t.sz+1)++X.set 0 y:=fun X y=>Qaa _ _ _
    cases turn with
    |false =>
     refine Qaw (by simp) ?_
     repeat first|(first|refine FunW.Qxr (hw _) ?_|refine FunW.Qxr (cn _) ?_|refine FunW.Qxr (cx _ _) ?_|refine FunW.Qxr (cm' _) ?_|refine Qa ?_);simp only[go_sem,seval,f1,f4,f6,hi,e1,e2,e3,e4,QF,Qze,g1,g2]|refine hK _ ?_;clear hK
     refine FunW.Qxr (cy _ _ _) ?_
     simp only[go_sem,seval,f1,f4,f6,e5,e6,QF,Qze,g3,g4]
     iterate 7 (try (first|(((refine Qd fun K E hK hE=>?_));simp only[go_sem,seval])|(refine QN fun K hK=>?_)|(refine Xu ?_)|(refine Qk ?_)|((with_reducible refine hK _ ?_);clear hK)|(refine Qw rfl ?_;simp only[↓reduceIte,Qyn])))
     refine ZG 3 rfl fun K E hK hE=>?_
     simp only[Qyu,QyB,Qys,QyA]
     simp only[go_sem,seval,f4,e3,e4,e5,e6,g1,g3]
     simp only[ArrW]
     simp only[go_sem,seval,f1,f3,f5,e3,e5,QF,Qze,QAx]
     repeat first|refine Qa ?_;simp only[go_sem,seval]|refine hK _ ?_;clear hK
     simp only[go_sem,seval,f3]
     exact .inr (Qth _ _ _ _ t u op false)
    |true =>
     refine Qaw (by simp) ?_
     repeat first|(first|refine FunW.Qxr (hw _) ?_|refine FunW.Qxr (cn _) ?_|refine FunW.Qxr (cx _ _) ?_|refine FunW.Qxr (cm' _) ?_|refine Qa ?_);simp only[go_sem,seval,f1,f4,f6,hi,e1,e2,e3,e4,QF,Qze,g1,g2]|refine hK _ ?_;clear hK
     refine FunW.Qxr (cy _ _ _) ?_
     simp only[go_sem,seval,f1,f4,f6,e5,e6,QF,Qze,g3,g4]
     iterate 8 (try (first|((first|(refine Qd fun K E hK hE=>?_)|(refine Qs fun K E hK hE=>?_));simp only[go_sem,seval,f4,f6,e3,e4,e5,e6,QF,g1,g2,g3,g4])|(refine QN fun K hK=>?_)|(refine Qk ?_)|((with_reducible refine hK _ ?_);clear hK)|(refine Qw rfl ?_;simp only[↓reduceIte])))
     refine ZG 3 rfl fun K E hK hE=>?_
     simp only[Qyu,QyB,Qys,QyA]
     simp only[go_sem,seval,f4,e3,e4,e5,e6,g1,g3]
     simp only[ArrW]
     simp only[go_sem,seval,f1,f3,f5,e3,e5,QF,Qze,QAx]
     repeat first|refine Qa ?_;simp only[go_sem,seval]|refine hK _ ?_;clear hK
     simp only[go_sem,seval,f3]
     exact .inr (Qth _ _ _ _ t u op true)
end
end Go.Proofs.YtenheconhibonaaGreatDoor.Ab
namespace Go.Proofs.YtenheconhibonaaGreatDoor.Ab
open Go.Proofs
theorem QkX{P:Pz}{s:PS}(hW:Wst P.all s){h:AH}(H:P.ok h)(hN:P.all.length<=1000000)(hD:TkOk P.all):Qp Tryz.prog 108 [.ptr P.i 0 0] (ph h P s) (LQ h P (ZQ s)):=by
 rw[<-Qse (fun hk=>hD.nam _ (QrB hW) hk)]
 unfold QqY
 have rest:=Qqd hW H hN hD
 have fin:(∀L:AH,Qp Tryz.prog 142 [.ptr P.i 0 0] (ph (h++L) P s) fun o h'=>o = .ret (.tup [zg,.b false])/\h'=ph (h++L) P s)->_:=fun q=>rest fun L=>by
  have:=q L
  simpa only[QP H]using this
 by_cases hk:s.tk.kind=1
 ·by_cases h0:s.tk.text.toList=[116,114,117,101]
  ·rw[Qzh ⟨hk,h0⟩];exact Qeo hW H hN hD fun L=>QrS hW (H.app L) hN hD hk h0
  ·rw[Qzf (fun q=>h0 q.2)]
   by_cases h1:s.tk.text.toList=[102,97,105,108]
   ·rw[Qzh ⟨hk,h1⟩];exact Qeo hW H hN hD fun L=>QrP hW (H.app L) hN hD hk h1
   ·rw[Qzf (fun q=>h1 q.2)]
    by_cases h2:s.tk.text.toList=[105,110,116]
    ·rw[Qzh ⟨hk,h2⟩];exact Qeo hW H hN hD fun L=>Qs3 hW (H.app L) hN hD hk h2
    ·rw[Qzf (fun q=>h2 q.2)]
     by_cases h3:s.tk.text.toList=[103,114,111,117,110,100]
     ·rw[Qzh ⟨hk,h3⟩];exact Qeo hW H hN hD fun L=>QmV hW (H.app L) hN hD hk h3
     ·rw[Qzf (fun q=>h3 q.2)]
      exact fin fun L=>QrQ hW (H.app L) hN hD hk h0 h1 h2 h3
 ·rw[Qzf (fun q=>hk q.1),Qzf (fun q=>hk q.1),Qzf (fun q=>hk q.1),Qzf (fun q=>hk q.1)]
  exact fin fun L=>Qs4 hW (H.app L) hN hD hk
def gsz:List G->Nat
 |[]=>0
 |g::l=>szs g.args+2+gsz l
def lvG(vw:Nat->G->AV)(n:Nat):List G->List AV
 |[]=>[]
 |g::l=>vw (n+1) g::lvG vw (n+szs g.args+2) l
def layG(tt:TypeId)(n:Nat):List G->AH
 |[]=>[]
 |g::l=>.dead::(layA tt (n+1) g.args++(.dead::layG tt (n+szs g.args+2) l))
theorem Qam:∀l m:List G,gsz (l++m)=gsz l+gsz m
 |[],m=>by simp[gsz]
 |g::l,m=>by rw[QyL,gsz,gsz,Qam l m];omega
theorem Zi(vw:Nat->G->AV):∀(n:Nat) (l:List G),(lvG vw n l).length=l.length
 |_,[]=>rfl
 |n,g::l=>by rw[lvG,Qyw,Zi];rfl
theorem QB(tt:TypeId):∀(n:Nat) (l:List G),(layG tt n l).length=gsz l
 |_,[]=>rfl
 |n,g::l=>by rw[layG,Qyw,Qza,Qyw,Yq,QB,gsz];omega
theorem QjH(vw:Nat->G->AV):∀(n:Nat) (l:List G) (g:G),lvG vw n (l++[g])=lvG vw n l++[vw (n+gsz l+1) g]
 |n,[],g=>by simp[lvG,gsz]
 |n,a::l,g=>by
  rw[QyL,lvG,lvG,QjH vw _ l g,gsz,QyL]
  rw[show n+szs a.args+2+gsz l+1=n+(szs a.args+2+gsz l)+1 by omega]
theorem Qhf(tt:TypeId):∀(n:Nat) (l:List G) (g:G),layG tt n (l++[g])=layG tt n l++(.dead::(layA tt (n+gsz l+1) g.args++[.dead]))
 |n,[],g=>by simp[layG,gsz]
 |n,a::l,g=>by
  rw[QyL,layG,layG,Qhf tt _ l g,gsz]
  rw[show n+szs a.args+2+gsz l+1=n+(szs a.args+2+gsz l)+1 by omega]
  simp only[QyL,Qze]
theorem Qlb{tt:TypeId}:∀{m m':Nat} (l:List G) (j:Nat) (b b':AB),(layG tt m l)[j]? = some b->(layG tt m' l)[j]? = some b'->b.live=false->b' = .dead
 |m,m',[],j,b,b',h1,h2,hl=>by simp[layG]at h1
 |m,m',g::l,j,b,b',h1,h2,hl=>by
  rw[layG]at h1 h2
  cases j with
  |zero=>cases h1;cases h2;rfl
  |succ j =>
   rw[Qyk,QzC,Yq]at h1 h2
   split at h1
   ·rename_i hj
    rw[Qzh hj]at h2
    exact Qk8 g.args j b b' h1 h2 hl
   ·rename_i hj
    rw[Qzf hj]at h2
    cases hk:j - szs g.args with
    |zero=>rw[hk]at h1 h2;cases h1;cases h2;rfl
    |succ k =>
     rw[hk,Qyk]at h1 h2
     exact Qlb l k b b' h1 h2 hl
theorem Qnq{n:Nat}{τ:Nat->Nat}{h2:AH}{tt:TypeId}:∀{m m':Nat} (l:List G),Sh n τ h2 m m' (gsz l)->∀(j:Nat) b b',(layG tt m l)[j]? = some b->(layG tt m' l)[j]? = some b'->PkB n τ h2 b b'
 |m,m',[],H,j,b,b',h1,h3=>by simp[layG]at h1
 |m,m',g::l,H,j,b,b',h1,h3=>by
  rw[gsz]at H
  rw[layG]at h1 h3
  cases j with
  |zero=>cases h1;cases h3;exact .inl rfl
  |succ j =>
   rw[Qyk,QzC,Yq]at h1 h3
   split at h1
   ·rename_i hj
    rw[Qzh hj]at h3
    have hs:=H.sub (k:=1) (l:=szs g.args) (a:=m+1) (b:=m'+1) (by omega) rfl rfl
    exact Qf6 g.args (QmI hs) hs j b b' h1 h3
   ·rename_i hj
    rw[Qzf hj]at h3
    cases hk:j - szs g.args with
    |zero=>rw[hk]at h1 h3;cases h1;cases h3;exact .inl rfl
    |succ k =>
     rw[hk,Qyk]at h1 h3
     exact Qnq l (H.sub (k:=szs g.args+2) (l:=gsz l) (a:=m+szs g.args+2) (b:=m'+szs g.args+2) (by omega) (by omega) (by omega)) k b b' h1 h3
theorem Qti{n:Nat}{τ:Nat->Nat}{h2:AH}{vw:Nat->G->AV}{w:Nat}(hw:∀m g,(vw m g).cells.length=w)(hp:∀m m' g,Sh n τ h2 m m' (szs g.args)->∀(j:Nat) a a',(vw m g).cells[j]? = some a->(vw m' g).cells[j]? = some a'->Pk n τ h2 a a') :
  ∀{m m':Nat} (l:List G),Sh n τ h2 m m' (gsz l)->(∀y∈lvG vw m' l,y.cells.length=w)/\(flat (lvG vw m' l)).length=(flat (lvG vw m l)).length/\∀(j:Nat) a a',(flat (lvG vw m l))[j]? = some a->(flat (lvG vw m' l))[j]? = some a'->Pk n τ h2 a a'
 |m,m',[],H=>⟨by simp[lvG],rfl,fun j a a' h1=>by simp[lvG,flat]at h1⟩
 |m,m',g::l,H=>by
  rw[gsz]at H
  have h1:=hp (m+1) (m'+1) g (H.sub (k:=1) (l:=szs g.args) (by omega) rfl rfl)
  obtain⟨h3,h4,h5⟩:=Qti hw hp l (H.sub (k:=szs g.args+2) (l:=gsz l) (a:=m+szs g.args+2) (b:=m'+szs g.args+2) (by omega) (by omega) (by omega))
  refine⟨fun y hy=>?_,?_,fun j a a' ha hb=>?_⟩
  ·rw[lvG,Qzn]at hy
   rcases hy with rfl|hy
   ·exact hw _ _
   ·exact h3 y hy
  ·rw[lvG,lvG,QQ,QQ,Qza,Qza,h4,hw,hw]
  ·rw[lvG,QQ,QzC,hw]at ha hb
   split at ha
   ·rename_i hj;rw[Qzh hj]at hb;exact h1 j a a' ha hb
   ·rename_i hj;rw[Qzf hj]at hb;exact h5 _ a a' ha hb
theorem Qwz{tt:TypeId}{A N:AH}{n:Nat}(hn:A.length=n)(hb:∀b∈A,b.Below n)(g:Nat)(l:List G){vw:Nat->G->AV}{w:Nat}(hw:∀m g,(vw m g).cells.length=w)
  (hp:∀(τ:Nat->Nat) (h2:AH) m m' g,Sh n τ h2 m m' (szs g.args)->∀(j:Nat) a a',(vw m g).cells[j]? = some a->(vw m' g).cells[j]? = some a'->Pk n τ h2 a a') (own:Option Nat) (hN:At N g (layG tt (n+g) l)) :
  Pack n (tauG n g) (A++N) (A++layG tt n l)/\Pk n (tauG n g) (A++layG tt n l) (.sl w (lvG vw (n+g) l) own) (.sl w (lvG vw n l) none):=by
 have hsh:=shG (L':=layG tt n l) hn g
 rw[QB]at hsh
 obtain⟨h1,h2,h3⟩:=Qti hw (hp _ _) l hsh
 exact⟨QiR hn hb (by rw[QB,QB]) hN (fun h j b b' h1 h2=>Qnq l hsh j b b' h1 h2) (fun j b b' h1 h2 hl=>Qlb l j b b' h1 h2 hl),.sl (by rw[Zi,Zi]) h1 h2 h3⟩
theorem Qt1(m:Nat)(g:G):(gv m g).cells.length=3:=rfl
theorem Qws{n:Nat}{τ:Nat->Nat}{h2:AH}{m m':Nat}{g:G}(H:Sh n τ h2 m m' (szs g.args)):∀(j:Nat) a a',(gv m g).cells[j]? = some a->(gv m' g).cells[j]? = some a'->Pk n τ h2 a a':=fun j a a' h1 h3=>by
 match j,h1,h3 with
 |0,h1,h3=>cases h1;cases h3;exact .keep (.v _)
 |1,h1,h3=>cases h1;cases h3;exact .keep (.v _)
 |2,h1,h3=>cases h1;cases h3;exact QnH H
 |j+3,h1,h3=>simp[gv,AV.cells]at h1
def av(n:Nat)(g:G):AV:=.agg [.v (.string g.name),lsl n g.args]
theorem QtJ(m:Nat)(g:G):(av m g).cells.length=2:=rfl
theorem Qv5{n:Nat}{τ:Nat->Nat}{h2:AH}{m m':Nat}{g:G}(H:Sh n τ h2 m m' (szs g.args)):∀(j:Nat) a a',(av m g).cells[j]? = some a->(av m' g).cells[j]? = some a'->Pk n τ h2 a a':=fun j a a' h1 h3=>by
 match j,h1,h3 with
 |0,h1,h3=>cases h1;cases h3;exact .keep (.v _)
 |1,h1,h3=>cases h1;cases h3;exact QnH H
 |j+2,h1,h3=>simp[av,AV.cells]at h1
theorem Qia(g:G){n:Nat}{h:AH}(hA:At h n (layA 69 n g.args)):Qp Tryz.prog 61 [gv n g] h fun o h'=>o = .ret (.b (Qo g))/\h'=h:=by
 refine Qio (args':=[g.goal]) rfl (fun j a a' h1 h2=>?_) (Z1 g [])
 match j,h1,h2 with
 |0,h1,h2 =>
  cases h1;cases h2
  refine .agg rfl fun j a a' h1 h2=>?_
  match j,h1,h2 with
  |0,h1,h2=>cases h1;cases h2;exact .keep (.v _)
  |1,h1,h2=>cases h1;cases h2;exact .keep (.v _)
  |2,h1,h2=>cases h1;cases h2;exact QjJ (Qzy _) hA
  |j+3,h1,h2=>simp at h1
 |j+1,h1,h2=>simp at h1
theorem Qh9(g:G){n:Nat}{h:AH}(hA:At h n (layA 69 n g.args)):Qp Tryz.prog 80 [av n g] h fun o h'=>o = .ret (.b (Qt g))/\h'=h:=by
 refine Qio (args':=[g.atom]) rfl (fun j a a' h1 h2=>?_) (ZZ g [])
 match j,h1,h2 with
 |0,h1,h2 =>
  cases h1;cases h2
  refine .agg rfl fun j a a' h1 h2=>?_
  match j,h1,h2 with
  |0,h1,h2=>cases h1;cases h2;exact .keep (.v _)
  |1,h1,h2=>cases h1;cases h2;exact QjJ (Qzy _) hA
  |j+2,h1,h2=>simp at h1
 |j+1,h1,h2=>simp at h1
end Go.Proofs.YtenheconhibonaaGreatDoor.Ab
namespace Go.Proofs.YtenheconhibonaaGreatDoor.Ab
open Go.Proofs
def GsQ(h:AH)(P:Pz)(vw:Nat->G->AV)(w:Nat):PR (List G)->AOut->AH->Prop
 | .ok l s,o,h'=>o = .ret (.sl w (lvG vw h.length l) none)/\h'=ph h P s++layG 69 h.length l
 | .err p e,o,h'=>o = .panic (Fl p e)/\∃s,h'=ph h P s
def GsC(h:AH)(P:Pz)(vw:Nat->G->AV)(w:Nat):PR (List G)->AOut->AH->Prop
 | .ok l s,o,h'=>∃own N,o = .ret (.sl w (lvG vw (h.length+1) l) own)/\h'=ph h P s++N/\At N 1 (layG 69 (h.length+1) l)
 | .err p e,o,h'=>o = .panic (Fl p e)/\∃s,h'=ph h P s
theorem Qnh{P:Pz}{f:FuncId}{args:List AV}{h:AH}{s:PS}(H:P.ok h){vw:Nat->G->AV}{w:Nat}(hw:∀m g,(vw m g).cells.length=w)
  (hp:∀(τ:Nat->Nat) (h2:AH) m m' g,Sh h.length τ h2 m m' (szs g.args)->∀(j:Nat) a a',(vw m g).cells[j]? = some a->(vw m' g).cells[j]? = some a'->Pk h.length τ h2 a a') {r:PR (List G)} (C:Qp Tryz.prog f args (ph h P s) (GsC h P vw w r)):Qp Tryz.prog f args (ph h P s) (GsQ h P vw w r):=by
 refine QbT C fun hb0 o h' hQ=>?_
 cases r with
 |err p e=>exact .inl hQ
 |ok t s2 =>
  have hb:∀b∈ph h P s2,b.Below h.length:=fun b hb=>by
   rw[QE]at hb0
   obtain⟨k,hk⟩:=Qab hb
   rcases Qdp H (s0:=s) hk with h1|h1
   ·exact hb0 k b h1
   ·exact h1
  rw[QE]
  obtain⟨own,N,rfl,rfl,hN⟩:=hQ
  obtain⟨K,hk⟩:=Qwz (QE h P s2) hb 1 t hw hp own hN
  exact .inr ⟨_,_,_,_,rfl,K,hk,rfl,rfl⟩
section
variable{P:Pz}{s:PS}(hW:Wst P.all s){h:AH}(H:P.ok h)(hN:P.all.length<=1000000)(hD:TkOk P.all)(L:AH)
include hW H hN
theorem QhC(n m:Int)(hm:¬m<=n):Qp Tryz.prog 77 [.ptr P.i 0 0,.i n,.i m] (ph h P s++L) fun o h'=>o = .ret (.tup [])/\h'=ph h P s++L:=by
 have:=QsN hW (H.app L) hN n m hm
 simpa only[QP H]using this
theorem Qj3(n m:Int)(hm:m<=n):Qp Tryz.prog 77 [.ptr P.i 0 0,.i n,.i m] (ph h P s++L) fun o h'=>o = .panic (Fl s.tk.pos 6)/\h'=ph h P s++L:=by
 have:=Qut hW (H.app L) hN n m hm
 simpa only[QP H]using this
include hD
theorem Qt0{g:G}{s2:PS}(e:ZQ s = .ok g s2){k:Nat}(hk:k=h.length+L.length):Qp Tryz.prog 108 [.ptr P.i 0 0] (ph h P s++L) fun o h'=>o = .ret (gv k g)/\h'=ph h P s2++(L++layA 69 k g.args):=by
 have:=QkX hW (H.app L) hN hD
 rw[e,QP H]at this
 subst hk
 exact this.mono fun o h' q=>by simpa only[LQ,QP H,Qza,Qze]using q
theorem Qsf{p c:Int}(e:ZQ s = .err p c):Qp Tryz.prog 108 [.ptr P.i 0 0] (ph h P s++L) fun o h'=>o = .panic (Fl p c)/\∃s2:PS,h'=ph h P s2++L:=by
 have:=QkX hW (H.app L) hN hD
 rw[e,QP H]at this
 exact this.mono fun o h' q=>by simpa only[LQ,QP H]using q
end
section
variable{P:Pz}{s:PS}(hW:Wst P.all s){h:AH}(H:P.ok h)(hN:P.all.length<=1000000)(hD:TkOk P.all)
include hW H hN hD
theorem Qqe(most:Nat)(hmost:most<=100):Qp Tryz.prog 67 [.ptr P.i 0 0,.i (most:Nat)] (ph h P s) (GsC h P gv 3 (YP most s)):=by
 have f1:=QE h P
 have f3:=XF h P
 have f4:=Yp h P
 have f5:=Q8 h P
 have f6:=XR h P
 generalize hR:YP most s=R
 rw[YP]at hR
 refine Qc Tryz.func67 rfl Tryz.call67 Tryz.ntmps67 Tryz.results67 (by simp) ?_
 repeat refine Qa ?_;simp only[go_sem,seval]
 refine Zu 5 53 3 rfl ?_
 obtain⟨I,hI⟩:∃I:Nat->AS->Prop,I=fun m' s=>∃(l:List G) (s2:PS) (X:AH),m'=s2.toks.length/\Wst P.all s2/\l.length<=most/\(∃k,s2.toks.length+1<=k/\YU most k l s2=R)/\X.length=gsz l/\At X 0 (layG 69 (h.length+1) l)/\s.tm 0 = .ptr P.i 0 0/\s.tm 1 = .i (most:Nat)/\s.tm 5 = .sl 3 (lvG gv (h.length+1) l) (some h.length) /\
  s.h=ph h P s2++(.grow 53 3 l.length::X):=⟨_,rfl⟩;refine Qv I ?_ (m:=s.toks.length) ?_
 ·intro m' s hs;rw[hI]at hs;obtain⟨tm,hp⟩:=s;dsimp only at hs;obtain⟨l,s2,X,rfl,hW2,hlm,⟨k,hk,hR2⟩,hX,hAt,t0,t1,t5,rfl⟩:=hs
  have hk1:k=k - 1+1:=by omega
  have hi2:=ph_i H s2
  simp only[pB]at hi2
  have elen:(lvG gv (h.length+1) l).length=l.length:=Zi gv (h.length+1) l
  by_cases hm:most<=l.length
  ·have hRR:R = .err s2.tk.pos 6:=by rw[<-hR2,hk1,YU,Qzh hm]
   subst hRR
   have cr:=fun L=>Qj3 hW2 H hN L (l.length:Nat) (most:Nat) (by omega)
   repeat (first|refine FunW.pan (FunW.call (cr _)) ?_|refine Qa ?_);simp only[go_sem,seval,t0,t1,t5,hi2,elen]
   exact QG H s s2 _ _ _ ⟨rfl,_,rfl⟩
  ·have cr:=fun L=>QhC hW2 H hN L (l.length:Nat) (most:Nat) (by omega)
   have cn:=nextL hW2 (Yg H s2)
   have e1:=Tk.Qxs s2.tk
   have e2:=Tk.Qxt s2.tk
   have x1:∀(Y:AH),(X++Y)[X.length]? = Y[0]? := fun Y=>XP _ _
   have x2:∀(Y:AH) k,(X++Y)[X.length+k]? = Y[k]? := fun Y k=>hget _ _ _
   have x3:∀(Y:AH) y,(X++Y).set X.length y=X++Y.set 0 y:=fun Y y=>Qaa _ _ _
   have x4:∀(Y:AH) k y,(X++Y).set (X.length+k) y=X++Y.set k y:=fun Y k y=>hset _ _ _ _
   cases hr:ZQ s2 with
   |err p e =>
    have hRR:R = .err p e:=by rw[<-hR2,hk1,YU,Qzf hm,hr];rfl
    subst hRR
    have cg:=fun L=>Qsf hW2 H hN hD L hr
    repeat (first|refine FunW.Qxr (cr _) ?_|refine FunW.Qxr (cn _) ?_|refine FunW.panE (FunW.call (cg _)) fun r=>?_|refine Qa ?_);simp only[go_sem,seval,t0,t1,t5,hi2,elen,e1,e2,f1,f4,f6,x1,x3]
    exact QG H s r _ _ _ ⟨rfl,_,rfl⟩
   |ok g s3 =>
    have hW3:Wst P.all s3:=Kp.Ps.ok (n:=wdOf P.all) (Kp.goalT_ps trivial) hW2 hr
    have hl3:=(Qg2 s2 hW2.wf g s3 hr).2
    have hi3:=ph_i H s3
    simp only[pB]at hi3
    have cg:=fun c d=>Qt0 hW2 H hN hD (c::(X++[d])) hr (k:=h.length+1+gsz l+1) (by simp only[Qyw,Qza,Qyx,hX];omega)
    simp only[QyL,Qze,QyK]at cg
    have cR:∀(c d:AB) (Y:AH),Qp Tryz.prog 61 [gv (h.length+1+gsz l+1) g] (ph h P s3++(c::(X++(d::(layA 69 (h.length+1+gsz l+1) g.args++Y))))) fun o h'=>o = .ret (.b (Qo g))/\h'=ph h P s3++(c::(X++(d::(layA 69 (h.length+1+gsz l+1) g.args++Y)))):=fun c d Y=>Qia g (by
     have:=At.base (At.mid (c::(X++[d])) (layA 69 (h.length+1+gsz l+1) g.args) Y (n:=1+gsz l+1) (by simp only[Qyw,Qza,Qyx,hX];omega)) (QE h P s3)
     rw[show h.length+(1+gsz l+1)=h.length+1+gsz l+1 by omega]at this
     simpa only[QyL,Qze,QyK]using this)
    have e3:(gv (h.length+1+gsz l+1) g).cells=[.i g.op,.v (.string g.name),lsl (h.length+1+gsz l+1) g.args]:=rfl
    have e4:(gv (h.length+1+gsz l+1) g).isAgg=true:=rfl
    have y1:∀(Y:AH),(layA 69 (h.length+1+gsz l+1) g.args++Y)[(layA 69 (h.length+1+gsz l+1) g.args).length]? = Y[0]? := fun Y=>XP _ _
    have y2:∀(Y:AH) y,(layA 69 (h.length+1+gsz l+1) g.args++Y).set (layA 69 (h.length+1+gsz l+1) g.args).length y=layA 69 (h.length+1+gsz l+1) g.args++Y.set 0 y:=fun Y y=>Qaa _ _ _
    cases hg:Qo g with
    |false =>
     have hRR:R = .err s2.tk.pos 6:=by rw[<-hR2,hk1,YU,Qzf hm,hr];show(if Qo g=false then _ else _)=_;rw[Qzh hg]
     subst hRR
     have cf:=Za s2.tk 6
     rw[hg]at cR
     repeat (first|refine FunW.Qxr (cr _) ?_|refine FunW.Qxr (cn _) ?_|refine FunW.Qxr (cg _ _) ?_|refine FunW.Qxr (cR _ _ _) ?_|refine Qa ?_);simp only[go_sem,seval,t0,t1,t5,hi2,elen,e1,e2,e3,e4,f1,f4,f6,x1,x2,x3,x4,y1,y2,QF,Qze]
     refine Q2 4 [(0,1),(1,0),(2,0),(3,0)] mixed rfl rfl rfl (by kernel_rfl) (fun v h'=>v=Fl s2.tk.pos 6/\∃L,h'=ph h P s3++L) ?_ ?_
     ·rintro tm v h' ⟨rfl,L,rfl⟩
      exact QG H s s3 _ _ _ ⟨rfl,_,rfl⟩
     ·simp only[go_sem,seval,t0,hi3,e1,e2,f4,x1]
      exact fun _=>(FunW.call (cf _ _)).mono (by rintro _ _ ⟨rfl,rfl⟩;exact⟨_,rfl,rfl,_,rfl⟩)
    |true =>
     rw[hg]at cR
     have hm1:(l.length+1) * 48<=140737488355328:=by omega
     have hm2:l.length+1<=maxLen:=by simp only[maxLen];omega
     have hR3:(if s3.is Yb=true then YU most (k - 1) (l++[g]) s3.nx else PR.ok (l++[g]) s3)=R:=by
      rw[<-hR2,hk1,YU,Qzf hm,hr]
      show _=(if Qo g=false then _ else _)
      rw[hg];rfl
     have hX2:∀c d:AB,(X++(c::(layA 69 (h.length+1+gsz l+1) g.args++[d]))).length=gsz (l++[g]):=fun c d=>by
      simp only[Qza,Qyw,Qyx,Yq,hX,Qam,gsz];try omega
     have hA2:∀c d:AB,At (X++(c::(layA 69 (h.length+1+gsz l+1) g.args++[d]))) 0 (layG 69 (h.length+1) (l++[g])):=fun c d=>by
      rw[Qhf]
      refine At.both (hAt.app _) (At.cons (fun q=>by cases q) ?_)
      rw[QB]
      have:=At.mid (X++[c]) (layA 69 (h.length+1+gsz l+1) g.args) [d] (n:=0+gsz l+1) (by simp only[Qza,Qyw,Qyx,hX];omega)
      refine At.both ?_ (At.cons (fun q=>by cases q) (At.nil _ _))
      simpa only[Qze,QyL,QyK]using this
     have elv:=QjH gv (h.length+1) l g
     cases hc:s3.is Yb with
     |true =>
      have cs:=fun L=>QaE hW3 H hN L {data:=#[44]} (by rw[Lib.toList_data];exact hc)
      rw[hc,Qzh rfl]at hR3
      have hln3:=XX hW3.wf (PS.Qxv hc)
      repeat (first|refine FunW.Qxr (cr _) ?_|refine FunW.Qxr (cn _) ?_|refine FunW.Qxr (cg _ _) ?_|refine FunW.Qxr (cR _ _ _) ?_|refine FunW.Qxr (cs _) ?_|refine Qa ?_);simp only[go_sem,seval,t0,t1,t5,hi2,hi3,elen,e1,e2,e3,e4,f1,f3,f4,f5,f6,x1,x2,x3,x4,y1,y2,QF,Qze,hm1,hm2]
      refine QZ.mk (m':=s3.nx.toks.length) (by omega) ?_
      rw[hI]
      refine⟨l++[g],s3.nx,X++(.cells 127 3 [s2.tk.av]::(layA 69 (h.length+1+gsz l+1) g.args++[.cells 53 3 [gv (h.length+1+gsz l+1) g]])),rfl,hW3.nx,by simp;omega,⟨k - 1,by omega,hR3⟩,hX2 _ _,hA2 _ _,t0,t1,?_,?_⟩
      ·rw[elv];rfl
      ·rw[Qza];rfl
     |false =>
      have cs:=fun L=>Qbh hW3 H hN L {data:=#[44]} (by rw[Lib.toList_data];exact hc)
      rw[hc,Qzf (by simp)]at hR3
      subst hR3
      repeat (first|refine FunW.Qxr (cr _) ?_|refine FunW.Qxr (cn _) ?_|refine FunW.Qxr (cg _ _) ?_|refine FunW.Qxr (cR _ _ _) ?_|refine FunW.Qxr (cs _) ?_|refine Qa ?_);simp only[go_sem,seval,t0,t1,t5,hi2,hi3,elen,e1,e2,e3,e4,f1,f3,f4,f5,f6,x1,x2,x3,x4,y1,y2,QF,Qze,hm1,hm2]
      rw[<-elv]
      exact .inr ⟨_,_,rfl,rfl,At.tail (hA2 _ _)⟩
 ·rw[hI]
  exact⟨[],s,[],rfl,hW,Qzy _,⟨_,Qzl _,hR⟩,rfl,At.nil _ _,rfl,rfl,by simp only[upd,↓reduceIte,QE];rfl,rfl⟩
end
end Go.Proofs.YtenheconhibonaaGreatDoor.Ab
namespace Go.Proofs.YtenheconhibonaaGreatDoor.Ab
open Go.Proofs
section
variable{P:Pz}{s:PS}(hW:Wst P.all s){h:AH}(H:P.ok h)(hN:P.all.length<=1000000)(hD:TkOk P.all)(L:AH)
include hW H hN hD
theorem QtI{g:G}{s2:PS}(e:Zq XD s = .ok g s2){k:Nat}(hk:k=h.length+L.length):Qp Tryz.prog 148 [.ptr P.i 0 0] (ph h P s++L) fun o h'=>o = .ret (av k g)/\h'=ph h P s2++(L++layA 69 k g.args):=by
 have:=QkB hN hD hW (H.app L)
 rw[e,QP H]at this
 subst hk
 exact this.mono fun o h' q=>by simpa only[GQ,av,QP H,Qza,Qze]using q
theorem Qr2{p c:Int}(e:Zq XD s = .err p c):Qp Tryz.prog 148 [.ptr P.i 0 0] (ph h P s++L) fun o h'=>o = .panic (Fl p c)/\∃s2:PS,h'=ph h P s2++L:=by
 have:=QkB hN hD hW (H.app L)
 rw[e,QP H]at this
 exact this.mono fun o h' q=>by simpa only[GQ,QP H]using q
end
section
variable{P:Pz}{s:PS}(hW:Wst P.all s){h:AH}(H:P.ok h)(hN:P.all.length<=1000000)(hD:TkOk P.all)
include hW H hN hD
theorem Qqg(pre:Nat)(hpre:pre<=100):Qp Tryz.prog 117 [.ptr P.i 0 0,.i (pre:Nat)] (ph h P s) (GsC h P av 2 (Yt pre s)):=by
 have f1:=QE h P
 have f3:=XF h P
 have f4:=Yp h P
 have f5:=Q8 h P
 have f6:=XR h P
 generalize hR:Yt pre s=R
 rw[Yt]at hR
 refine Qc Tryz.func117 rfl Tryz.call117 Tryz.ntmps117 Tryz.results117 (by simp) ?_
 repeat refine Qa ?_;simp only[go_sem,seval]
 refine Zu 5 66 2 rfl ?_
 obtain⟨I,hI⟩:∃I:Nat->AS->Prop,I=fun m' s=>∃(l:List G) (s2:PS) (X:AH),m'=s2.toks.length/\Wst P.all s2/\l.length<=4/\(∃k,s2.toks.length+1<=k/\YO pre k l s2=R)/\X.length=gsz l/\At X 0 (layG 69 (h.length+1) l)/\s.tm 0 = .ptr P.i 0 0/\s.tm 1 = .i (pre:Nat)/\s.tm 5 = .sl 2 (lvG av (h.length+1) l) (some h.length) /\
  s.h=ph h P s2++(.grow 66 2 l.length::X):=⟨_,rfl⟩;refine Qv I ?_ (m:=s.toks.length) ?_
 ·intro m' s hs;rw[hI]at hs;obtain⟨tm,hp⟩:=s;dsimp only at hs;obtain⟨l,s2,X,rfl,hW2,hlm,⟨k,hk,hR2⟩,hX,hAt,t0,t1,t5,rfl⟩:=hs
  have hk1:k=k - 1+1:=by omega
  have hi2:=ph_i H s2
  simp only[pB]at hi2
  have elen:(lvG av (h.length+1) l).length=l.length:=Zi av (h.length+1) l
  have w1:IntKind.i64.wrap ((pre:Nat)+(l.length:Nat):Int)=((pre+l.length:Nat):Int):=by rw[Xk (by omega)];omega
  by_cases hm:4<=pre+l.length
  ·have hRR:R = .err s2.tk.pos 6:=by rw[<-hR2,hk1,YO,Qzh hm]
   subst hRR
   have cr:=fun L=>Qj3 hW2 H hN L ((pre+l.length:Nat):Int) 4 (by omega)
   repeat (first|refine FunW.pan (FunW.call (cr _)) ?_|refine Qa ?_);simp only[go_sem,seval,t0,t1,t5,w1,hi2,elen]
   exact QG H s s2 _ _ _ ⟨rfl,_,rfl⟩
  ·have cr:=fun L=>QhC hW2 H hN L ((pre+l.length:Nat):Int) 4 (by omega)
   have cn:=nextL hW2 (Yg H s2)
   have e1:=Tk.Qxs s2.tk
   have e2:=Tk.Qxt s2.tk
   have x1:∀(Y:AH),(X++Y)[X.length]? = Y[0]? := fun Y=>XP _ _
   have x2:∀(Y:AH) k,(X++Y)[X.length+k]? = Y[k]? := fun Y k=>hget _ _ _
   have x3:∀(Y:AH) y,(X++Y).set X.length y=X++Y.set 0 y:=fun Y y=>Qaa _ _ _
   have x4:∀(Y:AH) k y,(X++Y).set (X.length+k) y=X++Y.set k y:=fun Y k y=>hset _ _ _ _
   cases hr:Zq XD s2 with
   |err p e =>
    have hRR:R = .err p e:=by rw[<-hR2,hk1,YO,Qzf hm,hr];rfl
    subst hRR
    have cg:=fun L=>Qr2 hW2 H hN hD L hr
    repeat (first|refine FunW.Qxr (cr _) ?_|refine FunW.Qxr (cn _) ?_|refine FunW.panE (FunW.call (cg _)) fun r=>?_|refine Qa ?_);simp only[go_sem,seval,t0,t1,t5,w1,hi2,elen,e1,e2,f1,f4,f6,x1,x3]
    exact QG H s r _ _ _ ⟨rfl,_,rfl⟩
   |ok g s3 =>
    have hW3:Wst P.all s3:=Kp.Ps.ok (n:=wdOf P.all) (Kp.atom_ps trivial (Kp.termT_ps trivial)) hW2 hr
    have hl3:=(QfX (QaF.less (by omega)) s2 hW2.wf g s3 hr).2
    have hi3:=ph_i H s3
    simp only[pB]at hi3
    have cg:=fun c d=>QtI hW2 H hN hD (c::(X++[d])) hr (k:=h.length+1+gsz l+1) (by simp only[Qyw,Qza,Qyx,hX];omega)
    simp only[QyL,Qze,QyK]at cg
    have cR:∀(c d:AB) (Y:AH),Qp Tryz.prog 80 [av (h.length+1+gsz l+1) g] (ph h P s3++(c::(X++(d::(layA 69 (h.length+1+gsz l+1) g.args++Y))))) fun o h'=>o = .ret (.b (Qt g))/\h'=ph h P s3++(c::(X++(d::(layA 69 (h.length+1+gsz l+1) g.args++Y)))):=fun c d Y=>Qh9 g (by
     have:=At.base (At.mid (c::(X++[d])) (layA 69 (h.length+1+gsz l+1) g.args) Y (n:=1+gsz l+1) (by simp only[Qyw,Qza,Qyx,hX];omega)) (QE h P s3)
     rw[show h.length+(1+gsz l+1)=h.length+1+gsz l+1 by omega]at this
     simpa only[QyL,Qze,QyK]using this)
    have e3:(av (h.length+1+gsz l+1) g).cells=[.v (.string g.name),lsl (h.length+1+gsz l+1) g.args]:=rfl
    have e4:(av (h.length+1+gsz l+1) g).isAgg=true:=rfl
    have y1:∀(Y:AH),(layA 69 (h.length+1+gsz l+1) g.args++Y)[(layA 69 (h.length+1+gsz l+1) g.args).length]? = Y[0]? := fun Y=>XP _ _
    have y2:∀(Y:AH) y,(layA 69 (h.length+1+gsz l+1) g.args++Y).set (layA 69 (h.length+1+gsz l+1) g.args).length y=layA 69 (h.length+1+gsz l+1) g.args++Y.set 0 y:=fun Y y=>Qaa _ _ _
    cases hg:Qt g with
    |false =>
     have hRR:R = .err s2.tk.pos 6:=by rw[<-hR2,hk1,YO,Qzf hm,hr];show(if Qt g=false then _ else _)=_;rw[Qzh hg]
     subst hRR
     have cf:=Za s2.tk 6
     rw[hg]at cR
     repeat (first|refine FunW.Qxr (cr _) ?_|refine FunW.Qxr (cn _) ?_|refine FunW.Qxr (cg _ _) ?_|refine FunW.Qxr (cR _ _ _) ?_|refine Qa ?_);simp only[go_sem,seval,t0,t1,t5,w1,hi2,elen,e1,e2,e3,e4,f1,f4,f6,x1,x2,x3,x4,y1,y2,QF,Qze]
     refine Q2 4 [(0,1),(1,0),(2,0),(3,0)] mixed rfl rfl rfl (by kernel_rfl) (fun v h'=>v=Fl s2.tk.pos 6/\∃L,h'=ph h P s3++L) ?_ ?_
     ·rintro tm v h' ⟨rfl,L,rfl⟩
      exact QG H s s3 _ _ _ ⟨rfl,_,rfl⟩
     ·simp only[go_sem,seval,t0,hi3,e1,e2,f4,x1]
      exact fun _=>(FunW.call (cf _ _)).mono (by rintro _ _ ⟨rfl,rfl⟩;exact⟨_,rfl,rfl,_,rfl⟩)
    |true =>
     rw[hg]at cR
     have hm1:(l.length+1) * 40<=140737488355328:=by omega
     have hm2:l.length+1<=maxLen:=by simp only[maxLen];omega
     have hR3:(if s3.is Yb=true then YO pre (k - 1) (l++[g]) s3.nx else PR.ok (l++[g]) s3)=R:=by
      rw[<-hR2,hk1,YO,Qzf hm,hr]
      show _=(if Qt g=false then _ else _)
      rw[hg];rfl
     have hX2:∀c d:AB,(X++(c::(layA 69 (h.length+1+gsz l+1) g.args++[d]))).length=gsz (l++[g]):=fun c d=>by
      simp only[Qza,Qyw,Qyx,Yq,hX,Qam,gsz];try omega
     have hA2:∀c d:AB,At (X++(c::(layA 69 (h.length+1+gsz l+1) g.args++[d]))) 0 (layG 69 (h.length+1) (l++[g])):=fun c d=>by
      rw[Qhf]
      refine At.both (hAt.app _) (At.cons (fun q=>by cases q) ?_)
      rw[QB]
      have:=At.mid (X++[c]) (layA 69 (h.length+1+gsz l+1) g.args) [d] (n:=0+gsz l+1) (by simp only[Qza,Qyw,Qyx,hX];omega)
      refine At.both ?_ (At.cons (fun q=>by cases q) (At.nil _ _))
      simpa only[Qze,QyL,QyK]using this
     have elv:=QjH av (h.length+1) l g
     cases hc:s3.is Yb with
     |true =>
      have cs:=fun L=>QaE hW3 H hN L {data:=#[44]} (by rw[Lib.toList_data];exact hc)
      rw[hc,Qzh rfl]at hR3
      have hln3:=XX hW3.wf (PS.Qxv hc)
      repeat (first|refine FunW.Qxr (cr _) ?_|refine FunW.Qxr (cn _) ?_|refine FunW.Qxr (cg _ _) ?_|refine FunW.Qxr (cR _ _ _) ?_|refine FunW.Qxr (cs _) ?_|refine Qa ?_);simp only[go_sem,seval,t0,t1,t5,w1,hi2,hi3,elen,e1,e2,e3,e4,f1,f3,f4,f5,f6,x1,x2,x3,x4,y1,y2,QF,Qze,hm1,hm2]
      refine QZ.mk (m':=s3.nx.toks.length) (by omega) ?_
      rw[hI]
      refine⟨l++[g],s3.nx,X++(.cells 127 3 [s2.tk.av]::(layA 69 (h.length+1+gsz l+1) g.args++[.cells 66 2 [av (h.length+1+gsz l+1) g]])),rfl,hW3.nx,by simp;omega,⟨k - 1,by omega,hR3⟩,hX2 _ _,hA2 _ _,t0,t1,?_,?_⟩
      ·rw[elv];rfl
      ·rw[Qza];rfl
     |false =>
      have cs:=fun L=>Qbh hW3 H hN L {data:=#[44]} (by rw[Lib.toList_data];exact hc)
      rw[hc,Qzf (by simp)]at hR3
      subst hR3
      repeat (first|refine FunW.Qxr (cr _) ?_|refine FunW.Qxr (cn _) ?_|refine FunW.Qxr (cg _ _) ?_|refine FunW.Qxr (cR _ _ _) ?_|refine FunW.Qxr (cs _) ?_|refine Qa ?_);simp only[go_sem,seval,t0,t1,t5,w1,hi2,hi3,elen,e1,e2,e3,e4,f1,f3,f4,f5,f6,x1,x2,x3,x4,y1,y2,QF,Qze,hm1,hm2]
      rw[<-elv]
      exact .inr ⟨_,_,rfl,rfl,At.tail (hA2 _ _)⟩
 ·rw[hI]
  exact⟨[],s,[],rfl,hW,Qzy _,⟨_,Qzl _,hR⟩,rfl,At.nil _ _,rfl,rfl,by simp only[upd,↓reduceIte,QE];rfl,rfl⟩
theorem Qg4(most:Nat)(hmost:most<=100):Qp Tryz.prog 67 [.ptr P.i 0 0,.i (most:Nat)] (ph h P s) (GsQ h P gv 3 (YP most s)) :=
 Qnh H Qt1 (fun _ _ _ _ _ h=>Qws h) (Qqe hW H hN hD most hmost)
theorem QiD(pre:Nat)(hpre:pre<=100):Qp Tryz.prog 117 [.ptr P.i 0 0,.i (pre:Nat)] (ph h P s) (GsQ h P av 2 (Yt pre s)) :=
 Qnh H QtJ (fun _ _ _ _ _ h=>Qv5 h) (Qqg hW H hN hD pre hpre)
end
end Go.Proofs.YtenheconhibonaaGreatDoor.Ab
namespace Go.Proofs.YtenheconhibonaaGreatDoor.Ab
open Go.Proofs
mutual
/-- a parsed term: what is no operator and no name has no arguments -/
def T.ps:T->Prop
 | .mk k _ _ bs=>(k=0\/k=1\/k=2)/\(k≠2->bs=[])/\pss bs
def pss:List T->Prop
 |[]=>True
 |t::l=>t.ps/\pss l
end
theorem Qrb:∀{l:List T} {k:Nat} (h:k<l.length),pss l->(l[k]).ps
 |t::l,0,_,hp=>by rw[pss]at hp;exact hp.1
 |t::l,k+1,h,hp=>by rw[pss]at hp;exact Qrb (l:=l) (by simpa using h) hp.2
theorem T.Qyg{t:T}(h:t.ps):(t.kind=0\/t.kind=1\/t.kind=2)/\(t.kind≠2->t.args=[])/\pss t.args:=by
 cases t;rw[T.ps]at h;exact h
section
variable{σ:Type}(g:σ->Int->Int×σ)
mutual
theorem T.Qx6:∀(s:σ) (t:T),(T.mapS g s t).1.sz=t.sz
 |s,.mk k i n l=>by
  simp only[T.mapS]
  split
  ·rfl
  ·split
   ·show szs (Xn g s l).1=szs l;exact Ze s l
   ·rfl
theorem Ze:∀(s:σ) (l:List T),szs (Xn g s l).1=szs l
 |s,[]=>by simp[Xn]
 |s,t::l=>by simp only[Xn,szs,T.Qx6 s t,Ze _ l]
end
theorem Qhl(n:Nat)(s:σ)(l:List T):lsl n (Xn g s l).1=lsl n l:=by
 unfold lsl
 rw[Ze,Qa1]
 cases l with
 |nil=>simp[Xn]
 |cons t l=>simp[Xn]
end
theorem QuV{X:AH}{tt:TypeId}{n:Nat}{r:AB}{l:List T}(h:At X n (lays tt n r l))(hl:l≠[])(hr:r.live=true):At X n (lays tt n .dead l)/\X[n+szs l - 1]? = some r:=by
 obtain⟨h1,h2⟩:=QcS tt n r l hl
 have hp:=Qd3 hl
 refine⟨?_,h.get h1 hr (by omega)⟩
 rw[<-h2]
 intro j b hb hlv
 by_cases e:szs l - 1=j
 ·subst e
  rw[Qzj (by rw[ZI];omega)]at hb
  cases hb;cases hlv
 ·rw[Qzd e]at hb
  exact h j b hb hlv
theorem QvK{X:AH}{tt:TypeId}{n:Nat}{r:AB}{l:List T}(h:At X n (lays tt n .dead l))(hl:l≠[])(hr:X[n+szs l - 1]? = some r):At X n (lays tt n r l):=by
 obtain⟨h1,h2⟩:=QcS tt n r l hl
 have hp:=Qd3 hl
 intro j b hb hlv
 by_cases e:szs l - 1=j
 ·subst e
  rw[h1]at hb;cases hb
  rw[show n+(szs l - 1)=n+szs l - 1 by omega];exact hr
 ·rw[<-h2]at h
  exact h j b (by rw[Qzd e];exact hb) hlv
theorem QtH{X X':AH}{tt:TypeId}{n:Nat}{l m:List T}{u u':T}(hX:At X n (lays tt n .dead (l++u::m)))(hsz:u'.sz=u.sz)(hu:At X' (n+szs l) (u'.lay tt (n+szs l)))
  (hout:∀j,n<=j->j<n+szs (l++u::m)->¬(n+szs l<=j/\j<n+szs l+u.sz)->X'[j]? = X[j]?):At X' n (lays tt n .dead (l++u'::m)):=by
 intro j b hb hl
 have hlen:szs (l++u::m)=szs l+(u.sz+1+szs m):=by rw[Zj,szs]
 have hjl:=Qf hb
 rw[ZI,Zj,szs,hsz]at hjl
 rw[Qck,lays,QzC,ZI]at hb
 split at hb
 ·rename_i hj
  rw[hout (n+j) (by omega) (by omega) (by omega)]
  exact hX j b (by rw[Qck,QzC,ZI,Qzh hj];exact hb) hl
 ·rename_i hj
  rw[QzC,T.Qxw,hsz]at hb
  split at hb
  ·rename_i hj2
   have:=hu (j - szs l) b hb hl
   rwa [show n+szs l+(j - szs l)=n+j by omega]at this
  ·rename_i hj2
   rw[hout (n+j) (by omega) (by omega) (by omega)]
   refine hX j b ?_ hl
   rw[Qck,lays,QzC,ZI,Qzf hj,QzC,T.Qxw,Qzf hj2]
   exact hb
theorem Qqz{tt:TypeId}{n:Nat}{r:AB}{l m:List T}{u u':T}(h:u'.args=u.args):lays tt n r (l++u'::m)=lays tt n r (l++u::m):=by
 have h1:∀k,u'.lay tt k=u.lay tt k:=fun k=>by rw[T.QxF,T.QxF,h]
 have h2:u'.sz=u.sz:=by rw[T.QxL,T.QxL,h]
 rw[Qck,Qck,lays,lays,h1,h2]
theorem Qhk(n:Nat)(l m:List T)(u:T):lvs n (l++u::m)=lvs n l++(u.lv (n+szs l)::lvs (n+szs l+u.sz+1) m):=by rw[Qe8,lvs]
theorem Qsn{n:Nat}{l m:List T}{u u':T}(h:∀k,u'.lv k=u.lv k)(hs:u'.sz=u.sz):lvs n (l++u'::m)=lvs n (l++u::m):=by rw[Qhk,Qhk,h,hs]
theorem Qvn(n:Nat)(l m:List T)(u:T):(lvs n (l++u::m))[l.length]? = some (u.lv (n+szs l)):=by
 rw[Qhk,Qzi (by rw[Qao];exact Qzl _),Qao,Qz0];rfl
theorem QqD{n:Nat}{l m:List T}{u u':T}(hs:u'.sz=u.sz):(lvs n (l++u::m)).set l.length (u'.lv (n+szs l))=lvs n (l++u'::m):=by
 rw[Qhk,Qhk,hs,Qz7 _ _ (by rw[Qao];exact Qzl _),Qao,Qz0];rfl
def NSt(X:AH)(q:Nat)(ord:List Int):Prop:=∃toV,X[q]? = some (.cells 119 2 [.agg [toV,.sl 1 (ints ord) (some (q+1))]])/\X[q+1]? = some (.grow 3 1 ord.length) /\
 ((toV = .v (.map none)/\ord=[])\/∃m,toV = .mp m/\q+1<m/\X[m]? = some (mapB ord))
structure NumP (X X':AH) (q n w:Nat):Prop where
 long:X.length<=X'.length
 out:∀j,j<q->¬(n<=j/\j<n+w)->X'[j]? = X[j]?
theorem NumP.refl(X:AH)(q n w:Nat):NumP X X q n w:=⟨Qzl _,fun _ _ _=>rfl⟩
theorem NumP.trans{X Y Z:AH}{q n w a b:Nat}(h:NumP X Y q n w)(k:NumP Y Z q a b)(ha:n<=a)(hb:a+b<=n+w):NumP X Z q n w :=
 ⟨QzL h.long k.long,fun j hj hn=>(k.out j hj (by omega)).trans (h.out j hj hn)⟩
theorem NSt.app{X:AH}{q:Nat}{ord:List Int}(h:NSt X q ord)(L:AH):NSt (X++L) q ord:=by
 obtain⟨toV,h1,h2,h3⟩:=h
 refine⟨toV,hext h1 L,hext h2 L,h3.imp id ?_⟩
 rintro⟨m,e,h4,h5⟩
 exact⟨m,e,h4,hext h5 L⟩
end Go.Proofs.YtenheconhibonaaGreatDoor.Ab
namespace Go.Proofs.YtenheconhibonaaGreatDoor.Ab
open Go.Proofs
theorem FunW.retE{P:Program}{α:Type}{fv:AV}{args:List AV}{h:AH}{h':α->AH}{r:AV}{Q:AOut->AH->Prop}(H:FunW P fv args h fun o h2=>o = .ret r/\∃x,h2=h' x)(k:∀x,Q (.ret r) (h' x)):FunW P fv args h Q:=H.mono (by rintro _ _ ⟨rfl,x,rfl⟩;exact k x)
theorem Qt3(s:List Int)(v:Int):(ins s v).length<=s.length+1:=by
 unfold ins
 split
 ·omega
 ·simp
mutual
theorem T.Qx8:∀(s:List Int) (t:T),(T.mapS gNum s t).2.length<=s.length+t.nds
 |s,.mk k i n l=>by
  simp only[T.mapS,T.nds]
  split
  ·have:=Qt3 s i
   show(ins s i).length<=_
   omega
  ·split
   ·have:=QeB s l
    show(Xn gNum s l).2.length<=_
    omega
   ·show s.length<=_;omega
theorem QeB:∀(s:List Int) (l:List T),(Xn gNum s l).2.length<=s.length+ndsL l
 |s,[]=>by simp[Xn]
 |s,t::l=>by
  simp only[Xn,ndsL]
  have h1:=T.Qx8 s t
  have h2:=QeB (T.mapS gNum s t).2 l
  omega
end
theorem QqE{s:List Int}{u:T}(hp:u.ps)(hk:u.kind≠1):T.mapS gNum s u=(.mk u.kind u.int u.name (Xn gNum s u.args).1,(Xn gNum s u.args).2):=by
 obtain⟨h1,h2,_⟩:=T.Qyg hp
 rw[T.QxB,Qzf hk]
 by_cases h3:u.kind=2
 ·rw[Qzh h3]
 ·rw[Qzf h3,h2 h3]
  cases u
  simp only[T.args,T.kind]at h2 h3
  rw[h2 h3];rfl
theorem QdX:∀a b:List T,ndsL (a++b)=ndsL a+ndsL b
 |[],b=>by simp[ndsL]
 |t::a,b=>by rw[QyL,ndsL,ndsL,QdX a b];omega
theorem QoE(l:List T){j:Nat}(h:j<l.length):ndsL (l.take j)+l[j].nds<=ndsL l:=by
 have:=QzP ndsL (Qz1 j l)
 rw[QdX,Qzq h,ndsL]at this
 omega
theorem QqM(l:List T)(j:Nat):ndsL (l.take j)<=ndsL l:=by
 have:=QzP ndsL (Qz1 j l)
 rw[QdX]at this
 omega
theorem QuW{X:AH}{tt:TypeId}{n:Nat}{r:AB}{l m:List T}{u:T}(h:At X n (lays tt n r (l++u::m))):At X (n+szs l) (u.lay tt (n+szs l)):=by
 rw[Qck,lays]at h
 exact(h.right (m:=n+szs l) (by rw[ZI])).left
def Cur(ord:List Int)(bs:List T)(j:Nat):List T:=(Xn gNum ord (bs.take j)).1++bs.drop j
theorem QkO(ord:List Int){bs:List T}{j:Nat}(hj:j<bs.length):Cur ord bs j=(Xn gNum ord (bs.take j)).1++bs[j]::bs.drop (j+1) /\
  Cur ord bs (j+1)=(Xn gNum ord (bs.take j)).1++(T.mapS gNum (Xn gNum ord (bs.take j)).2 bs[j]).1::bs.drop (j+1)/\(Xn gNum ord (bs.take (j+1))).2=(T.mapS gNum (Xn gNum ord (bs.take j)).2 bs[j]).2:=by
 obtain⟨h1,h2⟩:=QoC gNum ord hj
 refine⟨by rw[Cur,Qzq hj],?_,h2⟩
 rw[Cur,h1,Qze];rfl
theorem Qma(ord:List Int)(bs:List T)(j:Nat):szs (Cur ord bs j)=szs bs:=by
 rw[Cur,Zj,Ze,<-Zj,Qz1]
theorem NSt.set{X:AH}{q:Nat}{ord:List Int}(h:NSt X q ord){k:Nat}(hk:k<q)(y:AB):NSt (X.set k y) q ord:=by
 obtain⟨toV,h1,h2,h3⟩:=h
 refine⟨toV,by rw[Qzd (by omega)];exact h1,by rw[Qzd (by omega)];exact h2,h3.imp id ?_⟩
 rintro⟨m,e,h4,h5⟩
 exact⟨m,e,h4,by rw[Qzd (by omega)];exact h5⟩
theorem NumP.set{X Y:AH}{q n w:Nat}(h:NumP X Y q n w){k:Nat}(hk:n<=k/\k<n+w)(y:AB):NumP X (Y.set k y) q n w :=
 ⟨by rw[Qzm];exact h.long,fun j hj hn=>by rw[Qzd (by omega)];exact h.out j hj hn⟩
theorem NumP.setA{X Y:AH}{q n w:Nat}(h:NumP X Y q n w){k:Nat}(hk:q<=k)(y:AB):NumP X (Y.set k y) q n w :=
 ⟨by rw[Qzm];exact h.long,fun j hj hn=>by rw[Qzd (by omega)];exact h.out j hj hn⟩
theorem NumP.app{X Y:AH}{q n w:Nat}(h:NumP X Y q n w)(L:AH)(hq:q<=Y.length):NumP X (Y++L) q n w :=
 ⟨by rw[Qza];exact QzL h.long (by omega),fun j hj hn=>by rw[Qzc (by omega)];exact h.out j hj hn⟩
theorem At.QxZ{h:AH}{n:Nat}{L:AH}(H:At h n L){k:Nat}{x:AB}(hk:n+L.length<=k):At (h.set k x) n L:=H.set fun b hb _=>by
 have:=Qf hb
 omega
theorem QmG{X0 Z:AH}{q n:Nat}{ord:List Int}{bs:List T}{j rid:Nat}(hlt:j<bs.length)(hrid:rid=n+szs bs - 1)(hq:n+szs bs<=q)(hP:NumP X0 Z q n (szs bs))(hS:NSt Z q (Xn gNum ord (bs.take (j+1))).2)
  (hA:At Z n (lays 69 n .dead (Cur ord bs j))) {c1:List T} (hc1:(Xn gNum ord (bs.take j)).1=c1) (hr:rid<Z.length) {v:Int} (ec':Cur ord bs (j+1)=c1++T.mk bs[j].kind v bs[j].name bs[j].args::bs.drop (j+1)) :
  NumP X0 (Z.set rid (.cells 69 4 ((lvs n (Cur ord bs j)).set j (.agg [.v (.int .i64 bs[j].kind),.v (.int .i64 v),.v (.string bs[j].name),lsl (n+szs c1) bs[j].args])))) q n (szs bs) /\
  NSt (Z.set rid (.cells 69 4 ((lvs n (Cur ord bs j)).set j (.agg [.v (.int .i64 bs[j].kind),.v (.int .i64 v),.v (.string bs[j].name),lsl (n+szs c1) bs[j].args])))) q (Xn gNum ord (bs.take (j+1))).2 /\
  At (Z.set rid (.cells 69 4 ((lvs n (Cur ord bs j)).set j (.agg [.v (.int .i64 bs[j].kind),.v (.int .i64 v),.v (.string bs[j].name),lsl (n+szs c1) bs[j].args])))) n (lays 69 n .dead (Cur ord bs (j+1))) /\
  (Z.set rid (.cells 69 4 ((lvs n (Cur ord bs j)).set j (.agg [.v (.int .i64 bs[j].kind),.v (.int .i64 v),.v (.string bs[j].name),lsl (n+szs c1) bs[j].args]))))[rid]? = some (.cells 69 4 (lvs n (Cur ord bs (j+1)))):=by
 have hne:bs≠[]:=by rintro rfl;simp at hlt
 have hp:=Qd3 hne
 obtain⟨ec,_,_⟩:=QkO ord hlt
 rw[hc1]at ec
 have hc1l:c1.length=j:=by rw[<-hc1,Qa1,QzE];omega
 have hcs:=Qma ord bs j
 refine⟨hP.set (by omega) _,hS.set (by omega) _,?_,?_⟩
 ·rw[ec',Qqz (u:=bs[j]) (u':=T.mk bs[j].kind v bs[j].name bs[j].args) rfl,<-ec]
  refine hA.set fun b hb hn=>?_
  have hne2:Cur ord bs j≠[]:=by rw[ec];exact List.append_ne_nil_of_right_ne_nil _ (List.cons_ne_nil _ _)
  have h1:=(QcS 69 n .dead _ hne2).1
  rw[hcs,show szs bs - 1=rid - n by omega,hb]at h1
  cases h1;rfl
 ·rw[Qzj hr,ec',<-QqD (u:=bs[j]) (u':=T.mk bs[j].kind v bs[j].name bs[j].args) (by rw[T.QxL,T.QxL];rfl),<-ec,hc1l,T.QxT]
  rfl
theorem QnA{X0 X:AH}{q n a w:Nat}{M:AH}(hM:M.length<=w)(hq:n+w<=q)(hqx:q<=X.length)(hP:NumP X0 X q n w)(hA:At X n M)(ha:q<=a)(A G C:AB)(L:AH) :
  NumP X0 ((((X.set a A).set (q+1) G).set q C)++L) q n w/\At ((((X.set a A).set (q+1) G).set q C)++L) n M:=by
 refine⟨NumP.app (((hP.setA ha A).setA (by omega) G).setA (Qzl _) C) L (by simp only[Qzm];exact hqx),?_⟩
 exact(((hA.QxZ (by omega)).QxZ (by omega)).QxZ (by omega)).app L
theorem Qvr{X:AH}{q a:Nat}(A G C:AB)(L:AH)(h:q+1<X.length):((((X.set a A).set (q+1) G).set q C)++L)[q]? = some C/\((((X.set a A).set (q+1) G).set q C)++L)[q+1]? = some G /\
  (q+1<a->a<X.length->((((X.set a A).set (q+1) G).set q C)++L)[a]? = some A):=by
 refine⟨?_,?_,fun h1 h2=>?_⟩
 ·rw[Qzc (by simp only[Qzm];omega),Qzj (by simp only[Qzm];omega)]
 ·rw[Qzc (by simp only[Qzm];omega),Qzd (by omega),Qzj (by simp only[Qzm];omega)]
 ·rw[Qzc (by simp only[Qzm];omega),Qzd (by omega),Qzd (by omega),Qzj h2]
theorem Qqk(l:List Int)(v:Int):ints (l++[v])=ints l++[.i v]:=by simp[ints]
theorem QqP{X:AH}{q:Nat}(A c:AB)(v:Int)(h:q+1<X.length):NSt ((((X.set q A).set (q+1) (.grow 3 1 1)).set q (.cells 119 2 [.agg [.mp (X.length+1),.sl 1 (ints []++[.v (.int .i64 v)]) (some (q+1))]]))++[c,.map [(.int .i64 v,.v (.int .i64 0))]]) q ([]++[v]):=by
 obtain⟨b1,b2,_⟩:=Qvr (X:=X) (q:=q) (a:=q) A (.grow 3 1 1) (.cells 119 2 [.agg [.mp (X.length+1),.sl 1 (ints []++[.v (.int .i64 v)]) (some (q+1))]]) [c,.map [(.int .i64 v,.v (.int .i64 0))]] h
 refine⟨_,b1,b2,.inr ⟨X.length+1,rfl,by omega,?_⟩⟩
 rw[Qzi (by simp only[Qzm];omega)]
 simp only[Qzm,QAe]
 rfl
theorem Qsr{X:AH}{q m:Nat}{ord:List Int}(c:AB)(v:Int)(h:q+1<X.length)(hm:q+1<m)(hmX:m<X.length):NSt ((((X.set m (.map (imap (ZA ord++[(v,.v (.int .i64 ord.length))])))).set (q+1) (.grow 3 1 (ord.length+1))).set q (.cells 119 2 [.agg [.mp m,.sl 1 (ints ord++[.v (.int .i64 v)]) (some (q+1))]]))++[c]) q (ord++[v]):=by
 obtain⟨b1,b2,b3⟩:=Qvr (X:=X) (q:=q) (a:=m) (.map (imap (ZA ord++[(v,.v (.int .i64 ord.length))]))) (.grow 3 1 (ord.length+1)) (.cells 119 2 [.agg [.mp m,.sl 1 (ints ord++[.v (.int .i64 v)]) (some (q+1))]]) [c] h
 refine⟨.mp m,?_,?_,.inr ⟨m,rfl,hm,?_⟩⟩
 ·rw[b1,Qqk]
 ·rw[b2,Qza];rfl
 ·rw[b3 hm hmX,mapB,Qhq]
def TmQ(X:AH)(q n:Nat)(ord:List Int)(bs:List T)(o:AOut)(h':AH):Prop:=o = .ret (.tup [])/\NumP X h' q n (szs bs)/\NSt h' q (Xn gNum ord bs).2/\At h' n (layA 69 n (Xn gNum ord bs).1)
theorem Qry(X:AH)(q n:Nat)(ord:List Int)(hS:NSt X q ord):Qp Tryz.prog 111 [.ptr q 0 0,.v (.slice none 0 0)] X (TmQ X q n ord []):=by
 have hn:=fun t'=>QeD Tryz.prog 44 t' 69 (by kernel_rfl)
 refine Qc Tryz.func111 rfl Tryz.call111 Tryz.ntmps111 Tryz.results111 (by simp) ?_
 repeat refine Qa ?_;simp only[go_sem,seval,hn]
 obtain⟨I,hI⟩:∃I:Nat->AS->Prop,I=fun m' s=>s.tm 9 = .i 0/\s.tm 10 = .i 0/\s.h=X:=⟨_,rfl⟩;refine Qv I ?_ (m:=0) ?_
 ·intro m' s hs;rw[hI]at hs;obtain⟨tm,hp⟩:=s;dsimp only at hs;obtain⟨t9,t10,rfl⟩:=hs
  have z:¬((0:Int)<0):=by omega
  repeat refine Qa ?_;simp only[go_sem,seval,t9,t10,z]
  exact .inr ⟨rfl,NumP.refl _ _ _ _,by simpa [Xn]using hS,by simp only[Xn];exact QiO _ _⟩
 ·rw[hI]
  exact⟨rfl,rfl,rfl⟩
section
variable{Nn:Nat}(IH:∀(bs:List T),szs bs<Nn->pss bs->∀(X:AH) (q n:Nat) (ord:List Int),ord.length+ndsL bs<=1000000000->n+szs bs<=q->q+1<X.length->NSt X q ord->At X n (layA 69 n bs)->Qp Tryz.prog 111 [.ptr q 0 0,lsl n bs] X (TmQ X q n ord bs))
include IH
theorem Qo8(bs:List T)(hsz:szs bs<Nn+1)(hps:pss bs)(X0:AH)(q n:Nat)(ord:List Int)(hb:ord.length+ndsL bs<=1000000000)(hq:n+szs bs<=q)(hqx:q+1<X0.length)(hS0:NSt X0 q ord)(hA0:At X0 n (layA 69 n bs)) :
  Qp Tryz.prog 111 [.ptr q 0 0,lsl n bs] X0 (TmQ X0 q n ord bs):=by
 by_cases hne:bs=[]
 ·subst hne;exact Qry X0 q n ord hS0
 obtain⟨hA1,hrow0⟩:=QuV hA0 hne rfl
 have hsp:=Qd3 hne
 obtain⟨rid,hrid⟩:∃rid,rid=n+szs bs - 1:=⟨_,rfl⟩
 have hbl:bs.length<=1000000000:=by
  have:bs.length<=ndsL bs:=Yy bs
  omega
 have hl0:lsl n bs = .arr rid 0 bs.length:=by rw[lsl,Qzf (by simpa using hne),hrid]
 rw[hl0]
 rw[<-hrid]at hrow0
 have hg0:∀L:AH,(X0++L)[rid]? = some (.cells 69 4 (lvs n bs)):=fun L=>hext hrow0 L
 have hlv:=Qao n bs
 refine Qc Tryz.func111 rfl Tryz.call111 Tryz.ntmps111 Tryz.results111 (by simp) ?_
 with_reducible repeat first|refine Qd fun K E hK hE=>?_;simp only[Qr,Qi,Qn,OpW,aop,undef,AS.ev,Ql,Xc,Qz,Xm,Qyq,QyJ,↓reduceIte,Nat.reduceLT,aLen,Qyl,goInt,un44,hrow0]|refine QA ?_|refine hK _ ?_;clear hK
 obtain⟨I,hI⟩:∃I:Nat->AS->Prop,I=fun m' s=>∃(j:Nat),m'=bs.length - j/\j<=bs.length/\NumP X0 s.h q n (szs bs)/\NSt s.h q (Xn gNum ord (bs.take j)).2/\At s.h n (lays 69 n .dead (Cur ord bs j))/\s.h[rid]? = some (.cells 69 4 (lvs n (Cur ord bs j))) /\
  s.tm 0 = .ptr q 0 0/\s.tm 1 = .arr rid 0 bs.length/\s.tm 8 = .arr rid 0 bs.length/\s.tm 9 = .i bs.length/\s.tm 10 = .i j:=⟨_,rfl⟩;refine Qv I ?_ (m:=bs.length) ?_
 ·intro m' s hs;rw[hI]at hs;obtain⟨tm,hp⟩:=s;dsimp only at hs;obtain⟨j,rfl,hj,hP,hS,hA,hrow,t0,t1,t8,t9,t10⟩:=hs
  by_cases hlt:j<bs.length
  ·have z1:(((j:Nat):Int)<((bs.length:Nat):Int)):=by omega
   obtain⟨ec,ec',eo⟩:=QkO ord hlt
   have hup:=Qrb hlt hps
   have hpl:=hP.long
   generalize hX:hp=X at *
   have hXl:q+1<X.length:=by omega
   generalize hc1:(Xn gNum ord (bs.take j)).1=c1 at *
   have hc1l:c1.length=j:=by rw[<-hc1,Qa1,QzE];omega
   have hc1s:szs c1=szs (bs.take j):=by rw[<-hc1,Ze]
   generalize hord:(Xn gNum ord (bs.take j)).2=ordj at *
   have hol:ordj.length<=1000000000:=by
    have h1:=QeB ord (bs.take j)
    have h2:ndsL (bs.take j)<=ndsL bs:=QqM bs j
    rw[hord]at h1;omega
   have hszu:szs (bs.take j)+(bs[j].sz+1+szs (bs.drop (j+1)))=szs bs:=by
    have:=QzP szs (Qz1 j bs)
    rw[Zj,Qzq hlt,szs]at this
    exact this
   have hu1:bs[j].sz=szs bs[j].args:=T.QxL _
   have hndu:bs[j].nds<=ndsL bs:=Qf7 hlt
   have hcl:(lvs n (Cur ord bs j)).length=bs.length:=by rw[Qao,ec,Qza,Qyw,QzM,hc1l];omega
   have hat:(lvs n (Cur ord bs j))[j]? = some (bs[j].lv (n+szs c1)):=by
    have:=Qvn n c1 (bs.drop (j+1)) bs[j]
    rw[hc1l]at this
    rw[ec];exact this
   have e1:=T.Qxx (n+szs c1) bs[j]
   have e2:=T.Qxy (n+szs c1) bs[j]
   have hrL:∀L:AH,(X++L)[rid]? = some (.cells 69 4 (lvs n (Cur ord bs j))):=fun L=>hext hrow L
   have wj:IntKind.i64.wrap (((j:Nat):Int)+1)=((j+1:Nat):Int):=QY (by omega)
   by_cases hk:bs[j].kind=1
   ·have z2:(bs[j].kind != 1)=false:=by simp[hk]
    have hmv:T.mapS gNum ordj bs[j]=(.mk bs[j].kind (plc (ins ordj bs[j].int) bs[j].int:Nat) bs[j].name bs[j].args,ins ordj bs[j].int):=by rw[T.QxB,Qzh hk];rfl
    rw[hmv]at ec' eo
    obtain⟨toV,s1,s2,s3⟩:=hS
    have g1:∀L:AH,(X++L)[q]? = _:=fun L=>hext s1 L
    have g2:∀L:AH,(X++L)[q+1]? = _:=fun L=>hext s2 L
    by_cases hf:bs[j].int∈ordj
    ·rcases s3 with⟨_,rfl⟩|⟨m,rfl,hm,s3⟩
     ·cases hf
     have hmX:=Qf s3
     have g3:∀L:AH,(X++L)[m]? = _:=fun L=>hext s3 L
     have hget1:=Qhu bs[j].int ordj
     rw[Qzh hf]at hget1
     have hfind:=QcL bs[j].int (ZA ordj)
     rw[hget1]at hfind
     repeat first|(first|with_reducible (first|refine Qd fun K E hK hE=>?_|refine Qs fun K E hK hE=>?_)|refine Qj (id:=5) [(0,0),(1,0),(2,0),(3,0),(4,0),(5,0),(6,0),(7,0),(8,0),(9,0),(10,0),(11,0)] mixed (by kernel_rfl) fun K hK=>?_);simp only[X6,XK,YF,Qr,Qi,Qn,OpW,aop,undef,AS.ev,Ql,XZ,Xc,Qz,AV.Qxu,QD,Zk,QK,Zz,QyD,QyE,QU,QX,Xh,QyF,QyG,↓reduceIte,Qyw,Qyx,Nat.reduceAdd,Nat.reduceLT,Nat.reduceLeDiff,Nat.reduceEqDiff,Qyv,QyI,QyR,Qm,Xt,Xv,Zt,XS,QM,aBin,Qbg,Qbl,XP,Qaa,Qyj,Qyk,QyN,Qyl,Qym,QyL,QyK,Qyu,QyB,Qys,QyA,Qap,Qbq,Zf,Qlv,QyP,QyW,QyV,Qyn,ti3,ei44,ti69,Qfu,QgV,zi69,ti91,mi91,QgR,QR,t0,t1,t8,t9,t10,z1,z2,hrow,hrL,hat,e1,e2,QF,g1,g3,hfind,mapB]|with_reducible (first|refine QN fun K hK=>?_|refine QA ?_|refine Xu ?_|refine Qk ?_|refine QI ?_|refine hK _ ?_;clear hK|refine Qw rfl ?_;simp only[↓reduceIte,Qyn])
     refine QZ.mk (m':=bs.length - (j+1)) (by omega) ?_
     rw[hI]
     have hins:ins ordj bs[j].int=ordj:=by unfold ins;rw[Qzh hf]
     rw[hins]at ec' eo
     obtain⟨r1,r2,r3,r4⟩:=QmG (Z:=X++[.cells 69 4 [T.lv (n+szs c1) bs[j]]]) hlt hrid hq (hP.app _ (by omega)) (by rw[eo];exact NSt.app ⟨_,s1,s2,.inr ⟨m,rfl,hm,s3⟩⟩ _) (hA.app _) hc1 (Qf (hrL _)) ec'
     exact⟨j+1,rfl,by omega,r1,r2,r3,r4,t0,t1,t8,t9,by rw[wj];rfl⟩
    ·have hfl:QjD bs[j].int (ZA ordj)=none:=by rw[Qhu,Qzf hf]
     have hfind:=QcL bs[j].int (ZA ordj)
     rw[hfl]at hfind
     have hins:ins ordj bs[j].int=ordj++[bs[j].int]:=by unfold ins;rw[Qzf hf]
     have hplc:plc (ordj++[bs[j].int]) bs[j].int=ordj.length:=QbM [] hf
     rw[hins,hplc]at ec' eo
     have hrq:rid<q:=by omega
     have hqX0:q<X.length:=by omega
     have ml1:1<=maxLen:=by decide
     have ml2:ordj.length+1<=maxLen:=by unfold maxLen;omega
     have ml3:(ordj.length+1) * 8<=140737488355328:=by omega
     have nM:pv Tryz.prog (do eqGuard .eql 91 (Operand.tmp 37) (Operand.const (Value.map none)) (.map none) (.map none);binOp .eql 91 (.map none) (.map none))=some (.bool true):=by kernel_rfl
     rcases s3 with⟨rfl,e0⟩|⟨m,rfl,hm,s3⟩
     ·subst e0
      have hupd:∀v,updA (.int .i64) (.int .i64 bs[j].int) v []=some [(.int .i64 bs[j].int,v)]:=fun _=>rfl
      have a_q:∀(Y L:AH),Y.length=X.length->(Y++L)[q]? = Y[q]? := fun Y L hY=>Qzc (by omega)
      have s_q:∀(Y L:AH) (y:AB),Y.length=X.length->(Y++L).set q y=Y.set q y++L:=fun Y L y hY=>Qzw _ _ (by omega)
      have i_q:∀(Y:AH) (y:AB),Y.length=X.length->(Y.set q y)[q]? = some y:=fun Y y hY=>Qzj (by omega)
      have n_q_p:∀(Y:AH) (y:AB),(Y.set q y)[(q+1)]? = Y[(q+1)]? := fun Y y=>Qzd (by omega)
      have n_q_r:∀(Y:AH) (y:AB),(Y.set q y)[rid]? = Y[rid]? := fun Y y=>Qzd (by omega)
      have a_p:∀(Y L:AH),Y.length=X.length->(Y++L)[(q+1)]? = Y[(q+1)]? := fun Y L hY=>Qzc (by omega)
      have s_p:∀(Y L:AH) (y:AB),Y.length=X.length->(Y++L).set (q+1) y=Y.set (q+1) y++L:=fun Y L y hY=>Qzw _ _ (by omega)
      have i_p:∀(Y:AH) (y:AB),Y.length=X.length->(Y.set (q+1) y)[(q+1)]? = some y:=fun Y y hY=>Qzj (by omega)
      have n_p_q:∀(Y:AH) (y:AB),(Y.set (q+1) y)[q]? = Y[q]? := fun Y y=>Qzd (by omega)
      have n_p_r:∀(Y:AH) (y:AB),(Y.set (q+1) y)[rid]? = Y[rid]? := fun Y y=>Qzd (by omega)
      have a_r:∀(Y L:AH),Y.length=X.length->(Y++L)[rid]? = Y[rid]? := fun Y L hY=>Qzc (by omega)
      have s_r:∀(Y L:AH) (y:AB),Y.length=X.length->(Y++L).set rid y=Y.set rid y++L:=fun Y L y hY=>Qzw _ _ (by omega)
      have i_r:∀(Y:AH) (y:AB),Y.length=X.length->(Y.set rid y)[rid]? = some y:=fun Y y hY=>Qzj (by omega)
      have n_r_q:∀(Y:AH) (y:AB),(Y.set rid y)[q]? = Y[q]? := fun Y y=>Qzd (by omega)
      have n_r_p:∀(Y:AH) (y:AB),(Y.set rid y)[(q+1)]? = Y[(q+1)]? := fun Y y=>Qzd (by omega)
      have t_0:∀(Y L:AH),Y.length=X.length->(Y++L)[X.length]? = L[0]? := fun Y L hY=>by rw[<-hY];exact XP _ _
      have t_k:∀(Y L:AH) (k:Nat),Y.length=X.length->(Y++L)[X.length+k]? = L[k]? := fun Y L k hY=>by rw[<-hY];exact hget _ _ _
      have u_0:∀(Y L:AH) (y:AB),Y.length=X.length->(Y++L).set X.length y=Y++L.set 0 y:=fun Y L y hY=>by rw[<-hY];exact Qaa _ _ _
      have u_k:∀(Y L:AH) (k:Nat) (y:AB),Y.length=X.length->(Y++L).set (X.length+k) y=Y++L.set k y:=fun Y L k y hY=>by rw[<-hY];exact hset _ _ _ _
      repeat first|(first|with_reducible (first|refine Qd fun K E hK hE=>?_|refine Qs fun K E hK hE=>?_)|refine Qj (id:=5) [(0,0),(1,0),(2,0),(3,0),(4,0),(5,0),(6,0),(7,0),(8,0),(9,0),(10,0),(11,0)] mixed (by kernel_rfl) fun K hK=>?_|refine Qj (id:=10) [(0,0),(1,0),(2,0),(3,0),(4,0),(5,0),(6,0),(7,2)] mixed (by kernel_rfl) fun K hK=>?_|refine Q1 (id:=11) [(0,0),(1,0),(2,0),(3,0),(4,0),(5,0),(6,0),(7,0),(8,2),(9,0),(10,0),(11,2)] mixed (by kernel_rfl) fun K hK=>?_);simp only[X6,XK,YF,Qr,Qi,Qn,OpW,aop,undef,AS.ev,Ql,XZ,Xc,Qac,Qz,AV.Qxu,QD,Zk,YB,Zn,QK,Zz,YD,Zo,QyD,QyE,QU,QX,Xh,Xb,Zm,QyF,QyH,↓reduceIte,Qyw,Qyx,Nat.reduceAdd,Nat.reduceLT,Nat.reduceLeDiff,Nat.reduceEqDiff,Nat.reduceMul,Qyv,QyI,QyS,QyR,Qm,Xt,Xv,Zt,XS,QM,aBin,Qbg,QT,aLen,QbG,Qbd,Qbl,Qaf,hlen,happ,Qyj,Qyk,QyN,QyO,Qyl,QyY,Qym,Qyy,QyC,QyL,QyK,QyM,Qyu,QyB,Qys,QyA,Qap,Qbq,Zf,Qlv,goInt,QyP,Qyr,QyW,QyV,Qy5,Qyn,rng1,Ym,Nat.reducePow,Xx,ti3,zi3,ti42,ei42,ai42,un42,ei44,ti69,Qfu,QgV,zi69,ti91,mi91,QgR,Qjw,QR,t0,t1,t8,t9,t10,z1,z2,hrow,hat,e1,e2,QF,s2,g1,nM,hupd,Qzm,ml1,a_q,s_q,i_q,n_q_p,n_q_r,a_p,s_p,n_p_q,n_p_r,a_r,s_r,t_0,t_k,u_0,u_k]|with_reducible (first|refine QN fun K hK=>?_|refine QA ?_|refine Xu ?_|refine Qk ?_|refine QI ?_|refine hK _ ?_;clear hK|refine Qw rfl ?_;simp only[↓reduceIte,Qyn])
      refine QZ.mk (m':=bs.length - (j+1)) (by omega) ?_
      rw[hI]
      rw[<-Qzw _ _ (by simp only[Qzm];omega)]
      have hML:(lays 69 n .dead (Cur ord bs j)).length<=szs bs:=by rw[ZI,Qma];exact Qzl _
      obtain⟨b1,b2⟩:=QnA (a:=q) hML hq (by omega) hP hA (by omega) (.cells 119 2 [.agg [.mp (X.length+1),.sl 1 (ints []) (some (q+1))]]) (.grow 3 1 1) (.cells 119 2 [.agg [.mp (X.length+1),.sl 1 (ints []++[.v (.int .i64 bs[j].int)]) (some (q+1))]]) [.cells 69 4 [T.lv (n+szs c1) bs[j]],.map [(.int .i64 bs[j].int,.v (.int .i64 0))]]
      obtain⟨r1,r2,r3,r4⟩:=QmG hlt hrid hq b1 (by rw[eo];exact QqP (.cells 119 2 [.agg [.mp (X.length+1),.sl 1 (ints []) (some (q+1))]]) (.cells 69 4 [T.lv (n+szs c1) bs[j]]) _ (by omega)) b2 hc1 (by simp only[Qza,Qzm];omega) ec'
      exact⟨j+1,rfl,by omega,r1,r2,r3,r4,t0,t1,t8,t9,by rw[wj];rfl⟩
     ·have hmX:=Qf s3
      have g3:∀L:AH,(X++L)[m]? = _:=fun L=>hext s3 L
      have hupd:=fun v=>Qki bs[j].int v (ZA ordj) hfl
      have nn:∀L:AH,notNil Tryz.prog 91 (X++L) (.mp m) (.map none)=true:=fun L=>by
       have hu:Tryz.prog.underlying 91=some (.map 3 3):=by kernel_rfl
       simp only[notNil,hu,g3 L,mapB]
      have a_q:∀(Y L:AH),Y.length=X.length->(Y++L)[q]? = Y[q]? := fun Y L hY=>Qzc (by omega)
      have s_q:∀(Y L:AH) (y:AB),Y.length=X.length->(Y++L).set q y=Y.set q y++L:=fun Y L y hY=>Qzw _ _ (by omega)
      have i_q:∀(Y:AH) (y:AB),Y.length=X.length->(Y.set q y)[q]? = some y:=fun Y y hY=>Qzj (by omega)
      have n_q_p:∀(Y:AH) (y:AB),(Y.set q y)[(q+1)]? = Y[(q+1)]? := fun Y y=>Qzd (by omega)
      have n_q_m:∀(Y:AH) (y:AB),(Y.set q y)[m]? = Y[m]? := fun Y y=>Qzd (by omega)
      have n_q_r:∀(Y:AH) (y:AB),(Y.set q y)[rid]? = Y[rid]? := fun Y y=>Qzd (by omega)
      have a_p:∀(Y L:AH),Y.length=X.length->(Y++L)[(q+1)]? = Y[(q+1)]? := fun Y L hY=>Qzc (by omega)
      have s_p:∀(Y L:AH) (y:AB),Y.length=X.length->(Y++L).set (q+1) y=Y.set (q+1) y++L:=fun Y L y hY=>Qzw _ _ (by omega)
      have i_p:∀(Y:AH) (y:AB),Y.length=X.length->(Y.set (q+1) y)[(q+1)]? = some y:=fun Y y hY=>Qzj (by omega)
      have n_p_q:∀(Y:AH) (y:AB),(Y.set (q+1) y)[q]? = Y[q]? := fun Y y=>Qzd (by omega)
      have n_p_m:∀(Y:AH) (y:AB),(Y.set (q+1) y)[m]? = Y[m]? := fun Y y=>Qzd (by omega)
      have n_p_r:∀(Y:AH) (y:AB),(Y.set (q+1) y)[rid]? = Y[rid]? := fun Y y=>Qzd (by omega)
      have a_m:∀(Y L:AH),Y.length=X.length->(Y++L)[m]? = Y[m]? := fun Y L hY=>Qzc (by omega)
      have s_m:∀(Y L:AH) (y:AB),Y.length=X.length->(Y++L).set m y=Y.set m y++L:=fun Y L y hY=>Qzw _ _ (by omega)
      have i_m:∀(Y:AH) (y:AB),Y.length=X.length->(Y.set m y)[m]? = some y:=fun Y y hY=>Qzj (by omega)
      have n_m_q:∀(Y:AH) (y:AB),(Y.set m y)[q]? = Y[q]? := fun Y y=>Qzd (by omega)
      have n_m_p:∀(Y:AH) (y:AB),(Y.set m y)[(q+1)]? = Y[(q+1)]? := fun Y y=>Qzd (by omega)
      have n_m_r:∀(Y:AH) (y:AB),(Y.set m y)[rid]? = Y[rid]? := fun Y y=>Qzd (by omega)
      have a_r:∀(Y L:AH),Y.length=X.length->(Y++L)[rid]? = Y[rid]? := fun Y L hY=>Qzc (by omega)
      have s_r:∀(Y L:AH) (y:AB),Y.length=X.length->(Y++L).set rid y=Y.set rid y++L:=fun Y L y hY=>Qzw _ _ (by omega)
      have i_r:∀(Y:AH) (y:AB),Y.length=X.length->(Y.set rid y)[rid]? = some y:=fun Y y hY=>Qzj (by omega)
      have n_r_q:∀(Y:AH) (y:AB),(Y.set rid y)[q]? = Y[q]? := fun Y y=>Qzd (by omega)
      have n_r_p:∀(Y:AH) (y:AB),(Y.set rid y)[(q+1)]? = Y[(q+1)]? := fun Y y=>Qzd (by omega)
      have n_r_m:∀(Y:AH) (y:AB),(Y.set rid y)[m]? = Y[m]? := fun Y y=>Qzd (by omega)
      have t_0:∀(Y L:AH),Y.length=X.length->(Y++L)[X.length]? = L[0]? := fun Y L hY=>by rw[<-hY];exact XP _ _
      have t_k:∀(Y L:AH) (k:Nat),Y.length=X.length->(Y++L)[X.length+k]? = L[k]? := fun Y L k hY=>by rw[<-hY];exact hget _ _ _
      have u_0:∀(Y L:AH) (y:AB),Y.length=X.length->(Y++L).set X.length y=Y++L.set 0 y:=fun Y L y hY=>by rw[<-hY];exact Qaa _ _ _
      have u_k:∀(Y L:AH) (k:Nat) (y:AB),Y.length=X.length->(Y++L).set (X.length+k) y=Y++L.set k y:=fun Y L k y hY=>by rw[<-hY];exact hset _ _ _ _
      repeat first|(first|with_reducible (first|refine Qd fun K E hK hE=>?_|refine Qs fun K E hK hE=>?_)|refine Qj (id:=5) [(0,0),(1,0),(2,0),(3,0),(4,0),(5,0),(6,0),(7,0),(8,0),(9,0),(10,0),(11,0)] mixed (by kernel_rfl) fun K hK=>?_|refine Qj (id:=10) [(0,0),(1,0),(2,0),(3,0),(4,0),(5,0),(6,0),(7,2)] mixed (by kernel_rfl) fun K hK=>?_|refine Q1 (id:=11) [(0,0),(1,0),(2,0),(3,0),(4,0),(5,0),(6,0),(7,0),(8,2),(9,0),(10,0),(11,2)] mixed (by kernel_rfl) fun K hK=>?_);simp only[X6,XK,YF,Qr,Qi,Qn,OpW,aop,undef,AS.ev,Ql,XZ,Xc,Qac,Qz,AV.Qxu,QD,Zk,YB,QK,Zz,YD,QyD,QyE,QU,QX,Xh,Xb,QyF,QyH,↓reduceIte,Qyw,Qyx,Nat.reduceAdd,Nat.reduceLT,Nat.reduceLeDiff,Nat.reduceEqDiff,Nat.reduceMul,Qyv,QyI,QyR,Qm,Xt,Xv,Zt,XS,QM,aBin,Qbg,QT,aLen,QbG,Qbd,Qbl,Qaf,Qyj,Qyk,QyN,Qyl,Qym,Qyy,QyC,QyL,QyK,QyM,Qyu,QyB,Qys,QyA,Qap,Qbq,Zf,Qlv,goInt,QyP,Qyr,QyW,QyV,Qyn,rng1,Ym,Nat.reducePow,Xx,ti3,zi3,ti42,ei42,ai42,un42,ei44,ti69,Qfu,QgV,zi69,ti91,mi91,QgR,Qjw,QR,t0,t1,t8,t9,t10,z1,z2,hrow,hat,e1,e2,QF,s1,s2,g1,g3,hfind,mapB,hupd,nn,Qzm,ml2,ml3,a_q,s_q,n_q_r,a_p,s_p,n_p_q,n_p_r,s_m,n_m_q,n_m_p,n_m_r,a_r,s_r,t_0,u_0]|with_reducible (first|refine QN fun K hK=>?_|refine QA ?_|refine Xu ?_|refine Qk ?_|refine QI ?_|refine hK _ ?_;clear hK|refine Qw rfl ?_;simp only[↓reduceIte,Qyn])
      refine QZ.mk (m':=bs.length - (j+1)) (by omega) ?_
      rw[hI]
      rw[<-Qzw _ _ (by simp only[Qzm];omega)]
      have hML:(lays 69 n .dead (Cur ord bs j)).length<=szs bs:=by rw[ZI,Qma];exact Qzl _
      obtain⟨b1,b2⟩:=QnA (a:=m) hML hq (by omega) hP hA (by omega) (.map (imap (ZA ordj++[(bs[j].int,.v (.int .i64 ordj.length))]))) (.grow 3 1 (ordj.length+1)) (.cells 119 2 [.agg [.mp m,.sl 1 (ints ordj++[.v (.int .i64 bs[j].int)]) (some (q+1))]]) [.cells 69 4 [T.lv (n+szs c1) bs[j]]]
      obtain⟨r1,r2,r3,r4⟩:=QmG hlt hrid hq b1 (by rw[eo];exact Qsr (.cells 69 4 [T.lv (n+szs c1) bs[j]]) _ (by omega) hm hmX) b2 hc1 (by simp only[Qza,Qzm];omega) ec'
      exact⟨j+1,rfl,by omega,r1,r2,r3,r4,t0,t1,t8,t9,by rw[wj];rfl⟩
   ·have z2:(bs[j].kind != 1)=true:=by simpa using hk
    have hm:=QqE (s:=ordj) hup hk
    rw[hm]at ec' eo
    have hsub:At X (n+szs c1) (layA 69 (n+szs c1) bs[j].args):=by
     have:=QuW (by rw[ec]at hA;exact hA)
     rwa [T.QxF]at this
    have cI:∀c:AB,Qp Tryz.prog 111 [.ptr q 0 0,lsl (n+szs c1) bs[j].args] (X++[c]) fun o h'=>o = .ret (.tup [])/\∃Y:{Y:AH // TmQ (X++[c]) q (n+szs c1) ordj bs[j].args (.ret (.tup [])) Y},h'=Y.1:=fun c =>
     (IH bs[j].args (by omega) (T.Qyg hup).2.2 (X++[c]) q (n+szs c1) ordj (by
      have:=T.QxK bs[j]
      have h1:=QeB ord (bs.take j)
      have h2:=QoE bs hlt
      rw[hord]at h1
      omega) (by omega) (by rw[Qza];omega) (hS.app _) (hsub.app _)).mono fun o h' q=>by
       obtain⟨rfl,q2⟩:=q
       exact⟨rfl,⟨h',rfl,q2⟩,rfl⟩
    with_reducible repeat first|(first|refine Qd fun K E hK hE=>?_|refine Qs fun K E hK hE=>?_|refine FunW.retE (FunW.call (cI _)) fun Y=>?_);simp only[Qr,Qi,Qn,OpW,Yx,aop,undef,AS.ev,Ql,XZ,Xc,Qz,AV.Qxu,QD,QK,QyD,QyE,QU,QX,Xh,QyF,↓reduceIte,Qyw,Qyx,Nat.reduceAdd,Nat.reduceLT,Nat.reduceEqDiff,Qyv,QyI,QyR,Qm,Xt,Xv,Zt,XS,QM,aBin,XP,Qaa,Qyj,Qyk,QyN,Qyl,Qyy,QyC,Qap,Qbq,Zf,QyP,QyW,QyV,ti3,ti44,ei44,ti69,Qfu,QaZ,zi69,t0,t8,t9,t10,z1,z2,hrow,hat,e1,e2,QF]|refine QN fun K hK=>?_|refine QA ?_|refine Xu ?_|refine Qah ?_|refine Qk ?_|refine ZE ?_|refine ZD ?_|refine hK _ ?_;clear hK|clear hK;refine hK _ ?_;clear hK|refine Qw rfl ?_;simp only[↓reduceIte]
    obtain⟨Y,hY⟩:=Y
    obtain⟨_,y1,y2,y3⟩:=hY
    with_reducible repeat refine Qd fun K E hK hE=>?_;simp only[X6,XK,YF,Qr,Qi,Qn,OpW,Yx,aop,undef,Qa2,QyZ,Qy0,QcA,Z5,Qa9,AS.ev,Ql,XZ,Xc,Q5,Ye,YN,Qac,XV,Yd,XA,Qba,Qz,Xm,Qyq,QyJ,AV.Qxu,QD,Zk,YB,Y7,Xe,Y5,Zn,Z4,Y6,QK,Zz,YD,Zd,YM,Zb,Zo,Z7,Zc,QyD,QyE,QU,Yv,QX,Xh,YZ,XH,XG,Xp,Xb,Y0,Xd,YX,Zm,Z3,YY,QyF,Qy2,Qy3,QyG,QyH,↓reduceIte,Qyw,Qyx,Nat.reduceAdd,Nat.reduceLT,Nat.reduceLeDiff,Nat.reduceEqDiff,Nat.reduceSub,Nat.reduceMul,Qyv,QyI,QyS,QyT,QyR,XJ,XY,Qm,Xt,Xv,Zt,XS,QM,aBin,Qbg,Qdz,QT,aLen,QbG,Qbd,Qbl,Qaf,XP,hget,Qaa,hset,hlen,happ,Qyj,Qyk,Qy9,QyN,QyO,Qyl,QyY,Qyo,QyX,Qyp,QyU,Qym,Qyy,QyC,QyL,QyK,QyM,Qyu,QyB,Qys,QyA,Qa5,Qap,Qbq,Zf,Qlv,QjY,QjZ,Qc0,goInt,QyP,QyQ,Qyr,Qy4,QyW,Int.toNat_zero,Int.toNat_one,QyV,Qy7,Qy8,Qy5,Qyn,Qy1,beq_true,beq_false,rng0,rng1,rng2,rng3,rng4,rng5,rng6,rng7,rng8,Ym,Nat.reducePow,Qzy,QAs,T.Qxs,T.Qxt,Yj,Xx,ti0,zi0,ti3,zi3,un3,ti4,zi4,un4,ti42,ei42,ai42,zi42,un42,ti44,ei44,ai44,zi44,un44,ti69,Qfu,QgV,Qbe,QaZ,zi69,sp69,ti91,zi91,mi91,un91,QvP,QgR,Qjw,QvY,QvM,QvR,Qv0,QvW,QvS,Qy6,Int.sub_zero,QdR,QR,t10,wj]
    have hP2:NumP X Y q (n+szs c1) (szs bs[j].args):=⟨by have:=y1.long;rw[Qza]at this;omega,fun i hi hn=>by rw[y1.out i hi hn,Qzc (by omega)]⟩
    refine QZ.mk (m':=bs.length - (j+1)) (by omega) ?_
    rw[hI]
    refine⟨j+1,rfl,by omega,hP.trans hP2 (by omega) (by omega),by rw[eo];exact y2,?_,?_,t0,t1,t8,t9,by rw[wj];rfl⟩
    ·rw[ec']
     refine QtH (u:=bs[j]) (by rw[<-ec];exact hA) ?_ (by rw[T.QxF];exact y3) fun i h1 h2 h3=>hP2.out i ?_ (by rw[<-hu1];exact h3)
     ·rw[T.QxL,T.QxL bs[j]];exact Ze _ _ _
     ·rw[Zj,szs]at h2;omega
    ·rw[ec',Qsn (u:=bs[j]) (fun k=>by rw[T.QxT,T.QxT];exact QzP _ (by simp only[T.args,T.kind,T.int,T.name,Qhl])) (by rw[T.QxL,T.QxL bs[j]];exact Ze _ _ _),<-ec,<-hrow]
     exact hP2.out rid (by omega) (by omega)
  ·have hjl:j=bs.length:=by omega
   have z1:¬(((j:Nat):Int)<((bs.length:Nat):Int)):=by omega
   with_reducible repeat first|refine Qd fun K E hK hE=>?_;simp only[Qr,Qi,Qn,OpW,aop,AS.ev,Ql,Nat.reduceLT,aBin,Qyl,Qbq,QyQ,t9,t10,z1]|refine QN fun K hK=>?_|refine Qah ?_|refine ZE ?_|refine ZD ?_|refine hK _ ?_;clear hK|refine Qw rfl ?_;simp only[↓reduceIte,Qyn]
   simp only[Qyl,Qyp,List.mapM_nil,Option.pure_def,Qyl,Zr,Xf,Qyt]
   subst hjl
   have hcur:Cur ord bs bs.length=(Xn gNum ord bs).1:=by rw[Cur,Qzb,QzG,QyM]
   rw[Qzb]at hS
   rw[hcur]at hA hrow
   refine .inr ⟨rfl,hP,hS,?_⟩
   have hne2:(Xn gNum ord bs).1≠[]:=fun e=>hne (QAW (by rw[<-Qa1 gNum ord bs,e];rfl))
   exact QvK hA hne2 (by rw[Ze,<-hrid];exact hrow)
 ·rw[hI]
  have hcur:Cur ord bs 0=bs:=by simp[Cur,Xn]
  exact⟨0,rfl,Qzy _,NumP.refl _ _ _ _,by simpa [Xn]using hS0,by rw[hcur];exact hA1,by rw[hcur];exact hrow0,rfl,rfl,rfl,rfl,rfl⟩
end
theorem Qfm:∀(N:Nat) (bs:List T),szs bs<N->pss bs->∀(X:AH) (q n:Nat) (ord:List Int),ord.length+ndsL bs<=1000000000->n+szs bs<=q->q+1<X.length->NSt X q ord->At X n (layA 69 n bs)->Qp Tryz.prog 111 [.ptr q 0 0,lsl n bs] X (TmQ X q n ord bs)
 |0,bs,h=>(Nat.not_lt_zero _ h).elim
 |N+1,bs,h=>fun hp X q n ord h1 h2 h3 h4 h5=>Qo8 (Qfm N) bs h hp X q n ord h1 h2 h3 h4 h5
end Go.Proofs.YtenheconhibonaaGreatDoor.Ab
namespace Go.Proofs.YtenheconhibonaaGreatDoor.Ab
open Go.Proofs
theorem Qoz{X σ:Type}(g:σ->X->X×σ)(s:σ){l:List X}{k:Nat}(h:k<l.length) :
  (Qu g s (l.take (k+1))).1=(Qu g s (l.take k)).1++[(g (Qu g s (l.take k)).2 l[k]).1]/\(Qu g s (l.take (k+1))).2=(g (Qu g s (l.take k)).2 l[k]).2:=by
 rw[QAp h,Qfz]
 exact⟨by simp[Qu],by simp[Qu]⟩
def gG(s:List Int)(g:G):G×List Int:=(⟨g.op,g.name,(Xn gNum s g.args).1⟩,(Xn gNum s g.args).2)
def ndG:List G->Nat
 |[]=>0
 |g::l=>ndsL g.args+ndG l
theorem QiN:∀a b:List G,ndG (a++b)=ndG a+ndG b
 |[],b=>by simp[ndG]
 |t::a,b=>by rw[QyL,ndG,ndG,QiN a b];omega
theorem Qlj(l:List G){j:Nat}(h:j<l.length):ndG (l.take j)+ndsL l[j].args<=ndG l:=by
 have:=QzP ndG (Qz1 j l)
 rw[QiN,Qzq h,ndG]at this
 omega
theorem Qcn:∀(s:List Int) (l:List G),(Qu gG s l).2.length<=s.length+ndG l
 |s,[]=>by simp[Qu]
 |s,g::l=>by
  have h1:=QeB s g.args
  have h2:=Qcn (gG s g).2 l
  simp only[Qu,ndG]
  show _<=_
  have h3:(gG s g).2=(Xn gNum s g.args).2:=rfl
  rw[h3]at h2 ⊢
  omega
theorem YT:∀(s:List Int) (l:List G),gsz (Qu gG s l).1=gsz l
 |s,[]=>rfl
 |s,g::l=>by
  simp only[Qu,gsz,YT _ l]
  rw[show(gG s g).1.args=(Xn gNum s g.args).1 from rfl,Ze]
def CurG(ord:List Int)(bs:List G)(j:Nat):List G:=(Qu gG ord (bs.take j)).1++bs.drop j
theorem Qiw(ord:List Int){bs:List G}{j:Nat}(hj:j<bs.length):CurG ord bs j=(Qu gG ord (bs.take j)).1++bs[j]::bs.drop (j+1) /\
  CurG ord bs (j+1)=(Qu gG ord (bs.take j)).1++(gG (Qu gG ord (bs.take j)).2 bs[j]).1::bs.drop (j+1)/\(Qu gG ord (bs.take (j+1))).2=(gG (Qu gG ord (bs.take j)).2 bs[j]).2:=by
 obtain⟨h1,h2⟩:=Qoz gG ord hj
 refine⟨by rw[CurG,Qzq hj],?_,h2⟩
 rw[CurG,h1,Qze];rfl
theorem QjG(tt:TypeId):∀(n:Nat) (l:List G) (g:G) (m:List G),layG tt n (l++g::m)=layG tt n l++(.dead::(layA tt (n+gsz l+1) g.args++(.dead::layG tt (n+gsz l+szs g.args+2) m)))
 |n,[],g,m=>by simp[layG,gsz]
 |n,a::l,g,m=>by
  rw[QyL,layG,layG,QjG tt _ l g m,gsz]
  rw[show n+szs a.args+2+gsz l=n+(szs a.args+2+gsz l) by omega]
  simp only[QyL,Qze]
theorem QqB(vw:Nat->G->AV):∀(n:Nat) (l:List G) {j:Nat} (h:j<l.length),(lvG vw n l)[j]? = some (vw (n+gsz (l.take j)+1) l[j])
 |n,g::l,0,h=>by simp[lvG,gsz]
 |n,g::l,j+1,h=>by
  rw[lvG,Qyk,QqB vw _ l (by simpa using h),List.take_succ_cons,gsz,QAY]
  rw[show n+szs g.args+2+gsz (l.take j)=n+(szs g.args+2+gsz (l.take j)) by omega]
theorem At.keep{X Y:AH}{n:Nat}{L:AH}(h:At X n L)(hk:∀i,n<=i->i<n+L.length->Y[i]? = X[i]?):At Y n L:=fun j b hb hl=>by
 rw[hk _ (by omega) (by have:=Qf hb;omega)];exact h j b hb hl
theorem at_g{X:AH}{tt:TypeId}{n:Nat}{l m:List G}{g:G}(h:At X n (layG tt n (l++g::m))):At X (n+gsz l+1) (layA tt (n+gsz l+1) g.args):=by
 rw[QjG]at h
 have h1:=h.right (m:=n+gsz l) (by rw[QB])
 exact(At.right (L:=[.dead]) h1 rfl).left
theorem Qpv{X Y:AH}{tt:TypeId}{n:Nat}{l m:List G}{g g':G}(h:At X n (layG tt n (l++g::m)))(hs:szs g'.args=szs g.args)(hg:At Y (n+gsz l+1) (layA tt (n+gsz l+1) g'.args))
  (hout:∀i,n<=i->i<n+gsz (l++g::m)->¬(n+gsz l+1<=i/\i<n+gsz l+1+szs g.args)->Y[i]? = X[i]?):At Y n (layG tt n (l++g'::m)):=by
 have hz:gsz (l++g::m)=gsz l+(szs g.args+2+gsz m):=by rw[Qam,gsz]
 rw[QjG]at h ⊢
 have h1:=h.right (m:=n+gsz l) (by rw[QB])
 have h0:At X (n+gsz l+1) (layA tt (n+gsz l+1) g.args++(.dead::layG tt (n+gsz l+szs g.args+2) m)):=At.right (L:=[.dead]) h1 rfl
 have h2:=h0.right (m:=n+gsz l+1+szs g.args) (by rw[Yq])
 have h3:At X (n+gsz l+1+szs g.args+1) (layG tt (n+gsz l+szs g.args+2) m):=At.right (L:=[.dead]) (M:=layG tt (n+gsz l+szs g.args+2) m) h2 rfl
 refine At.both (h.left.keep fun i h1 h2=>hout i h1 (by rw[QB]at h2;omega) (by rw[QB]at h2;omega)) ?_
 rw[QB]
 refine At.cons (fun e=>by cases e) (At.both hg ?_)
 rw[Yq,hs]
 refine At.cons (fun e=>by cases e) (h3.keep fun i h1 h2=>hout i (by omega) (by rw[QB]at h2;omega) (by omega))
def GnQ(X:AH)(q n:Nat)(ord:List Int)(l:List G)(o:AOut)(h':AH):Prop:=o = .ret (.tup [])/\NumP X h' q n (gsz l)/\NSt h' q (Qu gG ord l).2/\At h' n (layG 69 n (Qu gG ord l).1)
theorem Qh6(l:List G)(own:Option Nat)(hps:∀g∈l,pss g.args)(X0:AH)(q n:Nat)(ord:List Int)(hbl:l.length<=1000000000)(hb:ord.length+ndG l<=1000000000)(hq:n+gsz l<=q)(hqx:q+1<X0.length)(hS0:NSt X0 q ord)(hA0:At X0 n (layG 69 n l)) :
  Qp Tryz.prog 69 [.ptr q 0 0,.sl 3 (lvG gv n l) own] X0 (GnQ X0 q n ord l):=by
 have hlv:=Zi gv n l
 refine Qc Tryz.func69 rfl Tryz.call69 Tryz.ntmps69 Tryz.results69 (by simp) ?_
 repeat refine Qa ?_;simp only[go_sem,seval,hlv]
 obtain⟨I,hI⟩:∃I:Nat->AS->Prop,I=fun m' s=>∃(j:Nat),m'=l.length - j/\j<=l.length/\NumP X0 s.h q n (gsz l)/\NSt s.h q (Qu gG ord (l.take j)).2/\At s.h n (layG 69 n (CurG ord l j)) /\
  s.tm 0 = .ptr q 0 0/\s.tm 6 = .sl 3 (lvG gv n l) own/\s.tm 7 = .i l.length/\s.tm 8 = .i j:=⟨_,rfl⟩;refine Qv I ?_ (m:=l.length) ?_
 ·intro m' s hs;rw[hI]at hs;obtain⟨tm,hp⟩:=s;dsimp only at hs;obtain⟨j,rfl,hj,hP,hS,hA,t0,t6,t7,t8⟩:=hs
  by_cases hlt:j<l.length
  ·have z1:(((j:Nat):Int)<((l.length:Nat):Int)):=by omega
   obtain⟨ec,ec',eo⟩:=Qiw ord hlt
   have hpl:=hP.long
   generalize hX:hp=X at *
   generalize hc1:(Qu gG ord (l.take j)).1=c1 at *
   have hc1s:gsz c1=gsz (l.take j):=by rw[<-hc1,YT]
   generalize hord:(Qu gG ord (l.take j)).2=ordj at *
   have hol:ordj.length+ndsL l[j].args<=1000000000:=by
    have h1:=Qcn ord (l.take j)
    have h2:=Qlj l hlt
    rw[hord]at h1;omega
   have hszu:gsz (l.take j)+(szs l[j].args+2+gsz (l.drop (j+1)))=gsz l:=by
    have:=QzP gsz (Qz1 j l)
    rw[Qam,Qzq hlt,gsz]at this
    exact this
   have hat:(lvG gv n l)[j]? = some (gv (n+gsz c1+1) l[j]):=by rw[QqB _ _ _ hlt,hc1s]
   have e1:(gv (n+gsz c1+1) l[j]).cells=[.i l[j].op,.v (.string l[j].name),lsl (n+gsz c1+1) l[j].args]:=rfl
   have e2:(gv (n+gsz c1+1) l[j]).isAgg=true:=rfl
   have wj:IntKind.i64.wrap (((j:Nat):Int)+1)=((j+1:Nat):Int):=QY (by omega)
   have hsub:At X (n+gsz c1+1) (layA 69 (n+gsz c1+1) l[j].args):=at_g (by rw[<-ec];exact hA)
   have cI:∀c:AB,Qp Tryz.prog 111 [.ptr q 0 0,lsl (n+gsz c1+1) l[j].args] (X++[c]) fun o h'=>o = .ret (.tup [])/\∃Y:{Y:AH // TmQ (X++[c]) q (n+gsz c1+1) ordj l[j].args (.ret (.tup [])) Y},h'=Y.1:=fun c =>
    (Qfm (szs l[j].args+1) l[j].args (by omega) (hps _ (QzF hlt)) (X++[c]) q (n+gsz c1+1) ordj hol (by omega) (by rw[Qza];omega) (hS.app _) (hsub.app _)).mono fun o h' q=>by
      obtain⟨rfl,q2⟩:=q
      exact⟨rfl,⟨h',rfl,q2⟩,rfl⟩
   repeat (first|refine FunW.retE (FunW.call (cI _)) fun Y=>?_|refine Qa ?_);simp only[go_sem,seval,t0,t6,t7,t8,z1,hat,hlv,e1,e2,QF]
   obtain⟨Y,hY⟩:=Y
   obtain⟨_,y1,y2,y3⟩:=hY
   repeat refine Qa ?_;simp only[go_sem,seval,t8,wj]
   have hP2:NumP X Y q (n+gsz c1+1) (szs l[j].args):=⟨by have:=y1.long;rw[Qza]at this;omega,fun i hi hn=>by rw[y1.out i hi hn,Qzc (by omega)]⟩
   refine QZ.mk (m':=l.length - (j+1)) (by omega) ?_
   rw[hI]
   refine⟨j+1,rfl,by omega,hP.trans hP2 (by omega) (by omega),by rw[eo];exact y2,?_,t0,t6,t7,by rw[wj];rfl⟩
   rw[ec']
   refine Qpv (g:=l[j]) (by rw[<-ec];exact hA) (Ze _ _ _) y3 fun i h1 h2 h3=>hP2.out i ?_ h3
   rw[Qam,gsz]at h2;omega
  ·have hjl:j=l.length:=by omega
   have z1:¬(((j:Nat):Int)<((l.length:Nat):Int)):=by omega
   repeat refine Qa ?_;simp only[go_sem,seval,t7,t8,z1]
   subst hjl
   have hcur:CurG ord l l.length=(Qu gG ord l).1:=by rw[CurG,Qzb,QzG,QyM]
   rw[Qzb]at hS
   rw[hcur]at hA
   exact .inr ⟨rfl,hP,hS,hA⟩
 ·rw[hI]
  have hcur:CurG ord l 0=l:=by simp[CurG,Qu]
  exact⟨0,rfl,Qzy _,NumP.refl _ _ _ _,by simpa [Qu]using hS0,by rw[hcur];exact hA0,rfl,rfl,rfl,rfl⟩
theorem Qh5(l:List G)(own:Option Nat)(hps:∀g∈l,pss g.args)(X0:AH)(q n:Nat)(ord:List Int)(hbl:l.length<=1000000000)(hb:ord.length+ndG l<=1000000000)(hq:n+gsz l<=q)(hqx:q+1<X0.length)(hS0:NSt X0 q ord)(hA0:At X0 n (layG 69 n l)) :
  Qp Tryz.prog 118 [.ptr q 0 0,.sl 2 (lvG av n l) own] X0 (GnQ X0 q n ord l):=by
 have hlv:=Zi av n l
 refine Qc Tryz.func118 rfl Tryz.call118 Tryz.ntmps118 Tryz.results118 (by simp) ?_
 repeat refine Qa ?_;simp only[go_sem,seval,hlv]
 obtain⟨I,hI⟩:∃I:Nat->AS->Prop,I=fun m' s=>∃(j:Nat),m'=l.length - j/\j<=l.length/\NumP X0 s.h q n (gsz l)/\NSt s.h q (Qu gG ord (l.take j)).2/\At s.h n (layG 69 n (CurG ord l j)) /\
  s.tm 0 = .ptr q 0 0/\s.tm 6 = .sl 2 (lvG av n l) own/\s.tm 7 = .i l.length/\s.tm 8 = .i j:=⟨_,rfl⟩;refine Qv I ?_ (m:=l.length) ?_
 ·intro m' s hs;rw[hI]at hs;obtain⟨tm,hp⟩:=s;dsimp only at hs;obtain⟨j,rfl,hj,hP,hS,hA,t0,t6,t7,t8⟩:=hs
  by_cases hlt:j<l.length
  ·have z1:(((j:Nat):Int)<((l.length:Nat):Int)):=by omega
   obtain⟨ec,ec',eo⟩:=Qiw ord hlt
   have hpl:=hP.long
   generalize hX:hp=X at *
   generalize hc1:(Qu gG ord (l.take j)).1=c1 at *
   have hc1s:gsz c1=gsz (l.take j):=by rw[<-hc1,YT]
   generalize hord:(Qu gG ord (l.take j)).2=ordj at *
   have hol:ordj.length+ndsL l[j].args<=1000000000:=by
    have h1:=Qcn ord (l.take j)
    have h2:=Qlj l hlt
    rw[hord]at h1;omega
   have hszu:gsz (l.take j)+(szs l[j].args+2+gsz (l.drop (j+1)))=gsz l:=by
    have:=QzP gsz (Qz1 j l)
    rw[Qam,Qzq hlt,gsz]at this
    exact this
   have hat:(lvG av n l)[j]? = some (av (n+gsz c1+1) l[j]):=by rw[QqB _ _ _ hlt,hc1s]
   have e1:(av (n+gsz c1+1) l[j]).cells=[.v (.string l[j].name),lsl (n+gsz c1+1) l[j].args]:=rfl
   have e2:(av (n+gsz c1+1) l[j]).isAgg=true:=rfl
   have wj:IntKind.i64.wrap (((j:Nat):Int)+1)=((j+1:Nat):Int):=QY (by omega)
   have hsub:At X (n+gsz c1+1) (layA 69 (n+gsz c1+1) l[j].args):=at_g (by rw[<-ec];exact hA)
   have cI:∀c:AB,Qp Tryz.prog 111 [.ptr q 0 0,lsl (n+gsz c1+1) l[j].args] (X++[c]) fun o h'=>o = .ret (.tup [])/\∃Y:{Y:AH // TmQ (X++[c]) q (n+gsz c1+1) ordj l[j].args (.ret (.tup [])) Y},h'=Y.1:=fun c =>
    (Qfm (szs l[j].args+1) l[j].args (by omega) (hps _ (QzF hlt)) (X++[c]) q (n+gsz c1+1) ordj hol (by omega) (by rw[Qza];omega) (hS.app _) (hsub.app _)).mono fun o h' q=>by
      obtain⟨rfl,q2⟩:=q
      exact⟨rfl,⟨h',rfl,q2⟩,rfl⟩
   repeat (first|refine FunW.retE (FunW.call (cI _)) fun Y=>?_|refine Qa ?_);simp only[go_sem,seval,t0,t6,t7,t8,z1,hat,hlv,e1,e2,QF]
   obtain⟨Y,hY⟩:=Y
   obtain⟨_,y1,y2,y3⟩:=hY
   repeat refine Qa ?_;simp only[go_sem,seval,t8,wj]
   have hP2:NumP X Y q (n+gsz c1+1) (szs l[j].args):=⟨by have:=y1.long;rw[Qza]at this;omega,fun i hi hn=>by rw[y1.out i hi hn,Qzc (by omega)]⟩
   refine QZ.mk (m':=l.length - (j+1)) (by omega) ?_
   rw[hI]
   refine⟨j+1,rfl,by omega,hP.trans hP2 (by omega) (by omega),by rw[eo];exact y2,?_,t0,t6,t7,by rw[wj];rfl⟩
   rw[ec']
   refine Qpv (g:=l[j]) (by rw[<-ec];exact hA) (Ze _ _ _) y3 fun i h1 h2 h3=>hP2.out i ?_ h3
   rw[Qam,gsz]at h2;omega
  ·have hjl:j=l.length:=by omega
   have z1:¬(((j:Nat):Int)<((l.length:Nat):Int)):=by omega
   repeat refine Qa ?_;simp only[go_sem,seval,t7,t8,z1]
   subst hjl
   have hcur:CurG ord l l.length=(Qu gG ord l).1:=by rw[CurG,Qzb,QzG,QyM]
   rw[Qzb]at hS
   rw[hcur]at hA
   exact .inr ⟨rfl,hP,hS,hA⟩
 ·rw[hI]
  have hcur:CurG ord l 0=l:=by simp[CurG,Qu]
  exact⟨0,rfl,Qzy _,NumP.refl _ _ _ _,by simpa [Qu]using hS0,by rw[hcur];exact hA0,rfl,rfl,rfl,rfl⟩
theorem QvX{c:Cx}(hst:St c){id ty n:Nat}{xs xs':List AV}{j:Nat}{v w:AV}(hb:c.h[id]? = some (.cells ty n xs))(hj:(flat xs)[j]? = some v)(hf:flat xs'=(flat xs).set j w)(hw:Wk v w)(hc:∀x∈xs',x.cells.length=n) :
  ∃c2,Ev c c2/\St c2/\c2.h=c.h.set id (AB.cells ty n xs')/\c2.w=c.w:=by
 obtain⟨B,cur,hρ,hcur,h3,h4⟩:=hst.blocks id _ hb
 have hev2:=Ev.turn (b':=.cells ty n xs') hst hb rfl hρ (w:=c.w) rfl rfl rfl rfl (fun _ _=>rfl) (.inr ⟨_,rfl,rfl,fun _ cur _ h=>⟨cur,h,rfl⟩⟩)
 have hst2:=St.turn (b':=.cells ty n xs') hst hb rfl hρ (w:=c.w) (fun _ _=>rfl) hev2 ⟨B,cur,hρ,hcur,hc,by
  intro i a' hi
  rw[hf]at hi
  by_cases e:j=i
  ·subst e
   rw[Qzj (Qf hj)]at hi
   cases hi
   obtain⟨u,g1,g2,g3⟩:=h4 j _ hj
   exact⟨_,g1,g2,(hw _ _ g3).ev hst hev2⟩
  ·rw[Qzd e]at hi
   obtain⟨u,g1,g2,g3⟩:=h4 i _ hi
   exact⟨u,g1,g2,g3.ev hst hev2⟩⟩
 exact⟨_,hev2,hst2,rfl,rfl⟩
theorem QcI{P:Program}{N:Nat}{code:Code}{Q:AExit->AS->Prop}{tm:Nat->AV}{h:AH}(id ty n:Nat)(xs xs':List AV)(j:Nat){v w:AV}(hw:Wk v w)(hb:h[id]? = some (.cells ty n xs))
  (hj:(flat xs)[j]? = some v) (hf:flat xs'=(flat xs).set j w) (hc:∀x∈xs',x.cells.length=n)
  (H:Xs P N code Q ⟨tm,h.set id (AB.cells ty n xs')⟩):Xs P N code Q ⟨tm,h⟩:=by
 intro F m base c a hF hst hr R hR
 have hh:c.h=h:=hr.h
 subst hh
 obtain⟨c2,hev,hst2,hh2,hw2⟩:=QvX hst hb hj hf hw hc
 rw[<-hw2]
 exact H F m base c2 a hF hst2 ⟨hh2,hr.size,QzL hr.above hev.size,hr.defers.ev hev,RoundOk.ev hev hr.round,fun t=>(hr.tm t).ev hst hev⟩ R fun e' s' c' a' ex hq h1 h2 h3 h4=>hR e' s' c' a' ex hq (Ev.trans hst hev h1) h2 h3 h4
def Pz.to(P:Pz)(n:Nat):Pz:=⟨P.all,P.i,P.j,n⟩
def pN(P:Pz)(s:PS)(own:Option Nat):AB:=.cells 117 4 [.agg [.sl 3 (tks P.all) none,.i ((P.all.length - s.toks.length:Nat):Int),.sl 1 (strs s.names) own,.mp P.j]]
structure PIn (P:Pz) (X:AH) (s:PS) (own:Option Nat) (m:List (ByteArray×AV)):Prop where
 i:X[P.i]? = some (pN P s own)
 j:X[P.j]? = some (.map (smap m))
theorem PIn.ok{P:Pz}{X:AH}{s:PS}{own:Option Nat}{m:List (ByteArray×AV)}(H:PIn P X s own m)(L:AH)(x:AB):(P.to X.length).ok (X++(x::L)):=by
 have h1:=Qf H.i
 have h2:=Qf H.j
 refine⟨by rw[Qza];simp only[Pz.to];omega,by rw[Qza];simp only[Pz.to];omega,by rw[Qza,Qyw];simp only[Pz.to];omega,?_,?_,?_⟩
 ·intro e
  simp only[Pz.to]at e
  have h3:=H.i
  rw[e,H.j]at h3
  cases h3
 ·simp only[Pz.to];omega
 ·simp only[Pz.to];omega
theorem Qoa{X:AH}{P:Pz}{s:PS}{own:Option Nat}{m:List (ByteArray×AV)}(H:PIn P X s own m):Qp Tryz.prog 107 [.ptr P.i 0 0] X fun o h'=>o = .ret (.tup [])/\h'=ph (X++[.dead]) (P.to X.length) ⟨s.toks,[]⟩:=by
 have hi:=H.i
 have hj:=H.j
 have h1:=Qf hi
 have h2:=Qf hj
 have h3:P.i≠P.j:=(H.ok [] .dead).ij
 rw[pN]at hi
 have a1:∀(y:AB),(X.set P.i y)[P.i]? = some y:=fun y=>Qzj (by omega)
 refine Qc Tryz.func107 rfl Tryz.call107 Tryz.ntmps107 Tryz.results107 (by simp) ?_
 iterate 3 (try (first|(((refine Qd fun K E hK hE=>?_));simp only[go_sem,seval,hi])|(refine QN fun K hK=>?_)|((with_reducible refine hK _ ?_);clear hK)))
 refine ZH P.i 117 4 1 (.grow 9 1 0) (.inr ⟨_,rfl⟩) [.agg [.sl 3 (tks P.all) none,.i ((P.all.length - s.toks.length:Nat):Int),.v (.slice none 0 0),.mp P.j]] [.agg [.sl 3 (tks P.all) none,.i ((P.all.length - s.toks.length:Nat):Int),.sl 1 [] (some X.length),.mp P.j]] 2 (a1 _) rfl (by simp[flat,AV.cells]) (by simp[AV.cells]) ?_
 rw[Qzw _ _ (by rw[Qzm];omega),QAS]
 generalize hB:AB.cells 117 4 [.agg [.sl 3 (tks P.all) none,.i ((P.all.length - s.toks.length:Nat):Int),.sl 1 [] (some X.length),.mp P.j]]=B at *
 have b1:(X.set P.i B++[.grow 9 1 0])[P.i]? = some (AB.cells 117 4 [.agg [.sl 3 (tks P.all) none,.i ((P.all.length - s.toks.length:Nat):Int),.sl 1 [] (some X.length),.mp P.j]]):=by rw[Qzc (by rw[Qzm];omega),a1,hB]
 have b2:(X.set P.i B++[.grow 9 1 0])[P.j]? = some (.map (smap m)):=by rw[Qzc (by rw[Qzm];omega),Qzd h3];exact hj
 have nn:notNil Tryz.prog 115 (X.set P.i B++[.grow 9 1 0]) (.mp P.j) (.map none)=true:=by
  have hu:Tryz.prog.underlying 115=some (.map 9 3):=by kernel_rfl
  simp only[notNil,hu,b2]
 repeat first|refine Qa ?_;simp only[go_sem,seval,Qkr,b1,b2,nn]|refine hK _ ?_;clear hK
 refine .inr ⟨rfl,?_⟩
 rw[Qzw _ _ (by rw[Qzm];omega)]
 unfold ph
 rw[Qzw _ _ (by simp only[Pz.to];omega),Qzw _ _ (by simp only[Pz.to,Qzm];omega),Qz7 _ _ (by simp only[Pz.to,Qzm];omega),<-hB]
 simp only[Pz.to,Qzm,Qz0]
 rfl
theorem Ql8{X:AH}{P:Pz}{s:PS}(hi:X[P.i]? = some (.cells 117 4 [.agg [.sl 3 (tks P.all) none,.i ((P.all.length - s.toks.length:Nat):Int),.v (.slice none 0 0),.v (.map none)]]))(hj:P.j=X.length+1) :
  Qp Tryz.prog 107 [.ptr P.i 0 0] X fun o h'=>o = .ret (.tup [])/\h'=ph (X++[.dead,.dead]) (P.to X.length) ⟨s.toks,[]⟩:=by
 have h1:=Qf hi
 have a1:∀(y:AB),(X.set P.i y)[P.i]? = some y:=fun y=>Qzj (by omega)
 have nM:pv Tryz.prog (do eqGuard .eql 115 (Operand.tmp 8) (Operand.const (Value.map none)) (.map none) (.map none);binOp .eql 115 (.map none) (.map none))=some (.bool true):=by kernel_rfl
 refine Qc Tryz.func107 rfl Tryz.call107 Tryz.ntmps107 Tryz.results107 (by simp) ?_
 iterate 3 (try (first|(((with_reducible refine Qd fun K E hK hE=>?_));simp only[Qr,Qi,Qn,OpW,aop,undef,AS.ev,Ql,XZ,YN,Qz,Xm,Qyq,AV.Qxu,QD,Zk,QK,Zz,QyD,QyE,Xh,QyF,↓reduceIte,Qyw,Qyx,Nat.reduceAdd,Nat.reduceLT,Nat.reduceLeDiff,Nat.reduceEqDiff,Qyv,QyR,Qm,Zt,XS,Qyj,QyN,Qyl,QyL,QyK,Qyu,QyB,Qys,QyA,Qyn,ti48,Qju,QR,hi])|(with_reducible refine QN fun K hK=>?_)|((with_reducible refine hK _ ?_);clear hK)))
 refine ZH P.i 117 4 1 (.grow 9 1 0) (.inr ⟨_,rfl⟩) [.agg [.sl 3 (tks P.all) none,.i ((P.all.length - s.toks.length:Nat):Int),.v (.slice none 0 0),.v (.map none)]] [.agg [.sl 3 (tks P.all) none,.i ((P.all.length - s.toks.length:Nat):Int),.sl 1 [] (some X.length),.v (.map none)]] 2 (a1 _) rfl (by simp[flat,AV.cells]) (by simp[AV.cells]) ?_
 rw[Qzw _ _ (by rw[Qzm];omega),QAS]
 have b1:∀(B:AB) (L:AH),(X.set P.i B++L)[P.i]? = some B:=fun B L=>by rw[Qzc (by rw[Qzm];omega),a1]
 have b2:∀(B C:AB) (L:AH),(X.set P.i B++L).set P.i C=X.set P.i C++L:=fun B C L=>by rw[Qzw _ _ (by rw[Qzm];omega),QAS]
 have b3:∀(B:AB) (L:AH) (k:Nat),(X.set P.i B++L)[X.length+k]? = L[k]? := fun B L k=>by rw[Qzi (by rw[Qzm];omega),Qzm];congr 1;omega
 have b4:∀(B C:AB) (L:AH) (k:Nat),(X.set P.i B++L).set (X.length+k) C=X.set P.i B++L.set k C:=fun B C L k=>by rw[Qz7 _ _ (by rw[Qzm];omega),Qzm];congr 2;omega
 with_reducible repeat first|(first|refine Qd fun K E hK hE=>?_|refine Qs fun K E hK hE=>?_);simp only[Qr,Qi,Qn,OpW,aop,undef,AS.ev,Ql,XZ,Qac,Qz,Xm,Qyq,AV.Qxu,QD,Zn,QK,Zo,QyD,QyE,Zm,QyF,↓reduceIte,Qyw,Qyx,Nat.reduceAdd,Nat.reduceLT,Nat.reduceLeDiff,Nat.reduceEqDiff,Qyv,QyR,Qm,Xt,Xv,Zt,XS,aBin,happ,Qyj,Qyk,QyN,QyO,Qyl,QyY,QyL,QyK,QyM,Qyu,QyB,Qys,QyA,Qyn,QvO,QvU,Qjv,Qkr,QR,b1,b2,b3,b4,nM,Qzm,Qza]|refine Qk ?_|refine hK _ ?_;clear hK|refine Qw rfl ?_;simp only[↓reduceIte]
 simp only[Qyl,Qyp,List.mapM_nil,Option.pure_def,Qyl,Zr,Xf,Qyt]
 refine .inr ⟨rfl,?_⟩
 unfold ph
 rw[Qzw _ _ (by simp only[Pz.to];omega),Qz7 _ _ (by simp only[Pz.to,Qzm];omega),Qz7 _ _ (by simp only[Pz.to,Qzm];omega)]
 simp only[Pz.to,Qzm,Qz0,hj,QAe]
 rfl
end Go.Proofs.YtenheconhibonaaGreatDoor.Ab
namespace Go.Proofs.YtenheconhibonaaGreatDoor.Ab
open Go.Proofs
section
variable{P:Pz}{s:PS}{own:Option Nat}(hW:Wst P.all s){X:AH}(hX:X[P.i]? = some (pN P s own))
include hW hX
theorem Qtn(L:AH):(X++L)[P.i]? = some (pN P s own):=by have _u:=hW;rw[Qzc (Qf hX)];exact hX
theorem QoF:Qp Tryz.prog 76 [.ptr P.i 0 0] X fun o h'=>o = .ret s.tk.av/\h'=X:=by
 obtain⟨h1,h2⟩:=QrA hW
 have hi:=Qtn hW hX
 have hi0:=hX
 rw[pN]at hi0
 simp only[pN]at hi
 have e1:=Tk.Qxs s.tk
 have e2:=Tk.Qxt s.tk
 generalize P.all.length - s.toks.length=k at *
 refine Qc Tryz.func76 rfl Tryz.call76 Tryz.ntmps76 Tryz.results76 (by simp) ?_
 repeat first|(first|refine Qj (id:=1) [(0,0),(1,0),(2,0),(3,0),(4,0),(5,0),(6,0),(7,0),(8,0),(9,0),(10,2)] mixed (by kernel_rfl) fun K hK=>?_|refine Qa ?_);simp only[go_sem,seval,hi,h1,h2,Qdx,e1,e2]|refine hK _ ?_;clear hK
 exact Qb (htake _ _) (.keep (QeR _ _)) ⟨rfl,rfl⟩
theorem Qsa(hk:s.tk.kind=0):Qp Tryz.prog 68 [.ptr P.i 0 0] X fun o h'=>o = .ret (.tup [])/\h'=X:=by
 have cn:=QoF hW hX
 have hi0:=hX
 rw[pN]at hi0
 have e1:=Tk.Qxs s.tk
 have e2:=Tk.Qxt s.tk
 have z1:(s.tk.kind != 0)=false:=by simpa using hk
 refine Qm8 (by simp) ?_
 repeat (first|refine FunW.Qxr cn ?_|refine Qa ?_);simp only[go_sem,seval,e1,e2,z1]
 exact Qb (htake _ _) (.keep (.tup _ (by simp))) ⟨rfl,rfl⟩
theorem QtN(hk:s.tk.kind≠0):Qp Tryz.prog 68 [.ptr P.i 0 0] X fun o h'=>o = .panic (Fl s.tk.pos 16)/\h'=X:=by
 have cn:=QoF hW hX
 have hi0:=hX
 rw[pN]at hi0
 have e1:=Tk.Qxs s.tk
 have e2:=Tk.Qxt s.tk
 have z1:(s.tk.kind != 0)=true:=by simpa using hk
 have cf:=Za s.tk 16
 refine Qm8 (by simp) ?_
 repeat (first|refine FunW.Qxr cn ?_|refine FunW.pan (FunW.call (cf _ _)) ?_|refine Qa ?_);simp only[go_sem,seval,e1,e2,z1]
 exact Qb (htake _ _) (.keep (Qdf _ _ _)) ⟨rfl,rfl⟩
theorem Qrn(n m:Int)(hm:¬m<=n):Qp Tryz.prog 77 [.ptr P.i 0 0,.i n,.i m] X fun o h'=>o = .ret (.tup [])/\h'=X:=by
 have _hu:=hW
 have _u:=hX
 have z1:¬n>=m:=hm
 refine Qf0 (by simp) ?_
 repeat refine Qa ?_;simp only[go_sem,seval,hm]
 exact .inr ⟨rfl,rfl⟩
theorem QsM(n m:Int)(hm:m<=n):Qp Tryz.prog 77 [.ptr P.i 0 0,.i n,.i m] X fun o h'=>o = .panic (Fl s.tk.pos 6)/\h'=X:=by
 have z1:n>=m:=hm
 have hi0:=hX
 rw[pN]at hi0
 have cn:=QoF hW hX
 have cf:=Za s.tk 6
 refine Qf0 (by simp) ?_
 repeat (first|refine FunW.Qxr cn ?_|refine FunW.pan (FunW.call (cf _ _)) ?_|refine Qa ?_);simp only[go_sem,seval,hm]
 exact .inr ⟨rfl,rfl⟩
end
theorem QjQ(X:AH)(q n:Nat)(ord:List Int)(hS:NSt X q ord):Qp Tryz.prog 69 [.ptr q 0 0,.v (.slice none 0 0)] X (GnQ X q n ord []):=by
 have hn:=fun t'=>QeD Tryz.prog 23 t' 53 (by kernel_rfl)
 refine Qc Tryz.func69 rfl Tryz.call69 Tryz.ntmps69 Tryz.results69 (by simp) ?_
 repeat refine Qa ?_;simp only[go_sem,seval,hn]
 obtain⟨I,hI⟩:∃I:Nat->AS->Prop,I=fun m' s=>s.tm 7 = .i 0/\s.tm 8 = .i 0/\s.h=X:=⟨_,rfl⟩;refine Qv I ?_ (m:=0) ?_
 ·intro m' s hs;rw[hI]at hs;obtain⟨tm,hp⟩:=s;dsimp only at hs;obtain⟨t9,t10,rfl⟩:=hs
  have z:¬((0:Int)<0):=by omega
  repeat refine Qa ?_;simp only[go_sem,seval,t9,t10,z]
  exact .inr ⟨rfl,NumP.refl _ _ _ _,hS,At.nil _ _⟩
 ·rw[hI]
  exact⟨rfl,rfl,rfl⟩
theorem QjP(X:AH)(q n:Nat)(ord:List Int)(hS:NSt X q ord):Qp Tryz.prog 118 [.ptr q 0 0,.v (.slice none 0 0)] X (GnQ X q n ord []):=by
 have hn:=fun t'=>QeD Tryz.prog 22 t' 66 (by kernel_rfl)
 refine Qc Tryz.func118 rfl Tryz.call118 Tryz.ntmps118 Tryz.results118 (by simp) ?_
 repeat refine Qa ?_;simp only[go_sem,seval,hn]
 obtain⟨I,hI⟩:∃I:Nat->AS->Prop,I=fun m' s=>s.tm 7 = .i 0/\s.tm 8 = .i 0/\s.h=X:=⟨_,rfl⟩;refine Qv I ?_ (m:=0) ?_
 ·intro m' s hs;rw[hI]at hs;obtain⟨tm,hp⟩:=s;dsimp only at hs;obtain⟨t9,t10,rfl⟩:=hs
  have z:¬((0:Int)<0):=by omega
  repeat refine Qa ?_;simp only[go_sem,seval,t9,t10,z]
  exact .inr ⟨rfl,NumP.refl _ _ _ _,hS,At.nil _ _⟩
 ·rw[hI]
  exact⟨rfl,rfl,rfl⟩
def sG(vw:Nat->G->AV)(w n:Nat)(l:List G):AV:=if l.isEmpty then .v (.slice none 0 0)else .sl w (lvG vw n l) none
theorem QeM(vw:Nat->G->AV)(w n:Nat)(l:List G):(sG vw w n l).cell1=true:=by unfold sG;split <;> rfl
theorem Qgd(vw:Nat->G->AV)(w n:Nat)(l:List G):(sG vw w n l).cells=[sG vw w n l]:=by unfold sG;split <;> rfl
theorem Qge(vw:Nat->G->AV)(w n:Nat)(l:List G):(sG vw w n l).isAgg=false:=by unfold sG;split <;> rfl
theorem Qj4(vw:Nat->G->AV)(w n:Nat){l:List G}(h:l≠[]):sG vw w n l = .sl w (lvG vw n l) none:=by unfold sG;rw[Qzf (by simpa using h)]
theorem QvL(vw:Nat->G->AV)(w n:Nat):sG vw w n [] = .v (.slice none 0 0):=rfl
theorem QkV(l:List G)(hps:∀g∈l,pss g.args)(X0:AH)(q n:Nat)(ord:List Int)(hbl:l.length<=1000000000)(hb:ord.length+ndG l<=1000000000)(hq:n+gsz l<=q)(hqx:q+1<X0.length)(hS0:NSt X0 q ord)(hA0:At X0 n (layG 69 n l)) :
  Qp Tryz.prog 69 [.ptr q 0 0,sG gv 3 n l] X0 (GnQ X0 q n ord l):=by
 by_cases e:l=[]
 ·subst e;exact QjQ X0 q n ord hS0
 ·rw[Qj4 _ _ _ e];exact Qh6 l none hps X0 q n ord hbl hb hq hqx hS0 hA0
theorem Qkx(l:List G)(hps:∀g∈l,pss g.args)(X0:AH)(q n:Nat)(ord:List Int)(hbl:l.length<=1000000000)(hb:ord.length+ndG l<=1000000000)(hq:n+gsz l<=q)(hqx:q+1<X0.length)(hS0:NSt X0 q ord)(hA0:At X0 n (layG 69 n l)) :
  Qp Tryz.prog 118 [.ptr q 0 0,sG av 2 n l] X0 (GnQ X0 q n ord l):=by
 by_cases e:l=[]
 ·subst e;exact QjP X0 q n ord hS0
 ·rw[Qj4 _ _ _ e];exact Qh5 l none hps X0 q n ord hbl hb hq hqx hS0 hA0
end Go.Proofs.YtenheconhibonaaGreatDoor.Ab
namespace Go.Proofs.YtenheconhibonaaGreatDoor.Ab
open Go.Proofs
def Qjz(l:List G):Prop:=∀g∈l,Qo g=true
def Qje(l:List G):Prop:=∀g∈l,Qt g=true
theorem QdV(most:Nat):∀(m:Nat) (l:List G) (s:PS) (a:List G) (s2:PS),Qjz l->YU most m l s = .ok a s2->Qjz a/\a.length<=most/\l.length<a.length
 |0,_,_,_,_,_,h=>by cases h
 |m+1,l,s,a,s2,hl,h=>by
  rw[YU]at h
  split at h
  ·cases h
  ·rename_i hm
   obtain⟨g,s1,h1,h⟩:=bind_ok h
   split at h
   ·cases h
   ·rename_i hg
    have hl2:Qjz (l++[g]):=fun x hx=>by
     rcases QzH.1 hx with hx|hx
     ·exact hl x hx
     ·rw[Qz8.1 hx];simpa using hg
    split at h
    ·obtain⟨a1,a2,a3⟩:=QdV most m _ _ a s2 hl2 h
     rw[Qza,QAI]at a3
     exact⟨a1,a2,by omega⟩
    ·cases h
     refine⟨hl2,?_,?_⟩ <;> rw[Qza,QAI] <;> omega
theorem Qor{most:Nat}{s:PS}{a:List G}{s2:PS}(h:YP most s = .ok a s2):Qjz a/\a.length<=most:=by
 obtain⟨h1,h2,_⟩:=QdV most _ [] s a s2 (fun _ h=>(Qzz h).elim) h
 exact⟨h1,h2⟩
theorem Qg7(pre:Nat):∀(m:Nat) (l:List G) (s:PS) (a:List G) (s2:PS),Qje l->YO pre m l s = .ok a s2->Qje a/\pre+a.length<=4/\l.length<a.length
 |0,_,_,_,_,_,h=>by cases h
 |m+1,l,s,a,s2,hl,h=>by
  rw[YO]at h
  split at h
  ·cases h
  ·rename_i hm
   obtain⟨g,s1,h1,h⟩:=bind_ok h
   split at h
   ·cases h
   ·rename_i hg
    have hl2:Qje (l++[g]):=fun x hx=>by
     rcases QzH.1 hx with hx|hx
     ·exact hl x hx
     ·rw[Qz8.1 hx];simpa using hg
    split at h
    ·obtain⟨a1,a2,a3⟩:=Qg7 pre m _ _ a s2 hl2 h
     rw[Qza,QAI]at a3
     exact⟨a1,a2,by omega⟩
    ·cases h
     refine⟨hl2,?_,?_⟩ <;> rw[Qza,QAI] <;> omega
theorem Qos{pre:Nat}{s:PS}{a:List G}{s2:PS}(h:Yt pre s = .ok a s2):Qje a/\pre+a.length<=4/\0<a.length:=Qg7 pre _ [] s a s2 (fun _ h=>(Qzz h).elim) h
theorem Qta{l:List T}(h:l.isEmpty=true):l=[]:=by cases l with|nil=>rfl|cons=>cases h
mutual
theorem T.Qyh:∀(t:T) (b d:Int),(t.run b d).1=true->t.ps/\(t.nds:Int)<=b - (t.run b d).2/\0<=(t.run b d).2
 | .mk k i n l,b,d,h=>by
  rw[T.run]at h ⊢
  rw[T.ps,T.nds]
  split at h
  ·cases h
  ·rename_i h0
   rw[Qzf h0]
   split at h
   ·rename_i h1
    rw[Qzh h1]
    have hl:l=[]:=Qta (by simp only[Qzk]at h;exact h.2)
    subst hl
    refine⟨⟨.inl h1,fun _=>rfl,trivial⟩,?_,?_⟩
    ·simp only[ndsL];omega
    ·show 0<=b - 1;omega
   ·rename_i h1
    rw[Qzf h1]
    split at h
    ·rename_i h2
     rw[Qzh h2]
     have hl:l=[]:=Qta (by simp only[Qzk]at h;exact h.2)
     subst hl
     refine⟨⟨.inr (.inl h2),fun _=>rfl,trivial⟩,?_,?_⟩
     ·simp only[ndsL];omega
     ·show 0<=b - 1;omega
    ·rename_i h2
     rw[Qzf h2]
     split at h
     ·rename_i h3
      rw[Qzh h3]
      split at h
      ·cases h
      ·rename_i h4
       rw[Qzf h4]
       split at h
       ·cases h
       ·rename_i h5
        rw[Qzf h5]
        obtain⟨q1,q2,q3⟩:=QmN l (b - 1) (d - 1) (by omega) h
        refine⟨⟨.inr (.inr h3),fun e=>absurd h3 e,q1⟩,?_,q3⟩
        push_cast
        omega
     ·cases h
theorem QmN:∀(l:List T) (b d:Int),0<=b->(runL l b d).1=true->pss l/\(ndsL l:Int)<=b - (runL l b d).2/\0<=(runL l b d).2
 |[],b,d,hb,h=>by simp only[runL,pss,ndsL];exact⟨trivial,by omega,hb⟩
 |t::l,b,d,hb,h=>by
  rw[runL]at h ⊢
  split at h
  ·rename_i h1
   rw[Qzh h1]
   obtain⟨q1,q2,q3⟩:=T.Qyh t b d h1
   obtain⟨r1,r2,r3⟩:=QmN l (t.run b d).2 d q3 h
   rw[pss,ndsL]
   exact⟨⟨q1,r1⟩,by push_cast;omega,r3⟩
  ·cases h
end
theorem QmM{l:List T}(h:(runL l 200 20).1=true):pss l/\ndsL l<=200:=by
 obtain⟨h1,h2,h3⟩:=QmN l 200 20 (by omega) h
 exact⟨h1,by omega⟩
theorem Qsd{g:G}(h:Qo g=true):pss g.args/\ndsL g.args<=200:=by
 unfold Qo at h
 split at h
 ·unfold Qt at h
  simp only[Qzk]at h
  exact QmM h.2.2
 ·simp only[Qzk]at h
  exact QmM h.2.2.2
theorem Qr1{g:G}(h:Qt g=true):pss g.args/\ndsL g.args<=200:=by
 unfold Qt at h
 simp only[Qzk]at h
 exact QmM h.2.2
def SmG(l:List G):Prop:=(∀g∈l,pss g.args)/\ndG l<=2400/\l.length<=12
theorem Qtt{l:List G}(h:∀g∈l,pss g.args/\ndsL g.args<=200)(hl:l.length<=12):SmG l:=by
 refine⟨fun g hg=>(h g hg).1,?_,hl⟩
 have:∀m:List G,(∀g∈m,pss g.args/\ndsL g.args<=200)->ndG m<=200 * m.length:=fun m=>by
  induction m with
  |nil=>intro _;exact Qzl _
  |cons g m ih =>
   intro hm
   have h1:=(hm g (by simp)).2
   have h2:=ih fun x hx=>hm x (by simp[hx])
   rw[ndG,Qyw];omega
 have:=this l h
 omega
theorem QlK{most:Nat}{s s2:PS}{l:List G}(hm:most<=12)(h:YP most s = .ok l s2):SmG l:=by
 obtain⟨h1,h2⟩:=Qor h
 exact Qtt (fun g hg=>Qsd (h1 g hg)) (by omega)
theorem QlL{pre:Nat}{s s2:PS}{l:List G}(h:Yt pre s = .ok l s2):SmG l/\pre+l.length<=4/\0<l.length:=by
 obtain⟨h1,h2,h3⟩:=Qos h
 exact⟨Qtt (fun g hg=>Qr1 (h1 g hg)) (by omega),h2,h3⟩
theorem Qfi:SmG []:=⟨fun _ h=>by simp at h,Qzy _,Qzy _⟩
def mG(f:Int->Int)(l:List G):List G:=l.map fun g:G=>(⟨g.op,g.name,maps f g.args⟩:G)
theorem Qes:∀(s:List Int) (l:List G) (r:List Int),Qu gG s l=(mG (fun v=>((plc (ded s (X1 l)++r) v:Nat):Int)) l,ded s (X1 l))
 |s,[],r=>rfl
 |s,g::l,r=>by
  have e:X1 (g::l)=Xz g.args++X1 l:=by simp[X1]
  obtain⟨q,hq⟩:=QbJ (ded s (Xz g.args)) (X1 l)
  rw[Qu,gG,Qbi s g.args (q++r)]
  simp only
  rw[Qes _ l r,e,Qaj,hq]
  simp only[mG,Qyy,Qze]
theorem QoI(r:Rl):r.numd=⟨r.name,(Qu gG [] r.keep).1,(Qu gG (Qu gG [] r.keep).2 r.remove).1,(Qu gG (Qu gG (Qu gG [] r.keep).2 r.remove).2 r.guard).1,
  (Qu gG (Qu gG (Qu gG (Qu gG [] r.keep).2 r.remove).2 r.guard).2 r.body).1,((Qu gG (Qu gG (Qu gG (Qu gG [] r.keep).2 r.remove).2 r.guard).2 r.body).2.length:Nat)⟩:=by
 have e:r.allV=X1 r.keep++X1 r.remove++X1 r.guard++X1 r.body:=by simp[Rl.allV,X1]
 obtain⟨q1,h1⟩:=QbJ (ded [] (X1 r.keep)) (X1 r.remove)
 obtain⟨q2,h2⟩:=QbJ (ded (ded [] (X1 r.keep)) (X1 r.remove)) (X1 r.guard)
 obtain⟨q3,h3⟩:=QbJ (ded (ded (ded [] (X1 r.keep)) (X1 r.remove)) (X1 r.guard)) (X1 r.body)
 have ea:ded [] r.allV=ded (ded (ded (ded [] (X1 r.keep)) (X1 r.remove)) (X1 r.guard)) (X1 r.body):=by rw[e,Qaj,Qaj,Qaj]
 have hB:ded (ded (ded (ded [] (X1 r.keep)) (X1 r.remove)) (X1 r.guard)) (X1 r.body)=ded (ded [] (X1 r.keep)) (X1 r.remove)++(q2++q3):=by rw[h3,h2,Qze]
 have hA:ded (ded (ded (ded [] (X1 r.keep)) (X1 r.remove)) (X1 r.guard)) (X1 r.body)=ded [] (X1 r.keep)++(q1++q2++q3):=by rw[h3,h2,h1,Qze,Qze,Qze]
 rw[Rl.numd,ea]
 rw[Qes [] r.keep (q1++q2++q3)]
 simp only
 rw[Qes _ r.remove (q2++q3)]
 simp only
 rw[Qes _ r.guard q3]
 simp only
 rw[Qes _ r.body []]
 simp only[mG,<-hA,<-hB,<-h3,QyM]
end Go.Proofs.YtenheconhibonaaGreatDoor.Ab
namespace Go.Proofs.YtenheconhibonaaGreatDoor.Ab
open Go.Proofs
section
variable{P:Pz}{s:PS}{own:Option Nat}(hW:Wst P.all s){X:AH}(hX:X[P.i]? = some (pN P s own))(hN:P.all.length<=1000000)
include hW hX hN
theorem Qn0:Qp Tryz.prog 114 [.ptr P.i 0 0] X fun o h'=>o = .ret s.nx.tk.av/\h'=X:=by
 have hi:=Qtn hW hX
 have hi0:=hX
 rw[pN]at hi0
 simp only[pN]at hi
 have e1:=Tk.Qxs s.nx.tk
 have e2:=Tk.Qxt s.nx.tk
 obtain⟨h1,h2⟩:=QrA hW
 obtain⟨k,hk⟩:∃k,k=P.all.length - s.toks.length:=⟨_,rfl⟩
 obtain⟨j,hj,hjl,hat⟩:∃j:Nat,((if (P.all.length:Int) - 1<(k:Int)+1 then(P.all.length:Int) - 1 else(k:Int)+1)=j)/\j<P.all.length/\(tks P.all)[j]? = some s.nx.tk.av:=by
  obtain⟨pre,hp⟩:=hW.suf
  cases ht:s.toks with
  |nil=>exact absurd ht (Qs2 hW.wf)
  |cons t r =>
   rw[ht]at hp
   have hkl:k=pre.length:=by rw[hk,ht,<-hp,Qza];omega
   have hal:P.all.length=pre.length+(r.length+1):=by rw[<-hp,Qza,Qyw]
   cases r with
   |nil =>
    refine⟨pre.length,by rw[hkl,hal];simp only[Qyx];rw[Qzh (by omega)];omega,by omega,?_⟩
    rw[<-hp,tks,QzN,Qzi (Qzl _),Qz0]
    simp[PS.nx,PS.tk,ht]
   |cons u r =>
    refine⟨pre.length+1,by rw[hkl,hal];simp only[Qyw];rw[Qzf (by omega)];omega,by rw[hal,Qyw];omega,?_⟩
    rw[<-hp,tks,QzN,Qzi (by omega),QAe]
    simp[PS.nx,PS.tk,ht]
 rw[<-hk]at hi hi0
 have w1:IntKind.i64.wrap ((k:Int)+1)=(k:Int)+1:=Xk ⟨by omega,by omega⟩
 have w2:IntKind.i64.wrap ((P.all.length:Int) - 1)=(P.all.length:Int) - 1:=Xk ⟨by omega,by omega⟩
 refine Qc Tryz.func114 rfl Tryz.call114 Tryz.ntmps114 Tryz.results114 (by simp) ?_
 repeat first|refine Qa ?_;simp only[go_sem,seval]|refine hK _ ?_;clear hK
 first|refine Qj (id:=1) [(0,0),(1,0),(2,0),(3,0),(4,0),(5,0),(6,0),(7,0),(8,0),(9,0),(10,0),(11,0),(12,0),(13,0),(14,0),(15,0),(16,0),(17,0),(18,2)] mixed (by kernel_rfl) fun K hK=>?_|refine Q1 (id:=1) [(0,0),(1,0),(2,0),(3,0),(4,0),(5,0),(6,0),(7,0),(8,0),(9,0),(10,0),(11,0),(12,0),(13,0),(14,0),(15,0),(16,0),(17,0),(18,2)] mixed (by kernel_rfl) fun K hK=>?_
 (try simp only[Qys,QyA]);refine Qpr 9 (fun K1 hK1=>?_);simp only[go_sem,seval,hi,w1];refine hK1 _ ?_;clear hK1
 (try simp only[Qys,QyA])
 simp only[go_sem,seval,hi,hat,hjl,Qdx,e1,e2,w2,hj]
 repeat first|refine Qa ?_;simp only[go_sem,seval]|refine hK _ ?_;clear hK
 simp only[go_sem,seval,e1,e2]
 exact Qb (htake _ _) (.keep (QeR _ _)) ⟨rfl,rfl⟩
end
end Go.Proofs.YtenheconhibonaaGreatDoor.Ab
namespace Go.Proofs.YtenheconhibonaaGreatDoor.Ab
open Go.Proofs
theorem QjA{most:Nat}{s s2:PS}{l:List G}(h:YP most s = .ok l s2):l≠[]:=by
 obtain⟨_,_,h3⟩:=QdV most _ [] s l s2 (fun _ h=>(Qzz h).elim) h
 rintro rfl
 simp at h3
def bodyT(name:ByteArray)(s:PS):PR Rl:=(Yt 0 s).bind fun first s =>
  if s.is ZN then ZW name [] first s.nx else if s.is Qc4 then ZW name first [] s.nx else
  if s.is QdC then(Yt first.length s.nx).bind fun rem s=>(XE ZN s).bind fun _ s=>ZW name first rem s else .err s.tk.pos 16
theorem QiQ(s:PS):ZS s=if s.tk.kind=1/\s.nx.is sAt=true then(QaM s).bind fun x s=>bodyT x s.nx else bodyT eB s:=rfl
structure ErrY (X:AH) (P:Pz) (Y:AH):Prop where
 long:X.length<=Y.length
 out:∀i,i<X.length->i≠P.i->i≠P.j->Y[i]? = X[i]?
def RuQ(X:AH)(P:Pz):PR Rl->AOut->AH->Prop
 | .ok r s,o,h'=>o = .ret r.av/\h'=(X.set P.i (pN P s none)).set P.j (kB s)
 | .err p e,o,h'=>o = .panic (Fl p e)/\∃Y:{Y:AH // ErrY X P Y},h'=Y.1
def RuR(X:AH)(P:Pz)(r:Rl)(s:PS)(o:AOut)(h':AH):Prop:=∃nk nr ng nb,o = .ret (.agg [.v (.string r.name),sG av 2 nk r.keep,sG av 2 nr r.remove,sG gv 3 ng r.guard,sG gv 3 nb r.body,.i r.vars])/\X.length<=nk/\X.length<=nr/\X.length<=ng/\X.length<=nb /\
 At h' nk (layG 69 nk r.keep)/\At h' nr (layG 69 nr r.remove)/\At h' ng (layG 69 ng r.guard)/\At h' nb (layG 69 nb r.body)/\X.length<=h'.length/\h'.take X.length=(X.set P.i (pN P s none)).set P.j (kB s)
abbrev nilV:AV:=.v (.slice none 0 0)
def rB(name:ByteArray)(k r g b:AV):AB:=.cells 25 6 [.agg [.v (.string name),k,r,g,b,.i 0]]
theorem Qa8{B:AH}{P2:Pz}{s s':PS}{a b a' b':AB}{M N L:AH}{n:Nat}(h:At (ph B P2 s++(a::b::M)) n L)(h1:B.length+2<=n)(h2:n+L.length<=B.length+2+M.length):At (ph B P2 s'++(a'::b'::(M++N))) n L:=by
 refine h.keep fun i i1 i2=>?_
 rw[Qzi (by rw[QE];omega),Qzi (by rw[QE];omega),QE,QE]
 obtain⟨k,hk⟩:∃k,i - B.length=k+1+1:=⟨i - B.length - 2,by omega⟩
 rw[hk]
 simp only[Qyk]
 rw[Qzc (by omega)]
def RH(B:AH)(P2:Pz)(X:AH)(s:PS)(r:Rl)(st:AS):Prop:=st.tm 0 = .ptr P2.i 0 0/\st.tm 2 = .ptr X.length 0 0/\st.tm 3 = .ptr B.length 0 0/\Wst P2.all s/\SmG r.keep/\SmG r.remove/\SmG r.guard/\SmG r.body/\∃nk nr ng nb x4 M,
 st.h=ph B P2 s++(rB r.name (sG av 2 nk r.keep) (sG av 2 nr r.remove) (sG gv 3 ng r.guard) (sG gv 3 nb r.body)::x4::M)/\At st.h nk (layG 69 nk r.keep)/\At st.h nr (layG 69 nr r.remove)/\At st.h ng (layG 69 ng r.guard)/\At st.h nb (layG 69 nb r.body) /\
 B.length+2<=nk/\nk+gsz r.keep<=nr/\nr+gsz r.remove<=ng/\ng+gsz r.guard<=nb/\nb+gsz r.body<=B.length+2+M.length
def Qoh(b:List G):List G:=match b with|[x]=>if x.op=1 then[]else b|_=>b
def finT(name:ByteArray)(keep remove g b:List G)(s:PS):PR Rl:=(XE sDot s).bind fun _ s=>.ok ⟨name,keep,remove,g,Qoh b,0⟩ s
theorem QnD(name:ByteArray)(keep remove:List G)(s:PS):ZW name keep remove s=(YP 12 s).bind fun b s=>if s.is sBar then(YP 12 s.nx).bind fun b2 s=>finT name keep remove b b2 s else finT name keep remove [] b s:=rfl
theorem retQ{f:FuncId}{args:List AV}{X:AH}{q n:Nat}{ord:List Int}{l:List G}(H:Qp Tryz.prog f args X (GnQ X q n ord l)):Qp Tryz.prog f args X fun o h'=>o = .ret (.tup [])/\∃Y:{Y:AH // GnQ X q n ord l (.ret (.tup [])) Y},h'=Y.1 :=
 H.mono fun o h' k=>by
  obtain⟨rfl,k2⟩:=k
  exact⟨rfl,⟨h',rfl,k2⟩,rfl⟩
theorem Qte{s:PS}{a b:List UInt8}(h:s.is a=true)(hab:(a==b)=false):s.is b=false:=by
 simp only[PS.is,Qzk,QAb]at h
 simp only[PS.is,h.1,h.2,hab,QAX]
section
variable{P:Pz}{s:PS}(hW:Wst P.all s){h:AH}(H:P.ok h)(hN:P.all.length<=1000000)(hD:TkOk P.all)(L:AH)
include hW H hN hD
theorem QiB{pre:Nat}(hpre:pre<=100){p e:Int}(hr:Yt pre s = .err p e):Qp Tryz.prog 117 [.ptr P.i 0 0,.i (pre:Nat)] (ph h P s++L) fun o h'=>o = .panic (Fl p e)/\∃s1:PS,h'=ph h P s1++L:=by
 have:=QiD hW (H.app L) hN hD pre hpre
 rw[hr]at this
 rw[QP H]at this
 exact this.mono fun o h' q=>by simpa only[GsQ,QP H]using q
theorem Qk0{pre:Nat}(hpre:pre<=100){l:List G}{s2:PS}(hr:Yt pre s = .ok l s2){k:Nat}(hk:k=h.length+L.length):Qp Tryz.prog 117 [.ptr P.i 0 0,.i (pre:Nat)] (ph h P s++L) fun o h'=>o = .ret (.sl 2 (lvG av k l) none)/\h'=ph h P s2++(L++layG 69 k l):=by
 have:=QiD hW (H.app L) hN hD pre hpre
 rw[hr]at this
 subst hk
 rw[QP H]at this
 exact this.mono fun o h' q=>by simpa only[GsQ,QP H,Qza,Qze]using q
theorem Qiz{most:Nat}(hm:most<=100){p e:Int}(hr:YP most s = .err p e):Qp Tryz.prog 67 [.ptr P.i 0 0,.i (most:Nat)] (ph h P s++L) fun o h'=>o = .panic (Fl p e)/\∃s1:PS,h'=ph h P s1++L:=by
 have:=Qg4 hW (H.app L) hN hD most hm
 rw[hr]at this
 rw[QP H]at this
 exact this.mono fun o h' q=>by simpa only[GsQ,QP H]using q
theorem QkY{most:Nat}(hm:most<=100){l:List G}{s2:PS}(hr:YP most s = .ok l s2){k:Nat}(hk:k=h.length+L.length):Qp Tryz.prog 67 [.ptr P.i 0 0,.i (most:Nat)] (ph h P s++L) fun o h'=>o = .ret (.sl 3 (lvG gv k l) none)/\h'=ph h P s2++(L++layG 69 k l):=by
 have:=Qg4 hW (H.app L) hN hD most hm
 rw[hr]at this
 subst hk
 rw[QP H]at this
 exact this.mono fun o h' q=>by simpa only[GsQ,QP H,Qza,Qze]using q
end
theorem Qnv{tt:TypeId}{h:AH}{m w:Nat}{vw:Nat->G->AV}{vA:G->AV}(hv:∀n g,(vw n g).cells.length=w)(hA:∀g,(vA g).cells.length=w)
  (hp:∀n g,m<=n->At h n (layA tt n g.args)->∀(j:Nat) a a',(vw n g).cells[j]? = some a->(vA g).cells[j]? = some a'->Melt h m a a'):∀(n:Nat) (l:List G),m<=n->At h n (layG tt n l) ->
  (flat (vs vA l)).length=(flat (lvG vw n l)).length/\∀(j:Nat) a a',(flat (lvG vw n l))[j]? = some a->(flat (vs vA l))[j]? = some a'->Melt h m a a'
 |n,[],_,_=>⟨rfl,fun j a a' h1=>by simp[lvG,flat]at h1⟩
 |n,g::l,hm,H=>by
  rw[layG]at H
  have h1:At h (n+1) (layA tt (n+1) g.args++(.dead::layG tt (n+szs g.args+2) l)):=At.right (L:=[.dead]) H rfl
  have h2:=h1.right (m:=n+1+szs g.args) (by rw[Yq])
  have h3:At h (n+szs g.args+2) (layG tt (n+szs g.args+2) l):=by
   have:=At.right (L:=[.dead]) (m:=n+1+szs g.args+1) h2 rfl
   rwa [show n+1+szs g.args+1=n+szs g.args+2 by omega]at this
  obtain⟨h4,h5⟩:=Qnv hv hA hp (n+szs g.args+2) l (by omega) h3
  rw[QuK,lvG]
  refine⟨by rw[QQ,QQ,Qza,Qza,h4,hv,hA],fun j a a' ha hb=>?_⟩
  rw[QQ,QzC,hv]at ha
  rw[QQ,QzC,hA]at hb
  split at ha
  ·rename_i hj;rw[Qzh hj]at hb;exact hp _ g (by omega) h1.left j a a' ha hb
  ·rename_i hj;rw[Qzf hj]at hb;exact h5 _ a a' ha hb
theorem QqI{tt:TypeId}{h:AH}{m w n:Nat}{vw:Nat->G->AV}{vA:G->AV}(hv:∀n g,(vw n g).cells.length=w)(hA:∀g,(vA g).cells.length=w)
  (hp:∀n g,m<=n->At h n (layA tt n g.args)->∀(j:Nat) a a',(vw n g).cells[j]? = some a->(vA g).cells[j]? = some a'->Melt h m a a') (l:List G) (hm:m<=n) (H:At h n (layG tt n l)):Melt h m (sG vw w n l) (.sl w (vs vA l) none):=by
 cases l with
 |nil=>exact .nil w
 |cons g l =>
  obtain⟨h1,h2⟩:=Qnv hv hA hp n (g::l) hm H
  rw[Qj4 vw w n (by simp)]
  refine .sl (by rw[Qh,Zi]) (fun y hy=>?_) h1 h2
  obtain⟨x,_,rfl⟩:=QzD.1 hy
  exact hA x
theorem QqG{tt:TypeId}{h:AH}{m n:Nat}(l:List G)(hm:m<=n)(H:At h n (layG tt n l)):Melt h m (sG av 2 n l) (.sl 2 (vs G.atom l) none) :=
 QqI (vw:=av) (vA:=G.atom) (fun _ _=>rfl) (fun _=>rfl) (fun n g hm hA j a a' h1 h3=>by
  match j,h1,h3 with
  |0,h1,h3=>cases h1;cases h3;exact .keep (.v _)
  |1,h1,h3=>cases h1;cases h3;exact QjJ hm hA
  |j+2,h1,h3=>simp[av,AV.cells]at h1) l hm H
theorem QqH{tt:TypeId}{h:AH}{m n:Nat}(l:List G)(hm:m<=n)(H:At h n (layG tt n l)):Melt h m (sG gv 3 n l) (.sl 3 (vs G.goal l) none) :=
 QqI (vw:=gv) (vA:=G.goal) (fun _ _=>rfl) (fun _=>rfl) (fun n g hm hA j a a' h1 h3=>by
  match j,h1,h3 with
  |0,h1,h3=>cases h1;cases h3;exact .keep (.v _)
  |1,h1,h3=>cases h1;cases h3;exact .keep (.v _)
  |2,h1,h3=>cases h1;cases h3;exact QjJ hm hA
  |j+3,h1,h3=>simp[gv,AV.cells]at h1) l hm H
theorem QqC{vw:Nat->G->AV}(hv:∀n s g,vw n (gG s g).1=vw n g):∀(n:Nat) (s:List Int) (l:List G),lvG vw n (Qu gG s l).1=lvG vw n l
 |n,s,[]=>rfl
 |n,s,g::l=>by
  simp only[Qu,lvG]
  rw[hv,QqC hv _ _ l,show(gG s g).1.args=(Xn gNum s g.args).1 from rfl,Ze]
theorem Qtr{vw:Nat->G->AV}(hv:∀n s g,vw n (gG s g).1=vw n g)(w n:Nat)(s:List Int)(l:List G):sG vw w n (Qu gG s l).1=sG vw w n l:=by
 cases l with
 |nil=>rfl
 |cons g l =>
  rw[Qj4 vw w n (l:=g::l) (by simp),Qj4 vw w n (l:=(Qu gG s (g::l)).1) (by simp[Qu]),QqC hv]
theorem QuX(n:Nat)(s:List Int)(g:G):av n (gG s g).1=av n g:=by simp only[av,gG,Qhl]
theorem Qvc(n:Nat)(s:List Int)(g:G):gv n (gG s g).1=gv n g:=by simp only[gv,gG,Qhl]
section
variable{P:Pz}{s:PS}{own:Option Nat}{m:List (ByteArray×AV)}{X:AH}(HP:PIn P X s own m)(hW:Wst P.all ⟨s.toks,[]⟩)(hN:P.all.length<=1000000)(hD:TkOk P.all)
include HP hW hN hD
theorem QsO(Q:AOut->AH->Prop)(hQe:∀p e h',Qa4 s = .err p e->ErrY X P h'->Q (.panic (Fl p e)) h')(hQo:∀r s6 o h',Qa4 s = .ok r s6->RuR X P r s6 o h'->Q o h'):Qp Tryz.prog 73 [.ptr P.i 0 0] X Q:=by
 have hz:∀z,PIn P (X++[z]) s own m:=fun z=>⟨by rw[Qzc (Qf HP.i)];exact HP.i,by rw[Qzc (Qf HP.j)];exact HP.j⟩
 obtain⟨Z,hZ⟩:∃Z,Z=rB {data:=#[]} nilV nilV nilV nilV:=⟨_,rfl⟩
 have cc:=Qoa (hz Z)
 have HB:=(hz Z).ok [] .dead
 obtain⟨B,hB⟩:∃B,B=X++[Z]++[AB.dead]:=⟨_,rfl⟩
 have hBl:B.length=X.length+2:=by rw[hB];simp
 obtain⟨P2,hP2⟩:∃P2,P2=P.to (X++[Z]).length:=⟨_,rfl⟩
 rw[<-hB,<-hP2]at HB cc
 have ei:P2.i=P.i:=by rw[hP2];rfl
 have eall:P2.all=P.all:=by rw[hP2];rfl
 rw[<-ei]
 rw[<-eall]at hW hN hD
 rw[<-ei]at cc
 have f1:=QE B P2
 have f3:=XF B P2
 have f4:=Yp B P2
 have f5:=Q8 B P2
 have f6:=XR B P2
 generalize hs0:(⟨s.toks,[]⟩:PS)=s0 at *
 have hEY:∀s' L,ErrY X P (ph B P2 s'++L):=fun s' L=>by
  have bg:P2.g=X.length+1:=by rw[hP2];simp[Pz.to]
  have ej:P2.j=P.j:=by rw[hP2];rfl
  refine⟨by rw[Qza,QE];omega,fun i h1 h2 h3=>?_⟩
  rw[Qzc (by rw[QE];omega),QaS HB (by rw[ei];exact h2) (by rw[ej];exact h3) (by omega),hB,Qze,Qzc h1]
 have hErr:∀p e s' L,ZS s0 = .err p e->Q (.panic (Fl p e)) (ph B P2 s'++L):=fun p e s' L hh=>hQe p e _ (by rw[Qa4,hs0,hh];rfl) (hEY s' L)
 have hX0:∀L,(ph B P2 s0++L)[P2.i]? = some (pN P2 s0 (some P2.g)):=fun L=>ph_i HB s0 L
 have ca:=fun L=>Qn0 hW (hX0 L) hN
 have cn:=fun L=>QoF hW (hX0 L)
 have hi:=ph_i HB s0
 simp only[pB]at hi
 have e1:=Tk.Qxs s0.tk
 have e2:=Tk.Qxt s0.tk
 have e3:=Tk.Qxs s0.nx.tk
 have e4:=Tk.Qxt s0.nx.tk
 rw[rB]at hZ
 subst hZ
 refine Qc Tryz.func73 rfl Tryz.call73 Tryz.ntmps73 Tryz.results73 (by simp) ?_
 iterate 7 (try (first|((first|(refine Qd fun K E hK hE=>?_)|(with_reducible refine FunW.Qxr cc ?_));simp only[go_sem,seval,f1])|((with_reducible refine hK _ ?_);clear hK)))
 have hAt:s0.nx.is sAt=(s0.nx.tk.kind==4&&(s0.nx.tk.text.toList==sAt)):=rfl
 refine XT (fun st=>∃name s1,ZS s0=bodyT name s1/\Wst P2.all s1/\st.tm 0 = .ptr P2.i 0 0/\st.tm 2 = .ptr X.length 0 0/\st.tm 3 = .ptr B.length 0 0/\∃x4,st.h=ph B P2 s1++[rB name nilV nilV nilV nilV,x4]) ?_ ?_
 ·rintro⟨tm,hp⟩ ⟨name,s1,hpart,hW1,t0,t2,t3,x4,rfl⟩
  simp only at t0 t2 t3
  have hErr2:∀p e s' L,bodyT name s1 = .err p e->Q (.panic (Fl p e)) (ph B P2 s'++L):=fun p e s' L hh=>hErr p e s' L (by rw[hpart,hh])
  clear hErr
  refine XT (fun st=>st.tm 0 = .ptr P2.i 0 0/\st.tm 2 = .ptr X.length 0 0/\st.tm 3 = .ptr B.length 0 0/\∃l s2,Yt 0 s1 = .ok l s2/\st.tm 5 = .sl 2 (lvG av (B.length+2) l) none/\st.h=ph B P2 s2++(rB name nilV nilV nilV nilV::x4::layG 69 (B.length+2) l)) ?_ ?_
  ·rintro⟨tm,hp⟩ ⟨t0,t2,t3,l,s2,hr,t5,rfl⟩
   simp only at t0 t2 t3 t5
   obtain⟨hS1,hl4,hl0⟩:=QlL hr
   have hW2:Wst P2.all s2:=Kp.Ps.ok (n:=wdOf P2.all) (Kp.heads_ps trivial 0) hW1 hr
   have hB1:bodyT name s1=if s2.is ZN then ZW name [] l s2.nx else if s2.is Qc4 then ZW name l [] s2.nx else
     if s2.is QdC then(Yt l.length s2.nx).bind fun rem s=>(XE ZN s).bind fun _ s=>ZW name l rem s else .err s2.tk.pos 16:=by rw[bodyT,hr];rfl
   have hl1:l≠[]:=by rintro rfl;simp at hl0
   have hsl:=Qj4 av 2 (B.length+2) hl1
   have hAl:∀(x y:AB) (M:AH) (s:PS),At (ph B P2 s++(x::y::(layG 69 (B.length+2) l++M))) (B.length+2) (layG 69 (B.length+2) l):=fun x y M s=>At.base (At.mid [x,y] _ M rfl) (QE B P2 s)
   have hlvl:=Zi av (B.length+2) l
   have bSimp:({data:=#[60,61,62]}:ByteArray).toList=ZN:=tl ZN
   have bProp:({data:=#[61,61,62]}:ByteArray).toList=Qc4:=tl Qc4
   have bBack:({data:=#[92]}:ByteArray).toList=QdC:=tl QdC
   have hi2:=ph_i HB s2
   simp only[pB]at hi2
   refine XT (fun st=>∃keep remove s3 nk nr x4 M,bodyT name s1=ZW name keep remove s3/\Wst P2.all s3/\SmG keep/\SmG remove/\st.tm 0 = .ptr P2.i 0 0/\st.tm 2 = .ptr X.length 0 0/\st.tm 3 = .ptr B.length 0 0 /\
    st.h=ph B P2 s3++(rB name (sG av 2 nk keep) (sG av 2 nr remove) nilV nilV::x4::M)/\At st.h nk (layG 69 nk keep)/\At st.h nr (layG 69 nr remove)/\B.length+2<=nk/\nk+gsz keep<=nr/\nr+gsz remove<=B.length+2+M.length) ?_ ?_
   ·rintro⟨tm,hp⟩ ⟨keep,remove,s3,nk,nr,x5,M,hb3,hW3,hSk,hSr,t0,t2,t3,hh,hAk,hAr,o1,o2,o3⟩
    simp only at t0 t2 t3 hh hAk hAr
    subst hh
    have hErr3:∀p e s' L,ZW name keep remove s3 = .err p e->Q (.panic (Fl p e)) (ph B P2 s'++L):=fun p e s' L hh=>hErr2 p e s' L (by rw[hb3,hh])
    refine XT (fun st=>∃b s4,YP 12 s3 = .ok b s4/\RH B P2 X s4 ⟨name,keep,remove,[],b,0⟩ st) ?_ ?_
    ·rintro⟨tm,hp⟩ ⟨b,s4,hr3,t0,t2,t3,hW4,hSk,hSr,_,hSb,nk,nr,ng,nb,x5,M,hh,hAk,hAr,hAg,hAb,o1,o2,o3,o4,o5⟩
     simp only at t0 t2 t3 hh hAk hAr hAg hAb o2 o3 o4 o5 hSk hSr hSb
     subst hh
     have hb0:=QjA hr3
     have hT:ZW name keep remove s3=if s4.is sBar then(YP 12 s4.nx).bind fun b2 s=>finT name keep remove b b2 s else finT name keep remove [] b s4:=by rw[QnD,hr3];rfl
     have bBar:({data:=#[124]}:ByteArray).toList=sBar:=tl sBar
     have hi4:=ph_i HB s4
     simp only[pB]at hi4
     have hz0:gsz []=0:=rfl
     refine XT (fun st=>∃g b2 s5,ZW name keep remove s3=finT name keep remove g b2 s5/\RH B P2 X s5 ⟨name,keep,remove,g,b2,0⟩ st) ?_ ?_
     ·rintro⟨tm,hp⟩ ⟨g,b2,s5,hT2,t0,t2,t3,hW5,hSk,hSr,hSg,hSb2,nk,nr,ng,nb,x6,M,hh,hAk,hAr,hAg,hAb,o1,o2,o3,o4,o5⟩
      simp only at t0 t2 t3 hh hAk hAr hAg hAb o2 o3 o4 o5 hSk hSr hSg hSb2
      subst hh
      have bDot:({data:=#[46]}:ByteArray).toList=sDot:=tl sDot
      have hi5:=ph_i HB s5
      simp only[pB]at hi5
      refine XT (fun st=>s5.is sDot=true/\RH B P2 X s5.nx ⟨name,keep,remove,g,b2,0⟩ st) ?_ ?_
      ·rintro⟨tm,hp⟩ ⟨hdot,t0,t2,t3,hW6,hSk,hSr,hSg,hSb2,nk,nr,ng,nb,x6,M,hh,hAk,hAr,hAg,hAb,o1,o2,o3,o4,o5⟩
       simp only at t0 t2 t3 hh hAk hAr hAg hAb o2 o3 o4 o5 hSk hSr hSg hSb2
       subst hh
       have hT3:ZW name keep remove s3 = .ok ⟨name,keep,remove,g,Qoh b2,0⟩ s5.nx:=by rw[hT2,finT,XE,Qzh hdot];rfl
       refine XT (fun st=>∃r s6,ZW name keep remove s3 = .ok r s6/\r.vars=0/\RH B P2 X s6 r st) ?_ ?_
       ·rintro⟨tm,hp⟩ ⟨⟨name2,keep2,remove2,g2,b4,vars2⟩,s6,hT4,hv0,t0,t2,t3,hW7,hSk2,hSr2,hSg2,hSb4,nk,nr,ng,nb,x7,M,hh,hAk,hAr,hAg,hAb,o1,o2,o3,o4,o5⟩
        simp only at t0 t2 t3 hh hAk hAr hAg hAb o2 o3 o4 o5 hSk2 hSr2 hSg2 hSb4 hv0
        subst hv0
        have bi:P2.i<X.length:=by rw[ei];exact Qf HP.i
        have bj:P2.j<X.length:=by rw[hP2];exact Qf HP.j
        have bij:P2.i≠P2.j:=HB.ij
        have bg:P2.g=X.length+1:=by rw[hP2];simp[Pz.to]
        have hi6:=ph_i HB s6
        refine QcI P2.i 117 4 [.agg [.sl 3 (tks P2.all) none,.i ((P2.all.length - s6.toks.length:Nat):Int),.sl 1 (strs s6.names) (some P2.g),.mp P2.j]] [.agg [.sl 3 (tks P2.all) none,.i ((P2.all.length - s6.toks.length:Nat):Int),.sl 1 (strs s6.names) none,.mp P2.j]] 2
         (Wk.sl rfl (fun y hy=>by obtain⟨x,_,rfl⟩:=QzD.1 hy;rfl) (WkL.refl _)) (by rw[hh];exact hi6 _) rfl rfl (fun x hx=>by rw[Qz8]at hx;subst hx;rfl) ?_
        have hq0:hp.length=B.length+2+M.length:=by rw[hh,Qza,QE];simp only[Qyw];omega
        generalize hX9:hp.set P2.i _=X9 at *
        have hq:X9.length=B.length+2+M.length:=by rw[<-hX9,Qzm,hq0]
        have hXo:∀i,i≠P2.i->X9[i]? = hp[i]? := fun i h=>by rw[<-hX9,Qzd (QAg h)]
        have hXi:X9[P2.i]? = some (pN P2 s6 none):=by rw[<-hX9,Qzj (by omega)];rfl
        have hr0:X9[B.length]? = some (.cells 25 6 [.agg [.v (.string name2),sG av 2 nk keep2,sG av 2 nr remove2,sG gv 3 ng g2,sG gv 3 nb b4,.i 0]]):=by rw[hXo _ (by omega),hh,f3];rfl
        replace hAk:=hAk.keep (Y:=X9) fun i i1 i2=>hXo i (by omega)
        replace hAr:=hAr.keep (Y:=X9) fun i i1 i2=>hXo i (by omega)
        replace hAg:=hAg.keep (Y:=X9) fun i i1 i2=>hXo i (by omega)
        replace hAb:=hAb.keep (Y:=X9) fun i i1 i2=>hXo i (by omega)
        have hlow:∀i,i<X.length->X9[i]? = ((X.set P.i (pN P s6 none)).set P.j (kB s6))[i]? := fun i i1=>by
         have ej:P2.j=P.j:=by rw[hP2];rfl
         have ePN:pN P2 s6 none=pN P s6 none:=by rw[hP2];rfl
         rw[<-ei,<-ej,<-ePN]
         by_cases c1:i=P2.i
         ·subst c1
          rw[hXi,Qzd (QAg bij),Qzj bi]
         ·rw[hXo i c1,hh,Qzc (by rw[QE];omega)]
          by_cases c2:i=P2.j
          ·subst c2
           rw[QsC HB,Qzj (by rw[Qzm];exact bj)]
          ·rw[QaS HB c1 c2 (by omega),Qzd (QAg c2),Qzd (QAg c1),hB,Qze,Qzc i1]
        have hresX:X9[X.length]? = some (.cells 25 6 [.agg [.v (.string {data:=#[]}),nilV,nilV,nilV,nilV,.i 0]]):=by
         rw[hXo _ (by omega),hh,Qzc (by rw[QE];omega),QaS HB (by omega) (by omega) (by omega),hB,Qze,XP];rfl
        obtain⟨q,hqq⟩:∃q,q=X9.length:=⟨_,rfl⟩
        have hrL:∀L:AH,(X9++L)[B.length]? = _:=fun L=>hext hr0 L
        iterate 2 (try (first|(((refine Qd fun K E hK hE=>?_));simp only[go_sem,seval])|((with_reducible refine hK _ ?_);clear hK)))
        refine ZH X9.length 119 2 1 (.grow 3 1 0) (.inr ⟨_,rfl⟩) [.agg [.v (.map none),.v (.slice none 0 0)]] [.agg [.v (.map none),.sl 1 [] (some (X9.length+1))]] 1 (by rw[Qzi (Qzl _),Qz0];rfl) rfl (by rw[Qza];rfl) (by simp[AV.cells]) ?_
        have hZ:((X9++[AB.cells 119 2 [.agg [.v (.map none),.v (.slice none 0 0)]]])++[AB.grow 3 1 0]).set X9.length (AB.cells 119 2 [.agg [.v (.map none),.sl 1 [] (some (X9.length+1))]])=X9++[AB.cells 119 2 [.agg [.v (.map none),.sl 1 [] (some (X9.length+1))]],AB.grow 3 1 0]:=by
         rw[Qze,Qz7 _ _ (Qzl _),Qz0];rfl
        have hN0:NSt (X9++[AB.cells 119 2 [.agg [.v (.map none),.sl 1 [] (some (X9.length+1))]],.grow 3 1 0]) X9.length []:=⟨.v (.map none),by rw[Qzi (Qzl _),Qz0];rfl,by rw[Qzi (by omega),QAe];rfl,.inl ⟨rfl,rfl⟩⟩
        rw[hZ]
        obtain⟨Z0,hZ0⟩:∃Z0,Z0=X9++[AB.cells 119 2 [.agg [.v (.map none),.sl 1 [] (some (X9.length+1))]],AB.grow 3 1 0]:=⟨_,rfl⟩
        have hl0:X9.length+1<Z0.length:=by rw[hZ0,Qza];simp
        have hr1:Z0[B.length]? = some (.cells 25 6 [.agg [.v (.string name2),sG av 2 nk keep2,sG av 2 nr remove2,sG gv 3 ng g2,sG gv 3 nb b4,.i 0]]):=by rw[hZ0];exact hrL _
        have hA1:At Z0 nk (layG 69 nk keep2):=by rw[hZ0];exact hAk.app _
        have hA2:At Z0 nr (layG 69 nr remove2):=by rw[hZ0];exact hAr.app _
        have hA3:At Z0 ng (layG 69 ng g2):=by rw[hZ0];exact hAg.app _
        have hA4:At Z0 nb (layG 69 nb b4):=by rw[hZ0];exact hAb.app _
        rw[<-hZ0]at hN0
        rw[<-hZ0]
        have c1:=retQ (Qkx keep2 hSk2.1 Z0 X9.length nk [] (by have:=hSk2.2.2;omega) (by have:=hSk2.2.1;simp only[Qyx];omega) (by omega) hl0 hN0 hA1)
        have hlk:=Qcn [] keep2
        have hlr:=Qcn (Qu gG [] keep2).2 remove2
        have hlg:=Qcn (Qu gG (Qu gG [] keep2).2 remove2).2 g2
        have hnd1:=hSk2.2.1
        have hnd2:=hSr2.2.1
        have hnd3:=hSg2.2.1
        have hnd4:=hSb4.2.1
        simp only[Qyx]at hlk
        repeat first|(first|refine FunW.retE (FunW.call c1) fun Y=>?_|refine Qa ?_);simp only[go_sem,seval,t3,hr1]|refine hK _ ?_;clear hK
        have hY:=Y.2
        generalize Y.1=Y1 at *
        obtain⟨_,p1,n1,a1⟩:=hY
        have l1:X9.length+1<Y1.length:=by have:=p1.long;omega
        have r1:Y1[B.length]? = some (.cells 25 6 [.agg [.v (.string name2),sG av 2 nk keep2,sG av 2 nr remove2,sG gv 3 ng g2,sG gv 3 nb b4,.i 0]]):=by rw[p1.out _ (by omega) (by omega)];exact hr1
        have b2:At Y1 nr (layG 69 nr remove2):=hA2.keep fun i i1 i2=>p1.out i (by rw[QB]at i2;omega) (by rw[QB]at i2;omega)
        have b3:At Y1 ng (layG 69 ng g2):=hA3.keep fun i i1 i2=>p1.out i (by rw[QB]at i2;omega) (by rw[QB]at i2;omega)
        have b5:At Y1 nb (layG 69 nb b4):=hA4.keep fun i i1 i2=>p1.out i (by rw[QB]at i2;omega) (by rw[QB]at i2;omega)
        have c2:=retQ (Qkx remove2 hSr2.1 Y1 X9.length nr _ (by have:=hSr2.2.2;omega) (by omega) (by omega) l1 n1 b2)
        simp only[QD,Qyj,Qyk,Qyl,r1]
        repeat first|(first|refine FunW.retE (FunW.call c2) fun Y=>?_|refine Qa ?_);simp only[go_sem,seval,t3]|refine hK _ ?_;clear hK
        have hY:=Y.2
        generalize Y.1=Y2 at *
        obtain⟨_,p2,n2,a2⟩:=hY
        have l2:X9.length+1<Y2.length:=by have:=p2.long;omega
        have r2:Y2[B.length]? = some (.cells 25 6 [.agg [.v (.string name2),sG av 2 nk keep2,sG av 2 nr remove2,sG gv 3 ng g2,sG gv 3 nb b4,.i 0]]):=by rw[p2.out _ (by omega) (by omega)];exact r1
        have d1:At Y2 nk (layG 69 nk (Qu gG [] keep2).1):=a1.keep fun i i1 i2=>p2.out i (by rw[QB,YT]at i2;omega) (by rw[QB,YT]at i2;omega)
        have d3:At Y2 ng (layG 69 ng g2):=b3.keep fun i i1 i2=>p2.out i (by rw[QB]at i2;omega) (by rw[QB]at i2;omega)
        have d4:At Y2 nb (layG 69 nb b4):=b5.keep fun i i1 i2=>p2.out i (by rw[QB]at i2;omega) (by rw[QB]at i2;omega)
        have c3:=retQ (QkV g2 hSg2.1 Y2 X9.length ng _ (by have:=hSg2.2.2;omega) (by omega) (by omega) l2 n2 d3)
        simp only[QD,Qyj,Qyk,Qyl,r2]
        repeat first|(first|refine FunW.retE (FunW.call c3) fun Y=>?_|refine Qa ?_);simp only[go_sem,seval,t3]|refine hK _ ?_;clear hK
        have hY:=Y.2
        generalize Y.1=Y3 at *
        obtain⟨_,p3,n3,a3⟩:=hY
        have l3:X9.length+1<Y3.length:=by have:=p3.long;omega
        have r3:Y3[B.length]? = some (.cells 25 6 [.agg [.v (.string name2),sG av 2 nk keep2,sG av 2 nr remove2,sG gv 3 ng g2,sG gv 3 nb b4,.i 0]]):=by rw[p3.out _ (by omega) (by omega)];exact r2
        have m1:At Y3 nk (layG 69 nk (Qu gG [] keep2).1):=d1.keep fun i i1 i2=>p3.out i (by rw[QB,YT]at i2;omega) (by rw[QB,YT]at i2;omega)
        have m2:=a2.keep (Y:=Y3) fun i i1 i2=>p3.out i (by rw[QB,YT]at i2;omega) (by rw[QB,YT]at i2;omega)
        have m4:At Y3 nb (layG 69 nb b4):=d4.keep fun i i1 i2=>p3.out i (by rw[QB]at i2;omega) (by rw[QB]at i2;omega)
        have c4:=retQ (QkV b4 hSb4.1 Y3 X9.length nb _ (by have:=hSb4.2.2;omega) (by omega) (by omega) l3 n3 m4)
        simp only[QD,Qyj,Qyk,Qyl,r3]
        repeat first|(first|refine FunW.retE (FunW.call c4) fun Y=>?_|refine Qa ?_);simp only[go_sem,seval,t3]|refine hK _ ?_;clear hK
        have hY:=Y.2
        generalize Y.1=Y4 at *
        obtain⟨_,p4,n4,a4⟩:=hY
        have hb4l:=Qcn (Qu gG (Qu gG (Qu gG [] keep2).2 remove2).2 g2).2 b4
        have w1:=m1.keep (Y:=Y4) fun i i1 i2=>p4.out i (by rw[QB,YT]at i2;omega) (by rw[QB,YT]at i2;omega)
        have w2:=m2.keep (Y:=Y4) fun i i1 i2=>p4.out i (by rw[QB,YT]at i2;omega) (by rw[QB,YT]at i2;omega)
        have w3:=a3.keep (Y:=Y4) fun i i1 i2=>p4.out i (by rw[QB,YT]at i2;omega) (by rw[QB,YT]at i2;omega)
        have r4:Y4[B.length]? = some (.cells 25 6 [.agg [.v (.string name2),sG av 2 nk keep2,sG av 2 nr remove2,sG gv 3 ng g2,sG gv 3 nb b4,.i 0]]):=by rw[p4.out _ (by omega) (by omega)];exact r3
        have rlow:∀i,i<B.length->Y4[i]? = X9[i]? := fun i i1=>by
         rw[p4.out i (by omega) (by omega),p3.out i (by omega) (by omega),p2.out i (by omega) (by omega),p1.out i (by omega) (by omega),hZ0,Qzc (by omega)]
        have rX:Y4[X.length]? = some (.cells 25 6 [.agg [.v (.string {data:=#[]}),nilV,nilV,nilV,nilV,.i 0]]):=by rw[rlow _ (by omega)];exact hresX
        obtain⟨toV,z1,z2,z3⟩:=n4
        have l4:B.length+2<=Y4.length:=by have:=Qf z1;omega
        have u1:∀y,(Y4.set B.length y)[B.length]? = some y:=fun y=>Qzj (by omega)
        have u2:∀y,(Y4.set B.length y)[X.length]? = some (.cells 25 6 [.agg [.v (.string {data:=#[]}),nilV,nilV,nilV,nilV,.i 0]]):=fun y=>by rw[Qzd (by omega)];exact rX
        have u3:∀y z,((Y4.set B.length y).set X.length z)[X.length]? = some z:=fun y z=>Qzj (by rw[Qzm];omega)
        simp only[QD,Zk,QK,Zz,QyD,QyE,QU,QyF,↓reduceIte,Qyw,Qyx,Nat.reduceAdd,Nat.reduceLeDiff,Nat.reduceEqDiff,Qyv,QyR,Qyj,Qyk,QyN,Qyl,QyL,QyK,QyM,Qyu,QyB,Qys,QyA,Qyn,Xx,r4,z1,Xx]
        repeat first|refine Qa ?_;simp only[go_sem,seval,t2,t3,u1,u2,QeM]|refine hK _ ?_;clear hK
        simp only[go_sem,seval,t2,u3]
        have nl:=QoI ⟨name2,keep2,remove2,g2,b4,0⟩
        have hsx:∀(y z:AB) (i:Nat),i≠B.length->i≠X.length->((Y4.set B.length y).set X.length z)[i]? = Y4[i]? := fun y z i i1 i2=>by rw[Qzd (QAg i2),Qzd (QAg i1)]
        refine .inr (hQo _ s6 _ _ (by rw[Qa4,hs0,hpart,hb3,hT4];rfl) ?_)
        rw[nl]
        exact⟨nk,nr,ng,nb,by simp only[Qtr QuX,Qtr Qvc],by omega,by omega,by omega,by omega,w1.keep fun i i1 i2=>hsx _ _ i (by omega) (by omega),w2.keep fun i i1 i2=>hsx _ _ i (by omega) (by omega),w3.keep fun i i1 i2=>hsx _ _ i (by omega) (by omega),a4.keep fun i i1 i2=>hsx _ _ i (by omega) (by omega),by simp only[Qzm];omega,QzY fun i=>by
         by_cases i1:i<X.length
         ·rw[Qzx i1,hsx _ _ i (by omega) (by omega),rlow i (by omega),hlow i i1]
         ·rw[QAz (by omega),QzR (by simp only[Qzm];omega)]⟩
       ·have hnl:=fun t'=>QeD Tryz.prog 23 t' 53 (by kernel_rfl)
        rcases b2 with _|⟨x,_|⟨y,l⟩⟩
        ·simp only[QvL]
         have z0:((0:Int)==1)=false:=rfl
         repeat first|refine Qa ?_;simp only[go_sem,seval,t3,rB,f3,hnl,z0]|refine hK _ ?_;clear hK
         exact⟨_,_,hT3,rfl,t0,t2,t3,hW6,hSk,hSr,hSg,Qfi,nk,nr,ng,nb,x6,M,rfl,hAk,hAr,hAg,At.nil _ _,o1,o2,o3,o4,o5⟩
        ·have hv:sG gv 3 nb [x] = .sl 3 [gv (nb+1) x] none:=rfl
         have e7:(gv (nb+1) x).cells=[.i x.op,.v (.string x.name),lsl (nb+1) x.args]:=rfl
         have e8:(gv (nb+1) x).isAgg=true:=rfl
         have u1:((((1:Nat):Int))==1)=true:=rfl
         have u2:(0:Int)<((1:Nat):Int):=by decide
         by_cases hx1:x.op=1
         ·have z1:(x.op==1)=true:=by simpa using hx1
          repeat first|refine Qa ?_;simp only[go_sem,seval,t3,rB,f3,f5,hv,e7,z1,u1,u2]|refine hK _ ?_;clear hK
          have hd:Qoh [x]=[]:=by simp[Qoh,hx1]
          rw[hd]at hT3
          have q1:nk+(layG 69 nk keep).length<=B.length+2+M.length:=by rw[QB];omega
          have q2:nr+(layG 69 nr remove).length<=B.length+2+M.length:=by rw[QB];omega
          have q3:ng+(layG 69 ng g).length<=B.length+2+M.length:=by rw[QB];omega
          have q5:B.length+2<=nr:=by omega
          have q6:B.length+2<=ng:=by omega
          have q7:nb+gsz []<=B.length+2+M.length:=by rw[hz0];omega
          have k1:=fun x y=>Qa8 (s':=s5.nx) (a':=x) (b':=y) (N:=[]) hAk o1 q1
          have k2:=fun x y=>Qa8 (s':=s5.nx) (a':=x) (b':=y) (N:=[]) hAr q5 q2
          have k3:=fun x y=>Qa8 (s':=s5.nx) (a':=x) (b':=y) (N:=[]) hAg q6 q3
          rw[QyM]at k1 k2 k3
          exact⟨_,_,hT3,rfl,t0,t2,t3,hW6,hSk,hSr,hSg,Qfi,nk,nr,ng,nb,x6,M,rfl,k1 _ _,k2 _ _,k3 _ _,At.nil _ _,o1,o2,o3,o4,q7⟩
         ·have z1:(x.op==1)=false:=by simpa using hx1
          repeat first|refine Qa ?_;simp only[go_sem,seval,t3,rB,f3,hv,e7,z1,u1,u2]|refine hK _ ?_;clear hK
          have hd:Qoh [x]=[x]:=by simp[Qoh,hx1]
          rw[hd]at hT3
          exact⟨_,_,hT3,rfl,t0,t2,t3,hW6,hSk,hSr,hSg,hSb2,nk,nr,ng,nb,x6,M,rfl,hAk,hAr,hAg,hAb,o1,o2,o3,o4,o5⟩
        ·have hv:sG gv 3 nb (x::y::l) = .sl 3 (lvG gv nb (x::y::l)) none:=rfl
         have hvl:=Zi gv nb (x::y::l)
         have z1:(((l.length+1+1:Nat):Int)==1)=false:=QAi.2 (by omega)
         have u2:(0:Int)<((l.length+1+1:Nat):Int):=by omega
         repeat first|refine Qa ?_;simp only[go_sem,seval,t3,rB,f3,hv,hvl,z1]|refine hK _ ?_;clear hK
         exact⟨_,_,hT3,rfl,t0,t2,t3,hW6,hSk,hSr,hSg,hSb2,nk,nr,ng,nb,x6,M,rfl,hAk,hAr,hAg,hAb,o1,o2,o3,o4,o5⟩
      ·cases p1:s5.is sDot with
       |true =>
        have cx:=fun L=>X3 hW5 HB hN L {data:=#[46]} (by rw[bDot];exact p1)
        repeat first|(first|refine FunW.Qxr (cx _) ?_|refine Qa ?_);simp only[go_sem,seval,t0,rB,hi5]|refine hK _ ?_;clear hK
        have q1:nk+(layG 69 nk keep).length<=B.length+2+M.length:=by rw[QB];omega
        have q2:nr+(layG 69 nr remove).length<=B.length+2+M.length:=by rw[QB];omega
        have q3:ng+(layG 69 ng g).length<=B.length+2+M.length:=by rw[QB];omega
        have q4:nb+(layG 69 nb b2).length<=B.length+2+M.length:=by rw[QB];omega
        have q5:B.length+2<=nr:=by omega
        have q6:B.length+2<=ng:=by omega
        have q7:B.length+2<=nb:=by omega
        have k1:=fun x y=>Qa8 (s':=s5.nx) (a':=x) (b':=y) (N:=[]) hAk o1 q1
        have k2:=fun x y=>Qa8 (s':=s5.nx) (a':=x) (b':=y) (N:=[]) hAr q5 q2
        have k3:=fun x y=>Qa8 (s':=s5.nx) (a':=x) (b':=y) (N:=[]) hAg q6 q3
        have k4:=fun x y=>Qa8 (s':=s5.nx) (a':=x) (b':=y) (N:=[]) hAb q7 q4
        rw[QyM]at k1 k2 k3 k4
        exact⟨rfl,t0,t2,t3,hW5.nx,hSk,hSr,hSg,hSb2,nk,nr,ng,nb,x6,M,rfl,k1 _ _,k2 _ _,k3 _ _,k4 _ _,o1,o2,o3,o4,o5⟩
       |false =>
        have cx:=fun L=>Yw hW5 HB hN L {data:=#[46]} (by rw[bDot];exact p1)
        repeat first|(first|refine FunW.pan (FunW.call (cx _)) ?_|refine Qa ?_);simp only[go_sem,seval,t0,rB,hi5]|refine hK _ ?_;clear hK
        exact .inr (hErr3 _ _ _ _ (by rw[hT2,finT,XE,Qzf (by rw[p1];decide)];rfl))
     ·cases p1:s4.is sBar with
      |false =>
       rw[p1]at hT
       have cs:=fun L=>Qbh hW4 HB hN L {data:=#[124]} (by rw[bBar];exact p1)
       repeat first|(first|refine FunW.Qxr (cs _) ?_|refine Qa ?_);simp only[go_sem,seval,t0,rB,hi4]|refine hK _ ?_;clear hK
       exact⟨[],b,s4,by rw[hT];rfl,t0,t2,t3,hW4,hSk,hSr,Qfi,hSb,nk,nr,ng,nb,x5,M,rfl,hAk,hAr,hAg,hAb,o1,o2,o3,o4,o5⟩
      |true =>
       rw[p1]at hT
       have cs:=fun L=>QaE hW4 HB hN L {data:=#[124]} (by rw[bBar];exact p1)
       have hi5:=ph_i HB s4.nx
       simp only[pB]at hi5
       cases hr4:YP 12 s4.nx with
       |err p e =>
        have cg:=fun L=>Qiz hW4.nx HB hN hD L (most:=12) (by omega) hr4
        simp only[show((12:Nat):Int)=12 from rfl]at cg
        repeat first|(first|refine FunW.Qxr (cs _) ?_|refine Qa ?_);simp only[go_sem,seval,t0,rB,hi4]|refine hK _ ?_;clear hK
        refine Q2 3 [(0,0),(1,0),(2,0),(4,0)] mixed rfl rfl rfl (by kernel_rfl) (fun v h'=>v=Fl p e/\∃s' L,h'=ph B P2 s'++L) ?_ ?_
        ·rintro tm v h' ⟨rfl,s',L,rfl⟩
         exact .inr (hErr3 _ _ _ _ (by rw[hT];show(YP 12 s4.nx).bind _=_;rw[hr4];rfl))
        ·simp only[go_sem,seval,t0,t3,f3]
         exact fun _=>(FunW.call (cg _)).mono (by rintro _ _ ⟨rfl,x,rfl⟩;exact⟨_,rfl,rfl,_,_,rfl⟩)
       |ok b2 s5 =>
        have hW5:Wst P2.all s5:=Kp.Ps.ok (n:=wdOf P2.all) (Kp.goals_ps trivial 12) hW4.nx hr4
        have cg:=fun c d=>QkY hW4.nx HB hN hD (c::d::M) (most:=12) (by omega) hr4 (k:=B.length+2+M.length) (by simp only[Qyw];omega)
        simp only[show((12:Nat):Int)=12 from rfl,QyL]at cg
        repeat first|(first|refine FunW.Qxr (cs _) ?_|refine Qa ?_);simp only[go_sem,seval,t0,rB,hi4]|refine hK _ ?_;clear hK
        have q1:nk+(layG 69 nk keep).length<=B.length+2+M.length:=by rw[QB];omega
        have q2:nr+(layG 69 nr remove).length<=B.length+2+M.length:=by rw[QB];omega
        have q3:nb+(layG 69 nb b).length<=B.length+2+M.length:=by rw[QB];omega
        have q4:B.length+2+M.length+gsz b2<=B.length+2+(M++layG 69 (B.length+2+M.length) b2).length:=by rw[Qza,QB];omega
        have hb20:=QjA hr4
        have q5:B.length+2<=nr:=by omega
        have q6:B.length+2<=nb:=by omega
        have q7:nr+gsz remove<=nb:=by omega
        have q8:nb+gsz b<=B.length+2+M.length:=o5
        have hAb2:∀(x y:AB),At (ph B P2 s5++(x::y::(M++layG 69 (B.length+2+M.length) b2))) (B.length+2+M.length) (layG 69 (B.length+2+M.length) b2):=fun x y=>by
         have:=At.base (At.mid (x::y::M) (layG 69 (B.length+2+M.length) b2) [] (n:=2+M.length) (by simp only[Qyw];omega)) (QE B P2 s5)
         rw[show B.length+(2+M.length)=B.length+2+M.length by omega,QyM]at this
         exact this
        have fin:∀tm':Nat->AV,tm' 0 = .ptr P2.i 0 0->tm' 2 = .ptr X.length 0 0->tm' 3 = .ptr B.length 0 0->∃g b6 s6,ZW name keep remove s3=finT name keep remove g b6 s6/\RH B P2 X s6 ⟨name,keep,remove,g,b6,0⟩ ⟨tm',ph B P2 s5++(AB.cells 25 6 [.agg [.v (.string name),sG av 2 nk keep,sG av 2 nr remove,sG gv 3 nb b,.sl 3 (lvG gv (B.length+2+M.length) b2) none,.i 0]]::x5::(M++layG 69 (B.length+2+M.length) b2))⟩:=fun tm' k0 k2 k3 =>
         ⟨b,b2,s5,by rw[hT];show(YP 12 s4.nx).bind _=_;rw[hr4];rfl,k0,k2,k3,hW5,hSk,hSr,hSb,QlK (Qzl _) hr4,nk,nr,nb,B.length+2+M.length,x5,M++layG 69 (B.length+2+M.length) b2,
          by rw[Qj4 gv 3 _ hb20];rfl,Qa8 hAk o1 q1,Qa8 hAr q5 q2,Qa8 hAb q6 q3,hAb2 _ _,o1,o2,q7,q8,q4⟩
        refine YG (.node [(2,0)] 3 0 (.leaf [(3,2),(0,0),(1,0),(4,0),(5,2),(6,0),(7,2)]) (.node [(0,0)] 3 1 (.leaf [(3,2),(1,0),(4,0),(5,2),(6,0),(7,2)]) (.node [(1,0)] 3 4 (.leaf [(3,2),(4,0),(5,2),(6,0),(7,2)]) (.leaf [(4,0),(3,2),(5,2),(6,0),(7,2)])))) mixed (by kernel_rfl) (fun K2 hK2=>?_)
        simp only[OT.walk]
        simp only[go_sem,seval,t0,t3,f3]
        refine⟨?_,?_,?_,?_⟩
        ·refine QL (FunW.call (cg _ _)) Zl ?_
         simp only[go_sem,seval,t3,f3,f5,Qgd,Qge,QeM]
         refine hK2 _ (fin _ ?_ ?_ ?_) <;> assumption
        ·refine QL (FunW.call (cg _ _)) Zl ?_
         simp only[go_sem,seval,t3,f3,f5,Qgd,Qge,QeM]
         refine hK2 _ (fin _ ?_ ?_ ?_) <;> assumption
        ·refine QL (FunW.call (cg _ _)) Zl ?_
         simp only[go_sem,seval,t3,f3,f5,Qgd,Qge,QeM]
         refine hK2 _ (fin _ ?_ ?_ ?_) <;> assumption
        ·refine QL (FunW.call (cg _ _)) Zl ?_
         simp only[go_sem,seval,t3,f3,f5,Qgd,Qge,QeM]
         refine hK2 _ (fin _ ?_ ?_ ?_) <;> assumption
    ·cases hr3:YP 12 s3 with
     |err p e =>
      have cg:=fun L=>Qiz hW3 HB hN hD L (most:=12) (by omega) hr3
      simp only[show((12:Nat):Int)=12 from rfl]at cg
      repeat first|(first|refine FunW.panE (FunW.call (cg _)) fun r=>?_|refine Qa ?_);simp only[go_sem,seval,t0,rB]|refine hK _ ?_;clear hK
      exact .inr (hErr3 _ _ _ _ (by rw[QnD,hr3];rfl))
     |ok b s4 =>
      obtain⟨hSb,hb0⟩:SmG b/\b≠[]:=⟨QlK (Qzl _) hr3,QjA hr3⟩
      have hW4:Wst P2.all s4:=Kp.Ps.ok (n:=wdOf P2.all) (Kp.goals_ps trivial 12) hW3 hr3
      have cg:=fun c d=>QkY hW3 HB hN hD (c::d::M) (most:=12) (by omega) hr3 (k:=B.length+2+M.length) (by simp only[Qyw];omega)
      simp only[show((12:Nat):Int)=12 from rfl,QyL]at cg
      repeat first|(first|refine FunW.Qxr (cg _ _) ?_|refine Qa ?_);simp only[go_sem,seval,t0,t3,rB,f3,f5]|refine hK _ ?_;clear hK
      have hAb:∀(x y:AB),At (ph B P2 s4++(x::y::(M++layG 69 (B.length+2+M.length) b))) (B.length+2+M.length) (layG 69 (B.length+2+M.length) b):=fun x y=>by
       have:=At.base (At.mid (x::y::M) (layG 69 (B.length+2+M.length) b) [] (n:=2+M.length) (by simp only[Qyw];omega)) (QE B P2 s4)
       rw[show B.length+(2+M.length)=B.length+2+M.length by omega,QyM]at this
       exact this
      have q1:nk+(layG 69 nk keep).length<=B.length+2+M.length:=by rw[QB];omega
      have q2:nr+(layG 69 nr remove).length<=B.length+2+M.length:=by rw[QB];omega
      have q3:B.length+2+M.length+gsz b<=B.length+2+(M++layG 69 (B.length+2+M.length) b).length:=by rw[Qza,QB];omega
      refine⟨b,s4,rfl,t0,t2,t3,hW4,hSk,hSr,Qfi,hSb,nk,nr,B.length+2+M.length,B.length+2+M.length,x5,M++layG 69 (B.length+2+M.length) b,?_,Qa8 hAk o1 q1,Qa8 hAr (by omega) q2,At.nil _ _,hAb _ _,o1,o2,o3,Qzl _,q3⟩
      show _=ph B P2 s4++(rB name _ _ _ (sG gv 3 _ b)::_)
      rw[Qj4 gv 3 _ hb0];rfl
   ·cases p1:s2.is Qc4 with
    |true =>
     have p3:s2.is ZN=false:=Qte p1 (by decide)
     rw[p3,p1]at hB1
     have cs:=fun L=>QaE hW2 HB hN L {data:=#[61,61,62]} (by rw[bProp];exact p1)
     have hi3:=ph_i HB s2.nx
     simp only[pB]at hi3
     repeat first|(first|refine FunW.Qxr (cs _) ?_|refine Qa ?_);simp only[go_sem,seval,t0,t3,t5,rB,f3,f5,hi2]|refine hK _ ?_;clear hK
     exact⟨l,[],s2.nx,B.length+2,B.length+2+gsz l,x4,layG 69 (B.length+2) l,by rw[hB1];rfl,hW2.nx,hS1,Qfi,t0,t2,t3,by rw[hsl];rfl,by have:=hAl (rB name (.sl 2 (lvG av (B.length+2) l) none) nilV nilV nilV) x4 [] s2.nx;rw[QyM]at this;exact this,At.nil _ _,Qzl _,Qzl _,by rw[QB];exact Qzl _⟩
    |false =>
     have cs:=fun L=>Qbh hW2 HB hN L {data:=#[61,61,62]} (by rw[bProp];exact p1)
     cases p2:s2.is QdC with
     |true =>
      have p3:s2.is ZN=false:=Qte p2 (by decide)
      rw[p3,p1,p2]at hB1
      have cs2:=fun L=>QaE hW2 HB hN L {data:=#[92]} (by rw[bBack];exact p2)
      have hi3:=ph_i HB s2.nx
      simp only[pB]at hi3
      cases hr2:Yt l.length s2.nx with
      |err p e =>
       have ch:=fun L=>QiB hW2.nx HB hN hD L (by omega) hr2
       repeat first|(first|refine FunW.Qxr (cs _) ?_|refine FunW.Qxr (cs2 _) ?_|refine FunW.panE (FunW.call (ch _)) fun r=>?_|refine Qa ?_);simp only[go_sem,seval,t0,t5,rB,hi2,hlvl]|refine hK _ ?_;clear hK
       exact .inr (hErr2 _ _ _ _ (by rw[hB1];show(Yt l.length s2.nx).bind _=_;rw[hr2];rfl))
      |ok rem s4 =>
       have ch:=fun c d=>Qk0 hW2.nx HB hN hD (c::d::layG 69 (B.length+2) l) (by omega) hr2 (k:=B.length+2+gsz l) (by rw[Qyw,Qyw,QB];omega)
       simp only[QyL]at ch
       have hW4:Wst P2.all s4:=Kp.Ps.ok (n:=wdOf P2.all) (Kp.heads_ps trivial l.length) hW2.nx hr2
       have hi4:=ph_i HB s4
       simp only[pB]at hi4
       cases p5:s4.is ZN with
       |true =>
        have cx:=fun L=>X3 hW4 HB hN L {data:=#[60,61,62]} (by rw[bSimp];exact p5)
        repeat first|(first|refine FunW.Qxr (cs _) ?_|refine FunW.Qxr (cs2 _) ?_|refine FunW.Qxr (ch _ _) ?_|refine FunW.Qxr (cx _) ?_|refine Qa ?_);simp only[go_sem,seval,t0,t3,t5,rB,f3,f5,hi2,hi4,hlvl]|refine hK _ ?_;clear hK
        obtain⟨hS2,hm4,hm0⟩:=QlL hr2
        have hsl2:=Qj4 av 2 (B.length+2+gsz l) (l:=rem) (by rintro rfl;simp at hm0)
        refine⟨l,rem,s4.nx,B.length+2,B.length+2+gsz l,x4,layG 69 (B.length+2) l++layG 69 (B.length+2+gsz l) rem,?_,hW4.nx,hS1,hS2,t0,t2,t3,by rw[hsl,hsl2];rfl,hAl (rB name (.sl 2 (lvG av (B.length+2) l) none) (.sl 2 (lvG av (B.length+2+gsz l) rem) none) nilV nilV) x4 _ s4.nx,?_,Qzl _,Qzl _,by rw[Qza,QB,QB];omega⟩
        ·rw[hB1];show(Yt l.length s2.nx).bind _=_;rw[hr2];show(XE ZN s4).bind _=_;rw[XE,Qzh p5];rfl
        ·have:=At.base (At.mid (rB name (.sl 2 (lvG av (B.length+2) l) none) (.sl 2 (lvG av (B.length+2+gsz l) rem) none) nilV nilV::x4::layG 69 (B.length+2) l) (layG 69 (B.length+2+gsz l) rem) [] (n:=2+gsz l) (by rw[Qyw,Qyw,QB];omega)) (QE B P2 s4.nx)
         rw[show B.length+(2+gsz l)=B.length+2+gsz l by omega,QyM]at this
         exact this
       |false =>
        have cx:=fun L=>Yw hW4 HB hN L {data:=#[60,61,62]} (by rw[bSimp];exact p5)
        repeat first|(first|refine FunW.Qxr (cs _) ?_|refine FunW.Qxr (cs2 _) ?_|refine FunW.Qxr (ch _ _) ?_|refine FunW.pan (FunW.call (cx _)) ?_|refine Qa ?_);simp only[go_sem,seval,t0,t3,t5,rB,f3,f5,hi2,hi4,hlvl]|refine hK _ ?_;clear hK
        exact .inr (hErr2 _ _ _ _ (by rw[hB1];show(Yt l.length s2.nx).bind _=_;rw[hr2];show(XE ZN s4).bind _=_;rw[XE,Qzf (by rw[p5];decide)];rfl))
     |false =>
      have cs2:=fun L=>Qbh hW2 HB hN L {data:=#[92]} (by rw[bBack];exact p2)
      rw[p1,p2]at hB1
      cases p3:s2.is ZN with
      |true =>
       rw[p3]at hB1
       have cx:=fun L=>X3 hW2 HB hN L {data:=#[60,61,62]} (by rw[bSimp];exact p3)
       have hi3:=ph_i HB s2.nx
       simp only[pB]at hi3
       repeat first|(first|refine FunW.Qxr (cs _) ?_|refine FunW.Qxr (cs2 _) ?_|refine FunW.Qxr (cx _) ?_|refine Qa ?_);simp only[go_sem,seval,t0,t3,t5,rB,f3,f5,hi2]|refine hK _ ?_;clear hK
       exact⟨[],l,s2.nx,B.length+2,B.length+2,x4,layG 69 (B.length+2) l,by rw[hB1];rfl,hW2.nx,Qfi,hS1,t0,t2,t3,by rw[hsl];rfl,At.nil _ _,by have:=hAl (rB name nilV (.sl 2 (lvG av (B.length+2) l) none) nilV nilV) x4 [] s2.nx;rw[QyM]at this;exact this,Qzl _,Qzl _,by rw[QB];exact Qzl _⟩
      |false =>
       rw[p3]at hB1
       have cx:=fun L=>Yw hW2 HB hN L {data:=#[60,61,62]} (by rw[bSimp];exact p3)
       repeat first|(first|refine FunW.Qxr (cs _) ?_|refine FunW.Qxr (cs2 _) ?_|refine FunW.pan (FunW.call (cx _)) ?_|refine Qa ?_);simp only[go_sem,seval,t0,rB,hi2]|refine hK _ ?_;clear hK
       exact .inr (hErr2 _ _ _ _ (by rw[hB1];rfl))
  ·cases hr:Yt 0 s1 with
   |err p e =>
    have ch:=fun L=>QiB hW1 HB hN hD L (by omega) hr
    repeat first|(first|refine FunW.panE (FunW.call (ch _)) fun r=>?_|refine Qa ?_);simp only[go_sem,seval,t0]|refine hK _ ?_;clear hK
    exact .inr (hErr2 _ _ _ _ (by rw[bodyT,hr];rfl))
   |ok l s2 =>
    have ch:=fun c=>Qk0 hW1 HB hN hD [rB name nilV nilV nilV nilV,c] (by omega) hr (k:=B.length+2) rfl
    simp only[QyL,QyK]at ch
    repeat first|(first|refine FunW.Qxr (ch _) ?_|refine Qa ?_);simp only[go_sem,seval,t0]|refine hK _ ?_;clear hK
    exact⟨t0,t2,t3,l,s2,rfl,rfl,rfl⟩
 ·iterate 3 (try (first|((first|(refine Qd fun K E hK hE=>?_)|(with_reducible refine FunW.Qxr (ca _) ?_));simp only[go_sem,seval,hi,f1,f4,f6,e3,e4])|((with_reducible refine hK _ ?_);clear hK)))
  refine XT (fun st=>st.tm 0 = .ptr P2.i 0 0/\st.tm 2 = .ptr X.length 0 0/\st.tm 3 = .ptr B.length 0 0/\st.tm 28 = .b (s0.tk.kind==1&&s0.nx.is sAt)/\∃x4,st.h=ph B P2 s0++[rB {data:=#[]} nilV nilV nilV nilV,x4]) ?_ ?_
  ·rintro⟨tm,hp⟩ ⟨t0,t2,t3,t28,x4,rfl⟩
   simp only at t0 t2 t3 t28
   cases hc:(s0.tk.kind==1&&s0.nx.is sAt)with
   |false =>
    rw[hc]at t28
    have hpart:ZS s0=bodyT eB s0:=by
     rw[QiQ,Qzf]
     rintro⟨h1,h2⟩
     rw[h1,h2]at hc
     exact absurd hc (by decide)
    refine Qw (t:=false) t28 ?_
    simp only[Qyn,Qz5]
    repeat first|refine Qa ?_;simp only[go_sem,seval]|refine hK _ ?_;clear hK
    exact⟨_,s0,hpart,hW,t0,t2,t3,_,rfl⟩
   |true =>
    rw[hc]at t28
    simp only[Qzk,QAb]at hc
    have hpart:ZS s0=(QaM s0).bind fun x s=>bodyT x s.nx:=by rw[QiQ,Qzh hc]
    cases hn:QaM s0 with
    |err p e =>
     have cm:=fun L=>QjM hW HB hN L hn
     refine Qw (t:=true) t28 ?_
     simp only[QAj]
     repeat first|(first|refine FunW.panE (FunW.call (cm _)) fun r=>?_|refine Qa ?_);simp only[go_sem,seval,t0,rB,hi]|refine hK _ ?_;clear hK
     exact .inr (hErr _ _ _ _ (by rw[hpart,hn];rfl))
    |ok x s1 =>
     have cm:=fun L=>QmE hW HB hN L hn
     have hi1:=ph_i HB s1
     simp only[pB]at hi1
     have hs1:s1=s0.nx:=by
      unfold QaM at hn
      split at hn
      ·cases hn
      ·split at hn
       ·cases hn
       ·cases hn;rfl
     subst hs1
     have cx:=fun L=>X3 hW.nx HB hN L {data:=#[64]} (by rw[show({data:=#[64]}:ByteArray).toList=sAt from tl sAt];exact hc.2)
     refine Qw (t:=true) t28 ?_
     simp only[QAj]
     repeat first|(first|refine FunW.Qxr (cm _) ?_|refine FunW.Qxr (cx _) ?_|refine Qa ?_);simp only[go_sem,seval,t0,t3,rB,f3,f5,hi,hi1]|refine hK _ ?_;clear hK
     exact⟨x,s0.nx.nx,by rw[hpart,hn];rfl,hW.nx.nx,t0,t2,t3,_,rfl⟩
  ·by_cases k1:s0.tk.kind=1
   ·have z1:(s0.tk.kind==1)=true:=by simpa using k1
    by_cases k2:s0.nx.tk.kind=4
    ·have z2:(s0.nx.tk.kind==4)=true:=by simpa using k2
     repeat first|(first|refine FunW.Qxr (cn _) ?_|refine Qa ?_);simp only[go_sem,seval,hi,f4,e1,e2,e3,z1,z2]|refine hK _ ?_;clear hK
     exact⟨rfl,rfl,rfl,by rw[hAt,z1,z2,<-tl sAt];rfl,_,rfl⟩
    ·have z2:(s0.nx.tk.kind==4)=false:=by simpa using k2
     repeat first|(first|refine FunW.Qxr (cn _) ?_|refine Qa ?_);simp only[go_sem,seval,hi,f4,e1,e2,e3,z1,z2]|refine hK _ ?_;clear hK
     exact⟨rfl,rfl,rfl,by rw[hAt,z1,z2];rfl,_,rfl⟩
   ·have z1:(s0.tk.kind==1)=false:=by simpa using k1
    repeat first|(first|refine FunW.Qxr (cn _) ?_|refine Qa ?_);simp only[go_sem,seval,hi,e1,e2,z1]|refine hK _ ?_;clear hK
    exact⟨rfl,rfl,rfl,by rw[z1,QAv];rfl,_,rfl⟩
theorem QiV:Qp Tryz.prog 73 [.ptr P.i 0 0] X (RuQ X P (Qa4 s)):=by
 refine Qn8 (Q0:=fun o h'=>(∃p e,Qa4 s = .err p e/\ErrY X P h'/\o = .panic (Fl p e))\/∃r s6,Qa4 s = .ok r s6/\RuR X P r s6 o h') (QsO HP hW hN hD _ (fun p e h' h k=>.inl ⟨p,e,h,k,rfl⟩) fun r s6 o h' h k=>.inr ⟨r,s6,h,k⟩) fun hbel o h' h=>?_
 rcases h with⟨p,e,h,hy,rfl⟩|⟨r,s6,h,nk,nr,ng,nb,rfl,e1,e2,e3,e4,a1,a2,a3,a4,hl,ht⟩
 ·rw[h];exact .inl ⟨rfl,⟨h',hy⟩,rfl⟩
 ·rw[h]
  refine .inr ⟨_,r.av,rfl,hl,fun b hb=>?_,?_,rfl,ht⟩
  ·rw[ht]at hb
   obtain⟨k,hk⟩:=List.mem_iff_getElem?.1 hb
   have hj:=Qf HP.j
   have hi:=Qf HP.i
   by_cases c1:k=P.j
   ·subst c1
    rw[Qzj (by rw[Qzm];exact hj)]at hk
    cases hk
    exact Qnl (HP.ok [] .dead) s6 _
   ·rw[Qzd (QAg c1)]at hk
    by_cases c2:k=P.i
    ·subst c2
     rw[Qzj hi]at hk
     cases hk
     intro a ha
     simp only[flat,QBc,List.flatMap_nil,QyM,AV.cells,Qzn,Qzz,QAf]at ha
     rcases ha with rfl|rfl|rfl|rfl
     ·exact .sl 3 _ none (QeS _ _) (fun b hb=>by cases hb)
     ·exact .v _
     ·exact .sl 1 _ _ (QlP _ _) (fun b hb=>by cases hb)
     ·exact .mp _ hj
    ·rw[Qzd (QAg c2)]at hk
     exact hbel k b hk
  ·refine .agg rfl fun j a a' h1 h2=>?_
   match j,h1,h2 with
   |0,h1,h2=>cases h1;cases h2;exact .keep (.v _)
   |1,h1,h2=>cases h1;cases h2;exact QqG _ e1 a1
   |2,h1,h2=>cases h1;cases h2;exact QqG _ e2 a2
   |3,h1,h2=>cases h1;cases h2;exact QqH _ e3 a3
   |4,h1,h2=>cases h1;cases h2;exact QqH _ e4 a4
   |5,h1,h2=>cases h1;cases h2;exact .keep (.v _)
   |j+6,h1,h2=>simp at h1
end
end Go.Proofs.YtenheconhibonaaGreatDoor.Ab
namespace Go.Proofs.YtenheconhibonaaGreatDoor.Ab
open Go.Proofs
def DcQ(h:AH)(P:Pz):PR (List Dc)->AOut->AH->Prop
 | .ok l s,o,h'=>o = .ret (.sl 2 (vs Dc.av l) none)/\h'=ph h P s
 | .err p e,o,h'=>o = .panic (Fl p e)/\∃s,h'=ph h P s
theorem QpS(n:Nat)(l:List Dc):∀a∈flat (vs Dc.av l),Below n a:=QhU Dc.av n (fun d=>Dc.bel n d) l
section
variable{P:Pz}{s:PS}(hW:Wst P.all s){h:AH}(H:P.ok h)(hN:P.all.length<=1000000)(hD:TkOk P.all)
include hW H hN hD
theorem Qof:Qp Tryz.prog 75 [.ptr P.i 0 0] (ph h P s) (DcQ h P (ZP (s.toks.length+1) [] s)):=by
 have f1:=QE h P
 have f3:=XF h P
 have f4:=Yp h P
 have f5:=Q8 h P
 have f6:=XR h P
 have hi0:=Yg H s
 have hi:=ph_i H s
 simp only[pB]at hi hi0
 have cn0:=fun L=>nextL hW (Yg H s) L
 have g1:=Tk.Qxs s.tk
 have g2:=Tk.Qxt s.tk
 have bSl:({data:=#[47]}:ByteArray).toList=QeN:=tl QeN
 have bCo:({data:=#[44]}:ByteArray).toList=Yb:=tl Yb
 have bDo:({data:=#[46]}:ByteArray).toList=sDot:=tl sDot
 generalize hR:ZP (s.toks.length+1) [] s=R
 refine Qc Tryz.func75 rfl Tryz.call75 Tryz.ntmps75 Tryz.results75 (by simp) ?_
 iterate 4 (try (first|(((refine Qd fun K E hK hE=>?_));simp only[go_sem,seval])|((with_reducible refine hK _ ?_);clear hK)))
 refine Zu 3 38 2 rfl ?_
 repeat first|(first|refine FunW.Qxr (cn0 _) ?_|refine Qa ?_);simp only[go_sem,seval,f1,f4,f6,hi,g1,g2]|refine hK _ ?_;clear hK
 obtain⟨I,hI⟩:∃I:Nat->AS->Prop,I=fun m' s=>∃(l:List Dc) (s2:PS) (X:AH) (id:Nat),m'=s2.toks.length/\Wst P.all s2/\l.length<=30/\(∃k,s2.toks.length+1<=k/\ZP k l s2=R)/\X[id]? = some (.cells 127 3 [s2.tk.av])/\s.tm 0 = .ptr P.i 0 0/\s.tm 3 = .sl 2 (vs Dc.av l) (some h.length)/\s.tm 4 = .ptr (h.length+(id+1)) 0 0 /\
  s.h=ph h P s2++(.grow 38 2 l.length::X):=⟨_,rfl⟩;refine Qv I ?_ (m:=s.toks.length) ?_
 ·intro m' s hs;rw[hI]at hs;obtain⟨tm,hp⟩:=s;dsimp only at hs;obtain⟨l,s2,X,id,rfl,hW2,hl30,⟨k,hk,hR2⟩,hX,t0,t3,t4,rfl⟩:=hs
  have hk1:k=k - 1+1:=by omega
  have e1:=Tk.Qxs s2.tk
  have e2:=Tk.Qxt s2.tk
  have hXa:=fun Y=>hext hX Y
  have hi2:=ph_i H s2
  simp only[pB]at hi2
  rw[hk1,ZP]at hR2
  by_cases hc:s2.tk.kind=1/\s2.tk.text.toList=QkG
  ·rw[Qzh hc]at hR2
   have z1:(s2.tk.kind==1)=true:=by simpa using hc.1
   have z2:(s2.tk.text.toList==({data:=#[99,111,110,115,116,114,97,105,110,116]}:ByteArray).toList)=true:=by rw[hc.2,Lib.toList_data];rfl
   have ct:=fun L=>Xo hW2 (H.app L) hN
   simp only[QP H]at ct
   have hI0:=hI
   have hln:=XX hW2.wf (by rw[hc.1];decide)
   generalize hRi:Qa3 (s2.toks.length+1) l s2.nx=Ri at *
   repeat first|(first|refine FunW.Qxr (ct _) ?_|refine Qa ?_);simp only[go_sem,seval,t0,t4,f4,hX,hi2,e1,z1,z2]|refine hK _ ?_;clear hK
   obtain⟨I,hI⟩:∃I:Nat->AS->Prop,I=fun m' s=>∃(l3:List Dc) (s3:PS) (G:AH),m'=s3.toks.length/\Wst P.all s3/\l3.length<=30/\(∃k,s3.toks.length+1<=k/\Qa3 k l3 s3=Ri)/\s3.toks.length+1<=s2.toks.length/\G[id]? = some (.cells 127 3 [s2.tk.av])/\s.tm 0 = .ptr P.i 0 0/\s.tm 3 = .sl 2 (vs Dc.av l3) (some h.length)/\s.tm 4 = .ptr (h.length+(id+1)) 0 0 /\
    s.h=ph h P s3++(.grow 38 2 l3.length::G):=⟨_,rfl⟩;refine Qv I ?_ (m:=s2.nx.toks.length) ?_
   ·intro m' s hs;rw[hI]at hs;obtain⟨tm,hp⟩:=s;dsimp only at hs;obtain⟨l3,s3,G,rfl,hW3,hl3,⟨k3,hk3,hR3⟩,hlt3,hG,u0,u3,u4,rfl⟩:=hs
    have hk4:k3=k3 - 1+1:=by omega
    rw[hk4,Qa3]at hR3
    have hi3:=ph_i H s3
    have hi4:=ph_i H s3.nx
    have hi5:=ph_i H s3.nx.nx
    have hi6:=ph_i H s3.nx.nx.nx
    simp only[pB]at hi3 hi4 hi5 hi6
    have hG0:=fun Y=>hext hG Y
    have ev:(vs Dc.av l3).length=l3.length:=Qh _ _
    have e3:=Tk.Qxs s3.nx.nx.tk
    have e4:=Tk.Qxt s3.nx.nx.tk
    have e5:=Tk.Qxs s2.tk
    have e6:=Tk.Qxt s2.tk
    have x1:∀(Y:AH),(G++Y)[G.length]? = Y[0]? := fun Y=>XP _ _
    have x2:∀(Y:AH) k,(G++Y)[G.length+k]? = Y[k]? := fun Y k=>hget _ _ _
    have x3:∀(Y:AH) y,(G++Y).set G.length y=G++Y.set 0 y:=fun Y y=>Qaa _ _ _
    have x4:∀(Y:AH) k y,(G++Y).set (G.length+k) y=G++Y.set k y:=fun Y k y=>hset _ _ _ _
    by_cases hm:30<=l3.length
    ·rw[Qzh hm]at hR3
     have cr:=fun L=>Qj3 hW3 H hN L ((l3.length:Nat):Int) 30 (by omega)
     repeat first|(first|refine FunW.pan (FunW.call (cr _)) ?_|refine Qa ?_);simp only[go_sem,seval,u0,u3,ev,hi3]|refine hK _ ?_;clear hK
     subst hR3
     subst hR2
     exact QG H s s3 _ _ _ ⟨rfl,_,rfl⟩
    ·have cr:=fun L=>QhC hW3 H hN L ((l3.length:Nat):Int) 30 (by omega)
     rw[Qzf hm]at hR3
     cases hn:QaM s3 with
     |err p e =>
      rw[hn]at hR3
      have hR4:PR.err p e=Ri:=hR3
      have cm:=fun L=>QjM hW3 H hN L hn
      repeat first|(first|refine FunW.Qxr (cr _) ?_|refine FunW.panE (FunW.call (cm _)) fun r=>?_|refine Qa ?_);simp only[go_sem,seval,u0,u3,ev,hi3]|refine hK _ ?_;clear hK
      subst hR4
      subst hR2
      exact QG H s r _ _ _ ⟨rfl,_,rfl⟩
     |ok x s4 =>
      have cm:=fun L=>QmE hW3 H hN L hn
      rw[hn]at hR3
      have hk1s:s3.tk.kind=1/\s4=s3.nx:=by
       unfold QaM at hn
       split at hn
       ·cases hn
       ·rename_i h1
        split at hn
        ·cases hn
        ·cases hn;exact⟨by simpa using h1,rfl⟩
      obtain⟨hk1s,rfl⟩:=hk1s
      have hl1:=XX hW3.wf (by rw[hk1s];decide)
      have hW4:=hW3.nx
      cases hsl:s3.nx.is QeN with
      |false =>
       have hR4:PR.err s3.nx.tk.pos 16=Ri:=by rw[<-hR3];show _=(XE QeN s3.nx).bind _;rw[XE,Qzf (by rw[hsl];decide)];rfl
       have cx:=fun L=>Yw hW4 H hN L {data:=#[47]} (by rw[bSl];exact hsl)
       repeat first|(first|refine FunW.Qxr (cr _) ?_|refine FunW.Qxr (cm _) ?_|refine FunW.pan (FunW.call (cx _)) ?_|refine Qa ?_);simp only[go_sem,seval,u0,u3,f1,f4,f6,x1,x3,ev,hi3,hi4,Qze]|refine hK _ ?_;clear hK
       subst hR4
       subst hR2
       exact QG H s s3.nx _ _ _ ⟨rfl,_,rfl⟩
      |true =>
       have hl2:=XX hW4.wf (PS.Qxv hsl)
       have hW5:=hW4.nx
       have cx:=fun L=>X3 hW4 H hN L {data:=#[47]} (by rw[bSl];exact hsl)
       have ct3:=fun L=>Xo hW5 (H.app L) hN
       simp only[QP H]at ct3
       have hR4:(if s3.nx.nx.tk.kind≠3 then PR.err s3.nx.nx.tk.pos 16 else if valT s3.nx.nx.tk.text>6 then .err s3.nx.nx.tk.pos 6 else
         if s3.nx.nx.nx.is Yb then Qa3 (k3 - 1) (l3++[⟨x,valT s3.nx.nx.tk.text⟩]) s3.nx.nx.nx.nx else(XE sDot s3.nx.nx.nx).bind fun _ s2=>.ok (l3++[⟨x,valT s3.nx.nx.tk.text⟩]) s2)=Ri:=by
        have hw:XE QeN s3.nx = .ok () s3.nx.nx:=by rw[XE,Qzh hsl]
        rw[<-hR3];show _=(XE QeN s3.nx).bind _;rw[hw];rfl
       clear hR3
       by_cases h3:s3.nx.nx.tk.kind=3
       ·rw[Qzf (by simpa using h3)]at hR4
        have y1:(s3.nx.nx.tk.kind != 3)=false:=by simpa using h3
        have hl5:=XX hW5.wf (by rw[h3];decide)
        obtain⟨cv,v0,v1⟩:=Qmp hD hW5 h3
        have hW6:=hW5.nx
        by_cases h6:valT s3.nx.nx.tk.text>6
        ·rw[Qzh h6]at hR4
         have y2:(6:Int)<valT s3.nx.nx.tk.text:=h6
         have cf:=Za s3.nx.nx.tk 6
         repeat first|(first|refine FunW.Qxr (cr _) ?_|refine FunW.Qxr (cm _) ?_|refine FunW.Qxr (cx _) ?_|refine FunW.Qxr (ct3 _) ?_|refine Qe cv ?_|refine Qa ?_);simp only[go_sem,seval,u0,u3,f1,f4,f6,x1,x2,x3,x4,ev,hi3,hi4,hi5,e3,e4,Qze,y1,y2]|refine hK _ ?_;clear hK
         subst hR4
         subst hR2
         refine Q2 4 [(0,0),(1,0),(2,0),(3,0)] mixed rfl rfl rfl (by kernel_rfl) (fun v h'=>v=Fl s3.nx.nx.tk.pos 6/\∃L,h'=ph h P s3.nx.nx.nx++L) ?_ ?_
         ·rintro tm v h' ⟨rfl,L,rfl⟩
          exact QG H s s3.nx.nx.nx _ _ _ ⟨rfl,_,rfl⟩
         ·simp only[go_sem,seval,u0,f4,x2,hi6,e3,e4]
          exact fun _=>(FunW.call (cf _ _)).mono (by rintro _ _ ⟨rfl,rfl⟩;exact⟨_,rfl,rfl,_,rfl⟩)
        ·rw[Qzf h6]at hR4
         have y2:¬(6:Int)<valT s3.nx.nx.tk.text:=h6
         have hm1:(l3.length+1) * 24<=140737488355328:=by omega
         have hm2:l3.length+1<=maxLen:=by simp only[maxLen];omega
         have evs:vs Dc.av (l3++[⟨x,valT s3.nx.nx.tk.text⟩])=vs Dc.av l3++[.agg [.v (.string x),.i (valT s3.nx.nx.tk.text)]]:=by rw[Qb9];rfl
         cases hco:s3.nx.nx.nx.is Yb with
         |true =>
          rw[hco,Qzh rfl]at hR4
          have hl6:=XX hW6.wf (PS.Qxv hco)
          have cs:=fun L=>QaE hW6 H hN L {data:=#[44]} (by rw[bCo];exact hco)
          repeat first|(first|refine FunW.Qxr (cr _) ?_|refine FunW.Qxr (cm _) ?_|refine FunW.Qxr (cx _) ?_|refine FunW.Qxr (ct3 _) ?_|refine Qe cv ?_|refine FunW.Qxr (cs _) ?_|refine Qa ?_);simp only[go_sem,seval,u0,u3,f1,f3,f4,f5,f6,x1,x2,x3,x4,ev,hi3,hi4,hi5,hi6,e3,e4,Qze,y1,y2,hm1,hm2]|refine hK _ ?_;clear hK
          refine QZ.mk (m':=s3.nx.nx.nx.nx.toks.length) (by omega) ?_
          rw[hI]
          refine⟨l3++[⟨x,valT s3.nx.nx.tk.text⟩],s3.nx.nx.nx.nx,G++[.cells 38 2 [.agg [.v (.string x),.i (valT s3.nx.nx.tk.text)]],.cells 127 3 [s3.nx.nx.tk.av]],rfl,hW6.nx,by simp;omega,⟨k3 - 1,by omega,hR4⟩,by omega,hG0 _,u0,?_,u4,?_⟩
          ·rw[evs];rfl
          ·rw[Qza];rfl
         |false =>
          rw[hco,Qzf (by decide)]at hR4
          have cs:=fun L=>Qbh hW6 H hN L {data:=#[44]} (by rw[bCo];exact hco)
          cases hdo:s3.nx.nx.nx.is sDot with
          |false =>
           have hR5:PR.err s3.nx.nx.nx.tk.pos 16=Ri:=by rw[<-hR4,XE,Qzf (by rw[hdo];decide)];rfl
           have cd:=fun L=>Yw hW6 H hN L {data:=#[46]} (by rw[bDo];exact hdo)
           repeat first|(first|refine FunW.Qxr (cr _) ?_|refine FunW.Qxr (cm _) ?_|refine FunW.Qxr (cx _) ?_|refine FunW.Qxr (ct3 _) ?_|refine Qe cv ?_|refine FunW.Qxr (cs _) ?_|refine FunW.pan (FunW.call (cd _)) ?_|refine Qa ?_);simp only[go_sem,seval,u0,u3,f1,f3,f4,f5,f6,x1,x2,x3,x4,ev,hi3,hi4,hi5,hi6,e3,e4,Qze,y1,y2,hm1,hm2]|refine hK _ ?_;clear hK
           subst hR5
           subst hR2
           exact QG H s s3.nx.nx.nx _ _ _ ⟨rfl,_,rfl⟩
          |true =>
           have hR5:PR.ok (l3++[⟨x,valT s3.nx.nx.tk.text⟩]) s3.nx.nx.nx.nx=Ri:=by rw[<-hR4,XE,Qzh hdo];rfl
           subst hR5
           have hR6:ZP (k - 1) (l3++[⟨x,valT s3.nx.nx.tk.text⟩]) s3.nx.nx.nx.nx=R:=hR2
           have hl6:=XX hW6.wf (PS.Qxv hdo)
           have cd:=fun L=>X3 hW6 H hN L {data:=#[46]} (by rw[bDo];exact hdo)
           have hi7:=ph_i H s3.nx.nx.nx.nx
           simp only[pB]at hi7
           have e7:=Tk.Qxs s3.nx.nx.nx.nx.tk
           have e8:=Tk.Qxt s3.nx.nx.nx.nx.tk
           have cn7:=fun L=>nextL hW6.nx (Yg H s3.nx.nx.nx.nx) L
           repeat first|(first|refine FunW.Qxr (cr _) ?_|refine FunW.Qxr (cm _) ?_|refine FunW.Qxr (cx _) ?_|refine FunW.Qxr (ct3 _) ?_|refine Qe cv ?_|refine FunW.Qxr (cs _) ?_|refine FunW.Qxr (cd _) ?_|refine FunW.Qxr (cn7 _) ?_|refine Qa ?_);simp only[go_sem,seval,u0,u3,u4,f1,f3,f4,f5,f6,x1,x2,x3,x4,ev,hG0,hi3,hi4,hi5,hi6,e3,e4,e5,e6,Qze,y1,y2,hm1,hm2,hi7,e7,e8]|refine hK _ ?_;clear hK
           refine QZ.mk (m':=s3.nx.nx.nx.nx.toks.length) (by omega) ?_
           rw[hI0]
           refine⟨l3++[⟨x,valT s3.nx.nx.tk.text⟩],s3.nx.nx.nx.nx,G++[.cells 38 2 [.agg [.v (.string x),.i (valT s3.nx.nx.tk.text)]],.cells 127 3 [s3.nx.nx.tk.av],.cells 127 3 [s3.nx.nx.nx.nx.tk.av]],G.length+2,rfl,hW6.nx,by simp;omega,⟨k - 1,by omega,hR6⟩,hget _ _ _,u0,?_,?_,?_⟩
           ·rw[evs];rfl
           ·rfl
           ·rw[Qza];rfl
       ·rw[Qzh h3]at hR4
        have y1:(s3.nx.nx.tk.kind != 3)=true:=by simpa using h3
        have cf:=Za s3.nx.nx.tk 16
        repeat first|(first|refine FunW.Qxr (cr _) ?_|refine FunW.Qxr (cm _) ?_|refine FunW.Qxr (cx _) ?_|refine FunW.Qxr (ct3 _) ?_|refine Qa ?_);simp only[go_sem,seval,u0,u3,f1,f4,f6,x1,x2,x3,x4,ev,hi3,hi4,hi5,e3,e4,Qze,y1]|refine hK _ ?_;clear hK
        subst hR4
        subst hR2
        refine Q2 4 [(0,0),(1,0),(2,0),(3,0)] mixed rfl rfl rfl (by kernel_rfl) (fun v h'=>v=Fl s3.nx.nx.tk.pos 16/\∃L,h'=ph h P s3.nx.nx.nx++L) ?_ ?_
        ·rintro tm v h' ⟨rfl,L,rfl⟩
         exact QG H s s3.nx.nx.nx _ _ _ ⟨rfl,_,rfl⟩
        ·simp only[go_sem,seval,u0,f4,x2,hi6,e3,e4]
         exact fun _=>(FunW.call (cf _ _)).mono (by rintro _ _ ⟨rfl,rfl⟩;exact⟨_,rfl,rfl,_,rfl⟩)
   ·rw[hI]
    exact⟨l,s2.nx,X,rfl,hW2.nx,hl30,⟨s2.toks.length+1,by omega,hRi⟩,by omega,hX,t0,t3,t4,rfl⟩
  ·rw[Qzf hc]at hR2
   subst hR2
   by_cases hk1:s2.tk.kind=1
   ·have z1:(s2.tk.kind==1)=true:=by simpa using hk1
    have z2:(s2.tk.text.toList==({data:=#[99,111,110,115,116,114,97,105,110,116]}:ByteArray).toList)=false:=by
     rw[Lib.toList_data ({data:=#[99,111,110,115,116,114,97,105,110,116]}:ByteArray)]
     exact QAi.2 fun q=>hc ⟨hk1,q⟩
    repeat first|refine Qa ?_;simp only[go_sem,seval,t3,t4,f4,hX,e1,z1,z2]|refine hK _ ?_;clear hK|clear hK;refine hK _ ?_;clear hK
    exact Q9 H (s:=s) (s':=s2) (Frz.tok (QpS _ _)) ⟨rfl,rfl⟩
   ·have z1:(s2.tk.kind==1)=false:=by simpa using hk1
    repeat first|refine Qa ?_;simp only[go_sem,seval,t3,t4,f4,hX,e1,z1]|refine hK _ ?_;clear hK|clear hK;refine hK _ ?_;clear hK
    exact Q9 H (s:=s) (s':=s2) (Frz.tok (QpS _ _)) ⟨rfl,rfl⟩
 ·rw[hI]
  exact⟨[],s,[.cells 127 3 [s.tk.av]],0,rfl,hW,Qzy _,⟨_,Qzl _,hR⟩,rfl,rfl,rfl,rfl,rfl⟩
end
end Go.Proofs.YtenheconhibonaaGreatDoor.Ab

