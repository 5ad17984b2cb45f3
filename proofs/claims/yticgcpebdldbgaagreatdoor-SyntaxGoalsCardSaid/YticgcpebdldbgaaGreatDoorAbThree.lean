/-
  An abstract program logic, contracts of functions, and laws of terms and rules (part 3).
-/
import Derived.Test.YticgcpebdldbgaaGreatDoorAbTwo
import Derived.ProofKit
import Derived.WalkKit
import Derived.OpenShut
import Derived.LaidSub
import Derived.Lib.LaidTab
import Derived.Lib.ItoaNum
import Derived.Lib.ItoaMem
import Derived.Lib.AtoiTie
import Derived.RecoverIn
set_option linter.unusedVariables false
set_option linter.unusedSimpArgs false
set_option maxHeartbeats 4000000
set_option maxRecDepth 4000
namespace Go.Proofs.YticgcpebdldbgaaGreatDoor.Ab
open Go.Proofs
def PS.wf(s:PS):Prop:=∃l e,s.toks=l++[e]/\e.kind=0/\∀t∈l,t.kind≠0
theorem Qam{s:PS}(h:s.wf):s.nx.wf:=by
 obtain⟨l,e,hl,he,ha⟩:=h
 cases l with
 |nil=>exact⟨[],e,by simp only[PS.nx,hl,Qt6],he,ha⟩
 |cons t l =>
  have e2:s.nx.toks=l++[e]:=by
   cases l with
   |nil=>simp only[PS.nx,hl,Qt7,Qt6]
   |cons u l=>simp only[PS.nx,hl,Qt7]
  exact⟨l,e,e2,he,fun x hx=>ha x (by simp[hx])⟩
theorem Qss{s:PS}(h:s.wf)(hk:s.tk.kind≠0):s.toks=s.tk::s.nx.toks:=by
 obtain⟨l,e,hl,he,ha⟩:=h
 cases l with
 |nil =>
  have:s.tk=e:=by simp only[PS.tk,hl,Qt6,Qvm]
  rw[this]at hk;exact absurd he hk
 |cons t l =>
  have e1:s.tk=t:=by simp only[PS.tk,hl,Qt7,Qvm]
  have e2:s.nx.toks=l++[e]:=by
   cases l with
   |nil=>simp only[PS.nx,hl,Qt7,Qt6]
   |cons u l=>simp only[PS.nx,hl,Qt7]
  rw[e1,e2,hl];rfl
theorem Yg{s:PS}(h:s.wf)(hk:s.tk.kind≠0):s.nx.toks.length+1=s.toks.length:=by
 rw[Qss h hk];rfl
theorem Ql9{s:PS}(h:s.wf):s.nx.toks.length<=s.toks.length:=by
 by_cases hk:s.tk.kind=0
 ·unfold PS.nx
  split
  ·rename_i he;rw[he];simp
  ·exact QuD _
 ·have:=Yg h hk;omega
theorem QsV{s:PS}{b:List UInt8}(h:s.is b=true):s.tk.kind=4:=by
 simp only[PS.is,QuR,Qvx]at h;exact h.1
theorem Qbz{s:PS}{l:List (List UInt8)}(h:s.oneOf l=true):s.tk.kind=4:=by
 rw[PS.oneOf,QwC]at h
 obtain⟨b,_,hb⟩:=h
 exact QsV hb
theorem bind_ok{α β:Type}{x:PR α}{f:α->PS->PR β}{b:β}{s2:PS}(h:x.bind f = .ok b s2):∃a s,x = .ok a s/\f a s = .ok b s2:=by
 cases x with
 |ok a s=>exact⟨a,s,rfl,h⟩
 |err p e=>cases h
def Eat{α:Type}(k:Nat)(f:PS->PR α):Prop:=∀s,s.wf->∀a s2,f s = .ok a s2->s2.wf/\s2.toks.length+k<=s.toks.length
theorem Eat.less{α:Type}{j k:Nat}{f:PS->PR α}(h:Eat k f)(hj:j<=k):Eat j f:=fun s hs a s2 e=>by
 obtain⟨h1,h2⟩:=h s hs a s2 e
 exact⟨h1,by omega⟩
theorem Qa3(b:List UInt8):Eat 1 (YM b):=fun s hs a s2 e=>by
 unfold YM at e
 split at e
 ·rename_i h
  cases e
  exact⟨Qam hs,Qwg (Yg hs (by rw[QsV h];decide))⟩
 ·cases e
theorem QcE:Eat 1 QaC:=fun s hs a s2 e=>by
 unfold QaC at e
 split at e
 ·cases e
 ·rename_i h
  split at e
  ·cases e
  ·cases e
   exact⟨Qam hs,Qwg (Yg hs (by omega))⟩
theorem Qj9{ex:PS->PR T}(H:Eat 0 ex):∀(m:Nat) (l:List T),Eat 1 (Z1 ex m l)
 |0,_=>fun s _ a s2 e=>by cases e
 |m+1,l=>fun s hs a s2 e=>by
  rw[Z1]at e
  obtain⟨t,s1,h1,h2⟩:=bind_ok e
  obtain⟨w1,l1⟩:=H s hs t s1 h1
  split at h2
  ·rename_i hc
   have hl:=Yg w1 (by rw[QsV hc];decide)
   obtain⟨w2,l2⟩:=Qj9 H m _ s1.nx (Qam w1) a s2 h2
   exact⟨w2,by omega⟩
  ·obtain⟨u,s3,h3,h4⟩:=bind_ok h2
   cases h4
   obtain⟨w2,l2⟩:=Qa3 _ s1 w1 u _ h3
   exact⟨w2,by omega⟩
theorem Qhf{ex:PS->PR T}(H:Eat 0 ex):Eat 1 (ZU ex):=fun s hs a s2 e=>by
 rw[ZU]at e
 obtain⟨x,s1,h1,h2⟩:=bind_ok e
 obtain⟨w1,l1⟩:=QcE s hs x s1 h1
 split at h2
 ·rename_i hc
  have hl:=Yg w1 (by rw[QsV hc];decide)
  obtain⟨l,s3,h3,h4⟩:=bind_ok h2
  cases h4
  obtain⟨w2,l2⟩:=Qj9 H _ _ s1.nx (Qam w1) l _ h3
  exact⟨w2,by omega⟩
 ·cases h2
  exact⟨w1,l1⟩
theorem QdE(x:ByteArray)(s:PS):(pVari x s).2.toks=s.toks:=by unfold pVari;split <;> rfl
theorem QfE{ex:PS->PR T}(H:Eat 0 ex):Eat 1 (pOpT ex):=fun s hs a s2 e=>by
 rw[pOpT]at e
 split at e
 ·rename_i h
  cases e
  exact⟨Qam hs,Qwg (Yg hs (by omega))⟩
 split at e
 ·rename_i h
  cases e
  have ht:=QdE s.tk.text s.nx
  refine⟨?_,by rw[ht];exact Qwg (Yg hs (by omega))⟩
  obtain⟨l,e',h1,h2,h3⟩:=Qam hs
  exact⟨l,e',by rw[ht];exact h1,h2,h3⟩
 split at e
 ·obtain⟨g,s1,h1,h2⟩:=bind_ok e
  cases h2
  exact Qhf H s hs g _ h1
 split at e
 ·rename_i h
  split at e
  ·cases e
  ·rename_i hn
   cases e
   have hl:=Yg hs (by rw[QsV h];decide)
   have hle:=Ql9 (Qam hs)
   exact⟨Qam (Qam hs),by omega⟩
 split at e
 ·rename_i h
  have hl:=Yg hs (by rw[QsV h];decide)
  obtain⟨t,s1,h1,h2⟩:=bind_ok e
  obtain⟨w1,l1⟩:=H s.nx (Qam hs) t s1 h1
  obtain⟨u,s3,h3,h4⟩:=bind_ok h2
  cases h4
  obtain⟨w2,l2⟩:=Qa3 _ s1 w1 u _ h3
  exact⟨w2,by omega⟩
 ·cases e
theorem Qgu{op:PS->PR T}(H:Eat 0 op)(ops:List (List UInt8)):∀(m:Nat) (t:T),Eat 0 (YA op ops m t)
 |0,t=>fun s hs a s2 e=>by cases e;exact⟨hs,QuD _⟩
 |m+1,t=>fun s hs a s2 e=>by
  rw[YA]at e
  split at e
  ·rename_i h
   have hl:=Yg hs (by rw[Qbz h];decide)
   obtain⟨u,s1,h1,h2⟩:=bind_ok e
   obtain⟨w1,l1⟩:=H s.nx (Qam hs) u s1 h1
   obtain⟨w2,l2⟩:=Qgu H ops m _ s1 w1 a s2 h2
   exact⟨w2,by omega⟩
  ·cases e;exact⟨hs,QuD _⟩
theorem Qce{op:PS->PR T}{k:Nat}(H:Eat k op)(ops:List (List UInt8)):Eat k (YV op ops):=fun s hs a s2 e=>by
 rw[YV]at e
 obtain⟨t,s1,h1,h2⟩:=bind_ok e
 obtain⟨w1,l1⟩:=H s hs t s1 h1
 obtain⟨w2,l2⟩:=Qgu (H.less (QuG _)) ops _ t s1 w1 a s2 h2
 exact⟨w2,by omega⟩
theorem Qbb:∀n,Eat 1 (Zf n)
 |0=>fun s _ a s2 e=>by cases e
 |n+1=>Qce (Qce (QfE ((Qbb n).less (QuG _))) YJ) ZY
theorem bind_congr{α β:Type}{x:PR α}{f g:α->PS->PR β}(h:∀a s,x = .ok a s->f a s=g a s):x.bind f=x.bind g:=by
 cases x with
 |ok a s=>exact h a s rfl
 |err p e=>rfl
theorem Qia{ex ex':PS->PR T}(H:Eat 0 ex){N:Nat}(hx:∀s,s.wf->s.toks.length<=N->ex s=ex' s):∀(m m':Nat) (l:List T) (s:PS),s.wf->s.toks.length<=N->s.toks.length<m->s.toks.length<m'->Z1 ex m l s=Z1 ex' m' l s
 |0,_,_,_,_,_,h,_=>by omega
 |_,0,_,_,_,_,_,h=>by omega
 |m+1,m'+1,l,s,hs,hN,h,h'=>by
  rw[Z1,Z1,<-hx s hs hN]
  refine bind_congr fun t s1 h1=>?_
  obtain⟨w1,l1⟩:=H s hs t s1 h1
  split
  ·rename_i hc
   have hl:=Yg w1 (by rw[QsV hc];decide)
   exact Qia H hx m m' _ s1.nx (Qam w1) (by omega) (by omega) (by omega)
  ·rfl
theorem QcV{op op':PS->PR T}(H:Eat 0 op)(ops:List (List UInt8)){N:Nat}(hx:∀s,s.wf->s.toks.length<=N->op s=op' s):∀(m m':Nat) (t:T) (s:PS),s.wf->s.toks.length<=N+1->s.toks.length<=m->s.toks.length<=m'->YA op ops m t s=YA op' ops m' t s
 |0,m',t,s,hs,hN,h,_=>by
  obtain⟨l,e,hl,_⟩:=hs
  rw[hl]at h;simp at h
 |m+1,0,t,s,hs,hN,_,h=>by
  obtain⟨l,e,hl,_⟩:=hs
  rw[hl]at h;simp at h
 |m+1,m'+1,t,s,hs,hN,h,h'=>by
  rw[YA,YA]
  split
  ·rename_i hc
   have hl:=Yg hs (by rw[Qbz hc];decide)
   rw[<-hx s.nx (Qam hs) (by omega)]
   refine bind_congr fun u s1 h1=>?_
   obtain⟨w1,l1⟩:=H s.nx (Qam hs) u s1 h1
   exact QcV H ops hx m m' _ s1 w1 (by omega) (by omega) (by omega)
  ·rfl
theorem Qlm:∀(N n n':Nat),N<n->N<n'->∀s,s.wf->s.toks.length<=N->Zf n s=Zf n' s:=by
 intro N
 induction N with
 |zero=>intro n n' _ _ s hs h;obtain⟨l,e,hl,_⟩:=hs;rw[hl]at h;simp at h
 |succ N ih =>
  intro n n' hn hn' s hs h
  obtain⟨a,rfl⟩:∃a,n=a+1:=⟨n - 1,by omega⟩
  obtain⟨a',rfl⟩:∃a',n'=a'+1:=⟨n' - 1,by omega⟩
  have hE:=(Qbb a).less (QuG 1)
  have hop:∀s,s.wf->s.toks.length<=N+1->pOpT (Zf a) s=pOpT (Zf a') s:=fun s hs h=>by
   rw[pOpT,pOpT]
   split
   ·rfl
   split
   ·rfl
   split
   ·rename_i hk
    congr 1
    rw[ZU,ZU]
    refine bind_congr fun x s1 h1=>?_
    obtain⟨w1,l1⟩:=QcE s hs x s1 h1
    split
    ·rename_i hc
     have hl:=Yg w1 (by rw[QsV hc];decide)
     rw[Qia hE (ex':=Zf a') (N:=N) (fun s hs h=>ih a a' (by omega) (by omega) s hs h) s1.toks.length s1.toks.length [] s1.nx (Qam w1) (by omega) (by omega) (by omega)]
    ·rfl
   split
   ·rfl
   split
   ·rename_i hc
    have hl:=Yg hs (by rw[QsV hc];decide)
    rw[ih a a' (by omega) (by omega) s.nx (Qam hs) (by omega)]
   ·rfl
  have hO:=(QfE hE).less (QuG 1)
  have hmul:∀s,s.wf->s.toks.length<=N+1->YV (pOpT (Zf a)) YJ s=YV (pOpT (Zf a')) YJ s:=fun s hs h=>by
   rw[YV,YV,<-hop s hs h]
   refine bind_congr fun t s1 h1=>?_
   obtain⟨w1,l1⟩:=hO s hs t s1 h1
   exact QcV hO YJ hop _ _ t s1 w1 (by omega) (by omega) (by omega)
  have hM:=Qce hO YJ
  show(YV (pOpT (Zf a)) YJ s).bind (fun t s=>YA (YV (pOpT (Zf a)) YJ) ZY s.toks.length t s)=(YV (pOpT (Zf a')) YJ s).bind (fun t s=>YA (YV (pOpT (Zf a')) YJ) ZY s.toks.length t s)
  rw[<-hmul s hs h]
  refine bind_congr fun t s1 h1=>?_
  obtain⟨w1,l1⟩:=hM s hs t s1 h1
  exact QcV hM ZY hmul _ _ t s1 w1 (by omega) (by omega) (by omega)
theorem Qbi:Eat 1 YP:=fun s hs a s2 e=>Qbb _ s hs a s2 e
theorem Ql1{n:Nat}{s:PS}(hs:s.wf)(hn:s.toks.length<n):Zf n s=YP s:=Qlm s.toks.length n _ hn (Nat.lt_succ_self _) s hs (QuD _)
theorem QkB(op:Int):Eat 1 (Qb6 op):=fun s hs a s2 e=>by
 rw[Qb6]at e
 obtain⟨u,s1,h1,e⟩:=bind_ok e
 obtain⟨t,s3,h3,e⟩:=bind_ok e
 obtain⟨v,s4,h4,e⟩:=bind_ok e
 cases e
 obtain⟨w1,l1⟩:=Qa3 _ s hs u s1 h1
 obtain⟨w2,l2⟩:=Qbi s1 w1 t s3 h3
 obtain⟨w3,l3⟩:=Qa3 _ s3 w2 v _ h4
 exact⟨w3,by omega⟩
theorem Qgy{s:PS}{x:Int×Bool}(h:QaP s=some x):s.tk.kind≠0:=by
 unfold QaP at h
 split at h
 ·omega
 ·split at h
  ·cases h
  ·omega
theorem Qfi:Eat 1 QaD:=fun s hs a s2 e=>by
 rw[QaD]at e
 split at e
 ·rename_i hk
  have hl:=Yg hs (by omega)
  have hw:=Qam hs
  split at e
  ·cases e;exact⟨hw,by omega⟩
  split at e
  ·cases e;exact⟨hw,by omega⟩
  split at e
  ·obtain⟨h1,h2⟩:=QkB 11 s.nx hw a s2 e
   exact⟨h1,by omega⟩
  split at e
  ·obtain⟨h1,h2⟩:=QkB 12 s.nx hw a s2 e
   exact⟨h1,by omega⟩
  ·cases e
 ·obtain⟨t,s1,h1,e⟩:=bind_ok e
  obtain⟨w1,l1⟩:=Qbi s hs t s1 h1
  cases hc:QaP s1 with
  |some x =>
   obtain⟨op,turn⟩:=x
   rw[hc]at e
   simp only at e
   have hl:=Yg w1 (Qgy hc)
   obtain⟨u,s3,h3,e⟩:=bind_ok e
   cases e
   obtain⟨w2,l2⟩:=Qbi s1.nx (Qam w1) u _ h3
   exact⟨w2,by omega⟩
  |none =>
   rw[hc]at e
   simp only at e
   split at e
   ·cases e;exact⟨w1,l1⟩
   ·cases e
theorem QgG(most:Nat):∀(m:Nat) (l:List G),Eat 1 (Zg most m l)
 |0,_=>fun s _ a s2 e=>by cases e
 |m+1,l=>fun s hs a s2 e=>by
  rw[Zg]at e
  split at e
  ·cases e
  ·obtain⟨g,s1,h1,e⟩:=bind_ok e
   obtain⟨w1,l1⟩:=Qfi s hs g s1 h1
   split at e
   ·cases e
   ·split at e
    ·rename_i hc
     have hl:=Yg w1 (by rw[QsV hc];decide)
     obtain⟨w2,l2⟩:=QgG most m _ s1.nx (Qam w1) a s2 e
     exact⟨w2,by omega⟩
    ·cases e;exact⟨w1,l1⟩
theorem Qit(most:Nat):Eat 1 (Y8 most):=fun s hs a s2 e=>QgG most _ [] s hs a s2 e
theorem QgJ(pre:Nat):∀(m:Nat) (l:List G),Eat 1 (Qab pre m l)
 |0,_=>fun s _ a s2 e=>by cases e
 |m+1,l=>fun s hs a s2 e=>by
  rw[Qab]at e
  split at e
  ·cases e
  ·obtain⟨g,s1,h1,e⟩:=bind_ok e
   obtain⟨w1,l1⟩:=Qhf (Qbi.less (QuG 1)) s hs g s1 h1
   split at e
   ·cases e
   ·split at e
    ·rename_i hc
     have hl:=Yg w1 (by rw[QsV hc];decide)
     obtain⟨w2,l2⟩:=QgJ pre m _ s1.nx (Qam w1) a s2 e
     exact⟨w2,by omega⟩
    ·cases e;exact⟨w1,l1⟩
theorem Qiv(pre:Nat):Eat 1 (ZO pre):=fun s hs a s2 e=>QgJ pre _ [] s hs a s2 e
theorem QhU(name:ByteArray)(keep remove:List G):Eat 1 (QaI name keep remove):=fun s hs a s2 e=>by
 unfold QaI at e
 simp only at e
 obtain⟨b,s1,h1,e⟩:=bind_ok e
 obtain⟨w1,l1⟩:=Qit 12 s hs b s1 h1
 split at e
 ·rename_i hc
  have hl:=Yg w1 (by rw[QsV hc];decide)
  obtain⟨b2,s3,h3,e⟩:=bind_ok e
  obtain⟨w2,l2⟩:=Qit 12 s1.nx (Qam w1) b2 s3 h3
  obtain⟨u,s4,h4,e⟩:=bind_ok e
  cases e
  obtain⟨w3,l3⟩:=Qa3 _ s3 w2 u _ h4
  exact⟨w3,by omega⟩
 ·obtain⟨u,s4,h4,e⟩:=bind_ok e
  cases e
  obtain⟨w3,l3⟩:=Qa3 _ s1 w1 u _ h4
  exact⟨w3,by omega⟩
theorem Qns:Eat 1 QaH:=fun s hs a s2 e=>by
 have body:∀(name:ByteArray),Eat 1 fun s=>(ZO 0 s).bind fun first s =>
   if s.is QbD then QaI name [] first s.nx else if s.is Qgm then QaI name first [] s.nx else
   if s.is Qgk then(ZO first.length s.nx).bind fun rem s=>(YM QbD s).bind fun _ s=>QaI name first rem s else .err s.tk.pos 16:=fun name s hs a s2 e=>by
  simp only at e
  obtain⟨f,s1,h1,e⟩:=bind_ok e
  obtain⟨w1,l1⟩:=Qiv 0 s hs f s1 h1
  split at e
  ·rename_i hc
   have hl:=Yg w1 (by rw[QsV hc];decide)
   obtain⟨w2,l2⟩:=QhU name [] f s1.nx (Qam w1) a s2 e
   exact⟨w2,by omega⟩
  split at e
  ·rename_i hc
   have hl:=Yg w1 (by rw[QsV hc];decide)
   obtain⟨w2,l2⟩:=QhU name f [] s1.nx (Qam w1) a s2 e
   exact⟨w2,by omega⟩
  split at e
  ·rename_i hc
   have hl:=Yg w1 (by rw[QsV hc];decide)
   obtain⟨r,s3,h3,e⟩:=bind_ok e
   obtain⟨w2,l2⟩:=Qiv _ s1.nx (Qam w1) r s3 h3
   obtain⟨u,s4,h4,e⟩:=bind_ok e
   obtain⟨w3,l3⟩:=Qa3 _ s3 w2 u s4 h4
   obtain⟨w4,l4⟩:=QhU name f r s4 w3 a s2 e
   exact⟨w4,by omega⟩
  ·cases e
 unfold QaH at e
 simp only at e
 split at e
 ·obtain⟨x,s1,h1,e⟩:=bind_ok e
  obtain⟨w1,l1⟩:=QcE s hs x s1 h1
  have hle:=Ql9 w1
  obtain⟨w2,l2⟩:=body x s1.nx (Qam w1) a s2 e
  exact⟨w2,by omega⟩
 ·exact body eB s hs a s2 e
theorem Qpd:Eat 1 QbA:=fun s hs a s2 e=>by
 rw[QbA]at e
 obtain⟨r,s1,h1,e⟩:=bind_ok e
 cases e
 exact Qns ⟨s.toks,[]⟩ hs r _ h1
def tkS(t u:Tk):Prop:=t.kind=u.kind/\t.text=u.text
def lSim:List Tk->List Tk->Prop
 |[],[]=>True
 |t::l,u::m=>tkS t u/\(∀t2 u2,l.head? = some t2->m.head? = some u2->t2.kind=3->t.kind=4/\t.text.toList=QcT->(t2.pos=t.pos+1↔u2.pos=u.pos+1))/\lSim l m
 |_,_=>False
def Ends(r:List Tk):Prop:=∃e,r=[e]/\e.kind=0/\e.text=eB
structure Sm (r:List Tk) (s s':PS):Prop where
 ex:∃l m e,s.toks=l++[e]/\(e.kind=0/\e.text=eB)/\(∀t∈l,t.kind≠0)/\s'.toks=m++r/\lSim l m
 w:s'.wf
 n:s.names=s'.names
theorem Sm.wf{r:List Tk}{s s':PS}(h:Sm r s s'):s.wf:=by
 obtain⟨l,m,e,h1,h2,h3,_⟩:=h.ex
 exact⟨l,e,h1,h2.1,h3⟩
def Lv(r:List Tk)(s:PS):Prop:=1<s.toks.length\/Ends r
def RelP{α:Type}(r:List Tk)(x y:PR α):Prop:=match x with
 | .ok a s2=>Lv r s2->∃s2',y = .ok a s2'/\Sm r s2 s2'
 | .err _ e=>Ends r->∃p,y = .err p e
theorem Sm.tk{r:List Tk}{s s':PS}(h:Sm r s s')(hl:Lv r s):tkS s.tk s'.tk:=by
 obtain⟨l,m,e,h1,h2,h3,h4,h5⟩:=h.ex
 cases l with
 |nil =>
  cases m with
  |cons u m=>exact h5.elim
  |nil =>
   rcases hl with hl|⟨e',rfl,he',hx'⟩
   ·rw[h1]at hl;simp at hl
   ·have a1:s.tk=e:=by simp only[PS.tk,h1,Qt6,Qvm]
    have a2:s'.tk=e':=by simp only[PS.tk,h4,Qt6,Qvm]
    rw[a1,a2]
    exact⟨by rw[h2.1,he'],by rw[h2.2,hx']⟩
 |cons t l =>
  cases m with
  |nil=>exact h5.elim
  |cons u m =>
   have a1:s.tk=t:=by simp only[PS.tk,h1,Qt7,Qvm]
   have a2:s'.tk=u:=by simp only[PS.tk,h4,Qt7,Qvm]
   rw[a1,a2];exact h5.1
theorem Sm.ne{r:List Tk}{s s':PS}(h:Sm r s s'):r≠[]:=by
 intro hr
 obtain⟨l,m,e,h1,h2,h3,h4,h5⟩:=h.ex
 obtain⟨l',e',g1,g2,g3⟩:=h.w
 subst hr
 rw[Qt8]at h4
 rw[h4]at g1
 have key:∀(l m:List Tk),lSim l m->(∀t∈l,t.kind≠0)->∀u∈m,u.kind≠0:=by
  intro l
  induction l with
  |nil=>intro m h _ u hu;cases m with
   |nil=>cases hu
   |cons=>exact h.elim
  |cons t l ih =>
   intro m h ha u hu
   cases m with
   |nil=>exact h.elim
   |cons v m =>
    rcases QuL.1 hu with rfl|hu
    ·rw[<-h.1.1];exact ha t (by simp)
    ·exact ih m h.2.2 (fun x hx=>ha x (by simp[hx])) u hu
 exact key l m h5 h3 e' (by rw[g1];simp) g2
theorem QhB{s:PS}{t:Tk}{l:List Tk}(h:s.toks=t::l)(hl:l≠[]):s.nx.toks=l:=by
 cases l with
 |nil=>exact absurd rfl hl
 |cons u l=>simp only[PS.nx,h]
theorem QpH{s:PS}{t:Tk}(h:s.toks=[t]):s.nx.toks=[t]:=by simp only[PS.nx,h]
theorem Sm.nx{r:List Tk}{s s':PS}(h:Sm r s s')(hl:Lv r s):Sm r s.nx s'.nx:=by
 have hne:=h.ne
 refine⟨?_,Qam h.w,h.n⟩
 obtain⟨l,m,e,h1,h2,h3,h4,h5⟩:=h.ex
 cases l with
 |nil =>
  cases m with
  |cons u m=>exact h5.elim
  |nil =>
   rcases hl with hl|⟨e',rfl,he'⟩
   ·rw[h1]at hl;simp at hl
   ·exact⟨[],[],e,QpH h1,h2,h3,QpH h4,trivial⟩
 |cons t l =>
  cases m with
  |nil=>exact h5.elim
  |cons u m=>exact⟨l,m,e,QhB h1 (by simp),h2,fun x hx=>h3 x (by simp[hx]),QhB h4 (by simp[hne]),h5.2.2⟩
theorem Sm.is{r:List Tk}{s s':PS}(h:Sm r s s')(hl:Lv r s)(b:List UInt8):s'.is b=s.is b:=by
 obtain⟨h1,h2⟩:=h.tk hl
 rw[PS.is,PS.is,h1,h2]
theorem Sm.oneOf{r:List Tk}{s s':PS}(h:Sm r s s')(hl:Lv r s)(l:List (List UInt8)):s'.oneOf l=s.oneOf l:=by
 have:s'.is=s.is:=funext fun b=>h.is hl b
 rw[PS.oneOf,PS.oneOf,this]
def PS.far(s:PS):Prop:=s.nx.tk.kind≠3\/s.nx.tk.pos≠s.tk.pos+1
theorem Sm.far{r:List Tk}{s s':PS}(h:Sm r s s')(hk:s.tk.kind=4/\s.tk.text.toList=QcT):(s.far/\(Ends r->s'.far))\/(s.far↔s'.far):=by
 have hne:=h.ne
 obtain⟨l,m,e,h1,h2,h3,h4,h5⟩:=h.ex
 cases l with
 |nil =>
  have a1:s.tk=e:=by simp only[PS.tk,h1,Qt6,Qvm]
  rw[a1,h2.1]at hk;cases hk.1
 |cons t l =>
  cases m with
  |nil=>exact h5.elim
  |cons u m =>
   have a1:s.tk=t:=by simp only[PS.tk,h1,Qt7,Qvm]
   have a2:s'.tk=u:=by simp only[PS.tk,h4,Qt7,Qvm]
   have b1:s.nx.toks=l++[e]:=QhB h1 (by simp)
   have b2:s'.nx.toks=m++r:=QhB h4 (by simp[hne])
   cases l with
   |nil =>
    cases m with
    |cons=>exact h5.2.2.elim
    |nil =>
     have c1:s.nx.tk=e:=by simp only[PS.tk,b1,Qt6,Qvm]
     refine .inl ⟨.inl (by rw[c1,h2.1];decide),fun⟨e',he,h6,_⟩=>.inl ?_⟩
     have c2:s'.nx.tk=e':=by simp only[PS.tk,b2,he,Qt6,Qvm]
     rw[c2,h6];decide
   |cons t2 l =>
    cases m with
    |nil=>exact h5.2.2.elim
    |cons u2 m =>
     have c1:s.nx.tk=t2:=by simp only[PS.tk,b1,Qt7,Qvm]
     have c2:s'.nx.tk=u2:=by simp only[PS.tk,b2,Qt7,Qvm]
     refine .inr ?_
     rw[PS.far,PS.far,a1,a2,c1,c2,<-h5.2.2.1.1]
     rw[a1]at hk
     by_cases k3:t2.kind=3
     ·have:=h5.2.1 t2 u2 rfl rfl k3 hk
      simp only[k3,ne_eq,not_true_eq_false,false_or,this]
     ·simp[k3]
def RelQ{α:Type}(r:List Tk)(x y:PR α):Prop:=match x with
 | .ok a s2=>∃s2',y = .ok a s2'/\Sm r s2 s2'
 | .err _ e=>Ends r->∃p,y = .err p e
theorem RelQ.p{α:Type}{r:List Tk}{x y:PR α}(h:RelQ r x y):RelP r x y:=by
 cases x with
 |ok a s2=>exact fun _=>h
 |err p e=>exact h
theorem Eat.z{α:Type}{f:PS->PR α}(h:Eat 1 f):Eat 0 f:=h.less (QuG 1)
def Qqn(name:ByteArray)(first:List G)(s:PS):PR Rl:=if s.is QbD then QaI name [] first s.nx else if s.is Qgm then QaI name first [] s.nx else
  if s.is Qgk then(ZO first.length s.nx).bind fun rem s=>(YM QbD s).bind fun _ s=>QaI name first rem s else .err s.tk.pos 16
def QoW(name:ByteArray)(s:PS):PR Rl:=(ZO 0 s).bind fun first s=>Qqn name first s
theorem QiP(s:PS):QaH s=if s.tk.kind=1/\s.nx.is sAt=true then(QaC s).bind fun x s=>QoW x s.nx else QoW eB s:=rfl
theorem Sm.names{r:List Tk}{s s':PS}(h:Sm r s s')(l:List ByteArray):Sm r ⟨s.toks,l⟩ ⟨s'.toks,l⟩:=⟨h.ex,h.w,rfl⟩
theorem QoC{m:List Tk}(h:lSim [] m):m=[]:=by
 cases m with
 |nil=>rfl
 |cons=>exact h.elim
theorem Sm.all{r:List Tk}{s s':PS}(h:Sm r s s')(h1:s.toks.length<=1):s'.toks=r/\s.tk.kind=0:=by
 obtain⟨l,m,e,a1,a2,a3,a4,a5⟩:=h.ex
 cases l with
 |nil =>
  have:=QoC a5
  subst this
  exact⟨a4,by simp only[PS.tk,a1,Qt6,Qvm];exact a2.1⟩
 |cons t l=>rw[a1]at h1;simp at h1
theorem Sm.end{r:List Tk}{s s':PS}(h:Sm r s s')(h1:s.tk.kind=0):s.toks.length<=1:=by
 obtain⟨l,m,e,a1,a2,a3,a4,a5⟩:=h.ex
 cases l with
 |nil=>rw[a1];simp
 |cons t l =>
  have:s.tk=t:=by simp only[PS.tk,a1,Qt7,Qvm]
  rw[this]at h1
  exact absurd h1 (a3 t (by simp))
def noSym(d:UInt8):Bool:=Yn.all fun x=>!x.contains d
structure Stop (d:UInt8):Prop where
 w:isW d=false
 g:isD d=false
 s:noSym d=true
theorem Qh0{l x:List UInt8}{k:Int}(h:Zn l = .inl (k,x)):(k=0/\l=[]/\x=[])\/(k≠0/\x≠[]/\∃r,l=x++r):=by
 cases l with
 |nil =>
  rw[Zn]at h
  cases h
  exact .inl ⟨rfl,rfl,rfl⟩
 |cons c r =>
  have tw:∀(p:UInt8->Bool),p c=true->(c::r).takeWhile p≠[]/\∃s,c::r=(c::r).takeWhile p++s:=fun p hp =>
   ⟨by rw[QvR,QuH hp];simp,(c::r).dropWhile p,(List.takeWhile_append_dropWhile).symm⟩
  refine .inr ?_
  rw[Zn]at h
  split at h
  ·rename_i hL
   split at h
   ·cases h
   ·have e:=Sum.inl.inj h
    have e1:=(QwF e).1
    have e2:=(QwF e).2
    obtain⟨a1,a2⟩:=tw isW (by simp[isW,hL])
    refine⟨?_,by rw[<-e2];exact a1,by rw[<-e2];exact a2⟩
    rw[<-e1];split <;> decide
  split at h
  ·rename_i hD
   split at h
   ·cases h
   ·have e:=Sum.inl.inj h
    have e1:=(QwF e).1
    have e2:=(QwF e).2
    obtain⟨a1,a2⟩:=tw isD hD
    exact⟨by rw[<-e1];decide,by rw[<-e2];exact a1,by rw[<-e2];exact a2⟩
  ·split at h
   ·rename_i y hy
    have e:=Sum.inl.inj h
    have e1:=(QwF e).1
    have e2:=(QwF e).2
    subst e2
    obtain⟨a1,a2,a3⟩:=QfV hy
    refine⟨by rw[<-e1];decide,by intro q;rw[q]at a1;simp at a1,?_⟩
    obtain⟨s,hs⟩:=List.isPrefixOf_iff_prefix.1 a3
    exact⟨s,hs.symm⟩
   ·cases h
def QkF(l:List UInt8):Pg ⊕ (Int×Int):=match Zx l with
 | .inr e=>.inr e
 | .inl ts=>match QjN ⟨ts,[]⟩with
  | .ok p _=>.inl p
  | .err p e=>.inr (p,e)
def near(t u:Tk):Prop:=t.text.toList=QcT/\u.kind=3/\u.pos=t.pos+1
instance (t u:Tk):Decidable (near t u):=inferInstanceAs (Decidable (_/\_/\_))
def seps:List (List UInt8):=[[32],[9,10],[13,32],[32,35,120,10],[32,32]]
inductive Spr:Option Tk->List Tk->List UInt8->Prop where
 |nil (p:Option Tk):Spr p [] []
 |first (t:Tk) (l:List Tk) (w:List UInt8):Spr (some t) l w->Spr none (t::l) (t.text.toList++w)
 |near (p t:Tk) (l:List Tk) (w:List UInt8):near p t->Spr (some t) l w->Spr (some p) (t::l) (t.text.toList++w)
 |far (p t:Tk) (l:List Tk) (d w:List UInt8):¬near p t->d∈seps->Spr (some t) l w->Spr (some p) (t::l) (d++(t.text.toList++w))
end Go.Proofs.YticgcpebdldbgaaGreatDoor.Ab
set_option linter.unusedSectionVars false
namespace Go.Proofs.YticgcpebdldbgaaGreatDoor.Ab
open Go.Proofs
def In(n:Int)(p:Int):Prop:=0<=p/\p<=n
def PS.inn(n:Int)(s:PS):Prop:=∀t∈s.toks,In n t.pos
def PsOk{α:Type}(n:Int)(x:PR α):Prop:=match x with
 | .ok _ s2=>s2.inn n
 | .err p _=>In n p
def Ps{α:Type}(n:Int)(f:PS->PR α):Prop:=∀s,s.inn n->PsOk n (f s)
theorem Qbw{n:Int}{s:PS}(h:s.inn n):s.nx.inn n:=by
 unfold PS.nx
 split
 ·rename_i t u r e
  intro x hx
  exact h x (by rw[e];exact Qwr _ hx)
 ·exact h
theorem Qei{n:Int}(hn:0<=n){s:PS}(h:s.inn n):In n s.tk.pos:=by
 unfold PS.tk
 cases e:s.toks with
 |nil=>exact⟨Int.le_refl _,hn⟩
 |cons t l=>exact h t (by rw[e];simp)
theorem Y0{α:Type}{n:Int}(f:PS->α):Ps n fun s=>.ok (f s) s:=fun s h=>h
theorem YR{α:Type}{n:Int}(hn:0<=n)(e:Int):Ps n fun s=>(.err s.tk.pos e:PR α):=fun s h=>Qei hn h
theorem QbU{α β:Type}{n:Int}{F:PS->PR α}{f:PS->α->PS->PR β}(hF:Ps n F)(hf:∀s0,s0.inn n->∀a,Ps n (f s0 a)):Ps n fun s=>(F s).bind (f s):=fun s h=>by
 have h1:=hF s h
 show PsOk n ((F s).bind (f s))
 cases e:F s with
 |ok a s2=>rw[e]at h1;exact hf s h a s2 h1
 |err p c=>rw[e]at h1;exact h1
theorem Xx{α β:Type}{n:Int}{F:PS->PR α}{f:PS->α->PS->PR β}(hF:Ps n F)(hf:∀s0 a,Ps n (f s0 a)):Ps n fun s=>(F s).bind (f s):=QbU hF fun s0 _=>hf s0
theorem QfK{α:Type}{n p:Int}(h:In n p)(e:Int):Ps n fun _=>(.err p e:PR α):=fun _ _=>h
theorem XP{α:Type}{n:Int}{c:PS->Prop}[∀s,Decidable (c s)]{f g:PS->PR α}(hf:Ps n f)(hg:Ps n g):Ps n fun s=>if c s then f s else g s:=fun s h=>by
 show PsOk n (if c s then f s else g s)
 split
 ·exact hf s h
 ·exact hg s h
theorem Zv{α:Type}{n:Int}{f:PS->PR α}(hf:Ps n f):Ps n fun s=>f s.nx:=fun s h=>hf s.nx (Qbw h)
theorem Qag{α:Type}{n:Int}{f:PS->PS->PR α}(hf:∀s0,Ps n (f s0)):Ps n fun s=>f s s:=fun s h=>hf s s h
variable{n:Int}(hn:0<=n)
include hn
theorem want_ps(b:List UInt8):Ps n (YM b):=XP (c:=fun s=>s.is b=true) (Zv (Y0 fun _=>())) (YR hn 16)
theorem name_ps:Ps n QaC:=XP (c:=fun s=>s.tk.kind≠1) (YR hn 16) (XP (c:=fun s=>resB s.tk.text=true) (YR hn 7) fun s h=>Qbw h)
theorem QeX{ex:PS->PR T}(H:Ps n ex):∀(m:Nat) (l:List T),Ps n (Z1 ex m l)
 |0,_=>YR hn 16
 |m+1,l=>Xx H fun _ t=>XP (c:=fun s=>s.is Zt=true) (Zv (QeX H m _)) (Xx (want_ps hn _) fun _ _=>Y0 _)
theorem atom_ps{ex:PS->PR T}(H:Ps n ex):Ps n (ZU ex):=Xx (name_ps hn) fun _ x=>XP (c:=fun s=>s.is sLp=true) (Qag (f:=fun s0 s=>(Z1 ex s0.toks.length [] s.nx).bind fun l s=>.ok (⟨0,x,l⟩:G) s) fun s0=>Xx (Zv (QeX hn H _ _)) fun _ _=>Y0 fun _=>_) (Y0 _)
theorem opT_ps{ex:PS->PR T}(H:Ps n ex):Ps n (pOpT ex) :=
 XP (c:=fun s=>s.tk.kind=3) (fun s h=>Qbw h) (XP (c:=fun s=>s.tk.kind=2) (fun s h=>by
  show(pVari s.tk.text s.nx).2.inn n
  intro t ht
  rw[QdE]at ht
  exact Qbw h t ht) (XP (c:=fun s=>s.tk.kind=1) (Xx (atom_ps hn H) fun _ _=>Y0 _)
  (XP (c:=fun s=>s.is QcT=true) (XP (c:=fun s=>s.nx.tk.kind≠3\/s.nx.tk.pos≠s.tk.pos+1) (fun s h=>Qei hn (Qbw h)) fun s h=>Qbw (Qbw h))
  (XP (c:=fun s=>s.is sLp=true) (Xx (Zv H) fun _ t=>Xx (want_ps hn _) fun _ _=>Y0 _) (YR hn 16)))))
theorem Qcd{op:PS->PR T}(H:Ps n op)(ops:List (List UInt8)):∀(m:Nat) (t:T),Ps n (YA op ops m t)
 |0,t=>Y0 fun _=>t
 |m+1,t=>XP (c:=fun s=>s.oneOf ops=true) (Xx (f:=fun s u s2=>YA op ops m (.mk 2 0 s.tk.text [t,u]) s2) (Zv H) fun _ _=>Qcd H ops m _) (Y0 fun _=>t)
theorem chain_ps{op:PS->PR T}(H:Ps n op)(ops:List (List UInt8)):Ps n (YV op ops):=Xx H fun _ t=>Qag (f:=fun s0 s=>YA op ops s0.toks.length t s) fun s0=>Qcd hn H ops _ t
theorem exprT_ps:∀m,Ps n (Zf m)
 |0=>YR hn 16
 |m+1=>chain_ps hn (chain_ps hn (opT_ps hn (exprT_ps m)) YJ) ZY
theorem termT_ps:Ps n YP:=Qag (f:=fun s0 s=>Zf (s0.toks.length+1) s) fun s0=>exprT_ps hn _
theorem QfD(op:Int):Ps n (Qb6 op):=Xx (want_ps hn _) fun _ _=>Xx (termT_ps hn) fun _ _=>Xx (want_ps hn _) fun _ _=>Y0 _
theorem goalT_ps:Ps n QaD:=XP (c:=fun s=>s.tk.kind=1/\resB s.tk.text=true)
 (XP (c:=fun s=>s.tk.text.toList=[116,114,117,101]) (Zv (Y0 fun _=>_)) (XP (c:=fun s=>s.tk.text.toList=[102,97,105,108]) (Zv (Y0 fun _=>_))
  (XP (c:=fun s=>s.tk.text.toList=[105,110,116]) (Zv (QfD hn _)) (XP (c:=fun s=>s.tk.text.toList=[103,114,111,117,110,100]) (Zv (QfD hn _)) (YR hn 7)))))
 (Xx (termT_ps hn) fun s t s2 h=>by
  cases hc:QaP s2 with
  |some x =>
   obtain⟨op,turn⟩:=x
   simp only
   exact(Xx (f:=fun _ u s3=>.ok (⟨op,eB,if turn then[u,t]else[t,u]⟩:G) s3) (Zv (termT_ps hn)) fun _ _=>Y0 fun _=>_) s2 h
  |none =>
   simp only
   by_cases hc:s.tk.kind=1/\t.name.toList=s.tk.text.toList
   ·rw[QuH hc];exact h
   ·rw[QuE hc];exact Qei hn h)
theorem Qci(most:Nat):∀(m:Nat) (l:List G),Ps n (Zg most m l)
 |0,_=>YR hn 16
 |m+1,l=>XP (c:=fun _=>most<=l.length) (YR hn 6) (QbU (goalT_ps hn) fun s0 h0 g=>XP (c:=fun _=>XI g=false) (QfK (Qei hn h0) 6) (XP (c:=fun s=>s.is Zt=true) (Zv (Qci most m _)) (Y0 _)))
theorem goals_ps(most:Nat):Ps n (Y8 most):=Qag (f:=fun s0 s=>Zg most (s0.toks.length+1) [] s) fun s0=>Qci hn most _ _
theorem Qck(pre:Nat):∀(m:Nat) (l:List G),Ps n (Qab pre m l)
 |0,_=>YR hn 16
 |m+1,l=>XP (c:=fun _=>4<=pre+l.length) (YR hn 6) (QbU (atom_ps hn (termT_ps hn)) fun s0 h0 g=>XP (c:=fun _=>Ye g=false) (QfK (Qei hn h0) 6) (XP (c:=fun s=>s.is Zt=true) (Zv (Qck pre m _)) (Y0 _)))
theorem heads_ps(pre:Nat):Ps n (ZO pre):=Qag (f:=fun s0 s=>Qab pre (s0.toks.length+1) [] s) fun s0=>Qck hn pre _ _
theorem Qc6(name:ByteArray)(keep remove:List G):Ps n (QaI name keep remove) :=
 Xx (goals_ps hn 12) fun _ b=>XP (c:=fun s=>s.is sBar=true) (Xx (Zv (goals_ps hn 12)) fun _ b2=>Xx (want_ps hn _) fun _ _=>Y0 _) (Xx (want_ps hn _) fun _ _=>Y0 _)
theorem QjW(name:ByteArray)(first:List G):Ps n (Qqn name first) :=
 XP (c:=fun s=>s.is QbD=true) (Zv (Qc6 hn _ _ _)) (XP (c:=fun s=>s.is Qgm=true) (Zv (Qc6 hn _ _ _)) (XP (c:=fun s=>s.is Qgk=true) (Xx (Zv (heads_ps hn _)) fun _ _=>Xx (want_ps hn _) fun _ _=>Qc6 hn _ _ _) (YR hn 16)))
theorem Qe1(name:ByteArray):Ps n (QoW name):=Xx (heads_ps hn 0) fun _ f=>QjW hn name f
theorem QhE:Ps n QaH:=fun s h=>by
 rw[QiP]
 exact(XP (c:=fun s=>s.tk.kind=1/\s.nx.is sAt=true) (Xx (name_ps hn) fun _ x=>Zv (Qe1 hn x)) (Qe1 hn eB)) s h
theorem rule_ps:Ps n QbA:=fun s h=>(Xx (F:=fun s=>QaH ⟨s.toks,[]⟩) (f:=fun _ r s=>.ok r.numd s) (fun s h=>QhE hn ⟨s.toks,[]⟩ h) fun _ _=>Y0 fun _=>_) s h
theorem Qdf:∀(m:Nat) (l:List Dc),Ps n (Qb5 m l)
 |0,_=>YR hn 16
 |m+1,l=>XP (c:=fun _=>30<=l.length) (YR hn 6) (Xx (name_ps hn) fun _ x=>Xx (want_ps hn _) fun _ _ =>
   XP (c:=fun s=>s.tk.kind≠3) (YR hn 16) (XP (c:=fun s=>valT s.tk.text>6) (YR hn 6)
   (XP (c:=fun s=>s.nx.is Zt=true) (Qag (f:=fun s0 s=>Qb5 m (l++[⟨x,valT s0.tk.text⟩]) s.nx.nx) fun s0=>Zv (Zv (Qdf m _)))
    (Qag (f:=fun s0 s=>(YM sDot s.nx).bind fun _ s2=>.ok (l++[⟨x,valT s0.tk.text⟩]) s2) fun s0=>Xx (Zv (want_ps hn _)) fun _ _=>Y0 fun _=>_))))
theorem decls_ps:∀(m:Nat) (l:List Dc),Ps n (Qa0 m l)
 |0,l=>Y0 fun _=>l
 |m+1,l=>XP (c:=fun s=>s.tk.kind=1/\s.tk.text.toList=Qol) (Qag (f:=fun s0 s=>(Qb5 (s0.toks.length+1) l s.nx).bind fun l s=>Qa0 m l s) fun s0=>Xx (Zv (Qdf hn _ l)) fun _ d=>decls_ps m d) (Y0 fun _=>l)
theorem Qdu:∀(m:Nat) (l:List Rl),Ps n (QbB m l)
 |0,l=>Y0 fun _=>l
 |m+1,l=>XP (c:=fun s=>s.tk.kind=0) (Y0 fun _=>l) (XP (c:=fun _=>40<=l.length) (YR hn 6) (Xx (rule_ps hn) fun _ r=>Qdu m _))
theorem prog_ps:Ps n QjN:=Xx (F:=fun s=>Qa0 (s.toks.length+1) [] s) (Qag (f:=fun s0 s=>Qa0 (s0.toks.length+1) [] s) fun s0=>decls_ps hn _ _) fun _ d =>
 Xx (F:=fun s=>QbB (s.toks.length+1) [] s) (Qag (f:=fun s0 s=>QbB (s0.toks.length+1) [] s) fun s0=>Qdu hn _ _) fun _ r=>Y0 fun _=>_
end Go.Proofs.YticgcpebdldbgaaGreatDoor.Ab
set_option linter.unusedSectionVars false
namespace Go.Proofs.YticgcpebdldbgaaGreatDoor.Ab
open Go.Proofs
structure Wd where
 W:PS->Prop
 nx:∀s,W s->W s.nx
 vr:∀s,W s->s.tk.kind=2->W (pVari s.tk.text s.nx).2
 cl:∀s,W s->W ⟨s.toks,[]⟩
namespace Kp
def In(n:Wd)(p:Int):Prop:=True
def inn(n:Wd)(s:PS):Prop:=n.W s
def PsOk{α:Type}(n:Wd)(x:PR α):Prop:=match x with
 | .ok _ s2=>n.W s2
 | .err _ e=>e≠0
def Ps{α:Type}(n:Wd)(f:PS->PR α):Prop:=∀s,n.W s->PsOk n (f s)
theorem Ps.ok{α:Type}{n:Wd}{f:PS->PR α}(H:Ps n f){s:PS}(h:n.W s){a:α}{s2:PS}(e:f s = .ok a s2):n.W s2:=by
 have:=H s h
 rw[e]at this
 exact this
theorem Ps.err{α:Type}{n:Wd}{f:PS->PR α}(H:Ps n f){s:PS}(h:n.W s){p c:Int}(e:f s = .err p c):c≠0:=by
 have:=H s h
 rw[e]at this
 exact this
theorem Qbw{n:Wd}{s:PS}(h:n.W s):n.W s.nx:=n.nx s h
theorem Qei{n:Wd}(hn:True){s:PS}(h:n.W s):In n s.tk.pos:=trivial
theorem Y0{α:Type}{n:Wd}(f:PS->α):Ps n fun s=>.ok (f s) s:=fun s h=>h
theorem YR{α:Type}{n:Wd}(hn:True)(e:Int)(he:e≠0:=by decide):Ps n fun s=>(.err s.tk.pos e:PR α):=fun s h=>he
theorem QbU{α β:Type}{n:Wd}{F:PS->PR α}{f:PS->α->PS->PR β}(hF:Ps n F)(hf:∀s0,n.W s0->∀a,Ps n (f s0 a)):Ps n fun s=>(F s).bind (f s):=fun s h=>by
 have h1:=hF s h
 show PsOk n ((F s).bind (f s))
 cases e:F s with
 |ok a s2=>rw[e]at h1;exact hf s h a s2 h1
 |err p c=>rw[e]at h1;exact h1
theorem Xx{α β:Type}{n:Wd}{F:PS->PR α}{f:PS->α->PS->PR β}(hF:Ps n F)(hf:∀s0 a,Ps n (f s0 a)):Ps n fun s=>(F s).bind (f s):=QbU hF fun s0 _=>hf s0
theorem QfK{α:Type}{n:Wd}{p:Int}(h:In n p)(e:Int)(he:e≠0:=by decide):Ps n fun _=>(.err p e:PR α):=fun _ _=>he
theorem XP{α:Type}{n:Wd}{c:PS->Prop}[∀s,Decidable (c s)]{f g:PS->PR α}(hf:Ps n f)(hg:Ps n g):Ps n fun s=>if c s then f s else g s:=fun s h=>by
 show PsOk n (if c s then f s else g s)
 split
 ·exact hf s h
 ·exact hg s h
theorem Zv{α:Type}{n:Wd}{f:PS->PR α}(hf:Ps n f):Ps n fun s=>f s.nx:=fun s h=>hf s.nx (Qbw h)
theorem Qag{α:Type}{n:Wd}{f:PS->PS->PR α}(hf:∀s0,Ps n (f s0)):Ps n fun s=>f s s:=fun s h=>hf s s h
variable{n:Wd}(hn:True)
include hn
theorem want_ps(b:List UInt8):Ps n (YM b):=XP (c:=fun s=>s.is b=true) (Zv (Y0 fun _=>())) (YR hn 16)
theorem name_ps:Ps n QaC:=XP (c:=fun s=>s.tk.kind≠1) (YR hn 16) (XP (c:=fun s=>resB s.tk.text=true) (YR hn 7) fun s h=>Qbw h)
theorem QeX{ex:PS->PR T}(H:Ps n ex):∀(m:Nat) (l:List T),Ps n (Z1 ex m l)
 |0,_=>YR hn 16
 |m+1,l=>Xx H fun _ t=>XP (c:=fun s=>s.is Zt=true) (Zv (QeX H m _)) (Xx (want_ps hn _) fun _ _=>Y0 _)
theorem atom_ps{ex:PS->PR T}(H:Ps n ex):Ps n (ZU ex):=Xx (name_ps hn) fun _ x=>XP (c:=fun s=>s.is sLp=true) (Qag (f:=fun s0 s=>(Z1 ex s0.toks.length [] s.nx).bind fun l s=>.ok (⟨0,x,l⟩:G) s) fun s0=>Xx (Zv (QeX hn H _ _)) fun _ _=>Y0 fun _=>_) (Y0 _)
theorem Qrg:Ps n fun s=>if s.nx.tk.kind≠3\/s.nx.tk.pos≠s.tk.pos+1 then(.err s.nx.tk.pos 16:PR T)else .ok (.mk 0 (-valT s.nx.tk.text) eB []) s.nx.nx:=fun s h=>by
 have _u:=hn
 show PsOk n (if s.nx.tk.kind≠3\/s.nx.tk.pos≠s.tk.pos+1 then _ else _)
 split
 ·show(16:Int)≠0;decide
 ·exact Qbw (Qbw h)
theorem opT_ps{ex:PS->PR T}(H:Ps n ex):Ps n (pOpT ex) :=
 XP (c:=fun s=>s.tk.kind=3) (fun s h=>Qbw h) (fun s h=>by
  show PsOk n (if s.tk.kind=2 then _ else _)
  by_cases hk:s.tk.kind=2
  ·rw[if_pos hk];exact n.vr s h hk
  ·rw[if_neg hk]
   by_cases h1:s.tk.kind=1
   ·rw[if_pos h1]
    exact(Xx (F:=ZU ex) (f:=fun _ a s=>(.ok (.mk 2 0 a.name a.args) s:PR T)) (atom_ps hn H) fun _ _=>Y0 fun _=>_) s h
   ·rw[if_neg h1]
    by_cases h2:s.is QcT=true
    ·rw[if_pos h2];exact Qrg hn s h
    ·rw[if_neg h2]
     by_cases h3:s.is sLp=true
     ·rw[if_pos h3]
      exact(Xx (F:=fun s=>ex s.nx) (f:=fun _ t s=>(YM sRp s).bind fun _ s=>(.ok t s:PR T)) (Zv H) fun _ t=>Xx (F:=YM sRp) (f:=fun _ _ s=>(.ok t s:PR T)) (want_ps hn _) fun _ _=>Y0 fun _=>t) s h
     ·rw[if_neg h3];show(16:Int)≠0;decide)
theorem Qcd{op:PS->PR T}(H:Ps n op)(ops:List (List UInt8)):∀(m:Nat) (t:T),Ps n (YA op ops m t)
 |0,t=>Y0 fun _=>t
 |m+1,t=>XP (c:=fun s=>s.oneOf ops=true) (Xx (f:=fun s u s2=>YA op ops m (.mk 2 0 s.tk.text [t,u]) s2) (Zv H) fun _ _=>Qcd H ops m _) (Y0 fun _=>t)
theorem chain_ps{op:PS->PR T}(H:Ps n op)(ops:List (List UInt8)):Ps n (YV op ops):=Xx H fun _ t=>Qag (f:=fun s0 s=>YA op ops s0.toks.length t s) fun s0=>Qcd hn H ops _ t
theorem exprT_ps:∀m,Ps n (Zf m)
 |0=>YR hn 16
 |m+1=>chain_ps hn (chain_ps hn (opT_ps hn (exprT_ps m)) YJ) ZY
theorem termT_ps:Ps n YP:=Qag (f:=fun s0 s=>Zf (s0.toks.length+1) s) fun s0=>exprT_ps hn _
theorem QfD(op:Int):Ps n (Qb6 op):=Xx (want_ps hn _) fun _ _=>Xx (termT_ps hn) fun _ _=>Xx (want_ps hn _) fun _ _=>Y0 _
theorem goalT_ps:Ps n QaD:=XP (c:=fun s=>s.tk.kind=1/\resB s.tk.text=true)
 (XP (c:=fun s=>s.tk.text.toList=[116,114,117,101]) (Zv (Y0 fun _=>_)) (XP (c:=fun s=>s.tk.text.toList=[102,97,105,108]) (Zv (Y0 fun _=>_))
  (XP (c:=fun s=>s.tk.text.toList=[105,110,116]) (Zv (QfD hn _)) (XP (c:=fun s=>s.tk.text.toList=[103,114,111,117,110,100]) (Zv (QfD hn _)) (YR hn 7)))))
 (Xx (termT_ps hn) fun s t s2 h=>by
  cases hc:QaP s2 with
  |some x =>
   obtain⟨op,turn⟩:=x
   simp only
   exact(Xx (f:=fun _ u s3=>.ok (⟨op,eB,if turn then[u,t]else[t,u]⟩:G) s3) (Zv (termT_ps hn)) fun _ _=>Y0 fun _=>_) s2 h
  |none =>
   simp only
   by_cases hc:s.tk.kind=1/\t.name.toList=s.tk.text.toList
   ·rw[if_pos hc];exact h
   ·rw[if_neg hc];exact(by decide:(16:Int)≠0))
theorem Qci(most:Nat):∀(m:Nat) (l:List G),Ps n (Zg most m l)
 |0,_=>YR hn 16
 |m+1,l=>XP (c:=fun _=>most<=l.length) (YR hn 6) (QbU (goalT_ps hn) fun s0 h0 g=>XP (c:=fun _=>XI g=false) (QfK (Qei hn h0) 6) (XP (c:=fun s=>s.is Zt=true) (Zv (Qci most m _)) (Y0 _)))
theorem goals_ps(most:Nat):Ps n (Y8 most):=Qag (f:=fun s0 s=>Zg most (s0.toks.length+1) [] s) fun s0=>Qci hn most _ _
theorem Qck(pre:Nat):∀(m:Nat) (l:List G),Ps n (Qab pre m l)
 |0,_=>YR hn 16
 |m+1,l=>XP (c:=fun _=>4<=pre+l.length) (YR hn 6) (QbU (atom_ps hn (termT_ps hn)) fun s0 h0 g=>XP (c:=fun _=>Ye g=false) (QfK (Qei hn h0) 6) (XP (c:=fun s=>s.is Zt=true) (Zv (Qck pre m _)) (Y0 _)))
theorem heads_ps(pre:Nat):Ps n (ZO pre):=Qag (f:=fun s0 s=>Qab pre (s0.toks.length+1) [] s) fun s0=>Qck hn pre _ _
theorem Qc6(name:ByteArray)(keep remove:List G):Ps n (QaI name keep remove) :=
 Xx (goals_ps hn 12) fun _ b=>XP (c:=fun s=>s.is sBar=true) (Xx (Zv (goals_ps hn 12)) fun _ b2=>Xx (want_ps hn _) fun _ _=>Y0 _) (Xx (want_ps hn _) fun _ _=>Y0 _)
theorem QjW(name:ByteArray)(first:List G):Ps n (Qqn name first) :=
 XP (c:=fun s=>s.is QbD=true) (Zv (Qc6 hn _ _ _)) (XP (c:=fun s=>s.is Qgm=true) (Zv (Qc6 hn _ _ _)) (XP (c:=fun s=>s.is Qgk=true) (Xx (Zv (heads_ps hn _)) fun _ _=>Xx (want_ps hn _) fun _ _=>Qc6 hn _ _ _) (YR hn 16)))
theorem Qe1(name:ByteArray):Ps n (QoW name):=Xx (heads_ps hn 0) fun _ f=>QjW hn name f
theorem QhE:Ps n QaH:=fun s h=>by
 rw[QiP]
 exact(XP (c:=fun s=>s.tk.kind=1/\s.nx.is sAt=true) (Xx (name_ps hn) fun _ x=>Zv (Qe1 hn x)) (Qe1 hn eB)) s h
theorem rule_ps:Ps n QbA:=fun s h=>(Xx (F:=fun s=>QaH ⟨s.toks,[]⟩) (f:=fun _ r s=>.ok r.numd s) (fun s h=>QhE hn ⟨s.toks,[]⟩ (n.cl s h)) fun _ _=>Y0 fun _=>_) s h
theorem Qdf:∀(m:Nat) (l:List Dc),Ps n (Qb5 m l)
 |0,_=>YR hn 16
 |m+1,l=>XP (c:=fun _=>30<=l.length) (YR hn 6) (Xx (name_ps hn) fun _ x=>Xx (want_ps hn _) fun _ _ =>
   XP (c:=fun s=>s.tk.kind≠3) (YR hn 16) (XP (c:=fun s=>valT s.tk.text>6) (YR hn 6)
   (XP (c:=fun s=>s.nx.is Zt=true) (Qag (f:=fun s0 s=>Qb5 m (l++[⟨x,valT s0.tk.text⟩]) s.nx.nx) fun s0=>Zv (Zv (Qdf m _)))
    (Qag (f:=fun s0 s=>(YM sDot s.nx).bind fun _ s2=>.ok (l++[⟨x,valT s0.tk.text⟩]) s2) fun s0=>Xx (Zv (want_ps hn _)) fun _ _=>Y0 fun _=>_))))
theorem decls_ps:∀(m:Nat) (l:List Dc),Ps n (Qa0 m l)
 |0,l=>Y0 fun _=>l
 |m+1,l=>XP (c:=fun s=>s.tk.kind=1/\s.tk.text.toList=Qol) (Qag (f:=fun s0 s=>(Qb5 (s0.toks.length+1) l s.nx).bind fun l s=>Qa0 m l s) fun s0=>Xx (Zv (Qdf hn _ l)) fun _ d=>decls_ps m d) (Y0 fun _=>l)
theorem Qdu:∀(m:Nat) (l:List Rl),Ps n (QbB m l)
 |0,l=>Y0 fun _=>l
 |m+1,l=>XP (c:=fun s=>s.tk.kind=0) (Y0 fun _=>l) (XP (c:=fun _=>40<=l.length) (YR hn 6) (Xx (rule_ps hn) fun _ r=>Qdu m _))
theorem prog_ps:Ps n QjN:=Xx (F:=fun s=>Qa0 (s.toks.length+1) [] s) (Qag (f:=fun s0 s=>Qa0 (s0.toks.length+1) [] s) fun s0=>decls_ps hn _ _) fun _ d =>
 Xx (F:=fun s=>QbB (s.toks.length+1) [] s) (Qag (f:=fun s0 s=>QbB (s0.toks.length+1) [] s) fun s0=>Qdu hn _ _) fun _ r=>Y0 fun _=>_
theorem QqS:Ps n pEnd:=XP (c:=fun s=>s.tk.kind=0) (Y0 fun _=>()) (YR hn 16)
theorem query_ps:Ps n Qeo:=Xx (goals_ps hn 40) fun _ l=>Xx (QqS hn) fun _ _=>Y0 fun _=>_
end Kp
theorem QpR(s:PS):s.nx.toks <:+ s.toks:=by
 unfold PS.nx
 split
 ·rename_i t u r e;rw[e];exact List.suffix_cons _ _
 ·exact List.suffix_refl _
theorem Ql8(x:ByteArray)(s:PS):(pVari x s).2.names.length<=s.names.length+1:=by
 unfold pVari
 split
 ·exact Nat.le_succ _
 ·simp
theorem Qn7{s s':PS}(e:s.toks=s'.toks)(h:s.wf):s'.wf:=by
 obtain⟨l,x,h1,h2,h3⟩:=h
 exact⟨l,x,e▸h1,h2,h3⟩
structure Wst (all:List Tk) (s:PS):Prop where
 wf:s.wf
 suf:s.toks <:+ all
 nms:s.names.length+s.toks.length<=all.length
theorem Wst.nx{all:List Tk}{s:PS}(h:Wst all s):Wst all s.nx :=
 ⟨Qam h.wf,(QpR s).trans h.suf,by have:=Ql9 h.wf;have:=h.nms;show s.names.length+_<=_;omega⟩
theorem Wst.vr{all:List Tk}{s:PS}(h:Wst all s)(hk:s.tk.kind≠0):Wst all (pVari s.tk.text s.nx).2:=by
 have e:=QdE s.tk.text s.nx
 refine⟨Qn7 e.symm (Qam h.wf),by rw[e];exact(QpR s).trans h.suf,?_⟩
 have h1:=Ql8 s.tk.text s.nx
 have h2:=Yg h.wf hk
 have h3:=h.nms
 have h4:s.nx.names=s.names:=rfl
 rw[e];rw[h4]at h1;omega
def wdOf(all:List Tk):Wd:=⟨Wst all,fun s h=>h.nx,fun s h hk=>h.vr (by rw[hk];decide),fun s h=>⟨Qn7 rfl h.wf,h.suf,by have:=h.suf.length_le;simpa using this⟩⟩
end Go.Proofs.YticgcpebdldbgaaGreatDoor.Ab
namespace Go.Proofs.YticgcpebdldbgaaGreatDoor.Ab
theorem QpZ{c:Cx}(hs:St c){s:Nat}{k:AB}(hk:k = .dead\/∃e,k = .grow e s 0):Ev c (c.add c.w k none)/\St (c.add c.w k none):=by
 have hg:=Grows.refl c.w
 have ho:∀B,(none:Option Nat)=some B->c.w.heap.size<=B:=fun B h=>by cases h
 have hρ:(c.add c.w k none).ρ c.h.length=none:=by simp[Cx.add]
 refine⟨Ev.add hs hg k none ho,St.add hs hg _ _ ho ?_⟩
 rcases hk with rfl|⟨e,rfl⟩
 ·trivial
 ·exact fun B hB=>by rw[hρ]at hB;cases hB
theorem QqB{c:Cx}(hst:St c){id ty n s:Nat}{k:AB}(hk:k = .dead\/∃e,k = .grow e s 0){xs xs':List AV}{j:Nat}(hb:c.h[id]? = some (.cells ty n xs))(hj:(flat xs)[j]? = some (.v (.slice none 0 0)))
  (hf:flat xs'=(flat xs).set j (.sl s [] (some c.h.length))) (hc:∀x∈xs',x.cells.length=n) :
  ∃c2,Ev c c2/\St c2/\c2.h=(c.h++[k]).set id (AB.cells ty n xs')/\c2.w=c.w:=by
 obtain⟨hev,hst1⟩:=QpZ hst hk
 have hlt:=Qf hb
 have hb1:(c.add c.w k none).h[id]? = some (.cells ty n xs):=by
  simp only[Cx.add];rw[Qux hlt];exact hb
 obtain⟨B,cur,hρ,hcur,h3,h4⟩:=hst1.blocks id _ hb1
 have hev2:=Ev.turn (b':=.cells ty n xs') hst1 hb1 rfl hρ (w:=c.w) rfl rfl rfl rfl (fun _ _=>rfl) (.inr ⟨_,rfl,rfl,fun _ cur _ h=>⟨cur,h,rfl⟩⟩)
 have htok:((c.add c.w k none).turn c.w id (.cells ty n xs')).tokNil c.h.length s:=by
  refine⟨by simp[Cx.turn,Cx.add],fun e2 s2 n2 hg2=>?_⟩
  simp only[Cx.turn,Cx.add]at hg2
  rw[Quy (by omega),QuB (QuD _),Qu9]at hg2
  rcases hk with rfl|⟨e,rfl⟩
  ·simp at hg2
  ·simp at hg2
   exact⟨hg2.2.1.symm,fun _=>by simp[Cx.turn,Cx.add]⟩
 have hst2:=St.turn (b':=.cells ty n xs') hst1 hb1 rfl hρ (w:=c.w) (fun _ _=>rfl) hev2 ⟨B,cur,hρ,hcur,hc,by
  intro i a' hi
  rw[hf]at hi
  by_cases e:j=i
  ·subst e
   rw[QuF (Qf hj)]at hi
   cases hi
   obtain⟨u,g1,g2,g3⟩:=h4 j _ hj
   cases g3
   exact⟨_,g1,g2,.slnil _ _ fun b hb=>by cases hb;exact htok⟩
  ·rw[Quy e]at hi
   obtain⟨u,g1,g2,g3⟩:=h4 i _ hi
   exact⟨u,g1,g2,g3.ev hst1 hev2⟩⟩
 exact⟨_,Ev.trans hst hev hev2,hst2,rfl,rfl⟩
theorem YY{P:Program}{N:Nat}{code:Code}{Q:AExit->AS->Prop}{tm:Nat->AV}{h:AH}(id ty n s:Nat)(k:AB)(hk:k = .dead\/∃e,k = .grow e s 0)(xs xs':List AV)(j:Nat)(hb:h[id]? = some (.cells ty n xs))
  (hj:(flat xs)[j]? = some (.v (.slice none 0 0))) (hf:flat xs'=(flat xs).set j (.sl s [] (some h.length))) (hc:∀x∈xs',x.cells.length=n)
  (H:Yr P N code Q ⟨tm,(h++[k]).set id (AB.cells ty n xs')⟩):Yr P N code Q ⟨tm,h⟩:=by
 intro F m base c a hF hst hr R hR
 have hh:c.h=h:=hr.h
 subst hh
 obtain⟨c2,hev,hst2,hh2,hw⟩:=QqB hst hk hb hj hf hc
 rw[<-hw]
 exact H F m base c2 a hF hst2 ⟨hh2,hr.size,Qu1 hr.above hev.size,hr.defers.ev hev,RoundOk.ev hev hr.round,fun t=>(hr.tm t).ev hst hev⟩ R fun e' s' c' a' ex hq h1 h2 h3 h4=>hR e' s' c' a' ex hq (Ev.trans hst hev h1) h2 h3 h4
def ArrW(P:Program)(N:Nat)(ops:Array Oper)(o:Oper)(K:AS->Prop)(s:AS):Prop :=
 match QN ops s.tm o with
 |some true=>(match o.op with
  | .buildSlice t len ps=>(match XW P t with
   |some (e,n)=>(QF P t len (ps.toList.map fun p=>(p.1,s.ev p.2)) s.h).isSome=true/\K (AS.put N {s with h:=s.h++[.cells e n (ps.toList.map fun p=>s.ev p.2)]} o.dst (.arr s.h.length 0 len))
   |none=>False)
  |_=>False)
 |some false=>K (AS.put N s o.dst (.v undef))
 |none=>False
theorem QeF{P:Program}{N:Nat}{Q:AExit->AS->Prop}{s:AS}{id:Nat}{ops:Array Oper}(i:Nat){o:Oper}(ho:ops.toList[i]? = some o)
  (H:∀(K:AS->Prop) (E:AV->AS->Prop),(∀s,Q .normal s->K s)->(∀r s,Q (.panic r) s->E r s)->OpsW P N ops (ops.toList.take i) (ArrW P N ops o (OpsW P N ops (ops.toList.drop (i+1)) K E)) E s):Yr P N (.region id ops false) Q s:=by
 intro F n base c a hF hst hr R hR
 refine wpIn_region ?_
 have hlt:=Qf ho
 have hH:=H (fun s'=>Q .normal s') (fun r s'=>Q (.panic r) s') (fun _ h=>h) (fun _ _ h=>h)
 have hi:(ops.toList.take i).length=i:=by rw[QuY];omega
 have hrange:List.range ops.size=List.range' 0 (ops.toList.take i).length++(i::(List.range' (i+1) (ops.toList.drop (i+1)).length++[])):=by
  rw[hi,Qt8,QuX,QvW,<-Qvd]
  have:ops.toList.length=i+(1+(ops.toList.length - (i+1))):=by omega
  conv=>lhs;rw[this]
  rw[<-Qv2,QtR,<-Qv2]
  rfl
 have hget:∀j,(ops.toList.drop (i+1))[j]? = ops[i+1+j]? := fun j=>by rw[Qu7];simp
 rw[hrange]
 refine Qcs hF (ops.toList.take i) 0 s c a (fun j hj=>by rw[Qv9,QuH (by omega)];simp) hH hst hr ?_ ?_
 ·intro s1 c1 a1 h1 h2 h3 h4
  have h0:ops[i]? = some o:=by rw[<-ho];simp
  have hrest:∀s2 c2 a2,OpsW P N ops (ops.toList.drop (i+1)) (fun s'=>Q .normal s') (fun r s'=>Q (.panic r) s') s2->Ev c c2->St c2->SR N (base,F) c2 s2 a2->wpOpsIn F n P ops R (List.range' (i+1) (ops.toList.drop (i+1)).length++[]) a2 c2.w:=by
   intro s2 c2 a2 hq he2 hst2 hr2
   refine Qcs hF _ (i+1) s2 c2 a2 (fun j _=>hget j) hq hst2 hr2 ?_ ?_
   ·intro s' c' a' hQ k1 k2 k3
    simp only[wpOpsIn]
    exact hR _ s' c' a' _ hQ (Ev.trans hst he2 k1) k2 k3 rfl
   ·intro r s' c' a' x hQ k1 k2 k3 hx
    exact hR _ s' c' a' _ hQ (Ev.trans hst he2 k1) k2 k3 ⟨x,rfl,hx⟩
  simp only[wpOpsIn,h0]
  unfold ArrW at h1
  split at h1
  ·rename_i hw
   rw[XY h4 hw]
   simp only[QvB]
   split at h1
   ·rename_i t len ps hop
    split at h1
    ·rename_i e m he
     exact Qgp hop he h1.1 h1.2 hF h3 h4 fun s' c' a' hK k1 k2 k3=>hrest s' c' a' hK (Ev.trans hst h2 k1) k2 k3
    ·exact h1.elim
   ·exact h1.elim
  ·rename_i hw
   rw[XY h4 hw]
   simp only[QtJ,Qvy]
   refine⟨fun f _=>hF.fn f,?_⟩
   have hr':=h4.put h3 (Ev.refl c1) o.dst (.v undef)
   rw[h4.h]at hr'
   exact hrest _ c1 _ h1 h2 h3 hr'
  ·exact h1.elim
 ·intro r s' c' a' x hQ h1 h2 h3 hx
  exact hR _ s' c' a' _ hQ h1 h2 h3 ⟨x,rfl,hx⟩
theorem Z6{P:Program}{N:Nat}{Q:AExit->AS->Prop}{s:AS}{id:Nat}{ops:Array Oper}{y:Code}(i:Nat){o:Oper}(ho:ops.toList[i]? = some o)
  (H:∀(K:AS->Prop) (E:AV->AS->Prop),(∀s,Yr P N y Q s->K s)->(∀r s,Q (.panic r) s->E r s)->OpsW P N ops (ops.toList.take i) (ArrW P N ops o (OpsW P N ops (ops.toList.drop (i+1)) K E)) E s):Yr P N (.seq (.region id ops false) y) Q s :=
 Qav (QeF i ho (fun K E hK hE=>H K E hK hE))
theorem Ev.Qti{c c':Cx}(hev:Ev (c.cut 0) c'){B:Nat}(h:B<c.w.heap.size):c'.w.heap[B]? = c.w.heap[B]? :=
 hev.frame B h fun⟨id,b,hb,_⟩=>by simp[Cx.cut]at hb
inductive Melt (h:AH) (m:Nat):AV->AV->Prop
 |keep {a:AV} (hb:Below m a):Melt h m a a
 |nil (s:Nat):Melt h m (.v (.slice none 0 0)) (.sl s [] none)
 |agg {l l':List AV} (hl:l'.length=l.length) (hp:∀(j:Nat) a a',l[j]? = some a->l'[j]? = some a'->Melt h m a a'):Melt h m (.agg l) (.agg l')
 |sl {s:Nat} {xs ys:List AV} {own:Option Nat} (hl:ys.length=xs.length) (hs:∀y∈ys,y.cells.length=s) (hf:(flat ys).length=(flat xs).length)
   (hp:∀(j:Nat) a a',(flat xs)[j]? = some a->(flat ys)[j]? = some a'->Melt h m a a'):Melt h m (.sl s xs own) (.sl s ys none)
 |arr {id len s:Nat} {ty:TypeId} {xs ys:List AV} (hi:m<=id) (hg:h[id]? = some (.cells ty s xs)) (hl:ys.length=len) (hs:∀y∈ys,y.cells.length=s) (hf:(flat ys).length<=(flat xs).length)
   (hp:∀(j:Nat) a a',(flat xs)[j]? = some a->(flat ys)[j]? = some a'->Melt h m a a'):Melt h m (.arr id 0 len) (.sl s ys none)
theorem Melt.rel{c:Cx}(hs:St c){m:Nat}(hm:m<=c.h.length){a a':AV}(h:Melt c.h m a a'):∀{x:Value},Rel c a x->Rel (c.cut m) a' x:=by
 induction h with
 |keep hb=>exact fun hr=>hr.cut hm hb
 |nil s=>intro x hr;cases hr;exact .slnil s none fun b hb=>by cases hb
 |@agg l l' hl _ ih =>
  intro x hr
  cases hr with
  |agg _ cs hl' hr =>
   refine .agg _ cs (by omega) fun j a' u ha' hu=>?_
   obtain⟨a,ha⟩:∃a,l[j]? = some a:=⟨_,QuC (by rw[<-hl];exact Qf ha')⟩
   exact ih j a a' ha ha' (hr j a u ha hu)
 |@sl s xs ys own hl hs' hf _ ih =>
  intro x hr
  have old:∀(j:Nat) a',(flat ys)[j]? = some a'->∃a,(flat xs)[j]? = some a:=fun j a' ha=>⟨_,QuC (by rw[<-hf];exact Qf ha)⟩
  cases hr with
  |slnil _ _ ht =>
   cases ys with
   |nil=>exact .slnil s none fun b hb=>by cases hb
   |cons y ys=>simp at hl
  |slzero _ _ ba ht =>
   cases ys with
   |nil=>exact .slzero s none ba fun b hb=>by cases hb
   |cons y ys=>simp at hl
  |sl _ _ _ B o cap f hs0 hcap hmax hc hr ht =>
   rw[<-hl]at hcap ⊢
   refine .sl s ys none B o cap f hs' hcap hmax (fun j a' ha=>?_) (fun j a' ha=>?_) fun b hb=>by cases hb
   ·obtain⟨a,h1⟩:=old j a' ha
    exact⟨⟨(hc j a h1).1.1,QeN (hc j a h1).1.2⟩,(hc j a h1).2⟩
   ·obtain⟨a,h1⟩:=old j a' ha
    exact ih j a a' h1 ha (hr j a h1)
 |@arr id len s ty xs ys hi hg hl hs' hf _ ih =>
  intro x hr
  have old:∀(j:Nat) a',(flat ys)[j]? = some a'->∃a,(flat xs)[j]? = some a:=fun j a' ha=>⟨_,QuC (Qu5 (Qf ha) hf)⟩
  cases hr with
  |arr _ _ _ x hid ho h1 =>
   obtain⟨B,cap,hρ,rfl,h2,h3,_⟩:=h1 _ _ _ hg
   obtain⟨B',cur,g1,g2,g3,g4⟩:=hs.blocks id _ hg
   rw[hρ]at g1;cases g1
   subst hl
   rw[QuT]
   refine .sl s ys none B 0 cap (fun j=>cur.getD j undef) hs' h2 h3 (fun j a' ha=>?_) (fun j a' ha=>?_) fun b hb=>by cases hb
   ·obtain⟨a,h4⟩:=old j a' ha
    obtain⟨u,h5,h6,h7⟩:=g4 j a h4
    have e:cur.getD j undef=u:=by rw[QuO,h5];rfl
    show(c.cut m).cellP B (0+j) (cur.getD j undef)/\(cur.getD j undef).oneCell'=true
    rw[e]
    refine⟨⟨by show c.w.cell? _=_;rw[QtR,Ys g2];exact h5,hs.lt hg rfl hρ,fun id' b' hb' hl' hρ'=>?_⟩,h6⟩
    obtain⟨hlt,hb2⟩:=Z2 hb'
    have:=hs.inj id' id b' _ B hb2 hg hl' rfl hρ' hρ
    omega
   ·obtain⟨a,h4⟩:=old j a' ha
    obtain⟨u,h5,h6,h7⟩:=g4 j a h4
    have e:cur.getD j undef=u:=by rw[QuO,h5];rfl
    show Rel (c.cut m) a' (cur.getD j undef)
    rw[e]
    exact ih j a a' h4 ha h7
theorem Qgt{P:Program}{f:FuncId}{args args':List AV}{h:AH}{v:Value}(hl:args'.length=args.length)(hm:∀(j:Nat) a a',args[j]? = some a->args'[j]? = some a'->Melt h 0 a a')
  (H:QA P f args' [] fun o h'=>o = .ret (.v v)/\h'=[]):QA P f args h fun o h'=>o = .ret (.v v)/\h'=h:=by
 refine⟨H.1,fun F n c vals hF hs hh hvs=>?_⟩
 subst hh
 have hst0:St (c.cut 0):=hs.cut (QuG _) (by simp)
 have hargs:RelL (c.cut 0) args' vals:=by
  refine⟨hvs.1.trans hl.symm,fun j a' u h1 h2=>?_⟩
  obtain⟨a,ha⟩:∃a,args[j]? = some a:=⟨_,QuC (by rw[<-hl];exact Qf h1)⟩
  exact(hm j a a' ha h1).rel hs (QuG _) (hvs.2 j a u ha h2)
 refine(H.2 F n (c.cut 0) vals hF hst0 (by simp[Cx.cut]) hargs).mono ?_
 rintro e w' ⟨o,c',⟨rfl,hh'⟩,hev,hst,hw,hex⟩
 obtain⟨x,rfl,hr⟩:=hex
 cases hr
 have hmem:∀{B:Nat},B<c.w.heap.size->c'.w.heap[B]? = c.w.heap[B]? := fun h=>hev.Qti h
 let c2:Cx:={ρ:=c.ρ,h:=c.h,w:=c'.w}
 have hlt0:∀{i B0:Nat} {b:AB},c.h[i]? = some b->b.live=true->c.ρ i=some B0->B0<c.w.heap.size:=fun h1 h2 h3=>hs.lt h1 h2 h3
 have hm:∀{B0:Nat} {o:Obj},c.w.heap[B0]? = some o->c2.w.heap[B0]? = some o:=fun{B0 o} h=>(hmem (QuP.1 h).1).trans h
 have hev2:Ev c c2:=by
  refine⟨hev.os,hev.tape,hev.output,hev.size,QuD _,fun B0 h1 _=>hmem h1,fun id b hb=>⟨b,hb,?_⟩,fun id B0 b h1 h2 hl h3=>?_⟩
  ·cases b with
   |cells ty s xs=>exact .inr ⟨xs,rfl,rfl,fun B cur hρ hc=>⟨cur,hm hc,rfl⟩⟩
   |grow e s n=>exact .inr ⟨n,rfl,QuD _,fun _=>rfl,fun B hB=>.inl hB,fun B cur hρ hc=>⟨cur,hm hc,rfl,fun _ _=>rfl⟩⟩
   |map es=>exact⟨es,rfl,rfl⟩
   |loop i=>exact⟨i,rfl,rfl⟩
   |iter s p=>exact⟨p,rfl,rfl⟩
   |glob g cs ty fr=>exact⟨rfl,rfl,fun B hρ=>hmem (hlt0 hb rfl hρ)⟩
   |dead=>rfl
   |gone=>rfl
  ·have:=Qf h2
   simp only[c2]at this
   omega
 have hst2:St c2:=⟨fun id b hb=>(hs.blocks id b hb).ev hs hev2 rfl fun B0 hl hρ=>hmem (hlt0 hb hl hρ),hs.inj⟩
 exact⟨.ret (.v v),c2,⟨rfl,rfl⟩,hev2,hst2,hw,_,rfl,.v _⟩
theorem Qlb{P:Program}{f:FuncId}{args:List AV}{h:AH}{Q Q0:AOut->AH->Prop}(H:QA P f args h Q0)
  (hp:(∀(i:Nat) b,h[i]? = some b->b.Below h.length)->∀o h',Q0 o h'->Q o h'\/∃r r',o = .ret r/\h.length<=h'.length/\(∀b∈h'.take h.length,b.Below h.length)/\Melt h' h.length r r'/\Q (.ret r') (h'.take h.length)):QA P f args h Q:=by
 refine⟨H.1,fun F n c vals hF hs hh hvs=>(H.2 F n c vals hF hs hh hvs).mono ?_⟩
 rintro e w' ⟨o,c',hQ,hev,hst,hw,hex⟩
 rcases hp (fun i b hb=>by subst hh;exact hs.below hb) o c'.h hQ with hq|⟨r,r',rfl,h1,h2,h3,h4⟩
 ·exact⟨o,c',hq,hev,hst,hw,hex⟩
 ·obtain⟨x,rfl,hr⟩:=hex
  exact⟨.ret r',c'.cut h.length,h4,hev.cut (by rw[hh];exact QuD _) h1,hst.cut h1 h2,hw,x,rfl,h3.rel hst h1 hr⟩
end Go.Proofs.YticgcpebdldbgaaGreatDoor.Ab
namespace Go.Proofs.YticgcpebdldbgaaGreatDoor.Ab
inductive Pk (n:Nat) (τ:Nat->Nat) (h2:AH):AV->AV->Prop
 |keep {a:AV} (hb:Below n a):Pk n τ h2 a a
 |agg {l l':List AV} (hl:l'.length=l.length) (hp:∀(j:Nat) a a',l[j]? = some a->l'[j]? = some a'->Pk n τ h2 a a'):Pk n τ h2 (.agg l) (.agg l')
 |tup {l l':List AV} (hl:l'.length=l.length) (hp:∀(j:Nat) a a',l[j]? = some a->l'[j]? = some a'->Pk n τ h2 a a'):Pk n τ h2 (.tup l) (.tup l')
 |sl {s:Nat} {xs ys:List AV} {own:Option Nat} (hl:ys.length=xs.length) (hs:∀y∈ys,y.cells.length=s) (hf:(flat ys).length=(flat xs).length)
   (hp:∀(j:Nat) a a',(flat xs)[j]? = some a->(flat ys)[j]? = some a'->Pk n τ h2 a a'):Pk n τ h2 (.sl s xs own) (.sl s ys none)
 |arr {id old lo len:Nat} (ho:old=τ id) (hi:n<=id) (hl:id<h2.length):Pk n τ h2 (.arr old lo len) (.arr id lo len)
structure Pack (n:Nat) (τ:Nat->Nat) (h h2:AH):Prop where
 len:n<=h2.length
 len':n<=h.length
 id:∀i,i<n->τ i=i
 old:∀i,i<n->h2[i]? = h[i]?
 below:∀(i:Nat) b,i<n->h[i]? = some b->b.Below n
 lo:∀i,n<=i->i<h2.length->n<=τ i
 inj:∀i j,n<=i->i<h2.length->n<=j->j<h2.length->τ i=τ j->i=j
 new:∀(i:Nat) b,n<=i->h2[i]? = some b->b = .dead\/∃ty s xs ys,b = .cells ty s ys/\h[τ i]? = some (.cells ty s xs)/\(∀y∈ys,y.cells.length=s)/\(flat ys).length<=(flat xs).length /\
  ∀(j:Nat) a a',(flat xs)[j]? = some a->(flat ys)[j]? = some a'->Pk n τ h2 a a'
def Cx.pack(c:Cx)(τ:Nat->Nat)(h2:AH):Cx:={ρ:=fun i=>c.ρ (τ i),h:=h2,w:=c.w}
section
variable{c:Cx}{n:Nat}{τ:Nat->Nat}{h2:AH}(K:Pack n τ c.h h2)
include K
theorem Pack.get{i:Nat}{b:AB}(hb:h2[i]? = some b):(i<n/\c.h[i]? = some b/\τ i=i/\b.Below n)\/(n<=i/\(b = .dead\/∃ty s xs ys,b = .cells ty s ys/\c.h[τ i]? = some (.cells ty s xs)/\(∀y∈ys,y.cells.length=s)/\(flat ys).length<=(flat xs).length /\
  ∀(j:Nat) a a',(flat xs)[j]? = some a->(flat ys)[j]? = some a'->Pk n τ h2 a a')):=by
 rcases Qv5 i n with h|h
 ·have:=K.old i h
  rw[hb]at this
  exact .inl ⟨h,this.symm,K.id i h,K.below i b h this.symm⟩
 ·exact .inr ⟨h,K.new i b h hb⟩
theorem Pack.low{i:Nat}{b:AB}(hi:i<n)(hb:c.h[i]? = some b):h2[i]? = some b:=(K.old i hi).trans hb
theorem Pack.live{i:Nat}{b:AB}(hb:h2[i]? = some b)(hl:b.live=true):∃b',c.h[τ i]? = some b'/\b'.live=true/\(b'=b\/∃ty s xs,b' = .cells ty s xs):=by
 rcases K.get hb with⟨_,h1,h3,_⟩|⟨_,rfl|⟨ty,s,xs,ys,rfl,h1,_⟩⟩
 ·exact⟨b,by rw[h3];exact h1,hl,.inl rfl⟩
 ·cases hl
 ·exact⟨_,h1,rfl,.inr ⟨_,_,_,rfl⟩⟩
theorem Pack.prot{B o:Nat}(h:c.prot B o):(c.pack τ h2).prot B o:=by
 refine⟨h.1,fun id b hb hl hρ=>?_⟩
 obtain⟨b',h1,h3,h4⟩:=K.live hb hl
 have h5:=h.2 (τ id) b' h1 h3 hρ
 rcases h4 with rfl|⟨ty,s,xs,rfl⟩
 ·exact h5
 ·rcases h5 with⟨_,_,_,h5,_⟩|⟨_,_,_,_,h5⟩ <;> cases h5
theorem Pack.ρ{i:Nat}(hi:i<n):(c.pack τ h2).ρ i=c.ρ i:=by show c.ρ (τ i)=c.ρ i;rw[K.id i hi]
theorem Pack.back{i:Nat}{b:AB}(hi:i<n)(hb:(c.pack τ h2).h[i]? = some b):c.h[i]? = some b:=(K.old i hi).symm.trans hb
theorem Pack.keep{a:AV}{x:Value}(h:Rel c a x)(hb:Below n a):Rel (c.pack τ h2) a x:=by
 have hlt:∀{i:Nat},i<n->i<(c.pack τ h2).h.length:=fun h=>Qu5 h K.len
 induction h with
 |v x=>exact .v x
 |junk x=>exact .junk x
 |agg l cs hl _ ih=>cases hb with|agg _ h=>exact .agg l cs hl fun j a u h1 h2=>ih j a u h1 h2 (h a (QuK h1))
 |tup l cs hl _ ih=>cases hb with|tup _ h=>exact .tup l cs hl fun j a u h1 h2=>ih j a u h1 h2 (h a (QuK h1))
 |slnil s own ht =>
  cases hb with
  |sl _ _ _ h hown =>
   refine .slnil s own fun b hb=>⟨hlt (hown b hb),fun e s' m hg=>?_⟩
   rw[K.ρ (hown b hb)]
   exact(ht b hb).2 e s' m (K.back (hown b hb) hg)
 |slzero s own ba ht =>
  cases hb with
  |sl _ _ _ h hown =>
   refine .slzero s own ba fun b hb=>⟨hlt (hown b hb),fun e s' m hg=>?_⟩
   rw[K.ρ (hown b hb)]
   exact(ht b hb).2 e s' m (K.back (hown b hb) hg)
 |sl s xs own B o cap f hs hcap hmax hc _ ht ih =>
  cases hb with
  |sl _ _ _ h hown =>
   refine .sl s xs own B o cap f hs hcap hmax (fun j a hj=>⟨⟨(hc j a hj).1.1,K.prot (hc j a hj).1.2⟩,(hc j a hj).2⟩) (fun j a hj=>ih j a hj (h a (QuK hj)))
    fun b hb=>⟨⟨hlt (hown b hb),let ⟨x,g1,g2⟩:=(ht b hb).1.2;⟨x,K.low (hown b hb) g1,g2⟩⟩,fun e s' m hg=>?_⟩
   rw[K.ρ (hown b hb)]
   exact(ht b hb).2 e s' m (K.back (hown b hb) hg)
 |pin s xs k off B o f hs hc _ ih =>
  cases hb with
  |pin _ _ _ _ h =>
   exact .pin s xs k off B o f hs (fun j a hj=>⟨⟨(hc j a hj).1.1,K.prot (hc j a hj).1.2⟩,(hc j a hj).2⟩) (fun j a hj=>ih j a hj (h a (QuK hj)))
 |ptr id k off x hid ho h1 =>
  cases hb with
  |ptr _ _ _ h=>exact .ptr id k off x (hlt h) ho fun ty s xs hg=>by rw[K.ρ h];exact h1 ty s xs (K.back h hg)
 |arr id lo len x hid ho h1 =>
  cases hb with
  |arr _ _ _ h=>exact .arr id lo len x (hlt h) ho fun ty s xs hg=>by rw[K.ρ h];exact h1 ty s xs (K.back h hg)
 |row id lo len cap x hid ho h1 =>
  cases hb with
  |row _ _ _ _ h=>exact .row id lo len cap x (hlt h) ho fun ty s xs hg=>by rw[K.ρ h];exact h1 ty s xs (K.back h hg)
 |mp id x hid ho h1 =>
  cases hb with
  |mp _ h=>exact .mp id x (hlt h) ho ⟨fun es hg=>by rw[K.ρ h];exact h1.1 es (K.back h hg),fun i hg=>by rw[K.ρ h];exact h1.2.1 i (K.back h hg),fun s p hg=>by rw[K.ρ h];exact h1.2.2 s p (K.back h hg)⟩
 |fn f first cap vs ws e1 e2 _ _ ih1 ih2 =>
  cases hb with
  |fn _ _ _ h1 h2=>exact .fn f first cap vs ws e1 e2 (fun j a u h3 h4=>ih1 j a u h3 h4 (h1 a (QuK h3))) (fun j a u h3 h4=>ih2 j a u h3 h4 (h2 a (QuK h3)))
 |ifc t a u _ ih=>cases hb with|ifc _ _ h=>exact .ifc t a u (ih h)
 |spt s xs own p n k _ ih=>cases hb with|spt _ _ _ h=>exact .spt s xs own p n k (ih h)
theorem Pack.rel{a a':AV}(h:Pk n τ h2 a a'):∀{x:Value},Rel c a x->Rel (c.pack τ h2) a' x:=by
 induction h with
 |keep hb=>exact fun hr=>K.keep hr hb
 |@agg l l' hl _ ih =>
  intro x hr
  cases hr with
  |agg _ cs hl' hr =>
   refine .agg _ cs (by omega) fun j a' u ha' hu=>?_
   obtain⟨a,ha⟩:∃a,l[j]? = some a:=⟨_,QuC (by rw[<-hl];exact Qf ha')⟩
   exact ih j a a' ha ha' (hr j a u ha hu)
 |@tup l l' hl _ ih =>
  intro x hr
  cases hr with
  |tup _ cs hl' hr =>
   refine .tup _ cs (by omega) fun j a' u ha' hu=>?_
   obtain⟨a,ha⟩:∃a,l[j]? = some a:=⟨_,QuC (by rw[<-hl];exact Qf ha')⟩
   exact ih j a a' ha ha' (hr j a u ha hu)
 |@sl s xs ys own hl hs' hf _ ih =>
  intro x hr
  have old:∀(j:Nat) a',(flat ys)[j]? = some a'->∃a,(flat xs)[j]? = some a:=fun j a' ha=>⟨_,QuC (by rw[<-hf];exact Qf ha)⟩
  cases hr with
  |slnil _ _ ht =>
   cases ys with
   |nil=>exact .slnil s none fun b hb=>by cases hb
   |cons y ys=>simp at hl
  |slzero _ _ ba ht =>
   cases ys with
   |nil=>exact .slzero s none ba fun b hb=>by cases hb
   |cons y ys=>simp at hl
  |sl _ _ _ B o cap f hs0 hcap hmax hc hr ht =>
   rw[<-hl]at hcap ⊢
   refine .sl s ys none B o cap f hs' hcap hmax (fun j a' ha=>?_) (fun j a' ha=>?_) fun b hb=>by cases hb
   ·obtain⟨a,h1⟩:=old j a' ha
    exact⟨⟨(hc j a h1).1.1,K.prot (hc j a h1).1.2⟩,(hc j a h1).2⟩
   ·obtain⟨a,h1⟩:=old j a' ha
    exact ih j a a' h1 ha (hr j a h1)
 |@arr id old lo len ho hi hl =>
  intro x hr
  subst ho
  cases hr with
  |arr _ _ _ x hid ho h1 =>
   refine .arr id lo len x hl ho fun ty s ys hg=>?_
   rcases K.get hg with⟨h,_⟩|⟨_,e|⟨ty',s',xs,ys',e,h3,_⟩⟩
   ·omega
   ·cases e
   ·cases e
    exact h1 _ _ _ h3
theorem Pack.st(hs:St c):St (c.pack τ h2):=by
 refine⟨fun id b hb=>?_,fun i j a b B hi hj hla hlb hρi hρj=>?_⟩
 ·rcases K.get hb with⟨h1,h3,h4,hbl⟩|⟨h1,rfl|⟨ty,s,xs,ys,rfl,h3,h4,h5,h6⟩⟩
  ·have h0:=hs.blocks id b h3
   have hρ:=K.ρ h1
   cases b with
   |cells ty s xs =>
    obtain⟨B,cur,g1,g2,g3,g4⟩:=h0
    exact⟨B,cur,hρ.trans g1,g2,g3,fun j a hj=>let ⟨u,h5,h6,h7⟩:=g4 j a hj;⟨u,h5,h6,K.keep h7 (hbl a (QuK hj))⟩⟩
   |grow e s m=>exact fun B hB=>h0 B (hρ.symm.trans hB)
   |map es =>
    obtain⟨B,ents,clock,g1,g2,g3,g4⟩:=h0
    exact⟨B,ents,clock,hρ.trans g1,g2,g3,fun j kv e hj he=>⟨(g4 j kv e hj he).1,K.keep (g4 j kv e hj he).2 (hbl kv (QuK hj))⟩⟩
   |loop i =>
    obtain⟨B,r,g1,g2,g3,g4⟩:=h0
    exact⟨B,r,hρ.trans g1,g2,g3,fun t=>K.keep (g4 t) (hbl t)⟩
   |iter s p =>
    obtain⟨B,g1,g2⟩:=h0
    exact⟨B,hρ.trans g1,g2⟩
   |glob g cs ty fr=>exact⟨hρ.trans h0.1,h0.2⟩
   |dead=>trivial
   |gone=>trivial
  ·trivial
  ·obtain⟨B,cur,g1,g2,g3,g4⟩:=hs.blocks _ _ h3
   refine⟨B,cur,g1,g2,h4,fun j a' hj=>?_⟩
   obtain⟨a,ha⟩:∃a,(flat xs)[j]? = some a:=⟨_,QuC (Qu5 (Qf hj) h5)⟩
   obtain⟨u,k1,k2,k3⟩:=g4 j a ha
   exact⟨u,k1,k2,K.rel (h6 j a a' ha hj) k3⟩
 ·obtain⟨a',h1,h3,_⟩:=K.live hi hla
  obtain⟨b',h4,h5,_⟩:=K.live hj hlb
  have h6:=hs.inj (τ i) (τ j) a' b' B h1 h4 h3 h5 hρi hρj
  rcases K.get hi with⟨g1,_,g2,_⟩|⟨g1,_⟩
  ·rcases K.get hj with⟨g3,_,g4,_⟩|⟨g3,_⟩
   ·omega
   ·have:=K.lo j g3 (Qf hj);omega
  ·rcases K.get hj with⟨g3,_,g4,_⟩|⟨g3,_⟩
   ·have:=K.lo i g1 (Qf hi);omega
   ·exact K.inj i j g1 (Qf hi) g3 (Qf hj) h6
theorem Pack.ev{c0:Cx}(hn:c0.h.length=n)(hev:Ev c0 c):Ev c0 (c.pack τ h2):=by
 subst hn
 refine⟨hev.os,hev.tape,hev.output,hev.size,K.len,hev.frame,fun id b hb=>?_,fun id B b h1 h3 hl hρ=>?_⟩
 ·obtain⟨b',hb',hk⟩:=hev.kin id b hb
  have hi:=Qf hb
  have hρ:=K.ρ hi
  refine⟨b',K.low hi hb',?_⟩
  cases b <;> simp only[Kin,hρ]at hk ⊢ <;> exact hk
 ·obtain⟨b',h4,h5,_⟩:=K.live h3 hl
  rcases hev.fresh (τ id) B b' (K.lo id h1 (Qf h3)) h4 h5 hρ with h6|⟨i,ty,s,xs,a1,a2,a3⟩
  ·exact .inl h6
  ·exact .inr ⟨i,ty,s,xs,a1,a2,K.low (Qf a1) a3⟩
end
theorem Qa4{P:Program}{f:FuncId}{args:List AV}{h:AH}{Q Q0:AOut->AH->Prop}(H:QA P f args h Q0)
  (hp:(∀(i:Nat) b,h[i]? = some b->b.Below h.length)->∀o h',Q0 o h'->Q o h'\/∃r r2 τ h2,o = .ret r/\Pack h.length τ h' h2/\Pk h.length τ h2 r r2/\Q (.ret r2) h2):QA P f args h Q:=by
 refine⟨H.1,fun F n c vals hF hs hh hvs=>(H.2 F n c vals hF hs hh hvs).mono ?_⟩
 rintro e w' ⟨o,c',hQ,hev,hst,hw,hex⟩
 rcases hp (fun i b hb=>by subst hh;exact hs.below hb) o c'.h hQ with hq|⟨r,r2,τ,h2,rfl,K,hk,hq⟩
 ·exact⟨o,c',hq,hev,hst,hw,hex⟩
 ·obtain⟨x,rfl,hr⟩:=hex
  exact⟨.ret r2,c'.pack τ h2,hq,K.ev (by rw[hh]) hev,K.st hst,hw,x,rfl,K.rel hk hr⟩
end Go.Proofs.YticgcpebdldbgaaGreatDoor.Ab
namespace Go.Proofs.YticgcpebdldbgaaGreatDoor.Ab
mutual
def T.sz:T->Nat
 | .mk _ _ _ bs=>szs bs
def szs:List T->Nat
 |[]=>0
 |t::l=>t.sz+1+szs l
end
def T.lv(n:Nat):T->AV
 | .mk k i s bs=>.agg [.v (.int .i64 k),.v (.int .i64 i),.v (.string s),if bs.isEmpty then .v (.slice none 0 0)else .arr (n+szs bs - 1) 0 bs.length]
def lvs(n:Nat):List T->List AV
 |[]=>[]
 |t::l=>t.lv n::lvs (n+t.sz+1) l
def lsl(n:Nat)(bs:List T):AV:=if bs.isEmpty then .v (.slice none 0 0)else .arr (n+szs bs - 1) 0 bs.length
mutual
/-- the blocks of a term from n on: behind the blocks of each argument one that is dead,behind the last the row of the arguments -/
def T.lay(tt:TypeId)(n:Nat):T->AH
 | .mk _ _ _ bs=>lays tt n (.cells tt 4 (lvs n bs)) bs
def lays(tt:TypeId)(n:Nat)(r:AB):List T->AH
 |[]=>[]
 |t::l=>t.lay tt n++(if l.isEmpty then r else .dead)::lays tt (n+t.sz+1) r l
end
def layA(tt:TypeId)(n:Nat)(bs:List T):AH:=lays tt n (.cells tt 4 (lvs n bs)) bs
theorem T.Qtf(n:Nat)(t:T):t.lv n = .agg [.v (.int .i64 t.kind),.v (.int .i64 t.int),.v (.string t.name),lsl n t.args]:=by cases t;rfl
theorem T.Qs6(tt:TypeId)(n:Nat)(t:T):t.lay tt n=layA tt n t.args:=by cases t;rw[T.lay];rfl
theorem T.Qta(t:T):t.sz=szs t.args:=by cases t;rw[T.sz];rfl
theorem T.QsX(n:Nat)(t:T):(t.lv n).cells=[.v (.int .i64 t.kind),.v (.int .i64 t.int),.v (.string t.name),lsl n t.args]:=by rw[T.Qtf];rfl
theorem T.QsZ(n:Nat)(t:T):(t.lv n).isAgg=true:=by rw[T.Qtf];rfl
theorem Xt(n:Nat)(bs:List T):(lsl n bs).cell1=true:=by unfold lsl;split <;> rfl
theorem Qft(n:Nat)(bs:List T):(lsl n bs).cells=[lsl n bs]:=by unfold lsl;split <;> rfl
theorem Qfu(n:Nat)(bs:List T):(lsl n bs).isAgg=false:=by unfold lsl;split <;> rfl
theorem T.Qs3(n:Nat)(t:T):(t.lv n).cells.length=4:=by rw[T.QsX];rfl
theorem Qaq:∀(n:Nat) (l:List T),(lvs n l).length=l.length
 |_,[]=>rfl
 |n,t::l=>by rw[lvs,QtS,Qaq];rfl
theorem Qkx:∀(n:Nat) (l:List T),∀y∈lvs n l,y.cells.length=4
 |_,[],y,h=>by simp[lvs]at h
 |n,t::l,y,h=>by
  rw[lvs,QuL]at h
  rcases h with rfl|h
  ·exact T.Qs3 _ _
  ·exact Qkx _ l y h
theorem ZX:∀(l m:List T),szs (l++m)=szs l+szs m
 |[],m=>by simp[szs]
 |t::l,m=>by rw[Qt7,szs,szs,ZX l m];omega
theorem Qqz(t:T):szs [t]=t.sz+1:=by simp[szs]
theorem QdW:∀(n:Nat) (l m:List T),lvs n (l++m)=lvs n l++lvs (n+szs l) m
 |n,[],m=>by simp[lvs,szs]
 |n,t::l,m=>by
  rw[Qt7,lvs,lvs,QdW _ l m,szs]
  simp only[Qt7]
  rw[show n+t.sz+1+szs l=n+(t.sz+1+szs l) by omega]
mutual
theorem T.QsW(tt:TypeId):∀(n:Nat) (t:T),(t.lay tt n).length=t.sz
 |n,.mk _ _ _ bs=>by rw[T.lay,T.sz];exact Z9 tt n _ bs
theorem Z9(tt:TypeId):∀(n:Nat) (r:AB) (l:List T),(lays tt n r l).length=szs l
 |n,r,[]=>by rw[lays,szs];rfl
 |n,r,t::l=>by rw[lays,szs,Quw,QtS,T.QsW tt n t,Z9 tt _ r l];omega
end
theorem Zi(tt:TypeId)(n:Nat)(l:List T):(layA tt n l).length=szs l:=Z9 tt n _ l
theorem Qdi(tt:TypeId):∀(n:Nat) (r:AB) (l:List T) (u:T),lays tt n r (l++[u])=lays tt n .dead l++(u.lay tt (n+szs l)++[r])
 |n,r,[],u=>by simp[lays,szs]
 |n,r,t::l,u=>by
  have e:(l++[u]).isEmpty=false:=by cases l <;> rfl
  rw[Qt7,lays,lays,Qdi tt _ r l u,e,szs]
  simp only[QtJ,Qvy,ite_self,Quz,Qt7]
  rw[show n+t.sz+1+szs l=n+(t.sz+1+szs l) by omega]
theorem QbN(tt:TypeId):∀(n:Nat) (r:AB) (l:List T) (u:T) (m:List T),lays tt n r (l++u::m)=lays tt n .dead l++lays tt (n+szs l) r (u::m)
 |n,r,[],u,m=>by simp[lays,szs]
 |n,r,t::l,u,m=>by
  have e:(l++u::m).isEmpty=false:=by cases l <;> rfl
  rw[Qt7,lays,QbN tt _ r l u m,e]
  conv=>rhs;rw[lays]
  rw[szs]
  simp only[QtJ,Qvy,ite_self,Quz,Qt7]
  rw[show n+t.sz+1+szs l=n+(t.sz+1+szs l) by omega]
theorem Qc5{l:List T}(h:l≠[]):0<szs l:=by
 cases l with
 |nil=>exact(h rfl).elim
 |cons t l=>rw[szs];omega
theorem QiC(tt:TypeId)(n:Nat)(l:List T)(u:T):layA tt n (l++[u])=lays tt n .dead l++(u.lay tt (n+szs l)++[.cells tt 4 (lvs n l++[u.lv (n+szs l)])]):=by
 rw[layA,Qdi,QdW];rfl
theorem Qcm(tt:TypeId)(n:Nat)(r:AB)(l:List T)(h:l≠[]):(lays tt n r l)[szs l - 1]? = some r/\(lays tt n r l).set (szs l - 1) .dead=lays tt n .dead l:=by
 obtain⟨l,u,rfl⟩:∃l' u,l=l'++[u]:=⟨_,_,(List.dropLast_concat_getLast h).symm⟩
 rw[Qdi,Qdi,<-Quz,<-Quz,ZX,Qqz]
 have e:szs l+(u.sz+1) - 1=(lays tt n .dead l++u.lay tt (n+szs l)).length:=by rw[Quw,Z9,T.QsW];omega
 rw[e]
 constructor
 ·rw[QuB (QuD _),Qu9];rfl
 ·rw[Qva _ _ (QuD _),Qu9];rfl
theorem QiB(tt:TypeId)(n:Nat)(l:List T)(h:l≠[]):(layA tt n l)[szs l - 1]? = some (.cells tt 4 (lvs n l))/\(layA tt n l).set (szs l - 1) .dead=lays tt n .dead l:=Qcm tt n _ l h
theorem QmG{R:AV->AV->Prop}:∀{xs ys:List AV},xs.length=ys.length->(∀(j:Nat) x y,xs[j]? = some x->ys[j]? = some y->x.cells.length=y.cells.length/\∀(i:Nat) a b,x.cells[i]? = some a->y.cells[i]? = some b->R a b) ->
  (flat ys).length=(flat xs).length/\∀(j:Nat) a b,(flat xs)[j]? = some a->(flat ys)[j]? = some b->R a b
 |[],[],_,_=>⟨rfl,fun j a b h=>by simp[flat]at h⟩
 |[],y::ys,h,_=>by simp at h
 |x::xs,[],h,_=>by simp at h
 |x::xs,y::ys,h,hp=>by
  obtain⟨h1,h2⟩:=hp 0 x y rfl rfl
  obtain⟨h3,h4⟩:=QmG (xs:=xs) (ys:=ys) (by simpa using h) fun j x y hx hy=>hp (j+1) x y (by simpa using hx) (by simpa using hy)
  refine⟨by rw[XK,XK,Quw,Quw,h1,h3],fun j a b ha hb=>?_⟩
  rw[XK,Qu0]at ha hb
  rw[<-h1]at hb
  split at ha
  ·rename_i hj;rw[QuH hj]at hb;exact h2 j a b ha hb
  ·rename_i hj;rw[QuE hj]at hb;exact h4 _ a b ha hb
def At(h:AH)(n:Nat)(L:AH):Prop:=∀(j:Nat) b,L[j]? = some b->b.live=true->h[n+j]? = some b
theorem At.mid(A L B:AH){n:Nat}(hn:A.length=n):At (A++(L++B)) n L:=fun j b hb _=>by
 subst hn
 rw[QuB (by omega),Qvc,Qux (Qf hb)];exact hb
theorem At.left{h:AH}{n:Nat}{L M:AH}(H:At h n (L++M)):At h n L:=fun j b hb hl=>H j b (by rw[Qux (Qf hb)];exact hb) hl
theorem At.right{h:AH}{n:Nat}{L M:AH}(H:At h n (L++M)){m:Nat}(hm:m=n+L.length):At h m M:=fun j b hb hl=>by
 have:=H (L.length+j) b (by rw[QuB (by omega),Qvc];exact hb) hl
 subst hm
 rw[Qv3];exact this
theorem At.both{h:AH}{n:Nat}{L M:AH}(H1:At h n L)(H2:At h (n+L.length) M):At h n (L++M):=fun j b hb hl=>by
 rw[Qu0]at hb
 split at hb
 ·exact H1 j b hb hl
 ·rename_i hj
  have:=H2 _ b hb hl
  rw[show n+L.length+(j - L.length)=n+j by omega]at this
  exact this
theorem At.cons{h:AH}{n:Nat}{x:AB}{M:AH}(H1:x.live=true->h[n]? = some x)(H2:At h (n+1) M):At h n (x::M):=fun j b hb hl=>by
 cases j with
 |zero=>cases hb;exact H1 hl
 |succ j =>
  have:=H2 j b hb hl
  rw[show n+1+j=n+(j+1) by omega]at this
  exact this
theorem At.nil(h:AH)(n:Nat):At h n []:=fun j b hb=>by simp at hb
theorem At.app{h:AH}{n:Nat}{L:AH}(H:At h n L)(M:AH):At (h++M) n L:=fun j b hb hl=>by
 have:=H j b hb hl
 rw[Qux (Qf this)];exact this
theorem At.get{h:AH}{n:Nat}{L:AH}(H:At h n L){j:Nat}{b:AB}(hb:L[j]? = some b)(hl:b.live=true){k:Nat}(hk:k=n+j):h[k]? = some b:=by subst hk;exact H j b hb hl
theorem At.all(L:AH):At L 0 L:=fun j b hb _=>by rw[QtR];exact hb
theorem At.tail{x:AB}{L M:AH}{k:Nat}(H:At L k M):At (x::L) (k+1) M:=fun j b hb hl=>by
 have:=H j b hb hl
 rw[show k+1+j=(k+j)+1 by omega,QtG];exact this
theorem At.off{A L M:AH}{n k:Nat}(H:At L k M)(hA:n=A.length+k)(B:AH):At (A++(L++B)) n M:=fun j b hb hl=>by
 have h1:=H j b hb hl
 have:=Qf h1
 rw[QuB (by omega),Qux (by omega),show n+j - A.length=k+j by omega];exact h1
theorem At.set{h:AH}{n:Nat}{L:AH}(H:At h n L){k:Nat}{x:AB}(hk:∀b,L[k - n]? = some b->n<=k->b.live=false):At (h.set k x) n L:=fun j b hb hl=>by
 have h1:=H j b hb hl
 rw[Quy]
 ·exact h1
 ·intro e
  have:=hk b (by rw[show k - n=j by omega];exact hb) (by omega)
  rw[this]at hl;cases hl
theorem Qky{tt:TypeId}{h:AH}{m:Nat}(n:Nat)(bs:List T)(hm:m<=n)(H:At h n (lays tt n (.cells tt 4 (lvs n bs)) bs))
  (hpt:(flat (avs bs)).length=(flat (lvs n bs)).length/\∀(j:Nat) a a',(flat (lvs n bs))[j]? = some a->(flat (avs bs))[j]? = some a'->Melt h m a a'):Melt h m (lsl n bs) (.sl 4 (avs bs) none):=by
 cases bs with
 |nil=>exact .nil 4
 |cons t bs =>
  have hne:t::bs≠[]:=by simp
  have hl:=(Qcm tt n (.cells tt 4 (lvs n (t::bs))) (t::bs) hne).1
  have hp:=Qc5 hne
  show Melt h m (.arr (n+szs (t::bs) - 1) 0 (t::bs).length) _
  refine .arr (by omega) (H.get hl rfl (by omega)) (QG _) (fun y hy=>?_) (Qwg hpt.1) hpt.2
  rw[QeY]at hy
  obtain⟨u,_,rfl⟩:=QuZ.1 hy
  rw[T.QsS];rfl
section
variable{tt:TypeId}{h:AH}{m:Nat}
mutual
theorem T.QtE:∀(t:T) (n:Nat),m<=n->At h n (t.lay tt n)->∀(j:Nat) a a',(t.lv n).cells[j]? = some a->t.av.cells[j]? = some a'->Melt h m a a'
 | .mk k i s bs,n,hm,H,j,a,a',h1,h2=>by
  rw[T.lay]at H
  have h3:=Qky n bs hm H (QjG bs n _ hm H)
  rw[T.QsX]at h1
  rw[T.QsS]at h2
  match j,h1,h2 with
  |0,h1,h2=>cases h1;cases h2;exact .keep (.v _)
  |1,h1,h2=>cases h1;cases h2;exact .keep (.v _)
  |2,h1,h2=>cases h1;cases h2;exact .keep (.v _)
  |3,h1,h2=>cases h1;cases h2;exact h3
  |j+4,h1,h2=>simp at h1
theorem QjG:∀(bs:List T) (n:Nat) (r:AB),m<=n->At h n (lays tt n r bs)->(flat (avs bs)).length=(flat (lvs n bs)).length/\∀(j:Nat) a a',(flat (lvs n bs))[j]? = some a->(flat (avs bs))[j]? = some a'->Melt h m a a'
 |[],n,r,hm,H=>⟨rfl,fun j a a' h1=>by simp[lvs,flat]at h1⟩
 |t::bs,n,r,hm,H=>by
  rw[lays]at H
  have h1:=T.QtE t n hm H.left
  have h2:At h (n+t.sz+1) (lays tt (n+t.sz+1) r bs):=by
   have:=H.right (m:=n+t.sz) (by rw[T.QsW])
   exact At.right (L:=[if bs.isEmpty then r else .dead]) this rfl
  obtain⟨h3,h4⟩:=QjG bs (n+t.sz+1) r (Qu1 hm (by omega)) h2
  have hc:t.av.cells.length=(t.lv n).cells.length:=by rw[T.QsS,T.QsX];rfl
  refine⟨by rw[avs,lvs,XK,XK,Quw,Quw,h3,hc],fun j a a' ha hb=>?_⟩
  rw[lvs,XK,Qu0]at ha
  rw[avs,XK,Qu0,hc]at hb
  split at ha
  ·rename_i hj
   rw[QuH hj]at hb
   exact h1 j a a' ha hb
  ·rename_i hj
   rw[QuE hj]at hb
   exact h4 _ a a' ha hb
end
theorem Qfy{n:Nat}{bs:List T}(hm:m<=n)(H:At h n (layA tt n bs)):Melt h m (lsl n bs) (.sl 4 (avs bs) none):=Qky n bs hm H (QjG bs n _ hm H)
end
def PkB(n:Nat)(τ:Nat->Nat)(h2:AH)(b b':AB):Prop:=b' = .dead\/∃ty s xs ys,b' = .cells ty s ys/\b = .cells ty s xs/\(∀y∈ys,y.cells.length=s)/\(flat ys).length<=(flat xs).length /\
  ∀(j:Nat) a a',(flat xs)[j]? = some a->(flat ys)[j]? = some a'->Pk n τ h2 a a'
def Sh(n:Nat)(τ:Nat->Nat)(h2:AH)(m m' len:Nat):Prop:=n<=m'/\m'+len<=h2.length/\∀j,j<len->τ (m'+j)=m+j
theorem Sh.sub{n:Nat}{τ:Nat->Nat}{h2:AH}{m m' len:Nat}(H:Sh n τ h2 m m' len){k l:Nat}(hl:k+l<=len){a b:Nat}(ha:a=m+k)(hb:b=m'+k):Sh n τ h2 a b l:=by
 subst ha;subst hb
 obtain⟨h1,h3,h4⟩:=H
 exact⟨by omega,by omega,fun j hj=>by rw[Qv3,h4 _ (by omega),Qv3]⟩
theorem QkG{n:Nat}{τ:Nat->Nat}{h2:AH}{m m':Nat}{bs:List T}(H:Sh n τ h2 m m' (szs bs)):Pk n τ h2 (lsl m bs) (lsl m' bs):=by
 unfold lsl
 cases bs with
 |nil=>exact .keep (.v _)
 |cons t bs =>
  have hp:0<szs (t::bs):=Qc5 (by simp)
  obtain⟨h1,h3,h4⟩:=H
  refine .arr ?_ (by omega) (by omega)
  have:=h4 (szs (t::bs) - 1) (by omega)
  rw[show m'+szs (t::bs) - 1=m'+(szs (t::bs) - 1) by omega,this];omega
theorem T.Qs7{n:Nat}{τ:Nat->Nat}{h2:AH}{m m':Nat}{t:T}(H:Sh n τ h2 m m' t.sz):∀(j:Nat) a a',(t.lv m).cells[j]? = some a->(t.lv m').cells[j]? = some a'->Pk n τ h2 a a':=by
 intro j a a' h1 h3
 rw[T.QsX]at h1 h3
 match j,h1,h3 with
 |0,h1,h3=>cases h1;cases h3;exact .keep (.v _)
 |1,h1,h3=>cases h1;cases h3;exact .keep (.v _)
 |2,h1,h3=>cases h1;cases h3;exact .keep (.v _)
 |3,h1,h3=>cases h1;cases h3;exact QkG (by rw[<-T.Qta];exact H)
 |j+4,h1,h3=>simp at h1
theorem T.pk{n:Nat}{τ:Nat->Nat}{h2:AH}{m m':Nat}{t:T}(H:Sh n τ h2 m m' t.sz):Pk n τ h2 (t.lv m) (t.lv m'):=by
 have:=T.Qs7 H
 rw[T.QsX,T.QsX]at this
 rw[T.Qtf,T.Qtf]
 exact .agg rfl this
theorem Qnu{n:Nat}{τ:Nat->Nat}{h2:AH}:∀{m m':Nat} {bs:List T},Sh n τ h2 m m' (szs bs)->(flat (lvs m' bs)).length=(flat (lvs m bs)).length/\∀(j:Nat) a a',(flat (lvs m bs))[j]? = some a->(flat (lvs m' bs))[j]? = some a'->Pk n τ h2 a a'
 |m,m',[],H=>⟨rfl,fun j a a' h1=>by simp[lvs,flat]at h1⟩
 |m,m',t::bs,H=>by
  rw[szs]at H
  have h1:=T.Qs7 (H.sub (k:=0) (l:=t.sz) (by omega) rfl rfl)
  obtain⟨h3,h4⟩:=Qnu (bs:=bs) (H.sub (k:=t.sz+1) (l:=szs bs) (a:=m+t.sz+1) (b:=m'+t.sz+1) (by omega) (by omega) (by omega))
  have hc:(t.lv m').cells.length=(t.lv m).cells.length:=by rw[T.Qs3,T.Qs3]
  refine⟨by rw[lvs,lvs,XK,XK,Quw,Quw,h3,hc],fun j a a' ha hb=>?_⟩
  rw[lvs,XK,Qu0]at ha hb
  rw[hc]at hb
  split at ha
  ·rename_i hj
   rw[QuH hj]at hb
   exact h1 j a a' ha hb
  ·rename_i hj
   rw[QuE hj]at hb
   exact h4 _ a a' ha hb
theorem QjP{n:Nat}{τ:Nat->Nat}{h2:AH}{tt:TypeId}{m m':Nat}{bs:List T}(H:Sh n τ h2 m m' (szs bs)):PkB n τ h2 (.cells tt 4 (lvs m bs)) (.cells tt 4 (lvs m' bs)) :=
 .inr ⟨tt,4,_,_,rfl,rfl,Qkx _ _,Qwg (Qnu H).1,(Qnu H).2⟩
mutual
theorem T.pkB{n:Nat}{τ:Nat->Nat}{h2:AH}{tt:TypeId}:∀{m m':Nat} (t:T),Sh n τ h2 m m' t.sz->∀(j:Nat) b b',(t.lay tt m)[j]? = some b->(t.lay tt m')[j]? = some b'->PkB n τ h2 b b'
 |m,m',.mk k i s bs,H,j,b,b',h1,h3=>by
  rw[T.sz]at H
  rw[T.lay]at h1 h3
  exact QeM bs (QjP H) H j b b' h1 h3
theorem QeM{n:Nat}{τ:Nat->Nat}{h2:AH}{tt:TypeId}{r r':AB}:∀{m m':Nat} (bs:List T),PkB n τ h2 r r'->Sh n τ h2 m m' (szs bs)->∀(j:Nat) b b',(lays tt m r bs)[j]? = some b->(lays tt m' r' bs)[j]? = some b'->PkB n τ h2 b b'
 |m,m',[],hr,H,j,b,b',h1,h3=>by simp[lays]at h1
 |m,m',t::bs,hr,H,j,b,b',h1,h3=>by
  rw[szs]at H
  rw[lays,Qu0,T.QsW]at h1 h3
  split at h1
  ·rename_i hj
   rw[QuH hj]at h3
   exact T.pkB t (H.sub (k:=0) (l:=t.sz) (by omega) rfl rfl) j b b' h1 h3
  ·rename_i hj
   rw[QuE hj]at h3
   cases hk:j - t.sz with
   |zero =>
    rw[hk,QtF]at h1 h3
    cases h1;cases h3
    split
    ·exact hr
    ·exact .inl rfl
   |succ k =>
    rw[hk,QtG]at h1 h3
    exact QeM bs hr (H.sub (k:=t.sz+1) (l:=szs bs) (a:=m+t.sz+1) (b:=m'+t.sz+1) (by omega) (by omega) (by omega)) k b b' h1 h3
end
theorem QkD{A N L':AH}{n:Nat}{τ:Nat->Nat}(hn:A.length=n)(hb:∀b∈A,b.Below n)(hid:∀i,i<n->τ i=i)(hlo:∀i,n<=i->i<n+L'.length->n<=τ i)
  (hin:∀i j,n<=i->i<n+L'.length->n<=j->j<n+L'.length->τ i=τ j->i=j)
  (hB:∀(j:Nat) b',L'[j]? = some b'->b' = .dead\/∃b,(A++N)[τ (n+j)]? = some b/\PkB n τ (A++L') b b'):Pack n τ (A++N) (A++L'):=by
 have hl:(A++L').length=n+L'.length:=by rw[Quw,hn]
 refine⟨by omega,by rw[Quw];omega,hid,fun i hi=>?_,fun i b hi hg=>?_,fun i h1 h3=>hlo i h1 (by omega),fun i j h1 h2 h3 h4 he=>hin i j h1 (by omega) h3 (by omega) he,fun i b h1 hg=>?_⟩
 ·rw[Qux (by omega),Qux (by omega)]
 ·rw[Qux (by omega)]at hg
  exact hb b (QuK hg)
 ·rw[QuB (by omega),hn]at hg
  rcases hB (i - n) b hg with h3|⟨b0,h3,h4⟩
  ·exact .inl h3
  ·rw[show n+(i - n)=i by omega]at h3
   rcases h4 with h4|⟨ty,s,xs,ys,rfl,rfl,h5,h6,h7⟩
   ·exact .inl h4
   ·exact .inr ⟨ty,s,xs,ys,rfl,h3,h5,h6,h7⟩
def tauG(n g:Nat):Nat->Nat:=fun i=>if i<n then i else i+g
theorem shG{A L':AH}{n:Nat}(hn:A.length=n)(g:Nat):Sh n (tauG n g) (A++L') (n+g) n L'.length :=
 ⟨QuD _,by rw[Quw];omega,fun j hj=>by unfold tauG;rw[QuE (by omega)];omega⟩
theorem QgS{A N C L':AH}{n g:Nat}(hn:A.length=n)(hb:∀b∈A,b.Below n)(hC:C.length=L'.length)(hN:At N g C)
  (hP:Sh n (tauG n g) (A++L') (n+g) n L'.length->∀(j:Nat) b b',C[j]? = some b->L'[j]? = some b'->PkB n (tauG n g) (A++L') b b') (hlive:∀(j:Nat) b b',C[j]? = some b->L'[j]? = some b'->b.live=false->b' = .dead):Pack n (tauG n g) (A++N) (A++L'):=by
 refine QkD hn hb (fun i hi=>by unfold tauG;rw[QuH hi]) (fun i h1 _=>by unfold tauG;rw[QuE (by omega)];omega) (fun i j h1 _ h3 _ he=>?_) fun j b' hj=>?_
 ·unfold tauG at he
  rw[QuE (by omega),QuE (by omega)]at he
  omega
 ·obtain⟨b,hb1⟩:∃b,C[j]? = some b:=⟨_,QuC (by have:=Qf hj;omega)⟩
  cases hl:b.live with
  |false=>exact .inl (hlive j b b' hb1 hj hl)
  |true =>
   refine .inr ⟨b,?_,hP (shG hn g) j b b' hb1 hj⟩
   have:=hN j b hb1 hl
   unfold tauG
   rw[QuE (by omega),QuB (by omega),show n+j+g - A.length=g+j by omega];exact this
mutual
theorem T.Qtb{tt:TypeId}:∀{m m':Nat} (t:T) (j:Nat) (b b':AB),(t.lay tt m)[j]? = some b->(t.lay tt m')[j]? = some b'->b.live=false->b' = .dead
 |m,m',.mk k i s bs,j,b,b',h1,h2,hl=>by
  rw[T.lay]at h1 h2
  exact Qfq bs (fun h=>by cases h) j b b' h1 h2 hl
theorem Qfq{tt:TypeId}{r r':AB}:∀{m m':Nat} (bs:List T),(r.live=false->r' = .dead)->∀(j:Nat) (b b':AB),(lays tt m r bs)[j]? = some b->(lays tt m' r' bs)[j]? = some b'->b.live=false->b' = .dead
 |m,m',[],hr,j,b,b',h1,h2,hl=>by simp[lays]at h1
 |m,m',t::bs,hr,j,b,b',h1,h2,hl=>by
  rw[lays,Qu0,T.QsW]at h1 h2
  split at h1
  ·rename_i hj
   rw[QuH hj]at h2
   exact T.Qtb t j b b' h1 h2 hl
  ·rename_i hj
   rw[QuE hj]at h2
   cases hk:j - t.sz with
   |zero =>
    rw[hk,QtF]at h1 h2
    cases h1;cases h2
    split
    ·rename_i he
     rw[QuH he]at hl
     exact hr hl
    ·rfl
   |succ k =>
    rw[hk,QtG]at h1 h2
    exact Qfq bs hr k b b' h1 h2 hl
end
theorem QiA{tt:TypeId}{m m':Nat}(bs:List T)(j:Nat)(b b':AB)(h1:(layA tt m bs)[j]? = some b)(h2:(layA tt m' bs)[j]? = some b')(hl:b.live=false):b' = .dead:=Qfq bs (fun h=>by cases h) j b b' h1 h2 hl
theorem QoX{tt:TypeId}{A N:AH}{n:Nat}(hn:A.length=n)(hb:∀b∈A,b.Below n)(g:Nat)(bs:List T)(hN:At N g (layA tt (n+g) bs)) :
  Pack n (tauG n g) (A++N) (A++layA tt n bs)/\Pk n (tauG n g) (A++layA tt n bs) (lsl (n+g) bs) (lsl n bs):=by
 have hsh:=shG (L':=layA tt n bs) hn g
 rw[Zi]at hsh
 refine⟨QgS hn hb (by rw[Zi,Zi]) hN (fun h j b b' h1 h2=>QeM bs (QjP hsh) hsh j b b' h1 h2) (fun j b b' h1 h2 hl=>QiA bs j b b' h1 h2 hl),QkG hsh⟩
theorem Qr6{tt:TypeId}{A N:AH}{n:Nat}(hn:A.length=n)(hb:∀b∈A,b.Below n)(g:Nat)(t:T)(hN:At N g (t.lay tt (n+g))) :
  Pack n (tauG n g) (A++N) (A++t.lay tt n)/\Pk n (tauG n g) (A++t.lay tt n) (t.lv (n+g)) (t.lv n):=by
 have hsh:=shG (L':=t.lay tt n) hn g
 rw[T.QsW]at hsh
 rw[T.Qs6]at hN
 have:=QoX (tt:=tt) hn hb g t.args hN
 rw[<-T.Qs6]at this
 exact⟨this.1,T.pk hsh⟩
end Go.Proofs.YticgcpebdldbgaaGreatDoor.Ab
namespace Go.Proofs.YticgcpebdldbgaaGreatDoor.Ab
def smap(l:List (ByteArray×AV)):List (Value×AV):=l.map fun p=>(.string p.1,p.2)
def sget(x:ByteArray):List (ByteArray×AV)->Option AV
 |[]=>none
 |p::l=>if x=p.1 then some p.2 else sget x l
def supd(x:ByteArray)(v:AV):List (ByteArray×AV)->List (ByteArray×AV)
 |[]=>[(x,v)]
 |p::l=>if x=p.1 then(x,v)::l else p::supd x v l
theorem QqL(a b:ByteArray):(a==b)=decide (a=b):=by
 have h:(a==b)=true↔a=b:=by
  obtain⟨x⟩:=a
  obtain⟨y⟩:=b
  constructor
  ·intro h
   have e:x=y:=by simpa using(show(x==y)=true from h)
   rw[e]
  ·intro h
   cases h
   show(x==x)=true
   simp
 by_cases e:a=b
 ·rw[QuU e];exact h.2 e
 ·rw[QuM e]
  cases hb:a==b with
  |false=>rfl
  |true=>exact(e (h.1 hb)).elim
theorem QkQ(a b:ByteArray):Instr.sameNow .string (.string a) (.string b)=some (decide (a=b)):=by
 rw[<-QqL];rfl
theorem Qio(x:ByteArray):∀l:List (ByteArray×AV),Qhl .string (.string x) (smap l)=some (sget x l)
 |[]=>rfl
 |p::l=>by
  have e:smap (p::l)=(.string p.1,p.2)::smap l:=rfl
  rw[e]
  simp only[Qhl,sget,QkQ]
  by_cases hk:x=p.1
  ·simp only[hk,Qub,QvB]
  ·simp only[hk,Quc,Qvy];exact Qio x l
theorem QkY(x:ByteArray)(v:AV):∀l:List (ByteArray×AV),updA .string (.string x) v (smap l)=some (smap (supd x v l))
 |[]=>rfl
 |p::l=>by
  have e:smap (p::l)=(.string p.1,p.2)::smap l:=rfl
  rw[e]
  simp only[updA,supd,QkQ]
  by_cases hk:x=p.1
  ·simp only[hk,Qub,QvB];rfl
  ·simp only[hk,Quc,Qvy,QkY x v l];rfl
theorem Qi6(x y:ByteArray)(v:AV):∀l:List (ByteArray×AV),sget y (supd x v l)=if y=x then some v else sget y l
 |[]=>rfl
 |p::l=>by
  simp only[supd]
  split
  ·rename_i h
   subst h
   simp only[sget]
   split <;> rfl
  ·rename_i h
   simp only[sget,Qi6 x y v l]
   by_cases hy:y=p.1
   ·rw[QuH hy,QuH hy,QuE (by rintro rfl;exact h hy)]
   ·rw[QuE hy,QuE hy]
theorem QlX(l:List (ByteArray×AV))(n:Nat)(h:∀p∈l,Below n p.2):(AB.map (smap l)).Below n:=by
 intro kv hkv
 simp only[smap,QuZ]at hkv
 obtain⟨p,hp,rfl⟩:=hkv
 exact h p hp
end Go.Proofs.YticgcpebdldbgaaGreatDoor.Ab
namespace Go.Proofs.YticgcpebdldbgaaGreatDoor.Ab
open Go.ChangeShapes Go.WideShapes Go.ChangeAt Go.RowKit
def base0(W:World):Cx:=⟨fun _=>none,[],W⟩
theorem Qb1{H:Type}{enc:TypeId×Value->H}{P:Program}(hl:laidOutB P=true){W W':World}(hb:Go.RowKit.Below W.heap.size W W'){sp:Nat->Bool} :
  ∀(ts:List TypeId) (vs:List Value) (ds:List (DataW H)) (ps:List MemPlace),(∀t∈ts,P.readableRec t=true/\t<P.types.size)->DataW.TrodAll enc P W 0 (fun _=>true) true ts vs ds ps ->
   (∀x∈ps,x.block<W.heap.size/\sp x.block=true)->DataW.TrodAll enc P W' 0 sp true ts vs ds ps
 |[],vs,ds,ps,_,h,_=>by
  obtain⟨rfl,rfl,rfl⟩:=trodAll_nil h
  exact trodAll_mk0
 |t::ts,vs,ds,ps,hp,h,hlt=>by
  obtain⟨v,vs',d,ds',p,q,rfl,rfl,rfl,h1,h2⟩:=trodAll_cons h
  obtain⟨h3,h4⟩:=hp t (by simp)
  exact trodAll_cons_mk (WideElems.Trod_stays hl h3 h4 h1 (fun x hx=>hb.same (hlt x (by simp[hx])).1) (fun x hx=>(hlt x (by simp[hx])).2))
   (Qb1 hl hb ts vs' ds' q (fun t ht=>hp t (by simp[ht])) h2 (fun x hx=>hlt x (by simp[hx])))
theorem Qez{H:Type}{enc:TypeId×Value->H}{P:Program}{W:World}{base:Nat}{sp:Nat->Bool}{held:Bool} :
  ∀{ts:List TypeId} {vs:List Value} {ds:List (DataW H)} {ps:List MemPlace} {ts':List TypeId} {vs':List Value} {ds':List (DataW H)} {ps':List MemPlace},
   DataW.TrodAll enc P W base sp held ts vs ds ps->DataW.TrodAll enc P W base sp held ts' vs' ds' ps'->DataW.TrodAll enc P W base sp held (ts++ts') (vs++vs') (ds++ds') (ps++ps')
 |[],_,_,_,_,_,_,_,h,h'=>by
  obtain⟨rfl,rfl,rfl⟩:=trodAll_nil h
  exact h'
 |t::ts,_,_,_,_,_,_,_,h,h'=>by
  obtain⟨v,vs',d,ds',p,q,rfl,rfl,rfl,h1,h2⟩:=trodAll_cons h
  have:=trodAll_cons_mk h1 (Qez h2 h')
  simpa [Quz]using this
theorem QlI{H:Type}{enc:TypeId×Value->H}{P:Program}{fn:Func}{s:ChangeSpec}{apart fresh handsOn again:Bool}{W W':World}{args:Array Value}{ds gs:List (DataW H)}{before:List MemPlace}{tb:TypeId}
  (hl:laidOutB P=true) (hvars:s.vars=[]) (hr:fn.resultTypes=#[tb]) (hb:P.underlying tb=some .bool) (hp:∀t∈fn.params.toList,P.readableRec t=true/\t<P.types.size)
  (hW:DataW.Whole enc P fn.params.toList s.vars apart W args.toList ds gs before) (hs:s.fn H (ds++gs)={results:=[.lit (.bool true)],args:=ds}) (hbel:Go.RowKit.Below W.heap.size W W') :
  s.post enc P fn apart fresh handsOn again W args (.bool true) W':=by
 have hlt:∀x∈before,x.block<W.heap.size:=fun x hx=>by simpa using hW.lt x hx
 have hW0:=hW
 obtain⟨p,q,hA,hV,rfl,hfz,hnd⟩:=hW
 rw[hvars]at hV
 have hV0:=hV
 obtain⟨rfl,rfl⟩:=trodVars_none hV
 simp only[Qt8]at hlt hfz hnd hW0 hs
 have hres:∀(b:Nat) (sp:Nat->Bool) (hd:Bool),DataW.TrodAll enc P W' b sp hd fn.resultTypes.toList ((Value.bool true).resultList fn.resultTypes.size) [.lit (.bool true)] []:=fun b sp hd=>by
  rw[hr]
  exact trodAll_mk1 (shut_bool hb true)
 have hvs:∀sp:Nat->Bool,DataW.TrodVars enc P W' sp s.vars [] []:=fun sp=>by rw[hvars];rfl
 refine⟨ds,[],p,[],p,[],by simpa using hW0,?_,?_,?_,?_,fun _=>⟨?_,?_⟩⟩
 ·rw[Qt8,hs];exact hres _ _ _
 ·rw[Qt8,hs]
  exact Qb1 hl hbel _ _ _ _ hp hA fun x hx=>⟨hlt x hx,by simpa using hlt x hx⟩
 ·rw[Qt8,hs];exact hvs _
 ·exact hbel.frame _
 ·intro j t r hj hv
  rw[hr]at hj hv
  match j,hj,hv with
  |0,hj,hv =>
   simp only[QtI,QtF,QtL]at hj
   have hv':r = .bool true:=by
    have:(some (Value.bool true))=some r:=hv
    cases this;rfl
   subst hj;subst hv'
   exact okWide_bool_mk hb true
  |j+1,hj,hv=>simp at hj
 ·have hA':=Qb1 (sp:=fun _=>true) hl hbel _ _ _ _ hp hA fun x hx=>⟨hlt x hx,rfl⟩
  refine⟨_,[],[]++p,⟨[]++p,[],Qez (hres 0 _ true) hA',hvs _,by simp,?_,?_⟩,?_⟩
  ·intro b off hm
   have hm':MemPlace.cell b off∈p:=by simpa using hm
   exact(hbel.frozen (p:=⟨b,off,none⟩) (hlt _ hm')).trans (hfz b off hm')
  ·intro ha
   simpa using hnd ha
  ·intro x hx _
   simpa using hx
theorem Qo6(c:Cx):RelL c [] #[]:=⟨rfl,fun j a u h=>by simp at h⟩
theorem QnH{c:Cx}{a:AV}{asx:List AV}{u:Value}{us:List Value}(h:Rel c a u)(hs:RelL c asx us.toArray):RelL c (a::asx) (u::us).toArray:=by
 refine⟨by have:=hs.1;simp at this ⊢;exact this,fun j x v hx hv=>?_⟩
 cases j with
 |zero=>simp at hx hv;subst hx;subst hv;exact h
 |succ j=>exact hs.2 j x v (by simpa using hx) (by simpa using hv)
end Go.Proofs.YticgcpebdldbgaaGreatDoor.Ab
namespace Go.Proofs.YticgcpebdldbgaaGreatDoor.Ab
open Go.RowKit
def HasG(h:AH)(g:Nat)(cs:Array Value):Prop:=∃(i:Nat) (ty:TypeId) (fr:Nat×Nat),h[i]? = some (.glob g cs ty fr)
theorem HasG.app{h:AH}{g:Nat}{cs:Array Value}(H:HasG h g cs)(l:AH):HasG (h++l) g cs:=let ⟨i,ty,fr,e⟩:=H;⟨i,ty,fr,hext e l⟩
theorem HasG.world{c:Cx}(hst:St c){g:Nat}{cs:Array Value}(H:HasG c.h g cs):∃ty fr,c.w.heap[g]? = some (.cells cs ty fr) :=
 let ⟨i,ty,fr,e⟩:=H;⟨ty,fr,(hst.blocks i _ e).2⟩
theorem HasG.kin{c c':Cx}(hev:Ev c c'){g:Nat}{cs:Array Value}(H:HasG c.h g cs):HasG c'.h g cs:=by
 obtain⟨i,ty,fr,e⟩:=H
 obtain⟨b',hb,hk⟩:=hev.kin i _ e
 simp only[Kin]at hk
 obtain⟨rfl,_⟩:=hk
 exact⟨i,ty,fr,hb⟩
structure GV where
 g:Nat
 cs:Array Value
 ty:TypeId
 fr:Nat×Nat
def GV.blk(x:GV):AB:=.glob x.g x.cs x.ty x.fr
def Qe0(W:World)(gs:List GV):Cx:=⟨fun id=>(gs[id]?).map (·.g),gs.map GV.blk,W⟩
theorem Qcb{W:World}{gs:List GV}{id:Nat}{b:AB}(h:(Qe0 W gs).h[id]? = some b):∃x,gs[id]? = some x/\b=x.blk/\(Qe0 W gs).ρ id=some x.g:=by
 simp only[Qe0,Qu2,QuJ]at h ⊢
 obtain⟨x,hx,rfl⟩:=h
 exact⟨x,hx,rfl,x,hx,rfl⟩
theorem Qni{l:List Nat}(hn:l.Nodup){i j a:Nat}(hi:l[i]? = some a)(hj:l[j]? = some a):i=j:=by
 have hp:=List.pairwise_iff_getElem.1 hn
 obtain⟨li,ei⟩:=List.getElem?_eq_some_iff.1 hi
 obtain⟨lj,ej⟩:=List.getElem?_eq_some_iff.1 hj
 rcases Nat.lt_trichotomy i j with h|h|h
 ·exact absurd (ei.trans ej.symm) (hp i j li lj h)
 ·exact h
 ·exact absurd (ej.trans ei.symm) (hp j i lj li h)
theorem Qpk{W:World}{gs:List GV}(hw:∀x∈gs,W.heap[x.g]? = some (.cells x.cs x.ty x.fr))(hn:(gs.map (·.g)).Nodup):St (Qe0 W gs):=by
 refine⟨fun id b h=>?_,fun i j a b B hi hj _ _ hρi hρj=>?_⟩
 ·obtain⟨x,hx,rfl,hρ⟩:=Qcb h
  exact⟨hρ,hw x (QuK hx)⟩
 ·obtain⟨x,hx,rfl,hρ⟩:=Qcb hi
  obtain⟨y,hy,rfl,hρ'⟩:=Qcb hj
  have e:x.g=y.g:=(Qwb (hρ.symm.trans hρi)).trans (Qwb (hρ'.symm.trans hρj)).symm
  have e1:(gs.map (·.g))[i]? = some x.g:=by rw[Qu2,hx];rfl
  have e2:(gs.map (·.g))[j]? = some x.g:=by rw[Qu2,hy,e];rfl
  exact Qni hn e1 e2
theorem Qie{W:World}{gs:List GV}{c:Cx}(hw:∀x∈gs,W.heap[x.g]? = some (.cells x.cs x.ty x.fr))(hst:St c)(h:Ev (Qe0 W gs) c):Go.RowKit.Below W.heap.size W c.w:=by
 refine⟨h.os,h.tape,h.output,h.size,fun k hk=>?_⟩
 by_cases ho:(Qe0 W gs).owns k
 ·obtain⟨id,b,hb,_,hρ⟩:=ho
  obtain⟨x,hx,rfl,hρ'⟩:=Qcb hb
  obtain rfl:=Qwb (hρ.symm.trans hρ')
  obtain⟨b',hb',hk'⟩:=h.kin id _ hb
  simp only[GV.blk,Kin]at hk'
  obtain⟨rfl,_⟩:=hk'
  rw[(hst.blocks id _ hb').2,hw x (QuK hx)]
 ·exact h.frame k hk ho
theorem QnI{W:World}{gs:List GV}{a:AV}{u:Value}(h:Rel (base0 W) a u):Rel (Qe0 W gs) a u:=by
 have hp:∀{B o:Nat} {u:Value},(base0 W).cellP B o u->(Qe0 W gs).cellP B o u:=fun{B o u} h=>⟨h.1,h.2.1,fun id b hb hl hρ=>.inr (by
  obtain⟨x,_,rfl,_⟩:=Qcb hb
  exact⟨_,_,_,_,rfl⟩)⟩
 induction h with
 |v x=>exact .v x
 |junk x=>exact .junk x
 |agg l cs hl h ih=>exact .agg l cs hl ih
 |tup l cs hl h ih=>exact .tup l cs hl ih
 |slnil s own ht=>exact .slnil s own fun b hb=>absurd (ht b hb).1 (by simp[base0])
 |slzero s own ba ht=>exact .slzero s own ba fun b hb=>absurd (ht b hb).1 (by simp[base0])
 |sl s xs own B o cap f hs hcap hmax hc hr ht ih=>exact .sl s xs own B o cap f hs hcap hmax (fun j a hj=>⟨hp (hc j a hj).1,(hc j a hj).2⟩) ih fun b hb=>absurd (ht b hb).1.1 (by simp[base0])
 |pin s xs k off B o f hs hc hr ih=>exact .pin s xs k off B o f hs (fun j a hj=>⟨hp (hc j a hj).1,(hc j a hj).2⟩) ih
 |ptr id k off x hid=>exact absurd hid (by simp[base0])
 |arr id lo len x hid=>exact absurd hid (by simp[base0])
 |row id lo len cap x hid=>exact absurd hid (by simp[base0])
 |mp id x hid=>exact absurd hid (by simp[base0])
 |fn f first cap vs ws h1 h2 hv hw ihv ihw=>exact .fn f first cap vs ws h1 h2 ihv ihw
 |ifc t a u h ih=>exact .ifc t a u ih
 |spt s xs own p n k h ih=>exact .spt s xs own p n k ih
theorem QlL{W:World}{gs:List GV}{asx:List AV}{args:Array Value}(h:RelL (base0 W) asx args):RelL (Qe0 W gs) asx args:=⟨h.1,fun j a u e1 e2=>QnI (h.2 j a u e1 e2)⟩
theorem Qlt{P:Program}{f:FuncId}{asx:List AV}{W:World}{args:Array Value}{gs:List GV}(hw:∀x∈gs,W.heap[x.g]? = some (.cells x.cs x.ty x.fr))(hn:(gs.map (·.g)).Nodup)
  (hc:QA P f asx (gs.map GV.blk) fun o h'=>o = .ret (.v (.bool true))/\h'=gs.map GV.blk) (hr:RelL (Qe0 W gs) asx args) :
  Calls P f args W fun e W'=>e = .returned (.bool true)/\Go.RowKit.Below W.heap.size W W':=by
 refine callsIn_wide.1 ((hc.2 Fence.wide 0 (Qe0 W gs) args WF.wide (Qpk hw hn) rfl hr).mono ?_)
 rintro e w' ⟨o,c',⟨rfl,hh⟩,hev,hst,rfl,hend⟩
 obtain⟨x,rfl,hx⟩:=hend
 cases hx
 exact⟨rfl,Qie hw hst hev⟩
theorem QoD{P:Program}{W:World}{l:List (String×DataW Unit)}(h:laidMetH P l W){x:String×DataW Unit}(hf:((l.filter fun x=>x.2.handleName?.isNone).filter fun y=>y.1==x.1)=[x]):laidMet P [x] W:=by
 have:=(laidMetH_iff.1 h).1.filter fun y=>y.1==x.1
 rwa [hf]at this
theorem Qn5{P:Program}{W:World}{nm:String}{g:Nat}{cs:Array Value}(hn:P.globalNamed nm=some g)(h:W.var? P nm=some cs):∃ty fr,W.heap[g]? = some (.cells cs ty fr):=by
 simp only[World.var?,hn,QtK]at h
 split at h
 ·rename_i cs' ty fr e
  cases h
  exact⟨ty,fr,e⟩
 ·cases h
end Go.Proofs.YticgcpebdldbgaaGreatDoor.Ab
namespace Go.Proofs.YticgcpebdldbgaaGreatDoor.Ab
def Qq8(l:Nat)(J:Act->World->Prop)(Q:Exit->Act->World->Prop):Exit->Act->World->Prop
 | .goto l',a,w=>l'=l/\J a w
 |e,a,w=>Q e a w
theorem QeI{F:Fence}{n:Nat}{P:Program}{Q:Exit->Act->World->Prop}{a:Act}{w:World}{c rest:Code}(l:Nat)(J:Nat->Act->World->Prop)(hf:findLabel c l=some rest)
  (first:c.wpIn F n P (Qq8 l (fun a w=>∃m,J m a w) Q) a w) (pass:∀m a w,J m a w->rest.wpIn F n P (Qq8 l (fun a w=>∃m',m'<m/\J m' a w) Q) a w):(Code.scope c).wpIn F n P Q a w:=by
 intro b k cs hro hb hr
 have h0:(lone (b.atR a (.code (.scope c)::k)) cs w).fenced P F:=fenced_calm hb hr rfl
 have hg:gotoIn l (.inScope c::k)=some (.code rest :: .inScope c::k):=by simp[gotoIn,hf]
 have hx:∀id,exitTo id (.inScope c::k)=exitTo id k:=fun id=>by simp[exitTo]
 have key:∀(M m:Nat) a w,m<M->J m a w->∃e a' w',Q e a' w'/\ArrivesIn (fun x=>x.fenced P F) P (lone (b.atR a (.code rest :: .inScope c::k)) cs w) b k cs e a' w':=by
  intro M
  induction M with
  |zero=>intro m a w hm;omega
  |succ M ih =>
   intro m a w hm hJ
   obtain⟨e,a₁,w₁,hq,harr⟩:=pass m a w hJ b (.inScope c::k) cs hro hb hr
   cases e with
   |normal=>exact⟨.normal,a₁,w₁,hq,StepsIn.trans harr (.one (fenced_calm hb hr rfl) QbY)⟩
   |exit id=>exact⟨.exit id,a₁,w₁,hq,fun k' hk=>harr.1 k' (by rw[hx];exact hk),fun hr' hk=>harr.2 hr' (by rw[hx];exact hk)⟩
   |goto l' =>
    obtain⟨rfl,m',hlt,hJ'⟩:=hq
    obtain⟨e₂,a₂,w₂,hq₂,harr₂⟩:=ih m' a₁ w₁ (by omega) hJ'
    exact⟨e₂,a₂,w₂,hq₂,.of_steps (harr.1 _ hg) harr₂⟩
   |ret=>exact⟨_,a₁,w₁,hq,harr⟩
   |panic ch=>exact⟨_,a₁,w₁,hq,harr⟩
   |outgrown=>exact⟨_,a₁,w₁,hq,harr⟩
 obtain⟨e,a₁,w₁,hq,harr⟩:=first b (.inScope c::k) cs hro hb hr
 cases e with
 |normal=>exact⟨.normal,a₁,w₁,hq,.head h0 YO (StepsIn.trans harr (.one (fenced_calm hb hr rfl) QbY))⟩
 |exit id =>
  exact⟨.exit id,a₁,w₁,hq,fun k' hk=>.head h0 YO (harr.1 k' (by rw[hx];exact hk)),
   fun hr' hk=>let ⟨k₁,h1,h2⟩:=harr.2 hr' (by rw[hx];exact hk);⟨k₁,h1,.head h0 YO h2⟩⟩
 |goto l' =>
  obtain⟨rfl,m,hJ'⟩:=hq
  obtain⟨e₂,a₂,w₂,hq₂,harr₂⟩:=key (m+1) m a₁ w₁ (by omega) hJ'
  exact⟨e₂,a₂,w₂,hq₂,.of_steps (.head h0 YO (harr.1 _ hg)) harr₂⟩
 |ret=>exact⟨_,a₁,w₁,hq,.of_steps (.one h0 YO) harr⟩
 |panic ch=>exact⟨_,a₁,w₁,hq,.of_steps (.one h0 YO) harr⟩
 |outgrown=>exact⟨_,a₁,w₁,hq,.of_steps (.one h0 YO) harr⟩
def Qa1(P:Program)(N l:Nat)(J:AS->Prop)(code:Code)(Q:AExit->AS->Prop)(s:AS):Prop :=
 ∀(F:Fence) (n:Nat) (base:Bs) (c:Cx) (a:Act),WF F->St c->SR N (base,F) c s a ->
  ∀R:Exit->Act->World->Prop,(∀e s' c' a' e',Q e s'->Ev c c'->St c'->SR N (base,F) c' s' a'->ExC c' e e'->R e' a' c'.w) ->
   (∀s' c' a',J s'->Ev c c'->St c'->SR N (base,F) c' s' a'->R (.goto l) a' c'.w)->code.wpIn F n P R a c.w
section
variable{P:Program}{N l:Nat}{J:AS->Prop}{Q:AExit->AS->Prop}{s:AS}
theorem QdM{x:Code}(h:Yr P N x Q s):Qa1 P N l J x Q s:=fun F n base c a hF hs hr R hR _=>h F n base c a hF hs hr R hR
theorem Qlf(h:J s):Qa1 P N l J (.goto l) Q s:=fun F n base c a hF hs hr R _ hJ=>wpIn_goto (hJ s c a h (Ev.refl c) hs hr)
theorem ZQ{x y:Code}(h:Yr P N x (AExit.then (Qa1 P N l J y Q) Q) s):Qa1 P N l J (.seq x y) Q s:=by
 intro F n base c a hF hs hr R hR hJ
 refine wpIn_seq (h F n base c a hF hs hr _ ?_)
 intro e s' c' a' e' hQ hev hst hsr hex
 cases e with
 |normal =>
  cases hex
  exact hQ F n base c' a' hF hst hsr R (fun e s2 c2 a2 e2 hQ2 hev2 hst2 hsr2 hex2=>hR e s2 c2 a2 e2 hQ2 (Ev.trans hs hev hev2) hst2 hsr2 hex2) fun s2 c2 a2 h2 hev2 hst2 hsr2=>hJ s2 c2 a2 h2 (Ev.trans hs hev hev2) hst2 hsr2
 |exit id=>cases hex;exact hR _ s' c' a' _ hQ hev hst hsr rfl
 |ret=>cases hex;exact hR _ s' c' a' _ hQ hev hst hsr rfl
 |panic av=>obtain⟨x,rfl,hx⟩:=hex;exact hR _ s' c' a' _ hQ hev hst hsr ⟨x,rfl,hx⟩
theorem QgA{x y:Code}(h:Qa1 P N l J x (AExit.then (Qa1 P N l J y Q) Q) s):Qa1 P N l J (.seq x y) Q s:=by
 intro F n base c a hF hs hr R hR hJ
 refine wpIn_seq (h F n base c a hF hs hr _ ?_ ?_)
 ·intro e s' c' a' e' hQ hev hst hsr hex
  cases e with
  |normal =>
   cases hex
   exact hQ F n base c' a' hF hst hsr R (fun e s2 c2 a2 e2 hQ2 hev2 hst2 hsr2 hex2=>hR e s2 c2 a2 e2 hQ2 (Ev.trans hs hev hev2) hst2 hsr2 hex2) fun s2 c2 a2 h2 hev2 hst2 hsr2=>hJ s2 c2 a2 h2 (Ev.trans hs hev hev2) hst2 hsr2
  |exit id=>cases hex;exact hR _ s' c' a' _ hQ hev hst hsr rfl
  |ret=>cases hex;exact hR _ s' c' a' _ hQ hev hst hsr rfl
  |panic av=>obtain⟨x,rfl,hx⟩:=hex;exact hR _ s' c' a' _ hQ hev hst hsr ⟨x,rfl,hx⟩
 ·intro s' c' a' h1 hev hst hsr
  exact hJ s' c' a' h1 hev hst hsr
theorem Qgz{o:Operand}{x y:Code}{t:Bool}(ho:s.ev o = .v (.bool t))(h:Qa1 P N l J (if t then x else y) Q s):Qa1 P N l J (.cond o x y) Q s:=by
 intro F n base c a hF hs hr R hR hJ
 have he:=hr.eval o
 rw[ho]at he
 have hx:a.eval o = .bool t:=by
  generalize a.eval o=u at he
  cases he;rfl
 exact wpIn_cond hx (h F n base c a hF hs hr R hR hJ)
theorem Qe5{id:Nat}{x:Code}(h:Qa1 P N l J x (AExit.inBlock id Q) s):Qa1 P N l J (.block id x) Q s:=by
 intro F n base c a hF hs hr R hR hJ
 refine wpIn_block (h F n base c a hF hs hr _ ?_ ?_)
 ·intro e s' c' a' e' hQ hev hst hsr hex
  cases e with
  |normal=>cases hex;exact hR _ s' c' a' _ hQ hev hst hsr rfl
  |exit i =>
   cases hex
   simp only[Exit.inBlock]
   simp only[AExit.inBlock]at hQ
   split
   ·rename_i hi;rw[QuH hi]at hQ;exact hR _ s' c' a' _ hQ hev hst hsr rfl
   ·rename_i hi;rw[QuE hi]at hQ;exact hR _ s' c' a' _ hQ hev hst hsr rfl
  |ret=>cases hex;exact hR _ s' c' a' _ hQ hev hst hsr rfl
  |panic av=>obtain⟨x,rfl,hx⟩:=hex;exact hR _ s' c' a' _ hQ hev hst hsr ⟨x,rfl,hx⟩
 ·intro s' c' a' h1 hev hst hsr
  exact hJ s' c' a' h1 hev hst hsr
theorem Qlg{x:Code}(I:Nat->AS->Prop)(h:∀m s,I m s->Qa1 P N l J x (AExit.then (XB I m) Q) s){m:Nat}(h0:I m s):Qa1 P N l J (.loop x) Q s:=by
 intro F n base c a hF hs hr R hR hJ
 have key:∀(k m:Nat) (s:AS) (c:Cx) (a:Act),m<k->I m s->St c->SR N (base,F) c s a ->
   (∀e s' c' a' e',Q e s'->Ev c c'->St c'->SR N (base,F) c' s' a'->ExC c' e e'->R e' a' c'.w)->(∀s' c' a',J s'->Ev c c'->St c'->SR N (base,F) c' s' a'->R (.goto l) a' c'.w)->Code.roundsIn F n P x R k a c.w:=by
  intro k
  induction k with
  |zero=>intro m _ _ _ hm;omega
  |succ k ih =>
   intro m s c a hm hI hs hr hR hJ
   rw[roundsIn_succ]
   refine h m s hI F n base c a hF hs hr _ ?_ ?_
   ·intro e s' c' a' e' hQ hev hst hsr hex
    cases e with
    |normal =>
     cases hex
     obtain⟨m',hlt,hI'⟩:=hQ
     exact ih m' s' c' a' (by omega) hI' hst hsr (fun e s2 c2 a2 e2 hQ2 hev2 hst2 hsr2 hex2=>hR e s2 c2 a2 e2 hQ2 (Ev.trans hs hev hev2) hst2 hsr2 hex2) fun s2 c2 a2 h2 hev2 hst2 hsr2=>hJ s2 c2 a2 h2 (Ev.trans hs hev hev2) hst2 hsr2
    |exit id=>cases hex;exact hR _ s' c' a' _ hQ hev hst hsr rfl
    |ret=>cases hex;exact hR _ s' c' a' _ hQ hev hst hsr rfl
    |panic av=>obtain⟨x,rfl,hx⟩:=hex;exact hR _ s' c' a' _ hQ hev hst hsr ⟨x,rfl,hx⟩
   ·intro s' c' a' h1 hev hst hsr
    exact hJ s' c' a' h1 hev hst hsr
 exact wpIn_loop_rounds (m+1) (key (m+1) m s c a (by omega) h0 hs hr hR hJ)
end
theorem Qa1.mono{P:Program}{N l:Nat}{J J':AS->Prop}{x:Code}{Q:AExit->AS->Prop}{s:AS}(H:Qa1 P N l J x Q s)(h:∀s,J s->J' s):Qa1 P N l J' x Q s :=
 fun F n base c a hF hs hr R hR hJ=>H F n base c a hF hs hr R hR fun s' c' a' h1=>hJ s' c' a' (h s' h1)
theorem Qle{P:Program}{N l:Nat}{J:AS->Prop}{x:Code}{Q:AExit->AS->Prop}{tm:Nat->AV}{h:AH}(H:Qa1 P N l J x Q ⟨tm,h++[.dead]⟩):Qa1 P N l J x Q ⟨tm,h⟩:=by
 intro F n base c a hF hst hr R hR hJ
 have hh:c.h=h:=hr.h
 subst hh
 have hg:=Grows.refl c.w
 have hev:=Ev.add hst hg .dead none (fun B h=>by cases h)
 have hst2:St (c.add c.w .dead none):=St.add hst hg .dead none (fun B h=>by cases h) trivial
 refine H F n base (c.add c.w .dead none) a hF hst2 ⟨rfl,hr.size,hr.above,hr.defers.ev hev,RoundOk.ev hev hr.round,fun t=>(hr.tm t).ev hst hev⟩ R (fun e' s' c' a' ex hq h1 h2 h3 h4=>hR e' s' c' a' ex hq (Ev.trans hst hev h1) h2 h3 h4) fun s' c' a' hq h1 h2 h3=>hJ s' c' a' hq (Ev.trans hst hev h1) h2 h3
theorem Qe6{P:Program}{N:Nat}{c rest:Code}{Q:AExit->AS->Prop}{s:AS}(l:Nat)(I:Nat->AS->Prop)(hf:findLabel c l=some rest)(first:Qa1 P N l (fun s=>∃m,I m s) c Q s)
  (pass:∀m s,I m s->Qa1 P N l (XB I m) rest Q s):Yr P N (.scope c) Q s:=by
 intro F n base c0 a hF hs hr R hR
 refine QeI l (fun m a w=>∃s' c',c'.w=w/\I m s'/\Ev c0 c'/\St c'/\SR N (base,F) c' s' a) hf (first F n base c0 a hF hs hr _ ?_ ?_) ?_
 ·intro e s' c' a' e' hQ hev hst hsr hex
  cases e with
  |normal=>cases hex;exact hR _ s' c' a' _ hQ hev hst hsr rfl
  |exit id=>cases hex;exact hR _ s' c' a' _ hQ hev hst hsr rfl
  |ret=>cases hex;exact hR _ s' c' a' _ hQ hev hst hsr rfl
  |panic av=>obtain⟨x,rfl,hx⟩:=hex;exact hR _ s' c' a' _ hQ hev hst hsr ⟨x,rfl,hx⟩
 ·rintro s' c' a' ⟨m,hI⟩ hev hst hsr
  exact⟨rfl,m,s',c',rfl,hI,hev,hst,hsr⟩
 ·rintro m a1 w1 ⟨s1,c1,rfl,hI,hev1,hst1,hsr1⟩
  refine pass m s1 hI F n base c1 a1 hF hst1 hsr1 _ ?_ ?_
  ·intro e s' c' a' e' hQ hev hst hsr hex
   have hev':=Ev.trans hs hev1 hev
   cases e with
   |normal=>cases hex;exact hR _ s' c' a' _ hQ hev' hst hsr rfl
   |exit id=>cases hex;exact hR _ s' c' a' _ hQ hev' hst hsr rfl
   |ret=>cases hex;exact hR _ s' c' a' _ hQ hev' hst hsr rfl
   |panic av=>obtain⟨x,rfl,hx⟩:=hex;exact hR _ s' c' a' _ hQ hev' hst hsr ⟨x,rfl,hx⟩
  ·rintro s' c' a' ⟨m',hlt,hI'⟩ hev hst hsr
   exact⟨rfl,m',hlt,s',c',rfl,hI',Ev.trans hs hev1 hev,hst,hsr⟩
theorem Qij{P:Program}{N:Nat}{c x:Code}{Q:AExit->AS->Prop}{s:AS}(l:Nat)(I:Nat->AS->Prop)(hf:findLabel c l=some (.seq .skip x))
  (first:(∀s,(∃m,I m s)->Qa1 P N l (fun s=>∃m,I m s) x Q s)->Qa1 P N l (fun s=>∃m,I m s) c Q s)
  (pass:∀m s,I m s->Qa1 P N l (XB I m) x Q s):Yr P N (.scope c) Q s :=
 Qe6 l I hf (first fun s ⟨m,h⟩=>(pass m s h).mono fun _ ⟨m',_,h'⟩=>⟨m',h'⟩) fun m s h=>ZQ (QE (pass m s h))
end Go.Proofs.YticgcpebdldbgaaGreatDoor.Ab
namespace Go.Proofs.YticgcpebdldbgaaGreatDoor.Ab
theorem QmI{P:Program}{c:Cx}(hst:St c){g:Nat}{cs:Array Value}(hg:HasG c.h g cs){t:TypeId}(ht:XX P t=some (true,cs.size))(h1:cs.toList.all Value.oneCell'=true) :
  (Instr.loadAt t (.pointer (some ⟨g,0,none⟩))).run P c.w = .ok (.agg cs) c.w:=by
 obtain⟨ty,fr,hc⟩:=hg.world hst
 obtain⟨hagg,hsize⟩:=Qa7 ht c.w
 have hcell:∀j,j<cs.size->c.w.cell? ((⟨g,0,none⟩:Addr).add j)=some (cs.getD j undef):=fun j hj=>by
  rw[addr_add,QtR,Ys hc,QuO,QuV hj];rfl
 have hr:=run_loadCells (P:=P) c.w ⟨g,0,none⟩ cs.size (fun j=>cs.getD j undef) hcell
 simp only[Instr.loadAt,Instr.sureAddr,loadVar,Sem.run_bind,Sem.run_pure,Result.andThen_ok,hagg,hsize,Sem.run_ite,QvB,hr]
 congr 2
 apply Array.ext
 ·simp
 ·intro i h2 h3
  simp[QuO,QuV h3]
def Qoe(P:Program)(N:Nat)(ops:Array Oper)(o:Oper)(K:AS->Prop)(s:AS):Prop :=
 match QN ops s.tm o with
 |some true=>(match o.op with
  | .load t x=>∃g cs,s.ev x = .v (.pointer (some ⟨g,0,none⟩))/\HasG s.h g cs/\XX P t=some (true,cs.size)/\cs.toList.all Value.oneCell'=true/\K (AS.put N s o.dst (.v (.agg cs)))
  |_=>False)
 |some false=>K (AS.put N s o.dst (.v undef))
 |none=>False
theorem Qjx{P:Program}{N:Nat}{base:Bs×Fence}{o:Oper}{s:AS}{t:TypeId}{x:Operand}{g:Nat}{cs:Array Value}(hop:o.op = .load t x)(hx:s.ev x = .v (.pointer (some ⟨g,0,none⟩)))(hg:HasG s.h g cs)(ht:XX P t=some (true,cs.size))(h1:cs.toList.all Value.oneCell'=true){K:AS->Prop}
  (H:K (AS.put N s o.dst (.v (.agg cs)))) {F:Fence} {n:Nat} {c:Cx} {a:Act} (hF:WF F) (hst:St c) (hr:SR N base c s a)
  {next:Act->World->Prop} {Qx:Exit->Act->World->Prop} (hK:∀s' c' a',K s'->Ev c c'->St c'->SR N base c' s' a'->next a' c'.w):o.wpIn F n P a c.w next Qx:=by
 refine⟨fun f _=>hF.fn f,?_⟩
 rw[Oper.semAt_eq _ _ _ (fun q=>by rw[hop];intro h;cases h)]
 have he:=hr.eval x
 rw[hx]at he
 have hu:a.eval x = .pointer (some ⟨g,0,none⟩):=by
  generalize a.eval x=u at he
  cases he;rfl
 have hl:=QmI (P:=P) hst (by rw[hr.h];exact hg) ht h1
 have hrun':(execOp a.eval o).run P c.w = .ok (.value (.agg cs)) c.w:=by
  simp only[execOp,hop,hu,Sem.run_bind,hl,Result.andThen_ok,Sem.run_pure]
 rw[hrun']
 have hp:=hr.put hst (Ev.refl c) o.dst (.v (.agg cs))
 rw[hr.h]at hp
 exact hK _ c _ H (Ev.refl c) hst hp
theorem QdN{P:Program}{N:Nat}{Q:AExit->AS->Prop}{s:AS}{id:Nat}{ops:Array Oper}(i:Nat){o:Oper}(ho:ops.toList[i]? = some o)
  (H:∀(K:AS->Prop) (E:AV->AS->Prop),(∀s,Q .normal s->K s)->(∀r s,Q (.panic r) s->E r s)->OpsW P N ops (ops.toList.take i) (Qoe P N ops o (OpsW P N ops (ops.toList.drop (i+1)) K E)) E s):Yr P N (.region id ops false) Q s:=by
 intro F n base c a hF hst hr R hR
 refine wpIn_region ?_
 have hlt:=Qf ho
 have hH:=H (fun s'=>Q .normal s') (fun r s'=>Q (.panic r) s') (fun _ h=>h) (fun _ _ h=>h)
 have hi:(ops.toList.take i).length=i:=by rw[QuY];omega
 have hrange:List.range ops.size=List.range' 0 (ops.toList.take i).length++(i::(List.range' (i+1) (ops.toList.drop (i+1)).length++[])):=by
  rw[hi,Qt8,QuX,QvW,<-Qvd]
  have:ops.toList.length=i+(1+(ops.toList.length - (i+1))):=by omega
  conv=>lhs;rw[this]
  rw[<-Qv2,QtR,<-Qv2]
  rfl
 have hget:∀j,(ops.toList.drop (i+1))[j]? = ops[i+1+j]? := fun j=>by rw[Qu7];simp
 rw[hrange]
 refine Qcs hF (ops.toList.take i) 0 s c a (fun j hj=>by rw[Qv9,QuH (by omega)];simp) hH hst hr ?_ ?_
 ·intro s1 c1 a1 h1 h2 h3 h4
  have h0:ops[i]? = some o:=by rw[<-ho];simp
  have hrest:∀s2 c2 a2,OpsW P N ops (ops.toList.drop (i+1)) (fun s'=>Q .normal s') (fun r s'=>Q (.panic r) s') s2->Ev c c2->St c2->SR N (base,F) c2 s2 a2->wpOpsIn F n P ops R (List.range' (i+1) (ops.toList.drop (i+1)).length++[]) a2 c2.w:=by
   intro s2 c2 a2 hq he2 hst2 hr2
   refine Qcs hF _ (i+1) s2 c2 a2 (fun j _=>hget j) hq hst2 hr2 ?_ ?_
   ·intro s' c' a' hQ k1 k2 k3
    simp only[wpOpsIn]
    exact hR _ s' c' a' _ hQ (Ev.trans hst he2 k1) k2 k3 rfl
   ·intro r s' c' a' x hQ k1 k2 k3 hx
    exact hR _ s' c' a' _ hQ (Ev.trans hst he2 k1) k2 k3 ⟨x,rfl,hx⟩
  simp only[wpOpsIn,h0]
  unfold Qoe at h1
  split at h1
  ·rename_i hw
   rw[XY h4 hw]
   simp only[QvB]
   split at h1
   ·rename_i t x hop
    obtain⟨g,cs,g1,g2,g3,g4,g5⟩:=h1
    exact Qjx hop g1 g2 g3 g4 g5 hF h3 h4 fun s' c' a' hK k1 k2 k3=>hrest s' c' a' hK (Ev.trans hst h2 k1) k2 k3
   ·exact h1.elim
  ·rename_i hw
   rw[XY h4 hw]
   simp only[QtJ,Qvy]
   refine⟨fun f _=>hF.fn f,?_⟩
   have hr':=h4.put h3 (Ev.refl c1) o.dst (.v undef)
   rw[h4.h]at hr'
   exact hrest _ c1 _ h1 h2 h3 hr'
  ·exact h1.elim
 ·intro r s' c' a' x hQ h1 h2 h3 hx
  exact hR _ s' c' a' _ hQ h1 h2 h3 ⟨x,rfl,hx⟩
theorem Qf8{P:Program}{N:Nat}{Q:AExit->AS->Prop}{s:AS}{id:Nat}{ops:Array Oper}{y:Code}(i:Nat){o:Oper}(ho:ops.toList[i]? = some o)
  (H:∀(K:AS->Prop) (E:AV->AS->Prop),(∀s,Yr P N y Q s->K s)->(∀r s,Q (.panic r) s->E r s)->OpsW P N ops (ops.toList.take i) (Qoe P N ops o (OpsW P N ops (ops.toList.drop (i+1)) K E)) E s):Yr P N (.seq (.region id ops false) y) Q s :=
 Qav (QdN i ho (fun K E hK hE=>H K E hK hE))
end Go.Proofs.YticgcpebdldbgaaGreatDoor.Ab
namespace Go.Proofs.YticgcpebdldbgaaGreatDoor.Ab
open Go.Lib
theorem Qpt{a b:ByteArray}(h:a.data.toList=b.data.toList):a=b:=by
 obtain⟨a⟩:=a;obtain⟨b⟩:=b
 congr 1
 exact Array.toList_inj.1 h
end Go.Proofs.YticgcpebdldbgaaGreatDoor.Ab
namespace Go.Proofs.YticgcpebdldbgaaGreatDoor.Ab
open Go.Proofs
structure Pz where
 all:List Tk
 i:Nat
 j:Nat
 g:Nat
def Tk.av(t:Tk):AV:=.agg [.i t.kind,.i t.pos,.v (.string t.text)]
def tks(l:List Tk):List AV:=l.map Tk.av
def strs(l:List ByteArray):List AV:=l.map fun s=>.v (.string s)
theorem Yp(l:List ByteArray):(strs l).length=l.length:=Qu6 _
theorem Qbh(l m:List ByteArray):strs (l++m)=strs l++strs m:=Qvr
theorem QkU(x:ByteArray):strs [x]=[.v (.string x)]:=rfl
theorem Qas(l:List Tk):(tks l).length=l.length:=Qu6 _
theorem QbE(n:Nat)(l:List ByteArray):∀a∈flat (strs l),Below n a:=by
 intro a ha
 simp only[flat,strs,Qv1,QuZ]at ha
 obtain⟨x,⟨y,_,rfl⟩,hx⟩:=ha
 simp only[AV.cells,Qvt]at hx
 subst hx
 exact .v _
theorem Qb0(n:Nat)(l:List Tk):∀a∈flat (tks l),Below n a:=by
 intro a ha
 simp only[flat,tks,Qv1,QuZ]at ha
 obtain⟨x,⟨y,_,rfl⟩,hx⟩:=ha
 simp only[Tk.av,AV.cells,QuL,QuS,Qvz]at hx
 rcases hx with rfl|rfl|rfl <;> exact .v _
theorem Tk.QsS(t:Tk):t.av.cells=[.i t.kind,.i t.pos,.v (.string t.text)]:=rfl
theorem Tk.QsT(t:Tk):t.av.isAgg=true:=rfl
def QgL(m:List (ByteArray×AV))(p:ByteArray×Nat):List (ByteArray×AV):=if p.1.toList≠[95]/\(sget p.1 m).isSome=true then m else supd p.1 (.i (p.2:Nat)) m
def kn(names:List ByteArray):List (ByteArray×AV):=names.zipIdx.foldl QgL []
theorem QmY(names:List ByteArray)(x:ByteArray):kn (names++[x])=QgL (kn names) (x,names.length):=by
 rw[kn,List.zipIdx_append,List.foldl_append,QtR];rfl
theorem Qhw(l m:List ByteArray)(x:ByteArray):nameAt (l++m) x=if nameAt l x<l.length then nameAt l x else l.length+nameAt m x:=by
 unfold nameAt
 rw[List.findIdx_append]
 split
 ·rfl
 ·omega
theorem toList_inj{x y:ByteArray}(h:x.toList=y.toList):x=y:=by
 rw[Lib.toList_data,Lib.toList_data]at h
 exact Qpt h
theorem Qku(x:ByteArray)(hx:x.toList≠[95]):∀(n:Nat) (names:List ByteArray),names.length=n->sget x (kn names)=if nameAt names x<names.length then some (.i (nameAt names x:Nat))else none
 |0,names,h=>by
  obtain rfl:=Qwi h
  rfl
 |n+1,names,h=>by
  have hne:names≠[]:=by rintro rfl;cases h
  obtain⟨l,y,rfl⟩:∃l' u,names=l'++[u]:=⟨_,_,(List.dropLast_concat_getLast hne).symm⟩
  have hl:l.length=n:=by simpa using h
  have ih:=Qku x hx n l hl
  rw[QmY,Qhw,Quw,QvE]
  have h1:nameAt [y] x=if y=x then 0 else 1:=by
   unfold nameAt
   rw[List.findIdx_cons,List.findIdx_nil]
   by_cases e:y=x
   ·subst e;simp
   ·rw[QuE e,show(y.toList==x.toList)=false by simpa using fun q=>e (toList_inj q)];rfl
  unfold QgL
  by_cases hc:y.toList≠[95]/\(sget y (kn l)).isSome=true
  ·rw[QuH hc,ih]
   by_cases hf:nameAt l x<l.length
   ·simp only[QuH hf];rw[QuH (by omega)]
   ·simp only[QuE hf,h1]
    by_cases e:y=x
    ·subst e
     rw[ih,QuE hf]at hc
     exact absurd hc.2 (by simp)
    ·rw[QuE e,QuE (by omega)]
  ·rw[QuE hc,Qi6,ih]
   by_cases hf:nameAt l x<l.length
   ·simp only[QuH hf]
    rw[QuH (show nameAt l x<l.length+1 by omega)]
    by_cases e:x=y
    ·subst e
     exact absurd ⟨hx,by rw[ih,QuH hf];rfl⟩ hc
    ·rw[QuE e]
   ·simp only[QuE hf,h1]
    by_cases e:x=y
    ·subst e;simp only[QvB];rw[QuH (by omega)];rfl
    ·have e2:¬y=x:=fun q=>e q.symm
     simp only[QuE e,QuE e2]
     rw[QuE (by omega)]
theorem Qqj(names:List ByteArray):∀p∈kn names,∃k:Nat,p.2 = .i k:=by
 have hsup:∀(x:ByteArray) (k:Nat) (m:List (ByteArray×AV)),(∀p∈m,∃k:Nat,p.2 = .i k)->∀p∈supd x (.i k) m,∃k:Nat,p.2 = .i k:=by
  intro x k m
  induction m with
  |nil=>intro _ p hp;simp only[supd,Qvt]at hp;subst hp;exact⟨k,rfl⟩
  |cons q m ih =>
   intro hm p hp
   simp only[supd]at hp
   split at hp
   ·rcases QuL.1 hp with rfl|hp
    ·exact⟨k,rfl⟩
    ·exact hm p (Qwr _ hp)
   ·rcases QuL.1 hp with rfl|hp
    ·exact hm p (List.mem_cons_self ..)
    ·exact ih (fun p hp=>hm p (Qwr _ hp)) p hp
 have key:∀(l:List (ByteArray×Nat)) (m:List (ByteArray×AV)),(∀p∈m,∃k:Nat,p.2 = .i k)->∀p∈l.foldl QgL m,∃k:Nat,p.2 = .i k:=by
  intro l
  induction l with
  |nil=>intro m hm;exact hm
  |cons q l ih =>
   intro m hm
   rw[List.foldl_cons]
   refine ih _ ?_
   unfold QgL
   split
   ·exact hm
   ·exact hsup _ _ _ hm
 exact key _ [] (by simp)
def pB(P:Pz)(s:PS):AB:=.cells 61 4 [.agg [.sl 3 (tks P.all) none,.i ((P.all.length - s.toks.length:Nat):Int),.sl 1 (strs s.names) (some P.g),.mp P.j]]
def kB(s:PS):AB:=.map (smap (kn s.names))
def gB(s:PS):AB:=.grow 9 1 s.names.length
def ph(h:AH)(P:Pz)(s:PS):AH:=((h.set P.i (pB P s)).set P.j (kB s)).set P.g (gB s)
structure Pz.ok (P:Pz) (h:AH):Prop where
 i:P.i<h.length
 j:P.j<h.length
 g:P.g<h.length
 ij:P.i≠P.j
 ig:P.i≠P.g
 jg:P.j≠P.g
theorem Pz.ok.app{P:Pz}{h:AH}(H:P.ok h)(L:AH):P.ok (h++L):=⟨by rw[Quw];have:=H.i;omega,by rw[Quw];have:=H.j;omega,by rw[Quw];have:=H.g;omega,H.ij,H.ig,H.jg⟩
theorem Xv(h:AH)(P:Pz)(s:PS):(ph h P s).length=h.length:=by simp[ph]
section
variable{h:AH}{P:Pz}(H:P.ok h)
include H
theorem XH(s:PS)(L:AH):ph (h++L) P s=ph h P s++L:=by
 unfold ph
 rw[QuN _ _ H.i,QuN _ _ (by simpa using H.j),QuN _ _ (by simpa using H.g)]
theorem YW(s:PS):(ph h P s)[P.i]? = some (pB P s):=by
 unfold ph
 rw[Quy (Qvw H.ig),Quy (Qvw H.ij),QuF H.i]
theorem Qqq(s:PS):(ph h P s)[P.j]? = some (kB s):=by
 unfold ph
 rw[Quy (Qvw H.jg),QuF (by simpa using H.j)]
theorem Qr7(s:PS):(ph h P s)[P.g]? = some (gB s):=by
 unfold ph
 rw[QuF (by simpa using H.g)]
theorem ph_i(s:PS)(L:AH):(ph h P s++L)[P.i]? = some (pB P s):=by rw[Qux (by rw[Xv];exact H.i)];exact YW H s
theorem Qqr{s s':PS}(hn:s'.names=s.names):(ph h P s).set P.i (pB P s')=ph h P s':=by
 unfold ph
 rw[Qwp _ _ (Qvw H.ig),Qwp _ _ (Qvw H.ij),Qwf]
 simp only[kB,gB,hn]
theorem Qrm{s s':PS}(hn:s'.names=s.names)(L:AH):(ph h P s++L).set P.i (pB P s')=ph h P s'++L:=by
 rw[QuN _ _ (by rw[Xv];exact H.i),Qqr H hn]
theorem Qaz{s:PS}{k:Nat}(h1:k≠P.i)(h2:k≠P.j)(h3:k≠P.g):(ph h P s)[k]? = h[k]? := by
 have _u:=H
 unfold ph
 rw[Quy (Qvw h3),Quy (Qvw h2),Quy (Qvw h1)]
theorem QoV(s:PS):(pB P s).Below h.length:=by
 intro a ha
 simp only[flat,Qwc,QwB,Qt8,AV.cells,QuL,QuS,Qvz]at ha
 rcases ha with rfl|rfl|rfl|rfl
 ·exact .sl 3 _ none (Qb0 _ _) (fun b hb=>by cases hb)
 ·exact .v _
 ·exact .sl 1 _ _ (QbE _ _) (fun b hb=>by cases hb;exact H.g)
 ·exact .mp _ H.j
theorem Qkt(s:PS)(n:Nat):(kB s).Below n:=QlX _ _ fun p hp=>by
 have _u:=H
 obtain⟨k,e⟩:=Qqj s.names p hp
 rw[e];exact .v _
theorem QcH{s:PS}{s0:PS}{k:Nat}{b:AB}(hb:(ph h P s)[k]? = some b):(ph h P s0)[k]? = some b\/b.Below h.length:=by
 by_cases h1:k=P.i
 ·subst h1;rw[YW H]at hb;cases hb;exact .inr (QoV H s)
 ·by_cases h2:k=P.j
  ·subst h2;rw[Qqq H]at hb;cases hb;exact .inr (Qkt H s _)
  ·by_cases h3:k=P.g
   ·subst h3;rw[Qr7 H]at hb;cases hb;exact .inr trivial
   ·rw[Qaz H h1 h2 h3]at hb ⊢;exact .inl hb
theorem Yc{s s':PS}{L:AH}{r r':AV}{Q:AV->AH->Prop}(hf:Frz (ph h P s'++L) h.length r r')(hq:Q r' (ph h P s')):Leaves (ph h P s) (ph h P s'++L) r Q:=by
 have e:(ph h P s'++L).take h.length=ph h P s':=by rw[<-Xv h P s',List.take_left]
 refine .inl ⟨h.length,r',by rw[Xv];exact QuD _,by rw[Quw,Xv];omega,.inr fun k b hk=>?_,hf,by rw[e];exact hq⟩
 rw[e]at hk
 exact QcH H hk
end
theorem Yu(h:AH)(P:Pz)(s:PS)(L:AH):(ph h P s++L)[h.length]? = L[0]? := by rw[<-Xv h P s];exact X8 _ _
theorem Zh(h:AH)(P:Pz)(s:PS)(L:AH)(k:Nat):(ph h P s++L)[h.length+k]? = L[k]? := by rw[<-Xv h P s];exact hget _ _ _
theorem X7(h:AH)(P:Pz)(s:PS)(y:AB)(L:AH):(ph h P s++L).set h.length y=ph h P s++L.set 0 y:=by rw[<-Xv h P s];exact Yh _ _ _
theorem YB(h:AH)(P:Pz)(s:PS)(y:AB)(L:AH)(k:Nat):(ph h P s++L).set (h.length+k) y=ph h P s++L.set k y:=by rw[<-Xv h P s];exact hset _ _ _ _
end Go.Proofs.YticgcpebdldbgaaGreatDoor.Ab
namespace Go.Proofs.YticgcpebdldbgaaGreatDoor.Ab
open Go.Proofs
theorem QcM(n:Nat)(t:Tk):Below n t.av:=.agg _ fun a ha=>by
 simp only[QuL,QuS,Qvz]at ha
 rcases ha with rfl|rfl|rfl <;> exact .v _
theorem Qjf{s:PS}(h:s.wf):s.toks≠[]:=by
 obtain⟨l,e,hl,_⟩:=h
 rw[hl];simp
theorem QkV{all:List Tk}{s:PS}(hW:Wst all s):all.length - s.toks.length<all.length/\(tks all)[all.length - s.toks.length]? = some s.tk.av:=by
 obtain⟨pre,hp⟩:=hW.suf
 cases ht:s.toks with
 |nil=>exact absurd ht (Qjf hW.wf)
 |cons t r =>
  rw[ht]at hp
  have e:s.tk=t:=by unfold PS.tk;rw[ht];rfl
  subst hp
  have hl:(pre++t::r).length - (t::r).length=pre.length:=by rw[Quw];omega
  rw[hl,e]
  refine⟨by rw[Quw,QtS];omega,?_⟩
  rw[tks,Qu2,QuB (QuD _),Qu9];rfl
section
variable{P:Pz}{s:PS}(hW:Wst P.all s){X:AH}(hX:X[P.i]? = some (pB P s))
include hW hX
theorem QpK(L:AH):(X++L)[P.i]? = some (pB P s):=by have _u:=hW;rw[Qux (Qf hX)];exact hX
theorem YD:QA Tryz.prog 20 [.ptr P.i 0 0] X fun o h'=>o = .ret s.tk.av/\h'=X:=by
 obtain⟨h1,h2⟩:=QkV hW
 have hi:=QpK hW hX
 have hi0:=hX
 rw[pB]at hi0
 simp only[pB]at hi
 have e1:=Tk.QsS s.tk
 have e2:=Tk.QsT s.tk
 generalize P.all.length - s.toks.length=k at *
 refine Qa Tryz.func20 rfl Tryz.call20 Tryz.ntmps20 Tryz.results20 (by simp) ?_
 repeat first|(first|refine Qi (id:=1) [(0,0),(1,0),(2,0),(3,0),(4,0),(5,0),(6,0),(7,0),(8,0),(9,0),(10,2)] mixed (by kernel_rfl) fun K hK=>?_|refine Qb ?_);simp only[go_sem,seval,hi,h1,h2,Qas,e1,e2]|refine hK _ ?_;clear hK
 exact Qc (htake _ _) (.keep (QcM _ _)) ⟨rfl,rfl⟩
end
def Fl(p e:Int):AV:=.ifc 90 (.agg [.i p,.i e])
theorem QcA(n:Nat)(p e:Int):Below n (Fl p e):=.ifc _ _ (.agg _ fun a ha=>by
 simp only[QuL,QuS,Qvz]at ha
 rcases ha with rfl|rfl <;> exact .v _)
theorem ZS(t:Tk)(e:Int)(a:AV)(X:AH):QA Tryz.prog 45 [a,t.av,.i e] X fun o h'=>o = .panic (Fl t.pos e)/\h'=X:=by
 have e1:=Tk.QsS t
 have e2:=Tk.QsT t
 have hu:=Tryz.underlying90
 refine Qa Tryz.func45 rfl Tryz.call45 Tryz.ntmps45 Tryz.results45 (by simp) ?_
 repeat refine Qb ?_;simp only[go_sem,seval,e1,hu]
 exact Qc (htake _ _) (.keep (QcA _ _ _)) ⟨rfl,rfl⟩
section
variable{P:Pz}{s:PS}(hW:Wst P.all s){X:AH}(hX:X[P.i]? = some (pB P s))
include hW hX
theorem nextL(L:AH):QA Tryz.prog 20 [.ptr P.i 0 0] (X++L) fun o h'=>o = .ret s.tk.av/\h'=X++L:=YD hW (QpK hW hX L)
theorem QmV(b:ByteArray):QA Tryz.prog 68 [.ptr P.i 0 0,.v (.string b)] X fun o h'=>o = .ret (.b (s.is b.toList))/\h'=X:=by
 have cn:=YD hW hX
 have cl:=nextL hW hX
 have e1:=Tk.QsS s.tk
 have e2:=Tk.QsT s.tk
 refine Qa Tryz.func68 rfl Tryz.call68 Tryz.ntmps68 Tryz.results68 (by simp) ?_
 by_cases hk:s.tk.kind=4
 ·have z1:(s.tk.kind==4)=true:=by simpa using hk
  repeat (first|refine FunW.QsR cn ?_|refine Qb ?_);simp only[go_sem,seval,e1,e2,z1]
  exact Qc (htake _ _) (.keep (.v _)) ⟨by rw[PS.is,z1,Qup],rfl⟩
 ·have z1:(s.tk.kind==4)=false:=by simpa using hk
  repeat (first|refine FunW.QsR cn ?_|refine Qb ?_);simp only[go_sem,seval,e1,e2,z1]
  exact Qc (htake _ _) (.keep (.v _)) ⟨by rw[PS.is,z1,Qwl],rfl⟩
end
end Go.Proofs.YticgcpebdldbgaaGreatDoor.Ab
namespace Go.Proofs.YticgcpebdldbgaaGreatDoor.Ab
open Go.Proofs
def rdB(all:List Tk)(tok:Option Nat)(s:PS)(pos e:Int):AB:=.cells 69 5 [.agg [.sl 3 (tks all) none,.i ((all.length - s.toks.length:Nat):Int),.sl 1 (strs s.names) tok,.i pos,.i e]]
theorem Qbe{n:Nat}(all:List Tk){tok:Option Nat}(ht:∀g,tok=some g->g<n)(s:PS)(pos e:Int):(rdB all tok s pos e).Below n:=by
 intro a ha
 simp only[flat,Qwc,QwB,Qt8,AV.cells,QuL,QuS,Qvz]at ha
 rcases ha with rfl|rfl|rfl|rfl|rfl
 ·exact .sl 3 _ none (Qb0 _ _) (fun b hb=>by cases hb)
 ·exact .v _
 ·exact .sl 1 _ _ (QbE _ _) (fun b hb=>ht b hb)
 ·exact .v _
 ·exact .v _
theorem QhO(n:Nat)(x:ByteArray)(b:Bool):Below n (.tup [.v (.string x),.b b]):=.tup _ fun a ha=>by
 simp only[QuL,QuS,Qvz]at ha
 rcases ha with rfl|rfl <;> exact .v _
def RC(P:Program)(f:FuncId)(args:List AV)(i:Nat)(tok:Option Nat)(x:AB)(r:AV)(y:AB):Prop :=
 ∀h:AH,i<h.length->(∀g,tok=some g->g<h.length)->QA P f args (hs h i x) fun o h'=>o = .ret r/\h'=hs h i y
theorem RC.app{P:Program}{f:FuncId}{args:List AV}{i:Nat}{tok:Option Nat}{x y:AB}{r:AV}(H:RC P f args i tok x r y){h:AH}(hi:i<h.length)(ht:∀g,tok=some g->g<h.length)(L:AH) :
  QA P f args (hs h i x++L) fun o h'=>o = .ret r/\h'=hs h i y++L:=by
 have:=H (h++L) (by rw[Quw];omega) (fun g hg=>by rw[Quw];have:=ht g hg;omega)
 rwa [Qkp hi,Qkp hi]at this
section
variable{all:List Tk}{tok:Option Nat}{s:PS}(hW:Wst all s)(hN:all.length<=1000000)(i:Nat)
theorem Qo5{h:AH}{i:Nat}(hi:i<h.length)(all:List Tk)(tok:Option Nat)(s:PS)(pos e:Int)(L:AH):(hs h i (rdB all tok s pos e)++L)[i]? = some (.cells 69 5 [.agg [.sl 3 (tks all) none,.i ((all.length - s.toks.length:Nat):Int),.sl 1 (strs s.names) tok,.i pos,.i e]]):=QjA hi _ L
theorem QnD{h:AH}{i:Nat}(hi:i<h.length)(all:List Tk)(tok:Option Nat)(s:PS)(pos e:Int):(hs h i (rdB all tok s pos e))[i]? = some (.cells 69 5 [.agg [.sl 3 (tks all) none,.i ((all.length - s.toks.length:Nat):Int),.sl 1 (strs s.names) tok,.i pos,.i e]]):=QpA hi _
include hW in
theorem Qd7(pos e:Int):RC Tryz.prog 26 [.ptr i 0 0] i tok (rdB all tok s pos e) s.tk.av (rdB all tok s pos e):=by
 intro h hi ht
 obtain⟨h1,h2⟩:=QkV hW
 have f1:=fun x=>Qb4 h i x
 have f2:=Qo5 hi all tok s pos e
 have f4:=fun x L=>Qhq (h:=h) (i:=i) x L
 have f6:=fun x y L=>Qkq (h:=h) (i:=i) x y L
 have e1:=Tk.QsS s.tk
 have e2:=Tk.QsT s.tk
 generalize all.length - s.toks.length=k at *
 refine Qa Tryz.func26 rfl Tryz.call26 Tryz.ntmps26 Tryz.results26 (by simp) ?_
 repeat first|(first|refine Qi (id:=1) [(0,0),(1,0),(2,0),(3,0),(4,0),(5,0),(6,0),(7,0),(8,0),(9,0),(10,2)] mixed (by kernel_rfl) fun K hK=>?_|refine Qb ?_);simp only[go_sem,seval,f1,f2,f4,f6,h1,h2,Qas,e1,e2]|refine hK _ ?_;clear hK
 exact Yi (Qbe _ ht _ _ _) (.keep (QcM _ _)) ⟨rfl,rfl⟩
include hW in
theorem QpO(pos e:Int)(b:ByteArray):RC Tryz.prog 52 [.ptr i 0 0,.v (.string b)] i tok (rdB all tok s pos e) (.b (s.is b.toList)) (rdB all tok s pos e):=by
 intro h hi ht
 have ct:=(Qd7 (tok:=tok) hW i pos e).app hi ht
 have ct0:=Qd7 (tok:=tok) hW i pos e h hi ht
 have e1:=Tk.QsS s.tk
 have e2:=Tk.QsT s.tk
 refine Qa Tryz.func52 rfl Tryz.call52 Tryz.ntmps52 Tryz.results52 (by simp) ?_
 by_cases hk:s.tk.kind=4
 ·have z1:(s.tk.kind==4)=true:=by simpa using hk
  repeat (first|refine FunW.QsR ct0 ?_|refine Qb ?_);simp only[go_sem,seval,e1,e2,z1]
  exact .inr ⟨by rw[PS.is,z1,Qup],rfl⟩
 ·have z1:(s.tk.kind==4)=false:=by simpa using hk
  repeat (first|refine FunW.QsR ct0 ?_|refine Qb ?_);simp only[go_sem,seval,e1,e2,z1]
  exact .inr ⟨by rw[PS.is,z1,Qwl],rfl⟩
def PS.wrd(s:PS)(b:List UInt8):Bool:=(s.tk.kind==1)&&(s.tk.text.toList==b)
include hW in
theorem Qph(pos e:Int)(b:ByteArray):RC Tryz.prog 24 [.ptr i 0 0,.v (.string b)] i tok (rdB all tok s pos e) (.b (s.wrd b.toList)) (rdB all tok s pos e):=by
 intro h hi ht
 have ct0:=Qd7 (tok:=tok) hW i pos e h hi ht
 have e1:=Tk.QsS s.tk
 have e2:=Tk.QsT s.tk
 refine Qa Tryz.func24 rfl Tryz.call24 Tryz.ntmps24 Tryz.results24 (by simp) ?_
 by_cases hk:s.tk.kind=1
 ·have z1:(s.tk.kind==1)=true:=by simpa using hk
  repeat (first|refine FunW.QsR ct0 ?_|refine Qb ?_);simp only[go_sem,seval,e1,e2,z1]
  exact .inr ⟨by rw[PS.wrd,z1,Qup],rfl⟩
 ·have z1:(s.tk.kind==1)=false:=by simpa using hk
  repeat (first|refine FunW.QsR ct0 ?_|refine Qb ?_);simp only[go_sem,seval,e1,e2,z1]
  exact .inr ⟨by rw[PS.wrd,z1,Qwl],rfl⟩
include hW hN in
theorem QhP(pos e:Int):RC Tryz.prog 53 [.ptr i 0 0] i tok (rdB all tok s pos e) (.tup []) (rdB all tok s.nx pos e):=by
 intro h hi ht
 have f2:=QnD hi all tok s pos e
 have hsu:=hW.suf.length_le
 obtain⟨l,z,hl,hz,ha⟩:=hW.wf
 have w1:IntKind.i64.wrap (((all.length:Nat):Int) - 1)=((all.length - 1:Nat):Int):=by
  have:0<s.toks.length:=by rw[hl];simp
  rw[Ya (by omega)];omega
 cases l with
 |nil =>
  have en:s.nx=s:=by
   show PS.mk _ s.names=s
   have:s=⟨s.toks,s.names⟩:=rfl
   rw[this];exact Qvq (fun x=>PS.mk x s.names) (by simp only[hl,Qt6])
  rw[en]
  have hl1:s.toks.length=1:=by rw[hl];rfl
  have z1:¬(((all.length - s.toks.length:Nat):Int)<((all.length - 1:Nat):Int)):=by omega
  refine Qa Tryz.func53 rfl Tryz.call53 Tryz.ntmps53 Tryz.results53 (by simp) ?_
  repeat first|(first|refine Qi (id:=0) [(0,0),(1,0),(2,0),(3,0),(4,0),(5,0),(6,0),(7,0),(8,0),(9,0),(10,0)] mixed (by kernel_rfl) fun K hK=>?_|refine Qb ?_);simp only[go_sem,seval,f2,Qas,w1,z1]|refine hK _ ?_;clear hK
  exact .inr ⟨rfl,rfl⟩
 |cons t l =>
  have hl2:s.toks.length=l.length+2:=by rw[hl];simp
  have hl3:s.nx.toks.length+1=s.toks.length:=by
   have:s.tk.kind≠0:=by
    have:s.tk=t:=by simp only[PS.tk,hl,Qt7,Qvm]
    rw[this];exact ha t (by simp)
   exact Yg hW.wf this
  have z1:(((all.length - s.toks.length:Nat):Int)<((all.length - 1:Nat):Int)):=by omega
  have w2:IntKind.i64.wrap (((all.length - s.toks.length:Nat):Int)+1)=((all.length - s.nx.toks.length:Nat):Int):=by rw[XM (by omega)];congr 1;omega
  have f3:∀b,(hs h i (rdB all tok s pos e)).set i b=hs h i b:=fun b=>QmQ hi _ _
  refine Qa Tryz.func53 rfl Tryz.call53 Tryz.ntmps53 Tryz.results53 (by simp) ?_
  repeat first|(first|refine Qi (id:=0) [(0,0),(1,0),(2,0),(3,0),(4,0),(5,0),(6,0),(7,0),(8,0),(9,0),(10,0)] mixed (by kernel_rfl) fun K hK=>?_|refine Qb ?_);simp only[go_sem,seval,f2,f3,Qas,w1,z1,w2]|refine hK _ ?_;clear hK
  exact .inr ⟨rfl,rfl⟩
theorem QhN(x c:Int):RC Tryz.prog 33 [.ptr i 0 0,.i x,.i c] i tok (rdB all tok s 0 0) (.b false) (rdB all tok s x c):=by
 intro h hi ht
 have f2:=QnD hi all tok s
 have f3:∀p c p' c',(hs h i (rdB all tok s p c)).set i (.cells 69 5 [.agg [.sl 3 (tks all) none,.i ((all.length - s.toks.length:Nat):Int),.sl 1 (strs s.names) tok,.i p',.i c']])=hs h i (rdB all tok s p' c'):=fun p c p' c'=>QmQ hi _ _
 have z0:((0:Int)==0)=true:=rfl
 refine Qa Tryz.func33 rfl Tryz.call33 Tryz.ntmps33 Tryz.results33 (by simp) ?_
 repeat refine Qb ?_;simp only[go_sem,seval,f2,f3]
 exact .inr ⟨rfl,rfl⟩
include hW hN in
theorem Qpg(b:ByteArray):RC Tryz.prog 55 [.ptr i 0 0,.v (.string b)] i tok (rdB all tok s 0 0) (.b ((Qal b.toList s).e==0)) (rdB all tok (Qal b.toList s).s (Qal b.toList s).pos (Qal b.toList s).e):=by
 intro h hi ht
 have c1:=QpO (tok:=tok) hW i 0 0 b h hi ht
 have c2:=Qd7 (tok:=tok) hW i 0 0 h hi ht
 have c3:=QhP (tok:=tok) hW hN i 0 0 h hi ht
 have c4:=QhN (all:=all) (tok:=tok) (s:=s) i s.tk.pos 16 h hi ht
 have e1:=Tk.QsS s.tk
 have e2:=Tk.QsT s.tk
 unfold Qal
 cases hb:s.is b.toList with
 |true =>
  rw[hb]at c1
  refine Qa Tryz.func55 rfl Tryz.call55 Tryz.ntmps55 Tryz.results55 (by simp) ?_
  repeat (first|refine FunW.QsR c1 ?_|refine FunW.QsR c3 ?_|refine Qb ?_);simp only[go_sem,seval]
  exact .inr ⟨rfl,rfl⟩
 |false =>
  rw[hb]at c1
  refine Qa Tryz.func55 rfl Tryz.call55 Tryz.ntmps55 Tryz.results55 (by simp) ?_
  repeat (first|refine FunW.QsR c1 ?_|refine FunW.QsR c2 ?_|refine FunW.QsR c4 ?_|refine Qb ?_);simp only[go_sem,seval,e1,e2]
  exact .inr ⟨rfl,rfl⟩
include hW hN in
theorem Qo9:RC Tryz.prog 54 [.ptr i 0 0] i tok (rdB all tok s 0 0) (.tup [.v (.string (QaT s).v),.b ((QaT s).e==0)]) (rdB all tok (QaT s).s (QaT s).pos (QaT s).e):=by
 intro h hi ht
 have c2:=Qd7 (tok:=tok) hW i 0 0 h hi ht
 have c3:=(QhP (tok:=tok) hW hN i 0 0).app hi ht
 have c4:=fun c=>(QhN (all:=all) (tok:=tok) (s:=s) i s.tk.pos c).app hi ht
 have cr:=QaX s.tk.text
 have f1:=fun x=>Qb4 h i x
 have f4:=fun x L=>Qhq (h:=h) (i:=i) x L
 have f6:=fun x y L=>Qkq (h:=h) (i:=i) x y L
 have e1:=Tk.QsS s.tk
 have e2:=Tk.QsT s.tk
 unfold QaT
 by_cases hk:s.tk.kind=1
 ·have z1:(s.tk.kind != 1)=false:=by simpa using hk
  rw[QuE (by simpa using hk)]
  cases hr:resB s.tk.text with
  |true =>
   rw[hr]at cr
   refine Qa Tryz.func54 rfl Tryz.call54 Tryz.ntmps54 Tryz.results54 (by simp) ?_
   repeat (first|refine Qe cr ?_|refine FunW.QsR c2 ?_|refine FunW.QsR (c4 _ _) ?_|refine Qb ?_);simp only[go_sem,seval,f1,f4,f6,e1,e2,z1]
   exact Yi (Qbe _ ht _ _ _) (.keep (QhO _ _ _)) ⟨rfl,rfl⟩
  |false =>
   rw[hr]at cr
   refine Qa Tryz.func54 rfl Tryz.call54 Tryz.ntmps54 Tryz.results54 (by simp) ?_
   repeat (first|refine Qe cr ?_|refine FunW.QsR c2 ?_|refine FunW.QsR (c3 _) ?_|refine Qb ?_);simp only[go_sem,seval,f1,f4,f6,e1,e2,z1]
   exact Yi (Qbe _ ht _ _ _) (.keep (QhO _ _ _)) ⟨rfl,rfl⟩
 ·have z1:(s.tk.kind != 1)=true:=by simpa using hk
  rw[QuH hk]
  refine Qa Tryz.func54 rfl Tryz.call54 Tryz.ntmps54 Tryz.results54 (by simp) ?_
  repeat (first|refine FunW.QsR c2 ?_|refine FunW.QsR (c4 _ _) ?_|refine Qb ?_);simp only[go_sem,seval,f1,f4,f6,e1,e2,z1]
  exact Yi (Qbe _ ht _ _ _) (.keep (QhO _ _ _)) ⟨rfl,rfl⟩
end
end Go.Proofs.YticgcpebdldbgaaGreatDoor.Ab
namespace Go.Proofs.YticgcpebdldbgaaGreatDoor.Ab
open Go.Proofs
theorem FunW.pan{P:Program}{fv:AV}{args:List AV}{h h':AH}{r:AV}{Q:AOut->AH->Prop}(H:FunW P fv args h fun o h2=>o = .panic r/\h2=h')(k:Q (.panic r) h'):FunW P fv args h Q:=H.mono (by rintro _ _ ⟨rfl,rfl⟩;exact k)
theorem FunW.panE{P:Program}{α:Type}{fv:AV}{args:List AV}{h:AH}{h':α->AH}{r:AV}{Q:AOut->AH->Prop}(H:FunW P fv args h fun o h2=>o = .panic r/\∃x,h2=h' x)(k:∀x,Q (.panic r) (h' x)):FunW P fv args h Q:=H.mono (by rintro _ _ ⟨rfl,x,rfl⟩;exact k x)
theorem PS.QsV{s:PS}{b:List UInt8}(h:s.is b=true):s.tk.kind≠0:=by
 simp only[PS.is,QuR,Qvx]at h;rw[h.1];decide
section
variable{P:Pz}{s:PS}(hW:Wst P.all s){h:AH}(H:P.ok h)(hN:P.all.length<=1000000)
include hW H hN
theorem Qra(hk:s.tk.kind≠0):IntKind.i64.wrap (((P.all.length - s.toks.length:Nat):Int)+1)=((P.all.length - s.nx.toks.length:Nat):Int):=by
 have h1:=Yg hW.wf hk
 have h2:=hW.suf.length_le
 have _u:=H
 rw[XM (by omega)]
 congr 1;omega
theorem Qnq(hk:s.tk.kind≠0)(L:AH):(ph h P s++L).set P.i (.cells 61 4 [.agg [.sl 3 (tks P.all) none,.v (.int .i64 (IntKind.i64.wrap (((P.all.length - s.toks.length:Nat):Int)+1))),.sl 1 (strs s.names) (some P.g),.mp P.j]])=ph h P s.nx++L:=by
 rw[Qra hW H hN hk]
 exact Qrm H (s:=s) (s':=s.nx) rfl L
theorem Yq:QA Tryz.prog 42 [.ptr P.i 0 0] (ph h P s) fun o h'=>o = .ret s.tk.av/\h'=ph h P s.nx:=by
 have hX:=YW H s
 have hi:=ph_i H s
 have hp:=fun hk=>Qnq hW H hN hk
 simp only[pB]at hi
 have cl:=nextL hW hX
 have e1:=Tk.QsS s.tk
 have e2:=Tk.QsT s.tk
 have f1:=Xv h P s
 have f2:=Xv h P s.nx
 have f3:=Yu h P
 have f4:=Zh h P
 have f5:=X7 h P
 have f6:=YB h P
 by_cases hk:s.tk.kind=0
 ·have z1:(s.tk.kind != 0)=false:=by simpa using hk
  have en:s.nx.toks=s.toks:=by
   obtain⟨l,e,hl,he,ha⟩:=hW.wf
   cases l with
   |nil=>simp only[PS.nx,hl,Qt6]
   |cons t l =>
    have:s.tk=t:=by simp only[PS.tk,hl,Qt7,Qvm]
    exact absurd (this▸hk) (ha t (by simp))
  have es:s.nx=s:=by
   show PS.mk _ s.names=s
   have:s=⟨s.toks,s.names⟩:=rfl
   rw[this];exact Qvq (fun x=>PS.mk x s.names) en
  rw[es]
  refine Qa Tryz.func42 rfl Tryz.call42 Tryz.ntmps42 Tryz.results42 (by simp) ?_
  repeat (first|refine FunW.QsR (cl _) ?_|refine Qb ?_);simp only[go_sem,seval,f1,f3,f4,f5,f6,e1,e2,z1]
  have:=Yc H (s:=s) (s':=s) (L:=[.cells 54 3 [s.tk.av],.cells 54 3 [s.tk.av]]) (r:=s.tk.av) (r':=s.tk.av) (Q:=fun r h'=>AOut.ret r = .ret s.tk.av/\h'=ph h P s) (.keep (QcM _ _)) ⟨rfl,rfl⟩
  exact this
 ·have z1:(s.tk.kind != 0)=true:=by simpa using hk
  have hp':=hp hk
  refine Qa Tryz.func42 rfl Tryz.call42 Tryz.ntmps42 Tryz.results42 (by simp) ?_
  repeat (first|refine FunW.QsR (cl _) ?_|refine Qb ?_);simp only[go_sem,seval,f1,f3,f4,f5,f6,e1,e2,z1,hi,hp']
  exact Yc H (s:=s) (s':=s.nx) (.keep (QcM _ _)) ⟨rfl,rfl⟩
end
end Go.Proofs.YticgcpebdldbgaaGreatDoor.Ab
namespace Go.Proofs.YticgcpebdldbgaaGreatDoor.Ab
abbrev DA:=FuncId×List AV
def RelD(c:Cx)(d:DA)(x:Deferred):Prop:=∃caps,x.target = .fn (.func d.1) caps/\RelL c d.2 (x.args++caps)
theorem RelD.ev{c c':Cx}(hs:St c)(h:Ev c c'){d:DA}{x:Deferred}(hr:RelD c d x):RelD c' d x :=
 let ⟨caps,e,r⟩:=hr;⟨caps,e,r.ev hs h⟩
inductive Ent where
 |mark (D:Nat)
 |call (d:DA) (x:Deferred)
def Ent.dfr:Ent->Deferred
 | .mark D=>Qkz D
 | .call _ x=>x
def Ent.da:Ent->Option DA
 | .mark _=>none
 | .call d _=>some d
def Ent.mk? : Ent->Option Nat
 | .mark D=>some D
 | .call _ _=>none
def Ent.ok(c:Cx)(lo:Nat):Ent->Prop
 | .mark D=>lo<=D/\c.w.heap[D]? = some (.deferred (some []))/\¬c.owns D
 | .call d x=>RelD c d x
theorem Ent.ok.ev{c c':Cx}(hs:St c)(h:Ev c c'){lo:Nat}{e:Ent}(hk:e.ok c lo):e.ok c' lo:=by
 cases e with
 |mark D =>
  obtain⟨h1,h2,h3⟩:=hk
  have hlt:=(QuP.1 h2).1
  exact⟨h1,(h.frame D hlt h3).trans h2,fun ho=>h3 (h.owns hlt ho)⟩
 |call d x=>exact RelD.ev hs h hk
def DefsOk(c:Cx)(lo:Nat)(ds:List DA)(l:List Deferred):Prop :=
 ∃es:List Ent,l=es.map Ent.dfr/\ds=es.filterMap Ent.da/\(es.filterMap Ent.mk?).Nodup/\∀e∈es,e.ok c lo
theorem DefsOk.ev{c c':Cx}(hs:St c)(h:Ev c c'){lo:Nat}{ds:List DA}{l:List Deferred}(hd:DefsOk c lo ds l):DefsOk c' lo ds l :=
 let ⟨es,h1,h2,h3,h4⟩:=hd;⟨es,h1,h2,h3,fun e he=>(h4 e he).ev hs h⟩
theorem Qm5(Ds:List Nat):(Ds.map Ent.mark).map Ent.dfr=Ds.map Qkz:=by rw[Qv7];rfl
theorem QoH(Ds:List Nat):(Ds.map Ent.mark).filterMap Ent.da=[]:=by
 induction Ds with
 |nil=>rfl
 |cons D Ds ih=>rw[List.map_cons,List.filterMap_cons,ih];rfl
theorem QoI(Ds:List Nat):(Ds.map Ent.mark).filterMap Ent.mk? = Ds:=by
 induction Ds with
 |nil=>rfl
 |cons D Ds ih=>rw[List.map_cons,List.filterMap_cons,ih];rfl
theorem DefsOk.marks{c c':Cx}(hs:St c)(h:Ev c c'){lo:Nat}{ds:List DA}{l l':List Deferred}(hlo:lo<=c.w.heap.size)(hd:DefsOk c lo ds l)(hd':DefOk c' ⟨c.w.heap.size,l⟩ l'):DefsOk c' lo ds l':=by
 obtain⟨Ds,f1,f2,f3⟩:=hd'
 obtain⟨es,e1,e2,e3,e4⟩:=hd
 refine⟨Ds.map Ent.mark++es,?_,?_,?_,?_⟩
 ·rw[f1,Qvr,Qm5,e1]
 ·rw[List.filterMap_append,QoH,Qt6,e2]
 ·rw[List.filterMap_append,QoI,List.nodup_append]
  refine⟨f2,e3,fun a ha b hb hab=>?_⟩
  subst hab
  have g1:=(f3 a ha).1
  simp only[List.mem_filterMap]at hb
  obtain⟨e,he,hm⟩:=hb
  cases e with
  |call d x=>cases hm
  |mark D =>
   simp only[Ent.mk?,QtL]at hm
   subst hm
   have:=(QuP.1 (e4 _ he).2.1).1
   simp only at g1
   omega
 ·intro e he
  rcases Qvh.1 he with he|he
  ·obtain⟨D,hD,rfl⟩:=QuZ.1 he
   obtain⟨g1,g2,g3⟩:=f3 D hD
   exact⟨Qu1 hlo g1,g2,g3⟩
  ·exact(e4 e he).ev hs h
structure SRd (N lo:Nat) (c:Cx) (s:AS) (a:Act) (ds:List DA):Prop where
 h:c.h=s.h
 size:a.tmps.size=N
 above:lo<=c.w.heap.size
 defs:DefsOk c lo ds a.defers
 tm:∀t,Rel c (s.tm t) (a.tmps.getD t undef)
theorem SRd.sr{N lo:Nat}{c:Cx}{s:AS}{a:Act}{ds:List DA}(h:SRd N lo c s a ds){F:Fence}(hro:F.round=none):SR N (⟨c.w.heap.size,a.defers⟩,F) c s a :=
 ⟨h.h,h.size,QuD _,⟨[],rfl,Qwk,fun D hD=>by cases hD⟩,fun l hl=>(by rw[hro]at hl;cases hl),h.tm⟩
theorem SRd.Qtj{N lo:Nat}{c c':Cx}{s s':AS}{a a':Act}{ds:List DA}{F:Fence}(hs:St c)(h:SRd N lo c s a ds)(hev:Ev c c')(hr:SR N (⟨c.w.heap.size,a.defers⟩,F) c' s' a'):SRd N lo c' s' a' ds :=
 ⟨hr.h,hr.size,Qu1 h.above hev.size,h.defs.marks hs hev h.above hr.defers,hr.tm⟩
def DefW(P:Program)(N:Nat)(code:Code)(Q:AExit->AS->List DA->Prop)(s:AS)(ds:List DA):Prop :=
 ∀(F:Fence) (n lo:Nat) (c:Cx) (a:Act),WF F->F.round=none->St c->SRd N lo c s a ds ->
  ∀R:Exit->Act->World->Prop,(∀e s' ds' c' a' e',Q e s' ds'->Ev c c'->St c'->SRd N lo c' s' a' ds'->ExC c' e e'->R e' a' c'.w)->code.wpIn F n P R a c.w
section rules
variable{P:Program}{N:Nat}{Q:AExit->AS->List DA->Prop}{s:AS}{ds:List DA}
theorem ZR{code:Code}(H:Yr P N code (fun e s'=>Q e s' ds) s):DefW P N code Q s ds:=by
 intro F n lo c a hF hro hst hr R hR
 refine H F n ⟨c.w.heap.size,a.defers⟩ c a hF hst (hr.sr hro) R fun e s' c' a' e' hQ hev hst' hsr hex=>?_
 exact hR e s' ds c' a' e' hQ hev hst' (hr.Qtj hst hev hsr) hex
def AExit.Qtz(K:AS->List DA->Prop)(Q:AExit->AS->List DA->Prop):AExit->AS->List DA->Prop
 | .normal,s,ds=>K s ds
 |e,s,ds=>Q e s ds
theorem Z8{x y:Code}(h:DefW P N x (AExit.Qtz (fun s ds=>DefW P N y Q s ds) Q) s ds):DefW P N (.seq x y) Q s ds:=by
 intro F n lo c a hF hro hs hr R hR
 refine wpIn_seq (h F n lo c a hF hro hs hr _ ?_)
 intro e s' ds' c' a' e' hQ hev hst hsr hex
 cases e with
 |normal =>
  cases hex
  exact hQ F n lo c' a' hF hro hst hsr R fun e s2 ds2 c2 a2 e2 hQ2 hev2 hst2 hsr2 hex2=>hR e s2 ds2 c2 a2 e2 hQ2 (Ev.trans hs hev hev2) hst2 hsr2 hex2
 |exit id=>cases hex;exact hR _ s' ds' c' a' _ hQ hev hst hsr rfl
 |ret=>cases hex;exact hR _ s' ds' c' a' _ hQ hev hst hsr rfl
 |panic av=>obtain⟨x,rfl,hx⟩:=hex;exact hR _ s' ds' c' a' _ hQ hev hst hsr ⟨x,rfl,hx⟩
theorem QcW{id:Nat}{ops:Array Oper}(i:Nat){o:Oper}{cl:Call}{f:Operand}(ho:ops.toList[i]? = some o)(hop:o.op = .defer cl)(hcl:cl.callee = .value f)
  (H:OpsW P N ops (ops.toList.take i) (fun s1=>QN ops s1.tm o=some true/\∃g first cap,s1.ev f = .fn (.func g) first cap /\
   OpsW P N ops (ops.toList.drop (i+1)) (fun s2=>Q .normal s2 ((g,first++cl.args.toList.map s1.ev++cap)::ds)) (fun r s2=>Q (.panic r) s2 ((g,first++cl.args.toList.map s1.ev++cap)::ds)) (AS.put N s1 o.dst (.v undef)))
   (fun r s1=>Q (.panic r) s1 ds) s):DefW P N (.region id ops false) Q s ds:=by
 intro F n lo c a hF hro hst hr R hR
 refine wpIn_region ?_
 have hlt:=Qf ho
 have hi:(ops.toList.take i).length=i:=by rw[QuY];omega
 have hrange:List.range ops.size=List.range' 0 (ops.toList.take i).length++(i::(List.range' (i+1) (ops.toList.drop (i+1)).length++[])):=by
  rw[hi,Qt8,QuX,QvW,<-Qvd]
  have:ops.toList.length=i+(1+(ops.toList.length - (i+1))):=by omega
  conv=>lhs;rw[this]
  rw[<-Qv2,QtR,<-Qv2]
  rfl
 have hget:∀j,(ops.toList.drop (i+1))[j]? = ops[i+1+j]? := fun j=>by rw[Qu7];simp
 rw[hrange]
 refine Qcs hF (ops.toList.take i) 0 s c a (fun j hj=>by rw[Qv9,QuH (by omega)];simp) H hst (hr.sr hro) ?_ ?_
 ·intro s1 c1 a1 h1 h2 h3 h4
  have h0:ops[i]? = some o:=by rw[<-ho];simp
  obtain⟨hw,g,first,cap,hf,hpost⟩:=h1
  simp only[wpOpsIn,h0]
  rw[XY h4 hw]
  simp only[QvB]
  have hr1:=hr.Qtj hst h2 h4
  have hfv:=h4.eval f
  rw[hf]at hfv
  obtain⟨vs,ws,hae,hv1,hv2⟩:∃vs ws,a1.eval f = .func (.func g) vs ws/\RelL c1 first vs/\RelL c1 cap ws:=by
   generalize a1.eval f=u at hfv
   cases hfv with
   |fn _ _ _ vs ws e1 e2 g1 g2=>exact⟨vs,ws,rfl,⟨e1,g1⟩,⟨e2,g2⟩⟩
  have hargs:RelL c1 (cl.args.toList.map s1.ev) (cl.args.map a1.eval):=by
   refine⟨by simp,fun j x u hx hu=>?_⟩
   rw[Qu2]at hx
   rw[Array.getElem?_map]at hu
   cases hj:cl.args[j]? with
   |none=>simp[hj]at hu
   |some q =>
    simp only[hj,QtH,QtL]at hu
    simp only[QvF,hj,QtH,QtL]at hx
    subst hx;subst hu
    exact h4.eval q
  have hD:RelD c1 (g,first++cl.args.toList.map s1.ev++cap) ⟨.fn (.func g) ws,vs++cl.args.map a1.eval⟩:=⟨ws,rfl,RelL.append (RelL.append hv1 hargs) hv2⟩
  have hrun:(execOp a1.eval o).run P c1.w = .ok (.defer ⟨.fn (.func g) ws,vs++cl.args.map a1.eval⟩) c1.w:=by
   simp only[execOp,hop,resolve,hcl,hae,Deferred.ofValue,Sem.run_bind,Sem.run_pure,Result.andThen_ok]
  refine⟨fun f _=>hF.fn f,?_⟩
  rw[hro,Oper.semAt_none,hrun,Oper.uponIn_defer]
  have hput:=h4.put h3 (Ev.refl c1) o.dst (.v undef)
  rw[h4.h]at hput
  have hd2:DefsOk c1 lo ((g,first++cl.args.toList.map s1.ev++cap)::ds) (⟨.fn (.func g) ws,vs++cl.args.map a1.eval⟩::a1.defers):=by
   obtain⟨es,e1,e2,e3,e4⟩:=hr1.defs
   refine⟨.call _ ⟨.fn (.func g) ws,vs++cl.args.map a1.eval⟩::es,by rw[e1];rfl,by rw[e2];rfl,e3,fun e he=>?_⟩
   rcases QuL.1 he with rfl|he
   ·exact hD
   ·exact e4 e he
  have hdf:((({a1 with defers:=⟨.fn (.func g) ws,vs++cl.args.map a1.eval⟩::a1.defers}:Act).put o.dst undef)).defers=⟨.fn (.func g) ws,vs++cl.args.map a1.eval⟩::a1.defers:=by
   cases o.dst <;> rfl
  have htm:((({a1 with defers:=⟨.fn (.func g) ws,vs++cl.args.map a1.eval⟩::a1.defers}:Act).put o.dst undef)).tmps=(a1.put o.dst undef).tmps:=by
   cases o.dst <;> rfl
  have hr2:SRd N lo c1 (AS.put N s1 o.dst (.v undef)) (({a1 with defers:=⟨.fn (.func g) ws,vs++cl.args.map a1.eval⟩::a1.defers}:Act).put o.dst undef) ((g,first++cl.args.toList.map s1.ev++cap)::ds) :=
   ⟨hput.h,by rw[htm];exact hput.size,hr1.above,by rw[hdf];exact hd2,fun t=>by rw[htm];exact hput.tm t⟩
  refine Qcs hF _ (i+1) _ c1 _ (fun j _=>hget j) hpost h3 (hr2.sr hro) ?_ ?_
  ·intro s' c' a' hQ k1 k2 k3
   simp only[wpOpsIn]
   exact hR _ s' _ c' a' _ hQ (Ev.trans hst h2 k1) k2 (hr2.Qtj h3 k1 k3) rfl
  ·intro r s' c' a' x hQ k1 k2 k3 hx
   exact hR _ s' _ c' a' _ hQ (Ev.trans hst h2 k1) k2 (hr2.Qtj h3 k1 k3) ⟨x,rfl,hx⟩
 ·intro r s' c' a' x hQ h1 h2 h3 hx
  exact hR _ s' ds c' a' _ hQ h1 h2 (hr.Qtj hst h1 h3) ⟨x,rfl,hx⟩
end rules
inductive AMode where
 |ret
 |pan (v:AV) (recovered:Bool)
def MdC(c:Cx):AMode->FrameMode->Prop
 | .ret,u=>u = .returning
 | .pan v b,u=>∃x,u = .panicking [{v:=x,recovered:=b}]/\Rel c v x
theorem MdC.ev{c c':Cx}(hs:St c)(h:Ev c c'){m:AMode}{u:FrameMode}(hm:MdC c m u):MdC c' m u:=by
 cases m with
 |ret=>exact hm
 |pan v b=>obtain⟨x,e,r⟩:=hm;exact⟨x,e,r.ev hs h⟩
theorem MdC.run{c:Cx}{m:AMode}{u:FrameMode}(hm:MdC c m u):u ≠ .run:=by
 cases m with
 |ret=>rw[show u = .returning from hm];simp
 |pan v b=>obtain⟨x,e,r⟩:=hm;rw[e];simp
def AMode.settle:AMode->AMode
 | .pan _ true=>.ret
 |m=>m
theorem MdC.settle{c:Cx}{m:AMode}{u:FrameMode}(hm:MdC c m u):MdC c m.settle (Go.settle u):=by
 cases m with
 |ret=>rw[show u = .returning from hm];rfl
 |pan v b =>
  obtain⟨x,rfl,r⟩:=hm
  cases b with
  |true=>rfl
  |false=>exact⟨x,rfl,r⟩
def Qb2(P:Program)(f:FuncId)(args:List AV)(h:AH)(m:AMode)(Q:AMode->AH->Prop):Prop :=
 (∀vals w,(callFunc f vals).run P w = .ok (.enter f vals) w) /\
 ∀(F:Fence) (n:Nat) (c:Cx) (vals:Array Value) (u:FrameMode),WF F->F.round=none->St c->c.h=h->RelL c args vals->MdC c m u ->
  CallsDIn F n P f vals u c.w fun e u' w'=>∃x m' c',e = .returned x/\Q m' c'.h/\Ev c c'/\St c'/\c'.w=w'/\MdC c' m' u'
def Qg5(P:Program)(rs:List ResultVar)(h:AH)(Q:AOut->AH->Prop):List DA->AMode->AS->Prop
 |[],.ret,s=>Qbm P rs h Q .ret s
 |[],.pan v _,s=>Qbm P rs h Q (.panic v) s
 |d::ds,m,s=>Qb2 P d.1 d.2 s.h m fun m' h'=>Qg5 P rs h Q ds m'.settle ⟨s.tm,h'⟩
structure Out (N:Nat) (c:Cx) (s:AS) (tmps:Array Value):Prop where
 h:c.h=s.h
 size:tmps.size=N
 tm:∀t,Rel c (s.tm t) (tmps.getD t undef)
theorem Qcz{P:Program}{F:Fence}(hF:WF F)(hro:F.round=none){n:Nat}{fn:Func}{tmps:Array Value}{rs:List ResultVar}(hrs:fn.results.toList=rs){Q:AOut->AH->Prop}{c0:Cx}(hs0:St c0) :
  ∀(es:List Ent) (c:Cx) (s:AS) (m:AMode) (u:FrameMode),Ev c0 c->St c->Out fn.ntmps c s tmps->(es.filterMap Ent.mk?).Nodup->(∀e∈es,e.ok c c0.w.heap.size)->MdC c m u->(∀v,m ≠ .pan v true) ->
   Qg5 P rs c0.h Q (es.filterMap Ent.da) m s ->
   LeavesInM F n P fn tmps (fun e w'=>∃o c',Q o c'.h/\Ev c0 c'/\St c'/\c'.w=w'/\EndC c' o e) (es.map Ent.dfr) u c.w
 |[],c,s,m,u,hev,hst,hout,_,_,hm,hnr,H=>by
  have hsr:SR fn.ntmps (⟨0,[]⟩,F) c s {tmps:=tmps,defers:=[]}:=⟨hout.h,hout.size,QuG _,⟨[],rfl,Qwk,fun D h=>by cases h⟩,fun l hl=>(by rw[hro]at hl;cases hl),hout.tm⟩
  cases m with
  |ret =>
   rw[show u = .returning from hm]
   obtain⟨r,hres,hl⟩:=(show Qbm P rs c0.h Q .ret s from H)
   subst hrs
   obtain⟨x,hrun,hx⟩:=QbW hst hsr hres
   rw[<-hout.h]at hl
   obtain⟨c3,r',h1,h2,h3,h4,h5⟩:=QaR hs0 hst hev hx hl
   exact⟨x,hrun,.ret r',c3,h1,h2,h3,h4,x,rfl,h5⟩
  |pan v b =>
   obtain⟨x,rfl,hx⟩:=hm
   have hl:Leaves c0.h s.h v fun r h'=>Q (.panic r) h':=H
   rw[<-hout.h]at hl
   obtain⟨c3,r',h1,h2,h3,h4,h5⟩:=QaR hs0 hst hev hx hl
   cases b with
   |true=>exact absurd rfl (hnr v)
   |false=>exact⟨.panic r',c3,h1,h2,h3,h4,x,rfl,h5⟩
 | .mark D::es,c,s,m,u,hev,hst,hout,hnd,hok,hm,hnr,H=>by
  obtain⟨hD1,hD2,hD3⟩:=hok (.mark D) (by simp)
  simp only[QtU,LeavesInM]
  refine⟨hm.run,.inl ⟨D,_,rfl,QaE hD2,?_⟩⟩
  have hnd':=Qwt.1 (show(D::es.filterMap Ent.mk?).Nodup from hnd)
  have hold:∀k,k≠D->({c.w with heap:=c.w.heap.setIfInBounds D (.deferred none)}:World).heap[k]? = c.w.heap[k]? := fun k hk=>by
   show(c.w.heap.setIfInBounds D _)[k]? = _
   rw[Qvp (fun e=>hk e.symm)]
  have hsz:({c.w with heap:=c.w.heap.setIfInBounds D (.deferred none)}:World).heap.size=c.w.heap.size:=by simp
  have hidle:∀k,({c.w with heap:=c.w.heap.setIfInBounds D (.deferred none)}:World).heap[k]? = c.w.heap[k]? \/ (c0.w.heap.size<=k/\¬c.owns k/\∃o,c.w.heap[k]? = some (.deferred o)):=fun k=>by
   by_cases hk:k=D
   ·subst hk;exact .inr ⟨hD1,hD3,_,hD2⟩
   ·exact .inl (hold k hk)
  have hcells:∀(k:Nat) cs t fr,c.w.heap[k]? = some (Obj.cells cs t fr)->({c.w with heap:=c.w.heap.setIfInBounds D (.deferred none)}:World).heap[k]? = c.w.heap[k]? := fun k cs t fr hk=>by
   rcases hidle k with h|⟨_,_,o,h⟩
   ·exact h
   ·rw[hk]at h;cases h
  have hst2:=hst.idle hsz fun k o hk=>by
   rcases hidle k with h|⟨_,_,d,h⟩
   ·exact .inl (h.trans hk)
   ·rw[hk]at h;cases h;exact .inr ⟨d,rfl⟩
  have hrel:∀a x,Rel c a x->Rel (c.to {c.w with heap:=c.w.heap.setIfInBounds D (.deferred none)}) a x:=fun a x hax=>hax.idle hsz hcells
  refine Qcz hF hro hrs hs0 es (c.to _) s m u (Ev.idle hst hev rfl rfl rfl hsz hidle) hst2 ⟨hout.h,hout.size,fun t=>hrel _ _ (hout.tm t)⟩ hnd'.2 (fun e he=>?_) ?_ hnr H
  ·have:=hok e (by simp[he])
   cases e with
   |mark D' =>
    obtain⟨g1,g2,g3⟩:=this
    have hne:D'≠D:=fun h=>hnd'.1 (by subst h;exact List.mem_filterMap.2 ⟨_,he,rfl⟩)
    exact⟨g1,(hold D' hne).trans g2,g3⟩
   |call d x =>
    obtain⟨caps,e,r⟩:=this
    exact⟨caps,e,r.1,fun j a u h1 h2=>hrel _ _ (r.2 j a u h1 h2)⟩
  ·cases m with
   |ret=>exact hm
   |pan v b=>obtain⟨x,e,r⟩:=hm;exact⟨x,e,hrel _ _ r⟩
 | .call d x::es,c,s,m,u,hev,hst,hout,hnd,hok,hm,hnr,H=>by
  obtain⟨caps,htar,hargs⟩:=hok (.call d x) (by simp)
  obtain⟨hcall,hbody⟩:=(show Qb2 P d.1 d.2 s.h m fun m' h'=>Qg5 P rs c0.h Q (es.filterMap Ent.da) m'.settle ⟨s.tm,h'⟩from H)
  simp only[QtU,LeavesInM,Ent.dfr]
  refine⟨hm.run,.inr ⟨fun hd=>by simp[hF.depth]at hd,_,_,d.1,x.args++caps,htar,by rw[htar];simp only[invoke,hcall],fun _ _=>hF.fn _,?_⟩⟩
  refine(hbody F (n - 1) c _ u hF hro hst hout.h hargs hm).mono ?_
  rintro e u' w' ⟨y,m',c',rfl,hQ,hev',hst',rfl,hm'⟩
  refine Qcz hF hro hrs hs0 es c' ⟨s.tm,c'.h⟩ m'.settle (Go.settle u') (Ev.trans hs0 hev hev') hst' ⟨rfl,hout.size,fun t=>(hout.tm t).ev hst hev'⟩ hnd (fun e he=>(hok e (by simp[he])).ev hst hev') hm'.settle (fun v h=>?_) hQ
  cases m' with
  |ret=>cases h
  |pan v' b=>cases b <;> cases h
def Qmc(P:Program)(rs:List ResultVar)(h:AH)(Q:AOut->AH->Prop):AExit->AS->List DA->Prop
 | .normal,s,ds | .ret,s,ds=>Qg5 P rs h Q ds .ret s
 | .panic v,s,ds=>Qg5 P rs h Q ds (.pan v false) s
 | .exit _,_,_=>False
theorem Qbt{P:Program}{f:FuncId}{fn:Func}{code:Code}{args:List AV}{h:AH}{Q:AOut->AH->Prop}(hf:P.funcs[f]? = some fn)(hb:fn.body=some code)
  (hcall:∀vals w,(callFunc f vals).run P w = .ok (.enter f vals) w) {N:Nat} (hN:fn.ntmps=N) {rs:List ResultVar} (hrs:fn.results.toList=rs) (hn:args.length<=N) (H:DefW P N code (Qmc P rs h Q) ⟨XJ args,h⟩ []):QA P f args h Q:=by
 subst hN
 refine⟨hcall,fun F n c vals hF hs hh hvals=>QbI ?_⟩
 subst hh
 refine callsIn_of_wp_marks hf hb (hF.plain.fn f) ?_
 have hsr:SRd fn.ntmps c.w.heap.size c ⟨XJ args,c.h⟩ {tmps:=vals++Array.replicate (fn.ntmps - vals.size) undef,defers:=[]} []:=by
  refine⟨rfl,by have:=hvals.1;simp;omega,QuD _,⟨[],rfl,rfl,Qwk,fun e h=>by cases h⟩,fun t=>?_⟩
  simp only[XJ]
  rw[QuO,Qwn,Qu8]
  have hsz:=hvals.1
  by_cases ht:t<vals.size
  ·rw[QuH ht]
   obtain⟨u,hu⟩:∃u,vals[t]? = some u:=⟨_,QuV ht⟩
   obtain⟨a,ha⟩:∃a,args[t]? = some a:=⟨_,QuC (by omega)⟩
   rw[hu,ha]
   exact hvals.2 t a u ha hu
  ·rw[QuE ht,Qvf (by omega),QvS]
   split
   ·exact .v _
   ·exact .v _
 refine H F.plain n c.w.heap.size c _ hF.plain rfl hs hsr _ ?_
 intro e s' ds' c' a' e' hQ hev hst hr hex
 obtain⟨es,e1,e2,e3,e4⟩:=hr.defs
 subst e2
 have hout:Out fn.ntmps c' s' a'.tmps:=⟨hr.h,hr.size,hr.tm⟩
 have key:=fun(m:AMode) (u:FrameMode) (hm:MdC c' m u) (hnr:∀v,m ≠ .pan v true) H=>e1▸Qcz (P:=P) hF.plain rfl (n:=n) (fn:=fn) (tmps:=a'.tmps) hrs (Q:=Q) hs es c' s' m u hev hst hout e3 e4 hm hnr H
 cases e with
 |normal=>cases hex;exact key .ret .returning rfl (fun v h=>by cases h) hQ
 |ret=>cases hex;exact key .ret .returning rfl (fun v h=>by cases h) hQ
 |panic av =>
  obtain⟨x,rfl,hx⟩:=hex
  exact key (.pan av false) _ ⟨x,rfl,hx⟩ (fun v h=>by cases h) hQ
 |exit id=>exact hQ.elim
theorem Qcj{P:Program}{F:Fence}{n:Nat}{fn:Func}{tmps:Array Value}{R:Ending->World->Prop}:∀(ds:List Deferred) (u:FrameMode) (w:World) (fr:Frame)
  (cs:List Frame),fr.mode=u->fr.defers=ds->fr.tmps=tmps->P.funcs[fr.fn]? = some fn->fr.kind = .deferred->F.fn fr.fn->F.room (cs.length+1+n)->LeavesInM F n P fn tmps R ds u w ->
  ∃e w' fr',R e w'/\ComesIn (Machine.fenced P F) P (lone fr cs w) (lone fr' cs w') e/\fr'.fn=fr.fn/\fr'.kind = .deferred/\fr'.going P w' e:=by
 intro ds
 induction ds with
 |nil =>
  intro u w fr cs hu hd ht hf hk _ _ h
  cases u with
  |run=>exact h.elim
  |returning =>
   obtain⟨v,hr,hR⟩:=h
   exact⟨.returned v,w,fr,hR,StepsIn.refl _,rfl,hk,hu,hd,fn,hf,ht▸hr⟩
  |panicking chain=>exact⟨.panicked chain,w,fr,h,StepsIn.refl _,rfl,hk,hu,hd,fn,hf⟩
 |cons d ds ih =>
  intro u w fr cs hu hd ht hf hk hb hroom h
  obtain⟨hrun,h⟩:=h
  rcases h with⟨r,w',htar,htake,hrest⟩|⟨hn,fv,cap,f,args,htar,hinv,hlead,hFf,hcall⟩
  ·have h1:=step_collected (cs:=cs) (hu▸hrun) hd htar htake
   have i1:(lone fr cs w).fenced P F:=fenced_out hb hroom (hu▸hrun) hd (fun g hg=>by rw[htar]at hg;simp[Target.leads]at hg)
   obtain⟨e',w'',fr',hR',hs',hfn',hl'⟩:=ih u w' {fr with defers:=[]++ds} cs hu rfl ht hf hk hb hroom hrest
   exact⟨e',w'',fr',hR',ComesIn.of_steps (.one i1 h1) hs',hfn',hl'⟩
  ·have h1:=step_defer (cs:=cs) (hu▸hrun) hd htar hinv
   have i1:(lone fr cs w).fenced P F:=fenced_out hb hroom (hu▸hrun) hd hlead
   have hroom':F.room (({fr with defers:=ds}::cs).length+1+(n - 1)):=Fence.room_enter hroom hn
   obtain⟨e,u',w',frX,hR,hsteps,hkX,hfX,hgo⟩:=hcall {fr with defers:=ds} cs hu hroom'
   cases e with
   |outgrown=>exact⟨.outgrown,w',fr,hR,Outgrown.of_steps (.one h1) hsteps,rfl,hk,trivial⟩
   |returned v =>
    have i2:(lone frX ({{fr with defers:=ds} with mode:=u'}::cs) w').fenced P F:=fenced_going (n:=n - 1) (hfX▸hFf) hroom' hgo
    have h2:=step_going_returned (c:={{fr with defers:=ds} with mode:=u'}) (cs:=cs) hkX hgo
    obtain⟨e',w'',fr',hR',hs',hfn',hl'⟩:=ih (Go.settle u') w' {{{fr with defers:=ds} with mode:=u'} with mode:=Go.settle u'} cs rfl rfl ht hf hk hb hroom hR
    exact⟨e',w'',fr',hR',ComesIn.of_steps (.head i1 h1 (StepsIn.trans hsteps (.one i2 h2))) hs',hfn',hl'⟩
   |panicked chain =>
    have i2:(lone frX ({{fr with defers:=ds} with mode:=u'}::cs) w').fenced P F:=fenced_going (n:=n - 1) (hfX▸hFf) hroom' hgo
    have h2:=step_going_panicked (c:={{fr with defers:=ds} with mode:=u'}) (cs:=cs) hgo
    obtain⟨e',w'',fr',hR',hs',hfn',hl'⟩:=ih (raised u' chain) w' {{{fr with defers:=ds} with mode:=u'} with mode:=raised u' chain} cs rfl rfl ht hf hk hb hroom hR
    exact⟨e',w'',fr',hR',ComesIn.of_steps (.head i1 h1 (StepsIn.trans hsteps (.one i2 h2))) hs',hfn',hl'⟩
end Go.Proofs.YticgcpebdldbgaaGreatDoor.Ab
namespace Go.Proofs.YticgcpebdldbgaaGreatDoor.Ab
theorem Qcc{P:Program}{F:Fence}{n:Nat}{f:FuncId}{fn:Func}{c:Code}{args:Array Value}{u:FrameMode}{w:World}{R:Ending->World->Prop}{u2:FrameMode}
  (hf:P.funcs[f]? = some fn) (hb:fn.body=some c) (hF:F.fn f)
  (h:∀(c₀:Frame) (cs:List Frame),c₀.mode=u->c.wpSIn F n P (fun e a' cs' w'=>cs'={c₀ with mode:=u2}::cs/\bodyPostM F n P fn R e a' w') {tmps:=args++Array.replicate (fn.ntmps - args.size) undef,defers:=[]} (c₀::cs) w) (hro:F.round=none) :
  CallsDIn F n P f args u w fun e u' w'=>u'=u2/\R e w':=by
 refine⟨hF,fun c₀ cs hu hr=>?_⟩
 let b:Frame:={(default:Frame)with fn:=f,kind:=.deferred,roundOf:=none}
 have henter:Frame.enter P f args .deferred =
   b.atR {tmps:=args++Array.replicate (fn.ntmps - args.size) undef,defers:=[]} [.code c]:=by
  simp[Frame.enter,Frame.atR,hf,hb,b]
 obtain⟨e,a',cs',w',hlen,⟨rfl,hq⟩,harr⟩:=h c₀ cs hu b [] rfl rfl hF hr
 have hr':F.room (({c₀ with mode:=u2}::cs).length+1+n):=hr
 rw[<-henter]at harr
 cases e with
 |normal =>
  obtain⟨e',w'',fr',hR,hs,hfn,hk,hl⟩:=Qcj a'.defers .returning w' {b.atR a' []with mode:=.returning} ({c₀ with mode:=u2}::cs) rfl rfl rfl hf rfl hF hr' hq
  exact⟨e',u2,w'',fr',⟨rfl,hR⟩,ComesIn.of_steps (StepsIn.trans harr (.one (fenced_calm (fr:=b.atR a' []) hF hr' rfl) (stepR_end rfl))) hs,hk,hfn,hl⟩
 |ret =>
  obtain⟨todo,hs₀⟩:=harr.1 rfl
  obtain⟨e',w'',fr',hR,hs,hfn,hk,hl⟩:=Qcj a'.defers .returning w' {b.atR a' todo with mode:=.returning} ({c₀ with mode:=u2}::cs) rfl rfl rfl hf rfl hF hr' hq
  exact⟨e',u2,w'',fr',⟨rfl,hR⟩,ComesIn.of_steps hs₀ hs,hk,hfn,hl⟩
 |panic chain =>
  obtain⟨todo,hs₀⟩:=harr
  obtain⟨e',w'',fr',hR,hs,hfn,hk,hl⟩:=Qcj a'.defers (.panicking chain) w' {b.atR a' todo with mode:=.panicking chain} ({c₀ with mode:=u2}::cs) rfl rfl rfl hf rfl hF hr' hq
  exact⟨e',u2,w'',fr',⟨rfl,hR⟩,ComesIn.of_steps hs₀ hs,hk,hfn,hl⟩
 |exit id=>exact hq.elim
 |goto l=>exact hq.elim
 |outgrown=>exact⟨.outgrown,u2,w',b,⟨rfl,hq⟩,harr.resolve_left (by simp[b]),rfl,rfl,trivial⟩
def recV:AMode->AV
 | .pan v false=>v
 |_=>.v .nilIface
def recM:AMode->AMode
 | .pan v false=>.pan v true
 |m=>m
theorem QcP{P:Program}{f:FuncId}{fn:Func}{id x y:Nat}{t1 t2:TypeId}{p1 p2:String}{a1 a2:Array Edge}{rest:Code}{args:List AV}{h:AH}{Q:AH->Prop}(hf:P.funcs[f]? = some fn)
  (hb:fn.body=some (.seq (.region id #[{dst:=some x,op:=.call ⟨.builtin .recover,#[],#[]⟩,type:=t1,pos:=p1,after:=a1,guard:=none},{dst:=some y,op:=.assign (.tmp x),type:=t2,pos:=p2,after:=a2,guard:=none}] false) rest))
  (hcall:∀vals w,(callFunc f vals).run P w = .ok (.enter f vals) w) {N:Nat} (hN:fn.ntmps=N) {rs:List ResultVar} (hrs:fn.results.toList=rs) (hn:args.length<=N) (hx:x<N) (hy:y<N) (m:AMode)
  (H:Yr P N rest (Qbm P rs h fun o h'=>(∃r,o = .ret r)/\Q h') ⟨upd (upd (XJ args) x (recV m)) y (recV m),h⟩):Qb2 P f args h m fun m' h'=>m'=recM m/\Q h':=by
 subst hN
 refine⟨hcall,fun F n c vals u hF hro hs hh hvals hm=>?_⟩
 subst hh
 have hsr0:SRd fn.ntmps c.w.heap.size c ⟨XJ args,c.h⟩ {tmps:=vals++Array.replicate (fn.ntmps - vals.size) undef,defers:=[]} []:=by
  refine⟨rfl,by have:=hvals.1;simp;omega,QuD _,⟨[],rfl,rfl,Qwk,fun e h=>by cases h⟩,fun t=>?_⟩
  simp only[XJ]
  rw[QuO,Qwn,Qu8]
  have hsz:=hvals.1
  by_cases ht:t<vals.size
  ·rw[QuH ht]
   obtain⟨u,hu⟩:∃u,vals[t]? = some u:=⟨_,QuV ht⟩
   obtain⟨a,ha⟩:∃a,args[t]? = some a:=⟨_,QuC (by omega)⟩
   rw[hu,ha]
   exact hvals.2 t a u ha hu
  ·rw[QuE ht,Qvf (by omega),QvS]
   split
   ·exact .v _
   ·exact .v _
 -- what recover does to the frame below
 obtain⟨rv,u2,hrel,hm2,hrec⟩:∃(rv:Value) (u2:FrameMode),Rel c (recV m) rv/\MdC c (recM m) u2/\∀(c₀:Frame) (cs:List Frame),c₀.mode=u ->
   (recoverD (c₀::cs)=some (rv,{c₀ with mode:=u2}::cs))\/(recoverD (c₀::cs)=none/\rv = .nilIface/\({c₀ with mode:=u2}:Frame)=c₀):=by
  cases m with
  |ret =>
   obtain rfl:u = .returning:=hm
   refine⟨.nilIface,.returning,.v _,rfl,fun c₀ cs hu=>.inr ⟨?_,rfl,by rw[<-hu]⟩⟩
   simp only[recoverD,hu]
  |pan v b =>
   obtain⟨xv,rfl,hv⟩:=hm
   cases b with
   |false =>
    refine⟨xv,_,hv,⟨xv,rfl,hv⟩,fun c₀ cs hu=>.inl ?_⟩
    simp only[recoverD,hu]
   |true =>
    refine⟨.nilIface,_,.v _,⟨xv,rfl,hv⟩,fun c₀ cs hu=>.inr ⟨?_,rfl,by rw[<-hu]⟩⟩
    simp only[recoverD,hu]
 have hsr:SRd fn.ntmps c.w.heap.size c ⟨upd (upd (XJ args) x (recV m)) y (recV m),c.h⟩ (((⟨vals++Array.replicate (fn.ntmps - vals.size) undef,[]⟩:Act).put (some x) rv).put (some y) rv) []:=by
  have s1:=(hsr0.sr hro).put hs (Ev.refl c) (some x) hrel
  have s2:=s1.put hs (Ev.refl c) (some y) hrel
  have s3:=hsr0.Qtj hs (Ev.refl c) s2
  simp only[AS.put,QuH hx,QuH hy]at s3
  exact s3
 refine(Qcc (u2:=u2) (R:=fun e w'=>∃(o:AOut) (c':Cx),((∃r,o=AOut.ret r)/\Q c'.h)/\Ev c c'/\St c'/\c'.w=w'/\EndC c' o e) hf hb (hF.fn f) (fun c₀ cs hu=>?_) hro).mono ?_
 ·apply wpSIn_seq
  apply wpSIn_region
  have hput:∀cs',cs'=({c₀ with mode:=u2}:Frame)::cs->rest.wpSIn F n P (fun e a' cs'' w'=>cs''={c₀ with mode:=u2}::cs/\bodyPostM F n P fn (fun e w'=>∃(o:AOut) (c':Cx),((∃r,o=AOut.ret r)/\Q c'.h)/\Ev c c'/\St c'/\c'.w=w'/\EndC c' o e) e a' w')
    (((⟨vals++Array.replicate (fn.ntmps - vals.size) undef,[]⟩:Act).put (some x) rv).put (some y) rv) cs' c.w:=by
   rintro cs' rfl
   refine wpSIn_of_wpIn hro ?_
   refine ZR (H.mono fun e s hq=>(by cases e <;> exact hq:Qmc P rs c.h (fun o h'=>(∃r,o=AOut.ret r)/\Q h') e s [])) F n c.w.heap.size c _ hF hro hs hsr _ ?_
   intro e s' ds' c' a' e' hQ hev hst hr hex
   obtain⟨es,e1,e2,e3,e4⟩:=hr.defs
   subst e2
   have hout:Out fn.ntmps c' s' a'.tmps:=⟨hr.h,hr.size,hr.tm⟩
   have key:=fun(m:AMode) (u:FrameMode) (hm:MdC c' m u) (hnr:∀v,m ≠ .pan v true) H=>e1▸Qcz (P:=P) hF hro (n:=n) (fn:=fn) (tmps:=a'.tmps) hrs (Q:=fun o h'=>(∃r,o=AOut.ret r)/\Q h') hs es c' s' m u hev hst hout e3 e4 hm hnr H
   refine⟨rfl,?_⟩
   cases e with
   |normal=>cases hex;exact key .ret .returning rfl (fun v h=>by cases h) hQ
   |ret=>cases hex;exact key .ret .returning rfl (fun v h=>by cases h) hQ
   |panic av =>
    obtain⟨x,rfl,hx⟩:=hex
    exact key (.pan av false) _ ⟨x,rfl,hx⟩ (fun v h=>by cases h) hQ
   |exit id=>exact hQ.elim
  have r2:((⟨vals++Array.replicate (fn.ntmps - vals.size) undef,[]⟩:Act).put (some x) rv).eval (.tmp x)=rv:=by
   have hlt:x<(vals++Array.replicate (fn.ntmps - vals.size) undef).size:=by have:=hsr0.size;simp only at this;omega
   simp only[QvD,Array.size_replicate]at hlt
   simp[Act.put,Act.eval]
   intro h;omega
  have hlt2:x<vals.size+(fn.ntmps - vals.size):=by omega
  show wpOpsSIn F n P _ _ [0,1] _ _ _
  rcases hrec c₀ cs hu with hr|⟨hr,rfl,hc⟩
  ·simp[wpOpsSIn,Region.wanted,execOp,go_sem,resolve,invoke,hr,hF.fn,Exit.thenS,hlt2]
   exact hput _ rfl
  ·simp[wpOpsSIn,Region.wanted,execOp,go_sem,resolve,invoke,hr,hF.fn,Exit.thenS,hlt2]
   exact hput _ (by rw[hc])
 ·rintro e u' w' ⟨rfl,o,c',⟨⟨r,rfl⟩,hQ⟩,hev,hst',rfl,xx,rfl,hx'⟩
  exact⟨xx,recM m,c',rfl,⟨rfl,hQ⟩,hev,hst',rfl,hm2.ev hs hev⟩
end Go.Proofs.YticgcpebdldbgaaGreatDoor.Ab
namespace Go.Proofs.YticgcpebdldbgaaGreatDoor.Ab
open Go.Proofs
section
variable{P:Pz}{s:PS}(hW:Wst P.all s){h:AH}(H:P.ok h)(hN:P.all.length<=1000000)
include hW H hN
theorem QhT(b:ByteArray)(hb:s.is b.toList=true):QA Tryz.prog 47 [.ptr P.i 0 0,.v (.string b)] (ph h P s) fun o h'=>o = .ret (.b true)/\h'=ph h P s.nx:=by
 have hX:=YW H s
 have hi:=ph_i H s
 have hp':=Qnq hW H hN (PS.QsV hb)
 have hp0:=hp' []
 have hi0:=hX
 rw[pB]at hi0
 simp only[pB]at hi
 simp only[Qt8]at hp0
 have ci:=QmV hW hX b
 rw[hb]at ci
 refine Qa Tryz.func47 rfl Tryz.call47 Tryz.ntmps47 Tryz.results47 (by simp) ?_
 repeat (first|refine FunW.QsR ci ?_|refine Qb ?_);simp only[go_sem,seval,hi0,hp0]
 exact .inr ⟨rfl,rfl⟩
theorem Qj4(b:ByteArray)(hb:s.is b.toList=false):QA Tryz.prog 47 [.ptr P.i 0 0,.v (.string b)] (ph h P s) fun o h'=>o = .ret (.b false)/\h'=ph h P s:=by
 have _u:=hN
 have hX:=YW H s
 have ci:=QmV hW hX b
 rw[hb]at ci
 refine Qa Tryz.func47 rfl Tryz.call47 Tryz.ntmps47 Tryz.results47 (by simp) ?_
 repeat (first|refine FunW.QsR ci ?_|refine Qb ?_);simp only[go_sem,seval]
 exact .inr ⟨rfl,rfl⟩
theorem Qll(b:ByteArray)(hb:s.is b.toList=true):QA Tryz.prog 44 [.ptr P.i 0 0,.v (.string b)] (ph h P s) fun o h'=>o = .ret (.tup [])/\h'=ph h P s.nx:=by
 have cs:=QhT hW H hN b hb
 refine Qa Tryz.func44 rfl Tryz.call44 Tryz.ntmps44 Tryz.results44 (by simp) ?_
 repeat (first|refine FunW.QsR cs ?_|refine Qb ?_);simp only[go_sem,seval]
 exact .inr ⟨rfl,rfl⟩
theorem QmF(b:ByteArray)(hb:s.is b.toList=false):QA Tryz.prog 44 [.ptr P.i 0 0,.v (.string b)] (ph h P s) fun o h'=>o = .panic (Fl s.tk.pos 16)/\h'=ph h P s:=by
 have cs:=Qj4 hW H hN b hb
 have cn:=YD hW (YW H s)
 have cf:=ZS s.tk 16
 refine Qa Tryz.func44 rfl Tryz.call44 Tryz.ntmps44 Tryz.results44 (by simp) ?_
 repeat (first|refine FunW.QsR cs ?_|refine FunW.QsR cn ?_|refine FunW.pan (FunW.call (cf _ _)) ?_|refine Qb ?_);simp only[go_sem,seval]
 exact .inr ⟨rfl,rfl⟩
theorem Qpc(n m:Int)(hm:¬m<=n):QA Tryz.prog 21 [.ptr P.i 0 0,.i n,.i m] (ph h P s) fun o h'=>o = .ret (.tup [])/\h'=ph h P s:=by
 have _u:=hN
 have _v:=hW
 have _w:=H
 have z1:¬n>=m:=hm
 refine Qa Tryz.func21 rfl Tryz.call21 Tryz.ntmps21 Tryz.results21 (by simp) ?_
 repeat refine Qb ?_;simp only[go_sem,seval,hm]
 exact .inr ⟨rfl,rfl⟩
theorem Qqx(n m:Int)(hm:m<=n):QA Tryz.prog 21 [.ptr P.i 0 0,.i n,.i m] (ph h P s) fun o h'=>o = .panic (Fl s.tk.pos 6)/\h'=ph h P s:=by
 have _u:=hN
 have z1:n>=m:=hm
 have cn:=YD hW (YW H s)
 have cf:=ZS s.tk 6
 refine Qa Tryz.func21 rfl Tryz.call21 Tryz.ntmps21 Tryz.results21 (by simp) ?_
 repeat (first|refine FunW.QsR cn ?_|refine FunW.pan (FunW.call (cf _ _)) ?_|refine Qb ?_);simp only[go_sem,seval,hm]
 exact .inr ⟨rfl,rfl⟩
theorem QiH:QA Tryz.prog 43 [.ptr P.i 0 0] (ph h P s) fun o h'=>match QaC s with
  | .ok x s2=>o = .ret (.v (.string x))/\h'=ph h P s2
  | .err p e=>o = .panic (Fl p e)/\∃s2,h'=ph h P s2:=by
 have ct:=Yq hW H hN
 have e1:=Tk.QsS s.tk
 have e2:=Tk.QsT s.tk
 have f1:=Xv h P s.nx
 have f3:=Yu h P
 have f4:=Zh h P
 have f5:=X7 h P
 have f6:=YB h P
 unfold QaC
 by_cases h1:s.tk.kind=1
 ·rw[QuE (by simpa using h1)]
  have z1:(s.tk.kind != 1)=false:=by simpa using h1
  have cr:=Qdt s.tk.text
  cases hr:resB s.tk.text with
  |true =>
   rw[QuH rfl]
   rw[hr]at cr
   have cf:=ZS s.tk 7
   refine Qa Tryz.func43 rfl Tryz.call43 Tryz.ntmps43 Tryz.results43 (by simp) ?_
   repeat (first|refine FunW.QsR ct ?_|refine Qe cr ?_|refine FunW.pan (FunW.call (cf _ _)) ?_|refine Qb ?_);simp only[go_sem,seval,e1,e2,f1,f3,f5,z1]
   exact Yc H (s:=s) (s':=s.nx) (.keep (QcA _ _ _)) ⟨rfl,_,rfl⟩
  |false =>
   rw[QuE (by simp)]
   rw[hr]at cr
   refine Qa Tryz.func43 rfl Tryz.call43 Tryz.ntmps43 Tryz.results43 (by simp) ?_
   repeat (first|refine FunW.QsR ct ?_|refine Qe cr ?_|refine Qb ?_);simp only[go_sem,seval,e1,e2,f1,f3,f5,z1]
   exact Yc H (s:=s) (s':=s.nx) (.keep (.v _)) ⟨rfl,rfl⟩
 ·rw[QuH h1]
  have z1:(s.tk.kind != 1)=true:=by simpa using h1
  have cf:=ZS s.tk 16
  refine Qa Tryz.func43 rfl Tryz.call43 Tryz.ntmps43 Tryz.results43 (by simp) ?_
  repeat (first|refine FunW.QsR ct ?_|refine FunW.pan (FunW.call (cf _ _)) ?_|refine Qb ?_);simp only[go_sem,seval,e1,e2,f1,f3,f5,z1]
  exact Yc H (s:=s) (s':=s.nx) (.keep (QcA _ _ _)) ⟨rfl,_,rfl⟩
end
end Go.Proofs.YticgcpebdldbgaaGreatDoor.Ab
namespace Go.Proofs.YticgcpebdldbgaaGreatDoor.Ab
open Go.Proofs
def clsN(c:Int):Int:=if c=32\/c=9\/c=13\/c=10 then 1 else if 97<=c/\c<=122 then 2 else if (65<=c/\c<=90)\/c=95 then 3 else if 48<=c/\c<=57 then 4 else 0
theorem QrK(c:Int)(hc:c=32):Pure Tryz.prog 116 [.v (.int .u8 c)] (.i (clsN c)):=by
 intro h
 have e0:clsN c=1:=by simp only[clsN];repeat' (first|rw[QuH (by omega)]|rw[QuE (by omega)])
 have b32:(c==32)=true:=by simp;omega
 have b9:(c==9)=false:=by simp;omega
 have b13:(c==13)=false:=by simp;omega
 have b10:(c==10)=false:=by simp;omega
 have b95:(c==95)=false:=by simp;omega
 have g97:¬97<=c:=by omega
 have l122:c<=122:=by omega
 have g65:¬65<=c:=by omega
 have l90:c<=90:=by omega
 have g48:¬48<=c:=by omega
 have l57:c<=57:=by omega
 refine Qa Tryz.func116 rfl Tryz.call116 Tryz.ntmps116 Tryz.results116 (by simp) ?_
 repeat refine Qb ?_;simp only[go_sem,seval,b32]
 (refine Qc QuA (.keep (.v _)) ⟨by rw[e0],rfl⟩)
theorem QrL(c:Int)(hc:c=9):Pure Tryz.prog 116 [.v (.int .u8 c)] (.i (clsN c)):=by
 intro h
 have e0:clsN c=1:=by simp only[clsN];repeat' (first|rw[QuH (by omega)]|rw[QuE (by omega)])
 have b32:(c==32)=false:=by simp;omega
 have b9:(c==9)=true:=by simp;omega
 have b13:(c==13)=false:=by simp;omega
 have b10:(c==10)=false:=by simp;omega
 have b95:(c==95)=false:=by simp;omega
 have g97:¬97<=c:=by omega
 have l122:c<=122:=by omega
 have g65:¬65<=c:=by omega
 have l90:c<=90:=by omega
 have g48:¬48<=c:=by omega
 have l57:c<=57:=by omega
 refine Qa Tryz.func116 rfl Tryz.call116 Tryz.ntmps116 Tryz.results116 (by simp) ?_
 repeat refine Qb ?_;simp only[go_sem,seval,b32,b9]
 (refine Qc QuA (.keep (.v _)) ⟨by rw[e0],rfl⟩)
theorem QrM(c:Int)(hc:c=13):Pure Tryz.prog 116 [.v (.int .u8 c)] (.i (clsN c)):=by
 intro h
 have e0:clsN c=1:=by simp only[clsN];repeat' (first|rw[QuH (by omega)]|rw[QuE (by omega)])
 have b32:(c==32)=false:=by simp;omega
 have b9:(c==9)=false:=by simp;omega
 have b13:(c==13)=true:=by simp;omega
 have b10:(c==10)=false:=by simp;omega
 have b95:(c==95)=false:=by simp;omega
 have g97:¬97<=c:=by omega
 have l122:c<=122:=by omega
 have g65:¬65<=c:=by omega
 have l90:c<=90:=by omega
 have g48:¬48<=c:=by omega
 have l57:c<=57:=by omega
 refine Qa Tryz.func116 rfl Tryz.call116 Tryz.ntmps116 Tryz.results116 (by simp) ?_
 repeat refine Qb ?_;simp only[go_sem,seval,b32,b9,b13]
 (refine Qc QuA (.keep (.v _)) ⟨by rw[e0],rfl⟩)
theorem QrN(c:Int)(hc:c=10):Pure Tryz.prog 116 [.v (.int .u8 c)] (.i (clsN c)):=by
 intro h
 have e0:clsN c=1:=by simp only[clsN];repeat' (first|rw[QuH (by omega)]|rw[QuE (by omega)])
 have b32:(c==32)=false:=by simp;omega
 have b9:(c==9)=false:=by simp;omega
 have b13:(c==13)=false:=by simp;omega
 have b10:(c==10)=true:=by simp;omega
 have b95:(c==95)=false:=by simp;omega
 have g97:¬97<=c:=by omega
 have l122:c<=122:=by omega
 have g65:¬65<=c:=by omega
 have l90:c<=90:=by omega
 have g48:¬48<=c:=by omega
 have l57:c<=57:=by omega
 refine Qa Tryz.func116 rfl Tryz.call116 Tryz.ntmps116 Tryz.results116 (by simp) ?_
 repeat refine Qb ?_;simp only[go_sem,seval,b32,b9,b13,b10]
 (refine Qc QuA (.keep (.v _)) ⟨by rw[e0],rfl⟩)
theorem QrO(c:Int)(hc:97<=c/\c<=122):Pure Tryz.prog 116 [.v (.int .u8 c)] (.i (clsN c)):=by
 intro h
 have e0:clsN c=2:=by simp only[clsN];repeat' (first|rw[QuH (by omega)]|rw[QuE (by omega)])
 have b32:(c==32)=false:=by simp;omega
 have b9:(c==9)=false:=by simp;omega
 have b13:(c==13)=false:=by simp;omega
 have b10:(c==10)=false:=by simp;omega
 have b95:(c==95)=false:=by simp;omega
 have g97:97<=c:=by omega
 have l122:c<=122:=by omega
 have g65:65<=c:=by omega
 have l90:¬c<=90:=by omega
 have g48:48<=c:=by omega
 have l57:¬c<=57:=by omega
 refine Qa Tryz.func116 rfl Tryz.call116 Tryz.ntmps116 Tryz.results116 (by simp) ?_
 repeat refine Qb ?_;simp only[go_sem,seval,b32,b9,b13,b10,g97,l122]
 (refine Qc QuA (.keep (.v _)) ⟨by rw[e0],rfl⟩)
theorem QrP(c:Int)(hc:65<=c/\c<=90):Pure Tryz.prog 116 [.v (.int .u8 c)] (.i (clsN c)):=by
 intro h
 have e0:clsN c=3:=by simp only[clsN];repeat' (first|rw[QuH (by omega)]|rw[QuE (by omega)])
 have b32:(c==32)=false:=by simp;omega
 have b9:(c==9)=false:=by simp;omega
 have b13:(c==13)=false:=by simp;omega
 have b10:(c==10)=false:=by simp;omega
 have b95:(c==95)=false:=by simp;omega
 have g97:¬97<=c:=by omega
 have l122:c<=122:=by omega
 have g65:65<=c:=by omega
 have l90:c<=90:=by omega
 have g48:48<=c:=by omega
 have l57:¬c<=57:=by omega
 refine Qa Tryz.func116 rfl Tryz.call116 Tryz.ntmps116 Tryz.results116 (by simp) ?_
 repeat refine Qb ?_;simp only[go_sem,seval,b32,b9,b13,b10,g97,g65,l90]
 (refine Qc QuA (.keep (.v _)) ⟨by rw[e0],rfl⟩)
theorem QrQ(c:Int)(hc:c=95):Pure Tryz.prog 116 [.v (.int .u8 c)] (.i (clsN c)):=by
 intro h
 have e0:clsN c=3:=by simp only[clsN];repeat' (first|rw[QuH (by omega)]|rw[QuE (by omega)])
 have b32:(c==32)=false:=by simp;omega
 have b9:(c==9)=false:=by simp;omega
 have b13:(c==13)=false:=by simp;omega
 have b10:(c==10)=false:=by simp;omega
 have b95:(c==95)=true:=by simp;omega
 have g97:¬97<=c:=by omega
 have l122:c<=122:=by omega
 have g65:65<=c:=by omega
 have l90:¬c<=90:=by omega
 have g48:48<=c:=by omega
 have l57:¬c<=57:=by omega
 refine Qa Tryz.func116 rfl Tryz.call116 Tryz.ntmps116 Tryz.results116 (by simp) ?_
 repeat refine Qb ?_;simp only[go_sem,seval,b32,b9,b13,b10,b95,g97,g65,l90]
 (refine Qc QuA (.keep (.v _)) ⟨by rw[e0],rfl⟩)
theorem QrR(c:Int)(hc:48<=c/\c<=57):Pure Tryz.prog 116 [.v (.int .u8 c)] (.i (clsN c)):=by
 intro h
 have e0:clsN c=4:=by simp only[clsN];repeat' (first|rw[QuH (by omega)]|rw[QuE (by omega)])
 have b32:(c==32)=false:=by simp;omega
 have b9:(c==9)=false:=by simp;omega
 have b13:(c==13)=false:=by simp;omega
 have b10:(c==10)=false:=by simp;omega
 have b95:(c==95)=false:=by simp;omega
 have g97:¬97<=c:=by omega
 have l122:c<=122:=by omega
 have g65:¬65<=c:=by omega
 have l90:c<=90:=by omega
 have g48:48<=c:=by omega
 have l57:c<=57:=by omega
 refine Qa Tryz.func116 rfl Tryz.call116 Tryz.ntmps116 Tryz.results116 (by simp) ?_
 repeat refine Qb ?_;simp only[go_sem,seval,b32,b9,b13,b10,b95,g97,g65,g48,l57]
 (refine Qc QuA (.keep (.v _)) ⟨by rw[e0],rfl⟩)
theorem QrS(c:Int)(hc:c<48/\c≠32/\c≠9/\c≠13/\c≠10):Pure Tryz.prog 116 [.v (.int .u8 c)] (.i (clsN c)):=by
 intro h
 have e0:clsN c=0:=by simp only[clsN];repeat' (first|rw[QuH (by omega)]|rw[QuE (by omega)])
 have b32:(c==32)=false:=by simp;omega
 have b9:(c==9)=false:=by simp;omega
 have b13:(c==13)=false:=by simp;omega
 have b10:(c==10)=false:=by simp;omega
 have b95:(c==95)=false:=by simp;omega
 have g97:¬97<=c:=by omega
 have l122:c<=122:=by omega
 have g65:¬65<=c:=by omega
 have l90:c<=90:=by omega
 have g48:¬48<=c:=by omega
 have l57:c<=57:=by omega
 refine Qa Tryz.func116 rfl Tryz.call116 Tryz.ntmps116 Tryz.results116 (by simp) ?_
 repeat refine Qb ?_;simp only[go_sem,seval,b32,b9,b13,b10,b95,g97,g65,g48]
 (refine Qc QuA (.keep (.v _)) ⟨by rw[e0],rfl⟩)
theorem QrT(c:Int)(hc:58<=c/\c<=64):Pure Tryz.prog 116 [.v (.int .u8 c)] (.i (clsN c)):=by
 intro h
 have e0:clsN c=0:=by simp only[clsN];repeat' (first|rw[QuH (by omega)]|rw[QuE (by omega)])
 have b32:(c==32)=false:=by simp;omega
 have b9:(c==9)=false:=by simp;omega
 have b13:(c==13)=false:=by simp;omega
 have b10:(c==10)=false:=by simp;omega
 have b95:(c==95)=false:=by simp;omega
 have g97:¬97<=c:=by omega
 have l122:c<=122:=by omega
 have g65:¬65<=c:=by omega
 have l90:c<=90:=by omega
 have g48:48<=c:=by omega
 have l57:¬c<=57:=by omega
 refine Qa Tryz.func116 rfl Tryz.call116 Tryz.ntmps116 Tryz.results116 (by simp) ?_
 repeat refine Qb ?_;simp only[go_sem,seval,b32,b9,b13,b10,b95,g97,g65,g48,l57]
 (refine Qc QuA (.keep (.v _)) ⟨by rw[e0],rfl⟩)
theorem QqO(c:Int)(hc:91<=c/\c<=94):Pure Tryz.prog 116 [.v (.int .u8 c)] (.i (clsN c)):=by
 intro h
 have e0:clsN c=0:=by simp only[clsN];repeat' (first|rw[QuH (by omega)]|rw[QuE (by omega)])
 have b32:(c==32)=false:=by simp;omega
 have b9:(c==9)=false:=by simp;omega
 have b13:(c==13)=false:=by simp;omega
 have b10:(c==10)=false:=by simp;omega
 have b95:(c==95)=false:=by simp;omega
 have g97:¬97<=c:=by omega
 have l122:c<=122:=by omega
 have g65:65<=c:=by omega
 have l90:¬c<=90:=by omega
 have g48:48<=c:=by omega
 have l57:¬c<=57:=by omega
 refine Qa Tryz.func116 rfl Tryz.call116 Tryz.ntmps116 Tryz.results116 (by simp) ?_
 repeat refine Qb ?_;simp only[go_sem,seval,b32,b9,b13,b10,b95,g97,g65,l90,g48,l57]
 (refine Qc QuA (.keep (.v _)) ⟨by rw[e0],rfl⟩)
theorem QqP(c:Int)(hc:c=96):Pure Tryz.prog 116 [.v (.int .u8 c)] (.i (clsN c)):=by
 intro h
 have e0:clsN c=0:=by simp only[clsN];repeat' (first|rw[QuH (by omega)]|rw[QuE (by omega)])
 have b32:(c==32)=false:=by simp;omega
 have b9:(c==9)=false:=by simp;omega
 have b13:(c==13)=false:=by simp;omega
 have b10:(c==10)=false:=by simp;omega
 have b95:(c==95)=false:=by simp;omega
 have g97:¬97<=c:=by omega
 have l122:c<=122:=by omega
 have g65:65<=c:=by omega
 have l90:¬c<=90:=by omega
 have g48:48<=c:=by omega
 have l57:¬c<=57:=by omega
 refine Qa Tryz.func116 rfl Tryz.call116 Tryz.ntmps116 Tryz.results116 (by simp) ?_
 repeat refine Qb ?_;simp only[go_sem,seval,b32,b9,b13,b10,b95,g97,g65,l90,g48,l57]
 (refine Qc QuA (.keep (.v _)) ⟨by rw[e0],rfl⟩)
theorem QqQ(c:Int)(hc:122<c):Pure Tryz.prog 116 [.v (.int .u8 c)] (.i (clsN c)):=by
 intro h
 have e0:clsN c=0:=by simp only[clsN];repeat' (first|rw[QuH (by omega)]|rw[QuE (by omega)])
 have b32:(c==32)=false:=by simp;omega
 have b9:(c==9)=false:=by simp;omega
 have b13:(c==13)=false:=by simp;omega
 have b10:(c==10)=false:=by simp;omega
 have b95:(c==95)=false:=by simp;omega
 have g97:97<=c:=by omega
 have l122:¬c<=122:=by omega
 have g65:65<=c:=by omega
 have l90:¬c<=90:=by omega
 have g48:48<=c:=by omega
 have l57:¬c<=57:=by omega
 refine Qa Tryz.func116 rfl Tryz.call116 Tryz.ntmps116 Tryz.results116 (by simp) ?_
 repeat refine Qb ?_;simp only[go_sem,seval,b32,b9,b13,b10,b95,g97,l122,g65,l90,g48,l57]
 (refine Qc QuA (.keep (.v _)) ⟨by rw[e0],rfl⟩)
theorem Qde(c:Int):Pure Tryz.prog 116 [.v (.int .u8 c)] (.i (clsN c)):=by
 have hcs:c=32\/c=9\/c=13\/c=10\/97<=c/\c<=122\/65<=c/\c<=90\/c=95\/48<=c/\c<=57\/c<48/\c≠32/\c≠9/\c≠13/\c≠10\/58<=c/\c<=64\/91<=c/\c<=94\/c=96\/122<c:=by omega
 rcases hcs with h|h|h|h|h|h|h|h|h|h|h|h|h
 ·exact QrK c h
 ·exact QrL c h
 ·exact QrM c h
 ·exact QrN c h
 ·exact QrO c h
 ·exact QrP c h
 ·exact QrQ c h
 ·exact QrR c h
 ·exact QrS c h
 ·exact QrT c h
 ·exact QqO c h
 ·exact QqP c h
 ·exact QqQ c h
end Go.Proofs.YticgcpebdldbgaaGreatDoor.Ab
namespace Go.Proofs.YticgcpebdldbgaaGreatDoor.Ab
open Go.Proofs
theorem Qv(l:List UInt8):(mkB l).size=l.length:=by show l.toArray.size=_;simp
theorem Qnb(l:List UInt8):(mkB l).data.toList=l:=by simp[mkB]
theorem Qhv(s:ByteArray):mkB s.data.toList=s:=Qpt (by rw[Qnb])
theorem Qen(l:List UInt8):(mkB l).toList=l:=by rw[Lib.toList_data,Qnb]
theorem YT(l:List UInt8)(i:Nat)(h:i<l.length):byteAt (mkB l) i=((l[i]).toNat:Nat):=by
 unfold byteAt;rw[Qnb,Qu8,QuC h];rfl
theorem Qmx(c:UInt8):(clsN (c.toNat:Nat)==1)=isSp c:=by
 unfold clsN isSp
 by_cases h:((c.toNat:Nat):Int)=32\/((c.toNat:Nat):Int)=9\/((c.toNat:Nat):Int)=13\/((c.toNat:Nat):Int)=10
 ·rw[QuH h,QuU (by omega)];rfl
 ·rw[QuE h,QuM (by omega)]
  repeat' split
  all_goals rfl
theorem QqN(c:UInt8):(2<=clsN (c.toNat:Nat))↔isW c=true:=by
 have hc:=c.toNat_lt
 unfold clsN isW isL isD
 simp only[QvC,Qvi]
 repeat' split
 all_goals omega
theorem Qmw(c:UInt8):(4<=clsN (c.toNat:Nat))↔isD c=true:=by
 have hc:=c.toNat_lt
 unfold clsN isD
 simp only[Qvi]
 repeat' split
 all_goals omega
theorem drop_cons{l:List UInt8}{k:Nat}(h:k<l.length):l.drop k=l[k]::l.drop (k+1):=QuQ h
section
variable(l:List UInt8)(hl:l.length<=16384)
include hl
theorem Qi1(p:UInt8->Bool)(least:Int)(hcl:∀c:UInt8,(least<=clsN (c.toNat:Nat))↔p c=true)(k:Nat)(hk:k<=l.length) :
  Pure Tryz.prog 117 [.v (.string (mkB l)),.i k,.i least] (.i ((k+((l.drop k).takeWhile p).length:Nat):Int)):=by
 intro h
 have hsl:=fun b=>Y5 Tryz.prog 9 3 (by kernel_rfl) b
 refine Qa Tryz.func117 rfl Tryz.call117 Tryz.ntmps117 Tryz.results117 (by simp) ?_
 repeat refine Qb ?_;simp only[go_sem,seval]
 obtain⟨I,hI⟩:∃I:Nat->AS->Prop,I=fun m' s=>∃j:Nat,m'=l.length - j/\j<=l.length/\j+((l.drop j).takeWhile p).length=k+((l.drop k).takeWhile p).length/\s.tm 0 = .v (.string (mkB l))/\s.tm 1 = .i j/\s.tm 2 = .i least/\s.h=h:=⟨_,rfl⟩;refine QD I ?_ (m:=l.length - k) ?_
 ·intro m' s hs;rw[hI]at hs;obtain⟨tm,hp⟩:=s;dsimp only at hs;obtain⟨j,rfl,hj,he,t0,t1,t2,rfl⟩:=hs
  by_cases hlt:j<l.length
  ·have z1:(((j:Nat):Int)<((l.length:Nat):Int)):=by omega
   have hix:=Yv Tryz.prog 9 (by kernel_rfl) (mkB l) j (by rw[Qv];exact hlt)
   rw[YT l j hlt]at hix
   have cp:=Qde (((l[j]).toNat:Nat):Int)
   rw[drop_cons hlt,QvR]at he
   by_cases hc:p l[j]=true
   ·rw[QuH hc,QtS]at he
    have z2:least<=clsN (((l[j]).toNat:Nat):Int):=(hcl _).2 hc
    repeat (first|refine Qe cp ?_|refine Qb ?_);simp only[go_sem,seval,t0,t1,t2,hsl,Qv,z1,hix,z2]
    refine XB.mk (m':=l.length - (j+1)) (by omega) ?_
    rw[hI]
    refine⟨j+1,rfl,hlt,by omega,t0,?_,t2,rfl⟩
    simp only[upd,↓reduceIte]
    rw[XM (by omega)]
   ·rw[QuE hc,QtT]at he
    have z2:¬least<=clsN (((l[j]).toNat:Nat):Int):=fun q=>hc ((hcl _).1 q)
    repeat (first|refine Qe cp ?_|refine Qb ?_);simp only[go_sem,seval,t0,t1,t2,hsl,Qv,z1,hix,z2]
    exact Qc QuA (.keep (.v _)) ⟨by rw[<-he];rfl,rfl⟩
  ·have hjl:j=l.length:=by omega
   have z1:¬(((j:Nat):Int)<((l.length:Nat):Int)):=by omega
   rw[hjl,Qvb]at he
   repeat refine Qb ?_;simp only[go_sem,seval,t0,t1,hsl,Qv,z1]
   exact Qc QuA (.keep (.v _)) ⟨by rw[<-he,hjl];rfl,rfl⟩
 ·rw[hI]
  exact⟨k,rfl,hk,rfl,rfl,rfl,rfl,rfl⟩
theorem QlW(k:Nat)(hk:k<=l.length):Pure Tryz.prog 106 [.v (.string (mkB l)),.i k] (.i ((l.length - (XS false (l.drop k)).length:Nat):Int)):=by
 intro h
 have hsl:=fun b=>Y5 Tryz.prog 9 3 (by kernel_rfl) b
 refine Qa Tryz.func106 rfl Tryz.call106 Tryz.ntmps106 Tryz.results106 (by simp) ?_
 repeat refine Qb ?_;simp only[go_sem,seval]
 obtain⟨I,hI⟩:∃I:Nat->AS->Prop,I=fun m' s=>∃j:Nat,m'=l.length - j/\j<=l.length/\XS false (l.drop j)=XS false (l.drop k)/\s.tm 0 = .v (.string (mkB l))/\s.tm 1 = .i j/\s.h=h:=⟨_,rfl⟩;refine QD I ?_ (m:=l.length - k) ?_
 ·intro m' s hs;rw[hI]at hs;obtain⟨tm,hp⟩:=s;dsimp only at hs;obtain⟨j,rfl,hj,he,t0,t1,rfl⟩:=hs
  by_cases hlt:j<l.length
  ·have z1:(((j:Nat):Int)<((l.length:Nat):Int)):=by omega
   have hix:=Yv Tryz.prog 9 (by kernel_rfl) (mkB l) j (by rw[Qv];exact hlt)
   rw[YT l j hlt]at hix
   have cp:=Qde (((l[j]).toNat:Nat):Int)
   have hd:=drop_cons hlt
   rw[hd,XS]at he
   by_cases hc:isSp l[j]=true
   ·rw[QuH hc]at he
    have z2:(clsN (((l[j]).toNat:Nat):Int)==1)=true:=by rw[Qmx];exact hc
    repeat (first|refine Qe cp ?_|refine Qb ?_);simp only[go_sem,seval,t0,t1,hsl,Qv,z1,hix,z2]
    refine XB.mk (m':=l.length - (j+1)) (by omega) ?_
    rw[hI]
    refine⟨j+1,rfl,hlt,he,t0,?_,rfl⟩
    simp only[upd,↓reduceIte]
    rw[XM (by omega)]
   ·rw[QuE hc]at he
    have z2:(clsN (((l[j]).toNat:Nat):Int)==1)=false:=by rw[Qmx];simpa using hc
    by_cases h35:(l[j]).toNat=35
    ·rw[QuH h35]at he
     have z3:((((l[j]).toNat:Nat):Int)==35)=true:=by rw[h35];rfl
     have hI0:=hI
     repeat (first|refine Qe cp ?_|refine Qb ?_);simp only[go_sem,seval,t0,t1,hsl,Qv,z1,hix,z2,z3]
     obtain⟨I,hI⟩:∃I:Nat->AS->Prop,I=fun m' s=>∃i:Nat,m'=l.length - i/\i<=l.length/\j<=i/\(i=j\/XS true (l.drop i)=XS false (l.drop k))/\s.tm 0 = .v (.string (mkB l))/\s.tm 1 = .i i/\s.h=hp:=⟨_,rfl⟩;refine QD I ?_ (m:=l.length - j) ?_
     ·intro m' s hs;rw[hI]at hs;obtain⟨tm,hp⟩:=s;dsimp only at hs;obtain⟨i,rfl,hi,hji,he2,u0,u1,rfl⟩:=hs
      by_cases hlt2:i<l.length
      ·have y1:(((i:Nat):Int)<((l.length:Nat):Int)):=by omega
       have hix2:=Yv Tryz.prog 9 (by kernel_rfl) (mkB l) i (by rw[Qv];exact hlt2)
       rw[YT l i hlt2]at hix2
       have hd2:=drop_cons hlt2
       by_cases h10:(l[i]).toNat=10
       ·have y2:((((l[i]).toNat:Nat):Int) != 10)=false:=by rw[h10];rfl
        have hne:i≠j:=by rintro rfl;omega
        have he3:=he2.resolve_left hne
        rw[hd2,XS,QuH h10]at he3
        repeat refine Qb ?_;simp only[go_sem,seval,u0,u1,hsl,Qv,y1,hix2,y2]
        refine XB.mk (m':=l.length - i) (by omega) ?_
        rw[hI0]
        refine⟨i,rfl,hi,?_,u0,u1,rfl⟩
        rw[hd2,XS,QuH (show isSp l[i]=true by unfold isSp;exact QuU (by omega))];exact he3
       ·have y2:((((l[i]).toNat:Nat):Int) != 10)=true:=by simpa using fun e=>h10 (by omega)
        repeat refine Qb ?_;simp only[go_sem,seval,u0,u1,hsl,Qv,y1,hix2,y2]
        refine XB.mk (m':=l.length - (i+1)) (by omega) ?_
        rw[hI]
        refine⟨i+1,rfl,hlt2,by omega,.inr ?_,u0,?_,rfl⟩
        ·rcases he2 with rfl|he2
         ·exact he
         ·rw[hd2,XS,QuE h10]at he2;exact he2
        ·simp only[upd,↓reduceIte]
         rw[XM (by omega)]
      ·have hil:i=l.length:=by omega
       have y1:¬(((i:Nat):Int)<((l.length:Nat):Int)):=by omega
       have hne:i≠j:=by omega
       have he3:=he2.resolve_left hne
       repeat refine Qb ?_;simp only[go_sem,seval,u0,u1,hsl,Qv,y1]
       refine XB.mk (m':=l.length - i) (by omega) ?_
       rw[hI0]
       refine⟨i,rfl,hi,?_,u0,u1,rfl⟩
       rw[hil,Qvb]at he3 ⊢
       rw[<-he3,XS,XS]
     ·rw[hI]
      exact⟨j,rfl,hj,QuD _,.inl rfl,t0,t1,rfl⟩
    ·rw[QuE h35]at he
     have z3:((((l[j]).toNat:Nat):Int)==35)=false:=by simpa using fun e=>h35 (by omega)
     repeat (first|refine Qe cp ?_|refine Qb ?_);simp only[go_sem,seval,t0,t1,hsl,Qv,z1,hix,z2,z3]
     exact Qc QuA (.keep (.v _)) ⟨by rw[<-he,QtS,QuX];congr 3;omega,rfl⟩
  ·have hjl:j=l.length:=by omega
   have z1:¬(((j:Nat):Int)<((l.length:Nat):Int)):=by omega
   rw[hjl,Qvb,XS]at he
   repeat refine Qb ?_;simp only[go_sem,seval,t0,t1,hsl,Qv,z1]
   exact Qc QuA (.keep (.v _)) ⟨by rw[<-he,hjl];rfl,rfl⟩
 ·rw[hI]
  exact⟨k,rfl,hk,rfl,rfl,rfl,rfl⟩
end
end Go.Proofs.YticgcpebdldbgaaGreatDoor.Ab
namespace Go.Proofs.YticgcpebdldbgaaGreatDoor.Ab
open Go.Proofs
theorem QfC(l:List UInt8)(c:UInt8):numVal (l++[c])=10 * numVal l+(c.toNat - 48):=by simp[numVal,List.foldl_append]
theorem Qnk(l:List UInt8):∀m:List UInt8,numVal l<=numVal (l++m):=by
 intro m
 induction m generalizing l with
 |nil=>rw[Qt8];exact QuD _
 |cons c m ih =>
  have h1:=ih (l++[c])
  rw[Quz]at h1
  have h2:=QfC l c
  show numVal l<=numVal (l++([c]++m))
  omega
theorem QbR{l:List UInt8}{p:Nat}(h:p<l.length):numVal (l.take (p+1))=10 * numVal (l.take p)+((l[p]).toNat - 48)/\numVal (l.take (p+1))<=numVal l:=by
 refine⟨by rw[Qu4 h,QfC],?_⟩
 have:=Qnk (l.take (p+1)) (l.drop (p+1))
 rwa [Qvl]at this
theorem wrap32{n:Int}(h : -2147483648<=n/\n<=2147483647):IntKind.i32.wrap n=n:=IntWalk.i32_in n h
theorem Qrq(n:Int)(hn:0<=n/\n<256):pv Tryz.prog (convert 21 3 (.int .i32 n))=some (.int .i64 n):=by
 have:pv Tryz.prog (convert 21 3 (.int .i32 n))=some (.int .i64 (IntKind.i64.wrap n)):=by kernel_rfl
 rw[this,Ya (by omega)]
theorem QjK(l:List UInt8)(hd:∀c∈l,isD c=true)(hv:numVal l<=2147483648):Pure Tryz.prog 46 [.v (.string (mkB l))] (.i (numVal l:Nat)):=by
 intro h
 refine Qa Tryz.func46 rfl Tryz.call46 Tryz.ntmps46 Tryz.results46 (by simp) ?_
 repeat refine Qb ?_;simp only[go_sem,seval]
 obtain⟨I,hI⟩:∃I:Nat->AS->Prop,I=fun m' s=>∃(p:Nat),m'=l.length - p/\p<=l.length/\s.tm 3 = .i (numVal (l.take p):Nat)/\s.tm 7 = .mp h.length/\s.h=h++[.iter (mkB l) p]:=⟨_,rfl⟩;refine QD I ?_ (m:=l.length) ?_
 ·intro m' s hs;rw[hI]at hs;obtain⟨tm,hp⟩:=s;dsimp only at hs;obtain⟨p,rfl,hp',t3,t7,rfl⟩:=hs
  by_cases hlt:p<l.length
  ·have hc:=hd l[p] (Qvk hlt)
   have hcd:48<=(l[p]).toNat/\(l[p]).toNat<=57:=by unfold isD at hc;simpa using hc
   have hby:=YT l p hlt
   obtain⟨d1,d2⟩:=decode_ascii (s:=mkB l) (i:=p) (by rw[hby];omega)
   rw[hby]at d1
   obtain⟨n1,n2⟩:=QbR hlt
   generalize hn:numVal (l.take p)=v at *
   have w1:IntKind.i64.wrap (10 * ((v:Nat):Int))=((10 * v:Nat):Int):=by rw[Ya (by omega)];omega
   have w2:IntKind.i32.wrap ((((l[p]).toNat:Nat):Int) - 48)=(((l[p]).toNat - 48:Nat):Int):=by rw[wrap32 (by omega)];omega
   have w3:=Qrq (((l[p]).toNat - 48:Nat):Int) (by omega)
   have w4:IntKind.i64.wrap (((10 * v:Nat):Int)+(((l[p]).toNat - 48:Nat):Int))=((numVal (l.take (p+1)):Nat):Int):=by rw[Ya (by omega)];omega
   have z1:p<(mkB l).size:=by rw[Qv];exact hlt
   repeat refine Qb ?_;simp only[go_sem,seval,t3,t7,z1,d1,d2,w1,w2,w3,w4]
   refine XB.mk (m':=l.length - (p+1)) (by omega) ?_
   rw[hI]
   exact⟨p+1,rfl,hlt,rfl,t7,rfl⟩
  ·have z1:¬p<(mkB l).size:=by rw[Qv];exact hlt
   have e:l.take p=l:=QvY (by omega)
   rw[e]at t3
   repeat refine Qb ?_;simp only[go_sem,seval,t3,t7,z1]
   (refine Qc (htake _ _) (.keep (.v _)) ⟨rfl,rfl⟩)
 ·rw[hI]
  exact⟨0,rfl,QuG _,rfl,rfl,rfl⟩
abbrev lf(k i:Int):AV:=.agg [.v (.int .i64 k),.v (.int .i64 i),.v (.string {data:=#[]}),.v (.slice none 0 0)]
theorem Qdj(n:Nat)(k i:Int):Below n (lf k i):=.agg _ fun a ha=>by
 simp only[QuL,QuS,Qvz]at ha
 rcases ha with rfl|rfl|rfl|rfl <;> exact .v _
theorem Qkr(n:Int):Pure Tryz.prog 122 [.i n] (lf 0 n):=by
 intro h
 refine Qa Tryz.func122 rfl Tryz.call122 Tryz.ntmps122 Tryz.results122 (by simp) ?_
 repeat refine Qb ?_;simp only[go_sem,seval]
 exact Qc (htake _ _) (.keep (Qdj _ _ _)) ⟨rfl,rfl⟩
theorem QkZ(n:Int):Pure Tryz.prog 129 [.i n] (lf 1 n):=by
 intro h
 refine Qa Tryz.func129 rfl Tryz.call129 Tryz.ntmps129 Tryz.results129 (by simp) ?_
 repeat refine Qb ?_;simp only[go_sem,seval]
 exact Qc (htake _ _) (.keep (Qdj _ _ _)) ⟨rfl,rfl⟩
end Go.Proofs.YticgcpebdldbgaaGreatDoor.Ab
namespace Go.Proofs.YticgcpebdldbgaaGreatDoor.Ab
open Go.Proofs
def phx(h:AH)(P:Pz)(a b c:AB):AH:=((h.set P.i a).set P.j b).set P.g c
section
variable{h:AH}{P:Pz}(H:P.ok h)
include H
theorem QbS(a b c:AB):(phx h P a b c).length=h.length:=by have _u:=H;simp[phx]
theorem Qr9(a b c:AB)(L:AH):(phx h P a b c++L)[P.i]? = some a:=by
 rw[Qux (by rw[QbS H];exact H.i)]
 unfold phx
 rw[Quy (Qvw H.ig),Quy (Qvw H.ij),QuF H.i]
theorem Qsa(a b c:AB)(L:AH):(phx h P a b c++L)[P.j]? = some b:=by
 rw[Qux (by rw[QbS H];exact H.j)]
 unfold phx
 rw[Quy (Qvw H.jg),QuF (by simpa using H.j)]
theorem Qr8(a b c:AB)(L:AH):(phx h P a b c++L)[P.g]? = some c:=by
 rw[Qux (by rw[QbS H];exact H.g)]
 unfold phx
 rw[QuF (by simpa using H.g)]
theorem Qro(a b c a':AB)(L:AH):(phx h P a b c++L).set P.i a'=phx h P a' b c++L:=by
 rw[QuN _ _ (by rw[QbS H];exact H.i)]
 unfold phx
 rw[Qwp _ _ (Qvw H.ig),Qwp _ _ (Qvw H.ij),Qwf]
theorem Qrp(a b c b':AB)(L:AH):(phx h P a b c++L).set P.j b'=phx h P a b' c++L:=by
 rw[QuN _ _ (by rw[QbS H];exact H.j)]
 unfold phx
 rw[Qwp _ _ (Qvw H.jg),Qwf]
theorem Qrn(a b c c':AB)(L:AH):(phx h P a b c++L).set P.g c'=phx h P a b c'++L:=by
 rw[QuN _ _ (by rw[QbS H];exact H.g)]
 unfold phx
 rw[Qwf]
theorem QoY(a b c:AB)(L:AH):(phx h P a b c++L)[h.length]? = L[0]? := by rw[<-QbS H a b c];exact X8 _ _
theorem Qnt(a b c y:AB)(L:AH):(phx h P a b c++L).set h.length y=phx h P a b c++L.set 0 y:=by rw[<-QbS H a b c];exact Yh _ _ _
end
theorem QiQ(h:AH)(P:Pz)(s:PS):ph h P s=phx h P (.cells 61 4 [.agg [.sl 3 (tks P.all) none,.i ((P.all.length - s.toks.length:Nat):Int),.sl 1 (strs s.names) (some P.g),.mp P.j]]) (.map (smap (kn s.names))) (.grow 9 1 s.names.length):=rfl
theorem Qls{names:List ByteArray}{x:ByteArray}(h:¬(nameAt names x<names.length/\x.toList≠[95])):kn (names++[x])=supd x (.i (names.length:Nat)) (kn names):=by
 rw[QmY]
 unfold QgL
 rw[QuE]
 rintro⟨h1,h2⟩
 simp only at h1 h2
 rw[Qku x h1 _ names rfl]at h2
 by_cases h3:nameAt names x<names.length
 ·exact h ⟨h3,h1⟩
 ·rw[QuE h3]at h2;cases h2
theorem QqC(n:Nat)(x:ByteArray)(s:PS):(pVari x s).1.lv n=lf 1 (pVari x s).1.int/\(pVari x s).1.args=[]:=by unfold pVari;split <;> exact⟨rfl,rfl⟩
section
variable{P:Pz}{s:PS}(hW:Wst P.all s){h:AH}(H:P.ok h)(hN:P.all.length<=1000000)
include hW H hN
theorem Qh1(x:ByteArray):QA Tryz.prog 123 [.ptr P.i 0 0,.v (.string x)] (ph h P s) fun o h'=>o = .ret (lf 1 (pVari x s).1.int)/\h'=ph h P (pVari x s).2:=by
 have f1:=QbS H
 have f2:=Qr9 H
 have f3:=Qsa H
 have f4:=Qr8 H
 have f5:=Qro H
 have f6:=Qrp H
 have f7:=Qrn H
 have f8:=QoY H
 have f9:=Qnt H
 have hfind:=Qio x (kn s.names)
 have hn:=hW.nms
 have hupd:=QkY x
 by_cases hc:nameAt s.names x<s.names.length/\x.toList≠[95]
 ·rw[Qku x hc.2 _ s.names rfl,QuH hc.1]at hfind
  have z1:(x.toList==({data:=#[95]}:ByteArray).toList)=false:=by
   rw[Lib.toList_data {data:=#[95]}];simpa using hc.2
  have cv:=QkZ (nameAt s.names x:Nat)
  have hv:pVari x s=(.mk 1 (nameAt s.names x:Nat) eB [],s):=by unfold pVari;rw[QuH hc]
  rw[hv]
  refine Qa Tryz.func123 rfl Tryz.call123 Tryz.ntmps123 Tryz.results123 (by simp) ?_
  rw[QiQ]
  repeat (first|refine Qe cv ?_|refine Qb ?_);simp only[go_sem,seval,f1,f2,f3,f8,f9,hfind,z1]
  exact Yc H (s:=s) (s':=s) (.keep (Qdj _ _ _)) ⟨rfl,rfl⟩
 ·have hv:pVari x s=(.mk 1 (s.names.length:Nat) eB [],⟨s.toks,s.names++[x]⟩):=by unfold pVari;rw[QuE hc]
  have hkn:=Qls hc
  have cv:=QkZ (s.names.length:Nat)
  have hm:(s.names.length+1) * 16<=140737488355328:=by omega
  have hm2:s.names.length+1<=maxLen:=by simp only[maxLen];omega
  rw[hv]
  cases hg:sget x (kn s.names)with
  |none =>
   rw[hg]at hfind
   refine Qa Tryz.func123 rfl Tryz.call123 Tryz.ntmps123 Tryz.results123 (by simp) ?_
   rw[QiQ]
   repeat (first|refine Qe cv ?_|refine Qb ?_);simp only[go_sem,seval,f1,f2,f3,f4,f5,f6,f7,f8,f9,hfind,Yp,hm,hm2,hupd]
   have es:ph h P ⟨s.toks,s.names++[x]⟩=phx h P (.cells 61 4 [.agg [.sl 3 (tks P.all) none,.i ((P.all.length - s.toks.length:Nat):Int),.sl 1 (strs s.names++[.v (.string x)]) (some P.g),.mp P.j]]) (.map (smap (supd x (.i (s.names.length:Nat)) (kn s.names)))) (.grow 9 1 (s.names.length+1)):=by
    rw[QiQ,hkn,Qbh,Quw];rfl
   rw[<-es]
   exact Yc H (s:=s) (s':=⟨s.toks,s.names++[x]⟩) (.keep (Qdj _ _ _)) ⟨rfl,rfl⟩
  |some v =>
   have hx:x.toList=[95]:=by
    by_cases e:x.toList=[95]
    ·exact e
    ·rw[Qku x e _ s.names rfl]at hg
     by_cases h3:nameAt s.names x<s.names.length
     ·exact absurd ⟨h3,e⟩ hc
     ·rw[QuE h3]at hg;cases hg
   have z1:(x.toList==({data:=#[95]}:ByteArray).toList)=true:=by
    rw[Lib.toList_data {data:=#[95]}];simpa using hx
   rw[hg]at hfind
   refine Qa Tryz.func123 rfl Tryz.call123 Tryz.ntmps123 Tryz.results123 (by simp) ?_
   rw[QiQ]
   repeat (first|refine Qe cv ?_|refine Qb ?_);simp only[go_sem,seval,f1,f2,f3,f4,f5,f6,f7,f8,f9,hfind,z1,Yp,hm,hm2,hupd]
   have es:ph h P ⟨s.toks,s.names++[x]⟩=phx h P (.cells 61 4 [.agg [.sl 3 (tks P.all) none,.i ((P.all.length - s.toks.length:Nat):Int),.sl 1 (strs s.names++[.v (.string x)]) (some P.g),.mp P.j]]) (.map (smap (supd x (.i (s.names.length:Nat)) (kn s.names)))) (.grow 9 1 (s.names.length+1)):=by
    rw[QiQ,hkn,Qbh,Quw];rfl
   rw[<-es]
   exact Yc H (s:=s) (s':=⟨s.toks,s.names++[x]⟩) (.keep (Qdj _ _ _)) ⟨rfl,rfl⟩
end
end Go.Proofs.YticgcpebdldbgaaGreatDoor.Ab
namespace Go.Proofs.YticgcpebdldbgaaGreatDoor.Ab
def AncE(ops:Array Oper)(E:List (Nat×Nat))(i j:Nat):Prop:=Anc ops i j\/∃p∈E,(i=p.1\/Anc ops i p.1)/\(j=p.2\/Anc ops p.2 j)
theorem AncE.good{ops:Array Oper}{E:List (Nat×Nat)}{S:Nat->Bool}(hd:Down ops S)(hE:∀p∈E,S p.2=true->S p.1=true){i j:Nat}(h:AncE ops E i j)(hj:S j=true):S i=true:=by
 rcases h with h|⟨p,hp,h1,h2⟩
 ·exact hd.anc h hj
 ·have hy:S p.2=true:=by
   rcases h2 with rfl|h2
   ·exact hj
   ·exact hd.anc h2 hj
  rcases h1 with rfl|h1
  ·exact hE p hp hy
  ·exact hd.anc h1 (hE p hp hy)
def Qmp(ms:List Nat)(E:List (Nat×Nat))(i j:Nat):Bool:=(ms.getD j 0).testBit i||E.any fun p=>(i==p.1||(ms.getD p.1 0).testBit i)&&(j==p.2||(ms.getD j 0).testBit p.2)
def QkE(ops:Array Oper)(ms:List Nat)(E:List (Nat×Nat)):List (Nat×Nat)->Bool
 |[]=>true
 |(i,ci)::l=>(l.all fun p=>match ops[i]?,ops[p.1]? with
   |some a,some b=>!clash ops a b ci p.2||Qmp ms E i p.1
   |_,_=>false)&&QkE ops ms E l
theorem QfG{ops:Array Oper}{ms:List Nat}{E:List (Nat×Nat)}(hm:∀(k i:Nat),(ms.getD k 0).testBit i=true->Anc ops i k):∀(tr:List Tr),QkE ops ms E (tr.map fun t=>(t.i,t.c))=true->(∀t∈tr,ops[t.i]? = some t.o) ->
  tr.Pairwise (fun a b=>clash ops a.o b.o a.c b.c=true->AncE ops E a.i b.i)
 |[],_,_=>.nil
 |t::l,h,ho=>by
  simp only[QtU,QkE,QuR,Qvg]at h
  refine Qwa.2 ⟨fun b hb hc=>?_,QfG hm l h.2 fun t ht=>ho t (by simp[ht])⟩
  have:=h.1 (b.i,b.c) (QuZ.2 ⟨b,hb,rfl⟩)
  simp only[ho t (by simp),ho b (by simp[hb]),hc,Qt2,QwE,Qmp,QvC,QwC,QuR,Qvx]at this
  rcases this with h1|⟨p,hp,h1,h2⟩
  ·exact .inl (hm _ _ h1)
  ·exact .inr ⟨p,hp,h1.imp id (hm _ _),h2.imp id (hm _ _)⟩
def okE(ops:Array Oper)(E:List (Nat×Nat))(π:List (Nat×Nat)):Bool :=
 π.length==ops.size&&QkE ops (masks ops.toList []) E π&&topo ops [] π&&QlC (π.map (·.1))&&((List.range ops.size).all fun i=>(π.map (·.1)).contains i) &&
 π.all fun p=>match ops[p.1]? with|some o=>kindOk o p.2|none=>false
structure FitE (ops:Array Oper) (E:List (Nat×Nat)) (tr:List Tr):Prop where
 len:tr.length=ops.size
 pairs:tr.Pairwise (fun a b=>clash ops a.o b.o a.c b.c=true->AncE ops E a.i b.i)
 topo:topo ops [] (tr.map fun t=>(t.i,t.c))=true
 nodup:(tr.map (·.i)).Nodup
 all:∀i,i<ops.size->∃t∈tr,t.i=i
 kind:∀t∈tr,kindOk t.o t.c=true
theorem QoQ{P:Program}{N:Nat}{ops:Array Oper}{E:List (Nat×Nat)}{tr:List Tr}{tm:Nat->AV}{h:AH}(hruns:Runs P N ops tr tm h)(hok:okE ops E (tr.map fun t=>(t.i,t.c))=true):FitE ops E tr:=by
 simp only[okE,QuR]at hok
 obtain⟨⟨⟨⟨⟨hp0,hp1⟩,hp2⟩,hp3⟩,hp4⟩,hp5⟩:=hok
 have hops:=QcK hruns
 refine⟨by have:=Qvx.1 hp0;simpa using this,QfG (Qbx ops.toList [] (fun j o h=>by simpa using h) (fun k i h=>by simp at h)) tr hp1 hops,hp2,?_,?_,?_⟩
 ·have:=QcF hp3
  rw[Qv7]at this
  exact this
 ·intro i hi
  have:=Qvg.1 hp4 i (List.mem_range.2 hi)
  have:i∈(tr.map fun t=>(t.i,t.c)).map (·.1):=by simpa using this
  rw[Qv7]at this
  obtain⟨t,ht,rfl⟩:=QuZ.1 this
  exact⟨t,ht,rfl⟩
 ·intro t ht
  have:=Qvg.1 hp5 (t.i,t.c) (QuZ.2 ⟨t,ht,rfl⟩)
  simpa [hops t ht]using this
inductive TT where
 |leaf (t:List Tr)
 |node (ρ:List Tr) (y u:Nat) (A B:TT)
def TT.first:TT->List Tr
 | .leaf t=>t
 | .node ρ _ _ A _=>ρ++A.first
def TT.e1:TT->List (Nat×Nat)->List (Nat×Nat)
 | .leaf _,E=>E
 | .node _ y u A _,E=>A.e1 ((y,u)::E)
def TT.all:TT->List Nat
 | .leaf t=>t.map (·.i)
 | .node ρ _ _ A B=>ρ.map (·.i)++(A.all++B.all)
def TT.ends:TT->List Nat
 | .leaf _=>[]
 | .node _ y u A B=>y::u::(A.ends++B.ends)
def TT.root:TT->List Nat
 | .leaf _=>[]
 | .node _ y u _ _=>[y,u]
def Beh(ops:Array Oper)(y u i:Nat):Prop:=∀S:Nat->Bool,Down ops S->S y=false->S u=false->S i=false
def FitT(ops:Array Oper):TT->List Tr->List (Nat×Nat)->Prop
 | .leaf t,π,E=>FitE ops E (π++t)
 | .node ρ y u A B,π,E=>y≠u/\y∉A.ends/\u∉B.ends/\(∀i∈A.all++B.all,Beh ops y u i)/\(∀i∈A.ends++B.ends,Beh ops y u i)/\FitT ops A (π++ρ) ((y,u)::E)/\FitT ops B (π++ρ) ((u,y)::E)
def AllL(R:List Tr->Prop):TT->List Tr->Prop
 | .leaf t,π=>R (π++t)
 | .node ρ _ _ A B,π=>AllL R A (π++ρ)/\AllL R B (π++ρ)
theorem AllL.mono{R R':List Tr->Prop}(h:∀l,R l->R' l):∀{T:TT} {π:List Tr},AllL R T π->AllL R' T π
 | .leaf t,π,H=>h _ H
 | .node ρ y u A B,π,H=>⟨AllL.mono h H.1,AllL.mono h H.2⟩
theorem AllL.first{R:List Tr->Prop}:∀{T:TT} {π:List Tr},AllL R T π->R (π++T.first)
 | .leaf t,π,H=>H
 | .node ρ y u A B,π,H=>by
  have:=AllL.first H.1
  rw[Quz]at this
  exact this
theorem FitT.first{ops:Array Oper}:∀{T:TT} {π:List Tr} {E:List (Nat×Nat)},FitT ops T π E->FitE ops (T.e1 E) (π++T.first)
 | .leaf t,π,E,H=>H
 | .node ρ y u A B,π,E,H=>by
  have:=FitT.first H.2.2.2.2.2.1
  rw[Quz]at this
  exact this
theorem FitT.all{ops:Array Oper}:∀{T:TT} {π:List Tr} {E:List (Nat×Nat)},FitT ops T π E->AllL (fun l=>∀i,i<ops.size->∃t∈l,t.i=i) T π
 | .leaf t,π,E,H=>FitE.all H
 | .node ρ y u A B,π,E,H=>⟨FitT.all H.2.2.2.2.2.1,FitT.all H.2.2.2.2.2.2⟩
theorem AllL.and{R R':List Tr->Prop}:∀{T:TT} {π:List Tr},AllL R T π->AllL R' T π->AllL (fun l=>R l/\R' l) T π
 | .leaf t,π,H,H'=>⟨H,H'⟩
 | .node ρ y u A B,π,H,H'=>⟨AllL.and H.1 H'.1,AllL.and H.2 H'.2⟩
theorem TT.Qs9:∀(T:TT) (E:List (Nat×Nat)),∀p∈T.e1 E,p∈E\/p.2∈T.ends
 | .leaf t,E,p,h=>.inl h
 | .node ρ y u A B,E,p,h=>by
  rcases TT.Qs9 A _ p h with h|h
  ·rcases QuL.1 h with rfl|h
   ·exact .inr (by simp[TT.ends])
   ·exact .inl h
  ·exact .inr (by simp[TT.ends,h])
theorem TT.Qs5(T:TT):∀i∈T.root,i∈T.ends:=by
 cases T with
 |leaf t=>intro i h;cases h
 |node ρ y u A B=>intro i h;simp only[TT.root,QuL,QuS,Qvz]at h;simp only[TT.ends,QuL];rcases h with rfl|rfl <;> simp
theorem TT.Qtd(T:TT):∀t∈T.first,t.i∈T.all:=by
 induction T with
 |leaf t=>intro x h;exact QuZ.2 ⟨x,h,rfl⟩
 |node ρ y u A B ihA ihB =>
  intro x h
  rcases Qvh.1 h with h|h
  ·exact QvH _ (QuZ.2 ⟨x,h,rfl⟩)
  ·exact Qv0 _ (QvH _ (ihA x h))
section
variable{P:Program}{N:Nat}{base:Bs×Fence}{ops:Array Oper}{F:Fence}{n:Nat}(hF:WF F){Qx:Exit->Act->World->Prop}{tm0:Nat->AV}{h0:AH}
include hF
theorem Qma:∀(T:TT) (π:List Tr) (E:List (Nat×Nat)),FitT ops T π E->AllL (fun l=>Runs P N ops l tm0 h0) T π ->
  ∀(fuel:Nat) (listed:Array Bool) (c:Cx) (a:Act),listed.size=ops.size->Down ops (fun i=>listed.getD i false)->(∀p∈E,listed.getD p.1 false=true)->(∀i∈T.root,listed.getD i false=false)->St c ->
   SR N base c ⟨tmS N (fun i=>listed.getD i false) (π++T.first) tm0,hS (fun i=>listed.getD i false) (π++T.first) h0⟩ a->AllL (fun l=>l.countP (fun t=>!listed.getD t.i false)<=fuel) T π ->
   AllL (fun l=>∀c' a',Ev c c'->St c'->SR N base c' ⟨tmS N (fun _=>true) l tm0,hS (fun _=>true) l h0⟩ a'->Qx .normal a' c'.w) T π->wpAnyIn F n P .any ops Qx fuel listed a c.w:=by
 intro T
 induction T with
 |leaf t =>
  intro π E hfit hruns fuel
  have hfit:FitE ops E (π++t):=hfit
  have hruns:Runs P N ops (π++t) tm0 h0:=hruns
  induction fuel with
  |zero =>
   intro listed c a hsz hd hE hx hst hr hc hQ
   have hl:∀u∈π++t,listed.getD u.i false=true:=fun u hu=>by
    have:=List.countP_eq_zero.1 (Nat.le_zero.1 hc) u hu
    simpa using this
   exact⟨any_zero hsz hfit.all hl,QeJ hst hr hQ hl⟩
  |succ fuel ih =>
   intro listed c a hsz hd hE hx hst hr hc hQ
   refine⟨fun h=>QeJ hst hr hQ fun u hu=>QdC hsz h _ [] hfit.topo (fun i hi=>by cases hi) (u.i,u.c) (QuZ.2 ⟨u,hu,rfl⟩),fun i hi=>?_⟩
   have hi':=hi
   obtain⟨h1,o,ho,_⟩:=mem_ready.1 hi'
   have hlt:i<ops.size:=(QuP.1 ho).1
   obtain⟨u,hu,hui⟩:=hfit.all i hlt
   have hd':=Qfa hsz hd hi
   have hE':∀p∈E,(listed.setIfInBounds i true).getD p.1 false=true:=fun p hp=>by rw[QaJ (by omega),hE p hp];simp
   exact Qdb hF hruns hfit.pairs hfit.nodup hfit.kind hi hu hui hsz (fun i j h hj=>AncE.good hd (fun p hp _=>hE p hp) h hj) (fun i j h hj=>AncE.good hd' (fun p hp _=>hE' p hp) h hj) hst hr fun c' a' hev hst' hr' =>
    ih _ c' a' (by simpa using hsz) hd' hE' (fun i hi=>by cases hi) hst' hr' (QdO hsz ⟨u,hu,hui⟩ hi hc) fun c2 a2 e2 s2 r2=>hQ c2 a2 (Ev.trans hst hev e2) s2 r2
 |node ρ y u A B ihA ihB =>
  intro π E hfit hruns fuel
  obtain⟨hyu,hyA,huB,hbeh,hends,hfA,hfB⟩:=hfit
  obtain⟨hrA,hrB⟩:=hruns
  have hf1:=hfA.first
  have hr1:=hrA.first
  induction fuel with
  |zero =>
   intro listed c a hsz hd hE hx hst hr0 hc hQ
   have hr9:SR N base c ⟨tmS N (fun i=>listed.getD i false) (π++ρ++A.first) tm0,hS (fun i=>listed.getD i false) (π++ρ++A.first) h0⟩ a:=by rw[Quz];exact hr0
   have hl:∀t∈(π++ρ)++A.first,listed.getD t.i false=true:=fun t ht=>by
    have:=List.countP_eq_zero.1 (Nat.le_zero.1 hc.1.first) t ht
    simpa using this
   exact⟨any_zero hsz hf1.all hl,QeJ hst hr9 hQ.1.first hl⟩
  |succ fuel ih =>
   intro listed c a hsz hd hE hx hst hr0 hc hQ
   have hr9:SR N base c ⟨tmS N (fun i=>listed.getD i false) (π++ρ++A.first) tm0,hS (fun i=>listed.getD i false) (π++ρ++A.first) h0⟩ a:=by rw[Quz];exact hr0
   refine⟨fun h=>QeJ hst hr9 hQ.1.first fun t ht=>QdC hsz h _ [] hf1.topo (fun i hi=>by cases hi) (t.i,t.c) (QuZ.2 ⟨t,ht,rfl⟩),fun i hi=>?_⟩
   have hi':=hi
   obtain⟨h1,o,ho,_⟩:=mem_ready.1 hi'
   have hlt:i<ops.size:=(QuP.1 ho).1
   have hd':=Qfa hsz hd hi
   have hset:∀j,(listed.setIfInBounds i true).getD j false=(decide (j=i)||listed.getD j false):=fun j=>QaJ (by omega)
   have hy:listed.getD y false=false:=hx y (by simp[TT.root])
   have hu:listed.getD u false=false:=hx u (by simp[TT.root])
   have hE':∀p∈E,(listed.setIfInBounds i true).getD p.1 false=true:=fun p hp=>by rw[hset,hE p hp];simp
   have hnA:∀t∈A.first,listed.getD t.i false=false:=fun t ht=>hbeh _ (QvH _ (A.Qtd t ht)) _ hd hy hu
   have hnB:∀t∈B.first,listed.getD t.i false=false:=fun t ht=>hbeh _ (Qv0 _ (B.Qtd t ht)) _ hd hy hu
   have hcn:∀{T:TT},AllL (fun l=>∀i,i<ops.size->∃t∈l,t.i=i) T (π++ρ)->AllL (fun l=>l.countP (fun t=>!listed.getD t.i false)<=fuel+1) T (π++ρ)->AllL (fun l=>l.countP (fun t=>!(listed.setIfInBounds i true).getD t.i false)<=fuel) T (π++ρ) :=
    fun h1 h2=>(h1.and h2).mono fun l h=>QdO hsz (h.1 i hlt) hi h.2
   by_cases hiy:i=y
   ·subst hiy
    obtain⟨t,ht,hti⟩:=hf1.all i hlt
    have hy':(listed.setIfInBounds i true).getD i false=true:=by rw[hset];simp
    have g1:∀p∈A.e1 ((i,u)::E),listed.getD p.2 false=true->listed.getD p.1 false=true:=fun p hp h2=>by
     rcases A.Qs9 _ p hp with hp|hp
     ·rcases QuL.1 hp with rfl|hp
      ·rw[hu]at h2;cases h2
      ·exact hE p hp
     ·have h3:listed.getD p.2 false=false:=hends _ (QvH _ hp) _ hd hy hu
      rw[h3]at h2;cases h2
    have g2:∀p∈A.e1 ((i,u)::E),(listed.setIfInBounds i true).getD p.2 false=true->(listed.setIfInBounds i true).getD p.1 false=true:=fun p hp h2=>by
     rcases A.Qs9 _ p hp with hp|hp
     ·rcases QuL.1 hp with rfl|hp
      ·exact hy'
      ·exact hE' p hp
     ·have h3:listed.getD p.2 false=false:=hends _ (QvH _ hp) _ hd hy hu
      have:p.2≠i:=fun e=>hyA (e▸hp)
      rw[hset,h3]at h2
      simp[this]at h2
    refine Qdb hF hr1 hf1.pairs hf1.nodup hf1.kind hi ht hti hsz (fun j k h hk=>AncE.good hd g1 h hk) (fun j k h hk=>AncE.good hd' g2 h hk) hst hr9 fun c' a' hev hst' hr'=>?_
    refine ihA (π++ρ) ((i,u)::E) hfA hrA fuel _ c' a' (by simpa using hsz) hd' ?_ ?_ hst' hr' (hcn hfA.all hc.1) (hQ.1.mono fun l h c2 a2 e2 s2 r2=>h c2 a2 (Ev.trans hst hev e2) s2 r2)
    ·intro p hp
     rcases QuL.1 hp with rfl|hp
     ·exact hy'
     ·exact hE' p hp
    ·intro j hj
     have h3:listed.getD j false=false:=hends _ (QvH _ (A.Qs5 j hj)) _ hd hy hu
     rw[hset,h3]
     have:j≠i:=fun e=>hyA (e▸A.Qs5 j hj)
     simp[this]
   ·by_cases hiu:i=u
    ·subst hiu
     have hf2:=hfB.first
     have hr2:=hrB.first
     obtain⟨t,ht,hti⟩:=hf2.all i hlt
     have skip1:tmS N (fun i=>listed.getD i false) (π++ρ++A.first) tm0=tmS N (fun i=>listed.getD i false) (π++ρ++B.first) tm0:=by
      funext z
      have k1:∀t∈A.first,listed.getD t.i false=true->t.o.dst≠some z:=fun t ht hs _=>by rw[hnA t ht]at hs;cases hs
      have k2:∀t∈B.first,listed.getD t.i false=true->t.o.dst≠some z:=fun t ht hs _=>by rw[hnB t ht]at hs;cases hs
      rw[Qbj N _ (π++ρ) A.first,Qbj N _ (π++ρ) B.first,Qak (S:=fun i=>listed.getD i false) k1,Qak (S:=fun i=>listed.getD i false) k2]
     have skip2:hS (fun i=>listed.getD i false) (π++ρ++A.first) h0=hS (fun i=>listed.getD i false) (π++ρ++B.first) h0:=by
      rw[Qbv _ (π++ρ) A.first,Qbv _ (π++ρ) B.first,Qbd (S:=fun i=>listed.getD i false) fun t ht _=>hnA t ht,Qbd (S:=fun i=>listed.getD i false) fun t ht _=>hnB t ht]
     rw[skip1,skip2]at hr9
     have hu':(listed.setIfInBounds i true).getD i false=true:=by rw[hset];simp
     have g1:∀p∈B.e1 ((i,y)::E),listed.getD p.2 false=true->listed.getD p.1 false=true:=fun p hp h2=>by
      rcases B.Qs9 _ p hp with hp|hp
      ·rcases QuL.1 hp with rfl|hp
       ·rw[hy]at h2;cases h2
       ·exact hE p hp
      ·have h3:listed.getD p.2 false=false:=hends _ (Qv0 _ hp) _ hd hy hu
       rw[h3]at h2;cases h2
     have g2:∀p∈B.e1 ((i,y)::E),(listed.setIfInBounds i true).getD p.2 false=true->(listed.setIfInBounds i true).getD p.1 false=true:=fun p hp h2=>by
      rcases B.Qs9 _ p hp with hp|hp
      ·rcases QuL.1 hp with rfl|hp
       ·exact hu'
       ·exact hE' p hp
      ·have h3:listed.getD p.2 false=false:=hends _ (Qv0 _ hp) _ hd hy hu
       have:p.2≠i:=fun e=>huB (e▸hp)
       rw[hset,h3]at h2
       simp[this]at h2
     refine Qdb hF hr2 hf2.pairs hf2.nodup hf2.kind hi ht hti hsz (fun j k h hk=>AncE.good hd g1 h hk) (fun j k h hk=>AncE.good hd' g2 h hk) hst hr9 fun c' a' hev hst' hr'=>?_
     refine ihB (π++ρ) ((i,y)::E) hfB hrB fuel _ c' a' (by simpa using hsz) hd' ?_ ?_ hst' hr' (hcn hfB.all hc.2) (hQ.2.mono fun l h c2 a2 e2 s2 r2=>h c2 a2 (Ev.trans hst hev e2) s2 r2)
     ·intro p hp
      rcases QuL.1 hp with rfl|hp
      ·exact hu'
      ·exact hE' p hp
     ·intro j hj
      have h3:listed.getD j false=false:=hends _ (Qv0 _ (B.Qs5 j hj)) _ hd hy hu
      rw[hset,h3]
      have:j≠i:=fun e=>huB (e▸B.Qs5 j hj)
      simp[this]
    ·obtain⟨t,ht,hti⟩:=hf1.all i hlt
     have hy':(listed.setIfInBounds i true).getD y false=false:=by rw[hset,hy];simp;exact fun h=>hiy h.symm
     have hu':(listed.setIfInBounds i true).getD u false=false:=by rw[hset,hu];simp;exact fun h=>hiu h.symm
     have g1:∀p∈A.e1 ((y,u)::E),listed.getD p.2 false=true->listed.getD p.1 false=true:=fun p hp h2=>by
      rcases A.Qs9 _ p hp with hp|hp
      ·rcases QuL.1 hp with rfl|hp
       ·rw[hu]at h2;cases h2
       ·exact hE p hp
      ·have h3:listed.getD p.2 false=false:=hends _ (QvH _ hp) _ hd hy hu
       rw[h3]at h2;cases h2
     have g2:∀p∈A.e1 ((y,u)::E),(listed.setIfInBounds i true).getD p.2 false=true->(listed.setIfInBounds i true).getD p.1 false=true:=fun p hp h2=>by
      rcases A.Qs9 _ p hp with hp|hp
      ·rcases QuL.1 hp with rfl|hp
       ·rw[hu']at h2;cases h2
       ·exact hE' p hp
      ·have h3:(listed.setIfInBounds i true).getD p.2 false=false:=hends _ (QvH _ hp) _ hd' hy' hu'
       rw[h3]at h2;cases h2
     refine Qdb hF hr1 hf1.pairs hf1.nodup hf1.kind hi ht hti hsz (fun j k h hk=>AncE.good hd g1 h hk) (fun j k h hk=>AncE.good hd' g2 h hk) hst hr9 fun c' a' hev hst' hr'=>?_
     refine ih _ c' a' (by simpa using hsz) hd' hE' ?_ hst' (by have h9:=hr';rw[Quz]at h9;exact h9) ⟨hcn hfA.all hc.1,hcn hfB.all hc.2⟩ (hQ.mono fun l h c2 a2 e2 s2 r2=>h c2 a2 (Ev.trans hst hev e2) s2 r2)
     intro j hj
     simp only[TT.root,QuL,QuS,Qvz]at hj
     rcases hj with rfl|rfl
     ·exact hy'
     ·exact hu'
end
inductive OT where
 |leaf (σ:List (Nat×Nat))
 |node (ρ:List (Nat×Nat)) (y u:Nat) (A B:OT)
def OT.walk(P:Program)(N:Nat)(ops:Array Oper)(K:AS->Prop):OT->AS->Prop
 | .leaf σ,s=>AnyW P N ops σ K s
 | .node ρ _ _ A B,s=>AnyW P N ops ρ (fun s=>OT.walk P N ops K A s/\OT.walk P N ops K B s) s
def OT.all:OT->List Nat
 | .leaf σ=>σ.map (·.1)
 | .node ρ _ _ A B=>ρ.map (·.1)++(A.all++B.all)
def OT.ends:OT->List Nat
 | .leaf _=>[]
 | .node _ y u A B=>y::u::(A.ends++B.ends)
def OT.ok(ops:Array Oper):OT->List (Nat×Nat)->List (Nat×Nat)->Bool
 | .leaf σ,π,E=>okE ops E (π++σ)&&QmX ops σ
 | .node ρ y u A B,π,E=>(y != u&&!A.ends.contains y&&!B.ends.contains u&&(A.all++B.all).all (behind ops y u)&&(A.ends++B.ends).all (behind ops y u)&&QmX ops ρ)&&(OT.ok ops A (π++ρ) ((y,u)::E)&&OT.ok ops B (π++ρ) ((u,y)::E))
theorem Qgq{ops:Array Oper}{x y i:Nat}(hi:behind ops x y i=true):Beh ops x y i:=by
 intro S hd hx hy
 have hm':∀(k i:Nat),((masks ops.toList []).getD k 0).testBit i=true->Anc ops i k:=Qbx ops.toList [] (fun j o h=>by simpa using h) (fun k i h=>by simp at h)
 cases hS:S i with
 |false=>rfl
 |true =>
  exfalso
  simp only[behind,QvC,Qvx]at hi
  rcases hi with((rfl|rfl)|h)|h
  ·rw[hx]at hS;cases hS
  ·rw[hy]at hS;cases hS
  ·have:=hd.anc (hm' _ _ h) hS;rw[hx]at this;cases this
  ·have:=hd.anc (hm' _ _ h) hS;rw[hy]at this;cases this
theorem QfX{P:Program}{N:Nat}{ops:Array Oper}{K:AS->Prop}{tm0:Nat->AV}{h0:AH}:∀(O:OT) (π:List Tr) (E:List (Nat×Nat)),Runs P N ops π tm0 h0->OT.walk P N ops K O ⟨tmS N (fun _=>true) π tm0,hS (fun _=>true) π h0⟩->OT.ok ops O (π.map fun t=>(t.i,t.c)) E=true ->
  ∃T:TT,T.all=O.all/\T.ends=O.ends/\FitT ops T π E/\AllL (fun l=>Runs P N ops l tm0 h0) T π/\AllL (fun l=>K ⟨tmS N (fun _=>true) l tm0,hS (fun _=>true) l h0⟩) T π
 | .leaf σ,π,E,hr,H,hok=>by
  simp only[OT.ok,QuR]at hok
  obtain⟨t,rfl,hρ,hK⟩:=Qb7 H hok.2
  have hrr:=hr.append hρ
  have h1:=hok.1
  rw[<-Qvr]at h1
  refine⟨.leaf t,by simp[TT.all,OT.all],rfl,QoQ hrr h1,hrr,?_⟩
  show K _
  rw[Qbj,Qbv]
  exact hK
 | .node ρ y u A B,π,E,hr,H,hok=>by
  simp only[OT.ok,QuR,bne_iff_ne,ne_eq,Qwx,Qvg]at hok
  obtain⟨⟨⟨⟨⟨⟨h1,h2⟩,h3⟩,h4⟩,h5⟩,h6⟩,hA,hB⟩:=hok
  obtain⟨t,rfl,hρ,hK⟩:=Qb7 H h6
  have hrr:=hr.append hρ
  have e:(⟨tmS N (fun _=>true) t (tmS N (fun _=>true) π tm0),hS (fun _=>true) t (hS (fun _=>true) π h0)⟩:AS)=⟨tmS N (fun _=>true) (π++t) tm0,hS (fun _=>true) (π++t) h0⟩:=by rw[Qbj,Qbv]
  rw[e]at hK
  rw[<-Qvr]at hA hB
  obtain⟨TA,a1,a2,a3,a4,a5⟩:=QfX A (π++t) ((y,u)::E) hrr hK.1 hA
  obtain⟨TB,b1,b2,b3,b4,b5⟩:=QfX B (π++t) ((u,y)::E) hrr hK.2 hB
  refine⟨.node t y u TA TB,by simp[TT.all,OT.all,a1,b1],by simp[TT.ends,OT.ends,a2,b2],⟨h1,?_,?_,?_,?_,a3,b3⟩,⟨a4,b4⟩,⟨a5,b5⟩⟩
  ·rw[a2];simpa using h2
  ·rw[b2];simpa using h3
  ·rw[a1,b1];exact fun i hi=>Qgq (h4 i hi)
  ·rw[a2,b2];exact fun i hi=>Qgq (h5 i hi)
theorem ZK{P:Program}{N:Nat}{Q:AExit->AS->Prop}{s:AS}{id:Nat}{ops:Array Oper}(O:OT)(hm:P.follows .mixedOrders=true)(hok:OT.ok ops O [] []=true)
  (H:∀(K:AS->Prop),(∀s,Q .normal s->K s)->OT.walk P N ops K O s):Yr P N (.region id ops true) Q s:=by
 intro F n base c a hF hst hr R hR
 refine wpIn_region_any hm ?_
 obtain⟨tm,hp⟩:=s
 obtain⟨T,_,_,hfit,hruns,hQ⟩:=QfX (tm0:=tm) (h0:=hp) O [] [] (.nil _ _) (H (fun s=>Q .normal s) (fun s h=>h)) hok
 have hev:Ev c (c.to {c.w with drawn:=c.w.drawn+1}):=Ev.idle hst (Ev.refl c) rfl rfl rfl rfl fun k=>.inl rfl
 have hst':St (c.to {c.w with drawn:=c.w.drawn+1}):=hst.idle rfl fun k o hk=>.inl hk
 have hr':SR N (base,F) (c.to {c.w with drawn:=c.w.drawn+1}) ⟨tm,hp⟩ a:=⟨hr.h,hr.size,Qu1 hr.above hev.size,hr.defers.ev hev,RoundOk.ev hev hr.round,fun t=>(hr.tm t).ev hst hev⟩
 have hnone:∀j,(Array.replicate ops.size false).getD j false=false:=fun j=>by
  rw[QuO,QvS]
  split <;> rfl
 have hlen:AllL (fun l=>l.length=ops.size) T []:=by
  have:∀(T:TT) (π:List Tr) (E:List (Nat×Nat)),FitT ops T π E->AllL (fun l=>l.length=ops.size) T π:=by
   intro T
   induction T with
   |leaf t=>exact fun π E h=>FitE.len h
   |node ρ y u A B ihA ihB=>exact fun π E h=>⟨ihA _ _ h.2.2.2.2.2.1,ihB _ _ h.2.2.2.2.2.2⟩
  exact this T [] [] hfit
 refine Qma (base:=(base,F)) hF T [] [] hfit hruns _ _ (c.to {c.w with drawn:=c.w.drawn+1}) a (by simp) ?_ (fun p hp=>by cases hp) (fun i _=>hnone i) hst' ?_ (hlen.mono fun l h=>Qu1 List.countP_le_length (Qwg h)) (hQ.mono fun l h c' a' h1 h2 h3=>hR .normal _ c' a' .normal h (Ev.trans hst hev h1) h2 h3 rfl)
 ·intro j o ho hj
  simp only at hj
  rw[hnone]at hj;cases hj
 ·have e1:tmS N (fun i=>(Array.replicate ops.size false).getD i false) ([]++T.first) tm=tm:=funext fun x=>Qak fun t _ h=>by rw[hnone]at h;cases h
  have e2:hS (fun i=>(Array.replicate ops.size false).getD i false) ([]++T.first) hp=hp:=Qbd fun t _ _=>hnone _
  rw[e1,e2];exact hr'
end Go.Proofs.YticgcpebdldbgaaGreatDoor.Ab
namespace Go.Proofs.YticgcpebdldbgaaGreatDoor.Ab
open Go.Proofs
theorem FunW.meth{P:Program}{f:FuncId}{x:AV}{h:AH}{Q:AOut->AH->Prop}(H:QA P f [x] h Q):FunW P (.fn (.func f) [x] []) [] h Q:=FunW.fn H
def TQ(h:AH)(P:Pz):PR T->AOut->AH->Prop
 | .ok t s,o,h'=>o = .ret (t.lv h.length)/\h'=ph h P s++t.lay 48 h.length
 | .err p e,o,h'=>o = .panic (Fl p e)/\∃s,h'=ph h P s
def CQ(g:Nat)(h:AH)(P:Pz):PR T->AOut->AH->Prop
 | .ok t s,o,h'=>o = .ret (t.lv (h.length+g))/\∃N,h'=ph h P s++N/\At N g (t.lay 48 (h.length+g))
 | .err p e,o,h'=>o = .panic (Fl p e)/\∃s,h'=ph h P s
def TRd(P:Pz)(f:FuncId)(g:PS->PR T)(N:Nat):Prop:=∀s:PS,s.toks.length<N->Wst P.all s->∀h:AH,P.ok h->QA Tryz.prog f [.ptr P.i 0 0] (ph h P s) (TQ h P (g s))
theorem QeR{P:Pz}{f:FuncId}{args:List AV}{h:AH}{s:PS}(H:P.ok h)(g:Nat){r:PR T}(C:QA Tryz.prog f args (ph h P s) (CQ g h P r)):QA Tryz.prog f args (ph h P s) (TQ h P r):=by
 refine Qa4 C fun hb0 o h' hQ=>?_
 cases r with
 |err p e=>exact .inl hQ
 |ok t s2 =>
  obtain⟨rfl,N,rfl,hN⟩:=hQ
  rw[Xv]at hb0 ⊢
  have hb:∀b∈ph h P s2,b.Below h.length:=fun b hb=>by
   obtain⟨k,hk⟩:=Qaa hb
   rcases QcH H (s0:=s) hk with h1|h1
   ·exact hb0 k b h1
   ·exact h1
  obtain⟨K,hk⟩:=Qr6 (Xv h P s2) hb g t hN
  exact .inr ⟨_,_,_,_,rfl,K,hk,rfl,rfl⟩
section
variable{P:Pz}{f:FuncId}{g:PS->PR T}{N:Nat}(HR:TRd P f g N){s:PS}(hs:s.toks.length<N)(hW:Wst P.all s){h:AH}(H:P.ok h)
include HR hs hW H
theorem TRd.ok{t:T}{s2:PS}(e:g s = .ok t s2)(L:AH){k:Nat}(hk:k=h.length+L.length):QA Tryz.prog f [.ptr P.i 0 0] (ph h P s++L) fun o h'=>o = .ret (t.lv k)/\h'=ph h P s2++(L++t.lay 48 k):=by
 have:=HR s hs hW (h++L) (H.app L)
 rw[XH H,e]at this
 subst hk
 exact this.mono fun o h' q=>by simpa only[TQ,XH H,Quw,Quz]using q
theorem TRd.err{p c:Int}(e:g s = .err p c)(L:AH):QA Tryz.prog f [.ptr P.i 0 0] (ph h P s++L) fun o h'=>o = .panic (Fl p c)/\∃s2:PS,h'=ph h P s2++L:=by
 have:=HR s hs hW (h++L) (H.app L)
 rw[XH H,e]at this
 exact this.mono fun o h' q=>by simpa only[TQ,XH H]using q
end
theorem Qq9{s:PS}{b:ByteArray}(h:s.is b.toList=true):s.tk.text=b:=by
 simp only[PS.is,QuR,Qvx]at h
 exact toList_inj h.2
theorem Xw{h:AH}{P:Pz}(H:P.ok h)(s s2:PS)(p e:Int)(L:AH){Q:AOut->AH->Prop}(hq:Q (.panic (Fl p e)) (ph h P s2)):Leaves (ph h P s) (ph h P s2++L) (Fl p e) fun v h'=>Q (.panic v) h' :=
 Yc H (s:=s) (s':=s2) (.keep (QcA _ _ _)) hq
end Go.Proofs.YticgcpebdldbgaaGreatDoor.Ab
namespace Go.Proofs.YticgcpebdldbgaaGreatDoor.Ab
theorem Qpz{S:Nat->Bool}:∀{l:List Tr} {f:AH},(∀t∈l,t.c<2)->hS S l f=f
 |l,f,H=>Qbd fun t ht h2=>by have:=H t ht;omega
theorem Qoc{P:Program}{N:Nat}{base:Bs×Fence}{ops:Array Oper}{F:Fence}{n:Nat}(hF:WF F){Qx:Exit->Act->World->Prop}{x:Nat}{ox:Oper}{f:Operand}{asx:Array Operand}{tys:Array TypeId}(hox:ops[x]? = some ox)
  (hop:ox.op = .call ⟨.value f,asx,tys⟩) {tr:List Tr} {tm0:Nat->AV} {h0:AH} (hruns:Runs P N ops tr tm0 h0) (hlow:∀t∈tr,t.c<2) (hxt:∀t∈tr,t.i≠x)
  (hpw:tr.Pairwise (fun a b=>clash ops a.o b.o a.c b.c=true->Anc ops a.i b.i)) (hnd:(tr.map (·.i)).Nodup) (hkind:∀t∈tr,kindOk t.o t.c=true)
  (hrd:∀t∈tr,∀d,t.o.dst=some d->d∈readsOf ops ox->Anc ops t.i x) (hall:∀i,i<ops.size->(∃t∈tr,t.i=i)\/i=x\/Anc ops x i) (htopo:topo ops [] (tr.map (fun t=>(t.i,t.c))++[(x,1)])=true)
  (haw:QN ops (tmS N (fun _=>true) tr tm0) ox=some true) {G:AV->AH->Prop} (H:FunW P (AS.ev ⟨tmS N (fun _=>true) tr tm0,[]⟩ f) (asx.toList.map (AS.ev ⟨tmS N (fun _=>true) tr tm0,[]⟩)) h0 (fun o h'=>∃v,o = .panic v/\G v h')) :
  ∀(fuel:Nat) (listed:Array Bool) (c:Cx) (a:Act),listed.size=ops.size->Down ops (fun i=>listed.getD i false)->listed.getD x false=false->St c->SR N base c ⟨tmS N (fun i=>listed.getD i false) tr tm0,h0⟩ a ->
   tr.countP (fun t=>!listed.getD t.i false)<fuel ->
   (∀tm' v h' c' a' u,G v h'->Ev c c'->St c'->SR N base c' ⟨tm',h'⟩ a'->Rel c' v u->Qx (.panic [{v:=u,recovered:=false}]) a' c'.w)->wpAnyIn F n P .any ops Qx fuel listed a c.w:=by
 intro fuel
 induction fuel with
 |zero=>intro listed c a hsz hd hx hst hr hc hQ;omega
 |succ fuel ih =>
  intro listed c a hsz hd hx hst hr hc hQ
  refine⟨fun h=>?_,fun i hi=>?_⟩
  ·exfalso
   have:=QdC hsz h _ [] htopo (fun i hi=>by cases hi) (x,1) (Qv0 _ (by simp))
   simp only at this
   rw[hx]at this;cases this
  have hi':=hi
  obtain⟨h1,o,ho,_⟩:=mem_ready.1 hi'
  have hlt:i<ops.size:=(QuP.1 ho).1
  have hd':=Qfa hsz hd hi
  by_cases hix:i=x
  ·subst hix
   rw[hox]at ho;cases ho
   -- what it reads is there
   have hreads:∀y∈readsOf ops ox,tmS N (fun i=>listed.getD i false) tr tm0 y=tmS N (fun _=>true) tr tm0 y:=fun y hy=>QaM rfl fun t ht hd=>by
    have ha:=hrd t ht y hd hy
    have h2:(listed.setIfInBounds i true).getD t.i false=true:=hd'.anc ha (by rw[QaJ (by omega)];simp)
    rw[QaJ (by omega)]at h2
    by_cases hti:t.i=i
    ·exact absurd hti (hxt t ht)
    ·simpa [hti]using h2
   unfold wpOpIn
   simp only[hox]
   rw[XY hr (by rw[Qdd (tm:=tmS N (fun i=>listed.getD i false) tr tm0) (tm':=tmS N (fun _=>true) tr tm0) hreads];exact haw)]
   simp only[QvB]
   have hargs:∀y∈ox.op.operands,AS.ev ⟨tmS N (fun i=>listed.getD i false) tr tm0,[]⟩ y=AS.ev ⟨tmS N (fun _=>true) tr tm0,[]⟩ y:=Qdg hreads
   refine Qcr (K:=fun _=>False) (E:=fun r s'=>G r s'.h) ?_ hF hst hr (fun s' c' a' hs=>hs.elim) ?_
   ·unfold OpW
    simp only[hop]
    have hev:=hargs
    rw[hop]at hev
    have h1':AS.ev ⟨tmS N (fun i=>listed.getD i false) tr tm0,h0⟩ f=AS.ev ⟨tmS N (fun _=>true) tr tm0,[]⟩ f:=(Qb3 _ _ _ _).trans (hev f (by simp[Op.operands,Call.operands]))
    have h2':asx.toList.map (AS.ev ⟨tmS N (fun i=>listed.getD i false) tr tm0,h0⟩)=asx.toList.map (AS.ev ⟨tmS N (fun _=>true) tr tm0,[]⟩):=QvP fun y hy=>(Qb3 _ _ _ _).trans (hev y (by simp[Op.operands,Call.operands,QvT,hy]))
    rw[h1',h2']
    refine H.mono ?_
    rintro o h' ⟨v,rfl,g⟩
    exact g
   ·intro r s' c' u hE hev hst' hr' hru
    obtain⟨tm',h'⟩:=s'
    exact hQ tm' r h' c' a u hE hev hst' hr' hru
  ·have hx':(listed.setIfInBounds i true).getD x false=false:=by rw[QaJ (by omega),hx];simp;exact fun e=>hix e.symm
   rcases hall i hlt with⟨t,ht,hti⟩|h|h
   ·have e0:∀S,hS S tr h0=h0:=fun S=>Qpz hlow
    refine Qdb hF hruns hpw hnd hkind hi ht hti hsz (fun i j h hj=>hd.anc h hj) (fun i j h hj=>hd'.anc h hj) hst (by rw[e0];exact hr) fun c' a' hev hst' hr'=>?_
    rw[e0]at hr'
    refine ih _ c' a' (by simpa using hsz) hd' hx' hst' hr' ?_ fun tm' v h' c2 a2 u g e2 s2 r2 ru=>hQ tm' v h' c2 a2 u g (Ev.trans hst hev e2) s2 r2 ru
    have:=QdO (fuel:=tr.countP (fun t=>!listed.getD t.i false) - 1) hsz ⟨t,ht,hti⟩ hi (by omega)
    have hpos:0<tr.countP (fun t=>!listed.getD t.i false):=by
     rw[List.countP_pos_iff]
     refine⟨t,ht,?_⟩
     rw[QuO,QuV (by omega)]at h1 ⊢
     subst hti
     simpa using h1
    omega
   ·exact absurd h hix
   ·exfalso
    have h2:(listed.setIfInBounds i true).getD x false=true:=hd'.anc h (by rw[QaJ (by omega)];simp)
    rw[hx']at h2;cases h2
def Qrl(ops:Array Oper)(x:Nat)(ρ:List (Nat×Nat)):Bool :=
 decide (ρ.length<ops.size)&&QfH ops (masks ops.toList []) ρ&&topo ops [] (ρ++[(x,1)])&&QlC (ρ.map (·.1))&&(ρ.all fun p=>decide (p.2<2)&&!(p.1==x)&&(match ops[p.1]? with|some o=>kindOk o p.2&&(match ops[x]?,o.dst with|some ox,some d=>!(readsOf ops ox).contains d||((masks ops.toList []).getD x 0).testBit p.1|_,_=>true)|none=>false)) &&
 ((List.range ops.size).all fun i=>(ρ.map (·.1)).contains i||i==x||((masks ops.toList []).getD i 0).testBit x)
def callOf(o:Oper):Option (Operand×List Operand):=match o.op with
 | .call ⟨.value f,asx,_⟩=>some (f,asx.toList)
 |_=>none
theorem XV{P:Program}{N:Nat}{Q:AExit->AS->Prop}{s:AS}{id:Nat}{ops:Array Oper}(x:Nat)(ρ:List (Nat×Nat))(hm:P.follows .mixedOrders=true){ox:Oper}{f:Operand}{asx:List Operand}(hox:ops[x]? = some ox)(hcl:callOf ox=some (f,asx))(hgd:ox.guard=none)
  (hok:Qrl ops x ρ=true) (G:AV->AH->Prop) (hG:∀tm v h',G v h'->Q (.panic v) ⟨tm,h'⟩)
  (H:AnyW P N ops ρ (fun s'=>s'.h=s.h->FunW P (s'.ev f) (asx.map s'.ev) s'.h (fun o h'=>∃v,o = .panic v/\G v h')) s):Yr P N (.region id ops true) Q s:=by
 intro F n base c a hF hst hr R hR
 refine wpIn_region_any hm ?_
 obtain⟨tm,hp⟩:=s
 simp only[Qrl,QuR]at hok
 obtain⟨⟨⟨⟨⟨hp0,hp1⟩,hp2⟩,hp3⟩,hp4⟩,hp5⟩:=hok
 rw[Qvg]at hp4
 have hk:(ρ.all fun p=>match ops[p.1]? with|some o=>kindOk o p.2|none=>false)=true:=by
  rw[Qvg]
  intro p hp
  have:=hp4 p hp
  simp only[QuR]at this
  revert this
  cases ops[p.1]? with
  |none=>simp
  |some o=>simp only[QuR];exact fun h=>h.2.1
 obtain⟨tr,rfl,hruns,hK⟩:=Qb7 H hk
 have hev:Ev c (c.to {c.w with drawn:=c.w.drawn+1}):=Ev.idle hst (Ev.refl c) rfl rfl rfl rfl fun k=>.inl rfl
 have hst':St (c.to {c.w with drawn:=c.w.drawn+1}):=hst.idle rfl fun k o hk=>.inl hk
 have hr':SR N (base,F) (c.to {c.w with drawn:=c.w.drawn+1}) ⟨tm,hp⟩ a:=⟨hr.h,hr.size,Qu1 hr.above hev.size,hr.defers.ev hev,RoundOk.ev hev hr.round,fun t=>(hr.tm t).ev hst hev⟩
 have hops:=QcK hruns
 have hnone:∀j,(Array.replicate ops.size false).getD j false=false:=fun j=>by
  rw[QuO,QvS]
  split <;> rfl
 have hmk:∀(k i:Nat),((masks ops.toList []).getD k 0).testBit i=true->Anc ops i k:=Qbx ops.toList [] (fun j o h=>by simpa using h) (fun k i h=>by simp at h)
 have hlow:∀t∈tr,t.c<2:=fun t ht=>by
  have:=hp4 (t.i,t.c) (QuZ.2 ⟨t,ht,rfl⟩)
  simp only[QuR,Qvi]at this
  exact this.1.1
 have hxt:∀t∈tr,t.i≠x:=fun t ht=>by
  have:=hp4 (t.i,t.c) (QuZ.2 ⟨t,ht,rfl⟩)
  simp only[QuR,Qwx,QvQ]at this
  exact this.1.2
 have hS0:hS (fun _=>true) tr hp=hp:=Qpz hlow
 rw[hS0]at hK
 obtain⟨as',tys,hop,rfl⟩:∃(as':Array Operand) (tys:Array TypeId),ox.op = .call ⟨.value f,as',tys⟩/\asx=as'.toList:=by
  unfold callOf at hcl
  split at hcl
  ·rename_i f' as' tys e
   simp only[QtL,Qv8]at hcl
   obtain⟨rfl,rfl⟩:=hcl
   exact⟨_,_,e,rfl⟩
  ·cases hcl
 have hF0:=hK rfl
 refine Qoc (base:=(base,F)) hF hox hop hruns hlow hxt (QdZ hmk tr hp1 hops) ?_ ?_ ?_ ?_ hp2 ?_ (G:=G) ?_ _ _ (c.to {c.w with drawn:=c.w.drawn+1}) a (by simp) ?_ (hnone _) hst' ?_ ?_ ?_
 ·have:=QcF hp3
  rw[Qv7]at this
  exact this
 ·intro t ht
  have:=Qvg.1 hk (t.i,t.c) (QuZ.2 ⟨t,ht,rfl⟩)
  simpa [hops t ht]using this
 ·intro t ht d hd hr
  have:=hp4 (t.i,t.c) (QuZ.2 ⟨t,ht,rfl⟩)
  simp only[hops t ht,hox,hd,QuR,QvC,Qwx]at this
  rcases this.2.2 with h|h
  ·rw[List.contains_eq_mem,decide_eq_false_iff_not]at h
   exact absurd hr h
  ·exact hmk _ _ h
 ·intro i hi
  have:=Qvg.1 hp5 i (List.mem_range.2 hi)
  simp only[QvC,Qvx]at this
  rcases this with(h|h)|h
  ·have h:i∈(tr.map fun t=>(t.i,t.c)).map (·.1):=by simpa using h
   rw[Qv7]at h
   obtain⟨t,ht,rfl⟩:=QuZ.1 h
   exact .inl ⟨t,ht,rfl⟩
  ·exact .inr (.inl h)
  ·exact .inr (.inr (hmk _ _ h))
 ·simp only[QN,hgd]
 ·rw[Qb3 _ hp [] f]at hF0
  have e2:as'.toList.map (AS.ev ⟨tmS N (fun _=>true) tr tm,hp⟩)=as'.toList.map (AS.ev ⟨tmS N (fun _=>true) tr tm,[]⟩):=QvP fun y _=>Qb3 _ _ _ _
  rw[e2]at hF0
  exact hF0
 ·intro j o ho hj
  simp only at hj
  rw[hnone]at hj;cases hj
 ·have e1:tmS N (fun i=>(Array.replicate ops.size false).getD i false) tr tm=tm:=funext fun x=>Qak fun t _ h=>by rw[hnone]at h;cases h
  rw[e1];exact hr'
 ·refine Nat.lt_of_le_of_lt List.countP_le_length ?_
  have:=Qwo hp0
  simp only[Qu6]at this;omega
 ·intro tm' v h' c' a' u hg h1 h2 h3 hu
  exact hR _ _ c' a' _ (hG tm' v h' hg) (Ev.trans hst hev h1) h2 h3 ⟨u,rfl,hu⟩
end Go.Proofs.YticgcpebdldbgaaGreatDoor.Ab
namespace Go.Proofs.YticgcpebdldbgaaGreatDoor.Ab
open Go.Proofs
theorem Qah{p:Prop}(h:2=3):p:=by cases h
theorem Qki(x:ByteArray)(y:AV)(h1:y.cells=[y])(h2:y.cell1=true)(h3:y.isAgg=false)(h:AH)(hb:Below h.length y):QA Tryz.prog 108 [.v (.string x),y] h fun o h'=>o = .ret (.agg [.i 2,.i 0,.v (.string x),y])/\h'=h:=by
 refine Qa Tryz.func108 rfl Tryz.call108 Tryz.ntmps108 Tryz.results108 (by simp) ?_
 repeat refine Qb ?_;simp only[go_sem,seval,h1,h2]
 refine Qc (htake _ _) (.keep (.agg _ fun a ha=>?_)) ⟨rfl,rfl⟩
 simp only[QuL,QuS,Qvz]at ha
 rcases ha with rfl|rfl|rfl|rfl
 ·exact .v _
 ·exact .v _
 ·exact .v _
 ·exact hb
abbrev c6:AB:=.cells 48 4 [.agg [.v (.int .i64 0),.v (.int .i64 0),.v (.string {data:=#[]}),.v (.slice none 0 0)]]
section
variable{P:Pz}{f:FuncId}{g:PS->PR T}{Nn:Nat}(HR:TRd P f g Nn)(hEat:Eat 0 g)(hKp:Kp.Ps (wdOf P.all) g)(opsB:List ByteArray)(hob:opsB.length<=10){s:PS}(hs:s.toks.length<Nn)(hW:Wst P.all s){h:AH}(H:P.ok h)(hN:P.all.length<=1000000)
include HR hEat hKp hs hW H hN hob
theorem Qmv:QA Tryz.prog 95 [.ptr P.i 0 0,.fn (.func f) [.ptr P.i 0 0] [],.sl 1 (strs opsB) none] (ph h P s) (CQ 1 h P (YV g (opsB.map ByteArray.toList) s)):=by
 have f1:=Xv h P
 have f3:=Yu h P
 have f4:=Zh h P
 have f5:=X7 h P
 have f6:=YB h P
 rw[YV]
 cases hop:g s with
 |err p e =>
  have c1:=fun L=>TRd.err HR hs hW H hop L
  refine Qa Tryz.func95 rfl Tryz.call95 Tryz.ntmps95 Tryz.results95 (by simp) ?_
  with_reducible repeat first|refine Qd fun K E hK hE=>?_;simp only[go_sem,seval,f1]|refine hK _ ?_;clear hK
  refine Qe6 0 (fun _ _=>False) rfl ?_ (fun _ _ hf=>hf.elim)
  refine ZQ ?_
  with_reducible repeat first|(first|refine Qj fun K E hK hE=>?_|refine FunW.panE (FunW.meth (c1 _)) fun r=>?_);simp only[go_sem,seval]|refine hE _ _ ?_|refine QhY ?_
  exact Xw H s r p e _ ⟨rfl,_,rfl⟩
 |ok a0 s0 =>
  have c1:=TRd.ok HR hs hW H hop [c6] (k:=h.length+1) rfl
  have hW0:Wst P.all s0:=Kp.Ps.ok hKp hW hop
  have hl0:=(hEat s hW.wf a0 s0 hop).2
  simp only[PR.bind]
  generalize hR:YA g (opsB.map ByteArray.toList) s0.toks.length a0 s0=R
  refine Qa Tryz.func95 rfl Tryz.call95 Tryz.ntmps95 Tryz.results95 (by simp) ?_
  with_reducible repeat first|refine Qd fun K E hK hE=>?_;simp only[go_sem,seval,f1]|refine hK _ ?_;clear hK
  obtain⟨I,hI⟩:∃I:Nat->AS->Prop,I=fun m' s=>∃(t:T) (s2:PS) (q:Nat) (L:AH),m'=s2.toks.length/\s2.toks.length<Nn/\Wst P.all s2/\(∃k,s2.toks.length<=k/\YA g (opsB.map ByteArray.toList) k t s2=R)/\L.length=t.sz+1/\At L 0 (t.lay 48 (h.length+1))/\q<=t.sz /\
   (t.lay 48 (h.length+1)++[.dead])[q]? = some .dead/\L[q]? = some (.cells 48 4 [t.lv (h.length+1)])/\s.tm 0 = .ptr P.i 0 0/\s.tm 1 = .fn (.func f) [.ptr P.i 0 0] []/\s.tm 2 = .sl 1 (strs opsB) none/\s.tm 6 = .ptr h.length 0 0/\s.tm 7 = .ptr (h.length+(q+1)) 0 0/\s.h=ph h P s2++(c6::L):=⟨_,rfl⟩
  refine Qij 0 I rfl ?_ ?_
  ·intro key
   refine ZQ ?_
   have e1:=T.QsX (h.length+1) a0
   have e2:=T.QsZ (h.length+1) a0
   have e3:=T.QsW 48 (h.length+1) a0
   with_reducible repeat first|(first|refine Qj fun K E hK hE=>?_|refine FunW.ret (FunW.meth c1) ?_);simp only[go_sem,seval,f1,f4,f6,e1,e2,Xt]|refine Qg ?_|refine hK _ ?_;clear hK
   refine ZQ (Xl (Qg (key _ ?_)))
   rw[hI]
   refine⟨_,a0,s0,a0.sz,a0.lay 48 (h.length+1)++[.cells 48 4 [a0.lv (h.length+1)]],rfl,by omega,hW0,⟨_,QuD _,hR⟩,by rw[Quw,e3];rfl,At.mid [] _ _ rfl,QuD _,?_,?_,rfl,rfl,rfl,rfl,?_,?_⟩
   ·rw[QuB (by rw[e3];exact QuD _),e3,Qu9];rfl
   ·rw[QuB (by rw[e3];exact QuD _),e3,Qu9];rfl
   ·show AV.ptr (h.length+((a0.lay 48 (h.length+1)).length+1)) 0 0=_
    rw[e3]
   ·rfl
  ·intro m s1 hs1
   rw[hI]at hs1
   obtain⟨tm,hp⟩:=s1
   dsimp only at hs1
   obtain⟨t,s2,q,L,rfl,hl2,hW2,⟨k,hk,hR2⟩,hL,hAt,hq,hdead,hc7,t0,t1,t2,t6,t7,rfl⟩:=hs1
   refine QgA ?_
   refine ZQ ?_
   with_reducible repeat first|refine Qj fun K E hK hE=>?_;simp only[go_sem,seval,t2,Yp]|refine Qg ?_|refine hK _ ?_;clear hK
   refine Qe5 ?_
   obtain⟨I2,hI2⟩:∃I2:Nat->AS->Prop,I2=fun m' s=>∃j:Nat,m'=opsB.length - j/\j<=opsB.length/\(∀b∈opsB.take j,s2.is b.toList=false)/\s.tm 0 = .ptr P.i 0 0/\s.tm 1 = .fn (.func f) [.ptr P.i 0 0] []/\s.tm 2 = .sl 1 (strs opsB) none/\s.tm 6 = .ptr h.length 0 0/\s.tm 7 = .ptr (h.length+(q+1)) 0 0 /\
    s.tm 12 = .sl 1 (strs opsB) none/\s.tm 13 = .i opsB.length/\s.tm 14 = .i j/\s.h=ph h P s2++(c6::L):=⟨_,rfl⟩
   refine Qlg I2 ?_ (m:=opsB.length) ?_
   ·intro m' s3 hs3
    rw[hI2]at hs3
    obtain⟨tm,hp⟩:=s3
    dsimp only at hs3
    obtain⟨j,rfl,hj,hno,u0,u1,u2,u6,u7,u12,u13,u14,rfl⟩:=hs3
    by_cases hlt:j<opsB.length
    ·have z1:(((j:Nat):Int)<((opsB.length:Nat):Int)):=by omega
     have hi:=ph_i H s2
     simp only[pB]at hi
     have hix:(strs opsB)[j]? = some (.v (.string opsB[j])):=by rw[strs,Qu2,QuC hlt];rfl
     refine ZQ ?_
     with_reducible repeat first|refine Qj fun K E hK hE=>?_;simp only[go_sem,seval,u14,u13,z1]|refine Qg ?_|refine hK _ ?_;clear hK
     refine ZQ ?_
     with_reducible repeat first|refine QE ?_|refine Qg ?_|refine Qm rfl ?_;simp only[↓reduceIte]
     refine QgA (Qe5 ?_)
     refine ZQ ?_
     with_reducible repeat first|refine Qj fun K E hK hE=>?_;simp only[go_sem,seval,u12,u14,hix,hlt,Yp]|refine Qg ?_|refine hK _ ?_;clear hK
     refine ZQ ?_
     cases hb:s2.is opsB[j].toList with
     |false =>
      have cs:=fun L=>Qj4 (P:=P) hW2 (H.app L) hN opsB[j] hb
      simp only[XH H]at cs
      with_reducible repeat first|(first|refine Qj fun K E hK hE=>?_|refine FunW.QsR (cs _) ?_);simp only[go_sem,seval,u0,hi]|refine Qg ?_|refine hK _ ?_;clear hK
      refine Qgz (t:=false) rfl ?_
      simp only[QtJ,↓reduceIte]
      refine QdM ?_
      with_reducible repeat first|refine QE ?_|refine Qg ?_|refine Qn ?_
      refine QdM ?_
      with_reducible repeat first|refine Qj fun K E hK hE=>?_;simp only[go_sem,seval,u14]|refine Qg ?_|refine hK _ ?_;clear hK
      refine XB.mk (m':=opsB.length - (j+1)) (by omega) ?_
      rw[hI2]
      refine⟨j+1,rfl,hlt,?_,u0,u1,u2,u6,u7,u12,u13,?_,rfl⟩
      ·intro b hb2
       rw[Qu4 hlt,Qvh,Qvt]at hb2
       rcases hb2 with hb2|rfl
       ·exact hno b hb2
       ·exact hb
      ·simp only[upd,↓reduceIte]
       rw[XM (by omega)]
     |true =>
      have hbk:=PS.QsV hb
      have htx:=Qq9 hb
      have cs:=fun L=>QhT (P:=P) hW2 (H.app L) hN opsB[j] hb
      simp only[XH H]at cs
      have hWn:=hW2.nx
      have hln:=Yg hW2.wf hbk
      with_reducible repeat first|(first|refine Qj fun K E hK hE=>?_|refine FunW.QsR (cs _) ?_);simp only[go_sem,seval,u0,hi]|refine Qg ?_|refine hK _ ?_;clear hK
      refine Qgz (t:=true) rfl ?_
      simp only[↓reduceIte]
      refine ZQ ?_
      have hone:s2.oneOf (opsB.map ByteArray.toList)=true:=by
       rw[PS.oneOf,QwC]
       exact⟨_,QuZ.2 ⟨_,Qvk hlt,rfl⟩,hb⟩
      have hk1:k=k - 1+1:=by omega
      have e1:=T.QsX (h.length+1) t
      have e2:=T.QsZ (h.length+1) t
      cases hop2:g s2.nx with
      |err p e =>
       have hRR:R = .err p e:=by
        rw[<-hR2,hk1,YA,QuH hone,hop2];rfl
       subst hRR
       have c2:=TRd.err HR (s:=s2.nx) (by omega) hWn H hop2 (c6::L)
       refine XV 3 [(0,1),(1,0),(2,1)] mixed rfl rfl rfl (by kernel_rfl) (fun v h'=>v=Fl p e/\∃x:PS,h'=ph h P x++(c6::L)) ?_ ?_
       ·rintro tm v h' ⟨rfl,x,rfl⟩
        exact Xw H s x p e _ ⟨rfl,_,rfl⟩
       ·simp only[go_sem,seval,u1,u7,f4,hc7,e1,e2]
        exact fun _=>(FunW.meth c2).mono (by rintro _ _ ⟨rfl,x,rfl⟩;exact⟨_,rfl,rfl,x,rfl⟩)
      |ok u s3 =>
       have hW3:Wst P.all s3:=Kp.Ps.ok hKp hWn hop2
       have hl3:=(hEat _ hWn.wf u s3 hop2).2
       have hR3:YA g (opsB.map ByteArray.toList) (k - 1) (.mk 2 0 opsB[j] [t,u]) s3=R:=by
        rw[<-hR2,hk1,YA,QuH hone,hop2,htx];rfl
       have c2:=TRd.ok HR (s:=s2.nx) (by omega) hWn H hop2 (c6::L) (k:=h.length+1+(t.sz+1)) (by rw[QtS,hL];omega)
       have g1:∀X,(L++X)[q]? = some (.cells 48 4 [t.lv (h.length+1)]):=fun X=>by rw[Qux (by omega)];exact hc7
       have g2:∀X y,(L++X).set q y=L.set q y++X:=fun X y=>QuN _ _ (by omega)
       have e3:=T.QsX (h.length+1+(t.sz+1)) u
       have e4:=T.QsZ (h.length+1+(t.sz+1)) u
       refine ZK (.node [(0,1),(2,1)] 1 3 (.leaf [(1,0),(3,2),(4,6),(5,2),(6,2)]) (.leaf [(3,2),(1,0),(4,6),(5,2),(6,2)])) mixed (by kernel_rfl) fun K hK=>?_
       simp only[OT.walk]
       simp only[go_sem,seval,u1,u7,f4,hc7,e1,e2]
       have hlt2:h.length+(L.length+(u.lay 48 (h.length+1+(t.sz+1))).length+1)<(ph h P s3++(c6::(L++(u.lay 48 (h.length+1+(t.sz+1))++[.cells 48 4 [t.lv (h.length+1),u.lv (h.length+1+(t.sz+1))]])))).length:=by
        simp only[Quw,QtS,QtT,Xv];omega
       have fin:∀tm':Nat->AV,tm' 0 = .ptr P.i 0 0->tm' 1 = .fn (.func f) [.ptr P.i 0 0] []->tm' 2 = .sl 1 (strs opsB) none->tm' 6 = .ptr h.length 0 0->tm' 7 = .ptr (h.length+(q+1)) 0 0 ->
         ∀Q',Qa1 Tryz.prog 31 0 (XB I s2.toks.length) (Code.goto 0) Q' ⟨tm',ph h P s3++(c6::(L.set q (.cells 48 4 [.agg [.i 2,.i 0,.v (.string opsB[j]),.arr (h.length+(L.length+(u.lay 48 (h.length+1+(t.sz+1))).length+1)) 0 2]])++(u.lay 48 (h.length+1+(t.sz+1))++[.cells 48 4 [t.lv (h.length+1),u.lv (h.length+1+(t.sz+1))]])))⟩:=by
        intro tm' v0 v1 v2 v6 v7 Q'
        refine Qle (Qlf ⟨s3.toks.length,by omega,?_⟩)
        rw[hI]
        have hlv:(T.mk 2 0 opsB[j] [t,u]).lv (h.length+1) = .agg [.i 2,.i 0,.v (.string opsB[j]),.arr (h.length+(L.length+(u.lay 48 (h.length+1+(t.sz+1))).length+1)) 0 2]:=by
         rw[T.QsW,hL]
         show AV.agg [_,_,_,AV.arr (h.length+1+szs [t,u] - 1) 0 2]=_
         simp only[szs]
         rw[show h.length+1+(t.sz+1+(u.sz+1+0)) - 1=h.length+(t.sz+1+u.sz+1) by omega]
        have hla:(T.mk 2 0 opsB[j] [t,u]).lay 48 (h.length+1)=(t.lay 48 (h.length+1)++[.dead])++(u.lay 48 (h.length+1+(t.sz+1))++[.cells 48 4 [t.lv (h.length+1),u.lv (h.length+1+(t.sz+1))]]):=by
         show lays _ _ (.cells _ 4 (lvs _ [t,u])) [t,u]=_
         simp only[lays,lvs,Qum,Qul,QtJ,Qvy,QvB]
         rw[Qv3 (h.length+1) t.sz 1,Quz];rfl
        refine⟨.mk 2 0 opsB[j] [t,u],s3,q,L.set q (.cells 48 4 [(T.mk 2 0 opsB[j] [t,u]).lv (h.length+1)])++(u.lay 48 (h.length+1+(t.sz+1))++[.cells 48 4 [t.lv (h.length+1),u.lv (h.length+1+(t.sz+1))]]++[.dead]),rfl,by omega,hW3,⟨k - 1,by omega,hR3⟩,?_,?_,?_,?_,?_,v0,v1,v2,v6,v7,?_⟩
        ·simp only[Quw,QuI,QtS,QtT,T.QsW,T.sz,szs];omega
        ·rw[hla]
         have hlt3:(t.lay 48 (h.length+1)++[AB.dead]).length=t.sz+1:=by rw[Quw,T.QsW];rfl
         refine At.both ?_ ?_
         ·refine At.app ?_ _
          refine At.set (At.both hAt (At.cons (fun hx=>by cases hx) (At.nil _ _))) fun b hb hq0=>?_
          rw[Nat.sub_zero,hdead]at hb
          cases hb;rfl
         ·rw[hlt3,Quz]
          have:=At.mid (L.set q (.cells 48 4 [(T.mk 2 0 opsB[j] [t,u]).lv (h.length+1)])) (u.lay 48 (h.length+1+(t.sz+1))++[.cells 48 4 [t.lv (h.length+1),u.lv (h.length+1+(t.sz+1))]]) [.dead] (n:=0+(t.sz+1)) (by rw[QuI,hL,QtR])
          rwa [Quz]at this
        ·rw[T.sz,szs];omega
        ·rw[hla,Quz,Qux (by rw[Quw,T.QsW];show q<t.sz+1;omega)];exact hdead
        ·rw[Qux (by rw[QuI];omega),QuF (by omega)]
        ·rw[hlv];simp only[Quz,Qt7]
       refine⟨?_,?_⟩
       ·refine Yt (FunW.meth c2) Qah ?_
        simp only[go_sem,seval,f1,e1,e3,Xt,tokA,QvU,Quz]
        refine Yt (FunW.call (Qki _ _ rfl rfl rfl _ (.arr _ _ _ hlt2))) Qah ?_
        simp only[go_sem,seval,u7,f4,f6,g1,g2,e1,e2]
        refine hK _ (Qg (fin _ ?_ ?_ ?_ ?_ ?_ _))
        ·exact u0
        ·exact u1
        ·exact u2
        ·exact u6
        ·exact u7
       ·refine Yt (FunW.meth c2) Qah ?_
        simp only[go_sem,seval,u7,f1,f4,g1,e1,e2,e3,Xt,tokA,QvU,Quz]
        refine Yt (FunW.call (Qki _ _ rfl rfl rfl _ (.arr _ _ _ hlt2))) Qah ?_
        simp only[go_sem,seval,u7,f4,f6,g1,g2,e1,e2]
        refine hK _ (Qg (fin _ ?_ ?_ ?_ ?_ ?_ _))
        ·exact u0
        ·exact u1
        ·exact u2
        ·exact u6
        ·exact u7
    ·have hjl:j=opsB.length:=by omega
     have z1:¬(((j:Nat):Int)<((opsB.length:Nat):Int)):=by omega
     refine ZQ ?_
     with_reducible repeat first|refine Qj fun K E hK hE=>?_;simp only[go_sem,seval,u14,u13,z1]|refine Qg ?_|refine hK _ ?_;clear hK
     refine ZQ ?_
     with_reducible repeat first|refine Xb ?_|refine Qg ?_|refine QK ?_|refine QJ ?_|refine Qm rfl ?_;simp only[↓reduceIte,QtJ]
     refine QdM ?_
     have e1:=T.QsX (h.length+1) t
     have e2:=T.QsZ (h.length+1) t
     with_reducible repeat first|refine Qd fun K E hK hE=>?_;simp only[go_sem,seval,u6,u7,f3,f4,f5,hc7,e1,e2,Xt]|refine Xy ?_|refine hK _ ?_;clear hK
     simp only[go_sem,seval,u6,f3,e1,e2]
     have hone:s2.oneOf (opsB.map ByteArray.toList)=false:=by
      rw[PS.oneOf,List.any_eq_false]
      intro b hb
      obtain⟨b',hb',rfl⟩:=QuZ.1 hb
      rw[hjl,QuA]at hno
      rw[hno b' hb'];simp
     have hRR:R = .ok t s2:=by
      rw[<-hR2]
      cases k with
      |zero=>rfl
      |succ k=>rw[YA,hone];rfl
     subst hRR
     refine .inr ⟨rfl,_,rfl,fun i b hb hl=>?_⟩
     have:=hAt i b hb hl
     rw[show 1+i=(0+i)+1 by omega,QtG];exact this
   ·rw[hI2]
    exact⟨0,rfl,QuG _,by simp,t0,t1,t2,t6,t7,rfl,rfl,rfl,rfl⟩
end
end Go.Proofs.YticgcpebdldbgaaGreatDoor.Ab
namespace Go.Proofs.YticgcpebdldbgaaGreatDoor.Ab
open Go.Proofs
theorem QrC{P:Pz}{f:FuncId}{args:List AV}{h0 h:AH}{L:AH}{t:T}{s2:PS}(H:P.ok h)(C:QA Tryz.prog f args h0 (TQ (h++L) P (.ok t s2))){k:Nat}(hk:k=h.length+L.length):QA Tryz.prog f args h0 fun o h'=>o = .ret (t.lv k)/\h'=ph h P s2++(L++t.lay 48 k):=by
 subst hk
 exact C.mono fun o h' q=>by simpa only[TQ,XH H,Quw,Quz]using q
theorem QpS{P:Pz}{f:FuncId}{args:List AV}{h0 h:AH}{L:AH}{p c:Int}(H:P.ok h)(C:QA Tryz.prog f args h0 (TQ (h++L) P (.err p c))):QA Tryz.prog f args h0 fun o h'=>o = .panic (Fl p c)/\∃s2:PS,h'=ph h P s2++L :=
 C.mono fun o h' q=>by simpa only[TQ,XH H]using q
section
variable{P:Pz}{g:PS->PR T}{Nn:Nat}(hEat:Eat 0 g)(hKp:Kp.Ps (wdOf P.all) g)(hN:P.all.length<=1000000)
include hEat hKp hN
theorem Qgv{f:FuncId}(HR:TRd P f g Nn)(opsB:List ByteArray)(hob:opsB.length<=10){s:PS}(hs:s.toks.length<Nn)(hW:Wst P.all s){h:AH}(H:P.ok h) :
  QA Tryz.prog 95 [.ptr P.i 0 0,.fn (.func f) [.ptr P.i 0 0] [],.sl 1 (strs opsB) none] (ph h P s) (TQ h P (YV g (opsB.map ByteArray.toList) s)) :=
 QeR H 1 (Qmv HR hEat hKp opsB hob hs hW H hN)
theorem QlJ(HR:TRd P 109 g Nn):TRd P 96 (YV g YJ) Nn:=by
 intro s hs hW h H
 have cc:=Qgv hEat hKp hN HR [{data:=#[42]},{data:=#[47]},{data:=#[37]}] (by simp) hs hW (H.app [c6])
 have eo:List.map ByteArray.toList [{data:=#[42]},{data:=#[47]},{data:=#[37]}]=YJ:=by
  simp only[QtU,QtY,Lib.toList_data];rfl
 rw[eo,XH H]at cc
 simp only[strs,QtU,QtY]at cc
 have f1:=Xv h P
 have f3:=Yu h P
 have f5:=X7 h P
 refine QeR H 1 ?_
 cases hr:YV g YJ s with
 |err p e =>
  rw[hr]at cc
  replace cc:=QpS H cc
  refine Qa Tryz.func96 rfl Tryz.call96 Tryz.ntmps96 Tryz.results96 (by simp) ?_
  repeat (first|refine FunW.panE (FunW.call cc) fun r=>?_|refine Qb ?_);simp only[go_sem,seval,f1]
  exact Xw H s r p e _ ⟨rfl,_,rfl⟩
 |ok t s2 =>
  rw[hr]at cc
  replace cc:=QrC H cc (k:=h.length+1) rfl
  have e1:=T.QsX (h.length+1) t
  have e2:=T.QsZ (h.length+1) t
  refine Qa Tryz.func96 rfl Tryz.call96 Tryz.ntmps96 Tryz.results96 (by simp) ?_
  repeat (first|refine FunW.QsR cc ?_|refine Qb ?_);simp only[go_sem,seval,f1,f3,f5,e1,e2,Xt]
  exact .inr ⟨rfl,_,rfl,At.tail (At.all _)⟩
theorem Qp7(HR:TRd P 96 g Nn):TRd P 80 (YV g ZY) Nn:=by
 intro s hs hW h H
 have cc:=Qgv hEat hKp hN HR [{data:=#[43]},{data:=#[45]}] (by simp) hs hW (H.app [c6])
 have eo:List.map ByteArray.toList [{data:=#[43]},{data:=#[45]}]=ZY:=by
  simp only[QtU,QtY,Lib.toList_data];rfl
 rw[eo,XH H]at cc
 simp only[strs,QtU,QtY]at cc
 have f1:=Xv h P
 have f3:=Yu h P
 have f5:=X7 h P
 refine QeR H 1 ?_
 cases hr:YV g ZY s with
 |err p e =>
  rw[hr]at cc
  replace cc:=QpS H cc
  refine Qa Tryz.func80 rfl Tryz.call80 Tryz.ntmps80 Tryz.results80 (by simp) ?_
  repeat (first|refine FunW.panE (FunW.call cc) fun r=>?_|refine Qb ?_);simp only[go_sem,seval,f1]
  exact Xw H s r p e _ ⟨rfl,_,rfl⟩
 |ok t s2 =>
  rw[hr]at cc
  replace cc:=QrC H cc (k:=h.length+1) rfl
  have e1:=T.QsX (h.length+1) t
  have e2:=T.QsZ (h.length+1) t
  refine Qa Tryz.func80 rfl Tryz.call80 Tryz.ntmps80 Tryz.results80 (by simp) ?_
  repeat (first|refine FunW.QsR cc ?_|refine Qb ?_);simp only[go_sem,seval,f1,f3,f5,e1,e2,Xt]
  exact .inr ⟨rfl,_,rfl,At.tail (At.all _)⟩
end
end Go.Proofs.YticgcpebdldbgaaGreatDoor.Ab
namespace Go.Proofs.YticgcpebdldbgaaGreatDoor.Ab
open Go.Proofs
def GQ(h:AH)(P:Pz):PR G->AOut->AH->Prop
 | .ok a s,o,h'=>o = .ret (.agg [.v (.string a.name),lsl h.length a.args])/\h'=ph h P s++layA 48 h.length a.args
 | .err p e,o,h'=>o = .panic (Fl p e)/\∃s,h'=ph h P s
def GC(g:Nat)(h:AH)(P:Pz):PR G->AOut->AH->Prop
 | .ok a s,o,h'=>o = .ret (.agg [.v (.string a.name),lsl (h.length+g) a.args])/\∃N,h'=ph h P s++N/\At N g (layA 48 (h.length+g) a.args)
 | .err p e,o,h'=>o = .panic (Fl p e)/\∃s,h'=ph h P s
theorem Qkm{P:Pz}{f:FuncId}{args:List AV}{h:AH}{s:PS}(H:P.ok h)(g:Nat){r:PR G}(C:QA Tryz.prog f args (ph h P s) (GC g h P r)):QA Tryz.prog f args (ph h P s) (GQ h P r):=by
 refine Qa4 C fun hb0 o h' hQ=>?_
 cases r with
 |err p e=>exact .inl hQ
 |ok t s2 =>
  obtain⟨rfl,N,rfl,hN⟩:=hQ
  rw[Xv]at hb0 ⊢
  have hb:∀b∈ph h P s2,b.Below h.length:=fun b hb=>by
   obtain⟨k,hk⟩:=Qaa hb
   rcases QcH H (s0:=s) hk with h1|h1
   ·exact hb0 k b h1
   ·exact h1
  obtain⟨K,hk⟩:=QoX (Xv h P s2) hb g t.args hN
  refine .inr ⟨_,.agg [.v (.string t.name),lsl h.length t.args],_,_,rfl,K,.agg rfl fun j a a' h1 h2=>?_,rfl,rfl⟩
  match j,h1,h2 with
  |0,h1,h2=>cases h1;cases h2;exact .keep (.v _)
  |1,h1,h2=>cases h1;cases h2;exact hk
  |j+2,h1,h2=>simp at h1
section
variable{P:Pz}{s:PS}(hW:Wst P.all s){h:AH}(H:P.ok h)(hN:P.all.length<=1000000)(L:AH)
include hW H hN
theorem QjH{x:ByteArray}{s1:PS}(e:QaC s = .ok x s1):QA Tryz.prog 43 [.ptr P.i 0 0] (ph h P s++L) fun o h'=>o = .ret (.v (.string x))/\h'=ph h P s1++L:=by
 have:=QiH hW (H.app L) hN
 rw[e,XH H]at this
 exact this.mono fun o h' q=>by simpa only[XH H]using q
theorem Qhx{p c:Int}(e:QaC s = .err p c):QA Tryz.prog 43 [.ptr P.i 0 0] (ph h P s++L) fun o h'=>o = .panic (Fl p c)/\∃s1:PS,h'=ph h P s1++L:=by
 have:=QiH hW (H.app L) hN
 rw[e,XH H]at this
 exact this.mono fun o h' q=>by simpa only[XH H]using q
theorem QaB(b:ByteArray)(hb:s.is b.toList=true):QA Tryz.prog 47 [.ptr P.i 0 0,.v (.string b)] (ph h P s++L) fun o h'=>o = .ret (.b true)/\h'=ph h P s.nx++L:=by
 have:=QhT hW (H.app L) hN b hb
 simpa only[XH H]using this
theorem Qa2(b:ByteArray)(hb:s.is b.toList=false):QA Tryz.prog 47 [.ptr P.i 0 0,.v (.string b)] (ph h P s++L) fun o h'=>o = .ret (.b false)/\h'=ph h P s++L:=by
 have:=Qj4 hW (H.app L) hN b hb
 simpa only[XH H]using this
theorem YL(b:ByteArray)(hb:s.is b.toList=true):QA Tryz.prog 44 [.ptr P.i 0 0,.v (.string b)] (ph h P s++L) fun o h'=>o = .ret (.tup [])/\h'=ph h P s.nx++L:=by
 have:=Qll hW (H.app L) hN b hb
 simpa only[XH H]using this
theorem Zp(b:ByteArray)(hb:s.is b.toList=false):QA Tryz.prog 44 [.ptr P.i 0 0,.v (.string b)] (ph h P s++L) fun o h'=>o = .panic (Fl s.tk.pos 16)/\h'=ph h P s++L:=by
 have:=QmF hW (H.app L) hN b hb
 simpa only[XH H]using this
end
theorem tl(l:List UInt8):(ByteArray.mk l.toArray).toList=l:=by rw[Lib.toList_data]
end Go.Proofs.YticgcpebdldbgaaGreatDoor.Ab
namespace Go.Proofs.YticgcpebdldbgaaGreatDoor.Ab
open Go.Proofs
abbrev cA0:AB:=.cells 105 2 [.agg [.v (.string {data:=#[]}),.v (.slice none 0 0)]]
def avl(n d:Nat)(l:List T):AV:=if l.isEmpty then .sl 4 [] (some d)else .arr (n+szs l - 1) 0 l.length
section
variable{P:Pz}{ex:PS->PR T}{Nn:Nat}(HR:TRd P 80 ex Nn)(hEat:Eat 0 ex)(hKp:Kp.Ps (wdOf P.all) ex){s:PS}(hs:s.toks.length<Nn+1)(hW:Wst P.all s){h:AH}(H:P.ok h)(hN:P.all.length<=1000000)
include HR hEat hKp hs hW H hN
theorem Qkb:QA Tryz.prog 69 [.ptr P.i 0 0] (ph h P s) (GC 3 h P (ZU ex s)):=by
 have f1:=Xv h P
 have f3:=Yu h P
 have f4:=Zh h P
 have f5:=X7 h P
 have f6:=YB h P
 rw[ZU]
 have hi:=ph_i H s
 simp only[pB]at hi
 cases hn:QaC s with
 |err p e =>
  have cn:=fun L=>Qhx hW H hN L hn
  refine Qa Tryz.func69 rfl Tryz.call69 Tryz.ntmps69 Tryz.results69 (by simp) ?_
  with_reducible repeat first|(first|refine Qd fun K E hK hE=>?_|refine FunW.panE (FunW.call (cn _)) fun r=>?_);simp only[go_sem,seval,f1,hi]|refine hK _ ?_;clear hK|refine hE _ _ ?_
  exact Xw H s r p e _ ⟨rfl,_,rfl⟩
 |ok x s1 =>
  have cn:=fun L=>QjH hW H hN L hn
  have hW1:Wst P.all s1:=Kp.Ps.ok (n:=wdOf P.all) (Kp.name_ps trivial) hW hn
  have hl1:=(QcE s hW.wf x s1 hn).2
  have hi1:=ph_i H s1
  simp only[pB]at hi1
  show QA _ _ _ _ (GC 3 h P (if s1.is sLp=true then(Z1 ex s1.toks.length [] s1.nx).bind fun l s=>PR.ok (⟨0,x,l⟩:G) s else PR.ok ⟨0,x,[]⟩ s1))
  cases hp:s1.is sLp with
  |false =>
   have cs:=fun L=>Qa2 hW1 H hN L {data:=#[40]} (by rw[Lib.toList_data];exact hp)
   rw[QuE (by simp)]
   refine Qa Tryz.func69 rfl Tryz.call69 Tryz.ntmps69 Tryz.results69 (by simp) ?_
   with_reducible repeat first|(first|refine Qd fun K E hK hE=>?_|refine FunW.QsR (cn _) ?_|refine FunW.QsR (cs _) ?_);simp only[go_sem,seval,f1,f3,f4,f5,f6,hi,hi1]|refine Qq fun K hK=>?_|refine Xy ?_|refine Xm ?_|refine hK _ ?_;clear hK|refine Qm rfl ?_;simp only[↓reduceIte]
   simp only[go_sem,seval,f3]
   refine .inr ⟨rfl,_,rfl,?_⟩
   exact fun j b hb=>by simp[layA,lays]at hb
  |true =>
   have cs:=fun L=>QaB hW1 H hN L {data:=#[40]} (by rw[Lib.toList_data];exact hp)
   have hk1:=PS.QsV hp
   have hln1:=Yg hW1.wf hk1
   have hWn1:=hW1.nx
   have hi2:=ph_i H s1.nx
   simp only[pB]at hi2
   rw[QuH rfl]
   generalize hR:((Z1 ex s1.toks.length [] s1.nx).bind fun l s=>PR.ok (⟨0,x,l⟩:G) s)=R
   refine Qa Tryz.func69 rfl Tryz.call69 Tryz.ntmps69 Tryz.results69 (by simp) ?_
   with_reducible repeat first|(first|refine Qd fun K E hK hE=>?_|refine FunW.QsR (cn _) ?_|refine FunW.QsR (cs _) ?_);simp only[go_sem,seval,f1,f4,f6,hi,hi1]|refine Qq fun K hK=>?_|refine Qu ?_|refine QE ?_|refine Qg ?_|refine hK _ ?_;clear hK|refine Qm rfl ?_;simp only[↓reduceIte,QtJ]
   refine YY (h.length+1) 105 2 4 .dead (.inl rfl) [.agg [.v (.string x),.v (.slice none 0 0)]] [.agg [.v (.string x),.sl 4 [] (some (h.length+2))]] 1 (by rw[f4];rfl) rfl (by rw[Quw,Xv];rfl) (by simp[AV.cells]) ?_
   rw[Quz,f6]
   obtain⟨I,hI⟩:∃I:Nat->AS->Prop,I=fun m' s=>∃(l:List T) (s2:PS),m'=s2.toks.length/\s2.toks.length<Nn/\Wst P.all s2/\l.length+s2.toks.length<=P.all.length+1/\(∃k,s2.toks.length<=k/\((Z1 ex k l s2).bind fun l s=>PR.ok (⟨0,x,l⟩:G) s)=R)/\s.tm 0 = .ptr P.i 0 0/\s.tm 2 = .ptr h.length 0 0/\s.tm 3 = .ptr (h.length+1) 0 0 /\
    s.h=ph h P s2++(cA0 :: .cells 105 2 [.agg [.v (.string x),avl (h.length+3) (h.length+2) l]] :: .dead::layA 48 (h.length+3) l):=⟨_,rfl⟩;refine QD I ?_ (m:=s1.nx.toks.length) ?_
   ·intro m' s hs;rw[hI]at hs;obtain⟨tm,hp⟩:=s;dsimp only at hs;obtain⟨l,s2,rfl,hl2,hW2,hbd,⟨k,hk,hR2⟩,t0,t2,t3,rfl⟩:=hs
    have hlk:1<=s2.toks.length:=by
     have:=Qjf hW2.wf
     cases hq:s2.toks with
     |nil=>exact absurd hq this
     |cons _ _=>simp
    have hk1:k=k - 1+1:=by omega
    cases hop:ex s2 with
    |err p e =>
     have hRR:R = .err p e:=by
      rw[<-hR2,hk1,Z1,hop];rfl
     subst hRR
     have c2:=TRd.err HR hl2 hW2 H hop (cA0 :: .cells 105 2 [.agg [.v (.string x),avl (h.length+3) (h.length+2) l]] :: .dead::layA 48 (h.length+3) l)
     with_reducible repeat first|refine Qq fun K hK=>?_|refine Qu ?_
     refine XV 3 [(0,0),(1,0),(2,1)] mixed rfl rfl rfl (by kernel_rfl) (fun v h'=>v=Fl p e/\∃x2:PS,h'=ph h P x2++(cA0 :: .cells 105 2 [.agg [.v (.string x),avl (h.length+3) (h.length+2) l]] :: .dead::layA 48 (h.length+3) l)) ?_ ?_
     ·rintro tm v h' ⟨rfl,x2,rfl⟩
      exact Xw H s x2 p e _ ⟨rfl,_,rfl⟩
     ·simp only[go_sem,seval,t0,t3,f4]
      exact fun _=>(FunW.call c2).mono (by rintro _ _ ⟨rfl,x,rfl⟩;exact⟨_,rfl,rfl,x,rfl⟩)
    |ok u s3 =>
     have hW3:Wst P.all s3:=Kp.Ps.ok hKp hW2 hop
     have hl3:=(hEat s2 hW2.wf u s3 hop).2
     have hi3:=ph_i H s3
     simp only[pB]at hi3
     have hR3:(if s3.is Zt=true then(Z1 ex (k - 1) (l++[u]) s3.nx).bind fun l s=>PR.ok (⟨0,x,l⟩:G) s else(YM sRp s3).bind fun _ s=>PR.ok (⟨0,x,l++[u]⟩:G) s)=R:=by
      rw[<-hR2,hk1,Z1,hop]
      simp only[PR.bind]
      split
      ·rfl
      ·cases YM sRp s3 <;> rfl
     with_reducible repeat first|refine Qq fun K hK=>?_|refine Qu ?_
     have fin:∀tm':Nat->AV,tm' 0 = .ptr P.i 0 0->tm' 2 = .ptr h.length 0 0->tm' 3 = .ptr (h.length+1) 0 0 ->
       K ⟨tm',ph h P s3++(cA0 :: .cells 105 2 [.agg [.v (.string x),.arr (h.length+3+szs (l++[u]) - 1) 0 (l++[u]).length]] :: .dead::layA 48 (h.length+3) (l++[u]))⟩:=by
      intro tm' v0 v2 v3
      refine hK _ ?_
      cases hc:s3.is Zt with
      |true =>
       have cs:=fun L=>QaB hW3 H hN L {data:=#[44]} (by rw[Lib.toList_data];exact hc)
       rw[hc,QuH rfl]at hR3
       have hln3:=Yg hW3.wf (PS.QsV hc)
       with_reducible repeat first|(first|refine Qd fun K E hK hE=>?_|refine FunW.QsR (cs _) ?_);simp only[go_sem,seval,v0,hi3]|refine QE ?_|refine Qg ?_|refine Qn ?_|refine hK _ ?_;clear hK|refine Qm rfl ?_;simp only[↓reduceIte,QtJ]
       refine XB.mk (m':=s3.nx.toks.length) (by omega) ?_
       rw[hI]
       refine⟨l++[u],s3.nx,rfl,by omega,hW3.nx,by simp;omega,⟨k - 1,by omega,hR3⟩,v0,v2,v3,?_⟩
       rw[avl,QuE (by simp)]
      |false =>
       have cs:=fun L=>Qa2 hW3 H hN L {data:=#[44]} (by rw[Lib.toList_data];exact hc)
       rw[hc,QuE (by simp)]at hR3
       have hat:At (cA0 :: .cells 105 2 [.agg [.v (.string x),.arr (h.length+3+szs (l++[u]) - 1) 0 (l++[u]).length]] :: .dead::layA 48 (h.length+3) (l++[u])) 3 (layA 48 (h.length+3) (l++[u])):=At.tail (At.tail (At.tail (At.all _)))
       cases hr:s3.is sRp with
       |true =>
        have ce:=fun L=>YL hW3 H hN L {data:=#[41]} (by rw[Lib.toList_data];exact hr)
        have hi4:=ph_i H s3.nx
        simp only[pB]at hi4
        have hRR:R = .ok ⟨0,x,l++[u]⟩ s3.nx:=by
         rw[<-hR3,YM,hr,QuH rfl];rfl
        subst hRR
        with_reducible repeat first|(first|refine Qd fun K E hK hE=>?_|refine FunW.QsR (cs _) ?_|refine FunW.QsR (ce _) ?_);simp only[go_sem,seval,v0,v2,v3,hi3,f3,f4,f5]|refine Xy ?_|refine Xb ?_|refine Qg ?_|refine QK ?_|refine QJ ?_|refine QP rfl ?_|refine hK _ ?_;clear hK|clear hK;refine hK _ ?_;clear hK|refine Qm rfl ?_;simp only[↓reduceIte]
        simp only[go_sem,seval,v2,f3]
        refine .inr ⟨?_,_,rfl,?_⟩
        ·show AOut.ret _=AOut.ret (.agg [_,lsl (h.length+3) (l++[u])])
         rw[lsl,QuE (by simp)]
        ·exact fun j b hb hl=>by
          have:=hat j b hb hl
          rw[QwA 3 j]at this ⊢
          simpa only[QtG]using this
       |false =>
        have ce:=fun L=>Zp hW3 H hN L {data:=#[41]} (by rw[Lib.toList_data];exact hr)
        have hRR:R = .err s3.tk.pos 16:=by
         rw[<-hR3,YM,hr,QuE (by simp)];rfl
        subst hRR
        with_reducible repeat first|(first|refine Qd fun K E hK hE=>?_|refine FunW.QsR (cs _) ?_|refine FunW.pan (FunW.call (ce _)) ?_);simp only[go_sem,seval,v0,hi3]|refine Xb ?_|refine Qg ?_|refine QK ?_|refine QJ ?_|refine QP rfl ?_|refine hK _ ?_;clear hK|clear hK;refine hK _ ?_;clear hK|refine Qm rfl ?_;simp only[↓reduceIte]|refine hE _ _ ?_
        exact Xw H s s3 _ _ _ ⟨rfl,_,rfl⟩
     have e3:=T.QsX (h.length+3+szs l) u
     have e4:=T.QsZ (h.length+3+szs l) u
     have hmx:1<=maxLen:=by decide
     have c2:=TRd.ok HR hl2 hW2 H hop (cA0 :: .cells 105 2 [.agg [.v (.string x),avl (h.length+3) (h.length+2) l]] :: .dead::layA 48 (h.length+3) l) (k:=h.length+3+szs l) (by simp only[QtS,Zi];omega)
     cases l with
     |nil =>
      simp only[szs,Qt4]at e3 e4 c2
      have ea:avl (h.length+3) (h.length+2) [] = .sl 4 [] (some (h.length+2)):=rfl
      have el:layA 48 (h.length+3) []=[]:=rfl
      simp only[ea,el]at c2 ⊢
      refine ZK (.node [(2,1)] 3 0 (.leaf [(3,2),(0,0),(1,0),(4,0),(5,2),(6,0),(7,2)]) (.node [(0,0)] 3 1 (.leaf [(3,2),(1,0),(4,0),(5,2),(6,0),(7,2)]) (.leaf [(1,0),(3,2),(4,0),(5,2),(6,0),(7,2)]))) mixed (by kernel_rfl) (fun K2 hK2=>?_)
      simp only[OT.walk]
      simp only[go_sem,seval,t0,t3,f4]
      have e5:h.length+3+szs ([]++[u]) - 1=h.length+((u.lay 48 (h.length+3)).length+1+1+1):=by
       rw[T.QsW,ZX];simp only[szs];omega
      have e6:layA 48 (h.length+3) ([]++[u])=u.lay 48 (h.length+3)++[.cells 48 4 [u.lv (h.length+3)]]:=by
       rw[QiC];simp[lays,szs,lvs]
      simp only[e5,e6]at fin
      refine⟨?_,?_⟩
      ·refine Yt (FunW.call c2) Qah ?_
       simp only[go_sem,seval,t3,f1,f4,f6,e3,Xt,hmx,Quz]
       refine hK2 _ (Qg (fin _ ?_ ?_ ?_)) <;> assumption
      ·refine⟨?_,?_⟩
       ·refine Yt (FunW.call c2) Qah ?_
        simp only[go_sem,seval,t3,f1,f4,f6,e3,Xt,hmx,Quz]
        refine hK2 _ (Qg (fin _ ?_ ?_ ?_)) <;> assumption
       ·refine Yt (FunW.call c2) Qah ?_
        simp only[go_sem,seval,t3,f1,f4,f6,e3,Xt,hmx,Quz]
        refine hK2 _ (Qg (fin _ ?_ ?_ ?_)) <;> assumption
     |cons a l0 =>
      have hne:a::l0≠[]:=by simp
      generalize hl1:a::l0=l1 at *
      have ea:avl (h.length+3) (h.length+2) l1 = .arr (h.length+3+szs l1 - 1) 0 l1.length:=by rw[avl,QuE (by simpa using hne)]
      have hsp:=Qc5 hne
      have gid:h.length+3+szs l1 - 1=h.length+(szs l1 - 1+1+1+1):=by omega
      have gA:∀(c:AB) X,(ph h P s3++(cA0::c :: .dead::(layA 48 (h.length+3) l1++X)))[h.length+3+szs l1 - 1]? = some (.cells 48 4 (lvs (h.length+3) l1)):=fun c X=>by
       rw[gid,f4]
       simp only[QtG]
       rw[Qux (by rw[Zi];omega)]
       exact(QiB _ _ _ hne).1
      have sA:∀(c:AB) X,(ph h P s3++(cA0::c :: .dead::(layA 48 (h.length+3) l1++X))).set (h.length+3+szs l1 - 1) .dead=ph h P s3++(cA0::c :: .dead::(lays 48 (h.length+3) .dead l1++X)):=fun c X=>by
       rw[gid,f6]
       simp only[Qua]
       rw[QuN _ _ (by rw[Zi];omega),(QiB _ _ _ hne).2]
      have hb1:l1.length+1<=maxLen:=by simp only[maxLen];omega
      have hb2:(l1.length+1) * 56<=140737488355328:=by omega
      have e5:h.length+3+szs (l1++[u]) - 1=h.length+(szs l1+((u.lay 48 (h.length+3+szs l1)).length)+1+1+1):=by
       rw[T.QsW,ZX];simp only[szs];omega
      have e6:=QiC 48 (h.length+3) l1 u
      have e7:(l1++[u]).length=l1.length+1:=by simp
      simp only[e5,e6,e7]at fin
      have e8:=Z9 48 (h.length+3) .dead l1
      have e9:=Qaq (h.length+3) l1
      simp only[ea]at c2 ⊢
      refine ZK (.node [(2,1)] 3 0 (.leaf [(3,2),(0,0),(1,0),(4,0),(5,4),(6,0),(7,2)]) (.node [(0,0)] 3 1 (.leaf [(3,2),(1,0),(4,0),(5,4),(6,0),(7,2)]) (.leaf [(1,0),(3,2),(4,0),(5,4),(6,0),(7,2)]))) mixed (by kernel_rfl) (fun K2 hK2=>?_)
      simp only[OT.walk]
      simp only[go_sem,seval,t0,t3,f4]
      refine⟨?_,?_⟩
      ·refine Yt (FunW.call c2) Qah ?_
       simp only[go_sem,seval,t3,f1,f4,f6,e3,gA,sA,e9,hb1,hb2,Zi,aopR,QbF,Xt,Quz]
       refine hK2 _ (Qg (fin _ ?_ ?_ ?_)) <;> assumption
      ·refine⟨?_,?_⟩
       ·refine Yt (FunW.call c2) Qah ?_
        simp only[go_sem,seval,t3,f1,f4,f6,e3,gA,sA,e9,hb1,hb2,Zi,aopR,QbF,Xt,Quz]
        refine hK2 _ (Qg (fin _ ?_ ?_ ?_)) <;> assumption
       ·refine Yt (FunW.call c2) Qah ?_
        simp only[go_sem,seval,t3,f1,f4,f6,e3,gA,sA,e9,hb1,hb2,Zi,aopR,QbF,Xt,Quz]
        refine hK2 _ (Qg (fin _ ?_ ?_ ?_)) <;> assumption
   ·rw[hI]
    exact⟨[],s1.nx,rfl,by omega,hWn1,by have:=hWn1.suf.length_le;simp;omega,⟨_,by omega,hR⟩,rfl,rfl,rfl,rfl⟩
end
end Go.Proofs.YticgcpebdldbgaaGreatDoor.Ab
namespace Go.Proofs.YticgcpebdldbgaaGreatDoor.Ab
open Go.Proofs
structure TkOk (all:List Tk):Prop where
 int:∀t∈all,t.kind=3->(∀c∈t.text.toList,isD c=true)/\numVal t.text.toList<=2147483648
 pos:∀t∈all,0<=t.pos/\t.pos<=1000000
 nam:∀t∈all,t.kind=1->opB t.text=false
theorem QdA{all:List Tk}{s:PS}(hW:Wst all s):s.tk∈all:=by
 refine hW.suf.subset ?_
 cases hq:s.toks with
 |nil=>exact absurd hq (Qjf hW.wf)
 |cons t l=>unfold PS.tk;rw[hq];simp
theorem QgO(x:ByteArray):mkB x.toList=x:=by rw[Lib.toList_data];exact Qhv x
theorem QjB{all:List Tk}(hD:TkOk all){s:PS}(hW:Wst all s)(hk:s.tk.kind=3):Pure Tryz.prog 46 [.v (.string s.tk.text)] (.i (valT s.tk.text))/\0<=valT s.tk.text/\valT s.tk.text<=2147483648:=by
 obtain⟨h1,h2⟩:=hD.int _ (QdA hW) hk
 have:=QjK s.tk.text.toList h1 h2
 rw[QgO]at this
 exact⟨this,by unfold valT;omega,by unfold valT;omega⟩
theorem QgQ(N:AH)(g:Nat):At N g []:=fun j b hb=>by simp at hb
section
variable{P:Pz}{ex:PS->PR T}{Nn:Nat}(HR:TRd P 80 ex Nn)(hEat:Eat 0 ex)(hKp:Kp.Ps (wdOf P.all) ex)(hN:P.all.length<=1000000)(hD:TkOk P.all)
include HR hEat hKp hN hD
theorem QlF:TRd P 109 (pOpT ex) (Nn+1):=by
 intro s hs hW h H
 refine QeR H 2 ?_
 have f1:=Xv h P
 have f3:=Yu h P
 have f4:=Zh h P
 have f5:=X7 h P
 have f6:=YB h P
 have hi:=ph_i H s
 have hin:=ph_i H s.nx
 simp only[pB]at hi hin
 have cn:=nextL hW (YW H s)
 have ct:=fun L=>Yq hW (H.app L) hN
 simp only[XH H]at ct
 have e1:=Tk.QsS s.tk
 have e2:=Tk.QsT s.tk
 unfold pOpT
 by_cases h3:s.tk.kind=3
 ·rw[QuH h3]
  have z1:(s.tk.kind==3)=true:=by simpa using h3
  obtain⟨cv,_,_⟩:=QjB hD hW h3
  have ci:=Qkr (valT s.tk.text)
  refine Qa Tryz.func109 rfl Tryz.call109 Tryz.ntmps109 Tryz.results109 (by simp) ?_
  repeat (first|refine FunW.QsR (cn _) ?_|refine FunW.QsR (ct _) ?_|refine Qe cv ?_|refine Qe ci ?_|refine Qb ?_);simp only[go_sem,seval,f1,f3,f4,f5,f6,hi,e1,e2,z1]
  exact .inr ⟨rfl,_,rfl,QgQ _ _⟩
 ·rw[QuE h3]
  have z3:(s.tk.kind==3)=false:=by simpa using h3
  by_cases h2:s.tk.kind=2
  ·rw[QuH h2]
   have z2:(s.tk.kind==2)=true:=by simpa using h2
   have cv:=fun L=>Qh1 hW.nx (H.app L) hN s.tk.text
   simp only[XH H]at cv
   obtain⟨hv1,hv2⟩:=QqC (h.length+2) s.tk.text s.nx
   refine Qa Tryz.func109 rfl Tryz.call109 Tryz.ntmps109 Tryz.results109 (by simp) ?_
   repeat (first|refine FunW.QsR (cn _) ?_|refine FunW.QsR (ct _) ?_|refine FunW.QsR (cv _) ?_|refine Qb ?_);simp only[go_sem,seval,f1,f3,f4,f5,f6,hi,e1,e2,z3,z2]
   refine .inr ⟨by rw[hv1],_,rfl,?_⟩
   rw[T.Qs6,hv2]
   exact QgQ _ _
  ·rw[QuE h2]
   have z2:(s.tk.kind==2)=false:=by simpa using h2
   by_cases h1:s.tk.kind=1
   ·rw[QuH h1]
    have z1:(s.tk.kind==1)=true:=by simpa using h1
    have ca:=fun L=>Qkm (H.app L) 3 (Qkb HR hEat hKp hs hW (H.app L) hN)
    cases hr:ZU ex s with
    |err p e =>
     rw[hr]at ca
     have ca':∀L,QA Tryz.prog 69 [.ptr P.i 0 0] (ph h P s++L) fun o h'=>o = .panic (Fl p e)/\∃s1:PS,h'=ph h P s1++L:=fun L=>by
      have:=ca L
      rw[XH H]at this
      exact this.mono fun o h' q=>by simpa only[GQ,XH H]using q
     refine Qa Tryz.func109 rfl Tryz.call109 Tryz.ntmps109 Tryz.results109 (by simp) ?_
     repeat (first|refine FunW.QsR (cn _) ?_|refine FunW.panE (FunW.call (ca' _)) fun r=>?_|refine Qb ?_);simp only[go_sem,seval,f1,f4,f6,hi,e1,e2,z3,z2,z1]
     exact Xw H s r p e _ ⟨rfl,_,rfl⟩
    |ok a s1 =>
     rw[hr]at ca
     have ca':∀(c d:AB),QA Tryz.prog 69 [.ptr P.i 0 0] (ph h P s++[c,d]) fun o h'=>o = .ret (.agg [.v (.string a.name),lsl (h.length+2) a.args])/\h'=ph h P s1++(c::d::layA 48 (h.length+2) a.args):=fun c d=>by
      have:=ca [c,d]
      rw[XH H]at this
      exact this.mono fun o h' q=>by simpa only[GQ,XH H,Quw,QtS,QtT,Quz,Qt7,Qt6]using q
     have e5:=Qft (h.length+2) a.args
     have e6:=Qfu (h.length+2) a.args
     have hat:∀(c d:AB) X,At (c::d::(layA 48 (h.length+2) a.args++X)) 2 (layA 48 (h.length+2) a.args):=fun c d X=>At.mid [c,d] _ _ rfl
     refine Qa Tryz.func109 rfl Tryz.call109 Tryz.ntmps109 Tryz.results109 (by simp) ?_
     repeat (first|refine FunW.QsR (cn _) ?_|refine FunW.QsR (ca' _ _) ?_|refine Qb ?_);simp only[go_sem,seval,f1,f3,f4,f5,f6,hi,e1,e2,z3,z2,z1,e5,Xt]
     exact .inr ⟨rfl,_,rfl,hat _ _ _⟩
   ·rw[QuE h1]
    have z1:(s.tk.kind==1)=false:=by simpa using h1
    cases hm:s.is QcT with
    |true =>
     rw[QuH rfl]
     have cs:=fun L=>QaB hW H hN L {data:=#[45]} (by rw[Lib.toList_data];exact hm)
     have hWn:=hW.nx
     have cn2:=nextL hWn (YW H s.nx)
     have e3:=Tk.QsS s.nx.tk
     have e4:=Tk.QsT s.nx.tk
     have hp:=hD.pos _ (QdA hW)
     have w1:IntKind.i64.wrap (s.tk.pos+1)=s.tk.pos+1:=Ya (by omega)
     have bad:(s.nx.tk.kind≠3\/s.nx.tk.pos≠s.tk.pos+1)->QA Tryz.prog 109 [.ptr P.i 0 0] (ph h P s) (CQ 2 h P (.err s.nx.tk.pos 16)):=fun hb=>by
      have cf:=ZS s.nx.tk 16
      by_cases hk:s.nx.tk.kind=3
      ·have y1:(s.nx.tk.kind != 3)=false:=by simpa using hk
       have y2:(s.nx.tk.pos != s.tk.pos+1)=true:=by simpa using hb.resolve_left (fun q=>q hk)
       refine Qa Tryz.func109 rfl Tryz.call109 Tryz.ntmps109 Tryz.results109 (by simp) ?_
       repeat (first|refine FunW.QsR (cn _) ?_|refine FunW.QsR (cs _) ?_|refine FunW.QsR (cn2 _) ?_|refine Qb ?_);simp only[go_sem,seval,f1,f4,f6,hi,hin,e1,e2,e3,e4,z3,z2,z1,y1,y2,w1]
       refine XV 4 [(0,1),(1,0),(2,0),(3,0)] mixed rfl rfl rfl (by kernel_rfl) (fun v h'=>v=Fl s.nx.tk.pos 16/\∃L,h'=ph h P s.nx++L) ?_ ?_
       ·rintro tm v h' ⟨rfl,L,rfl⟩
        exact Xw H s s.nx _ _ _ ⟨rfl,_,rfl⟩
       ·simp only[go_sem,seval,f4,hin,e3,e4]
        exact fun _=>(FunW.call (cf _ _)).mono (by rintro _ _ ⟨rfl,rfl⟩;exact⟨_,rfl,rfl,_,rfl⟩)
      ·have y1:(s.nx.tk.kind != 3)=true:=by simpa using hk
       refine Qa Tryz.func109 rfl Tryz.call109 Tryz.ntmps109 Tryz.results109 (by simp) ?_
       repeat (first|refine FunW.QsR (cn _) ?_|refine FunW.QsR (cs _) ?_|refine FunW.QsR (cn2 _) ?_|refine Qb ?_);simp only[go_sem,seval,f1,f4,f6,hi,hin,e1,e2,e3,e4,z3,z2,z1,y1]
       refine XV 4 [(0,1),(1,0),(2,0),(3,0)] mixed rfl rfl rfl (by kernel_rfl) (fun v h'=>v=Fl s.nx.tk.pos 16/\∃L,h'=ph h P s.nx++L) ?_ ?_
       ·rintro tm v h' ⟨rfl,L,rfl⟩
        exact Xw H s s.nx _ _ _ ⟨rfl,_,rfl⟩
       ·simp only[go_sem,seval,f4,hin,e3,e4]
        exact fun _=>(FunW.call (cf _ _)).mono (by rintro _ _ ⟨rfl,rfl⟩;exact⟨_,rfl,rfl,_,rfl⟩)
     by_cases hb:s.nx.tk.kind≠3\/s.nx.tk.pos≠s.tk.pos+1
     ·rw[QuH hb];exact bad hb
     ·rw[QuE hb]
      have hk:s.nx.tk.kind=3:=Classical.byContradiction fun q=>hb (.inl q)
      have hq:s.nx.tk.pos=s.tk.pos+1:=Classical.byContradiction fun q=>hb (.inr q)
      have y1:(s.nx.tk.kind != 3)=false:=by simpa using hk
      have y2:(s.nx.tk.pos != s.tk.pos+1)=false:=by simpa using hq
      obtain⟨cv,v1,v2⟩:=QjB hD hWn hk
      have ci:=Qkr (-valT s.nx.tk.text)
      have w2:IntKind.i64.wrap (0 - valT s.nx.tk.text) = -valT s.nx.tk.text:=by rw[Ya (by omega)];omega
      have ct2:=fun L=>Yq hWn (H.app L) hN
      simp only[XH H]at ct2
      refine Qa Tryz.func109 rfl Tryz.call109 Tryz.ntmps109 Tryz.results109 (by simp) ?_
      repeat (first|refine FunW.QsR (cn _) ?_|refine FunW.QsR (cs _) ?_|refine FunW.QsR (cn2 _) ?_|refine FunW.QsR (ct2 _) ?_|refine Qe cv ?_|refine Qe ci ?_|refine Qb ?_);simp only[go_sem,seval,f1,f3,f4,f5,f6,hi,hin,e1,e2,e3,e4,z3,z2,z1,y1,y2,w1,w2]
      exact .inr ⟨rfl,_,rfl,QgQ _ _⟩
    |false =>
     rw[QuE (by simp)]
     have cs:=fun L=>Qa2 hW H hN L {data:=#[45]} (by rw[Lib.toList_data];exact hm)
     cases hl:s.is sLp with
     |false =>
      rw[QuE (by simp)]
      have ce:=fun L=>Zp hW H hN L {data:=#[40]} (by rw[Lib.toList_data];exact hl)
      refine Qa Tryz.func109 rfl Tryz.call109 Tryz.ntmps109 Tryz.results109 (by simp) ?_
      repeat (first|refine FunW.QsR (cn _) ?_|refine FunW.QsR (cs _) ?_|refine FunW.pan (FunW.call (ce _)) ?_|refine Qb ?_);simp only[go_sem,seval,f1,f4,f6,hi,e1,e2,z3,z2,z1]
      exact Xw H s s _ _ _ ⟨rfl,_,rfl⟩
     |true =>
      rw[QuH rfl]
      have ce:=fun L=>YL hW H hN L {data:=#[40]} (by rw[Lib.toList_data];exact hl)
      have hWn:=hW.nx
      have hln:=Yg hW.wf (PS.QsV hl)
      cases hr:ex s.nx with
      |err p e =>
       have cx:=fun L=>TRd.err HR (s:=s.nx) (by omega) hWn H hr L
       refine Qa Tryz.func109 rfl Tryz.call109 Tryz.ntmps109 Tryz.results109 (by simp) ?_
       repeat (first|refine FunW.QsR (cn _) ?_|refine FunW.QsR (cs _) ?_|refine FunW.QsR (ce _) ?_|refine FunW.panE (FunW.call (cx _)) fun r=>?_|refine Qb ?_);simp only[go_sem,seval,f1,f4,f6,hi,e1,e2,z3,z2,z1]
       exact Xw H s r _ _ _ ⟨rfl,_,rfl⟩
      |ok t s1 =>
       have cx:=fun(c d:AB)=>TRd.ok HR (s:=s.nx) (by omega) hWn H hr [c,d] (k:=h.length+2) rfl
       simp only[Qt7,Qt6]at cx
       have hW1:Wst P.all s1:=Kp.Ps.ok hKp hWn hr
       have hi1:=ph_i H s1
       simp only[pB]at hi1
       have e5:=T.QsX (h.length+2) t
       have e6:=T.QsZ (h.length+2) t
       have hat:∀(c d:AB) X,At (c::d::(t.lay 48 (h.length+2)++X)) 2 (t.lay 48 (h.length+2)):=fun c d X=>At.mid [c,d] _ _ rfl
       simp only[PR.bind,YM]
       cases hp2:s1.is sRp with
       |false =>
        rw[QuE (by simp)]
        have ce2:=fun L=>Zp hW1 H hN L {data:=#[41]} (by rw[Lib.toList_data];exact hp2)
        refine Qa Tryz.func109 rfl Tryz.call109 Tryz.ntmps109 Tryz.results109 (by simp) ?_
        repeat (first|refine FunW.QsR (cn _) ?_|refine FunW.QsR (cs _) ?_|refine FunW.QsR (ce _) ?_|refine FunW.QsR (cx _ _) ?_|refine FunW.pan (FunW.call (ce2 _)) ?_|refine Qb ?_);simp only[go_sem,seval,f1,f4,f6,hi,hi1,e1,e2,e5,e6,Xt,z3,z2,z1]
        exact Xw H s s1 _ _ _ ⟨rfl,_,rfl⟩
       |true =>
        rw[QuH rfl]
        have ce2:=fun L=>YL hW1 H hN L {data:=#[41]} (by rw[Lib.toList_data];exact hp2)
        refine Qa Tryz.func109 rfl Tryz.call109 Tryz.ntmps109 Tryz.results109 (by simp) ?_
        repeat (first|refine FunW.QsR (cn _) ?_|refine FunW.QsR (cs _) ?_|refine FunW.QsR (ce _) ?_|refine FunW.QsR (cx _ _) ?_|refine FunW.QsR (ce2 _) ?_|refine Qb ?_);simp only[go_sem,seval,f1,f3,f4,f5,f6,hi,hi1,e1,e2,e5,e6,Xt,z3,z2,z1]
        exact .inr ⟨rfl,_,rfl,hat _ _ _⟩
end
end Go.Proofs.YticgcpebdldbgaaGreatDoor.Ab
namespace Go.Proofs.YticgcpebdldbgaaGreatDoor.Ab
open Go.Proofs
theorem TRd.congr{P:Pz}{f:FuncId}{g g':PS->PR T}{N:Nat}(HR:TRd P f g N)(he:∀s:PS,Wst P.all s->s.toks.length<N->g s=g' s):TRd P f g' N:=fun s hs hW h H=>by rw[<-he s hW hs];exact HR s hs hW h H
section
variable{P:Pz}(hN:P.all.length<=1000000)(hD:TkOk P.all)
include hN hD
theorem Qkf:∀N:Nat,TRd P 80 (Zf N) N
 |0=>fun s hs=>absurd hs (Nat.not_lt_zero _)
 |N+1=>by
  have h0:=Qkf N
  have hE0:Eat 0 (Zf N):=(Qbb N).less (by omega)
  have hK0:Kp.Ps (wdOf P.all) (Zf N):=Kp.exprT_ps trivial N
  have h1:=QlF h0 hE0 hK0 hN hD
  have hE1:Eat 0 (pOpT (Zf N)):=(QfE hE0).less (by omega)
  have hK1:Kp.Ps (wdOf P.all) (pOpT (Zf N)):=Kp.opT_ps trivial hK0
  have h2:=QlJ hE1 hK1 hN h1
  have hE2:Eat 0 (YV (pOpT (Zf N)) YJ):=Qce hE1 YJ
  have hK2:Kp.Ps (wdOf P.all) (YV (pOpT (Zf N)) YJ):=Kp.chain_ps trivial hK1 YJ
  exact Qp7 hE2 hK2 hN h2
theorem QhX:TRd P 80 YP 1000001 :=
 (Qkf hN hD 1000001).congr fun s hW hs=>Ql1 hW.wf hs
theorem Qid{s:PS}(hW:Wst P.all s){h:AH}(H:P.ok h):QA Tryz.prog 69 [.ptr P.i 0 0] (ph h P s) (GQ h P (ZU YP s)) :=
 Qkm H 3 (Qkb (QhX hN hD) (Qbi.less (by omega)) (Kp.termT_ps trivial) (by have:=hW.suf.length_le;omega) hW H hN)
end
end Go.Proofs.YticgcpebdldbgaaGreatDoor.Ab

