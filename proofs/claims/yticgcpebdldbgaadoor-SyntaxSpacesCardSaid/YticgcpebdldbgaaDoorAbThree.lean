/-
  An abstract program logic, contracts of functions, and laws of terms and rules (part 3).
-/
import Derived.Test.YticgcpebdldbgaaDoorAbTwo
import Derived.ProofKit
import Derived.WalkKit
import Derived.OpenShut
import Derived.LaidSub
import Derived.Lib.LaidTab
import Derived.Lib.ItoaNum
import Derived.Lib.ItoaMem
import Derived.Lib.AtoiTie
import Derived.RecoverIn
set_option linter.unusedVariables false
set_option linter.unusedSimpArgs false
set_option maxHeartbeats 4000000
set_option maxRecDepth 4000
namespace Go.Proofs.YticgcpebdldbgaaDoor.Ab
open Go.Proofs
def PS.wf(s:PS):Prop:=∃l e,s.toks=l++[e]∧e.kind=0∧∀t∈l,t.kind≠0
theorem Yd{s:PS}(h:s.wf):s.nx.wf:=by
 obtain⟨l,e,hl,he,ha⟩:=h
 cases l with
 |nil=>exact⟨[],e,by simp only[PS.nx,hl,Qsa],he,ha⟩
 |cons t l =>
  have e2:s.nx.toks=l++[e]:=by
   cases l with
   |nil=>simp only[PS.nx,hl,Qsb,Qsa]
   |cons u l=>simp only[PS.nx,hl,Qsb]
  exact⟨l,e,e2,he,fun x hx=>ha x (by simp[hx])⟩
theorem QqX{s:PS}(h:s.wf)(hk:s.tk.kind≠0):s.toks=s.tk::s.nx.toks:=by
 obtain⟨l,e,hl,he,ha⟩:=h
 cases l with
 |nil =>
  have:s.tk=e:=by simp only[PS.tk,hl,Qsa,List.headD_cons]
  rw[this]at hk;exact absurd he hk
 |cons t l =>
  have e1:s.tk=t:=by simp only[PS.tk,hl,Qsb,List.headD_cons]
  have e2:s.nx.toks=l++[e]:=by
   cases l with
   |nil=>simp only[PS.nx,hl,Qsb,Qsa]
   |cons u l=>simp only[PS.nx,hl,Qsb]
  rw[e1,e2,hl];rfl
theorem Xo{s:PS}(h:s.wf)(hk:s.tk.kind≠0):s.nx.toks.length+1=s.toks.length:=by
 rw[QqX h hk];rfl
theorem Qa1{s:PS}(h:s.wf):s.nx.toks.length≤s.toks.length:=by
 by_cases hk:s.tk.kind=0
 ·unfold PS.nx
  split
  ·rename_i he;rw[he];simp
  ·exact Nat.le_refl _
 ·have:=Xo h hk;omega
theorem Qq2{s:PS}{b:List UInt8}(h:s.is b=true):s.tk.kind=4:=by
 simp only[PS.is,Bool.and_eq_true,beq_iff_eq]at h;exact h.1
theorem Qbw{s:PS}{l:List (List UInt8)}(h:s.oneOf l=true):s.tk.kind=4:=by
 rw[PS.oneOf,List.any_eq_true]at h
 obtain⟨b,_,hb⟩:=h
 exact Qq2 hb
theorem bind_ok{α β:Type}{x:PR α}{f:α→PS→PR β}{b:β}{s2:PS}(h:x.bind f = .ok b s2):∃a s,x = .ok a s∧f a s = .ok b s2:=by
 cases x with
 |ok a s=>exact⟨a,s,rfl,h⟩
 |err p e=>cases h
def Eat{α:Type}(k:Nat)(f:PS→PR α):Prop:=∀s,s.wf→∀a s2,f s = .ok a s2→s2.wf∧s2.toks.length+k≤s.toks.length
theorem Eat.less{α:Type}{j k:Nat}{f:PS→PR α}(h:Eat k f)(hj:j≤k):Eat j f:=fun s hs a s2 e=>by
 obtain⟨h1,h2⟩:=h s hs a s2 e
 exact⟨h1,by omega⟩
theorem Xy(b:List UInt8):Eat 1 (XO b):=fun s hs a s2 e=>by
 unfold XO at e
 split at e
 ·rename_i h
  cases e
  exact⟨Yd hs,Nat.le_of_eq (Xo hs (by rw[Qq2 h];decide))⟩
 ·cases e
theorem YT:Eat 1 ZD:=fun s hs a s2 e=>by
 unfold ZD at e
 split at e
 ·cases e
 ·rename_i h
  split at e
  ·cases e
  ·cases e
   exact⟨Yd hs,Nat.le_of_eq (Xo hs (by omega))⟩
theorem Qdy{ex:PS→PR T}(H:Eat 0 ex):∀(m:Nat) (l:List T),Eat 1 (YU ex m l)
 |0,_=>fun s _ a s2 e=>by cases e
 |m+1,l=>fun s hs a s2 e=>by
  rw[YU]at e
  obtain⟨t,s1,h1,h2⟩:=bind_ok e
  obtain⟨w1,l1⟩:=H s hs t s1 h1
  split at h2
  ·rename_i hc
   have hl:=Xo w1 (by rw[Qq2 hc];decide)
   obtain⟨w2,l2⟩:=Qdy H m _ s1.nx (Yd w1) a s2 h2
   exact⟨w2,by omega⟩
  ·obtain⟨u,s3,h3,h4⟩:=bind_ok h2
   cases h4
   obtain⟨w2,l2⟩:=Xy _ s1 w1 u _ h3
   exact⟨w2,by omega⟩
theorem Qdz{ex:PS→PR T}(H:Eat 0 ex):Eat 1 (Yz ex):=fun s hs a s2 e=>by
 rw[Yz]at e
 obtain⟨x,s1,h1,h2⟩:=bind_ok e
 obtain⟨w1,l1⟩:=YT s hs x s1 h1
 split at h2
 ·rename_i hc
  have hl:=Xo w1 (by rw[Qq2 hc];decide)
  obtain⟨l,s3,h3,h4⟩:=bind_ok h2
  cases h4
  obtain⟨w2,l2⟩:=Qdy H _ _ s1.nx (Yd w1) l _ h3
  exact⟨w2,by omega⟩
 ·cases h2
  exact⟨w1,l1⟩
theorem QaI(x:ByteArray)(s:PS):(pVari x s).2.toks=s.toks:=by unfold pVari;split <;> rfl
theorem QcZ{ex:PS→PR T}(H:Eat 0 ex):Eat 1 (pOpT ex):=fun s hs a s2 e=>by
 rw[pOpT]at e
 split at e
 ·rename_i h
  cases e
  exact⟨Yd hs,Nat.le_of_eq (Xo hs (by omega))⟩
 split at e
 ·rename_i h
  cases e
  have ht:=QaI s.tk.text s.nx
  refine⟨?_,by rw[ht];exact Nat.le_of_eq (Xo hs (by omega))⟩
  obtain⟨l,e',h1,h2,h3⟩:=Yd hs
  exact⟨l,e',by rw[ht];exact h1,h2,h3⟩
 split at e
 ·obtain⟨g,s1,h1,h2⟩:=bind_ok e
  cases h2
  exact Qdz H s hs g _ h1
 split at e
 ·rename_i h
  split at e
  ·cases e
  ·rename_i hn
   cases e
   have hl:=Xo hs (by rw[Qq2 h];decide)
   have hle:=Qa1 (Yd hs)
   exact⟨Yd (Yd hs),by omega⟩
 split at e
 ·rename_i h
  have hl:=Xo hs (by rw[Qq2 h];decide)
  obtain⟨t,s1,h1,h2⟩:=bind_ok e
  obtain⟨w1,l1⟩:=H s.nx (Yd hs) t s1 h1
  obtain⟨u,s3,h3,h4⟩:=bind_ok h2
  cases h4
  obtain⟨w2,l2⟩:=Xy _ s1 w1 u _ h3
  exact⟨w2,by omega⟩
 ·cases e
theorem Qav{op:PS→PR T}(H:Eat 0 op)(ops:List (List UInt8)):∀(m:Nat) (t:T),Eat 0 (XK op ops m t)
 |0,t=>fun s hs a s2 e=>by cases e;exact⟨hs,Nat.le_refl _⟩
 |m+1,t=>fun s hs a s2 e=>by
  rw[XK]at e
  split at e
  ·rename_i h
   have hl:=Xo hs (by rw[Qbw h];decide)
   obtain⟨u,s1,h1,h2⟩:=bind_ok e
   obtain⟨w1,l1⟩:=H s.nx (Yd hs) u s1 h1
   obtain⟨w2,l2⟩:=Qav H ops m _ s1 w1 a s2 h2
   exact⟨w2,by omega⟩
  ·cases e;exact⟨hs,Nat.le_refl _⟩
theorem Qaw{op:PS→PR T}{k:Nat}(H:Eat k op)(ops:List (List UInt8)):Eat k (X4 op ops):=fun s hs a s2 e=>by
 rw[X4]at e
 obtain⟨t,s1,h1,h2⟩:=bind_ok e
 obtain⟨w1,l1⟩:=H s hs t s1 h1
 obtain⟨w2,l2⟩:=Qav (H.less (Nat.zero_le _)) ops _ t s1 w1 a s2 h2
 exact⟨w2,by omega⟩
theorem Qaz:∀n,Eat 1 (X5 n)
 |0=>fun s _ a s2 e=>by cases e
 |n+1=>Qaw (Qaw (QcZ ((Qaz n).less (Nat.zero_le _))) Yy) ZU
theorem bind_congr{α β:Type}{x:PR α}{f g:α→PS→PR β}(h:∀a s,x = .ok a s→f a s=g a s):x.bind f=x.bind g:=by
 cases x with
 |ok a s=>exact h a s rfl
 |err p e=>rfl
theorem QgQ{ex ex':PS→PR T}(H:Eat 0 ex){N:Nat}(hx:∀s,s.wf→s.toks.length≤N→ex s=ex' s):∀(m m':Nat) (l:List T) (s:PS),s.wf→s.toks.length≤N→s.toks.length<m→s.toks.length<m'→YU ex m l s=YU ex' m' l s
 |0,_,_,_,_,_,h,_=>by omega
 |_,0,_,_,_,_,_,h=>by omega
 |m+1,m'+1,l,s,hs,hN,h,h'=>by
  rw[YU,YU,←hx s hs hN]
  refine bind_congr fun t s1 h1=>?_
  obtain⟨w1,l1⟩:=H s hs t s1 h1
  split
  ·rename_i hc
   have hl:=Xo w1 (by rw[Qq2 hc];decide)
   exact QgQ H hx m m' _ s1.nx (Yd w1) (by omega) (by omega) (by omega)
  ·rfl
theorem QbO{op op':PS→PR T}(H:Eat 0 op)(ops:List (List UInt8)){N:Nat}(hx:∀s,s.wf→s.toks.length≤N→op s=op' s):∀(m m':Nat) (t:T) (s:PS),s.wf→s.toks.length≤N+1→s.toks.length≤m→s.toks.length≤m'→XK op ops m t s=XK op' ops m' t s
 |0,m',t,s,hs,hN,h,_=>by
  obtain⟨l,e,hl,_⟩:=hs
  rw[hl]at h;simp at h
 |m+1,0,t,s,hs,hN,_,h=>by
  obtain⟨l,e,hl,_⟩:=hs
  rw[hl]at h;simp at h
 |m+1,m'+1,t,s,hs,hN,h,h'=>by
  rw[XK,XK]
  split
  ·rename_i hc
   have hl:=Xo hs (by rw[Qbw hc];decide)
   rw[←hx s.nx (Yd hs) (by omega)]
   refine bind_congr fun u s1 h1=>?_
   obtain⟨w1,l1⟩:=H s.nx (Yd hs) u s1 h1
   exact QbO H ops hx m m' _ s1 w1 (by omega) (by omega) (by omega)
  ·rfl
theorem QjY:∀(N n n':Nat),N<n→N<n'→∀s,s.wf→s.toks.length≤N→X5 n s=X5 n' s:=by
 intro N
 induction N with
 |zero=>intro n n' _ _ s hs h;obtain⟨l,e,hl,_⟩:=hs;rw[hl]at h;simp at h
 |succ N ih =>
  intro n n' hn hn' s hs h
  obtain⟨a,rfl⟩:∃a,n=a+1:=⟨n - 1,by omega⟩
  obtain⟨a',rfl⟩:∃a',n'=a'+1:=⟨n' - 1,by omega⟩
  have hE:=(Qaz a).less (Nat.zero_le 1)
  have hop:∀s,s.wf→s.toks.length≤N+1→pOpT (X5 a) s=pOpT (X5 a') s:=fun s hs h=>by
   rw[pOpT,pOpT]
   split
   ·rfl
   split
   ·rfl
   split
   ·rename_i hk
    congr 1
    rw[Yz,Yz]
    refine bind_congr fun x s1 h1=>?_
    obtain⟨w1,l1⟩:=YT s hs x s1 h1
    split
    ·rename_i hc
     have hl:=Xo w1 (by rw[Qq2 hc];decide)
     rw[QgQ hE (ex':=X5 a') (N:=N) (fun s hs h=>ih a a' (by omega) (by omega) s hs h) s1.toks.length s1.toks.length [] s1.nx (Yd w1) (by omega) (by omega) (by omega)]
    ·rfl
   split
   ·rfl
   split
   ·rename_i hc
    have hl:=Xo hs (by rw[Qq2 hc];decide)
    rw[ih a a' (by omega) (by omega) s.nx (Yd hs) (by omega)]
   ·rfl
  have hO:=(QcZ hE).less (Nat.zero_le 1)
  have hmul:∀s,s.wf→s.toks.length≤N+1→X4 (pOpT (X5 a)) Yy s=X4 (pOpT (X5 a')) Yy s:=fun s hs h=>by
   rw[X4,X4,←hop s hs h]
   refine bind_congr fun t s1 h1=>?_
   obtain⟨w1,l1⟩:=hO s hs t s1 h1
   exact QbO hO Yy hop _ _ t s1 w1 (by omega) (by omega) (by omega)
  have hM:=Qaw hO Yy
  show(X4 (pOpT (X5 a)) Yy s).bind (fun t s=>XK (X4 (pOpT (X5 a)) Yy) ZU s.toks.length t s)=(X4 (pOpT (X5 a')) Yy s).bind (fun t s=>XK (X4 (pOpT (X5 a')) Yy) ZU s.toks.length t s)
  rw[←hmul s hs h]
  refine bind_congr fun t s1 h1=>?_
  obtain⟨w1,l1⟩:=hM s hs t s1 h1
  exact QbO hM ZU hmul _ _ t s1 w1 (by omega) (by omega) (by omega)
theorem Yl:Eat 1 XW:=fun s hs a s2 e=>Qaz _ s hs a s2 e
theorem QkB{n:Nat}{s:PS}(hs:s.wf)(hn:s.toks.length<n):X5 n s=XW s:=QjY s.toks.length n _ hn (Nat.lt_succ_self _) s hs (Nat.le_refl _)
theorem Qjh(op:Int):Eat 1 (Qa6 op):=fun s hs a s2 e=>by
 rw[Qa6]at e
 obtain⟨u,s1,h1,e⟩:=bind_ok e
 obtain⟨t,s3,h3,e⟩:=bind_ok e
 obtain⟨v,s4,h4,e⟩:=bind_ok e
 cases e
 obtain⟨w1,l1⟩:=Xy _ s hs u s1 h1
 obtain⟨w2,l2⟩:=Yl s1 w1 t s3 h3
 obtain⟨w3,l3⟩:=Xy _ s3 w2 v _ h4
 exact⟨w3,by omega⟩
theorem Qfk{s:PS}{x:Int×Bool}(h:Qax s=some x):s.tk.kind≠0:=by
 unfold Qax at h
 split at h
 ·omega
 ·split at h
  ·cases h
  ·omega
theorem QaB:Eat 1 ZO:=fun s hs a s2 e=>by
 rw[ZO]at e
 split at e
 ·rename_i hk
  have hl:=Xo hs (by omega)
  have hw:=Yd hs
  split at e
  ·cases e;exact⟨hw,by omega⟩
  split at e
  ·cases e;exact⟨hw,by omega⟩
  split at e
  ·obtain⟨h1,h2⟩:=Qjh 11 s.nx hw a s2 e
   exact⟨h1,by omega⟩
  split at e
  ·obtain⟨h1,h2⟩:=Qjh 12 s.nx hw a s2 e
   exact⟨h1,by omega⟩
  ·cases e
 ·obtain⟨t,s1,h1,e⟩:=bind_ok e
  obtain⟨w1,l1⟩:=Yl s hs t s1 h1
  cases hc:Qax s1 with
  |some x =>
   obtain⟨op,turn⟩:=x
   rw[hc]at e
   simp only at e
   have hl:=Xo w1 (Qfk hc)
   obtain⟨u,s3,h3,e⟩:=bind_ok e
   cases e
   obtain⟨w2,l2⟩:=Yl s1.nx (Yd w1) u _ h3
   exact⟨w2,by omega⟩
  |none =>
   rw[hc]at e
   simp only at e
   split at e
   ·cases e;exact⟨w1,l1⟩
   ·cases e
theorem QcR(most:Nat):∀(m:Nat) (l:List G),Eat 1 (Yh most m l)
 |0,_=>fun s _ a s2 e=>by cases e
 |m+1,l=>fun s hs a s2 e=>by
  rw[Yh]at e
  split at e
  ·cases e
  ·obtain⟨g,s1,h1,e⟩:=bind_ok e
   obtain⟨w1,l1⟩:=QaB s hs g s1 h1
   split at e
   ·cases e
   ·split at e
    ·rename_i hc
     have hl:=Xo w1 (by rw[Qq2 hc];decide)
     obtain⟨w2,l2⟩:=QcR most m _ s1.nx (Yd w1) a s2 e
     exact⟨w2,by omega⟩
    ·cases e;exact⟨w1,l1⟩
theorem Qbf(most:Nat):Eat 1 (Yo most):=fun s hs a s2 e=>QcR most _ [] s hs a s2 e
theorem QcT(pre:Nat):∀(m:Nat) (l:List G),Eat 1 (YA pre m l)
 |0,_=>fun s _ a s2 e=>by cases e
 |m+1,l=>fun s hs a s2 e=>by
  rw[YA]at e
  split at e
  ·cases e
  ·obtain⟨g,s1,h1,e⟩:=bind_ok e
   obtain⟨w1,l1⟩:=Qdz (Yl.less (Nat.zero_le 1)) s hs g s1 h1
   split at e
   ·cases e
   ·split at e
    ·rename_i hc
     have hl:=Xo w1 (by rw[Qq2 hc];decide)
     obtain⟨w2,l2⟩:=QcT pre m _ s1.nx (Yd w1) a s2 e
     exact⟨w2,by omega⟩
    ·cases e;exact⟨w1,l1⟩
theorem QaC(pre:Nat):Eat 1 (Yp pre):=fun s hs a s2 e=>QcT pre _ [] s hs a s2 e
theorem Qam(name:ByteArray)(keep remove:List G):Eat 1 (Ze name keep remove):=fun s hs a s2 e=>by
 unfold Ze at e
 simp only at e
 obtain⟨b,s1,h1,e⟩:=bind_ok e
 obtain⟨w1,l1⟩:=Qbf 12 s hs b s1 h1
 split at e
 ·rename_i hc
  have hl:=Xo w1 (by rw[Qq2 hc];decide)
  obtain⟨b2,s3,h3,e⟩:=bind_ok e
  obtain⟨w2,l2⟩:=Qbf 12 s1.nx (Yd w1) b2 s3 h3
  obtain⟨u,s4,h4,e⟩:=bind_ok e
  cases e
  obtain⟨w3,l3⟩:=Xy _ s3 w2 u _ h4
  exact⟨w3,by omega⟩
 ·obtain⟨u,s4,h4,e⟩:=bind_ok e
  cases e
  obtain⟨w3,l3⟩:=Xy _ s1 w1 u _ h4
  exact⟨w3,by omega⟩
theorem Qmc:Eat 1 YQ:=fun s hs a s2 e=>by
 have body:∀(name:ByteArray),Eat 1 fun s=>(Yp 0 s).bind fun first s =>
   if s.is QaH then Ze name [] first s.nx else if s.is Qe7 then Ze name first [] s.nx else
   if s.is Qe5 then(Yp first.length s.nx).bind fun rem s=>(XO QaH s).bind fun _ s=>Ze name first rem s else .err s.tk.pos 16:=fun name s hs a s2 e=>by
  simp only at e
  obtain⟨f,s1,h1,e⟩:=bind_ok e
  obtain⟨w1,l1⟩:=QaC 0 s hs f s1 h1
  split at e
  ·rename_i hc
   have hl:=Xo w1 (by rw[Qq2 hc];decide)
   obtain⟨w2,l2⟩:=Qam name [] f s1.nx (Yd w1) a s2 e
   exact⟨w2,by omega⟩
  split at e
  ·rename_i hc
   have hl:=Xo w1 (by rw[Qq2 hc];decide)
   obtain⟨w2,l2⟩:=Qam name f [] s1.nx (Yd w1) a s2 e
   exact⟨w2,by omega⟩
  split at e
  ·rename_i hc
   have hl:=Xo w1 (by rw[Qq2 hc];decide)
   obtain⟨r,s3,h3,e⟩:=bind_ok e
   obtain⟨w2,l2⟩:=QaC _ s1.nx (Yd w1) r s3 h3
   obtain⟨u,s4,h4,e⟩:=bind_ok e
   obtain⟨w3,l3⟩:=Xy _ s3 w2 u s4 h4
   obtain⟨w4,l4⟩:=Qam name f r s4 w3 a s2 e
   exact⟨w4,by omega⟩
  ·cases e
 unfold YQ at e
 simp only at e
 split at e
 ·obtain⟨x,s1,h1,e⟩:=bind_ok e
  obtain⟨w1,l1⟩:=YT s hs x s1 h1
  have hle:=Qa1 w1
  obtain⟨w2,l2⟩:=body x s1.nx (Yd w1) a s2 e
  exact⟨w2,by omega⟩
 ·exact body eB s hs a s2 e
theorem Qgz:Eat 1 Zm:=fun s hs a s2 e=>by
 rw[Zm]at e
 obtain⟨r,s1,h1,e⟩:=bind_ok e
 cases e
 exact Qmc ⟨s.toks,[]⟩ hs r _ h1
theorem Qcd:∀(m:Nat) (l:List Dc),Eat 1 (Zd m l)
 |0,_=>fun s _ a s2 e=>by cases e
 |m+1,l=>fun s hs a s2 e=>by
  rw[Zd]at e
  split at e
  ·cases e
  ·obtain⟨x,s1,h1,e⟩:=bind_ok e
   obtain⟨w1,l1⟩:=YT s hs x s1 h1
   obtain⟨u,s3,h3,e⟩:=bind_ok e
   obtain⟨w2,l2⟩:=Xy _ s1 w1 u s3 h3
   split at e
   ·cases e
   ·rename_i hk
    have hl:=Xo w2 (by omega)
    split at e
    ·cases e
    ·split at e
     ·rename_i hc
      have hle:=Qa1 (Yd w2)
      obtain⟨w3,l3⟩:=Qcd m _ s3.nx.nx (Yd (Yd w2)) a s2 e
      exact⟨w3,by omega⟩
     ·obtain⟨v,s4,h4,e⟩:=bind_ok e
      cases e
      obtain⟨w3,l3⟩:=Xy _ s3.nx (Yd w2) v _ h4
      exact⟨w3,by omega⟩
def tkS(t u:Tk):Prop:=t.kind=u.kind∧t.text=u.text
def lSim:List Tk→List Tk→Prop
 |[],[]=>True
 |t::l,u::m=>tkS t u∧(∀t2 u2,l.head? = some t2→m.head? = some u2→t2.kind=3→t.kind=4∧t.text.toList=Qai→(t2.pos=t.pos+1↔u2.pos=u.pos+1))∧lSim l m
 |_,_=>False
def Ends(r:List Tk):Prop:=∃e,r=[e]∧e.kind=0∧e.text=eB
structure Sm (r:List Tk) (s s':PS):Prop where
 ex:∃l m e,s.toks=l++[e]∧(e.kind=0∧e.text=eB)∧(∀t∈l,t.kind≠0)∧s'.toks=m++r∧lSim l m
 w:s'.wf
 n:s.names=s'.names
theorem Sm.wf{r:List Tk}{s s':PS}(h:Sm r s s'):s.wf:=by
 obtain⟨l,m,e,h1,h2,h3,_⟩:=h.ex
 exact⟨l,e,h1,h2.1,h3⟩
def Lv(r:List Tk)(s:PS):Prop:=1<s.toks.length∨Ends r
def RelP{α:Type}(r:List Tk)(x y:PR α):Prop:=match x with
 | .ok a s2=>Lv r s2→∃s2',y = .ok a s2'∧Sm r s2 s2'
 | .err _ e=>Ends r→∃p,y = .err p e
theorem Lv.up{r:List Tk}{s s2:PS}(h:Lv r s2)(hl:s2.toks.length≤s.toks.length):Lv r s:=h.imp (fun h=>by omega) id
theorem Qez{α:Type}{r:List Tk}{f f':PS→PR α}(H:Eat 0 f){s s':PS}(hs:s.wf)(h:Lv r s→RelP r (f s) (f' s')):RelP r (f s) (f' s'):=by
 by_cases hl:Lv r s
 ·exact h hl
 ·cases hf:f s with
  |ok a s2=>exact fun h2=>absurd (h2.up (H s hs a s2 hf).2) hl
  |err p e=>exact fun h2=>absurd (.inr h2) hl
theorem ZQ{α β:Type}{r:List Tk}{x y:PR α}{f g:α→PS→PR β}(hx:RelP r x y)(H:∀a s2,x = .ok a s2→Lv r s2∨¬Lv r s2)(hl:∀a s2 b s3,x = .ok a s2→f a s2 = .ok b s3→s3.toks.length≤s2.toks.length)
  (hf:∀a s2 s2',x = .ok a s2→y = .ok a s2'→Sm r s2 s2'→Lv r s2→RelP r (f a s2) (g a s2')):RelP r (x.bind f) (y.bind g):=by
 cases x with
 |err p e =>
  intro he
  obtain⟨p',rfl⟩:=hx he
  exact⟨p',rfl⟩
 |ok a s2 =>
  by_cases hv:Lv r s2
  ·obtain⟨s2',rfl,hS⟩:=hx hv
   exact hf a s2 s2' rfl rfl hS hv
  ·show RelP r (f a s2) _
   cases hfa:f a s2 with
   |ok b s3=>exact fun h=>absurd (h.up (hl a s2 b s3 rfl hfa)) hv
   |err p e=>exact fun h=>absurd (.inr h) hv
theorem Sm.tk{r:List Tk}{s s':PS}(h:Sm r s s')(hl:Lv r s):tkS s.tk s'.tk:=by
 obtain⟨l,m,e,h1,h2,h3,h4,h5⟩:=h.ex
 cases l with
 |nil =>
  cases m with
  |cons u m=>exact h5.elim
  |nil =>
   rcases hl with hl|⟨e',rfl,he',hx'⟩
   ·rw[h1]at hl;simp at hl
   ·have a1:s.tk=e:=by simp only[PS.tk,h1,Qsa,List.headD_cons]
    have a2:s'.tk=e':=by simp only[PS.tk,h4,Qsa,List.headD_cons]
    rw[a1,a2]
    exact⟨by rw[h2.1,he'],by rw[h2.2,hx']⟩
 |cons t l =>
  cases m with
  |nil=>exact h5.elim
  |cons u m =>
   have a1:s.tk=t:=by simp only[PS.tk,h1,Qsb,List.headD_cons]
   have a2:s'.tk=u:=by simp only[PS.tk,h4,Qsb,List.headD_cons]
   rw[a1,a2];exact h5.1
theorem Sm.ne{r:List Tk}{s s':PS}(h:Sm r s s'):r≠[]:=by
 intro hr
 obtain⟨l,m,e,h1,h2,h3,h4,h5⟩:=h.ex
 obtain⟨l',e',g1,g2,g3⟩:=h.w
 subst hr
 rw[List.append_nil]at h4
 rw[h4]at g1
 have key:∀(l m:List Tk),lSim l m→(∀t∈l,t.kind≠0)→∀u∈m,u.kind≠0:=by
  intro l
  induction l with
  |nil=>intro m h _ u hu;cases m with
   |nil=>cases hu
   |cons=>exact h.elim
  |cons t l ih =>
   intro m h ha u hu
   cases m with
   |nil=>exact h.elim
   |cons v m =>
    rcases List.mem_cons.1 hu with rfl|hu
    ·rw[←h.1.1];exact ha t (by simp)
    ·exact ih m h.2.2 (fun x hx=>ha x (by simp[hx])) u hu
 exact key l m h5 h3 e' (by rw[g1];simp) g2
theorem Qgs{s:PS}{t:Tk}{l:List Tk}(h:s.toks=t::l)(hl:l≠[]):s.nx.toks=l:=by
 cases l with
 |nil=>exact absurd rfl hl
 |cons u l=>simp only[PS.nx,h]
theorem Qor{s:PS}{t:Tk}(h:s.toks=[t]):s.nx.toks=[t]:=by simp only[PS.nx,h]
theorem Sm.nx{r:List Tk}{s s':PS}(h:Sm r s s')(hl:Lv r s):Sm r s.nx s'.nx:=by
 have hne:=h.ne
 refine⟨?_,Yd h.w,h.n⟩
 obtain⟨l,m,e,h1,h2,h3,h4,h5⟩:=h.ex
 cases l with
 |nil =>
  cases m with
  |cons u m=>exact h5.elim
  |nil =>
   rcases hl with hl|⟨e',rfl,he'⟩
   ·rw[h1]at hl;simp at hl
   ·exact⟨[],[],e,Qor h1,h2,h3,Qor h4,trivial⟩
 |cons t l =>
  cases m with
  |nil=>exact h5.elim
  |cons u m=>exact⟨l,m,e,Qgs h1 (by simp),h2,fun x hx=>h3 x (by simp[hx]),Qgs h4 (by simp[hne]),h5.2.2⟩
theorem Sm.is{r:List Tk}{s s':PS}(h:Sm r s s')(hl:Lv r s)(b:List UInt8):s'.is b=s.is b:=by
 obtain⟨h1,h2⟩:=h.tk hl
 rw[PS.is,PS.is,h1,h2]
theorem Sm.oneOf{r:List Tk}{s s':PS}(h:Sm r s s')(hl:Lv r s)(l:List (List UInt8)):s'.oneOf l=s.oneOf l:=by
 have:s'.is=s.is:=funext fun b=>h.is hl b
 rw[PS.oneOf,PS.oneOf,this]
def PS.far(s:PS):Prop:=s.nx.tk.kind≠3∨s.nx.tk.pos≠s.tk.pos+1
theorem Sm.far{r:List Tk}{s s':PS}(h:Sm r s s')(hk:s.tk.kind=4∧s.tk.text.toList=Qai):(s.far∧(Ends r→s'.far))∨(s.far↔s'.far):=by
 have hne:=h.ne
 obtain⟨l,m,e,h1,h2,h3,h4,h5⟩:=h.ex
 cases l with
 |nil =>
  have a1:s.tk=e:=by simp only[PS.tk,h1,Qsa,List.headD_cons]
  rw[a1,h2.1]at hk;cases hk.1
 |cons t l =>
  cases m with
  |nil=>exact h5.elim
  |cons u m =>
   have a1:s.tk=t:=by simp only[PS.tk,h1,Qsb,List.headD_cons]
   have a2:s'.tk=u:=by simp only[PS.tk,h4,Qsb,List.headD_cons]
   have b1:s.nx.toks=l++[e]:=Qgs h1 (by simp)
   have b2:s'.nx.toks=m++r:=Qgs h4 (by simp[hne])
   cases l with
   |nil =>
    cases m with
    |cons=>exact h5.2.2.elim
    |nil =>
     have c1:s.nx.tk=e:=by simp only[PS.tk,b1,Qsa,List.headD_cons]
     refine .inl ⟨.inl (by rw[c1,h2.1];decide),fun⟨e',he,h6,_⟩=>.inl ?_⟩
     have c2:s'.nx.tk=e':=by simp only[PS.tk,b2,he,Qsa,List.headD_cons]
     rw[c2,h6];decide
   |cons t2 l =>
    cases m with
    |nil=>exact h5.2.2.elim
    |cons u2 m =>
     have c1:s.nx.tk=t2:=by simp only[PS.tk,b1,Qsb,List.headD_cons]
     have c2:s'.nx.tk=u2:=by simp only[PS.tk,b2,Qsb,List.headD_cons]
     refine .inr ?_
     rw[PS.far,PS.far,a1,a2,c1,c2,←h5.2.2.1.1]
     rw[a1]at hk
     by_cases k3:t2.kind=3
     ·have:=h5.2.1 t2 u2 rfl rfl k3 hk
      simp only[k3,ne_eq,not_true_eq_false,false_or,this]
     ·simp[k3]
theorem QbE{r:List Tk}{s s':PS}(h:Sm r s s')(b:List UInt8):RelP r (XO b s) (XO b s'):=Qez ((Xy b).less (Nat.zero_le 1)) h.wf fun hl=>by
 rw[XO,XO,h.is hl]
 split
 ·exact fun _=>⟨_,rfl,h.nx hl⟩
 ·exact fun _=>⟨_,rfl⟩
theorem Qgo{r:List Tk}{s s':PS}(h:Sm r s s'):RelP r (ZD s) (ZD s'):=Qez (YT.less (Nat.zero_le 1)) h.wf fun hl=>by
 obtain⟨h1,h2⟩:=h.tk hl
 rw[ZD,ZD,←h1,←h2]
 split
 ·exact fun _=>⟨_,rfl⟩
 ·split
  ·exact fun _=>⟨_,rfl⟩
  ·exact fun _=>⟨_,rfl,h.nx hl⟩
theorem Qow{r:List Tk}{s s':PS}(h:Sm r s s'):0<s'.toks.length:=by
 obtain⟨l,e,hl,_⟩:=h.w
 rw[hl];simp
theorem QiM{r:List Tk}{ex ex':PS→PR T}{N N':Nat}(H:Eat 0 ex)(H':Eat 0 ex')(hx:∀s s',Sm r s s'→s.toks.length≤N→s'.toks.length≤N'→RelP r (ex s) (ex' s')):∀(m m':Nat) (l:List T) (s s':PS),Sm r s s'→s.toks.length≤N→s'.toks.length≤N'→s.toks.length<m→s'.toks.length<m'→RelP r (YU ex m l s) (YU ex' m' l s')
 |0,_,_,_,_,_,_,_,h,_=>by omega
 |_,0,_,_,_,_,_,_,_,h=>by omega
 |m+1,m'+1,l,s,s',h,hN,hN',hm,hm'=>by
  rw[YU,YU]
  refine ZQ (hx s s' h hN hN') (fun a s2 _=>Classical.em _) (fun t s1 b s3 h1 h2=>?_) fun t s1 s1' h1 h1' hS hl=>?_
  ·have w1:=(H s h.wf t s1 h1).1
   split at h2
   ·have:=Qa1 w1
    have:=(Qdy H m _ s1.nx (Yd w1) b s3 h2).2
    omega
   ·obtain⟨u,s4,h3,h4⟩:=bind_ok h2
    cases h4
    have:=(Xy _ s1 w1 u _ h3).2;omega
  ·obtain⟨w1,l1⟩:=H s h.wf t s1 h1
   obtain⟨w1',l1'⟩:=H' s' h.w t s1' h1'
   rw[hS.is hl]
   split
   ·rename_i hc
    have e1:=Xo w1 (by rw[Qq2 hc];decide)
    have e2:=Xo w1' (by rw[Qq2 (by rw[hS.is hl];exact hc)];decide)
    exact QiM H H' hx m m' _ s1.nx s1'.nx (hS.nx hl) (by omega) (by omega) (by omega) (by omega)
   ·refine ZQ (QbE hS _) (fun a s2 _=>Classical.em _) (fun u s2 b s3 h3 h4=>by cases h4;exact Nat.le_refl _) fun u s2 s2' _ _ hS2 _=>fun _=>⟨_,rfl,hS2⟩
theorem QiR{r:List Tk}{ex ex':PS→PR T}{N N':Nat}(H:Eat 0 ex)(H':Eat 0 ex')(hx:∀s s',Sm r s s'→s.toks.length≤N→s'.toks.length≤N'→RelP r (ex s) (ex' s')){s s':PS}(h:Sm r s s')(hN:s.toks.length≤N+1)(hN':s'.toks.length≤N'+1):RelP r (Yz ex s) (Yz ex' s'):=by
 rw[Yz,Yz]
 refine ZQ (Qgo h) (fun a s2 _=>Classical.em _) (fun t s1 b s3 h1 h2=>?_) fun x s1 s1' h1 h1' hS hl=>?_
 ·have w1:=(YT s h.wf t s1 h1).1
  split at h2
  ·obtain⟨l,s4,h3,h4⟩:=bind_ok h2
   cases h4
   have:=Qa1 w1
   have:=(Qdy H _ _ s1.nx (Yd w1) l _ h3).2
   omega
  ·cases h2;exact Nat.le_refl _
 ·obtain⟨w1,l1⟩:=YT s h.wf x s1 h1
  obtain⟨w1',l1'⟩:=YT s' h.w x s1' h1'
  rw[hS.is hl]
  split
  ·rename_i hc
   have e1:=Xo w1 (by rw[Qq2 hc];decide)
   have e2:=Xo w1' (by rw[Qq2 (by rw[hS.is hl];exact hc)];decide)
   refine ZQ (QiM H H' hx _ _ [] s1.nx s1'.nx (hS.nx hl) (by omega) (by omega) (by omega) (by omega)) (fun a s2 _=>Classical.em _) (fun u s2 b s3 h3 h4=>by cases h4;exact Nat.le_refl _) fun u s2 s2' _ _ hS2 _=>fun _=>⟨_,rfl,hS2⟩
  ·exact fun _=>⟨_,rfl,hS⟩
theorem Qo6{r:List Tk}{ex ex':PS→PR T}{N N':Nat}(H:Eat 0 ex)(H':Eat 0 ex')(hx:∀s s',Sm r s s'→s.toks.length≤N→s'.toks.length≤N'→RelP r (ex s) (ex' s')){s s':PS}(h:Sm r s s')(hN:s.toks.length≤N+1)(hN':s'.toks.length≤N'+1):RelP r (pOpT ex s) (pOpT ex' s') :=
 Qez ((QcZ H).less (Nat.zero_le 1)) h.wf fun hl=>by
 obtain⟨hk,ht⟩:=h.tk hl
 rw[pOpT,pOpT,←hk,←ht,h.is hl,h.is hl]
 split
 ·exact fun _=>⟨_,rfl,h.nx hl⟩
 split
 ·intro _
  have hS:=h.nx hl
  have e1:(pVari s.tk.text s.nx).1=(pVari s.tk.text s'.nx).1∧(pVari s.tk.text s.nx).2.names=(pVari s.tk.text s'.nx).2.names:=by
   rw[pVari,pVari,hS.n]
   split
   ·exact⟨rfl,hS.n⟩
   ·exact⟨rfl,rfl⟩
  refine⟨_,by rw[e1.1],?_,?_,e1.2⟩
  ·obtain⟨l,m,e,h1,h2⟩:=hS.ex
   exact⟨l,m,e,by rw[QaI];exact h1,h2.1,h2.2.1,by rw[QaI];exact h2.2.2.1,h2.2.2.2⟩
  ·obtain⟨l,e,h1,h2⟩:=hS.w
   exact⟨l,e,by rw[QaI];exact h1,h2⟩
 split
 ·refine ZQ (QiR H H' hx h hN hN') (fun a s2 _=>Classical.em _) (fun u s2 b s3 h3 h4=>by cases h4;exact Nat.le_refl _) fun u s2 s2' _ _ hS2 _=>fun _=>⟨_,rfl,hS2⟩
 split
 ·rename_i hm
  have hkm:s.tk.kind=4∧s.tk.text.toList=Qai:=by simpa [PS.is]using hm
  rcases h.far hkm with⟨f1,f2⟩|f1
  ·have f1':s.nx.tk.kind≠3∨s.nx.tk.pos≠s.tk.pos+1:=f1
   rw[if_pos f1']
   intro he
   have f2':s'.nx.tk.kind≠3∨s'.nx.tk.pos≠s'.tk.pos+1:=f2 he
   rw[if_pos f2']
   exact⟨_,rfl⟩
  ·by_cases f2:s.far
   ·have f1':s.nx.tk.kind≠3∨s.nx.tk.pos≠s.tk.pos+1:=f2
    have f2':s'.nx.tk.kind≠3∨s'.nx.tk.pos≠s'.tk.pos+1:=f1.1 f2
    rw[if_pos f1',if_pos f2']
    exact fun _=>⟨_,rfl⟩
   ·have f1':¬(s.nx.tk.kind≠3∨s.nx.tk.pos≠s.tk.pos+1):=f2
    have f2':¬(s'.nx.tk.kind≠3∨s'.nx.tk.pos≠s'.tk.pos+1):=fun q=>f2 (f1.2 q)
    rw[if_neg f1',if_neg f2']
    intro hv
    have hS:=h.nx hl
    have hl2:Lv r s.nx:=hv.up (Qa1 (Yd h.wf))
    obtain⟨_,ht2⟩:=hS.tk hl2
    exact⟨_,by rw[ht2],hS.nx hl2⟩
 split
 ·rename_i hm
  have e1:=Xo h.wf (by rw[Qq2 hm];decide)
  have e2:=Xo h.w (by rw[Qq2 (by rw[h.is hl];exact hm)];decide)
  have hS:=h.nx hl
  refine ZQ (hx s.nx s'.nx hS (by omega) (by omega)) (fun a s2 _=>Classical.em _) (fun t s1 b s3 h1 h2=>?_) fun t s1 s1' h1 h1' hS1 hl1=>?_
  ·have w1:=(H s.nx (Yd h.wf) t s1 h1).1
   obtain⟨u,s4,h3,h4⟩:=bind_ok h2
   cases h4
   have:=(Xy _ s1 w1 u _ h3).2;omega
  ·refine ZQ (QbE hS1 _) (fun a s2 _=>Classical.em _) (fun u s2 b s3 h3 h4=>by cases h4;exact Nat.le_refl _) fun u s2 s2' _ _ hS2 _=>fun _=>⟨_,rfl,hS2⟩
 ·exact fun _=>⟨_,rfl⟩
theorem Qdb{α:Type}(f:PS→α):Eat 0 fun s=>.ok (f s) s:=fun s hs a s2 e=>by cases e;exact⟨hs,Nat.le_refl _⟩
theorem Qh7{α:Type}{k:Nat}(p:PS→Int)(e:Int):Eat k fun s=>(.err (p s) e:PR α):=fun s hs a s2 e=>by cases e
theorem ZF{α β:Type}{k:Nat}{F:PS→PR α}{f:PS→α→PS→PR β}(hF:Eat 0 F)(hf:∀s0 a,Eat k (f s0 a)):Eat k fun s=>(F s).bind (f s):=fun s hs a s2 e=>by
 obtain⟨b,s1,h1,h2⟩:=bind_ok e
 obtain⟨w1,l1⟩:=hF s hs b s1 h1
 obtain⟨w2,l2⟩:=hf s b s1 w1 a s2 h2
 exact⟨w2,by omega⟩
theorem QiV{α β:Type}{k:Nat}{F:PS→PR α}{f:PS→α→PS→PR β}(hF:Eat 1 F)(hf:∀s0 a,Eat k (f s0 a)):Eat (k+1) fun s=>(F s).bind (f s):=fun s hs a s2 e=>by
 obtain⟨b,s1,h1,h2⟩:=bind_ok e
 obtain⟨w1,l1⟩:=hF s hs b s1 h1
 obtain⟨w2,l2⟩:=hf s b s1 w1 a s2 h2
 exact⟨w2,by omega⟩
theorem QaN{α:Type}{k:Nat}{c:PS→Prop}[∀s,Decidable (c s)]{f g:PS→PR α}(hf:Eat k f)(hg:Eat k g):Eat k fun s=>if c s then f s else g s:=fun s hs a s2 e=>by
 dsimp only at e
 split at e
 ·exact hf s hs a s2 e
 ·exact hg s hs a s2 e
theorem Qcf{α:Type}{k:Nat}{f:PS→PR α}(hf:Eat k f):Eat k fun s=>f s.nx:=fun s hs a s2 e=>by
 obtain⟨w,l⟩:=hf s.nx (Yd hs) a s2 e
 have:=Qa1 hs
 exact⟨w,by omega⟩
def RelQ{α:Type}(r:List Tk)(x y:PR α):Prop:=match x with
 | .ok a s2=>∃s2',y = .ok a s2'∧Sm r s2 s2'
 | .err _ e=>Ends r→∃p,y = .err p e
theorem RelQ.p{α:Type}{r:List Tk}{x y:PR α}(h:RelQ r x y):RelP r x y:=by
 cases x with
 |ok a s2=>exact fun _=>h
 |err p e=>exact h
theorem QoC{s:PS}(h:s.wf):0<s.toks.length:=by
 obtain⟨l,e,hl,_⟩:=h
 rw[hl];simp
theorem Qiz{α:Type}{r:List Tk}{f:PS→PR α}{k:Nat}(H:Eat k f){s:PS}(hs:s.wf)(hl:¬Lv r s)(hk:s.toks.length≤k)(y:PR α):RelQ r (f s) y:=by
 cases hf:f s with
 |ok a s2 =>
  obtain⟨w,l⟩:=H s hs a s2 hf
  have:=QoC w
  omega
 |err p e=>exact fun h=>absurd (.inr h) hl
theorem Qj6{r:List Tk}{s:PS}(h:¬Lv r s):s.toks.length≤1:=Nat.le_of_not_lt fun q=>h (.inl q)
theorem Qag{α β:Type}{r:List Tk}{F F':PS→PR α}{f g:α→PS→PR β}{s s':PS}(hS:Sm r s s')(hF:Eat 0 F)(hf0:∀a,Eat 1 (f a))(hx:RelP r (F s) (F' s'))
  (hf:∀a s2 s2',F s = .ok a s2→F' s' = .ok a s2'→Sm r s2 s2'→Lv r s2→RelQ r (f a s2) (g a s2')):RelQ r ((F s).bind f) ((F' s').bind g):=by
 cases h1:F s with
 |err p e =>
  rw[h1]at hx
  intro he
  obtain⟨p',h2⟩:=hx he
  rw[h2]
  exact⟨p',rfl⟩
 |ok a s2 =>
  rw[h1]at hx
  by_cases hv:Lv r s2
  ·obtain⟨s2',h2,h3⟩:=hx hv
   rw[h2]
   exact hf a s2 s2' h1 h2 h3 hv
  ·exact Qiz (hf0 a) (hF s hS.wf a s2 h1).1 hv (Qj6 hv) _
theorem QeO{r:List Tk}{s s':PS}(h:Sm r s s')(b:List UInt8):RelQ r (XO b s) (XO b s'):=by
 by_cases hl:Lv r s
 ·rw[XO,XO,h.is hl]
  split
  ·exact⟨_,rfl,h.nx hl⟩
  ·exact fun _=>⟨_,rfl⟩
 ·exact Qiz (Xy b) h.wf hl (Qj6 hl) _
theorem Qpj{α:Type}{r:List Tk}{f f':PS→PR α}(H:Eat 1 f){s s':PS}(hs:s.wf)(h:Lv r s→RelQ r (f s) (f' s')):RelQ r (f s) (f' s'):=by
 by_cases hl:Lv r s
 ·exact h hl
 ·exact Qiz H hs hl (Qj6 hl) _
theorem Qqp{s:PS}(h:s.wf):s.toks.length≤s.nx.toks.length+1:=by
 by_cases hk:s.tk.kind=0
 ·obtain⟨l,e,hl,he,ha⟩:=h
  cases l with
  |nil=>rw[hl];simp
  |cons t l =>
   have:s.tk=t:=by simp only[PS.tk,hl,Qsb,List.headD_cons]
   rw[this]at hk;exact absurd hk (ha t (by simp))
 ·have:=Xo h hk;omega
theorem Qcv{α β:Type}{r:List Tk}{x y:PR α}{f:α→β}(h:RelQ r x y):RelQ r (x.bind fun a s=>.ok (f a) s) (y.bind fun a s=>.ok (f a) s):=by
 cases x with
 |err p e =>
  intro he
  obtain⟨p',rfl⟩:=h he
  exact⟨p',rfl⟩
 |ok a s2 =>
  obtain⟨s2',rfl,hS⟩:=h
  exact⟨s2',rfl,hS⟩
theorem ZY{α β:Type}{r:List Tk}{F F':PS→PR α}{f g:α→PS→PR β}{s s':PS}(hS:Sm r s s')(hF:Eat 0 F)(hf0:∀a,Eat 0 (f a))(hx:RelP r (F s) (F' s'))
  (hf:∀a s2 s2',F s = .ok a s2→F' s' = .ok a s2'→Sm r s2 s2'→Lv r s2→RelP r (f a s2) (g a s2')):RelP r ((F s).bind f) ((F' s').bind g) :=
 ZQ hx (fun _ _ _=>Classical.em _) (fun a s2 b s3 h1 h2=>(hf0 a s2 (hF s hS.wf a s2 h1).1 b s3 h2).2) hf
theorem Eat.z{α:Type}{f:PS→PR α}(h:Eat 1 f):Eat 0 f:=h.less (Nat.zero_le 1)
theorem Qfh{r:List Tk}{op op':PS→PR T}{N N':Nat}(H:Eat 0 op)(H':Eat 0 op')(ops:List (List UInt8))(hx:∀s s',Sm r s s'→s.toks.length≤N→s'.toks.length≤N'→RelP r (op s) (op' s')):∀(m m':Nat) (t:T) (s s':PS),Sm r s s'→s.toks.length≤N+1→s'.toks.length≤N'+1→s.toks.length≤m→s'.toks.length≤m'→RelP r (XK op ops m t s) (XK op' ops m' t s')
 |0,_,_,s,s',h,_,_,hm,_=>by
  obtain⟨l,e,hl,_⟩:=h.wf
  rw[hl]at hm;simp at hm
 |_,0,_,s,s',h,_,_,_,hm=>absurd (Qow h) (by omega)
 |m+1,m'+1,t,s,s',h,hN,hN',hm,hm'=>Qez (Qav H ops (m+1) t) h.wf fun hl=>by
  rw[XK,XK,h.oneOf hl,←(h.tk hl).2]
  split
  ·rename_i hc
   have e1:=Xo h.wf (by rw[Qbw hc];decide)
   have e2:=Xo h.w (by rw[Qbw (by rw[h.oneOf hl];exact hc)];decide)
   refine ZY (h.nx hl) H (fun a=>Qav H ops m _) (hx _ _ (h.nx hl) (by omega) (by omega)) fun u s1 s1' h1 h1' hS _=>?_
   have l1:=(H s.nx (Yd h.wf) u s1 h1).2
   have l2:=(H' s'.nx (Yd h.w) u s1' h1').2
   exact Qfh H H' ops hx m m' _ s1 s1' hS (by omega) (by omega) (by omega) (by omega)
  ·exact fun _=>⟨_,rfl,h⟩
theorem Qg0{r:List Tk}{op op':PS→PR T}{N N':Nat}(H:Eat 0 op)(H':Eat 0 op')(ops:List (List UInt8))(hx:∀s s',Sm r s s'→s.toks.length≤N→s'.toks.length≤N'→RelP r (op s) (op' s'))(s s':PS)(h:Sm r s s')(hN:s.toks.length≤N)(hN':s'.toks.length≤N'):RelP r (X4 op ops s) (X4 op' ops s'):=by
 rw[X4,X4]
 refine ZY h H (fun a s hs b s2 e=>Qav H ops _ a s hs b s2 e) (hx s s' h hN hN') fun t s1 s1' h1 h1' hS _=>?_
 have l1:=(H s h.wf t s1 h1).2
 have l2:=(H' s' h.w t s1' h1').2
 exact Qfh H H' ops hx _ _ t s1 s1' hS (by omega) (by omega) (Nat.le_refl _) (Nat.le_refl _)
theorem Qnm{r:List Tk}:∀(N N' n n':Nat),N<n→N'<n'→∀s s',Sm r s s'→s.toks.length≤N→s'.toks.length≤N'→RelP r (X5 n s) (X5 n' s'):=by
 intro N
 induction N with
 |zero=>intro N' n n' _ _ s s' h hl;obtain⟨l,e,he,_⟩:=h.wf;rw[he]at hl;simp at hl
 |succ N ih =>
  intro N' n n' hn hn' s s' h hl hl'
  obtain⟨N',rfl⟩:∃a,N'=a+1:=⟨N' - 1,by have:=Qow h;omega⟩
  obtain⟨a,rfl⟩:∃a,n=a+1:=⟨n - 1,by omega⟩
  obtain⟨a',rfl⟩:∃a',n'=a'+1:=⟨n' - 1,by omega⟩
  have E1:=(Qaz a).z
  have E2:=(Qaz a').z
  have O1:=(QcZ E1).z
  have O2:=(QcZ E2).z
  rw[X5,X5]
  exact Qg0 (Qaw O1 Yy) (Qaw O2 Yy) ZU (fun s s' h hN hN'=>Qg0 O1 O2 Yy (fun s s' h hN hN'=>Qo6 E1 E2 (fun s s' h hN hN'=>ih N' a a' (by omega) (by omega) s s' h hN hN') h hN hN') s s' h hN hN') s s' h hl hl'
theorem QdO{r:List Tk}{s s':PS}(h:Sm r s s'):RelP r (XW s) (XW s'):=Qnm _ _ _ _ (Nat.lt_succ_self _) (Nat.lt_succ_self _) s s' h (Nat.le_refl _) (Nat.le_refl _)
theorem QkY{r:List Tk}{s s':PS}(h:Sm r s s'):RelP r (Yz XW s) (Yz XW s') :=
 QiR (N:=s.toks.length) (N':=s'.toks.length) Yl.z Yl.z (fun s s' h _ _=>QdO h) h (Nat.le_succ _) (Nat.le_succ _)
theorem QdX:Eat 1 (Yz XW):=Qdz Yl.z
theorem Ql7{r:List Tk}(op:Int){s s':PS}(h:Sm r s s'):RelP r (Qa6 op s) (Qa6 op s'):=by
 rw[Qa6,Qa6]
 refine ZY h (Xy _).z (fun _=>ZF Yl.z fun _ _=>ZF (Xy _).z fun _ _=>Qdb _) (QbE h _) fun _ s1 s1' _ _ h1 _=>?_
 refine ZY h1 Yl.z (fun _=>ZF (Xy _).z fun _ _=>Qdb _) (QdO h1) fun t s2 s2' _ _ h2 _=>?_
 exact ZY h2 (Xy _).z (fun _=>Qdb _) (QbE h2 _) fun _ s3 s3' _ _ h3 _ _=>⟨_,rfl,h3⟩
theorem QoP{r:List Tk}{s s':PS}(h:Sm r s s')(hl:Lv r s):Qax s'=Qax s:=by
 obtain⟨h1,h2⟩:=h.tk hl
 rw[Qax,Qax,h1,h2]
theorem Qnq{r:List Tk}{s s':PS}(h:Sm r s s'):RelP r (ZO s) (ZO s'):=Qez QaB.z h.wf fun hl=>by
 obtain⟨h1,h2⟩:=h.tk hl
 rw[ZO,ZO,←h1,←h2]
 split
 ·split
  ·exact fun _=>⟨_,rfl,h.nx hl⟩
  split
  ·exact fun _=>⟨_,rfl,h.nx hl⟩
  split
  ·exact Ql7 11 (h.nx hl)
  split
  ·exact Ql7 12 (h.nx hl)
  ·exact fun _=>⟨_,rfl⟩
 ·refine ZY h Yl.z (fun t s2 hs a s3 e=>?_) (QdO h) fun t s2 s2' _ _ hS hl2=>?_
  ·cases hc:Qax s2 with
   |some x =>
    obtain⟨op,turn⟩:=x
    rw[hc]at e
    simp only at e
    exact(ZF (Qcf Yl.z) fun _ _=>Qdb _:Eat 0 fun s2=>(XW s2.nx).bind fun u s3=>.ok (⟨op,eB,if turn then[u,t]else[t,u]⟩:G) s3) s2 hs a s3 e
   |none =>
    rw[hc]at e
    simp only at e
    split at e
    ·cases e;exact⟨hs,Nat.le_refl _⟩
    ·cases e
  ·rw[QoP hS hl2]
   cases hc:Qax s2 with
   |some x =>
    obtain⟨op,turn⟩:=x
    exact ZY (hS.nx hl2) Yl.z (fun _=>Qdb _) (QdO (hS.nx hl2)) fun u s3 s3' _ _ h3 _ _=>⟨_,rfl,h3⟩
   |none =>
    simp only
    split
    ·exact fun _=>⟨_,rfl,hS⟩
    ·exact fun _=>⟨_,rfl⟩
theorem Qfz{r:List Tk}(most:Nat):∀(m m':Nat) (l:List G) (s s':PS),Sm r s s'→s.toks.length<m→s'.toks.length<m'→RelP r (Yh most m l s) (Yh most m' l s')
 |0,_,_,_,_,_,h,_=>by omega
 |_,0,_,_,_,_,_,h=>by omega
 |m+1,m'+1,l,s,s',h,hm,hm'=>by
  rw[Yh,Yh]
  split
  ·exact fun _=>⟨_,rfl⟩
  ·refine ZY h QaB.z (fun g=>QaN (Qh7 _ 6) (QaN (Qcf (QcR most m _).z) (Qdb _))) (Qnq h) fun g s1 s1' h1 h1' hS hl=>?_
   obtain⟨w1,l1⟩:=QaB s h.wf g s1 h1
   obtain⟨w2,l2⟩:=QaB s' h.w g s1' h1'
   have i1:=Qa1 w1
   have i2:=Qa1 w2
   rw[hS.is hl]
   split
   ·exact fun _=>⟨_,rfl⟩
   ·split
    ·exact Qfz most m m' _ _ _ (hS.nx hl) (by omega) (by omega)
    ·exact fun _=>⟨_,rfl,hS⟩
theorem Qhd{r:List Tk}(most:Nat){s s':PS}(h:Sm r s s'):RelP r (Yo most s) (Yo most s'):=Qfz most _ _ [] s s' h (Nat.lt_succ_self _) (Nat.lt_succ_self _)
theorem QfC{r:List Tk}(pre:Nat):∀(m m':Nat) (l:List G) (s s':PS),Sm r s s'→s.toks.length<m→s'.toks.length<m'→RelP r (YA pre m l s) (YA pre m' l s')
 |0,_,_,_,_,_,h,_=>by omega
 |_,0,_,_,_,_,_,h=>by omega
 |m+1,m'+1,l,s,s',h,hm,hm'=>by
  rw[YA,YA]
  split
  ·exact fun _=>⟨_,rfl⟩
  ·refine ZY h QdX.z (fun g=>QaN (Qh7 _ 6) (QaN (Qcf (QcT pre m _).z) (Qdb _))) (QkY h) fun g s1 s1' h1 h1' hS hl=>?_
   obtain⟨w1,l1⟩:=QdX s h.wf g s1 h1
   obtain⟨w2,l2⟩:=QdX s' h.w g s1' h1'
   have i1:=Qa1 w1
   have i2:=Qa1 w2
   rw[hS.is hl]
   split
   ·exact fun _=>⟨_,rfl⟩
   ·split
    ·exact QfC pre m m' _ _ _ (hS.nx hl) (by omega) (by omega)
    ·exact fun _=>⟨_,rfl,hS⟩
theorem Qhf{r:List Tk}(pre:Nat){s s':PS}(h:Sm r s s'):RelP r (Yp pre s) (Yp pre s'):=QfC pre _ _ [] s s' h (Nat.lt_succ_self _) (Nat.lt_succ_self _)
theorem QgC{r:List Tk}(name:ByteArray)(keep remove:List G){s s':PS}(h:Sm r s s'):RelQ r (Ze name keep remove s) (Ze name keep remove s'):=by
 unfold Ze
 simp only
 have fin:∀(g b:List G),Eat 1 fun s=>(XO sDot s).bind fun _ s=>.ok (⟨name,keep,remove,g,match b with|[x]=>if x.op=1 then[]else b|_=>b,0⟩:Rl) s:=fun g b=>QiV (Xy _) fun _ _=>Qdb _
 refine Qag h (Qbf 12).z (fun b=>QaN (ZF (Qcf (Qbf 12).z) fun _ b2=>fin b b2) (fin [] b)) (Qhd 12 h) fun b s1 s1' _ _ hS hl=>?_
 rw[hS.is hl]
 split
 ·refine Qag (hS.nx hl) (Qbf 12).z (fun b2=>fin b b2) (Qhd 12 (hS.nx hl)) fun b2 s2 s2' _ _ hS2 _=>?_
  exact Qcv (QeO hS2 _)
 ·exact Qcv (QeO hS _)
def Qit(name:ByteArray)(first:List G)(s:PS):PR Rl:=if s.is QaH then Ze name [] first s.nx else if s.is Qe7 then Ze name first [] s.nx else
  if s.is Qe5 then(Yp first.length s.nx).bind fun rem s=>(XO QaH s).bind fun _ s=>Ze name first rem s else .err s.tk.pos 16
def Qes(name:ByteArray)(s:PS):PR Rl:=(Yp 0 s).bind fun first s=>Qit name first s
theorem QaG(s:PS):YQ s=if s.tk.kind=1∧s.nx.is sAt=true then(ZD s).bind fun x s=>Qes x s.nx else Qes eB s:=rfl
theorem Qjr(name:ByteArray)(first:List G):Eat 1 (Qit name first) :=
 QaN (Qcf (Qam _ _ _)) (QaN (Qcf (Qam _ _ _)) (QaN (ZF (Qcf (QaC _).z) fun _ _=>ZF (Xy _).z fun _ _=>Qam _ _ _) (Qh7 _ 16)))
theorem Qf7(name:ByteArray):Eat 2 (Qes name):=QiV (QaC 0) fun _ f=>Qjr name f
theorem QiS{r:List Tk}(name:ByteArray){s s':PS}(h:Sm r s s'):RelQ r (Qes name s) (Qes name s'):=by
 rw[Qes,Qes]
 refine Qag h (QaC 0).z (Qjr name) (Qhf 0 h) fun f s1 s1' _ _ hS hl=>?_
 rw[Qit,Qit,hS.is hl,hS.is hl,hS.is hl]
 split
 ·exact QgC _ _ _ (hS.nx hl)
 split
 ·exact QgC _ _ _ (hS.nx hl)
 split
 ·refine Qag (hS.nx hl) (QaC _).z (fun _=>ZF (Xy _).z fun _ _=>Qam _ _ _) (Qhf _ (hS.nx hl)) fun rem s2 s2' _ _ h2 _=>?_
  exact Qag h2 (Xy _).z (fun _=>Qam _ _ _) (QbE h2 _) fun _ s3 s3' _ _ h3 _=>QgC _ _ _ h3
 ·exact fun _=>⟨_,rfl⟩
theorem Qou:Eat 2 YQ:=fun s hs a s2 e=>by
 rw[QaG]at e
 exact(QaN (c:=fun s=>s.tk.kind=1∧s.nx.is sAt=true) (ZF YT.z fun _ x=>Qcf (Qf7 x)) (Qf7 eB)) s hs a s2 e
theorem Qmd{r:List Tk}{s s':PS}(h:Sm r s s'):RelQ r (YQ s) (YQ s'):=Qpj (Qou.less (by decide)) h.wf fun hl=>by
 by_cases hl2:Lv r s.nx
 ·rw[QaG,QaG,←(h.tk hl).1,(h.nx hl).is hl2]
  split
  ·refine Qag h YT.z (fun x=>Qcf ((Qf7 x).less (by decide))) (Qgo h) fun x s1 s1' _ _ hS hv=>QiS x (hS.nx hv)
  ·exact QiS eB h
 ·cases hf:YQ s with
  |ok a s2 =>
   obtain⟨w,l⟩:=Qou s h.wf a s2 hf
   have:=QoC w
   have:=Qj6 hl2
   have:=Qqp h.wf
   omega
  |err p e=>exact fun q=>absurd (.inr q) hl2
theorem Sm.names{r:List Tk}{s s':PS}(h:Sm r s s')(l:List ByteArray):Sm r ⟨s.toks,l⟩ ⟨s'.toks,l⟩:=⟨h.ex,h.w,rfl⟩
theorem Qn1{r:List Tk}{s s':PS}(h:Sm r s s'):RelQ r (Zm s) (Zm s'):=by
 rw[Zm,Zm]
 exact Qcv (Qmd (h.names []))
theorem Qg4{r:List Tk}:∀(m m':Nat) (l:List Dc) (s s':PS),Sm r s s'→s.toks.length<m→s'.toks.length<m'→RelQ r (Zd m l s) (Zd m' l s')
 |0,_,_,_,_,_,h,_=>by omega
 |_,0,_,_,_,_,_,h=>by omega
 |m+1,m'+1,l,s,s',h,hm,hm'=>by
  have H3:∀x:ByteArray,Eat 1 fun s:PS=>if s.tk.kind≠3 then(.err s.tk.pos 16:PR (List Dc))else if valT s.tk.text>6 then .err s.tk.pos 6 else
    if s.nx.is Y6 then Zd m (l++[⟨x,valT s.tk.text⟩]) s.nx.nx else(XO sDot s.nx).bind fun _ s2=>.ok (l++[⟨x,valT s.tk.text⟩]) s2:=fun x s hs a s2 e=>by
   dsimp only at e
   split at e
   ·cases e
   split at e
   ·cases e
   split at e
   ·obtain⟨w,l1⟩:=Qcd m _ s.nx.nx (Yd (Yd hs)) a s2 e
    have:=Qa1 hs
    have:=Qa1 (Yd hs)
    exact⟨w,by omega⟩
   ·obtain⟨u,s3,h1,h2⟩:=bind_ok e
    cases h2
    obtain⟨w,l1⟩:=Xy _ s.nx (Yd hs) u _ h1
    have:=Qa1 hs
    exact⟨w,by omega⟩
  rw[Zd,Zd]
  split
  ·exact fun _=>⟨_,rfl⟩
  ·refine Qag h YT.z (fun x=>ZF (Xy _).z fun _ _=>H3 x) (Qgo h) fun x s1 s1' h1 h1' hS hl=>?_
   refine Qag hS (Xy _).z (fun _=>H3 x) (QbE hS _) fun _ s2 s2' h2 h2' hS2 hl2=>?_
   obtain⟨k1,k2⟩:=hS2.tk hl2
   obtain⟨w1,l1⟩:=YT s h.wf x s1 h1
   obtain⟨w1',l1'⟩:=YT s' h.w x s1' h1'
   obtain⟨w2,l2⟩:=Xy _ s1 w1 _ s2 h2
   obtain⟨w2',l2'⟩:=Xy _ s1' w1' _ s2' h2'
   have i1:=Qa1 w2
   have i2:=Qa1 w2'
   have i3:=Qa1 (Yd w2)
   have i4:=Qa1 (Yd w2')
   rw[←k1,←k2]
   by_cases hl3:Lv r s2.nx
   ·have hS3:=hS2.nx hl2
    rw[hS3.is hl3]
    split
    ·exact fun _=>⟨_,rfl⟩
    split
    ·exact fun _=>⟨_,rfl⟩
    split
    ·exact Qg4 m m' _ _ _ (hS3.nx hl3) (by omega) (by omega)
    ·exact Qcv (QeO hS3 _)
   ·have hone:=Qj6 hl3
    have w3:=Yd w2
    have hend:s2.nx.tk.kind=0:=by
     obtain⟨l,e,hl,he,_⟩:=w3
     cases l with
     |nil=>simp only[PS.tk,hl,Qsa,List.headD_cons];exact he
     |cons t l=>rw[hl]at hone;simp at hone
    have hno:∀b,s2.nx.is b=false:=fun b=>by rw[PS.is,hend];rfl
    have herr:∀q:Ends r,False:=fun q=>hl3 (.inr q)
    split
    ·exact fun q=>(herr q).elim
    split
    ·exact fun q=>(herr q).elim
    ·rw[if_neg (by rw[hno];decide),XO,hno,if_neg (by decide)]
     exact fun q=>(herr q).elim
theorem Qnx{m:List Tk}(h:lSim [] m):m=[]:=by
 cases m with
 |nil=>rfl
 |cons=>exact h.elim
theorem Sm.all{r:List Tk}{s s':PS}(h:Sm r s s')(h1:s.toks.length≤1):s'.toks=r∧s.tk.kind=0:=by
 obtain⟨l,m,e,a1,a2,a3,a4,a5⟩:=h.ex
 cases l with
 |nil =>
  have:=Qnx a5
  subst this
  exact⟨a4,by simp only[PS.tk,a1,Qsa,List.headD_cons];exact a2.1⟩
 |cons t l=>rw[a1]at h1;simp at h1
theorem Sm.end{r:List Tk}{s s':PS}(h:Sm r s s')(h1:s.tk.kind=0):s.toks.length≤1:=by
 obtain⟨l,m,e,a1,a2,a3,a4,a5⟩:=h.ex
 cases l with
 |nil=>rw[a1];simp
 |cons t l =>
  have:s.tk=t:=by simp only[PS.tk,a1,Qsb,List.headD_cons]
  rw[this]at h1
  exact absurd h1 (a3 t (by simp))
def isC(t:Tk):Prop:=t.kind=1∧t.text.toList=Qk4
theorem Qg5{r:List Tk}(hr:¬isC (r.headD ⟨0,0,eB⟩)):∀(m m':Nat) (l:List Dc) (s s':PS),Sm r s s'→s.toks.length<m→s'.toks.length<m'→RelQ r (Y5 m l s) (Y5 m' l s')
 |0,_,_,_,_,_,h,_=>by omega
 |_,0,_,_,_,_,_,h=>by omega
 |m+1,m'+1,l,s,s',h,hm,hm'=>by
  rw[Y5,Y5]
  by_cases hl:Lv r s
  ·rw[←(h.tk hl).1,←(h.tk hl).2]
   split
   ·rename_i hc
    have i1:=Xo h.wf (by omega)
    have i2:=Xo h.w (by rw[←(h.tk hl).1];omega)
    have hx:=Qg4 (s.toks.length+1) (s'.toks.length+1) l _ _ (h.nx hl) (by omega) (by omega)
    cases hd:Zd (s.toks.length+1) l s.nx with
    |err p e =>
     rw[hd]at hx
     intro he
     obtain⟨p',h2⟩:=hx he
     rw[h2]
     exact⟨p',rfl⟩
    |ok d s1 =>
     rw[hd]at hx
     obtain⟨s1',h2,hS⟩:=hx
     rw[h2]
     obtain⟨_,l1⟩:=Qcd _ _ _ (Yd h.wf) d s1 hd
     obtain⟨_,l2⟩:=Qcd _ _ _ (Yd h.w) d s1' h2
     exact Qg5 hr m m' d s1 s1' hS (by omega) (by omega)
   ·exact⟨_,rfl,h⟩
  ·obtain⟨h1,h2⟩:=h.all (Qj6 hl)
   rw[if_neg (by rw[h2];simp),if_neg (by
    intro hc
    refine hr ?_
    rw[isC,←h1]
    exact hc)]
   exact⟨_,rfl,h⟩
theorem QhA{r:List Tk}(hr:Ends r):∀(m m':Nat) (l:List Rl) (s s':PS),Sm r s s'→s.toks.length<m→s'.toks.length<m'→RelQ r (Zt m l s) (Zt m' l s')
 |0,_,_,_,_,_,h,_=>by omega
 |_,0,_,_,_,_,_,h=>by omega
 |m+1,m'+1,l,s,s',h,hm,hm'=>by
  rw[Zt,Zt,←(h.tk (.inr hr)).1]
  split
  ·exact⟨_,rfl,h⟩
  split
  ·exact fun _=>⟨_,rfl⟩
  ·have hx:=Qn1 h
   cases hd:Zm s with
   |err p e =>
    rw[hd]at hx
    intro he
    obtain⟨p',h2⟩:=hx he
    rw[h2]
    exact⟨p',rfl⟩
   |ok d s1 =>
    rw[hd]at hx
    obtain⟨s1',h2,hS⟩:=hx
    rw[h2]
    obtain⟨_,l1⟩:=Qgz _ h.wf d s1 hd
    obtain⟨_,l2⟩:=Qgz _ h.w d s1' h2
    exact QhA hr m m' _ s1 s1' hS (by omega) (by omega)
theorem Qnk{r:List Tk}(hr:Ends r):¬isC (r.headD ⟨0,0,eB⟩):=by
 obtain⟨e,rfl,he,_⟩:=hr
 intro h
 have:=h.1
 rw[List.headD_cons,he]at this
 cases this
theorem QnO{r:List Tk}(hr:Ends r){s s':PS}(h:Sm r s s'):RelQ r (QbY s) (QbY s'):=by
 rw[QbY,QbY]
 have hx:=Qg5 (Qnk hr) _ _ [] s s' h (Nat.lt_succ_self _) (Nat.lt_succ_self _)
 cases hd:Y5 (s.toks.length+1) [] s with
 |err p e =>
  rw[hd]at hx
  intro he
  obtain⟨p',h2⟩:=hx he
  rw[h2]
  exact⟨p',rfl⟩
 |ok d s1 =>
  rw[hd]at hx
  obtain⟨s1',h2,hS⟩:=hx
  rw[h2]
  exact Qcv (QhA hr _ _ [] s1 s1' hS (Nat.lt_succ_self _) (Nat.lt_succ_self _))
theorem QbA(t:List UInt8):∀(b:Bool) (l:List UInt8),QV b (l++10::t)=if QV b l=[]then QV false t else QV b l++10::t
 |b,[]=>by
  have e:QV b []=[]:=by cases b <;> rfl
  rw[e,if_pos rfl]
  cases b
  ·show(if isSp 10 then QV false t else _)=_
   rw[if_pos (by decide)]
  ·show(if (10:UInt8).toNat=10 then QV false t else _)=_
   rw[if_pos (by decide)]
 |true,c::r=>by
  rw[List.cons_append,QV,QV]
  split
  ·exact QbA t false r
  ·exact QbA t true r
 |false,c::r=>by
  rw[List.cons_append,QV,QV]
  split
  ·exact QbA t false r
  ·split
   ·exact QbA t true r
   ·rw[if_neg (by simp)];rfl
theorem QmR{p:UInt8→Bool}{d:UInt8}(hd:p d=false)(t:List UInt8):∀l:List UInt8,(l++d::t).takeWhile p=l.takeWhile p
 |[]=>by rw[List.nil_append,List.takeWhile_cons,hd];rfl
 |c::r=>by
  rw[List.cons_append,List.takeWhile_cons,List.takeWhile_cons,QmR hd t r]
def noSym(d:UInt8):Bool:=Xn.all fun x=>!x.contains d
theorem Qmh{d:UInt8}(t:List UInt8):∀(x l:List UInt8),x.contains d=false→x.isPrefixOf (l++d::t)=x.isPrefixOf l
 |[],_,_=>by simp
 |y::x,[],h=>by
  rw[List.contains_cons,Bool.or_eq_false_iff]at h
  have:(y==d)=false:=by
   have:=h.1
   rw[beq_eq_false_iff_ne]at this ⊢
   exact fun q=>this q.symm
  rw[List.nil_append,List.isPrefixOf_cons_cons,this]
  rfl
 |y::x,c::l,h=>by
  rw[List.contains_cons,Bool.or_eq_false_iff]at h
  rw[List.cons_append,List.isPrefixOf_cons_cons,List.isPrefixOf_cons_cons,Qmh t x l h.2]
theorem find_congr{α:Type}{p q:α→Bool}:∀{l:List α},(∀x∈l,p x=q x)→l.find? p=l.find? q
 |[],_=>rfl
 |x::l,h=>by rw[List.find?_cons,List.find?_cons,h x (by simp),find_congr fun y hy=>h y (by simp[hy])]
theorem Qpm{d:UInt8}(hd:noSym d=true)(t l:List UInt8):QbF (l++d::t)=QbF l :=
 find_congr fun x hx=>Qmh t x l (by
  have:=List.all_eq_true.1 hd x hx
  simpa using this)
structure Stop (d:UInt8):Prop where
 w:isW d=false
 g:isD d=false
 s:noSym d=true
theorem QmM{d:UInt8}(h:Stop d)(t:List UInt8):∀{l:List UInt8},l≠[]→Xv (l++d::t)=Xv l
 |[],hl=>absurd rfl hl
 |c::r,_=>by
  have e1:((c::r)++d::t).takeWhile isW=(c::r).takeWhile isW:=QmR h.w t _
  have e2:((c::r)++d::t).takeWhile isD=(c::r).takeWhile isD:=QmR h.g t _
  have e3:QbF ((c::r)++d::t)=QbF (c::r):=Qpm h.s t _
  rw[List.cons_append]at e1 e2 e3 ⊢
  rw[Xv,Xv,e1,e2,e3]
theorem Qqk:Stop 10:=⟨by decide,by decide,by decide⟩
theorem QmE:Stop 32:=⟨by decide,by decide,by decide⟩
theorem QqU:Stop 9:=⟨by decide,by decide,by decide⟩
theorem Qql:Stop 13:=⟨by decide,by decide,by decide⟩
theorem Qar{l x:List UInt8}{k:Int}(h:Xv l = .inl (k,x)):(k=0∧l=[]∧x=[])∨(k≠0∧x≠[]∧∃r,l=x++r):=by
 cases l with
 |nil =>
  rw[Xv]at h
  cases h
  exact .inl ⟨rfl,rfl,rfl⟩
 |cons c r =>
  have tw:∀(p:UInt8→Bool),p c=true→(c::r).takeWhile p≠[]∧∃s,c::r=(c::r).takeWhile p++s:=fun p hp =>
   ⟨by rw[List.takeWhile_cons,if_pos hp];simp,(c::r).dropWhile p,(List.takeWhile_append_dropWhile).symm⟩
  refine .inr ?_
  rw[Xv]at h
  split at h
  ·rename_i hL
   split at h
   ·cases h
   ·have e:=Sum.inl.inj h
    have e1:=(Prod.mk.inj e).1
    have e2:=(Prod.mk.inj e).2
    obtain⟨a1,a2⟩:=tw isW (by simp[isW,hL])
    refine⟨?_,by rw[←e2];exact a1,by rw[←e2];exact a2⟩
    rw[←e1];split <;> decide
  split at h
  ·rename_i hD
   split at h
   ·cases h
   ·have e:=Sum.inl.inj h
    have e1:=(Prod.mk.inj e).1
    have e2:=(Prod.mk.inj e).2
    obtain⟨a1,a2⟩:=tw isD hD
    exact⟨by rw[←e1];decide,by rw[←e2];exact a1,by rw[←e2];exact a2⟩
  ·split at h
   ·rename_i y hy
    have e:=Sum.inl.inj h
    have e1:=(Prod.mk.inj e).1
    have e2:=(Prod.mk.inj e).2
    subst e2
    obtain⟨a1,a2,a3⟩:=QeJ hy
    refine⟨by rw[←e1];decide,by intro q;rw[q]at a1;simp at a1,?_⟩
    obtain⟨s,hs⟩:=List.isPrefixOf_iff_prefix.1 a3
    exact⟨s,hs.symm⟩
   ·cases h
theorem QhF(tot:Nat):∀(m m':Nat) (l:List UInt8),l.length<m→l.length<m'→X1 tot m l=X1 tot m' l
 |0,_,_,h,_=>by omega
 |_,0,_,_,h=>by omega
 |m+1,m'+1,l,h,h'=>by
  rw[X1,X1]
  cases ht:Xv (QV false l)with
  |inr e=>rfl
  |inl kx =>
   obtain⟨k,x⟩:=kx
   simp only
   split
   ·rfl
   ·rename_i hk
    have hx:0<x.length:=by
     rcases Qar ht with⟨h1,_⟩|⟨_,h1,_⟩
     ·exact absurd h1 hk
     ·exact List.length_pos_iff.2 h1
    have hs:=Qak false l
    rw[QhF tot m m' ((QV false l).drop x.length)]
    ·have:0<(QV false l).length:=by
      rcases Qar ht with⟨h1,_⟩|⟨_,h1,r,h2⟩
      ·exact absurd h1 hk
      ·rw[h2,List.length_append];omega
     rw[List.length_drop];omega
    ·have:0<(QV false l).length:=by
      rcases Qar ht with⟨h1,_⟩|⟨_,h1,r,h2⟩
      ·exact absurd h1 hk
      ·rw[h2,List.length_append];omega
     rw[List.length_drop];omega
theorem Qh6{l x r:List UInt8}(h:l=x++r)(t:List UInt8):(l++t).drop x.length=l.drop x.length++t:=by
 subst h
 rw[List.append_assoc,List.drop_left,List.drop_left]
theorem Qju(tot:Nat)(t:List UInt8):∀(m:Nat) (l:List UInt8) (ts:List Tk),X1 tot m l = .inl ts→l.length<m→∃a e,ts=a++[e]∧(e.kind=0∧e.text=eB)∧(∀x∈a,x.kind≠0) ∧
  ∀us,X1 (tot+(1+t.length)) (t.length+1) t = .inl us→X1 (tot+(1+t.length)) (m+(1+t.length)) (l++10::t) = .inl (a++us)
 |0,_,_,_,h=>by omega
 |m+1,l,ts,h,hm=>by
  rw[X1]at h
  cases ht:Xv (QV false l)with
  |inr e=>rw[ht]at h;cases h
  |inl kx =>
   obtain⟨k,x⟩:=kx
   rw[ht]at h
   simp only at h
   split at h
   ·rename_i hk
    cases h
    refine⟨[],_,rfl,⟨rfl,rfl⟩,fun _ h=>(List.not_mem_nil h).elim,fun us hu=>?_⟩
    have hn:QV false l=[]:=by
     rcases Qar ht with⟨_,h1,_⟩|⟨h1,_⟩
     ·exact h1
     ·exact absurd hk h1
    have e:∀m2,t.length<m2→X1 (tot+(1+t.length)) m2 (l++10::t)=X1 (tot+(1+t.length)) m2 t:=fun m2 h2=>by
     cases m2 with
     |zero=>omega
     |succ m2=>rw[X1,X1,QbA,if_pos hn]
    rw[e _ (by omega),List.nil_append,←hu]
    exact QhF _ _ _ _ (by omega) (by omega)
   ·rename_i hk
    rcases Qar ht with⟨h1,_⟩|⟨_,hx,r,hr⟩
    ·exact absurd h1 hk
    have hx0:=List.length_pos_iff.2 hx
    have hs:=Qak false l
    have hn:QV false l≠[]:=by rw[hr];simp[hx]
    have hlen:(QV false l).length=x.length+r.length:=by rw[hr,List.length_append]
    cases h2:X1 tot m ((QV false l).drop x.length)with
    |inr e=>rw[h2]at h;cases h
    |inl ts2 =>
     rw[h2]at h
     cases h
     obtain⟨a,e,a1,a2,a3,a4⟩:=Qju tot t m _ ts2 h2 (by rw[List.length_drop];omega)
     refine⟨_::a,e,by rw[a1];rfl,a2,fun y hy=>?_,fun us hu=>?_⟩
     ·rcases List.mem_cons.1 hy with rfl|hy
      ·exact hk
      ·exact a3 y hy
     ·have e1:m+1+(1+t.length)=(m+(1+t.length))+1:=by omega
      rw[e1,X1,QbA,if_neg hn,QmM Qqk t hn,ht]
      simp only
      rw[if_neg hk,Qh6 hr,a4 us hu]
      simp only[QsA,QrW,Qsb]
      congr 4
      omega
def Z8(l:List UInt8):Pg ⊕ (Int×Int):=match XQ l with
 | .inr e=>.inr e
 | .inl ts=>match QbY ⟨ts,[]⟩with
  | .ok p _=>.inl p
  | .err p e=>.inr (p,e)
theorem QmB{tot m:Nat}{l:List UInt8}{ts:List Tk}(h:X1 tot m l = .inl ts)(hm:l.length<m):∃a e,ts=a++[e]∧(e.kind=0∧e.text=eB)∧(∀x∈a,x.kind≠0):=by
 obtain⟨a,e,h1,h2,h3,_⟩:=Qju tot [] m l ts h hm
 exact⟨a,e,h1,h2,h3⟩
def Qm5(t:Tk):Prop:=t.kind≠0∧Xv t.text.toList = .inl (t.kind,t.text.toList)
theorem QnD(x:List UInt8):(mkB x).toList=x:=by rw[Lib.toList_data];rfl
theorem Qqn(p:UInt8→Bool):∀l:List UInt8,(l.takeWhile p).takeWhile p=l.takeWhile p
 |[]=>rfl
 |c::r=>by
  rw[List.takeWhile_cons]
  split
  ·rename_i h
   rw[List.takeWhile_cons,if_pos h,Qqn p r]
  ·rfl
theorem Qn8:∀x∈Xn,Xv x = .inl (4,x):=by decide
theorem Qoa{l x:List UInt8}{k:Int}(h:Xv l = .inl (k,x))(hk:k≠0):Xv x = .inl (k,x):=by
 cases l with
 |nil =>
  rw[Xv]at h
  cases h
  exact absurd rfl hk
 |cons c r =>
  have tw:∀(p:UInt8→Bool),p c=true→(c::r).takeWhile p=c::r.takeWhile p∧(c::r.takeWhile p).takeWhile p=c::r.takeWhile p:=fun p hp=>by
   have e:(c::r).takeWhile p=c::r.takeWhile p:=by rw[List.takeWhile_cons,if_pos hp]
   have e2:((c::r).takeWhile p).takeWhile p=(c::r).takeWhile p:=Qqn p _
   rw[e]at e2
   exact⟨e,e2⟩
  rw[Xv]at h
  split at h
  ·rename_i hL
   obtain⟨e1,e2⟩:=tw isW (by simp[isW,hL])
   split at h
   ·cases h
   ·rename_i hn
    have e:=Sum.inl.inj h
    have a1:=(Prod.mk.inj e).1
    have a2:=(Prod.mk.inj e).2
    rw[e1]at a2 hn
    rw[←a2,Xv,if_pos hL,e2,if_neg hn,a1]
  split at h
  ·rename_i hL hD
   obtain⟨e1,e2⟩:=tw isD hD
   split at h
   ·cases h
   ·rename_i hn
    have e:=Sum.inl.inj h
    have a1:=(Prod.mk.inj e).1
    have a2:=(Prod.mk.inj e).2
    rw[e1]at a2 hn
    rw[←a2,Xv,if_neg hL,if_pos hD,e2,if_neg hn,a1]
  ·split at h
   ·rename_i y hy
    have e:=Sum.inl.inj h
    have a1:=(Prod.mk.inj e).1
    have a2:=(Prod.mk.inj e).2
    subst a2
    rw[←a1]
    exact Qn8 y (List.mem_of_find?_eq_some hy)
   ·cases h
theorem scan_ok(tot:Nat):∀(m:Nat) (l:List UInt8) (ts:List Tk),X1 tot m l = .inl ts→∀t∈ts,t.kind≠0→Qm5 t
 |0,_,_,h,t,ht,_=>by cases h;cases ht
 |m+1,l,ts,h,t,ht,hk=>by
  rw[X1]at h
  cases htk:Xv (QV false l)with
  |inr e=>rw[htk]at h;cases h
  |inl kx =>
   obtain⟨c,x⟩:=kx
   rw[htk]at h
   simp only at h
   split at h
   ·cases h
    rw[List.mem_singleton.1 ht]at hk
    exact absurd rfl hk
   ·rename_i hc
    cases h2:X1 tot m ((QV false l).drop x.length)with
    |inr e=>rw[h2]at h;cases h
    |inl ts2 =>
     rw[h2]at h
     cases h
     rcases List.mem_cons.1 ht with rfl|ht
     ·refine⟨hc,?_⟩
      show Xv (mkB x).toList = .inl (c,(mkB x).toList)
      rw[QnD]
      exact Qoa htk hc
     ·exact scan_ok tot m _ ts2 h2 t ht hk
theorem QmN{c:UInt8}(r:List UInt8)(h:isSp c=true∨c.toNat=35):Xv (c::r) = .inr 16:=by
 have key:∀n:Nat,c.toNat=n→n<256→c=UInt8.ofNat n:=fun n h1 h2=>by
  apply UInt8.toNat_inj.1
  rw[h1];simp;omega
 have:c=32∨c=9∨c=10∨c=13∨c=35:=by
  rcases h with h|h
  ·simp only[isSp,decide_eq_true_eq]at h
   rcases h with h|h|h|h
   ·exact .inl (key _ h (by decide))
   ·exact .inr (.inl (key _ h (by decide)))
   ·exact .inr (.inr (.inl (key _ h (by decide))))
   ·exact .inr (.inr (.inr (.inl (key _ h (by decide)))))
  ·exact .inr (.inr (.inr (.inr (key _ h (by decide)))))
 rcases this with rfl|rfl|rfl|rfl|rfl <;> rfl
theorem Qjz{t:Tk}(h:Qm5 t)(w:List UInt8):t.text.toList≠[]∧QV false (t.text.toList++w)=t.text.toList++w:=by
 obtain⟨hk,ht⟩:=h
 rcases Qar ht with⟨h1,_⟩|⟨_,h1,_⟩
 ·exact absurd h1 hk
 refine⟨h1,?_⟩
 cases hx:t.text.toList with
 |nil=>exact absurd hx h1
 |cons c r =>
  rw[hx]at ht
  rw[List.cons_append,QV,if_neg,if_neg]
  ·intro h
   rw[QmN r (.inr h)]at ht;cases ht
  ·intro h
   rw[QmN r (.inl h)]at ht;cases ht
def near(t u:Tk):Prop:=t.text.toList=Qai∧u.kind=3∧u.pos=t.pos+1
instance (t u:Tk):Decidable (near t u):=inferInstanceAs (Decidable (_∧_∧_))
def seps:List (List UInt8):=[[32],[9,10],[13,32],[32,35,120,10],[32,32]]
inductive Spr:Option Tk→List Tk→List UInt8→Prop where
 |nil (p:Option Tk):Spr p [] []
 |first (t:Tk) (l:List Tk) (w:List UInt8):Spr (some t) l w→Spr none (t::l) (t.text.toList++w)
 |near (p t:Tk) (l:List Tk) (w:List UInt8):near p t→Spr (some t) l w→Spr (some p) (t::l) (t.text.toList++w)
 |far (p t:Tk) (l:List Tk) (d w:List UInt8):¬near p t→d∈seps→Spr (some t) l w→Spr (some p) (t::l) (d++(t.text.toList++w))
theorem Qjy{d:List UInt8}(h:d∈seps)(w:List UInt8):QV false (d++w)=QV false w∧0<d.length∧∃c r,d=c::r∧Stop c:=by
 simp only[seps,List.mem_cons,List.not_mem_nil,or_false]at h
 rcases h with rfl|rfl|rfl|rfl|rfl
 ·exact⟨rfl,by decide,_,_,rfl,QmE⟩
 ·exact⟨rfl,by decide,_,_,rfl,QqU⟩
 ·exact⟨rfl,by decide,_,_,rfl,Qql⟩
 ·exact⟨rfl,by decide,_,_,rfl,QmE⟩
 ·exact⟨rfl,by decide,_,_,rfl,QmE⟩
theorem Qpl{t:Tk}(h:Qm5 t){l:List Tk}{w:List UInt8}(hw:Spr (some t) l w):Xv (t.text.toList++w) = .inl (t.kind,t.text.toList):=by
 have hne:=(Qjz h []).1
 have stop:∀(c:UInt8) (r:List UInt8),Stop c→Xv (t.text.toList++c::r) = .inl (t.kind,t.text.toList):=fun c r hc=>by
  rw[QmM hc r hne];exact h.2
 cases hw with
 |nil=>rw[List.append_nil];exact h.2
 |near _ u l w hn hr =>
  have hk:Xv (45::(u.text.toList++w)) = .inl (4,Qai):=rfl
  have h2:=h.2
  rw[hn.1]at h2 ⊢
  have:t.kind=4:=by
   have e:Xv Qai = .inl (4,Qai):=rfl
   rw[e]at h2
   exact(Prod.mk.inj (Sum.inl.inj h2)).1.symm
  rw[this]
  exact hk
 |far _ u l d w hn hd hr =>
  obtain⟨_,_,c,r,rfl,hc⟩:=Qjy hd []
  exact stop c _ hc
theorem Qjv(tot:Nat):∀(ts:List Tk) (p:Option Tk) (w:List UInt8) (a:List Tk) (e:Tk),Spr p ts w→ts=a++[e]→e.kind=0∧e.text=eB→(∀t∈a,Qm5 t)→∀m,w.length<m→w.length≤tot →
  ∃b e',X1 tot m w = .inl (b++[e'])∧(e'.kind=0∧e'.text=eB)∧lSim a b∧(∀x∈b,x.kind≠0) ∧
   ∀u p0 t0,(b++[e']).head? = some u→p=some p0→ts.head? = some t0→(near p0 t0↔t0.kind=3∧p0.text.toList=Qai∧u.pos=((tot - w.length:Nat):Int))
 |[],_,_,a,e,_,h,_,_,_,_,_=>by simp at h
 |t::ts,p,w,a,e,hS,hts,he,ha,0,hm,_=>by omega
 |t::ts,p,w,a,e,hS,hts,he,ha,m+1,hm,htot=>by
  -- what is skipped, and what is left
  obtain⟨d,v,hw,hv,hd,hnear⟩:∃d v,w=d++(t.text.toList++v)∧Spr (some t) ts v∧(QV false w=QV false (t.text.toList++v))∧(∀p0,p=some p0→(near p0 t↔d=[])):=by
   cases hS with
   |first _ _ w h=>exact⟨[],w,rfl,h,rfl,fun p0 h=>by cases h⟩
   |near q _ _ w hn h=>exact⟨[],w,rfl,h,rfl,fun p0 h=>by cases h;exact⟨fun _=>rfl,fun _=>hn⟩⟩
   |far q _ _ d w hn hd h =>
    obtain⟨h1,h2,_⟩:=Qjy hd (t.text.toList++w)
    exact⟨d,w,rfl,h,h1,fun p0 h=>by cases h;exact⟨fun q=>absurd q hn,fun q=>by rw[q]at h2;cases h2⟩⟩
  cases a with
  |nil =>
   have e1:t=e:=by simpa using congrArg List.head? hts
   have e2:ts=[]:=by simpa using congrArg List.tail hts
   subst e1 e2
   cases hv
   have ht0:t.text.toList=[]:=by rw[he.2,Lib.toList_data];rfl
   rw[ht0]at hw hd
   have hsk:QV false w=[]:=hd
   refine⟨[],⟨0,((tot - 0:Nat):Int),eB⟩,?_,⟨rfl,rfl⟩,trivial,fun _ h=>(List.not_mem_nil h).elim,fun u p0 t0 h1 h2 h3=>?_⟩
   ·rw[X1,hsk]
    rfl
   ·cases h3
    constructor
    ·intro q
     have:=q.2.1
     rw[he.1]at this;cases this
    ·intro q
     have:=q.1
     rw[he.1]at this;cases this
  |cons t' a =>
   have e1:t=t':=by simpa using congrArg List.head? hts
   have e2:ts=a++[e]:=by simpa using congrArg List.tail hts
   subst e1
   have hok:=ha t (by simp)
   obtain⟨hne,hsk⟩:=Qjz hok v
   rw[hsk]at hd
   have hpos:=List.length_pos_iff.2 hne
   have hlen:w.length=d.length+(t.text.toList.length+v.length):=by rw[hw];simp
   obtain⟨b,e',h1,h2,h3,h4,h5⟩:=Qjv tot ts (some t) v a e hv e2 he (fun x hx=>ha x (by simp[hx])) m (by omega) (by omega)
   refine⟨⟨t.kind,((tot - (t.text.toList++v).length:Nat):Int),t.text⟩::b,e',?_,h2,⟨⟨rfl,rfl⟩,fun t2 u2 g1 g2 g3 g4=>?_,h3⟩,fun x hx=>?_,fun u p0 t0 g1 g2 g3=>?_⟩
   ·rw[X1,hd,Qpl hok hv]
    simp only
    rw[if_neg hok.1,List.drop_left,h1]
    have:mkB t.text.toList=t.text:=by
     rw[Lib.toList_data]
     cases t.text with
     |mk d=>rfl
    rw[this]
    rfl
   ·have hh1:ts.head? = some t2:=by
     rw[e2]
     cases a with
     |nil=>cases g1
     |cons=>exact g1
    have hh2:(b++[e']).head? = some u2:=by
     cases b with
     |nil=>cases g2
     |cons=>exact g2
    have:=h5 u2 t t2 hh2 rfl hh1
    have hone:t.text.toList.length=1:=by rw[g4.2];rfl
    constructor
    ·intro q
     have:=(this.1 ⟨g4.2,g3,q⟩).2.2
     rw[this]
     simp only[QsA,hone]
     omega
    ·intro q
     refine(this.2 ⟨g3,g4.2,?_⟩).2.2
     rw[q]
     simp only[QsA,hone]
     omega
   ·rcases List.mem_cons.1 hx with rfl|hx
    ·exact hok.1
    ·exact h4 x hx
   ·cases g1
    cases g3
    rw[hnear p0 g2]
    constructor
    ·intro q
     have hn:=(hnear p0 g2).2 q
     refine⟨hn.2.1,hn.1,?_⟩
     rw[hw,q]
     rfl
    ·intro q
     have:=q.2.2
     simp only[QsA]at this
     have hd0:d.length=0:=by omega
     exact List.length_eq_zero_iff.1 hd0
theorem Qj3{S:List UInt8}{ts:List Tk}(h:XQ S = .inl ts){w:List UInt8}(hw:Spr none ts w)(hl:w.length≤16384) :
  (∀p,Z8 S = .inl p→Z8 w = .inl p)∧(∀x e,Z8 S = .inr (x,e)→∃y,Z8 w = .inr (y,e)):=by
 have h0:X1 S.length (S.length+1) S = .inl ts:=by
  rw[XQ]at h
  split at h
  ·cases h
  ·exact h
 obtain⟨a,e,a1,a2,a3⟩:=QmB h0 (Nat.lt_succ_self _)
 have hok:=scan_ok _ _ _ _ h0
 obtain⟨b,e',b1,b2,b3,b4,_⟩:=Qjv w.length ts none w a e hw a1 a2 (fun t ht=>hok t (by rw[a1];simp[ht]) (a3 t ht)) (w.length+1) (Nat.lt_succ_self _) (Nat.le_refl _)
 have hr:Ends [e']:=⟨e',rfl,b2⟩
 have hS:Sm [e'] ⟨ts,[]⟩ ⟨b++[e'],[]⟩:=⟨⟨a,b,e,a1,a2,a3,rfl,b3⟩,⟨b,e',rfl,b2.1,b4⟩,rfl⟩
 have hx:=QnO hr hS
 have e2:XQ w = .inl (b++[e']):=by rw[XQ,if_neg (by omega),b1]
 unfold Z8
 rw[h,e2]
 simp only
 cases hp:QbY ⟨ts,[]⟩with
 |ok p s2 =>
  rw[hp]at hx
  obtain⟨s2',h3,_⟩:=hx
  rw[h3]
  exact⟨fun q hq=>hq,fun x e hq=>by cases hq⟩
 |err x c =>
  rw[hp]at hx
  obtain⟨y,h3⟩:=hx hr
  rw[h3]
  exact⟨fun q hq=>by(cases hq),fun x e hq=>by(cases hq;exact⟨y,rfl⟩)⟩
end Go.Proofs.YticgcpebdldbgaaDoor.Ab
set_option maxRecDepth 4000
set_option linter.unusedSectionVars false
namespace Go.Proofs.YticgcpebdldbgaaDoor.Ab
open Go.Proofs
def In(n:Int)(p:Int):Prop:=0≤p∧p≤n
def PS.inn(n:Int)(s:PS):Prop:=∀t∈s.toks,In n t.pos
def PsOk{α:Type}(n:Int)(x:PR α):Prop:=match x with
 | .ok _ s2=>s2.inn n
 | .err p _=>In n p
def Ps{α:Type}(n:Int)(f:PS→PR α):Prop:=∀s,s.inn n→PsOk n (f s)
theorem QaD{n:Int}{s:PS}(h:s.inn n):s.nx.inn n:=by
 unfold PS.nx
 split
 ·rename_i t u r e
  intro x hx
  exact h x (by rw[e];exact List.mem_cons_of_mem _ hx)
 ·exact h
theorem Qde{n:Int}(hn:0≤n){s:PS}(h:s.inn n):In n s.tk.pos:=by
 unfold PS.tk
 cases e:s.toks with
 |nil=>exact⟨Int.le_refl _,hn⟩
 |cons t l=>exact h t (by rw[e];simp)
theorem X8{α:Type}{n:Int}(f:PS→α):Ps n fun s=>.ok (f s) s:=fun s h=>h
theorem XY{α:Type}{n:Int}(hn:0≤n)(e:Int):Ps n fun s=>(.err s.tk.pos e:PR α):=fun s h=>Qde hn h
theorem QaW{α β:Type}{n:Int}{F:PS→PR α}{f:PS→α→PS→PR β}(hF:Ps n F)(hf:∀s0,s0.inn n→∀a,Ps n (f s0 a)):Ps n fun s=>(F s).bind (f s):=fun s h=>by
 have h1:=hF s h
 show PsOk n ((F s).bind (f s))
 cases e:F s with
 |ok a s2=>rw[e]at h1;exact hf s h a s2 h1
 |err p c=>rw[e]at h1;exact h1
theorem QY{α β:Type}{n:Int}{F:PS→PR α}{f:PS→α→PS→PR β}(hF:Ps n F)(hf:∀s0 a,Ps n (f s0 a)):Ps n fun s=>(F s).bind (f s):=QaW hF fun s0 _=>hf s0
theorem Qex{α:Type}{n p:Int}(h:In n p)(e:Int):Ps n fun _=>(.err p e:PR α):=fun _ _=>h
theorem Q9{α:Type}{n:Int}{c:PS→Prop}[∀s,Decidable (c s)]{f g:PS→PR α}(hf:Ps n f)(hg:Ps n g):Ps n fun s=>if c s then f s else g s:=fun s h=>by
 show PsOk n (if c s then f s else g s)
 split
 ·exact hf s h
 ·exact hg s h
theorem Ym{α:Type}{n:Int}{f:PS→PR α}(hf:Ps n f):Ps n fun s=>f s.nx:=fun s h=>hf s.nx (QaD h)
theorem Zf{α:Type}{n:Int}{f:PS→PS→PR α}(hf:∀s0,Ps n (f s0)):Ps n fun s=>f s s:=fun s h=>hf s s h
variable{n:Int}(hn:0≤n)
include hn
theorem YI(b:List UInt8):Ps n (XO b):=Q9 (c:=fun s=>s.is b=true) (Ym (X8 fun _=>())) (XY hn 16)
theorem name_ps:Ps n ZD:=Q9 (c:=fun s=>s.tk.kind≠1) (XY hn 16) (Q9 (c:=fun s=>resB s.tk.text=true) (XY hn 7) fun s h=>QaD h)
theorem QdW{ex:PS→PR T}(H:Ps n ex):∀(m:Nat) (l:List T),Ps n (YU ex m l)
 |0,_=>XY hn 16
 |m+1,l=>QY H fun _ t=>Q9 (c:=fun s=>s.is Y6=true) (Ym (QdW H m _)) (QY (YI hn _) fun _ _=>X8 _)
theorem atom_ps{ex:PS→PR T}(H:Ps n ex):Ps n (Yz ex):=QY (name_ps hn) fun _ x=>Q9 (c:=fun s=>s.is sLp=true) (Zf (f:=fun s0 s=>(YU ex s0.toks.length [] s.nx).bind fun l s=>.ok (⟨0,x,l⟩:G) s) fun s0=>QY (Ym (QdW hn H _ _)) fun _ _=>X8 fun _=>_) (X8 _)
theorem opT_ps{ex:PS→PR T}(H:Ps n ex):Ps n (pOpT ex) :=
 Q9 (c:=fun s=>s.tk.kind=3) (fun s h=>QaD h) (Q9 (c:=fun s=>s.tk.kind=2) (fun s h=>by
  show(pVari s.tk.text s.nx).2.inn n
  intro t ht
  rw[QaI]at ht
  exact QaD h t ht) (Q9 (c:=fun s=>s.tk.kind=1) (QY (atom_ps hn H) fun _ _=>X8 _)
  (Q9 (c:=fun s=>s.is Qai=true) (Q9 (c:=fun s=>s.nx.tk.kind≠3∨s.nx.tk.pos≠s.tk.pos+1) (fun s h=>Qde hn (QaD h)) fun s h=>QaD (QaD h))
  (Q9 (c:=fun s=>s.is sLp=true) (QY (Ym H) fun _ t=>QY (YI hn _) fun _ _=>X8 _) (XY hn 16)))))
theorem Qbb{op:PS→PR T}(H:Ps n op)(ops:List (List UInt8)):∀(m:Nat) (t:T),Ps n (XK op ops m t)
 |0,t=>X8 fun _=>t
 |m+1,t=>Q9 (c:=fun s=>s.oneOf ops=true) (QY (f:=fun s u s2=>XK op ops m (.mk 2 0 s.tk.text [t,u]) s2) (Ym H) fun _ _=>Qbb H ops m _) (X8 fun _=>t)
theorem chain_ps{op:PS→PR T}(H:Ps n op)(ops:List (List UInt8)):Ps n (X4 op ops):=QY H fun _ t=>Zf (f:=fun s0 s=>XK op ops s0.toks.length t s) fun s0=>Qbb hn H ops _ t
theorem exprT_ps:∀m,Ps n (X5 m)
 |0=>XY hn 16
 |m+1=>chain_ps hn (chain_ps hn (opT_ps hn (exprT_ps m)) Yy) ZU
theorem termT_ps:Ps n XW:=Zf (f:=fun s0 s=>X5 (s0.toks.length+1) s) fun s0=>exprT_ps hn _
theorem Qer(op:Int):Ps n (Qa6 op):=QY (YI hn _) fun _ _=>QY (termT_ps hn) fun _ _=>QY (YI hn _) fun _ _=>X8 _
theorem goalT_ps:Ps n ZO:=Q9 (c:=fun s=>s.tk.kind=1∧resB s.tk.text=true)
 (Q9 (c:=fun s=>s.tk.text.toList=[116,114,117,101]) (Ym (X8 fun _=>_)) (Q9 (c:=fun s=>s.tk.text.toList=[102,97,105,108]) (Ym (X8 fun _=>_))
  (Q9 (c:=fun s=>s.tk.text.toList=[105,110,116]) (Ym (Qer hn _)) (Q9 (c:=fun s=>s.tk.text.toList=[103,114,111,117,110,100]) (Ym (Qer hn _)) (XY hn 7)))))
 (QY (termT_ps hn) fun s t s2 h=>by
  cases hc:Qax s2 with
  |some x =>
   obtain⟨op,turn⟩:=x
   simp only
   exact(QY (f:=fun _ u s3=>.ok (⟨op,eB,if turn then[u,t]else[t,u]⟩:G) s3) (Ym (termT_ps hn)) fun _ _=>X8 fun _=>_) s2 h
  |none =>
   simp only
   by_cases hc:s.tk.kind=1∧t.name.toList=s.tk.text.toList
   ·rw[if_pos hc];exact h
   ·rw[if_neg hc];exact Qde hn h)
theorem Qbe(most:Nat):∀(m:Nat) (l:List G),Ps n (Yh most m l)
 |0,_=>XY hn 16
 |m+1,l=>Q9 (c:=fun _=>most≤l.length) (XY hn 6) (QaW (goalT_ps hn) fun s0 h0 g=>Q9 (c:=fun _=>Q5 g=false) (Qex (Qde hn h0) 6) (Q9 (c:=fun s=>s.is Y6=true) (Ym (Qbe most m _)) (X8 _)))
theorem goals_ps(most:Nat):Ps n (Yo most):=Zf (f:=fun s0 s=>Yh most (s0.toks.length+1) [] s) fun s0=>Qbe hn most _ _
theorem Qbh(pre:Nat):∀(m:Nat) (l:List G),Ps n (YA pre m l)
 |0,_=>XY hn 16
 |m+1,l=>Q9 (c:=fun _=>4≤pre+l.length) (XY hn 6) (QaW (atom_ps hn (termT_ps hn)) fun s0 h0 g=>Q9 (c:=fun _=>Q8 g=false) (Qex (Qde hn h0) 6) (Q9 (c:=fun s=>s.is Y6=true) (Ym (Qbh pre m _)) (X8 _)))
theorem heads_ps(pre:Nat):Ps n (Yp pre):=Zf (f:=fun s0 s=>YA pre (s0.toks.length+1) [] s) fun s0=>Qbh hn pre _ _
theorem Qb4(name:ByteArray)(keep remove:List G):Ps n (Ze name keep remove) :=
 QY (goals_ps hn 12) fun _ b=>Q9 (c:=fun s=>s.is sBar=true) (QY (Ym (goals_ps hn 12)) fun _ b2=>QY (YI hn _) fun _ _=>X8 _) (QY (YI hn _) fun _ _=>X8 _)
theorem QiA(name:ByteArray)(first:List G):Ps n (Qit name first) :=
 Q9 (c:=fun s=>s.is QaH=true) (Ym (Qb4 hn _ _ _)) (Q9 (c:=fun s=>s.is Qe7=true) (Ym (Qb4 hn _ _ _)) (Q9 (c:=fun s=>s.is Qe5=true) (QY (Ym (heads_ps hn _)) fun _ _=>QY (YI hn _) fun _ _=>Qb4 hn _ _ _) (XY hn 16)))
theorem QdZ(name:ByteArray):Ps n (Qes name):=QY (heads_ps hn 0) fun _ f=>QiA hn name f
theorem Qgu:Ps n YQ:=fun s h=>by
 rw[QaG]
 exact(Q9 (c:=fun s=>s.tk.kind=1∧s.nx.is sAt=true) (QY (name_ps hn) fun _ x=>Ym (QdZ hn x)) (QdZ hn eB)) s h
theorem rule_ps:Ps n Zm:=fun s h=>(QY (F:=fun s=>YQ ⟨s.toks,[]⟩) (f:=fun _ r s=>.ok r.numd s) (fun s h=>Qgu hn ⟨s.toks,[]⟩ h) fun _ _=>X8 fun _=>_) s h
theorem Qce:∀(m:Nat) (l:List Dc),Ps n (Zd m l)
 |0,_=>XY hn 16
 |m+1,l=>Q9 (c:=fun _=>30≤l.length) (XY hn 6) (QY (name_ps hn) fun _ x=>QY (YI hn _) fun _ _ =>
   Q9 (c:=fun s=>s.tk.kind≠3) (XY hn 16) (Q9 (c:=fun s=>valT s.tk.text>6) (XY hn 6)
   (Q9 (c:=fun s=>s.nx.is Y6=true) (Zf (f:=fun s0 s=>Zd m (l++[⟨x,valT s0.tk.text⟩]) s.nx.nx) fun s0=>Ym (Ym (Qce m _)))
    (Zf (f:=fun s0 s=>(XO sDot s.nx).bind fun _ s2=>.ok (l++[⟨x,valT s0.tk.text⟩]) s2) fun s0=>QY (Ym (YI hn _)) fun _ _=>X8 fun _=>_))))
theorem decls_ps:∀(m:Nat) (l:List Dc),Ps n (Y5 m l)
 |0,l=>X8 fun _=>l
 |m+1,l=>Q9 (c:=fun s=>s.tk.kind=1∧s.tk.text.toList=Qk4) (Zf (f:=fun s0 s=>(Zd (s0.toks.length+1) l s.nx).bind fun l s=>Y5 m l s) fun s0=>QY (Ym (Qce hn _ l)) fun _ d=>decls_ps m d) (X8 fun _=>l)
theorem Qcz:∀(m:Nat) (l:List Rl),Ps n (Zt m l)
 |0,l=>X8 fun _=>l
 |m+1,l=>Q9 (c:=fun s=>s.tk.kind=0) (X8 fun _=>l) (Q9 (c:=fun _=>40≤l.length) (XY hn 6) (QY (rule_ps hn) fun _ r=>Qcz m _))
theorem prog_ps:Ps n QbY:=QY (F:=fun s=>Y5 (s.toks.length+1) [] s) (Zf (f:=fun s0 s=>Y5 (s0.toks.length+1) [] s) fun s0=>decls_ps hn _ _) fun _ d =>
 QY (F:=fun s=>Zt (s.toks.length+1) [] s) (Zf (f:=fun s0 s=>Zt (s0.toks.length+1) [] s) fun s0=>Qcz hn _ _) fun _ r=>X8 fun _=>_
end Go.Proofs.YticgcpebdldbgaaDoor.Ab
set_option maxRecDepth 4000
set_option linter.unusedSectionVars false
namespace Go.Proofs.YticgcpebdldbgaaDoor.Ab
open Go.Proofs
structure Wd where
 W:PS→Prop
 nx:∀s,W s→W s.nx
 vr:∀s,W s→s.tk.kind=2→W (pVari s.tk.text s.nx).2
 cl:∀s,W s→W ⟨s.toks,[]⟩
namespace Kp
def In(n:Wd)(p:Int):Prop:=True
def inn(n:Wd)(s:PS):Prop:=n.W s
def PsOk{α:Type}(n:Wd)(x:PR α):Prop:=match x with
 | .ok _ s2=>n.W s2
 | .err _ e=>e≠0
def Ps{α:Type}(n:Wd)(f:PS→PR α):Prop:=∀s,n.W s→PsOk n (f s)
theorem Ps.ok{α:Type}{n:Wd}{f:PS→PR α}(H:Ps n f){s:PS}(h:n.W s){a:α}{s2:PS}(e:f s = .ok a s2):n.W s2:=by
 have:=H s h
 rw[e]at this
 exact this
theorem Ps.err{α:Type}{n:Wd}{f:PS→PR α}(H:Ps n f){s:PS}(h:n.W s){p c:Int}(e:f s = .err p c):c≠0:=by
 have:=H s h
 rw[e]at this
 exact this
theorem QaD{n:Wd}{s:PS}(h:n.W s):n.W s.nx:=n.nx s h
theorem Qde{n:Wd}(hn:True){s:PS}(h:n.W s):In n s.tk.pos:=trivial
theorem X8{α:Type}{n:Wd}(f:PS→α):Ps n fun s=>.ok (f s) s:=fun s h=>h
theorem XY{α:Type}{n:Wd}(hn:True)(e:Int)(he:e≠0:=by decide):Ps n fun s=>(.err s.tk.pos e:PR α):=fun s h=>he
theorem QaW{α β:Type}{n:Wd}{F:PS→PR α}{f:PS→α→PS→PR β}(hF:Ps n F)(hf:∀s0,n.W s0→∀a,Ps n (f s0 a)):Ps n fun s=>(F s).bind (f s):=fun s h=>by
 have h1:=hF s h
 show PsOk n ((F s).bind (f s))
 cases e:F s with
 |ok a s2=>rw[e]at h1;exact hf s h a s2 h1
 |err p c=>rw[e]at h1;exact h1
theorem QY{α β:Type}{n:Wd}{F:PS→PR α}{f:PS→α→PS→PR β}(hF:Ps n F)(hf:∀s0 a,Ps n (f s0 a)):Ps n fun s=>(F s).bind (f s):=QaW hF fun s0 _=>hf s0
theorem Qex{α:Type}{n:Wd}{p:Int}(h:In n p)(e:Int)(he:e≠0:=by decide):Ps n fun _=>(.err p e:PR α):=fun _ _=>he
theorem Q9{α:Type}{n:Wd}{c:PS→Prop}[∀s,Decidable (c s)]{f g:PS→PR α}(hf:Ps n f)(hg:Ps n g):Ps n fun s=>if c s then f s else g s:=fun s h=>by
 show PsOk n (if c s then f s else g s)
 split
 ·exact hf s h
 ·exact hg s h
theorem Ym{α:Type}{n:Wd}{f:PS→PR α}(hf:Ps n f):Ps n fun s=>f s.nx:=fun s h=>hf s.nx (QaD h)
theorem Zf{α:Type}{n:Wd}{f:PS→PS→PR α}(hf:∀s0,Ps n (f s0)):Ps n fun s=>f s s:=fun s h=>hf s s h
variable{n:Wd}(hn:True)
include hn
theorem YI(b:List UInt8):Ps n (XO b):=Q9 (c:=fun s=>s.is b=true) (Ym (X8 fun _=>())) (XY hn 16)
theorem name_ps:Ps n ZD:=Q9 (c:=fun s=>s.tk.kind≠1) (XY hn 16) (Q9 (c:=fun s=>resB s.tk.text=true) (XY hn 7) fun s h=>QaD h)
theorem QdW{ex:PS→PR T}(H:Ps n ex):∀(m:Nat) (l:List T),Ps n (YU ex m l)
 |0,_=>XY hn 16
 |m+1,l=>QY H fun _ t=>Q9 (c:=fun s=>s.is Y6=true) (Ym (QdW H m _)) (QY (YI hn _) fun _ _=>X8 _)
theorem atom_ps{ex:PS→PR T}(H:Ps n ex):Ps n (Yz ex):=QY (name_ps hn) fun _ x=>Q9 (c:=fun s=>s.is sLp=true) (Zf (f:=fun s0 s=>(YU ex s0.toks.length [] s.nx).bind fun l s=>.ok (⟨0,x,l⟩:G) s) fun s0=>QY (Ym (QdW hn H _ _)) fun _ _=>X8 fun _=>_) (X8 _)
theorem QpS:Ps n fun s=>if s.nx.tk.kind≠3∨s.nx.tk.pos≠s.tk.pos+1 then(.err s.nx.tk.pos 16:PR T)else .ok (.mk 0 (-valT s.nx.tk.text) eB []) s.nx.nx:=fun s h=>by
 have _u:=hn
 show PsOk n (if s.nx.tk.kind≠3∨s.nx.tk.pos≠s.tk.pos+1 then _ else _)
 split
 ·show(16:Int)≠0;decide
 ·exact QaD (QaD h)
theorem opT_ps{ex:PS→PR T}(H:Ps n ex):Ps n (pOpT ex) :=
 Q9 (c:=fun s=>s.tk.kind=3) (fun s h=>QaD h) (fun s h=>by
  show PsOk n (if s.tk.kind=2 then _ else _)
  by_cases hk:s.tk.kind=2
  ·rw[if_pos hk];exact n.vr s h hk
  ·rw[if_neg hk]
   by_cases h1:s.tk.kind=1
   ·rw[if_pos h1]
    exact(QY (F:=Yz ex) (f:=fun _ a s=>(.ok (.mk 2 0 a.name a.args) s:PR T)) (atom_ps hn H) fun _ _=>X8 fun _=>_) s h
   ·rw[if_neg h1]
    by_cases h2:s.is Qai=true
    ·rw[if_pos h2];exact QpS hn s h
    ·rw[if_neg h2]
     by_cases h3:s.is sLp=true
     ·rw[if_pos h3]
      exact(QY (F:=fun s=>ex s.nx) (f:=fun _ t s=>(XO sRp s).bind fun _ s=>(.ok t s:PR T)) (Ym H) fun _ t=>QY (F:=XO sRp) (f:=fun _ _ s=>(.ok t s:PR T)) (YI hn _) fun _ _=>X8 fun _=>t) s h
     ·rw[if_neg h3];show(16:Int)≠0;decide)
theorem Qbb{op:PS→PR T}(H:Ps n op)(ops:List (List UInt8)):∀(m:Nat) (t:T),Ps n (XK op ops m t)
 |0,t=>X8 fun _=>t
 |m+1,t=>Q9 (c:=fun s=>s.oneOf ops=true) (QY (f:=fun s u s2=>XK op ops m (.mk 2 0 s.tk.text [t,u]) s2) (Ym H) fun _ _=>Qbb H ops m _) (X8 fun _=>t)
theorem chain_ps{op:PS→PR T}(H:Ps n op)(ops:List (List UInt8)):Ps n (X4 op ops):=QY H fun _ t=>Zf (f:=fun s0 s=>XK op ops s0.toks.length t s) fun s0=>Qbb hn H ops _ t
theorem exprT_ps:∀m,Ps n (X5 m)
 |0=>XY hn 16
 |m+1=>chain_ps hn (chain_ps hn (opT_ps hn (exprT_ps m)) Yy) ZU
theorem termT_ps:Ps n XW:=Zf (f:=fun s0 s=>X5 (s0.toks.length+1) s) fun s0=>exprT_ps hn _
theorem Qer(op:Int):Ps n (Qa6 op):=QY (YI hn _) fun _ _=>QY (termT_ps hn) fun _ _=>QY (YI hn _) fun _ _=>X8 _
theorem goalT_ps:Ps n ZO:=Q9 (c:=fun s=>s.tk.kind=1∧resB s.tk.text=true)
 (Q9 (c:=fun s=>s.tk.text.toList=[116,114,117,101]) (Ym (X8 fun _=>_)) (Q9 (c:=fun s=>s.tk.text.toList=[102,97,105,108]) (Ym (X8 fun _=>_))
  (Q9 (c:=fun s=>s.tk.text.toList=[105,110,116]) (Ym (Qer hn _)) (Q9 (c:=fun s=>s.tk.text.toList=[103,114,111,117,110,100]) (Ym (Qer hn _)) (XY hn 7)))))
 (QY (termT_ps hn) fun s t s2 h=>by
  cases hc:Qax s2 with
  |some x =>
   obtain⟨op,turn⟩:=x
   simp only
   exact(QY (f:=fun _ u s3=>.ok (⟨op,eB,if turn then[u,t]else[t,u]⟩:G) s3) (Ym (termT_ps hn)) fun _ _=>X8 fun _=>_) s2 h
  |none =>
   simp only
   by_cases hc:s.tk.kind=1∧t.name.toList=s.tk.text.toList
   ·rw[if_pos hc];exact h
   ·rw[if_neg hc];exact(by decide:(16:Int)≠0))
theorem Qbe(most:Nat):∀(m:Nat) (l:List G),Ps n (Yh most m l)
 |0,_=>XY hn 16
 |m+1,l=>Q9 (c:=fun _=>most≤l.length) (XY hn 6) (QaW (goalT_ps hn) fun s0 h0 g=>Q9 (c:=fun _=>Q5 g=false) (Qex (Qde hn h0) 6) (Q9 (c:=fun s=>s.is Y6=true) (Ym (Qbe most m _)) (X8 _)))
theorem goals_ps(most:Nat):Ps n (Yo most):=Zf (f:=fun s0 s=>Yh most (s0.toks.length+1) [] s) fun s0=>Qbe hn most _ _
theorem Qbh(pre:Nat):∀(m:Nat) (l:List G),Ps n (YA pre m l)
 |0,_=>XY hn 16
 |m+1,l=>Q9 (c:=fun _=>4≤pre+l.length) (XY hn 6) (QaW (atom_ps hn (termT_ps hn)) fun s0 h0 g=>Q9 (c:=fun _=>Q8 g=false) (Qex (Qde hn h0) 6) (Q9 (c:=fun s=>s.is Y6=true) (Ym (Qbh pre m _)) (X8 _)))
theorem heads_ps(pre:Nat):Ps n (Yp pre):=Zf (f:=fun s0 s=>YA pre (s0.toks.length+1) [] s) fun s0=>Qbh hn pre _ _
theorem Qb4(name:ByteArray)(keep remove:List G):Ps n (Ze name keep remove) :=
 QY (goals_ps hn 12) fun _ b=>Q9 (c:=fun s=>s.is sBar=true) (QY (Ym (goals_ps hn 12)) fun _ b2=>QY (YI hn _) fun _ _=>X8 _) (QY (YI hn _) fun _ _=>X8 _)
theorem QiA(name:ByteArray)(first:List G):Ps n (Qit name first) :=
 Q9 (c:=fun s=>s.is QaH=true) (Ym (Qb4 hn _ _ _)) (Q9 (c:=fun s=>s.is Qe7=true) (Ym (Qb4 hn _ _ _)) (Q9 (c:=fun s=>s.is Qe5=true) (QY (Ym (heads_ps hn _)) fun _ _=>QY (YI hn _) fun _ _=>Qb4 hn _ _ _) (XY hn 16)))
theorem QdZ(name:ByteArray):Ps n (Qes name):=QY (heads_ps hn 0) fun _ f=>QiA hn name f
theorem Qgu:Ps n YQ:=fun s h=>by
 rw[QaG]
 exact(Q9 (c:=fun s=>s.tk.kind=1∧s.nx.is sAt=true) (QY (name_ps hn) fun _ x=>Ym (QdZ hn x)) (QdZ hn eB)) s h
theorem rule_ps:Ps n Zm:=fun s h=>(QY (F:=fun s=>YQ ⟨s.toks,[]⟩) (f:=fun _ r s=>.ok r.numd s) (fun s h=>Qgu hn ⟨s.toks,[]⟩ (n.cl s h)) fun _ _=>X8 fun _=>_) s h
theorem Qce:∀(m:Nat) (l:List Dc),Ps n (Zd m l)
 |0,_=>XY hn 16
 |m+1,l=>Q9 (c:=fun _=>30≤l.length) (XY hn 6) (QY (name_ps hn) fun _ x=>QY (YI hn _) fun _ _ =>
   Q9 (c:=fun s=>s.tk.kind≠3) (XY hn 16) (Q9 (c:=fun s=>valT s.tk.text>6) (XY hn 6)
   (Q9 (c:=fun s=>s.nx.is Y6=true) (Zf (f:=fun s0 s=>Zd m (l++[⟨x,valT s0.tk.text⟩]) s.nx.nx) fun s0=>Ym (Ym (Qce m _)))
    (Zf (f:=fun s0 s=>(XO sDot s.nx).bind fun _ s2=>.ok (l++[⟨x,valT s0.tk.text⟩]) s2) fun s0=>QY (Ym (YI hn _)) fun _ _=>X8 fun _=>_))))
theorem decls_ps:∀(m:Nat) (l:List Dc),Ps n (Y5 m l)
 |0,l=>X8 fun _=>l
 |m+1,l=>Q9 (c:=fun s=>s.tk.kind=1∧s.tk.text.toList=Qk4) (Zf (f:=fun s0 s=>(Zd (s0.toks.length+1) l s.nx).bind fun l s=>Y5 m l s) fun s0=>QY (Ym (Qce hn _ l)) fun _ d=>decls_ps m d) (X8 fun _=>l)
theorem Qcz:∀(m:Nat) (l:List Rl),Ps n (Zt m l)
 |0,l=>X8 fun _=>l
 |m+1,l=>Q9 (c:=fun s=>s.tk.kind=0) (X8 fun _=>l) (Q9 (c:=fun _=>40≤l.length) (XY hn 6) (QY (rule_ps hn) fun _ r=>Qcz m _))
theorem prog_ps:Ps n QbY:=QY (F:=fun s=>Y5 (s.toks.length+1) [] s) (Zf (f:=fun s0 s=>Y5 (s0.toks.length+1) [] s) fun s0=>decls_ps hn _ _) fun _ d =>
 QY (F:=fun s=>Zt (s.toks.length+1) [] s) (Zf (f:=fun s0 s=>Zt (s0.toks.length+1) [] s) fun s0=>Qcz hn _ _) fun _ r=>X8 fun _=>_
theorem QpG:Ps n pEnd:=Q9 (c:=fun s=>s.tk.kind=0) (X8 fun _=>()) (XY hn 16)
theorem query_ps:Ps n QfL:=QY (goals_ps hn 40) fun _ l=>QY (QpG hn) fun _ _=>X8 fun _=>_
end Kp
theorem QoA(s:PS):s.nx.toks <:+ s.toks:=by
 unfold PS.nx
 split
 ·rename_i t u r e;rw[e];exact List.suffix_cons _ _
 ·exact List.suffix_refl _
theorem QkJ(x:ByteArray)(s:PS):(pVari x s).2.names.length≤s.names.length+1:=by
 unfold pVari
 split
 ·exact Nat.le_succ _
 ·simp
theorem QmW{s s':PS}(e:s.toks=s'.toks)(h:s.wf):s'.wf:=by
 obtain⟨l,x,h1,h2,h3⟩:=h
 exact⟨l,x,e▸h1,h2,h3⟩
structure Wst (all:List Tk) (s:PS):Prop where
 wf:s.wf
 suf:s.toks <:+ all
 nms:s.names.length+s.toks.length≤all.length
theorem Wst.nx{all:List Tk}{s:PS}(h:Wst all s):Wst all s.nx :=
 ⟨Yd h.wf,(QoA s).trans h.suf,by have:=Qa1 h.wf;have:=h.nms;show s.names.length+_≤_;omega⟩
theorem Wst.vr{all:List Tk}{s:PS}(h:Wst all s)(hk:s.tk.kind≠0):Wst all (pVari s.tk.text s.nx).2:=by
 have e:=QaI s.tk.text s.nx
 refine⟨QmW e.symm (Yd h.wf),by rw[e];exact(QoA s).trans h.suf,?_⟩
 have h1:=QkJ s.tk.text s.nx
 have h2:=Xo h.wf hk
 have h3:=h.nms
 have h4:s.nx.names=s.names:=rfl
 rw[e];rw[h4]at h1;omega
def wdOf(all:List Tk):Wd:=⟨Wst all,fun s h=>h.nx,fun s h hk=>h.vr (by rw[hk];decide),fun s h=>⟨QmW rfl h.wf,h.suf,by have:=h.suf.length_le;simpa using this⟩⟩
end Go.Proofs.YticgcpebdldbgaaDoor.Ab
namespace Go.Proofs.YticgcpebdldbgaaDoor.Ab
theorem QoH{c:Cx}(hs:St c){s:Nat}{k:AB}(hk:k = .dead∨∃e,k = .grow e s 0):Ev c (c.add c.w k none)∧St (c.add c.w k none):=by
 have hg:=Grows.refl c.w
 have ho:∀B,(none:Option Nat)=some B→c.w.heap.size≤B:=fun B h=>by cases h
 have hρ:(c.add c.w k none).ρ c.h.length=none:=by simp[Cx.add]
 refine⟨Ev.add hs hg k none ho,St.add hs hg _ _ ho ?_⟩
 rcases hk with rfl|⟨e,rfl⟩
 ·trivial
 ·exact fun B hB=>by rw[hρ]at hB;cases hB
theorem Qpq{c:Cx}(hst:St c){id ty n s:Nat}{k:AB}(hk:k = .dead∨∃e,k = .grow e s 0){xs xs':List AV}{j:Nat}(hb:c.h[id]? = some (.cells ty n xs))(hj:(flat xs)[j]? = some (.v (.slice none 0 0)))
  (hf:flat xs'=(flat xs).set j (.sl s [] (some c.h.length))) (hc:∀x∈xs',x.cells.length=n) :
  ∃c2,Ev c c2∧St c2∧c2.h=(c.h++[k]).set id (AB.cells ty n xs')∧c2.w=c.w:=by
 obtain⟨hev,hst1⟩:=QoH hst hk
 have hlt:=Qs hb
 have hb1:(c.add c.w k none).h[id]? = some (.cells ty n xs):=by
  simp only[Cx.add];rw[List.getElem?_append_left hlt];exact hb
 obtain⟨B,cur,hρ,hcur,h3,h4⟩:=hst1.blocks id _ hb1
 have hev2:=Ev.turn (b':=.cells ty n xs') hst1 hb1 rfl hρ (w:=c.w) rfl rfl rfl rfl (fun _ _=>rfl) (.inr ⟨_,rfl,rfl,fun _ cur _ h=>⟨cur,h,rfl⟩⟩)
 have htok:((c.add c.w k none).turn c.w id (.cells ty n xs')).tokNil c.h.length s:=by
  refine⟨by simp[Cx.turn,Cx.add],fun e2 s2 n2 hg2=>?_⟩
  simp only[Cx.turn,Cx.add]at hg2
  rw[List.getElem?_set_ne (by omega),List.getElem?_append_right (Nat.le_refl _),Nat.sub_self]at hg2
  rcases hk with rfl|⟨e,rfl⟩
  ·simp at hg2
  ·simp at hg2
   exact⟨hg2.2.1.symm,fun _=>by simp[Cx.turn,Cx.add]⟩
 have hst2:=St.turn (b':=.cells ty n xs') hst1 hb1 rfl hρ (w:=c.w) (fun _ _=>rfl) hev2 ⟨B,cur,hρ,hcur,hc,by
  intro i a' hi
  rw[hf]at hi
  by_cases e:j=i
  ·subst e
   rw[List.getElem?_set_self (Qs hj)]at hi
   cases hi
   obtain⟨u,g1,g2,g3⟩:=h4 j _ hj
   cases g3
   exact⟨_,g1,g2,.slnil _ _ fun b hb=>by cases hb;exact htok⟩
  ·rw[List.getElem?_set_ne e]at hi
   obtain⟨u,g1,g2,g3⟩:=h4 i _ hi
   exact⟨u,g1,g2,g3.ev hst1 hev2⟩⟩
 exact⟨_,Ev.trans hst hev hev2,hst2,rfl,rfl⟩
theorem YD{P:Program}{N:Nat}{code:Code}{Q:AExit→AS→Prop}{tm:Nat→AV}{h:AH}(id ty n s:Nat)(k:AB)(hk:k = .dead∨∃e,k = .grow e s 0)(xs xs':List AV)(j:Nat)(hb:h[id]? = some (.cells ty n xs))
  (hj:(flat xs)[j]? = some (.v (.slice none 0 0))) (hf:flat xs'=(flat xs).set j (.sl s [] (some h.length))) (hc:∀x∈xs',x.cells.length=n)
  (H:XS P N code Q ⟨tm,(h++[k]).set id (AB.cells ty n xs')⟩):XS P N code Q ⟨tm,h⟩:=by
 intro F m base c a hF hst hr R hR
 have hh:c.h=h:=hr.h
 subst hh
 obtain⟨c2,hev,hst2,hh2,hw⟩:=Qpq hst hk hb hj hf hc
 rw[←hw]
 exact H F m base c2 a hF hst2 ⟨hh2,hr.size,Nat.le_trans hr.above hev.size,hr.defers.ev hev,RoundOk.ev hev hr.round,fun t=>(hr.tm t).ev hst hev⟩ R fun e' s' c' a' ex hq h1 h2 h3 h4=>hR e' s' c' a' ex hq (Ev.trans hst hev h1) h2 h3 h4
def ArrW(P:Program)(N:Nat)(ops:Array Oper)(o:Oper)(K:AS→Prop)(s:AS):Prop :=
 match Qd ops s.tm o with
 |some true=>(match o.op with
  | .buildSlice t len ps=>(match Xe P t with
   |some (e,n)=>(QG P t len (ps.toList.map fun p=>(p.1,s.ev p.2)) s.h).isSome=true∧K (AS.put N {s with h:=s.h++[.cells e n (ps.toList.map fun p=>s.ev p.2)]} o.dst (.arr s.h.length 0 len))
   |none=>False)
  |_=>False)
 |some false=>K (AS.put N s o.dst (.v undef))
 |none=>False
theorem Qdu{P:Program}{N:Nat}{Q:AExit→AS→Prop}{s:AS}{id:Nat}{ops:Array Oper}(i:Nat){o:Oper}(ho:ops.toList[i]? = some o)
  (H:∀(K:AS→Prop) (E:AV→AS→Prop),(∀s,Q .normal s→K s)→(∀r s,Q (.panic r) s→E r s)→OpsW P N ops (ops.toList.take i) (ArrW P N ops o (OpsW P N ops (ops.toList.drop (i+1)) K E)) E s):XS P N (.region id ops false) Q s:=by
 intro F n base c a hF hst hr R hR
 refine wpIn_region ?_
 have hlt:=Qs ho
 have hH:=H (fun s'=>Q .normal s') (fun r s'=>Q (.panic r) s') (fun _ h=>h) (fun _ _ h=>h)
 have hi:(ops.toList.take i).length=i:=by rw[List.length_take];omega
 have hrange:List.range ops.size=List.range' 0 (ops.toList.take i).length++(i::(List.range' (i+1) (ops.toList.drop (i+1)).length++[])):=by
  rw[hi,List.append_nil,List.length_drop,List.range_eq_range',←Array.length_toList]
  have:ops.toList.length=i+(1+(ops.toList.length - (i+1))):=by omega
  conv=>lhs;rw[this]
  rw[←List.range'_append_1,Nat.zero_add,←List.range'_append_1]
  rfl
 have hget:∀j,(ops.toList.drop (i+1))[j]? = ops[i+1+j]? := fun j=>by rw[List.getElem?_drop];simp
 rw[hrange]
 refine Qbn hF (ops.toList.take i) 0 s c a (fun j hj=>by rw[List.getElem?_take,if_pos (by omega)];simp) hH hst hr ?_ ?_
 ·intro s1 c1 a1 h1 h2 h3 h4
  have h0:ops[i]? = some o:=by rw[←ho];simp
  have hrest:∀s2 c2 a2,OpsW P N ops (ops.toList.drop (i+1)) (fun s'=>Q .normal s') (fun r s'=>Q (.panic r) s') s2→Ev c c2→St c2→SR N (base,F) c2 s2 a2→wpOpsIn F n P ops R (List.range' (i+1) (ops.toList.drop (i+1)).length++[]) a2 c2.w:=by
   intro s2 c2 a2 hq he2 hst2 hr2
   refine Qbn hF _ (i+1) s2 c2 a2 (fun j _=>hget j) hq hst2 hr2 ?_ ?_
   ·intro s' c' a' hQ k1 k2 k3
    simp only[wpOpsIn]
    exact hR _ s' c' a' _ hQ (Ev.trans hst he2 k1) k2 k3 rfl
   ·intro r s' c' a' x hQ k1 k2 k3 hx
    exact hR _ s' c' a' _ hQ (Ev.trans hst he2 k1) k2 k3 ⟨x,rfl,hx⟩
  simp only[wpOpsIn,h0]
  unfold ArrW at h1
  split at h1
  ·rename_i hw
   rw[Xg h4 hw]
   simp only[if_true]
   split at h1
   ·rename_i t len ps hop
    split at h1
    ·rename_i e m he
     exact Qfa hop he h1.1 h1.2 hF h3 h4 fun s' c' a' hK k1 k2 k3=>hrest s' c' a' hK (Ev.trans hst h2 k1) k2 k3
    ·exact h1.elim
   ·exact h1.elim
  ·rename_i hw
   rw[Xg h4 hw]
   simp only[QrN,if_false]
   refine⟨fun f _=>hF.fn f,?_⟩
   have hr':=h4.put h3 (Ev.refl c1) o.dst (.v undef)
   rw[h4.h]at hr'
   exact hrest _ c1 _ h1 h2 h3 hr'
  ·exact h1.elim
 ·intro r s' c' a' x hQ h1 h2 h3 hx
  exact hR _ s' c' a' _ hQ h1 h2 h3 ⟨x,rfl,hx⟩
theorem Y9{P:Program}{N:Nat}{Q:AExit→AS→Prop}{s:AS}{id:Nat}{ops:Array Oper}{y:Code}(i:Nat){o:Oper}(ho:ops.toList[i]? = some o)
  (H:∀(K:AS→Prop) (E:AV→AS→Prop),(∀s,XS P N y Q s→K s)→(∀r s,Q (.panic r) s→E r s)→OpsW P N ops (ops.toList.take i) (ArrW P N ops o (OpsW P N ops (ops.toList.drop (i+1)) K E)) E s):XS P N (.seq (.region id ops false) y) Q s :=
 Qay (Qdu i ho (fun K E hK hE=>H K E hK hE))
theorem Ev.Qrj{c c':Cx}(hev:Ev (c.cut 0) c'){B:Nat}(h:B<c.w.heap.size):c'.w.heap[B]? = c.w.heap[B]? :=
 hev.frame B h fun⟨id,b,hb,_⟩=>by simp[Cx.cut]at hb
inductive Melt (h:AH) (m:Nat):AV→AV→Prop
 |keep {a:AV} (hb:Below m a):Melt h m a a
 |nil (s:Nat):Melt h m (.v (.slice none 0 0)) (.sl s [] none)
 |agg {l l':List AV} (hl:l'.length=l.length) (hp:∀(j:Nat) a a',l[j]? = some a→l'[j]? = some a'→Melt h m a a'):Melt h m (.agg l) (.agg l')
 |sl {s:Nat} {xs ys:List AV} {own:Option Nat} (hl:ys.length=xs.length) (hs:∀y∈ys,y.cells.length=s) (hf:(flat ys).length=(flat xs).length)
   (hp:∀(j:Nat) a a',(flat xs)[j]? = some a→(flat ys)[j]? = some a'→Melt h m a a'):Melt h m (.sl s xs own) (.sl s ys none)
 |arr {id len s:Nat} {ty:TypeId} {xs ys:List AV} (hi:m≤id) (hg:h[id]? = some (.cells ty s xs)) (hl:ys.length=len) (hs:∀y∈ys,y.cells.length=s) (hf:(flat ys).length≤(flat xs).length)
   (hp:∀(j:Nat) a a',(flat xs)[j]? = some a→(flat ys)[j]? = some a'→Melt h m a a'):Melt h m (.arr id 0 len) (.sl s ys none)
theorem Melt.rel{c:Cx}(hs:St c){m:Nat}(hm:m≤c.h.length){a a':AV}(h:Melt c.h m a a'):∀{x:Value},Rel c a x→Rel (c.cut m) a' x:=by
 induction h with
 |keep hb=>exact fun hr=>hr.cut hm hb
 |nil s=>intro x hr;cases hr;exact .slnil s none fun b hb=>by cases hb
 |@agg l l' hl _ ih =>
  intro x hr
  cases hr with
  |agg _ cs hl' hr =>
   refine .agg _ cs (by omega) fun j a' u ha' hu=>?_
   obtain⟨a,ha⟩:∃a,l[j]? = some a:=⟨_,List.getElem?_eq_getElem (by rw[←hl];exact Qs ha')⟩
   exact ih j a a' ha ha' (hr j a u ha hu)
 |@sl s xs ys own hl hs' hf _ ih =>
  intro x hr
  have old:∀(j:Nat) a',(flat ys)[j]? = some a'→∃a,(flat xs)[j]? = some a:=fun j a' ha=>⟨_,List.getElem?_eq_getElem (by rw[←hf];exact Qs ha)⟩
  cases hr with
  |slnil _ _ ht =>
   cases ys with
   |nil=>exact .slnil s none fun b hb=>by cases hb
   |cons y ys=>simp at hl
  |slzero _ _ ba ht =>
   cases ys with
   |nil=>exact .slzero s none ba fun b hb=>by cases hb
   |cons y ys=>simp at hl
  |sl _ _ _ B o cap f hs0 hcap hmax hc hr ht =>
   rw[←hl]at hcap ⊢
   refine .sl s ys none B o cap f hs' hcap hmax (fun j a' ha=>?_) (fun j a' ha=>?_) fun b hb=>by cases hb
   ·obtain⟨a,h1⟩:=old j a' ha
    exact⟨⟨(hc j a h1).1.1,QdI (hc j a h1).1.2⟩,(hc j a h1).2⟩
   ·obtain⟨a,h1⟩:=old j a' ha
    exact ih j a a' h1 ha (hr j a h1)
 |@arr id len s ty xs ys hi hg hl hs' hf _ ih =>
  intro x hr
  have old:∀(j:Nat) a',(flat ys)[j]? = some a'→∃a,(flat xs)[j]? = some a:=fun j a' ha=>⟨_,List.getElem?_eq_getElem (Nat.lt_of_lt_of_le (Qs ha) hf)⟩
  cases hr with
  |arr _ _ _ x hid ho h1 =>
   obtain⟨B,cap,hρ,rfl,h2,h3,_⟩:=h1 _ _ _ hg
   obtain⟨B',cur,g1,g2,g3,g4⟩:=hs.blocks id _ hg
   rw[hρ]at g1;cases g1
   subst hl
   rw[Nat.zero_mul]
   refine .sl s ys none B 0 cap (fun j=>cur.getD j undef) hs' h2 h3 (fun j a' ha=>?_) (fun j a' ha=>?_) fun b hb=>by cases hb
   ·obtain⟨a,h4⟩:=old j a' ha
    obtain⟨u,h5,h6,h7⟩:=g4 j a h4
    have e:cur.getD j undef=u:=by rw[Array.getD_eq_getD_getElem?,h5];rfl
    show(c.cut m).cellP B (0+j) (cur.getD j undef)∧(cur.getD j undef).oneCell'=true
    rw[e]
    refine⟨⟨by show c.w.cell? _=_;rw[Nat.zero_add,Xz g2];exact h5,hs.lt hg rfl hρ,fun id' b' hb' hl' hρ'=>?_⟩,h6⟩
    obtain⟨hlt,hb2⟩:=YV hb'
    have:=hs.inj id' id b' _ B hb2 hg hl' rfl hρ' hρ
    omega
   ·obtain⟨a,h4⟩:=old j a' ha
    obtain⟨u,h5,h6,h7⟩:=g4 j a h4
    have e:cur.getD j undef=u:=by rw[Array.getD_eq_getD_getElem?,h5];rfl
    show Rel (c.cut m) a' (cur.getD j undef)
    rw[e]
    exact ih j a a' h4 ha h7
theorem Qfg{P:Program}{f:FuncId}{args args':List AV}{h:AH}{v:Value}(hl:args'.length=args.length)(hm:∀(j:Nat) a a',args[j]? = some a→args'[j]? = some a'→Melt h 0 a a')
  (H:QL P f args' [] fun o h'=>o = .ret (.v v)∧h'=[]):QL P f args h fun o h'=>o = .ret (.v v)∧h'=h:=by
 refine⟨H.1,fun F n c vals hF hs hh hvs=>?_⟩
 subst hh
 have hst0:St (c.cut 0):=hs.cut (Nat.zero_le _) (by simp)
 have hargs:RelL (c.cut 0) args' vals:=by
  refine⟨hvs.1.trans hl.symm,fun j a' u h1 h2=>?_⟩
  obtain⟨a,ha⟩:∃a,args[j]? = some a:=⟨_,List.getElem?_eq_getElem (by rw[←hl];exact Qs h1)⟩
  exact(hm j a a' ha h1).rel hs (Nat.zero_le _) (hvs.2 j a u ha h2)
 refine(H.2 F n (c.cut 0) vals hF hst0 (by simp[Cx.cut]) hargs).mono ?_
 rintro e w' ⟨o,c',⟨rfl,hh'⟩,hev,hst,hw,hex⟩
 obtain⟨x,rfl,hr⟩:=hex
 cases hr
 have hmem:∀{B:Nat},B<c.w.heap.size→c'.w.heap[B]? = c.w.heap[B]? := fun h=>hev.Qrj h
 let c2:Cx:={ρ:=c.ρ,h:=c.h,w:=c'.w}
 have hlt0:∀{i B0:Nat} {b:AB},c.h[i]? = some b→b.live=true→c.ρ i=some B0→B0<c.w.heap.size:=fun h1 h2 h3=>hs.lt h1 h2 h3
 have hm:∀{B0:Nat} {o:Obj},c.w.heap[B0]? = some o→c2.w.heap[B0]? = some o:=fun{B0 o} h=>(hmem (Array.getElem?_eq_some_iff.1 h).1).trans h
 have hev2:Ev c c2:=by
  refine⟨hev.os,hev.tape,hev.output,hev.size,Nat.le_refl _,fun B0 h1 _=>hmem h1,fun id b hb=>⟨b,hb,?_⟩,fun id B0 b h1 h2 hl h3=>?_⟩
  ·cases b with
   |cells ty s xs=>exact .inr ⟨xs,rfl,rfl,fun B cur hρ hc=>⟨cur,hm hc,rfl⟩⟩
   |grow e s n=>exact .inr ⟨n,rfl,Nat.le_refl _,fun _=>rfl,fun B hB=>.inl hB,fun B cur hρ hc=>⟨cur,hm hc,rfl,fun _ _=>rfl⟩⟩
   |map es=>exact⟨es,rfl,rfl⟩
   |loop i=>exact⟨i,rfl,rfl⟩
   |iter s p=>exact⟨p,rfl,rfl⟩
   |glob g cs ty fr=>exact⟨rfl,rfl,fun B hρ=>hmem (hlt0 hb rfl hρ)⟩
   |dead=>rfl
   |gone=>rfl
  ·have:=Qs h2
   simp only[c2]at this
   omega
 have hst2:St c2:=⟨fun id b hb=>(hs.blocks id b hb).ev hs hev2 rfl fun B0 hl hρ=>hmem (hlt0 hb hl hρ),hs.inj⟩
 exact⟨.ret (.v v),c2,⟨rfl,rfl⟩,hev2,hst2,hw,_,rfl,.v _⟩
theorem QjN{P:Program}{f:FuncId}{args:List AV}{h:AH}{Q Q0:AOut→AH→Prop}(H:QL P f args h Q0)
  (hp:(∀(i:Nat) b,h[i]? = some b→b.Below h.length)→∀o h',Q0 o h'→Q o h'∨∃r r',o = .ret r∧h.length≤h'.length∧(∀b∈h'.take h.length,b.Below h.length)∧Melt h' h.length r r'∧Q (.ret r') (h'.take h.length)):QL P f args h Q:=by
 refine⟨H.1,fun F n c vals hF hs hh hvs=>(H.2 F n c vals hF hs hh hvs).mono ?_⟩
 rintro e w' ⟨o,c',hQ,hev,hst,hw,hex⟩
 rcases hp (fun i b hb=>by subst hh;exact hs.below hb) o c'.h hQ with hq|⟨r,r',rfl,h1,h2,h3,h4⟩
 ·exact⟨o,c',hq,hev,hst,hw,hex⟩
 ·obtain⟨x,rfl,hr⟩:=hex
  exact⟨.ret r',c'.cut h.length,h4,hev.cut (by rw[hh];exact Nat.le_refl _) h1,hst.cut h1 h2,hw,x,rfl,h3.rel hst h1 hr⟩
end Go.Proofs.YticgcpebdldbgaaDoor.Ab
namespace Go.Proofs.YticgcpebdldbgaaDoor.Ab
inductive Pk (n:Nat) (τ:Nat→Nat) (h2:AH):AV→AV→Prop
 |keep {a:AV} (hb:Below n a):Pk n τ h2 a a
 |agg {l l':List AV} (hl:l'.length=l.length) (hp:∀(j:Nat) a a',l[j]? = some a→l'[j]? = some a'→Pk n τ h2 a a'):Pk n τ h2 (.agg l) (.agg l')
 |tup {l l':List AV} (hl:l'.length=l.length) (hp:∀(j:Nat) a a',l[j]? = some a→l'[j]? = some a'→Pk n τ h2 a a'):Pk n τ h2 (.tup l) (.tup l')
 |sl {s:Nat} {xs ys:List AV} {own:Option Nat} (hl:ys.length=xs.length) (hs:∀y∈ys,y.cells.length=s) (hf:(flat ys).length=(flat xs).length)
   (hp:∀(j:Nat) a a',(flat xs)[j]? = some a→(flat ys)[j]? = some a'→Pk n τ h2 a a'):Pk n τ h2 (.sl s xs own) (.sl s ys none)
 |arr {id old lo len:Nat} (ho:old=τ id) (hi:n≤id) (hl:id<h2.length):Pk n τ h2 (.arr old lo len) (.arr id lo len)
structure Pack (n:Nat) (τ:Nat→Nat) (h h2:AH):Prop where
 len:n≤h2.length
 len':n≤h.length
 id:∀i,i<n→τ i=i
 old:∀i,i<n→h2[i]? = h[i]?
 below:∀(i:Nat) b,i<n→h[i]? = some b→b.Below n
 lo:∀i,n≤i→i<h2.length→n≤τ i
 inj:∀i j,n≤i→i<h2.length→n≤j→j<h2.length→τ i=τ j→i=j
 new:∀(i:Nat) b,n≤i→h2[i]? = some b→b = .dead∨∃ty s xs ys,b = .cells ty s ys∧h[τ i]? = some (.cells ty s xs)∧(∀y∈ys,y.cells.length=s)∧(flat ys).length≤(flat xs).length ∧
  ∀(j:Nat) a a',(flat xs)[j]? = some a→(flat ys)[j]? = some a'→Pk n τ h2 a a'
def Cx.pack(c:Cx)(τ:Nat→Nat)(h2:AH):Cx:={ρ:=fun i=>c.ρ (τ i),h:=h2,w:=c.w}
section
variable{c:Cx}{n:Nat}{τ:Nat→Nat}{h2:AH}(K:Pack n τ c.h h2)
include K
theorem Pack.get{i:Nat}{b:AB}(hb:h2[i]? = some b):(i<n∧c.h[i]? = some b∧τ i=i∧b.Below n)∨(n≤i∧(b = .dead∨∃ty s xs ys,b = .cells ty s ys∧c.h[τ i]? = some (.cells ty s xs)∧(∀y∈ys,y.cells.length=s)∧(flat ys).length≤(flat xs).length ∧
  ∀(j:Nat) a a',(flat xs)[j]? = some a→(flat ys)[j]? = some a'→Pk n τ h2 a a')):=by
 rcases Nat.lt_or_ge i n with h|h
 ·have:=K.old i h
  rw[hb]at this
  exact .inl ⟨h,this.symm,K.id i h,K.below i b h this.symm⟩
 ·exact .inr ⟨h,K.new i b h hb⟩
theorem Pack.low{i:Nat}{b:AB}(hi:i<n)(hb:c.h[i]? = some b):h2[i]? = some b:=(K.old i hi).trans hb
theorem Pack.live{i:Nat}{b:AB}(hb:h2[i]? = some b)(hl:b.live=true):∃b',c.h[τ i]? = some b'∧b'.live=true∧(b'=b∨∃ty s xs,b' = .cells ty s xs):=by
 rcases K.get hb with⟨_,h1,h3,_⟩|⟨_,rfl|⟨ty,s,xs,ys,rfl,h1,_⟩⟩
 ·exact⟨b,by rw[h3];exact h1,hl,.inl rfl⟩
 ·cases hl
 ·exact⟨_,h1,rfl,.inr ⟨_,_,_,rfl⟩⟩
theorem Pack.prot{B o:Nat}(h:c.prot B o):(c.pack τ h2).prot B o:=by
 refine⟨h.1,fun id b hb hl hρ=>?_⟩
 obtain⟨b',h1,h3,h4⟩:=K.live hb hl
 have h5:=h.2 (τ id) b' h1 h3 hρ
 rcases h4 with rfl|⟨ty,s,xs,rfl⟩
 ·exact h5
 ·rcases h5 with⟨_,_,_,h5,_⟩|⟨_,_,_,_,h5⟩ <;> cases h5
theorem Pack.ρ{i:Nat}(hi:i<n):(c.pack τ h2).ρ i=c.ρ i:=by show c.ρ (τ i)=c.ρ i;rw[K.id i hi]
theorem Pack.back{i:Nat}{b:AB}(hi:i<n)(hb:(c.pack τ h2).h[i]? = some b):c.h[i]? = some b:=(K.old i hi).symm.trans hb
theorem Pack.keep{a:AV}{x:Value}(h:Rel c a x)(hb:Below n a):Rel (c.pack τ h2) a x:=by
 have hlt:∀{i:Nat},i<n→i<(c.pack τ h2).h.length:=fun h=>Nat.lt_of_lt_of_le h K.len
 induction h with
 |v x=>exact .v x
 |junk x=>exact .junk x
 |agg l cs hl _ ih=>cases hb with|agg _ h=>exact .agg l cs hl fun j a u h1 h2=>ih j a u h1 h2 (h a (List.mem_of_getElem? h1))
 |tup l cs hl _ ih=>cases hb with|tup _ h=>exact .tup l cs hl fun j a u h1 h2=>ih j a u h1 h2 (h a (List.mem_of_getElem? h1))
 |slnil s own ht =>
  cases hb with
  |sl _ _ _ h hown =>
   refine .slnil s own fun b hb=>⟨hlt (hown b hb),fun e s' m hg=>?_⟩
   rw[K.ρ (hown b hb)]
   exact(ht b hb).2 e s' m (K.back (hown b hb) hg)
 |slzero s own ba ht =>
  cases hb with
  |sl _ _ _ h hown =>
   refine .slzero s own ba fun b hb=>⟨hlt (hown b hb),fun e s' m hg=>?_⟩
   rw[K.ρ (hown b hb)]
   exact(ht b hb).2 e s' m (K.back (hown b hb) hg)
 |sl s xs own B o cap f hs hcap hmax hc _ ht ih =>
  cases hb with
  |sl _ _ _ h hown =>
   refine .sl s xs own B o cap f hs hcap hmax (fun j a hj=>⟨⟨(hc j a hj).1.1,K.prot (hc j a hj).1.2⟩,(hc j a hj).2⟩) (fun j a hj=>ih j a hj (h a (List.mem_of_getElem? hj)))
    fun b hb=>⟨⟨hlt (hown b hb),let ⟨x,g1,g2⟩:=(ht b hb).1.2;⟨x,K.low (hown b hb) g1,g2⟩⟩,fun e s' m hg=>?_⟩
   rw[K.ρ (hown b hb)]
   exact(ht b hb).2 e s' m (K.back (hown b hb) hg)
 |pin s xs k off B o f hs hc _ ih =>
  cases hb with
  |pin _ _ _ _ h =>
   exact .pin s xs k off B o f hs (fun j a hj=>⟨⟨(hc j a hj).1.1,K.prot (hc j a hj).1.2⟩,(hc j a hj).2⟩) (fun j a hj=>ih j a hj (h a (List.mem_of_getElem? hj)))
 |ptr id k off x hid ho h1 =>
  cases hb with
  |ptr _ _ _ h=>exact .ptr id k off x (hlt h) ho fun ty s xs hg=>by rw[K.ρ h];exact h1 ty s xs (K.back h hg)
 |arr id lo len x hid ho h1 =>
  cases hb with
  |arr _ _ _ h=>exact .arr id lo len x (hlt h) ho fun ty s xs hg=>by rw[K.ρ h];exact h1 ty s xs (K.back h hg)
 |row id lo len cap x hid ho h1 =>
  cases hb with
  |row _ _ _ _ h=>exact .row id lo len cap x (hlt h) ho fun ty s xs hg=>by rw[K.ρ h];exact h1 ty s xs (K.back h hg)
 |mp id x hid ho h1 =>
  cases hb with
  |mp _ h=>exact .mp id x (hlt h) ho ⟨fun es hg=>by rw[K.ρ h];exact h1.1 es (K.back h hg),fun i hg=>by rw[K.ρ h];exact h1.2.1 i (K.back h hg),fun s p hg=>by rw[K.ρ h];exact h1.2.2 s p (K.back h hg)⟩
 |fn f first cap vs ws e1 e2 _ _ ih1 ih2 =>
  cases hb with
  |fn _ _ _ h1 h2=>exact .fn f first cap vs ws e1 e2 (fun j a u h3 h4=>ih1 j a u h3 h4 (h1 a (List.mem_of_getElem? h3))) (fun j a u h3 h4=>ih2 j a u h3 h4 (h2 a (List.mem_of_getElem? h3)))
 |ifc t a u _ ih=>cases hb with|ifc _ _ h=>exact .ifc t a u (ih h)
 |spt s xs own p n k _ ih=>cases hb with|spt _ _ _ h=>exact .spt s xs own p n k (ih h)
theorem Pack.rel{a a':AV}(h:Pk n τ h2 a a'):∀{x:Value},Rel c a x→Rel (c.pack τ h2) a' x:=by
 induction h with
 |keep hb=>exact fun hr=>K.keep hr hb
 |@agg l l' hl _ ih =>
  intro x hr
  cases hr with
  |agg _ cs hl' hr =>
   refine .agg _ cs (by omega) fun j a' u ha' hu=>?_
   obtain⟨a,ha⟩:∃a,l[j]? = some a:=⟨_,List.getElem?_eq_getElem (by rw[←hl];exact Qs ha')⟩
   exact ih j a a' ha ha' (hr j a u ha hu)
 |@tup l l' hl _ ih =>
  intro x hr
  cases hr with
  |tup _ cs hl' hr =>
   refine .tup _ cs (by omega) fun j a' u ha' hu=>?_
   obtain⟨a,ha⟩:∃a,l[j]? = some a:=⟨_,List.getElem?_eq_getElem (by rw[←hl];exact Qs ha')⟩
   exact ih j a a' ha ha' (hr j a u ha hu)
 |@sl s xs ys own hl hs' hf _ ih =>
  intro x hr
  have old:∀(j:Nat) a',(flat ys)[j]? = some a'→∃a,(flat xs)[j]? = some a:=fun j a' ha=>⟨_,List.getElem?_eq_getElem (by rw[←hf];exact Qs ha)⟩
  cases hr with
  |slnil _ _ ht =>
   cases ys with
   |nil=>exact .slnil s none fun b hb=>by cases hb
   |cons y ys=>simp at hl
  |slzero _ _ ba ht =>
   cases ys with
   |nil=>exact .slzero s none ba fun b hb=>by cases hb
   |cons y ys=>simp at hl
  |sl _ _ _ B o cap f hs0 hcap hmax hc hr ht =>
   rw[←hl]at hcap ⊢
   refine .sl s ys none B o cap f hs' hcap hmax (fun j a' ha=>?_) (fun j a' ha=>?_) fun b hb=>by cases hb
   ·obtain⟨a,h1⟩:=old j a' ha
    exact⟨⟨(hc j a h1).1.1,K.prot (hc j a h1).1.2⟩,(hc j a h1).2⟩
   ·obtain⟨a,h1⟩:=old j a' ha
    exact ih j a a' h1 ha (hr j a h1)
 |@arr id old lo len ho hi hl =>
  intro x hr
  subst ho
  cases hr with
  |arr _ _ _ x hid ho h1 =>
   refine .arr id lo len x hl ho fun ty s ys hg=>?_
   rcases K.get hg with⟨h,_⟩|⟨_,e|⟨ty',s',xs,ys',e,h3,_⟩⟩
   ·omega
   ·cases e
   ·cases e
    exact h1 _ _ _ h3
theorem Pack.st(hs:St c):St (c.pack τ h2):=by
 refine⟨fun id b hb=>?_,fun i j a b B hi hj hla hlb hρi hρj=>?_⟩
 ·rcases K.get hb with⟨h1,h3,h4,hbl⟩|⟨h1,rfl|⟨ty,s,xs,ys,rfl,h3,h4,h5,h6⟩⟩
  ·have h0:=hs.blocks id b h3
   have hρ:=K.ρ h1
   cases b with
   |cells ty s xs =>
    obtain⟨B,cur,g1,g2,g3,g4⟩:=h0
    exact⟨B,cur,hρ.trans g1,g2,g3,fun j a hj=>let ⟨u,h5,h6,h7⟩:=g4 j a hj;⟨u,h5,h6,K.keep h7 (hbl a (List.mem_of_getElem? hj))⟩⟩
   |grow e s m=>exact fun B hB=>h0 B (hρ.symm.trans hB)
   |map es =>
    obtain⟨B,ents,clock,g1,g2,g3,g4⟩:=h0
    exact⟨B,ents,clock,hρ.trans g1,g2,g3,fun j kv e hj he=>⟨(g4 j kv e hj he).1,K.keep (g4 j kv e hj he).2 (hbl kv (List.mem_of_getElem? hj))⟩⟩
   |loop i =>
    obtain⟨B,r,g1,g2,g3,g4⟩:=h0
    exact⟨B,r,hρ.trans g1,g2,g3,fun t=>K.keep (g4 t) (hbl t)⟩
   |iter s p =>
    obtain⟨B,g1,g2⟩:=h0
    exact⟨B,hρ.trans g1,g2⟩
   |glob g cs ty fr=>exact⟨hρ.trans h0.1,h0.2⟩
   |dead=>trivial
   |gone=>trivial
  ·trivial
  ·obtain⟨B,cur,g1,g2,g3,g4⟩:=hs.blocks _ _ h3
   refine⟨B,cur,g1,g2,h4,fun j a' hj=>?_⟩
   obtain⟨a,ha⟩:∃a,(flat xs)[j]? = some a:=⟨_,List.getElem?_eq_getElem (Nat.lt_of_lt_of_le (Qs hj) h5)⟩
   obtain⟨u,k1,k2,k3⟩:=g4 j a ha
   exact⟨u,k1,k2,K.rel (h6 j a a' ha hj) k3⟩
 ·obtain⟨a',h1,h3,_⟩:=K.live hi hla
  obtain⟨b',h4,h5,_⟩:=K.live hj hlb
  have h6:=hs.inj (τ i) (τ j) a' b' B h1 h4 h3 h5 hρi hρj
  rcases K.get hi with⟨g1,_,g2,_⟩|⟨g1,_⟩
  ·rcases K.get hj with⟨g3,_,g4,_⟩|⟨g3,_⟩
   ·omega
   ·have:=K.lo j g3 (Qs hj);omega
  ·rcases K.get hj with⟨g3,_,g4,_⟩|⟨g3,_⟩
   ·have:=K.lo i g1 (Qs hi);omega
   ·exact K.inj i j g1 (Qs hi) g3 (Qs hj) h6
theorem Pack.ev{c0:Cx}(hn:c0.h.length=n)(hev:Ev c0 c):Ev c0 (c.pack τ h2):=by
 subst hn
 refine⟨hev.os,hev.tape,hev.output,hev.size,K.len,hev.frame,fun id b hb=>?_,fun id B b h1 h3 hl hρ=>?_⟩
 ·obtain⟨b',hb',hk⟩:=hev.kin id b hb
  have hi:=Qs hb
  have hρ:=K.ρ hi
  refine⟨b',K.low hi hb',?_⟩
  cases b <;> simp only[Kin,hρ]at hk ⊢ <;> exact hk
 ·obtain⟨b',h4,h5,_⟩:=K.live h3 hl
  rcases hev.fresh (τ id) B b' (K.lo id h1 (Qs h3)) h4 h5 hρ with h6|⟨i,ty,s,xs,a1,a2,a3⟩
  ·exact .inl h6
  ·exact .inr ⟨i,ty,s,xs,a1,a2,K.low (Qs a1) a3⟩
end
theorem Qau{P:Program}{f:FuncId}{args:List AV}{h:AH}{Q Q0:AOut→AH→Prop}(H:QL P f args h Q0)
  (hp:(∀(i:Nat) b,h[i]? = some b→b.Below h.length)→∀o h',Q0 o h'→Q o h'∨∃r r2 τ h2,o = .ret r∧Pack h.length τ h' h2∧Pk h.length τ h2 r r2∧Q (.ret r2) h2):QL P f args h Q:=by
 refine⟨H.1,fun F n c vals hF hs hh hvs=>(H.2 F n c vals hF hs hh hvs).mono ?_⟩
 rintro e w' ⟨o,c',hQ,hev,hst,hw,hex⟩
 rcases hp (fun i b hb=>by subst hh;exact hs.below hb) o c'.h hQ with hq|⟨r,r2,τ,h2,rfl,K,hk,hq⟩
 ·exact⟨o,c',hq,hev,hst,hw,hex⟩
 ·obtain⟨x,rfl,hr⟩:=hex
  exact⟨.ret r2,c'.pack τ h2,hq,K.ev (by rw[hh]) hev,K.st hst,hw,x,rfl,K.rel hk hr⟩
end Go.Proofs.YticgcpebdldbgaaDoor.Ab
namespace Go.Proofs.YticgcpebdldbgaaDoor.Ab
mutual
def T.sz:T→Nat
 | .mk _ _ _ bs=>szs bs
def szs:List T→Nat
 |[]=>0
 |t::l=>t.sz+1+szs l
end
def T.lv(n:Nat):T→AV
 | .mk k i s bs=>.agg [.v (.int .i64 k),.v (.int .i64 i),.v (.string s),if bs.isEmpty then .v (.slice none 0 0)else .arr (n+szs bs - 1) 0 bs.length]
def lvs(n:Nat):List T→List AV
 |[]=>[]
 |t::l=>t.lv n::lvs (n+t.sz+1) l
def lsl(n:Nat)(bs:List T):AV:=if bs.isEmpty then .v (.slice none 0 0)else .arr (n+szs bs - 1) 0 bs.length
mutual
/-- the blocks of a term from n on: behind the blocks of each argument one that is dead,behind the last the row of the arguments -/
def T.lay(tt:TypeId)(n:Nat):T→AH
 | .mk _ _ _ bs=>lays tt n (.cells tt 4 (lvs n bs)) bs
def lays(tt:TypeId)(n:Nat)(r:AB):List T→AH
 |[]=>[]
 |t::l=>t.lay tt n++(if l.isEmpty then r else .dead)::lays tt (n+t.sz+1) r l
end
def layA(tt:TypeId)(n:Nat)(bs:List T):AH:=lays tt n (.cells tt 4 (lvs n bs)) bs
theorem T.Qrg(n:Nat)(t:T):t.lv n = .agg [.v (.int .i64 t.kind),.v (.int .i64 t.int),.v (.string t.name),lsl n t.args]:=by cases t;rfl
theorem T.Qq8(tt:TypeId)(n:Nat)(t:T):t.lay tt n=layA tt n t.args:=by cases t;rw[T.lay];rfl
theorem T.Qrc(t:T):t.sz=szs t.args:=by cases t;rw[T.sz];rfl
theorem T.Qq4(n:Nat)(t:T):(t.lv n).cells=[.v (.int .i64 t.kind),.v (.int .i64 t.int),.v (.string t.name),lsl n t.args]:=by rw[T.Qrg];rfl
theorem T.Qq5(n:Nat)(t:T):(t.lv n).isAgg=true:=by rw[T.Qrg];rfl
theorem QT(n:Nat)(bs:List T):(lsl n bs).cell1=true:=by unfold lsl;split <;> rfl
theorem Qei(n:Nat)(bs:List T):(lsl n bs).cells=[lsl n bs]:=by unfold lsl;split <;> rfl
theorem Qej(n:Nat)(bs:List T):(lsl n bs).isAgg=false:=by unfold lsl;split <;> rfl
theorem T.Qq6(n:Nat)(t:T):(t.lv n).cells.length=4:=by rw[T.Qq4];rfl
theorem Zl:∀(n:Nat) (l:List T),(lvs n l).length=l.length
 |_,[]=>rfl
 |n,t::l=>by rw[lvs,List.length_cons,Zl];rfl
theorem Qjb:∀(n:Nat) (l:List T),∀y∈lvs n l,y.cells.length=4
 |_,[],y,h=>by simp[lvs]at h
 |n,t::l,y,h=>by
  rw[lvs,List.mem_cons]at h
  rcases h with rfl|h
  ·exact T.Qq6 _ _
  ·exact Qjb _ l y h
theorem YP:∀(l m:List T),szs (l++m)=szs l+szs m
 |[],m=>by simp[szs]
 |t::l,m=>by rw[List.cons_append,szs,szs,YP l m];omega
theorem Qpn(t:T):szs [t]=t.sz+1:=by simp[szs]
theorem QcW:∀(n:Nat) (l m:List T),lvs n (l++m)=lvs n l++lvs (n+szs l) m
 |n,[],m=>by simp[lvs,szs]
 |n,t::l,m=>by
  rw[List.cons_append,lvs,lvs,QcW _ l m,szs]
  simp only[Qsb]
  rw[show n+t.sz+1+szs l=n+(t.sz+1+szs l) by omega]
mutual
theorem T.Qq3(tt:TypeId):∀(n:Nat) (t:T),(t.lay tt n).length=t.sz
 |n,.mk _ _ _ bs=>by rw[T.lay,T.sz];exact Zb tt n _ bs
theorem Zb(tt:TypeId):∀(n:Nat) (r:AB) (l:List T),(lays tt n r l).length=szs l
 |n,r,[]=>by rw[lays,szs];rfl
 |n,r,t::l=>by rw[lays,szs,List.length_append,List.length_cons,T.Qq3 tt n t,Zb tt _ r l];omega
end
theorem Yg(tt:TypeId)(n:Nat)(l:List T):(layA tt n l).length=szs l:=Zb tt n _ l
theorem Qcl(tt:TypeId):∀(n:Nat) (r:AB) (l:List T) (u:T),lays tt n r (l++[u])=lays tt n .dead l++(u.lay tt (n+szs l)++[r])
 |n,r,[],u=>by simp[lays,szs]
 |n,r,t::l,u=>by
  have e:(l++[u]).isEmpty=false:=by cases l <;> rfl
  rw[List.cons_append,lays,lays,Qcl tt _ r l u,e,szs]
  simp only[QrN,if_false,ite_self,List.append_assoc,Qsb]
  rw[show n+t.sz+1+szs l=n+(t.sz+1+szs l) by omega]
theorem QaQ(tt:TypeId):∀(n:Nat) (r:AB) (l:List T) (u:T) (m:List T),lays tt n r (l++u::m)=lays tt n .dead l++lays tt (n+szs l) r (u::m)
 |n,r,[],u,m=>by simp[lays,szs]
 |n,r,t::l,u,m=>by
  have e:(l++u::m).isEmpty=false:=by cases l <;> rfl
  rw[List.cons_append,lays,QaQ tt _ r l u m,e]
  conv=>rhs;rw[lays]
  rw[szs]
  simp only[QrN,if_false,ite_self,List.append_assoc,Qsb]
  rw[show n+t.sz+1+szs l=n+(t.sz+1+szs l) by omega]
theorem Qb3{l:List T}(h:l≠[]):0<szs l:=by
 cases l with
 |nil=>exact(h rfl).elim
 |cons t l=>rw[szs];omega
theorem Qhj(tt:TypeId)(n:Nat)(l:List T)(u:T):layA tt n (l++[u])=lays tt n .dead l++(u.lay tt (n+szs l)++[.cells tt 4 (lvs n l++[u.lv (n+szs l)])]):=by
 rw[layA,Qcl,QcW];rfl
theorem Qbi(tt:TypeId)(n:Nat)(r:AB)(l:List T)(h:l≠[]):(lays tt n r l)[szs l - 1]? = some r∧(lays tt n r l).set (szs l - 1) .dead=lays tt n .dead l:=by
 obtain⟨l,u,rfl⟩:∃l' u,l=l'++[u]:=⟨_,_,(List.dropLast_concat_getLast h).symm⟩
 rw[Qcl,Qcl,←List.append_assoc,←List.append_assoc,YP,Qpn]
 have e:szs l+(u.sz+1) - 1=(lays tt n .dead l++u.lay tt (n+szs l)).length:=by rw[List.length_append,Zb,T.Qq3];omega
 rw[e]
 constructor
 ·rw[List.getElem?_append_right (Nat.le_refl _),Nat.sub_self];rfl
 ·rw[List.set_append_right _ _ (Nat.le_refl _),Nat.sub_self];rfl
theorem Qhi(tt:TypeId)(n:Nat)(l:List T)(h:l≠[]):(layA tt n l)[szs l - 1]? = some (.cells tt 4 (lvs n l))∧(layA tt n l).set (szs l - 1) .dead=lays tt n .dead l:=Qbi tt n _ l h
theorem Qls{R:AV→AV→Prop}:∀{xs ys:List AV},xs.length=ys.length→(∀(j:Nat) x y,xs[j]? = some x→ys[j]? = some y→x.cells.length=y.cells.length∧∀(i:Nat) a b,x.cells[i]? = some a→y.cells[i]? = some b→R a b) →
  (flat ys).length=(flat xs).length∧∀(j:Nat) a b,(flat xs)[j]? = some a→(flat ys)[j]? = some b→R a b
 |[],[],_,_=>⟨rfl,fun j a b h=>by simp[flat]at h⟩
 |[],y::ys,h,_=>by simp at h
 |x::xs,[],h,_=>by simp at h
 |x::xs,y::ys,h,hp=>by
  obtain⟨h1,h2⟩:=hp 0 x y rfl rfl
  obtain⟨h3,h4⟩:=Qls (xs:=xs) (ys:=ys) (by simpa using h) fun j x y hx hy=>hp (j+1) x y (by simpa using hx) (by simpa using hy)
  refine⟨by rw[Q7,Q7,List.length_append,List.length_append,h1,h3],fun j a b ha hb=>?_⟩
  rw[Q7,List.getElem?_append]at ha hb
  rw[←h1]at hb
  split at ha
  ·rename_i hj;rw[if_pos hj]at hb;exact h2 j a b ha hb
  ·rename_i hj;rw[if_neg hj]at hb;exact h4 _ a b ha hb
def At(h:AH)(n:Nat)(L:AH):Prop:=∀(j:Nat) b,L[j]? = some b→b.live=true→h[n+j]? = some b
theorem At.mid(A L B:AH){n:Nat}(hn:A.length=n):At (A++(L++B)) n L:=fun j b hb _=>by
 subst hn
 rw[List.getElem?_append_right (by omega),Nat.add_sub_cancel_left,List.getElem?_append_left (Qs hb)];exact hb
theorem At.left{h:AH}{n:Nat}{L M:AH}(H:At h n (L++M)):At h n L:=fun j b hb hl=>H j b (by rw[List.getElem?_append_left (Qs hb)];exact hb) hl
theorem At.right{h:AH}{n:Nat}{L M:AH}(H:At h n (L++M)){m:Nat}(hm:m=n+L.length):At h m M:=fun j b hb hl=>by
 have:=H (L.length+j) b (by rw[List.getElem?_append_right (by omega),Nat.add_sub_cancel_left];exact hb) hl
 subst hm
 rw[Nat.add_assoc];exact this
theorem At.both{h:AH}{n:Nat}{L M:AH}(H1:At h n L)(H2:At h (n+L.length) M):At h n (L++M):=fun j b hb hl=>by
 rw[List.getElem?_append]at hb
 split at hb
 ·exact H1 j b hb hl
 ·rename_i hj
  have:=H2 _ b hb hl
  rw[show n+L.length+(j - L.length)=n+j by omega]at this
  exact this
theorem At.cons{h:AH}{n:Nat}{x:AB}{M:AH}(H1:x.live=true→h[n]? = some x)(H2:At h (n+1) M):At h n (x::M):=fun j b hb hl=>by
 cases j with
 |zero=>cases hb;exact H1 hl
 |succ j =>
  have:=H2 j b hb hl
  rw[show n+1+j=n+(j+1) by omega]at this
  exact this
theorem At.nil(h:AH)(n:Nat):At h n []:=fun j b hb=>by simp at hb
theorem At.app{h:AH}{n:Nat}{L:AH}(H:At h n L)(M:AH):At (h++M) n L:=fun j b hb hl=>by
 have:=H j b hb hl
 rw[List.getElem?_append_left (Qs this)];exact this
theorem At.get{h:AH}{n:Nat}{L:AH}(H:At h n L){j:Nat}{b:AB}(hb:L[j]? = some b)(hl:b.live=true){k:Nat}(hk:k=n+j):h[k]? = some b:=by subst hk;exact H j b hb hl
theorem At.all(L:AH):At L 0 L:=fun j b hb _=>by rw[Nat.zero_add];exact hb
theorem At.tail{x:AB}{L M:AH}{k:Nat}(H:At L k M):At (x::L) (k+1) M:=fun j b hb hl=>by
 have:=H j b hb hl
 rw[show k+1+j=(k+j)+1 by omega,List.getElem?_cons_succ];exact this
theorem At.off{A L M:AH}{n k:Nat}(H:At L k M)(hA:n=A.length+k)(B:AH):At (A++(L++B)) n M:=fun j b hb hl=>by
 have h1:=H j b hb hl
 have:=Qs h1
 rw[List.getElem?_append_right (by omega),List.getElem?_append_left (by omega),show n+j - A.length=k+j by omega];exact h1
theorem At.set{h:AH}{n:Nat}{L:AH}(H:At h n L){k:Nat}{x:AB}(hk:∀b,L[k - n]? = some b→n≤k→b.live=false):At (h.set k x) n L:=fun j b hb hl=>by
 have h1:=H j b hb hl
 rw[List.getElem?_set_ne]
 ·exact h1
 ·intro e
  have:=hk b (by rw[show k - n=j by omega];exact hb) (by omega)
  rw[this]at hl;cases hl
theorem Qjc{tt:TypeId}{h:AH}{m:Nat}(n:Nat)(bs:List T)(hm:m≤n)(H:At h n (lays tt n (.cells tt 4 (lvs n bs)) bs))
  (hpt:(flat (avs bs)).length=(flat (lvs n bs)).length∧∀(j:Nat) a a',(flat (lvs n bs))[j]? = some a→(flat (avs bs))[j]? = some a'→Melt h m a a'):Melt h m (lsl n bs) (.sl 4 (avs bs) none):=by
 cases bs with
 |nil=>exact .nil 4
 |cons t bs =>
  have hne:t::bs≠[]:=by simp
  have hl:=(Qbi tt n (.cells tt 4 (lvs n (t::bs))) (t::bs) hne).1
  have hp:=Qb3 hne
  show Melt h m (.arr (n+szs (t::bs) - 1) 0 (t::bs).length) _
  refine .arr (by omega) (H.get hl rfl (by omega)) (Qfb _) (fun y hy=>?_) (Nat.le_of_eq hpt.1) hpt.2
  rw[Qf6]at hy
  obtain⟨u,_,rfl⟩:=List.mem_map.1 hy
  rw[T.Qq0];rfl
section
variable{tt:TypeId}{h:AH}{m:Nat}
mutual
theorem T.QrH:∀(t:T) (n:Nat),m≤n→At h n (t.lay tt n)→∀(j:Nat) a a',(t.lv n).cells[j]? = some a→t.av.cells[j]? = some a'→Melt h m a a'
 | .mk k i s bs,n,hm,H,j,a,a',h1,h2=>by
  rw[T.lay]at H
  have h3:=Qjc n bs hm H (Qii bs n _ hm H)
  rw[T.Qq4]at h1
  rw[T.Qq0]at h2
  match j,h1,h2 with
  |0,h1,h2=>cases h1;cases h2;exact .keep (.v _)
  |1,h1,h2=>cases h1;cases h2;exact .keep (.v _)
  |2,h1,h2=>cases h1;cases h2;exact .keep (.v _)
  |3,h1,h2=>cases h1;cases h2;exact h3
  |j+4,h1,h2=>simp at h1
theorem Qii:∀(bs:List T) (n:Nat) (r:AB),m≤n→At h n (lays tt n r bs)→(flat (avs bs)).length=(flat (lvs n bs)).length∧∀(j:Nat) a a',(flat (lvs n bs))[j]? = some a→(flat (avs bs))[j]? = some a'→Melt h m a a'
 |[],n,r,hm,H=>⟨rfl,fun j a a' h1=>by simp[lvs,flat]at h1⟩
 |t::bs,n,r,hm,H=>by
  rw[lays]at H
  have h1:=T.QrH t n hm H.left
  have h2:At h (n+t.sz+1) (lays tt (n+t.sz+1) r bs):=by
   have:=H.right (m:=n+t.sz) (by rw[T.Qq3])
   exact At.right (L:=[if bs.isEmpty then r else .dead]) this rfl
  obtain⟨h3,h4⟩:=Qii bs (n+t.sz+1) r (Nat.le_trans hm (by omega)) h2
  have hc:t.av.cells.length=(t.lv n).cells.length:=by rw[T.Qq0,T.Qq4];rfl
  refine⟨by rw[avs,lvs,Q7,Q7,List.length_append,List.length_append,h3,hc],fun j a a' ha hb=>?_⟩
  rw[lvs,Q7,List.getElem?_append]at ha
  rw[avs,Q7,List.getElem?_append,hc]at hb
  split at ha
  ·rename_i hj
   rw[if_pos hj]at hb
   exact h1 j a a' ha hb
  ·rename_i hj
   rw[if_neg hj]at hb
   exact h4 _ a a' ha hb
end
theorem Qen{n:Nat}{bs:List T}(hm:m≤n)(H:At h n (layA tt n bs)):Melt h m (lsl n bs) (.sl 4 (avs bs) none):=Qjc n bs hm H (Qii bs n _ hm H)
end
def PkB(n:Nat)(τ:Nat→Nat)(h2:AH)(b b':AB):Prop:=b' = .dead∨∃ty s xs ys,b' = .cells ty s ys∧b = .cells ty s xs∧(∀y∈ys,y.cells.length=s)∧(flat ys).length≤(flat xs).length ∧
  ∀(j:Nat) a a',(flat xs)[j]? = some a→(flat ys)[j]? = some a'→Pk n τ h2 a a'
def Sh(n:Nat)(τ:Nat→Nat)(h2:AH)(m m' len:Nat):Prop:=n≤m'∧m'+len≤h2.length∧∀j,j<len→τ (m'+j)=m+j
theorem Sh.sub{n:Nat}{τ:Nat→Nat}{h2:AH}{m m' len:Nat}(H:Sh n τ h2 m m' len){k l:Nat}(hl:k+l≤len){a b:Nat}(ha:a=m+k)(hb:b=m'+k):Sh n τ h2 a b l:=by
 subst ha;subst hb
 obtain⟨h1,h3,h4⟩:=H
 exact⟨by omega,by omega,fun j hj=>by rw[Nat.add_assoc,h4 _ (by omega),Nat.add_assoc]⟩
theorem Qjn{n:Nat}{τ:Nat→Nat}{h2:AH}{m m':Nat}{bs:List T}(H:Sh n τ h2 m m' (szs bs)):Pk n τ h2 (lsl m bs) (lsl m' bs):=by
 unfold lsl
 cases bs with
 |nil=>exact .keep (.v _)
 |cons t bs =>
  have hp:0<szs (t::bs):=Qb3 (by simp)
  obtain⟨h1,h3,h4⟩:=H
  refine .arr ?_ (by omega) (by omega)
  have:=h4 (szs (t::bs) - 1) (by omega)
  rw[show m'+szs (t::bs) - 1=m'+(szs (t::bs) - 1) by omega,this];omega
theorem T.Qra{n:Nat}{τ:Nat→Nat}{h2:AH}{m m':Nat}{t:T}(H:Sh n τ h2 m m' t.sz):∀(j:Nat) a a',(t.lv m).cells[j]? = some a→(t.lv m').cells[j]? = some a'→Pk n τ h2 a a':=by
 intro j a a' h1 h3
 rw[T.Qq4]at h1 h3
 match j,h1,h3 with
 |0,h1,h3=>cases h1;cases h3;exact .keep (.v _)
 |1,h1,h3=>cases h1;cases h3;exact .keep (.v _)
 |2,h1,h3=>cases h1;cases h3;exact .keep (.v _)
 |3,h1,h3=>cases h1;cases h3;exact Qjn (by rw[←T.Qrc];exact H)
 |j+4,h1,h3=>simp at h1
theorem T.pk{n:Nat}{τ:Nat→Nat}{h2:AH}{m m':Nat}{t:T}(H:Sh n τ h2 m m' t.sz):Pk n τ h2 (t.lv m) (t.lv m'):=by
 have:=T.Qra H
 rw[T.Qq4,T.Qq4]at this
 rw[T.Qrg,T.Qrg]
 exact .agg rfl this
theorem Qmf{n:Nat}{τ:Nat→Nat}{h2:AH}:∀{m m':Nat} {bs:List T},Sh n τ h2 m m' (szs bs)→(flat (lvs m' bs)).length=(flat (lvs m bs)).length∧∀(j:Nat) a a',(flat (lvs m bs))[j]? = some a→(flat (lvs m' bs))[j]? = some a'→Pk n τ h2 a a'
 |m,m',[],H=>⟨rfl,fun j a a' h1=>by simp[lvs,flat]at h1⟩
 |m,m',t::bs,H=>by
  rw[szs]at H
  have h1:=T.Qra (H.sub (k:=0) (l:=t.sz) (by omega) rfl rfl)
  obtain⟨h3,h4⟩:=Qmf (bs:=bs) (H.sub (k:=t.sz+1) (l:=szs bs) (a:=m+t.sz+1) (b:=m'+t.sz+1) (by omega) (by omega) (by omega))
  have hc:(t.lv m').cells.length=(t.lv m).cells.length:=by rw[T.Qq6,T.Qq6]
  refine⟨by rw[lvs,lvs,Q7,Q7,List.length_append,List.length_append,h3,hc],fun j a a' ha hb=>?_⟩
  rw[lvs,Q7,List.getElem?_append]at ha hb
  rw[hc]at hb
  split at ha
  ·rename_i hj
   rw[if_pos hj]at hb
   exact h1 j a a' ha hb
  ·rename_i hj
   rw[if_neg hj]at hb
   exact h4 _ a a' ha hb
theorem Qiv{n:Nat}{τ:Nat→Nat}{h2:AH}{tt:TypeId}{m m':Nat}{bs:List T}(H:Sh n τ h2 m m' (szs bs)):PkB n τ h2 (.cells tt 4 (lvs m bs)) (.cells tt 4 (lvs m' bs)) :=
 .inr ⟨tt,4,_,_,rfl,rfl,Qjb _ _,Nat.le_of_eq (Qmf H).1,(Qmf H).2⟩
mutual
theorem T.pkB{n:Nat}{τ:Nat→Nat}{h2:AH}{tt:TypeId}:∀{m m':Nat} (t:T),Sh n τ h2 m m' t.sz→∀(j:Nat) b b',(t.lay tt m)[j]? = some b→(t.lay tt m')[j]? = some b'→PkB n τ h2 b b'
 |m,m',.mk k i s bs,H,j,b,b',h1,h3=>by
  rw[T.sz]at H
  rw[T.lay]at h1 h3
  exact QdD bs (Qiv H) H j b b' h1 h3
theorem QdD{n:Nat}{τ:Nat→Nat}{h2:AH}{tt:TypeId}{r r':AB}:∀{m m':Nat} (bs:List T),PkB n τ h2 r r'→Sh n τ h2 m m' (szs bs)→∀(j:Nat) b b',(lays tt m r bs)[j]? = some b→(lays tt m' r' bs)[j]? = some b'→PkB n τ h2 b b'
 |m,m',[],hr,H,j,b,b',h1,h3=>by simp[lays]at h1
 |m,m',t::bs,hr,H,j,b,b',h1,h3=>by
  rw[szs]at H
  rw[lays,List.getElem?_append,T.Qq3]at h1 h3
  split at h1
  ·rename_i hj
   rw[if_pos hj]at h3
   exact T.pkB t (H.sub (k:=0) (l:=t.sz) (by omega) rfl rfl) j b b' h1 h3
  ·rename_i hj
   rw[if_neg hj]at h3
   cases hk:j - t.sz with
   |zero =>
    rw[hk,List.getElem?_cons_zero]at h1 h3
    cases h1;cases h3
    split
    ·exact hr
    ·exact .inl rfl
   |succ k =>
    rw[hk,List.getElem?_cons_succ]at h1 h3
    exact QdD bs hr (H.sub (k:=t.sz+1) (l:=szs bs) (a:=m+t.sz+1) (b:=m'+t.sz+1) (by omega) (by omega) (by omega)) k b b' h1 h3
end
theorem Qjj{A N L':AH}{n:Nat}{τ:Nat→Nat}(hn:A.length=n)(hb:∀b∈A,b.Below n)(hid:∀i,i<n→τ i=i)(hlo:∀i,n≤i→i<n+L'.length→n≤τ i)
  (hin:∀i j,n≤i→i<n+L'.length→n≤j→j<n+L'.length→τ i=τ j→i=j)
  (hB:∀(j:Nat) b',L'[j]? = some b'→b' = .dead∨∃b,(A++N)[τ (n+j)]? = some b∧PkB n τ (A++L') b b'):Pack n τ (A++N) (A++L'):=by
 have hl:(A++L').length=n+L'.length:=by rw[List.length_append,hn]
 refine⟨by omega,by rw[List.length_append];omega,hid,fun i hi=>?_,fun i b hi hg=>?_,fun i h1 h3=>hlo i h1 (by omega),fun i j h1 h2 h3 h4 he=>hin i j h1 (by omega) h3 (by omega) he,fun i b h1 hg=>?_⟩
 ·rw[List.getElem?_append_left (by omega),List.getElem?_append_left (by omega)]
 ·rw[List.getElem?_append_left (by omega)]at hg
  exact hb b (List.mem_of_getElem? hg)
 ·rw[List.getElem?_append_right (by omega),hn]at hg
  rcases hB (i - n) b hg with h3|⟨b0,h3,h4⟩
  ·exact .inl h3
  ·rw[show n+(i - n)=i by omega]at h3
   rcases h4 with h4|⟨ty,s,xs,ys,rfl,rfl,h5,h6,h7⟩
   ·exact .inl h4
   ·exact .inr ⟨ty,s,xs,ys,rfl,h3,h5,h6,h7⟩
def tauG(n g:Nat):Nat→Nat:=fun i=>if i<n then i else i+g
theorem shG{A L':AH}{n:Nat}(hn:A.length=n)(g:Nat):Sh n (tauG n g) (A++L') (n+g) n L'.length :=
 ⟨Nat.le_refl _,by rw[List.length_append];omega,fun j hj=>by unfold tauG;rw[if_neg (by omega)];omega⟩
theorem QfM{A N C L':AH}{n g:Nat}(hn:A.length=n)(hb:∀b∈A,b.Below n)(hC:C.length=L'.length)(hN:At N g C)
  (hP:Sh n (tauG n g) (A++L') (n+g) n L'.length→∀(j:Nat) b b',C[j]? = some b→L'[j]? = some b'→PkB n (tauG n g) (A++L') b b') (hlive:∀(j:Nat) b b',C[j]? = some b→L'[j]? = some b'→b.live=false→b' = .dead):Pack n (tauG n g) (A++N) (A++L'):=by
 refine Qjj hn hb (fun i hi=>by unfold tauG;rw[if_pos hi]) (fun i h1 _=>by unfold tauG;rw[if_neg (by omega)];omega) (fun i j h1 _ h3 _ he=>?_) fun j b' hj=>?_
 ·unfold tauG at he
  rw[if_neg (by omega),if_neg (by omega)]at he
  omega
 ·obtain⟨b,hb1⟩:∃b,C[j]? = some b:=⟨_,List.getElem?_eq_getElem (by have:=Qs hj;omega)⟩
  cases hl:b.live with
  |false=>exact .inl (hlive j b b' hb1 hj hl)
  |true =>
   refine .inr ⟨b,?_,hP (shG hn g) j b b' hb1 hj⟩
   have:=hN j b hb1 hl
   unfold tauG
   rw[if_neg (by omega),List.getElem?_append_right (by omega),show n+j+g - A.length=g+j by omega];exact this
mutual
theorem T.Qrd{tt:TypeId}:∀{m m':Nat} (t:T) (j:Nat) (b b':AB),(t.lay tt m)[j]? = some b→(t.lay tt m')[j]? = some b'→b.live=false→b' = .dead
 |m,m',.mk k i s bs,j,b,b',h1,h2,hl=>by
  rw[T.lay]at h1 h2
  exact Qef bs (fun h=>by cases h) j b b' h1 h2 hl
theorem Qef{tt:TypeId}{r r':AB}:∀{m m':Nat} (bs:List T),(r.live=false→r' = .dead)→∀(j:Nat) (b b':AB),(lays tt m r bs)[j]? = some b→(lays tt m' r' bs)[j]? = some b'→b.live=false→b' = .dead
 |m,m',[],hr,j,b,b',h1,h2,hl=>by simp[lays]at h1
 |m,m',t::bs,hr,j,b,b',h1,h2,hl=>by
  rw[lays,List.getElem?_append,T.Qq3]at h1 h2
  split at h1
  ·rename_i hj
   rw[if_pos hj]at h2
   exact T.Qrd t j b b' h1 h2 hl
  ·rename_i hj
   rw[if_neg hj]at h2
   cases hk:j - t.sz with
   |zero =>
    rw[hk,List.getElem?_cons_zero]at h1 h2
    cases h1;cases h2
    split
    ·rename_i he
     rw[if_pos he]at hl
     exact hr hl
    ·rfl
   |succ k =>
    rw[hk,List.getElem?_cons_succ]at h1 h2
    exact Qef bs hr k b b' h1 h2 hl
end
theorem Qhh{tt:TypeId}{m m':Nat}(bs:List T)(j:Nat)(b b':AB)(h1:(layA tt m bs)[j]? = some b)(h2:(layA tt m' bs)[j]? = some b')(hl:b.live=false):b' = .dead:=Qef bs (fun h=>by cases h) j b b' h1 h2 hl
theorem QnM{tt:TypeId}{A N:AH}{n:Nat}(hn:A.length=n)(hb:∀b∈A,b.Below n)(g:Nat)(bs:List T)(hN:At N g (layA tt (n+g) bs)) :
  Pack n (tauG n g) (A++N) (A++layA tt n bs)∧Pk n (tauG n g) (A++layA tt n bs) (lsl (n+g) bs) (lsl n bs):=by
 have hsh:=shG (L':=layA tt n bs) hn g
 rw[Yg]at hsh
 refine⟨QfM hn hb (by rw[Yg,Yg]) hN (fun h j b b' h1 h2=>QdD bs (Qiv hsh) hsh j b b' h1 h2) (fun j b b' h1 h2 hl=>Qhh bs j b b' h1 h2 hl),Qjn hsh⟩
theorem QqO{tt:TypeId}{A N:AH}{n:Nat}(hn:A.length=n)(hb:∀b∈A,b.Below n)(g:Nat)(t:T)(hN:At N g (t.lay tt (n+g))) :
  Pack n (tauG n g) (A++N) (A++t.lay tt n)∧Pk n (tauG n g) (A++t.lay tt n) (t.lv (n+g)) (t.lv n):=by
 have hsh:=shG (L':=t.lay tt n) hn g
 rw[T.Qq3]at hsh
 rw[T.Qq8]at hN
 have:=QnM (tt:=tt) hn hb g t.args hN
 rw[←T.Qq8]at this
 exact⟨this.1,T.pk hsh⟩
end Go.Proofs.YticgcpebdldbgaaDoor.Ab
namespace Go.Proofs.YticgcpebdldbgaaDoor.Ab
def smap(l:List (ByteArray×AV)):List (Value×AV):=l.map fun p=>(.string p.1,p.2)
def sget(x:ByteArray):List (ByteArray×AV)→Option AV
 |[]=>none
 |p::l=>if x=p.1 then some p.2 else sget x l
def supd(x:ByteArray)(v:AV):List (ByteArray×AV)→List (ByteArray×AV)
 |[]=>[(x,v)]
 |p::l=>if x=p.1 then(x,v)::l else p::supd x v l
theorem QpA(a b:ByteArray):(a==b)=decide (a=b):=by
 have h:(a==b)=true↔a=b:=by
  obtain⟨x⟩:=a
  obtain⟨y⟩:=b
  constructor
  ·intro h
   have e:x=y:=by simpa using(show(x==y)=true from h)
   rw[e]
  ·intro h
   cases h
   show(x==x)=true
   simp
 by_cases e:a=b
 ·rw[decide_eq_true e];exact h.2 e
 ·rw[decide_eq_false e]
  cases hb:a==b with
  |false=>rfl
  |true=>exact(e (h.1 hb)).elim
theorem Qjt(a b:ByteArray):Instr.sameNow .string (.string a) (.string b)=some (decide (a=b)):=by
 rw[←QpA];rfl
theorem Qg8(x:ByteArray):∀l:List (ByteArray×AV),Qge .string (.string x) (smap l)=some (sget x l)
 |[]=>rfl
 |p::l=>by
  have e:smap (p::l)=(.string p.1,p.2)::smap l:=rfl
  rw[e]
  simp only[Qge,sget,Qjt]
  by_cases hk:x=p.1
  ·simp only[hk,Qsf,if_true]
  ·simp only[hk,Qsg,if_false];exact Qg8 x l
theorem QjC(x:ByteArray)(v:AV):∀l:List (ByteArray×AV),updA .string (.string x) v (smap l)=some (smap (supd x v l))
 |[]=>rfl
 |p::l=>by
  have e:smap (p::l)=(.string p.1,p.2)::smap l:=rfl
  rw[e]
  simp only[updA,supd,Qjt]
  by_cases hk:x=p.1
  ·simp only[hk,Qsf,if_true];rfl
  ·simp only[hk,Qsg,if_false,QjC x v l];rfl
theorem QhG(x y:ByteArray)(v:AV):∀l:List (ByteArray×AV),sget y (supd x v l)=if y=x then some v else sget y l
 |[]=>rfl
 |p::l=>by
  simp only[supd]
  split
  ·rename_i h
   subst h
   simp only[sget]
   split <;> rfl
  ·rename_i h
   simp only[sget,QhG x y v l]
   by_cases hy:y=p.1
   ·rw[if_pos hy,if_pos hy,if_neg (by rintro rfl;exact h hy)]
   ·rw[if_neg hy,if_neg hy]
theorem Qkx(l:List (ByteArray×AV))(n:Nat)(h:∀p∈l,Below n p.2):(AB.map (smap l)).Below n:=by
 intro kv hkv
 simp only[smap,List.mem_map]at hkv
 obtain⟨p,hp,rfl⟩:=hkv
 exact h p hp
end Go.Proofs.YticgcpebdldbgaaDoor.Ab
namespace Go.Proofs.YticgcpebdldbgaaDoor.Ab
open Go.ChangeShapes Go.WideShapes Go.ChangeAt Go.RowKit
def base0(W:World):Cx:=⟨fun _=>none,[],W⟩
theorem Qa0{H:Type}{enc:TypeId×Value→H}{P:Program}(hl:laidOutB P=true){W W':World}(hb:Go.RowKit.Below W.heap.size W W'){sp:Nat→Bool} :
  ∀(ts:List TypeId) (vs:List Value) (ds:List (DataW H)) (ps:List MemPlace),(∀t∈ts,P.readableRec t=true∧t<P.types.size)→DataW.TrodAll enc P W 0 (fun _=>true) true ts vs ds ps →
   (∀x∈ps,x.block<W.heap.size∧sp x.block=true)→DataW.TrodAll enc P W' 0 sp true ts vs ds ps
 |[],vs,ds,ps,_,h,_=>by
  obtain⟨rfl,rfl,rfl⟩:=trodAll_nil h
  exact trodAll_mk0
 |t::ts,vs,ds,ps,hp,h,hlt=>by
  obtain⟨v,vs',d,ds',p,q,rfl,rfl,rfl,h1,h2⟩:=trodAll_cons h
  obtain⟨h3,h4⟩:=hp t (by simp)
  exact trodAll_cons_mk (WideElems.Trod_stays hl h3 h4 h1 (fun x hx=>hb.same (hlt x (by simp[hx])).1) (fun x hx=>(hlt x (by simp[hx])).2))
   (Qa0 hl hb ts vs' ds' q (fun t ht=>hp t (by simp[ht])) h2 (fun x hx=>hlt x (by simp[hx])))
theorem Qdo{H:Type}{enc:TypeId×Value→H}{P:Program}{W:World}{base:Nat}{sp:Nat→Bool}{held:Bool} :
  ∀{ts:List TypeId} {vs:List Value} {ds:List (DataW H)} {ps:List MemPlace} {ts':List TypeId} {vs':List Value} {ds':List (DataW H)} {ps':List MemPlace},
   DataW.TrodAll enc P W base sp held ts vs ds ps→DataW.TrodAll enc P W base sp held ts' vs' ds' ps'→DataW.TrodAll enc P W base sp held (ts++ts') (vs++vs') (ds++ds') (ps++ps')
 |[],_,_,_,_,_,_,_,h,h'=>by
  obtain⟨rfl,rfl,rfl⟩:=trodAll_nil h
  exact h'
 |t::ts,_,_,_,_,_,_,_,h,h'=>by
  obtain⟨v,vs',d,ds',p,q,rfl,rfl,rfl,h1,h2⟩:=trodAll_cons h
  have:=trodAll_cons_mk h1 (Qdo h2 h')
  simpa [List.append_assoc]using this
theorem Qkj{H:Type}{enc:TypeId×Value→H}{P:Program}{fn:Func}{s:ChangeSpec}{apart fresh handsOn again:Bool}{W W':World}{args:Array Value}{ds gs:List (DataW H)}{before:List MemPlace}{tb:TypeId}
  (hl:laidOutB P=true) (hvars:s.vars=[]) (hr:fn.resultTypes=#[tb]) (hb:P.underlying tb=some .bool) (hp:∀t∈fn.params.toList,P.readableRec t=true∧t<P.types.size)
  (hW:DataW.Whole enc P fn.params.toList s.vars apart W args.toList ds gs before) (hs:s.fn H (ds++gs)={results:=[.lit (.bool true)],args:=ds}) (hbel:Go.RowKit.Below W.heap.size W W') :
  s.post enc P fn apart fresh handsOn again W args (.bool true) W':=by
 have hlt:∀x∈before,x.block<W.heap.size:=fun x hx=>by simpa using hW.lt x hx
 have hW0:=hW
 obtain⟨p,q,hA,hV,rfl,hfz,hnd⟩:=hW
 rw[hvars]at hV
 have hV0:=hV
 obtain⟨rfl,rfl⟩:=trodVars_none hV
 simp only[Qsc]at hlt hfz hnd hW0 hs
 have hres:∀(b:Nat) (sp:Nat→Bool) (hd:Bool),DataW.TrodAll enc P W' b sp hd fn.resultTypes.toList ((Value.bool true).resultList fn.resultTypes.size) [.lit (.bool true)] []:=fun b sp hd=>by
  rw[hr]
  exact trodAll_mk1 (shut_bool hb true)
 have hvs:∀sp:Nat→Bool,DataW.TrodVars enc P W' sp s.vars [] []:=fun sp=>by rw[hvars];rfl
 refine⟨ds,[],p,[],p,[],by simpa using hW0,?_,?_,?_,?_,fun _=>⟨?_,?_⟩⟩
 ·rw[List.append_nil,hs];exact hres _ _ _
 ·rw[List.append_nil,hs]
  exact Qa0 hl hbel _ _ _ _ hp hA fun x hx=>⟨hlt x hx,by simpa using hlt x hx⟩
 ·rw[List.append_nil,hs];exact hvs _
 ·exact hbel.frame _
 ·intro j t r hj hv
  rw[hr]at hj hv
  match j,hj,hv with
  |0,hj,hv =>
   simp only[QrM,QrJ,QrP]at hj
   have hv':r = .bool true:=by
    have:(some (Value.bool true))=some r:=hv
    cases this;rfl
   subst hj;subst hv'
   exact okWide_bool_mk hb true
  |j+1,hj,hv=>simp at hj
 ·have hA':=Qa0 (sp:=fun _=>true) hl hbel _ _ _ _ hp hA fun x hx=>⟨hlt x hx,rfl⟩
  refine⟨_,[],[]++p,⟨[]++p,[],Qdo (hres 0 _ true) hA',hvs _,by simp,?_,?_⟩,?_⟩
  ·intro b off hm
   have hm':MemPlace.cell b off∈p:=by simpa using hm
   exact(hbel.frozen (p:=⟨b,off,none⟩) (hlt _ hm')).trans (hfz b off hm')
  ·intro ha
   simpa using hnd ha
  ·intro x hx _
   simpa using hx
theorem QnU(c:Cx):RelL c [] #[]:=⟨rfl,fun j a u h=>by simp at h⟩
theorem Qhz{c:Cx}{a:AV}{asx:List AV}{u:Value}{us:List Value}(h:Rel c a u)(hs:RelL c asx us.toArray):RelL c (a::asx) (u::us).toArray:=by
 refine⟨by have:=hs.1;simp at this ⊢;exact this,fun j x v hx hv=>?_⟩
 cases j with
 |zero=>simp at hx hv;subst hx;subst hv;exact h
 |succ j=>exact hs.2 j x v (by simpa using hx) (by simpa using hv)
end Go.Proofs.YticgcpebdldbgaaDoor.Ab
namespace Go.Proofs.YticgcpebdldbgaaDoor.Ab
open Go.RowKit
def HasG(h:AH)(g:Nat)(cs:Array Value):Prop:=∃(i:Nat) (ty:TypeId) (fr:Nat×Nat),h[i]? = some (.glob g cs ty fr)
theorem HasG.app{h:AH}{g:Nat}{cs:Array Value}(H:HasG h g cs)(l:AH):HasG (h++l) g cs:=let ⟨i,ty,fr,e⟩:=H;⟨i,ty,fr,hext e l⟩
theorem HasG.world{c:Cx}(hst:St c){g:Nat}{cs:Array Value}(H:HasG c.h g cs):∃ty fr,c.w.heap[g]? = some (.cells cs ty fr) :=
 let ⟨i,ty,fr,e⟩:=H;⟨ty,fr,(hst.blocks i _ e).2⟩
theorem HasG.kin{c c':Cx}(hev:Ev c c'){g:Nat}{cs:Array Value}(H:HasG c.h g cs):HasG c'.h g cs:=by
 obtain⟨i,ty,fr,e⟩:=H
 obtain⟨b',hb,hk⟩:=hev.kin i _ e
 simp only[Kin]at hk
 obtain⟨rfl,_⟩:=hk
 exact⟨i,ty,fr,hb⟩
structure GV where
 g:Nat
 cs:Array Value
 ty:TypeId
 fr:Nat×Nat
def GV.blk(x:GV):AB:=.glob x.g x.cs x.ty x.fr
def QdY(W:World)(gs:List GV):Cx:=⟨fun id=>(gs[id]?).map (·.g),gs.map GV.blk,W⟩
theorem Qa9{W:World}{gs:List GV}{id:Nat}{b:AB}(h:(QdY W gs).h[id]? = some b):∃x,gs[id]? = some x∧b=x.blk∧(QdY W gs).ρ id=some x.g:=by
 simp only[QdY,List.getElem?_map,Option.map_eq_some_iff]at h ⊢
 obtain⟨x,hx,rfl⟩:=h
 exact⟨x,hx,rfl,x,hx,rfl⟩
theorem Ql0{l:List Nat}(hn:l.Nodup){i j a:Nat}(hi:l[i]? = some a)(hj:l[j]? = some a):i=j:=by
 have hp:=List.pairwise_iff_getElem.1 hn
 obtain⟨li,ei⟩:=List.getElem?_eq_some_iff.1 hi
 obtain⟨lj,ej⟩:=List.getElem?_eq_some_iff.1 hj
 rcases Nat.lt_trichotomy i j with h|h|h
 ·exact absurd (ei.trans ej.symm) (hp i j li lj h)
 ·exact h
 ·exact absurd (ej.trans ei.symm) (hp j i lj li h)
theorem Qn5{W:World}{gs:List GV}(hw:∀x∈gs,W.heap[x.g]? = some (.cells x.cs x.ty x.fr))(hn:(gs.map (·.g)).Nodup):St (QdY W gs):=by
 refine⟨fun id b h=>?_,fun i j a b B hi hj _ _ hρi hρj=>?_⟩
 ·obtain⟨x,hx,rfl,hρ⟩:=Qa9 h
  exact⟨hρ,hw x (List.mem_of_getElem? hx)⟩
 ·obtain⟨x,hx,rfl,hρ⟩:=Qa9 hi
  obtain⟨y,hy,rfl,hρ'⟩:=Qa9 hj
  have e:x.g=y.g:=(Option.some.inj (hρ.symm.trans hρi)).trans (Option.some.inj (hρ'.symm.trans hρj)).symm
  have e1:(gs.map (·.g))[i]? = some x.g:=by rw[List.getElem?_map,hx];rfl
  have e2:(gs.map (·.g))[j]? = some x.g:=by rw[List.getElem?_map,hy,e];rfl
  exact Ql0 hn e1 e2
theorem QgU{W:World}{gs:List GV}{c:Cx}(hw:∀x∈gs,W.heap[x.g]? = some (.cells x.cs x.ty x.fr))(hst:St c)(h:Ev (QdY W gs) c):Go.RowKit.Below W.heap.size W c.w:=by
 refine⟨h.os,h.tape,h.output,h.size,fun k hk=>?_⟩
 by_cases ho:(QdY W gs).owns k
 ·obtain⟨id,b,hb,_,hρ⟩:=ho
  obtain⟨x,hx,rfl,hρ'⟩:=Qa9 hb
  obtain rfl:=Option.some.inj (hρ.symm.trans hρ')
  obtain⟨b',hb',hk'⟩:=h.kin id _ hb
  simp only[GV.blk,Kin]at hk'
  obtain⟨rfl,_⟩:=hk'
  rw[(hst.blocks id _ hb').2,hw x (List.mem_of_getElem? hx)]
 ·exact h.frame k hk ho
theorem Qms{W:World}{gs:List GV}{a:AV}{u:Value}(h:Rel (base0 W) a u):Rel (QdY W gs) a u:=by
 have hp:∀{B o:Nat} {u:Value},(base0 W).cellP B o u→(QdY W gs).cellP B o u:=fun{B o u} h=>⟨h.1,h.2.1,fun id b hb hl hρ=>.inr (by
  obtain⟨x,_,rfl,_⟩:=Qa9 hb
  exact⟨_,_,_,_,rfl⟩)⟩
 induction h with
 |v x=>exact .v x
 |junk x=>exact .junk x
 |agg l cs hl h ih=>exact .agg l cs hl ih
 |tup l cs hl h ih=>exact .tup l cs hl ih
 |slnil s own ht=>exact .slnil s own fun b hb=>absurd (ht b hb).1 (by simp[base0])
 |slzero s own ba ht=>exact .slzero s own ba fun b hb=>absurd (ht b hb).1 (by simp[base0])
 |sl s xs own B o cap f hs hcap hmax hc hr ht ih=>exact .sl s xs own B o cap f hs hcap hmax (fun j a hj=>⟨hp (hc j a hj).1,(hc j a hj).2⟩) ih fun b hb=>absurd (ht b hb).1.1 (by simp[base0])
 |pin s xs k off B o f hs hc hr ih=>exact .pin s xs k off B o f hs (fun j a hj=>⟨hp (hc j a hj).1,(hc j a hj).2⟩) ih
 |ptr id k off x hid=>exact absurd hid (by simp[base0])
 |arr id lo len x hid=>exact absurd hid (by simp[base0])
 |row id lo len cap x hid=>exact absurd hid (by simp[base0])
 |mp id x hid=>exact absurd hid (by simp[base0])
 |fn f first cap vs ws h1 h2 hv hw ihv ihw=>exact .fn f first cap vs ws h1 h2 ihv ihw
 |ifc t a u h ih=>exact .ifc t a u ih
 |spt s xs own p n k h ih=>exact .spt s xs own p n k ih
theorem Qkn{W:World}{gs:List GV}{asx:List AV}{args:Array Value}(h:RelL (base0 W) asx args):RelL (QdY W gs) asx args:=⟨h.1,fun j a u e1 e2=>Qms (h.2 j a u e1 e2)⟩
theorem Qj2{P:Program}{f:FuncId}{asx:List AV}{W:World}{args:Array Value}{gs:List GV}(hw:∀x∈gs,W.heap[x.g]? = some (.cells x.cs x.ty x.fr))(hn:(gs.map (·.g)).Nodup)
  (hc:QL P f asx (gs.map GV.blk) fun o h'=>o = .ret (.v (.bool true))∧h'=gs.map GV.blk) (hr:RelL (QdY W gs) asx args) :
  Calls P f args W fun e W'=>e = .returned (.bool true)∧Go.RowKit.Below W.heap.size W W':=by
 refine callsIn_wide.1 ((hc.2 Fence.wide 0 (QdY W gs) args WF.wide (Qn5 hw hn) rfl hr).mono ?_)
 rintro e w' ⟨o,c',⟨rfl,hh⟩,hev,hst,rfl,hend⟩
 obtain⟨x,rfl,hx⟩:=hend
 cases hx
 exact⟨rfl,QgU hw hst hev⟩
theorem Qny{P:Program}{W:World}{l:List (String×DataW Unit)}(h:laidMetH P l W){x:String×DataW Unit}(hf:((l.filter fun x=>x.2.handleName?.isNone).filter fun y=>y.1==x.1)=[x]):laidMet P [x] W:=by
 have:=(laidMetH_iff.1 h).1.filter fun y=>y.1==x.1
 rwa [hf]at this
theorem QmU{P:Program}{W:World}{nm:String}{g:Nat}{cs:Array Value}(hn:P.globalNamed nm=some g)(h:W.var? P nm=some cs):∃ty fr,W.heap[g]? = some (.cells cs ty fr):=by
 simp only[World.var?,hn,QrO]at h
 split at h
 ·rename_i cs' ty fr e
  cases h
  exact⟨ty,fr,e⟩
 ·cases h
end Go.Proofs.YticgcpebdldbgaaDoor.Ab
namespace Go.Proofs.YticgcpebdldbgaaDoor.Ab
def QpK(l:Nat)(J:Act→World→Prop)(Q:Exit→Act→World→Prop):Exit→Act→World→Prop
 | .goto l',a,w=>l'=l∧J a w
 |e,a,w=>Q e a w
theorem Qdw{F:Fence}{n:Nat}{P:Program}{Q:Exit→Act→World→Prop}{a:Act}{w:World}{c rest:Code}(l:Nat)(J:Nat→Act→World→Prop)(hf:findLabel c l=some rest)
  (first:c.wpIn F n P (QpK l (fun a w=>∃m,J m a w) Q) a w) (pass:∀m a w,J m a w→rest.wpIn F n P (QpK l (fun a w=>∃m',m'<m∧J m' a w) Q) a w):(Code.scope c).wpIn F n P Q a w:=by
 intro b k cs hro hb hr
 have h0:(lone (b.atR a (.code (.scope c)::k)) cs w).fenced P F:=fenced_calm hb hr rfl
 have hg:gotoIn l (.inScope c::k)=some (.code rest :: .inScope c::k):=by simp[gotoIn,hf]
 have hx:∀id,exitTo id (.inScope c::k)=exitTo id k:=fun id=>by simp[exitTo]
 have key:∀(M m:Nat) a w,m<M→J m a w→∃e a' w',Q e a' w'∧ArrivesIn (fun x=>x.fenced P F) P (lone (b.atR a (.code rest :: .inScope c::k)) cs w) b k cs e a' w':=by
  intro M
  induction M with
  |zero=>intro m a w hm;omega
  |succ M ih =>
   intro m a w hm hJ
   obtain⟨e,a₁,w₁,hq,harr⟩:=pass m a w hJ b (.inScope c::k) cs hro hb hr
   cases e with
   |normal=>exact⟨.normal,a₁,w₁,hq,StepsIn.trans harr (.one (fenced_calm hb hr rfl) QaZ)⟩
   |exit id=>exact⟨.exit id,a₁,w₁,hq,fun k' hk=>harr.1 k' (by rw[hx];exact hk),fun hr' hk=>harr.2 hr' (by rw[hx];exact hk)⟩
   |goto l' =>
    obtain⟨rfl,m',hlt,hJ'⟩:=hq
    obtain⟨e₂,a₂,w₂,hq₂,harr₂⟩:=ih m' a₁ w₁ (by omega) hJ'
    exact⟨e₂,a₂,w₂,hq₂,.of_steps (harr.1 _ hg) harr₂⟩
   |ret=>exact⟨_,a₁,w₁,hq,harr⟩
   |panic ch=>exact⟨_,a₁,w₁,hq,harr⟩
   |outgrown=>exact⟨_,a₁,w₁,hq,harr⟩
 obtain⟨e,a₁,w₁,hq,harr⟩:=first b (.inScope c::k) cs hro hb hr
 cases e with
 |normal=>exact⟨.normal,a₁,w₁,hq,.head h0 XV (StepsIn.trans harr (.one (fenced_calm hb hr rfl) QaZ))⟩
 |exit id =>
  exact⟨.exit id,a₁,w₁,hq,fun k' hk=>.head h0 XV (harr.1 k' (by rw[hx];exact hk)),
   fun hr' hk=>let ⟨k₁,h1,h2⟩:=harr.2 hr' (by rw[hx];exact hk);⟨k₁,h1,.head h0 XV h2⟩⟩
 |goto l' =>
  obtain⟨rfl,m,hJ'⟩:=hq
  obtain⟨e₂,a₂,w₂,hq₂,harr₂⟩:=key (m+1) m a₁ w₁ (by omega) hJ'
  exact⟨e₂,a₂,w₂,hq₂,.of_steps (.head h0 XV (harr.1 _ hg)) harr₂⟩
 |ret=>exact⟨_,a₁,w₁,hq,.of_steps (.one h0 XV) harr⟩
 |panic ch=>exact⟨_,a₁,w₁,hq,.of_steps (.one h0 XV) harr⟩
 |outgrown=>exact⟨_,a₁,w₁,hq,.of_steps (.one h0 XV) harr⟩
def ZW(P:Program)(N l:Nat)(J:AS→Prop)(code:Code)(Q:AExit→AS→Prop)(s:AS):Prop :=
 ∀(F:Fence) (n:Nat) (base:Bs) (c:Cx) (a:Act),WF F→St c→SR N (base,F) c s a →
  ∀R:Exit→Act→World→Prop,(∀e s' c' a' e',Q e s'→Ev c c'→St c'→SR N (base,F) c' s' a'→ExC c' e e'→R e' a' c'.w) →
   (∀s' c' a',J s'→Ev c c'→St c'→SR N (base,F) c' s' a'→R (.goto l) a' c'.w)→code.wpIn F n P R a c.w
section
variable{P:Program}{N l:Nat}{J:AS→Prop}{Q:AExit→AS→Prop}{s:AS}
theorem QcL{x:Code}(h:XS P N x Q s):ZW P N l J x Q s:=fun F n base c a hF hs hr R hR _=>h F n base c a hF hs hr R hR
theorem QjR(h:J s):ZW P N l J (.goto l) Q s:=fun F n base c a hF hs hr R _ hJ=>wpIn_goto (hJ s c a h (Ev.refl c) hs hr)
theorem YJ{x y:Code}(h:XS P N x (AExit.then (ZW P N l J y Q) Q) s):ZW P N l J (.seq x y) Q s:=by
 intro F n base c a hF hs hr R hR hJ
 refine wpIn_seq (h F n base c a hF hs hr _ ?_)
 intro e s' c' a' e' hQ hev hst hsr hex
 cases e with
 |normal =>
  cases hex
  exact hQ F n base c' a' hF hst hsr R (fun e s2 c2 a2 e2 hQ2 hev2 hst2 hsr2 hex2=>hR e s2 c2 a2 e2 hQ2 (Ev.trans hs hev hev2) hst2 hsr2 hex2) fun s2 c2 a2 h2 hev2 hst2 hsr2=>hJ s2 c2 a2 h2 (Ev.trans hs hev hev2) hst2 hsr2
 |exit id=>cases hex;exact hR _ s' c' a' _ hQ hev hst hsr rfl
 |ret=>cases hex;exact hR _ s' c' a' _ hQ hev hst hsr rfl
 |panic av=>obtain⟨x,rfl,hx⟩:=hex;exact hR _ s' c' a' _ hQ hev hst hsr ⟨x,rfl,hx⟩
theorem Qfm{x y:Code}(h:ZW P N l J x (AExit.then (ZW P N l J y Q) Q) s):ZW P N l J (.seq x y) Q s:=by
 intro F n base c a hF hs hr R hR hJ
 refine wpIn_seq (h F n base c a hF hs hr _ ?_ ?_)
 ·intro e s' c' a' e' hQ hev hst hsr hex
  cases e with
  |normal =>
   cases hex
   exact hQ F n base c' a' hF hst hsr R (fun e s2 c2 a2 e2 hQ2 hev2 hst2 hsr2 hex2=>hR e s2 c2 a2 e2 hQ2 (Ev.trans hs hev hev2) hst2 hsr2 hex2) fun s2 c2 a2 h2 hev2 hst2 hsr2=>hJ s2 c2 a2 h2 (Ev.trans hs hev hev2) hst2 hsr2
  |exit id=>cases hex;exact hR _ s' c' a' _ hQ hev hst hsr rfl
  |ret=>cases hex;exact hR _ s' c' a' _ hQ hev hst hsr rfl
  |panic av=>obtain⟨x,rfl,hx⟩:=hex;exact hR _ s' c' a' _ hQ hev hst hsr ⟨x,rfl,hx⟩
 ·intro s' c' a' h1 hev hst hsr
  exact hJ s' c' a' h1 hev hst hsr
theorem Qfl{o:Operand}{x y:Code}{t:Bool}(ho:s.ev o = .v (.bool t))(h:ZW P N l J (if t then x else y) Q s):ZW P N l J (.cond o x y) Q s:=by
 intro F n base c a hF hs hr R hR hJ
 have he:=hr.eval o
 rw[ho]at he
 have hx:a.eval o = .bool t:=by
  generalize a.eval o=u at he
  cases he;rfl
 exact wpIn_cond hx (h F n base c a hF hs hr R hR hJ)
theorem Qd1{id:Nat}{x:Code}(h:ZW P N l J x (AExit.inBlock id Q) s):ZW P N l J (.block id x) Q s:=by
 intro F n base c a hF hs hr R hR hJ
 refine wpIn_block (h F n base c a hF hs hr _ ?_ ?_)
 ·intro e s' c' a' e' hQ hev hst hsr hex
  cases e with
  |normal=>cases hex;exact hR _ s' c' a' _ hQ hev hst hsr rfl
  |exit i =>
   cases hex
   simp only[Exit.inBlock]
   simp only[AExit.inBlock]at hQ
   split
   ·rename_i hi;rw[if_pos hi]at hQ;exact hR _ s' c' a' _ hQ hev hst hsr rfl
   ·rename_i hi;rw[if_neg hi]at hQ;exact hR _ s' c' a' _ hQ hev hst hsr rfl
  |ret=>cases hex;exact hR _ s' c' a' _ hQ hev hst hsr rfl
  |panic av=>obtain⟨x,rfl,hx⟩:=hex;exact hR _ s' c' a' _ hQ hev hst hsr ⟨x,rfl,hx⟩
 ·intro s' c' a' h1 hev hst hsr
  exact hJ s' c' a' h1 hev hst hsr
theorem QjS{x:Code}(I:Nat→AS→Prop)(h:∀m s,I m s→ZW P N l J x (AExit.then (Xi I m) Q) s){m:Nat}(h0:I m s):ZW P N l J (.loop x) Q s:=by
 intro F n base c a hF hs hr R hR hJ
 have key:∀(k m:Nat) (s:AS) (c:Cx) (a:Act),m<k→I m s→St c→SR N (base,F) c s a →
   (∀e s' c' a' e',Q e s'→Ev c c'→St c'→SR N (base,F) c' s' a'→ExC c' e e'→R e' a' c'.w)→(∀s' c' a',J s'→Ev c c'→St c'→SR N (base,F) c' s' a'→R (.goto l) a' c'.w)→Code.roundsIn F n P x R k a c.w:=by
  intro k
  induction k with
  |zero=>intro m _ _ _ hm;omega
  |succ k ih =>
   intro m s c a hm hI hs hr hR hJ
   rw[roundsIn_succ]
   refine h m s hI F n base c a hF hs hr _ ?_ ?_
   ·intro e s' c' a' e' hQ hev hst hsr hex
    cases e with
    |normal =>
     cases hex
     obtain⟨m',hlt,hI'⟩:=hQ
     exact ih m' s' c' a' (by omega) hI' hst hsr (fun e s2 c2 a2 e2 hQ2 hev2 hst2 hsr2 hex2=>hR e s2 c2 a2 e2 hQ2 (Ev.trans hs hev hev2) hst2 hsr2 hex2) fun s2 c2 a2 h2 hev2 hst2 hsr2=>hJ s2 c2 a2 h2 (Ev.trans hs hev hev2) hst2 hsr2
    |exit id=>cases hex;exact hR _ s' c' a' _ hQ hev hst hsr rfl
    |ret=>cases hex;exact hR _ s' c' a' _ hQ hev hst hsr rfl
    |panic av=>obtain⟨x,rfl,hx⟩:=hex;exact hR _ s' c' a' _ hQ hev hst hsr ⟨x,rfl,hx⟩
   ·intro s' c' a' h1 hev hst hsr
    exact hJ s' c' a' h1 hev hst hsr
 exact wpIn_loop_rounds (m+1) (key (m+1) m s c a (by omega) h0 hs hr hR hJ)
end
theorem ZW.mono{P:Program}{N l:Nat}{J J':AS→Prop}{x:Code}{Q:AExit→AS→Prop}{s:AS}(H:ZW P N l J x Q s)(h:∀s,J s→J' s):ZW P N l J' x Q s :=
 fun F n base c a hF hs hr R hR hJ=>H F n base c a hF hs hr R hR fun s' c' a' h1=>hJ s' c' a' (h s' h1)
theorem QjQ{P:Program}{N l:Nat}{J:AS→Prop}{x:Code}{Q:AExit→AS→Prop}{tm:Nat→AV}{h:AH}(H:ZW P N l J x Q ⟨tm,h++[.dead]⟩):ZW P N l J x Q ⟨tm,h⟩:=by
 intro F n base c a hF hst hr R hR hJ
 have hh:c.h=h:=hr.h
 subst hh
 have hg:=Grows.refl c.w
 have hev:=Ev.add hst hg .dead none (fun B h=>by cases h)
 have hst2:St (c.add c.w .dead none):=St.add hst hg .dead none (fun B h=>by cases h) trivial
 refine H F n base (c.add c.w .dead none) a hF hst2 ⟨rfl,hr.size,hr.above,hr.defers.ev hev,RoundOk.ev hev hr.round,fun t=>(hr.tm t).ev hst hev⟩ R (fun e' s' c' a' ex hq h1 h2 h3 h4=>hR e' s' c' a' ex hq (Ev.trans hst hev h1) h2 h3 h4) fun s' c' a' hq h1 h2 h3=>hJ s' c' a' hq (Ev.trans hst hev h1) h2 h3
theorem Qd2{P:Program}{N:Nat}{c rest:Code}{Q:AExit→AS→Prop}{s:AS}(l:Nat)(I:Nat→AS→Prop)(hf:findLabel c l=some rest)(first:ZW P N l (fun s=>∃m,I m s) c Q s)
  (pass:∀m s,I m s→ZW P N l (Xi I m) rest Q s):XS P N (.scope c) Q s:=by
 intro F n base c0 a hF hs hr R hR
 refine Qdw l (fun m a w=>∃s' c',c'.w=w∧I m s'∧Ev c0 c'∧St c'∧SR N (base,F) c' s' a) hf (first F n base c0 a hF hs hr _ ?_ ?_) ?_
 ·intro e s' c' a' e' hQ hev hst hsr hex
  cases e with
  |normal=>cases hex;exact hR _ s' c' a' _ hQ hev hst hsr rfl
  |exit id=>cases hex;exact hR _ s' c' a' _ hQ hev hst hsr rfl
  |ret=>cases hex;exact hR _ s' c' a' _ hQ hev hst hsr rfl
  |panic av=>obtain⟨x,rfl,hx⟩:=hex;exact hR _ s' c' a' _ hQ hev hst hsr ⟨x,rfl,hx⟩
 ·rintro s' c' a' ⟨m,hI⟩ hev hst hsr
  exact⟨rfl,m,s',c',rfl,hI,hev,hst,hsr⟩
 ·rintro m a1 w1 ⟨s1,c1,rfl,hI,hev1,hst1,hsr1⟩
  refine pass m s1 hI F n base c1 a1 hF hst1 hsr1 _ ?_ ?_
  ·intro e s' c' a' e' hQ hev hst hsr hex
   have hev':=Ev.trans hs hev1 hev
   cases e with
   |normal=>cases hex;exact hR _ s' c' a' _ hQ hev' hst hsr rfl
   |exit id=>cases hex;exact hR _ s' c' a' _ hQ hev' hst hsr rfl
   |ret=>cases hex;exact hR _ s' c' a' _ hQ hev' hst hsr rfl
   |panic av=>obtain⟨x,rfl,hx⟩:=hex;exact hR _ s' c' a' _ hQ hev' hst hsr ⟨x,rfl,hx⟩
  ·rintro s' c' a' ⟨m',hlt,hI'⟩ hev hst hsr
   exact⟨rfl,m',hlt,s',c',rfl,hI',Ev.trans hs hev1 hev,hst,hsr⟩
theorem Qg2{P:Program}{N:Nat}{c x:Code}{Q:AExit→AS→Prop}{s:AS}(l:Nat)(I:Nat→AS→Prop)(hf:findLabel c l=some (.seq .skip x))
  (first:(∀s,(∃m,I m s)→ZW P N l (fun s=>∃m,I m s) x Q s)→ZW P N l (fun s=>∃m,I m s) c Q s)
  (pass:∀m s,I m s→ZW P N l (Xi I m) x Q s):XS P N (.scope c) Q s :=
 Qd2 l I hf (first fun s ⟨m,h⟩=>(pass m s h).mono fun _ ⟨m',_,h'⟩=>⟨m',h'⟩) fun m s h=>YJ (Qk (pass m s h))
end Go.Proofs.YticgcpebdldbgaaDoor.Ab
namespace Go.Proofs.YticgcpebdldbgaaDoor.Ab
theorem Qlv{P:Program}{c:Cx}(hst:St c){g:Nat}{cs:Array Value}(hg:HasG c.h g cs){t:TypeId}(ht:Xr P t=some (true,cs.size))(h1:cs.toList.all Value.oneCell'=true) :
  (Instr.loadAt t (.pointer (some ⟨g,0,none⟩))).run P c.w = .ok (.agg cs) c.w:=by
 obtain⟨ty,fr,hc⟩:=hg.world hst
 obtain⟨hagg,hsize⟩:=Z5 ht c.w
 have hcell:∀j,j<cs.size→c.w.cell? ((⟨g,0,none⟩:Addr).add j)=some (cs.getD j undef):=fun j hj=>by
  rw[addr_add,Nat.zero_add,Xz hc,Array.getD_eq_getD_getElem?,Array.getElem?_eq_getElem hj];rfl
 have hr:=run_loadCells (P:=P) c.w ⟨g,0,none⟩ cs.size (fun j=>cs.getD j undef) hcell
 simp only[Instr.loadAt,Instr.sureAddr,loadVar,Sem.run_bind,Sem.run_pure,Result.andThen_ok,hagg,hsize,Sem.run_ite,if_true,hr]
 congr 2
 apply Array.ext
 ·simp
 ·intro i h2 h3
  simp[Array.getD_eq_getD_getElem?,Array.getElem?_eq_getElem h3]
def Qm4(P:Program)(N:Nat)(ops:Array Oper)(o:Oper)(K:AS→Prop)(s:AS):Prop :=
 match Qd ops s.tm o with
 |some true=>(match o.op with
  | .load t x=>∃g cs,s.ev x = .v (.pointer (some ⟨g,0,none⟩))∧HasG s.h g cs∧Xr P t=some (true,cs.size)∧cs.toList.all Value.oneCell'=true∧K (AS.put N s o.dst (.v (.agg cs)))
  |_=>False)
 |some false=>K (AS.put N s o.dst (.v undef))
 |none=>False
theorem Qia{P:Program}{N:Nat}{base:Bs×Fence}{o:Oper}{s:AS}{t:TypeId}{x:Operand}{g:Nat}{cs:Array Value}(hop:o.op = .load t x)(hx:s.ev x = .v (.pointer (some ⟨g,0,none⟩)))(hg:HasG s.h g cs)(ht:Xr P t=some (true,cs.size))(h1:cs.toList.all Value.oneCell'=true){K:AS→Prop}
  (H:K (AS.put N s o.dst (.v (.agg cs)))) {F:Fence} {n:Nat} {c:Cx} {a:Act} (hF:WF F) (hst:St c) (hr:SR N base c s a)
  {next:Act→World→Prop} {Qx:Exit→Act→World→Prop} (hK:∀s' c' a',K s'→Ev c c'→St c'→SR N base c' s' a'→next a' c'.w):o.wpIn F n P a c.w next Qx:=by
 refine⟨fun f _=>hF.fn f,?_⟩
 rw[Oper.semAt_eq _ _ _ (fun q=>by rw[hop];intro h;cases h)]
 have he:=hr.eval x
 rw[hx]at he
 have hu:a.eval x = .pointer (some ⟨g,0,none⟩):=by
  generalize a.eval x=u at he
  cases he;rfl
 have hl:=Qlv (P:=P) hst (by rw[hr.h];exact hg) ht h1
 have hrun':(execOp a.eval o).run P c.w = .ok (.value (.agg cs)) c.w:=by
  simp only[execOp,hop,hu,Sem.run_bind,hl,Result.andThen_ok,Sem.run_pure]
 rw[hrun']
 have hp:=hr.put hst (Ev.refl c) o.dst (.v (.agg cs))
 rw[hr.h]at hp
 exact hK _ c _ H (Ev.refl c) hst hp
theorem QcM{P:Program}{N:Nat}{Q:AExit→AS→Prop}{s:AS}{id:Nat}{ops:Array Oper}(i:Nat){o:Oper}(ho:ops.toList[i]? = some o)
  (H:∀(K:AS→Prop) (E:AV→AS→Prop),(∀s,Q .normal s→K s)→(∀r s,Q (.panic r) s→E r s)→OpsW P N ops (ops.toList.take i) (Qm4 P N ops o (OpsW P N ops (ops.toList.drop (i+1)) K E)) E s):XS P N (.region id ops false) Q s:=by
 intro F n base c a hF hst hr R hR
 refine wpIn_region ?_
 have hlt:=Qs ho
 have hH:=H (fun s'=>Q .normal s') (fun r s'=>Q (.panic r) s') (fun _ h=>h) (fun _ _ h=>h)
 have hi:(ops.toList.take i).length=i:=by rw[List.length_take];omega
 have hrange:List.range ops.size=List.range' 0 (ops.toList.take i).length++(i::(List.range' (i+1) (ops.toList.drop (i+1)).length++[])):=by
  rw[hi,List.append_nil,List.length_drop,List.range_eq_range',←Array.length_toList]
  have:ops.toList.length=i+(1+(ops.toList.length - (i+1))):=by omega
  conv=>lhs;rw[this]
  rw[←List.range'_append_1,Nat.zero_add,←List.range'_append_1]
  rfl
 have hget:∀j,(ops.toList.drop (i+1))[j]? = ops[i+1+j]? := fun j=>by rw[List.getElem?_drop];simp
 rw[hrange]
 refine Qbn hF (ops.toList.take i) 0 s c a (fun j hj=>by rw[List.getElem?_take,if_pos (by omega)];simp) hH hst hr ?_ ?_
 ·intro s1 c1 a1 h1 h2 h3 h4
  have h0:ops[i]? = some o:=by rw[←ho];simp
  have hrest:∀s2 c2 a2,OpsW P N ops (ops.toList.drop (i+1)) (fun s'=>Q .normal s') (fun r s'=>Q (.panic r) s') s2→Ev c c2→St c2→SR N (base,F) c2 s2 a2→wpOpsIn F n P ops R (List.range' (i+1) (ops.toList.drop (i+1)).length++[]) a2 c2.w:=by
   intro s2 c2 a2 hq he2 hst2 hr2
   refine Qbn hF _ (i+1) s2 c2 a2 (fun j _=>hget j) hq hst2 hr2 ?_ ?_
   ·intro s' c' a' hQ k1 k2 k3
    simp only[wpOpsIn]
    exact hR _ s' c' a' _ hQ (Ev.trans hst he2 k1) k2 k3 rfl
   ·intro r s' c' a' x hQ k1 k2 k3 hx
    exact hR _ s' c' a' _ hQ (Ev.trans hst he2 k1) k2 k3 ⟨x,rfl,hx⟩
  simp only[wpOpsIn,h0]
  unfold Qm4 at h1
  split at h1
  ·rename_i hw
   rw[Xg h4 hw]
   simp only[if_true]
   split at h1
   ·rename_i t x hop
    obtain⟨g,cs,g1,g2,g3,g4,g5⟩:=h1
    exact Qia hop g1 g2 g3 g4 g5 hF h3 h4 fun s' c' a' hK k1 k2 k3=>hrest s' c' a' hK (Ev.trans hst h2 k1) k2 k3
   ·exact h1.elim
  ·rename_i hw
   rw[Xg h4 hw]
   simp only[QrN,if_false]
   refine⟨fun f _=>hF.fn f,?_⟩
   have hr':=h4.put h3 (Ev.refl c1) o.dst (.v undef)
   rw[h4.h]at hr'
   exact hrest _ c1 _ h1 h2 h3 hr'
  ·exact h1.elim
 ·intro r s' c' a' x hQ h1 h2 h3 hx
  exact hR _ s' c' a' _ hQ h1 h2 h3 ⟨x,rfl,hx⟩
theorem QeW{P:Program}{N:Nat}{Q:AExit→AS→Prop}{s:AS}{id:Nat}{ops:Array Oper}{y:Code}(i:Nat){o:Oper}(ho:ops.toList[i]? = some o)
  (H:∀(K:AS→Prop) (E:AV→AS→Prop),(∀s,XS P N y Q s→K s)→(∀r s,Q (.panic r) s→E r s)→OpsW P N ops (ops.toList.take i) (Qm4 P N ops o (OpsW P N ops (ops.toList.drop (i+1)) K E)) E s):XS P N (.seq (.region id ops false) y) Q s :=
 Qay (QcM i ho (fun K E hK hE=>H K E hK hE))
end Go.Proofs.YticgcpebdldbgaaDoor.Ab
namespace Go.Proofs.YticgcpebdldbgaaDoor.Ab
open Go.Lib
theorem Qoh{a b:ByteArray}(h:a.data.toList=b.data.toList):a=b:=by
 obtain⟨a⟩:=a;obtain⟨b⟩:=b
 congr 1
 exact Array.toList_inj.1 h
end Go.Proofs.YticgcpebdldbgaaDoor.Ab
set_option maxRecDepth 4000
namespace Go.Proofs.YticgcpebdldbgaaDoor.Ab
open Go.Proofs
structure Pz where
 all:List Tk
 i:Nat
 j:Nat
 g:Nat
def Tk.av(t:Tk):AV:=.agg [.i t.kind,.i t.pos,.v (.string t.text)]
def tks(l:List Tk):List AV:=l.map Tk.av
def strs(l:List ByteArray):List AV:=l.map fun s=>.v (.string s)
theorem YH(l:List ByteArray):(strs l).length=l.length:=List.length_map _
theorem Qb2(l m:List ByteArray):strs (l++m)=strs l++strs m:=List.map_append
theorem Z3(l:List Tk):(tks l).length=l.length:=List.length_map _
theorem Qbq(n:Nat)(l:List ByteArray):∀a∈flat (strs l),Below n a:=by
 intro a ha
 simp only[flat,strs,List.mem_flatMap,List.mem_map]at ha
 obtain⟨x,⟨y,_,rfl⟩,hx⟩:=ha
 simp only[AV.cells,List.mem_singleton]at hx
 subst hx
 exact .v _
theorem QbB(n:Nat)(l:List Tk):∀a∈flat (tks l),Below n a:=by
 intro a ha
 simp only[flat,tks,List.mem_flatMap,List.mem_map]at ha
 obtain⟨x,⟨y,_,rfl⟩,hx⟩:=ha
 simp only[Tk.av,AV.cells,List.mem_cons,List.not_mem_nil,or_false]at hx
 rcases hx with rfl|rfl|rfl <;> exact .v _
theorem QmK{l:List Tk}{k:Nat}(h:k<l.length):(tks l)[k]? = some (l[k]).av:=by
 rw[tks,List.getElem?_map,List.getElem?_eq_getElem h];rfl
theorem Tk.Qq0(t:Tk):t.av.cells=[.i t.kind,.i t.pos,.v (.string t.text)]:=rfl
theorem Tk.Qq1(t:Tk):t.av.isAgg=true:=rfl
def QfE(m:List (ByteArray×AV))(p:ByteArray×Nat):List (ByteArray×AV):=if p.1.toList≠[95]∧(sget p.1 m).isSome=true then m else supd p.1 (.i (p.2:Nat)) m
def kn(names:List ByteArray):List (ByteArray×AV):=names.zipIdx.foldl QfE []
theorem QlM(names:List ByteArray)(x:ByteArray):kn (names++[x])=QfE (kn names) (x,names.length):=by
 rw[kn,List.zipIdx_append,List.foldl_append,Nat.zero_add];rfl
theorem Qgm(l m:List ByteArray)(x:ByteArray):nameAt (l++m) x=if nameAt l x<l.length then nameAt l x else l.length+nameAt m x:=by
 unfold nameAt
 rw[List.findIdx_append]
 split
 ·rfl
 ·omega
theorem toList_inj{x y:ByteArray}(h:x.toList=y.toList):x=y:=by
 rw[Lib.toList_data,Lib.toList_data]at h
 exact Qoh h
theorem Qi8(x:ByteArray)(hx:x.toList≠[95]):∀(n:Nat) (names:List ByteArray),names.length=n→sget x (kn names)=if nameAt names x<names.length then some (.i (nameAt names x:Nat))else none
 |0,names,h=>by
  obtain rfl:=List.eq_nil_of_length_eq_zero h
  rfl
 |n+1,names,h=>by
  have hne:names≠[]:=by rintro rfl;cases h
  obtain⟨l,y,rfl⟩:∃l' u,names=l'++[u]:=⟨_,_,(List.dropLast_concat_getLast hne).symm⟩
  have hl:l.length=n:=by simpa using h
  have ih:=Qi8 x hx n l hl
  rw[QlM,Qgm,List.length_append,List.length_singleton]
  have h1:nameAt [y] x=if y=x then 0 else 1:=by
   unfold nameAt
   rw[List.findIdx_cons,List.findIdx_nil]
   by_cases e:y=x
   ·subst e;simp
   ·rw[if_neg e,show(y.toList==x.toList)=false by simpa using fun q=>e (toList_inj q)];rfl
  unfold QfE
  by_cases hc:y.toList≠[95]∧(sget y (kn l)).isSome=true
  ·rw[if_pos hc,ih]
   by_cases hf:nameAt l x<l.length
   ·simp only[if_pos hf];rw[if_pos (by omega)]
   ·simp only[if_neg hf,h1]
    by_cases e:y=x
    ·subst e
     rw[ih,if_neg hf]at hc
     exact absurd hc.2 (by simp)
    ·rw[if_neg e,if_neg (by omega)]
  ·rw[if_neg hc,QhG,ih]
   by_cases hf:nameAt l x<l.length
   ·simp only[if_pos hf]
    rw[if_pos (show nameAt l x<l.length+1 by omega)]
    by_cases e:x=y
    ·subst e
     exact absurd ⟨hx,by rw[ih,if_pos hf];rfl⟩ hc
    ·rw[if_neg e]
   ·simp only[if_neg hf,h1]
    by_cases e:x=y
    ·subst e;simp only[if_true];rw[if_pos (by omega)];rfl
    ·have e2:¬y=x:=fun q=>e q.symm
     simp only[if_neg e,if_neg e2]
     rw[if_neg (by omega)]
theorem Qo0(names:List ByteArray):∀p∈kn names,∃k:Nat,p.2 = .i k:=by
 have hsup:∀(x:ByteArray) (k:Nat) (m:List (ByteArray×AV)),(∀p∈m,∃k:Nat,p.2 = .i k)→∀p∈supd x (.i k) m,∃k:Nat,p.2 = .i k:=by
  intro x k m
  induction m with
  |nil=>intro _ p hp;simp only[supd,List.mem_singleton]at hp;subst hp;exact⟨k,rfl⟩
  |cons q m ih =>
   intro hm p hp
   simp only[supd]at hp
   split at hp
   ·rcases List.mem_cons.1 hp with rfl|hp
    ·exact⟨k,rfl⟩
    ·exact hm p (List.mem_cons_of_mem _ hp)
   ·rcases List.mem_cons.1 hp with rfl|hp
    ·exact hm p (List.mem_cons_self ..)
    ·exact ih (fun p hp=>hm p (List.mem_cons_of_mem _ hp)) p hp
 have key:∀(l:List (ByteArray×Nat)) (m:List (ByteArray×AV)),(∀p∈m,∃k:Nat,p.2 = .i k)→∀p∈l.foldl QfE m,∃k:Nat,p.2 = .i k:=by
  intro l
  induction l with
  |nil=>intro m hm;exact hm
  |cons q l ih =>
   intro m hm
   rw[List.foldl_cons]
   refine ih _ ?_
   unfold QfE
   split
   ·exact hm
   ·exact hsup _ _ _ hm
 exact key _ [] (by simp)
def pB(P:Pz)(s:PS):AB:=.cells 66 4 [.agg [.sl 3 (tks P.all) none,.i ((P.all.length - s.toks.length:Nat):Int),.sl 1 (strs s.names) (some P.g),.mp P.j]]
def kB(s:PS):AB:=.map (smap (kn s.names))
def gB(s:PS):AB:=.grow 9 1 s.names.length
def ph(h:AH)(P:Pz)(s:PS):AH:=((h.set P.i (pB P s)).set P.j (kB s)).set P.g (gB s)
structure Pz.ok (P:Pz) (h:AH):Prop where
 i:P.i<h.length
 j:P.j<h.length
 g:P.g<h.length
 ij:P.i≠P.j
 ig:P.i≠P.g
 jg:P.j≠P.g
theorem Pz.ok.app{P:Pz}{h:AH}(H:P.ok h)(L:AH):P.ok (h++L):=⟨by rw[List.length_append];have:=H.i;omega,by rw[List.length_append];have:=H.j;omega,by rw[List.length_append];have:=H.g;omega,H.ij,H.ig,H.jg⟩
theorem QU(h:AH)(P:Pz)(s:PS):(ph h P s).length=h.length:=by simp[ph]
section
variable{h:AH}{P:Pz}(H:P.ok h)
include H
theorem Q4(s:PS)(L:AH):ph (h++L) P s=ph h P s++L:=by
 unfold ph
 rw[List.set_append_left _ _ H.i,List.set_append_left _ _ (by simpa using H.j),List.set_append_left _ _ (by simpa using H.g)]
theorem X6(s:PS):(ph h P s)[P.i]? = some (pB P s):=by
 unfold ph
 rw[List.getElem?_set_ne (Ne.symm H.ig),List.getElem?_set_ne (Ne.symm H.ij),List.getElem?_set_self H.i]
theorem Qo9(s:PS):(ph h P s)[P.j]? = some (kB s):=by
 unfold ph
 rw[List.getElem?_set_ne (Ne.symm H.jg),List.getElem?_set_self (by simpa using H.j)]
theorem QqP(s:PS):(ph h P s)[P.g]? = some (gB s):=by
 unfold ph
 rw[List.getElem?_set_self (by simpa using H.g)]
theorem ph_i(s:PS)(L:AH):(ph h P s++L)[P.i]? = some (pB P s):=by rw[List.getElem?_append_left (by rw[QU];exact H.i)];exact X6 H s
theorem Qpa{s s':PS}(hn:s'.names=s.names):(ph h P s).set P.i (pB P s')=ph h P s':=by
 unfold ph
 rw[List.set_comm _ _ (Ne.symm H.ig),List.set_comm _ _ (Ne.symm H.ij),List.set_set]
 simp only[kB,gB,hn]
theorem QpX{s s':PS}(hn:s'.names=s.names)(L:AH):(ph h P s++L).set P.i (pB P s')=ph h P s'++L:=by
 rw[List.set_append_left _ _ (by rw[QU];exact H.i),Qpa H hn]
theorem Zu{s:PS}{k:Nat}(h1:k≠P.i)(h2:k≠P.j)(h3:k≠P.g):(ph h P s)[k]? = h[k]? := by
 have _u:=H
 unfold ph
 rw[List.getElem?_set_ne (Ne.symm h3),List.getElem?_set_ne (Ne.symm h2),List.getElem?_set_ne (Ne.symm h1)]
theorem QnL(s:PS):(pB P s).Below h.length:=by
 intro a ha
 simp only[flat,List.flatMap_cons,List.flatMap_nil,Qsc,AV.cells,List.mem_cons,List.not_mem_nil,or_false]at ha
 rcases ha with rfl|rfl|rfl|rfl
 ·exact .sl 3 _ none (QbB _ _) (fun b hb=>by cases hb)
 ·exact .v _
 ·exact .sl 1 _ _ (Qbq _ _) (fun b hb=>by cases hb;exact H.g)
 ·exact .mp _ H.j
theorem Qi7(s:PS)(n:Nat):(kB s).Below n:=Qkx _ _ fun p hp=>by
 have _u:=H
 obtain⟨k,e⟩:=Qo0 s.names p hp
 rw[e];exact .v _
theorem Qby{s:PS}{s0:PS}{k:Nat}{b:AB}(hb:(ph h P s)[k]? = some b):(ph h P s0)[k]? = some b∨b.Below h.length:=by
 by_cases h1:k=P.i
 ·subst h1;rw[X6 H]at hb;cases hb;exact .inr (QnL H s)
 ·by_cases h2:k=P.j
  ·subst h2;rw[Qo9 H]at hb;cases hb;exact .inr (Qi7 H s _)
  ·by_cases h3:k=P.g
   ·subst h3;rw[QqP H]at hb;cases hb;exact .inr trivial
   ·rw[Zu H h1 h2 h3]at hb ⊢;exact .inl hb
theorem Xl{s s':PS}{L:AH}{r r':AV}{Q:AV→AH→Prop}(hf:Frz (ph h P s'++L) h.length r r')(hq:Q r' (ph h P s')):Leaves (ph h P s) (ph h P s'++L) r Q:=by
 have e:(ph h P s'++L).take h.length=ph h P s':=by rw[←QU h P s',List.take_left]
 refine .inl ⟨h.length,r',by rw[QU];exact Nat.le_refl _,by rw[List.length_append,QU];omega,.inr fun k b hk=>?_,hf,by rw[e];exact hq⟩
 rw[e]at hk
 exact Qby H hk
end
theorem XB(h:AH)(P:Pz)(s:PS)(L:AH):(ph h P s++L)[h.length]? = L[0]? := by rw[←QU h P s];exact Qad _ _
theorem Yf(h:AH)(P:Pz)(s:PS)(L:AH)(k:Nat):(ph h P s++L)[h.length+k]? = L[k]? := by rw[←QU h P s];exact hget _ _ _
theorem Xk(h:AH)(P:Pz)(s:PS)(y:AB)(L:AH):(ph h P s++L).set h.length y=ph h P s++L.set 0 y:=by rw[←QU h P s];exact QbT _ _ _
theorem XL(h:AH)(P:Pz)(s:PS)(y:AB)(L:AH)(k:Nat):(ph h P s++L).set (h.length+k) y=ph h P s++L.set k y:=by rw[←QU h P s];exact hset _ _ _ _
end Go.Proofs.YticgcpebdldbgaaDoor.Ab
set_option maxRecDepth 4000
namespace Go.Proofs.YticgcpebdldbgaaDoor.Ab
open Go.Proofs
theorem QcD(n:Nat)(t:Tk):Below n t.av:=.agg _ fun a ha=>by
 simp only[List.mem_cons,List.not_mem_nil,or_false]at ha
 rcases ha with rfl|rfl|rfl <;> exact .v _
theorem Qob{s:PS}(h:s.wf):s.toks≠[]:=by
 obtain⟨l,e,hl,_⟩:=h
 rw[hl];simp
theorem QmI{all:List Tk}{s:PS}(hW:Wst all s):all.length - s.toks.length<all.length∧(tks all)[all.length - s.toks.length]? = some s.tk.av:=by
 obtain⟨pre,hp⟩:=hW.suf
 cases ht:s.toks with
 |nil=>exact absurd ht (Qob hW.wf)
 |cons t r =>
  rw[ht]at hp
  have e:s.tk=t:=by unfold PS.tk;rw[ht];rfl
  subst hp
  have hl:(pre++t::r).length - (t::r).length=pre.length:=by rw[List.length_append];omega
  rw[hl,e]
  refine⟨by rw[List.length_append,List.length_cons];omega,?_⟩
  rw[tks,List.getElem?_map,List.getElem?_append_right (Nat.le_refl _),Nat.sub_self];rfl
section
variable{P:Pz}{s:PS}(hW:Wst P.all s){X:AH}(hX:X[P.i]? = some (pB P s))
include hW hX
theorem Qos(L:AH):(X++L)[P.i]? = some (pB P s):=by have _u:=hW;rw[List.getElem?_append_left (Qs hX)];exact hX
theorem XM:QL Tryd.prog 18 [.ptr P.i 0 0] X fun o h'=>o = .ret s.tk.av∧h'=X:=by
 obtain⟨h1,h2⟩:=QmI hW
 have hi:=Qos hW hX
 have hi0:=hX
 rw[pB]at hi0
 simp only[pB]at hi
 have e1:=Tk.Qq0 s.tk
 have e2:=Tk.Qq1 s.tk
 generalize P.all.length - s.toks.length=k at *
 refine Qe Tryd.func18 rfl Tryd.call18 Tryd.ntmps18 Tryd.results18 (by simp) ?_
 repeat (first|((first|(with_reducible refine Qa fun K E hK hE=>?_)|(refine QS (id:=1) [(0,0),(1,0),(2,0),(3,0),(4,0),(5,0),(6,0),(7,0),(8,0),(9,0),(10,2)] mixed (by kernel_rfl) fun K hK=>?_));simp -implicitDefEqProofs only[Qc,Qd,OpW,aop,undef,AS.ev,Qr,AV.QqY,↓reduceIte,Qg,Qw,Qv,Qu,Ql,QM,ti3,ti37,ei37,ti60,zi60,Qg7,Qfu,Qp,hi,h1,h2,Z3,e1,e2,seval])|(with_reducible refine Qm ?_)|((with_reducible refine hK _ ?_);clear hK))
 simp -implicitDefEqProofs only[Qc,↓reduceIte,Qw,Qv,ti60,Qw,Qv,e1,e2,QH,Qo,Qt,QrT,seval]
 exact Qq (htake _ _) (.keep (QcD _ _)) ⟨rfl,rfl⟩
end
def Fl(p e:Int):AV:=.ifc 87 (.agg [.i p,.i e])
theorem Qbt(n:Nat)(p e:Int):Below n (Fl p e):=.ifc _ _ (.agg _ fun a ha=>by
 simp only[List.mem_cons,List.not_mem_nil,or_false]at ha
 rcases ha with rfl|rfl <;> exact .v _)
theorem YL(t:Tk)(e:Int)(a:AV)(X:AH):QL Tryd.prog 37 [a,t.av,.i e] X fun o h'=>o = .panic (Fl t.pos e)∧h'=X:=by
 have e1:=Tk.Qq0 t
 have e2:=Tk.Qq1 t
 have hu:=Tryd.underlying87
 refine Qe Tryd.func37 rfl Tryd.call37 Tryd.ntmps37 Tryd.results37 (by simp) ?_
 repeat (first|((first|(with_reducible (first|refine Qa fun K E hK hE=>?_|refine Qj fun K E hK hE=>?_)));simp -implicitDefEqProofs only[Qc,Qd,OpW,aop,undef,AS.ev,Qr,AV.QqY,↓reduceIte,Qg,Qw,Qv,QP,Q6,ti3,Xc,zi87,sp87,e1,hu,seval])|((with_reducible refine hK _ ?_);clear hK)|(with_reducible refine hE _ _ ?_))
 exact Qq (htake _ _) (.keep (Qbt _ _ _)) ⟨rfl,rfl⟩
section
variable{P:Pz}{s:PS}(hW:Wst P.all s){X:AH}(hX:X[P.i]? = some (pB P s))
include hW hX
theorem nextL(L:AH):QL Tryd.prog 18 [.ptr P.i 0 0] (X++L) fun o h'=>o = .ret s.tk.av∧h'=X++L:=XM hW (Qos hW hX L)
theorem QlK(b:ByteArray):QL Tryd.prog 60 [.ptr P.i 0 0,.v (.string b)] X fun o h'=>o = .ret (.b (s.is b.toList))∧h'=X:=by
 have cn:=XM hW hX
 have cl:=nextL hW hX
 have e1:=Tk.Qq0 s.tk
 have e2:=Tk.Qq1 s.tk
 refine Qe Tryd.func60 rfl Tryd.call60 Tryd.ntmps60 Tryd.results60 (by simp) ?_
 by_cases hk:s.tk.kind=4
 ·have z1:(s.tk.kind==4)=true:=by simpa using hk
  repeat (first|((first|(with_reducible (first|refine Qa fun K E hK hE=>?_|refine FunW.QqZ cn ?_)));simp -implicitDefEqProofs only[Qc,Qd,OpW,QB,aop,undef,AS.ev,Qr,AV.QqY,↓reduceIte,Qg,Qw,Qv,Qu,Ql,aBin,ti3,ti9,ti60,QK,QQ,zi60,e1,e2,z1,seval])|(with_reducible refine Qm ?_)|((with_reducible refine hK _ ?_);clear hK))
  simp only[QH,Qo,Qt,upd,↓reduceIte,QrP,QrT]
  exact Qq (htake _ _) (.keep (.v _)) ⟨by rw[PS.is,z1,Bool.true_and],rfl⟩
 ·have z1:(s.tk.kind==4)=false:=by simpa using hk
  repeat (first|((first|(with_reducible (first|refine Qa fun K E hK hE=>?_|refine FunW.QqZ cn ?_)));simp -implicitDefEqProofs only[Qc,Qd,OpW,QB,aop,undef,AS.ev,Qr,AV.QqY,↓reduceIte,Qg,Qw,Qv,Qu,Ql,aBin,ti3,ti60,QK,zi60,e1,e2,z1,seval])|(with_reducible refine Qm ?_)|((with_reducible refine hK _ ?_);clear hK))
  simp only[QH,Qo,Qt,upd,↓reduceIte,QrP,QrT]
  exact Qq (htake _ _) (.keep (.v _)) ⟨by rw[PS.is,z1,Bool.false_and],rfl⟩
end
end Go.Proofs.YticgcpebdldbgaaDoor.Ab
set_option maxRecDepth 4000
namespace Go.Proofs.YticgcpebdldbgaaDoor.Ab
open Go.Proofs
theorem FunW.pan{P:Program}{fv:AV}{args:List AV}{h h':AH}{r:AV}{Q:AOut→AH→Prop}(H:FunW P fv args h fun o h2=>o = .panic r∧h2=h')(k:Q (.panic r) h'):FunW P fv args h Q:=H.mono (by rintro _ _ ⟨rfl,rfl⟩;exact k)
theorem FunW.panE{P:Program}{α:Type}{fv:AV}{args:List AV}{h:AH}{h':α→AH}{r:AV}{Q:AOut→AH→Prop}(H:FunW P fv args h fun o h2=>o = .panic r∧∃x,h2=h' x)(k:∀x,Q (.panic r) (h' x)):FunW P fv args h Q:=H.mono (by rintro _ _ ⟨rfl,x,rfl⟩;exact k x)
theorem PS.Qq2{s:PS}{b:List UInt8}(h:s.is b=true):s.tk.kind≠0:=by
 simp only[PS.is,Bool.and_eq_true,beq_iff_eq]at h;rw[h.1];decide
section
variable{P:Pz}{s:PS}(hW:Wst P.all s){h:AH}(H:P.ok h)(hN:P.all.length≤1000000)
include hW H hN
theorem QpO(hk:s.tk.kind≠0):IntKind.i64.wrap (((P.all.length - s.toks.length:Nat):Int)+1)=((P.all.length - s.nx.toks.length:Nat):Int):=by
 have h1:=Xo hW.wf hk
 have h2:=hW.suf.length_le
 have _u:=H
 rw[XE (by omega)]
 congr 1;omega
theorem Ql8(hk:s.tk.kind≠0)(L:AH):(ph h P s++L).set P.i (.cells 66 4 [.agg [.sl 3 (tks P.all) none,.v (.int .i64 (IntKind.i64.wrap (((P.all.length - s.toks.length:Nat):Int)+1))),.sl 1 (strs s.names) (some P.g),.mp P.j]])=ph h P s.nx++L:=by
 rw[QpO hW H hN hk]
 exact QpX H (s:=s) (s':=s.nx) rfl L
theorem Xq:QL Tryd.prog 34 [.ptr P.i 0 0] (ph h P s) fun o h'=>o = .ret s.tk.av∧h'=ph h P s.nx:=by
 have hX:=X6 H s
 have hi:=ph_i H s
 have hp:=fun hk=>Ql8 hW H hN hk
 simp only[pB]at hi
 have cl:=nextL hW hX
 have e1:=Tk.Qq0 s.tk
 have e2:=Tk.Qq1 s.tk
 have f1:=QU h P s
 have f2:=QU h P s.nx
 have f3:=XB h P
 have f4:=Yf h P
 have f5:=Xk h P
 have f6:=XL h P
 by_cases hk:s.tk.kind=0
 ·have z1:(s.tk.kind != 0)=false:=by simpa using hk
  have en:s.nx.toks=s.toks:=by
   obtain⟨l,e,hl,he,ha⟩:=hW.wf
   cases l with
   |nil=>simp only[PS.nx,hl,Qsa]
   |cons t l =>
    have:s.tk=t:=by simp only[PS.tk,hl,Qsb,List.headD_cons]
    exact absurd (this▸hk) (ha t (by simp))
  have es:s.nx=s:=by
   show PS.mk _ s.names=s
   have:s=⟨s.toks,s.names⟩:=rfl
   rw[this];exact congrArg (fun x=>PS.mk x s.names) en
  rw[es]
  refine Qe Tryd.func34 rfl Tryd.call34 Tryd.ntmps34 Tryd.results34 (by simp) ?_
  repeat (first|((first|(with_reducible (first|refine Qa fun K E hK hE=>?_|refine Qj fun K E hK hE=>?_|refine FunW.QqZ (cl _) ?_)));simp -implicitDefEqProofs only[Qc,Qd,OpW,QB,aop,undef,AS.ev,Qr,AV.QqY,↓reduceIte,Qg,Qw,Qv,Qu,Ql,aBin,ti3,ti60,QK,zi60,f1,f3,f4,f5,f6,e1,e2,z1,seval])|(with_reducible (first|refine Qf fun K hK=>?_|refine Qi ?_|refine Qm ?_|refine QaM ?_|refine QbP ?_|refine Qk ?_|refine QF ?_|refine Qb ?_|refine Qy ?_|refine QD ?_|refine Qn ?_|refine QE ?_|refine QC ?_|refine QZ rfl ?_))|(with_reducible (first|refine hK _ ?_|(clear hK;refine hK _ ?_)|(clear hK;clear hK;refine hK _ ?_)|(clear hK;clear hK;clear hK;refine hK _ ?_));clear hK)|(refine Qh rfl ?_;simp only[↓reduceIte,QrN])|(with_reducible (first|refine hE _ _ ?_|refine QN ?_|refine Xb ?_))|(intro (b:Bool);cases b))
  simp -implicitDefEqProofs only[Qc,↓reduceIte,Qw,Qv,ti60,Qw,Qv,f3,e1,e2,QH,Qo,Qt,QrT,seval]
  have:=Xl H (s:=s) (s':=s) (L:=[.cells 60 3 [s.tk.av],.cells 60 3 [s.tk.av]]) (r:=s.tk.av) (r':=s.tk.av) (Q:=fun r h'=>AOut.ret r = .ret s.tk.av∧h'=ph h P s) (.keep (QcD _ _)) ⟨rfl,rfl⟩
  exact this
 ·have z1:(s.tk.kind != 0)=true:=by simpa using hk
  have hp':=hp hk
  refine Qe Tryd.func34 rfl Tryd.call34 Tryd.ntmps34 Tryd.results34 (by simp) ?_
  repeat (first|((first|(with_reducible (first|refine Qa fun K E hK hE=>?_|refine Qj fun K E hK hE=>?_|refine FunW.QqZ (cl _) ?_)));simp -implicitDefEqProofs only[Qc,Qd,OpW,QB,aop,undef,AS.ev,Qr,AV.QqY,↓reduceIte,Qg,Qw,Qv,Qu,Ql,aBin,ti3,ti60,QK,zi60,Qfu,Qp,f1,f3,f4,f5,f6,e1,e2,z1,hi,hp',seval])|(with_reducible (first|refine Qf fun K hK=>?_|refine Qi ?_|refine Qm ?_|refine QaM ?_|refine QbP ?_|refine Qk ?_|refine QF ?_|refine Qb ?_|refine Qy ?_|refine QD ?_|refine Qn ?_|refine QE ?_|refine QC ?_|refine QZ rfl ?_))|(with_reducible (first|refine hK _ ?_|(clear hK;refine hK _ ?_)|(clear hK;clear hK;refine hK _ ?_)|(clear hK;clear hK;clear hK;refine hK _ ?_));clear hK)|(refine Qh rfl ?_;simp only[↓reduceIte])|(with_reducible (first|refine hE _ _ ?_|refine QN ?_|refine Xb ?_))|(intro (b:Bool);cases b))
  simp -implicitDefEqProofs only[Qc,↓reduceIte,Qw,Qv,ti60,Qw,Qv,f3,e1,e2,QH,Qo,Qt,QrT,seval]
  exact Xl H (s:=s) (s':=s.nx) (.keep (QcD _ _)) ⟨rfl,rfl⟩
end
end Go.Proofs.YticgcpebdldbgaaDoor.Ab
namespace Go.Proofs.YticgcpebdldbgaaDoor.Ab
abbrev DA:=FuncId×List AV
def RelD(c:Cx)(d:DA)(x:Deferred):Prop:=∃caps,x.target = .fn (.func d.1) caps∧RelL c d.2 (x.args++caps)
theorem RelD.ev{c c':Cx}(hs:St c)(h:Ev c c'){d:DA}{x:Deferred}(hr:RelD c d x):RelD c' d x :=
 let ⟨caps,e,r⟩:=hr;⟨caps,e,r.ev hs h⟩
inductive Ent where
 |mark (D:Nat)
 |call (d:DA) (x:Deferred)
def Ent.dfr:Ent→Deferred
 | .mark D=>Qje D
 | .call _ x=>x
def Ent.da:Ent→Option DA
 | .mark _=>none
 | .call d _=>some d
def Ent.mk? : Ent→Option Nat
 | .mark D=>some D
 | .call _ _=>none
def Ent.ok(c:Cx)(lo:Nat):Ent→Prop
 | .mark D=>lo≤D∧c.w.heap[D]? = some (.deferred (some []))∧¬c.owns D
 | .call d x=>RelD c d x
theorem Ent.ok.ev{c c':Cx}(hs:St c)(h:Ev c c'){lo:Nat}{e:Ent}(hk:e.ok c lo):e.ok c' lo:=by
 cases e with
 |mark D =>
  obtain⟨h1,h2,h3⟩:=hk
  have hlt:=(Array.getElem?_eq_some_iff.1 h2).1
  exact⟨h1,(h.frame D hlt h3).trans h2,fun ho=>h3 (h.owns hlt ho)⟩
 |call d x=>exact RelD.ev hs h hk
def DefsOk(c:Cx)(lo:Nat)(ds:List DA)(l:List Deferred):Prop :=
 ∃es:List Ent,l=es.map Ent.dfr∧ds=es.filterMap Ent.da∧(es.filterMap Ent.mk?).Nodup∧∀e∈es,e.ok c lo
theorem DefsOk.ev{c c':Cx}(hs:St c)(h:Ev c c'){lo:Nat}{ds:List DA}{l:List Deferred}(hd:DefsOk c lo ds l):DefsOk c' lo ds l :=
 let ⟨es,h1,h2,h3,h4⟩:=hd;⟨es,h1,h2,h3,fun e he=>(h4 e he).ev hs h⟩
theorem QlU(Ds:List Nat):(Ds.map Ent.mark).map Ent.dfr=Ds.map Qje:=by rw[List.map_map];rfl
theorem QnB(Ds:List Nat):(Ds.map Ent.mark).filterMap Ent.da=[]:=by
 induction Ds with
 |nil=>rfl
 |cons D Ds ih=>rw[List.map_cons,List.filterMap_cons,ih];rfl
theorem QnC(Ds:List Nat):(Ds.map Ent.mark).filterMap Ent.mk? = Ds:=by
 induction Ds with
 |nil=>rfl
 |cons D Ds ih=>rw[List.map_cons,List.filterMap_cons,ih];rfl
theorem DefsOk.marks{c c':Cx}(hs:St c)(h:Ev c c'){lo:Nat}{ds:List DA}{l l':List Deferred}(hlo:lo≤c.w.heap.size)(hd:DefsOk c lo ds l)(hd':DefOk c' ⟨c.w.heap.size,l⟩ l'):DefsOk c' lo ds l':=by
 obtain⟨Ds,f1,f2,f3⟩:=hd'
 obtain⟨es,e1,e2,e3,e4⟩:=hd
 refine⟨Ds.map Ent.mark++es,?_,?_,?_,?_⟩
 ·rw[f1,List.map_append,QlU,e1]
 ·rw[List.filterMap_append,QnB,List.nil_append,e2]
 ·rw[List.filterMap_append,QnC,List.nodup_append]
  refine⟨f2,e3,fun a ha b hb hab=>?_⟩
  subst hab
  have g1:=(f3 a ha).1
  simp only[List.mem_filterMap]at hb
  obtain⟨e,he,hm⟩:=hb
  cases e with
  |call d x=>cases hm
  |mark D =>
   simp only[Ent.mk?,QrP]at hm
   subst hm
   have:=(Array.getElem?_eq_some_iff.1 (e4 _ he).2.1).1
   simp only at g1
   omega
 ·intro e he
  rcases List.mem_append.1 he with he|he
  ·obtain⟨D,hD,rfl⟩:=List.mem_map.1 he
   obtain⟨g1,g2,g3⟩:=f3 D hD
   exact⟨Nat.le_trans hlo g1,g2,g3⟩
  ·exact(e4 e he).ev hs h
structure SRd (N lo:Nat) (c:Cx) (s:AS) (a:Act) (ds:List DA):Prop where
 h:c.h=s.h
 size:a.tmps.size=N
 above:lo≤c.w.heap.size
 defs:DefsOk c lo ds a.defers
 tm:∀t,Rel c (s.tm t) (a.tmps.getD t undef)
theorem SRd.sr{N lo:Nat}{c:Cx}{s:AS}{a:Act}{ds:List DA}(h:SRd N lo c s a ds){F:Fence}(hro:F.round=none):SR N (⟨c.w.heap.size,a.defers⟩,F) c s a :=
 ⟨h.h,h.size,Nat.le_refl _,⟨[],rfl,List.nodup_nil,fun D hD=>by cases hD⟩,fun l hl=>(by rw[hro]at hl;cases hl),h.tm⟩
theorem SRd.Qrk{N lo:Nat}{c c':Cx}{s s':AS}{a a':Act}{ds:List DA}{F:Fence}(hs:St c)(h:SRd N lo c s a ds)(hev:Ev c c')(hr:SR N (⟨c.w.heap.size,a.defers⟩,F) c' s' a'):SRd N lo c' s' a' ds :=
 ⟨hr.h,hr.size,Nat.le_trans h.above hev.size,h.defs.marks hs hev h.above hr.defers,hr.tm⟩
def DefW(P:Program)(N:Nat)(code:Code)(Q:AExit→AS→List DA→Prop)(s:AS)(ds:List DA):Prop :=
 ∀(F:Fence) (n lo:Nat) (c:Cx) (a:Act),WF F→F.round=none→St c→SRd N lo c s a ds →
  ∀R:Exit→Act→World→Prop,(∀e s' ds' c' a' e',Q e s' ds'→Ev c c'→St c'→SRd N lo c' s' a' ds'→ExC c' e e'→R e' a' c'.w)→code.wpIn F n P R a c.w
section rules
variable{P:Program}{N:Nat}{Q:AExit→AS→List DA→Prop}{s:AS}{ds:List DA}
theorem YK{code:Code}(H:XS P N code (fun e s'=>Q e s' ds) s):DefW P N code Q s ds:=by
 intro F n lo c a hF hro hst hr R hR
 refine H F n ⟨c.w.heap.size,a.defers⟩ c a hF hst (hr.sr hro) R fun e s' c' a' e' hQ hev hst' hsr hex=>?_
 exact hR e s' ds c' a' e' hQ hev hst' (hr.Qrk hst hev hsr) hex
def AExit.QrC(K:AS→List DA→Prop)(Q:AExit→AS→List DA→Prop):AExit→AS→List DA→Prop
 | .normal,s,ds=>K s ds
 |e,s,ds=>Q e s ds
theorem Za{x y:Code}(h:DefW P N x (AExit.QrC (fun s ds=>DefW P N y Q s ds) Q) s ds):DefW P N (.seq x y) Q s ds:=by
 intro F n lo c a hF hro hs hr R hR
 refine wpIn_seq (h F n lo c a hF hro hs hr _ ?_)
 intro e s' ds' c' a' e' hQ hev hst hsr hex
 cases e with
 |normal =>
  cases hex
  exact hQ F n lo c' a' hF hro hst hsr R fun e s2 ds2 c2 a2 e2 hQ2 hev2 hst2 hsr2 hex2=>hR e s2 ds2 c2 a2 e2 hQ2 (Ev.trans hs hev hev2) hst2 hsr2 hex2
 |exit id=>cases hex;exact hR _ s' ds' c' a' _ hQ hev hst hsr rfl
 |ret=>cases hex;exact hR _ s' ds' c' a' _ hQ hev hst hsr rfl
 |panic av=>obtain⟨x,rfl,hx⟩:=hex;exact hR _ s' ds' c' a' _ hQ hev hst hsr ⟨x,rfl,hx⟩
theorem QbR{id:Nat}{ops:Array Oper}(i:Nat){o:Oper}{cl:Call}{f:Operand}(ho:ops.toList[i]? = some o)(hop:o.op = .defer cl)(hcl:cl.callee = .value f)
  (H:OpsW P N ops (ops.toList.take i) (fun s1=>Qd ops s1.tm o=some true∧∃g first cap,s1.ev f = .fn (.func g) first cap ∧
   OpsW P N ops (ops.toList.drop (i+1)) (fun s2=>Q .normal s2 ((g,first++cl.args.toList.map s1.ev++cap)::ds)) (fun r s2=>Q (.panic r) s2 ((g,first++cl.args.toList.map s1.ev++cap)::ds)) (AS.put N s1 o.dst (.v undef)))
   (fun r s1=>Q (.panic r) s1 ds) s):DefW P N (.region id ops false) Q s ds:=by
 intro F n lo c a hF hro hst hr R hR
 refine wpIn_region ?_
 have hlt:=Qs ho
 have hi:(ops.toList.take i).length=i:=by rw[List.length_take];omega
 have hrange:List.range ops.size=List.range' 0 (ops.toList.take i).length++(i::(List.range' (i+1) (ops.toList.drop (i+1)).length++[])):=by
  rw[hi,List.append_nil,List.length_drop,List.range_eq_range',←Array.length_toList]
  have:ops.toList.length=i+(1+(ops.toList.length - (i+1))):=by omega
  conv=>lhs;rw[this]
  rw[←List.range'_append_1,Nat.zero_add,←List.range'_append_1]
  rfl
 have hget:∀j,(ops.toList.drop (i+1))[j]? = ops[i+1+j]? := fun j=>by rw[List.getElem?_drop];simp
 rw[hrange]
 refine Qbn hF (ops.toList.take i) 0 s c a (fun j hj=>by rw[List.getElem?_take,if_pos (by omega)];simp) H hst (hr.sr hro) ?_ ?_
 ·intro s1 c1 a1 h1 h2 h3 h4
  have h0:ops[i]? = some o:=by rw[←ho];simp
  obtain⟨hw,g,first,cap,hf,hpost⟩:=h1
  simp only[wpOpsIn,h0]
  rw[Xg h4 hw]
  simp only[if_true]
  have hr1:=hr.Qrk hst h2 h4
  have hfv:=h4.eval f
  rw[hf]at hfv
  obtain⟨vs,ws,hae,hv1,hv2⟩:∃vs ws,a1.eval f = .func (.func g) vs ws∧RelL c1 first vs∧RelL c1 cap ws:=by
   generalize a1.eval f=u at hfv
   cases hfv with
   |fn _ _ _ vs ws e1 e2 g1 g2=>exact⟨vs,ws,rfl,⟨e1,g1⟩,⟨e2,g2⟩⟩
  have hargs:RelL c1 (cl.args.toList.map s1.ev) (cl.args.map a1.eval):=by
   refine⟨by simp,fun j x u hx hu=>?_⟩
   rw[List.getElem?_map]at hx
   rw[Array.getElem?_map]at hu
   cases hj:cl.args[j]? with
   |none=>simp[hj]at hu
   |some q =>
    simp only[hj,QrL,QrP]at hu
    simp only[Array.getElem?_toList,hj,QrL,QrP]at hx
    subst hx;subst hu
    exact h4.eval q
  have hD:RelD c1 (g,first++cl.args.toList.map s1.ev++cap) ⟨.fn (.func g) ws,vs++cl.args.map a1.eval⟩:=⟨ws,rfl,RelL.append (RelL.append hv1 hargs) hv2⟩
  have hrun:(execOp a1.eval o).run P c1.w = .ok (.defer ⟨.fn (.func g) ws,vs++cl.args.map a1.eval⟩) c1.w:=by
   simp only[execOp,hop,resolve,hcl,hae,Deferred.ofValue,Sem.run_bind,Sem.run_pure,Result.andThen_ok]
  refine⟨fun f _=>hF.fn f,?_⟩
  rw[hro,Oper.semAt_none,hrun,Oper.uponIn_defer]
  have hput:=h4.put h3 (Ev.refl c1) o.dst (.v undef)
  rw[h4.h]at hput
  have hd2:DefsOk c1 lo ((g,first++cl.args.toList.map s1.ev++cap)::ds) (⟨.fn (.func g) ws,vs++cl.args.map a1.eval⟩::a1.defers):=by
   obtain⟨es,e1,e2,e3,e4⟩:=hr1.defs
   refine⟨.call _ ⟨.fn (.func g) ws,vs++cl.args.map a1.eval⟩::es,by rw[e1];rfl,by rw[e2];rfl,e3,fun e he=>?_⟩
   rcases List.mem_cons.1 he with rfl|he
   ·exact hD
   ·exact e4 e he
  have hdf:((({a1 with defers:=⟨.fn (.func g) ws,vs++cl.args.map a1.eval⟩::a1.defers}:Act).put o.dst undef)).defers=⟨.fn (.func g) ws,vs++cl.args.map a1.eval⟩::a1.defers:=by
   cases o.dst <;> rfl
  have htm:((({a1 with defers:=⟨.fn (.func g) ws,vs++cl.args.map a1.eval⟩::a1.defers}:Act).put o.dst undef)).tmps=(a1.put o.dst undef).tmps:=by
   cases o.dst <;> rfl
  have hr2:SRd N lo c1 (AS.put N s1 o.dst (.v undef)) (({a1 with defers:=⟨.fn (.func g) ws,vs++cl.args.map a1.eval⟩::a1.defers}:Act).put o.dst undef) ((g,first++cl.args.toList.map s1.ev++cap)::ds) :=
   ⟨hput.h,by rw[htm];exact hput.size,hr1.above,by rw[hdf];exact hd2,fun t=>by rw[htm];exact hput.tm t⟩
  refine Qbn hF _ (i+1) _ c1 _ (fun j _=>hget j) hpost h3 (hr2.sr hro) ?_ ?_
  ·intro s' c' a' hQ k1 k2 k3
   simp only[wpOpsIn]
   exact hR _ s' _ c' a' _ hQ (Ev.trans hst h2 k1) k2 (hr2.Qrk h3 k1 k3) rfl
  ·intro r s' c' a' x hQ k1 k2 k3 hx
   exact hR _ s' _ c' a' _ hQ (Ev.trans hst h2 k1) k2 (hr2.Qrk h3 k1 k3) ⟨x,rfl,hx⟩
 ·intro r s' c' a' x hQ h1 h2 h3 hx
  exact hR _ s' ds c' a' _ hQ h1 h2 (hr.Qrk hst h1 h3) ⟨x,rfl,hx⟩
end rules
inductive AMode where
 |ret
 |pan (v:AV) (recovered:Bool)
def MdC(c:Cx):AMode→FrameMode→Prop
 | .ret,u=>u = .returning
 | .pan v b,u=>∃x,u = .panicking [{v:=x,recovered:=b}]∧Rel c v x
theorem MdC.ev{c c':Cx}(hs:St c)(h:Ev c c'){m:AMode}{u:FrameMode}(hm:MdC c m u):MdC c' m u:=by
 cases m with
 |ret=>exact hm
 |pan v b=>obtain⟨x,e,r⟩:=hm;exact⟨x,e,r.ev hs h⟩
theorem MdC.run{c:Cx}{m:AMode}{u:FrameMode}(hm:MdC c m u):u ≠ .run:=by
 cases m with
 |ret=>rw[show u = .returning from hm];simp
 |pan v b=>obtain⟨x,e,r⟩:=hm;rw[e];simp
def AMode.settle:AMode→AMode
 | .pan _ true=>.ret
 |m=>m
theorem MdC.settle{c:Cx}{m:AMode}{u:FrameMode}(hm:MdC c m u):MdC c m.settle (Go.settle u):=by
 cases m with
 |ret=>rw[show u = .returning from hm];rfl
 |pan v b =>
  obtain⟨x,rfl,r⟩:=hm
  cases b with
  |true=>rfl
  |false=>exact⟨x,rfl,r⟩
def Qa2(P:Program)(f:FuncId)(args:List AV)(h:AH)(m:AMode)(Q:AMode→AH→Prop):Prop :=
 (∀vals w,(callFunc f vals).run P w = .ok (.enter f vals) w) ∧
 ∀(F:Fence) (n:Nat) (c:Cx) (vals:Array Value) (u:FrameMode),WF F→F.round=none→St c→c.h=h→RelL c args vals→MdC c m u →
  CallsDIn F n P f vals u c.w fun e u' w'=>∃x m' c',e = .returned x∧Q m' c'.h∧Ev c c'∧St c'∧c'.w=w'∧MdC c' m' u'
def QfV(P:Program)(rs:List ResultVar)(h:AH)(Q:AOut→AH→Prop):List DA→AMode→AS→Prop
 |[],.ret,s=>QH P rs h Q .ret s
 |[],.pan v _,s=>QH P rs h Q (.panic v) s
 |d::ds,m,s=>Qa2 P d.1 d.2 s.h m fun m' h'=>QfV P rs h Q ds m'.settle ⟨s.tm,h'⟩
structure Out (N:Nat) (c:Cx) (s:AS) (tmps:Array Value):Prop where
 h:c.h=s.h
 size:tmps.size=N
 tm:∀t,Rel c (s.tm t) (tmps.getD t undef)
theorem Qbs{P:Program}{F:Fence}(hF:WF F)(hro:F.round=none){n:Nat}{fn:Func}{tmps:Array Value}{rs:List ResultVar}(hrs:fn.results.toList=rs){Q:AOut→AH→Prop}{c0:Cx}(hs0:St c0) :
  ∀(es:List Ent) (c:Cx) (s:AS) (m:AMode) (u:FrameMode),Ev c0 c→St c→Out fn.ntmps c s tmps→(es.filterMap Ent.mk?).Nodup→(∀e∈es,e.ok c c0.w.heap.size)→MdC c m u→(∀v,m ≠ .pan v true) →
   QfV P rs c0.h Q (es.filterMap Ent.da) m s →
   LeavesInM F n P fn tmps (fun e w'=>∃o c',Q o c'.h∧Ev c0 c'∧St c'∧c'.w=w'∧EndC c' o e) (es.map Ent.dfr) u c.w
 |[],c,s,m,u,hev,hst,hout,_,_,hm,hnr,H=>by
  have hsr:SR fn.ntmps (⟨0,[]⟩,F) c s {tmps:=tmps,defers:=[]}:=⟨hout.h,hout.size,Nat.zero_le _,⟨[],rfl,List.nodup_nil,fun D h=>by cases h⟩,fun l hl=>(by rw[hro]at hl;cases hl),hout.tm⟩
  cases m with
  |ret =>
   rw[show u = .returning from hm]
   obtain⟨r,hres,hl⟩:=(show QH P rs c0.h Q .ret s from H)
   subst hrs
   obtain⟨x,hrun,hx⟩:=QaX hst hsr hres
   rw[←hout.h]at hl
   obtain⟨c3,r',h1,h2,h3,h4,h5⟩:=ZM hs0 hst hev hx hl
   exact⟨x,hrun,.ret r',c3,h1,h2,h3,h4,x,rfl,h5⟩
  |pan v b =>
   obtain⟨x,rfl,hx⟩:=hm
   have hl:Leaves c0.h s.h v fun r h'=>Q (.panic r) h':=H
   rw[←hout.h]at hl
   obtain⟨c3,r',h1,h2,h3,h4,h5⟩:=ZM hs0 hst hev hx hl
   cases b with
   |true=>exact absurd rfl (hnr v)
   |false=>exact⟨.panic r',c3,h1,h2,h3,h4,x,rfl,h5⟩
 | .mark D::es,c,s,m,u,hev,hst,hout,hnd,hok,hm,hnr,H=>by
  obtain⟨hD1,hD2,hD3⟩:=hok (.mark D) (by simp)
  simp only[QrY,LeavesInM]
  refine⟨hm.run,.inl ⟨D,_,rfl,Zy hD2,?_⟩⟩
  have hnd':=List.nodup_cons.1 (show(D::es.filterMap Ent.mk?).Nodup from hnd)
  have hold:∀k,k≠D→({c.w with heap:=c.w.heap.setIfInBounds D (.deferred none)}:World).heap[k]? = c.w.heap[k]? := fun k hk=>by
   show(c.w.heap.setIfInBounds D _)[k]? = _
   rw[Array.getElem?_setIfInBounds_ne (fun e=>hk e.symm)]
  have hsz:({c.w with heap:=c.w.heap.setIfInBounds D (.deferred none)}:World).heap.size=c.w.heap.size:=by simp
  have hidle:∀k,({c.w with heap:=c.w.heap.setIfInBounds D (.deferred none)}:World).heap[k]? = c.w.heap[k]? ∨ (c0.w.heap.size≤k∧¬c.owns k∧∃o,c.w.heap[k]? = some (.deferred o)):=fun k=>by
   by_cases hk:k=D
   ·subst hk;exact .inr ⟨hD1,hD3,_,hD2⟩
   ·exact .inl (hold k hk)
  have hcells:∀(k:Nat) cs t fr,c.w.heap[k]? = some (Obj.cells cs t fr)→({c.w with heap:=c.w.heap.setIfInBounds D (.deferred none)}:World).heap[k]? = c.w.heap[k]? := fun k cs t fr hk=>by
   rcases hidle k with h|⟨_,_,o,h⟩
   ·exact h
   ·rw[hk]at h;cases h
  have hst2:=hst.idle hsz fun k o hk=>by
   rcases hidle k with h|⟨_,_,d,h⟩
   ·exact .inl (h.trans hk)
   ·rw[hk]at h;cases h;exact .inr ⟨d,rfl⟩
  have hrel:∀a x,Rel c a x→Rel (c.to {c.w with heap:=c.w.heap.setIfInBounds D (.deferred none)}) a x:=fun a x hax=>hax.idle hsz hcells
  refine Qbs hF hro hrs hs0 es (c.to _) s m u (Ev.idle hst hev rfl rfl rfl hsz hidle) hst2 ⟨hout.h,hout.size,fun t=>hrel _ _ (hout.tm t)⟩ hnd'.2 (fun e he=>?_) ?_ hnr H
  ·have:=hok e (by simp[he])
   cases e with
   |mark D' =>
    obtain⟨g1,g2,g3⟩:=this
    have hne:D'≠D:=fun h=>hnd'.1 (by subst h;exact List.mem_filterMap.2 ⟨_,he,rfl⟩)
    exact⟨g1,(hold D' hne).trans g2,g3⟩
   |call d x =>
    obtain⟨caps,e,r⟩:=this
    exact⟨caps,e,r.1,fun j a u h1 h2=>hrel _ _ (r.2 j a u h1 h2)⟩
  ·cases m with
   |ret=>exact hm
   |pan v b=>obtain⟨x,e,r⟩:=hm;exact⟨x,e,hrel _ _ r⟩
 | .call d x::es,c,s,m,u,hev,hst,hout,hnd,hok,hm,hnr,H=>by
  obtain⟨caps,htar,hargs⟩:=hok (.call d x) (by simp)
  obtain⟨hcall,hbody⟩:=(show Qa2 P d.1 d.2 s.h m fun m' h'=>QfV P rs c0.h Q (es.filterMap Ent.da) m'.settle ⟨s.tm,h'⟩from H)
  simp only[QrY,LeavesInM,Ent.dfr]
  refine⟨hm.run,.inr ⟨fun hd=>by simp[hF.depth]at hd,_,_,d.1,x.args++caps,htar,by rw[htar];simp only[invoke,hcall],fun _ _=>hF.fn _,?_⟩⟩
  refine(hbody F (n - 1) c _ u hF hro hst hout.h hargs hm).mono ?_
  rintro e u' w' ⟨y,m',c',rfl,hQ,hev',hst',rfl,hm'⟩
  refine Qbs hF hro hrs hs0 es c' ⟨s.tm,c'.h⟩ m'.settle (Go.settle u') (Ev.trans hs0 hev hev') hst' ⟨rfl,hout.size,fun t=>(hout.tm t).ev hst hev'⟩ hnd (fun e he=>(hok e (by simp[he])).ev hst hev') hm'.settle (fun v h=>?_) hQ
  cases m' with
  |ret=>cases h
  |pan v' b=>cases b <;> cases h
def QkN(P:Program)(rs:List ResultVar)(h:AH)(Q:AOut→AH→Prop):AExit→AS→List DA→Prop
 | .normal,s,ds | .ret,s,ds=>QfV P rs h Q ds .ret s
 | .panic v,s,ds=>QfV P rs h Q ds (.pan v false) s
 | .exit _,_,_=>False
theorem Qan{P:Program}{f:FuncId}{fn:Func}{code:Code}{args:List AV}{h:AH}{Q:AOut→AH→Prop}(hf:P.funcs[f]? = some fn)(hb:fn.body=some code)
  (hcall:∀vals w,(callFunc f vals).run P w = .ok (.enter f vals) w) {N:Nat} (hN:fn.ntmps=N) {rs:List ResultVar} (hrs:fn.results.toList=rs) (hn:args.length≤N) (H:DefW P N code (QkN P rs h Q) ⟨Qr args,h⟩ []):QL P f args h Q:=by
 subst hN
 refine⟨hcall,fun F n c vals hF hs hh hvals=>QaL ?_⟩
 subst hh
 refine callsIn_of_wp_marks hf hb (hF.plain.fn f) ?_
 have hsr:SRd fn.ntmps c.w.heap.size c ⟨Qr args,c.h⟩ {tmps:=vals++Array.replicate (fn.ntmps - vals.size) undef,defers:=[]} []:=by
  refine⟨rfl,by have:=hvals.1;simp;omega,Nat.le_refl _,⟨[],rfl,rfl,List.nodup_nil,fun e h=>by cases h⟩,fun t=>?_⟩
  simp only[Qr]
  rw[Array.getD_eq_getD_getElem?,Array.getElem?_append,List.getD_eq_getElem?_getD]
  have hsz:=hvals.1
  by_cases ht:t<vals.size
  ·rw[if_pos ht]
   obtain⟨u,hu⟩:∃u,vals[t]? = some u:=⟨_,Array.getElem?_eq_getElem ht⟩
   obtain⟨a,ha⟩:∃a,args[t]? = some a:=⟨_,List.getElem?_eq_getElem (by omega)⟩
   rw[hu,ha]
   exact hvals.2 t a u ha hu
  ·rw[if_neg ht,List.getElem?_eq_none (by omega),Array.getElem?_replicate]
   split
   ·exact .v _
   ·exact .v _
 refine H F.plain n c.w.heap.size c _ hF.plain rfl hs hsr _ ?_
 intro e s' ds' c' a' e' hQ hev hst hr hex
 obtain⟨es,e1,e2,e3,e4⟩:=hr.defs
 subst e2
 have hout:Out fn.ntmps c' s' a'.tmps:=⟨hr.h,hr.size,hr.tm⟩
 have key:=fun(m:AMode) (u:FrameMode) (hm:MdC c' m u) (hnr:∀v,m ≠ .pan v true) H=>e1▸Qbs (P:=P) hF.plain rfl (n:=n) (fn:=fn) (tmps:=a'.tmps) hrs (Q:=Q) hs es c' s' m u hev hst hout e3 e4 hm hnr H
 cases e with
 |normal=>cases hex;exact key .ret .returning rfl (fun v h=>by cases h) hQ
 |ret=>cases hex;exact key .ret .returning rfl (fun v h=>by cases h) hQ
 |panic av =>
  obtain⟨x,rfl,hx⟩:=hex
  exact key (.pan av false) _ ⟨x,rfl,hx⟩ (fun v h=>by cases h) hQ
 |exit id=>exact hQ.elim
theorem Qbg{P:Program}{F:Fence}{n:Nat}{fn:Func}{tmps:Array Value}{R:Ending→World→Prop}:∀(ds:List Deferred) (u:FrameMode) (w:World) (fr:Frame)
  (cs:List Frame),fr.mode=u→fr.defers=ds→fr.tmps=tmps→P.funcs[fr.fn]? = some fn→fr.kind = .deferred→F.fn fr.fn→F.room (cs.length+1+n)→LeavesInM F n P fn tmps R ds u w →
  ∃e w' fr',R e w'∧ComesIn (Machine.fenced P F) P (lone fr cs w) (lone fr' cs w') e∧fr'.fn=fr.fn∧fr'.kind = .deferred∧fr'.going P w' e:=by
 intro ds
 induction ds with
 |nil =>
  intro u w fr cs hu hd ht hf hk _ _ h
  cases u with
  |run=>exact h.elim
  |returning =>
   obtain⟨v,hr,hR⟩:=h
   exact⟨.returned v,w,fr,hR,StepsIn.refl _,rfl,hk,hu,hd,fn,hf,ht▸hr⟩
  |panicking chain=>exact⟨.panicked chain,w,fr,h,StepsIn.refl _,rfl,hk,hu,hd,fn,hf⟩
 |cons d ds ih =>
  intro u w fr cs hu hd ht hf hk hb hroom h
  obtain⟨hrun,h⟩:=h
  rcases h with⟨r,w',htar,htake,hrest⟩|⟨hn,fv,cap,f,args,htar,hinv,hlead,hFf,hcall⟩
  ·have h1:=step_collected (cs:=cs) (hu▸hrun) hd htar htake
   have i1:(lone fr cs w).fenced P F:=fenced_out hb hroom (hu▸hrun) hd (fun g hg=>by rw[htar]at hg;simp[Target.leads]at hg)
   obtain⟨e',w'',fr',hR',hs',hfn',hl'⟩:=ih u w' {fr with defers:=[]++ds} cs hu rfl ht hf hk hb hroom hrest
   exact⟨e',w'',fr',hR',ComesIn.of_steps (.one i1 h1) hs',hfn',hl'⟩
  ·have h1:=step_defer (cs:=cs) (hu▸hrun) hd htar hinv
   have i1:(lone fr cs w).fenced P F:=fenced_out hb hroom (hu▸hrun) hd hlead
   have hroom':F.room (({fr with defers:=ds}::cs).length+1+(n - 1)):=Fence.room_enter hroom hn
   obtain⟨e,u',w',frX,hR,hsteps,hkX,hfX,hgo⟩:=hcall {fr with defers:=ds} cs hu hroom'
   cases e with
   |outgrown=>exact⟨.outgrown,w',fr,hR,Outgrown.of_steps (.one h1) hsteps,rfl,hk,trivial⟩
   |returned v =>
    have i2:(lone frX ({{fr with defers:=ds} with mode:=u'}::cs) w').fenced P F:=fenced_going (n:=n - 1) (hfX▸hFf) hroom' hgo
    have h2:=step_going_returned (c:={{fr with defers:=ds} with mode:=u'}) (cs:=cs) hkX hgo
    obtain⟨e',w'',fr',hR',hs',hfn',hl'⟩:=ih (Go.settle u') w' {{{fr with defers:=ds} with mode:=u'} with mode:=Go.settle u'} cs rfl rfl ht hf hk hb hroom hR
    exact⟨e',w'',fr',hR',ComesIn.of_steps (.head i1 h1 (StepsIn.trans hsteps (.one i2 h2))) hs',hfn',hl'⟩
   |panicked chain =>
    have i2:(lone frX ({{fr with defers:=ds} with mode:=u'}::cs) w').fenced P F:=fenced_going (n:=n - 1) (hfX▸hFf) hroom' hgo
    have h2:=step_going_panicked (c:={{fr with defers:=ds} with mode:=u'}) (cs:=cs) hgo
    obtain⟨e',w'',fr',hR',hs',hfn',hl'⟩:=ih (raised u' chain) w' {{{fr with defers:=ds} with mode:=u'} with mode:=raised u' chain} cs rfl rfl ht hf hk hb hroom hR
    exact⟨e',w'',fr',hR',ComesIn.of_steps (.head i1 h1 (StepsIn.trans hsteps (.one i2 h2))) hs',hfn',hl'⟩
end Go.Proofs.YticgcpebdldbgaaDoor.Ab
namespace Go.Proofs.YticgcpebdldbgaaDoor.Ab
theorem Qba{P:Program}{F:Fence}{n:Nat}{f:FuncId}{fn:Func}{c:Code}{args:Array Value}{u:FrameMode}{w:World}{R:Ending→World→Prop}{u2:FrameMode}
  (hf:P.funcs[f]? = some fn) (hb:fn.body=some c) (hF:F.fn f)
  (h:∀(c₀:Frame) (cs:List Frame),c₀.mode=u→c.wpSIn F n P (fun e a' cs' w'=>cs'={c₀ with mode:=u2}::cs∧bodyPostM F n P fn R e a' w') {tmps:=args++Array.replicate (fn.ntmps - args.size) undef,defers:=[]} (c₀::cs) w) (hro:F.round=none) :
  CallsDIn F n P f args u w fun e u' w'=>u'=u2∧R e w':=by
 refine⟨hF,fun c₀ cs hu hr=>?_⟩
 let b:Frame:={(default:Frame)with fn:=f,kind:=.deferred,roundOf:=none}
 have henter:Frame.enter P f args .deferred =
   b.atR {tmps:=args++Array.replicate (fn.ntmps - args.size) undef,defers:=[]} [.code c]:=by
  simp[Frame.enter,Frame.atR,hf,hb,b]
 obtain⟨e,a',cs',w',hlen,⟨rfl,hq⟩,harr⟩:=h c₀ cs hu b [] rfl rfl hF hr
 have hr':F.room (({c₀ with mode:=u2}::cs).length+1+n):=hr
 rw[←henter]at harr
 cases e with
 |normal =>
  obtain⟨e',w'',fr',hR,hs,hfn,hk,hl⟩:=Qbg a'.defers .returning w' {b.atR a' []with mode:=.returning} ({c₀ with mode:=u2}::cs) rfl rfl rfl hf rfl hF hr' hq
  exact⟨e',u2,w'',fr',⟨rfl,hR⟩,ComesIn.of_steps (StepsIn.trans harr (.one (fenced_calm (fr:=b.atR a' []) hF hr' rfl) (stepR_end rfl))) hs,hk,hfn,hl⟩
 |ret =>
  obtain⟨todo,hs₀⟩:=harr.1 rfl
  obtain⟨e',w'',fr',hR,hs,hfn,hk,hl⟩:=Qbg a'.defers .returning w' {b.atR a' todo with mode:=.returning} ({c₀ with mode:=u2}::cs) rfl rfl rfl hf rfl hF hr' hq
  exact⟨e',u2,w'',fr',⟨rfl,hR⟩,ComesIn.of_steps hs₀ hs,hk,hfn,hl⟩
 |panic chain =>
  obtain⟨todo,hs₀⟩:=harr
  obtain⟨e',w'',fr',hR,hs,hfn,hk,hl⟩:=Qbg a'.defers (.panicking chain) w' {b.atR a' todo with mode:=.panicking chain} ({c₀ with mode:=u2}::cs) rfl rfl rfl hf rfl hF hr' hq
  exact⟨e',u2,w'',fr',⟨rfl,hR⟩,ComesIn.of_steps hs₀ hs,hk,hfn,hl⟩
 |exit id=>exact hq.elim
 |goto l=>exact hq.elim
 |outgrown=>exact⟨.outgrown,u2,w',b,⟨rfl,hq⟩,harr.resolve_left (by simp[b]),rfl,rfl,trivial⟩
def recV:AMode→AV
 | .pan v false=>v
 |_=>.v .nilIface
def recM:AMode→AMode
 | .pan v false=>.pan v true
 |m=>m
theorem QbG{P:Program}{f:FuncId}{fn:Func}{id x y:Nat}{t1 t2:TypeId}{p1 p2:String}{a1 a2:Array Edge}{rest:Code}{args:List AV}{h:AH}{Q:AH→Prop}(hf:P.funcs[f]? = some fn)
  (hb:fn.body=some (.seq (.region id #[{dst:=some x,op:=.call ⟨.builtin .recover,#[],#[]⟩,type:=t1,pos:=p1,after:=a1,guard:=none},{dst:=some y,op:=.assign (.tmp x),type:=t2,pos:=p2,after:=a2,guard:=none}] false) rest))
  (hcall:∀vals w,(callFunc f vals).run P w = .ok (.enter f vals) w) {N:Nat} (hN:fn.ntmps=N) {rs:List ResultVar} (hrs:fn.results.toList=rs) (hn:args.length≤N) (hx:x<N) (hy:y<N) (m:AMode)
  (H:XS P N rest (QH P rs h fun o h'=>(∃r,o = .ret r)∧Q h') ⟨upd (upd (Qr args) x (recV m)) y (recV m),h⟩):Qa2 P f args h m fun m' h'=>m'=recM m∧Q h':=by
 subst hN
 refine⟨hcall,fun F n c vals u hF hro hs hh hvals hm=>?_⟩
 subst hh
 have hsr0:SRd fn.ntmps c.w.heap.size c ⟨Qr args,c.h⟩ {tmps:=vals++Array.replicate (fn.ntmps - vals.size) undef,defers:=[]} []:=by
  refine⟨rfl,by have:=hvals.1;simp;omega,Nat.le_refl _,⟨[],rfl,rfl,List.nodup_nil,fun e h=>by cases h⟩,fun t=>?_⟩
  simp only[Qr]
  rw[Array.getD_eq_getD_getElem?,Array.getElem?_append,List.getD_eq_getElem?_getD]
  have hsz:=hvals.1
  by_cases ht:t<vals.size
  ·rw[if_pos ht]
   obtain⟨u,hu⟩:∃u,vals[t]? = some u:=⟨_,Array.getElem?_eq_getElem ht⟩
   obtain⟨a,ha⟩:∃a,args[t]? = some a:=⟨_,List.getElem?_eq_getElem (by omega)⟩
   rw[hu,ha]
   exact hvals.2 t a u ha hu
  ·rw[if_neg ht,List.getElem?_eq_none (by omega),Array.getElem?_replicate]
   split
   ·exact .v _
   ·exact .v _
 -- what recover does to the frame below
 obtain⟨rv,u2,hrel,hm2,hrec⟩:∃(rv:Value) (u2:FrameMode),Rel c (recV m) rv∧MdC c (recM m) u2∧∀(c₀:Frame) (cs:List Frame),c₀.mode=u →
   (recoverD (c₀::cs)=some (rv,{c₀ with mode:=u2}::cs))∨(recoverD (c₀::cs)=none∧rv = .nilIface∧({c₀ with mode:=u2}:Frame)=c₀):=by
  cases m with
  |ret =>
   obtain rfl:u = .returning:=hm
   refine⟨.nilIface,.returning,.v _,rfl,fun c₀ cs hu=>.inr ⟨?_,rfl,by rw[←hu]⟩⟩
   simp only[recoverD,hu]
  |pan v b =>
   obtain⟨xv,rfl,hv⟩:=hm
   cases b with
   |false =>
    refine⟨xv,_,hv,⟨xv,rfl,hv⟩,fun c₀ cs hu=>.inl ?_⟩
    simp only[recoverD,hu]
   |true =>
    refine⟨.nilIface,_,.v _,⟨xv,rfl,hv⟩,fun c₀ cs hu=>.inr ⟨?_,rfl,by rw[←hu]⟩⟩
    simp only[recoverD,hu]
 have hsr:SRd fn.ntmps c.w.heap.size c ⟨upd (upd (Qr args) x (recV m)) y (recV m),c.h⟩ (((⟨vals++Array.replicate (fn.ntmps - vals.size) undef,[]⟩:Act).put (some x) rv).put (some y) rv) []:=by
  have s1:=(hsr0.sr hro).put hs (Ev.refl c) (some x) hrel
  have s2:=s1.put hs (Ev.refl c) (some y) hrel
  have s3:=hsr0.Qrk hs (Ev.refl c) s2
  simp only[AS.put,if_pos hx,if_pos hy]at s3
  exact s3
 refine(Qba (u2:=u2) (R:=fun e w'=>∃(o:AOut) (c':Cx),((∃r,o=AOut.ret r)∧Q c'.h)∧Ev c c'∧St c'∧c'.w=w'∧EndC c' o e) hf hb (hF.fn f) (fun c₀ cs hu=>?_) hro).mono ?_
 ·apply wpSIn_seq
  apply wpSIn_region
  have hput:∀cs',cs'=({c₀ with mode:=u2}:Frame)::cs→rest.wpSIn F n P (fun e a' cs'' w'=>cs''={c₀ with mode:=u2}::cs∧bodyPostM F n P fn (fun e w'=>∃(o:AOut) (c':Cx),((∃r,o=AOut.ret r)∧Q c'.h)∧Ev c c'∧St c'∧c'.w=w'∧EndC c' o e) e a' w')
    (((⟨vals++Array.replicate (fn.ntmps - vals.size) undef,[]⟩:Act).put (some x) rv).put (some y) rv) cs' c.w:=by
   rintro cs' rfl
   refine wpSIn_of_wpIn hro ?_
   refine YK (H.mono fun e s hq=>(by cases e <;> exact hq:QkN P rs c.h (fun o h'=>(∃r,o=AOut.ret r)∧Q h') e s [])) F n c.w.heap.size c _ hF hro hs hsr _ ?_
   intro e s' ds' c' a' e' hQ hev hst hr hex
   obtain⟨es,e1,e2,e3,e4⟩:=hr.defs
   subst e2
   have hout:Out fn.ntmps c' s' a'.tmps:=⟨hr.h,hr.size,hr.tm⟩
   have key:=fun(m:AMode) (u:FrameMode) (hm:MdC c' m u) (hnr:∀v,m ≠ .pan v true) H=>e1▸Qbs (P:=P) hF hro (n:=n) (fn:=fn) (tmps:=a'.tmps) hrs (Q:=fun o h'=>(∃r,o=AOut.ret r)∧Q h') hs es c' s' m u hev hst hout e3 e4 hm hnr H
   refine⟨rfl,?_⟩
   cases e with
   |normal=>cases hex;exact key .ret .returning rfl (fun v h=>by cases h) hQ
   |ret=>cases hex;exact key .ret .returning rfl (fun v h=>by cases h) hQ
   |panic av =>
    obtain⟨x,rfl,hx⟩:=hex
    exact key (.pan av false) _ ⟨x,rfl,hx⟩ (fun v h=>by cases h) hQ
   |exit id=>exact hQ.elim
  have r2:((⟨vals++Array.replicate (fn.ntmps - vals.size) undef,[]⟩:Act).put (some x) rv).eval (.tmp x)=rv:=by
   have hlt:x<(vals++Array.replicate (fn.ntmps - vals.size) undef).size:=by have:=hsr0.size;simp only at this;omega
   simp only[Array.size_append,Array.size_replicate]at hlt
   simp[Act.put,Act.eval]
   intro h;omega
  have hlt2:x<vals.size+(fn.ntmps - vals.size):=by omega
  show wpOpsSIn F n P _ _ [0,1] _ _ _
  rcases hrec c₀ cs hu with hr|⟨hr,rfl,hc⟩
  ·simp[wpOpsSIn,Region.wanted,execOp,go_sem,resolve,invoke,hr,hF.fn,Exit.thenS,hlt2]
   exact hput _ rfl
  ·simp[wpOpsSIn,Region.wanted,execOp,go_sem,resolve,invoke,hr,hF.fn,Exit.thenS,hlt2]
   exact hput _ (by rw[hc])
 ·rintro e u' w' ⟨rfl,o,c',⟨⟨r,rfl⟩,hQ⟩,hev,hst',rfl,xx,rfl,hx'⟩
  exact⟨xx,recM m,c',rfl,⟨rfl,hQ⟩,hev,hst',rfl,hm2.ev hs hev⟩
end Go.Proofs.YticgcpebdldbgaaDoor.Ab
set_option maxRecDepth 4000
namespace Go.Proofs.YticgcpebdldbgaaDoor.Ab
open Go.Proofs
section
variable{P:Pz}{s:PS}(hW:Wst P.all s){h:AH}(H:P.ok h)(hN:P.all.length≤1000000)
include hW H hN
theorem QgB(b:ByteArray)(hb:s.is b.toList=true):QL Tryd.prog 39 [.ptr P.i 0 0,.v (.string b)] (ph h P s) fun o h'=>o = .ret (.b true)∧h'=ph h P s.nx:=by
 have hX:=X6 H s
 have hi:=ph_i H s
 have hp':=Ql8 hW H hN (PS.Qq2 hb)
 have hp0:=hp' []
 have hi0:=hX
 rw[pB]at hi0
 simp only[pB]at hi
 simp only[Qsc]at hp0
 have ci:=QlK hW hX b
 rw[hb]at ci
 refine Qe Tryd.func39 rfl Tryd.call39 Tryd.ntmps39 Tryd.results39 (by simp) ?_
 repeat (first|((first|(with_reducible (first|refine Qa fun K E hK hE=>?_|refine FunW.QqZ ci ?_)));simp -implicitDefEqProofs only[Qc,Qd,OpW,QB,aop,undef,AS.ev,Qr,AV.QqY,↓reduceIte,Qg,Qw,Qv,Qu,Ql,aBin,ti3,Qfu,Qp,hi0,hp0,seval])|(with_reducible (first|refine Qf fun K hK=>?_|refine Qm ?_|refine Qy ?_))|((with_reducible refine hK _ ?_);clear hK)|(refine Qh rfl ?_;simp only[↓reduceIte]))
 simp -implicitDefEqProofs only[Yq,↓reduceIte,QrP,QH,Qo,Qt,QrT]
 exact .inr ⟨rfl,rfl⟩
theorem QiF(b:ByteArray)(hb:s.is b.toList=false):QL Tryd.prog 39 [.ptr P.i 0 0,.v (.string b)] (ph h P s) fun o h'=>o = .ret (.b false)∧h'=ph h P s:=by
 have _u:=hN
 have hX:=X6 H s
 have ci:=QlK hW hX b
 rw[hb]at ci
 refine Qe Tryd.func39 rfl Tryd.call39 Tryd.ntmps39 Tryd.results39 (by simp) ?_
 repeat (first|((first|(with_reducible (first|refine Qa fun K E hK hE=>?_|refine FunW.QqZ ci ?_)));simp -implicitDefEqProofs only[Qc,Qd,OpW,QB,aop,undef,AS.ev,Qr,↓reduceIte,seval])|(with_reducible (first|refine Qf fun K hK=>?_|refine Qm ?_|refine Qk ?_|refine Qb ?_))|((with_reducible refine hK _ ?_);clear hK)|(refine Qh rfl ?_;simp only[↓reduceIte,QrN]))
 simp -implicitDefEqProofs only[Yq,↓reduceIte,QrP,QH,Qo,Qt,QrT]
 exact .inr ⟨rfl,rfl⟩
theorem QjX(b:ByteArray)(hb:s.is b.toList=true):QL Tryd.prog 36 [.ptr P.i 0 0,.v (.string b)] (ph h P s) fun o h'=>o = .ret (.tup [])∧h'=ph h P s.nx:=by
 have cs:=QgB hW H hN b hb
 refine Qe Tryd.func36 rfl Tryd.call36 Tryd.ntmps36 Tryd.results36 (by simp) ?_
 repeat (first|((first|(with_reducible (first|refine Qa fun K E hK hE=>?_|refine FunW.QqZ cs ?_)));simp -implicitDefEqProofs only[Qc,Qd,OpW,QB,aop,undef,AS.ev,Qr,↓reduceIte,seval])|(with_reducible refine Qk ?_)|((with_reducible refine hK _ ?_);clear hK)|(refine Qh rfl ?_;simp only[↓reduceIte,QrN]))
 simp -implicitDefEqProofs only[QrL,QrP,List.mapM_nil,Option.pure_def,QrL,QH,Qo,QrT]
 exact .inr ⟨rfl,rfl⟩
theorem Qlp(b:ByteArray)(hb:s.is b.toList=false):QL Tryd.prog 36 [.ptr P.i 0 0,.v (.string b)] (ph h P s) fun o h'=>o = .panic (Fl s.tk.pos 16)∧h'=ph h P s:=by
 have cs:=QiF hW H hN b hb
 have cn:=XM hW (X6 H s)
 have cf:=YL s.tk 16
 refine Qe Tryd.func36 rfl Tryd.call36 Tryd.ntmps36 Tryd.results36 (by simp) ?_
 repeat (first|((first|(with_reducible (first|refine Qa fun K E hK hE=>?_|refine Qj fun K E hK hE=>?_|refine FunW.QqZ cs ?_|refine FunW.QqZ cn ?_|refine FunW.pan (FunW.call (cf _ _)) ?_)));simp -implicitDefEqProofs only[Qc,Qd,OpW,QB,aop,undef,AS.ev,Qr,↓reduceIte,seval])|((with_reducible refine hK _ ?_);clear hK)|(refine Qh rfl ?_;simp only[↓reduceIte])|(with_reducible refine hE _ _ ?_))
 exact .inr ⟨rfl,rfl⟩
theorem QnZ(n m:Int)(hm:¬m≤n):QL Tryd.prog 19 [.ptr P.i 0 0,.i n,.i m] (ph h P s) fun o h'=>o = .ret (.tup [])∧h'=ph h P s:=by
 have _u:=hN
 have _v:=hW
 have _w:=H
 have z1:¬n≥m:=hm
 refine Qe Tryd.func19 rfl Tryd.call19 Tryd.ntmps19 Tryd.results19 (by simp) ?_
 repeat (first|(((with_reducible refine Qa fun K E hK hE=>?_));simp -implicitDefEqProofs only[Qc,Qd,OpW,aop,undef,AS.ev,Qr,↓reduceIte,aBin,hm,seval])|(with_reducible refine Qk ?_)|((with_reducible refine hK _ ?_);clear hK)|(refine Qh rfl ?_;simp only[↓reduceIte,QrN]))
 simp -implicitDefEqProofs only[QrL,QrP,List.mapM_nil,Option.pure_def,QrL,QH,Qo,QrT]
 exact .inr ⟨rfl,rfl⟩
theorem Qpk(n m:Int)(hm:m≤n):QL Tryd.prog 19 [.ptr P.i 0 0,.i n,.i m] (ph h P s) fun o h'=>o = .panic (Fl s.tk.pos 6)∧h'=ph h P s:=by
 have _u:=hN
 have z1:n≥m:=hm
 have cn:=XM hW (X6 H s)
 have cf:=YL s.tk 6
 refine Qe Tryd.func19 rfl Tryd.call19 Tryd.ntmps19 Tryd.results19 (by simp) ?_
 repeat (first|((first|(with_reducible (first|refine Qa fun K E hK hE=>?_|refine Qj fun K E hK hE=>?_|refine FunW.QqZ cn ?_|refine FunW.pan (FunW.call (cf _ _)) ?_)));simp -implicitDefEqProofs only[Qc,Qd,OpW,QB,aop,undef,AS.ev,Qr,↓reduceIte,aBin,hm,seval])|((with_reducible refine hK _ ?_);clear hK)|(refine Qh rfl ?_;simp only[↓reduceIte])|(with_reducible refine hE _ _ ?_))
 exact .inr ⟨rfl,rfl⟩
theorem Qhp:QL Tryd.prog 35 [.ptr P.i 0 0] (ph h P s) fun o h'=>match ZD s with
  | .ok x s2=>o = .ret (.v (.string x))∧h'=ph h P s2
  | .err p e=>o = .panic (Fl p e)∧∃s2,h'=ph h P s2:=by
 have ct:=Xq hW H hN
 have e1:=Tk.Qq0 s.tk
 have e2:=Tk.Qq1 s.tk
 have f1:=QU h P s.nx
 have f3:=XB h P
 have f4:=Yf h P
 have f5:=Xk h P
 have f6:=XL h P
 unfold ZD
 by_cases h1:s.tk.kind=1
 ·rw[if_neg (by simpa using h1)]
  have z1:(s.tk.kind != 1)=false:=by simpa using h1
  have cr:=Qcx s.tk.text
  cases hr:resB s.tk.text with
  |true =>
   rw[if_pos rfl]
   rw[hr]at cr
   have cf:=YL s.tk 7
   refine Qe Tryd.func35 rfl Tryd.call35 Tryd.ntmps35 Tryd.results35 (by simp) ?_
   repeat (first|((first|(with_reducible (first|refine Qa fun K E hK hE=>?_|refine Qj fun K E hK hE=>?_|refine FunW.QqZ ct ?_|refine Qz cr ?_|refine FunW.pan (FunW.call (cf _ _)) ?_)));simp -implicitDefEqProofs only[Qc,Qd,OpW,QB,aop,undef,AS.ev,Qr,AV.QqY,↓reduceIte,Qg,Qw,Qv,Qu,Ql,aBin,ti3,ti9,ti60,QK,QQ,zi60,e1,e2,f1,f3,f5,z1,seval])|(with_reducible (first|refine Qf fun K hK=>?_|refine Qi ?_))|((with_reducible refine hK _ ?_);clear hK)|(refine Qh rfl ?_;simp only[↓reduceIte,QrN])|(with_reducible (first|refine hE _ _ ?_|refine QN ?_|refine Xb ?_)))
   exact Xl H (s:=s) (s':=s.nx) (.keep (Qbt _ _ _)) ⟨rfl,_,rfl⟩
  |false =>
   rw[if_neg (by simp)]
   rw[hr]at cr
   refine Qe Tryd.func35 rfl Tryd.call35 Tryd.ntmps35 Tryd.results35 (by simp) ?_
   repeat (first|((first|(with_reducible (first|refine Qa fun K E hK hE=>?_|refine FunW.QqZ ct ?_|refine Qz cr ?_)));simp -implicitDefEqProofs only[Qc,Qd,OpW,QB,aop,undef,AS.ev,Qr,AV.QqY,↓reduceIte,Qg,Qw,Qv,Qu,Ql,aBin,ti3,ti9,ti60,QK,QQ,zi60,e1,e2,f1,f3,f5,z1,seval])|(with_reducible (first|refine Qf fun K hK=>?_|refine Qi ?_|refine Qm ?_|refine Qk ?_|refine Qb ?_|refine Qn ?_))|((with_reducible refine hK _ ?_);clear hK)|(refine Qh rfl ?_;simp only[↓reduceIte,QrN]))
   simp -implicitDefEqProofs only[Yq,↓reduceIte,QrP,QH,Qo,Qt,QrT]
   exact Xl H (s:=s) (s':=s.nx) (.keep (.v _)) ⟨rfl,rfl⟩
 ·rw[if_pos h1]
  have z1:(s.tk.kind != 1)=true:=by simpa using h1
  have cf:=YL s.tk 16
  refine Qe Tryd.func35 rfl Tryd.call35 Tryd.ntmps35 Tryd.results35 (by simp) ?_
  repeat (first|((first|(with_reducible (first|refine Qa fun K E hK hE=>?_|refine Qj fun K E hK hE=>?_|refine FunW.QqZ ct ?_|refine FunW.pan (FunW.call (cf _ _)) ?_)));simp -implicitDefEqProofs only[Qc,Qd,OpW,QB,aop,undef,AS.ev,Qr,AV.QqY,↓reduceIte,Qg,Qw,Qv,Qu,Ql,aBin,ti3,ti60,QK,zi60,e1,e2,f1,f3,f5,z1,seval])|(with_reducible (first|refine Qf fun K hK=>?_|refine Qi ?_))|((with_reducible refine hK _ ?_);clear hK)|(refine Qh rfl ?_;simp only[↓reduceIte])|(with_reducible (first|refine hE _ _ ?_|refine QN ?_|refine Xb ?_)))
  exact Xl H (s:=s) (s':=s.nx) (.keep (Qbt _ _ _)) ⟨rfl,_,rfl⟩
end
end Go.Proofs.YticgcpebdldbgaaDoor.Ab
set_option maxRecDepth 4000
namespace Go.Proofs.YticgcpebdldbgaaDoor.Ab
open Go.Proofs
def clsN(c:Int):Int:=if c=32∨c=9∨c=13∨c=10 then 1 else if 97≤c∧c≤122 then 2 else if (65≤c∧c≤90)∨c=95 then 3 else if 48≤c∧c≤57 then 4 else 0
theorem Qqs(c:Int)(hc:c=32):Pure Tryd.prog 96 [.v (.int .u8 c)] (.i (clsN c)):=by
 intro h
 have e0:clsN c=1:=by simp only[clsN];repeat' (first|rw[if_pos (by omega)]|rw[if_neg (by omega)])
 have b32:(c==32)=true:=by simp;omega
 have b9:(c==9)=false:=by simp;omega
 have b13:(c==13)=false:=by simp;omega
 have b10:(c==10)=false:=by simp;omega
 have b95:(c==95)=false:=by simp;omega
 have g97:¬97≤c:=by omega
 have l122:c≤122:=by omega
 have g65:¬65≤c:=by omega
 have l90:c≤90:=by omega
 have g48:¬48≤c:=by omega
 have l57:c≤57:=by omega
 refine Qe Tryd.func96 rfl Tryd.call96 Tryd.ntmps96 Tryd.results96 (by simp) ?_
 repeat (first|(((with_reducible refine Qa fun K E hK hE=>?_));simp -implicitDefEqProofs only[Qc,Qd,OpW,aop,undef,AS.ev,Qr,↓reduceIte,aBin,b32,seval])|(with_reducible (first|refine Qf fun K hK=>?_|refine Qi ?_|refine Qm ?_|refine Qk ?_|refine Qb ?_|refine Qy ?_|refine QE ?_))|((with_reducible refine hK _ ?_);clear hK)|(refine Qh rfl ?_;simp only[↓reduceIte]))
 simp only[QH,Qo,Qt,upd,↓reduceIte,QrP,QrT];(refine Qq List.take_length (.keep (.v _)) ⟨by rw[e0],rfl⟩)
theorem Qqt(c:Int)(hc:c=9):Pure Tryd.prog 96 [.v (.int .u8 c)] (.i (clsN c)):=by
 intro h
 have e0:clsN c=1:=by simp only[clsN];repeat' (first|rw[if_pos (by omega)]|rw[if_neg (by omega)])
 have b32:(c==32)=false:=by simp;omega
 have b9:(c==9)=true:=by simp;omega
 have b13:(c==13)=false:=by simp;omega
 have b10:(c==10)=false:=by simp;omega
 have b95:(c==95)=false:=by simp;omega
 have g97:¬97≤c:=by omega
 have l122:c≤122:=by omega
 have g65:¬65≤c:=by omega
 have l90:c≤90:=by omega
 have g48:¬48≤c:=by omega
 have l57:c≤57:=by omega
 refine Qe Tryd.func96 rfl Tryd.call96 Tryd.ntmps96 Tryd.results96 (by simp) ?_
 repeat (first|(((with_reducible refine Qa fun K E hK hE=>?_));simp -implicitDefEqProofs only[Qc,Qd,OpW,aop,undef,AS.ev,Qr,↓reduceIte,aBin,b32,b9,seval])|(with_reducible (first|refine Qf fun K hK=>?_|refine Qi ?_|refine Qm ?_|refine Qk ?_|refine Qb ?_|refine Qy ?_|refine QE ?_))|((with_reducible refine hK _ ?_);clear hK)|(refine Qh rfl ?_;simp only[↓reduceIte,QrN]))
 simp only[QH,Qo,Qt,upd,↓reduceIte,QrP,QrT];(refine Qq List.take_length (.keep (.v _)) ⟨by rw[e0],rfl⟩)
theorem Qqu(c:Int)(hc:c=13):Pure Tryd.prog 96 [.v (.int .u8 c)] (.i (clsN c)):=by
 intro h
 have e0:clsN c=1:=by simp only[clsN];repeat' (first|rw[if_pos (by omega)]|rw[if_neg (by omega)])
 have b32:(c==32)=false:=by simp;omega
 have b9:(c==9)=false:=by simp;omega
 have b13:(c==13)=true:=by simp;omega
 have b10:(c==10)=false:=by simp;omega
 have b95:(c==95)=false:=by simp;omega
 have g97:¬97≤c:=by omega
 have l122:c≤122:=by omega
 have g65:¬65≤c:=by omega
 have l90:c≤90:=by omega
 have g48:¬48≤c:=by omega
 have l57:c≤57:=by omega
 refine Qe Tryd.func96 rfl Tryd.call96 Tryd.ntmps96 Tryd.results96 (by simp) ?_
 repeat (first|(((with_reducible refine Qa fun K E hK hE=>?_));simp -implicitDefEqProofs only[Qc,Qd,OpW,aop,undef,AS.ev,Qr,↓reduceIte,aBin,b32,b9,b13,seval])|(with_reducible (first|refine Qf fun K hK=>?_|refine Qi ?_|refine Qm ?_|refine Qk ?_|refine Qb ?_|refine Qy ?_|refine QE ?_))|((with_reducible refine hK _ ?_);clear hK)|(refine Qh rfl ?_;simp only[↓reduceIte,QrN]))
 simp only[QH,Qo,Qt,upd,↓reduceIte,QrP,QrT];(refine Qq List.take_length (.keep (.v _)) ⟨by rw[e0],rfl⟩)
theorem Qqv(c:Int)(hc:c=10):Pure Tryd.prog 96 [.v (.int .u8 c)] (.i (clsN c)):=by
 intro h
 have e0:clsN c=1:=by simp only[clsN];repeat' (first|rw[if_pos (by omega)]|rw[if_neg (by omega)])
 have b32:(c==32)=false:=by simp;omega
 have b9:(c==9)=false:=by simp;omega
 have b13:(c==13)=false:=by simp;omega
 have b10:(c==10)=true:=by simp;omega
 have b95:(c==95)=false:=by simp;omega
 have g97:¬97≤c:=by omega
 have l122:c≤122:=by omega
 have g65:¬65≤c:=by omega
 have l90:c≤90:=by omega
 have g48:¬48≤c:=by omega
 have l57:c≤57:=by omega
 refine Qe Tryd.func96 rfl Tryd.call96 Tryd.ntmps96 Tryd.results96 (by simp) ?_
 repeat (first|((first|(with_reducible (first|refine Qa fun K E hK hE=>?_|refine Qj fun K E hK hE=>?_)));simp -implicitDefEqProofs only[Qc,Qd,OpW,aop,undef,AS.ev,Qr,↓reduceIte,aBin,b32,b9,b13,b10,seval])|(with_reducible (first|refine Qf fun K hK=>?_|refine Qi ?_|refine Qm ?_|refine Qb ?_|refine Qy ?_|refine QE ?_))|((with_reducible refine hK _ ?_);clear hK)|(refine Qh rfl ?_;simp only[↓reduceIte,QrN]))
 simp only[QH,Qo,Qt,upd,↓reduceIte,QrP,QrT];(refine Qq List.take_length (.keep (.v _)) ⟨by rw[e0],rfl⟩)
theorem Qqw(c:Int)(hc:97≤c∧c≤122):Pure Tryd.prog 96 [.v (.int .u8 c)] (.i (clsN c)):=by
 intro h
 have e0:clsN c=2:=by simp only[clsN];repeat' (first|rw[if_pos (by omega)]|rw[if_neg (by omega)])
 have b32:(c==32)=false:=by simp;omega
 have b9:(c==9)=false:=by simp;omega
 have b13:(c==13)=false:=by simp;omega
 have b10:(c==10)=false:=by simp;omega
 have b95:(c==95)=false:=by simp;omega
 have g97:97≤c:=by omega
 have l122:c≤122:=by omega
 have g65:65≤c:=by omega
 have l90:¬c≤90:=by omega
 have g48:48≤c:=by omega
 have l57:¬c≤57:=by omega
 refine Qe Tryd.func96 rfl Tryd.call96 Tryd.ntmps96 Tryd.results96 (by simp) ?_
 repeat (first|((first|(with_reducible (first|refine Qa fun K E hK hE=>?_|refine Qj fun K E hK hE=>?_)));simp -implicitDefEqProofs only[Qc,Qd,OpW,aop,undef,AS.ev,Qr,↓reduceIte,aBin,b32,b9,b13,b10,g97,l122,seval])|(with_reducible (first|refine Qf fun K hK=>?_|refine Qi ?_|refine Qm ?_|refine Qb ?_|refine Qy ?_|refine QE ?_))|((with_reducible refine hK _ ?_);clear hK)|(refine Qh rfl ?_;simp only[↓reduceIte,QrN]))
 simp only[QH,Qo,Qt,upd,↓reduceIte,QrP,QrT];(refine Qq List.take_length (.keep (.v _)) ⟨by rw[e0],rfl⟩)
theorem Qqx(c:Int)(hc:65≤c∧c≤90):Pure Tryd.prog 96 [.v (.int .u8 c)] (.i (clsN c)):=by
 intro h
 have e0:clsN c=3:=by simp only[clsN];repeat' (first|rw[if_pos (by omega)]|rw[if_neg (by omega)])
 have b32:(c==32)=false:=by simp;omega
 have b9:(c==9)=false:=by simp;omega
 have b13:(c==13)=false:=by simp;omega
 have b10:(c==10)=false:=by simp;omega
 have b95:(c==95)=false:=by simp;omega
 have g97:¬97≤c:=by omega
 have l122:c≤122:=by omega
 have g65:65≤c:=by omega
 have l90:c≤90:=by omega
 have g48:48≤c:=by omega
 have l57:¬c≤57:=by omega
 refine Qe Tryd.func96 rfl Tryd.call96 Tryd.ntmps96 Tryd.results96 (by simp) ?_
 repeat (first|((first|(with_reducible (first|refine Qa fun K E hK hE=>?_|refine Qj fun K E hK hE=>?_)));simp -implicitDefEqProofs only[Qc,Qd,OpW,aop,undef,AS.ev,Qr,↓reduceIte,aBin,b32,b9,b13,b10,g97,g65,l90,seval])|(with_reducible (first|refine Qf fun K hK=>?_|refine Qi ?_|refine Qm ?_|refine Qk ?_|refine Qb ?_|refine Qy ?_|refine QE ?_))|((with_reducible refine hK _ ?_);clear hK)|(refine Qh rfl ?_;simp only[↓reduceIte,QrN]))
 simp only[QH,Qo,Qt,upd,↓reduceIte,QrP,QrT];(refine Qq List.take_length (.keep (.v _)) ⟨by rw[e0],rfl⟩)
theorem Qqy(c:Int)(hc:c=95):Pure Tryd.prog 96 [.v (.int .u8 c)] (.i (clsN c)):=by
 intro h
 have e0:clsN c=3:=by simp only[clsN];repeat' (first|rw[if_pos (by omega)]|rw[if_neg (by omega)])
 have b32:(c==32)=false:=by simp;omega
 have b9:(c==9)=false:=by simp;omega
 have b13:(c==13)=false:=by simp;omega
 have b10:(c==10)=false:=by simp;omega
 have b95:(c==95)=true:=by simp;omega
 have g97:¬97≤c:=by omega
 have l122:c≤122:=by omega
 have g65:65≤c:=by omega
 have l90:¬c≤90:=by omega
 have g48:48≤c:=by omega
 have l57:¬c≤57:=by omega
 refine Qe Tryd.func96 rfl Tryd.call96 Tryd.ntmps96 Tryd.results96 (by simp) ?_
 repeat (first|((first|(with_reducible (first|refine Qa fun K E hK hE=>?_|refine Qj fun K E hK hE=>?_)));simp -implicitDefEqProofs only[Qc,Qd,OpW,aop,undef,AS.ev,Qr,↓reduceIte,aBin,b32,b9,b13,b10,b95,g97,g65,l90,seval])|(with_reducible (first|refine Qf fun K hK=>?_|refine Qi ?_|refine Qm ?_|refine Qb ?_|refine Qy ?_|refine QE ?_))|((with_reducible refine hK _ ?_);clear hK)|(refine Qh rfl ?_;simp only[↓reduceIte,QrN]))
 simp only[QH,Qo,Qt,upd,↓reduceIte,QrP,QrT];(refine Qq List.take_length (.keep (.v _)) ⟨by rw[e0],rfl⟩)
theorem Qqz(c:Int)(hc:48≤c∧c≤57):Pure Tryd.prog 96 [.v (.int .u8 c)] (.i (clsN c)):=by
 intro h
 have e0:clsN c=4:=by simp only[clsN];repeat' (first|rw[if_pos (by omega)]|rw[if_neg (by omega)])
 have b32:(c==32)=false:=by simp;omega
 have b9:(c==9)=false:=by simp;omega
 have b13:(c==13)=false:=by simp;omega
 have b10:(c==10)=false:=by simp;omega
 have b95:(c==95)=false:=by simp;omega
 have g97:¬97≤c:=by omega
 have l122:c≤122:=by omega
 have g65:¬65≤c:=by omega
 have l90:c≤90:=by omega
 have g48:48≤c:=by omega
 have l57:c≤57:=by omega
 refine Qe Tryd.func96 rfl Tryd.call96 Tryd.ntmps96 Tryd.results96 (by simp) ?_
 repeat (first|((first|(with_reducible (first|refine Qa fun K E hK hE=>?_|refine Qj fun K E hK hE=>?_)));simp -implicitDefEqProofs only[Qc,Qd,OpW,aop,undef,AS.ev,Qr,↓reduceIte,aBin,b32,b9,b13,b10,b95,g97,g65,g48,l57,seval])|(with_reducible (first|refine Qf fun K hK=>?_|refine Qi ?_|refine Qm ?_|refine Qb ?_|refine Qy ?_|refine QE ?_))|((with_reducible refine hK _ ?_);clear hK)|(refine Qh rfl ?_;simp only[↓reduceIte,QrN]))
 simp only[QH,Qo,Qt,upd,↓reduceIte,QrP,QrT];(refine Qq List.take_length (.keep (.v _)) ⟨by rw[e0],rfl⟩)
theorem QqA(c:Int)(hc:c<48∧c≠32∧c≠9∧c≠13∧c≠10):Pure Tryd.prog 96 [.v (.int .u8 c)] (.i (clsN c)):=by
 intro h
 have e0:clsN c=0:=by simp only[clsN];repeat' (first|rw[if_pos (by omega)]|rw[if_neg (by omega)])
 have b32:(c==32)=false:=by simp;omega
 have b9:(c==9)=false:=by simp;omega
 have b13:(c==13)=false:=by simp;omega
 have b10:(c==10)=false:=by simp;omega
 have b95:(c==95)=false:=by simp;omega
 have g97:¬97≤c:=by omega
 have l122:c≤122:=by omega
 have g65:¬65≤c:=by omega
 have l90:c≤90:=by omega
 have g48:¬48≤c:=by omega
 have l57:c≤57:=by omega
 refine Qe Tryd.func96 rfl Tryd.call96 Tryd.ntmps96 Tryd.results96 (by simp) ?_
 repeat (first|((first|(with_reducible (first|refine Qa fun K E hK hE=>?_|refine Qj fun K E hK hE=>?_)));simp -implicitDefEqProofs only[Qc,Qd,OpW,aop,undef,AS.ev,Qr,↓reduceIte,aBin,b32,b9,b13,b10,b95,g97,g65,g48,seval])|(with_reducible (first|refine Qf fun K hK=>?_|refine Qi ?_|refine Qm ?_|refine Qk ?_|refine Qb ?_|refine Qn ?_))|((with_reducible refine hK _ ?_);clear hK)|(refine Qh rfl ?_;simp only[↓reduceIte,QrN]))
 simp only[QH,Qo,Qt,upd,↓reduceIte,QrP,QrT];(refine Qq List.take_length (.keep (.v _)) ⟨by rw[e0],rfl⟩)
theorem QqB(c:Int)(hc:58≤c∧c≤64):Pure Tryd.prog 96 [.v (.int .u8 c)] (.i (clsN c)):=by
 intro h
 have e0:clsN c=0:=by simp only[clsN];repeat' (first|rw[if_pos (by omega)]|rw[if_neg (by omega)])
 have b32:(c==32)=false:=by simp;omega
 have b9:(c==9)=false:=by simp;omega
 have b13:(c==13)=false:=by simp;omega
 have b10:(c==10)=false:=by simp;omega
 have b95:(c==95)=false:=by simp;omega
 have g97:¬97≤c:=by omega
 have l122:c≤122:=by omega
 have g65:¬65≤c:=by omega
 have l90:c≤90:=by omega
 have g48:48≤c:=by omega
 have l57:¬c≤57:=by omega
 refine Qe Tryd.func96 rfl Tryd.call96 Tryd.ntmps96 Tryd.results96 (by simp) ?_
 repeat (first|((first|(with_reducible (first|refine Qa fun K E hK hE=>?_|refine Qj fun K E hK hE=>?_)));simp -implicitDefEqProofs only[Qc,Qd,OpW,aop,undef,AS.ev,Qr,↓reduceIte,aBin,b32,b9,b13,b10,b95,g97,g65,g48,l57,seval])|(with_reducible (first|refine Qf fun K hK=>?_|refine Qi ?_|refine Qm ?_|refine Qk ?_|refine Qb ?_|refine Qn ?_))|((with_reducible refine hK _ ?_);clear hK)|(refine Qh rfl ?_;simp only[↓reduceIte,QrN]))
 simp only[QH,Qo,Qt,upd,↓reduceIte,QrP,QrT];(refine Qq List.take_length (.keep (.v _)) ⟨by rw[e0],rfl⟩)
theorem QpC(c:Int)(hc:91≤c∧c≤94):Pure Tryd.prog 96 [.v (.int .u8 c)] (.i (clsN c)):=by
 intro h
 have e0:clsN c=0:=by simp only[clsN];repeat' (first|rw[if_pos (by omega)]|rw[if_neg (by omega)])
 have b32:(c==32)=false:=by simp;omega
 have b9:(c==9)=false:=by simp;omega
 have b13:(c==13)=false:=by simp;omega
 have b10:(c==10)=false:=by simp;omega
 have b95:(c==95)=false:=by simp;omega
 have g97:¬97≤c:=by omega
 have l122:c≤122:=by omega
 have g65:65≤c:=by omega
 have l90:¬c≤90:=by omega
 have g48:48≤c:=by omega
 have l57:¬c≤57:=by omega
 refine Qe Tryd.func96 rfl Tryd.call96 Tryd.ntmps96 Tryd.results96 (by simp) ?_
 repeat (first|((first|(with_reducible (first|refine Qa fun K E hK hE=>?_|refine Qj fun K E hK hE=>?_)));simp -implicitDefEqProofs only[Qc,Qd,OpW,aop,undef,AS.ev,Qr,↓reduceIte,aBin,b32,b9,b13,b10,b95,g97,g65,l90,g48,l57,seval])|(with_reducible (first|refine Qf fun K hK=>?_|refine Qi ?_|refine Qm ?_|refine Qk ?_|refine Qb ?_|refine Qn ?_))|((with_reducible refine hK _ ?_);clear hK)|(refine Qh rfl ?_;simp only[↓reduceIte,QrN]))
 simp only[QH,Qo,Qt,upd,↓reduceIte,QrP,QrT];(refine Qq List.take_length (.keep (.v _)) ⟨by rw[e0],rfl⟩)
theorem QpD(c:Int)(hc:c=96):Pure Tryd.prog 96 [.v (.int .u8 c)] (.i (clsN c)):=by
 intro h
 have e0:clsN c=0:=by simp only[clsN];repeat' (first|rw[if_pos (by omega)]|rw[if_neg (by omega)])
 have b32:(c==32)=false:=by simp;omega
 have b9:(c==9)=false:=by simp;omega
 have b13:(c==13)=false:=by simp;omega
 have b10:(c==10)=false:=by simp;omega
 have b95:(c==95)=false:=by simp;omega
 have g97:¬97≤c:=by omega
 have l122:c≤122:=by omega
 have g65:65≤c:=by omega
 have l90:¬c≤90:=by omega
 have g48:48≤c:=by omega
 have l57:¬c≤57:=by omega
 refine Qe Tryd.func96 rfl Tryd.call96 Tryd.ntmps96 Tryd.results96 (by simp) ?_
 repeat (first|((first|(with_reducible (first|refine Qa fun K E hK hE=>?_|refine Qj fun K E hK hE=>?_)));simp -implicitDefEqProofs only[Qc,Qd,OpW,aop,undef,AS.ev,Qr,↓reduceIte,aBin,b32,b9,b13,b10,b95,g97,g65,l90,g48,l57,seval])|(with_reducible (first|refine Qf fun K hK=>?_|refine Qi ?_|refine Qm ?_|refine Qk ?_|refine Qb ?_|refine Qn ?_))|((with_reducible refine hK _ ?_);clear hK)|(refine Qh rfl ?_;simp only[↓reduceIte,QrN]))
 simp only[QH,Qo,Qt,upd,↓reduceIte,QrP,QrT];(refine Qq List.take_length (.keep (.v _)) ⟨by rw[e0],rfl⟩)
theorem QpE(c:Int)(hc:122<c):Pure Tryd.prog 96 [.v (.int .u8 c)] (.i (clsN c)):=by
 intro h
 have e0:clsN c=0:=by simp only[clsN];repeat' (first|rw[if_pos (by omega)]|rw[if_neg (by omega)])
 have b32:(c==32)=false:=by simp;omega
 have b9:(c==9)=false:=by simp;omega
 have b13:(c==13)=false:=by simp;omega
 have b10:(c==10)=false:=by simp;omega
 have b95:(c==95)=false:=by simp;omega
 have g97:97≤c:=by omega
 have l122:¬c≤122:=by omega
 have g65:65≤c:=by omega
 have l90:¬c≤90:=by omega
 have g48:48≤c:=by omega
 have l57:¬c≤57:=by omega
 refine Qe Tryd.func96 rfl Tryd.call96 Tryd.ntmps96 Tryd.results96 (by simp) ?_
 repeat (first|((first|(with_reducible (first|refine Qa fun K E hK hE=>?_|refine Qj fun K E hK hE=>?_)));simp -implicitDefEqProofs only[Qc,Qd,OpW,aop,undef,AS.ev,Qr,↓reduceIte,aBin,b32,b9,b13,b10,b95,g97,l122,g65,l90,g48,l57,seval])|(with_reducible (first|refine Qf fun K hK=>?_|refine Qi ?_|refine Qm ?_|refine Qk ?_|refine Qb ?_|refine Qn ?_))|((with_reducible refine hK _ ?_);clear hK)|(refine Qh rfl ?_;simp only[↓reduceIte,QrN]))
 simp only[QH,Qo,Qt,upd,↓reduceIte,QrP,QrT];(refine Qq List.take_length (.keep (.v _)) ⟨by rw[e0],rfl⟩)
theorem Qcc(c:Int):Pure Tryd.prog 96 [.v (.int .u8 c)] (.i (clsN c)):=by
 have hcs:c=32∨c=9∨c=13∨c=10∨97≤c∧c≤122∨65≤c∧c≤90∨c=95∨48≤c∧c≤57∨c<48∧c≠32∧c≠9∧c≠13∧c≠10∨58≤c∧c≤64∨91≤c∧c≤94∨c=96∨122<c:=by omega
 rcases hcs with h|h|h|h|h|h|h|h|h|h|h|h|h
 ·exact Qqs c h
 ·exact Qqt c h
 ·exact Qqu c h
 ·exact Qqv c h
 ·exact Qqw c h
 ·exact Qqx c h
 ·exact Qqy c h
 ·exact Qqz c h
 ·exact QqA c h
 ·exact QqB c h
 ·exact QpC c h
 ·exact QpD c h
 ·exact QpE c h
end Go.Proofs.YticgcpebdldbgaaDoor.Ab
set_option maxRecDepth 4000
namespace Go.Proofs.YticgcpebdldbgaaDoor.Ab
open Go.Proofs
theorem QA(l:List UInt8):(mkB l).size=l.length:=by show l.toArray.size=_;simp
theorem Qho(l:List UInt8):(mkB l).data.toList=l:=by simp[mkB]
theorem QdF(s:ByteArray):mkB s.data.toList=s:=Qoh (by rw[Qho])
theorem Qco(l:List UInt8):(mkB l).toList=l:=by rw[Lib.toList_data,Qho]
theorem X7(l:List UInt8)(i:Nat)(h:i<l.length):byteAt (mkB l) i=((l[i]).toNat:Nat):=by
 unfold byteAt;rw[Qho,List.getD_eq_getElem?_getD,List.getElem?_eq_getElem h];rfl
theorem Qlk(c:UInt8):(clsN (c.toNat:Nat)==1)=isSp c:=by
 unfold clsN isSp
 by_cases h:((c.toNat:Nat):Int)=32∨((c.toNat:Nat):Int)=9∨((c.toNat:Nat):Int)=13∨((c.toNat:Nat):Int)=10
 ·rw[if_pos h,decide_eq_true (by omega)];rfl
 ·rw[if_neg h,decide_eq_false (by omega)]
  repeat' split
  all_goals rfl
theorem QpB(c:UInt8):(2≤clsN (c.toNat:Nat))↔isW c=true:=by
 have hc:=c.toNat_lt
 unfold clsN isW isL isD
 simp only[Bool.or_eq_true,decide_eq_true_eq]
 repeat' split
 all_goals omega
theorem Qlj(c:UInt8):(4≤clsN (c.toNat:Nat))↔isD c=true:=by
 have hc:=c.toNat_lt
 unfold clsN isD
 simp only[decide_eq_true_eq]
 repeat' split
 all_goals omega
theorem drop_cons{l:List UInt8}{k:Nat}(h:k<l.length):l.drop k=l[k]::l.drop (k+1):=List.drop_eq_getElem_cons h
section
variable(l:List UInt8)(hl:l.length≤16384)
include hl
theorem QhB(p:UInt8→Bool)(least:Int)(hcl:∀c:UInt8,(least≤clsN (c.toNat:Nat))↔p c=true)(k:Nat)(hk:k≤l.length) :
  Pure Tryd.prog 97 [.v (.string (mkB l)),.i k,.i least] (.i ((k+((l.drop k).takeWhile p).length:Nat):Int)):=by
 intro h
 have hsl:=fun b=>Yi Tryd.prog 9 3 (by kernel_rfl) b
 refine Qe Tryd.func97 rfl Tryd.call97 Tryd.ntmps97 Tryd.results97 (by simp) ?_
 repeat (first|(((with_reducible refine Qa fun K E hK hE=>?_));simp -implicitDefEqProofs only[XN,Y0,Qd,OpW,aop,AS.ev,Xw,QbX,Nat.reduceLT])|(with_reducible (first|refine Qf fun K hK=>?_|refine Qi ?_))|((with_reducible refine hK _ ?_);clear hK))
 obtain⟨I,hI⟩:∃I:Nat→AS→Prop,I=fun m' s=>∃j:Nat,m'=l.length - j∧j≤l.length∧j+((l.drop j).takeWhile p).length=k+((l.drop k).takeWhile p).length∧s.tm 0 = .v (.string (mkB l))∧s.tm 1 = .i j∧s.tm 2 = .i least∧s.h=h:=⟨_,rfl⟩;refine QR I ?_ (m:=l.length - k) ?_
 ·intro m' s hs;rw[hI]at hs;obtain⟨tm,hp⟩:=s;dsimp only at hs;obtain⟨j,rfl,hj,he,t0,t1,t2,rfl⟩:=hs
  by_cases hlt:j<l.length
  ·have z1:(((j:Nat):Int)<((l.length:Nat):Int)):=by omega
   have hix:=XP Tryd.prog 9 (by kernel_rfl) (mkB l) j (by rw[QA];exact hlt)
   rw[X7 l j hlt]at hix
   have cp:=Qcc (((l[j]).toNat:Nat):Int)
   rw[drop_cons hlt,List.takeWhile_cons]at he
   by_cases hc:p l[j]=true
   ·rw[if_pos hc,List.length_cons]at he
    have z2:least≤clsN (((l[j]).toNat:Nat):Int):=(hcl _).2 hc
    repeat (first|((first|(with_reducible (first|refine Qa fun K E hK hE=>?_|refine Qj fun K E hK hE=>?_|refine Qz cp ?_)));simp -implicitDefEqProofs only[Qc,Qd,OpW,QB,aop,AS.ev,↓reduceIte,aBin,aLen,goInt,t0,t1,t2,hsl,QA,z1,hix,z2,seval])|(with_reducible (first|refine Qf fun K hK=>?_|refine Qi ?_|refine Qk ?_|refine Qb ?_|refine Qn ?_))|((with_reducible refine hK _ ?_);clear hK)|(refine Qh rfl ?_;simp only[↓reduceIte]))
    refine Xi.mk (m':=l.length - (j+1)) (by omega) ?_
    rw[hI]
    refine⟨j+1,rfl,hlt,by omega,t0,?_,t2,rfl⟩
    simp only[upd,↓reduceIte]
    rw[XE (by omega)]
   ·rw[if_neg hc,List.length_nil]at he
    have z2:¬least≤clsN (((l[j]).toNat:Nat):Int):=fun q=>hc ((hcl _).1 q)
    repeat (first|((first|(with_reducible (first|refine Qa fun K E hK hE=>?_|refine Qz cp ?_)));simp -implicitDefEqProofs only[Qc,Qd,OpW,QB,aop,AS.ev,↓reduceIte,aBin,aLen,goInt,t0,t1,t2,hsl,QA,z1,hix,z2,seval])|(with_reducible (first|refine Qf fun K hK=>?_|refine Qm ?_|refine QF ?_|refine Qb ?_|refine QD ?_|refine QC ?_))|((with_reducible refine hK _ ?_);clear hK)|(clear hK;(with_reducible refine hK _ ?_);clear hK)|(refine Qh rfl ?_;simp only[↓reduceIte,QrN]))
    simp only[QH,Qo,Qt,upd,↓reduceIte,QrP,QrT]
    exact Qq List.take_length (.keep (.v _)) ⟨by rw[←he];rfl,rfl⟩
  ·have hjl:j=l.length:=by omega
   have z1:¬(((j:Nat):Int)<((l.length:Nat):Int)):=by omega
   rw[hjl,List.drop_length]at he
   repeat (first|(((with_reducible refine Qa fun K E hK hE=>?_));simp -implicitDefEqProofs only[Qc,Qd,OpW,aop,undef,AS.ev,↓reduceIte,aBin,aLen,goInt,t0,t1,hsl,QA,z1,seval])|(with_reducible (first|refine Qf fun K hK=>?_|refine Qm ?_|refine QF ?_|refine Qb ?_|refine QD ?_|refine QC ?_))|((with_reducible refine hK _ ?_);clear hK)|(clear hK;(with_reducible refine hK _ ?_);clear hK)|(refine Qh rfl ?_;simp only[↓reduceIte,QrN]))
   simp only[QH,Qo,Qt,upd,↓reduceIte,QrP,QrT]
   exact Qq List.take_length (.keep (.v _)) ⟨by rw[←he,hjl];rfl,rfl⟩
 ·rw[hI]
  exact⟨k,rfl,hk,rfl,rfl,rfl,rfl,rfl⟩
theorem Qkw(k:Nat)(hk:k≤l.length):Pure Tryd.prog 90 [.v (.string (mkB l)),.i k] (.i ((l.length - (QV false (l.drop k)).length:Nat):Int)):=by
 intro h
 have hsl:=fun b=>Yi Tryd.prog 9 3 (by kernel_rfl) b
 refine Qe Tryd.func90 rfl Tryd.call90 Tryd.ntmps90 Tryd.results90 (by simp) ?_
 repeat (first|(((with_reducible refine Qa fun K E hK hE=>?_));simp -implicitDefEqProofs only[XN,Y0,Qd,OpW,aop,AS.ev,Xw,QbX,Nat.reduceLT])|(with_reducible (first|refine Qf fun K hK=>?_|refine Qi ?_))|((with_reducible refine hK _ ?_);clear hK))
 obtain⟨I,hI⟩:∃I:Nat→AS→Prop,I=fun m' s=>∃j:Nat,m'=l.length - j∧j≤l.length∧QV false (l.drop j)=QV false (l.drop k)∧s.tm 0 = .v (.string (mkB l))∧s.tm 1 = .i j∧s.h=h:=⟨_,rfl⟩;refine QR I ?_ (m:=l.length - k) ?_
 ·intro m' s hs;rw[hI]at hs;obtain⟨tm,hp⟩:=s;dsimp only at hs;obtain⟨j,rfl,hj,he,t0,t1,rfl⟩:=hs
  by_cases hlt:j<l.length
  ·have z1:(((j:Nat):Int)<((l.length:Nat):Int)):=by omega
   have hix:=XP Tryd.prog 9 (by kernel_rfl) (mkB l) j (by rw[QA];exact hlt)
   rw[X7 l j hlt]at hix
   have cp:=Qcc (((l[j]).toNat:Nat):Int)
   have hd:=drop_cons hlt
   rw[hd,QV]at he
   by_cases hc:isSp l[j]=true
   ·rw[if_pos hc]at he
    have z2:(clsN (((l[j]).toNat:Nat):Int)==1)=true:=by rw[Qlk];exact hc
    repeat (first|((first|(with_reducible (first|refine Qa fun K E hK hE=>?_|refine Qj fun K E hK hE=>?_|refine Qz cp ?_)));simp -implicitDefEqProofs only[Qc,Qd,OpW,QB,aop,AS.ev,↓reduceIte,aBin,aLen,goInt,t0,t1,hsl,QA,z1,hix,z2,seval])|(with_reducible (first|refine Qf fun K hK=>?_|refine Qi ?_|refine Qk ?_|refine Qb ?_|refine Qn ?_))|((with_reducible refine hK _ ?_);clear hK)|(refine Qh rfl ?_;simp only[↓reduceIte]))
    refine Xi.mk (m':=l.length - (j+1)) (by omega) ?_
    rw[hI]
    refine⟨j+1,rfl,hlt,he,t0,?_,rfl⟩
    simp only[upd,↓reduceIte]
    rw[XE (by omega)]
   ·rw[if_neg hc]at he
    have z2:(clsN (((l[j]).toNat:Nat):Int)==1)=false:=by rw[Qlk];simpa using hc
    by_cases h35:(l[j]).toNat=35
    ·rw[if_pos h35]at he
     have z3:((((l[j]).toNat:Nat):Int)==35)=true:=by rw[h35];rfl
     have hI0:=hI
     repeat (first|((first|(with_reducible (first|refine Qa fun K E hK hE=>?_|refine Qz cp ?_)));simp -implicitDefEqProofs only[Qc,Qd,OpW,QB,aop,AS.ev,↓reduceIte,aBin,aLen,goInt,t0,t1,hsl,QA,z1,hix,z2,z3,seval])|(with_reducible (first|refine Qf fun K hK=>?_|refine Qi ?_|refine Qk ?_|refine Qb ?_))|((with_reducible refine hK _ ?_);clear hK)|(refine Qh rfl ?_;simp only[↓reduceIte,QrN]))
     obtain⟨I,hI⟩:∃I:Nat→AS→Prop,I=fun m' s=>∃i:Nat,m'=l.length - i∧i≤l.length∧j≤i∧(i=j∨QV true (l.drop i)=QV false (l.drop k))∧s.tm 0 = .v (.string (mkB l))∧s.tm 1 = .i i∧s.h=hp:=⟨_,rfl⟩;refine QR I ?_ (m:=l.length - j) ?_
     ·intro m' s hs;rw[hI]at hs;obtain⟨tm,hp⟩:=s;dsimp only at hs;obtain⟨i,rfl,hi,hji,he2,u0,u1,rfl⟩:=hs
      by_cases hlt2:i<l.length
      ·have y1:(((i:Nat):Int)<((l.length:Nat):Int)):=by omega
       have hix2:=XP Tryd.prog 9 (by kernel_rfl) (mkB l) i (by rw[QA];exact hlt2)
       rw[X7 l i hlt2]at hix2
       have hd2:=drop_cons hlt2
       by_cases h10:(l[i]).toNat=10
       ·have y2:((((l[i]).toNat:Nat):Int) != 10)=false:=by rw[h10];rfl
        have hne:i≠j:=by rintro rfl;omega
        have he3:=he2.resolve_left hne
        rw[hd2,QV,if_pos h10]at he3
        repeat (first|(((with_reducible refine Qa fun K E hK hE=>?_));simp -implicitDefEqProofs only[Qc,Qd,OpW,aop,AS.ev,↓reduceIte,aBin,aLen,goInt,u0,u1,hsl,QA,y1,hix2,y2,seval])|(with_reducible (first|refine Qf fun K hK=>?_|refine QF ?_|refine Qb ?_|refine QD ?_|refine Qn ?_|refine QC ?_))|((with_reducible refine hK _ ?_);clear hK)|(refine Qh rfl ?_;simp only[↓reduceIte,QrN]))
        refine Xi.mk (m':=l.length - i) (by omega) ?_
        rw[hI0]
        refine⟨i,rfl,hi,?_,u0,u1,rfl⟩
        rw[hd2,QV,if_pos (show isSp l[i]=true by unfold isSp;exact decide_eq_true (by omega))];exact he3
       ·have y2:((((l[i]).toNat:Nat):Int) != 10)=true:=by simpa using fun e=>h10 (by omega)
        repeat (first|((first|(with_reducible (first|refine Qa fun K E hK hE=>?_|refine Qj fun K E hK hE=>?_)));simp -implicitDefEqProofs only[Qc,Qd,OpW,aop,AS.ev,↓reduceIte,aBin,aLen,goInt,u0,u1,hsl,QA,y1,hix2,y2,seval])|(with_reducible (first|refine Qf fun K hK=>?_|refine Qi ?_|refine Qk ?_|refine Qb ?_|refine Qn ?_))|((with_reducible refine hK _ ?_);clear hK)|(refine Qh rfl ?_;simp only[↓reduceIte]))
        refine Xi.mk (m':=l.length - (i+1)) (by omega) ?_
        rw[hI]
        refine⟨i+1,rfl,hlt2,by omega,.inr ?_,u0,?_,rfl⟩
        ·rcases he2 with rfl|he2
         ·exact he
         ·rw[hd2,QV,if_neg h10]at he2;exact he2
        ·simp only[upd,↓reduceIte]
         rw[XE (by omega)]
      ·have hil:i=l.length:=by omega
       have y1:¬(((i:Nat):Int)<((l.length:Nat):Int)):=by omega
       have hne:i≠j:=by omega
       have he3:=he2.resolve_left hne
       repeat (first|(((with_reducible refine Qa fun K E hK hE=>?_));simp -implicitDefEqProofs only[Qc,Qd,OpW,aop,undef,AS.ev,↓reduceIte,aBin,aLen,goInt,u0,u1,hsl,QA,y1,seval])|(with_reducible (first|refine Qf fun K hK=>?_|refine QF ?_|refine Qb ?_|refine QD ?_|refine Qn ?_|refine QC ?_))|((with_reducible refine hK _ ?_);clear hK)|(refine Qh rfl ?_;simp only[↓reduceIte,QrN]))
       refine Xi.mk (m':=l.length - i) (by omega) ?_
       rw[hI0]
       refine⟨i,rfl,hi,?_,u0,u1,rfl⟩
       rw[hil,List.drop_length]at he3 ⊢
       rw[←he3,QV,QV]
     ·rw[hI]
      exact⟨j,rfl,hj,Nat.le_refl _,.inl rfl,t0,t1,rfl⟩
    ·rw[if_neg h35]at he
     have z3:((((l[j]).toNat:Nat):Int)==35)=false:=by simpa using fun e=>h35 (by omega)
     repeat (first|((first|(with_reducible (first|refine Qa fun K E hK hE=>?_|refine Qz cp ?_)));simp -implicitDefEqProofs only[Qc,Qd,OpW,QB,aop,AS.ev,↓reduceIte,aBin,aLen,goInt,t0,t1,hsl,QA,z1,hix,z2,z3,seval])|(with_reducible (first|refine Qf fun K hK=>?_|refine Qi ?_|refine Qm ?_|refine Qk ?_|refine Qb ?_|refine Qy ?_|refine QE ?_))|((with_reducible refine hK _ ?_);clear hK)|(refine Qh rfl ?_;simp only[↓reduceIte,QrN]))
     simp only[QH,Qo,Qt,upd,↓reduceIte,QrP,QrT]
     exact Qq List.take_length (.keep (.v _)) ⟨by rw[←he,List.length_cons,List.length_drop];congr 3;omega,rfl⟩
  ·have hjl:j=l.length:=by omega
   have z1:¬(((j:Nat):Int)<((l.length:Nat):Int)):=by omega
   rw[hjl,List.drop_length,QV]at he
   repeat (first|(((with_reducible refine Qa fun K E hK hE=>?_));simp -implicitDefEqProofs only[Qc,Qd,OpW,aop,AS.ev,↓reduceIte,aBin,aLen,goInt,t0,t1,hsl,QA,z1,seval])|(with_reducible (first|refine Qf fun K hK=>?_|refine Qm ?_|refine QF ?_|refine Qb ?_|refine QD ?_|refine QC ?_))|((with_reducible refine hK _ ?_);clear hK)|(clear hK;(with_reducible refine hK _ ?_);clear hK)|(refine Qh rfl ?_;simp only[↓reduceIte,QrN]))
   simp only[QH,Qo,Qt,upd,↓reduceIte,QrP,QrT]
   exact Qq List.take_length (.keep (.v _)) ⟨by rw[←he,hjl];rfl,rfl⟩
 ·rw[hI]
  exact⟨k,rfl,hk,rfl,rfl,rfl,rfl⟩
end
end Go.Proofs.YticgcpebdldbgaaDoor.Ab
set_option maxRecDepth 4000
namespace Go.Proofs.YticgcpebdldbgaaDoor.Ab
open Go.Proofs
theorem Qeq(l:List UInt8)(c:UInt8):numVal (l++[c])=10 * numVal l+(c.toNat - 48):=by simp[numVal,List.foldl_append]
theorem Ql2(l:List UInt8):∀m:List UInt8,numVal l≤numVal (l++m):=by
 intro m
 induction m generalizing l with
 |nil=>rw[List.append_nil];exact Nat.le_refl _
 |cons c m ih =>
  have h1:=ih (l++[c])
  rw[List.append_assoc]at h1
  have h2:=Qeq l c
  show numVal l≤numVal (l++([c]++m))
  omega
theorem QbW{l:List UInt8}{p:Nat}(h:p<l.length):numVal (l.take (p+1))=10 * numVal (l.take p)+((l[p]).toNat - 48)∧numVal (l.take (p+1))≤numVal l:=by
 refine⟨by rw[List.take_succ_eq_append_getElem h,Qeq],?_⟩
 have:=Ql2 (l.take (p+1)) (l.drop (p+1))
 rwa [List.take_append_drop]at this
theorem wrap32{n:Int}(h : -2147483648≤n∧n≤2147483647):IntKind.i32.wrap n=n:=IntWalk.i32_in n h
theorem Qp2(n:Int)(hn:0≤n∧n<256):pv Tryd.prog (convert 21 3 (.int .i32 n))=some (.int .i64 n):=by
 have:pv Tryd.prog (convert 21 3 (.int .i32 n))=some (.int .i64 (IntKind.i64.wrap n)):=by kernel_rfl
 rw[this,Xt (by omega)]
theorem Qio(l:List UInt8)(hd:∀c∈l,isD c=true)(hv:numVal l≤2147483648):Pure Tryd.prog 38 [.v (.string (mkB l))] (.i (numVal l:Nat)):=by
 intro h
 refine Qe Tryd.func38 rfl Tryd.call38 Tryd.ntmps38 Tryd.results38 (by simp) ?_
 repeat (first|(((with_reducible refine Qa fun K E hK hE=>?_));simp -implicitDefEqProofs only[Qc,Qd,OpW,aop,undef,AS.ev,Qr,↓reduceIte,un9,seval])|(with_reducible (first|refine Qf fun K hK=>?_|refine Qi ?_))|((with_reducible refine hK _ ?_);clear hK))
 obtain⟨I,hI⟩:∃I:Nat→AS→Prop,I=fun m' s=>∃(p:Nat),m'=l.length - p∧p≤l.length∧s.tm 3 = .i (numVal (l.take p):Nat)∧s.tm 7 = .mp h.length∧s.h=h++[.iter (mkB l) p]:=⟨_,rfl⟩;refine QR I ?_ (m:=l.length) ?_
 ·intro m' s hs;rw[hI]at hs;obtain⟨tm,hp⟩:=s;dsimp only at hs;obtain⟨p,rfl,hp',t3,t7,rfl⟩:=hs
  by_cases hlt:p<l.length
  ·have hc:=hd l[p] (List.getElem_mem hlt)
   have hcd:48≤(l[p]).toNat∧(l[p]).toNat≤57:=by unfold isD at hc;simpa using hc
   have hby:=X7 l p hlt
   obtain⟨d1,d2⟩:=decode_ascii (s:=mkB l) (i:=p) (by rw[hby];omega)
   rw[hby]at d1
   obtain⟨n1,n2⟩:=QbW hlt
   generalize hn:numVal (l.take p)=v at *
   have w1:IntKind.i64.wrap (10 * ((v:Nat):Int))=((10 * v:Nat):Int):=by rw[Xt (by omega)];omega
   have w2:IntKind.i32.wrap ((((l[p]).toNat:Nat):Int) - 48)=(((l[p]).toNat - 48:Nat):Int):=by rw[wrap32 (by omega)];omega
   have w3:=Qp2 (((l[p]).toNat - 48:Nat):Int) (by omega)
   have w4:IntKind.i64.wrap (((10 * v:Nat):Int)+(((l[p]).toNat - 48:Nat):Int))=((numVal (l.take (p+1)):Nat):Int):=by rw[Xt (by omega)];omega
   have z1:p<(mkB l).size:=by rw[QA];exact hlt
   repeat (first|((first|(with_reducible (first|refine Qa fun K E hK hE=>?_|refine Qj fun K E hK hE=>?_)));simp -implicitDefEqProofs only[Qc,Qd,OpW,aop,AS.ev,↓reduceIte,aBin,Q1,goInt,XJ,t3,t7,z1,d1,d2,w1,w2,w3,w4,seval])|(with_reducible (first|refine Qf fun K hK=>?_|refine Qi ?_|refine Qk ?_|refine Qb ?_|refine Qn ?_))|((with_reducible refine hK _ ?_);clear hK)|(refine Qh rfl ?_;simp only[↓reduceIte]))
   refine Xi.mk (m':=l.length - (p+1)) (by omega) ?_
   rw[hI]
   exact⟨p+1,rfl,hlt,rfl,t7,rfl⟩
  ·have z1:¬p<(mkB l).size:=by rw[QA];exact hlt
   have e:l.take p=l:=List.take_of_length_le (by omega)
   rw[e]at t3
   repeat (first|(((with_reducible refine Qa fun K E hK hE=>?_));simp -implicitDefEqProofs only[Qc,Qd,OpW,aop,AS.ev,↓reduceIte,Q1,XJ,t3,t7,z1,seval])|(with_reducible (first|refine Qf fun K hK=>?_|refine Qm ?_|refine QF ?_|refine Qb ?_|refine QD ?_|refine QC ?_))|((with_reducible refine hK _ ?_);clear hK)|(clear hK;(with_reducible refine hK _ ?_);clear hK)|(refine Qh rfl ?_;simp only[↓reduceIte,QrN]))
   simp only[QH,Qo,Qt,upd,↓reduceIte,QrP,QrT];first|refine Qq (htake _ _) (.keep (.v _)) ⟨rfl,rfl⟩|refine Qq List.take_length (.keep (.v _)) ⟨rfl,rfl⟩
 ·rw[hI]
  exact⟨0,rfl,Nat.zero_le _,rfl,rfl,rfl⟩
abbrev lf(k i:Int):AV:=.agg [.v (.int .i64 k),.v (.int .i64 i),.v (.string {data:=#[]}),.v (.slice none 0 0)]
theorem Qcm(n:Nat)(k i:Int):Below n (lf k i):=.agg _ fun a ha=>by
 simp only[List.mem_cons,List.not_mem_nil,or_false]at ha
 rcases ha with rfl|rfl|rfl|rfl <;> exact .v _
theorem Qi6(n:Int):Pure Tryd.prog 102 [.i n] (lf 0 n):=by
 intro h
 refine Qe Tryd.func102 rfl Tryd.call102 Tryd.ntmps102 Tryd.results102 (by simp) ?_
 repeat (first|(((with_reducible refine Qa fun K E hK hE=>?_));simp -implicitDefEqProofs only[Qc,Qd,OpW,aop,undef,AS.ev,Qr,AV.QqY,↓reduceIte,Qu,Ql,QP,Q6,ti54,zi54,sp54,seval])|(with_reducible refine Qm ?_)|((with_reducible refine hK _ ?_);clear hK))
 simp -implicitDefEqProofs only[Qc,↓reduceIte,ti54,Qw,Qv,QH,Qo,Qt,QrT,seval]
 exact Qq (htake _ _) (.keep (Qcm _ _ _)) ⟨rfl,rfl⟩
theorem QjD(n:Int):Pure Tryd.prog 106 [.i n] (lf 1 n):=by
 intro h
 refine Qe Tryd.func106 rfl Tryd.call106 Tryd.ntmps106 Tryd.results106 (by simp) ?_
 repeat (first|(((with_reducible refine Qa fun K E hK hE=>?_));simp -implicitDefEqProofs only[Qc,Qd,OpW,aop,undef,AS.ev,Qr,AV.QqY,↓reduceIte,Qu,Ql,QP,Q6,ti54,zi54,sp54,seval])|(with_reducible refine Qm ?_)|((with_reducible refine hK _ ?_);clear hK))
 simp -implicitDefEqProofs only[Qc,↓reduceIte,ti54,Qw,Qv,QH,Qo,Qt,QrT,seval]
 exact Qq (htake _ _) (.keep (Qcm _ _ _)) ⟨rfl,rfl⟩
end Go.Proofs.YticgcpebdldbgaaDoor.Ab
set_option maxRecDepth 4000
namespace Go.Proofs.YticgcpebdldbgaaDoor.Ab
open Go.Proofs
def phx(h:AH)(P:Pz)(a b c:AB):AH:=((h.set P.i a).set P.j b).set P.g c
section
variable{h:AH}{P:Pz}(H:P.ok h)
include H
theorem QaU(a b c:AB):(phx h P a b c).length=h.length:=by have _u:=H;simp[phx]
theorem QqR(a b c:AB)(L:AH):(phx h P a b c++L)[P.i]? = some a:=by
 rw[List.getElem?_append_left (by rw[QaU H];exact H.i)]
 unfold phx
 rw[List.getElem?_set_ne (Ne.symm H.ig),List.getElem?_set_ne (Ne.symm H.ij),List.getElem?_set_self H.i]
theorem QqS(a b c:AB)(L:AH):(phx h P a b c++L)[P.j]? = some b:=by
 rw[List.getElem?_append_left (by rw[QaU H];exact H.j)]
 unfold phx
 rw[List.getElem?_set_ne (Ne.symm H.jg),List.getElem?_set_self (by simpa using H.j)]
theorem QqQ(a b c:AB)(L:AH):(phx h P a b c++L)[P.g]? = some c:=by
 rw[List.getElem?_append_left (by rw[QaU H];exact H.g)]
 unfold phx
 rw[List.getElem?_set_self (by simpa using H.g)]
theorem QpZ(a b c a':AB)(L:AH):(phx h P a b c++L).set P.i a'=phx h P a' b c++L:=by
 rw[List.set_append_left _ _ (by rw[QaU H];exact H.i)]
 unfold phx
 rw[List.set_comm _ _ (Ne.symm H.ig),List.set_comm _ _ (Ne.symm H.ij),List.set_set]
theorem Qp0(a b c b':AB)(L:AH):(phx h P a b c++L).set P.j b'=phx h P a b' c++L:=by
 rw[List.set_append_left _ _ (by rw[QaU H];exact H.j)]
 unfold phx
 rw[List.set_comm _ _ (Ne.symm H.jg),List.set_set]
theorem QpY(a b c c':AB)(L:AH):(phx h P a b c++L).set P.g c'=phx h P a b c'++L:=by
 rw[List.set_append_left _ _ (by rw[QaU H];exact H.g)]
 unfold phx
 rw[List.set_set]
theorem QnN(a b c:AB)(L:AH):(phx h P a b c++L)[h.length]? = L[0]? := by rw[←QaU H a b c];exact Qad _ _
theorem Qme(a b c y:AB)(L:AH):(phx h P a b c++L).set h.length y=phx h P a b c++L.set 0 y:=by rw[←QaU H a b c];exact QbT _ _ _
end
theorem Qhx(h:AH)(P:Pz)(s:PS):ph h P s=phx h P (.cells 66 4 [.agg [.sl 3 (tks P.all) none,.i ((P.all.length - s.toks.length:Nat):Int),.sl 1 (strs s.names) (some P.g),.mp P.j]]) (.map (smap (kn s.names))) (.grow 9 1 s.names.length):=rfl
theorem Qj1{names:List ByteArray}{x:ByteArray}(h:¬(nameAt names x<names.length∧x.toList≠[95])):kn (names++[x])=supd x (.i (names.length:Nat)) (kn names):=by
 rw[QlM]
 unfold QfE
 rw[if_neg]
 rintro⟨h1,h2⟩
 simp only at h1 h2
 rw[Qi8 x h1 _ names rfl]at h2
 by_cases h3:nameAt names x<names.length
 ·exact h ⟨h3,h1⟩
 ·rw[if_neg h3]at h2;cases h2
theorem Qps(n:Nat)(x:ByteArray)(s:PS):(pVari x s).1.lv n=lf 1 (pVari x s).1.int∧(pVari x s).1.args=[]:=by unfold pVari;split <;> exact⟨rfl,rfl⟩
section
variable{P:Pz}{s:PS}(hW:Wst P.all s){h:AH}(H:P.ok h)(hN:P.all.length≤1000000)
include hW H hN
theorem QgG(x:ByteArray):QL Tryd.prog 103 [.ptr P.i 0 0,.v (.string x)] (ph h P s) fun o h'=>o = .ret (lf 1 (pVari x s).1.int)∧h'=ph h P (pVari x s).2:=by
 have f1:=QaU H
 have f2:=QqR H
 have f3:=QqS H
 have f4:=QqQ H
 have f5:=QpZ H
 have f6:=Qp0 H
 have f7:=QpY H
 have f8:=QnN H
 have f9:=Qme H
 have hfind:=Qg8 x (kn s.names)
 have hn:=hW.nms
 have hupd:=QjC x
 by_cases hc:nameAt s.names x<s.names.length∧x.toList≠[95]
 ·rw[Qi8 x hc.2 _ s.names rfl,if_pos hc.1]at hfind
  have z1:(x.toList==({data:=#[95]}:ByteArray).toList)=false:=by
   rw[Lib.toList_data {data:=#[95]}];simpa using hc.2
  have cv:=QjD (nameAt s.names x:Nat)
  have hv:pVari x s=(.mk 1 (nameAt s.names x:Nat) eB [],s):=by unfold pVari;rw[if_pos hc]
  rw[hv]
  refine Qe Tryd.func103 rfl Tryd.call103 Tryd.ntmps103 Tryd.results103 (by simp) ?_
  rw[Qhx]
  repeat (first|((first|(with_reducible (first|refine Qa fun K E hK hE=>?_|refine Qz cv ?_)));simp -implicitDefEqProofs only[Qc,Qd,OpW,QB,aop,undef,AS.ev,Qr,AV.QqY,↓reduceIte,Qg,Qw,Qv,Qu,Ql,aBin,Q1,ZA,ti54,zi54,ti64,mi64,YX,Qp,f1,f2,f3,f8,f9,hfind,z1,seval])|(with_reducible (first|refine Qf fun K hK=>?_|refine Qm ?_|refine Qk ?_|refine Qb ?_))|((with_reducible refine hK _ ?_);clear hK)|(refine Qh rfl ?_;simp only[↓reduceIte,QrN]))
  simp -implicitDefEqProofs only[Qc,↓reduceIte,Qw,Qv,ti54,Qw,Qv,f8,QH,Qo,Qt,QrT,seval]
  exact Xl H (s:=s) (s':=s) (.keep (Qcm _ _ _)) ⟨rfl,rfl⟩
 ·have hv:pVari x s=(.mk 1 (s.names.length:Nat) eB [],⟨s.toks,s.names++[x]⟩):=by unfold pVari;rw[if_neg hc]
  have hkn:=Qj1 hc
  have cv:=QjD (s.names.length:Nat)
  have hm:(s.names.length+1) * 16≤140737488355328:=by omega
  have hm2:s.names.length+1≤maxLen:=by simp only[maxLen];omega
  rw[hv]
  cases hg:sget x (kn s.names)with
  |none =>
   rw[hg]at hfind
   refine Qe Tryd.func103 rfl Tryd.call103 Tryd.ntmps103 Tryd.results103 (by simp) ?_
   rw[Qhx]
   repeat (first|((first|(with_reducible (first|refine Qa fun K E hK hE=>?_|refine Qj fun K E hK hE=>?_|refine Qz cv ?_)));simp -implicitDefEqProofs only[Qc,Qd,OpW,QB,aop,undef,AS.ev,Qr,AV.QqY,↓reduceIte,Qg,Qw,Qv,Qu,Ql,Q1,QG,aLen,XI,Yk,ZA,Y7,goInt,zi3,zi9,ti46,ei46,ai46,un46,ti54,zi54,ti64,mi64,YW,YX,Qp,f1,f2,f3,f4,f5,f6,f7,f8,f9,hfind,YH,hm,hm2,hupd,seval])|(with_reducible (first|refine Qf fun K hK=>?_|refine Qm ?_|refine Qb ?_))|((with_reducible refine hK _ ?_);clear hK)|(refine Qh rfl ?_;simp only[↓reduceIte]))
   simp -implicitDefEqProofs only[Qc,↓reduceIte,Qw,Qv,ti54,Qw,Qv,f8,QH,Qo,Qt,QrT,seval]
   have es:ph h P ⟨s.toks,s.names++[x]⟩=phx h P (.cells 66 4 [.agg [.sl 3 (tks P.all) none,.i ((P.all.length - s.toks.length:Nat):Int),.sl 1 (strs s.names++[.v (.string x)]) (some P.g),.mp P.j]]) (.map (smap (supd x (.i (s.names.length:Nat)) (kn s.names)))) (.grow 9 1 (s.names.length+1)):=by
    rw[Qhx,hkn,Qb2,List.length_append];rfl
   rw[←es]
   exact Xl H (s:=s) (s':=⟨s.toks,s.names++[x]⟩) (.keep (Qcm _ _ _)) ⟨rfl,rfl⟩
  |some v =>
   have hx:x.toList=[95]:=by
    by_cases e:x.toList=[95]
    ·exact e
    ·rw[Qi8 x e _ s.names rfl]at hg
     by_cases h3:nameAt s.names x<s.names.length
     ·exact absurd ⟨h3,e⟩ hc
     ·rw[if_neg h3]at hg;cases hg
   have z1:(x.toList==({data:=#[95]}:ByteArray).toList)=true:=by
    rw[Lib.toList_data {data:=#[95]}];simpa using hx
   rw[hg]at hfind
   refine Qe Tryd.func103 rfl Tryd.call103 Tryd.ntmps103 Tryd.results103 (by simp) ?_
   rw[Qhx]
   repeat (first|((first|(with_reducible (first|refine Qa fun K E hK hE=>?_|refine Qj fun K E hK hE=>?_|refine Qz cv ?_)));simp -implicitDefEqProofs only[Qc,Qd,OpW,QB,aop,undef,AS.ev,Qr,AV.QqY,↓reduceIte,Qg,Qw,Qv,Qu,Ql,aBin,Q1,QG,aLen,XI,Yk,ZA,Y7,goInt,zi9,ti46,ei46,ai46,un46,ti54,zi54,ti64,mi64,YW,YX,Qp,f1,f2,f3,f4,f5,f6,f7,f8,f9,hfind,z1,YH,hm,hm2,hupd,seval])|(with_reducible (first|refine Qf fun K hK=>?_|refine Qm ?_|refine Qb ?_))|((with_reducible refine hK _ ?_);clear hK)|(refine Qh rfl ?_;simp only[↓reduceIte]))
   simp -implicitDefEqProofs only[Qc,↓reduceIte,Qw,Qv,ti54,Qw,Qv,f8,QH,Qo,Qt,QrT,seval]
   have es:ph h P ⟨s.toks,s.names++[x]⟩=phx h P (.cells 66 4 [.agg [.sl 3 (tks P.all) none,.i ((P.all.length - s.toks.length:Nat):Int),.sl 1 (strs s.names++[.v (.string x)]) (some P.g),.mp P.j]]) (.map (smap (supd x (.i (s.names.length:Nat)) (kn s.names)))) (.grow 9 1 (s.names.length+1)):=by
    rw[Qhx,hkn,Qb2,List.length_append];rfl
   rw[←es]
   exact Xl H (s:=s) (s':=⟨s.toks,s.names++[x]⟩) (.keep (Qcm _ _ _)) ⟨rfl,rfl⟩
end
end Go.Proofs.YticgcpebdldbgaaDoor.Ab
set_option maxRecDepth 4000
namespace Go.Proofs.YticgcpebdldbgaaDoor.Ab
open Go.Proofs
theorem FunW.meth{P:Program}{f:FuncId}{x:AV}{h:AH}{Q:AOut→AH→Prop}(H:QL P f [x] h Q):FunW P (.fn (.func f) [x] []) [] h Q:=FunW.fn H
def TQ(h:AH)(P:Pz):PR T→AOut→AH→Prop
 | .ok t s,o,h'=>o = .ret (t.lv h.length)∧h'=ph h P s++t.lay 54 h.length
 | .err p e,o,h'=>o = .panic (Fl p e)∧∃s,h'=ph h P s
def CQ(g:Nat)(h:AH)(P:Pz):PR T→AOut→AH→Prop
 | .ok t s,o,h'=>o = .ret (t.lv (h.length+g))∧∃N,h'=ph h P s++N∧At N g (t.lay 54 (h.length+g))
 | .err p e,o,h'=>o = .panic (Fl p e)∧∃s,h'=ph h P s
def TRd(P:Pz)(f:FuncId)(g:PS→PR T)(N:Nat):Prop:=∀s:PS,s.toks.length<N→Wst P.all s→∀h:AH,P.ok h→QL Tryd.prog f [.ptr P.i 0 0] (ph h P s) (TQ h P (g s))
theorem QdP{P:Pz}{f:FuncId}{args:List AV}{h:AH}{s:PS}(H:P.ok h)(g:Nat){r:PR T}(C:QL Tryd.prog f args (ph h P s) (CQ g h P r)):QL Tryd.prog f args (ph h P s) (TQ h P r):=by
 refine Qau C fun hb0 o h' hQ=>?_
 cases r with
 |err p e=>exact .inl hQ
 |ok t s2 =>
  obtain⟨rfl,N,rfl,hN⟩:=hQ
  rw[QU]at hb0 ⊢
  have hb:∀b∈ph h P s2,b.Below h.length:=fun b hb=>by
   obtain⟨k,hk⟩:=Zi hb
   rcases Qby H (s0:=s) hk with h1|h1
   ·exact hb0 k b h1
   ·exact h1
  obtain⟨K,hk⟩:=QqO (QU h P s2) hb g t hN
  exact .inr ⟨_,_,_,_,rfl,K,hk,rfl,rfl⟩
section
variable{P:Pz}{f:FuncId}{g:PS→PR T}{N:Nat}(HR:TRd P f g N){s:PS}(hs:s.toks.length<N)(hW:Wst P.all s){h:AH}(H:P.ok h)
include HR hs hW H
theorem TRd.ok{t:T}{s2:PS}(e:g s = .ok t s2)(L:AH){k:Nat}(hk:k=h.length+L.length):QL Tryd.prog f [.ptr P.i 0 0] (ph h P s++L) fun o h'=>o = .ret (t.lv k)∧h'=ph h P s2++(L++t.lay 54 k):=by
 have:=HR s hs hW (h++L) (H.app L)
 rw[Q4 H,e]at this
 subst hk
 exact this.mono fun o h' q=>by simpa only[TQ,Q4 H,QsA,List.append_assoc]using q
theorem TRd.err{p c:Int}(e:g s = .err p c)(L:AH):QL Tryd.prog f [.ptr P.i 0 0] (ph h P s++L) fun o h'=>o = .panic (Fl p c)∧∃s2:PS,h'=ph h P s2++L:=by
 have:=HR s hs hW (h++L) (H.app L)
 rw[Q4 H,e]at this
 exact this.mono fun o h' q=>by simpa only[TQ,Q4 H]using q
end
theorem QpN{s:PS}{b:ByteArray}(h:s.is b.toList=true):s.tk.text=b:=by
 simp only[PS.is,Bool.and_eq_true,beq_iff_eq]at h
 exact toList_inj h.2
theorem QW{h:AH}{P:Pz}(H:P.ok h)(s s2:PS)(p e:Int)(L:AH){Q:AOut→AH→Prop}(hq:Q (.panic (Fl p e)) (ph h P s2)):Leaves (ph h P s) (ph h P s2++L) (Fl p e) fun v h'=>Q (.panic v) h' :=
 Xl H (s:=s) (s':=s2) (.keep (Qbt _ _ _)) hq
end Go.Proofs.YticgcpebdldbgaaDoor.Ab
namespace Go.Proofs.YticgcpebdldbgaaDoor.Ab
theorem Qol{S:Nat→Bool}:∀{l:List Tr} {f:AH},(∀t∈l,t.c<2)→hS S l f=f
 |l,f,H=>YF fun t ht h2=>by have:=H t ht;omega
theorem Qm1{P:Program}{N:Nat}{base:Bs×Fence}{ops:Array Oper}{F:Fence}{n:Nat}(hF:WF F){Qx:Exit→Act→World→Prop}{x:Nat}{ox:Oper}{f:Operand}{asx:Array Operand}{tys:Array TypeId}(hox:ops[x]? = some ox)
  (hop:ox.op = .call ⟨.value f,asx,tys⟩) {tr:List Tr} {tm0:Nat→AV} {h0:AH} (hruns:Runs P N ops tr tm0 h0) (hlow:∀t∈tr,t.c<2) (hxt:∀t∈tr,t.i≠x)
  (hpw:tr.Pairwise (fun a b=>clash ops a.o b.o a.c b.c=true→Anc ops a.i b.i)) (hnd:(tr.map (·.i)).Nodup) (hkind:∀t∈tr,kindOk t.o t.c=true)
  (hrd:∀t∈tr,∀d,t.o.dst=some d→d∈readsOf ops ox→Anc ops t.i x) (hall:∀i,i<ops.size→(∃t∈tr,t.i=i)∨i=x∨Anc ops x i) (htopo:topo ops [] (tr.map (fun t=>(t.i,t.c))++[(x,1)])=true)
  (haw:Qd ops (tmS N (fun _=>true) tr tm0) ox=some true) {G:AV→AH→Prop} (H:FunW P (AS.ev ⟨tmS N (fun _=>true) tr tm0,[]⟩ f) (asx.toList.map (AS.ev ⟨tmS N (fun _=>true) tr tm0,[]⟩)) h0 (fun o h'=>∃v,o = .panic v∧G v h')) :
  ∀(fuel:Nat) (listed:Array Bool) (c:Cx) (a:Act),listed.size=ops.size→Down ops (fun i=>listed.getD i false)→listed.getD x false=false→St c→SR N base c ⟨tmS N (fun i=>listed.getD i false) tr tm0,h0⟩ a →
   tr.countP (fun t=>!listed.getD t.i false)<fuel →
   (∀tm' v h' c' a' u,G v h'→Ev c c'→St c'→SR N base c' ⟨tm',h'⟩ a'→Rel c' v u→Qx (.panic [{v:=u,recovered:=false}]) a' c'.w)→wpAnyIn F n P .any ops Qx fuel listed a c.w:=by
 intro fuel
 induction fuel with
 |zero=>intro listed c a hsz hd hx hst hr hc hQ;omega
 |succ fuel ih =>
  intro listed c a hsz hd hx hst hr hc hQ
  refine⟨fun h=>?_,fun i hi=>?_⟩
  ·exfalso
   have:=ZI hsz h _ [] htopo (fun i hi=>by cases hi) (x,1) (List.mem_append_right _ (by simp))
   simp only at this
   rw[hx]at this;cases this
  have hi':=hi
  obtain⟨h1,o,ho,_⟩:=mem_ready.1 hi'
  have hlt:i<ops.size:=(Array.getElem?_eq_some_iff.1 ho).1
  have hd':=ZL hsz hd hi
  by_cases hix:i=x
  ·subst hix
   rw[hox]at ho;cases ho
   -- what it reads is there
   have hreads:∀y∈readsOf ops ox,tmS N (fun i=>listed.getD i false) tr tm0 y=tmS N (fun _=>true) tr tm0 y:=fun y hy=>ZH rfl fun t ht hd=>by
    have ha:=hrd t ht y hd hy
    have h2:(listed.setIfInBounds i true).getD t.i false=true:=hd'.anc ha (by rw[Yr (by omega)];simp)
    rw[Yr (by omega)]at h2
    by_cases hti:t.i=i
    ·exact absurd hti (hxt t ht)
    ·simpa [hti]using h2
   unfold wpOpIn
   simp only[hox]
   rw[Xg hr (by rw[Qca (tm:=tmS N (fun i=>listed.getD i false) tr tm0) (tm':=tmS N (fun _=>true) tr tm0) hreads];exact haw)]
   simp only[if_true]
   have hargs:∀y∈ox.op.operands,AS.ev ⟨tmS N (fun i=>listed.getD i false) tr tm0,[]⟩ y=AS.ev ⟨tmS N (fun _=>true) tr tm0,[]⟩ y:=Qcg hreads
   refine Qbm (K:=fun _=>False) (E:=fun r s'=>G r s'.h) ?_ hF hst hr (fun s' c' a' hs=>hs.elim) ?_
   ·unfold OpW
    simp only[hop]
    have hev:=hargs
    rw[hop]at hev
    have h1':AS.ev ⟨tmS N (fun i=>listed.getD i false) tr tm0,h0⟩ f=AS.ev ⟨tmS N (fun _=>true) tr tm0,[]⟩ f:=(Qa3 _ _ _ _).trans (hev f (by simp[Op.operands,Call.operands]))
    have h2':asx.toList.map (AS.ev ⟨tmS N (fun i=>listed.getD i false) tr tm0,h0⟩)=asx.toList.map (AS.ev ⟨tmS N (fun _=>true) tr tm0,[]⟩):=List.map_congr_left fun y hy=>(Qa3 _ _ _ _).trans (hev y (by simp[Op.operands,Call.operands,Array.mem_def,hy]))
    rw[h1',h2']
    refine H.mono ?_
    rintro o h' ⟨v,rfl,g⟩
    exact g
   ·intro r s' c' u hE hev hst' hr' hru
    obtain⟨tm',h'⟩:=s'
    exact hQ tm' r h' c' a u hE hev hst' hr' hru
  ·have hx':(listed.setIfInBounds i true).getD x false=false:=by rw[Yr (by omega),hx];simp;exact fun e=>hix e.symm
   rcases hall i hlt with⟨t,ht,hti⟩|h|h
   ·have e0:∀S,hS S tr h0=h0:=fun S=>Qol hlow
    refine Y8 hF hruns hpw hnd hkind hi ht hti hsz (fun i j h hj=>hd.anc h hj) (fun i j h hj=>hd'.anc h hj) hst (by rw[e0];exact hr) fun c' a' hev hst' hr'=>?_
    rw[e0]at hr'
    refine ih _ c' a' (by simpa using hsz) hd' hx' hst' hr' ?_ fun tm' v h' c2 a2 u g e2 s2 r2 ru=>hQ tm' v h' c2 a2 u g (Ev.trans hst hev e2) s2 r2 ru
    have:=Xs (fuel:=tr.countP (fun t=>!listed.getD t.i false) - 1) hsz ⟨t,ht,hti⟩ hi (by omega)
    have hpos:0<tr.countP (fun t=>!listed.getD t.i false):=by
     rw[List.countP_pos_iff]
     refine⟨t,ht,?_⟩
     rw[Array.getD_eq_getD_getElem?,Array.getElem?_eq_getElem (by omega)]at h1 ⊢
     subst hti
     simpa using h1
    omega
   ·exact absurd h hix
   ·exfalso
    have h2:(listed.setIfInBounds i true).getD x false=true:=hd'.anc h (by rw[Yr (by omega)];simp)
    rw[hx']at h2;cases h2
def QpW(ops:Array Oper)(x:Nat)(ρ:List (Nat×Nat)):Bool :=
 decide (ρ.length<ops.size)&&Qeu ops (masks ops.toList []) ρ&&topo ops [] (ρ++[(x,1)])&&Qhs (ρ.map (·.1))&&(ρ.all fun p=>decide (p.2<2)&&!(p.1==x)&&(match ops[p.1]? with|some o=>kindOk o p.2&&(match ops[x]?,o.dst with|some ox,some d=>!(readsOf ops ox).contains d||((masks ops.toList []).getD x 0).testBit p.1|_,_=>true)|none=>false)) &&
 ((List.range ops.size).all fun i=>(ρ.map (·.1)).contains i||i==x||((masks ops.toList []).getD i 0).testBit x)
def callOf(o:Oper):Option (Operand×List Operand):=match o.op with
 | .call ⟨.value f,asx,_⟩=>some (f,asx.toList)
 |_=>none
theorem Xd{P:Program}{N:Nat}{Q:AExit→AS→Prop}{s:AS}{id:Nat}{ops:Array Oper}(x:Nat)(ρ:List (Nat×Nat))(hm:P.follows .mixedOrders=true){ox:Oper}{f:Operand}{asx:List Operand}(hox:ops[x]? = some ox)(hcl:callOf ox=some (f,asx))(hgd:ox.guard=none)
  (hok:QpW ops x ρ=true) (G:AV→AH→Prop) (hG:∀tm v h',G v h'→Q (.panic v) ⟨tm,h'⟩)
  (H:AnyW P N ops ρ (fun s'=>s'.h=s.h→FunW P (s'.ev f) (asx.map s'.ev) s'.h (fun o h'=>∃v,o = .panic v∧G v h')) s):XS P N (.region id ops true) Q s:=by
 intro F n base c a hF hst hr R hR
 refine wpIn_region_any hm ?_
 obtain⟨tm,hp⟩:=s
 simp only[QpW,Bool.and_eq_true]at hok
 obtain⟨⟨⟨⟨⟨hp0,hp1⟩,hp2⟩,hp3⟩,hp4⟩,hp5⟩:=hok
 rw[List.all_eq_true]at hp4
 have hk:(ρ.all fun p=>match ops[p.1]? with|some o=>kindOk o p.2|none=>false)=true:=by
  rw[List.all_eq_true]
  intro p hp
  have:=hp4 p hp
  simp only[Bool.and_eq_true]at this
  revert this
  cases ops[p.1]? with
  |none=>simp
  |some o=>simp only[Bool.and_eq_true];exact fun h=>h.2.1
 obtain⟨tr,rfl,hruns,hK⟩:=Yt H hk
 have hev:Ev c (c.to {c.w with drawn:=c.w.drawn+1}):=Ev.idle hst (Ev.refl c) rfl rfl rfl rfl fun k=>.inl rfl
 have hst':St (c.to {c.w with drawn:=c.w.drawn+1}):=hst.idle rfl fun k o hk=>.inl hk
 have hr':SR N (base,F) (c.to {c.w with drawn:=c.w.drawn+1}) ⟨tm,hp⟩ a:=⟨hr.h,hr.size,Nat.le_trans hr.above hev.size,hr.defers.ev hev,RoundOk.ev hev hr.round,fun t=>(hr.tm t).ev hst hev⟩
 have hops:=Qah hruns
 have hnone:∀j,(Array.replicate ops.size false).getD j false=false:=fun j=>by
  rw[Array.getD_eq_getD_getElem?,Array.getElem?_replicate]
  split <;> rfl
 have hmk:∀(k i:Nat),((masks ops.toList []).getD k 0).testBit i=true→Anc ops i k:=Zc ops.toList [] (fun j o h=>by simpa using h) (fun k i h=>by simp at h)
 have hlow:∀t∈tr,t.c<2:=fun t ht=>by
  have:=hp4 (t.i,t.c) (List.mem_map.2 ⟨t,ht,rfl⟩)
  simp only[Bool.and_eq_true,decide_eq_true_eq]at this
  exact this.1.1
 have hxt:∀t∈tr,t.i≠x:=fun t ht=>by
  have:=hp4 (t.i,t.c) (List.mem_map.2 ⟨t,ht,rfl⟩)
  simp only[Bool.and_eq_true,Bool.not_eq_true',beq_eq_false_iff_ne]at this
  exact this.1.2
 have hS0:hS (fun _=>true) tr hp=hp:=Qol hlow
 rw[hS0]at hK
 obtain⟨as',tys,hop,rfl⟩:∃(as':Array Operand) (tys:Array TypeId),ox.op = .call ⟨.value f,as',tys⟩∧asx=as'.toList:=by
  unfold callOf at hcl
  split at hcl
  ·rename_i f' as' tys e
   simp only[QrP,Prod.mk.injEq]at hcl
   obtain⟨rfl,rfl⟩:=hcl
   exact⟨_,_,e,rfl⟩
  ·cases hcl
 have hF0:=hK rfl
 refine Qm1 (base:=(base,F)) hF hox hop hruns hlow hxt (Qc1 hmk tr hp1 hops) ?_ ?_ ?_ ?_ hp2 ?_ (G:=G) ?_ _ _ (c.to {c.w with drawn:=c.w.drawn+1}) a (by simp) ?_ (hnone _) hst' ?_ ?_ ?_
 ·have:=Z1 hp3
  rw[List.map_map]at this
  exact this
 ·intro t ht
  have:=List.all_eq_true.1 hk (t.i,t.c) (List.mem_map.2 ⟨t,ht,rfl⟩)
  simpa [hops t ht]using this
 ·intro t ht d hd hr
  have:=hp4 (t.i,t.c) (List.mem_map.2 ⟨t,ht,rfl⟩)
  simp only[hops t ht,hox,hd,Bool.and_eq_true,Bool.or_eq_true,Bool.not_eq_true']at this
  rcases this.2.2 with h|h
  ·rw[List.contains_eq_mem,decide_eq_false_iff_not]at h
   exact absurd hr h
  ·exact hmk _ _ h
 ·intro i hi
  have:=List.all_eq_true.1 hp5 i (List.mem_range.2 hi)
  simp only[Bool.or_eq_true,beq_iff_eq]at this
  rcases this with(h|h)|h
  ·have h:i∈(tr.map fun t=>(t.i,t.c)).map (·.1):=by simpa using h
   rw[List.map_map]at h
   obtain⟨t,ht,rfl⟩:=List.mem_map.1 h
   exact .inl ⟨t,ht,rfl⟩
  ·exact .inr (.inl h)
  ·exact .inr (.inr (hmk _ _ h))
 ·simp only[Qd,hgd]
 ·rw[Qa3 _ hp [] f]at hF0
  have e2:as'.toList.map (AS.ev ⟨tmS N (fun _=>true) tr tm,hp⟩)=as'.toList.map (AS.ev ⟨tmS N (fun _=>true) tr tm,[]⟩):=List.map_congr_left fun y _=>Qa3 _ _ _ _
  rw[e2]at hF0
  exact hF0
 ·intro j o ho hj
  simp only at hj
  rw[hnone]at hj;cases hj
 ·have e1:tmS N (fun i=>(Array.replicate ops.size false).getD i false) tr tm=tm:=funext fun x=>XZ fun t _ h=>by rw[hnone]at h;cases h
  rw[e1];exact hr'
 ·refine Nat.lt_of_le_of_lt List.countP_le_length ?_
  have:=of_decide_eq_true hp0
  simp only[List.length_map]at this;omega
 ·intro tm' v h' c' a' u hg h1 h2 h3 hu
  exact hR _ _ c' a' _ (hG tm' v h' hg) (Ev.trans hst hev h1) h2 h3 ⟨u,rfl,hu⟩
end Go.Proofs.YticgcpebdldbgaaDoor.Ab
set_option maxRecDepth 4000
namespace Go.Proofs.YticgcpebdldbgaaDoor.Ab
open Go.Proofs
theorem Zz{p:Prop}(h:2=3):p:=by cases h
theorem Qi0(x:ByteArray)(y:AV)(h1:y.cells=[y])(h2:y.cell1=true)(h3:y.isAgg=false)(h:AH)(hb:Below h.length y):QL Tryd.prog 93 [.v (.string x),y] h fun o h'=>o = .ret (.agg [.i 2,.i 0,.v (.string x),y])∧h'=h:=by
 refine Qe Tryd.func93 rfl Tryd.call93 Tryd.ntmps93 Tryd.results93 (by simp) ?_
 repeat (first|(((with_reducible refine Qa fun K E hK hE=>?_));simp -implicitDefEqProofs only[Qc,Qd,OpW,aop,undef,AS.ev,Qr,AV.QqY,↓reduceIte,Qu,Ql,QP,Q6,ti54,zi54,sp54,h1,h2,seval])|(with_reducible refine Qm ?_)|((with_reducible refine hK _ ?_);clear hK))
 simp -implicitDefEqProofs only[Qc,↓reduceIte,ti54,Qw,Qv,QH,Qo,Qt,QrT,seval]
 refine Qq (htake _ _) (.keep (.agg _ fun a ha=>?_)) ⟨rfl,rfl⟩
 simp only[List.mem_cons,List.not_mem_nil,or_false]at ha
 rcases ha with rfl|rfl|rfl|rfl
 ·exact .v _
 ·exact .v _
 ·exact .v _
 ·exact hb
abbrev c6:AB:=.cells 54 4 [.agg [.v (.int .i64 0),.v (.int .i64 0),.v (.string {data:=#[]}),.v (.slice none 0 0)]]
section
variable{P:Pz}{f:FuncId}{g:PS→PR T}{Nn:Nat}(HR:TRd P f g Nn)(hEat:Eat 0 g)(hKp:Kp.Ps (wdOf P.all) g)(opsB:List ByteArray)(hob:opsB.length≤10){s:PS}(hs:s.toks.length<Nn)(hW:Wst P.all s){h:AH}(H:P.ok h)(hN:P.all.length≤1000000)
include HR hEat hKp hs hW H hN hob
theorem Qli:QL Tryd.prog 85 [.ptr P.i 0 0,.fn (.func f) [.ptr P.i 0 0] [],.sl 1 (strs opsB) none] (ph h P s) (CQ 1 h P (X4 g (opsB.map ByteArray.toList) s)):=by
 have f1:=QU h P
 have f3:=XB h P
 have f4:=Yf h P
 have f5:=Xk h P
 have f6:=XL h P
 rw[X4]
 cases hop:g s with
 |err p e =>
  have c1:=fun L=>TRd.err HR hs hW H hop L
  refine Qe Tryd.func85 rfl Tryd.call85 Tryd.ntmps85 Tryd.results85 (by simp) ?_
  repeat (first|(((with_reducible refine Qa fun K E hK hE=>?_));simp -implicitDefEqProofs only[Qc,Qd,OpW,aop,AV.QqY,↓reduceIte,zi54,f1,seval])|((with_reducible refine hK _ ?_);clear hK))
  refine Qd2 0 (fun _ _=>False) rfl ?_ (fun _ _ hf=>hf.elim)
  refine YJ ?_
  repeat (first|((first|(with_reducible (first|refine Qj fun K E hK hE=>?_|refine FunW.panE (FunW.meth (c1 _)) fun r=>?_)));simp -implicitDefEqProofs only[Qc,Qd,OpW,QB,aop,undef,AS.ev,Qr,↓reduceIte,seval])|(with_reducible (first|refine hE _ _ ?_|refine QN ?_)))
  exact QW H s r p e _ ⟨rfl,_,rfl⟩
 |ok a0 s0 =>
  have c1:=TRd.ok HR hs hW H hop [c6] (k:=h.length+1) rfl
  have hW0:Wst P.all s0:=Kp.Ps.ok hKp hW hop
  have hl0:=(hEat s hW.wf a0 s0 hop).2
  simp only[PR.bind]
  generalize hR:XK g (opsB.map ByteArray.toList) s0.toks.length a0 s0=R
  refine Qe Tryd.func85 rfl Tryd.call85 Tryd.ntmps85 Tryd.results85 (by simp) ?_
  repeat (first|(((with_reducible refine Qa fun K E hK hE=>?_));simp -implicitDefEqProofs only[Qc,Qd,OpW,aop,AV.QqY,↓reduceIte,zi54,f1,seval])|((with_reducible refine hK _ ?_);clear hK))
  obtain⟨I,hI⟩:∃I:Nat→AS→Prop,I=fun m' s=>∃(t:T) (s2:PS) (q:Nat) (L:AH),m'=s2.toks.length∧s2.toks.length<Nn∧Wst P.all s2∧(∃k,s2.toks.length≤k∧XK g (opsB.map ByteArray.toList) k t s2=R)∧L.length=t.sz+1∧At L 0 (t.lay 54 (h.length+1))∧q≤t.sz ∧
   (t.lay 54 (h.length+1)++[.dead])[q]? = some .dead∧L[q]? = some (.cells 54 4 [t.lv (h.length+1)])∧s.tm 0 = .ptr P.i 0 0∧s.tm 1 = .fn (.func f) [.ptr P.i 0 0] []∧s.tm 2 = .sl 1 (strs opsB) none∧s.tm 6 = .ptr h.length 0 0∧s.tm 7 = .ptr (h.length+(q+1)) 0 0∧s.h=ph h P s2++(c6::L):=⟨_,rfl⟩
  refine Qg2 0 I rfl ?_ ?_
  ·intro key
   refine YJ ?_
   have e1:=T.Qq4 (h.length+1) a0
   have e2:=T.Qq5 (h.length+1) a0
   have e3:=T.Qq3 54 (h.length+1) a0
   repeat (first|((first|(with_reducible (first|refine Qj fun K E hK hE=>?_|refine FunW.ret (FunW.meth c1) ?_)));simp -implicitDefEqProofs only[Qc,Qd,OpW,QB,aop,undef,AS.ev,Qr,AV.QqY,↓reduceIte,Qu,Ql,ti54,zi54,f1,f4,f6,e1,e2,QT,seval])|(with_reducible refine Qb ?_)|((with_reducible refine hK _ ?_);clear hK))
   refine YJ (QaM (Qb (key _ ?_)))
   rw[hI]
   refine⟨_,a0,s0,a0.sz,a0.lay 54 (h.length+1)++[.cells 54 4 [a0.lv (h.length+1)]],rfl,by omega,hW0,⟨_,Nat.le_refl _,hR⟩,by rw[List.length_append,e3];rfl,At.mid [] _ _ rfl,Nat.le_refl _,?_,?_,rfl,rfl,rfl,rfl,?_,?_⟩
   ·rw[List.getElem?_append_right (by rw[e3];exact Nat.le_refl _),e3,Nat.sub_self];rfl
   ·rw[List.getElem?_append_right (by rw[e3];exact Nat.le_refl _),e3,Nat.sub_self];rfl
   ·show AV.ptr (h.length+((a0.lay 54 (h.length+1)).length+1)) 0 0=_
    rw[e3]
   ·rfl
  ·intro m s1 hs1
   rw[hI]at hs1
   obtain⟨tm,hp⟩:=s1
   dsimp only at hs1
   obtain⟨t,s2,q,L,rfl,hl2,hW2,⟨k,hk,hR2⟩,hL,hAt,hq,hdead,hc7,t0,t1,t2,t6,t7,rfl⟩:=hs1
   refine Qfm ?_
   refine YJ ?_
   repeat (first|(((with_reducible refine Qj fun K E hK hE=>?_));simp -implicitDefEqProofs only[Qc,Qd,OpW,aop,AS.ev,↓reduceIte,Nat.reduceLT,aLen,goInt,un46,t2,YH])|(with_reducible refine Qb ?_)|((with_reducible refine hK _ ?_);clear hK))
   refine Qd1 ?_
   obtain⟨I2,hI2⟩:∃I2:Nat→AS→Prop,I2=fun m' s=>∃j:Nat,m'=opsB.length - j∧j≤opsB.length∧(∀b∈opsB.take j,s2.is b.toList=false)∧s.tm 0 = .ptr P.i 0 0∧s.tm 1 = .fn (.func f) [.ptr P.i 0 0] []∧s.tm 2 = .sl 1 (strs opsB) none∧s.tm 6 = .ptr h.length 0 0∧s.tm 7 = .ptr (h.length+(q+1)) 0 0 ∧
    s.tm 12 = .sl 1 (strs opsB) none∧s.tm 13 = .i opsB.length∧s.tm 14 = .i j∧s.h=ph h P s2++(c6::L):=⟨_,rfl⟩
   refine QjS I2 ?_ (m:=opsB.length) ?_
   ·intro m' s3 hs3
    rw[hI2]at hs3
    obtain⟨tm,hp⟩:=s3
    dsimp only at hs3
    obtain⟨j,rfl,hj,hno,u0,u1,u2,u6,u7,u12,u13,u14,rfl⟩:=hs3
    by_cases hlt:j<opsB.length
    ·have z1:(((j:Nat):Int)<((opsB.length:Nat):Int)):=by omega
     have hi:=ph_i H s2
     simp only[pB]at hi
     have hix:(strs opsB)[j]? = some (.v (.string opsB[j])):=by rw[strs,List.getElem?_map,List.getElem?_eq_getElem hlt];rfl
     refine YJ ?_
     repeat (first|(((with_reducible refine Qj fun K E hK hE=>?_));simp -implicitDefEqProofs only[Qc,Qd,OpW,aop,AS.ev,Nat.reduceLT,aBin,u14,u13,z1])|(with_reducible refine Qb ?_)|((with_reducible refine hK _ ?_);clear hK))
     refine YJ ?_
     repeat (first|(with_reducible (first|refine Qk ?_|refine Qb ?_))|(refine Qh rfl ?_;simp only[↓reduceIte]))
     refine Qfm (Qd1 ?_)
     refine YJ ?_
     repeat (first|(((with_reducible refine Qj fun K E hK hE=>?_));simp -implicitDefEqProofs only[Qc,Qd,OpW,aop,AS.ev,↓reduceIte,Qw,Qv,QM,ti9,ei46,u12,u14,hix,hlt,YH,seval])|(with_reducible refine Qb ?_)|((with_reducible refine hK _ ?_);clear hK))
     refine YJ ?_
     cases hb:s2.is opsB[j].toList with
     |false =>
      have cs:=fun L=>QiF (P:=P) hW2 (H.app L) hN opsB[j] hb
      simp only[Q4 H]at cs
      repeat (first|((first|(with_reducible (first|refine Qj fun K E hK hE=>?_|refine FunW.QqZ (cs _) ?_)));simp -implicitDefEqProofs only[Qc,Qd,OpW,QB,aop,AS.ev,↓reduceIte,Qg,QJ,Qp,u0,hi,seval])|(with_reducible refine Qb ?_)|((with_reducible refine hK _ ?_);clear hK))
      refine Qfl (t:=false) rfl ?_
      simp only[QrN,↓reduceIte]
      refine QcL ?_
      repeat (first|(with_reducible (first|refine Qk ?_|refine Qb ?_|refine Qn ?_)))
      refine QcL ?_
      repeat (first|(((with_reducible refine Qj fun K E hK hE=>?_));simp -implicitDefEqProofs only[Qc,Qd,OpW,aop,AS.ev,↓reduceIte,aBin,u14,seval])|(with_reducible refine Qb ?_)|((with_reducible refine hK _ ?_);clear hK))
      refine Xi.mk (m':=opsB.length - (j+1)) (by omega) ?_
      rw[hI2]
      refine⟨j+1,rfl,hlt,?_,u0,u1,u2,u6,u7,u12,u13,?_,rfl⟩
      ·intro b hb2
       rw[List.take_succ_eq_append_getElem hlt,List.mem_append,List.mem_singleton]at hb2
       rcases hb2 with hb2|rfl
       ·exact hno b hb2
       ·exact hb
      ·simp only[upd,↓reduceIte]
       rw[XE (by omega)]
     |true =>
      have hbk:=PS.Qq2 hb
      have htx:=QpN hb
      have cs:=fun L=>QgB (P:=P) hW2 (H.app L) hN opsB[j] hb
      simp only[Q4 H]at cs
      have hWn:=hW2.nx
      have hln:=Xo hW2.wf hbk
      repeat (first|((first|(with_reducible (first|refine Qj fun K E hK hE=>?_|refine FunW.QqZ (cs _) ?_)));simp -implicitDefEqProofs only[Qc,Qd,OpW,QB,aop,AS.ev,↓reduceIte,Qg,QJ,Qp,u0,hi,seval])|(with_reducible refine Qb ?_)|((with_reducible refine hK _ ?_);clear hK))
      refine Qfl (t:=true) rfl ?_
      simp only[↓reduceIte]
      refine YJ ?_
      have hone:s2.oneOf (opsB.map ByteArray.toList)=true:=by
       rw[PS.oneOf,List.any_eq_true]
       exact⟨_,List.mem_map.2 ⟨_,List.getElem_mem hlt,rfl⟩,hb⟩
      have hk1:k=k - 1+1:=by omega
      have e1:=T.Qq4 (h.length+1) t
      have e2:=T.Qq5 (h.length+1) t
      cases hop2:g s2.nx with
      |err p e =>
       have hRR:R = .err p e:=by
        rw[←hR2,hk1,XK,if_pos hone,hop2];rfl
       subst hRR
       have c2:=TRd.err HR (s:=s2.nx) (by omega) hWn H hop2 (c6::L)
       refine Xd 3 [(0,1),(1,0),(2,1)] mixed rfl rfl rfl (by kernel_rfl) (fun v h'=>v=Fl p e∧∃x:PS,h'=ph h P x++(c6::L)) ?_ ?_
       ·rintro tm v h' ⟨rfl,x,rfl⟩
        exact QW H s x p e _ ⟨rfl,_,rfl⟩
       ·simp -implicitDefEqProofs only[Qc,Qd,aop,AS.ev,↓reduceIte,Qw,Qv,ti54,u1,u7,f4,hc7,e1,e2,seval]
        exact fun _=>(FunW.meth c2).mono (by rintro _ _ ⟨rfl,x,rfl⟩;exact⟨_,rfl,rfl,x,rfl⟩)
      |ok u s3 =>
       have hW3:Wst P.all s3:=Kp.Ps.ok hKp hWn hop2
       have hl3:=(hEat _ hWn.wf u s3 hop2).2
       have hR3:XK g (opsB.map ByteArray.toList) (k - 1) (.mk 2 0 opsB[j] [t,u]) s3=R:=by
        rw[←hR2,hk1,XK,if_pos hone,hop2,htx];rfl
       have c2:=TRd.ok HR (s:=s2.nx) (by omega) hWn H hop2 (c6::L) (k:=h.length+1+(t.sz+1)) (by rw[List.length_cons,hL];omega)
       have g1:∀X,(L++X)[q]? = some (.cells 54 4 [t.lv (h.length+1)]):=fun X=>by rw[List.getElem?_append_left (by omega)];exact hc7
       have g2:∀X y,(L++X).set q y=L.set q y++X:=fun X y=>List.set_append_left _ _ (by omega)
       have e3:=T.Qq4 (h.length+1+(t.sz+1)) u
       have e4:=T.Qq5 (h.length+1+(t.sz+1)) u
       refine Qdv 1 3 [(0,1),(2,1)] [(1,0),(3,2),(4,6),(5,2),(6,2)] [(3,2),(1,0),(4,6),(5,2),(6,2)] mixed rfl (by kernel_rfl) (by kernel_rfl) (by kernel_rfl) (by kernel_rfl) (by kernel_rfl) (by kernel_rfl) fun K hK=>?_
       simp -implicitDefEqProofs only[Qc,Qd,aop,AS.ev,↓reduceIte,Qw,Qv,ti54,u1,u7,f4,hc7,e1,e2,seval]
       have hlt2:h.length+(L.length+(u.lay 54 (h.length+1+(t.sz+1))).length+1)<(ph h P s3++(c6::(L++(u.lay 54 (h.length+1+(t.sz+1))++[.cells 54 4 [t.lv (h.length+1),u.lv (h.length+1+(t.sz+1))]])))).length:=by
        simp only[QsA,QrW,QrX,QU];omega
       have fin:∀tm':Nat→AV,tm' 0 = .ptr P.i 0 0→tm' 1 = .fn (.func f) [.ptr P.i 0 0] []→tm' 2 = .sl 1 (strs opsB) none→tm' 6 = .ptr h.length 0 0→tm' 7 = .ptr (h.length+(q+1)) 0 0 →
         ∀Q',ZW Tryd.prog 31 0 (Xi I s2.toks.length) (Code.goto 0) Q' ⟨tm',ph h P s3++(c6::(L.set q (.cells 54 4 [.agg [.i 2,.i 0,.v (.string opsB[j]),.arr (h.length+(L.length+(u.lay 54 (h.length+1+(t.sz+1))).length+1)) 0 2]])++(u.lay 54 (h.length+1+(t.sz+1))++[.cells 54 4 [t.lv (h.length+1),u.lv (h.length+1+(t.sz+1))]])))⟩:=by
        intro tm' v0 v1 v2 v6 v7 Q'
        refine QjQ (QjR ⟨s3.toks.length,by omega,?_⟩)
        rw[hI]
        have hlv:(T.mk 2 0 opsB[j] [t,u]).lv (h.length+1) = .agg [.i 2,.i 0,.v (.string opsB[j]),.arr (h.length+(L.length+(u.lay 54 (h.length+1+(t.sz+1))).length+1)) 0 2]:=by
         rw[T.Qq3,hL]
         show AV.agg [_,_,_,AV.arr (h.length+1+szs [t,u] - 1) 0 2]=_
         simp only[szs]
         rw[show h.length+1+(t.sz+1+(u.sz+1+0)) - 1=h.length+(t.sz+1+u.sz+1) by omega]
        have hla:(T.mk 2 0 opsB[j] [t,u]).lay 54 (h.length+1)=(t.lay 54 (h.length+1)++[.dead])++(u.lay 54 (h.length+1+(t.sz+1))++[.cells 54 4 [t.lv (h.length+1),u.lv (h.length+1+(t.sz+1))]]):=by
         show lays _ _ (.cells _ 4 (lvs _ [t,u])) [t,u]=_
         simp only[lays,lvs,Qsq,Qsp,QrN,if_false,if_true]
         rw[Nat.add_assoc (h.length+1) t.sz 1,List.append_assoc];rfl
        refine⟨.mk 2 0 opsB[j] [t,u],s3,q,L.set q (.cells 54 4 [(T.mk 2 0 opsB[j] [t,u]).lv (h.length+1)])++(u.lay 54 (h.length+1+(t.sz+1))++[.cells 54 4 [t.lv (h.length+1),u.lv (h.length+1+(t.sz+1))]]++[.dead]),rfl,by omega,hW3,⟨k - 1,by omega,hR3⟩,?_,?_,?_,?_,?_,v0,v1,v2,v6,v7,?_⟩
        ·simp only[QsA,List.length_set,QrW,QrX,T.Qq3,T.sz,szs];omega
        ·rw[hla]
         have hlt3:(t.lay 54 (h.length+1)++[AB.dead]).length=t.sz+1:=by rw[List.length_append,T.Qq3];rfl
         refine At.both ?_ ?_
         ·refine At.app ?_ _
          refine At.set (At.both hAt (At.cons (fun hx=>by cases hx) (At.nil _ _))) fun b hb hq0=>?_
          rw[Nat.sub_zero,hdead]at hb
          cases hb;rfl
         ·rw[hlt3,List.append_assoc]
          have:=At.mid (L.set q (.cells 54 4 [(T.mk 2 0 opsB[j] [t,u]).lv (h.length+1)])) (u.lay 54 (h.length+1+(t.sz+1))++[.cells 54 4 [t.lv (h.length+1),u.lv (h.length+1+(t.sz+1))]]) [.dead] (n:=0+(t.sz+1)) (by rw[List.length_set,hL,Nat.zero_add])
          rwa [List.append_assoc]at this
        ·rw[T.sz,szs];omega
        ·rw[hla,List.append_assoc,List.getElem?_append_left (by rw[List.length_append,T.Qq3];show q<t.sz+1;omega)];exact hdead
        ·rw[List.getElem?_append_left (by rw[List.length_set];omega),List.getElem?_set_self (by omega)]
        ·rw[hlv];simp only[List.append_assoc,Qsb]
       refine⟨?_,?_⟩
       ·refine XT (FunW.meth c2) Zz ?_
        simp -implicitDefEqProofs only[Qc,Qd,AS.ev,AV.QqY,↓reduceIte,QG,ei50,zi54,f1,e1,e3,QT,tokA,Option.isSome_some,List.append_assoc,seval]
        refine XT (FunW.call (Qi0 _ _ rfl rfl rfl _ (.arr _ _ _ hlt2))) Zz ?_
        simp -implicitDefEqProofs only[Qc,Qd,aop,undef,AS.ev,AV.QqY,↓reduceIte,Qu,Ql,ti54,u7,f4,f6,g1,g2,e1,e2,seval]
        refine hK _ (Qb (fin _ ?_ ?_ ?_ ?_ ?_ _))
        ·exact u0
        ·exact u1
        ·exact u2
        ·exact u6
        ·exact u7
       ·refine XT (FunW.meth c2) Zz ?_
        simp -implicitDefEqProofs only[Qc,Qd,aop,AS.ev,AV.QqY,↓reduceIte,Qw,Qv,QG,ei50,ti54,zi54,u7,f1,f4,g1,e1,e2,e3,QT,tokA,Option.isSome_some,List.append_assoc,seval]
        refine XT (FunW.call (Qi0 _ _ rfl rfl rfl _ (.arr _ _ _ hlt2))) Zz ?_
        simp -implicitDefEqProofs only[Qc,Qd,aop,undef,AS.ev,AV.QqY,↓reduceIte,Qu,Ql,ti54,u7,f4,f6,g1,g2,e1,e2,seval]
        refine hK _ (Qb (fin _ ?_ ?_ ?_ ?_ ?_ _))
        ·exact u0
        ·exact u1
        ·exact u2
        ·exact u6
        ·exact u7
    ·have hjl:j=opsB.length:=by omega
     have z1:¬(((j:Nat):Int)<((opsB.length:Nat):Int)):=by omega
     refine YJ ?_
     repeat (first|(((with_reducible refine Qj fun K E hK hE=>?_));simp -implicitDefEqProofs only[Qc,Qd,OpW,aop,AS.ev,Nat.reduceLT,aBin,u14,u13,z1])|(with_reducible refine Qb ?_)|((with_reducible refine hK _ ?_);clear hK))
     refine YJ ?_
     repeat (first|(with_reducible (first|refine QF ?_|refine Qb ?_|refine QD ?_|refine QC ?_))|(refine Qh rfl ?_;simp only[↓reduceIte,QrN]))
     refine QcL ?_
     have e1:=T.Qq4 (h.length+1) t
     have e2:=T.Qq5 (h.length+1) t
     repeat (first|(((with_reducible refine Qa fun K E hK hE=>?_));simp -implicitDefEqProofs only[Qc,Qd,OpW,aop,undef,AS.ev,AV.QqY,↓reduceIte,Qw,Qv,Qu,Ql,ti54,u6,u7,f3,f4,f5,hc7,e1,e2,QT,seval])|(with_reducible refine Qm ?_)|((with_reducible refine hK _ ?_);clear hK))
     simp -implicitDefEqProofs only[Qc,↓reduceIte,Qw,Qv,ti54,Qw,Qv,u6,f3,e1,e2,QH,Qo,Qt,QrT,seval]
     have hone:s2.oneOf (opsB.map ByteArray.toList)=false:=by
      rw[PS.oneOf,List.any_eq_false]
      intro b hb
      obtain⟨b',hb',rfl⟩:=List.mem_map.1 hb
      rw[hjl,List.take_length]at hno
      rw[hno b' hb'];simp
     have hRR:R = .ok t s2:=by
      rw[←hR2]
      cases k with
      |zero=>rfl
      |succ k=>rw[XK,hone];rfl
     subst hRR
     refine .inr ⟨rfl,_,rfl,fun i b hb hl=>?_⟩
     have:=hAt i b hb hl
     rw[show 1+i=(0+i)+1 by omega,List.getElem?_cons_succ];exact this
   ·rw[hI2]
    exact⟨0,rfl,Nat.zero_le _,by simp,t0,t1,t2,t6,t7,rfl,rfl,rfl,rfl⟩
end
end Go.Proofs.YticgcpebdldbgaaDoor.Ab

