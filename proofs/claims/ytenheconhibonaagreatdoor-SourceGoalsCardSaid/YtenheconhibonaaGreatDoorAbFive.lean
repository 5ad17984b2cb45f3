/-
  An abstract program logic, contracts of functions, and laws of terms and rules (part 5).
-/
import Derived.Test.YtenheconhibonaaGreatDoorAbFour
import Derived.Test.YtenheconhibonaaGreatDoorAbTwo
import Derived.Test.YtenheconhibonaaGreatDoorAbThree
set_option linter.unusedVariables false
set_option linter.unusedSimpArgs false
set_option maxHeartbeats 4000000
set_option maxRecDepth 4000
namespace Go.Proofs.YtenheconhibonaaGreatDoor.Ab
def QsI(l:Nat)(J:Act->World->Prop)(Q:Exit->Act->World->Prop):Exit->Act->World->Prop
 | .goto l',a,w=>l'=l/\J a w
 |e,a,w=>Q e a w
theorem QeN{F:Fence}{n:Nat}{P:Program}{Q:Exit->Act->World->Prop}{a:Act}{w:World}{c rest:Code}(l:Nat)(J:Nat->Act->World->Prop)(hf:findLabel c l=some rest)
  (first:c.wpIn F n P (QsI l (fun a w=>∃m,J m a w) Q) a w) (pass:∀m a w,J m a w->rest.wpIn F n P (QsI l (fun a w=>∃m',m'<m/\J m' a w) Q) a w):(Code.scope c).wpIn F n P Q a w:=by
 intro b k cs hro hb hr
 have h0:(lone (b.atR a (.code (.scope c)::k)) cs w).fenced P F:=fenced_calm hb hr rfl
 have hg:gotoIn l (.inScope c::k)=some (.code rest :: .inScope c::k):=by simp[gotoIn,hf]
 have hx:∀id,exitTo id (.inScope c::k)=exitTo id k:=fun id=>by simp[exitTo]
 have key:∀(M m:Nat) a w,m<M->J m a w->∃e a' w',Q e a' w'/\ArrivesIn (fun x=>x.fenced P F) P (lone (b.atR a (.code rest :: .inScope c::k)) cs w) b k cs e a' w':=by
  intro M
  induction M with
  |zero=>intro m a w hm;omega
  |succ M ih =>
   intro m a w hm hJ
   obtain⟨e,a₁,w₁,hq,harr⟩:=pass m a w hJ b (.inScope c::k) cs hro hb hr
   cases e with
   |normal=>exact⟨.normal,a₁,w₁,hq,StepsIn.trans harr (.one (fenced_calm hb hr rfl) QbW)⟩
   |exit id=>exact⟨.exit id,a₁,w₁,hq,fun k' hk=>harr.1 k' (by rw[hx];exact hk),fun hr' hk=>harr.2 hr' (by rw[hx];exact hk)⟩
   |goto l' =>
    obtain⟨rfl,m',hlt,hJ'⟩:=hq
    obtain⟨e₂,a₂,w₂,hq₂,harr₂⟩:=ih m' a₁ w₁ (by omega) hJ'
    exact⟨e₂,a₂,w₂,hq₂,.of_steps (harr.1 _ hg) harr₂⟩
   |ret=>exact⟨_,a₁,w₁,hq,harr⟩
   |panic ch=>exact⟨_,a₁,w₁,hq,harr⟩
   |outgrown=>exact⟨_,a₁,w₁,hq,harr⟩
 obtain⟨e,a₁,w₁,hq,harr⟩:=first b (.inScope c::k) cs hro hb hr
 cases e with
 |normal=>exact⟨.normal,a₁,w₁,hq,.head h0 Yf (StepsIn.trans harr (.one (fenced_calm hb hr rfl) QbW))⟩
 |exit id =>
  exact⟨.exit id,a₁,w₁,hq,fun k' hk=>.head h0 Yf (harr.1 k' (by rw[hx];exact hk)),
   fun hr' hk=>let ⟨k₁,h1,h2⟩:=harr.2 hr' (by rw[hx];exact hk);⟨k₁,h1,.head h0 Yf h2⟩⟩
 |goto l' =>
  obtain⟨rfl,m,hJ'⟩:=hq
  obtain⟨e₂,a₂,w₂,hq₂,harr₂⟩:=key (m+1) m a₁ w₁ (by omega) hJ'
  exact⟨e₂,a₂,w₂,hq₂,.of_steps (.head h0 Yf (harr.1 _ hg)) harr₂⟩
 |ret=>exact⟨_,a₁,w₁,hq,.of_steps (.one h0 Yf) harr⟩
 |panic ch=>exact⟨_,a₁,w₁,hq,.of_steps (.one h0 Yf) harr⟩
 |outgrown=>exact⟨_,a₁,w₁,hq,.of_steps (.one h0 Yf) harr⟩
def QaO(P:Program)(N l:Nat)(J:AS->Prop)(code:Code)(Q:AExit->AS->Prop)(s:AS):Prop :=
 ∀(F:Fence) (n:Nat) (base:Bs) (c:Cx) (a:Act),WF F->St c->SR N (base,F) c s a ->
  ∀R:Exit->Act->World->Prop,(∀e s' c' a' e',Q e s'->Ev c c'->St c'->SR N (base,F) c' s' a'->ExC c' e e'->R e' a' c'.w) ->
   (∀s' c' a',J s'->Ev c c'->St c'->SR N (base,F) c' s' a'->R (.goto l) a' c'.w)->code.wpIn F n P R a c.w
section
variable{P:Program}{N l:Nat}{J:AS->Prop}{Q:AExit->AS->Prop}{s:AS}
theorem QdT{x:Code}(h:XO P N x Q s):QaO P N l J x Q s:=fun F n base c a hF hs hr R hR _=>h F n base c a hF hs hr R hR
theorem Qmi(h:J s):QaO P N l J (.goto l) Q s:=fun F n base c a hF hs hr R _ hJ=>wpIn_goto (hJ s c a h (Ev.refl c) hs hr)
theorem YX{x y:Code}(h:XO P N x (AExit.then (QaO P N l J y Q) Q) s):QaO P N l J (.seq x y) Q s:=by
 intro F n base c a hF hs hr R hR hJ
 refine wpIn_seq (h F n base c a hF hs hr _ ?_)
 intro e s' c' a' e' hQ hev hst hsr hex
 cases e with
 |normal =>
  cases hex
  exact hQ F n base c' a' hF hst hsr R (fun e s2 c2 a2 e2 hQ2 hev2 hst2 hsr2 hex2=>hR e s2 c2 a2 e2 hQ2 (Ev.trans hs hev hev2) hst2 hsr2 hex2) fun s2 c2 a2 h2 hev2 hst2 hsr2=>hJ s2 c2 a2 h2 (Ev.trans hs hev hev2) hst2 hsr2
 |exit id=>cases hex;exact hR _ s' c' a' _ hQ hev hst hsr rfl
 |ret=>cases hex;exact hR _ s' c' a' _ hQ hev hst hsr rfl
 |panic av=>obtain⟨x,rfl,hx⟩:=hex;exact hR _ s' c' a' _ hQ hev hst hsr ⟨x,rfl,hx⟩
theorem QgT{x y:Code}(h:QaO P N l J x (AExit.then (QaO P N l J y Q) Q) s):QaO P N l J (.seq x y) Q s:=by
 intro F n base c a hF hs hr R hR hJ
 refine wpIn_seq (h F n base c a hF hs hr _ ?_ ?_)
 ·intro e s' c' a' e' hQ hev hst hsr hex
  cases e with
  |normal =>
   cases hex
   exact hQ F n base c' a' hF hst hsr R (fun e s2 c2 a2 e2 hQ2 hev2 hst2 hsr2 hex2=>hR e s2 c2 a2 e2 hQ2 (Ev.trans hs hev hev2) hst2 hsr2 hex2) fun s2 c2 a2 h2 hev2 hst2 hsr2=>hJ s2 c2 a2 h2 (Ev.trans hs hev hev2) hst2 hsr2
  |exit id=>cases hex;exact hR _ s' c' a' _ hQ hev hst hsr rfl
  |ret=>cases hex;exact hR _ s' c' a' _ hQ hev hst hsr rfl
  |panic av=>obtain⟨x,rfl,hx⟩:=hex;exact hR _ s' c' a' _ hQ hev hst hsr ⟨x,rfl,hx⟩
 ·intro s' c' a' h1 hev hst hsr
  exact hJ s' c' a' h1 hev hst hsr
theorem QgS{o:Operand}{x y:Code}{t:Bool}(ho:s.ev o = .v (.bool t))(h:QaO P N l J (if t then x else y) Q s):QaO P N l J (.cond o x y) Q s:=by
 intro F n base c a hF hs hr R hR hJ
 have he:=hr.eval o
 rw[ho]at he
 have hx:a.eval o = .bool t:=by
  generalize a.eval o=u at he
  cases he;rfl
 exact wpIn_cond hx (h F n base c a hF hs hr R hR hJ)
theorem Qfp{id:Nat}{x:Code}(h:QaO P N l J x (AExit.inBlock id Q) s):QaO P N l J (.block id x) Q s:=by
 intro F n base c a hF hs hr R hR hJ
 refine wpIn_block (h F n base c a hF hs hr _ ?_ ?_)
 ·intro e s' c' a' e' hQ hev hst hsr hex
  cases e with
  |normal=>cases hex;exact hR _ s' c' a' _ hQ hev hst hsr rfl
  |exit i =>
   cases hex
   simp only[Exit.inBlock]
   simp only[AExit.inBlock]at hQ
   split
   ·rename_i hi;rw[QwN hi]at hQ;exact hR _ s' c' a' _ hQ hev hst hsr rfl
   ·rename_i hi;rw[QwJ hi]at hQ;exact hR _ s' c' a' _ hQ hev hst hsr rfl
  |ret=>cases hex;exact hR _ s' c' a' _ hQ hev hst hsr rfl
  |panic av=>obtain⟨x,rfl,hx⟩:=hex;exact hR _ s' c' a' _ hQ hev hst hsr ⟨x,rfl,hx⟩
 ·intro s' c' a' h1 hev hst hsr
  exact hJ s' c' a' h1 hev hst hsr
theorem Qmj{x:Code}(I:Nat->AS->Prop)(h:∀m s,I m s->QaO P N l J x (AExit.then (Xo I m) Q) s){m:Nat}(h0:I m s):QaO P N l J (.loop x) Q s:=by
 intro F n base c a hF hs hr R hR hJ
 have key:∀(k m:Nat) (s:AS) (c:Cx) (a:Act),m<k->I m s->St c->SR N (base,F) c s a ->
   (∀e s' c' a' e',Q e s'->Ev c c'->St c'->SR N (base,F) c' s' a'->ExC c' e e'->R e' a' c'.w)->(∀s' c' a',J s'->Ev c c'->St c'->SR N (base,F) c' s' a'->R (.goto l) a' c'.w)->Code.roundsIn F n P x R k a c.w:=by
  intro k
  induction k with
  |zero=>intro m _ _ _ hm;omega
  |succ k ih =>
   intro m s c a hm hI hs hr hR hJ
   rw[roundsIn_succ]
   refine h m s hI F n base c a hF hs hr _ ?_ ?_
   ·intro e s' c' a' e' hQ hev hst hsr hex
    cases e with
    |normal =>
     cases hex
     obtain⟨m',hlt,hI'⟩:=hQ
     exact ih m' s' c' a' (by omega) hI' hst hsr (fun e s2 c2 a2 e2 hQ2 hev2 hst2 hsr2 hex2=>hR e s2 c2 a2 e2 hQ2 (Ev.trans hs hev hev2) hst2 hsr2 hex2) fun s2 c2 a2 h2 hev2 hst2 hsr2=>hJ s2 c2 a2 h2 (Ev.trans hs hev hev2) hst2 hsr2
    |exit id=>cases hex;exact hR _ s' c' a' _ hQ hev hst hsr rfl
    |ret=>cases hex;exact hR _ s' c' a' _ hQ hev hst hsr rfl
    |panic av=>obtain⟨x,rfl,hx⟩:=hex;exact hR _ s' c' a' _ hQ hev hst hsr ⟨x,rfl,hx⟩
   ·intro s' c' a' h1 hev hst hsr
    exact hJ s' c' a' h1 hev hst hsr
 exact wpIn_loop_rounds (m+1) (key (m+1) m s c a (by omega) h0 hs hr hR hJ)
end
theorem QaO.mono{P:Program}{N l:Nat}{J J':AS->Prop}{x:Code}{Q:AExit->AS->Prop}{s:AS}(H:QaO P N l J x Q s)(h:∀s,J s->J' s):QaO P N l J' x Q s :=
 fun F n base c a hF hs hr R hR hJ=>H F n base c a hF hs hr R hR fun s' c' a' h1=>hJ s' c' a' (h s' h1)
theorem Qmh{P:Program}{N l:Nat}{J:AS->Prop}{x:Code}{Q:AExit->AS->Prop}{tm:Nat->AV}{h:AH}(H:QaO P N l J x Q ⟨tm,h++[.dead]⟩):QaO P N l J x Q ⟨tm,h⟩:=by
 intro F n base c a hF hst hr R hR hJ
 have hh:c.h=h:=hr.h
 subst hh
 have hg:=Grows.refl c.w
 have hev:=Ev.add hst hg .dead none (fun B h=>by cases h)
 have hst2:St (c.add c.w .dead none):=St.add hst hg .dead none (fun B h=>by cases h) trivial
 refine H F n base (c.add c.w .dead none) a hF hst2 ⟨rfl,hr.size,hr.above,hr.defers.ev hev,RoundOk.ev hev hr.round,fun t=>(hr.tm t).ev hst hev⟩ R (fun e' s' c' a' ex hq h1 h2 h3 h4=>hR e' s' c' a' ex hq (Ev.trans hst hev h1) h2 h3 h4) fun s' c' a' hq h1 h2 h3=>hJ s' c' a' hq (Ev.trans hst hev h1) h2 h3
theorem Qfq{P:Program}{N:Nat}{c rest:Code}{Q:AExit->AS->Prop}{s:AS}(l:Nat)(I:Nat->AS->Prop)(hf:findLabel c l=some rest)(first:QaO P N l (fun s=>∃m,I m s) c Q s)
  (pass:∀m s,I m s->QaO P N l (Xo I m) rest Q s):XO P N (.scope c) Q s:=by
 intro F n base c0 a hF hs hr R hR
 refine QeN l (fun m a w=>∃s' c',c'.w=w/\I m s'/\Ev c0 c'/\St c'/\SR N (base,F) c' s' a) hf (first F n base c0 a hF hs hr _ ?_ ?_) ?_
 ·intro e s' c' a' e' hQ hev hst hsr hex
  cases e with
  |normal=>cases hex;exact hR _ s' c' a' _ hQ hev hst hsr rfl
  |exit id=>cases hex;exact hR _ s' c' a' _ hQ hev hst hsr rfl
  |ret=>cases hex;exact hR _ s' c' a' _ hQ hev hst hsr rfl
  |panic av=>obtain⟨x,rfl,hx⟩:=hex;exact hR _ s' c' a' _ hQ hev hst hsr ⟨x,rfl,hx⟩
 ·rintro s' c' a' ⟨m,hI⟩ hev hst hsr
  exact⟨rfl,m,s',c',rfl,hI,hev,hst,hsr⟩
 ·rintro m a1 w1 ⟨s1,c1,rfl,hI,hev1,hst1,hsr1⟩
  refine pass m s1 hI F n base c1 a1 hF hst1 hsr1 _ ?_ ?_
  ·intro e s' c' a' e' hQ hev hst hsr hex
   have hev':=Ev.trans hs hev1 hev
   cases e with
   |normal=>cases hex;exact hR _ s' c' a' _ hQ hev' hst hsr rfl
   |exit id=>cases hex;exact hR _ s' c' a' _ hQ hev' hst hsr rfl
   |ret=>cases hex;exact hR _ s' c' a' _ hQ hev' hst hsr rfl
   |panic av=>obtain⟨x,rfl,hx⟩:=hex;exact hR _ s' c' a' _ hQ hev' hst hsr ⟨x,rfl,hx⟩
  ·rintro s' c' a' ⟨m',hlt,hI'⟩ hev hst hsr
   exact⟨rfl,m',hlt,s',c',rfl,hI',Ev.trans hs hev1 hev,hst,hsr⟩
theorem QiM{P:Program}{N:Nat}{c x:Code}{Q:AExit->AS->Prop}{s:AS}(l:Nat)(I:Nat->AS->Prop)(hf:findLabel c l=some (.seq .skip x))
  (first:(∀s,(∃m,I m s)->QaO P N l (fun s=>∃m,I m s) x Q s)->QaO P N l (fun s=>∃m,I m s) c Q s)
  (pass:∀m s,I m s->QaO P N l (Xo I m) x Q s):XO P N (.scope c) Q s :=
 Qfq l I hf (first fun s ⟨m,h⟩=>(pass m s h).mono fun _ ⟨m',_,h'⟩=>⟨m',h'⟩) fun m s h=>YX (Qw (pass m s h))
end Go.Proofs.YtenheconhibonaaGreatDoor.Ab
namespace Go.Proofs.YtenheconhibonaaGreatDoor.Ab
theorem Qn0{P:Program}{c:Cx}(hst:St c){g:Nat}{cs:Array Value}(hg:HasG c.h g cs){t:TypeId}(ht:Xy P t=some (true,cs.size))(h1:cs.toList.all Value.oneCell'=true) :
  (Instr.loadAt t (.pointer (some ⟨g,0,none⟩))).run P c.w = .ok (.agg cs) c.w:=by
 obtain⟨ty,fr,hc⟩:=hg.world hst
 obtain⟨hagg,hsize⟩:=QaU ht c.w
 have hcell:∀j,j<cs.size->c.w.cell? ((⟨g,0,none⟩:Addr).add j)=some (cs.getD j undef):=fun j hj=>by
  rw[addr_add,Qv1,XS hc,QwW,Qw0 hj];rfl
 have hr:=run_loadCells (P:=P) c.w ⟨g,0,none⟩ cs.size (fun j=>cs.getD j undef) hcell
 simp only[Instr.loadAt,Instr.sureAddr,loadVar,Sem.run_bind,Sem.run_pure,Result.andThen_ok,hagg,hsize,Sem.run_ite,QxP,hr]
 congr 2
 apply Array.ext
 ·simp
 ·intro i h2 h3
  simp[QwW,Qw0 h3]
def QpF(P:Program)(N:Nat)(ops:Array Oper)(o:Oper)(K:AS->Prop)(s:AS):Prop :=
 match Qk ops s.tm o with
 |some true=>(match o.op with
  | .load t x=>∃g cs,s.ev x = .v (.pointer (some ⟨g,0,none⟩))/\HasG s.h g cs/\Xy P t=some (true,cs.size)/\cs.toList.all Value.oneCell'=true/\K (AS.put N s o.dst (.v (.agg cs)))
  |_=>False)
 |some false=>K (AS.put N s o.dst (.v undef))
 |none=>False
theorem Qks{P:Program}{N:Nat}{base:Bs×Fence}{o:Oper}{s:AS}{t:TypeId}{x:Operand}{g:Nat}{cs:Array Value}(hop:o.op = .load t x)(hx:s.ev x = .v (.pointer (some ⟨g,0,none⟩)))(hg:HasG s.h g cs)(ht:Xy P t=some (true,cs.size))(h1:cs.toList.all Value.oneCell'=true){K:AS->Prop}
  (H:K (AS.put N s o.dst (.v (.agg cs)))) {F:Fence} {n:Nat} {c:Cx} {a:Act} (hF:WF F) (hst:St c) (hr:SR N base c s a)
  {next:Act->World->Prop} {Qx:Exit->Act->World->Prop} (hK:∀s' c' a',K s'->Ev c c'->St c'->SR N base c' s' a'->next a' c'.w):o.wpIn F n P a c.w next Qx:=by
 refine⟨fun f _=>hF.fn f,?_⟩
 rw[Oper.semAt_eq _ _ _ (fun q=>by rw[hop];intro h;cases h)]
 have he:=hr.eval x
 rw[hx]at he
 have hu:a.eval x = .pointer (some ⟨g,0,none⟩):=by
  generalize a.eval x=u at he
  cases he;rfl
 have hl:=Qn0 (P:=P) hst (by rw[hr.h];exact hg) ht h1
 have hrun':(execOp a.eval o).run P c.w = .ok (.value (.agg cs)) c.w:=by
  simp only[execOp,hop,hu,Sem.run_bind,hl,Result.andThen_ok,Sem.run_pure]
 rw[hrun']
 have hp:=hr.put hst (Ev.refl c) o.dst (.v (.agg cs))
 rw[hr.h]at hp
 exact hK _ c _ H (Ev.refl c) hst hp
theorem QdU{P:Program}{N:Nat}{Q:AExit->AS->Prop}{s:AS}{id:Nat}{ops:Array Oper}(i:Nat){o:Oper}(ho:ops.toList[i]? = some o)
  (H:∀(K:AS->Prop) (E:AV->AS->Prop),(∀s,Q .normal s->K s)->(∀r s,Q (.panic r) s->E r s)->OpsW P N ops (ops.toList.take i) (QpF P N ops o (OpsW P N ops (ops.toList.drop (i+1)) K E)) E s):XO P N (.region id ops false) Q s:=by
 intro F n base c a hF hst hr R hR
 refine wpIn_region ?_
 have hlt:=Qv ho
 have hH:=H (fun s'=>Q .normal s') (fun r s'=>Q (.panic r) s') (fun _ h=>h) (fun _ _ h=>h)
 have hi:(ops.toList.take i).length=i:=by rw[Qw9];omega
 have hrange:List.range ops.size=List.range' 0 (ops.toList.take i).length++(i::(List.range' (i+1) (ops.toList.drop (i+1)).length++[])):=by
  rw[hi,Qwi,Qxi,Qx0,<-Qxn]
  have:ops.toList.length=i+(1+(ops.toList.length - (i+1))):=by omega
  conv=>lhs;rw[this]
  rw[<-Qx6,Qv1,<-Qx6]
  rfl
 have hget:∀j,(ops.toList.drop (i+1))[j]? = ops[i+1+j]? := fun j=>by rw[Qxl];simp
 rw[hrange]
 refine Qcn hF (ops.toList.take i) 0 s c a (fun j hj=>by rw[Qyf,QwN (by omega)];simp) hH hst hr ?_ ?_
 ·intro s1 c1 a1 h1 h2 h3 h4
  have h0:ops[i]? = some o:=by rw[<-ho];simp
  have hrest:∀s2 c2 a2,OpsW P N ops (ops.toList.drop (i+1)) (fun s'=>Q .normal s') (fun r s'=>Q (.panic r) s') s2->Ev c c2->St c2->SR N (base,F) c2 s2 a2->wpOpsIn F n P ops R (List.range' (i+1) (ops.toList.drop (i+1)).length++[]) a2 c2.w:=by
   intro s2 c2 a2 hq he2 hst2 hr2
   refine Qcn hF _ (i+1) s2 c2 a2 (fun j _=>hget j) hq hst2 hr2 ?_ ?_
   ·intro s' c' a' hQ k1 k2 k3
    simp only[wpOpsIn]
    exact hR _ s' c' a' _ hQ (Ev.trans hst he2 k1) k2 k3 rfl
   ·intro r s' c' a' x hQ k1 k2 k3 hx
    exact hR _ s' c' a' _ hQ (Ev.trans hst he2 k1) k2 k3 ⟨x,rfl,hx⟩
  simp only[wpOpsIn,h0]
  unfold QpF at h1
  split at h1
  ·rename_i hw
   rw[Xt h4 hw]
   simp only[QxP]
   split at h1
   ·rename_i t x hop
    obtain⟨g,cs,g1,g2,g3,g4,g5⟩:=h1
    exact Qks hop g1 g2 g3 g4 g5 hF h3 h4 fun s' c' a' hK k1 k2 k3=>hrest s' c' a' hK (Ev.trans hst h2 k1) k2 k3
   ·exact h1.elim
  ·rename_i hw
   rw[Xt h4 hw]
   simp only[QvT,QxC]
   refine⟨fun f _=>hF.fn f,?_⟩
   have hr':=h4.put h3 (Ev.refl c1) o.dst (.v undef)
   rw[h4.h]at hr'
   exact hrest _ c1 _ h1 h2 h3 hr'
  ·exact h1.elim
 ·intro r s' c' a' x hQ h1 h2 h3 hx
  exact hR _ s' c' a' _ hQ h1 h2 h3 ⟨x,rfl,hx⟩
theorem Qgu{P:Program}{N:Nat}{Q:AExit->AS->Prop}{s:AS}{id:Nat}{ops:Array Oper}{y:Code}(i:Nat){o:Oper}(ho:ops.toList[i]? = some o)
  (H:∀(K:AS->Prop) (E:AV->AS->Prop),(∀s,XO P N y Q s->K s)->(∀r s,Q (.panic r) s->E r s)->OpsW P N ops (ops.toList.take i) (QpF P N ops o (OpsW P N ops (ops.toList.drop (i+1)) K E)) E s):XO P N (.seq (.region id ops false) y) Q s :=
 Qaz (QdU i ho (fun K E hK hE=>H K E hK hE))
end Go.Proofs.YtenheconhibonaaGreatDoor.Ab
namespace Go.Proofs.YtenheconhibonaaGreatDoor.Ab
open Go.Proofs
structure Pz where
 all:List Tk
 i:Nat
 j:Nat
 g:Nat
def Tk.av(t:Tk):AV:=.agg [.i t.kind,.i t.pos,.v (.string t.text)]
def tks(l:List Tk):List AV:=l.map Tk.av
def strs(l:List ByteArray):List AV:=l.map fun s=>.v (.string s)
theorem ZW(l:List ByteArray):(strs l).length=l.length:=Qxj _
theorem Qdc(l m:List ByteArray):strs (l++m)=strs l++strs m:=Qxs
theorem Qei(l:List Tk):(tks l).length=l.length:=Qxj _
theorem QjK(n:Nat)(l:List ByteArray):∀a∈flat (strs l),Below n a:=by
 intro a ha
 simp only[flat,strs,Qyn,Qxa]at ha
 obtain⟨x,⟨y,_,rfl⟩,hx⟩:=ha
 simp only[AV.cells,QxG]at hx
 subst hx
 exact .v _
theorem Qe3(n:Nat)(l:List Tk):∀a∈flat (tks l),Below n a:=by
 intro a ha
 simp only[flat,tks,Qyn,Qxa]at ha
 obtain⟨x,⟨y,_,rfl⟩,hx⟩:=ha
 simp only[Tk.av,AV.cells,QwS,Qw4,QxK]at hx
 rcases hx with rfl|rfl|rfl <;> exact .v _
theorem Tk.QuV(t:Tk):t.av.cells=[.i t.kind,.i t.pos,.v (.string t.text)]:=rfl
theorem Tk.QuY(t:Tk):t.av.isAgg=true:=rfl
def Qg6(m:List (ByteArray×AV))(p:ByteArray×Nat):List (ByteArray×AV):=if p.1.toList≠[95]/\(sget p.1 m).isSome=true then m else supd p.1 (.i (p.2:Nat)) m
def kn(names:List ByteArray):List (ByteArray×AV):=names.zipIdx.foldl Qg6 []
theorem Qoi(names:List ByteArray)(x:ByteArray):kn (names++[x])=Qg6 (kn names) (x,names.length):=by
 rw[kn,List.zipIdx_append,List.foldl_append,Qv1];rfl
theorem QhW(l m:List ByteArray)(x:ByteArray):nameAt (l++m) x=if nameAt l x<l.length then nameAt l x else l.length+nameAt m x:=by
 unfold nameAt
 rw[List.findIdx_append]
 split
 ·rfl
 ·omega
theorem toList_inj{x y:ByteArray}(h:x.toList=y.toList):x=y:=by
 rw[Lib.toList_data,Lib.toList_data]at h
 exact Qlc h
theorem Qlu(x:ByteArray)(hx:x.toList≠[95]):∀(n:Nat) (names:List ByteArray),names.length=n->sget x (kn names)=if nameAt names x<names.length then some (.i (nameAt names x:Nat))else none
 |0,names,h=>by
  obtain rfl:=Qyp h
  rfl
 |n+1,names,h=>by
  have hne:names≠[]:=by rintro rfl;cases h
  obtain⟨l,y,rfl⟩:∃l' u,names=l'++[u]:=⟨_,_,(List.dropLast_concat_getLast hne).symm⟩
  have hl:l.length=n:=by simpa using h
  have ih:=Qlu x hx n l hl
  rw[Qoi,QhW,QwG,Qyc]
  have h1:nameAt [y] x=if y=x then 0 else 1:=by
   unfold nameAt
   rw[List.findIdx_cons,List.findIdx_nil]
   by_cases e:y=x
   ·subst e;simp
   ·rw[QwJ e,show(y.toList==x.toList)=false by simpa using fun q=>e (toList_inj q)];rfl
  unfold Qg6
  by_cases hc:y.toList≠[95]/\(sget y (kn l)).isSome=true
  ·rw[QwN hc,ih]
   by_cases hf:nameAt l x<l.length
   ·simp only[QwN hf];rw[QwN (by omega)]
   ·simp only[QwJ hf,h1]
    by_cases e:y=x
    ·subst e
     rw[ih,QwJ hf]at hc
     exact absurd hc.2 (by simp)
    ·rw[QwJ e,QwJ (by omega)]
  ·rw[QwJ hc,QjC,ih]
   by_cases hf:nameAt l x<l.length
   ·simp only[QwN hf]
    rw[QwN (show nameAt l x<l.length+1 by omega)]
    by_cases e:x=y
    ·subst e
     exact absurd ⟨hx,by rw[ih,QwN hf];rfl⟩ hc
    ·rw[QwJ e]
   ·simp only[QwJ hf,h1]
    by_cases e:x=y
    ·subst e;simp only[QxP];rw[QwN (by omega)];rfl
    ·have e2:¬y=x:=fun q=>e q.symm
     simp only[QwJ e,QwJ e2]
     rw[QwJ (by omega)]
theorem QrP(names:List ByteArray):∀p∈kn names,∃k:Nat,p.2 = .i k:=by
 have hsup:∀(x:ByteArray) (k:Nat) (m:List (ByteArray×AV)),(∀p∈m,∃k:Nat,p.2 = .i k)->∀p∈supd x (.i k) m,∃k:Nat,p.2 = .i k:=by
  intro x k m
  induction m with
  |nil=>intro _ p hp;simp only[supd,QxG]at hp;subst hp;exact⟨k,rfl⟩
  |cons q m ih =>
   intro hm p hp
   simp only[supd]at hp
   split at hp
   ·rcases QwS.1 hp with rfl|hp
    ·exact⟨k,rfl⟩
    ·exact hm p (QxT _ hp)
   ·rcases QwS.1 hp with rfl|hp
    ·exact hm p (List.mem_cons_self ..)
    ·exact ih (fun p hp=>hm p (QxT _ hp)) p hp
 have key:∀(l:List (ByteArray×Nat)) (m:List (ByteArray×AV)),(∀p∈m,∃k:Nat,p.2 = .i k)->∀p∈l.foldl Qg6 m,∃k:Nat,p.2 = .i k:=by
  intro l
  induction l with
  |nil=>intro m hm;exact hm
  |cons q l ih =>
   intro m hm
   rw[List.foldl_cons]
   refine ih _ ?_
   unfold Qg6
   split
   ·exact hm
   ·exact hsup _ _ _ hm
 exact key _ [] (by simp)
def pB(P:Pz)(s:PS):AB:=.cells 117 4 [.agg [.sl 3 (tks P.all) none,.i ((P.all.length - s.toks.length:Nat):Int),.sl 1 (strs s.names) (some P.g),.mp P.j]]
def kB(s:PS):AB:=.map (smap (kn s.names))
def gB(s:PS):AB:=.grow 9 1 s.names.length
def ph(h:AH)(P:Pz)(s:PS):AH:=((h.set P.i (pB P s)).set P.j (kB s)).set P.g (gB s)
structure Pz.ok (P:Pz) (h:AH):Prop where
 i:P.i<h.length
 j:P.j<h.length
 g:P.g<h.length
 ij:P.i≠P.j
 ig:P.i≠P.g
 jg:P.j≠P.g
theorem Pz.ok.app{P:Pz}{h:AH}(H:P.ok h)(L:AH):P.ok (h++L):=⟨by rw[QwG];have:=H.i;omega,by rw[QwG];have:=H.j;omega,by rw[QwG];have:=H.g;omega,H.ij,H.ig,H.jg⟩
theorem Xm(h:AH)(P:Pz)(s:PS):(ph h P s).length=h.length:=by simp[ph]
section
variable{h:AH}{P:Pz}(H:P.ok h)
include H
theorem Xr(s:PS)(L:AH):ph (h++L) P s=ph h P s++L:=by
 unfold ph
 rw[Qw2 _ _ H.i,Qw2 _ _ (by simpa using H.j),Qw2 _ _ (by simpa using H.g)]
theorem YI(s:PS):(ph h P s)[P.i]? = some (pB P s):=by
 unfold ph
 rw[QwL (Qya H.ig),QwL (Qya H.ij),QwR H.i]
theorem Qt8(s:PS):(ph h P s)[P.j]? = some (kB s):=by
 unfold ph
 rw[QwL (Qya H.jg),QwR (by simpa using H.j)]
theorem Qt7(s:PS):(ph h P s)[P.g]? = some (gB s):=by
 unfold ph
 rw[QwR (by simpa using H.g)]
theorem ph_i(s:PS)(L:AH):(ph h P s++L)[P.i]? = some (pB P s):=by rw[QwI (by rw[Xm];exact H.i)];exact YI H s
theorem QrZ{s s':PS}(hn:s'.names=s.names):(ph h P s).set P.i (pB P s')=ph h P s':=by
 unfold ph
 rw[QyD _ _ (Qya H.ig),QyD _ _ (Qya H.ij),Qyw]
 simp only[kB,gB,hn]
theorem Qs4{s s':PS}(hn:s'.names=s.names)(L:AH):(ph h P s++L).set P.i (pB P s')=ph h P s'++L:=by
 rw[Qw2 _ _ (by rw[Xm];exact H.i),QrZ H hn]
theorem QdA{s:PS}{k:Nat}(h1:k≠P.i)(h2:k≠P.j)(h3:k≠P.g):(ph h P s)[k]? = h[k]? := by
 have _u:=H
 unfold ph
 rw[QwL (Qya h3),QwL (Qya h2),QwL (Qya h1)]
theorem Qqn(s:PS):(pB P s).Below h.length:=by
 intro a ha
 simp only[flat,QyO,List.flatMap_nil,Qwi,AV.cells,QwS,Qw4,QxK]at ha
 rcases ha with rfl|rfl|rfl|rfl
 ·exact .sl 3 _ none (Qe3 _ _) (fun b hb=>by cases hb)
 ·exact .v _
 ·exact .sl 1 _ _ (QjK _ _) (fun b hb=>by cases hb;exact H.g)
 ·exact .mp _ H.j
theorem Qp8(s:PS)(n:Nat):(kB s).Below n:=Qm1 _ _ fun p hp=>by
 have _u:=H
 obtain⟨k,e⟩:=QrP s.names p hp
 rw[e];exact .v _
theorem QcJ{s:PS}{s0:PS}{k:Nat}{b:AB}(hb:(ph h P s)[k]? = some b):(ph h P s0)[k]? = some b\/b.Below h.length:=by
 by_cases h1:k=P.i
 ·subst h1;rw[YI H]at hb;cases hb;exact .inr (Qqn H s)
 ·by_cases h2:k=P.j
  ·subst h2;rw[Qt8 H]at hb;cases hb;exact .inr (Qp8 H s _)
  ·by_cases h3:k=P.g
   ·subst h3;rw[Qt7 H]at hb;cases hb;exact .inr trivial
   ·rw[QdA H h1 h2 h3]at hb ⊢;exact .inl hb
theorem XB{s s':PS}{L:AH}{r r':AV}{Q:AV->AH->Prop}(hf:Frz (ph h P s'++L) h.length r r')(hq:Q r' (ph h P s')):Leaves (ph h P s) (ph h P s'++L) r Q:=by
 have e:(ph h P s'++L).take h.length=ph h P s':=by rw[<-Xm h P s',List.take_left]
 refine .inl ⟨h.length,r',by rw[Xm];exact QwP _,by rw[QwG,Xm];omega,.inr fun k b hk=>?_,hf,by rw[e];exact hq⟩
 rw[e]at hk
 exact QcJ H hk
end
theorem X8(h:AH)(P:Pz)(s:PS)(L:AH):(ph h P s++L)[h.length]? = L[0]? := by rw[<-Xm h P s];exact Q8 _ _
theorem YO(h:AH)(P:Pz)(s:PS)(L:AH)(k:Nat):(ph h P s++L)[h.length+k]? = L[k]? := by rw[<-Xm h P s];exact hget _ _ _
theorem XD(h:AH)(P:Pz)(s:PS)(y:AB)(L:AH):(ph h P s++L).set h.length y=ph h P s++L.set 0 y:=by rw[<-Xm h P s];exact Yd _ _ _
theorem Ye(h:AH)(P:Pz)(s:PS)(y:AB)(L:AH)(k:Nat):(ph h P s++L).set (h.length+k) y=ph h P s++L.set k y:=by rw[<-Xm h P s];exact hset _ _ _ _
end Go.Proofs.YtenheconhibonaaGreatDoor.Ab
namespace Go.Proofs.YtenheconhibonaaGreatDoor.Ab
open Go.Proofs
theorem Qe2(n:Nat)(t:Tk):Below n t.av:=.agg _ fun a ha=>by
 simp only[QwS,Qw4,QxK]at ha
 rcases ha with rfl|rfl|rfl <;> exact .v _
theorem Qso{s:PS}(h:s.wf):s.toks≠[]:=by
 obtain⟨l,e,hl,_⟩:=h
 rw[hl];simp
theorem Qq9{all:List Tk}{s:PS}(hW:Wst all s):all.length - s.toks.length<all.length/\(tks all)[all.length - s.toks.length]? = some s.tk.av:=by
 obtain⟨pre,hp⟩:=hW.suf
 cases ht:s.toks with
 |nil=>exact absurd ht (Qso hW.wf)
 |cons t r =>
  rw[ht]at hp
  have e:s.tk=t:=by unfold PS.tk;rw[ht];rfl
  subst hp
  have hl:(pre++t::r).length - (t::r).length=pre.length:=by rw[QwG];omega
  rw[hl,e]
  refine⟨by rw[QwG,Qv2];omega,?_⟩
  rw[tks,Qxd,QwO (QwP _),Qxy];rfl
section
variable{P:Pz}{s:PS}(hW:Wst P.all s){X:AH}(hX:X[P.i]? = some (pB P s))
include hW hX
theorem Qq5(L:AH):(X++L)[P.i]? = some (pB P s):=by have _u:=hW;rw[QwI (Qv hX)];exact hX
theorem X6:QT Tryz.prog 76 [.ptr P.i 0 0] X fun o h'=>o = .ret s.tk.av/\h'=X:=by
 obtain⟨h1,h2⟩:=Qq9 hW
 have hi:=Qq5 hW hX
 have hi0:=hX
 rw[pB]at hi0
 simp only[pB]at hi
 have e1:=Tk.QuV s.tk
 have e2:=Tk.QuY s.tk
 generalize P.all.length - s.toks.length=k at *
 refine Qb Tryz.func76 rfl Tryz.call76 Tryz.ntmps76 Tryz.results76 (by simp) ?_
 repeat first|(first|refine QH (id:=1) [(0,0),(1,0),(2,0),(3,0),(4,0),(5,0),(6,0),(7,0),(8,0),(9,0),(10,2)] mixed (by kernel_rfl) fun K hK=>?_|refine Qn ?_);simp only[go_sem,seval,hi,h1,h2,Qei,e1,e2]|refine hK _ ?_;clear hK
 exact Qc (htake _ _) (.keep (Qe2 _ _)) ⟨rfl,rfl⟩
end
def Fl(p e:Int):AV:=.ifc 155 (.agg [.i p,.i e])
theorem QcC(n:Nat)(p e:Int):Below n (Fl p e):=.ifc _ _ (.agg _ fun a ha=>by
 simp only[QwS,Qw4,QxK]at ha
 rcases ha with rfl|rfl <;> exact .v _)
theorem QaC(t:Tk)(e:Int)(a:AV)(X:AH):QT Tryz.prog 109 [a,t.av,.i e] X fun o h'=>o = .panic (Fl t.pos e)/\h'=X:=by
 have e1:=Tk.QuV t
 have e2:=Tk.QuY t
 have hu:=Tryz.underlying155
 refine Qb Tryz.func109 rfl Tryz.call109 Tryz.ntmps109 Tryz.results109 (by simp) ?_
 repeat refine Qn ?_;simp only[go_sem,seval,e1,hu]
 exact Qc (htake _ _) (.keep (QcC _ _ _)) ⟨rfl,rfl⟩
section
variable{P:Pz}{s:PS}(hW:Wst P.all s){X:AH}(hX:X[P.i]? = some (pB P s))
include hW hX
theorem nextL(L:AH):QT Tryz.prog 76 [.ptr P.i 0 0] (X++L) fun o h'=>o = .ret s.tk.av/\h'=X++L:=X6 hW (Qq5 hW hX L)
theorem Qob(b:ByteArray):QT Tryz.prog 146 [.ptr P.i 0 0,.v (.string b)] X fun o h'=>o = .ret (.b (s.is b.toList))/\h'=X:=by
 have cn:=X6 hW hX
 have cl:=nextL hW hX
 have e1:=Tk.QuV s.tk
 have e2:=Tk.QuY s.tk
 refine Qb Tryz.func146 rfl Tryz.call146 Tryz.ntmps146 Tryz.results146 (by simp) ?_
 by_cases hk:s.tk.kind=4
 ·have z1:(s.tk.kind==4)=true:=by simpa using hk
  repeat (first|refine FunW.QuW cn ?_|refine Qn ?_);simp only[go_sem,seval,e1,e2,z1]
  exact Qc (htake _ _) (.keep (.v _)) ⟨by rw[PS.is,z1,Qwz],rfl⟩
 ·have z1:(s.tk.kind==4)=false:=by simpa using hk
  repeat (first|refine FunW.QuW cn ?_|refine Qn ?_);simp only[go_sem,seval,e1,e2,z1]
  exact Qc (htake _ _) (.keep (.v _)) ⟨by rw[PS.is,z1,Qx4],rfl⟩
end
end Go.Proofs.YtenheconhibonaaGreatDoor.Ab
namespace Go.Proofs.YtenheconhibonaaGreatDoor.Ab
open Go.Proofs
theorem FunW.pan{P:Program}{fv:AV}{args:List AV}{h h':AH}{r:AV}{Q:AOut->AH->Prop}(H:FunW P fv args h fun o h2=>o = .panic r/\h2=h')(k:Q (.panic r) h'):FunW P fv args h Q:=H.mono (by rintro _ _ ⟨rfl,rfl⟩;exact k)
theorem FunW.panE{P:Program}{α:Type}{fv:AV}{args:List AV}{h:AH}{h':α->AH}{r:AV}{Q:AOut->AH->Prop}(H:FunW P fv args h fun o h2=>o = .panic r/\∃x,h2=h' x)(k:∀x,Q (.panic r) (h' x)):FunW P fv args h Q:=H.mono (by rintro _ _ ⟨rfl,x,rfl⟩;exact k x)
theorem PS.Qu1{s:PS}{b:List UInt8}(h:s.is b=true):s.tk.kind≠0:=by
 simp only[PS.is,QwQ,QxL]at h;rw[h.1];decide
section
variable{P:Pz}{s:PS}(hW:Wst P.all s){h:AH}(H:P.ok h)(hN:P.all.length<=1000000)
include hW H hN
theorem QsN(hk:s.tk.kind≠0):IntKind.i64.wrap (((P.all.length - s.toks.length:Nat):Int)+1)=((P.all.length - s.nx.toks.length:Nat):Int):=by
 have h1:=YU hW.wf hk
 have h2:=hW.suf.length_le
 have _u:=H
 rw[Xe (by omega)]
 congr 1;omega
theorem QoJ(hk:s.tk.kind≠0)(L:AH):(ph h P s++L).set P.i (.cells 117 4 [.agg [.sl 3 (tks P.all) none,.v (.int .i64 (IntKind.i64.wrap (((P.all.length - s.toks.length:Nat):Int)+1))),.sl 1 (strs s.names) (some P.g),.mp P.j]])=ph h P s.nx++L:=by
 rw[QsN hW H hN hk]
 exact Qs4 H (s:=s) (s':=s.nx) rfl L
theorem XU:QT Tryz.prog 119 [.ptr P.i 0 0] (ph h P s) fun o h'=>o = .ret s.tk.av/\h'=ph h P s.nx:=by
 have hX:=YI H s
 have hi:=ph_i H s
 have hp:=fun hk=>QoJ hW H hN hk
 simp only[pB]at hi
 have cl:=nextL hW hX
 have e1:=Tk.QuV s.tk
 have e2:=Tk.QuY s.tk
 have f1:=Xm h P s
 have f2:=Xm h P s.nx
 have f3:=X8 h P
 have f4:=YO h P
 have f5:=XD h P
 have f6:=Ye h P
 by_cases hk:s.tk.kind=0
 ·have z1:(s.tk.kind != 0)=false:=by simpa using hk
  have en:s.nx.toks=s.toks:=by
   obtain⟨l,e,hl,he,ha⟩:=hW.wf
   cases l with
   |nil=>simp only[PS.nx,hl,Qwg]
   |cons t l =>
    have:s.tk=t:=by simp only[PS.tk,hl,Qwh,Qxw]
    exact absurd (this▸hk) (ha t (by simp))
  have es:s.nx=s:=by
   show PS.mk _ s.names=s
   have:s=⟨s.toks,s.names⟩:=rfl
   rw[this];exact Qxm (fun x=>PS.mk x s.names) en
  rw[es]
  refine Qb Tryz.func119 rfl Tryz.call119 Tryz.ntmps119 Tryz.results119 (by simp) ?_
  repeat (first|refine FunW.QuW (cl _) ?_|refine Qn ?_);simp only[go_sem,seval,f1,f3,f4,f5,f6,e1,e2,z1]
  have:=XB H (s:=s) (s':=s) (L:=[.cells 127 3 [s.tk.av],.cells 127 3 [s.tk.av]]) (r:=s.tk.av) (r':=s.tk.av) (Q:=fun r h'=>AOut.ret r = .ret s.tk.av/\h'=ph h P s) (.keep (Qe2 _ _)) ⟨rfl,rfl⟩
  exact this
 ·have z1:(s.tk.kind != 0)=true:=by simpa using hk
  have hp':=hp hk
  refine Qb Tryz.func119 rfl Tryz.call119 Tryz.ntmps119 Tryz.results119 (by simp) ?_
  repeat (first|refine FunW.QuW (cl _) ?_|refine Qn ?_);simp only[go_sem,seval,f1,f3,f4,f5,f6,e1,e2,z1,hi,hp']
  exact XB H (s:=s) (s':=s.nx) (.keep (Qe2 _ _)) ⟨rfl,rfl⟩
end
end Go.Proofs.YtenheconhibonaaGreatDoor.Ab
namespace Go.Proofs.YtenheconhibonaaGreatDoor.Ab
theorem Qb8{P:Program}{F:Fence}{n:Nat}{f:FuncId}{fn:Func}{c:Code}{args:Array Value}{u:FrameMode}{w:World}{R:Ending->World->Prop}{u2:FrameMode}
  (hf:P.funcs[f]? = some fn) (hb:fn.body=some c) (hF:F.fn f)
  (h:∀(c₀:Frame) (cs:List Frame),c₀.mode=u->c.wpSIn F n P (fun e a' cs' w'=>cs'={c₀ with mode:=u2}::cs/\bodyPostM F n P fn R e a' w') {tmps:=args++Array.replicate (fn.ntmps - args.size) undef,defers:=[]} (c₀::cs) w) (hro:F.round=none) :
  CallsDIn F n P f args u w fun e u' w'=>u'=u2/\R e w':=by
 refine⟨hF,fun c₀ cs hu hr=>?_⟩
 let b:Frame:={(default:Frame)with fn:=f,kind:=.deferred,roundOf:=none}
 have henter:Frame.enter P f args .deferred =
   b.atR {tmps:=args++Array.replicate (fn.ntmps - args.size) undef,defers:=[]} [.code c]:=by
  simp[Frame.enter,Frame.atR,hf,hb,b]
 obtain⟨e,a',cs',w',hlen,⟨rfl,hq⟩,harr⟩:=h c₀ cs hu b [] rfl rfl hF hr
 have hr':F.room (({c₀ with mode:=u2}::cs).length+1+n):=hr
 rw[<-henter]at harr
 cases e with
 |normal =>
  obtain⟨e',w'',fr',hR,hs,hfn,hk,hl⟩:=Z2 a'.defers .returning w' {b.atR a' []with mode:=.returning} ({c₀ with mode:=u2}::cs) rfl rfl rfl hf rfl hF hr' hq
  exact⟨e',u2,w'',fr',⟨rfl,hR⟩,ComesIn.of_steps (StepsIn.trans harr (.one (fenced_calm (fr:=b.atR a' []) hF hr' rfl) (stepR_end rfl))) hs,hk,hfn,hl⟩
 |ret =>
  obtain⟨todo,hs₀⟩:=harr.1 rfl
  obtain⟨e',w'',fr',hR,hs,hfn,hk,hl⟩:=Z2 a'.defers .returning w' {b.atR a' todo with mode:=.returning} ({c₀ with mode:=u2}::cs) rfl rfl rfl hf rfl hF hr' hq
  exact⟨e',u2,w'',fr',⟨rfl,hR⟩,ComesIn.of_steps hs₀ hs,hk,hfn,hl⟩
 |panic chain =>
  obtain⟨todo,hs₀⟩:=harr
  obtain⟨e',w'',fr',hR,hs,hfn,hk,hl⟩:=Z2 a'.defers (.panicking chain) w' {b.atR a' todo with mode:=.panicking chain} ({c₀ with mode:=u2}::cs) rfl rfl rfl hf rfl hF hr' hq
  exact⟨e',u2,w'',fr',⟨rfl,hR⟩,ComesIn.of_steps hs₀ hs,hk,hfn,hl⟩
 |exit id=>exact hq.elim
 |goto l=>exact hq.elim
 |outgrown=>exact⟨.outgrown,u2,w',b,⟨rfl,hq⟩,harr.resolve_left (by simp[b]),rfl,rfl,trivial⟩
def recV:AMode->AV
 | .pan v false=>v
 |_=>.v .nilIface
def recM:AMode->AMode
 | .pan v false=>.pan v true
 |m=>m
theorem QcV{P:Program}{f:FuncId}{fn:Func}{id x y:Nat}{t1 t2:TypeId}{p1 p2:String}{a1 a2:Array Edge}{rest:Code}{args:List AV}{h:AH}{Q:AH->Prop}(hf:P.funcs[f]? = some fn)
  (hb:fn.body=some (.seq (.region id #[{dst:=some x,op:=.call ⟨.builtin .recover,#[],#[]⟩,type:=t1,pos:=p1,after:=a1,guard:=none},{dst:=some y,op:=.assign (.tmp x),type:=t2,pos:=p2,after:=a2,guard:=none}] false) rest))
  (hcall:∀vals w,(callFunc f vals).run P w = .ok (.enter f vals) w) {N:Nat} (hN:fn.ntmps=N) {rs:List ResultVar} (hrs:fn.results.toList=rs) (hn:args.length<=N) (hx:x<N) (hy:y<N) (m:AMode)
  (H:XO P N rest (QS P rs h fun o h'=>(∃r,o = .ret r)/\Q h') ⟨upd (upd (QG args) x (recV m)) y (recV m),h⟩):Z9 P f args h m fun m' h'=>m'=recM m/\Q h':=by
 subst hN
 refine⟨hcall,fun F n c vals u hF hro hs hh hvals hm=>?_⟩
 subst hh
 have hsr0:SRd fn.ntmps c.w.heap.size c ⟨QG args,c.h⟩ {tmps:=vals++Array.replicate (fn.ntmps - vals.size) undef,defers:=[]} []:=by
  refine⟨rfl,by have:=hvals.1;simp;omega,QwP _,⟨[],rfl,rfl,Qyh,fun e h=>by cases h⟩,fun t=>?_⟩
  simp only[QG]
  rw[QwW,Qyg,Qxe]
  have hsz:=hvals.1
  by_cases ht:t<vals.size
  ·rw[QwN ht]
   obtain⟨u,hu⟩:∃u,vals[t]? = some u:=⟨_,Qw0 ht⟩
   obtain⟨a,ha⟩:∃a,args[t]? = some a:=⟨_,QwK (by omega)⟩
   rw[hu,ha]
   exact hvals.2 t a u ha hu
  ·rw[QwJ ht,Qxp (by omega),QxR]
   split
   ·exact .v _
   ·exact .v _
 -- what recover does to the frame below
 obtain⟨rv,u2,hrel,hm2,hrec⟩:∃(rv:Value) (u2:FrameMode),Rel c (recV m) rv/\MdC c (recM m) u2/\∀(c₀:Frame) (cs:List Frame),c₀.mode=u ->
   (recoverD (c₀::cs)=some (rv,{c₀ with mode:=u2}::cs))\/(recoverD (c₀::cs)=none/\rv = .nilIface/\({c₀ with mode:=u2}:Frame)=c₀):=by
  cases m with
  |ret =>
   obtain rfl:u = .returning:=hm
   refine⟨.nilIface,.returning,.v _,rfl,fun c₀ cs hu=>.inr ⟨?_,rfl,by rw[<-hu]⟩⟩
   simp only[recoverD,hu]
  |pan v b =>
   obtain⟨xv,rfl,hv⟩:=hm
   cases b with
   |false =>
    refine⟨xv,_,hv,⟨xv,rfl,hv⟩,fun c₀ cs hu=>.inl ?_⟩
    simp only[recoverD,hu]
   |true =>
    refine⟨.nilIface,_,.v _,⟨xv,rfl,hv⟩,fun c₀ cs hu=>.inr ⟨?_,rfl,by rw[<-hu]⟩⟩
    simp only[recoverD,hu]
 have hsr:SRd fn.ntmps c.w.heap.size c ⟨upd (upd (QG args) x (recV m)) y (recV m),c.h⟩ (((⟨vals++Array.replicate (fn.ntmps - vals.size) undef,[]⟩:Act).put (some x) rv).put (some y) rv) []:=by
  have s1:=(hsr0.sr hro).put hs (Ev.refl c) (some x) hrel
  have s2:=s1.put hs (Ev.refl c) (some y) hrel
  have s3:=hsr0.Qvq hs (Ev.refl c) s2
  simp only[AS.put,QwN hx,QwN hy]at s3
  exact s3
 refine(Qb8 (u2:=u2) (R:=fun e w'=>∃(o:AOut) (c':Cx),((∃r,o=AOut.ret r)/\Q c'.h)/\Ev c c'/\St c'/\c'.w=w'/\EndC c' o e) hf hb (hF.fn f) (fun c₀ cs hu=>?_) hro).mono ?_
 ·apply wpSIn_seq
  apply wpSIn_region
  have hput:∀cs',cs'=({c₀ with mode:=u2}:Frame)::cs->rest.wpSIn F n P (fun e a' cs'' w'=>cs''={c₀ with mode:=u2}::cs/\bodyPostM F n P fn (fun e w'=>∃(o:AOut) (c':Cx),((∃r,o=AOut.ret r)/\Q c'.h)/\Ev c c'/\St c'/\c'.w=w'/\EndC c' o e) e a' w')
    (((⟨vals++Array.replicate (fn.ntmps - vals.size) undef,[]⟩:Act).put (some x) rv).put (some y) rv) cs' c.w:=by
   rintro cs' rfl
   refine wpSIn_of_wpIn hro ?_
   refine Ys (H.mono fun e s hq=>(by cases e <;> exact hq:QjW P rs c.h (fun o h'=>(∃r,o=AOut.ret r)/\Q h') e s [])) F n c.w.heap.size c _ hF hro hs hsr _ ?_
   intro e s' ds' c' a' e' hQ hev hst hr hex
   obtain⟨es,e1,e2,e3,e4⟩:=hr.defs
   subst e2
   have hout:Out fn.ntmps c' s' a'.tmps:=⟨hr.h,hr.size,hr.tm⟩
   have key:=fun(m:AMode) (u:FrameMode) (hm:MdC c' m u) (hnr:∀v,m ≠ .pan v true) H=>e1▸Qbx (P:=P) hF hro (n:=n) (fn:=fn) (tmps:=a'.tmps) hrs (Q:=fun o h'=>(∃r,o=AOut.ret r)/\Q h') hs es c' s' m u hev hst hout e3 e4 hm hnr H
   refine⟨rfl,?_⟩
   cases e with
   |normal=>cases hex;exact key .ret .returning rfl (fun v h=>by cases h) hQ
   |ret=>cases hex;exact key .ret .returning rfl (fun v h=>by cases h) hQ
   |panic av =>
    obtain⟨x,rfl,hx⟩:=hex
    exact key (.pan av false) _ ⟨x,rfl,hx⟩ (fun v h=>by cases h) hQ
   |exit id=>exact hQ.elim
  have r2:((⟨vals++Array.replicate (fn.ntmps - vals.size) undef,[]⟩:Act).put (some x) rv).eval (.tmp x)=rv:=by
   have hlt:x<(vals++Array.replicate (fn.ntmps - vals.size) undef).size:=by have:=hsr0.size;simp only at this;omega
   simp only[QxF,Array.size_replicate]at hlt
   simp[Act.put,Act.eval]
   intro h;omega
  have hlt2:x<vals.size+(fn.ntmps - vals.size):=by omega
  show wpOpsSIn F n P _ _ [0,1] _ _ _
  rcases hrec c₀ cs hu with hr|⟨hr,rfl,hc⟩
  ·simp[wpOpsSIn,Region.wanted,execOp,go_sem,resolve,invoke,hr,hF.fn,Exit.thenS,hlt2]
   exact hput _ rfl
  ·simp[wpOpsSIn,Region.wanted,execOp,go_sem,resolve,invoke,hr,hF.fn,Exit.thenS,hlt2]
   exact hput _ (by rw[hc])
 ·rintro e u' w' ⟨rfl,o,c',⟨⟨r,rfl⟩,hQ⟩,hev,hst',rfl,xx,rfl,hx'⟩
  exact⟨xx,recM m,c',rfl,⟨rfl,hQ⟩,hev,hst',rfl,hm2.ev hs hev⟩
end Go.Proofs.YtenheconhibonaaGreatDoor.Ab
namespace Go.Proofs.YtenheconhibonaaGreatDoor.Ab
open Go.Proofs
section
variable{P:Pz}{s:PS}(hW:Wst P.all s){h:AH}(H:P.ok h)(hN:P.all.length<=1000000)
include hW H hN
theorem Qie(b:ByteArray)(hb:s.is b.toList=true):QT Tryz.prog 110 [.ptr P.i 0 0,.v (.string b)] (ph h P s) fun o h'=>o = .ret (.b true)/\h'=ph h P s.nx:=by
 have hX:=YI H s
 have hi:=ph_i H s
 have hp':=QoJ hW H hN (PS.Qu1 hb)
 have hp0:=hp' []
 have hi0:=hX
 rw[pB]at hi0
 simp only[pB]at hi
 simp only[Qwi]at hp0
 have ci:=Qob hW hX b
 rw[hb]at ci
 refine Qb Tryz.func110 rfl Tryz.call110 Tryz.ntmps110 Tryz.results110 (by simp) ?_
 repeat (first|refine FunW.QuW ci ?_|refine Qn ?_);simp only[go_sem,seval,hi0,hp0]
 exact .inr ⟨rfl,rfl⟩
theorem QkV(b:ByteArray)(hb:s.is b.toList=false):QT Tryz.prog 110 [.ptr P.i 0 0,.v (.string b)] (ph h P s) fun o h'=>o = .ret (.b false)/\h'=ph h P s:=by
 have _u:=hN
 have hX:=YI H s
 have ci:=Qob hW hX b
 rw[hb]at ci
 refine Qb Tryz.func110 rfl Tryz.call110 Tryz.ntmps110 Tryz.results110 (by simp) ?_
 repeat (first|refine FunW.QuW ci ?_|refine Qn ?_);simp only[go_sem,seval]
 exact .inr ⟨rfl,rfl⟩
theorem Qmn(b:ByteArray)(hb:s.is b.toList=true):QT Tryz.prog 116 [.ptr P.i 0 0,.v (.string b)] (ph h P s) fun o h'=>o = .ret (.tup [])/\h'=ph h P s.nx:=by
 have cs:=Qie hW H hN b hb
 refine Qb Tryz.func116 rfl Tryz.call116 Tryz.ntmps116 Tryz.results116 (by simp) ?_
 repeat (first|refine FunW.QuW cs ?_|refine Qn ?_);simp only[go_sem,seval]
 exact .inr ⟨rfl,rfl⟩
theorem QnU(b:ByteArray)(hb:s.is b.toList=false):QT Tryz.prog 116 [.ptr P.i 0 0,.v (.string b)] (ph h P s) fun o h'=>o = .panic (Fl s.tk.pos 16)/\h'=ph h P s:=by
 have cs:=QkV hW H hN b hb
 have cn:=X6 hW (YI H s)
 have cf:=QaC s.tk 16
 refine Qb Tryz.func116 rfl Tryz.call116 Tryz.ntmps116 Tryz.results116 (by simp) ?_
 repeat (first|refine FunW.QuW cs ?_|refine FunW.QuW cn ?_|refine FunW.pan (FunW.call (cf _ _)) ?_|refine Qn ?_);simp only[go_sem,seval]
 exact .inr ⟨rfl,rfl⟩
theorem QqB(n m:Int)(hm:¬m<=n):QT Tryz.prog 77 [.ptr P.i 0 0,.i n,.i m] (ph h P s) fun o h'=>o = .ret (.tup [])/\h'=ph h P s:=by
 have _u:=hN
 have _v:=hW
 have _w:=H
 have z1:¬n>=m:=hm
 refine Qb Tryz.func77 rfl Tryz.call77 Tryz.ntmps77 Tryz.results77 (by simp) ?_
 repeat refine Qn ?_;simp only[go_sem,seval,hm]
 exact .inr ⟨rfl,rfl⟩
theorem Qr6(n m:Int)(hm:m<=n):QT Tryz.prog 77 [.ptr P.i 0 0,.i n,.i m] (ph h P s) fun o h'=>o = .panic (Fl s.tk.pos 6)/\h'=ph h P s:=by
 have _u:=hN
 have z1:n>=m:=hm
 have cn:=X6 hW (YI H s)
 have cf:=QaC s.tk 6
 refine Qb Tryz.func77 rfl Tryz.call77 Tryz.ntmps77 Tryz.results77 (by simp) ?_
 repeat (first|refine FunW.QuW cn ?_|refine FunW.pan (FunW.call (cf _ _)) ?_|refine Qn ?_);simp only[go_sem,seval,hm]
 exact .inr ⟨rfl,rfl⟩
theorem Qji:QT Tryz.prog 115 [.ptr P.i 0 0] (ph h P s) fun o h'=>match Qco s with
  | .ok x s2=>o = .ret (.v (.string x))/\h'=ph h P s2
  | .err p e=>o = .panic (Fl p e)/\∃s2,h'=ph h P s2:=by
 have ct:=XU hW H hN
 have e1:=Tk.QuV s.tk
 have e2:=Tk.QuY s.tk
 have f1:=Xm h P s.nx
 have f3:=X8 h P
 have f4:=YO h P
 have f5:=XD h P
 have f6:=Ye h P
 unfold Qco
 by_cases h1:s.tk.kind=1
 ·rw[QwJ (by simpa using h1)]
  have z1:(s.tk.kind != 1)=false:=by simpa using h1
  have cr:=QdG s.tk.text
  cases hr:resB s.tk.text with
  |true =>
   rw[QwN rfl]
   rw[hr]at cr
   have cf:=QaC s.tk 7
   refine Qb Tryz.func115 rfl Tryz.call115 Tryz.ntmps115 Tryz.results115 (by simp) ?_
   repeat (first|refine FunW.QuW ct ?_|refine Qy cr ?_|refine FunW.pan (FunW.call (cf _ _)) ?_|refine Qn ?_);simp only[go_sem,seval,e1,e2,f1,f3,f5,z1]
   exact XB H (s:=s) (s':=s.nx) (.keep (QcC _ _ _)) ⟨rfl,_,rfl⟩
  |false =>
   rw[QwJ (by simp)]
   rw[hr]at cr
   refine Qb Tryz.func115 rfl Tryz.call115 Tryz.ntmps115 Tryz.results115 (by simp) ?_
   repeat (first|refine FunW.QuW ct ?_|refine Qy cr ?_|refine Qn ?_);simp only[go_sem,seval,e1,e2,f1,f3,f5,z1]
   exact XB H (s:=s) (s':=s.nx) (.keep (.v _)) ⟨rfl,rfl⟩
 ·rw[QwN h1]
  have z1:(s.tk.kind != 1)=true:=by simpa using h1
  have cf:=QaC s.tk 16
  refine Qb Tryz.func115 rfl Tryz.call115 Tryz.ntmps115 Tryz.results115 (by simp) ?_
  repeat (first|refine FunW.QuW ct ?_|refine FunW.pan (FunW.call (cf _ _)) ?_|refine Qn ?_);simp only[go_sem,seval,e1,e2,f1,f3,f5,z1]
  exact XB H (s:=s) (s':=s.nx) (.keep (QcC _ _ _)) ⟨rfl,_,rfl⟩
end
end Go.Proofs.YtenheconhibonaaGreatDoor.Ab
namespace Go.Proofs.YtenheconhibonaaGreatDoor.Ab
open Go.Proofs
def clsN(c:Int):Int:=if c=32\/c=9\/c=13\/c=10 then 1 else if 97<=c/\c<=122 then 2 else if (65<=c/\c<=90)\/c=95 then 3 else if 48<=c/\c<=57 then 4 else 0
theorem QtD(c:Int)(hc:c=32):Pure Tryz.prog 185 [.v (.int .u8 c)] (.i (clsN c)):=by
 intro h
 have e0:clsN c=1:=by simp only[clsN];repeat' (first|rw[QwN (by omega)]|rw[QwJ (by omega)])
 have b32:(c==32)=true:=by simp;omega
 have b9:(c==9)=false:=by simp;omega
 have b13:(c==13)=false:=by simp;omega
 have b10:(c==10)=false:=by simp;omega
 have b95:(c==95)=false:=by simp;omega
 have g97:¬97<=c:=by omega
 have l122:c<=122:=by omega
 have g65:¬65<=c:=by omega
 have l90:c<=90:=by omega
 have g48:¬48<=c:=by omega
 have l57:c<=57:=by omega
 refine Qb Tryz.func185 rfl Tryz.call185 Tryz.ntmps185 Tryz.results185 (by simp) ?_
 repeat refine Qn ?_;simp only[go_sem,seval,b32]
 (refine Qc QwH (.keep (.v _)) ⟨by rw[e0],rfl⟩)
theorem QtE(c:Int)(hc:c=9):Pure Tryz.prog 185 [.v (.int .u8 c)] (.i (clsN c)):=by
 intro h
 have e0:clsN c=1:=by simp only[clsN];repeat' (first|rw[QwN (by omega)]|rw[QwJ (by omega)])
 have b32:(c==32)=false:=by simp;omega
 have b9:(c==9)=true:=by simp;omega
 have b13:(c==13)=false:=by simp;omega
 have b10:(c==10)=false:=by simp;omega
 have b95:(c==95)=false:=by simp;omega
 have g97:¬97<=c:=by omega
 have l122:c<=122:=by omega
 have g65:¬65<=c:=by omega
 have l90:c<=90:=by omega
 have g48:¬48<=c:=by omega
 have l57:c<=57:=by omega
 refine Qb Tryz.func185 rfl Tryz.call185 Tryz.ntmps185 Tryz.results185 (by simp) ?_
 repeat refine Qn ?_;simp only[go_sem,seval,b32,b9]
 (refine Qc QwH (.keep (.v _)) ⟨by rw[e0],rfl⟩)
theorem QtF(c:Int)(hc:c=13):Pure Tryz.prog 185 [.v (.int .u8 c)] (.i (clsN c)):=by
 intro h
 have e0:clsN c=1:=by simp only[clsN];repeat' (first|rw[QwN (by omega)]|rw[QwJ (by omega)])
 have b32:(c==32)=false:=by simp;omega
 have b9:(c==9)=false:=by simp;omega
 have b13:(c==13)=true:=by simp;omega
 have b10:(c==10)=false:=by simp;omega
 have b95:(c==95)=false:=by simp;omega
 have g97:¬97<=c:=by omega
 have l122:c<=122:=by omega
 have g65:¬65<=c:=by omega
 have l90:c<=90:=by omega
 have g48:¬48<=c:=by omega
 have l57:c<=57:=by omega
 refine Qb Tryz.func185 rfl Tryz.call185 Tryz.ntmps185 Tryz.results185 (by simp) ?_
 repeat refine Qn ?_;simp only[go_sem,seval,b32,b9,b13]
 (refine Qc QwH (.keep (.v _)) ⟨by rw[e0],rfl⟩)
theorem QtG(c:Int)(hc:c=10):Pure Tryz.prog 185 [.v (.int .u8 c)] (.i (clsN c)):=by
 intro h
 have e0:clsN c=1:=by simp only[clsN];repeat' (first|rw[QwN (by omega)]|rw[QwJ (by omega)])
 have b32:(c==32)=false:=by simp;omega
 have b9:(c==9)=false:=by simp;omega
 have b13:(c==13)=false:=by simp;omega
 have b10:(c==10)=true:=by simp;omega
 have b95:(c==95)=false:=by simp;omega
 have g97:¬97<=c:=by omega
 have l122:c<=122:=by omega
 have g65:¬65<=c:=by omega
 have l90:c<=90:=by omega
 have g48:¬48<=c:=by omega
 have l57:c<=57:=by omega
 refine Qb Tryz.func185 rfl Tryz.call185 Tryz.ntmps185 Tryz.results185 (by simp) ?_
 repeat refine Qn ?_;simp only[go_sem,seval,b32,b9,b13,b10]
 (refine Qc QwH (.keep (.v _)) ⟨by rw[e0],rfl⟩)
theorem QtH(c:Int)(hc:97<=c/\c<=122):Pure Tryz.prog 185 [.v (.int .u8 c)] (.i (clsN c)):=by
 intro h
 have e0:clsN c=2:=by simp only[clsN];repeat' (first|rw[QwN (by omega)]|rw[QwJ (by omega)])
 have b32:(c==32)=false:=by simp;omega
 have b9:(c==9)=false:=by simp;omega
 have b13:(c==13)=false:=by simp;omega
 have b10:(c==10)=false:=by simp;omega
 have b95:(c==95)=false:=by simp;omega
 have g97:97<=c:=by omega
 have l122:c<=122:=by omega
 have g65:65<=c:=by omega
 have l90:¬c<=90:=by omega
 have g48:48<=c:=by omega
 have l57:¬c<=57:=by omega
 refine Qb Tryz.func185 rfl Tryz.call185 Tryz.ntmps185 Tryz.results185 (by simp) ?_
 repeat refine Qn ?_;simp only[go_sem,seval,b32,b9,b13,b10,g97,l122]
 (refine Qc QwH (.keep (.v _)) ⟨by rw[e0],rfl⟩)
theorem QtI(c:Int)(hc:65<=c/\c<=90):Pure Tryz.prog 185 [.v (.int .u8 c)] (.i (clsN c)):=by
 intro h
 have e0:clsN c=3:=by simp only[clsN];repeat' (first|rw[QwN (by omega)]|rw[QwJ (by omega)])
 have b32:(c==32)=false:=by simp;omega
 have b9:(c==9)=false:=by simp;omega
 have b13:(c==13)=false:=by simp;omega
 have b10:(c==10)=false:=by simp;omega
 have b95:(c==95)=false:=by simp;omega
 have g97:¬97<=c:=by omega
 have l122:c<=122:=by omega
 have g65:65<=c:=by omega
 have l90:c<=90:=by omega
 have g48:48<=c:=by omega
 have l57:¬c<=57:=by omega
 refine Qb Tryz.func185 rfl Tryz.call185 Tryz.ntmps185 Tryz.results185 (by simp) ?_
 repeat refine Qn ?_;simp only[go_sem,seval,b32,b9,b13,b10,g97,g65,l90]
 (refine Qc QwH (.keep (.v _)) ⟨by rw[e0],rfl⟩)
theorem QtJ(c:Int)(hc:c=95):Pure Tryz.prog 185 [.v (.int .u8 c)] (.i (clsN c)):=by
 intro h
 have e0:clsN c=3:=by simp only[clsN];repeat' (first|rw[QwN (by omega)]|rw[QwJ (by omega)])
 have b32:(c==32)=false:=by simp;omega
 have b9:(c==9)=false:=by simp;omega
 have b13:(c==13)=false:=by simp;omega
 have b10:(c==10)=false:=by simp;omega
 have b95:(c==95)=true:=by simp;omega
 have g97:¬97<=c:=by omega
 have l122:c<=122:=by omega
 have g65:65<=c:=by omega
 have l90:¬c<=90:=by omega
 have g48:48<=c:=by omega
 have l57:¬c<=57:=by omega
 refine Qb Tryz.func185 rfl Tryz.call185 Tryz.ntmps185 Tryz.results185 (by simp) ?_
 repeat refine Qn ?_;simp only[go_sem,seval,b32,b9,b13,b10,b95,g97,g65,l90]
 (refine Qc QwH (.keep (.v _)) ⟨by rw[e0],rfl⟩)
theorem QtK(c:Int)(hc:48<=c/\c<=57):Pure Tryz.prog 185 [.v (.int .u8 c)] (.i (clsN c)):=by
 intro h
 have e0:clsN c=4:=by simp only[clsN];repeat' (first|rw[QwN (by omega)]|rw[QwJ (by omega)])
 have b32:(c==32)=false:=by simp;omega
 have b9:(c==9)=false:=by simp;omega
 have b13:(c==13)=false:=by simp;omega
 have b10:(c==10)=false:=by simp;omega
 have b95:(c==95)=false:=by simp;omega
 have g97:¬97<=c:=by omega
 have l122:c<=122:=by omega
 have g65:¬65<=c:=by omega
 have l90:c<=90:=by omega
 have g48:48<=c:=by omega
 have l57:c<=57:=by omega
 refine Qb Tryz.func185 rfl Tryz.call185 Tryz.ntmps185 Tryz.results185 (by simp) ?_
 repeat refine Qn ?_;simp only[go_sem,seval,b32,b9,b13,b10,b95,g97,g65,g48,l57]
 (refine Qc QwH (.keep (.v _)) ⟨by rw[e0],rfl⟩)
theorem QtL(c:Int)(hc:c<48/\c≠32/\c≠9/\c≠13/\c≠10):Pure Tryz.prog 185 [.v (.int .u8 c)] (.i (clsN c)):=by
 intro h
 have e0:clsN c=0:=by simp only[clsN];repeat' (first|rw[QwN (by omega)]|rw[QwJ (by omega)])
 have b32:(c==32)=false:=by simp;omega
 have b9:(c==9)=false:=by simp;omega
 have b13:(c==13)=false:=by simp;omega
 have b10:(c==10)=false:=by simp;omega
 have b95:(c==95)=false:=by simp;omega
 have g97:¬97<=c:=by omega
 have l122:c<=122:=by omega
 have g65:¬65<=c:=by omega
 have l90:c<=90:=by omega
 have g48:¬48<=c:=by omega
 have l57:c<=57:=by omega
 refine Qb Tryz.func185 rfl Tryz.call185 Tryz.ntmps185 Tryz.results185 (by simp) ?_
 repeat refine Qn ?_;simp only[go_sem,seval,b32,b9,b13,b10,b95,g97,g65,g48]
 (refine Qc QwH (.keep (.v _)) ⟨by rw[e0],rfl⟩)
theorem QtM(c:Int)(hc:58<=c/\c<=64):Pure Tryz.prog 185 [.v (.int .u8 c)] (.i (clsN c)):=by
 intro h
 have e0:clsN c=0:=by simp only[clsN];repeat' (first|rw[QwN (by omega)]|rw[QwJ (by omega)])
 have b32:(c==32)=false:=by simp;omega
 have b9:(c==9)=false:=by simp;omega
 have b13:(c==13)=false:=by simp;omega
 have b10:(c==10)=false:=by simp;omega
 have b95:(c==95)=false:=by simp;omega
 have g97:¬97<=c:=by omega
 have l122:c<=122:=by omega
 have g65:¬65<=c:=by omega
 have l90:c<=90:=by omega
 have g48:48<=c:=by omega
 have l57:¬c<=57:=by omega
 refine Qb Tryz.func185 rfl Tryz.call185 Tryz.ntmps185 Tryz.results185 (by simp) ?_
 repeat refine Qn ?_;simp only[go_sem,seval,b32,b9,b13,b10,b95,g97,g65,g48,l57]
 (refine Qc QwH (.keep (.v _)) ⟨by rw[e0],rfl⟩)
theorem QsB(c:Int)(hc:91<=c/\c<=94):Pure Tryz.prog 185 [.v (.int .u8 c)] (.i (clsN c)):=by
 intro h
 have e0:clsN c=0:=by simp only[clsN];repeat' (first|rw[QwN (by omega)]|rw[QwJ (by omega)])
 have b32:(c==32)=false:=by simp;omega
 have b9:(c==9)=false:=by simp;omega
 have b13:(c==13)=false:=by simp;omega
 have b10:(c==10)=false:=by simp;omega
 have b95:(c==95)=false:=by simp;omega
 have g97:¬97<=c:=by omega
 have l122:c<=122:=by omega
 have g65:65<=c:=by omega
 have l90:¬c<=90:=by omega
 have g48:48<=c:=by omega
 have l57:¬c<=57:=by omega
 refine Qb Tryz.func185 rfl Tryz.call185 Tryz.ntmps185 Tryz.results185 (by simp) ?_
 repeat refine Qn ?_;simp only[go_sem,seval,b32,b9,b13,b10,b95,g97,g65,l90,g48,l57]
 (refine Qc QwH (.keep (.v _)) ⟨by rw[e0],rfl⟩)
theorem QsC(c:Int)(hc:c=96):Pure Tryz.prog 185 [.v (.int .u8 c)] (.i (clsN c)):=by
 intro h
 have e0:clsN c=0:=by simp only[clsN];repeat' (first|rw[QwN (by omega)]|rw[QwJ (by omega)])
 have b32:(c==32)=false:=by simp;omega
 have b9:(c==9)=false:=by simp;omega
 have b13:(c==13)=false:=by simp;omega
 have b10:(c==10)=false:=by simp;omega
 have b95:(c==95)=false:=by simp;omega
 have g97:¬97<=c:=by omega
 have l122:c<=122:=by omega
 have g65:65<=c:=by omega
 have l90:¬c<=90:=by omega
 have g48:48<=c:=by omega
 have l57:¬c<=57:=by omega
 refine Qb Tryz.func185 rfl Tryz.call185 Tryz.ntmps185 Tryz.results185 (by simp) ?_
 repeat refine Qn ?_;simp only[go_sem,seval,b32,b9,b13,b10,b95,g97,g65,l90,g48,l57]
 (refine Qc QwH (.keep (.v _)) ⟨by rw[e0],rfl⟩)
theorem QsD(c:Int)(hc:122<c):Pure Tryz.prog 185 [.v (.int .u8 c)] (.i (clsN c)):=by
 intro h
 have e0:clsN c=0:=by simp only[clsN];repeat' (first|rw[QwN (by omega)]|rw[QwJ (by omega)])
 have b32:(c==32)=false:=by simp;omega
 have b9:(c==9)=false:=by simp;omega
 have b13:(c==13)=false:=by simp;omega
 have b10:(c==10)=false:=by simp;omega
 have b95:(c==95)=false:=by simp;omega
 have g97:97<=c:=by omega
 have l122:¬c<=122:=by omega
 have g65:65<=c:=by omega
 have l90:¬c<=90:=by omega
 have g48:48<=c:=by omega
 have l57:¬c<=57:=by omega
 refine Qb Tryz.func185 rfl Tryz.call185 Tryz.ntmps185 Tryz.results185 (by simp) ?_
 repeat refine Qn ?_;simp only[go_sem,seval,b32,b9,b13,b10,b95,g97,l122,g65,l90,g48,l57]
 (refine Qc QwH (.keep (.v _)) ⟨by rw[e0],rfl⟩)
theorem Qdm(c:Int):Pure Tryz.prog 185 [.v (.int .u8 c)] (.i (clsN c)):=by
 have hcs:c=32\/c=9\/c=13\/c=10\/97<=c/\c<=122\/65<=c/\c<=90\/c=95\/48<=c/\c<=57\/c<48/\c≠32/\c≠9/\c≠13/\c≠10\/58<=c/\c<=64\/91<=c/\c<=94\/c=96\/122<c:=by omega
 rcases hcs with h|h|h|h|h|h|h|h|h|h|h|h|h
 ·exact QtD c h
 ·exact QtE c h
 ·exact QtF c h
 ·exact QtG c h
 ·exact QtH c h
 ·exact QtI c h
 ·exact QtJ c h
 ·exact QtK c h
 ·exact QtL c h
 ·exact QtM c h
 ·exact QsB c h
 ·exact QsC c h
 ·exact QsD c h
end Go.Proofs.YtenheconhibonaaGreatDoor.Ab
namespace Go.Proofs.YtenheconhibonaaGreatDoor.Ab
open Go.Proofs
theorem Xk(l:List UInt8):(mkB l).size=l.length:=by show l.toArray.size=_;simp
theorem Qou(l:List UInt8):(mkB l).data.toList=l:=by simp[mkB]
theorem QlI(s:ByteArray):mkB s.data.toList=s:=Qlc (by rw[Qou])
theorem Qha(l:List UInt8):(mkB l).toList=l:=by rw[Lib.toList_data,Qou]
theorem Qbf(l:List UInt8)(i:Nat)(h:i<l.length):byteAt (mkB l) i=((l[i]).toNat:Nat):=by
 unfold byteAt;rw[Qou,Qxe,QwK h];rfl
theorem QnI(c:UInt8):(clsN (c.toNat:Nat)==1)=isSp c:=by
 unfold clsN isSp
 by_cases h:((c.toNat:Nat):Int)=32\/((c.toNat:Nat):Int)=9\/((c.toNat:Nat):Int)=13\/((c.toNat:Nat):Int)=10
 ·rw[QwN h,Qw7 (by omega)];rfl
 ·rw[QwJ h,QwY (by omega)]
  repeat' split
  all_goals rfl
theorem QsA(c:UInt8):(2<=clsN (c.toNat:Nat))↔isW c=true:=by
 have hc:=c.toNat_lt
 unfold clsN isW isL isD
 simp only[Qxx,Qw1]
 repeat' split
 all_goals omega
theorem QnH(c:UInt8):(4<=clsN (c.toNat:Nat))↔isD c=true:=by
 have hc:=c.toNat_lt
 unfold clsN isD
 simp only[Qw1]
 repeat' split
 all_goals omega
theorem drop_cons{l:List UInt8}{k:Nat}(h:k<l.length):l.drop k=l[k]::l.drop (k+1):=QwU h
section
variable(l:List UInt8)(hl:l.length<=16384)
include hl
theorem Qjx(p:UInt8->Bool)(least:Int)(hcl:∀c:UInt8,(least<=clsN (c.toNat:Nat))↔p c=true)(k:Nat)(hk:k<=l.length) :
  Pure Tryz.prog 186 [.v (.string (mkB l)),.i k,.i least] (.i ((k+((l.drop k).takeWhile p).length:Nat):Int)):=by
 intro h
 have hsl:=fun b=>ZU Tryz.prog 9 3 (by kernel_rfl) b
 refine Qb Tryz.func186 rfl Tryz.call186 Tryz.ntmps186 Tryz.results186 (by simp) ?_
 repeat refine Qn ?_;simp only[go_sem,seval]
 obtain⟨I,hI⟩:∃I:Nat->AS->Prop,I=fun m' s=>∃j:Nat,m'=l.length - j/\j<=l.length/\j+((l.drop j).takeWhile p).length=k+((l.drop k).takeWhile p).length/\s.tm 0 = .v (.string (mkB l))/\s.tm 1 = .i j/\s.tm 2 = .i least/\s.h=h:=⟨_,rfl⟩;refine QZ I ?_ (m:=l.length - k) ?_
 ·intro m' s hs;rw[hI]at hs;obtain⟨tm,hp⟩:=s;dsimp only at hs;obtain⟨j,rfl,hj,he,t0,t1,t2,rfl⟩:=hs
  by_cases hlt:j<l.length
  ·have z1:(((j:Nat):Int)<((l.length:Nat):Int)):=by omega
   have hix:=QaH Tryz.prog 9 (by kernel_rfl) (mkB l) j (by rw[Xk];exact hlt)
   rw[Qbf l j hlt]at hix
   have cp:=Qdm (((l[j]).toNat:Nat):Int)
   rw[drop_cons hlt,Qym]at he
   by_cases hc:p l[j]=true
   ·rw[QwN hc,Qv2]at he
    have z2:least<=clsN (((l[j]).toNat:Nat):Int):=(hcl _).2 hc
    repeat (first|refine Qy cp ?_|refine Qn ?_);simp only[go_sem,seval,t0,t1,t2,hsl,Xk,z1,hix,z2]
    refine Xo.mk (m':=l.length - (j+1)) (by omega) ?_
    rw[hI]
    refine⟨j+1,rfl,hlt,by omega,t0,?_,t2,rfl⟩
    simp only[upd,↓reduceIte]
    rw[Xe (by omega)]
   ·rw[QwJ hc,Qv3]at he
    have z2:¬least<=clsN (((l[j]).toNat:Nat):Int):=fun q=>hc ((hcl _).1 q)
    repeat (first|refine Qy cp ?_|refine Qn ?_);simp only[go_sem,seval,t0,t1,t2,hsl,Xk,z1,hix,z2]
    exact Qc QwH (.keep (.v _)) ⟨by rw[<-he];rfl,rfl⟩
  ·have hjl:j=l.length:=by omega
   have z1:¬(((j:Nat):Int)<((l.length:Nat):Int)):=by omega
   rw[hjl,Qxb]at he
   repeat refine Qn ?_;simp only[go_sem,seval,t0,t1,hsl,Xk,z1]
   exact Qc QwH (.keep (.v _)) ⟨by rw[<-he,hjl];rfl,rfl⟩
 ·rw[hI]
  exact⟨k,rfl,hk,rfl,rfl,rfl,rfl,rfl⟩
theorem QmZ(k:Nat)(hk:k<=l.length):Pure Tryz.prog 178 [.v (.string (mkB l)),.i k] (.i ((l.length - (XP false (l.drop k)).length:Nat):Int)):=by
 intro h
 have hsl:=fun b=>ZU Tryz.prog 9 3 (by kernel_rfl) b
 refine Qb Tryz.func178 rfl Tryz.call178 Tryz.ntmps178 Tryz.results178 (by simp) ?_
 repeat refine Qn ?_;simp only[go_sem,seval]
 obtain⟨I,hI⟩:∃I:Nat->AS->Prop,I=fun m' s=>∃j:Nat,m'=l.length - j/\j<=l.length/\XP false (l.drop j)=XP false (l.drop k)/\s.tm 0 = .v (.string (mkB l))/\s.tm 1 = .i j/\s.h=h:=⟨_,rfl⟩;refine QZ I ?_ (m:=l.length - k) ?_
 ·intro m' s hs;rw[hI]at hs;obtain⟨tm,hp⟩:=s;dsimp only at hs;obtain⟨j,rfl,hj,he,t0,t1,rfl⟩:=hs
  by_cases hlt:j<l.length
  ·have z1:(((j:Nat):Int)<((l.length:Nat):Int)):=by omega
   have hix:=QaH Tryz.prog 9 (by kernel_rfl) (mkB l) j (by rw[Xk];exact hlt)
   rw[Qbf l j hlt]at hix
   have cp:=Qdm (((l[j]).toNat:Nat):Int)
   have hd:=drop_cons hlt
   rw[hd,XP]at he
   by_cases hc:isSp l[j]=true
   ·rw[QwN hc]at he
    have z2:(clsN (((l[j]).toNat:Nat):Int)==1)=true:=by rw[QnI];exact hc
    repeat (first|refine Qy cp ?_|refine Qn ?_);simp only[go_sem,seval,t0,t1,hsl,Xk,z1,hix,z2]
    refine Xo.mk (m':=l.length - (j+1)) (by omega) ?_
    rw[hI]
    refine⟨j+1,rfl,hlt,he,t0,?_,rfl⟩
    simp only[upd,↓reduceIte]
    rw[Xe (by omega)]
   ·rw[QwJ hc]at he
    have z2:(clsN (((l[j]).toNat:Nat):Int)==1)=false:=by rw[QnI];simpa using hc
    by_cases h35:(l[j]).toNat=35
    ·rw[QwN h35]at he
     have z3:((((l[j]).toNat:Nat):Int)==35)=true:=by rw[h35];rfl
     have hI0:=hI
     repeat (first|refine Qy cp ?_|refine Qn ?_);simp only[go_sem,seval,t0,t1,hsl,Xk,z1,hix,z2,z3]
     obtain⟨I,hI⟩:∃I:Nat->AS->Prop,I=fun m' s=>∃i:Nat,m'=l.length - i/\i<=l.length/\j<=i/\(i=j\/XP true (l.drop i)=XP false (l.drop k))/\s.tm 0 = .v (.string (mkB l))/\s.tm 1 = .i i/\s.h=hp:=⟨_,rfl⟩;refine QZ I ?_ (m:=l.length - j) ?_
     ·intro m' s hs;rw[hI]at hs;obtain⟨tm,hp⟩:=s;dsimp only at hs;obtain⟨i,rfl,hi,hji,he2,u0,u1,rfl⟩:=hs
      by_cases hlt2:i<l.length
      ·have y1:(((i:Nat):Int)<((l.length:Nat):Int)):=by omega
       have hix2:=QaH Tryz.prog 9 (by kernel_rfl) (mkB l) i (by rw[Xk];exact hlt2)
       rw[Qbf l i hlt2]at hix2
       have hd2:=drop_cons hlt2
       by_cases h10:(l[i]).toNat=10
       ·have y2:((((l[i]).toNat:Nat):Int) != 10)=false:=by rw[h10];rfl
        have hne:i≠j:=by rintro rfl;omega
        have he3:=he2.resolve_left hne
        rw[hd2,XP,QwN h10]at he3
        repeat refine Qn ?_;simp only[go_sem,seval,u0,u1,hsl,Xk,y1,hix2,y2]
        refine Xo.mk (m':=l.length - i) (by omega) ?_
        rw[hI0]
        refine⟨i,rfl,hi,?_,u0,u1,rfl⟩
        rw[hd2,XP,QwN (show isSp l[i]=true by unfold isSp;exact Qw7 (by omega))];exact he3
       ·have y2:((((l[i]).toNat:Nat):Int) != 10)=true:=by simpa using fun e=>h10 (by omega)
        repeat refine Qn ?_;simp only[go_sem,seval,u0,u1,hsl,Xk,y1,hix2,y2]
        refine Xo.mk (m':=l.length - (i+1)) (by omega) ?_
        rw[hI]
        refine⟨i+1,rfl,hlt2,by omega,.inr ?_,u0,?_,rfl⟩
        ·rcases he2 with rfl|he2
         ·exact he
         ·rw[hd2,XP,QwJ h10]at he2;exact he2
        ·simp only[upd,↓reduceIte]
         rw[Xe (by omega)]
      ·have hil:i=l.length:=by omega
       have y1:¬(((i:Nat):Int)<((l.length:Nat):Int)):=by omega
       have hne:i≠j:=by omega
       have he3:=he2.resolve_left hne
       repeat refine Qn ?_;simp only[go_sem,seval,u0,u1,hsl,Xk,y1]
       refine Xo.mk (m':=l.length - i) (by omega) ?_
       rw[hI0]
       refine⟨i,rfl,hi,?_,u0,u1,rfl⟩
       rw[hil,Qxb]at he3 ⊢
       rw[<-he3,XP,XP]
     ·rw[hI]
      exact⟨j,rfl,hj,QwP _,.inl rfl,t0,t1,rfl⟩
    ·rw[QwJ h35]at he
     have z3:((((l[j]).toNat:Nat):Int)==35)=false:=by simpa using fun e=>h35 (by omega)
     repeat (first|refine Qy cp ?_|refine Qn ?_);simp only[go_sem,seval,t0,t1,hsl,Xk,z1,hix,z2,z3]
     exact Qc QwH (.keep (.v _)) ⟨by rw[<-he,Qv2,Qxi];congr 3;omega,rfl⟩
  ·have hjl:j=l.length:=by omega
   have z1:¬(((j:Nat):Int)<((l.length:Nat):Int)):=by omega
   rw[hjl,Qxb,XP]at he
   repeat refine Qn ?_;simp only[go_sem,seval,t0,t1,hsl,Xk,z1]
   exact Qc QwH (.keep (.v _)) ⟨by rw[<-he,hjl];rfl,rfl⟩
 ·rw[hI]
  exact⟨k,rfl,hk,rfl,rfl,rfl,rfl⟩
end
end Go.Proofs.YtenheconhibonaaGreatDoor.Ab
namespace Go.Proofs.YtenheconhibonaaGreatDoor.Ab
open Go.Proofs
theorem QfW(l:List UInt8)(c:UInt8):numVal (l++[c])=10 * numVal l+(c.toNat - 48):=by simp[numVal,List.foldl_append]
theorem QoB(l:List UInt8):∀m:List UInt8,numVal l<=numVal (l++m):=by
 intro m
 induction m generalizing l with
 |nil=>rw[Qwi];exact QwP _
 |cons c m ih =>
  have h1:=ih (l++[c])
  rw[QwM]at h1
  have h2:=QfW l c
  show numVal l<=numVal (l++([c]++m))
  omega
theorem QfX{l:List UInt8}{p:Nat}(h:p<l.length):numVal (l.take (p+1))=10 * numVal (l.take p)+((l[p]).toNat - 48)/\numVal (l.take (p+1))<=numVal l:=by
 refine⟨by rw[Qxq h,QfW],?_⟩
 have:=QoB (l.take (p+1)) (l.drop (p+1))
 rwa [QxI]at this
theorem wrap32{n:Int}(h : -2147483648<=n/\n<=2147483647):IntKind.i32.wrap n=n:=IntWalk.i32_in n h
theorem Qs8(n:Int)(hn:0<=n/\n<256):pv Tryz.prog (convert 21 3 (.int .i32 n))=some (.int .i64 n):=by
 have:pv Tryz.prog (convert 21 3 (.int .i32 n))=some (.int .i64 (IntKind.i64.wrap n)):=by kernel_rfl
 rw[this,Yg (by omega)]
theorem Qjp(l:List UInt8)(hd:∀c∈l,isD c=true)(hv:numVal l<=2147483648):Pure Tryz.prog 120 [.v (.string (mkB l))] (.i (numVal l:Nat)):=by
 intro h
 refine Qb Tryz.func120 rfl Tryz.call120 Tryz.ntmps120 Tryz.results120 (by simp) ?_
 repeat refine Qn ?_;simp only[go_sem,seval]
 obtain⟨I,hI⟩:∃I:Nat->AS->Prop,I=fun m' s=>∃(p:Nat),m'=l.length - p/\p<=l.length/\s.tm 3 = .i (numVal (l.take p):Nat)/\s.tm 7 = .mp h.length/\s.h=h++[.iter (mkB l) p]:=⟨_,rfl⟩;refine QZ I ?_ (m:=l.length) ?_
 ·intro m' s hs;rw[hI]at hs;obtain⟨tm,hp⟩:=s;dsimp only at hs;obtain⟨p,rfl,hp',t3,t7,rfl⟩:=hs
  by_cases hlt:p<l.length
  ·have hc:=hd l[p] (Qxk hlt)
   have hcd:48<=(l[p]).toNat/\(l[p]).toNat<=57:=by unfold isD at hc;simpa using hc
   have hby:=Qbf l p hlt
   obtain⟨d1,d2⟩:=decode_ascii (s:=mkB l) (i:=p) (by rw[hby];omega)
   rw[hby]at d1
   obtain⟨n1,n2⟩:=QfX hlt
   generalize hn:numVal (l.take p)=v at *
   have w1:IntKind.i64.wrap (10 * ((v:Nat):Int))=((10 * v:Nat):Int):=by rw[Yg (by omega)];omega
   have w2:IntKind.i32.wrap ((((l[p]).toNat:Nat):Int) - 48)=(((l[p]).toNat - 48:Nat):Int):=by rw[wrap32 (by omega)];omega
   have w3:=Qs8 (((l[p]).toNat - 48:Nat):Int) (by omega)
   have w4:IntKind.i64.wrap (((10 * v:Nat):Int)+(((l[p]).toNat - 48:Nat):Int))=((numVal (l.take (p+1)):Nat):Int):=by rw[Yg (by omega)];omega
   have z1:p<(mkB l).size:=by rw[Xk];exact hlt
   repeat refine Qn ?_;simp only[go_sem,seval,t3,t7,z1,d1,d2,w1,w2,w3,w4]
   refine Xo.mk (m':=l.length - (p+1)) (by omega) ?_
   rw[hI]
   exact⟨p+1,rfl,hlt,rfl,t7,rfl⟩
  ·have z1:¬p<(mkB l).size:=by rw[Xk];exact hlt
   have e:l.take p=l:=Qyq (by omega)
   rw[e]at t3
   repeat refine Qn ?_;simp only[go_sem,seval,t3,t7,z1]
   (refine Qc (htake _ _) (.keep (.v _)) ⟨rfl,rfl⟩)
 ·rw[hI]
  exact⟨0,rfl,Qw3 _,rfl,rfl,rfl⟩
abbrev lf(k i:Int):AV:=.agg [.v (.int .i64 k),.v (.int .i64 i),.v (.string {data:=#[]}),.v (.slice none 0 0)]
theorem Qds(n:Nat)(k i:Int):Below n (lf k i):=.agg _ fun a ha=>by
 simp only[QwS,Qw4,QxK]at ha
 rcases ha with rfl|rfl|rfl|rfl <;> exact .v _
theorem Qls(n:Int):Pure Tryz.prog 188 [.i n] (lf 0 n):=by
 intro h
 refine Qb Tryz.func188 rfl Tryz.call188 Tryz.ntmps188 Tryz.results188 (by simp) ?_
 repeat refine Qn ?_;simp only[go_sem,seval]
 exact Qc (htake _ _) (.keep (Qds _ _ _)) ⟨rfl,rfl⟩
theorem QjQ(n:Int):Pure Tryz.prog 191 [.i n] (lf 1 n):=by
 intro h
 refine Qb Tryz.func191 rfl Tryz.call191 Tryz.ntmps191 Tryz.results191 (by simp) ?_
 repeat refine Qn ?_;simp only[go_sem,seval]
 exact Qc (htake _ _) (.keep (Qds _ _ _)) ⟨rfl,rfl⟩
end Go.Proofs.YtenheconhibonaaGreatDoor.Ab
namespace Go.Proofs.YtenheconhibonaaGreatDoor.Ab
open Go.Proofs
def phx(h:AH)(P:Pz)(a b c:AB):AH:=((h.set P.i a).set P.j b).set P.g c
section
variable{h:AH}{P:Pz}(H:P.ok h)
include H
theorem QbT(a b c:AB):(phx h P a b c).length=h.length:=by have _u:=H;simp[phx]
theorem Qua(a b c:AB)(L:AH):(phx h P a b c++L)[P.i]? = some a:=by
 rw[QwI (by rw[QbT H];exact H.i)]
 unfold phx
 rw[QwL (Qya H.ig),QwL (Qya H.ij),QwR H.i]
theorem Qub(a b c:AB)(L:AH):(phx h P a b c++L)[P.j]? = some b:=by
 rw[QwI (by rw[QbT H];exact H.j)]
 unfold phx
 rw[QwL (Qya H.jg),QwR (by simpa using H.j)]
theorem Qt9(a b c:AB)(L:AH):(phx h P a b c++L)[P.g]? = some c:=by
 rw[QwI (by rw[QbT H];exact H.g)]
 unfold phx
 rw[QwR (by simpa using H.g)]
theorem Qs6(a b c a':AB)(L:AH):(phx h P a b c++L).set P.i a'=phx h P a' b c++L:=by
 rw[Qw2 _ _ (by rw[QbT H];exact H.i)]
 unfold phx
 rw[QyD _ _ (Qya H.ig),QyD _ _ (Qya H.ij),Qyw]
theorem Qs7(a b c b':AB)(L:AH):(phx h P a b c++L).set P.j b'=phx h P a b' c++L:=by
 rw[Qw2 _ _ (by rw[QbT H];exact H.j)]
 unfold phx
 rw[QyD _ _ (Qya H.jg),Qyw]
theorem Qs5(a b c c':AB)(L:AH):(phx h P a b c++L).set P.g c'=phx h P a b c'++L:=by
 rw[Qw2 _ _ (by rw[QbT H];exact H.g)]
 unfold phx
 rw[Qyw]
theorem Qqp(a b c:AB)(L:AH):(phx h P a b c++L)[h.length]? = L[0]? := by rw[<-QbT H a b c];exact Q8 _ _
theorem QoL(a b c y:AB)(L:AH):(phx h P a b c++L).set h.length y=phx h P a b c++L.set 0 y:=by rw[<-QbT H a b c];exact Yd _ _ _
end
theorem Qjs(h:AH)(P:Pz)(s:PS):ph h P s=phx h P (.cells 117 4 [.agg [.sl 3 (tks P.all) none,.i ((P.all.length - s.toks.length:Nat):Int),.sl 1 (strs s.names) (some P.g),.mp P.j]]) (.map (smap (kn s.names))) (.grow 9 1 s.names.length):=rfl
theorem Qmz{names:List ByteArray}{x:ByteArray}(h:¬(nameAt names x<names.length/\x.toList≠[95])):kn (names++[x])=supd x (.i (names.length:Nat)) (kn names):=by
 rw[Qoi]
 unfold Qg6
 rw[QwJ]
 rintro⟨h1,h2⟩
 simp only at h1 h2
 rw[Qlu x h1 _ names rfl]at h2
 by_cases h3:nameAt names x<names.length
 ·exact h ⟨h3,h1⟩
 ·rw[QwJ h3]at h2;cases h2
theorem Qsm(n:Nat)(x:ByteArray)(s:PS):(pVari x s).1.lv n=lf 1 (pVari x s).1.int/\(pVari x s).1.args=[]:=by unfold pVari;split <;> exact⟨rfl,rfl⟩
section
variable{P:Pz}{s:PS}(hW:Wst P.all s){h:AH}(H:P.ok h)(hN:P.all.length<=1000000)
include hW H hN
theorem Qin(x:ByteArray):QT Tryz.prog 189 [.ptr P.i 0 0,.v (.string x)] (ph h P s) fun o h'=>o = .ret (lf 1 (pVari x s).1.int)/\h'=ph h P (pVari x s).2:=by
 have f1:=QbT H
 have f2:=Qua H
 have f3:=Qub H
 have f4:=Qt9 H
 have f5:=Qs6 H
 have f6:=Qs7 H
 have f7:=Qs5 H
 have f8:=Qqp H
 have f9:=QoL H
 have hfind:=QiV x (kn s.names)
 have hn:=hW.nms
 have hupd:=Ql3 x
 by_cases hc:nameAt s.names x<s.names.length/\x.toList≠[95]
 ·rw[Qlu x hc.2 _ s.names rfl,QwN hc.1]at hfind
  have z1:(x.toList==({data:=#[95]}:ByteArray).toList)=false:=by
   rw[Lib.toList_data {data:=#[95]}];simpa using hc.2
  have cv:=QjQ (nameAt s.names x:Nat)
  have hv:pVari x s=(.mk 1 (nameAt s.names x:Nat) eB [],s):=by unfold pVari;rw[QwN hc]
  rw[hv]
  refine Qb Tryz.func189 rfl Tryz.call189 Tryz.ntmps189 Tryz.results189 (by simp) ?_
  rw[Qjs]
  repeat (first|refine Qy cv ?_|refine Qn ?_);simp only[go_sem,seval,f1,f2,f3,f8,f9,hfind,z1]
  exact XB H (s:=s) (s':=s) (.keep (Qds _ _ _)) ⟨rfl,rfl⟩
 ·have hv:pVari x s=(.mk 1 (s.names.length:Nat) eB [],⟨s.toks,s.names++[x]⟩):=by unfold pVari;rw[QwJ hc]
  have hkn:=Qmz hc
  have cv:=QjQ (s.names.length:Nat)
  have hm:(s.names.length+1) * 16<=140737488355328:=by omega
  have hm2:s.names.length+1<=maxLen:=by simp only[maxLen];omega
  rw[hv]
  cases hg:sget x (kn s.names)with
  |none =>
   rw[hg]at hfind
   refine Qb Tryz.func189 rfl Tryz.call189 Tryz.ntmps189 Tryz.results189 (by simp) ?_
   rw[Qjs]
   repeat (first|refine Qy cv ?_|refine Qn ?_);simp only[go_sem,seval,f1,f2,f3,f4,f5,f6,f7,f8,f9,hfind,ZW,hm,hm2,hupd]
   have es:ph h P ⟨s.toks,s.names++[x]⟩=phx h P (.cells 117 4 [.agg [.sl 3 (tks P.all) none,.i ((P.all.length - s.toks.length:Nat):Int),.sl 1 (strs s.names++[.v (.string x)]) (some P.g),.mp P.j]]) (.map (smap (supd x (.i (s.names.length:Nat)) (kn s.names)))) (.grow 9 1 (s.names.length+1)):=by
    rw[Qjs,hkn,Qdc,QwG];rfl
   rw[<-es]
   exact XB H (s:=s) (s':=⟨s.toks,s.names++[x]⟩) (.keep (Qds _ _ _)) ⟨rfl,rfl⟩
  |some v =>
   have hx:x.toList=[95]:=by
    by_cases e:x.toList=[95]
    ·exact e
    ·rw[Qlu x e _ s.names rfl]at hg
     by_cases h3:nameAt s.names x<s.names.length
     ·exact absurd ⟨h3,e⟩ hc
     ·rw[QwJ h3]at hg;cases hg
   have z1:(x.toList==({data:=#[95]}:ByteArray).toList)=true:=by
    rw[Lib.toList_data {data:=#[95]}];simpa using hx
   rw[hg]at hfind
   refine Qb Tryz.func189 rfl Tryz.call189 Tryz.ntmps189 Tryz.results189 (by simp) ?_
   rw[Qjs]
   repeat (first|refine Qy cv ?_|refine Qn ?_);simp only[go_sem,seval,f1,f2,f3,f4,f5,f6,f7,f8,f9,hfind,z1,ZW,hm,hm2,hupd]
   have es:ph h P ⟨s.toks,s.names++[x]⟩=phx h P (.cells 117 4 [.agg [.sl 3 (tks P.all) none,.i ((P.all.length - s.toks.length:Nat):Int),.sl 1 (strs s.names++[.v (.string x)]) (some P.g),.mp P.j]]) (.map (smap (supd x (.i (s.names.length:Nat)) (kn s.names)))) (.grow 9 1 (s.names.length+1)):=by
    rw[Qjs,hkn,Qdc,QwG];rfl
   rw[<-es]
   exact XB H (s:=s) (s':=⟨s.toks,s.names++[x]⟩) (.keep (Qds _ _ _)) ⟨rfl,rfl⟩
end
end Go.Proofs.YtenheconhibonaaGreatDoor.Ab
namespace Go.Proofs.YtenheconhibonaaGreatDoor.Ab
open Go.Proofs
theorem FunW.meth{P:Program}{f:FuncId}{x:AV}{h:AH}{Q:AOut->AH->Prop}(H:QT P f [x] h Q):FunW P (.fn (.func f) [x] []) [] h Q:=FunW.fn H
def TQ(h:AH)(P:Pz):PR T->AOut->AH->Prop
 | .ok t s,o,h'=>o = .ret (t.lv h.length)/\h'=ph h P s++t.lay 69 h.length
 | .err p e,o,h'=>o = .panic (Fl p e)/\∃s,h'=ph h P s
def CQ(g:Nat)(h:AH)(P:Pz):PR T->AOut->AH->Prop
 | .ok t s,o,h'=>o = .ret (t.lv (h.length+g))/\∃N,h'=ph h P s++N/\At N g (t.lay 69 (h.length+g))
 | .err p e,o,h'=>o = .panic (Fl p e)/\∃s,h'=ph h P s
def TRd(P:Pz)(f:FuncId)(g:PS->PR T)(N:Nat):Prop:=∀s:PS,s.toks.length<N->Wst P.all s->∀h:AH,P.ok h->QT Tryz.prog f [.ptr P.i 0 0] (ph h P s) (TQ h P (g s))
theorem Qe4{P:Pz}{f:FuncId}{args:List AV}{h:AH}{s:PS}(H:P.ok h)(g:Nat){r:PR T}(C:QT Tryz.prog f args (ph h P s) (CQ g h P r)):QT Tryz.prog f args (ph h P s) (TQ h P r):=by
 refine Qbv C fun hb0 o h' hQ=>?_
 cases r with
 |err p e=>exact .inl hQ
 |ok t s2 =>
  obtain⟨rfl,N,rfl,hN⟩:=hQ
  rw[Xm]at hb0 ⊢
  have hb:∀b∈ph h P s2,b.Below h.length:=fun b hb=>by
   obtain⟨k,hk⟩:=ZT hb
   rcases QcJ H (s0:=s) hk with h1|h1
   ·exact hb0 k b h1
   ·exact h1
  obtain⟨K,hk⟩:=Qt6 (Xm h P s2) hb g t hN
  exact .inr ⟨_,_,_,_,rfl,K,hk,rfl,rfl⟩
section
variable{P:Pz}{f:FuncId}{g:PS->PR T}{N:Nat}(HR:TRd P f g N){s:PS}(hs:s.toks.length<N)(hW:Wst P.all s){h:AH}(H:P.ok h)
include HR hs hW H
theorem TRd.ok{t:T}{s2:PS}(e:g s = .ok t s2)(L:AH){k:Nat}(hk:k=h.length+L.length):QT Tryz.prog f [.ptr P.i 0 0] (ph h P s++L) fun o h'=>o = .ret (t.lv k)/\h'=ph h P s2++(L++t.lay 69 k):=by
 have:=HR s hs hW (h++L) (H.app L)
 rw[Xr H,e]at this
 subst hk
 exact this.mono fun o h' q=>by simpa only[TQ,Xr H,QwG,QwM]using q
theorem TRd.err{p c:Int}(e:g s = .err p c)(L:AH):QT Tryz.prog f [.ptr P.i 0 0] (ph h P s++L) fun o h'=>o = .panic (Fl p c)/\∃s2:PS,h'=ph h P s2++L:=by
 have:=HR s hs hW (h++L) (H.app L)
 rw[Xr H,e]at this
 exact this.mono fun o h' q=>by simpa only[TQ,Xr H]using q
end
theorem QsM{s:PS}{b:ByteArray}(h:s.is b.toList=true):s.tk.text=b:=by
 simp only[PS.is,QwQ,QxL]at h
 exact toList_inj h.2
theorem Xj{h:AH}{P:Pz}(H:P.ok h)(s s2:PS)(p e:Int)(L:AH){Q:AOut->AH->Prop}(hq:Q (.panic (Fl p e)) (ph h P s2)):Leaves (ph h P s) (ph h P s2++L) (Fl p e) fun v h'=>Q (.panic v) h' :=
 XB H (s:=s) (s':=s2) (.keep (QcC _ _ _)) hq
end Go.Proofs.YtenheconhibonaaGreatDoor.Ab
namespace Go.Proofs.YtenheconhibonaaGreatDoor.Ab
theorem QqW{S:Nat->Bool}:∀{l:List Tr} {f:AH},(∀t∈l,t.c<2)->hS S l f=f
 |l,f,H=>Qa3 fun t ht h2=>by have:=H t ht;omega
theorem QpD{P:Program}{N:Nat}{base:Bs×Fence}{ops:Array Oper}{F:Fence}{n:Nat}(hF:WF F){Qx:Exit->Act->World->Prop}{x:Nat}{ox:Oper}{f:Operand}{asx:Array Operand}{tys:Array TypeId}(hox:ops[x]? = some ox)
  (hop:ox.op = .call ⟨.value f,asx,tys⟩) {tr:List Tr} {tm0:Nat->AV} {h0:AH} (hruns:Runs P N ops tr tm0 h0) (hlow:∀t∈tr,t.c<2) (hxt:∀t∈tr,t.i≠x)
  (hpw:tr.Pairwise (fun a b=>clash ops a.o b.o a.c b.c=true->Anc ops a.i b.i)) (hnd:(tr.map (·.i)).Nodup) (hkind:∀t∈tr,kindOk t.o t.c=true)
  (hrd:∀t∈tr,∀d,t.o.dst=some d->d∈readsOf ops ox->Anc ops t.i x) (hall:∀i,i<ops.size->(∃t∈tr,t.i=i)\/i=x\/Anc ops x i) (htopo:topo ops [] (tr.map (fun t=>(t.i,t.c))++[(x,1)])=true)
  (haw:Qk ops (tmS N (fun _=>true) tr tm0) ox=some true) {G:AV->AH->Prop} (H:FunW P (AS.ev ⟨tmS N (fun _=>true) tr tm0,[]⟩ f) (asx.toList.map (AS.ev ⟨tmS N (fun _=>true) tr tm0,[]⟩)) h0 (fun o h'=>∃v,o = .panic v/\G v h')) :
  ∀(fuel:Nat) (listed:Array Bool) (c:Cx) (a:Act),listed.size=ops.size->Down ops (fun i=>listed.getD i false)->listed.getD x false=false->St c->SR N base c ⟨tmS N (fun i=>listed.getD i false) tr tm0,h0⟩ a ->
   tr.countP (fun t=>!listed.getD t.i false)<fuel ->
   (∀tm' v h' c' a' u,G v h'->Ev c c'->St c'->SR N base c' ⟨tm',h'⟩ a'->Rel c' v u->Qx (.panic [{v:=u,recovered:=false}]) a' c'.w)->wpAnyIn F n P .any ops Qx fuel listed a c.w:=by
 intro fuel
 induction fuel with
 |zero=>intro listed c a hsz hd hx hst hr hc hQ;omega
 |succ fuel ih =>
  intro listed c a hsz hd hx hst hr hc hQ
  refine⟨fun h=>?_,fun i hi=>?_⟩
  ·exfalso
   have:=QdO hsz h _ [] htopo (fun i hi=>by cases hi) (x,1) (Qx5 _ (by simp))
   simp only at this
   rw[hx]at this;cases this
  have hi':=hi
  obtain⟨h1,o,ho,_⟩:=mem_ready.1 hi'
  have hlt:i<ops.size:=(QwX.1 ho).1
  have hd':=Qfx hsz hd hi
  by_cases hix:i=x
  ·subst hix
   rw[hox]at ho;cases ho
   -- what it reads is there
   have hreads:∀y∈readsOf ops ox,tmS N (fun i=>listed.getD i false) tr tm0 y=tmS N (fun _=>true) tr tm0 y:=fun y hy=>Qax rfl fun t ht hd=>by
    have ha:=hrd t ht y hd hy
    have h2:(listed.setIfInBounds i true).getD t.i false=true:=hd'.anc ha (by rw[Qas (by omega)];simp)
    rw[Qas (by omega)]at h2
    by_cases hti:t.i=i
    ·exact absurd hti (hxt t ht)
    ·simpa [hti]using h2
   unfold wpOpIn
   simp only[hox]
   rw[Xt hr (by rw[Qdk (tm:=tmS N (fun i=>listed.getD i false) tr tm0) (tm':=tmS N (fun _=>true) tr tm0) hreads];exact haw)]
   simp only[QxP]
   have hargs:∀y∈ox.op.operands,AS.ev ⟨tmS N (fun i=>listed.getD i false) tr tm0,[]⟩ y=AS.ev ⟨tmS N (fun _=>true) tr tm0,[]⟩ y:=Qdn hreads
   refine Qcm (K:=fun _=>False) (E:=fun r s'=>G r s'.h) ?_ hF hst hr (fun s' c' a' hs=>hs.elim) ?_
   ·unfold OpW
    simp only[hop]
    have hev:=hargs
    rw[hop]at hev
    have h1':AS.ev ⟨tmS N (fun i=>listed.getD i false) tr tm0,h0⟩ f=AS.ev ⟨tmS N (fun _=>true) tr tm0,[]⟩ f:=(Qb2 _ _ _ _).trans (hev f (by simp[Op.operands,Call.operands]))
    have h2':asx.toList.map (AS.ev ⟨tmS N (fun i=>listed.getD i false) tr tm0,h0⟩)=asx.toList.map (AS.ev ⟨tmS N (fun _=>true) tr tm0,[]⟩):=QxB fun y hy=>(Qb2 _ _ _ _).trans (hev y (by simp[Op.operands,Call.operands,QxY,hy]))
    rw[h1',h2']
    refine H.mono ?_
    rintro o h' ⟨v,rfl,g⟩
    exact g
   ·intro r s' c' u hE hev hst' hr' hru
    obtain⟨tm',h'⟩:=s'
    exact hQ tm' r h' c' a u hE hev hst' hr' hru
  ·have hx':(listed.setIfInBounds i true).getD x false=false:=by rw[Qas (by omega),hx];simp;exact fun e=>hix e.symm
   rcases hall i hlt with⟨t,ht,hti⟩|h|h
   ·have e0:∀S,hS S tr h0=h0:=fun S=>QqW hlow
    refine Qdi hF hruns hpw hnd hkind hi ht hti hsz (fun i j h hj=>hd.anc h hj) (fun i j h hj=>hd'.anc h hj) hst (by rw[e0];exact hr) fun c' a' hev hst' hr'=>?_
    rw[e0]at hr'
    refine ih _ c' a' (by simpa using hsz) hd' hx' hst' hr' ?_ fun tm' v h' c2 a2 u g e2 s2 r2 ru=>hQ tm' v h' c2 a2 u g (Ev.trans hst hev e2) s2 r2 ru
    have:=QdV (fuel:=tr.countP (fun t=>!listed.getD t.i false) - 1) hsz ⟨t,ht,hti⟩ hi (by omega)
    have hpos:0<tr.countP (fun t=>!listed.getD t.i false):=by
     rw[List.countP_pos_iff]
     refine⟨t,ht,?_⟩
     rw[QwW,Qw0 (by omega)]at h1 ⊢
     subst hti
     simpa using h1
    omega
   ·exact absurd h hix
   ·exfalso
    have h2:(listed.setIfInBounds i true).getD x false=true:=hd'.anc h (by rw[Qas (by omega)];simp)
    rw[hx']at h2;cases h2
def Qs3(ops:Array Oper)(x:Nat)(ρ:List (Nat×Nat)):Bool :=
 decide (ρ.length<ops.size)&&Qf5 ops (masks ops.toList []) ρ&&topo ops [] (ρ++[(x,1)])&&QmJ (ρ.map (·.1))&&(ρ.all fun p=>decide (p.2<2)&&!(p.1==x)&&(match ops[p.1]? with|some o=>kindOk o p.2&&(match ops[x]?,o.dst with|some ox,some d=>!(readsOf ops ox).contains d||((masks ops.toList []).getD x 0).testBit p.1|_,_=>true)|none=>false)) &&
 ((List.range ops.size).all fun i=>(ρ.map (·.1)).contains i||i==x||((masks ops.toList []).getD i 0).testBit x)
def callOf(o:Oper):Option (Operand×List Operand):=match o.op with
 | .call ⟨.value f,asx,_⟩=>some (f,asx.toList)
 |_=>none
theorem Yp{P:Program}{N:Nat}{Q:AExit->AS->Prop}{s:AS}{id:Nat}{ops:Array Oper}(x:Nat)(ρ:List (Nat×Nat))(hm:P.follows .mixedOrders=true){ox:Oper}{f:Operand}{asx:List Operand}(hox:ops[x]? = some ox)(hcl:callOf ox=some (f,asx))(hgd:ox.guard=none)
  (hok:Qs3 ops x ρ=true) (G:AV->AH->Prop) (hG:∀tm v h',G v h'->Q (.panic v) ⟨tm,h'⟩)
  (H:AnyW P N ops ρ (fun s'=>s'.h=s.h->FunW P (s'.ev f) (asx.map s'.ev) s'.h (fun o h'=>∃v,o = .panic v/\G v h')) s):XO P N (.region id ops true) Q s:=by
 intro F n base c a hF hst hr R hR
 refine wpIn_region_any hm ?_
 obtain⟨tm,hp⟩:=s
 simp only[Qs3,QwQ]at hok
 obtain⟨⟨⟨⟨⟨hp0,hp1⟩,hp2⟩,hp3⟩,hp4⟩,hp5⟩:=hok
 rw[Qxc]at hp4
 have hk:(ρ.all fun p=>match ops[p.1]? with|some o=>kindOk o p.2|none=>false)=true:=by
  rw[Qxc]
  intro p hp
  have:=hp4 p hp
  simp only[QwQ]at this
  revert this
  cases ops[p.1]? with
  |none=>simp
  |some o=>simp only[QwQ];exact fun h=>h.2.1
 obtain⟨tr,rfl,hruns,hK⟩:=Qb4 H hk
 have hev:Ev c (c.to {c.w with drawn:=c.w.drawn+1}):=Ev.idle hst (Ev.refl c) rfl rfl rfl rfl fun k=>.inl rfl
 have hst':St (c.to {c.w with drawn:=c.w.drawn+1}):=hst.idle rfl fun k o hk=>.inl hk
 have hr':SR N (base,F) (c.to {c.w with drawn:=c.w.drawn+1}) ⟨tm,hp⟩ a:=⟨hr.h,hr.size,Qw8 hr.above hev.size,hr.defers.ev hev,RoundOk.ev hev hr.round,fun t=>(hr.tm t).ev hst hev⟩
 have hops:=QcM hruns
 have hnone:∀j,(Array.replicate ops.size false).getD j false=false:=fun j=>by
  rw[QwW,QxR]
  split <;> rfl
 have hmk:∀(k i:Nat),((masks ops.toList []).getD k 0).testBit i=true->Anc ops i k:=QbE ops.toList [] (fun j o h=>by simpa using h) (fun k i h=>by simp at h)
 have hlow:∀t∈tr,t.c<2:=fun t ht=>by
  have:=hp4 (t.i,t.c) (Qxa.2 ⟨t,ht,rfl⟩)
  simp only[QwQ,Qw1]at this
  exact this.1.1
 have hxt:∀t∈tr,t.i≠x:=fun t ht=>by
  have:=hp4 (t.i,t.c) (Qxa.2 ⟨t,ht,rfl⟩)
  simp only[QwQ,Qyz,QxU]at this
  exact this.1.2
 have hS0:hS (fun _=>true) tr hp=hp:=QqW hlow
 rw[hS0]at hK
 obtain⟨as',tys,hop,rfl⟩:∃(as':Array Operand) (tys:Array TypeId),ox.op = .call ⟨.value f,as',tys⟩/\asx=as'.toList:=by
  unfold callOf at hcl
  split at hcl
  ·rename_i f' as' tys e
   simp only[QvV,Qye]at hcl
   obtain⟨rfl,rfl⟩:=hcl
   exact⟨_,_,e,rfl⟩
  ·cases hcl
 have hF0:=hK rfl
 refine QpD (base:=(base,F)) hF hox hop hruns hlow hxt (Qea hmk tr hp1 hops) ?_ ?_ ?_ ?_ hp2 ?_ (G:=G) ?_ _ _ (c.to {c.w with drawn:=c.w.drawn+1}) a (by simp) ?_ (hnone _) hst' ?_ ?_ ?_
 ·have:=QcG hp3
  rw[QxV]at this
  exact this
 ·intro t ht
  have:=Qxc.1 hk (t.i,t.c) (Qxa.2 ⟨t,ht,rfl⟩)
  simpa [hops t ht]using this
 ·intro t ht d hd hr
  have:=hp4 (t.i,t.c) (Qxa.2 ⟨t,ht,rfl⟩)
  simp only[hops t ht,hox,hd,QwQ,Qxx,Qyz]at this
  rcases this.2.2 with h|h
  ·rw[List.contains_eq_mem,decide_eq_false_iff_not]at h
   exact absurd hr h
  ·exact hmk _ _ h
 ·intro i hi
  have:=Qxc.1 hp5 i (List.mem_range.2 hi)
  simp only[Qxx,QxL]at this
  rcases this with(h|h)|h
  ·have h:i∈(tr.map fun t=>(t.i,t.c)).map (·.1):=by simpa using h
   rw[QxV]at h
   obtain⟨t,ht,rfl⟩:=Qxa.1 h
   exact .inl ⟨t,ht,rfl⟩
  ·exact .inr (.inl h)
  ·exact .inr (.inr (hmk _ _ h))
 ·simp only[Qk,hgd]
 ·rw[Qb2 _ hp [] f]at hF0
  have e2:as'.toList.map (AS.ev ⟨tmS N (fun _=>true) tr tm,hp⟩)=as'.toList.map (AS.ev ⟨tmS N (fun _=>true) tr tm,[]⟩):=QxB fun y _=>Qb2 _ _ _ _
  rw[e2]at hF0
  exact hF0
 ·intro j o ho hj
  simp only at hj
  rw[hnone]at hj;cases hj
 ·have e1:tmS N (fun i=>(Array.replicate ops.size false).getD i false) tr tm=tm:=funext fun x=>ZQ fun t _ h=>by rw[hnone]at h;cases h
  rw[e1];exact hr'
 ·refine Nat.lt_of_le_of_lt List.countP_le_length ?_
  have:=Qyy hp0
  simp only[Qxj]at this;omega
 ·intro tm' v h' c' a' u hg h1 h2 h3 hu
  exact hR _ _ c' a' _ (hG tm' v h' hg) (Ev.trans hst hev h1) h2 h3 ⟨u,rfl,hu⟩
end Go.Proofs.YtenheconhibonaaGreatDoor.Ab
namespace Go.Proofs.YtenheconhibonaaGreatDoor.Ab
open Go.Proofs
theorem Qbr{p:Prop}(h:2=3):p:=by cases h
theorem Qlo(x:ByteArray)(y:AV)(h1:y.cells=[y])(h2:y.cell1=true)(h3:y.isAgg=false)(h:AH)(hb:Below h.length y):QT Tryz.prog 179 [.v (.string x),y] h fun o h'=>o = .ret (.agg [.i 2,.i 0,.v (.string x),y])/\h'=h:=by
 refine Qb Tryz.func179 rfl Tryz.call179 Tryz.ntmps179 Tryz.results179 (by simp) ?_
 repeat refine Qn ?_;simp only[go_sem,seval,h1,h2]
 refine Qc (htake _ _) (.keep (.agg _ fun a ha=>?_)) ⟨rfl,rfl⟩
 simp only[QwS,Qw4,QxK]at ha
 rcases ha with rfl|rfl|rfl|rfl
 ·exact .v _
 ·exact .v _
 ·exact .v _
 ·exact hb
abbrev c6:AB:=.cells 69 4 [.agg [.v (.int .i64 0),.v (.int .i64 0),.v (.string {data:=#[]}),.v (.slice none 0 0)]]
section
variable{P:Pz}{f:FuncId}{g:PS->PR T}{Nn:Nat}(HR:TRd P f g Nn)(hEat:Eat 0 g)(hKp:Kp.Ps (wdOf P.all) g)(opsB:List ByteArray)(hob:opsB.length<=10){s:PS}(hs:s.toks.length<Nn)(hW:Wst P.all s){h:AH}(H:P.ok h)(hN:P.all.length<=1000000)
include HR hEat hKp hs hW H hN hob
theorem QnG:QT Tryz.prog 165 [.ptr P.i 0 0,.fn (.func f) [.ptr P.i 0 0] [],.sl 1 (strs opsB) none] (ph h P s) (CQ 1 h P (XN g (opsB.map ByteArray.toList) s)):=by
 have f1:=Xm h P
 have f3:=X8 h P
 have f4:=YO h P
 have f5:=XD h P
 have f6:=Ye h P
 rw[XN]
 cases hop:g s with
 |err p e =>
  have c1:=fun L=>TRd.err HR hs hW H hop L
  refine Qb Tryz.func165 rfl Tryz.call165 Tryz.ntmps165 Tryz.results165 (by simp) ?_
  with_reducible repeat first|refine Qa fun K E hK hE=>?_;simp only[go_sem,seval,f1]|refine hK _ ?_;clear hK
  refine Qfq 0 (fun _ _=>False) rfl ?_ (fun _ _ hf=>hf.elim)
  refine YX ?_
  with_reducible repeat first|(first|refine Ql fun K E hK hE=>?_|refine FunW.panE (FunW.meth (c1 _)) fun r=>?_);simp only[go_sem,seval]|refine hE _ _ ?_|refine QdN ?_
  exact Xj H s r p e _ ⟨rfl,_,rfl⟩
 |ok a0 s0 =>
  have c1:=TRd.ok HR hs hW H hop [c6] (k:=h.length+1) rfl
  have hW0:Wst P.all s0:=Kp.Ps.ok hKp hW hop
  have hl0:=(hEat s hW.wf a0 s0 hop).2
  simp only[PR.bind]
  generalize hR:XX g (opsB.map ByteArray.toList) s0.toks.length a0 s0=R
  refine Qb Tryz.func165 rfl Tryz.call165 Tryz.ntmps165 Tryz.results165 (by simp) ?_
  with_reducible repeat first|refine Qa fun K E hK hE=>?_;simp only[go_sem,seval,f1]|refine hK _ ?_;clear hK
  obtain⟨I,hI⟩:∃I:Nat->AS->Prop,I=fun m' s=>∃(t:T) (s2:PS) (q:Nat) (L:AH),m'=s2.toks.length/\s2.toks.length<Nn/\Wst P.all s2/\(∃k,s2.toks.length<=k/\XX g (opsB.map ByteArray.toList) k t s2=R)/\L.length=t.sz+1/\At L 0 (t.lay 69 (h.length+1))/\q<=t.sz /\
   (t.lay 69 (h.length+1)++[.dead])[q]? = some .dead/\L[q]? = some (.cells 69 4 [t.lv (h.length+1)])/\s.tm 0 = .ptr P.i 0 0/\s.tm 1 = .fn (.func f) [.ptr P.i 0 0] []/\s.tm 2 = .sl 1 (strs opsB) none/\s.tm 6 = .ptr h.length 0 0/\s.tm 7 = .ptr (h.length+(q+1)) 0 0/\s.h=ph h P s2++(c6::L):=⟨_,rfl⟩
  refine QiM 0 I rfl ?_ ?_
  ·intro key
   refine YX ?_
   have e1:=T.Qu0 (h.length+1) a0
   have e2:=T.Qu3 (h.length+1) a0
   have e3:=T.QuZ 69 (h.length+1) a0
   with_reducible repeat first|(first|refine Ql fun K E hK hE=>?_|refine FunW.ret (FunW.meth c1) ?_);simp only[go_sem,seval,f1,f4,f6,e1,e2,Q9]|refine Qd ?_|refine hK _ ?_;clear hK
   refine YX (Qc4 (Qd (key _ ?_)))
   rw[hI]
   refine⟨_,a0,s0,a0.sz,a0.lay 69 (h.length+1)++[.cells 69 4 [a0.lv (h.length+1)]],rfl,by omega,hW0,⟨_,QwP _,hR⟩,by rw[QwG,e3];rfl,At.mid [] _ _ rfl,QwP _,?_,?_,rfl,rfl,rfl,rfl,?_,?_⟩
   ·rw[QwO (by rw[e3];exact QwP _),e3,Qxy];rfl
   ·rw[QwO (by rw[e3];exact QwP _),e3,Qxy];rfl
   ·show AV.ptr (h.length+((a0.lay 69 (h.length+1)).length+1)) 0 0=_
    rw[e3]
   ·rfl
  ·intro m s1 hs1
   rw[hI]at hs1
   obtain⟨tm,hp⟩:=s1
   dsimp only at hs1
   obtain⟨t,s2,q,L,rfl,hl2,hW2,⟨k,hk,hR2⟩,hL,hAt,hq,hdead,hc7,t0,t1,t2,t6,t7,rfl⟩:=hs1
   refine QgT ?_
   refine YX ?_
   with_reducible repeat first|refine Ql fun K E hK hE=>?_;simp only[go_sem,seval,t2,ZW]|refine Qd ?_|refine hK _ ?_;clear hK
   refine Qfp ?_
   obtain⟨I2,hI2⟩:∃I2:Nat->AS->Prop,I2=fun m' s=>∃j:Nat,m'=opsB.length - j/\j<=opsB.length/\(∀b∈opsB.take j,s2.is b.toList=false)/\s.tm 0 = .ptr P.i 0 0/\s.tm 1 = .fn (.func f) [.ptr P.i 0 0] []/\s.tm 2 = .sl 1 (strs opsB) none/\s.tm 6 = .ptr h.length 0 0/\s.tm 7 = .ptr (h.length+(q+1)) 0 0 /\
    s.tm 12 = .sl 1 (strs opsB) none/\s.tm 13 = .i opsB.length/\s.tm 14 = .i j/\s.h=ph h P s2++(c6::L):=⟨_,rfl⟩
   refine Qmj I2 ?_ (m:=opsB.length) ?_
   ·intro m' s3 hs3
    rw[hI2]at hs3
    obtain⟨tm,hp⟩:=s3
    dsimp only at hs3
    obtain⟨j,rfl,hj,hno,u0,u1,u2,u6,u7,u12,u13,u14,rfl⟩:=hs3
    by_cases hlt:j<opsB.length
    ·have z1:(((j:Nat):Int)<((opsB.length:Nat):Int)):=by omega
     have hi:=ph_i H s2
     simp only[pB]at hi
     have hix:(strs opsB)[j]? = some (.v (.string opsB[j])):=by rw[strs,Qxd,QwK hlt];rfl
     refine YX ?_
     with_reducible repeat first|refine Ql fun K E hK hE=>?_;simp only[go_sem,seval,u14,u13,z1]|refine Qd ?_|refine hK _ ?_;clear hK
     refine YX ?_
     with_reducible repeat first|refine Qw ?_|refine Qd ?_|refine Qi rfl ?_;simp only[↓reduceIte]
     refine QgT (Qfp ?_)
     refine YX ?_
     with_reducible repeat first|refine Ql fun K E hK hE=>?_;simp only[go_sem,seval,u12,u14,hix,hlt,ZW]|refine Qd ?_|refine hK _ ?_;clear hK
     refine YX ?_
     cases hb:s2.is opsB[j].toList with
     |false =>
      have cs:=fun L=>QkV (P:=P) hW2 (H.app L) hN opsB[j] hb
      simp only[Xr H]at cs
      with_reducible repeat first|(first|refine Ql fun K E hK hE=>?_|refine FunW.QuW (cs _) ?_);simp only[go_sem,seval,u0,hi]|refine Qd ?_|refine hK _ ?_;clear hK
      refine QgS (t:=false) rfl ?_
      simp only[QvT,↓reduceIte]
      refine QdT ?_
      with_reducible repeat first|refine Qw ?_|refine Qd ?_|refine Qt ?_
      refine QdT ?_
      with_reducible repeat first|refine Ql fun K E hK hE=>?_;simp only[go_sem,seval,u14]|refine Qd ?_|refine hK _ ?_;clear hK
      refine Xo.mk (m':=opsB.length - (j+1)) (by omega) ?_
      rw[hI2]
      refine⟨j+1,rfl,hlt,?_,u0,u1,u2,u6,u7,u12,u13,?_,rfl⟩
      ·intro b hb2
       rw[Qxq hlt,Qxf,QxG]at hb2
       rcases hb2 with hb2|rfl
       ·exact hno b hb2
       ·exact hb
      ·simp only[upd,↓reduceIte]
       rw[Xe (by omega)]
     |true =>
      have hbk:=PS.Qu1 hb
      have htx:=QsM hb
      have cs:=fun L=>Qie (P:=P) hW2 (H.app L) hN opsB[j] hb
      simp only[Xr H]at cs
      have hWn:=hW2.nx
      have hln:=YU hW2.wf hbk
      with_reducible repeat first|(first|refine Ql fun K E hK hE=>?_|refine FunW.QuW (cs _) ?_);simp only[go_sem,seval,u0,hi]|refine Qd ?_|refine hK _ ?_;clear hK
      refine QgS (t:=true) rfl ?_
      simp only[↓reduceIte]
      refine YX ?_
      have hone:s2.oneOf (opsB.map ByteArray.toList)=true:=by
       rw[PS.oneOf,QyJ]
       exact⟨_,Qxa.2 ⟨_,Qxk hlt,rfl⟩,hb⟩
      have hk1:k=k - 1+1:=by omega
      have e1:=T.Qu0 (h.length+1) t
      have e2:=T.Qu3 (h.length+1) t
      cases hop2:g s2.nx with
      |err p e =>
       have hRR:R = .err p e:=by
        rw[<-hR2,hk1,XX,QwN hone,hop2];rfl
       subst hRR
       have c2:=TRd.err HR (s:=s2.nx) (by omega) hWn H hop2 (c6::L)
       refine Yp 3 [(0,1),(1,0),(2,1)] mixed rfl rfl rfl (by kernel_rfl) (fun v h'=>v=Fl p e/\∃x:PS,h'=ph h P x++(c6::L)) ?_ ?_
       ·rintro tm v h' ⟨rfl,x,rfl⟩
        exact Xj H s x p e _ ⟨rfl,_,rfl⟩
       ·simp only[go_sem,seval,u1,u7,f4,hc7,e1,e2]
        exact fun _=>(FunW.meth c2).mono (by rintro _ _ ⟨rfl,x,rfl⟩;exact⟨_,rfl,rfl,x,rfl⟩)
      |ok u s3 =>
       have hW3:Wst P.all s3:=Kp.Ps.ok hKp hWn hop2
       have hl3:=(hEat _ hWn.wf u s3 hop2).2
       have hR3:XX g (opsB.map ByteArray.toList) (k - 1) (.mk 2 0 opsB[j] [t,u]) s3=R:=by
        rw[<-hR2,hk1,XX,QwN hone,hop2,htx];rfl
       have c2:=TRd.ok HR (s:=s2.nx) (by omega) hWn H hop2 (c6::L) (k:=h.length+1+(t.sz+1)) (by rw[Qv2,hL];omega)
       have g1:∀X,(L++X)[q]? = some (.cells 69 4 [t.lv (h.length+1)]):=fun X=>by rw[QwI (by omega)];exact hc7
       have g2:∀X y,(L++X).set q y=L.set q y++X:=fun X y=>Qw2 _ _ (by omega)
       have e3:=T.Qu0 (h.length+1+(t.sz+1)) u
       have e4:=T.Qu3 (h.length+1+(t.sz+1)) u
       refine Qal (.node [(0,1),(2,1)] 1 3 (.leaf [(1,0),(3,2),(4,6),(5,2),(6,2)]) (.leaf [(3,2),(1,0),(4,6),(5,2),(6,2)])) mixed (by kernel_rfl) fun K hK=>?_
       simp only[OT.walk]
       simp only[go_sem,seval,u1,u7,f4,hc7,e1,e2]
       have hlt2:h.length+(L.length+(u.lay 69 (h.length+1+(t.sz+1))).length+1)<(ph h P s3++(c6::(L++(u.lay 69 (h.length+1+(t.sz+1))++[.cells 69 4 [t.lv (h.length+1),u.lv (h.length+1+(t.sz+1))]])))).length:=by
        simp only[QwG,Qv2,Qv3,Xm];omega
       have fin:∀tm':Nat->AV,tm' 0 = .ptr P.i 0 0->tm' 1 = .fn (.func f) [.ptr P.i 0 0] []->tm' 2 = .sl 1 (strs opsB) none->tm' 6 = .ptr h.length 0 0->tm' 7 = .ptr (h.length+(q+1)) 0 0 ->
         ∀Q',QaO Tryz.prog 31 0 (Xo I s2.toks.length) (Code.goto 0) Q' ⟨tm',ph h P s3++(c6::(L.set q (.cells 69 4 [.agg [.i 2,.i 0,.v (.string opsB[j]),.arr (h.length+(L.length+(u.lay 69 (h.length+1+(t.sz+1))).length+1)) 0 2]])++(u.lay 69 (h.length+1+(t.sz+1))++[.cells 69 4 [t.lv (h.length+1),u.lv (h.length+1+(t.sz+1))]])))⟩:=by
        intro tm' v0 v1 v2 v6 v7 Q'
        refine Qmh (Qmi ⟨s3.toks.length,by omega,?_⟩)
        rw[hI]
        have hlv:(T.mk 2 0 opsB[j] [t,u]).lv (h.length+1) = .agg [.i 2,.i 0,.v (.string opsB[j]),.arr (h.length+(L.length+(u.lay 69 (h.length+1+(t.sz+1))).length+1)) 0 2]:=by
         rw[T.QuZ,hL]
         show AV.agg [_,_,_,AV.arr (h.length+1+szs [t,u] - 1) 0 2]=_
         simp only[szs]
         rw[show h.length+1+(t.sz+1+(u.sz+1+0)) - 1=h.length+(t.sz+1+u.sz+1) by omega]
        have hla:(T.mk 2 0 opsB[j] [t,u]).lay 69 (h.length+1)=(t.lay 69 (h.length+1)++[.dead])++(u.lay 69 (h.length+1+(t.sz+1))++[.cells 69 4 [t.lv (h.length+1),u.lv (h.length+1+(t.sz+1))]]):=by
         show lays _ _ (.cells _ 4 (lvs _ [t,u])) [t,u]=_
         simp only[lays,lvs,Qww,Qwv,QvT,QxC,QxP]
         rw[Qx2 (h.length+1) t.sz 1,QwM];rfl
        refine⟨.mk 2 0 opsB[j] [t,u],s3,q,L.set q (.cells 69 4 [(T.mk 2 0 opsB[j] [t,u]).lv (h.length+1)])++(u.lay 69 (h.length+1+(t.sz+1))++[.cells 69 4 [t.lv (h.length+1),u.lv (h.length+1+(t.sz+1))]]++[.dead]),rfl,by omega,hW3,⟨k - 1,by omega,hR3⟩,?_,?_,?_,?_,?_,v0,v1,v2,v6,v7,?_⟩
        ·simp only[QwG,QwZ,Qv2,Qv3,T.QuZ,T.sz,szs];omega
        ·rw[hla]
         have hlt3:(t.lay 69 (h.length+1)++[AB.dead]).length=t.sz+1:=by rw[QwG,T.QuZ];rfl
         refine At.both ?_ ?_
         ·refine At.app ?_ _
          refine At.set (At.both hAt (At.cons (fun hx=>by cases hx) (At.nil _ _))) fun b hb hq0=>?_
          rw[Nat.sub_zero,hdead]at hb
          cases hb;rfl
         ·rw[hlt3,QwM]
          have:=At.mid (L.set q (.cells 69 4 [(T.mk 2 0 opsB[j] [t,u]).lv (h.length+1)])) (u.lay 69 (h.length+1+(t.sz+1))++[.cells 69 4 [t.lv (h.length+1),u.lv (h.length+1+(t.sz+1))]]) [.dead] (n:=0+(t.sz+1)) (by rw[QwZ,hL,Qv1])
          rwa [QwM]at this
        ·rw[T.sz,szs];omega
        ·rw[hla,QwM,QwI (by rw[QwG,T.QuZ];show q<t.sz+1;omega)];exact hdead
        ·rw[QwI (by rw[QwZ];omega),QwR (by omega)]
        ·rw[hlv];simp only[QwM,Qwh]
       refine⟨?_,?_⟩
       ·refine Xl (FunW.meth c2) Qbr ?_
        simp only[go_sem,seval,f1,e1,e3,Q9,tokA,QxZ,QwM]
        refine Xl (FunW.call (Qlo _ _ rfl rfl rfl _ (.arr _ _ _ hlt2))) Qbr ?_
        simp only[go_sem,seval,u7,f4,f6,g1,g2,e1,e2]
        refine hK _ (Qd (fin _ ?_ ?_ ?_ ?_ ?_ _))
        ·exact u0
        ·exact u1
        ·exact u2
        ·exact u6
        ·exact u7
       ·refine Xl (FunW.meth c2) Qbr ?_
        simp only[go_sem,seval,u7,f1,f4,g1,e1,e2,e3,Q9,tokA,QxZ,QwM]
        refine Xl (FunW.call (Qlo _ _ rfl rfl rfl _ (.arr _ _ _ hlt2))) Qbr ?_
        simp only[go_sem,seval,u7,f4,f6,g1,g2,e1,e2]
        refine hK _ (Qd (fin _ ?_ ?_ ?_ ?_ ?_ _))
        ·exact u0
        ·exact u1
        ·exact u2
        ·exact u6
        ·exact u7
    ·have hjl:j=opsB.length:=by omega
     have z1:¬(((j:Nat):Int)<((opsB.length:Nat):Int)):=by omega
     refine YX ?_
     with_reducible repeat first|refine Ql fun K E hK hE=>?_;simp only[go_sem,seval,u14,u13,z1]|refine Qd ?_|refine hK _ ?_;clear hK
     refine YX ?_
     with_reducible repeat first|refine Q3 ?_|refine Qd ?_|refine QV ?_|refine QU ?_|refine Qi rfl ?_;simp only[↓reduceIte,QvT]
     refine QdT ?_
     have e1:=T.Qu0 (h.length+1) t
     have e2:=T.Qu3 (h.length+1) t
     with_reducible repeat first|refine Qa fun K E hK hE=>?_;simp only[go_sem,seval,u6,u7,f3,f4,f5,hc7,e1,e2,Q9]|refine Qp ?_|refine hK _ ?_;clear hK
     simp only[go_sem,seval,u6,f3,e1,e2]
     have hone:s2.oneOf (opsB.map ByteArray.toList)=false:=by
      rw[PS.oneOf,List.any_eq_false]
      intro b hb
      obtain⟨b',hb',rfl⟩:=Qxa.1 hb
      rw[hjl,QwH]at hno
      rw[hno b' hb'];simp
     have hRR:R = .ok t s2:=by
      rw[<-hR2]
      cases k with
      |zero=>rfl
      |succ k=>rw[XX,hone];rfl
     subst hRR
     refine .inr ⟨rfl,_,rfl,fun i b hb hl=>?_⟩
     have:=hAt i b hb hl
     rw[show 1+i=(0+i)+1 by omega,QvQ];exact this
   ·rw[hI2]
    exact⟨0,rfl,Qw3 _,by simp,t0,t1,t2,t6,t7,rfl,rfl,rfl,rfl⟩
end
end Go.Proofs.YtenheconhibonaaGreatDoor.Ab
namespace Go.Proofs.YtenheconhibonaaGreatDoor.Ab
open Go.Proofs
theorem Qtp{P:Pz}{f:FuncId}{args:List AV}{h0 h:AH}{L:AH}{t:T}{s2:PS}(H:P.ok h)(C:QT Tryz.prog f args h0 (TQ (h++L) P (.ok t s2))){k:Nat}(hk:k=h.length+L.length):QT Tryz.prog f args h0 fun o h'=>o = .ret (t.lv k)/\h'=ph h P s2++(L++t.lay 69 k):=by
 subst hk
 exact C.mono fun o h' q=>by simpa only[TQ,Xr H,QwG,QwM]using q
theorem Qrb{P:Pz}{f:FuncId}{args:List AV}{h0 h:AH}{L:AH}{p c:Int}(H:P.ok h)(C:QT Tryz.prog f args h0 (TQ (h++L) P (.err p c))):QT Tryz.prog f args h0 fun o h'=>o = .panic (Fl p c)/\∃s2:PS,h'=ph h P s2++L :=
 C.mono fun o h' q=>by simpa only[TQ,Xr H]using q
section
variable{P:Pz}{g:PS->PR T}{Nn:Nat}(hEat:Eat 0 g)(hKp:Kp.Ps (wdOf P.all) g)(hN:P.all.length<=1000000)
include hEat hKp hN
theorem QgO{f:FuncId}(HR:TRd P f g Nn)(opsB:List ByteArray)(hob:opsB.length<=10){s:PS}(hs:s.toks.length<Nn)(hW:Wst P.all s){h:AH}(H:P.ok h) :
  QT Tryz.prog 165 [.ptr P.i 0 0,.fn (.func f) [.ptr P.i 0 0] [],.sl 1 (strs opsB) none] (ph h P s) (TQ h P (XN g (opsB.map ByteArray.toList) s)) :=
 Qe4 H 1 (QnG HR hEat hKp opsB hob hs hW H hN)
theorem QmO(HR:TRd P 180 g Nn):TRd P 166 (XN g XK) Nn:=by
 intro s hs hW h H
 have cc:=QgO hEat hKp hN HR [{data:=#[42]},{data:=#[47]},{data:=#[37]}] (by simp) hs hW (H.app [c6])
 have eo:List.map ByteArray.toList [{data:=#[42]},{data:=#[47]},{data:=#[37]}]=XK:=by
  simp only[Qv4,Qv8,Lib.toList_data];rfl
 rw[eo,Xr H]at cc
 simp only[strs,Qv4,Qv8]at cc
 have f1:=Xm h P
 have f3:=X8 h P
 have f5:=XD h P
 refine Qe4 H 1 ?_
 cases hr:XN g XK s with
 |err p e =>
  rw[hr]at cc
  replace cc:=Qrb H cc
  refine Qb Tryz.func166 rfl Tryz.call166 Tryz.ntmps166 Tryz.results166 (by simp) ?_
  repeat (first|refine FunW.panE (FunW.call cc) fun r=>?_|refine Qn ?_);simp only[go_sem,seval,f1]
  exact Xj H s r p e _ ⟨rfl,_,rfl⟩
 |ok t s2 =>
  rw[hr]at cc
  replace cc:=Qtp H cc (k:=h.length+1) rfl
  have e1:=T.Qu0 (h.length+1) t
  have e2:=T.Qu3 (h.length+1) t
  refine Qb Tryz.func166 rfl Tryz.call166 Tryz.ntmps166 Tryz.results166 (by simp) ?_
  repeat (first|refine FunW.QuW cc ?_|refine Qn ?_);simp only[go_sem,seval,f1,f3,f5,e1,e2,Q9]
  exact .inr ⟨rfl,_,rfl,At.tail (At.all _)⟩
theorem Qrx(HR:TRd P 166 g Nn):TRd P 143 (XN g YA) Nn:=by
 intro s hs hW h H
 have cc:=QgO hEat hKp hN HR [{data:=#[43]},{data:=#[45]}] (by simp) hs hW (H.app [c6])
 have eo:List.map ByteArray.toList [{data:=#[43]},{data:=#[45]}]=YA:=by
  simp only[Qv4,Qv8,Lib.toList_data];rfl
 rw[eo,Xr H]at cc
 simp only[strs,Qv4,Qv8]at cc
 have f1:=Xm h P
 have f3:=X8 h P
 have f5:=XD h P
 refine Qe4 H 1 ?_
 cases hr:XN g YA s with
 |err p e =>
  rw[hr]at cc
  replace cc:=Qrb H cc
  refine Qb Tryz.func143 rfl Tryz.call143 Tryz.ntmps143 Tryz.results143 (by simp) ?_
  repeat (first|refine FunW.panE (FunW.call cc) fun r=>?_|refine Qn ?_);simp only[go_sem,seval,f1]
  exact Xj H s r p e _ ⟨rfl,_,rfl⟩
 |ok t s2 =>
  rw[hr]at cc
  replace cc:=Qtp H cc (k:=h.length+1) rfl
  have e1:=T.Qu0 (h.length+1) t
  have e2:=T.Qu3 (h.length+1) t
  refine Qb Tryz.func143 rfl Tryz.call143 Tryz.ntmps143 Tryz.results143 (by simp) ?_
  repeat (first|refine FunW.QuW cc ?_|refine Qn ?_);simp only[go_sem,seval,f1,f3,f5,e1,e2,Q9]
  exact .inr ⟨rfl,_,rfl,At.tail (At.all _)⟩
end
end Go.Proofs.YtenheconhibonaaGreatDoor.Ab
namespace Go.Proofs.YtenheconhibonaaGreatDoor.Ab
open Go.Proofs
def GQ(h:AH)(P:Pz):PR G->AOut->AH->Prop
 | .ok a s,o,h'=>o = .ret (.agg [.v (.string a.name),lsl h.length a.args])/\h'=ph h P s++layA 69 h.length a.args
 | .err p e,o,h'=>o = .panic (Fl p e)/\∃s,h'=ph h P s
def GC(g:Nat)(h:AH)(P:Pz):PR G->AOut->AH->Prop
 | .ok a s,o,h'=>o = .ret (.agg [.v (.string a.name),lsl (h.length+g) a.args])/\∃N,h'=ph h P s++N/\At N g (layA 69 (h.length+g) a.args)
 | .err p e,o,h'=>o = .panic (Fl p e)/\∃s,h'=ph h P s
theorem Qp2{P:Pz}{f:FuncId}{args:List AV}{h:AH}{s:PS}(H:P.ok h)(g:Nat){r:PR G}(C:QT Tryz.prog f args (ph h P s) (GC g h P r)):QT Tryz.prog f args (ph h P s) (GQ h P r):=by
 refine Qbv C fun hb0 o h' hQ=>?_
 cases r with
 |err p e=>exact .inl hQ
 |ok t s2 =>
  obtain⟨rfl,N,rfl,hN⟩:=hQ
  rw[Xm]at hb0 ⊢
  have hb:∀b∈ph h P s2,b.Below h.length:=fun b hb=>by
   obtain⟨k,hk⟩:=ZT hb
   rcases QcJ H (s0:=s) hk with h1|h1
   ·exact hb0 k b h1
   ·exact h1
  obtain⟨K,hk⟩:=Qqo (Xm h P s2) hb g t.args hN
  refine .inr ⟨_,.agg [.v (.string t.name),lsl h.length t.args],_,_,rfl,K,.agg rfl fun j a a' h1 h2=>?_,rfl,rfl⟩
  match j,h1,h2 with
  |0,h1,h2=>cases h1;cases h2;exact .keep (.v _)
  |1,h1,h2=>cases h1;cases h2;exact hk
  |j+2,h1,h2=>simp at h1
section
variable{P:Pz}{s:PS}(hW:Wst P.all s){h:AH}(H:P.ok h)(hN:P.all.length<=1000000)(L:AH)
include hW H hN
theorem QrS{x:ByteArray}{s1:PS}(e:Qco s = .ok x s1):QT Tryz.prog 115 [.ptr P.i 0 0] (ph h P s++L) fun o h'=>o = .ret (.v (.string x))/\h'=ph h P s1++L:=by
 have:=Qji hW (H.app L) hN
 rw[e,Xr H]at this
 exact this.mono fun o h' q=>by simpa only[Xr H]using q
theorem Qqg{p c:Int}(e:Qco s = .err p c):QT Tryz.prog 115 [.ptr P.i 0 0] (ph h P s++L) fun o h'=>o = .panic (Fl p c)/\∃s1:PS,h'=ph h P s1++L:=by
 have:=Qji hW (H.app L) hN
 rw[e,Xr H]at this
 exact this.mono fun o h' q=>by simpa only[Xr H]using q
theorem QdK(b:ByteArray)(hb:s.is b.toList=true):QT Tryz.prog 110 [.ptr P.i 0 0,.v (.string b)] (ph h P s++L) fun o h'=>o = .ret (.b true)/\h'=ph h P s.nx++L:=by
 have:=Qie hW (H.app L) hN b hb
 simpa only[Xr H]using this
theorem Qe1(b:ByteArray)(hb:s.is b.toList=false):QT Tryz.prog 110 [.ptr P.i 0 0,.v (.string b)] (ph h P s++L) fun o h'=>o = .ret (.b false)/\h'=ph h P s++L:=by
 have:=QkV hW (H.app L) hN b hb
 simpa only[Xr H]using this
theorem ZS(b:ByteArray)(hb:s.is b.toList=true):QT Tryz.prog 116 [.ptr P.i 0 0,.v (.string b)] (ph h P s++L) fun o h'=>o = .ret (.tup [])/\h'=ph h P s.nx++L:=by
 have:=Qmn hW (H.app L) hN b hb
 simpa only[Xr H]using this
theorem Qam(b:ByteArray)(hb:s.is b.toList=false):QT Tryz.prog 116 [.ptr P.i 0 0,.v (.string b)] (ph h P s++L) fun o h'=>o = .panic (Fl s.tk.pos 16)/\h'=ph h P s++L:=by
 have:=QnU hW (H.app L) hN b hb
 simpa only[Xr H]using this
end
end Go.Proofs.YtenheconhibonaaGreatDoor.Ab
namespace Go.Proofs.YtenheconhibonaaGreatDoor.Ab
open Go.Proofs
abbrev cA0:AB:=.cells 66 2 [.agg [.v (.string {data:=#[]}),.v (.slice none 0 0)]]
def avl(n d:Nat)(l:List T):AV:=if l.isEmpty then .sl 4 [] (some d)else .arr (n+szs l - 1) 0 l.length
section
variable{P:Pz}{ex:PS->PR T}{Nn:Nat}(HR:TRd P 143 ex Nn)(hEat:Eat 0 ex)(hKp:Kp.Ps (wdOf P.all) ex){s:PS}(hs:s.toks.length<Nn+1)(hW:Wst P.all s){h:AH}(H:P.ok h)(hN:P.all.length<=1000000)
include HR hEat hKp hs hW H hN
theorem QpM:QT Tryz.prog 148 [.ptr P.i 0 0] (ph h P s) (GC 3 h P (ZH ex s)):=by
 have f1:=Xm h P
 have f3:=X8 h P
 have f4:=YO h P
 have f5:=XD h P
 have f6:=Ye h P
 rw[ZH]
 have hi:=ph_i H s
 simp only[pB]at hi
 cases hn:Qco s with
 |err p e =>
  have cn:=fun L=>Qqg hW H hN L hn
  refine Qb Tryz.func148 rfl Tryz.call148 Tryz.ntmps148 Tryz.results148 (by simp) ?_
  with_reducible repeat first|(first|refine Qa fun K E hK hE=>?_|refine FunW.panE (FunW.call (cn _)) fun r=>?_);simp only[go_sem,seval,f1,hi]|refine hK _ ?_;clear hK|refine hE _ _ ?_
  exact Xj H s r p e _ ⟨rfl,_,rfl⟩
 |ok x s1 =>
  have cn:=fun L=>QrS hW H hN L hn
  have hW1:Wst P.all s1:=Kp.Ps.ok (n:=wdOf P.all) (Kp.name_ps trivial) hW hn
  have hl1:=(QeV s hW.wf x s1 hn).2
  have hi1:=ph_i H s1
  simp only[pB]at hi1
  show QT _ _ _ _ (GC 3 h P (if s1.is sLp=true then(Zh ex s1.toks.length [] s1.nx).bind fun l s=>PR.ok (⟨0,x,l⟩:G) s else PR.ok ⟨0,x,[]⟩ s1))
  cases hp:s1.is sLp with
  |false =>
   have cs:=fun L=>Qe1 hW1 H hN L {data:=#[40]} (by rw[Lib.toList_data];exact hp)
   rw[QwJ (by simp)]
   refine Qb Tryz.func148 rfl Tryz.call148 Tryz.ntmps148 Tryz.results148 (by simp) ?_
   with_reducible repeat first|(first|refine Qa fun K E hK hE=>?_|refine FunW.QuW (cn _) ?_|refine FunW.QuW (cs _) ?_);simp only[go_sem,seval,f1,f3,f4,f5,f6,hi,hi1]|refine Qf fun K hK=>?_|refine Qp ?_|refine QB ?_|refine hK _ ?_;clear hK|refine Qi rfl ?_;simp only[↓reduceIte]
   simp only[go_sem,seval,f3]
   refine .inr ⟨rfl,_,rfl,?_⟩
   exact fun j b hb=>by simp[layA,lays]at hb
  |true =>
   have cs:=fun L=>QdK hW1 H hN L {data:=#[40]} (by rw[Lib.toList_data];exact hp)
   have hk1:=PS.Qu1 hp
   have hln1:=YU hW1.wf hk1
   have hWn1:=hW1.nx
   have hi2:=ph_i H s1.nx
   simp only[pB]at hi2
   rw[QwN rfl]
   generalize hR:((Zh ex s1.toks.length [] s1.nx).bind fun l s=>PR.ok (⟨0,x,l⟩:G) s)=R
   refine Qb Tryz.func148 rfl Tryz.call148 Tryz.ntmps148 Tryz.results148 (by simp) ?_
   with_reducible repeat first|(first|refine Qa fun K E hK hE=>?_|refine FunW.QuW (cn _) ?_|refine FunW.QuW (cs _) ?_);simp only[go_sem,seval,f1,f4,f6,hi,hi1]|refine Qf fun K hK=>?_|refine Qj ?_|refine Qw ?_|refine Qd ?_|refine hK _ ?_;clear hK|refine Qi rfl ?_;simp only[↓reduceIte,QvT]
   refine QaP (h.length+1) 66 2 4 .dead (.inl rfl) [.agg [.v (.string x),.v (.slice none 0 0)]] [.agg [.v (.string x),.sl 4 [] (some (h.length+2))]] 1 (by rw[f4];rfl) rfl (by rw[QwG,Xm];rfl) (by simp[AV.cells]) ?_
   rw[QwM,f6]
   obtain⟨I,hI⟩:∃I:Nat->AS->Prop,I=fun m' s=>∃(l:List T) (s2:PS),m'=s2.toks.length/\s2.toks.length<Nn/\Wst P.all s2/\l.length+s2.toks.length<=P.all.length+1/\(∃k,s2.toks.length<=k/\((Zh ex k l s2).bind fun l s=>PR.ok (⟨0,x,l⟩:G) s)=R)/\s.tm 0 = .ptr P.i 0 0/\s.tm 2 = .ptr h.length 0 0/\s.tm 3 = .ptr (h.length+1) 0 0 /\
    s.h=ph h P s2++(cA0 :: .cells 66 2 [.agg [.v (.string x),avl (h.length+3) (h.length+2) l]] :: .dead::layA 69 (h.length+3) l):=⟨_,rfl⟩;refine QZ I ?_ (m:=s1.nx.toks.length) ?_
   ·intro m' s hs;rw[hI]at hs;obtain⟨tm,hp⟩:=s;dsimp only at hs;obtain⟨l,s2,rfl,hl2,hW2,hbd,⟨k,hk,hR2⟩,t0,t2,t3,rfl⟩:=hs
    have hlk:1<=s2.toks.length:=by
     have:=Qso hW2.wf
     cases hq:s2.toks with
     |nil=>exact absurd hq this
     |cons _ _=>simp
    have hk1:k=k - 1+1:=by omega
    cases hop:ex s2 with
    |err p e =>
     have hRR:R = .err p e:=by
      rw[<-hR2,hk1,Zh,hop];rfl
     subst hRR
     have c2:=TRd.err HR hl2 hW2 H hop (cA0 :: .cells 66 2 [.agg [.v (.string x),avl (h.length+3) (h.length+2) l]] :: .dead::layA 69 (h.length+3) l)
     with_reducible repeat first|refine Qf fun K hK=>?_|refine Qj ?_
     refine Yp 3 [(0,0),(1,0),(2,1)] mixed rfl rfl rfl (by kernel_rfl) (fun v h'=>v=Fl p e/\∃x2:PS,h'=ph h P x2++(cA0 :: .cells 66 2 [.agg [.v (.string x),avl (h.length+3) (h.length+2) l]] :: .dead::layA 69 (h.length+3) l)) ?_ ?_
     ·rintro tm v h' ⟨rfl,x2,rfl⟩
      exact Xj H s x2 p e _ ⟨rfl,_,rfl⟩
     ·simp only[go_sem,seval,t0,t3,f4]
      exact fun _=>(FunW.call c2).mono (by rintro _ _ ⟨rfl,x,rfl⟩;exact⟨_,rfl,rfl,x,rfl⟩)
    |ok u s3 =>
     have hW3:Wst P.all s3:=Kp.Ps.ok hKp hW2 hop
     have hl3:=(hEat s2 hW2.wf u s3 hop).2
     have hi3:=ph_i H s3
     simp only[pB]at hi3
     have hR3:(if s3.is Qa7=true then(Zh ex (k - 1) (l++[u]) s3.nx).bind fun l s=>PR.ok (⟨0,x,l⟩:G) s else(Z8 sRp s3).bind fun _ s=>PR.ok (⟨0,x,l++[u]⟩:G) s)=R:=by
      rw[<-hR2,hk1,Zh,hop]
      simp only[PR.bind]
      split
      ·rfl
      ·cases Z8 sRp s3 <;> rfl
     with_reducible repeat first|refine Qf fun K hK=>?_|refine Qj ?_
     have fin:∀tm':Nat->AV,tm' 0 = .ptr P.i 0 0->tm' 2 = .ptr h.length 0 0->tm' 3 = .ptr (h.length+1) 0 0 ->
       K ⟨tm',ph h P s3++(cA0 :: .cells 66 2 [.agg [.v (.string x),.arr (h.length+3+szs (l++[u]) - 1) 0 (l++[u]).length]] :: .dead::layA 69 (h.length+3) (l++[u]))⟩:=by
      intro tm' v0 v2 v3
      refine hK _ ?_
      cases hc:s3.is Qa7 with
      |true =>
       have cs:=fun L=>QdK hW3 H hN L {data:=#[44]} (by rw[Lib.toList_data];exact hc)
       rw[hc,QwN rfl]at hR3
       have hln3:=YU hW3.wf (PS.Qu1 hc)
       with_reducible repeat first|(first|refine Qa fun K E hK hE=>?_|refine FunW.QuW (cs _) ?_);simp only[go_sem,seval,v0,hi3]|refine Qw ?_|refine Qd ?_|refine Qt ?_|refine hK _ ?_;clear hK|refine Qi rfl ?_;simp only[↓reduceIte,QvT]
       refine Xo.mk (m':=s3.nx.toks.length) (by omega) ?_
       rw[hI]
       refine⟨l++[u],s3.nx,rfl,by omega,hW3.nx,by simp;omega,⟨k - 1,by omega,hR3⟩,v0,v2,v3,?_⟩
       rw[avl,QwJ (by simp)]
      |false =>
       have cs:=fun L=>Qe1 hW3 H hN L {data:=#[44]} (by rw[Lib.toList_data];exact hc)
       rw[hc,QwJ (by simp)]at hR3
       have hat:At (cA0 :: .cells 66 2 [.agg [.v (.string x),.arr (h.length+3+szs (l++[u]) - 1) 0 (l++[u]).length]] :: .dead::layA 69 (h.length+3) (l++[u])) 3 (layA 69 (h.length+3) (l++[u])):=At.tail (At.tail (At.tail (At.all _)))
       cases hr:s3.is sRp with
       |true =>
        have ce:=fun L=>ZS hW3 H hN L {data:=#[41]} (by rw[Lib.toList_data];exact hr)
        have hi4:=ph_i H s3.nx
        simp only[pB]at hi4
        have hRR:R = .ok ⟨0,x,l++[u]⟩ s3.nx:=by
         rw[<-hR3,Z8,hr,QwN rfl];rfl
        subst hRR
        with_reducible repeat first|(first|refine Qa fun K E hK hE=>?_|refine FunW.QuW (cs _) ?_|refine FunW.QuW (ce _) ?_);simp only[go_sem,seval,v0,v2,v3,hi3,f3,f4,f5]|refine Qp ?_|refine Q3 ?_|refine Qd ?_|refine QV ?_|refine QU ?_|refine Zp rfl ?_|refine hK _ ?_;clear hK|clear hK;refine hK _ ?_;clear hK|refine Qi rfl ?_;simp only[↓reduceIte]
        simp only[go_sem,seval,v2,f3]
        refine .inr ⟨?_,_,rfl,?_⟩
        ·show AOut.ret _=AOut.ret (.agg [_,lsl (h.length+3) (l++[u])])
         rw[lsl,QwJ (by simp)]
        ·exact fun j b hb hl=>by
          have:=hat j b hb hl
          rw[QyM 3 j]at this ⊢
          simpa only[QvQ]using this
       |false =>
        have ce:=fun L=>Qam hW3 H hN L {data:=#[41]} (by rw[Lib.toList_data];exact hr)
        have hRR:R = .err s3.tk.pos 16:=by
         rw[<-hR3,Z8,hr,QwJ (by simp)];rfl
        subst hRR
        with_reducible repeat first|(first|refine Qa fun K E hK hE=>?_|refine FunW.QuW (cs _) ?_|refine FunW.pan (FunW.call (ce _)) ?_);simp only[go_sem,seval,v0,hi3]|refine Q3 ?_|refine Qd ?_|refine QV ?_|refine QU ?_|refine Zp rfl ?_|refine hK _ ?_;clear hK|clear hK;refine hK _ ?_;clear hK|refine Qi rfl ?_;simp only[↓reduceIte]|refine hE _ _ ?_
        exact Xj H s s3 _ _ _ ⟨rfl,_,rfl⟩
     have e3:=T.Qu0 (h.length+3+szs l) u
     have e4:=T.Qu3 (h.length+3+szs l) u
     have hmx:1<=maxLen:=by decide
     have c2:=TRd.ok HR hl2 hW2 H hop (cA0 :: .cells 66 2 [.agg [.v (.string x),avl (h.length+3) (h.length+2) l]] :: .dead::layA 69 (h.length+3) l) (k:=h.length+3+szs l) (by simp only[Qv2,YJ];omega)
     cases l with
     |nil =>
      simp only[szs,Qwe]at e3 e4 c2
      have ea:avl (h.length+3) (h.length+2) [] = .sl 4 [] (some (h.length+2)):=rfl
      have el:layA 69 (h.length+3) []=[]:=rfl
      simp only[ea,el]at c2 ⊢
      refine Qal (.node [(2,1)] 3 0 (.leaf [(3,2),(0,0),(1,0),(4,0),(5,2),(6,0),(7,2)]) (.node [(0,0)] 3 1 (.leaf [(3,2),(1,0),(4,0),(5,2),(6,0),(7,2)]) (.leaf [(1,0),(3,2),(4,0),(5,2),(6,0),(7,2)]))) mixed (by kernel_rfl) (fun K2 hK2=>?_)
      simp only[OT.walk]
      simp only[go_sem,seval,t0,t3,f4]
      have e5:h.length+3+szs ([]++[u]) - 1=h.length+((u.lay 69 (h.length+3)).length+1+1+1):=by
       rw[T.QuZ,Y3];simp only[szs];omega
      have e6:layA 69 (h.length+3) ([]++[u])=u.lay 69 (h.length+3)++[.cells 69 4 [u.lv (h.length+3)]]:=by
       rw[Qi9];simp[lays,szs,lvs]
      simp only[e5,e6]at fin
      refine⟨?_,?_⟩
      ·refine Xl (FunW.call c2) Qbr ?_
       simp only[go_sem,seval,t3,f1,f4,f6,e3,Q9,hmx,QwM]
       refine hK2 _ (Qd (fin _ ?_ ?_ ?_)) <;> assumption
      ·refine⟨?_,?_⟩
       ·refine Xl (FunW.call c2) Qbr ?_
        simp only[go_sem,seval,t3,f1,f4,f6,e3,Q9,hmx,QwM]
        refine hK2 _ (Qd (fin _ ?_ ?_ ?_)) <;> assumption
       ·refine Xl (FunW.call c2) Qbr ?_
        simp only[go_sem,seval,t3,f1,f4,f6,e3,Q9,hmx,QwM]
        refine hK2 _ (Qd (fin _ ?_ ?_ ?_)) <;> assumption
     |cons a l0 =>
      have hne:a::l0≠[]:=by simp
      generalize hl1:a::l0=l1 at *
      have ea:avl (h.length+3) (h.length+2) l1 = .arr (h.length+3+szs l1 - 1) 0 l1.length:=by rw[avl,QwJ (by simpa using hne)]
      have hsp:=Qdd hne
      have gid:h.length+3+szs l1 - 1=h.length+(szs l1 - 1+1+1+1):=by omega
      have gA:∀(c:AB) X,(ph h P s3++(cA0::c :: .dead::(layA 69 (h.length+3) l1++X)))[h.length+3+szs l1 - 1]? = some (.cells 69 4 (lvs (h.length+3) l1)):=fun c X=>by
       rw[gid,f4]
       simp only[QvQ]
       rw[QwI (by rw[YJ];omega)]
       exact(Qi8 _ _ _ hne).1
      have sA:∀(c:AB) X,(ph h P s3++(cA0::c :: .dead::(layA 69 (h.length+3) l1++X))).set (h.length+3+szs l1 - 1) .dead=ph h P s3++(cA0::c :: .dead::(lays 69 (h.length+3) .dead l1++X)):=fun c X=>by
       rw[gid,f6]
       simp only[Qwk]
       rw[Qw2 _ _ (by rw[YJ];omega),(Qi8 _ _ _ hne).2]
      have hb1:l1.length+1<=maxLen:=by simp only[maxLen];omega
      have hb2:(l1.length+1) * 56<=140737488355328:=by omega
      have e5:h.length+3+szs (l1++[u]) - 1=h.length+(szs l1+((u.lay 69 (h.length+3+szs l1)).length)+1+1+1):=by
       rw[T.QuZ,Y3];simp only[szs];omega
      have e6:=Qi9 69 (h.length+3) l1 u
      have e7:(l1++[u]).length=l1.length+1:=by simp
      simp only[e5,e6,e7]at fin
      have e8:=Zn 69 (h.length+3) .dead l1
      have e9:=Z3 (h.length+3) l1
      simp only[ea]at c2 ⊢
      refine Qal (.node [(2,1)] 3 0 (.leaf [(3,2),(0,0),(1,0),(4,0),(5,4),(6,0),(7,2)]) (.node [(0,0)] 3 1 (.leaf [(3,2),(1,0),(4,0),(5,4),(6,0),(7,2)]) (.leaf [(1,0),(3,2),(4,0),(5,4),(6,0),(7,2)]))) mixed (by kernel_rfl) (fun K2 hK2=>?_)
      simp only[OT.walk]
      simp only[go_sem,seval,t0,t3,f4]
      refine⟨?_,?_⟩
      ·refine Xl (FunW.call c2) Qbr ?_
       simp only[go_sem,seval,t3,f1,f4,f6,e3,gA,sA,e9,hb1,hb2,YJ,aopR,Qcv,Q9,QwM]
       refine hK2 _ (Qd (fin _ ?_ ?_ ?_)) <;> assumption
      ·refine⟨?_,?_⟩
       ·refine Xl (FunW.call c2) Qbr ?_
        simp only[go_sem,seval,t3,f1,f4,f6,e3,gA,sA,e9,hb1,hb2,YJ,aopR,Qcv,Q9,QwM]
        refine hK2 _ (Qd (fin _ ?_ ?_ ?_)) <;> assumption
       ·refine Xl (FunW.call c2) Qbr ?_
        simp only[go_sem,seval,t3,f1,f4,f6,e3,gA,sA,e9,hb1,hb2,YJ,aopR,Qcv,Q9,QwM]
        refine hK2 _ (Qd (fin _ ?_ ?_ ?_)) <;> assumption
   ·rw[hI]
    exact⟨[],s1.nx,rfl,by omega,hWn1,by have:=hWn1.suf.length_le;simp;omega,⟨_,by omega,hR⟩,rfl,rfl,rfl,rfl⟩
end
end Go.Proofs.YtenheconhibonaaGreatDoor.Ab
namespace Go.Proofs.YtenheconhibonaaGreatDoor.Ab
open Go.Proofs
structure TkOk (all:List Tk):Prop where
 int:∀t∈all,t.kind=3->(∀c∈t.text.toList,isD c=true)/\numVal t.text.toList<=2147483648
 pos:∀t∈all,0<=t.pos/\t.pos<=1000000
 nam:∀t∈all,t.kind=1->opB t.text=false
theorem Qpk{all:List Tk}{s:PS}(hW:Wst all s):s.tk∈all:=by
 refine hW.suf.subset ?_
 cases hq:s.toks with
 |nil=>exact absurd hq (Qso hW.wf)
 |cons t l=>unfold PS.tk;rw[hq];simp
theorem QmF(x:ByteArray):mkB x.toList=x:=by rw[Lib.toList_data];exact QlI x
theorem Qn9{all:List Tk}(hD:TkOk all){s:PS}(hW:Wst all s)(hk:s.tk.kind=3):Pure Tryz.prog 120 [.v (.string s.tk.text)] (.i (valT s.tk.text))/\0<=valT s.tk.text/\valT s.tk.text<=2147483648:=by
 obtain⟨h1,h2⟩:=hD.int _ (Qpk hW) hk
 have:=Qjp s.tk.text.toList h1 h2
 rw[QmF]at this
 exact⟨this,by unfold valT;omega,by unfold valT;omega⟩
theorem Qhc(N:AH)(g:Nat):At N g []:=fun j b hb=>by simp at hb
section
variable{P:Pz}{ex:PS->PR T}{Nn:Nat}(HR:TRd P 143 ex Nn)(hEat:Eat 0 ex)(hKp:Kp.Ps (wdOf P.all) ex)(hN:P.all.length<=1000000)(hD:TkOk P.all)
include HR hEat hKp hN hD
theorem QmL:TRd P 180 (pOpT ex) (Nn+1):=by
 intro s hs hW h H
 refine Qe4 H 2 ?_
 have f1:=Xm h P
 have f3:=X8 h P
 have f4:=YO h P
 have f5:=XD h P
 have f6:=Ye h P
 have hi:=ph_i H s
 have hin:=ph_i H s.nx
 simp only[pB]at hi hin
 have cn:=nextL hW (YI H s)
 have ct:=fun L=>XU hW (H.app L) hN
 simp only[Xr H]at ct
 have e1:=Tk.QuV s.tk
 have e2:=Tk.QuY s.tk
 unfold pOpT
 by_cases h3:s.tk.kind=3
 ·rw[QwN h3]
  have z1:(s.tk.kind==3)=true:=by simpa using h3
  obtain⟨cv,_,_⟩:=Qn9 hD hW h3
  have ci:=Qls (valT s.tk.text)
  refine Qb Tryz.func180 rfl Tryz.call180 Tryz.ntmps180 Tryz.results180 (by simp) ?_
  repeat (first|refine FunW.QuW (cn _) ?_|refine FunW.QuW (ct _) ?_|refine Qy cv ?_|refine Qy ci ?_|refine Qn ?_);simp only[go_sem,seval,f1,f3,f4,f5,f6,hi,e1,e2,z1]
  exact .inr ⟨rfl,_,rfl,Qhc _ _⟩
 ·rw[QwJ h3]
  have z3:(s.tk.kind==3)=false:=by simpa using h3
  by_cases h2:s.tk.kind=2
  ·rw[QwN h2]
   have z2:(s.tk.kind==2)=true:=by simpa using h2
   have cv:=fun L=>Qin hW.nx (H.app L) hN s.tk.text
   simp only[Xr H]at cv
   obtain⟨hv1,hv2⟩:=Qsm (h.length+2) s.tk.text s.nx
   refine Qb Tryz.func180 rfl Tryz.call180 Tryz.ntmps180 Tryz.results180 (by simp) ?_
   repeat (first|refine FunW.QuW (cn _) ?_|refine FunW.QuW (ct _) ?_|refine FunW.QuW (cv _) ?_|refine Qn ?_);simp only[go_sem,seval,f1,f3,f4,f5,f6,hi,e1,e2,z3,z2]
   refine .inr ⟨by rw[hv1],_,rfl,?_⟩
   rw[T.Qva,hv2]
   exact Qhc _ _
  ·rw[QwJ h2]
   have z2:(s.tk.kind==2)=false:=by simpa using h2
   by_cases h1:s.tk.kind=1
   ·rw[QwN h1]
    have z1:(s.tk.kind==1)=true:=by simpa using h1
    have ca:=fun L=>Qp2 (H.app L) 3 (QpM HR hEat hKp hs hW (H.app L) hN)
    cases hr:ZH ex s with
    |err p e =>
     rw[hr]at ca
     have ca':∀L,QT Tryz.prog 148 [.ptr P.i 0 0] (ph h P s++L) fun o h'=>o = .panic (Fl p e)/\∃s1:PS,h'=ph h P s1++L:=fun L=>by
      have:=ca L
      rw[Xr H]at this
      exact this.mono fun o h' q=>by simpa only[GQ,Xr H]using q
     refine Qb Tryz.func180 rfl Tryz.call180 Tryz.ntmps180 Tryz.results180 (by simp) ?_
     repeat (first|refine FunW.QuW (cn _) ?_|refine FunW.panE (FunW.call (ca' _)) fun r=>?_|refine Qn ?_);simp only[go_sem,seval,f1,f4,f6,hi,e1,e2,z3,z2,z1]
     exact Xj H s r p e _ ⟨rfl,_,rfl⟩
    |ok a s1 =>
     rw[hr]at ca
     have ca':∀(c d:AB),QT Tryz.prog 148 [.ptr P.i 0 0] (ph h P s++[c,d]) fun o h'=>o = .ret (.agg [.v (.string a.name),lsl (h.length+2) a.args])/\h'=ph h P s1++(c::d::layA 69 (h.length+2) a.args):=fun c d=>by
      have:=ca [c,d]
      rw[Xr H]at this
      exact this.mono fun o h' q=>by simpa only[GQ,Xr H,QwG,Qv2,Qv3,QwM,Qwh,Qwg]using q
     have e5:=QfO (h.length+2) a.args
     have e6:=QfP (h.length+2) a.args
     have hat:∀(c d:AB) X,At (c::d::(layA 69 (h.length+2) a.args++X)) 2 (layA 69 (h.length+2) a.args):=fun c d X=>At.mid [c,d] _ _ rfl
     refine Qb Tryz.func180 rfl Tryz.call180 Tryz.ntmps180 Tryz.results180 (by simp) ?_
     repeat (first|refine FunW.QuW (cn _) ?_|refine FunW.QuW (ca' _ _) ?_|refine Qn ?_);simp only[go_sem,seval,f1,f3,f4,f5,f6,hi,e1,e2,z3,z2,z1,e5,Q9]
     exact .inr ⟨rfl,_,rfl,hat _ _ _⟩
   ·rw[QwJ h1]
    have z1:(s.tk.kind==1)=false:=by simpa using h1
    cases hm:s.is Qgc with
    |true =>
     rw[QwN rfl]
     have cs:=fun L=>QdK hW H hN L {data:=#[45]} (by rw[Lib.toList_data];exact hm)
     have hWn:=hW.nx
     have cn2:=nextL hWn (YI H s.nx)
     have e3:=Tk.QuV s.nx.tk
     have e4:=Tk.QuY s.nx.tk
     have hp:=hD.pos _ (Qpk hW)
     have w1:IntKind.i64.wrap (s.tk.pos+1)=s.tk.pos+1:=Yg (by omega)
     have bad:(s.nx.tk.kind≠3\/s.nx.tk.pos≠s.tk.pos+1)->QT Tryz.prog 180 [.ptr P.i 0 0] (ph h P s) (CQ 2 h P (.err s.nx.tk.pos 16)):=fun hb=>by
      have cf:=QaC s.nx.tk 16
      by_cases hk:s.nx.tk.kind=3
      ·have y1:(s.nx.tk.kind != 3)=false:=by simpa using hk
       have y2:(s.nx.tk.pos != s.tk.pos+1)=true:=by simpa using hb.resolve_left (fun q=>q hk)
       refine Qb Tryz.func180 rfl Tryz.call180 Tryz.ntmps180 Tryz.results180 (by simp) ?_
       repeat (first|refine FunW.QuW (cn _) ?_|refine FunW.QuW (cs _) ?_|refine FunW.QuW (cn2 _) ?_|refine Qn ?_);simp only[go_sem,seval,f1,f4,f6,hi,hin,e1,e2,e3,e4,z3,z2,z1,y1,y2,w1]
       refine Yp 4 [(0,1),(1,0),(2,0),(3,0)] mixed rfl rfl rfl (by kernel_rfl) (fun v h'=>v=Fl s.nx.tk.pos 16/\∃L,h'=ph h P s.nx++L) ?_ ?_
       ·rintro tm v h' ⟨rfl,L,rfl⟩
        exact Xj H s s.nx _ _ _ ⟨rfl,_,rfl⟩
       ·simp only[go_sem,seval,f4,hin,e3,e4]
        exact fun _=>(FunW.call (cf _ _)).mono (by rintro _ _ ⟨rfl,rfl⟩;exact⟨_,rfl,rfl,_,rfl⟩)
      ·have y1:(s.nx.tk.kind != 3)=true:=by simpa using hk
       refine Qb Tryz.func180 rfl Tryz.call180 Tryz.ntmps180 Tryz.results180 (by simp) ?_
       repeat (first|refine FunW.QuW (cn _) ?_|refine FunW.QuW (cs _) ?_|refine FunW.QuW (cn2 _) ?_|refine Qn ?_);simp only[go_sem,seval,f1,f4,f6,hi,hin,e1,e2,e3,e4,z3,z2,z1,y1]
       refine Yp 4 [(0,1),(1,0),(2,0),(3,0)] mixed rfl rfl rfl (by kernel_rfl) (fun v h'=>v=Fl s.nx.tk.pos 16/\∃L,h'=ph h P s.nx++L) ?_ ?_
       ·rintro tm v h' ⟨rfl,L,rfl⟩
        exact Xj H s s.nx _ _ _ ⟨rfl,_,rfl⟩
       ·simp only[go_sem,seval,f4,hin,e3,e4]
        exact fun _=>(FunW.call (cf _ _)).mono (by rintro _ _ ⟨rfl,rfl⟩;exact⟨_,rfl,rfl,_,rfl⟩)
     by_cases hb:s.nx.tk.kind≠3\/s.nx.tk.pos≠s.tk.pos+1
     ·rw[QwN hb];exact bad hb
     ·rw[QwJ hb]
      have hk:s.nx.tk.kind=3:=Classical.byContradiction fun q=>hb (.inl q)
      have hq:s.nx.tk.pos=s.tk.pos+1:=Classical.byContradiction fun q=>hb (.inr q)
      have y1:(s.nx.tk.kind != 3)=false:=by simpa using hk
      have y2:(s.nx.tk.pos != s.tk.pos+1)=false:=by simpa using hq
      obtain⟨cv,v1,v2⟩:=Qn9 hD hWn hk
      have ci:=Qls (-valT s.nx.tk.text)
      have w2:IntKind.i64.wrap (0 - valT s.nx.tk.text) = -valT s.nx.tk.text:=by rw[Yg (by omega)];omega
      have ct2:=fun L=>XU hWn (H.app L) hN
      simp only[Xr H]at ct2
      refine Qb Tryz.func180 rfl Tryz.call180 Tryz.ntmps180 Tryz.results180 (by simp) ?_
      repeat (first|refine FunW.QuW (cn _) ?_|refine FunW.QuW (cs _) ?_|refine FunW.QuW (cn2 _) ?_|refine FunW.QuW (ct2 _) ?_|refine Qy cv ?_|refine Qy ci ?_|refine Qn ?_);simp only[go_sem,seval,f1,f3,f4,f5,f6,hi,hin,e1,e2,e3,e4,z3,z2,z1,y1,y2,w1,w2]
      exact .inr ⟨rfl,_,rfl,Qhc _ _⟩
    |false =>
     rw[QwJ (by simp)]
     have cs:=fun L=>Qe1 hW H hN L {data:=#[45]} (by rw[Lib.toList_data];exact hm)
     cases hl:s.is sLp with
     |false =>
      rw[QwJ (by simp)]
      have ce:=fun L=>Qam hW H hN L {data:=#[40]} (by rw[Lib.toList_data];exact hl)
      refine Qb Tryz.func180 rfl Tryz.call180 Tryz.ntmps180 Tryz.results180 (by simp) ?_
      repeat (first|refine FunW.QuW (cn _) ?_|refine FunW.QuW (cs _) ?_|refine FunW.pan (FunW.call (ce _)) ?_|refine Qn ?_);simp only[go_sem,seval,f1,f4,f6,hi,e1,e2,z3,z2,z1]
      exact Xj H s s _ _ _ ⟨rfl,_,rfl⟩
     |true =>
      rw[QwN rfl]
      have ce:=fun L=>ZS hW H hN L {data:=#[40]} (by rw[Lib.toList_data];exact hl)
      have hWn:=hW.nx
      have hln:=YU hW.wf (PS.Qu1 hl)
      cases hr:ex s.nx with
      |err p e =>
       have cx:=fun L=>TRd.err HR (s:=s.nx) (by omega) hWn H hr L
       refine Qb Tryz.func180 rfl Tryz.call180 Tryz.ntmps180 Tryz.results180 (by simp) ?_
       repeat (first|refine FunW.QuW (cn _) ?_|refine FunW.QuW (cs _) ?_|refine FunW.QuW (ce _) ?_|refine FunW.panE (FunW.call (cx _)) fun r=>?_|refine Qn ?_);simp only[go_sem,seval,f1,f4,f6,hi,e1,e2,z3,z2,z1]
       exact Xj H s r _ _ _ ⟨rfl,_,rfl⟩
      |ok t s1 =>
       have cx:=fun(c d:AB)=>TRd.ok HR (s:=s.nx) (by omega) hWn H hr [c,d] (k:=h.length+2) rfl
       simp only[Qwh,Qwg]at cx
       have hW1:Wst P.all s1:=Kp.Ps.ok hKp hWn hr
       have hi1:=ph_i H s1
       simp only[pB]at hi1
       have e5:=T.Qu0 (h.length+2) t
       have e6:=T.Qu3 (h.length+2) t
       have hat:∀(c d:AB) X,At (c::d::(t.lay 69 (h.length+2)++X)) 2 (t.lay 69 (h.length+2)):=fun c d X=>At.mid [c,d] _ _ rfl
       simp only[PR.bind,Z8]
       cases hp2:s1.is sRp with
       |false =>
        rw[QwJ (by simp)]
        have ce2:=fun L=>Qam hW1 H hN L {data:=#[41]} (by rw[Lib.toList_data];exact hp2)
        refine Qb Tryz.func180 rfl Tryz.call180 Tryz.ntmps180 Tryz.results180 (by simp) ?_
        repeat (first|refine FunW.QuW (cn _) ?_|refine FunW.QuW (cs _) ?_|refine FunW.QuW (ce _) ?_|refine FunW.QuW (cx _ _) ?_|refine FunW.pan (FunW.call (ce2 _)) ?_|refine Qn ?_);simp only[go_sem,seval,f1,f4,f6,hi,hi1,e1,e2,e5,e6,Q9,z3,z2,z1]
        exact Xj H s s1 _ _ _ ⟨rfl,_,rfl⟩
       |true =>
        rw[QwN rfl]
        have ce2:=fun L=>ZS hW1 H hN L {data:=#[41]} (by rw[Lib.toList_data];exact hp2)
        refine Qb Tryz.func180 rfl Tryz.call180 Tryz.ntmps180 Tryz.results180 (by simp) ?_
        repeat (first|refine FunW.QuW (cn _) ?_|refine FunW.QuW (cs _) ?_|refine FunW.QuW (ce _) ?_|refine FunW.QuW (cx _ _) ?_|refine FunW.QuW (ce2 _) ?_|refine Qn ?_);simp only[go_sem,seval,f1,f3,f4,f5,f6,hi,hi1,e1,e2,e5,e6,Q9,z3,z2,z1]
        exact .inr ⟨rfl,_,rfl,hat _ _ _⟩
end
end Go.Proofs.YtenheconhibonaaGreatDoor.Ab
namespace Go.Proofs.YtenheconhibonaaGreatDoor.Ab
open Go.Proofs
theorem TRd.congr{P:Pz}{f:FuncId}{g g':PS->PR T}{N:Nat}(HR:TRd P f g N)(he:∀s:PS,Wst P.all s->s.toks.length<N->g s=g' s):TRd P f g' N:=fun s hs hW h H=>by rw[<-he s hW hs];exact HR s hs hW h H
section
variable{P:Pz}(hN:P.all.length<=1000000)(hD:TkOk P.all)
include hN hD
theorem Qll:∀N:Nat,TRd P 143 (YE N) N
 |0=>fun s hs=>absurd hs (Nat.not_lt_zero _)
 |N+1=>by
  have h0:=Qll N
  have hE0:Eat 0 (YE N):=(Qcb N).less (by omega)
  have hK0:Kp.Ps (wdOf P.all) (YE N):=Kp.exprT_ps trivial N
  have h1:=QmL h0 hE0 hK0 hN hD
  have hE1:Eat 0 (pOpT (YE N)):=(Qf2 hE0).less (by omega)
  have hK1:Kp.Ps (wdOf P.all) (pOpT (YE N)):=Kp.opT_ps trivial hK0
  have h2:=QmO hE1 hK1 hN h1
  have hE2:Eat 0 (XN (pOpT (YE N)) XK):=Qbw hE1 XK
  have hK2:Kp.Ps (wdOf P.all) (XN (pOpT (YE N)) XK):=Kp.chain_ps trivial hK1 XK
  exact Qrx hE2 hK2 hN h2
theorem Qk0:TRd P 143 X7 1000001 :=
 (Qll hN hD 1000001).congr fun s hW hs=>Qeg hW.wf hs
end
end Go.Proofs.YtenheconhibonaaGreatDoor.Ab
namespace Go.Proofs.YtenheconhibonaaGreatDoor.Ab
open Go.Proofs
def MQ(h:AH)(P:Pz)(s:PS):Option (Int×Bool)->AOut->AH->Prop
 |some (op,sw),o,h'=>o = .ret (.tup [.i op,.b sw,.b true])/\h'=ph h P s.nx
 |none,o,h'=>o = .ret (.tup [.i 0,.b false,.b false])/\h'=ph h P s
section
variable{P:Pz}{s:PS}(hW:Wst P.all s){h:AH}(H:P.ok h)(hN:P.all.length<=1000000)
include hW H hN
omit hW H hN in
theorem Yz(n:Nat)(a:Int)(b c:Bool):Below n (.tup [.i a,.b b,.b c]):=.tup _ fun x hx=>by
 simp only[QwS,Qw4,QxK]at hx
 rcases hx with rfl|rfl|rfl <;> exact .v _
theorem QsE(hk:s.tk.kind=1)(hx:s.tk.text.toList=[105,115]):QT Tryz.prog 144 [.ptr P.i 0 0] (ph h P s) (MQ h P s (some (4,false))):=by
 have f1:=Xm h P
 have f3:=X8 h P
 have f4:=YO h P
 have f5:=XD h P
 have f6:=Ye h P
 have hi:=ph_i H s
 have hi0:=YI H s
 have hin:=ph_i H s.nx
 simp only[pB]at hi hi0 hin
 have cn:=X6 hW (YI H s)
 have ct:=fun L=>XU hW (H.app L) hN
 simp only[Xr H]at ct
 have e1:=Tk.QuV s.tk
 have e2:=Tk.QuY s.tk
 have z1:(s.tk.kind==1)=true:=by simpa using hk
 have z2:(s.tk.text.toList==({data:=#[105,115]}:ByteArray).toList)=true:=by rw[hx,Lib.toList_data];rfl
 refine Qb Tryz.func144 rfl Tryz.call144 Tryz.ntmps144 Tryz.results144 (by simp) ?_
 repeat (first|refine FunW.QuW cn ?_|refine FunW.QuW (ct _) ?_|refine Qn ?_);simp only[go_sem,seval,f1,f3,f5,hi,hi0,e1,e2,z1,z2]
 exact XB H (s:=s) (s':=s.nx) (.keep (Yz _ _ _ _)) ⟨rfl,rfl⟩
theorem QpQ(hk:s.tk.kind=1)(hx:s.tk.text.toList≠[105,115]):QT Tryz.prog 144 [.ptr P.i 0 0] (ph h P s) (MQ h P s (none)):=by
 have f1:=Xm h P
 have f3:=X8 h P
 have f4:=YO h P
 have f5:=XD h P
 have f6:=Ye h P
 have hi:=ph_i H s
 have hi0:=YI H s
 have hin:=ph_i H s.nx
 simp only[pB]at hi hi0 hin
 have cn:=X6 hW (YI H s)
 have ct:=fun L=>XU hW (H.app L) hN
 simp only[Xr H]at ct
 have e1:=Tk.QuV s.tk
 have e2:=Tk.QuY s.tk
 have z1:(s.tk.kind==1)=true:=by simpa using hk
 have z2:(s.tk.text.toList==({data:=#[105,115]}:ByteArray).toList)=false:=by rw[Lib.toList_data ({data:=#[105,115]}:ByteArray)];simpa using hx
 have z3:(s.tk.kind != 4)=true:=by rw[hk];rfl
 refine Qb Tryz.func144 rfl Tryz.call144 Tryz.ntmps144 Tryz.results144 (by simp) ?_
 repeat (first|refine FunW.QuW cn ?_|refine Qn ?_);simp only[go_sem,seval,f1,f3,f5,hi0,e1,e2,z1,z2,z3]
 exact XB H (s:=s) (s':=s) (.keep (Yz _ _ _ _)) ⟨rfl,rfl⟩
theorem QnN(hk:s.tk.kind≠1)(hk4:s.tk.kind≠4):QT Tryz.prog 144 [.ptr P.i 0 0] (ph h P s) (MQ h P s (none)):=by
 have f1:=Xm h P
 have f3:=X8 h P
 have f4:=YO h P
 have f5:=XD h P
 have f6:=Ye h P
 have hi:=ph_i H s
 have hi0:=YI H s
 have hin:=ph_i H s.nx
 simp only[pB]at hi hi0 hin
 have cn:=X6 hW (YI H s)
 have ct:=fun L=>XU hW (H.app L) hN
 simp only[Xr H]at ct
 have e1:=Tk.QuV s.tk
 have e2:=Tk.QuY s.tk
 have z1:(s.tk.kind==1)=false:=by simpa using hk
 have z3:(s.tk.kind != 4)=true:=by simpa using hk4
 refine Qb Tryz.func144 rfl Tryz.call144 Tryz.ntmps144 Tryz.results144 (by simp) ?_
 repeat (first|refine FunW.QuW cn ?_|refine Qn ?_);simp only[go_sem,seval,f1,f3,f5,hi0,e1,e2,z1,z3]
 exact XB H (s:=s) (s':=s) (.keep (Yz _ _ _ _)) ⟨rfl,rfl⟩
theorem QtN(hk:s.tk.kind=4)(hx:s.tk.text.toList=[61]):QT Tryz.prog 144 [.ptr P.i 0 0] (ph h P s) (MQ h P s (some (3,false))):=by
 have f1:=Xm h P
 have f3:=X8 h P
 have f4:=YO h P
 have f5:=XD h P
 have f6:=Ye h P
 have hi:=ph_i H s
 have hi0:=YI H s
 have hin:=ph_i H s.nx
 simp only[pB]at hi hi0 hin
 have cn:=X6 hW (YI H s)
 have ct:=fun L=>XU hW (H.app L) hN
 simp only[Xr H]at ct
 have e1:=Tk.QuV s.tk
 have e2:=Tk.QuY s.tk
 have z1:(s.tk.kind==1)=false:=by rw[hk];rfl
 have z3:(s.tk.kind != 4)=false:=by rw[hk];rfl
 have y0:(s.tk.text.toList==({data:=#[61]}:ByteArray).toList)=true:=by rw[hx,Lib.toList_data];rfl
 refine Qb Tryz.func144 rfl Tryz.call144 Tryz.ntmps144 Tryz.results144 (by simp) ?_
 repeat first|(first|refine FunW.QuW cn ?_|refine FunW.QuW (ct _) ?_|refine Qn ?_);simp only[go_sem,seval,f1,f3,f5,hi0,e1,e2,z1,z3,y0,hi,f4,f6,hin]|refine hK _ ?_;clear hK|clear hK;clear hK;refine hK _ ?_;clear hK
 exact XB H (s:=s) (s':=s.nx) (.keep (Yz _ _ _ _)) ⟨rfl,rfl⟩
theorem QtO(hk:s.tk.kind=4)(hx:s.tk.text.toList=[61,61]):QT Tryz.prog 144 [.ptr P.i 0 0] (ph h P s) (MQ h P s (some (5,false))):=by
 have f1:=Xm h P
 have f3:=X8 h P
 have f4:=YO h P
 have f5:=XD h P
 have f6:=Ye h P
 have hi:=ph_i H s
 have hi0:=YI H s
 have hin:=ph_i H s.nx
 simp only[pB]at hi hi0 hin
 have cn:=X6 hW (YI H s)
 have ct:=fun L=>XU hW (H.app L) hN
 simp only[Xr H]at ct
 have e1:=Tk.QuV s.tk
 have e2:=Tk.QuY s.tk
 have z1:(s.tk.kind==1)=false:=by rw[hk];rfl
 have z3:(s.tk.kind != 4)=false:=by rw[hk];rfl
 have y0:(s.tk.text.toList==({data:=#[61]}:ByteArray).toList)=false:=by rw[hx,Lib.toList_data];rfl
 have y1:(s.tk.text.toList==({data:=#[61,61]}:ByteArray).toList)=true:=by rw[hx,Lib.toList_data];rfl
 refine Qb Tryz.func144 rfl Tryz.call144 Tryz.ntmps144 Tryz.results144 (by simp) ?_
 repeat first|(first|refine FunW.QuW cn ?_|refine FunW.QuW (ct _) ?_|refine Qn ?_);simp only[go_sem,seval,f1,f3,f5,hi0,e1,e2,z1,z3,y0,y1,hi,f4,f6,hin]|refine hK _ ?_;clear hK|clear hK;clear hK;clear hK;refine hK _ ?_;clear hK
 exact XB H (s:=s) (s':=s.nx) (.keep (Yz _ _ _ _)) ⟨rfl,rfl⟩
theorem QtP(hk:s.tk.kind=4)(hx:s.tk.text.toList=[92,61]):QT Tryz.prog 144 [.ptr P.i 0 0] (ph h P s) (MQ h P s (some (6,false))):=by
 have f1:=Xm h P
 have f3:=X8 h P
 have f4:=YO h P
 have f5:=XD h P
 have f6:=Ye h P
 have hi:=ph_i H s
 have hi0:=YI H s
 have hin:=ph_i H s.nx
 simp only[pB]at hi hi0 hin
 have cn:=X6 hW (YI H s)
 have ct:=fun L=>XU hW (H.app L) hN
 simp only[Xr H]at ct
 have e1:=Tk.QuV s.tk
 have e2:=Tk.QuY s.tk
 have z1:(s.tk.kind==1)=false:=by rw[hk];rfl
 have z3:(s.tk.kind != 4)=false:=by rw[hk];rfl
 have y0:(s.tk.text.toList==({data:=#[61]}:ByteArray).toList)=false:=by rw[hx,Lib.toList_data];rfl
 have y1:(s.tk.text.toList==({data:=#[61,61]}:ByteArray).toList)=false:=by rw[hx,Lib.toList_data];rfl
 have y2:(s.tk.text.toList==({data:=#[92,61]}:ByteArray).toList)=true:=by rw[hx,Lib.toList_data];rfl
 refine Qb Tryz.func144 rfl Tryz.call144 Tryz.ntmps144 Tryz.results144 (by simp) ?_
 repeat first|(first|refine FunW.QuW cn ?_|refine FunW.QuW (ct _) ?_|refine Qn ?_);simp only[go_sem,seval,f1,f3,f5,hi0,e1,e2,z1,z3,y0,y1,y2,hi,f4,f6,hin]|refine hK _ ?_;clear hK
 exact XB H (s:=s) (s':=s.nx) (.keep (Yz _ _ _ _)) ⟨rfl,rfl⟩
theorem QtQ(hk:s.tk.kind=4)(hx:s.tk.text.toList=[62]):QT Tryz.prog 144 [.ptr P.i 0 0] (ph h P s) (MQ h P s (some (7,true))):=by
 have f1:=Xm h P
 have f3:=X8 h P
 have f4:=YO h P
 have f5:=XD h P
 have f6:=Ye h P
 have hi:=ph_i H s
 have hi0:=YI H s
 have hin:=ph_i H s.nx
 simp only[pB]at hi hi0 hin
 have cn:=X6 hW (YI H s)
 have ct:=fun L=>XU hW (H.app L) hN
 simp only[Xr H]at ct
 have e1:=Tk.QuV s.tk
 have e2:=Tk.QuY s.tk
 have z1:(s.tk.kind==1)=false:=by rw[hk];rfl
 have z3:(s.tk.kind != 4)=false:=by rw[hk];rfl
 have y0:(s.tk.text.toList==({data:=#[61]}:ByteArray).toList)=false:=by rw[hx,Lib.toList_data];rfl
 have y1:(s.tk.text.toList==({data:=#[61,61]}:ByteArray).toList)=false:=by rw[hx,Lib.toList_data];rfl
 have y2:(s.tk.text.toList==({data:=#[92,61]}:ByteArray).toList)=false:=by rw[hx,Lib.toList_data];rfl
 have y3:(s.tk.text.toList==({data:=#[62]}:ByteArray).toList)=true:=by rw[hx,Lib.toList_data];rfl
 refine Qb Tryz.func144 rfl Tryz.call144 Tryz.ntmps144 Tryz.results144 (by simp) ?_
 repeat first|(first|refine FunW.QuW cn ?_|refine FunW.QuW (ct _) ?_|refine Qn ?_);simp only[go_sem,seval,f1,f3,f5,hi0,e1,e2,z1,z3,y0,y1,y2,y3,hi,f4,f6,hin]|refine hK _ ?_;clear hK
 exact XB H (s:=s) (s':=s.nx) (.keep (Yz _ _ _ _)) ⟨rfl,rfl⟩
theorem QtR(hk:s.tk.kind=4)(hx:s.tk.text.toList=[60]):QT Tryz.prog 144 [.ptr P.i 0 0] (ph h P s) (MQ h P s (some (7,false))):=by
 have f1:=Xm h P
 have f3:=X8 h P
 have f4:=YO h P
 have f5:=XD h P
 have f6:=Ye h P
 have hi:=ph_i H s
 have hi0:=YI H s
 have hin:=ph_i H s.nx
 simp only[pB]at hi hi0 hin
 have cn:=X6 hW (YI H s)
 have ct:=fun L=>XU hW (H.app L) hN
 simp only[Xr H]at ct
 have e1:=Tk.QuV s.tk
 have e2:=Tk.QuY s.tk
 have z1:(s.tk.kind==1)=false:=by rw[hk];rfl
 have z3:(s.tk.kind != 4)=false:=by rw[hk];rfl
 have y0:(s.tk.text.toList==({data:=#[61]}:ByteArray).toList)=false:=by rw[hx,Lib.toList_data];rfl
 have y1:(s.tk.text.toList==({data:=#[61,61]}:ByteArray).toList)=false:=by rw[hx,Lib.toList_data];rfl
 have y2:(s.tk.text.toList==({data:=#[92,61]}:ByteArray).toList)=false:=by rw[hx,Lib.toList_data];rfl
 have y3:(s.tk.text.toList==({data:=#[62]}:ByteArray).toList)=false:=by rw[hx,Lib.toList_data];rfl
 have y4:(s.tk.text.toList==({data:=#[60]}:ByteArray).toList)=true:=by rw[hx,Lib.toList_data];rfl
 refine Qb Tryz.func144 rfl Tryz.call144 Tryz.ntmps144 Tryz.results144 (by simp) ?_
 repeat first|(first|refine FunW.QuW cn ?_|refine FunW.QuW (ct _) ?_|refine Qn ?_);simp only[go_sem,seval,f1,f3,f5,hi0,e1,e2,z1,z3,y0,y1,y2,y3,y4,hi,f4,f6,hin]|refine hK _ ?_;clear hK
 exact XB H (s:=s) (s':=s.nx) (.keep (Yz _ _ _ _)) ⟨rfl,rfl⟩
theorem QtS(hk:s.tk.kind=4)(hx:s.tk.text.toList=[62,61]):QT Tryz.prog 144 [.ptr P.i 0 0] (ph h P s) (MQ h P s (some (8,true))):=by
 have f1:=Xm h P
 have f3:=X8 h P
 have f4:=YO h P
 have f5:=XD h P
 have f6:=Ye h P
 have hi:=ph_i H s
 have hi0:=YI H s
 have hin:=ph_i H s.nx
 simp only[pB]at hi hi0 hin
 have cn:=X6 hW (YI H s)
 have ct:=fun L=>XU hW (H.app L) hN
 simp only[Xr H]at ct
 have e1:=Tk.QuV s.tk
 have e2:=Tk.QuY s.tk
 have z1:(s.tk.kind==1)=false:=by rw[hk];rfl
 have z3:(s.tk.kind != 4)=false:=by rw[hk];rfl
 have y0:(s.tk.text.toList==({data:=#[61]}:ByteArray).toList)=false:=by rw[hx,Lib.toList_data];rfl
 have y1:(s.tk.text.toList==({data:=#[61,61]}:ByteArray).toList)=false:=by rw[hx,Lib.toList_data];rfl
 have y2:(s.tk.text.toList==({data:=#[92,61]}:ByteArray).toList)=false:=by rw[hx,Lib.toList_data];rfl
 have y3:(s.tk.text.toList==({data:=#[62]}:ByteArray).toList)=false:=by rw[hx,Lib.toList_data];rfl
 have y4:(s.tk.text.toList==({data:=#[60]}:ByteArray).toList)=false:=by rw[hx,Lib.toList_data];rfl
 have y5:(s.tk.text.toList==({data:=#[62,61]}:ByteArray).toList)=true:=by rw[hx,Lib.toList_data];rfl
 refine Qb Tryz.func144 rfl Tryz.call144 Tryz.ntmps144 Tryz.results144 (by simp) ?_
 repeat first|(first|refine FunW.QuW cn ?_|refine FunW.QuW (ct _) ?_|refine Qn ?_);simp only[go_sem,seval,f1,f3,f5,hi0,e1,e2,z1,z3,y0,y1,y2,y3,y4,y5,hi,f4,f6,hin]|refine hK _ ?_;clear hK|clear hK;clear hK;clear hK;refine hK _ ?_;clear hK
 exact XB H (s:=s) (s':=s.nx) (.keep (Yz _ _ _ _)) ⟨rfl,rfl⟩
theorem QtT(hk:s.tk.kind=4)(hx:s.tk.text.toList=[61,60]):QT Tryz.prog 144 [.ptr P.i 0 0] (ph h P s) (MQ h P s (some (8,false))):=by
 have f1:=Xm h P
 have f3:=X8 h P
 have f4:=YO h P
 have f5:=XD h P
 have f6:=Ye h P
 have hi:=ph_i H s
 have hi0:=YI H s
 have hin:=ph_i H s.nx
 simp only[pB]at hi hi0 hin
 have cn:=X6 hW (YI H s)
 have ct:=fun L=>XU hW (H.app L) hN
 simp only[Xr H]at ct
 have e1:=Tk.QuV s.tk
 have e2:=Tk.QuY s.tk
 have z1:(s.tk.kind==1)=false:=by rw[hk];rfl
 have z3:(s.tk.kind != 4)=false:=by rw[hk];rfl
 have y0:(s.tk.text.toList==({data:=#[61]}:ByteArray).toList)=false:=by rw[hx,Lib.toList_data];rfl
 have y1:(s.tk.text.toList==({data:=#[61,61]}:ByteArray).toList)=false:=by rw[hx,Lib.toList_data];rfl
 have y2:(s.tk.text.toList==({data:=#[92,61]}:ByteArray).toList)=false:=by rw[hx,Lib.toList_data];rfl
 have y3:(s.tk.text.toList==({data:=#[62]}:ByteArray).toList)=false:=by rw[hx,Lib.toList_data];rfl
 have y4:(s.tk.text.toList==({data:=#[60]}:ByteArray).toList)=false:=by rw[hx,Lib.toList_data];rfl
 have y5:(s.tk.text.toList==({data:=#[62,61]}:ByteArray).toList)=false:=by rw[hx,Lib.toList_data];rfl
 have y6:(s.tk.text.toList==({data:=#[61,60]}:ByteArray).toList)=true:=by rw[hx,Lib.toList_data];rfl
 refine Qb Tryz.func144 rfl Tryz.call144 Tryz.ntmps144 Tryz.results144 (by simp) ?_
 repeat first|(first|refine FunW.QuW cn ?_|refine FunW.QuW (ct _) ?_|refine Qn ?_);simp only[go_sem,seval,f1,f3,f5,hi0,e1,e2,z1,z3,y0,y1,y2,y3,y4,y5,y6,hi,f4,f6,hin]|refine hK _ ?_;clear hK|clear hK;clear hK;clear hK;refine hK _ ?_;clear hK
 exact XB H (s:=s) (s':=s.nx) (.keep (Yz _ _ _ _)) ⟨rfl,rfl⟩
theorem QtU(hk:s.tk.kind=4)(hx:s.tk.text.toList=[61,58,61]):QT Tryz.prog 144 [.ptr P.i 0 0] (ph h P s) (MQ h P s (some (9,false))):=by
 have f1:=Xm h P
 have f3:=X8 h P
 have f4:=YO h P
 have f5:=XD h P
 have f6:=Ye h P
 have hi:=ph_i H s
 have hi0:=YI H s
 have hin:=ph_i H s.nx
 simp only[pB]at hi hi0 hin
 have cn:=X6 hW (YI H s)
 have ct:=fun L=>XU hW (H.app L) hN
 simp only[Xr H]at ct
 have e1:=Tk.QuV s.tk
 have e2:=Tk.QuY s.tk
 have z1:(s.tk.kind==1)=false:=by rw[hk];rfl
 have z3:(s.tk.kind != 4)=false:=by rw[hk];rfl
 have y0:(s.tk.text.toList==({data:=#[61]}:ByteArray).toList)=false:=by rw[hx,Lib.toList_data];rfl
 have y1:(s.tk.text.toList==({data:=#[61,61]}:ByteArray).toList)=false:=by rw[hx,Lib.toList_data];rfl
 have y2:(s.tk.text.toList==({data:=#[92,61]}:ByteArray).toList)=false:=by rw[hx,Lib.toList_data];rfl
 have y3:(s.tk.text.toList==({data:=#[62]}:ByteArray).toList)=false:=by rw[hx,Lib.toList_data];rfl
 have y4:(s.tk.text.toList==({data:=#[60]}:ByteArray).toList)=false:=by rw[hx,Lib.toList_data];rfl
 have y5:(s.tk.text.toList==({data:=#[62,61]}:ByteArray).toList)=false:=by rw[hx,Lib.toList_data];rfl
 have y6:(s.tk.text.toList==({data:=#[61,60]}:ByteArray).toList)=false:=by rw[hx,Lib.toList_data];rfl
 have y7:(s.tk.text.toList==({data:=#[61,58,61]}:ByteArray).toList)=true:=by rw[hx,Lib.toList_data];rfl
 refine Qb Tryz.func144 rfl Tryz.call144 Tryz.ntmps144 Tryz.results144 (by simp) ?_
 repeat first|(first|refine FunW.QuW cn ?_|refine FunW.QuW (ct _) ?_|refine Qn ?_);simp only[go_sem,seval,f1,f3,f5,hi0,e1,e2,z1,z3,y0,y1,y2,y3,y4,y5,y6,y7,hi,f4,f6,hin]|refine hK _ ?_;clear hK|clear hK;clear hK;refine hK _ ?_;clear hK
 exact XB H (s:=s) (s':=s.nx) (.keep (Yz _ _ _ _)) ⟨rfl,rfl⟩
theorem QtV(hk:s.tk.kind=4)(hx:s.tk.text.toList=[61,92,61]):QT Tryz.prog 144 [.ptr P.i 0 0] (ph h P s) (MQ h P s (some (10,false))):=by
 have f1:=Xm h P
 have f3:=X8 h P
 have f4:=YO h P
 have f5:=XD h P
 have f6:=Ye h P
 have hi:=ph_i H s
 have hi0:=YI H s
 have hin:=ph_i H s.nx
 simp only[pB]at hi hi0 hin
 have cn:=X6 hW (YI H s)
 have ct:=fun L=>XU hW (H.app L) hN
 simp only[Xr H]at ct
 have e1:=Tk.QuV s.tk
 have e2:=Tk.QuY s.tk
 have z1:(s.tk.kind==1)=false:=by rw[hk];rfl
 have z3:(s.tk.kind != 4)=false:=by rw[hk];rfl
 have y0:(s.tk.text.toList==({data:=#[61]}:ByteArray).toList)=false:=by rw[hx,Lib.toList_data];rfl
 have y1:(s.tk.text.toList==({data:=#[61,61]}:ByteArray).toList)=false:=by rw[hx,Lib.toList_data];rfl
 have y2:(s.tk.text.toList==({data:=#[92,61]}:ByteArray).toList)=false:=by rw[hx,Lib.toList_data];rfl
 have y3:(s.tk.text.toList==({data:=#[62]}:ByteArray).toList)=false:=by rw[hx,Lib.toList_data];rfl
 have y4:(s.tk.text.toList==({data:=#[60]}:ByteArray).toList)=false:=by rw[hx,Lib.toList_data];rfl
 have y5:(s.tk.text.toList==({data:=#[62,61]}:ByteArray).toList)=false:=by rw[hx,Lib.toList_data];rfl
 have y6:(s.tk.text.toList==({data:=#[61,60]}:ByteArray).toList)=false:=by rw[hx,Lib.toList_data];rfl
 have y7:(s.tk.text.toList==({data:=#[61,58,61]}:ByteArray).toList)=false:=by rw[hx,Lib.toList_data];rfl
 have y8:(s.tk.text.toList==({data:=#[61,92,61]}:ByteArray).toList)=true:=by rw[hx,Lib.toList_data];rfl
 refine Qb Tryz.func144 rfl Tryz.call144 Tryz.ntmps144 Tryz.results144 (by simp) ?_
 repeat first|(first|refine FunW.QuW cn ?_|refine FunW.QuW (ct _) ?_|refine Qn ?_);simp only[go_sem,seval,f1,f3,f5,hi0,e1,e2,z1,z3,y0,y1,y2,y3,y4,y5,y6,y7,y8,hi,f4,f6,hin]|refine hK _ ?_;clear hK|clear hK;refine hK _ ?_;clear hK
 exact XB H (s:=s) (s':=s.nx) (.keep (Yz _ _ _ _)) ⟨rfl,rfl⟩
theorem QpO(hk:s.tk.kind=4)(h0:s.tk.text.toList≠[61])(h1:s.tk.text.toList≠[61,61])(h2:s.tk.text.toList≠[92,61])(h3:s.tk.text.toList≠[62])(h4:s.tk.text.toList≠[60])(h5:s.tk.text.toList≠[62,61])(h6:s.tk.text.toList≠[61,60])(h7:s.tk.text.toList≠[61,58,61])(h8:s.tk.text.toList≠[61,92,61]):QT Tryz.prog 144 [.ptr P.i 0 0] (ph h P s) (MQ h P s (none)):=by
 have f1:=Xm h P
 have f3:=X8 h P
 have f4:=YO h P
 have f5:=XD h P
 have f6:=Ye h P
 have hi:=ph_i H s
 have hi0:=YI H s
 have hin:=ph_i H s.nx
 simp only[pB]at hi hi0 hin
 have cn:=X6 hW (YI H s)
 have ct:=fun L=>XU hW (H.app L) hN
 simp only[Xr H]at ct
 have e1:=Tk.QuV s.tk
 have e2:=Tk.QuY s.tk
 have z1:(s.tk.kind==1)=false:=by rw[hk];rfl
 have z3:(s.tk.kind != 4)=false:=by rw[hk];rfl
 have y0:(s.tk.text.toList==({data:=#[61]}:ByteArray).toList)=false:=by rw[Lib.toList_data ({data:=#[61]}:ByteArray)];simpa using h0
 have y1:(s.tk.text.toList==({data:=#[61,61]}:ByteArray).toList)=false:=by rw[Lib.toList_data ({data:=#[61,61]}:ByteArray)];simpa using h1
 have y2:(s.tk.text.toList==({data:=#[92,61]}:ByteArray).toList)=false:=by rw[Lib.toList_data ({data:=#[92,61]}:ByteArray)];simpa using h2
 have y3:(s.tk.text.toList==({data:=#[62]}:ByteArray).toList)=false:=by rw[Lib.toList_data ({data:=#[62]}:ByteArray)];simpa using h3
 have y4:(s.tk.text.toList==({data:=#[60]}:ByteArray).toList)=false:=by rw[Lib.toList_data ({data:=#[60]}:ByteArray)];simpa using h4
 have y5:(s.tk.text.toList==({data:=#[62,61]}:ByteArray).toList)=false:=by rw[Lib.toList_data ({data:=#[62,61]}:ByteArray)];simpa using h5
 have y6:(s.tk.text.toList==({data:=#[61,60]}:ByteArray).toList)=false:=by rw[Lib.toList_data ({data:=#[61,60]}:ByteArray)];simpa using h6
 have y7:(s.tk.text.toList==({data:=#[61,58,61]}:ByteArray).toList)=false:=by rw[Lib.toList_data ({data:=#[61,58,61]}:ByteArray)];simpa using h7
 have y8:(s.tk.text.toList==({data:=#[61,92,61]}:ByteArray).toList)=false:=by rw[Lib.toList_data ({data:=#[61,92,61]}:ByteArray)];simpa using h8
 refine Qb Tryz.func144 rfl Tryz.call144 Tryz.ntmps144 Tryz.results144 (by simp) ?_
 repeat first|(first|refine FunW.QuW cn ?_|refine Qn ?_);simp only[go_sem,seval,f1,f3,f5,hi0,e1,e2,z1,z3,y0,y1,y2,y3,y4,y5,y6,y7,y8,f4,f6,hi,hin]|refine hK _ ?_;clear hK
 exact XB H (s:=s) (s':=s) (.keep (Yz _ _ _ _)) ⟨rfl,rfl⟩
theorem Qfs:QT Tryz.prog 144 [.ptr P.i 0 0] (ph h P s) (MQ h P s (cmpOp s)):=by
 unfold cmpOp
 by_cases hk:s.tk.kind=1
 ·rw[QwN hk]
  by_cases hx:s.tk.text.toList=[105,115]
  ·rw[QwN hx];exact QsE hW H hN hk hx
  ·rw[QwJ hx];exact QpQ hW H hN hk hx
 rw[QwJ hk]
 by_cases hk4:s.tk.kind=4
 case neg=>rw[QwN hk4];exact QnN hW H hN hk hk4
 rw[QwJ (by simpa using hk4)]
 by_cases h0:s.tk.text.toList=[61]
 ·rw[QwN h0];exact QtN hW H hN hk4 h0
 rw[QwJ h0]
 by_cases h1:s.tk.text.toList=[61,61]
 ·rw[QwN h1];exact QtO hW H hN hk4 h1
 rw[QwJ h1]
 by_cases h2:s.tk.text.toList=[92,61]
 ·rw[QwN h2];exact QtP hW H hN hk4 h2
 rw[QwJ h2]
 by_cases h4:s.tk.text.toList=[60]
 ·rw[QwN h4];exact QtR hW H hN hk4 h4
 rw[QwJ h4]
 by_cases h6:s.tk.text.toList=[61,60]
 ·rw[QwN h6];exact QtT hW H hN hk4 h6
 rw[QwJ h6]
 by_cases h3:s.tk.text.toList=[62]
 ·rw[QwN h3];exact QtQ hW H hN hk4 h3
 rw[QwJ h3]
 by_cases h5:s.tk.text.toList=[62,61]
 ·rw[QwN h5];exact QtS hW H hN hk4 h5
 rw[QwJ h5]
 by_cases h7:s.tk.text.toList=[61,58,61]
 ·rw[QwN h7];exact QtU hW H hN hk4 h7
 rw[QwJ h7]
 by_cases h8:s.tk.text.toList=[61,92,61]
 ·rw[QwN h8];exact QtV hW H hN hk4 h8
 rw[QwJ h8]
 exact QpO hW H hN hk4 h0 h1 h2 h3 h4 h5 h6 h7 h8
end
end Go.Proofs.YtenheconhibonaaGreatDoor.Ab
namespace Go.Proofs.YtenheconhibonaaGreatDoor.Ab
theorem Qqc(tt:TypeId)(n:Nat)(x y:T):layA tt n [x,y]=x.lay tt n++(.dead::(y.lay tt (n+x.sz+1)++[.cells tt 4 [x.lv n,y.lv (n+x.sz+1)]])):=by
 simp only[layA,lays,lvs,Qww,Qwv,QvT,QxC,QxP]
def tauT(n px sx pd py sy pr:Nat):Nat->Nat:=fun i=>if i<n then i else if i<n+sx then px+(i - n)else if i=n+sx then pd else if i<n+sx+1+sy then py+(i - n - sx - 1)else pr+(i - (n+sx+1+sy))
theorem QrY{tt:TypeId}{A N:AH}{n:Nat}(hn:A.length=n)(hb:∀b∈A,b.Below n)(x y:T){px pd py pr:Nat}(h1:n<=px)(h2:n<=py)(h3:n<=pd)
  (ho:(px+x.sz<=pd/\pd<py/\py+y.sz<=pr)\/(py+y.sz<=pd/\pd<px/\px+x.sz<=pr)) (hx:At (A++N) px (x.lay tt px)) (hy:At (A++N) py (y.lay tt py)) (hr:(A++N)[pr]? = some (.cells tt 4 [x.lv px,y.lv py])) :
  Pack n (tauT n px x.sz pd py y.sz pr) (A++N) (A++layA tt n [x,y])/\Pk n (tauT n px x.sz pd py y.sz pr) (A++layA tt n [x,y]) (.arr pr 0 2) (lsl n [x,y]):=by
 have hlen:(layA tt n [x,y]).length=x.sz+1+(y.sz+1):=by rw[YJ];simp only[szs];try omega
 have hL:(A++layA tt n [x,y]).length=n+(x.sz+1+(y.sz+1)):=by rw[QwG,hlen,hn]
 have shx:Sh n (tauT n px x.sz pd py y.sz pr) (A++layA tt n [x,y]) px n x.sz:=⟨QwP _,by omega,fun j hj=>by unfold tauT;rw[QwJ (by omega),QwN (by omega)];omega⟩
 have shy:Sh n (tauT n px x.sz pd py y.sz pr) (A++layA tt n [x,y]) py (n+x.sz+1) y.sz:=⟨by omega,by omega,fun j hj=>by unfold tauT;rw[QwJ (by omega),QwJ (by omega),QwJ (by omega),QwN (by omega)];omega⟩
 have cl:∀i,n<=i->i<n+(x.sz+1+(y.sz+1))->(i<n+x.sz/\tauT n px x.sz pd py y.sz pr i=px+(i - n))\/(i=n+x.sz/\tauT n px x.sz pd py y.sz pr i=pd) \/
   (n+x.sz<i/\i<n+x.sz+1+y.sz/\tauT n px x.sz pd py y.sz pr i=py+(i - n - x.sz - 1))\/(i=n+x.sz+1+y.sz/\tauT n px x.sz pd py y.sz pr i=pr):=by
  intro i hi hi2
  by_cases a1:i<n+x.sz
  ·exact .inl ⟨a1,by unfold tauT;rw[QwJ (by omega),QwN a1]⟩
  ·by_cases a2:i=n+x.sz
   ·exact .inr (.inl ⟨a2,by unfold tauT;rw[QwJ (by omega),QwJ a1,QwN a2]⟩)
   ·by_cases a3:i<n+x.sz+1+y.sz
    ·exact .inr (.inr (.inl ⟨by omega,a3,by unfold tauT;rw[QwJ (by omega),QwJ a1,QwJ a2,QwN a3]⟩))
    ·refine .inr (.inr (.inr ⟨by omega,?_⟩))
     unfold tauT
     rw[QwJ (by omega),QwJ a1,QwJ a2,QwJ a3]
     omega
 have tr:tauT n px x.sz pd py y.sz pr (n+x.sz+1+y.sz)=pr:=by
  rcases cl (n+x.sz+1+y.sz) (by omega) (by omega)with h|h|h|h <;> omega
 refine⟨QlQ hn hb (fun i hi=>by unfold tauT;rw[QwN hi]) (fun i hi hi2=>?_) (fun i j hi hi2 hj hj2 he=>?_) fun j b' hj=>?_,?_⟩
 ·rcases cl i hi (by omega)with h|h|h|h <;> omega
 ·rw[hlen]at hi2 hj2
  rcases cl i hi hi2 with h|h|h|h <;> rcases cl j hj hj2 with k|k|k|k <;> omega
 ·have hjl:=Qv hj
  rw[hlen]at hjl
  rw[Qqc,Qw6,T.QuZ]at hj
  split at hj
  ·rename_i hlt
   obtain⟨b,hbb⟩:∃b,(x.lay tt px)[j]? = some b:=⟨_,QwK (by rw[T.QuZ];exact hlt)⟩
   cases hl:b.live with
   |false=>exact .inl (T.Qvh x j b b' hbb hj hl)
   |true =>
    refine .inr ⟨b,?_,T.pkB x shx j b b' hbb hj⟩
    rw[shx.2.2 j hlt]
    exact hx j b hbb hl
  ·rename_i hge
   cases hk:j - x.sz with
   |zero =>
    rw[hk,QvP]at hj
    cases hj
    exact .inl rfl
   |succ k =>
    rw[hk,QvQ,Qw6,T.QuZ]at hj
    split at hj
    ·rename_i hlt
     obtain⟨b,hbb⟩:∃b,(y.lay tt py)[k]? = some b:=⟨_,QwK (by rw[T.QuZ];exact hlt)⟩
     cases hl:b.live with
     |false=>exact .inl (T.Qvh y k b b' hbb hj hl)
     |true =>
      refine .inr ⟨b,?_,T.pkB y shy k b b' hbb hj⟩
      rw[show n+j=n+x.sz+1+k by omega,shy.2.2 k hlt]
      exact hy k b hbb hl
    ·rename_i hge2
     have hk2:k=y.sz:=by omega
     subst hk2
     rw[Qxy,QvP]at hj
     cases hj
     refine .inr ⟨_,by rw[show n+j=n+x.sz+1+y.sz by omega,tr];exact hr,.inr ⟨tt,4,_,_,rfl,rfl,?_,?_⟩⟩
     ·intro z hz
      simp only[QwS,Qw4,QxK]at hz
      rcases hz with rfl|rfl <;> exact T.Qu5 _ _
     ·have:=QnW (R:=Pk n (tauT n px x.sz pd py y.sz pr) (A++layA tt n [x,y])) (xs:=[x.lv px,y.lv py]) (ys:=[x.lv n,y.lv (n+x.sz+1)]) rfl fun i u v hu hv=>by
       match i,hu,hv with
       |0,hu,hv=>cases hu;cases hv;exact⟨by rw[T.Qu5,T.Qu5],T.Qvb shx⟩
       |1,hu,hv=>cases hu;cases hv;exact⟨by rw[T.Qu5,T.Qu5],T.Qvb shy⟩
       |i+2,hu,hv=>simp at hu
      exact⟨Qyl this.1,this.2⟩
 ·show Pk _ _ _ _ (.arr (n+szs [x,y] - 1) 0 2)
  have e:n+szs [x,y] - 1=n+x.sz+1+y.sz:=by simp only[szs];omega
  rw[e]
  exact .arr tr.symm (by omega) (by omega)
end Go.Proofs.YtenheconhibonaaGreatDoor.Ab
namespace Go.Proofs.YtenheconhibonaaGreatDoor.Ab
open Go.Proofs
def gv(n:Nat)(g:G):AV:=.agg [.i g.op,.v (.string g.name),lsl n g.args]
abbrev zg:AV:=.agg [.i 0,.v (.string {data:=#[]}),.v (.slice none 0 0)]
def WC(g:Nat)(h:AH)(P:Pz):PR G->AOut->AH->Prop
 | .ok a s,o,h'=>o = .ret (.tup [gv (h.length+g) a,.b true])/\∃N,h'=ph h P s++N/\At N g (layA 69 (h.length+g) a.args)
 | .err p e,o,h'=>o = .panic (Fl p e)/\∃s,h'=ph h P s
def WQ(h:AH)(P:Pz):PR G->AOut->AH->Prop
 | .ok a s,o,h'=>o = .ret (.tup [gv h.length a,.b true])/\h'=ph h P s++layA 69 h.length a.args
 | .err p e,o,h'=>o = .panic (Fl p e)/\∃s,h'=ph h P s
theorem Qr0{n:Nat}{τ:Nat->Nat}{h2:AH}{m':Nat}{g:G}{y:AV}(hy:Pk n τ h2 y (lsl m' g.args)):Pk n τ h2 (.agg [.i g.op,.v (.string g.name),y]) (gv m' g):=.agg rfl fun j a a' h1 h2=>by
 match j,h1,h2 with
 |0,h1,h2=>cases h1;cases h2;exact .keep (.v _)
 |1,h1,h2=>cases h1;cases h2;exact .keep (.v _)
 |2,h1,h2=>cases h1;cases h2;exact hy
 |j+3,h1,h2=>simp at h1
theorem QqQ{P:Pz}{f:FuncId}{args:List AV}{h:AH}{s:PS}(H:P.ok h)(g:Nat){r:PR G}(C:QT Tryz.prog f args (ph h P s) (WC g h P r)):QT Tryz.prog f args (ph h P s) (WQ h P r):=by
 refine Qbv C fun hb0 o h' hQ=>?_
 cases r with
 |err p e=>exact .inl hQ
 |ok t s2 =>
  obtain⟨rfl,N,rfl,hN⟩:=hQ
  rw[Xm]at hb0 ⊢
  have hb:∀b∈ph h P s2,b.Below h.length:=fun b hb=>by
   obtain⟨k,hk⟩:=ZT hb
   rcases QcJ H (s0:=s) hk with h1|h1
   ·exact hb0 k b h1
   ·exact h1
  obtain⟨K,hk⟩:=Qqo (Xm h P s2) hb g t.args hN
  refine .inr ⟨_,.tup [gv h.length t,.b true],_,_,rfl,K,.tup rfl fun j a a' h1 h2=>?_,rfl,rfl⟩
  match j,h1,h2 with
  |0,h1,h2=>cases h1;cases h2;exact Qr0 hk
  |1,h1,h2=>cases h1;cases h2;exact .keep (.v _)
  |j+2,h1,h2=>simp at h1
theorem Ql6(n:Nat)(b:Bool):Below n (.tup [zg,.b b]):=.tup _ fun x hx=>by
 simp only[QwS,Qw4,QxK]at hx
 rcases hx with rfl|rfl
 ·exact .agg _ fun x hx=>by
   simp only[QwS,Qw4,QxK]at hx
   rcases hx with rfl|rfl|rfl <;> exact .v _
 ·exact .v _
section
variable{P:Pz}{s:PS}(hW:Wst P.all s){h:AH}(H:P.ok h)(hN:P.all.length<=1000000)(hD:TkOk P.all)
include hW H hN hD
theorem QqO(hk:s.tk.kind≠1):QT Tryz.prog 142 [.ptr P.i 0 0] (ph h P s) fun o h'=>o = .ret (.tup [zg,.b false])/\h'=ph h P s:=by
 have _hu:=hN;have _hv:=hD
 have f1:=Xm h P
 have f3:=X8 h P
 have f4:=YO h P
 have f5:=XD h P
 have f6:=Ye h P
 have hi:=ph_i H s
 simp only[pB]at hi
 have cn:=nextL hW (YI H s)
 have e1:=Tk.QuV s.tk
 have e2:=Tk.QuY s.tk
 have z1:(s.tk.kind != 1)=true:=by simpa using hk
 refine Qb Tryz.func142 rfl Tryz.call142 Tryz.ntmps142 Tryz.results142 (by simp) ?_
 repeat first|with_reducible (first|(first|refine Qa fun K E hK hE=>?_|refine Ql fun K E hK hE=>?_|refine FunW.QuW (cn _) ?_);simp only[Qh,Qe,Qk,OpW,Q7,aop,undef,Qa4,Qwv,Qww,QcX,Qar,Qbm,AS.ev,Qg,QX,Qu,QC,QI,XM,Qan,Yq,YK,X9,Qbp,Qr,QG,QvW,Qwf,AV.QuX,Qo,Q6,XV,ZA,XH,Zy,ZM,Qaq,Zz,QD,Xx,Yn,ZG,Ze,ZE,ZO,Qat,ZF,Qv9,Qwa,QE,Y0,QA,QM,Zw,Xi,Yj,X4,QP,Zx,XG,Zu,ZL,Qap,Zv,Qwb,Qwy,Qwz,Qwc,Qwd,↓reduceIte,Qv2,Qv3,Nat.reduceAdd,Nat.reduceLT,Nat.reduceLeDiff,Nat.reduceEqDiff,Nat.reduceSub,Nat.reduceMul,Qv1,Qwe,Qwo,Qwp,Qwn,Yr,Yu,Qm,QQ,QR,Xf,QY,aBin,Zs,ZR,QW,Zj,Q8,hget,Yd,hset,hlen,happ,QvP,QvQ,QwF,Qwj,Qwk,QvR,Qwu,QvU,Qwt,QvV,Qwq,QvS,Qv4,Qv8,Qwh,Qwg,Qwi,Qv0,Qv7,QvY,Qv6,Q1,YH,Xv,YM,goInt,Qwl,Qwm,QvX,QwA,Qws,Int.toNat_zero,Int.toNat_one,Qwr,QwD,QwE,QwB,QvT,Qwx,beq_true,beq_false,rng0,rng1,rng2,rng3,rng4,rng5,rng6,rng7,rng8,Xg,Nat.reducePow,Qw3,QxW,T.QuV,T.QuY,QK,Xn,ti0,zi0,ti3,zi3,un3,ti4,zi4,un4,ti9,ei9,zi9,un9,ti44,ei44,ai44,zi44,un44,ti53,YG,QaY,ZC,zi53,sp53,ti69,XR,Yw,Yx,Yh,zi69,sp69,Qsd,Qsq,Qsj,Qse,Qki,QhK,QhL,Qsr,Qr9,Qsf,Qkj,Qkk,Qkl,Qss,Qsa,QwC,Int.sub_zero,QcS,Q2,f1,f3,f4,f5,f6,hi,e1,e2,z1]|refine Qf fun K hK=>?_|refine Qj ?_|refine Qp ?_|refine Qc4 ?_|refine Qfr ?_|refine Qw ?_|refine Q3 ?_|refine Qd ?_|refine QB ?_|refine QV ?_|refine Qt ?_|refine QF ?_|refine QU ?_|refine Zp rfl ?_|refine hK _ ?_;clear hK|clear hK;refine hK _ ?_;clear hK|clear hK;clear hK;refine hK _ ?_;clear hK|clear hK;clear hK;clear hK;refine hK _ ?_;clear hK|refine Qi rfl ?_;simp only[↓reduceIte,QvT]|refine hE _ _ ?_|refine QdN ?_|refine QgF ?_)|intro (b:Bool);cases b
 simp only[Qh,Qe,Qk,OpW,Q7,aop,undef,Qa4,Qwv,Qww,QcX,Qar,Qbm,AS.ev,Qg,QX,Qu,QC,QI,XM,Qan,Yq,YK,X9,Qbp,Qr,QG,QvW,Qwf,AV.QuX,Qo,Q6,XV,ZA,XH,Zy,ZM,Qaq,Zz,QD,Xx,Yn,ZG,Ze,ZE,ZO,Qat,ZF,Qv9,Qwa,QE,Y0,QA,QM,Zw,Xi,Yj,X4,QP,Zx,XG,Zu,ZL,Qap,Zv,Qwb,Qwy,Qwz,Qwc,Qwd,↓reduceIte,Qv2,Qv3,Nat.reduceAdd,Nat.reduceLT,Nat.reduceLeDiff,Nat.reduceEqDiff,Nat.reduceSub,Nat.reduceMul,Qv1,Qwe,Qwo,Qwp,Qwn,Yr,Yu,Qm,QQ,QR,Xf,QY,aBin,Zs,ZR,QW,Zj,Q8,hget,Yd,hset,hlen,happ,QvP,QvQ,QwF,Qwj,Qwk,QvR,Qwu,QvU,Qwt,QvV,Qwq,QvS,Qv4,Qv8,Qwh,Qwg,Qwi,Qv0,Qv7,QvY,Qv6,Q1,YH,Xv,YM,goInt,Qwl,Qwm,QvX,QwA,Qws,Int.toNat_zero,Int.toNat_one,Qwr,QwD,QwE,QwB,QvT,Qwx,beq_true,beq_false,rng0,rng1,rng2,rng3,rng4,rng5,rng6,rng7,rng8,Xg,Nat.reducePow,Qw3,QxW,T.QuV,T.QuY,QK,Xn,ti0,zi0,ti3,zi3,un3,ti4,zi4,un4,ti9,ei9,zi9,un9,ti44,ei44,ai44,zi44,un44,ti53,YG,QaY,ZC,zi53,sp53,ti69,XR,Yw,Yx,Yh,zi69,sp69,Qsd,Qsq,Qsj,Qse,Qki,QhK,QhL,Qsr,Qr9,Qsf,Qkj,Qkk,Qkl,Qss,Qsa,QwC,Int.sub_zero,QcS,Q2,QQ,QR,f3,Qx3,List.mapM_nil,Option.pure_def,Option.bind_eq_bind,QqK,QnC,Yr,Yu,QS,Qq,Qz,QvZ]
 exact XB H (s:=s) (s':=s) (.keep (Ql6 _ _)) ⟨rfl,rfl⟩
end
end Go.Proofs.YtenheconhibonaaGreatDoor.Ab
namespace Go.Proofs.YtenheconhibonaaGreatDoor.Ab
open Go.Proofs
section
variable{P:Pz}{s:PS}(hW:Wst P.all s){h:AH}(H:P.ok h)(hN:P.all.length<=1000000)(hD:TkOk P.all)
include hW H hN hD
theorem QpA(hk:s.tk.kind=1)(h0:s.tk.text.toList≠[116,114,117,101])(h1:s.tk.text.toList≠[102,97,105,108])(h2:s.tk.text.toList≠[105,110,116])(h3:s.tk.text.toList≠[103,114,111,117,110,100]):QT Tryz.prog 142 [.ptr P.i 0 0] (ph h P s) fun o h'=>o = .ret (.tup [zg,.b false])/\h'=ph h P s:=by
 have _hu:=hD
 have f1:=Xm h P
 have f3:=X8 h P
 have f4:=YO h P
 have f5:=XD h P
 have f6:=Ye h P
 have hi:=ph_i H s
 have hin:=ph_i H s.nx
 simp only[pB]at hi hin
 have cn:=nextL hW (YI H s)
 have ct:=fun L=>XU hW (H.app L) hN
 simp only[Xr H]at ct
 have e1:=Tk.QuV s.tk
 have e2:=Tk.QuY s.tk
 have z1:(s.tk.kind != 1)=false:=by rw[hk];rfl
 have y0:(s.tk.text.toList==({data:=#[116,114,117,101]}:ByteArray).toList)=false:=by rw[Lib.toList_data ({data:=#[116,114,117,101]}:ByteArray)];simpa using h0
 have y1:(s.tk.text.toList==({data:=#[102,97,105,108]}:ByteArray).toList)=false:=by rw[Lib.toList_data ({data:=#[102,97,105,108]}:ByteArray)];simpa using h1
 have y2:(s.tk.text.toList==({data:=#[105,110,116]}:ByteArray).toList)=false:=by rw[Lib.toList_data ({data:=#[105,110,116]}:ByteArray)];simpa using h2
 have y3:(s.tk.text.toList==({data:=#[103,114,111,117,110,100]}:ByteArray).toList)=false:=by rw[Lib.toList_data ({data:=#[103,114,111,117,110,100]}:ByteArray)];simpa using h3
 refine Qb Tryz.func142 rfl Tryz.call142 Tryz.ntmps142 Tryz.results142 (by simp) ?_
 repeat (first|refine FunW.QuW (cn _) ?_|refine Qn ?_);simp only[go_sem,seval,f1,f3,f4,f5,f6,hi,e1,e2,z1,y0,y1,y2,y3]
 exact XB H (s:=s) (s':=s) (.keep (Ql6 _ _)) ⟨rfl,rfl⟩
theorem QpC(hk:s.tk.kind=1)(hx:s.tk.text.toList=[116,114,117,101]):QT Tryz.prog 142 [.ptr P.i 0 0] (ph h P s) (WC 3 h P (.ok ⟨1,eB,[]⟩ s.nx)):=by
 have _hu:=hD
 have f1:=Xm h P
 have f3:=X8 h P
 have f4:=YO h P
 have f5:=XD h P
 have f6:=Ye h P
 have hi:=ph_i H s
 have hin:=ph_i H s.nx
 simp only[pB]at hi hin
 have cn:=nextL hW (YI H s)
 have ct:=fun L=>XU hW (H.app L) hN
 simp only[Xr H]at ct
 have e1:=Tk.QuV s.tk
 have e2:=Tk.QuY s.tk
 have z1:(s.tk.kind != 1)=false:=by rw[hk];rfl
 have o1:((1:Int)==11)=false:=by decide
 have o2:((1:Int)==12)=false:=by decide
 have y0:(s.tk.text.toList==({data:=#[116,114,117,101]}:ByteArray).toList)=true:=by rw[hx,Lib.toList_data];rfl
 refine Qb Tryz.func142 rfl Tryz.call142 Tryz.ntmps142 Tryz.results142 (by simp) ?_
 repeat (first|refine FunW.QuW (cn _) ?_|refine FunW.QuW (ct _) ?_|refine Qn ?_);simp only[go_sem,seval,f1,f3,f4,f5,f6,hi,e1,e2,z1,o1,o2,y0]
 exact .inr ⟨rfl,_,rfl,Qhc _ _⟩
theorem Qpz(hk:s.tk.kind=1)(hx:s.tk.text.toList=[102,97,105,108]):QT Tryz.prog 142 [.ptr P.i 0 0] (ph h P s) (WC 3 h P (.ok ⟨2,eB,[]⟩ s.nx)):=by
 have _hu:=hD
 have f1:=Xm h P
 have f3:=X8 h P
 have f4:=YO h P
 have f5:=XD h P
 have f6:=Ye h P
 have hi:=ph_i H s
 have hin:=ph_i H s.nx
 simp only[pB]at hi hin
 have cn:=nextL hW (YI H s)
 have ct:=fun L=>XU hW (H.app L) hN
 simp only[Xr H]at ct
 have e1:=Tk.QuV s.tk
 have e2:=Tk.QuY s.tk
 have z1:(s.tk.kind != 1)=false:=by rw[hk];rfl
 have o1:((2:Int)==11)=false:=by decide
 have o2:((2:Int)==12)=false:=by decide
 have y0:(s.tk.text.toList==({data:=#[116,114,117,101]}:ByteArray).toList)=false:=by rw[hx,Lib.toList_data];rfl
 have y1:(s.tk.text.toList==({data:=#[102,97,105,108]}:ByteArray).toList)=true:=by rw[hx,Lib.toList_data];rfl
 refine Qb Tryz.func142 rfl Tryz.call142 Tryz.ntmps142 Tryz.results142 (by simp) ?_
 repeat (first|refine FunW.QuW (cn _) ?_|refine FunW.QuW (ct _) ?_|refine Qn ?_);simp only[go_sem,seval,f1,f3,f4,f5,f6,hi,e1,e2,z1,o1,o2,y0,y1]
 exact .inr ⟨rfl,_,rfl,Qhc _ _⟩
theorem QqN(hk:s.tk.kind=1)(hx:s.tk.text.toList=[105,110,116]):QT Tryz.prog 142 [.ptr P.i 0 0] (ph h P s) (WC 3 h P (Qcp 11 s.nx)):=by
 have f1:=Xm h P
 have f3:=X8 h P
 have f4:=YO h P
 have f5:=XD h P
 have f6:=Ye h P
 have hi:=ph_i H s
 have hin:=ph_i H s.nx
 simp only[pB]at hi hin
 have cn:=nextL hW (YI H s)
 have ct:=fun L=>XU hW (H.app L) hN
 simp only[Xr H]at ct
 have e1:=Tk.QuV s.tk
 have e2:=Tk.QuY s.tk
 have z1:(s.tk.kind != 1)=false:=by rw[hk];rfl
 have o1:((11:Int)==11)=true:=by decide
 have o2:((11:Int)==12)=false:=by decide
 have y0:(s.tk.text.toList==({data:=#[116,114,117,101]}:ByteArray).toList)=false:=by rw[hx,Lib.toList_data];rfl
 have y1:(s.tk.text.toList==({data:=#[102,97,105,108]}:ByteArray).toList)=false:=by rw[hx,Lib.toList_data];rfl
 have y2:(s.tk.text.toList==({data:=#[105,110,116]}:ByteArray).toList)=true:=by rw[hx,Lib.toList_data];rfl
 have hWn:=hW.nx
 have HR:=Qk0 hN hD
 rw[Qcp,Z8]
 cases hl:s.nx.is sLp with
 |false =>
  rw[QwJ (by simp)]
  have ce:=fun L=>Qam hWn H hN L {data:=#[40]} (by rw[Lib.toList_data];exact hl)
  refine Qb Tryz.func142 rfl Tryz.call142 Tryz.ntmps142 Tryz.results142 (by simp) ?_
  repeat first|(first|refine FunW.QuW (cn _) ?_|refine FunW.QuW (ct _) ?_|refine FunW.pan (FunW.call (ce _)) ?_|refine Qn ?_);simp only[go_sem,seval,f1,f4,f6,hi,hin,e1,e2,z1,y0,y1,y2]|refine hK _ ?_;clear hK
  exact Xj H s s.nx _ _ _ ⟨rfl,_,rfl⟩
 |true =>
  rw[QwN rfl]
  have ce:=fun L=>ZS hWn H hN L {data:=#[40]} (by rw[Lib.toList_data];exact hl)
  have hWm:=hWn.nx
  have him:=ph_i H s.nx.nx
  simp only[pB]at him
  have hlm:s.nx.nx.toks.length<1000001:=by have:=hWm.suf.length_le;omega
  show QT _ _ _ _ (WC 3 h P ((X7 s.nx.nx).bind fun t s=>(Z8 sRp s).bind fun _ s=>.ok ⟨11,eB,[t]⟩ s))
  cases hr:X7 s.nx.nx with
  |err p e =>
   have cx:=fun L=>TRd.err HR hlm hWm H hr L
   refine Qb Tryz.func142 rfl Tryz.call142 Tryz.ntmps142 Tryz.results142 (by simp) ?_
   repeat first|(first|refine FunW.QuW (cn _) ?_|refine FunW.QuW (ct _) ?_|refine FunW.QuW (ce _) ?_|refine FunW.panE (FunW.call (cx _)) fun r=>?_|refine Qn ?_);simp only[go_sem,seval,f1,f4,f6,hi,hin,e1,e2,z1,y0,y1,y2]|refine hK _ ?_;clear hK
   exact Xj H s r _ _ _ ⟨rfl,_,rfl⟩
  |ok t s1 =>
   have cx:=fun(c d e:AB)=>TRd.ok HR hlm hWm H hr [c,d,e] (k:=h.length+3) rfl
   simp only[Qwh,Qwg]at cx
   have hW1:Wst P.all s1:=Kp.Ps.ok (n:=wdOf P.all) (Kp.termT_ps trivial) hWm hr
   have hi1:=ph_i H s1
   simp only[pB]at hi1
   have e5:=T.Qu0 (h.length+3) t
   have e6:=T.Qu3 (h.length+3) t
   have hat:∀(c d e:AB),At (c::d::e::(t.lay 69 (h.length+3)++[.cells 69 4 [t.lv (h.length+3)]])) 3 (layA 69 (h.length+3) [t]):=fun c d e=>by
    have:layA 69 (h.length+3) [t]=t.lay 69 (h.length+3)++[.cells 69 4 [t.lv (h.length+3)]]:=by simp[layA,lays,lvs]
    rw[this]
    exact At.tail (At.tail (At.tail (At.all _)))
   have hls:lsl (h.length+3) [t] = .arr (h.length+((t.lay 69 (h.length+3)).length+1+1+1)) 0 1:=by
    rw[T.QuZ]
    show AV.arr (h.length+3+szs [t] - 1) 0 1=_
    simp only[szs]
    congr 1;omega
   simp only[PR.bind,Z8]
   cases hp2:s1.is sRp with
   |false =>
    rw[QwJ (by simp)]
    have ce2:=fun L=>Qam hW1 H hN L {data:=#[41]} (by rw[Lib.toList_data];exact hp2)
    refine Qb Tryz.func142 rfl Tryz.call142 Tryz.ntmps142 Tryz.results142 (by simp) ?_
    repeat first|(first|refine FunW.QuW (cn _) ?_|refine FunW.QuW (ct _) ?_|refine Qn ?_);simp only[go_sem,seval,f1,f4,f6,hi,hin,e1,e2,z1,y0,y1,y2]|refine hK _ ?_;clear hK
    refine FunW.QuW (ce _) ?_
    simp only[go_sem,seval]
    refine Zm 2 rfl fun K E hK hE=>?_
    simp only[Qv0,Qv7,QvY,Qv6]
    simp only[go_sem,seval]
    with_reducible repeat refine FunW.QuW (cx _ _ _) ?_;simp only[go_sem,seval]
    simp only[ArrW]
    simp only[go_sem,seval,f1,f4,f6,e5,Q9,QxZ]
    repeat first|(first|refine FunW.pan (FunW.call (ce2 _)) ?_|refine Qn ?_);simp only[go_sem,seval,hi1]|refine hK _ ?_;clear hK
    exact Xj H s s1 _ _ _ ⟨rfl,_,rfl⟩
   |true =>
    rw[QwN rfl]
    have ce2:=fun L=>ZS hW1 H hN L {data:=#[41]} (by rw[Lib.toList_data];exact hp2)
    refine Qb Tryz.func142 rfl Tryz.call142 Tryz.ntmps142 Tryz.results142 (by simp) ?_
    repeat first|(first|refine FunW.QuW (cn _) ?_|refine FunW.QuW (ct _) ?_|refine Qn ?_);simp only[go_sem,seval,f1,f4,f6,hi,hin,e1,e2,z1,y0,y1,y2]|refine hK _ ?_;clear hK
    refine FunW.QuW (ce _) ?_
    simp only[go_sem,seval]
    refine Zm 2 rfl fun K E hK hE=>?_
    simp only[Qv0,Qv7,QvY,Qv6]
    simp only[go_sem,seval]
    with_reducible repeat refine FunW.QuW (cx _ _ _) ?_;simp only[go_sem,seval]
    simp only[ArrW]
    simp only[go_sem,seval,f1,f4,f6,e5,Q9,QxZ]
    repeat first|(first|refine FunW.QuW (ce2 _) ?_|refine Qn ?_);simp only[go_sem,seval,f3,f4,f5,hi1]|refine hK _ ?_;clear hK
    refine .inr ⟨?_,_,rfl,hat _ _ _⟩
    rw[gv,hls];rfl
theorem Qk3(hk:s.tk.kind=1)(hx:s.tk.text.toList=[103,114,111,117,110,100]):QT Tryz.prog 142 [.ptr P.i 0 0] (ph h P s) (WC 3 h P (Qcp 12 s.nx)):=by
 have f1:=Xm h P
 have f3:=X8 h P
 have f4:=YO h P
 have f5:=XD h P
 have f6:=Ye h P
 have hi:=ph_i H s
 have hin:=ph_i H s.nx
 simp only[pB]at hi hin
 have cn:=nextL hW (YI H s)
 have ct:=fun L=>XU hW (H.app L) hN
 simp only[Xr H]at ct
 have e1:=Tk.QuV s.tk
 have e2:=Tk.QuY s.tk
 have z1:(s.tk.kind != 1)=false:=by rw[hk];rfl
 have o1:((12:Int)==11)=false:=by decide
 have o2:((12:Int)==12)=true:=by decide
 have y0:(s.tk.text.toList==({data:=#[116,114,117,101]}:ByteArray).toList)=false:=by rw[hx,Lib.toList_data];rfl
 have y1:(s.tk.text.toList==({data:=#[102,97,105,108]}:ByteArray).toList)=false:=by rw[hx,Lib.toList_data];rfl
 have y2:(s.tk.text.toList==({data:=#[105,110,116]}:ByteArray).toList)=false:=by rw[hx,Lib.toList_data];rfl
 have y3:(s.tk.text.toList==({data:=#[103,114,111,117,110,100]}:ByteArray).toList)=true:=by rw[hx,Lib.toList_data];rfl
 have hWn:=hW.nx
 have HR:=Qk0 hN hD
 rw[Qcp,Z8]
 cases hl:s.nx.is sLp with
 |false =>
  rw[QwJ (by simp)]
  have ce:=fun L=>Qam hWn H hN L {data:=#[40]} (by rw[Lib.toList_data];exact hl)
  refine Qb Tryz.func142 rfl Tryz.call142 Tryz.ntmps142 Tryz.results142 (by simp) ?_
  repeat first|(first|refine FunW.QuW (cn _) ?_|refine FunW.QuW (ct _) ?_|refine FunW.pan (FunW.call (ce _)) ?_|refine Qn ?_);simp only[go_sem,seval,f1,f4,f6,hi,hin,e1,e2,z1,o1,y0,y1,y2,y3]|refine hK _ ?_;clear hK
  exact Xj H s s.nx _ _ _ ⟨rfl,_,rfl⟩
 |true =>
  rw[QwN rfl]
  have ce:=fun L=>ZS hWn H hN L {data:=#[40]} (by rw[Lib.toList_data];exact hl)
  have hWm:=hWn.nx
  have him:=ph_i H s.nx.nx
  simp only[pB]at him
  have hlm:s.nx.nx.toks.length<1000001:=by have:=hWm.suf.length_le;omega
  show QT _ _ _ _ (WC 3 h P ((X7 s.nx.nx).bind fun t s=>(Z8 sRp s).bind fun _ s=>.ok ⟨12,eB,[t]⟩ s))
  cases hr:X7 s.nx.nx with
  |err p e =>
   have cx:=fun L=>TRd.err HR hlm hWm H hr L
   refine Qb Tryz.func142 rfl Tryz.call142 Tryz.ntmps142 Tryz.results142 (by simp) ?_
   repeat first|(first|refine FunW.QuW (cn _) ?_|refine FunW.QuW (ct _) ?_|refine FunW.QuW (ce _) ?_|refine FunW.panE (FunW.call (cx _)) fun r=>?_|refine Qn ?_);simp only[go_sem,seval,f1,f4,f6,hi,hin,e1,e2,z1,o1,y0,y1,y2,y3]|refine hK _ ?_;clear hK
   exact Xj H s r _ _ _ ⟨rfl,_,rfl⟩
  |ok t s1 =>
   have cx:=fun(c d e:AB)=>TRd.ok HR hlm hWm H hr [c,d,e] (k:=h.length+3) rfl
   simp only[Qwh,Qwg]at cx
   have hW1:Wst P.all s1:=Kp.Ps.ok (n:=wdOf P.all) (Kp.termT_ps trivial) hWm hr
   have hi1:=ph_i H s1
   simp only[pB]at hi1
   have e5:=T.Qu0 (h.length+3) t
   have e6:=T.Qu3 (h.length+3) t
   have hat:∀(c d e:AB),At (c::d::e::(t.lay 69 (h.length+3)++[.cells 69 4 [t.lv (h.length+3)]])) 3 (layA 69 (h.length+3) [t]):=fun c d e=>by
    have:layA 69 (h.length+3) [t]=t.lay 69 (h.length+3)++[.cells 69 4 [t.lv (h.length+3)]]:=by simp[layA,lays,lvs]
    rw[this]
    exact At.tail (At.tail (At.tail (At.all _)))
   have hls:lsl (h.length+3) [t] = .arr (h.length+((t.lay 69 (h.length+3)).length+1+1+1)) 0 1:=by
    rw[T.QuZ]
    show AV.arr (h.length+3+szs [t] - 1) 0 1=_
    simp only[szs]
    congr 1;omega
   simp only[PR.bind,Z8]
   cases hp2:s1.is sRp with
   |false =>
    rw[QwJ (by simp)]
    have ce2:=fun L=>Qam hW1 H hN L {data:=#[41]} (by rw[Lib.toList_data];exact hp2)
    refine Qb Tryz.func142 rfl Tryz.call142 Tryz.ntmps142 Tryz.results142 (by simp) ?_
    repeat first|(first|refine FunW.QuW (cn _) ?_|refine FunW.QuW (ct _) ?_|refine Qn ?_);simp only[go_sem,seval,f1,f4,f6,hi,hin,e1,e2,z1,o1,y0,y1,y2,y3]|refine hK _ ?_;clear hK
    refine FunW.QuW (ce _) ?_
    simp only[go_sem,seval]
    refine Zm 2 rfl fun K E hK hE=>?_
    simp only[Qv0,Qv7,QvY,Qv6]
    simp only[go_sem,seval]
    with_reducible repeat refine FunW.QuW (cx _ _ _) ?_;simp only[go_sem,seval]
    simp only[ArrW]
    simp only[go_sem,seval,f1,f4,f6,e5,Q9,QxZ]
    repeat first|(first|refine FunW.pan (FunW.call (ce2 _)) ?_|refine Qn ?_);simp only[go_sem,seval,hi1]|refine hK _ ?_;clear hK
    exact Xj H s s1 _ _ _ ⟨rfl,_,rfl⟩
   |true =>
    rw[QwN rfl]
    have ce2:=fun L=>ZS hW1 H hN L {data:=#[41]} (by rw[Lib.toList_data];exact hp2)
    refine Qb Tryz.func142 rfl Tryz.call142 Tryz.ntmps142 Tryz.results142 (by simp) ?_
    repeat first|(first|refine FunW.QuW (cn _) ?_|refine FunW.QuW (ct _) ?_|refine Qn ?_);simp only[go_sem,seval,f1,f4,f6,hi,hin,e1,e2,z1,o1,y0,y1,y2,y3]|refine hK _ ?_;clear hK
    refine FunW.QuW (ce _) ?_
    simp only[go_sem,seval]
    refine Zm 2 rfl fun K E hK hE=>?_
    simp only[Qv0,Qv7,QvY,Qv6]
    simp only[go_sem,seval]
    with_reducible repeat refine FunW.QuW (cx _ _ _) ?_;simp only[go_sem,seval]
    simp only[ArrW]
    simp only[go_sem,seval,f1,f4,f6,e5,Q9,QxZ]
    repeat first|(first|refine FunW.QuW (ce2 _) ?_|refine Qn ?_);simp only[go_sem,seval,f3,f4,f5,hi1]|refine hK _ ?_;clear hK
    refine .inr ⟨?_,_,rfl,hat _ _ _⟩
    rw[gv,hls];rfl
end
end Go.Proofs.YtenheconhibonaaGreatDoor.Ab
namespace Go.Proofs.YtenheconhibonaaGreatDoor.Ab
open Go.Proofs
theorem QrK{s:PS}{b:List UInt8}(h:s.is b=true):s.tk.text.toList=b:=by
 simp only[PS.is,QwQ,QxL]at h;exact h.2
theorem QmK{s:PS}{l:List (List UInt8)}(h:s.oneOf l=true):s.tk.text.toList∈l:=by
 rw[PS.oneOf,QyJ]at h
 obtain⟨b,hb,h⟩:=h
 rw[QrK h];exact hb
theorem Qql{ex:PS->PR T}{s:PS}{t:T}{s2:PS}(h:pOpT ex s = .ok t s2)(hk:s.tk.kind=1):t.name=s.tk.text:=by
 rw[pOpT,QwJ (by omega),QwJ (by omega),QwN hk]at h
 obtain⟨a,s1,h1,h⟩:=bind_ok h
 cases h
 rw[ZH]at h1
 obtain⟨x,s3,h3,h1⟩:=bind_ok h1
 have hx:x=s.tk.text:=by
  rw[Qco]at h3
  split at h3
  ·cases h3
  ·split at h3
   ·cases h3
   ·cases h3;rfl
 split at h1
 ·obtain⟨l,s4,h4,h1⟩:=bind_ok h1
  cases h1
  exact hx
 ·cases h1
  exact hx
theorem Qfn{op:PS->PR T}{ops:List (List UInt8)}:∀(m:Nat) (t:T) (s:PS) (t2:T) (s2:PS),XX op ops m t s = .ok t2 s2->t2.name=t.name\/t2.name.toList∈ops
 |0,t,s,t2,s2,h=>by cases h;exact .inl rfl
 |m+1,t,s,t2,s2,h=>by
  rw[XX]at h
  split at h
  ·rename_i hc
   obtain⟨u,s1,h1,h⟩:=bind_ok h
   rcases Qfn m _ s1 t2 s2 h with h|h
   ·exact .inr (by rw[h];exact QmK hc)
   ·exact .inr h
  ·cases h;exact .inl rfl
theorem QgP{op:PS->PR T}{ops:List (List UInt8)}{s:PS}{t:T}{s2:PS}(h:XN op ops s = .ok t s2):∃t1 s1,op s = .ok t1 s1/\(t.name=t1.name\/t.name.toList∈ops):=by
 rw[XN]at h
 obtain⟨t1,s1,h1,h⟩:=bind_ok h
 exact⟨t1,s1,h1,Qfn _ t1 s1 t s2 h⟩
theorem Qpg{s:PS}{t:T}{s2:PS}(h:X7 s = .ok t s2)(hk:s.tk.kind=1):t.name=s.tk.text\/t.name.toList∈XK\/t.name.toList∈YA:=by
 rw[X7,YE]at h
 obtain⟨t1,s1,h1,h2⟩:=QgP h
 obtain⟨t3,s3,h3,h4⟩:=QgP h1
 have h5:=Qql h3 hk
 rcases h2 with h2|h2
 ·rw[h2]
  rcases h4 with h4|h4
  ·exact .inl (by rw[h4,h5])
  ·exact .inr (.inl h4)
 ·exact .inr (.inr h2)
theorem QqJ{s:PS}(hk:s.tk.kind=1)(hr:resB s.tk.text=true):X7 s = .err s.tk.pos 7:=by
 rw[X7,YE,XN,XN,pOpT,QwJ (by omega),QwJ (by omega),QwN hk,ZH,Qco,QwJ (by omega),QwN hr]
 rfl
def QoK(s:PS):PR G :=
 if s.tk.kind=1/\s.tk.text.toList=[116,114,117,101]then .ok ⟨1,eB,[]⟩ s.nx else if s.tk.kind=1/\s.tk.text.toList=[102,97,105,108]then .ok ⟨2,eB,[]⟩ s.nx else
 if s.tk.kind=1/\s.tk.text.toList=[105,110,116]then Qcp 11 s.nx else if s.tk.kind=1/\s.tk.text.toList=[103,114,111,117,110,100]then Qcp 12 s.nx else
 (X7 s).bind fun t s2=>match cmpOp s2 with
  |some (op,turn)=>(X7 s2.nx).bind fun u s3=>.ok ⟨op,eB,if turn then[u,t]else[t,u]⟩ s3
  |none=>if s.tk.kind≠1\/opB t.name=true then .err s2.tk.pos 16 else .ok ⟨0,t.name,t.args⟩ s2
theorem Qh3{x:ByteArray}:opB x=true↔x.toList∈XK\/x.toList∈YA:=by
 simp only[opB,XK,YA,Qxx,QxL,Lib.toList_data,QwS,Qw4,QxK]
 constructor
 ·intro h
  rcases h with(((h|h)|h)|h)|h <;> simp[h]
 ·intro h
  rcases h with(h|h|h)|h|h <;> simp[h]
theorem QlU{x:ByteArray}(h:x.toList=[116,114,117,101]\/x.toList=[102,97,105,108]\/x.toList=[105,110,116]\/x.toList=[103,114,111,117,110,100]):resB x=true:=by
 simp only[resB,Lib.toList_data]at h ⊢
 rcases h with h|h|h|h <;> rw[h] <;> decide
theorem QpX{s:PS}(hop:s.tk.kind=1->opB s.tk.text=false):QoK s=Y9 s:=by
 rw[QoK,Y9]
 by_cases hk:s.tk.kind=1
 ·simp only[hk,Qwo,not_true_eq_false,ne_eq,false_or]
  cases hr:resB s.tk.text with
  |true =>
   rw[QwN rfl,QqJ hk hr]
   rfl
  |false =>
   have no:∀b,(s.tk.text.toList=b->resB s.tk.text=true)->¬s.tk.text.toList=b:=fun b h q=>by rw[h q]at hr;cases hr
   rw[QwJ (no _ fun q=>QlU (.inl q)),QwJ (no _ fun q=>QlU (.inr (.inl q))),QwJ (no _ fun q=>QlU (.inr (.inr (.inl q)))),QwJ (no _ fun q=>QlU (.inr (.inr (.inr q)))),QwJ (by decide)]
   refine bind_congr fun t s1 h1=>?_
   cases cmpOp s1 with
   |some x=>rfl
   |none =>
    simp only
    have ht:=Qpg h1 hk
    by_cases ho:opB t.name=true
    ·rw[QwN ho,QwJ]
     intro q
     have:opB s.tk.text=true:=Qh3.2 (by rw[<-q];exact Qh3.1 ho)
     rw[hop hk]at this;cases this
    ·rw[QwJ ho,QwN]
     rcases ht with ht|ht
     ·rw[ht]
     ·exact absurd (Qh3.2 ht) ho
 ·simp only[hk,false_and,QxC,ne_eq,not_false_eq_true,true_or,QxP]
  exact bind_congr fun t s1 _=>by cases cmpOp s1 <;> rfl
end Go.Proofs.YtenheconhibonaaGreatDoor.Ab
namespace Go.Proofs.YtenheconhibonaaGreatDoor.Ab
open Go.Proofs
theorem QiH{P:Program}{N:Nat}{f:FuncId}{args:List AV}{s:AS}{d:Option Tmp}{K:AS->Prop}{r:AV}(H:∀hx,Keep s.h hx->QT P f args hx fun o h'=>o = .ret r/\h'=hx)(k:K (AS.put N s d r)):Qrf P N (.fn (.func f) [] []) args s d K:=⟨r,fun hx hk=>FunW.call (H hx hk),k⟩
def LQ(h:AH)(P:Pz):PR G->AOut->AH->Prop
 | .ok a s,o,h'=>o = .ret (gv h.length a)/\h'=ph h P s++layA 69 h.length a.args
 | .err p e,o,h'=>o = .panic (Fl p e)/\∃s,h'=ph h P s
def LC(h:AH)(P:Pz):PR G->AOut->AH->Prop
 | .ok a s,o,h'=>(∃g y N,o = .ret (.agg [.i a.op,.v (.string a.name),lsl (h.length+g) a.args])/\h'=ph h P s++N/\At N g (layA 69 (h.length+g) a.args)/\y=g) \/
   ∃(x y:T) (px pd py pr:Nat) (N:AH),a.args=[x,y]/\o = .ret (.agg [.i a.op,.v (.string a.name),.arr pr 0 2])/\h'=ph h P s++N/\h.length<=px/\h.length<=py/\h.length<=pd /\
    ((px+x.sz<=pd/\pd<py/\py+y.sz<=pr)\/(py+y.sz<=pd/\pd<px/\px+x.sz<=pr))/\At h' px (x.lay 69 px)/\At h' py (y.lay 69 py)/\h'[pr]? = some (.cells 69 4 [x.lv px,y.lv py])
 | .err p e,o,h'=>o = .panic (Fl p e)/\∃s,h'=ph h P s
theorem QlD{P:Pz}{f:FuncId}{args:List AV}{h:AH}{s:PS}(H:P.ok h){r:PR G}(C:QT Tryz.prog f args (ph h P s) (LC h P r)):QT Tryz.prog f args (ph h P s) (LQ h P r):=by
 refine Qbv C fun hb0 o h' hQ=>?_
 cases r with
 |err p e=>exact .inl hQ
 |ok t s2 =>
  have hb:∀b∈ph h P s2,b.Below h.length:=fun b hb=>by
   rw[Xm]at hb0
   obtain⟨k,hk⟩:=ZT hb
   rcases QcJ H (s0:=s) hk with h1|h1
   ·exact hb0 k b h1
   ·exact h1
  rw[Xm]
  rcases hQ with⟨g,_,N,rfl,rfl,hN,_⟩|⟨x,y,px,pd,py,pr,N,ha,rfl,rfl,h1,h2,h3,h4,h5,h6,h7⟩
  ·obtain⟨K,hk⟩:=Qqo (Xm h P s2) hb g t.args hN
   exact .inr ⟨_,gv h.length t,_,_,rfl,K,Qr0 hk,rfl,rfl⟩
  ·obtain⟨K,hk⟩:=QrY (Xm h P s2) hb x y h1 h2 h3 h4 h5 h6 h7
   rw[<-ha]at K hk
   exact .inr ⟨_,gv h.length t,_,_,rfl,K,Qr0 hk,rfl,rfl⟩
theorem At.base{A N M:AH}{n k:Nat}(H:At N k M)(hA:A.length=n):At (A++N) (n+k) M:=fun j b hb hl=>by
 have:=H j b hb hl
 rw[QwO (by omega),hA,show n+k+j - n=k+j by omega];exact this
theorem QqZ{P:Pz}{h:AH}{s3:PS}(c d e f:AB)(t u:T)(op:Int)(sw:Bool):LC h P (.ok ⟨op,eB,if sw then[u,t]else[t,u]⟩ s3)
  (.ret (.agg [.v (.int .i64 op),.v (.string {data:=#[]}),.arr (h.length+((t.lay 69 (h.length+2)).length+((u.lay 69 (h.length+2+t.sz+1)).length+1+1)+1+1)) 0 2]))
  (ph h P s3++(c::d::(t.lay 69 (h.length+2)++(e::(u.lay 69 (h.length+2+t.sz+1)++[f,.cells 69 4 (if sw then[u.lv (h.length+2+t.sz+1),t.lv (h.length+2)]else[t.lv (h.length+2),u.lv (h.length+2+t.sz+1)])]))))):=by
 have l1:=T.QuZ 69 (h.length+2) t
 have l2:=T.QuZ 69 (h.length+2+t.sz+1) u
 have a1:At (ph h P s3++(c::d::(t.lay 69 (h.length+2)++(e::(u.lay 69 (h.length+2+t.sz+1)++[f,.cells 69 4 (if sw then[u.lv (h.length+2+t.sz+1),t.lv (h.length+2)]else[t.lv (h.length+2),u.lv (h.length+2+t.sz+1)])]))))) (h.length+2) (t.lay 69 (h.length+2)) :=
  At.base (At.mid [c,d] _ _ rfl) (Xm h P s3)
 have a2:At (ph h P s3++(c::d::(t.lay 69 (h.length+2)++(e::(u.lay 69 (h.length+2+t.sz+1)++[f,.cells 69 4 (if sw then[u.lv (h.length+2+t.sz+1),t.lv (h.length+2)]else[t.lv (h.length+2),u.lv (h.length+2+t.sz+1)])]))))) (h.length+2+t.sz+1) (u.lay 69 (h.length+2+t.sz+1)):=by
  have:=At.base (At.mid (c::d::(t.lay 69 (h.length+2)++[e])) (u.lay 69 (h.length+2+t.sz+1)) [f,.cells 69 4 (if sw then[u.lv (h.length+2+t.sz+1),t.lv (h.length+2)]else[t.lv (h.length+2),u.lv (h.length+2+t.sz+1)])] (n:=2+t.sz+1) (by simp only[Qv2,QwG,Qv3,l1];omega)) (Xm h P s3)
  rw[show h.length+(2+t.sz+1)=h.length+2+t.sz+1 by omega]at this
  simpa only[Qwh,QwM,Qwg]using this
 have a3:(ph h P s3++(c::d::(t.lay 69 (h.length+2)++(e::(u.lay 69 (h.length+2+t.sz+1)++[f,.cells 69 4 (if sw then[u.lv (h.length+2+t.sz+1),t.lv (h.length+2)]else[t.lv (h.length+2),u.lv (h.length+2+t.sz+1)])])))))[h.length+((t.lay 69 (h.length+2)).length+((u.lay 69 (h.length+2+t.sz+1)).length+1+1)+1+1)]? = some (.cells 69 4 (if sw then[u.lv (h.length+2+t.sz+1),t.lv (h.length+2)]else[t.lv (h.length+2),u.lv (h.length+2+t.sz+1)])):=by
  rw[YO]
  simp only[QvQ]
  rw[hget]
  simp only[QvQ]
  rw[hget]
  rfl
 cases sw with
 |false=>exact .inr ⟨t,u,h.length+2,h.length+2+t.sz,h.length+2+t.sz+1,_,_,rfl,rfl,rfl,by omega,by omega,by omega,.inl ⟨by omega,by omega,by omega⟩,a1,a2,a3⟩
 |true=>exact .inr ⟨u,t,h.length+2+t.sz+1,h.length+2+t.sz,h.length+2,_,_,rfl,rfl,rfl,by omega,by omega,by omega,.inr ⟨by omega,by omega,by omega⟩,a2,a1,a3⟩
section
variable{P:Pz}{s:PS}(hW:Wst P.all s){h:AH}(H:P.ok h)(hN:P.all.length<=1000000)(hD:TkOk P.all)
include hW H hN hD
theorem Qdp{r:PR G}(hw:∀L:AH,QT Tryz.prog 142 [.ptr P.i 0 0] (ph (h++L) P s) (WC 3 (h++L) P r)):QT Tryz.prog 108 [.ptr P.i 0 0] (ph h P s) (LQ h P r):=by
 have _u:=hN
 have _v:=hD
 have _w:=hW
 have cw:=fun L=>QqQ (H.app L) 3 (hw L)
 have f1:=Xm h P
 have f3:=X8 h P
 have f4:=YO h P
 have f5:=XD h P
 have f6:=Ye h P
 refine QlD H ?_
 cases r with
 |err p e =>
  have cw':∀L,QT Tryz.prog 142 [.ptr P.i 0 0] (ph h P s++L) fun o h'=>o = .panic (Fl p e)/\∃s1:PS,h'=ph h P s1++L:=fun L=>by
   have:=cw L
   rw[Xr H]at this
   exact this.mono fun o h' q=>by simpa only[WQ,Xr H]using q
  refine Qb Tryz.func108 rfl Tryz.call108 Tryz.ntmps108 Tryz.results108 (by simp) ?_
  repeat (first|refine FunW.panE (FunW.call (cw' _)) fun r=>?_|refine Qn ?_);simp only[go_sem,seval,f1]
  exact Xj H s r _ _ _ ⟨rfl,_,rfl⟩
 |ok a s1 =>
  have cw':∀c:AB,QT Tryz.prog 142 [.ptr P.i 0 0] (ph h P s++[c]) fun o h'=>o = .ret (.tup [gv (h.length+1) a,.b true])/\h'=ph h P s1++(c::layA 69 (h.length+1) a.args):=fun c=>by
   have:=cw [c]
   rw[Xr H]at this
   exact this.mono fun o h' q=>by simpa only[WQ,Xr H,QwG,Qv2,Qv3,QwM,Qwh,Qwg]using q
  simp only[gv]at cw'
  have e5:=QfO (h.length+1) a.args
  have e6:=QfP (h.length+1) a.args
  refine Qb Tryz.func108 rfl Tryz.call108 Tryz.ntmps108 Tryz.results108 (by simp) ?_
  repeat (first|refine FunW.QuW (cw' _) ?_|refine Qn ?_);simp only[go_sem,seval,f1,f3,f4,f5,f6,Q9]
  exact .inr (.inl ⟨1,1,_,rfl,rfl,At.mid [_] _ _ rfl,rfl⟩)
theorem Qn4(hw:∀L:AH,QT Tryz.prog 142 [.ptr P.i 0 0] (ph h P s++L) fun o h'=>o = .ret (.tup [zg,.b false])/\h'=ph h P s++L) :
  QT Tryz.prog 108 [.ptr P.i 0 0] (ph h P s) (LQ h P ((X7 s).bind fun t s2=>match cmpOp s2 with
   |some (op,turn)=>(X7 s2.nx).bind fun u s3=>.ok ⟨op,eB,if turn then[u,t]else[t,u]⟩ s3
   |none=>if s.tk.kind≠1\/opB t.name=true then .err s2.tk.pos 16 else .ok ⟨0,t.name,t.args⟩ s2)):=by
 have f1:=Xm h P
 have f3:=X8 h P
 have f4:=YO h P
 have f5:=XD h P
 have f6:=Ye h P
 have hi:=ph_i H s
 simp only[pB]at hi
 have cn:=nextL hW (YI H s)
 have e1:=Tk.QuV s.tk
 have e2:=Tk.QuY s.tk
 have HR:=Qk0 hN hD
 have hls:s.toks.length<1000001:=by have:=hW.suf.length_le;omega
 refine QlD H ?_
 cases hr:X7 s with
 |err p e =>
  have cx:=fun L=>TRd.err HR hls hW H hr L
  refine Qb Tryz.func108 rfl Tryz.call108 Tryz.ntmps108 Tryz.results108 (by simp) ?_
  repeat first|(first|refine FunW.QuW (hw _) ?_|refine FunW.QuW (cn _) ?_|refine FunW.panE (FunW.call (cx _)) fun r=>?_|refine Qn ?_);simp only[go_sem,seval,f1,f4,f6,hi,e1,e2]|refine hK _ ?_;clear hK
  exact Xj H s r _ _ _ ⟨rfl,_,rfl⟩
 |ok t s2 =>
  have cx:=fun(c d:AB)=>TRd.ok HR hls hW H hr [c,d] (k:=h.length+2) rfl
  simp only[Qwh,Qwg]at cx
  have hW2:Wst P.all s2:=Kp.Ps.ok (n:=wdOf P.all) (Kp.termT_ps trivial) hW hr
  have hi2:=ph_i H s2
  simp only[pB]at hi2
  have e3:=T.Qu0 (h.length+2) t
  have e4:=T.Qu3 (h.length+2) t
  have cm:=fun L=>Qfs hW2 (H.app L) hN
  show QT _ _ _ _ (LC h P (match cmpOp s2 with
   |some (op,turn)=>(X7 s2.nx).bind fun u s3=>.ok ⟨op,eB,if turn then[u,t]else[t,u]⟩ s3
   |none=>if s.tk.kind≠1\/opB t.name=true then .err s2.tk.pos 16 else .ok ⟨0,t.name,t.args⟩ s2))
  cases hc:cmpOp s2 with
  |none =>
   rw[hc]at cm
   have cm':∀L,QT Tryz.prog 144 [.ptr P.i 0 0] (ph h P s2++L) fun o h'=>o = .ret (.tup [.i 0,.b false,.b false])/\h'=ph h P s2++L:=fun L=>by
    have:=cm L
    rw[Xr H]at this
    exact this.mono fun o h' q=>by simpa only[MQ,Xr H]using q
   have cn2:=nextL hW2 (YI H s2)
   have cf:=QaC s2.tk 16
   by_cases hk:s.tk.kind=1
   ·have z1:(s.tk.kind==1)=true:=by simpa using hk
    have co:=Qdz t.name
    cases hop:opB t.name with
    |true =>
     rw[hop]at co
     simp only[or_true,QxP]
     refine Qb Tryz.func108 rfl Tryz.call108 Tryz.ntmps108 Tryz.results108 (by simp) ?_
     repeat first|(first|refine FunW.QuW (hw _) ?_|refine FunW.QuW (cn _) ?_|refine FunW.QuW (cx _ _) ?_|refine FunW.QuW (cm' _) ?_|refine Qy co ?_|refine Qn ?_);simp only[go_sem,seval,f1,f4,f6,hi,e1,e2,e3,e4,Q9,z1]|refine hK _ ?_;clear hK
     refine Yp 7 [(0,1),(1,0),(2,0),(3,1),(4,0),(5,0),(6,0)] mixed rfl rfl rfl (by kernel_rfl) (fun v h'=>v=Fl s2.tk.pos 16/\∃L,h'=ph h P s2++L) ?_ ?_
     ·rintro tm v h' ⟨rfl,L,rfl⟩
      exact Xj H s s2 _ _ _ ⟨rfl,_,rfl⟩
     ·simp only[go_sem,seval,hi2]
      refine QiH (fun hx hkp=>X6 hW2 (hkp _ _ (ph_i H s2 _) (fun _ _ _ q=>by unfold pB at q;cases q))) ?_
      simp only[go_sem,seval]
      exact fun _=>(FunW.call (cf _ _)).mono (by rintro _ _ ⟨rfl,rfl⟩;exact⟨_,rfl,rfl,_,rfl⟩)
    |false =>
     rw[hop]at co
     simp only[hk,ne_eq,not_true_eq_false,QvT,or_self,QxC]
     have e5:=QfO (h.length+2) t.args
     have e6:=QfP (h.length+2) t.args
     have hat:∀(c d:AB) X,At (c::d::(t.lay 69 (h.length+2)++X)) 2 (layA 69 (h.length+2) t.args):=fun c d X=>by rw[T.Qva];exact At.mid [c,d] _ _ rfl
     refine Qb Tryz.func108 rfl Tryz.call108 Tryz.ntmps108 Tryz.results108 (by simp) ?_
     repeat first|(first|refine FunW.QuW (hw _) ?_|refine FunW.QuW (cn _) ?_|refine FunW.QuW (cx _ _) ?_|refine FunW.QuW (cm' _) ?_|refine Qy co ?_|refine Qn ?_);simp only[go_sem,seval,f1,f3,f4,f5,f6,hi,e1,e2,e3,e4,e5,Q9,z1]|refine hK _ ?_;clear hK
     exact .inr (.inl ⟨2,2,_,rfl,rfl,hat _ _ _,rfl⟩)
   ·have z1:(s.tk.kind==1)=false:=by simpa using hk
    rw[QwN (.inl hk)]
    refine Qb Tryz.func108 rfl Tryz.call108 Tryz.ntmps108 Tryz.results108 (by simp) ?_
    repeat first|(first|refine FunW.QuW (hw _) ?_|refine FunW.QuW (cn _) ?_|refine FunW.QuW (cx _ _) ?_|refine FunW.QuW (cm' _) ?_|refine Qn ?_);simp only[go_sem,seval,f1,f4,f6,hi,e1,e2,e3,e4,Q9,z1]|refine hK _ ?_;clear hK
    refine Yp 7 [(0,1),(1,0),(2,0),(3,1),(4,0),(5,0),(6,0)] mixed rfl rfl rfl (by kernel_rfl) (fun v h'=>v=Fl s2.tk.pos 16/\∃L,h'=ph h P s2++L) ?_ ?_
    ·rintro tm v h' ⟨rfl,L,rfl⟩
     exact Xj H s s2 _ _ _ ⟨rfl,_,rfl⟩
    ·simp only[go_sem,seval,hi2]
     refine QiH (fun hx hkp=>X6 hW2 (hkp _ _ (ph_i H s2 _) (fun _ _ _ q=>by unfold pB at q;cases q))) ?_
     simp only[go_sem,seval]
     exact fun _=>(FunW.call (cf _ _)).mono (by rintro _ _ ⟨rfl,rfl⟩;exact⟨_,rfl,rfl,_,rfl⟩)
  |some x =>
   obtain⟨op,turn⟩:=x
   rw[hc]at cm
   have cm':∀L,QT Tryz.prog 144 [.ptr P.i 0 0] (ph h P s2++L) fun o h'=>o = .ret (.tup [.i op,.b turn,.b true])/\h'=ph h P s2.nx++L:=fun L=>by
    have:=cm L
    rw[Xr H]at this
    exact this.mono fun o h' q=>by simpa only[MQ,Xr H]using q
   have hkc:s2.tk.kind≠0:=QgR hc
   have hWn:=hW2.nx
   have hin:=ph_i H s2.nx
   simp only[pB]at hin
   have hln:s2.nx.toks.length<1000001:=by have:=hWn.suf.length_le;omega
   show QT _ _ _ _ (LC h P ((X7 s2.nx).bind fun u s3=>.ok ⟨op,eB,if turn then[u,t]else[t,u]⟩ s3))
   cases hr2:X7 s2.nx with
   |err p e =>
    have cy:=fun L=>TRd.err HR hln hWn H hr2 L
    refine Qb Tryz.func108 rfl Tryz.call108 Tryz.ntmps108 Tryz.results108 (by simp) ?_
    repeat first|(first|refine FunW.QuW (hw _) ?_|refine FunW.QuW (cn _) ?_|refine FunW.QuW (cx _ _) ?_|refine FunW.QuW (cm' _) ?_|refine FunW.panE (FunW.call (cy _)) fun r=>?_|refine Qn ?_);simp only[go_sem,seval,f1,f4,f6,hi,e1,e2,e3,e4,Q9]|refine hK _ ?_;clear hK
    exact Xj H s r _ _ _ ⟨rfl,_,rfl⟩
   |ok u s3 =>
    have cy:=fun(c d f:AB)=>TRd.ok HR hln hWn H hr2 (c::d::(t.lay 69 (h.length+2)++[f])) (k:=h.length+2+t.sz+1) (by simp only[Qv2,QwG,T.QuZ,Qv3];omega)
    simp only[Qwh,QwM,Qwg]at cy
    have e5:=T.Qu0 (h.length+2+t.sz+1) u
    have e6:=T.Qu3 (h.length+2+t.sz+1) u
    have g1:∀(X:AH),(t.lay 69 (h.length+2)++X)[(t.lay 69 (h.length+2)).length]? = X[0]? := fun X=>Q8 _ _
    have g2:∀(X:AH) (y:AB),(t.lay 69 (h.length+2)++X).set (t.lay 69 (h.length+2)).length y=t.lay 69 (h.length+2)++X.set 0 y:=fun X y=>Yd _ _ _
    have g3:∀(X:AH),(u.lay 69 (h.length+2+t.sz+1)++X)[(u.lay 69 (h.length+2+t.sz+1)).length]? = X[0]? := fun X=>Q8 _ _
    have g4:∀(X:AH) (y:AB),(u.lay 69 (h.length+2+t.sz+1)++X).set (u.lay 69 (h.length+2+t.sz+1)).length y=u.lay 69 (h.length+2+t.sz+1)++X.set 0 y:=fun X y=>Yd _ _ _
    cases turn with
    |false =>
     refine Qb Tryz.func108 rfl Tryz.call108 Tryz.ntmps108 Tryz.results108 (by simp) ?_
     repeat first|(first|refine FunW.QuW (hw _) ?_|refine FunW.QuW (cn _) ?_|refine FunW.QuW (cx _ _) ?_|refine FunW.QuW (cm' _) ?_|refine Qn ?_);simp only[go_sem,seval,f1,f4,f6,hi,e1,e2,e3,e4,Q9,QwM,g1,g2]|refine hK _ ?_;clear hK
     refine FunW.QuW (cy _ _ _) ?_
     simp only[go_sem,seval,f1,f4,f6,e5,e6,Q9,QwM,g3,g4]
     iterate 7 (try (first|(((refine Qa fun K E hK hE=>?_));simp only[go_sem,seval])|(refine Qf fun K hK=>?_)|(refine Qw ?_)|(refine Qd ?_)|((with_reducible refine hK _ ?_);clear hK)|(refine Qi rfl ?_;simp only[↓reduceIte,QvT])))
     refine Zm 3 rfl fun K E hK hE=>?_
     simp only[Qv0,Qv7,QvY,Qv6]
     simp only[go_sem,seval,f4,e3,e4,e5,e6,g1,g3]
     simp only[ArrW]
     simp only[go_sem,seval,f1,f3,f5,e3,e5,Q9,QwM,QxZ]
     repeat first|refine Qn ?_;simp only[go_sem,seval]|refine hK _ ?_;clear hK
     simp only[go_sem,seval,f3]
     exact .inr (QqZ _ _ _ _ t u op false)
    |true =>
     refine Qb Tryz.func108 rfl Tryz.call108 Tryz.ntmps108 Tryz.results108 (by simp) ?_
     repeat first|(first|refine FunW.QuW (hw _) ?_|refine FunW.QuW (cn _) ?_|refine FunW.QuW (cx _ _) ?_|refine FunW.QuW (cm' _) ?_|refine Qn ?_);simp only[go_sem,seval,f1,f4,f6,hi,e1,e2,e3,e4,Q9,QwM,g1,g2]|refine hK _ ?_;clear hK
     refine FunW.QuW (cy _ _ _) ?_
     simp only[go_sem,seval,f1,f4,f6,e5,e6,Q9,QwM,g3,g4]
     iterate 8 (try (first|((first|(refine Qa fun K E hK hE=>?_)|(refine Ql fun K E hK hE=>?_));simp only[go_sem,seval,f4,f6,e3,e4,e5,e6,Q9,g1,g2,g3,g4])|(refine Qf fun K hK=>?_)|(refine Qd ?_)|((with_reducible refine hK _ ?_);clear hK)|(refine Qi rfl ?_;simp only[↓reduceIte])))
     refine Zm 3 rfl fun K E hK hE=>?_
     simp only[Qv0,Qv7,QvY,Qv6]
     simp only[go_sem,seval,f4,e3,e4,e5,e6,g1,g3]
     simp only[ArrW]
     simp only[go_sem,seval,f1,f3,f5,e3,e5,Q9,QwM,QxZ]
     repeat first|refine Qn ?_;simp only[go_sem,seval]|refine hK _ ?_;clear hK
     simp only[go_sem,seval,f3]
     exact .inr (QqZ _ _ _ _ t u op true)
end
end Go.Proofs.YtenheconhibonaaGreatDoor.Ab
namespace Go.Proofs.YtenheconhibonaaGreatDoor.Ab
open Go.Proofs
theorem Qi0{P:Pz}{s:PS}(hW:Wst P.all s){h:AH}(H:P.ok h)(hN:P.all.length<=1000000)(hD:TkOk P.all):QT Tryz.prog 108 [.ptr P.i 0 0] (ph h P s) (LQ h P (Y9 s)):=by
 rw[<-QpX (fun hk=>hD.nam _ (Qpk hW) hk)]
 unfold QoK
 have rest:=Qn4 hW H hN hD
 have fin:(∀L:AH,QT Tryz.prog 142 [.ptr P.i 0 0] (ph (h++L) P s) fun o h'=>o = .ret (.tup [zg,.b false])/\h'=ph (h++L) P s)->_:=fun q=>rest fun L=>by
  have:=q L
  simpa only[Xr H]using this
 by_cases hk:s.tk.kind=1
 ·by_cases h0:s.tk.text.toList=[116,114,117,101]
  ·rw[QwN ⟨hk,h0⟩];exact Qdp hW H hN hD fun L=>QpC hW (H.app L) hN hD hk h0
  ·rw[QwJ (fun q=>h0 q.2)]
   by_cases h1:s.tk.text.toList=[102,97,105,108]
   ·rw[QwN ⟨hk,h1⟩];exact Qdp hW H hN hD fun L=>Qpz hW (H.app L) hN hD hk h1
   ·rw[QwJ (fun q=>h1 q.2)]
    by_cases h2:s.tk.text.toList=[105,110,116]
    ·rw[QwN ⟨hk,h2⟩];exact Qdp hW H hN hD fun L=>QqN hW (H.app L) hN hD hk h2
    ·rw[QwJ (fun q=>h2 q.2)]
     by_cases h3:s.tk.text.toList=[103,114,111,117,110,100]
     ·rw[QwN ⟨hk,h3⟩];exact Qdp hW H hN hD fun L=>Qk3 hW (H.app L) hN hD hk h3
     ·rw[QwJ (fun q=>h3 q.2)]
      exact fin fun L=>QpA hW (H.app L) hN hD hk h0 h1 h2 h3
 ·rw[QwJ (fun q=>hk q.1),QwJ (fun q=>hk q.1),QwJ (fun q=>hk q.1),QwJ (fun q=>hk q.1)]
  exact fin fun L=>QqO hW (H.app L) hN hD hk
def gsz:List G->Nat
 |[]=>0
 |g::l=>szs g.args+2+gsz l
def lvG(vw:Nat->G->AV)(n:Nat):List G->List AV
 |[]=>[]
 |g::l=>vw (n+1) g::lvG vw (n+szs g.args+2) l
def layG(tt:TypeId)(n:Nat):List G->AH
 |[]=>[]
 |g::l=>.dead::(layA tt (n+1) g.args++(.dead::layG tt (n+szs g.args+2) l))
theorem Qbz:∀l m:List G,gsz (l++m)=gsz l+gsz m
 |[],m=>by simp[gsz]
 |g::l,m=>by rw[Qwh,gsz,gsz,Qbz l m];omega
theorem QaS(vw:Nat->G->AV):∀(n:Nat) (l:List G),(lvG vw n l).length=l.length
 |_,[]=>rfl
 |n,g::l=>by rw[lvG,Qv2,QaS];rfl
theorem Y6(tt:TypeId):∀(n:Nat) (l:List G),(layG tt n l).length=gsz l
 |_,[]=>rfl
 |n,g::l=>by rw[layG,Qv2,QwG,Qv2,YJ,Y6,gsz];omega
theorem QlE(vw:Nat->G->AV):∀(n:Nat) (l:List G) (g:G),lvG vw n (l++[g])=lvG vw n l++[vw (n+gsz l+1) g]
 |n,[],g=>by simp[lvG,gsz]
 |n,a::l,g=>by
  rw[Qwh,lvG,lvG,QlE vw _ l g,gsz,Qwh]
  rw[show n+szs a.args+2+gsz l+1=n+(szs a.args+2+gsz l)+1 by omega]
theorem Qjb(tt:TypeId):∀(n:Nat) (l:List G) (g:G),layG tt n (l++[g])=layG tt n l++(.dead::(layA tt (n+gsz l+1) g.args++[.dead]))
 |n,[],g=>by simp[layG,gsz]
 |n,a::l,g=>by
  rw[Qwh,layG,layG,Qjb tt _ l g,gsz]
  rw[show n+szs a.args+2+gsz l+1=n+(szs a.args+2+gsz l)+1 by omega]
  simp only[Qwh,QwM]
theorem Qja{tt:TypeId}:∀{m m':Nat} (l:List G) (j:Nat) (b b':AB),(layG tt m l)[j]? = some b->(layG tt m' l)[j]? = some b'->b.live=false->b' = .dead
 |m,m',[],j,b,b',h1,h2,hl=>by simp[layG]at h1
 |m,m',g::l,j,b,b',h1,h2,hl=>by
  rw[layG]at h1 h2
  cases j with
  |zero=>cases h1;cases h2;rfl
  |succ j =>
   rw[QvQ,Qw6,YJ]at h1 h2
   split at h1
   ·rename_i hj
    rw[QwN hj]at h2
    exact Qi7 g.args j b b' h1 h2 hl
   ·rename_i hj
    rw[QwJ hj]at h2
    cases hk:j - szs g.args with
    |zero=>rw[hk]at h1 h2;cases h1;cases h2;rfl
    |succ k =>
     rw[hk,QvQ]at h1 h2
     exact Qja l k b b' h1 h2 hl
theorem Qly{n:Nat}{τ:Nat->Nat}{h2:AH}{tt:TypeId}:∀{m m':Nat} (l:List G),Sh n τ h2 m m' (gsz l)->∀(j:Nat) b b',(layG tt m l)[j]? = some b->(layG tt m' l)[j]? = some b'->PkB n τ h2 b b'
 |m,m',[],H,j,b,b',h1,h3=>by simp[layG]at h1
 |m,m',g::l,H,j,b,b',h1,h3=>by
  rw[gsz]at H
  rw[layG]at h1 h3
  cases j with
  |zero=>cases h1;cases h3;exact .inl rfl
  |succ j =>
   rw[QvQ,Qw6,YJ]at h1 h3
   split at h1
   ·rename_i hj
    rw[QwN hj]at h3
    have hs:=H.sub (k:=1) (l:=szs g.args) (a:=m+1) (b:=m'+1) (by omega) rfl rfl
    exact QeU g.args (QkM hs) hs j b b' h1 h3
   ·rename_i hj
    rw[QwJ hj]at h3
    cases hk:j - szs g.args with
    |zero=>rw[hk]at h1 h3;cases h1;cases h3;exact .inl rfl
    |succ k =>
     rw[hk,QvQ]at h1 h3
     exact Qly l (H.sub (k:=szs g.args+2) (l:=gsz l) (a:=m+szs g.args+2) (b:=m'+szs g.args+2) (by omega) (by omega) (by omega)) k b b' h1 h3
theorem Qq1{n:Nat}{τ:Nat->Nat}{h2:AH}{vw:Nat->G->AV}{w:Nat}(hw:∀m g,(vw m g).cells.length=w)(hp:∀m m' g,Sh n τ h2 m m' (szs g.args)->∀(j:Nat) a a',(vw m g).cells[j]? = some a->(vw m' g).cells[j]? = some a'->Pk n τ h2 a a') :
  ∀{m m':Nat} (l:List G),Sh n τ h2 m m' (gsz l)->(∀y∈lvG vw m' l,y.cells.length=w)/\(flat (lvG vw m' l)).length=(flat (lvG vw m l)).length/\∀(j:Nat) a a',(flat (lvG vw m l))[j]? = some a->(flat (lvG vw m' l))[j]? = some a'->Pk n τ h2 a a'
 |m,m',[],H=>⟨by simp[lvG],rfl,fun j a a' h1=>by simp[lvG,flat]at h1⟩
 |m,m',g::l,H=>by
  rw[gsz]at H
  have h1:=hp (m+1) (m'+1) g (H.sub (k:=1) (l:=szs g.args) (by omega) rfl rfl)
  obtain⟨h3,h4,h5⟩:=Qq1 hw hp l (H.sub (k:=szs g.args+2) (l:=gsz l) (a:=m+szs g.args+2) (b:=m'+szs g.args+2) (by omega) (by omega) (by omega))
  refine⟨fun y hy=>?_,?_,fun j a a' ha hb=>?_⟩
  ·rw[lvG,QwS]at hy
   rcases hy with rfl|hy
   ·exact hw _ _
   ·exact h3 y hy
  ·rw[lvG,lvG,Xc,Xc,QwG,QwG,h4,hw,hw]
  ·rw[lvG,Xc,Qw6,hw]at ha hb
   split at ha
   ·rename_i hj;rw[QwN hj]at hb;exact h1 j a a' ha hb
   ·rename_i hj;rw[QwJ hj]at hb;exact h5 _ a a' ha hb
theorem Qt5{tt:TypeId}{A N:AH}{n:Nat}(hn:A.length=n)(hb:∀b∈A,b.Below n)(g:Nat)(l:List G){vw:Nat->G->AV}{w:Nat}(hw:∀m g,(vw m g).cells.length=w)
  (hp:∀(τ:Nat->Nat) (h2:AH) m m' g,Sh n τ h2 m m' (szs g.args)->∀(j:Nat) a a',(vw m g).cells[j]? = some a->(vw m' g).cells[j]? = some a'->Pk n τ h2 a a') (own:Option Nat) (hN:At N g (layG tt (n+g) l)) :
  Pack n (tauG n g) (A++N) (A++layG tt n l)/\Pk n (tauG n g) (A++layG tt n l) (.sl w (lvG vw (n+g) l) own) (.sl w (lvG vw n l) none):=by
 have hsh:=shG (L':=layG tt n l) hn g
 rw[Y6]at hsh
 obtain⟨h1,h2,h3⟩:=Qq1 hw (hp _ _) l hsh
 exact⟨Qhd hn hb (by rw[Y6,Y6]) hN (fun h j b b' h1 h2=>Qly l hsh j b b' h1 h2) (fun j b b' h1 h2 hl=>Qja l j b b' h1 h2 hl),.sl (by rw[QaS,QaS]) h1 h2 h3⟩
theorem QrF(m:Nat)(g:G):(gv m g).cells.length=3:=rfl
theorem QtZ{n:Nat}{τ:Nat->Nat}{h2:AH}{m m':Nat}{g:G}(H:Sh n τ h2 m m' (szs g.args)):∀(j:Nat) a a',(gv m g).cells[j]? = some a->(gv m' g).cells[j]? = some a'->Pk n τ h2 a a':=fun j a a' h1 h3=>by
 match j,h1,h3 with
 |0,h1,h3=>cases h1;cases h3;exact .keep (.v _)
 |1,h1,h3=>cases h1;cases h3;exact .keep (.v _)
 |2,h1,h3=>cases h1;cases h3;exact QoM H
 |j+3,h1,h3=>simp[gv,AV.cells]at h1
def av(n:Nat)(g:G):AV:=.agg [.v (.string g.name),lsl n g.args]
theorem QgC(g:G){n:Nat}{h:AH}(hA:At h n (layA 69 n g.args)):QT Tryz.prog 61 [gv n g] h fun o h'=>o = .ret (.b (QL g))/\h'=h:=by
 refine Qmf (args':=[g.goal]) rfl (fun j a a' h1 h2=>?_) (ZJ g [])
 match j,h1,h2 with
 |0,h1,h2 =>
  cases h1;cases h2
  refine .agg rfl fun j a a' h1 h2=>?_
  match j,h1,h2 with
  |0,h1,h2=>cases h1;cases h2;exact .keep (.v _)
  |1,h1,h2=>cases h1;cases h2;exact .keep (.v _)
  |2,h1,h2=>cases h1;cases h2;exact Qot (Qw3 _) hA
  |j+3,h1,h2=>simp at h1
 |j+1,h1,h2=>simp at h1
end Go.Proofs.YtenheconhibonaaGreatDoor.Ab
namespace Go.Proofs.YtenheconhibonaaGreatDoor.Ab
open Go.Proofs
def GsQ(h:AH)(P:Pz)(vw:Nat->G->AV)(w:Nat):PR (List G)->AOut->AH->Prop
 | .ok l s,o,h'=>o = .ret (.sl w (lvG vw h.length l) none)/\h'=ph h P s++layG 69 h.length l
 | .err p e,o,h'=>o = .panic (Fl p e)/\∃s,h'=ph h P s
def GsC(h:AH)(P:Pz)(vw:Nat->G->AV)(w:Nat):PR (List G)->AOut->AH->Prop
 | .ok l s,o,h'=>∃own N,o = .ret (.sl w (lvG vw (h.length+1) l) own)/\h'=ph h P s++N/\At N 1 (layG 69 (h.length+1) l)
 | .err p e,o,h'=>o = .panic (Fl p e)/\∃s,h'=ph h P s
theorem Qp3{P:Pz}{f:FuncId}{args:List AV}{h:AH}{s:PS}(H:P.ok h){vw:Nat->G->AV}{w:Nat}(hw:∀m g,(vw m g).cells.length=w)
  (hp:∀(τ:Nat->Nat) (h2:AH) m m' g,Sh h.length τ h2 m m' (szs g.args)->∀(j:Nat) a a',(vw m g).cells[j]? = some a->(vw m' g).cells[j]? = some a'->Pk h.length τ h2 a a') {r:PR (List G)} (C:QT Tryz.prog f args (ph h P s) (GsC h P vw w r)):QT Tryz.prog f args (ph h P s) (GsQ h P vw w r):=by
 refine Qbv C fun hb0 o h' hQ=>?_
 cases r with
 |err p e=>exact .inl hQ
 |ok t s2 =>
  have hb:∀b∈ph h P s2,b.Below h.length:=fun b hb=>by
   rw[Xm]at hb0
   obtain⟨k,hk⟩:=ZT hb
   rcases QcJ H (s0:=s) hk with h1|h1
   ·exact hb0 k b h1
   ·exact h1
  rw[Xm]
  obtain⟨own,N,rfl,rfl,hN⟩:=hQ
  obtain⟨K,hk⟩:=Qt5 (Xm h P s2) hb 1 t hw hp own hN
  exact .inr ⟨_,_,_,_,rfl,K,hk,rfl,rfl⟩
section
variable{P:Pz}{s:PS}(hW:Wst P.all s){h:AH}(H:P.ok h)(hN:P.all.length<=1000000)(hD:TkOk P.all)(L:AH)
include hW H hN
theorem Qo9(n m:Int)(hm:¬m<=n):QT Tryz.prog 77 [.ptr P.i 0 0,.i n,.i m] (ph h P s++L) fun o h'=>o = .ret (.tup [])/\h'=ph h P s++L:=by
 have:=QqB hW (H.app L) hN n m hm
 simpa only[Xr H]using this
theorem QqA(n m:Int)(hm:m<=n):QT Tryz.prog 77 [.ptr P.i 0 0,.i n,.i m] (ph h P s++L) fun o h'=>o = .panic (Fl s.tk.pos 6)/\h'=ph h P s++L:=by
 have:=Qr6 hW (H.app L) hN n m hm
 simpa only[Xr H]using this
include hD
theorem QrE{g:G}{s2:PS}(e:Y9 s = .ok g s2){k:Nat}(hk:k=h.length+L.length):QT Tryz.prog 108 [.ptr P.i 0 0] (ph h P s++L) fun o h'=>o = .ret (gv k g)/\h'=ph h P s2++(L++layA 69 k g.args):=by
 have:=Qi0 hW (H.app L) hN hD
 rw[e,Xr H]at this
 subst hk
 exact this.mono fun o h' q=>by simpa only[LQ,Xr H,QwG,QwM]using q
theorem QpZ{p c:Int}(e:Y9 s = .err p c):QT Tryz.prog 108 [.ptr P.i 0 0] (ph h P s++L) fun o h'=>o = .panic (Fl p c)/\∃s2:PS,h'=ph h P s2++L:=by
 have:=Qi0 hW (H.app L) hN hD
 rw[e,Xr H]at this
 exact this.mono fun o h' q=>by simpa only[LQ,Xr H]using q
end
section
variable{P:Pz}{s:PS}(hW:Wst P.all s){h:AH}(H:P.ok h)(hN:P.all.length<=1000000)(hD:TkOk P.all)
include hW H hN hD
theorem Qn5(most:Nat)(hmost:most<=100):QT Tryz.prog 67 [.ptr P.i 0 0,.i (most:Nat)] (ph h P s) (GsC h P gv 3 (QbF most s)):=by
 have f1:=Xm h P
 have f3:=X8 h P
 have f4:=YO h P
 have f5:=XD h P
 have f6:=Ye h P
 generalize hR:QbF most s=R
 rw[QbF]at hR
 refine Qb Tryz.func67 rfl Tryz.call67 Tryz.ntmps67 Tryz.results67 (by simp) ?_
 repeat refine Qn ?_;simp only[go_sem,seval]
 refine YB 5 53 3 rfl ?_
 obtain⟨I,hI⟩:∃I:Nat->AS->Prop,I=fun m' s=>∃(l:List G) (s2:PS) (X:AH),m'=s2.toks.length/\Wst P.all s2/\l.length<=most/\(∃k,s2.toks.length+1<=k/\YS most k l s2=R)/\X.length=gsz l/\At X 0 (layG 69 (h.length+1) l)/\s.tm 0 = .ptr P.i 0 0/\s.tm 1 = .i (most:Nat)/\s.tm 5 = .sl 3 (lvG gv (h.length+1) l) (some h.length) /\
  s.h=ph h P s2++(.grow 53 3 l.length::X):=⟨_,rfl⟩;refine QZ I ?_ (m:=s.toks.length) ?_
 ·intro m' s hs;rw[hI]at hs;obtain⟨tm,hp⟩:=s;dsimp only at hs;obtain⟨l,s2,X,rfl,hW2,hlm,⟨k,hk,hR2⟩,hX,hAt,t0,t1,t5,rfl⟩:=hs
  have hk1:k=k - 1+1:=by omega
  have hi2:=ph_i H s2
  simp only[pB]at hi2
  have elen:(lvG gv (h.length+1) l).length=l.length:=QaS gv (h.length+1) l
  by_cases hm:most<=l.length
  ·have hRR:R = .err s2.tk.pos 6:=by rw[<-hR2,hk1,YS,QwN hm]
   subst hRR
   have cr:=fun L=>QqA hW2 H hN L (l.length:Nat) (most:Nat) (by omega)
   repeat (first|refine FunW.pan (FunW.call (cr _)) ?_|refine Qn ?_);simp only[go_sem,seval,t0,t1,t5,hi2,elen]
   exact Xj H s s2 _ _ _ ⟨rfl,_,rfl⟩
  ·have cr:=fun L=>Qo9 hW2 H hN L (l.length:Nat) (most:Nat) (by omega)
   have cn:=nextL hW2 (YI H s2)
   have e1:=Tk.QuV s2.tk
   have e2:=Tk.QuY s2.tk
   have x1:∀(Y:AH),(X++Y)[X.length]? = Y[0]? := fun Y=>Q8 _ _
   have x2:∀(Y:AH) k,(X++Y)[X.length+k]? = Y[k]? := fun Y k=>hget _ _ _
   have x3:∀(Y:AH) y,(X++Y).set X.length y=X++Y.set 0 y:=fun Y y=>Yd _ _ _
   have x4:∀(Y:AH) k y,(X++Y).set (X.length+k) y=X++Y.set k y:=fun Y k y=>hset _ _ _ _
   cases hr:Y9 s2 with
   |err p e =>
    have hRR:R = .err p e:=by rw[<-hR2,hk1,YS,QwJ hm,hr];rfl
    subst hRR
    have cg:=fun L=>QpZ hW2 H hN hD L hr
    repeat (first|refine FunW.QuW (cr _) ?_|refine FunW.QuW (cn _) ?_|refine FunW.panE (FunW.call (cg _)) fun r=>?_|refine Qn ?_);simp only[go_sem,seval,t0,t1,t5,hi2,elen,e1,e2,f1,f4,f6,x1,x3]
    exact Xj H s r _ _ _ ⟨rfl,_,rfl⟩
   |ok g s3 =>
    have hW3:Wst P.all s3:=Kp.Ps.ok (n:=wdOf P.all) (Kp.goalT_ps trivial) hW2 hr
    have hl3:=(QiZ s2 hW2.wf g s3 hr).2
    have hi3:=ph_i H s3
    simp only[pB]at hi3
    have cg:=fun c d=>QrE hW2 H hN hD (c::(X++[d])) hr (k:=h.length+1+gsz l+1) (by simp only[Qv2,QwG,Qv3,hX];omega)
    simp only[Qwh,QwM,Qwg]at cg
    have cR:∀(c d:AB) (Y:AH),QT Tryz.prog 61 [gv (h.length+1+gsz l+1) g] (ph h P s3++(c::(X++(d::(layA 69 (h.length+1+gsz l+1) g.args++Y))))) fun o h'=>o = .ret (.b (QL g))/\h'=ph h P s3++(c::(X++(d::(layA 69 (h.length+1+gsz l+1) g.args++Y)))):=fun c d Y=>QgC g (by
     have:=At.base (At.mid (c::(X++[d])) (layA 69 (h.length+1+gsz l+1) g.args) Y (n:=1+gsz l+1) (by simp only[Qv2,QwG,Qv3,hX];omega)) (Xm h P s3)
     rw[show h.length+(1+gsz l+1)=h.length+1+gsz l+1 by omega]at this
     simpa only[Qwh,QwM,Qwg]using this)
    have e3:(gv (h.length+1+gsz l+1) g).cells=[.i g.op,.v (.string g.name),lsl (h.length+1+gsz l+1) g.args]:=rfl
    have e4:(gv (h.length+1+gsz l+1) g).isAgg=true:=rfl
    have y1:∀(Y:AH),(layA 69 (h.length+1+gsz l+1) g.args++Y)[(layA 69 (h.length+1+gsz l+1) g.args).length]? = Y[0]? := fun Y=>Q8 _ _
    have y2:∀(Y:AH) y,(layA 69 (h.length+1+gsz l+1) g.args++Y).set (layA 69 (h.length+1+gsz l+1) g.args).length y=layA 69 (h.length+1+gsz l+1) g.args++Y.set 0 y:=fun Y y=>Yd _ _ _
    cases hg:QL g with
    |false =>
     have hRR:R = .err s2.tk.pos 6:=by rw[<-hR2,hk1,YS,QwJ hm,hr];show(if QL g=false then _ else _)=_;rw[QwN hg]
     subst hRR
     have cf:=QaC s2.tk 6
     rw[hg]at cR
     repeat (first|refine FunW.QuW (cr _) ?_|refine FunW.QuW (cn _) ?_|refine FunW.QuW (cg _ _) ?_|refine FunW.QuW (cR _ _ _) ?_|refine Qn ?_);simp only[go_sem,seval,t0,t1,t5,hi2,elen,e1,e2,e3,e4,f1,f4,f6,x1,x2,x3,x4,y1,y2,Q9,QwM]
     refine Yp 4 [(0,1),(1,0),(2,0),(3,0)] mixed rfl rfl rfl (by kernel_rfl) (fun v h'=>v=Fl s2.tk.pos 6/\∃L,h'=ph h P s3++L) ?_ ?_
     ·rintro tm v h' ⟨rfl,L,rfl⟩
      exact Xj H s s3 _ _ _ ⟨rfl,_,rfl⟩
     ·simp only[go_sem,seval,t0,hi3,e1,e2,f4,x1]
      exact fun _=>(FunW.call (cf _ _)).mono (by rintro _ _ ⟨rfl,rfl⟩;exact⟨_,rfl,rfl,_,rfl⟩)
    |true =>
     rw[hg]at cR
     have hm1:(l.length+1) * 48<=140737488355328:=by omega
     have hm2:l.length+1<=maxLen:=by simp only[maxLen];omega
     have hR3:(if s3.is Qa7=true then YS most (k - 1) (l++[g]) s3.nx else PR.ok (l++[g]) s3)=R:=by
      rw[<-hR2,hk1,YS,QwJ hm,hr]
      show _=(if QL g=false then _ else _)
      rw[hg];rfl
     have hX2:∀c d:AB,(X++(c::(layA 69 (h.length+1+gsz l+1) g.args++[d]))).length=gsz (l++[g]):=fun c d=>by
      simp only[QwG,Qv2,Qv3,YJ,hX,Qbz,gsz];try omega
     have hA2:∀c d:AB,At (X++(c::(layA 69 (h.length+1+gsz l+1) g.args++[d]))) 0 (layG 69 (h.length+1) (l++[g])):=fun c d=>by
      rw[Qjb]
      refine At.both (hAt.app _) (At.cons (fun q=>by cases q) ?_)
      rw[Y6]
      have:=At.mid (X++[c]) (layA 69 (h.length+1+gsz l+1) g.args) [d] (n:=0+gsz l+1) (by simp only[QwG,Qv2,Qv3,hX];omega)
      refine At.both ?_ (At.cons (fun q=>by cases q) (At.nil _ _))
      simpa only[QwM,Qwh,Qwg]using this
     have elv:=QlE gv (h.length+1) l g
     cases hc:s3.is Qa7 with
     |true =>
      have cs:=fun L=>QdK hW3 H hN L {data:=#[44]} (by rw[Lib.toList_data];exact hc)
      rw[hc,QwN rfl]at hR3
      have hln3:=YU hW3.wf (PS.Qu1 hc)
      repeat (first|refine FunW.QuW (cr _) ?_|refine FunW.QuW (cn _) ?_|refine FunW.QuW (cg _ _) ?_|refine FunW.QuW (cR _ _ _) ?_|refine FunW.QuW (cs _) ?_|refine Qn ?_);simp only[go_sem,seval,t0,t1,t5,hi2,hi3,elen,e1,e2,e3,e4,f1,f3,f4,f5,f6,x1,x2,x3,x4,y1,y2,Q9,QwM,hm1,hm2]
      refine Xo.mk (m':=s3.nx.toks.length) (by omega) ?_
      rw[hI]
      refine⟨l++[g],s3.nx,X++(.cells 127 3 [s2.tk.av]::(layA 69 (h.length+1+gsz l+1) g.args++[.cells 53 3 [gv (h.length+1+gsz l+1) g]])),rfl,hW3.nx,by simp;omega,⟨k - 1,by omega,hR3⟩,hX2 _ _,hA2 _ _,t0,t1,?_,?_⟩
      ·rw[elv];rfl
      ·rw[QwG];rfl
     |false =>
      have cs:=fun L=>Qe1 hW3 H hN L {data:=#[44]} (by rw[Lib.toList_data];exact hc)
      rw[hc,QwJ (by simp)]at hR3
      subst hR3
      repeat (first|refine FunW.QuW (cr _) ?_|refine FunW.QuW (cn _) ?_|refine FunW.QuW (cg _ _) ?_|refine FunW.QuW (cR _ _ _) ?_|refine FunW.QuW (cs _) ?_|refine Qn ?_);simp only[go_sem,seval,t0,t1,t5,hi2,hi3,elen,e1,e2,e3,e4,f1,f3,f4,f5,f6,x1,x2,x3,x4,y1,y2,Q9,QwM,hm1,hm2]
      rw[<-elv]
      exact .inr ⟨_,_,rfl,rfl,At.tail (hA2 _ _)⟩
 ·rw[hI]
  exact⟨[],s,[],rfl,hW,Qw3 _,⟨_,QwP _,hR⟩,rfl,At.nil _ _,rfl,rfl,by simp only[upd,↓reduceIte,Xm];rfl,rfl⟩
end
end Go.Proofs.YtenheconhibonaaGreatDoor.Ab
namespace Go.Proofs.YtenheconhibonaaGreatDoor.Ab
open Go.Proofs
section
variable{P:Pz}{s:PS}(hW:Wst P.all s){h:AH}(H:P.ok h)(hN:P.all.length<=1000000)(hD:TkOk P.all)(L:AH)
include hW H hN hD
end
section
variable{P:Pz}{s:PS}(hW:Wst P.all s){h:AH}(H:P.ok h)(hN:P.all.length<=1000000)(hD:TkOk P.all)
include hW H hN hD
theorem Qkt(most:Nat)(hmost:most<=100):QT Tryz.prog 67 [.ptr P.i 0 0,.i (most:Nat)] (ph h P s) (GsQ h P gv 3 (QbF most s)) :=
 Qp3 H QrF (fun _ _ _ _ _ h=>QtZ h) (Qn5 hW H hN hD most hmost)
end
end Go.Proofs.YtenheconhibonaaGreatDoor.Ab
namespace Go.Proofs.YtenheconhibonaaGreatDoor.Ab
open Go.Proofs
mutual
/-- a parsed term: what is no operator and no name has no arguments -/
def T.ps:T->Prop
 | .mk k _ _ bs=>(k=0\/k=1\/k=2)/\(k≠2->bs=[])/\pss bs
def pss:List T->Prop
 |[]=>True
 |t::l=>t.ps/\pss l
end
theorem QoS:∀{l:List T} {k:Nat} (h:k<l.length),pss l->(l[k]).ps
 |t::l,0,_,hp=>by rw[pss]at hp;exact hp.1
 |t::l,k+1,h,hp=>by rw[pss]at hp;exact QoS (l:=l) (by simpa using h) hp.2
theorem T.QvM{t:T}(h:t.ps):(t.kind=0\/t.kind=1\/t.kind=2)/\(t.kind≠2->t.args=[])/\pss t.args:=by
 cases t;rw[T.ps]at h;exact h
section
variable{σ:Type}(g:σ->Int->Int×σ)
mutual
theorem T.QvC:∀(s:σ) (t:T),(T.mapS g s t).1.sz=t.sz
 |s,.mk k i n l=>by
  simp only[T.mapS]
  split
  ·rfl
  ·split
   ·show szs (XJ g s l).1=szs l;exact Zf s l
   ·rfl
theorem Zf:∀(s:σ) (l:List T),szs (XJ g s l).1=szs l
 |s,[]=>by simp[XJ]
 |s,t::l=>by simp only[XJ,szs,T.QvC s t,Zf _ l]
end
theorem Qjf(n:Nat)(s:σ)(l:List T):lsl n (XJ g s l).1=lsl n l:=by
 unfold lsl
 rw[Zf,QaG]
 cases l with
 |nil=>simp[XJ]
 |cons t l=>simp[XJ]
end
theorem Qsw{X:AH}{tt:TypeId}{n:Nat}{r:AB}{l:List T}(h:At X n (lays tt n r l))(hl:l≠[])(hr:r.live=true):At X n (lays tt n .dead l)/\X[n+szs l - 1]? = some r:=by
 obtain⟨h1,h2⟩:=Qch tt n r l hl
 have hp:=Qdd hl
 refine⟨?_,h.get h1 hr (by omega)⟩
 rw[<-h2]
 intro j b hb hlv
 by_cases e:szs l - 1=j
 ·subst e
  rw[QwR (by rw[Zn];omega)]at hb
  cases hb;cases hlv
 ·rw[QwL e]at hb
  exact h j b hb hlv
theorem Qtg{X:AH}{tt:TypeId}{n:Nat}{r:AB}{l:List T}(h:At X n (lays tt n .dead l))(hl:l≠[])(hr:X[n+szs l - 1]? = some r):At X n (lays tt n r l):=by
 obtain⟨h1,h2⟩:=Qch tt n r l hl
 have hp:=Qdd hl
 intro j b hb hlv
 by_cases e:szs l - 1=j
 ·subst e
  rw[h1]at hb;cases hb
  rw[show n+(szs l - 1)=n+szs l - 1 by omega];exact hr
 ·rw[<-h2]at h
  exact h j b (by rw[QwL e];exact hb) hlv
theorem Qrn{X X':AH}{tt:TypeId}{n:Nat}{l m:List T}{u u':T}(hX:At X n (lays tt n .dead (l++u::m)))(hsz:u'.sz=u.sz)(hu:At X' (n+szs l) (u'.lay tt (n+szs l)))
  (hout:∀j,n<=j->j<n+szs (l++u::m)->¬(n+szs l<=j/\j<n+szs l+u.sz)->X'[j]? = X[j]?):At X' n (lays tt n .dead (l++u'::m)):=by
 intro j b hb hl
 have hlen:szs (l++u::m)=szs l+(u.sz+1+szs m):=by rw[Y3,szs]
 have hjl:=Qv hb
 rw[Zn,Y3,szs,hsz]at hjl
 rw[QbQ,lays,Qw6,Zn]at hb
 split at hb
 ·rename_i hj
  rw[hout (n+j) (by omega) (by omega) (by omega)]
  exact hX j b (by rw[QbQ,Qw6,Zn,QwN hj];exact hb) hl
 ·rename_i hj
  rw[Qw6,T.QuZ,hsz]at hb
  split at hb
  ·rename_i hj2
   have:=hu (j - szs l) b hb hl
   rwa [show n+szs l+(j - szs l)=n+j by omega]at this
  ·rename_i hj2
   rw[hout (n+j) (by omega) (by omega) (by omega)]
   refine hX j b ?_ hl
   rw[QbQ,lays,Qw6,Zn,QwJ hj,Qw6,T.QuZ,QwJ hj2]
   exact hb
theorem Qon{tt:TypeId}{n:Nat}{r:AB}{l m:List T}{u u':T}(h:u'.args=u.args):lays tt n r (l++u'::m)=lays tt n r (l++u::m):=by
 have h1:∀k,u'.lay tt k=u.lay tt k:=fun k=>by rw[T.Qva,T.Qva,h]
 have h2:u'.sz=u.sz:=by rw[T.Qvf,T.Qvf,h]
 rw[QbQ,QbQ,lays,lays,h1,h2]
theorem QfQ(n:Nat)(l m:List T)(u:T):lvs n (l++u::m)=lvs n l++(u.lv (n+szs l)::lvs (n+szs l+u.sz+1) m):=by rw[Qd4,lvs]
theorem Qqd{n:Nat}{l m:List T}{u u':T}(h:∀k,u'.lv k=u.lv k)(hs:u'.sz=u.sz):lvs n (l++u'::m)=lvs n (l++u::m):=by rw[QfQ,QfQ,h,hs]
theorem QsQ(n:Nat)(l m:List T)(u:T):(lvs n (l++u::m))[l.length]? = some (u.lv (n+szs l)):=by
 rw[QfQ,QwO (by rw[Z3];exact QwP _),Z3,Qxy];rfl
theorem Qoq{n:Nat}{l m:List T}{u u':T}(hs:u'.sz=u.sz):(lvs n (l++u::m)).set l.length (u'.lv (n+szs l))=lvs n (l++u'::m):=by
 rw[QfQ,QfQ,hs,QxH _ _ (by rw[Z3];exact QwP _),Z3,Qxy];rfl
def NSt(X:AH)(q:Nat)(ord:List Int):Prop:=∃toV,X[q]? = some (.cells 119 2 [.agg [toV,.sl 1 (ints ord) (some (q+1))]])/\X[q+1]? = some (.grow 3 1 ord.length) /\
 ((toV = .v (.map none)/\ord=[])\/∃m,toV = .mp m/\q+1<m/\X[m]? = some (mapB ord))
structure NumP (X X':AH) (q n w:Nat):Prop where
 long:X.length<=X'.length
 out:∀j,j<q->¬(n<=j/\j<n+w)->X'[j]? = X[j]?
theorem NumP.refl(X:AH)(q n w:Nat):NumP X X q n w:=⟨QwP _,fun _ _ _=>rfl⟩
theorem NumP.trans{X Y Z:AH}{q n w a b:Nat}(h:NumP X Y q n w)(k:NumP Y Z q a b)(ha:n<=a)(hb:a+b<=n+w):NumP X Z q n w :=
 ⟨Qw8 h.long k.long,fun j hj hn=>(k.out j hj (by omega)).trans (h.out j hj hn)⟩
theorem NSt.app{X:AH}{q:Nat}{ord:List Int}(h:NSt X q ord)(L:AH):NSt (X++L) q ord:=by
 obtain⟨toV,h1,h2,h3⟩:=h
 refine⟨toV,hext h1 L,hext h2 L,h3.imp id ?_⟩
 rintro⟨m,e,h4,h5⟩
 exact⟨m,e,h4,hext h5 L⟩
end Go.Proofs.YtenheconhibonaaGreatDoor.Ab
namespace Go.Proofs.YtenheconhibonaaGreatDoor.Ab
open Go.Proofs
theorem FunW.retE{P:Program}{α:Type}{fv:AV}{args:List AV}{h:AH}{h':α->AH}{r:AV}{Q:AOut->AH->Prop}(H:FunW P fv args h fun o h2=>o = .ret r/\∃x,h2=h' x)(k:∀x,Q (.ret r) (h' x)):FunW P fv args h Q:=H.mono (by rintro _ _ ⟨rfl,x,rfl⟩;exact k x)
theorem QrH(s:List Int)(v:Int):(ins s v).length<=s.length+1:=by
 unfold ins
 split
 ·omega
 ·simp
mutual
theorem T.QvE:∀(s:List Int) (t:T),(T.mapS gNum s t).2.length<=s.length+t.nds
 |s,.mk k i n l=>by
  simp only[T.mapS,T.nds]
  split
  ·have:=QrH s i
   show(ins s i).length<=_
   omega
  ·split
   ·have:=Qdy s l
    show(XJ gNum s l).2.length<=_
    omega
   ·show s.length<=_;omega
theorem Qdy:∀(s:List Int) (l:List T),(XJ gNum s l).2.length<=s.length+ndsL l
 |s,[]=>by simp[XJ]
 |s,t::l=>by
  simp only[XJ,ndsL]
  have h1:=T.QvE s t
  have h2:=Qdy (T.mapS gNum s t).2 l
  omega
end
theorem Qor{s:List Int}{u:T}(hp:u.ps)(hk:u.kind≠1):T.mapS gNum s u=(.mk u.kind u.int u.name (XJ gNum s u.args).1,(XJ gNum s u.args).2):=by
 obtain⟨h1,h2,_⟩:=T.QvM hp
 rw[T.Qu7,QwJ hk]
 by_cases h3:u.kind=2
 ·rw[QwN h3]
 ·rw[QwJ h3,h2 h3]
  cases u
  simp only[T.args,T.kind]at h2 h3
  rw[h2 h3];rfl
theorem Qc8:∀a b:List T,ndsL (a++b)=ndsL a+ndsL b
 |[],b=>by simp[ndsL]
 |t::a,b=>by rw[Qwh,ndsL,ndsL,Qc8 a b];omega
theorem QmH(l:List T){j:Nat}(h:j<l.length):ndsL (l.take j)+l[j].nds<=ndsL l:=by
 have:=Qxm ndsL (QxI j l)
 rw[Qc8,QwU h,ndsL]at this
 omega
theorem Qox(l:List T)(j:Nat):ndsL (l.take j)<=ndsL l:=by
 have:=Qxm ndsL (QxI j l)
 rw[Qc8]at this
 omega
theorem Qsx{X:AH}{tt:TypeId}{n:Nat}{r:AB}{l m:List T}{u:T}(h:At X n (lays tt n r (l++u::m))):At X (n+szs l) (u.lay tt (n+szs l)):=by
 rw[QbQ,lays]at h
 exact(h.right (m:=n+szs l) (by rw[Zn])).left
def Cur(ord:List Int)(bs:List T)(j:Nat):List T:=(XJ gNum ord (bs.take j)).1++bs.drop j
theorem QiO(ord:List Int){bs:List T}{j:Nat}(hj:j<bs.length):Cur ord bs j=(XJ gNum ord (bs.take j)).1++bs[j]::bs.drop (j+1) /\
  Cur ord bs (j+1)=(XJ gNum ord (bs.take j)).1++(T.mapS gNum (XJ gNum ord (bs.take j)).2 bs[j]).1::bs.drop (j+1)/\(XJ gNum ord (bs.take (j+1))).2=(T.mapS gNum (XJ gNum ord (bs.take j)).2 bs[j]).2:=by
 obtain⟨h1,h2⟩:=QmE gNum ord hj
 refine⟨by rw[Cur,QwU hj],?_,h2⟩
 rw[Cur,h1,QwM];rfl
theorem Qkf(ord:List Int)(bs:List T)(j:Nat):szs (Cur ord bs j)=szs bs:=by
 rw[Cur,Y3,Zf,<-Y3,QxI]
theorem NSt.set{X:AH}{q:Nat}{ord:List Int}(h:NSt X q ord){k:Nat}(hk:k<q)(y:AB):NSt (X.set k y) q ord:=by
 obtain⟨toV,h1,h2,h3⟩:=h
 refine⟨toV,by rw[QwL (by omega)];exact h1,by rw[QwL (by omega)];exact h2,h3.imp id ?_⟩
 rintro⟨m,e,h4,h5⟩
 exact⟨m,e,h4,by rw[QwL (by omega)];exact h5⟩
theorem NumP.set{X Y:AH}{q n w:Nat}(h:NumP X Y q n w){k:Nat}(hk:n<=k/\k<n+w)(y:AB):NumP X (Y.set k y) q n w :=
 ⟨by rw[QwZ];exact h.long,fun j hj hn=>by rw[QwL (by omega)];exact h.out j hj hn⟩
theorem NumP.setA{X Y:AH}{q n w:Nat}(h:NumP X Y q n w){k:Nat}(hk:q<=k)(y:AB):NumP X (Y.set k y) q n w :=
 ⟨by rw[QwZ];exact h.long,fun j hj hn=>by rw[QwL (by omega)];exact h.out j hj hn⟩
theorem NumP.app{X Y:AH}{q n w:Nat}(h:NumP X Y q n w)(L:AH)(hq:q<=Y.length):NumP X (Y++L) q n w :=
 ⟨by rw[QwG];exact Qw8 h.long (by omega),fun j hj hn=>by rw[QwI (by omega)];exact h.out j hj hn⟩
theorem At.Qvt{h:AH}{n:Nat}{L:AH}(H:At h n L){k:Nat}{x:AB}(hk:n+L.length<=k):At (h.set k x) n L:=H.set fun b hb _=>by
 have:=Qv hb
 omega
theorem QkI{X0 Z:AH}{q n:Nat}{ord:List Int}{bs:List T}{j rid:Nat}(hlt:j<bs.length)(hrid:rid=n+szs bs - 1)(hq:n+szs bs<=q)(hP:NumP X0 Z q n (szs bs))(hS:NSt Z q (XJ gNum ord (bs.take (j+1))).2)
  (hA:At Z n (lays 69 n .dead (Cur ord bs j))) {c1:List T} (hc1:(XJ gNum ord (bs.take j)).1=c1) (hr:rid<Z.length) {v:Int} (ec':Cur ord bs (j+1)=c1++T.mk bs[j].kind v bs[j].name bs[j].args::bs.drop (j+1)) :
  NumP X0 (Z.set rid (.cells 69 4 ((lvs n (Cur ord bs j)).set j (.agg [.v (.int .i64 bs[j].kind),.v (.int .i64 v),.v (.string bs[j].name),lsl (n+szs c1) bs[j].args])))) q n (szs bs) /\
  NSt (Z.set rid (.cells 69 4 ((lvs n (Cur ord bs j)).set j (.agg [.v (.int .i64 bs[j].kind),.v (.int .i64 v),.v (.string bs[j].name),lsl (n+szs c1) bs[j].args])))) q (XJ gNum ord (bs.take (j+1))).2 /\
  At (Z.set rid (.cells 69 4 ((lvs n (Cur ord bs j)).set j (.agg [.v (.int .i64 bs[j].kind),.v (.int .i64 v),.v (.string bs[j].name),lsl (n+szs c1) bs[j].args])))) n (lays 69 n .dead (Cur ord bs (j+1))) /\
  (Z.set rid (.cells 69 4 ((lvs n (Cur ord bs j)).set j (.agg [.v (.int .i64 bs[j].kind),.v (.int .i64 v),.v (.string bs[j].name),lsl (n+szs c1) bs[j].args]))))[rid]? = some (.cells 69 4 (lvs n (Cur ord bs (j+1)))):=by
 have hne:bs≠[]:=by rintro rfl;simp at hlt
 have hp:=Qdd hne
 obtain⟨ec,_,_⟩:=QiO ord hlt
 rw[hc1]at ec
 have hc1l:c1.length=j:=by rw[<-hc1,QaG,Qw9];omega
 have hcs:=Qkf ord bs j
 refine⟨hP.set (by omega) _,hS.set (by omega) _,?_,?_⟩
 ·rw[ec',Qon (u:=bs[j]) (u':=T.mk bs[j].kind v bs[j].name bs[j].args) rfl,<-ec]
  refine hA.set fun b hb hn=>?_
  have hne2:Cur ord bs j≠[]:=by rw[ec];exact List.append_ne_nil_of_right_ne_nil _ (List.cons_ne_nil _ _)
  have h1:=(Qch 69 n .dead _ hne2).1
  rw[hcs,show szs bs - 1=rid - n by omega,hb]at h1
  cases h1;rfl
 ·rw[QwR hr,ec',<-Qoq (u:=bs[j]) (u':=T.mk bs[j].kind v bs[j].name bs[j].args) (by rw[T.Qvf,T.Qvf];rfl),<-ec,hc1l,T.Qvn]
  rfl
theorem QlO{X0 X:AH}{q n a w:Nat}{M:AH}(hM:M.length<=w)(hq:n+w<=q)(hqx:q<=X.length)(hP:NumP X0 X q n w)(hA:At X n M)(ha:q<=a)(A G C:AB)(L:AH) :
  NumP X0 ((((X.set a A).set (q+1) G).set q C)++L) q n w/\At ((((X.set a A).set (q+1) G).set q C)++L) n M:=by
 refine⟨NumP.app (((hP.setA ha A).setA (by omega) G).setA (QwP _) C) L (by simp only[QwZ];exact hqx),?_⟩
 exact(((hA.Qvt (by omega)).Qvt (by omega)).Qvt (by omega)).app L
theorem QsV{X:AH}{q a:Nat}(A G C:AB)(L:AH)(h:q+1<X.length):((((X.set a A).set (q+1) G).set q C)++L)[q]? = some C/\((((X.set a A).set (q+1) G).set q C)++L)[q+1]? = some G /\
  (q+1<a->a<X.length->((((X.set a A).set (q+1) G).set q C)++L)[a]? = some A):=by
 refine⟨?_,?_,fun h1 h2=>?_⟩
 ·rw[QwI (by simp only[QwZ];omega),QwR (by simp only[QwZ];omega)]
 ·rw[QwI (by simp only[QwZ];omega),QwL (by omega),QwR (by simp only[QwZ];omega)]
 ·rw[QwI (by simp only[QwZ];omega),QwL (by omega),QwL (by omega),QwR h2]
theorem Qoa(l:List Int)(v:Int):ints (l++[v])=ints l++[.i v]:=by simp[ints]
theorem QoA{X:AH}{q:Nat}(A c:AB)(v:Int)(h:q+1<X.length):NSt ((((X.set q A).set (q+1) (.grow 3 1 1)).set q (.cells 119 2 [.agg [.mp (X.length+1),.sl 1 (ints []++[.v (.int .i64 v)]) (some (q+1))]]))++[c,.map [(.int .i64 v,.v (.int .i64 0))]]) q ([]++[v]):=by
 obtain⟨b1,b2,_⟩:=QsV (X:=X) (q:=q) (a:=q) A (.grow 3 1 1) (.cells 119 2 [.agg [.mp (X.length+1),.sl 1 (ints []++[.v (.int .i64 v)]) (some (q+1))]]) [c,.map [(.int .i64 v,.v (.int .i64 0))]] h
 refine⟨_,b1,b2,.inr ⟨X.length+1,rfl,by omega,?_⟩⟩
 rw[QwO (by simp only[QwZ];omega)]
 simp only[QwZ,QxX]
 rfl
theorem Qqi{X:AH}{q m:Nat}{ord:List Int}(c:AB)(v:Int)(h:q+1<X.length)(hm:q+1<m)(hmX:m<X.length):NSt ((((X.set m (.map (imap (Zg ord++[(v,.v (.int .i64 ord.length))])))).set (q+1) (.grow 3 1 (ord.length+1))).set q (.cells 119 2 [.agg [.mp m,.sl 1 (ints ord++[.v (.int .i64 v)]) (some (q+1))]]))++[c]) q (ord++[v]):=by
 obtain⟨b1,b2,b3⟩:=QsV (X:=X) (q:=q) (a:=m) (.map (imap (Zg ord++[(v,.v (.int .i64 ord.length))]))) (.grow 3 1 (ord.length+1)) (.cells 119 2 [.agg [.mp m,.sl 1 (ints ord++[.v (.int .i64 v)]) (some (q+1))]]) [c] h
 refine⟨.mp m,?_,?_,.inr ⟨m,rfl,hm,?_⟩⟩
 ·rw[b1,Qoa]
 ·rw[b2,QwG];rfl
 ·rw[b3 hm hmX,mapB,QfV]
def TmQ(X:AH)(q n:Nat)(ord:List Int)(bs:List T)(o:AOut)(h':AH):Prop:=o = .ret (.tup [])/\NumP X h' q n (szs bs)/\NSt h' q (XJ gNum ord bs).2/\At h' n (layA 69 n (XJ gNum ord bs).1)
theorem Qpi(X:AH)(q n:Nat)(ord:List Int)(hS:NSt X q ord):QT Tryz.prog 111 [.ptr q 0 0,.v (.slice none 0 0)] X (TmQ X q n ord []):=by
 have hn:=fun t'=>Qjv Tryz.prog 44 t' 69 (by kernel_rfl)
 refine Qb Tryz.func111 rfl Tryz.call111 Tryz.ntmps111 Tryz.results111 (by simp) ?_
 repeat refine Qn ?_;simp only[go_sem,seval,hn]
 obtain⟨I,hI⟩:∃I:Nat->AS->Prop,I=fun m' s=>s.tm 9 = .i 0/\s.tm 10 = .i 0/\s.h=X:=⟨_,rfl⟩;refine QZ I ?_ (m:=0) ?_
 ·intro m' s hs;rw[hI]at hs;obtain⟨tm,hp⟩:=s;dsimp only at hs;obtain⟨t9,t10,rfl⟩:=hs
  have z:¬((0:Int)<0):=by omega
  repeat refine Qn ?_;simp only[go_sem,seval,t9,t10,z]
  exact .inr ⟨rfl,NumP.refl _ _ _ _,by simpa [XJ]using hS,by simp only[XJ];exact Qhc _ _⟩
 ·rw[hI]
  exact⟨rfl,rfl,rfl⟩
section
variable{Nn:Nat}(IH:∀(bs:List T),szs bs<Nn->pss bs->∀(X:AH) (q n:Nat) (ord:List Int),ord.length+ndsL bs<=1000000000->n+szs bs<=q->q+1<X.length->NSt X q ord->At X n (layA 69 n bs)->QT Tryz.prog 111 [.ptr q 0 0,lsl n bs] X (TmQ X q n ord bs))
include IH
theorem Qm6(bs:List T)(hsz:szs bs<Nn+1)(hps:pss bs)(X0:AH)(q n:Nat)(ord:List Int)(hb:ord.length+ndsL bs<=1000000000)(hq:n+szs bs<=q)(hqx:q+1<X0.length)(hS0:NSt X0 q ord)(hA0:At X0 n (layA 69 n bs)) :
  QT Tryz.prog 111 [.ptr q 0 0,lsl n bs] X0 (TmQ X0 q n ord bs):=by
 by_cases hne:bs=[]
 ·subst hne;exact Qpi X0 q n ord hS0
 obtain⟨hA1,hrow0⟩:=Qsw hA0 hne rfl
 have hsp:=Qdd hne
 obtain⟨rid,hrid⟩:∃rid,rid=n+szs bs - 1:=⟨_,rfl⟩
 have hbl:bs.length<=1000000000:=by
  have:bs.length<=ndsL bs:=X5 bs
  omega
 have hl0:lsl n bs = .arr rid 0 bs.length:=by rw[lsl,QwJ (by simpa using hne),hrid]
 rw[hl0]
 rw[<-hrid]at hrow0
 have hg0:∀L:AH,(X0++L)[rid]? = some (.cells 69 4 (lvs n bs)):=fun L=>hext hrow0 L
 have hlv:=Z3 n bs
 refine Qb Tryz.func111 rfl Tryz.call111 Tryz.ntmps111 Tryz.results111 (by simp) ?_
 with_reducible repeat first|refine Qa fun K E hK hE=>?_;simp only[Qh,Qe,Qk,OpW,aop,undef,AS.ev,Qg,Qu,Qr,QG,QvW,Qwf,↓reduceIte,Nat.reduceLT,aLen,QvR,goInt,un44,hrow0]|refine Qj ?_|refine hK _ ?_;clear hK
 obtain⟨I,hI⟩:∃I:Nat->AS->Prop,I=fun m' s=>∃(j:Nat),m'=bs.length - j/\j<=bs.length/\NumP X0 s.h q n (szs bs)/\NSt s.h q (XJ gNum ord (bs.take j)).2/\At s.h n (lays 69 n .dead (Cur ord bs j))/\s.h[rid]? = some (.cells 69 4 (lvs n (Cur ord bs j))) /\
  s.tm 0 = .ptr q 0 0/\s.tm 1 = .arr rid 0 bs.length/\s.tm 8 = .arr rid 0 bs.length/\s.tm 9 = .i bs.length/\s.tm 10 = .i j:=⟨_,rfl⟩;refine QZ I ?_ (m:=bs.length) ?_
 ·intro m' s hs;rw[hI]at hs;obtain⟨tm,hp⟩:=s;dsimp only at hs;obtain⟨j,rfl,hj,hP,hS,hA,hrow,t0,t1,t8,t9,t10⟩:=hs
  by_cases hlt:j<bs.length
  ·have z1:(((j:Nat):Int)<((bs.length:Nat):Int)):=by omega
   obtain⟨ec,ec',eo⟩:=QiO ord hlt
   have hup:=QoS hlt hps
   have hpl:=hP.long
   generalize hX:hp=X at *
   have hXl:q+1<X.length:=by omega
   generalize hc1:(XJ gNum ord (bs.take j)).1=c1 at *
   have hc1l:c1.length=j:=by rw[<-hc1,QaG,Qw9];omega
   have hc1s:szs c1=szs (bs.take j):=by rw[<-hc1,Zf]
   generalize hord:(XJ gNum ord (bs.take j)).2=ordj at *
   have hol:ordj.length<=1000000000:=by
    have h1:=Qdy ord (bs.take j)
    have h2:ndsL (bs.take j)<=ndsL bs:=Qox bs j
    rw[hord]at h1;omega
   have hszu:szs (bs.take j)+(bs[j].sz+1+szs (bs.drop (j+1)))=szs bs:=by
    have:=Qxm szs (QxI j bs)
    rw[Y3,QwU hlt,szs]at this
    exact this
   have hu1:bs[j].sz=szs bs[j].args:=T.Qvf _
   have hndu:bs[j].nds<=ndsL bs:=QaQ hlt
   have hcl:(lvs n (Cur ord bs j)).length=bs.length:=by rw[Z3,ec,QwG,Qv2,Qxi,hc1l];omega
   have hat:(lvs n (Cur ord bs j))[j]? = some (bs[j].lv (n+szs c1)):=by
    have:=QsQ n c1 (bs.drop (j+1)) bs[j]
    rw[hc1l]at this
    rw[ec];exact this
   have e1:=T.Qu0 (n+szs c1) bs[j]
   have e2:=T.Qu3 (n+szs c1) bs[j]
   have hrL:∀L:AH,(X++L)[rid]? = some (.cells 69 4 (lvs n (Cur ord bs j))):=fun L=>hext hrow L
   have wj:IntKind.i64.wrap (((j:Nat):Int)+1)=((j+1:Nat):Int):=Xe (by omega)
   by_cases hk:bs[j].kind=1
   ·have z2:(bs[j].kind != 1)=false:=by simp[hk]
    have hmv:T.mapS gNum ordj bs[j]=(.mk bs[j].kind (plc (ins ordj bs[j].int) bs[j].int:Nat) bs[j].name bs[j].args,ins ordj bs[j].int):=by rw[T.Qu7,QwN hk];rfl
    rw[hmv]at ec' eo
    obtain⟨toV,s1,s2,s3⟩:=hS
    have g1:∀L:AH,(X++L)[q]? = _:=fun L=>hext s1 L
    have g2:∀L:AH,(X++L)[q+1]? = _:=fun L=>hext s2 L
    by_cases hf:bs[j].int∈ordj
    ·rcases s3 with⟨_,rfl⟩|⟨m,rfl,hm,s3⟩
     ·cases hf
     have hmX:=Qv s3
     have g3:∀L:AH,(X++L)[m]? = _:=fun L=>hext s3 L
     have hget1:=QfY bs[j].int ordj
     rw[QwN hf]at hget1
     have hfind:=Qcc bs[j].int (Zg ordj)
     rw[hget1]at hfind
     repeat first|(first|with_reducible (first|refine Qa fun K E hK hE=>?_|refine Ql fun K E hK hE=>?_)|refine QH (id:=5) [(0,0),(1,0),(2,0),(3,0),(4,0),(5,0),(6,0),(7,0),(8,0),(9,0),(10,0),(11,0)] mixed (by kernel_rfl) fun K hK=>?_);simp only[XQ,Xz,Yo,Qh,Qe,Qk,OpW,aop,undef,AS.ev,Qg,QX,Qu,Qr,AV.QuX,Qo,Q6,QD,Xx,Qv9,Qwa,QE,QA,QM,Qwb,Qwc,↓reduceIte,Qv2,Qv3,Nat.reduceAdd,Nat.reduceLT,Nat.reduceLeDiff,Nat.reduceEqDiff,Qv1,Qwe,Qwn,Qm,QQ,QR,Xf,QY,QJ,aBin,Y5,Qaj,Q8,Yd,QvP,QvQ,Qwj,QvR,QvS,Qwh,Qwg,Qv0,Qv7,QvY,Qv6,YH,Q5,Yc,Ya,Qwl,Qws,Qwr,QvT,ti3,ei44,ti69,XR,Yw,zi69,ti91,mi91,Qfy,Q2,t0,t1,t8,t9,t10,z1,z2,hrow,hrL,hat,e1,e2,Q9,g1,g3,hfind,mapB]|with_reducible (first|refine Qf fun K hK=>?_|refine Qj ?_|refine Qw ?_|refine Qd ?_|refine Qt ?_|refine hK _ ?_;clear hK|refine Qi rfl ?_;simp only[↓reduceIte,QvT])
     refine Xo.mk (m':=bs.length - (j+1)) (by omega) ?_
     rw[hI]
     have hins:ins ordj bs[j].int=ordj:=by unfold ins;rw[QwN hf]
     rw[hins]at ec' eo
     obtain⟨r1,r2,r3,r4⟩:=QkI (Z:=X++[.cells 69 4 [T.lv (n+szs c1) bs[j]]]) hlt hrid hq (hP.app _ (by omega)) (by rw[eo];exact NSt.app ⟨_,s1,s2,.inr ⟨m,rfl,hm,s3⟩⟩ _) (hA.app _) hc1 (Qv (hrL _)) ec'
     exact⟨j+1,rfl,by omega,r1,r2,r3,r4,t0,t1,t8,t9,by rw[wj];rfl⟩
    ·have hfl:QhS bs[j].int (Zg ordj)=none:=by rw[QfY,QwJ hf]
     have hfind:=Qcc bs[j].int (Zg ordj)
     rw[hfl]at hfind
     have hins:ins ordj bs[j].int=ordj++[bs[j].int]:=by unfold ins;rw[QwJ hf]
     have hplc:plc (ordj++[bs[j].int]) bs[j].int=ordj.length:=Qbq [] hf
     rw[hins,hplc]at ec' eo
     have hrq:rid<q:=by omega
     have hqX0:q<X.length:=by omega
     have ml1:1<=maxLen:=by decide
     have ml2:ordj.length+1<=maxLen:=by unfold maxLen;omega
     have ml3:(ordj.length+1) * 8<=140737488355328:=by omega
     have nM:pv Tryz.prog (do eqGuard .eql 91 (Operand.tmp 37) (Operand.const (Value.map none)) (.map none) (.map none);binOp .eql 91 (.map none) (.map none))=some (.bool true):=by kernel_rfl
     rcases s3 with⟨rfl,e0⟩|⟨m,rfl,hm,s3⟩
     ·subst e0
      have hupd:∀v,updA (.int .i64) (.int .i64 bs[j].int) v []=some [(.int .i64 bs[j].int,v)]:=fun _=>rfl
      have a_q:∀(Y L:AH),Y.length=X.length->(Y++L)[q]? = Y[q]? := fun Y L hY=>QwI (by omega)
      have s_q:∀(Y L:AH) (y:AB),Y.length=X.length->(Y++L).set q y=Y.set q y++L:=fun Y L y hY=>Qw2 _ _ (by omega)
      have i_q:∀(Y:AH) (y:AB),Y.length=X.length->(Y.set q y)[q]? = some y:=fun Y y hY=>QwR (by omega)
      have n_q_p:∀(Y:AH) (y:AB),(Y.set q y)[(q+1)]? = Y[(q+1)]? := fun Y y=>QwL (by omega)
      have n_q_r:∀(Y:AH) (y:AB),(Y.set q y)[rid]? = Y[rid]? := fun Y y=>QwL (by omega)
      have a_p:∀(Y L:AH),Y.length=X.length->(Y++L)[(q+1)]? = Y[(q+1)]? := fun Y L hY=>QwI (by omega)
      have s_p:∀(Y L:AH) (y:AB),Y.length=X.length->(Y++L).set (q+1) y=Y.set (q+1) y++L:=fun Y L y hY=>Qw2 _ _ (by omega)
      have i_p:∀(Y:AH) (y:AB),Y.length=X.length->(Y.set (q+1) y)[(q+1)]? = some y:=fun Y y hY=>QwR (by omega)
      have n_p_q:∀(Y:AH) (y:AB),(Y.set (q+1) y)[q]? = Y[q]? := fun Y y=>QwL (by omega)
      have n_p_r:∀(Y:AH) (y:AB),(Y.set (q+1) y)[rid]? = Y[rid]? := fun Y y=>QwL (by omega)
      have a_r:∀(Y L:AH),Y.length=X.length->(Y++L)[rid]? = Y[rid]? := fun Y L hY=>QwI (by omega)
      have s_r:∀(Y L:AH) (y:AB),Y.length=X.length->(Y++L).set rid y=Y.set rid y++L:=fun Y L y hY=>Qw2 _ _ (by omega)
      have i_r:∀(Y:AH) (y:AB),Y.length=X.length->(Y.set rid y)[rid]? = some y:=fun Y y hY=>QwR (by omega)
      have n_r_q:∀(Y:AH) (y:AB),(Y.set rid y)[q]? = Y[q]? := fun Y y=>QwL (by omega)
      have n_r_p:∀(Y:AH) (y:AB),(Y.set rid y)[(q+1)]? = Y[(q+1)]? := fun Y y=>QwL (by omega)
      have t_0:∀(Y L:AH),Y.length=X.length->(Y++L)[X.length]? = L[0]? := fun Y L hY=>by rw[<-hY];exact Q8 _ _
      have t_k:∀(Y L:AH) (k:Nat),Y.length=X.length->(Y++L)[X.length+k]? = L[k]? := fun Y L k hY=>by rw[<-hY];exact hget _ _ _
      have u_0:∀(Y L:AH) (y:AB),Y.length=X.length->(Y++L).set X.length y=Y++L.set 0 y:=fun Y L y hY=>by rw[<-hY];exact Yd _ _ _
      have u_k:∀(Y L:AH) (k:Nat) (y:AB),Y.length=X.length->(Y++L).set (X.length+k) y=Y++L.set k y:=fun Y L k y hY=>by rw[<-hY];exact hset _ _ _ _
      repeat first|(first|with_reducible (first|refine Qa fun K E hK hE=>?_|refine Ql fun K E hK hE=>?_)|refine QH (id:=5) [(0,0),(1,0),(2,0),(3,0),(4,0),(5,0),(6,0),(7,0),(8,0),(9,0),(10,0),(11,0)] mixed (by kernel_rfl) fun K hK=>?_|refine QH (id:=10) [(0,0),(1,0),(2,0),(3,0),(4,0),(5,0),(6,0),(7,2)] mixed (by kernel_rfl) fun K hK=>?_|refine Xu (id:=11) [(0,0),(1,0),(2,0),(3,0),(4,0),(5,0),(6,0),(7,0),(8,2),(9,0),(10,0),(11,2)] mixed (by kernel_rfl) fun K hK=>?_);simp only[XQ,Xz,Yo,Qh,Qe,Qk,OpW,aop,undef,AS.ev,Qg,QX,Qu,Qan,Qr,AV.QuX,Qo,Q6,XV,ZM,QD,Xx,Yn,ZO,Qv9,Qwa,QE,QA,QM,QP,ZL,Qwb,Qwd,↓reduceIte,Qv2,Qv3,Nat.reduceAdd,Nat.reduceLT,Nat.reduceLeDiff,Nat.reduceEqDiff,Nat.reduceMul,Qv1,Qwe,Qwo,Qwn,Qm,QQ,QR,Xf,QY,QJ,aBin,Y5,QW,aLen,Y4,Zj,Qaj,Zk,hlen,happ,QvP,QvQ,Qwj,Qwk,QvR,Qwu,QvS,Qv4,Qv8,Qwh,Qwg,Qwi,Qv0,Qv7,QvY,Qv6,YH,Q5,Yc,Ya,goInt,Qwl,QvX,Qws,Qwr,QwB,QvT,rng1,Xg,Nat.reducePow,Xn,ti3,zi3,ti42,ei42,ai42,un42,ei44,ti69,XR,Yw,zi69,ti91,mi91,Qfy,QhM,Q2,t0,t1,t8,t9,t10,z1,z2,hrow,hat,e1,e2,Q9,s2,g1,nM,hupd,QwZ,ml1,a_q,s_q,i_q,n_q_p,n_q_r,a_p,s_p,n_p_q,n_p_r,a_r,s_r,t_0,t_k,u_0,u_k]|with_reducible (first|refine Qf fun K hK=>?_|refine Qj ?_|refine Qw ?_|refine Qd ?_|refine Qt ?_|refine hK _ ?_;clear hK|refine Qi rfl ?_;simp only[↓reduceIte,QvT])
      refine Xo.mk (m':=bs.length - (j+1)) (by omega) ?_
      rw[hI]
      rw[<-Qw2 _ _ (by simp only[QwZ];omega)]
      have hML:(lays 69 n .dead (Cur ord bs j)).length<=szs bs:=by rw[Zn,Qkf];exact QwP _
      obtain⟨b1,b2⟩:=QlO (a:=q) hML hq (by omega) hP hA (by omega) (.cells 119 2 [.agg [.mp (X.length+1),.sl 1 (ints []) (some (q+1))]]) (.grow 3 1 1) (.cells 119 2 [.agg [.mp (X.length+1),.sl 1 (ints []++[.v (.int .i64 bs[j].int)]) (some (q+1))]]) [.cells 69 4 [T.lv (n+szs c1) bs[j]],.map [(.int .i64 bs[j].int,.v (.int .i64 0))]]
      obtain⟨r1,r2,r3,r4⟩:=QkI hlt hrid hq b1 (by rw[eo];exact QoA (.cells 119 2 [.agg [.mp (X.length+1),.sl 1 (ints []) (some (q+1))]]) (.cells 69 4 [T.lv (n+szs c1) bs[j]]) _ (by omega)) b2 hc1 (by simp only[QwG,QwZ];omega) ec'
      exact⟨j+1,rfl,by omega,r1,r2,r3,r4,t0,t1,t8,t9,by rw[wj];rfl⟩
     ·have hmX:=Qv s3
      have g3:∀L:AH,(X++L)[m]? = _:=fun L=>hext s3 L
      have hupd:=fun v=>Qim bs[j].int v (Zg ordj) hfl
      have nn:∀L:AH,notNil Tryz.prog 91 (X++L) (.mp m) (.map none)=true:=fun L=>by
       have hu:Tryz.prog.underlying 91=some (.map 3 3):=by kernel_rfl
       simp only[notNil,hu,g3 L,mapB]
      have a_q:∀(Y L:AH),Y.length=X.length->(Y++L)[q]? = Y[q]? := fun Y L hY=>QwI (by omega)
      have s_q:∀(Y L:AH) (y:AB),Y.length=X.length->(Y++L).set q y=Y.set q y++L:=fun Y L y hY=>Qw2 _ _ (by omega)
      have i_q:∀(Y:AH) (y:AB),Y.length=X.length->(Y.set q y)[q]? = some y:=fun Y y hY=>QwR (by omega)
      have n_q_p:∀(Y:AH) (y:AB),(Y.set q y)[(q+1)]? = Y[(q+1)]? := fun Y y=>QwL (by omega)
      have n_q_m:∀(Y:AH) (y:AB),(Y.set q y)[m]? = Y[m]? := fun Y y=>QwL (by omega)
      have n_q_r:∀(Y:AH) (y:AB),(Y.set q y)[rid]? = Y[rid]? := fun Y y=>QwL (by omega)
      have a_p:∀(Y L:AH),Y.length=X.length->(Y++L)[(q+1)]? = Y[(q+1)]? := fun Y L hY=>QwI (by omega)
      have s_p:∀(Y L:AH) (y:AB),Y.length=X.length->(Y++L).set (q+1) y=Y.set (q+1) y++L:=fun Y L y hY=>Qw2 _ _ (by omega)
      have i_p:∀(Y:AH) (y:AB),Y.length=X.length->(Y.set (q+1) y)[(q+1)]? = some y:=fun Y y hY=>QwR (by omega)
      have n_p_q:∀(Y:AH) (y:AB),(Y.set (q+1) y)[q]? = Y[q]? := fun Y y=>QwL (by omega)
      have n_p_m:∀(Y:AH) (y:AB),(Y.set (q+1) y)[m]? = Y[m]? := fun Y y=>QwL (by omega)
      have n_p_r:∀(Y:AH) (y:AB),(Y.set (q+1) y)[rid]? = Y[rid]? := fun Y y=>QwL (by omega)
      have a_m:∀(Y L:AH),Y.length=X.length->(Y++L)[m]? = Y[m]? := fun Y L hY=>QwI (by omega)
      have s_m:∀(Y L:AH) (y:AB),Y.length=X.length->(Y++L).set m y=Y.set m y++L:=fun Y L y hY=>Qw2 _ _ (by omega)
      have i_m:∀(Y:AH) (y:AB),Y.length=X.length->(Y.set m y)[m]? = some y:=fun Y y hY=>QwR (by omega)
      have n_m_q:∀(Y:AH) (y:AB),(Y.set m y)[q]? = Y[q]? := fun Y y=>QwL (by omega)
      have n_m_p:∀(Y:AH) (y:AB),(Y.set m y)[(q+1)]? = Y[(q+1)]? := fun Y y=>QwL (by omega)
      have n_m_r:∀(Y:AH) (y:AB),(Y.set m y)[rid]? = Y[rid]? := fun Y y=>QwL (by omega)
      have a_r:∀(Y L:AH),Y.length=X.length->(Y++L)[rid]? = Y[rid]? := fun Y L hY=>QwI (by omega)
      have s_r:∀(Y L:AH) (y:AB),Y.length=X.length->(Y++L).set rid y=Y.set rid y++L:=fun Y L y hY=>Qw2 _ _ (by omega)
      have i_r:∀(Y:AH) (y:AB),Y.length=X.length->(Y.set rid y)[rid]? = some y:=fun Y y hY=>QwR (by omega)
      have n_r_q:∀(Y:AH) (y:AB),(Y.set rid y)[q]? = Y[q]? := fun Y y=>QwL (by omega)
      have n_r_p:∀(Y:AH) (y:AB),(Y.set rid y)[(q+1)]? = Y[(q+1)]? := fun Y y=>QwL (by omega)
      have n_r_m:∀(Y:AH) (y:AB),(Y.set rid y)[m]? = Y[m]? := fun Y y=>QwL (by omega)
      have t_0:∀(Y L:AH),Y.length=X.length->(Y++L)[X.length]? = L[0]? := fun Y L hY=>by rw[<-hY];exact Q8 _ _
      have t_k:∀(Y L:AH) (k:Nat),Y.length=X.length->(Y++L)[X.length+k]? = L[k]? := fun Y L k hY=>by rw[<-hY];exact hget _ _ _
      have u_0:∀(Y L:AH) (y:AB),Y.length=X.length->(Y++L).set X.length y=Y++L.set 0 y:=fun Y L y hY=>by rw[<-hY];exact Yd _ _ _
      have u_k:∀(Y L:AH) (k:Nat) (y:AB),Y.length=X.length->(Y++L).set (X.length+k) y=Y++L.set k y:=fun Y L k y hY=>by rw[<-hY];exact hset _ _ _ _
      repeat first|(first|with_reducible (first|refine Qa fun K E hK hE=>?_|refine Ql fun K E hK hE=>?_)|refine QH (id:=5) [(0,0),(1,0),(2,0),(3,0),(4,0),(5,0),(6,0),(7,0),(8,0),(9,0),(10,0),(11,0)] mixed (by kernel_rfl) fun K hK=>?_|refine QH (id:=10) [(0,0),(1,0),(2,0),(3,0),(4,0),(5,0),(6,0),(7,2)] mixed (by kernel_rfl) fun K hK=>?_|refine Xu (id:=11) [(0,0),(1,0),(2,0),(3,0),(4,0),(5,0),(6,0),(7,0),(8,2),(9,0),(10,0),(11,2)] mixed (by kernel_rfl) fun K hK=>?_);simp only[XQ,Xz,Yo,Qh,Qe,Qk,OpW,aop,undef,AS.ev,Qg,QX,Qu,Qan,Qr,AV.QuX,Qo,Q6,XV,QD,Xx,Yn,Qv9,Qwa,QE,QA,QM,QP,Qwb,Qwd,↓reduceIte,Qv2,Qv3,Nat.reduceAdd,Nat.reduceLT,Nat.reduceLeDiff,Nat.reduceEqDiff,Nat.reduceMul,Qv1,Qwe,Qwn,Qm,QQ,QR,Xf,QY,QJ,aBin,Y5,QW,aLen,Y4,Zj,Qaj,Zk,QvP,QvQ,Qwj,QvR,QvS,Qv4,Qv8,Qwh,Qwg,Qwi,Qv0,Qv7,QvY,Qv6,YH,Q5,Yc,Ya,goInt,Qwl,QvX,Qws,Qwr,QvT,rng1,Xg,Nat.reducePow,Xn,ti3,zi3,ti42,ei42,ai42,un42,ei44,ti69,XR,Yw,zi69,ti91,mi91,Qfy,QhM,Q2,t0,t1,t8,t9,t10,z1,z2,hrow,hat,e1,e2,Q9,s1,s2,g1,g3,hfind,mapB,hupd,nn,QwZ,ml2,ml3,a_q,s_q,n_q_r,a_p,s_p,n_p_q,n_p_r,s_m,n_m_q,n_m_p,n_m_r,a_r,s_r,t_0,u_0]|with_reducible (first|refine Qf fun K hK=>?_|refine Qj ?_|refine Qw ?_|refine Qd ?_|refine Qt ?_|refine hK _ ?_;clear hK|refine Qi rfl ?_;simp only[↓reduceIte,QvT])
      refine Xo.mk (m':=bs.length - (j+1)) (by omega) ?_
      rw[hI]
      rw[<-Qw2 _ _ (by simp only[QwZ];omega)]
      have hML:(lays 69 n .dead (Cur ord bs j)).length<=szs bs:=by rw[Zn,Qkf];exact QwP _
      obtain⟨b1,b2⟩:=QlO (a:=m) hML hq (by omega) hP hA (by omega) (.map (imap (Zg ordj++[(bs[j].int,.v (.int .i64 ordj.length))]))) (.grow 3 1 (ordj.length+1)) (.cells 119 2 [.agg [.mp m,.sl 1 (ints ordj++[.v (.int .i64 bs[j].int)]) (some (q+1))]]) [.cells 69 4 [T.lv (n+szs c1) bs[j]]]
      obtain⟨r1,r2,r3,r4⟩:=QkI hlt hrid hq b1 (by rw[eo];exact Qqi (.cells 69 4 [T.lv (n+szs c1) bs[j]]) _ (by omega) hm hmX) b2 hc1 (by simp only[QwG,QwZ];omega) ec'
      exact⟨j+1,rfl,by omega,r1,r2,r3,r4,t0,t1,t8,t9,by rw[wj];rfl⟩
   ·have z2:(bs[j].kind != 1)=true:=by simpa using hk
    have hm:=Qor (s:=ordj) hup hk
    rw[hm]at ec' eo
    have hsub:At X (n+szs c1) (layA 69 (n+szs c1) bs[j].args):=by
     have:=Qsx (by rw[ec]at hA;exact hA)
     rwa [T.Qva]at this
    have cI:∀c:AB,QT Tryz.prog 111 [.ptr q 0 0,lsl (n+szs c1) bs[j].args] (X++[c]) fun o h'=>o = .ret (.tup [])/\∃Y:{Y:AH // TmQ (X++[c]) q (n+szs c1) ordj bs[j].args (.ret (.tup [])) Y},h'=Y.1:=fun c =>
     (IH bs[j].args (by omega) (T.QvM hup).2.2 (X++[c]) q (n+szs c1) ordj (by
      have:=T.Qu6 bs[j]
      have h1:=Qdy ord (bs.take j)
      have h2:=QmH bs hlt
      rw[hord]at h1
      omega) (by omega) (by rw[QwG];omega) (hS.app _) (hsub.app _)).mono fun o h' q=>by
       obtain⟨rfl,q2⟩:=q
       exact⟨rfl,⟨h',rfl,q2⟩,rfl⟩
    with_reducible repeat first|(first|refine Qa fun K E hK hE=>?_|refine Ql fun K E hK hE=>?_|refine FunW.retE (FunW.call (cI _)) fun Y=>?_);simp only[Qh,Qe,Qk,OpW,Q7,aop,undef,AS.ev,Qg,QX,Qu,Qr,AV.QuX,Qo,QD,Qv9,Qwa,QE,QA,QM,Qwb,↓reduceIte,Qv2,Qv3,Nat.reduceAdd,Nat.reduceLT,Nat.reduceEqDiff,Qv1,Qwe,Qwn,Qm,QQ,QR,Xf,QY,QJ,aBin,Q8,Yd,QvP,QvQ,Qwj,QvR,Qv4,Qv8,YH,Q5,Yc,Qwl,Qws,Qwr,ti3,ti44,ei44,ti69,XR,Yh,zi69,t0,t8,t9,t10,z1,z2,hrow,hat,e1,e2,Q9]|refine Qf fun K hK=>?_|refine Qj ?_|refine Qw ?_|refine Q3 ?_|refine Qd ?_|refine QV ?_|refine QU ?_|refine hK _ ?_;clear hK|clear hK;refine hK _ ?_;clear hK|refine Qi rfl ?_;simp only[↓reduceIte]
    obtain⟨Y,hY⟩:=Y
    obtain⟨_,y1,y2,y3⟩:=hY
    with_reducible repeat refine Qa fun K E hK hE=>?_;simp only[XQ,Xz,Yo,Qh,Qe,Qk,OpW,Q7,aop,undef,Qa4,Qwv,Qww,QcX,Qar,Qbm,AS.ev,Qg,QX,Qu,QC,QI,XM,Qan,Yq,YK,X9,Qbp,Qr,QG,QvW,Qwf,AV.QuX,Qo,Q6,XV,ZA,XH,Zy,ZM,Qaq,Zz,QD,Xx,Yn,ZG,Ze,ZE,ZO,Qat,ZF,Qv9,Qwa,QE,Y0,QA,QM,Zw,Xi,Yj,X4,QP,Zx,XG,Zu,ZL,Qap,Zv,Qwb,Qwy,Qwz,Qwc,Qwd,↓reduceIte,Qv2,Qv3,Nat.reduceAdd,Nat.reduceLT,Nat.reduceLeDiff,Nat.reduceEqDiff,Nat.reduceSub,Nat.reduceMul,Qv1,Qwe,Qwo,Qwp,Qwn,Yr,Yu,Qm,QQ,QR,Xf,QY,QJ,aBin,Y5,ZR,QW,aLen,Y4,Zj,Qaj,Zk,Q8,hget,Yd,hset,hlen,happ,QvP,QvQ,QwF,Qwj,Qwk,QvR,Qwu,QvU,Qwt,QvV,Qwq,QvS,Qv4,Qv8,Qwh,Qwg,Qwi,Qv0,Qv7,QvY,Qv6,Q1,YH,Q5,Yc,Ya,Xv,YM,QoW,goInt,Qwl,Qwm,QvX,QwA,Qws,Int.toNat_zero,Int.toNat_one,Qwr,QwD,QwE,QwB,QvT,Qwx,beq_true,beq_false,rng0,rng1,rng2,rng3,rng4,rng5,rng6,rng7,rng8,Xg,Nat.reducePow,Qw3,QxW,T.QuV,T.QuY,QK,Xn,ti0,zi0,ti3,zi3,un3,ti4,zi4,un4,ti42,ei42,ai42,zi42,un42,ti44,ei44,ai44,zi44,un44,ti69,XR,Yw,Yx,Yh,zi69,sp69,ti91,zi91,mi91,un91,Qtl,Qfy,QhM,Qtv,Qti,Qtn,Qtx,Qts,Qto,QwC,Int.sub_zero,QcS,Q2,t10,wj]
    have hP2:NumP X Y q (n+szs c1) (szs bs[j].args):=⟨by have:=y1.long;rw[QwG]at this;omega,fun i hi hn=>by rw[y1.out i hi hn,QwI (by omega)]⟩
    refine Xo.mk (m':=bs.length - (j+1)) (by omega) ?_
    rw[hI]
    refine⟨j+1,rfl,by omega,hP.trans hP2 (by omega) (by omega),by rw[eo];exact y2,?_,?_,t0,t1,t8,t9,by rw[wj];rfl⟩
    ·rw[ec']
     refine Qrn (u:=bs[j]) (by rw[<-ec];exact hA) ?_ (by rw[T.Qva];exact y3) fun i h1 h2 h3=>hP2.out i ?_ (by rw[<-hu1];exact h3)
     ·rw[T.Qvf,T.Qvf bs[j]];exact Zf _ _ _
     ·rw[Y3,szs]at h2;omega
    ·rw[ec',Qqd (u:=bs[j]) (fun k=>by rw[T.Qvn,T.Qvn];exact Qxm _ (by simp only[T.args,T.kind,T.int,T.name,Qjf])) (by rw[T.Qvf,T.Qvf bs[j]];exact Zf _ _ _),<-ec,<-hrow]
     exact hP2.out rid (by omega) (by omega)
  ·have hjl:j=bs.length:=by omega
   have z1:¬(((j:Nat):Int)<((bs.length:Nat):Int)):=by omega
   with_reducible repeat first|refine Qa fun K E hK hE=>?_;simp only[Qh,Qe,Qk,OpW,aop,AS.ev,Qg,Nat.reduceLT,aBin,QvR,Q5,Qwm,t9,t10,z1]|refine Qf fun K hK=>?_|refine Q3 ?_|refine QV ?_|refine QU ?_|refine hK _ ?_;clear hK|refine Qi rfl ?_;simp only[↓reduceIte,QvT]
   simp only[QvR,QvV,List.mapM_nil,Option.pure_def,QvR,QS,Qq,QvZ]
   subst hjl
   have hcur:Cur ord bs bs.length=(XJ gNum ord bs).1:=by rw[Cur,QwH,Qxb,Qwi]
   rw[QwH]at hS
   rw[hcur]at hA hrow
   refine .inr ⟨rfl,hP,hS,?_⟩
   have hne2:(XJ gNum ord bs).1≠[]:=fun e=>hne (Qyp (by rw[<-QaG gNum ord bs,e];rfl))
   exact Qtg hA hne2 (by rw[Zf,<-hrid];exact hrow)
 ·rw[hI]
  have hcur:Cur ord bs 0=bs:=by simp[Cur,XJ]
  exact⟨0,rfl,Qw3 _,NumP.refl _ _ _ _,by simpa [XJ]using hS0,by rw[hcur];exact hA1,by rw[hcur];exact hrow0,rfl,rfl,rfl,rfl,rfl⟩
end
theorem Qhi:∀(N:Nat) (bs:List T),szs bs<N->pss bs->∀(X:AH) (q n:Nat) (ord:List Int),ord.length+ndsL bs<=1000000000->n+szs bs<=q->q+1<X.length->NSt X q ord->At X n (layA 69 n bs)->QT Tryz.prog 111 [.ptr q 0 0,lsl n bs] X (TmQ X q n ord bs)
 |0,bs,h=>(Nat.not_lt_zero _ h).elim
 |N+1,bs,h=>fun hp X q n ord h1 h2 h3 h4 h5=>Qm6 (Qhi N) bs h hp X q n ord h1 h2 h3 h4 h5
end Go.Proofs.YtenheconhibonaaGreatDoor.Ab
namespace Go.Proofs.YtenheconhibonaaGreatDoor.Ab
open Go.Proofs
theorem QmC{X σ:Type}(g:σ->X->X×σ)(s:σ){l:List X}{k:Nat}(h:k<l.length) :
  (Xh g s (l.take (k+1))).1=(Xh g s (l.take k)).1++[(g (Xh g s (l.take k)).2 l[k]).1]/\(Xh g s (l.take (k+1))).2=(g (Xh g s (l.take k)).2 l[k]).2:=by
 rw[Qxq h,Qeu]
 exact⟨by simp[Xh],by simp[Xh]⟩
def gG(s:List Int)(g:G):G×List Int:=(⟨g.op,g.name,(XJ gNum s g.args).1⟩,(XJ gNum s g.args).2)
def ndG:List G->Nat
 |[]=>0
 |g::l=>ndsL g.args+ndG l
theorem Qhb:∀a b:List G,ndG (a++b)=ndG a+ndG b
 |[],b=>by simp[ndG]
 |t::a,b=>by rw[Qwh,ndG,ndG,Qhb a b];omega
theorem Qow(l:List G){j:Nat}(h:j<l.length):ndG (l.take j)+ndsL l[j].args<=ndG l:=by
 have:=Qxm ndG (QxI j l)
 rw[Qhb,QwU h,ndG]at this
 omega
theorem QlN:∀(s:List Int) (l:List G),(Xh gG s l).2.length<=s.length+ndG l
 |s,[]=>by simp[Xh]
 |s,g::l=>by
  have h1:=Qdy s g.args
  have h2:=QlN (gG s g).2 l
  simp only[Xh,ndG]
  show _<=_
  have h3:(gG s g).2=(XJ gNum s g.args).2:=rfl
  rw[h3]at h2 ⊢
  omega
theorem QhZ:∀(s:List Int) (l:List G),gsz (Xh gG s l).1=gsz l
 |s,[]=>rfl
 |s,g::l=>by
  simp only[Xh,gsz,QhZ _ l]
  rw[show(gG s g).1.args=(XJ gNum s g.args).1 from rfl,Zf]
def CurG(ord:List Int)(bs:List G)(j:Nat):List G:=(Xh gG ord (bs.take j)).1++bs.drop j
theorem Qml(ord:List Int){bs:List G}{j:Nat}(hj:j<bs.length):CurG ord bs j=(Xh gG ord (bs.take j)).1++bs[j]::bs.drop (j+1) /\
  CurG ord bs (j+1)=(Xh gG ord (bs.take j)).1++(gG (Xh gG ord (bs.take j)).2 bs[j]).1::bs.drop (j+1)/\(Xh gG ord (bs.take (j+1))).2=(gG (Xh gG ord (bs.take j)).2 bs[j]).2:=by
 obtain⟨h1,h2⟩:=QmC gG ord hj
 refine⟨by rw[CurG,QwU hj],?_,h2⟩
 rw[CurG,h1,QwM];rfl
theorem QhU(tt:TypeId):∀(n:Nat) (l:List G) (g:G) (m:List G),layG tt n (l++g::m)=layG tt n l++(.dead::(layA tt (n+gsz l+1) g.args++(.dead::layG tt (n+gsz l+szs g.args+2) m)))
 |n,[],g,m=>by simp[layG,gsz]
 |n,a::l,g,m=>by
  rw[Qwh,layG,layG,QhU tt _ l g m,gsz]
  rw[show n+szs a.args+2+gsz l=n+(szs a.args+2+gsz l) by omega]
  simp only[Qwh,QwM]
theorem Qq0(vw:Nat->G->AV):∀(n:Nat) (l:List G) {j:Nat} (h:j<l.length),(lvG vw n l)[j]? = some (vw (n+gsz (l.take j)+1) l[j])
 |n,g::l,0,h=>by simp[lvG,gsz]
 |n,g::l,j+1,h=>by
  rw[lvG,QvQ,Qq0 vw _ l (by simpa using h),List.take_succ_cons,gsz,Qyr]
  rw[show n+szs g.args+2+gsz (l.take j)=n+(szs g.args+2+gsz (l.take j)) by omega]
theorem At.keep{X Y:AH}{n:Nat}{L:AH}(h:At X n L)(hk:∀i,n<=i->i<n+L.length->Y[i]? = X[i]?):At Y n L:=fun j b hb hl=>by
 rw[hk _ (by omega) (by have:=Qv hb;omega)];exact h j b hb hl
theorem at_g{X:AH}{tt:TypeId}{n:Nat}{l m:List G}{g:G}(h:At X n (layG tt n (l++g::m))):At X (n+gsz l+1) (layA tt (n+gsz l+1) g.args):=by
 rw[QhU]at h
 have h1:=h.right (m:=n+gsz l) (by rw[Y6])
 exact(At.right (L:=[.dead]) h1 rfl).left
theorem Qrm{X Y:AH}{tt:TypeId}{n:Nat}{l m:List G}{g g':G}(h:At X n (layG tt n (l++g::m)))(hs:szs g'.args=szs g.args)(hg:At Y (n+gsz l+1) (layA tt (n+gsz l+1) g'.args))
  (hout:∀i,n<=i->i<n+gsz (l++g::m)->¬(n+gsz l+1<=i/\i<n+gsz l+1+szs g.args)->Y[i]? = X[i]?):At Y n (layG tt n (l++g'::m)):=by
 have hz:gsz (l++g::m)=gsz l+(szs g.args+2+gsz m):=by rw[Qbz,gsz]
 rw[QhU]at h ⊢
 have h1:=h.right (m:=n+gsz l) (by rw[Y6])
 have h0:At X (n+gsz l+1) (layA tt (n+gsz l+1) g.args++(.dead::layG tt (n+gsz l+szs g.args+2) m)):=At.right (L:=[.dead]) h1 rfl
 have h2:=h0.right (m:=n+gsz l+1+szs g.args) (by rw[YJ])
 have h3:At X (n+gsz l+1+szs g.args+1) (layG tt (n+gsz l+szs g.args+2) m):=At.right (L:=[.dead]) (M:=layG tt (n+gsz l+szs g.args+2) m) h2 rfl
 refine At.both (h.left.keep fun i h1 h2=>hout i h1 (by rw[Y6]at h2;omega) (by rw[Y6]at h2;omega)) ?_
 rw[Y6]
 refine At.cons (fun e=>by cases e) (At.both hg ?_)
 rw[YJ,hs]
 refine At.cons (fun e=>by cases e) (h3.keep fun i h1 h2=>hout i (by omega) (by rw[Y6]at h2;omega) (by omega))
def GnQ(X:AH)(q n:Nat)(ord:List Int)(l:List G)(o:AOut)(h':AH):Prop:=o = .ret (.tup [])/\NumP X h' q n (gsz l)/\NSt h' q (Xh gG ord l).2/\At h' n (layG 69 n (Xh gG ord l).1)
theorem Qgy(l:List G)(own:Option Nat)(hps:∀g∈l,pss g.args)(X0:AH)(q n:Nat)(ord:List Int)(hbl:l.length<=1000000000)(hb:ord.length+ndG l<=1000000000)(hq:n+gsz l<=q)(hqx:q+1<X0.length)(hS0:NSt X0 q ord)(hA0:At X0 n (layG 69 n l)) :
  QT Tryz.prog 69 [.ptr q 0 0,.sl 3 (lvG gv n l) own] X0 (GnQ X0 q n ord l):=by
 have hlv:=QaS gv n l
 refine Qb Tryz.func69 rfl Tryz.call69 Tryz.ntmps69 Tryz.results69 (by simp) ?_
 repeat refine Qn ?_;simp only[go_sem,seval,hlv]
 obtain⟨I,hI⟩:∃I:Nat->AS->Prop,I=fun m' s=>∃(j:Nat),m'=l.length - j/\j<=l.length/\NumP X0 s.h q n (gsz l)/\NSt s.h q (Xh gG ord (l.take j)).2/\At s.h n (layG 69 n (CurG ord l j)) /\
  s.tm 0 = .ptr q 0 0/\s.tm 6 = .sl 3 (lvG gv n l) own/\s.tm 7 = .i l.length/\s.tm 8 = .i j:=⟨_,rfl⟩;refine QZ I ?_ (m:=l.length) ?_
 ·intro m' s hs;rw[hI]at hs;obtain⟨tm,hp⟩:=s;dsimp only at hs;obtain⟨j,rfl,hj,hP,hS,hA,t0,t6,t7,t8⟩:=hs
  by_cases hlt:j<l.length
  ·have z1:(((j:Nat):Int)<((l.length:Nat):Int)):=by omega
   obtain⟨ec,ec',eo⟩:=Qml ord hlt
   have hpl:=hP.long
   generalize hX:hp=X at *
   generalize hc1:(Xh gG ord (l.take j)).1=c1 at *
   have hc1s:gsz c1=gsz (l.take j):=by rw[<-hc1,QhZ]
   generalize hord:(Xh gG ord (l.take j)).2=ordj at *
   have hol:ordj.length+ndsL l[j].args<=1000000000:=by
    have h1:=QlN ord (l.take j)
    have h2:=Qow l hlt
    rw[hord]at h1;omega
   have hszu:gsz (l.take j)+(szs l[j].args+2+gsz (l.drop (j+1)))=gsz l:=by
    have:=Qxm gsz (QxI j l)
    rw[Qbz,QwU hlt,gsz]at this
    exact this
   have hat:(lvG gv n l)[j]? = some (gv (n+gsz c1+1) l[j]):=by rw[Qq0 _ _ _ hlt,hc1s]
   have e1:(gv (n+gsz c1+1) l[j]).cells=[.i l[j].op,.v (.string l[j].name),lsl (n+gsz c1+1) l[j].args]:=rfl
   have e2:(gv (n+gsz c1+1) l[j]).isAgg=true:=rfl
   have wj:IntKind.i64.wrap (((j:Nat):Int)+1)=((j+1:Nat):Int):=Xe (by omega)
   have hsub:At X (n+gsz c1+1) (layA 69 (n+gsz c1+1) l[j].args):=at_g (by rw[<-ec];exact hA)
   have cI:∀c:AB,QT Tryz.prog 111 [.ptr q 0 0,lsl (n+gsz c1+1) l[j].args] (X++[c]) fun o h'=>o = .ret (.tup [])/\∃Y:{Y:AH // TmQ (X++[c]) q (n+gsz c1+1) ordj l[j].args (.ret (.tup [])) Y},h'=Y.1:=fun c =>
    (Qhi (szs l[j].args+1) l[j].args (by omega) (hps _ (Qxk hlt)) (X++[c]) q (n+gsz c1+1) ordj hol (by omega) (by rw[QwG];omega) (hS.app _) (hsub.app _)).mono fun o h' q=>by
      obtain⟨rfl,q2⟩:=q
      exact⟨rfl,⟨h',rfl,q2⟩,rfl⟩
   repeat (first|refine FunW.retE (FunW.call (cI _)) fun Y=>?_|refine Qn ?_);simp only[go_sem,seval,t0,t6,t7,t8,z1,hat,hlv,e1,e2,Q9]
   obtain⟨Y,hY⟩:=Y
   obtain⟨_,y1,y2,y3⟩:=hY
   repeat refine Qn ?_;simp only[go_sem,seval,t8,wj]
   have hP2:NumP X Y q (n+gsz c1+1) (szs l[j].args):=⟨by have:=y1.long;rw[QwG]at this;omega,fun i hi hn=>by rw[y1.out i hi hn,QwI (by omega)]⟩
   refine Xo.mk (m':=l.length - (j+1)) (by omega) ?_
   rw[hI]
   refine⟨j+1,rfl,by omega,hP.trans hP2 (by omega) (by omega),by rw[eo];exact y2,?_,t0,t6,t7,by rw[wj];rfl⟩
   rw[ec']
   refine Qrm (g:=l[j]) (by rw[<-ec];exact hA) (Zf _ _ _) y3 fun i h1 h2 h3=>hP2.out i ?_ h3
   rw[Qbz,gsz]at h2;omega
  ·have hjl:j=l.length:=by omega
   have z1:¬(((j:Nat):Int)<((l.length:Nat):Int)):=by omega
   repeat refine Qn ?_;simp only[go_sem,seval,t7,t8,z1]
   subst hjl
   have hcur:CurG ord l l.length=(Xh gG ord l).1:=by rw[CurG,QwH,Qxb,Qwi]
   rw[QwH]at hS
   rw[hcur]at hA
   exact .inr ⟨rfl,hP,hS,hA⟩
 ·rw[hI]
  have hcur:CurG ord l 0=l:=by simp[CurG,Xh]
  exact⟨0,rfl,Qw3 _,NumP.refl _ _ _ _,by simpa [Xh]using hS0,by rw[hcur];exact hA0,rfl,rfl,rfl,rfl⟩
theorem Qtt{c:Cx}(hst:St c){id ty n:Nat}{xs xs':List AV}{j:Nat}{v w:AV}(hb:c.h[id]? = some (.cells ty n xs))(hj:(flat xs)[j]? = some v)(hf:flat xs'=(flat xs).set j w)(hw:Wk v w)(hc:∀x∈xs',x.cells.length=n) :
  ∃c2,Ev c c2/\St c2/\c2.h=c.h.set id (AB.cells ty n xs')/\c2.w=c.w:=by
 obtain⟨B,cur,hρ,hcur,h3,h4⟩:=hst.blocks id _ hb
 have hev2:=Ev.turn (b':=.cells ty n xs') hst hb rfl hρ (w:=c.w) rfl rfl rfl rfl (fun _ _=>rfl) (.inr ⟨_,rfl,rfl,fun _ cur _ h=>⟨cur,h,rfl⟩⟩)
 have hst2:=St.turn (b':=.cells ty n xs') hst hb rfl hρ (w:=c.w) (fun _ _=>rfl) hev2 ⟨B,cur,hρ,hcur,hc,by
  intro i a' hi
  rw[hf]at hi
  by_cases e:j=i
  ·subst e
   rw[QwR (Qv hj)]at hi
   cases hi
   obtain⟨u,g1,g2,g3⟩:=h4 j _ hj
   exact⟨_,g1,g2,(hw _ _ g3).ev hst hev2⟩
  ·rw[QwL e]at hi
   obtain⟨u,g1,g2,g3⟩:=h4 i _ hi
   exact⟨u,g1,g2,g3.ev hst hev2⟩⟩
 exact⟨_,hev2,hst2,rfl,rfl⟩
theorem QiN{P:Program}{N:Nat}{code:Code}{Q:AExit->AS->Prop}{tm:Nat->AV}{h:AH}(id ty n:Nat)(xs xs':List AV)(j:Nat){v w:AV}(hw:Wk v w)(hb:h[id]? = some (.cells ty n xs))
  (hj:(flat xs)[j]? = some v) (hf:flat xs'=(flat xs).set j w) (hc:∀x∈xs',x.cells.length=n)
  (H:XO P N code Q ⟨tm,h.set id (AB.cells ty n xs')⟩):XO P N code Q ⟨tm,h⟩:=by
 intro F m base c a hF hst hr R hR
 have hh:c.h=h:=hr.h
 subst hh
 obtain⟨c2,hev,hst2,hh2,hw2⟩:=Qtt hst hb hj hf hw hc
 rw[<-hw2]
 exact H F m base c2 a hF hst2 ⟨hh2,hr.size,Qw8 hr.above hev.size,hr.defers.ev hev,RoundOk.ev hev hr.round,fun t=>(hr.tm t).ev hst hev⟩ R fun e' s' c' a' ex hq h1 h2 h3 h4=>hR e' s' c' a' ex hq (Ev.trans hst hev h1) h2 h3 h4
def Pz.to(P:Pz)(n:Nat):Pz:=⟨P.all,P.i,P.j,n⟩
def pN(P:Pz)(s:PS)(own:Option Nat):AB:=.cells 117 4 [.agg [.sl 3 (tks P.all) none,.i ((P.all.length - s.toks.length:Nat):Int),.sl 1 (strs s.names) own,.mp P.j]]
structure PIn (P:Pz) (X:AH) (s:PS) (own:Option Nat) (m:List (ByteArray×AV)):Prop where
 i:X[P.i]? = some (pN P s own)
 j:X[P.j]? = some (.map (smap m))
theorem PIn.ok{P:Pz}{X:AH}{s:PS}{own:Option Nat}{m:List (ByteArray×AV)}(H:PIn P X s own m)(L:AH)(x:AB):(P.to X.length).ok (X++(x::L)):=by
 have h1:=Qv H.i
 have h2:=Qv H.j
 refine⟨by rw[QwG];simp only[Pz.to];omega,by rw[QwG];simp only[Pz.to];omega,by rw[QwG,Qv2];simp only[Pz.to];omega,?_,?_,?_⟩
 ·intro e
  simp only[Pz.to]at e
  have h3:=H.i
  rw[e,H.j]at h3
  cases h3
 ·simp only[Pz.to];omega
 ·simp only[Pz.to];omega
theorem Qkd{X:AH}{P:Pz}{s:PS}(hi:X[P.i]? = some (.cells 117 4 [.agg [.sl 3 (tks P.all) none,.i ((P.all.length - s.toks.length:Nat):Int),.v (.slice none 0 0),.v (.map none)]]))(hj:P.j=X.length+1) :
  QT Tryz.prog 107 [.ptr P.i 0 0] X fun o h'=>o = .ret (.tup [])/\h'=ph (X++[.dead,.dead]) (P.to X.length) ⟨s.toks,[]⟩:=by
 have h1:=Qv hi
 have a1:∀(y:AB),(X.set P.i y)[P.i]? = some y:=fun y=>QwR (by omega)
 have nM:pv Tryz.prog (do eqGuard .eql 115 (Operand.tmp 8) (Operand.const (Value.map none)) (.map none) (.map none);binOp .eql 115 (.map none) (.map none))=some (.bool true):=by kernel_rfl
 refine Qb Tryz.func107 rfl Tryz.call107 Tryz.ntmps107 Tryz.results107 (by simp) ?_
 iterate 3 (try (first|(((with_reducible refine Qa fun K E hK hE=>?_));simp only[Qh,Qe,Qk,OpW,aop,undef,AS.ev,Qg,QX,XM,Qr,QG,QvW,AV.QuX,Qo,Q6,QD,Xx,Qv9,Qwa,QM,Qwb,↓reduceIte,Qv2,Qv3,Nat.reduceAdd,Nat.reduceLT,Nat.reduceLeDiff,Nat.reduceEqDiff,Qv1,Qwn,Qm,Xf,QY,QvP,Qwj,QvR,Qwh,Qwg,Qv0,Qv7,QvY,Qv6,QvT,ti48,QhK,Q2,hi])|(with_reducible refine Qf fun K hK=>?_)|((with_reducible refine hK _ ?_);clear hK)))
 refine QaP P.i 117 4 1 (.grow 9 1 0) (.inr ⟨_,rfl⟩) [.agg [.sl 3 (tks P.all) none,.i ((P.all.length - s.toks.length:Nat):Int),.v (.slice none 0 0),.v (.map none)]] [.agg [.sl 3 (tks P.all) none,.i ((P.all.length - s.toks.length:Nat):Int),.sl 1 [] (some X.length),.v (.map none)]] 2 (a1 _) rfl (by simp[flat,AV.cells]) (by simp[AV.cells]) ?_
 rw[Qw2 _ _ (by rw[QwZ];omega),Qyw]
 have b1:∀(B:AB) (L:AH),(X.set P.i B++L)[P.i]? = some B:=fun B L=>by rw[QwI (by rw[QwZ];omega),a1]
 have b2:∀(B C:AB) (L:AH),(X.set P.i B++L).set P.i C=X.set P.i C++L:=fun B C L=>by rw[Qw2 _ _ (by rw[QwZ];omega),Qyw]
 have b3:∀(B:AB) (L:AH) (k:Nat),(X.set P.i B++L)[X.length+k]? = L[k]? := fun B L k=>by rw[QwO (by rw[QwZ];omega),QwZ];congr 1;omega
 have b4:∀(B C:AB) (L:AH) (k:Nat),(X.set P.i B++L).set (X.length+k) C=X.set P.i B++L.set k C:=fun B C L k=>by rw[QxH _ _ (by rw[QwZ];omega),QwZ];congr 2;omega
 with_reducible repeat first|(first|refine Qa fun K E hK hE=>?_|refine Ql fun K E hK hE=>?_);simp only[Qh,Qe,Qk,OpW,aop,undef,AS.ev,Qg,QX,Qan,Qr,QG,QvW,AV.QuX,Qo,ZM,QD,ZO,Qv9,Qwa,ZL,Qwb,↓reduceIte,Qv2,Qv3,Nat.reduceAdd,Nat.reduceLT,Nat.reduceLeDiff,Nat.reduceEqDiff,Qv1,Qwn,Qm,QQ,QR,Xf,QY,aBin,happ,QvP,QvQ,Qwj,Qwk,QvR,Qwu,Qwh,Qwg,Qwi,Qv0,Qv7,QvY,Qv6,QvT,Qtk,Qtq,QhL,Qk8,Q2,b1,b2,b3,b4,nM,QwZ,QwG]|refine Qd ?_|refine hK _ ?_;clear hK|refine Qi rfl ?_;simp only[↓reduceIte]
 simp only[QvR,QvV,List.mapM_nil,Option.pure_def,QvR,QS,Qq,QvZ]
 refine .inr ⟨rfl,?_⟩
 unfold ph
 rw[Qw2 _ _ (by simp only[Pz.to];omega),QxH _ _ (by simp only[Pz.to,QwZ];omega),QxH _ _ (by simp only[Pz.to,QwZ];omega)]
 simp only[Pz.to,QwZ,Qxy,hj,QxX]
 rfl
end Go.Proofs.YtenheconhibonaaGreatDoor.Ab
namespace Go.Proofs.YtenheconhibonaaGreatDoor.Ab
open Go.Proofs
section
variable{P:Pz}{s:PS}{own:Option Nat}(hW:Wst P.all s){X:AH}(hX:X[P.i]? = some (pN P s own))
include hW hX
theorem Qs1(L:AH):(X++L)[P.i]? = some (pN P s own):=by have _u:=hW;rw[QwI (Qv hX)];exact hX
theorem QsU:QT Tryz.prog 76 [.ptr P.i 0 0] X fun o h'=>o = .ret s.tk.av/\h'=X:=by
 obtain⟨h1,h2⟩:=Qq9 hW
 have hi:=Qs1 hW hX
 have hi0:=hX
 rw[pN]at hi0
 simp only[pN]at hi
 have e1:=Tk.QuV s.tk
 have e2:=Tk.QuY s.tk
 generalize P.all.length - s.toks.length=k at *
 refine Qb Tryz.func76 rfl Tryz.call76 Tryz.ntmps76 Tryz.results76 (by simp) ?_
 repeat first|(first|refine QH (id:=1) [(0,0),(1,0),(2,0),(3,0),(4,0),(5,0),(6,0),(7,0),(8,0),(9,0),(10,2)] mixed (by kernel_rfl) fun K hK=>?_|refine Qn ?_);simp only[go_sem,seval,hi,h1,h2,Qei,e1,e2]|refine hK _ ?_;clear hK
 exact Qc (htake _ _) (.keep (Qe2 _ _)) ⟨rfl,rfl⟩
theorem QpT(hk:s.tk.kind=0):QT Tryz.prog 68 [.ptr P.i 0 0] X fun o h'=>o = .ret (.tup [])/\h'=X:=by
 have cn:=QsU hW hX
 have hi0:=hX
 rw[pN]at hi0
 have e1:=Tk.QuV s.tk
 have e2:=Tk.QuY s.tk
 have z1:(s.tk.kind != 0)=false:=by simpa using hk
 refine Qb Tryz.func68 rfl Tryz.call68 Tryz.ntmps68 Tryz.results68 (by simp) ?_
 repeat (first|refine FunW.QuW cn ?_|refine Qn ?_);simp only[go_sem,seval,e1,e2,z1]
 exact Qc (htake _ _) (.keep (.tup _ (by simp))) ⟨rfl,rfl⟩
theorem Qrs(hk:s.tk.kind≠0):QT Tryz.prog 68 [.ptr P.i 0 0] X fun o h'=>o = .panic (Fl s.tk.pos 16)/\h'=X:=by
 have cn:=QsU hW hX
 have hi0:=hX
 rw[pN]at hi0
 have e1:=Tk.QuV s.tk
 have e2:=Tk.QuY s.tk
 have z1:(s.tk.kind != 0)=true:=by simpa using hk
 have cf:=QaC s.tk 16
 refine Qb Tryz.func68 rfl Tryz.call68 Tryz.ntmps68 Tryz.results68 (by simp) ?_
 repeat (first|refine FunW.QuW cn ?_|refine FunW.pan (FunW.call (cf _ _)) ?_|refine Qn ?_);simp only[go_sem,seval,e1,e2,z1]
 exact Qc (htake _ _) (.keep (QcC _ _ _)) ⟨rfl,rfl⟩
end
theorem Qh0(X:AH)(q n:Nat)(ord:List Int)(hS:NSt X q ord):QT Tryz.prog 69 [.ptr q 0 0,.v (.slice none 0 0)] X (GnQ X q n ord []):=by
 have hn:=fun t'=>Qjv Tryz.prog 23 t' 53 (by kernel_rfl)
 refine Qb Tryz.func69 rfl Tryz.call69 Tryz.ntmps69 Tryz.results69 (by simp) ?_
 repeat refine Qn ?_;simp only[go_sem,seval,hn]
 obtain⟨I,hI⟩:∃I:Nat->AS->Prop,I=fun m' s=>s.tm 7 = .i 0/\s.tm 8 = .i 0/\s.h=X:=⟨_,rfl⟩;refine QZ I ?_ (m:=0) ?_
 ·intro m' s hs;rw[hI]at hs;obtain⟨tm,hp⟩:=s;dsimp only at hs;obtain⟨t9,t10,rfl⟩:=hs
  have z:¬((0:Int)<0):=by omega
  repeat refine Qn ?_;simp only[go_sem,seval,t9,t10,z]
  exact .inr ⟨rfl,NumP.refl _ _ _ _,hS,At.nil _ _⟩
 ·rw[hI]
  exact⟨rfl,rfl,rfl⟩
def sG(vw:Nat->G->AV)(w n:Nat)(l:List G):AV:=if l.isEmpty then .v (.slice none 0 0)else .sl w (lvG vw n l) none
theorem Qth(vw:Nat->G->AV)(w n:Nat){l:List G}(h:l≠[]):sG vw w n l = .sl w (lvG vw n l) none:=by unfold sG;rw[QwJ (by simpa using h)]
theorem Qn1(l:List G)(hps:∀g∈l,pss g.args)(X0:AH)(q n:Nat)(ord:List Int)(hbl:l.length<=1000000000)(hb:ord.length+ndG l<=1000000000)(hq:n+gsz l<=q)(hqx:q+1<X0.length)(hS0:NSt X0 q ord)(hA0:At X0 n (layG 69 n l)) :
  QT Tryz.prog 69 [.ptr q 0 0,sG gv 3 n l] X0 (GnQ X0 q n ord l):=by
 by_cases e:l=[]
 ·subst e;exact Qh0 X0 q n ord hS0
 ·rw[Qth _ _ _ e];exact Qgy l none hps X0 q n ord hbl hb hq hqx hS0 hA0
end Go.Proofs.YtenheconhibonaaGreatDoor.Ab
namespace Go.Proofs.YtenheconhibonaaGreatDoor.Ab
open Go.Proofs
def QhP(l:List G):Prop:=∀g∈l,QL g=true
theorem Qc6(most:Nat):∀(m:Nat) (l:List G) (s:PS) (a:List G) (s2:PS),QhP l->YS most m l s = .ok a s2->QhP a/\a.length<=most/\l.length<a.length
 |0,_,_,_,_,_,h=>by cases h
 |m+1,l,s,a,s2,hl,h=>by
  rw[YS]at h
  split at h
  ·cases h
  ·rename_i hm
   obtain⟨g,s1,h1,h⟩:=bind_ok h
   split at h
   ·cases h
   ·rename_i hg
    have hl2:QhP (l++[g]):=fun x hx=>by
     rcases Qxf.1 hx with hx|hx
     ·exact hl x hx
     ·rw[QxG.1 hx];simpa using hg
    split at h
    ·obtain⟨a1,a2,a3⟩:=Qc6 most m _ _ a s2 hl2 h
     rw[QwG,Qyc]at a3
     exact⟨a1,a2,by omega⟩
    ·cases h
     refine⟨hl2,?_,?_⟩ <;> rw[QwG,Qyc] <;> omega
theorem Qmw{most:Nat}{s:PS}{a:List G}{s2:PS}(h:QbF most s = .ok a s2):QhP a/\a.length<=most:=by
 obtain⟨h1,h2,_⟩:=Qc6 most _ [] s a s2 (fun _ h=>(Qw4 h).elim) h
 exact⟨h1,h2⟩
theorem QqT{l:List T}(h:l.isEmpty=true):l=[]:=by cases l with|nil=>rfl|cons=>cases h
mutual
theorem T.QvN:∀(t:T) (b d:Int),(t.run b d).1=true->t.ps/\(t.nds:Int)<=b - (t.run b d).2/\0<=(t.run b d).2
 | .mk k i n l,b,d,h=>by
  rw[T.run]at h ⊢
  rw[T.ps,T.nds]
  split at h
  ·cases h
  ·rename_i h0
   rw[QwJ h0]
   split at h
   ·rename_i h1
    rw[QwN h1]
    have hl:l=[]:=QqT (by simp only[QwQ]at h;exact h.2)
    subst hl
    refine⟨⟨.inl h1,fun _=>rfl,trivial⟩,?_,?_⟩
    ·simp only[ndsL];omega
    ·show 0<=b - 1;omega
   ·rename_i h1
    rw[QwJ h1]
    split at h
    ·rename_i h2
     rw[QwN h2]
     have hl:l=[]:=QqT (by simp only[QwQ]at h;exact h.2)
     subst hl
     refine⟨⟨.inr (.inl h2),fun _=>rfl,trivial⟩,?_,?_⟩
     ·simp only[ndsL];omega
     ·show 0<=b - 1;omega
    ·rename_i h2
     rw[QwJ h2]
     split at h
     ·rename_i h3
      rw[QwN h3]
      split at h
      ·cases h
      ·rename_i h4
       rw[QwJ h4]
       split at h
       ·cases h
       ·rename_i h5
        rw[QwJ h5]
        obtain⟨q1,q2,q3⟩:=QkT l (b - 1) (d - 1) (by omega) h
        refine⟨⟨.inr (.inr h3),fun e=>absurd h3 e,q1⟩,?_,q3⟩
        push_cast
        omega
     ·cases h
theorem QkT:∀(l:List T) (b d:Int),0<=b->(runL l b d).1=true->pss l/\(ndsL l:Int)<=b - (runL l b d).2/\0<=(runL l b d).2
 |[],b,d,hb,h=>by simp only[runL,pss,ndsL];exact⟨trivial,by omega,hb⟩
 |t::l,b,d,hb,h=>by
  rw[runL]at h ⊢
  split at h
  ·rename_i h1
   rw[QwN h1]
   obtain⟨q1,q2,q3⟩:=T.QvN t b d h1
   obtain⟨r1,r2,r3⟩:=QkT l (t.run b d).2 d q3 h
   rw[pss,ndsL]
   exact⟨⟨q1,r1⟩,by push_cast;omega,r3⟩
  ·cases h
end
theorem Qpa{l:List T}(h:(runL l 200 20).1=true):pss l/\ndsL l<=200:=by
 obtain⟨h1,h2,h3⟩:=QkT l 200 20 (by omega) h
 exact⟨h1,by omega⟩
theorem Qlq{g:G}(h:QL g=true):pss g.args/\ndsL g.args<=200:=by
 unfold QL at h
 split at h
 ·unfold Xa at h
  simp only[QwQ]at h
  exact Qpa h.2.2
 ·simp only[QwQ]at h
  exact Qpa h.2.2.2
def mG(f:Int->Int)(l:List G):List G:=l.map fun g:G=>(⟨g.op,g.name,maps f g.args⟩:G)
theorem QlA:∀(s:List Int) (l:List G) (r:List Int),Xh gG s l=(mG (fun v=>((plc (ded s (XI l)++r) v:Nat):Int)) l,ded s (XI l))
 |s,[],r=>rfl
 |s,g::l,r=>by
  have e:XI (g::l)=Xd g.args++XI l:=by simp[XI]
  obtain⟨q,hq⟩:=QhH (ded s (Xd g.args)) (XI l)
  rw[Xh,gG,QaT s g.args (q++r)]
  simp only
  rw[QlA _ l r,e,ZY,hq]
  simp only[mG,Qv4,QwM]
end Go.Proofs.YtenheconhibonaaGreatDoor.Ab
namespace Go.Proofs.YtenheconhibonaaGreatDoor.Ab
open Go.Proofs
section
variable{P:Pz}{s:PS}{own:Option Nat}(hW:Wst P.all s){X:AH}(hX:X[P.i]? = some (pN P s own))(hN:P.all.length<=1000000)
include hW hX hN
end
end Go.Proofs.YtenheconhibonaaGreatDoor.Ab
namespace Go.Proofs.YtenheconhibonaaGreatDoor.Ab
open Go.Proofs
theorem Qp0{most:Nat}{s s2:PS}{l:List G}(h:QbF most s = .ok l s2):l≠[]:=by
 obtain⟨_,_,h3⟩:=Qc6 most _ [] s l s2 (fun _ h=>(Qw4 h).elim) h
 rintro rfl
 simp at h3
structure ErrY (X:AH) (P:Pz) (Y:AH):Prop where
 long:X.length<=Y.length
 out:∀i,i<X.length->i≠P.i->i≠P.j->Y[i]? = X[i]?
abbrev nilV:AV:=.v (.slice none 0 0)
theorem retQ{f:FuncId}{args:List AV}{X:AH}{q n:Nat}{ord:List Int}{l:List G}(H:QT Tryz.prog f args X (GnQ X q n ord l)):QT Tryz.prog f args X fun o h'=>o = .ret (.tup [])/\∃Y:{Y:AH // GnQ X q n ord l (.ret (.tup [])) Y},h'=Y.1 :=
 H.mono fun o h' k=>by
  obtain⟨rfl,k2⟩:=k
  exact⟨rfl,⟨h',rfl,k2⟩,rfl⟩
section
variable{P:Pz}{s:PS}(hW:Wst P.all s){h:AH}(H:P.ok h)(hN:P.all.length<=1000000)(hD:TkOk P.all)(L:AH)
include hW H hN hD
end
theorem QlG{tt:TypeId}{h:AH}{m w:Nat}{vw:Nat->G->AV}{vA:G->AV}(hv:∀n g,(vw n g).cells.length=w)(hA:∀g,(vA g).cells.length=w)
  (hp:∀n g,m<=n->At h n (layA tt n g.args)->∀(j:Nat) a a',(vw n g).cells[j]? = some a->(vA g).cells[j]? = some a'->Melt h m a a'):∀(n:Nat) (l:List G),m<=n->At h n (layG tt n l) ->
  (flat (vs vA l)).length=(flat (lvG vw n l)).length/\∀(j:Nat) a a',(flat (lvG vw n l))[j]? = some a->(flat (vs vA l))[j]? = some a'->Melt h m a a'
 |n,[],_,_=>⟨rfl,fun j a a' h1=>by simp[lvG,flat]at h1⟩
 |n,g::l,hm,H=>by
  rw[layG]at H
  have h1:At h (n+1) (layA tt (n+1) g.args++(.dead::layG tt (n+szs g.args+2) l)):=At.right (L:=[.dead]) H rfl
  have h2:=h1.right (m:=n+1+szs g.args) (by rw[YJ])
  have h3:At h (n+szs g.args+2) (layG tt (n+szs g.args+2) l):=by
   have:=At.right (L:=[.dead]) (m:=n+1+szs g.args+1) h2 rfl
   rwa [show n+1+szs g.args+1=n+szs g.args+2 by omega]at this
  obtain⟨h4,h5⟩:=QlG hv hA hp (n+szs g.args+2) l (by omega) h3
  rw[Qsn,lvG]
  refine⟨by rw[Xc,Xc,QwG,QwG,h4,hv,hA],fun j a a' ha hb=>?_⟩
  rw[Xc,Qw6,hv]at ha
  rw[Xc,Qw6,hA]at hb
  split at ha
  ·rename_i hj;rw[QwN hj]at hb;exact hp _ g (by omega) h1.left j a a' ha hb
  ·rename_i hj;rw[QwJ hj]at hb;exact h5 _ a a' ha hb
theorem Qop{vw:Nat->G->AV}(hv:∀n s g,vw n (gG s g).1=vw n g):∀(n:Nat) (s:List Int) (l:List G),lvG vw n (Xh gG s l).1=lvG vw n l
 |n,s,[]=>rfl
 |n,s,g::l=>by
  simp only[Xh,lvG]
  rw[hv,Qop hv _ _ l,show(gG s g).1.args=(XJ gNum s g.args).1 from rfl,Zf]
theorem QsJ(n:Nat)(s:List Int)(g:G):gv n (gG s g).1=gv n g:=by simp only[gv,gG,Qjf]
section
variable{P:Pz}{s:PS}{own:Option Nat}{m:List (ByteArray×AV)}{X:AH}(HP:PIn P X s own m)(hW:Wst P.all ⟨s.toks,[]⟩)(hN:P.all.length<=1000000)(hD:TkOk P.all)
include HP hW hN hD
end
end Go.Proofs.YtenheconhibonaaGreatDoor.Ab
namespace Go.Proofs.YtenheconhibonaaGreatDoor.Ab
open Go.Proofs
section
variable{P:Pz}{s:PS}(hW:Wst P.all s){h:AH}(H:P.ok h)(hN:P.all.length<=1000000)(hD:TkOk P.all)
include hW H hN hD
end
end Go.Proofs.YtenheconhibonaaGreatDoor.Ab
namespace Go.Proofs.YtenheconhibonaaGreatDoor.Ab
open Go.Proofs
structure KpO (h:AH) (P:Pz) (o:Nat) (Y:AH):Prop where
 long:h.length<=Y.length
 out:∀i,i<h.length->i≠o->i≠P.i->i≠P.j->i≠P.g->Y[i]? = h[i]?
section
variable{P:Pz}{s:PS}(hW:Wst P.all s){h:AH}(H:P.ok h)(hN:P.all.length<=1000000)(hD:TkOk P.all){o:Nat}(hol:o<h.length)(hoi:o≠P.i)(hoj:o≠P.j)(hog:o≠P.g)
include hW H hN hD hol hoi hoj hog
end
end Go.Proofs.YtenheconhibonaaGreatDoor.Ab
namespace Go.Proofs.YtenheconhibonaaGreatDoor.Ab
open Go.Proofs
section
variable{P:Pz}{s:PS}(hW:Wst P.all s){h:AH}(H:P.ok h)(hN:P.all.length<=1000000)(hD:TkOk P.all){o:Nat}(hol:o<h.length)(hoi:o≠P.i)(hoj:o≠P.j)(hog:o≠P.g)
include hW H hN hD hol hoi hoj hog
end
end Go.Proofs.YtenheconhibonaaGreatDoor.Ab
namespace Go.Proofs.YtenheconhibonaaGreatDoor.Ab
theorem QiL{P:Program}{N:Nat}{x:Code}{Q:AExit->AS->Prop}{tm:Nat->AV}{h:AH}(id d k off:Nat){ty s:Nat}{xs:List AV}(hb:h[id]? = some (.cells ty s xs))(hd:tm d = .ptr id k off)
  (H:XO P N x Q ⟨upd tm d (.pin s xs k off),h.set id .dead⟩):XO P N x Q ⟨tm,h⟩:=by
 intro F n base c a hF hst hr R hR
 have hh:c.h=h:=hr.h
 subst hh
 have hev:=Ev.kill hb
 have hst2:=hst.kill hb
 refine H F n base (c.kill id) a hF hst2 ⟨rfl,hr.size,hr.above,hr.defers.ev hev,RoundOk.ev hev hr.round,fun t=>?_⟩ R fun e' s' c' a' ex hq h1 h2 h3 h4=>hR e' s' c' a' ex hq (Ev.trans hst hev h1) h2 h3 h4
 show Rel (c.kill id) (if t=d then .pin s xs k off else tm t) _
 split
 ·rename_i ht
  subst ht
  have h0:=hr.tm t
  rw[show(AS.mk tm c.h).tm t=tm t from rfl,hd]at h0
  generalize a.tmps.getD t undef=u at h0
  cases h0 with
  |ptr _ _ _ x hid ho h1 =>
   obtain⟨B,hρ,rfl⟩:=h1 _ _ _ hb
   obtain⟨h4,f,h5⟩:=QeA hst hb hρ
   have:=Rel.pin (c:=c.kill id) s xs k off B 0 f h4 (fun j a hj=>(h5 j a hj).1) (fun j a hj=>(h5 j a hj).2)
   rwa [Qv1]at this
 ·exact(hr.tm t).ev hst hev
open Go.Proofs
theorem Z9.Qvv{P:Program}{f:FuncId}{args:List AV}{h:AH}{m:AMode}{Q Q':AMode->AH->Prop}(H:Z9 P f args h m Q)(hq:∀m' h',Q m' h'->Q' m' h'):Z9 P f args h m Q' :=
 ⟨H.1,fun F n c vals u hF hro hs hh hvals hm=>(H.2 F n c vals u hF hro hs hh hvals hm).mono fun e u' w' ⟨x,m',c',h1,h2,h3⟩=>⟨x,m',c',h1,hq _ _ h2,h3⟩⟩
abbrev iC(n:Int):AB:=.cells 3 1 [.i n]
abbrev eC(n:Int):AB:=.cells 49 1 [.i n]
theorem Qo1{h:AH}{k:Nat}:Z9 Tryz.prog 105 [.ptr k 0 0,.ptr (k+1) 0 0] h .ret fun m' h'=>m' = .ret/\h'=h:=by
 refine Z9.Qvv (QcV (Q:=fun h'=>h'=h) Tryz.func105 rfl Tryz.call105 Tryz.ntmps105 (Qxm Array.toList Tryz.results105) (by simp) (by decide) (by decide) .ret ?_) (fun m' h' q=>q)
 have hn2:∀xo yo,pv Tryz.prog (do eqGuard .neq 20 xo yo .nilIface .nilIface;binOp .neq 20 .nilIface .nilIface)=some (.bool false):=fun xo yo=>by
  cases xo <;> cases yo <;> kernel_rfl
 repeat refine Qn ?_;simp only[go_sem,seval,recV,hn2]
 exact .inr ⟨⟨_,rfl⟩,rfl⟩
theorem Qo0{h:AH}{k:Nat}{a0 e0:Int}(hk:h[k]? = some (iC a0))(hk1:h[k+1]? = some (eC e0))(p e:Int):Z9 Tryz.prog 105 [.ptr k 0 0,.ptr (k+1) 0 0] h (.pan (Fl p e) false) fun m' h'=>m' = .pan (Fl p e) true/\∃L,h'=(h.set k (iC p)).set (k+1) (eC e)++L:=by
 refine Z9.Qvv (QcV (Q:=fun h'=>∃L,h'=(h.set k (iC p)).set (k+1) (eC e)++L) Tryz.func105 rfl Tryz.call105 Tryz.ntmps105 (Qxm Array.toList Tryz.results105) (by simp) (by decide) (by decide) (.pan (Fl p e) false) ?_) (fun m' h' q=>q)
 have hn:∀H,notNil Tryz.prog 20 H (.ifc 155 (.agg [.i p,.i e])) .nilIface=true:=fun H=>by kernel_rfl
 have ha:Qhq Tryz.prog (.ifc 155 (.agg [.i p,.i e])) 20 155 true=some (.tup [.agg [.i p,.i e],.v (.bool true)]):=by kernel_rfl
 have l1:=Qv hk
 have l2:=Qv hk1
 have g1:∀L,(h++L)[k]? = some (iC a0):=fun L=>hext hk L
 have g2:∀L y,((h++L).set k y)[k+1]? = some (eC e0):=fun L y=>by rw[QwL (by omega)];exact hext hk1 L
 repeat refine Qn ?_;simp only[go_sem,seval,recV,Fl,hn,ha]
 refine QiL h.length 3 0 0 (ty:=155) (s:=2) (xs:=[.agg [.i p,.i e]]) (by rw[QwO (QwP _),Qxy];rfl) rfl ?_
 have g3:(h++[AB.cells 155 2 [.agg [.i p,.i e]]]).set h.length .dead=h++[.dead]:=by rw[QxH _ _ (QwP _),Qxy];rfl
 rw[g3]
 repeat first|(first|refine Xu (id:=5) [(0,1),(1,1),(2,1),(3,1),(4,2),(5,2)] mixed (by kernel_rfl) fun K hK=>?_|refine Qn ?_);simp only[go_sem,seval,g1,g2]|refine hK _ ?_;clear hK
 simp only[go_sem]
 refine .inr ⟨⟨_,rfl⟩,[.dead],?_⟩
 rw[Qw2 _ _ l1,Qw2 _ _ (by rw[QwZ];exact l2)]
def symC:Array Value:=(X3.map fun x=>Value.string (mkB x)).toArray
def Qbs(h:AH):Prop:=HasG h 3 symC
theorem Qqu(j:Nat)(h:j<X3.length):pv Tryz.prog (Instr.index 232 (.agg symC) (.int .i64 (j:Int)))=some (.string (mkB X3[j])):=by
 have h23:j<23:=h
 have key:∀m:Fin 23,pv Tryz.prog (Instr.index 232 (.agg symC) (.int .i64 ((m:Nat):Int)))=some (.string (mkB (X3[(m:Nat)]'m.isLt))):=by
  have hx:∀(m:Fin 23),(match pv Tryz.prog (Instr.index 232 (.agg symC) (.int .i64 ((m:Nat):Int)))with|some (.string b)=>b.data.toList==X3[(m:Nat)]'m.isLt|_=>false)=true:=by decide +kernel
  intro m
  have:=hx m
  split at this
  ·rename_i b hb
   rw[hb]
   rw[show b=mkB (X3[(m:Nat)]'m.isLt)from by rw[<-QxL.1 this];exact(QlI b).symm]
  ·cases this
 exact key ⟨j,h23⟩
theorem Qh5(x l:List UInt8):x.isPrefixOf l=(l.take x.length==x):=by
 rw[Bool.eq_iff_iff,List.isPrefixOf_iff_prefix,QxL,QyC]
 exact eq_comm
theorem QgV(l:List UInt8)(k n:Nat)(h:k+n<=l.length):((mkB l).extract k (k+n)).toList=(l.drop k).take n:=by
 rw[Lib.toList_data,ByteArray.data_extract,mkB]
 simp only[Array.toList_extract,List.extract_eq_take_drop]
 rw[QxX]
theorem Qc5(l:List UInt8)(k n:Nat)(h:k+n<=l.length):(mkB l).extract k (k+n)=mkB ((l.drop k).take n):=by
 apply toList_inj
 rw[QgV l k n h,Qha]
theorem QkY(l:List UInt8)(hl:l.length<=16384)(k:Nat)(hk:k<=l.length)(h:AH)(hG:Qbs h) :
  QT Tryz.prog 187 [.v (.string (mkB l)),.i k] h fun o h'=>o = .ret (.v (.string (mkB ((Qgg (l.drop k)).getD []))))/\h'=h:=by
 have hsl:=fun b=>ZU Tryz.prog 9 3 (by kernel_rfl) b
 have z1:¬((k:Nat):Int)<0:=by omega
 have z2:¬((l.length:Nat):Int)<((k:Nat):Int):=by omega
 have z3:¬((k:Nat):Int)>((l.length:Nat):Int):=by omega
 refine Qb Tryz.func187 rfl Tryz.call187 Tryz.ntmps187 Tryz.results187 (by simp) ?_
 iterate 10 (try (first|(((refine Qa fun K E hK hE=>?_));simp only[go_sem,seval,hsl,Xk,z1,z2])|(refine Qf fun K hK=>?_)|(refine Qw ?_)|(refine Qd ?_)|((with_reducible refine hK _ ?_);clear hK)|(refine Qi rfl ?_;simp only[↓reduceIte,QvT])))
 refine Qgu 0 rfl fun K E hK hE=>?_
 simp only[go_sem,seval,QpF]
 refine⟨_,symC,rfl,hG,rfl,rfl,?_⟩
 refine hK _ ?_
 clear hK hE
 iterate 1 (try ((refine Qj ?_)))
 obtain⟨I,hI⟩:∃I:Nat->AS->Prop,I=fun m' s=>∃j:Nat,m'=X3.length - j/\j<=X3.length/\(X3.drop j).find? (fun x=>x.isPrefixOf (l.drop k))=Qgg (l.drop k)/\s.tm 0 = .v (.string (mkB l))/\s.tm 1 = .i k/\s.tm 15 = .v (.agg symC)/\s.tm 16 = .i j/\s.h=h:=⟨_,rfl⟩;refine QZ I ?_ (m:=X3.length) ?_
 ·intro m' s hs;rw[hI]at hs;obtain⟨tm,hp⟩:=s;dsimp only at hs;obtain⟨j,rfl,hj,he,t0,t1,t15,t16,rfl⟩:=hs
  by_cases hlt:j<X3.length
  ·have y1:((j:Nat):Int)<23:=by have:X3.length=23:=rfl;omega
   have hix:=Qqu j hlt
   have hx3:X3[j].length<=3:=by have:∀x∈X3,x.length<=3:=(by decide);exact this _ (Qxk hlt)
   rw[QwU hlt,List.find?_cons]at he
   generalize hx:X3[j]=x at *
   have w1:IntKind.i64.wrap (((l.length:Nat):Int) - ((k:Nat):Int))=((l.length - k:Nat):Int):=by rw[Yg (by omega)];omega
   have w2:IntKind.i64.wrap (((k:Nat):Int)+((x.length:Nat):Int))=((k+x.length:Nat):Int):=by rw[Yg (by omega)];omega
   have w3:IntKind.i64.wrap (((j:Nat):Int)+1)=((j+1:Nat):Int):=Xe (by omega)
   by_cases hle:x.length<=l.length - k
   ·have y2:((x.length:Nat):Int)<=((l.length - k:Nat):Int):=by omega
    have y3:((l.length - k:Nat):Int)>=((x.length:Nat):Int):=by omega
    have hsp:=QdD Tryz.prog 9 (by kernel_rfl) (mkB l) (some (.i64,(k:Nat))) (some (.i64,(k+x.length:Nat))) k (k+x.length) ⟨by omega,by rw[Xk];omega,by omega⟩ ⟨by omega,by omega,by omega⟩
    simp only[QvR]at hsp
    have hq:(((mkB l).extract k (k+x.length)).toList==(mkB x).toList)=x.isPrefixOf (l.drop k):=by rw[QgV l k _ (by omega),Qha,Qh5]
    cases hc:x.isPrefixOf (l.drop k)with
    |true =>
     rw[hc]at hq he
     repeat first|refine Qn ?_;simp only[go_sem,seval,Qbt,t0,t1,t15,t16,hsl,Xk,y1,y2,hix,w1,w2,hsp,hq]|refine hK _ ?_;clear hK
     exact Qc QwH (.keep (.v _)) ⟨by rw[<-he];rfl,rfl⟩
    |false =>
     rw[hc]at hq he
     repeat first|refine Qn ?_;simp only[go_sem,seval,Qbt,t0,t1,t15,t16,hsl,Xk,y1,y2,hix,w1,w2,w3,hsp,hq]|refine hK _ ?_;clear hK
     refine Xo.mk (m':=X3.length - (j+1)) (by omega) ?_
     rw[hI]
     exact⟨j+1,rfl,by omega,he,t0,t1,t15,rfl,rfl⟩
   ·have y2:¬((x.length:Nat):Int)<=((l.length - k:Nat):Int):=by omega
    have y3:¬((l.length - k:Nat):Int)>=((x.length:Nat):Int):=by omega
    have hc:x.isPrefixOf (l.drop k)=false:=by
     rw[Qh5,QxU]
     intro e
     have:=Qxm List.length e
     rw[Qw9,Qxi]at this
     omega
    rw[hc]at he
    repeat first|refine Qn ?_;simp only[go_sem,seval,t0,t1,t15,t16,hsl,Xk,y1,y2,hix,w1,w3]|refine hK _ ?_;clear hK
    refine Xo.mk (m':=X3.length - (j+1)) (by omega) ?_
    rw[hI]
    exact⟨j+1,rfl,by omega,he,t0,t1,t15,rfl,rfl⟩
  ·have hjl:j=X3.length:=by omega
   have y1:¬((j:Nat):Int)<23:=by have:X3.length=23:=rfl;omega
   rw[hjl,Qxb,List.find?_nil]at he
   repeat first|refine Qn ?_;simp only[go_sem,seval,t16,y1]|refine hK _ ?_;clear hK|clear hK;refine hK _ ?_;clear hK
   exact Qc QwH (.keep (.v _)) ⟨by rw[<-he];rfl,rfl⟩
 ·rw[hI]
  exact⟨0,rfl,Qw3 _,rfl,rfl,rfl,rfl,rfl,rfl⟩
end Go.Proofs.YtenheconhibonaaGreatDoor.Ab

