/-
  An abstract program logic, contracts of functions, and laws of terms and rules (part 5).
-/
import Derived.Test.YticgcpebdldbgaaDoorAbFour
import Derived.Test.YticgcpebdldbgaaDoorAbThree
import Derived.Test.YticgcpebdldbgaaDoorAbTwo
set_option linter.unusedVariables false
set_option linter.unusedSimpArgs false
set_option maxHeartbeats 4000000
namespace Go.Proofs.YticgcpebdldbgaaDoor.Ab
def AncE(ops:Array Oper)(E:List (Nat×Nat))(i j:Nat):Prop:=Anc ops i j∨∃p∈E,(i=p.1∨Anc ops i p.1)∧(j=p.2∨Anc ops p.2 j)
theorem AncE.good{ops:Array Oper}{E:List (Nat×Nat)}{S:Nat→Bool}(hd:Down ops S)(hE:∀p∈E,S p.2=true→S p.1=true){i j:Nat}(h:AncE ops E i j)(hj:S j=true):S i=true:=by
 rcases h with h|⟨p,hp,h1,h2⟩
 ·exact hd.anc h hj
 ·have hy:S p.2=true:=by
   rcases h2 with rfl|h2
   ·exact hj
   ·exact hd.anc h2 hj
  rcases h1 with rfl|h1
  ·exact hE p hp hy
  ·exact hd.anc h1 (hE p hp hy)
def Qk0(ms:List Nat)(E:List (Nat×Nat))(i j:Nat):Bool:=(ms.getD j 0).testBit i||E.any fun p=>(i==p.1||(ms.getD p.1 0).testBit i)&&(j==p.2||(ms.getD j 0).testBit p.2)
def Qjk(ops:Array Oper)(ms:List Nat)(E:List (Nat×Nat)):List (Nat×Nat)→Bool
 |[]=>true
 |(i,ci)::l=>(l.all fun p=>match ops[i]?,ops[p.1]? with
   |some a,some b=>!clash ops a b ci p.2||Qk0 ms E i p.1
   |_,_=>false)&&Qjk ops ms E l
theorem Qet{ops:Array Oper}{ms:List Nat}{E:List (Nat×Nat)}(hm:∀(k i:Nat),(ms.getD k 0).testBit i=true→Anc ops i k):∀(tr:List Tr),Qjk ops ms E (tr.map fun t=>(t.i,t.c))=true→(∀t∈tr,ops[t.i]? = some t.o) →
  tr.Pairwise (fun a b=>clash ops a.o b.o a.c b.c=true→AncE ops E a.i b.i)
 |[],_,_=>.nil
 |t::l,h,ho=>by
  simp only[QrY,Qjk,Bool.and_eq_true,List.all_eq_true]at h
  refine List.pairwise_cons.2 ⟨fun b hb hc=>?_,Qet hm l h.2 fun t ht=>ho t (by simp[ht])⟩
  have:=h.1 (b.i,b.c) (List.mem_map.2 ⟨b,hb,rfl⟩)
  simp only[ho t (by simp),ho b (by simp[hb]),hc,Qr6,Bool.false_or,Qk0,Bool.or_eq_true,List.any_eq_true,Bool.and_eq_true,beq_iff_eq]at this
  rcases this with h1|⟨p,hp,h1,h2⟩
  ·exact .inl (hm _ _ h1)
  ·exact .inr ⟨p,hp,h1.imp id (hm _ _),h2.imp id (hm _ _)⟩
def okE(ops:Array Oper)(E:List (Nat×Nat))(π:List (Nat×Nat)):Bool :=
 π.length==ops.size&&Qjk ops (masks ops.toList []) E π&&topo ops [] π&&Qhs (π.map (·.1))&&((List.range ops.size).all fun i=>(π.map (·.1)).contains i) &&
 π.all fun p=>match ops[p.1]? with|some o=>kindOk o p.2|none=>false
structure FitE (ops:Array Oper) (E:List (Nat×Nat)) (tr:List Tr):Prop where
 len:tr.length=ops.size
 pairs:tr.Pairwise (fun a b=>clash ops a.o b.o a.c b.c=true→AncE ops E a.i b.i)
 topo:topo ops [] (tr.map fun t=>(t.i,t.c))=true
 nodup:(tr.map (·.i)).Nodup
 all:∀i,i<ops.size→∃t∈tr,t.i=i
 kind:∀t∈tr,kindOk t.o t.c=true
theorem QnG{P:Program}{N:Nat}{ops:Array Oper}{E:List (Nat×Nat)}{tr:List Tr}{tm:Nat→AV}{h:AH}(hruns:Runs P N ops tr tm h)(hok:okE ops E (tr.map fun t=>(t.i,t.c))=true):FitE ops E tr:=by
 simp only[okE,Bool.and_eq_true]at hok
 obtain⟨⟨⟨⟨⟨hp0,hp1⟩,hp2⟩,hp3⟩,hp4⟩,hp5⟩:=hok
 have hops:=Qah hruns
 refine⟨by have:=beq_iff_eq.1 hp0;simpa using this,Qet (Zc ops.toList [] (fun j o h=>by simpa using h) (fun k i h=>by simp at h)) tr hp1 hops,hp2,?_,?_,?_⟩
 ·have:=Z1 hp3
  rw[List.map_map]at this
  exact this
 ·intro i hi
  have:=List.all_eq_true.1 hp4 i (List.mem_range.2 hi)
  have:i∈(tr.map fun t=>(t.i,t.c)).map (·.1):=by simpa using this
  rw[List.map_map]at this
  obtain⟨t,ht,rfl⟩:=List.mem_map.1 this
  exact⟨t,ht,rfl⟩
 ·intro t ht
  have:=List.all_eq_true.1 hp5 (t.i,t.c) (List.mem_map.2 ⟨t,ht,rfl⟩)
  simpa [hops t ht]using this
inductive TT where
 |leaf (t:List Tr)
 |node (ρ:List Tr) (y u:Nat) (A B:TT)
def TT.first:TT→List Tr
 | .leaf t=>t
 | .node ρ _ _ A _=>ρ++A.first
def TT.e1:TT→List (Nat×Nat)→List (Nat×Nat)
 | .leaf _,E=>E
 | .node _ y u A _,E=>A.e1 ((y,u)::E)
def TT.all:TT→List Nat
 | .leaf t=>t.map (·.i)
 | .node ρ _ _ A B=>ρ.map (·.i)++(A.all++B.all)
def TT.ends:TT→List Nat
 | .leaf _=>[]
 | .node _ y u A B=>y::u::(A.ends++B.ends)
def TT.root:TT→List Nat
 | .leaf _=>[]
 | .node _ y u _ _=>[y,u]
def Beh(ops:Array Oper)(y u i:Nat):Prop:=∀S:Nat→Bool,Down ops S→S y=false→S u=false→S i=false
def FitT(ops:Array Oper):TT→List Tr→List (Nat×Nat)→Prop
 | .leaf t,π,E=>FitE ops E (π++t)
 | .node ρ y u A B,π,E=>y≠u∧y∉A.ends∧u∉B.ends∧(∀i∈A.all++B.all,Beh ops y u i)∧(∀i∈A.ends++B.ends,Beh ops y u i)∧FitT ops A (π++ρ) ((y,u)::E)∧FitT ops B (π++ρ) ((u,y)::E)
def AllL(R:List Tr→Prop):TT→List Tr→Prop
 | .leaf t,π=>R (π++t)
 | .node ρ _ _ A B,π=>AllL R A (π++ρ)∧AllL R B (π++ρ)
theorem AllL.mono{R R':List Tr→Prop}(h:∀l,R l→R' l):∀{T:TT} {π:List Tr},AllL R T π→AllL R' T π
 | .leaf t,π,H=>h _ H
 | .node ρ y u A B,π,H=>⟨AllL.mono h H.1,AllL.mono h H.2⟩
theorem AllL.first{R:List Tr→Prop}:∀{T:TT} {π:List Tr},AllL R T π→R (π++T.first)
 | .leaf t,π,H=>H
 | .node ρ y u A B,π,H=>by
  have:=AllL.first H.1
  rw[List.append_assoc]at this
  exact this
theorem FitT.first{ops:Array Oper}:∀{T:TT} {π:List Tr} {E:List (Nat×Nat)},FitT ops T π E→FitE ops (T.e1 E) (π++T.first)
 | .leaf t,π,E,H=>H
 | .node ρ y u A B,π,E,H=>by
  have:=FitT.first H.2.2.2.2.2.1
  rw[List.append_assoc]at this
  exact this
theorem FitT.all{ops:Array Oper}:∀{T:TT} {π:List Tr} {E:List (Nat×Nat)},FitT ops T π E→AllL (fun l=>∀i,i<ops.size→∃t∈l,t.i=i) T π
 | .leaf t,π,E,H=>FitE.all H
 | .node ρ y u A B,π,E,H=>⟨FitT.all H.2.2.2.2.2.1,FitT.all H.2.2.2.2.2.2⟩
theorem AllL.and{R R':List Tr→Prop}:∀{T:TT} {π:List Tr},AllL R T π→AllL R' T π→AllL (fun l=>R l∧R' l) T π
 | .leaf t,π,H,H'=>⟨H,H'⟩
 | .node ρ y u A B,π,H,H'=>⟨AllL.and H.1 H'.1,AllL.and H.2 H'.2⟩
theorem TT.Qrb:∀(T:TT) (E:List (Nat×Nat)),∀p∈T.e1 E,p∈E∨p.2∈T.ends
 | .leaf t,E,p,h=>.inl h
 | .node ρ y u A B,E,p,h=>by
  rcases TT.Qrb A _ p h with h|h
  ·rcases List.mem_cons.1 h with rfl|h
   ·exact .inr (by simp[TT.ends])
   ·exact .inl h
  ·exact .inr (by simp[TT.ends,h])
theorem TT.Qq7(T:TT):∀i∈T.root,i∈T.ends:=by
 cases T with
 |leaf t=>intro i h;cases h
 |node ρ y u A B=>intro i h;simp only[TT.root,List.mem_cons,List.not_mem_nil,or_false]at h;simp only[TT.ends,List.mem_cons];rcases h with rfl|rfl <;> simp
theorem TT.Qre(T:TT):∀t∈T.first,t.i∈T.all:=by
 induction T with
 |leaf t=>intro x h;exact List.mem_map.2 ⟨x,h,rfl⟩
 |node ρ y u A B ihA ihB =>
  intro x h
  rcases List.mem_append.1 h with h|h
  ·exact List.mem_append_left _ (List.mem_map.2 ⟨x,h,rfl⟩)
  ·exact List.mem_append_right _ (List.mem_append_left _ (ihA x h))
section
variable{P:Program}{N:Nat}{base:Bs×Fence}{ops:Array Oper}{F:Fence}{n:Nat}(hF:WF F){Qx:Exit→Act→World→Prop}{tm0:Nat→AV}{h0:AH}
include hF
theorem QkK:∀(T:TT) (π:List Tr) (E:List (Nat×Nat)),FitT ops T π E→AllL (fun l=>Runs P N ops l tm0 h0) T π →
  ∀(fuel:Nat) (listed:Array Bool) (c:Cx) (a:Act),listed.size=ops.size→Down ops (fun i=>listed.getD i false)→(∀p∈E,listed.getD p.1 false=true)→(∀i∈T.root,listed.getD i false=false)→St c →
   SR N base c ⟨tmS N (fun i=>listed.getD i false) (π++T.first) tm0,hS (fun i=>listed.getD i false) (π++T.first) h0⟩ a→AllL (fun l=>l.countP (fun t=>!listed.getD t.i false)≤fuel) T π →
   AllL (fun l=>∀c' a',Ev c c'→St c'→SR N base c' ⟨tmS N (fun _=>true) l tm0,hS (fun _=>true) l h0⟩ a'→Qx .normal a' c'.w) T π→wpAnyIn F n P .any ops Qx fuel listed a c.w:=by
 intro T
 induction T with
 |leaf t =>
  intro π E hfit hruns fuel
  have hfit:FitE ops E (π++t):=hfit
  have hruns:Runs P N ops (π++t) tm0 h0:=hruns
  induction fuel with
  |zero =>
   intro listed c a hsz hd hE hx hst hr hc hQ
   have hl:∀u∈π++t,listed.getD u.i false=true:=fun u hu=>by
    have:=List.countP_eq_zero.1 (Nat.le_zero.1 hc) u hu
    simpa using this
   exact⟨any_zero hsz hfit.all hl,YR hst hr hQ hl⟩
  |succ fuel ih =>
   intro listed c a hsz hd hE hx hst hr hc hQ
   refine⟨fun h=>YR hst hr hQ fun u hu=>ZI hsz h _ [] hfit.topo (fun i hi=>by cases hi) (u.i,u.c) (List.mem_map.2 ⟨u,hu,rfl⟩),fun i hi=>?_⟩
   have hi':=hi
   obtain⟨h1,o,ho,_⟩:=mem_ready.1 hi'
   have hlt:i<ops.size:=(Array.getElem?_eq_some_iff.1 ho).1
   obtain⟨u,hu,hui⟩:=hfit.all i hlt
   have hd':=ZL hsz hd hi
   have hE':∀p∈E,(listed.setIfInBounds i true).getD p.1 false=true:=fun p hp=>by rw[Yr (by omega),hE p hp];simp
   exact Y8 hF hruns hfit.pairs hfit.nodup hfit.kind hi hu hui hsz (fun i j h hj=>AncE.good hd (fun p hp _=>hE p hp) h hj) (fun i j h hj=>AncE.good hd' (fun p hp _=>hE' p hp) h hj) hst hr fun c' a' hev hst' hr' =>
    ih _ c' a' (by simpa using hsz) hd' hE' (fun i hi=>by cases hi) hst' hr' (Xs hsz ⟨u,hu,hui⟩ hi hc) fun c2 a2 e2 s2 r2=>hQ c2 a2 (Ev.trans hst hev e2) s2 r2
 |node ρ y u A B ihA ihB =>
  intro π E hfit hruns fuel
  obtain⟨hyu,hyA,huB,hbeh,hends,hfA,hfB⟩:=hfit
  obtain⟨hrA,hrB⟩:=hruns
  have hf1:=hfA.first
  have hr1:=hrA.first
  induction fuel with
  |zero =>
   intro listed c a hsz hd hE hx hst hr0 hc hQ
   have hr9:SR N base c ⟨tmS N (fun i=>listed.getD i false) (π++ρ++A.first) tm0,hS (fun i=>listed.getD i false) (π++ρ++A.first) h0⟩ a:=by rw[List.append_assoc];exact hr0
   have hl:∀t∈(π++ρ)++A.first,listed.getD t.i false=true:=fun t ht=>by
    have:=List.countP_eq_zero.1 (Nat.le_zero.1 hc.1.first) t ht
    simpa using this
   exact⟨any_zero hsz hf1.all hl,YR hst hr9 hQ.1.first hl⟩
  |succ fuel ih =>
   intro listed c a hsz hd hE hx hst hr0 hc hQ
   have hr9:SR N base c ⟨tmS N (fun i=>listed.getD i false) (π++ρ++A.first) tm0,hS (fun i=>listed.getD i false) (π++ρ++A.first) h0⟩ a:=by rw[List.append_assoc];exact hr0
   refine⟨fun h=>YR hst hr9 hQ.1.first fun t ht=>ZI hsz h _ [] hf1.topo (fun i hi=>by cases hi) (t.i,t.c) (List.mem_map.2 ⟨t,ht,rfl⟩),fun i hi=>?_⟩
   have hi':=hi
   obtain⟨h1,o,ho,_⟩:=mem_ready.1 hi'
   have hlt:i<ops.size:=(Array.getElem?_eq_some_iff.1 ho).1
   have hd':=ZL hsz hd hi
   have hset:∀j,(listed.setIfInBounds i true).getD j false=(decide (j=i)||listed.getD j false):=fun j=>Yr (by omega)
   have hy:listed.getD y false=false:=hx y (by simp[TT.root])
   have hu:listed.getD u false=false:=hx u (by simp[TT.root])
   have hE':∀p∈E,(listed.setIfInBounds i true).getD p.1 false=true:=fun p hp=>by rw[hset,hE p hp];simp
   have hnA:∀t∈A.first,listed.getD t.i false=false:=fun t ht=>hbeh _ (List.mem_append_left _ (A.Qre t ht)) _ hd hy hu
   have hnB:∀t∈B.first,listed.getD t.i false=false:=fun t ht=>hbeh _ (List.mem_append_right _ (B.Qre t ht)) _ hd hy hu
   have hcn:∀{T:TT},AllL (fun l=>∀i,i<ops.size→∃t∈l,t.i=i) T (π++ρ)→AllL (fun l=>l.countP (fun t=>!listed.getD t.i false)≤fuel+1) T (π++ρ)→AllL (fun l=>l.countP (fun t=>!(listed.setIfInBounds i true).getD t.i false)≤fuel) T (π++ρ) :=
    fun h1 h2=>(h1.and h2).mono fun l h=>Xs hsz (h.1 i hlt) hi h.2
   by_cases hiy:i=y
   ·subst hiy
    obtain⟨t,ht,hti⟩:=hf1.all i hlt
    have hy':(listed.setIfInBounds i true).getD i false=true:=by rw[hset];simp
    have g1:∀p∈A.e1 ((i,u)::E),listed.getD p.2 false=true→listed.getD p.1 false=true:=fun p hp h2=>by
     rcases A.Qrb _ p hp with hp|hp
     ·rcases List.mem_cons.1 hp with rfl|hp
      ·rw[hu]at h2;cases h2
      ·exact hE p hp
     ·have h3:listed.getD p.2 false=false:=hends _ (List.mem_append_left _ hp) _ hd hy hu
      rw[h3]at h2;cases h2
    have g2:∀p∈A.e1 ((i,u)::E),(listed.setIfInBounds i true).getD p.2 false=true→(listed.setIfInBounds i true).getD p.1 false=true:=fun p hp h2=>by
     rcases A.Qrb _ p hp with hp|hp
     ·rcases List.mem_cons.1 hp with rfl|hp
      ·exact hy'
      ·exact hE' p hp
     ·have h3:listed.getD p.2 false=false:=hends _ (List.mem_append_left _ hp) _ hd hy hu
      have:p.2≠i:=fun e=>hyA (e▸hp)
      rw[hset,h3]at h2
      simp[this]at h2
    refine Y8 hF hr1 hf1.pairs hf1.nodup hf1.kind hi ht hti hsz (fun j k h hk=>AncE.good hd g1 h hk) (fun j k h hk=>AncE.good hd' g2 h hk) hst hr9 fun c' a' hev hst' hr'=>?_
    refine ihA (π++ρ) ((i,u)::E) hfA hrA fuel _ c' a' (by simpa using hsz) hd' ?_ ?_ hst' hr' (hcn hfA.all hc.1) (hQ.1.mono fun l h c2 a2 e2 s2 r2=>h c2 a2 (Ev.trans hst hev e2) s2 r2)
    ·intro p hp
     rcases List.mem_cons.1 hp with rfl|hp
     ·exact hy'
     ·exact hE' p hp
    ·intro j hj
     have h3:listed.getD j false=false:=hends _ (List.mem_append_left _ (A.Qq7 j hj)) _ hd hy hu
     rw[hset,h3]
     have:j≠i:=fun e=>hyA (e▸A.Qq7 j hj)
     simp[this]
   ·by_cases hiu:i=u
    ·subst hiu
     have hf2:=hfB.first
     have hr2:=hrB.first
     obtain⟨t,ht,hti⟩:=hf2.all i hlt
     have skip1:tmS N (fun i=>listed.getD i false) (π++ρ++A.first) tm0=tmS N (fun i=>listed.getD i false) (π++ρ++B.first) tm0:=by
      funext z
      have k1:∀t∈A.first,listed.getD t.i false=true→t.o.dst≠some z:=fun t ht hs _=>by rw[hnA t ht]at hs;cases hs
      have k2:∀t∈B.first,listed.getD t.i false=true→t.o.dst≠some z:=fun t ht hs _=>by rw[hnB t ht]at hs;cases hs
      rw[X3 N _ (π++ρ) A.first,X3 N _ (π++ρ) B.first,XZ (S:=fun i=>listed.getD i false) k1,XZ (S:=fun i=>listed.getD i false) k2]
     have skip2:hS (fun i=>listed.getD i false) (π++ρ++A.first) h0=hS (fun i=>listed.getD i false) (π++ρ++B.first) h0:=by
      rw[Yw _ (π++ρ) A.first,Yw _ (π++ρ) B.first,YF (S:=fun i=>listed.getD i false) fun t ht _=>hnA t ht,YF (S:=fun i=>listed.getD i false) fun t ht _=>hnB t ht]
     rw[skip1,skip2]at hr9
     have hu':(listed.setIfInBounds i true).getD i false=true:=by rw[hset];simp
     have g1:∀p∈B.e1 ((i,y)::E),listed.getD p.2 false=true→listed.getD p.1 false=true:=fun p hp h2=>by
      rcases B.Qrb _ p hp with hp|hp
      ·rcases List.mem_cons.1 hp with rfl|hp
       ·rw[hy]at h2;cases h2
       ·exact hE p hp
      ·have h3:listed.getD p.2 false=false:=hends _ (List.mem_append_right _ hp) _ hd hy hu
       rw[h3]at h2;cases h2
     have g2:∀p∈B.e1 ((i,y)::E),(listed.setIfInBounds i true).getD p.2 false=true→(listed.setIfInBounds i true).getD p.1 false=true:=fun p hp h2=>by
      rcases B.Qrb _ p hp with hp|hp
      ·rcases List.mem_cons.1 hp with rfl|hp
       ·exact hu'
       ·exact hE' p hp
      ·have h3:listed.getD p.2 false=false:=hends _ (List.mem_append_right _ hp) _ hd hy hu
       have:p.2≠i:=fun e=>huB (e▸hp)
       rw[hset,h3]at h2
       simp[this]at h2
     refine Y8 hF hr2 hf2.pairs hf2.nodup hf2.kind hi ht hti hsz (fun j k h hk=>AncE.good hd g1 h hk) (fun j k h hk=>AncE.good hd' g2 h hk) hst hr9 fun c' a' hev hst' hr'=>?_
     refine ihB (π++ρ) ((i,y)::E) hfB hrB fuel _ c' a' (by simpa using hsz) hd' ?_ ?_ hst' hr' (hcn hfB.all hc.2) (hQ.2.mono fun l h c2 a2 e2 s2 r2=>h c2 a2 (Ev.trans hst hev e2) s2 r2)
     ·intro p hp
      rcases List.mem_cons.1 hp with rfl|hp
      ·exact hu'
      ·exact hE' p hp
     ·intro j hj
      have h3:listed.getD j false=false:=hends _ (List.mem_append_right _ (B.Qq7 j hj)) _ hd hy hu
      rw[hset,h3]
      have:j≠i:=fun e=>huB (e▸B.Qq7 j hj)
      simp[this]
    ·obtain⟨t,ht,hti⟩:=hf1.all i hlt
     have hy':(listed.setIfInBounds i true).getD y false=false:=by rw[hset,hy];simp;exact fun h=>hiy h.symm
     have hu':(listed.setIfInBounds i true).getD u false=false:=by rw[hset,hu];simp;exact fun h=>hiu h.symm
     have g1:∀p∈A.e1 ((y,u)::E),listed.getD p.2 false=true→listed.getD p.1 false=true:=fun p hp h2=>by
      rcases A.Qrb _ p hp with hp|hp
      ·rcases List.mem_cons.1 hp with rfl|hp
       ·rw[hu]at h2;cases h2
       ·exact hE p hp
      ·have h3:listed.getD p.2 false=false:=hends _ (List.mem_append_left _ hp) _ hd hy hu
       rw[h3]at h2;cases h2
     have g2:∀p∈A.e1 ((y,u)::E),(listed.setIfInBounds i true).getD p.2 false=true→(listed.setIfInBounds i true).getD p.1 false=true:=fun p hp h2=>by
      rcases A.Qrb _ p hp with hp|hp
      ·rcases List.mem_cons.1 hp with rfl|hp
       ·rw[hu']at h2;cases h2
       ·exact hE' p hp
      ·have h3:(listed.setIfInBounds i true).getD p.2 false=false:=hends _ (List.mem_append_left _ hp) _ hd' hy' hu'
       rw[h3]at h2;cases h2
     refine Y8 hF hr1 hf1.pairs hf1.nodup hf1.kind hi ht hti hsz (fun j k h hk=>AncE.good hd g1 h hk) (fun j k h hk=>AncE.good hd' g2 h hk) hst hr9 fun c' a' hev hst' hr'=>?_
     refine ih _ c' a' (by simpa using hsz) hd' hE' ?_ hst' (by have h9:=hr';rw[List.append_assoc]at h9;exact h9) ⟨hcn hfA.all hc.1,hcn hfB.all hc.2⟩ (hQ.mono fun l h c2 a2 e2 s2 r2=>h c2 a2 (Ev.trans hst hev e2) s2 r2)
     intro j hj
     simp only[TT.root,List.mem_cons,List.not_mem_nil,or_false]at hj
     rcases hj with rfl|rfl
     ·exact hy'
     ·exact hu'
end
inductive OT where
 |leaf (σ:List (Nat×Nat))
 |node (ρ:List (Nat×Nat)) (y u:Nat) (A B:OT)
def OT.walk(P:Program)(N:Nat)(ops:Array Oper)(K:AS→Prop):OT→AS→Prop
 | .leaf σ,s=>AnyW P N ops σ K s
 | .node ρ _ _ A B,s=>AnyW P N ops ρ (fun s=>OT.walk P N ops K A s∧OT.walk P N ops K B s) s
def OT.all:OT→List Nat
 | .leaf σ=>σ.map (·.1)
 | .node ρ _ _ A B=>ρ.map (·.1)++(A.all++B.all)
def OT.ends:OT→List Nat
 | .leaf _=>[]
 | .node _ y u A B=>y::u::(A.ends++B.ends)
def OT.ok(ops:Array Oper):OT→List (Nat×Nat)→List (Nat×Nat)→Bool
 | .leaf σ,π,E=>okE ops E (π++σ)&&Qap ops σ
 | .node ρ y u A B,π,E=>(y != u&&!A.ends.contains y&&!B.ends.contains u&&(A.all++B.all).all (behind ops y u)&&(A.ends++B.ends).all (behind ops y u)&&Qap ops ρ)&&(OT.ok ops A (π++ρ) ((y,u)::E)&&OT.ok ops B (π++ρ) ((u,y)::E))
theorem Qfd{ops:Array Oper}{x y i:Nat}(hi:behind ops x y i=true):Beh ops x y i:=by
 intro S hd hx hy
 have hm':∀(k i:Nat),((masks ops.toList []).getD k 0).testBit i=true→Anc ops i k:=Zc ops.toList [] (fun j o h=>by simpa using h) (fun k i h=>by simp at h)
 cases hS:S i with
 |false=>rfl
 |true =>
  exfalso
  simp only[behind,Bool.or_eq_true,beq_iff_eq]at hi
  rcases hi with((rfl|rfl)|h)|h
  ·rw[hx]at hS;cases hS
  ·rw[hy]at hS;cases hS
  ·have:=hd.anc (hm' _ _ h) hS;rw[hx]at this;cases this
  ·have:=hd.anc (hm' _ _ h) hS;rw[hy]at this;cases this
theorem QeL{P:Program}{N:Nat}{ops:Array Oper}{K:AS→Prop}{tm0:Nat→AV}{h0:AH}:∀(O:OT) (π:List Tr) (E:List (Nat×Nat)),Runs P N ops π tm0 h0→OT.walk P N ops K O ⟨tmS N (fun _=>true) π tm0,hS (fun _=>true) π h0⟩→OT.ok ops O (π.map fun t=>(t.i,t.c)) E=true →
  ∃T:TT,T.all=O.all∧T.ends=O.ends∧FitT ops T π E∧AllL (fun l=>Runs P N ops l tm0 h0) T π∧AllL (fun l=>K ⟨tmS N (fun _=>true) l tm0,hS (fun _=>true) l h0⟩) T π
 | .leaf σ,π,E,hr,H,hok=>by
  simp only[OT.ok,Bool.and_eq_true]at hok
  obtain⟨t,rfl,hρ,hK⟩:=Yt H hok.2
  have hrr:=hr.append hρ
  have h1:=hok.1
  rw[←List.map_append]at h1
  refine⟨.leaf t,by simp[TT.all,OT.all],rfl,QnG hrr h1,hrr,?_⟩
  show K _
  rw[X3,Yw]
  exact hK
 | .node ρ y u A B,π,E,hr,H,hok=>by
  simp only[OT.ok,Bool.and_eq_true,bne_iff_ne,ne_eq,Bool.not_eq_true',List.all_eq_true]at hok
  obtain⟨⟨⟨⟨⟨⟨h1,h2⟩,h3⟩,h4⟩,h5⟩,h6⟩,hA,hB⟩:=hok
  obtain⟨t,rfl,hρ,hK⟩:=Yt H h6
  have hrr:=hr.append hρ
  have e:(⟨tmS N (fun _=>true) t (tmS N (fun _=>true) π tm0),hS (fun _=>true) t (hS (fun _=>true) π h0)⟩:AS)=⟨tmS N (fun _=>true) (π++t) tm0,hS (fun _=>true) (π++t) h0⟩:=by rw[X3,Yw]
  rw[e]at hK
  rw[←List.map_append]at hA hB
  obtain⟨TA,a1,a2,a3,a4,a5⟩:=QeL A (π++t) ((y,u)::E) hrr hK.1 hA
  obtain⟨TB,b1,b2,b3,b4,b5⟩:=QeL B (π++t) ((u,y)::E) hrr hK.2 hB
  refine⟨.node t y u TA TB,by simp[TT.all,OT.all,a1,b1],by simp[TT.ends,OT.ends,a2,b2],⟨h1,?_,?_,?_,?_,a3,b3⟩,⟨a4,b4⟩,⟨a5,b5⟩⟩
  ·rw[a2];simpa using h2
  ·rw[b2];simpa using h3
  ·rw[a1,b1];exact fun i hi=>Qfd (h4 i hi)
  ·rw[a2,b2];exact fun i hi=>Qfd (h5 i hi)
theorem QcN{P:Program}{N:Nat}{Q:AExit→AS→Prop}{s:AS}{id:Nat}{ops:Array Oper}(O:OT)(hm:P.follows .mixedOrders=true)(hok:OT.ok ops O [] []=true)
  (H:∀(K:AS→Prop),(∀s,Q .normal s→K s)→OT.walk P N ops K O s):XS P N (.region id ops true) Q s:=by
 intro F n base c a hF hst hr R hR
 refine wpIn_region_any hm ?_
 obtain⟨tm,hp⟩:=s
 obtain⟨T,_,_,hfit,hruns,hQ⟩:=QeL (tm0:=tm) (h0:=hp) O [] [] (.nil _ _) (H (fun s=>Q .normal s) (fun s h=>h)) hok
 have hev:Ev c (c.to {c.w with drawn:=c.w.drawn+1}):=Ev.idle hst (Ev.refl c) rfl rfl rfl rfl fun k=>.inl rfl
 have hst':St (c.to {c.w with drawn:=c.w.drawn+1}):=hst.idle rfl fun k o hk=>.inl hk
 have hr':SR N (base,F) (c.to {c.w with drawn:=c.w.drawn+1}) ⟨tm,hp⟩ a:=⟨hr.h,hr.size,Nat.le_trans hr.above hev.size,hr.defers.ev hev,RoundOk.ev hev hr.round,fun t=>(hr.tm t).ev hst hev⟩
 have hnone:∀j,(Array.replicate ops.size false).getD j false=false:=fun j=>by
  rw[Array.getD_eq_getD_getElem?,Array.getElem?_replicate]
  split <;> rfl
 have hlen:AllL (fun l=>l.length=ops.size) T []:=by
  have:∀(T:TT) (π:List Tr) (E:List (Nat×Nat)),FitT ops T π E→AllL (fun l=>l.length=ops.size) T π:=by
   intro T
   induction T with
   |leaf t=>exact fun π E h=>FitE.len h
   |node ρ y u A B ihA ihB=>exact fun π E h=>⟨ihA _ _ h.2.2.2.2.2.1,ihB _ _ h.2.2.2.2.2.2⟩
  exact this T [] [] hfit
 refine QkK (base:=(base,F)) hF T [] [] hfit hruns _ _ (c.to {c.w with drawn:=c.w.drawn+1}) a (by simp) ?_ (fun p hp=>by cases hp) (fun i _=>hnone i) hst' ?_ (hlen.mono fun l h=>Nat.le_trans List.countP_le_length (Nat.le_of_eq h)) (hQ.mono fun l h c' a' h1 h2 h3=>hR .normal _ c' a' .normal h (Ev.trans hst hev h1) h2 h3 rfl)
 ·intro j o ho hj
  simp only at hj
  rw[hnone]at hj;cases hj
 ·have e1:tmS N (fun i=>(Array.replicate ops.size false).getD i false) ([]++T.first) tm=tm:=funext fun x=>XZ fun t _ h=>by rw[hnone]at h;cases h
  have e2:hS (fun i=>(Array.replicate ops.size false).getD i false) ([]++T.first) hp=hp:=YF fun t _ _=>hnone _
  rw[e1,e2];exact hr'
end Go.Proofs.YticgcpebdldbgaaDoor.Ab
set_option maxRecDepth 4000
namespace Go.Proofs.YticgcpebdldbgaaDoor.Ab
open Go.Proofs
theorem QdB{most:Nat}{s s2:PS}{l:List G}(h:Yo most s = .ok l s2):l≠[]:=by
 obtain⟨_,_,h3⟩:=QbS most _ [] s l s2 (fun _ h=>(List.not_mem_nil h).elim) h
 rintro rfl
 simp at h3
def bodyT(name:ByteArray)(s:PS):PR Rl:=(Yp 0 s).bind fun first s =>
  if s.is QaH then Ze name [] first s.nx else if s.is Qe7 then Ze name first [] s.nx else
  if s.is Qe5 then(Yp first.length s.nx).bind fun rem s=>(XO QaH s).bind fun _ s=>Ze name first rem s else .err s.tk.pos 16
theorem QfK(s:PS):YQ s=if s.tk.kind=1∧s.nx.is sAt=true then(ZD s).bind fun x s=>bodyT x s.nx else bodyT eB s:=rfl
structure ErrY (X:AH) (P:Pz) (Y:AH):Prop where
 long:X.length≤Y.length
 out:∀i,i<X.length→i≠P.i→i≠P.j→Y[i]? = X[i]?
def RuQ(X:AH)(P:Pz):PR Rl→AOut→AH→Prop
 | .ok r s,o,h'=>o = .ret r.av∧h'=(X.set P.i (pN P s none)).set P.j (kB s)
 | .err p e,o,h'=>o = .panic (Fl p e)∧∃Y:{Y:AH // ErrY X P Y},h'=Y.1
def RuR(X:AH)(P:Pz)(r:Rl)(s:PS)(o:AOut)(h':AH):Prop:=∃nk nr ng nb,o = .ret (.agg [.v (.string r.name),sG av 2 nk r.keep,sG av 2 nr r.remove,sG gv 3 ng r.guard,sG gv 3 nb r.body,.i r.vars])∧X.length≤nk∧X.length≤nr∧X.length≤ng∧X.length≤nb ∧
 At h' nk (layG 54 nk r.keep)∧At h' nr (layG 54 nr r.remove)∧At h' ng (layG 54 ng r.guard)∧At h' nb (layG 54 nb r.body)∧X.length≤h'.length∧h'.take X.length=(X.set P.i (pN P s none)).set P.j (kB s)
abbrev nilV:AV:=.v (.slice none 0 0)
def rB(name:ByteArray)(k r g b:AV):AB:=.cells 34 6 [.agg [.v (.string name),k,r,g,b,.i 0]]
theorem ZS{B:AH}{P2:Pz}{s s':PS}{a b a' b':AB}{M N L:AH}{n:Nat}(h:At (ph B P2 s++(a::b::M)) n L)(h1:B.length+2≤n)(h2:n+L.length≤B.length+2+M.length):At (ph B P2 s'++(a'::b'::(M++N))) n L:=by
 refine h.keep fun i i1 i2=>?_
 rw[List.getElem?_append_right (by rw[QU];omega),List.getElem?_append_right (by rw[QU];omega),QU,QU]
 obtain⟨k,hk⟩:∃k,i - B.length=k+1+1:=⟨i - B.length - 2,by omega⟩
 rw[hk]
 simp only[QrK]
 rw[List.getElem?_append_left (by omega)]
def RH(B:AH)(P2:Pz)(X:AH)(s:PS)(r:Rl)(st:AS):Prop:=st.tm 0 = .ptr P2.i 0 0∧st.tm 2 = .ptr X.length 0 0∧st.tm 3 = .ptr B.length 0 0∧Wst P2.all s∧SmG r.keep∧SmG r.remove∧SmG r.guard∧SmG r.body∧∃nk nr ng nb x4 M,
 st.h=ph B P2 s++(rB r.name (sG av 2 nk r.keep) (sG av 2 nr r.remove) (sG gv 3 ng r.guard) (sG gv 3 nb r.body)::x4::M)∧At st.h nk (layG 54 nk r.keep)∧At st.h nr (layG 54 nr r.remove)∧At st.h ng (layG 54 ng r.guard)∧At st.h nb (layG 54 nb r.body) ∧
 B.length+2≤nk∧nk+gsz r.keep≤nr∧nr+gsz r.remove≤ng∧ng+gsz r.guard≤nb∧nb+gsz r.body≤B.length+2+M.length
def QjW(b:List G):List G:=match b with|[x]=>if x.op=1 then[]else b|_=>b
def finT(name:ByteArray)(keep remove g b:List G)(s:PS):PR Rl:=(XO sDot s).bind fun _ s=>.ok ⟨name,keep,remove,g,QjW b,0⟩ s
theorem Qji(name:ByteArray)(keep remove:List G)(s:PS):Ze name keep remove s=(Yo 12 s).bind fun b s=>if s.is sBar then(Yo 12 s.nx).bind fun b2 s=>finT name keep remove b b2 s else finT name keep remove [] b s:=rfl
theorem retQ{f:FuncId}{args:List AV}{X:AH}{q n:Nat}{ord:List Int}{l:List G}(H:QL Tryd.prog f args X (GnQ X q n ord l)):QL Tryd.prog f args X fun o h'=>o = .ret (.tup [])∧∃Y:{Y:AH // GnQ X q n ord l (.ret (.tup [])) Y},h'=Y.1 :=
 H.mono fun o h' k=>by
  obtain⟨rfl,k2⟩:=k
  exact⟨rfl,⟨h',rfl,k2⟩,rfl⟩
theorem Qon{s:PS}{a b:List UInt8}(h:s.is a=true)(hab:(a==b)=false):s.is b=false:=by
 simp only[PS.is,Bool.and_eq_true,beq_iff_eq]at h
 simp only[PS.is,h.1,h.2,hab,Bool.and_false]
section
variable{P:Pz}{s:PS}(hW:Wst P.all s){h:AH}(H:P.ok h)(hN:P.all.length≤1000000)(hD:TkOk P.all)(L:AH)
include hW H hN hD
theorem QfB{pre:Nat}(hpre:pre≤100){p e:Int}(hr:Yp pre s = .err p e):QL Tryd.prog 41 [.ptr P.i 0 0,.i (pre:Nat)] (ph h P s++L) fun o h'=>o = .panic (Fl p e)∧∃s1:PS,h'=ph h P s1++L:=by
 have:=QfD hW (H.app L) hN hD pre hpre
 rw[hr]at this
 rw[Q4 H]at this
 exact this.mono fun o h' q=>by simpa only[GsQ,Q4 H]using q
theorem Qhe{pre:Nat}(hpre:pre≤100){l:List G}{s2:PS}(hr:Yp pre s = .ok l s2){k:Nat}(hk:k=h.length+L.length):QL Tryd.prog 41 [.ptr P.i 0 0,.i (pre:Nat)] (ph h P s++L) fun o h'=>o = .ret (.sl 2 (lvG av k l) none)∧h'=ph h P s2++(L++layG 54 k l):=by
 have:=QfD hW (H.app L) hN hD pre hpre
 rw[hr]at this
 subst hk
 rw[Q4 H]at this
 exact this.mono fun o h' q=>by simpa only[GsQ,Q4 H,QsA,List.append_assoc]using q
theorem Qfy{most:Nat}(hm:most≤100){p e:Int}(hr:Yo most s = .err p e):QL Tryd.prog 29 [.ptr P.i 0 0,.i (most:Nat)] (ph h P s++L) fun o h'=>o = .panic (Fl p e)∧∃s1:PS,h'=ph h P s1++L:=by
 have:=QcS hW (H.app L) hN hD most hm
 rw[hr]at this
 rw[Q4 H]at this
 exact this.mono fun o h' q=>by simpa only[GsQ,Q4 H]using q
theorem Qhb{most:Nat}(hm:most≤100){l:List G}{s2:PS}(hr:Yo most s = .ok l s2){k:Nat}(hk:k=h.length+L.length):QL Tryd.prog 29 [.ptr P.i 0 0,.i (most:Nat)] (ph h P s++L) fun o h'=>o = .ret (.sl 3 (lvG gv k l) none)∧h'=ph h P s2++(L++layG 54 k l):=by
 have:=QcS hW (H.app L) hN hD most hm
 rw[hr]at this
 subst hk
 rw[Q4 H]at this
 exact this.mono fun o h' q=>by simpa only[GsQ,Q4 H,QsA,List.append_assoc]using q
end
theorem Qgl{tt:TypeId}{h:AH}{m w:Nat}{vw:Nat→G→AV}{vA:G→AV}(hv:∀n g,(vw n g).cells.length=w)(hA:∀g,(vA g).cells.length=w)
  (hp:∀n g,m≤n→At h n (layA tt n g.args)→∀(j:Nat) a a',(vw n g).cells[j]? = some a→(vA g).cells[j]? = some a'→Melt h m a a'):∀(n:Nat) (l:List G),m≤n→At h n (layG tt n l) →
  (flat (vs vA l)).length=(flat (lvG vw n l)).length∧∀(j:Nat) a a',(flat (lvG vw n l))[j]? = some a→(flat (vs vA l))[j]? = some a'→Melt h m a a'
 |n,[],_,_=>⟨rfl,fun j a a' h1=>by simp[lvG,flat]at h1⟩
 |n,g::l,hm,H=>by
  rw[layG]at H
  have h1:At h (n+1) (layA tt (n+1) g.args++(.dead::layG tt (n+szs g.args+2) l)):=At.right (L:=[.dead]) H rfl
  have h2:=h1.right (m:=n+1+szs g.args) (by rw[Yg])
  have h3:At h (n+szs g.args+2) (layG tt (n+szs g.args+2) l):=by
   have:=At.right (L:=[.dead]) (m:=n+1+szs g.args+1) h2 rfl
   rwa [show n+1+szs g.args+1=n+szs g.args+2 by omega]at this
  obtain⟨h4,h5⟩:=Qgl hv hA hp (n+szs g.args+2) l (by omega) h3
  rw[Qpt,lvG]
  refine⟨by rw[Q7,Q7,List.length_append,List.length_append,h4,hv,hA],fun j a a' ha hb=>?_⟩
  rw[Q7,List.getElem?_append,hv]at ha
  rw[Q7,List.getElem?_append,hA]at hb
  split at ha
  ·rename_i hj;rw[if_pos hj]at hb;exact hp _ g (by omega) h1.left j a a' ha hb
  ·rename_i hj;rw[if_neg hj]at hb;exact h5 _ a a' ha hb
theorem QlX{tt:TypeId}{h:AH}{m w n:Nat}{vw:Nat→G→AV}{vA:G→AV}(hv:∀n g,(vw n g).cells.length=w)(hA:∀g,(vA g).cells.length=w)
  (hp:∀n g,m≤n→At h n (layA tt n g.args)→∀(j:Nat) a a',(vw n g).cells[j]? = some a→(vA g).cells[j]? = some a'→Melt h m a a') (l:List G) (hm:m≤n) (H:At h n (layG tt n l)):Melt h m (sG vw w n l) (.sl w (vs vA l) none):=by
 cases l with
 |nil=>exact .nil w
 |cons g l =>
  obtain⟨h1,h2⟩:=Qgl hv hA hp n (g::l) hm H
  rw[Qe6 vw w n (by simp)]
  refine .sl (by rw[ZR,Yx]) (fun y hy=>?_) h1 h2
  obtain⟨x,_,rfl⟩:=List.mem_map.1 hy
  exact hA x
theorem QlV{tt:TypeId}{h:AH}{m n:Nat}(l:List G)(hm:m≤n)(H:At h n (layG tt n l)):Melt h m (sG av 2 n l) (.sl 2 (vs G.atom l) none) :=
 QlX (vw:=av) (vA:=G.atom) (fun _ _=>rfl) (fun _=>rfl) (fun n g hm hA j a a' h1 h3=>by
  match j,h1,h3 with
  |0,h1,h3=>cases h1;cases h3;exact .keep (.v _)
  |1,h1,h3=>cases h1;cases h3;exact Qen hm hA
  |j+2,h1,h3=>simp[av,AV.cells]at h1) l hm H
theorem QlW{tt:TypeId}{h:AH}{m n:Nat}(l:List G)(hm:m≤n)(H:At h n (layG tt n l)):Melt h m (sG gv 3 n l) (.sl 3 (vs G.goal l) none) :=
 QlX (vw:=gv) (vA:=G.goal) (fun _ _=>rfl) (fun _=>rfl) (fun n g hm hA j a a' h1 h3=>by
  match j,h1,h3 with
  |0,h1,h3=>cases h1;cases h3;exact .keep (.v _)
  |1,h1,h3=>cases h1;cases h3;exact .keep (.v _)
  |2,h1,h3=>cases h1;cases h3;exact Qen hm hA
  |j+3,h1,h3=>simp[gv,AV.cells]at h1) l hm H
theorem Qif{vw:Nat→G→AV}(hv:∀n s g,vw n (gG s g).1=vw n g):∀(n:Nat) (s:List Int) (l:List G),lvG vw n (Xp gG s l).1=lvG vw n l
 |n,s,[]=>rfl
 |n,s,g::l=>by
  simp only[Xp,lvG]
  rw[hv,Qif hv _ _ l,show(gG s g).1.args=(XD gNum s g.args).1 from rfl,YN]
theorem Qoy{vw:Nat→G→AV}(hv:∀n s g,vw n (gG s g).1=vw n g)(w n:Nat)(s:List Int)(l:List G):sG vw w n (Xp gG s l).1=sG vw w n l:=by
 cases l with
 |nil=>rfl
 |cons g l =>
  rw[Qe6 vw w n (l:=g::l) (by simp),Qe6 vw w n (l:=(Xp gG s (g::l)).1) (by simp[Xp]),Qif hv]
theorem Qpz(n:Nat)(s:List Int)(g:G):av n (gG s g).1=av n g:=by simp only[av,gG,Qem]
theorem Qok(n:Nat)(s:List Int)(g:G):gv n (gG s g).1=gv n g:=by simp only[gv,gG,Qem]
section
variable{P:Pz}{s:PS}{own:Option Nat}{m:List (ByteArray×AV)}{X:AH}(HP:PIn P X s own m)(hW:Wst P.all ⟨s.toks,[]⟩)(hN:P.all.length≤1000000)(hD:TkOk P.all)
include HP hW hN hD
theorem Qn0(Q:AOut→AH→Prop)(hQe:∀p e h',Zm s = .err p e→ErrY X P h'→Q (.panic (Fl p e)) h')(hQo:∀r s6 o h',Zm s = .ok r s6→RuR X P r s6 o h'→Q o h'):QL Tryd.prog 20 [.ptr P.i 0 0] X Q:=by
 have hz:∀z,PIn P (X++[z]) s own m:=fun z=>⟨by rw[List.getElem?_append_left (Qs HP.i)];exact HP.i,by rw[List.getElem?_append_left (Qs HP.j)];exact HP.j⟩
 obtain⟨Z,hZ⟩:∃Z,Z=rB {data:=#[]} nilV nilV nilV nilV:=⟨_,rfl⟩
 have cc:=QjP (hz Z)
 have HB:=(hz Z).ok [] .dead
 obtain⟨B,hB⟩:∃B,B=X++[Z]++[AB.dead]:=⟨_,rfl⟩
 have hBl:B.length=X.length+2:=by rw[hB];simp
 obtain⟨P2,hP2⟩:∃P2,P2=P.to (X++[Z]).length:=⟨_,rfl⟩
 rw[←hB,←hP2]at HB cc
 have ei:P2.i=P.i:=by rw[hP2];rfl
 have eall:P2.all=P.all:=by rw[hP2];rfl
 rw[←ei]
 rw[←eall]at hW hN hD
 rw[←ei]at cc
 have f1:=QU B P2
 have f3:=XB B P2
 have f4:=Yf B P2
 have f5:=Xk B P2
 have f6:=XL B P2
 generalize hs0:(⟨s.toks,[]⟩:PS)=s0 at *
 have hEY:∀s' L,ErrY X P (ph B P2 s'++L):=fun s' L=>by
  have bg:P2.g=X.length+1:=by rw[hP2];simp[Pz.to]
  have ej:P2.j=P.j:=by rw[hP2];rfl
  refine⟨by rw[List.length_append,QU];omega,fun i h1 h2 h3=>?_⟩
  rw[List.getElem?_append_left (by rw[QU];omega),Zu HB (by rw[ei];exact h2) (by rw[ej];exact h3) (by omega),hB,List.append_assoc,List.getElem?_append_left h1]
 have hErr:∀p e s' L,YQ s0 = .err p e→Q (.panic (Fl p e)) (ph B P2 s'++L):=fun p e s' L hh=>hQe p e _ (by rw[Zm,hs0,hh];rfl) (hEY s' L)
 have hX0:∀L,(ph B P2 s0++L)[P2.i]? = some (pN P2 s0 (some P2.g)):=fun L=>ph_i HB s0 L
 have ca:=fun L=>QjI hW (hX0 L) hN
 have cn:=fun L=>Qkc hW (hX0 L)
 have hi:=ph_i HB s0
 simp only[pB]at hi
 have e1:=Tk.Qq0 s0.tk
 have e2:=Tk.Qq1 s0.tk
 have e3:=Tk.Qq0 s0.nx.tk
 have e4:=Tk.Qq1 s0.nx.tk
 rw[rB]at hZ
 subst hZ
 refine Qe Tryd.func20 rfl Tryd.call20 Tryd.ntmps20 Tryd.results20 (by simp) ?_
 iterate 7 (try (first|((first|(with_reducible (first|refine Qa fun K E hK hE=>?_|refine FunW.QqZ cc ?_)));simp -implicitDefEqProofs only[Qc,Qd,OpW,QB,aop,undef,AS.ev,Qr,AV.QqY,↓reduceIte,zi34,f1,seval])|((with_reducible refine hK _ ?_);clear hK)))
 have hAt:s0.nx.is sAt=(s0.nx.tk.kind==4&&(s0.nx.tk.text.toList==sAt)):=rfl
 refine Q2 (fun st=>∃name s1,YQ s0=bodyT name s1∧Wst P2.all s1∧st.tm 0 = .ptr P2.i 0 0∧st.tm 2 = .ptr X.length 0 0∧st.tm 3 = .ptr B.length 0 0∧∃x4,st.h=ph B P2 s1++[rB name nilV nilV nilV nilV,x4]) ?_ ?_
 ·rintro⟨tm,hp⟩ ⟨name,s1,hpart,hW1,t0,t2,t3,x4,rfl⟩
  simp only at t0 t2 t3
  have hErr2:∀p e s' L,bodyT name s1 = .err p e→Q (.panic (Fl p e)) (ph B P2 s'++L):=fun p e s' L hh=>hErr p e s' L (by rw[hpart,hh])
  clear hErr
  refine Q2 (fun st=>st.tm 0 = .ptr P2.i 0 0∧st.tm 2 = .ptr X.length 0 0∧st.tm 3 = .ptr B.length 0 0∧∃l s2,Yp 0 s1 = .ok l s2∧st.tm 5 = .sl 2 (lvG av (B.length+2) l) none∧st.h=ph B P2 s2++(rB name nilV nilV nilV nilV::x4::layG 54 (B.length+2) l)) ?_ ?_
  ·rintro⟨tm,hp⟩ ⟨t0,t2,t3,l,s2,hr,t5,rfl⟩
   simp only at t0 t2 t3 t5
   obtain⟨hS1,hl4,hl0⟩:=QhK hr
   have hW2:Wst P2.all s2:=Kp.Ps.ok (n:=wdOf P2.all) (Kp.heads_ps trivial 0) hW1 hr
   have hB1:bodyT name s1=if s2.is QaH then Ze name [] l s2.nx else if s2.is Qe7 then Ze name l [] s2.nx else
     if s2.is Qe5 then(Yp l.length s2.nx).bind fun rem s=>(XO QaH s).bind fun _ s=>Ze name l rem s else .err s2.tk.pos 16:=by rw[bodyT,hr];rfl
   have hl1:l≠[]:=by rintro rfl;simp at hl0
   have hsl:=Qe6 av 2 (B.length+2) hl1
   have hAl:∀(x y:AB) (M:AH) (s:PS),At (ph B P2 s++(x::y::(layG 54 (B.length+2) l++M))) (B.length+2) (layG 54 (B.length+2) l):=fun x y M s=>At.base (At.mid [x,y] _ M rfl) (QU B P2 s)
   have hlvl:=Yx av (B.length+2) l
   have bSimp:({data:=#[60,61,62]}:ByteArray).toList=QaH:=tl QaH
   have bProp:({data:=#[61,61,62]}:ByteArray).toList=Qe7:=tl Qe7
   have bBack:({data:=#[92]}:ByteArray).toList=Qe5:=tl Qe5
   have hi2:=ph_i HB s2
   simp only[pB]at hi2
   refine Q2 (fun st=>∃keep remove s3 nk nr x4 M,bodyT name s1=Ze name keep remove s3∧Wst P2.all s3∧SmG keep∧SmG remove∧st.tm 0 = .ptr P2.i 0 0∧st.tm 2 = .ptr X.length 0 0∧st.tm 3 = .ptr B.length 0 0 ∧
    st.h=ph B P2 s3++(rB name (sG av 2 nk keep) (sG av 2 nr remove) nilV nilV::x4::M)∧At st.h nk (layG 54 nk keep)∧At st.h nr (layG 54 nr remove)∧B.length+2≤nk∧nk+gsz keep≤nr∧nr+gsz remove≤B.length+2+M.length) ?_ ?_
   ·rintro⟨tm,hp⟩ ⟨keep,remove,s3,nk,nr,x5,M,hb3,hW3,hSk,hSr,t0,t2,t3,hh,hAk,hAr,o1,o2,o3⟩
    simp only at t0 t2 t3 hh hAk hAr
    subst hh
    have hErr3:∀p e s' L,Ze name keep remove s3 = .err p e→Q (.panic (Fl p e)) (ph B P2 s'++L):=fun p e s' L hh=>hErr2 p e s' L (by rw[hb3,hh])
    refine Q2 (fun st=>∃b s4,Yo 12 s3 = .ok b s4∧RH B P2 X s4 ⟨name,keep,remove,[],b,0⟩ st) ?_ ?_
    ·rintro⟨tm,hp⟩ ⟨b,s4,hr3,t0,t2,t3,hW4,hSk,hSr,_,hSb,nk,nr,ng,nb,x5,M,hh,hAk,hAr,hAg,hAb,o1,o2,o3,o4,o5⟩
     simp only at t0 t2 t3 hh hAk hAr hAg hAb o2 o3 o4 o5 hSk hSr hSb
     subst hh
     have hb0:=QdB hr3
     have hT:Ze name keep remove s3=if s4.is sBar then(Yo 12 s4.nx).bind fun b2 s=>finT name keep remove b b2 s else finT name keep remove [] b s4:=by rw[Qji,hr3];rfl
     have bBar:({data:=#[124]}:ByteArray).toList=sBar:=tl sBar
     have hi4:=ph_i HB s4
     simp only[pB]at hi4
     have hz0:gsz []=0:=rfl
     refine Q2 (fun st=>∃g b2 s5,Ze name keep remove s3=finT name keep remove g b2 s5∧RH B P2 X s5 ⟨name,keep,remove,g,b2,0⟩ st) ?_ ?_
     ·rintro⟨tm,hp⟩ ⟨g,b2,s5,hT2,t0,t2,t3,hW5,hSk,hSr,hSg,hSb2,nk,nr,ng,nb,x6,M,hh,hAk,hAr,hAg,hAb,o1,o2,o3,o4,o5⟩
      simp only at t0 t2 t3 hh hAk hAr hAg hAb o2 o3 o4 o5 hSk hSr hSg hSb2
      subst hh
      have bDot:({data:=#[46]}:ByteArray).toList=sDot:=tl sDot
      have hi5:=ph_i HB s5
      simp only[pB]at hi5
      refine Q2 (fun st=>s5.is sDot=true∧RH B P2 X s5.nx ⟨name,keep,remove,g,b2,0⟩ st) ?_ ?_
      ·rintro⟨tm,hp⟩ ⟨hdot,t0,t2,t3,hW6,hSk,hSr,hSg,hSb2,nk,nr,ng,nb,x6,M,hh,hAk,hAr,hAg,hAb,o1,o2,o3,o4,o5⟩
       simp only at t0 t2 t3 hh hAk hAr hAg hAb o2 o3 o4 o5 hSk hSr hSg hSb2
       subst hh
       have hT3:Ze name keep remove s3 = .ok ⟨name,keep,remove,g,QjW b2,0⟩ s5.nx:=by rw[hT2,finT,XO,if_pos hdot];rfl
       refine Q2 (fun st=>∃r s6,Ze name keep remove s3 = .ok r s6∧r.vars=0∧RH B P2 X s6 r st) ?_ ?_
       ·rintro⟨tm,hp⟩ ⟨⟨name2,keep2,remove2,g2,b4,vars2⟩,s6,hT4,hv0,t0,t2,t3,hW7,hSk2,hSr2,hSg2,hSb4,nk,nr,ng,nb,x7,M,hh,hAk,hAr,hAg,hAb,o1,o2,o3,o4,o5⟩
        simp only at t0 t2 t3 hh hAk hAr hAg hAb o2 o3 o4 o5 hSk2 hSr2 hSg2 hSb4 hv0
        subst hv0
        have bi:P2.i<X.length:=by rw[ei];exact Qs HP.i
        have bj:P2.j<X.length:=by rw[hP2];exact Qs HP.j
        have bij:P2.i≠P2.j:=HB.ij
        have bg:P2.g=X.length+1:=by rw[hP2];simp[Pz.to]
        have hi6:=ph_i HB s6
        refine Qbc P2.i 66 4 [.agg [.sl 3 (tks P2.all) none,.i ((P2.all.length - s6.toks.length:Nat):Int),.sl 1 (strs s6.names) (some P2.g),.mp P2.j]] [.agg [.sl 3 (tks P2.all) none,.i ((P2.all.length - s6.toks.length:Nat):Int),.sl 1 (strs s6.names) none,.mp P2.j]] 2
         (Wk.sl rfl (fun y hy=>by obtain⟨x,_,rfl⟩:=List.mem_map.1 hy;rfl) (WkL.refl _)) (by rw[hh];exact hi6 _) rfl rfl (fun x hx=>by rw[List.mem_singleton]at hx;subst hx;rfl) ?_
        have hq0:hp.length=B.length+2+M.length:=by rw[hh,List.length_append,QU];simp only[QrW];omega
        generalize hX9:hp.set P2.i _=X9 at *
        have hq:X9.length=B.length+2+M.length:=by rw[←hX9,List.length_set,hq0]
        have hXo:∀i,i≠P2.i→X9[i]? = hp[i]? := fun i h=>by rw[←hX9,List.getElem?_set_ne (Ne.symm h)]
        have hXi:X9[P2.i]? = some (pN P2 s6 none):=by rw[←hX9,List.getElem?_set_self (by omega)];rfl
        have hr0:X9[B.length]? = some (.cells 34 6 [.agg [.v (.string name2),sG av 2 nk keep2,sG av 2 nr remove2,sG gv 3 ng g2,sG gv 3 nb b4,.i 0]]):=by rw[hXo _ (by omega),hh,f3];rfl
        replace hAk:=hAk.keep (Y:=X9) fun i i1 i2=>hXo i (by omega)
        replace hAr:=hAr.keep (Y:=X9) fun i i1 i2=>hXo i (by omega)
        replace hAg:=hAg.keep (Y:=X9) fun i i1 i2=>hXo i (by omega)
        replace hAb:=hAb.keep (Y:=X9) fun i i1 i2=>hXo i (by omega)
        have hlow:∀i,i<X.length→X9[i]? = ((X.set P.i (pN P s6 none)).set P.j (kB s6))[i]? := fun i i1=>by
         have ej:P2.j=P.j:=by rw[hP2];rfl
         have ePN:pN P2 s6 none=pN P s6 none:=by rw[hP2];rfl
         rw[←ei,←ej,←ePN]
         by_cases c1:i=P2.i
         ·subst c1
          rw[hXi,List.getElem?_set_ne (Ne.symm bij),List.getElem?_set_self bi]
         ·rw[hXo i c1,hh,List.getElem?_append_left (by rw[QU];omega)]
          by_cases c2:i=P2.j
          ·subst c2
           rw[Qo9 HB,List.getElem?_set_self (by rw[List.length_set];exact bj)]
          ·rw[Zu HB c1 c2 (by omega),List.getElem?_set_ne (Ne.symm c2),List.getElem?_set_ne (Ne.symm c1),hB,List.append_assoc,List.getElem?_append_left i1]
        have hresX:X9[X.length]? = some (.cells 34 6 [.agg [.v (.string {data:=#[]}),nilV,nilV,nilV,nilV,.i 0]]):=by
         rw[hXo _ (by omega),hh,List.getElem?_append_left (by rw[QU];omega),Zu HB (by omega) (by omega) (by omega),hB,List.append_assoc,Qad];rfl
        obtain⟨q,hqq⟩:∃q,q=X9.length:=⟨_,rfl⟩
        have hrL:∀L:AH,(X9++L)[B.length]? = _:=fun L=>hext hr0 L
        iterate 2 (try (first|(((with_reducible refine Qa fun K E hK hE=>?_));simp -implicitDefEqProofs only[Qc,Qd,OpW,aop,AV.QqY,↓reduceIte,zi84,seval])|((with_reducible refine hK _ ?_);clear hK)))
        refine YD X9.length 84 2 1 (.grow 3 1 0) (.inr ⟨_,rfl⟩) [.agg [.v (.map none),.v (.slice none 0 0)]] [.agg [.v (.map none),.sl 1 [] (some (X9.length+1))]] 1 (by rw[List.getElem?_append_right (Nat.le_refl _),Nat.sub_self];rfl) rfl (by rw[List.length_append];rfl) (by simp[AV.cells]) ?_
        have hZ:((X9++[AB.cells 84 2 [.agg [.v (.map none),.v (.slice none 0 0)]]])++[AB.grow 3 1 0]).set X9.length (AB.cells 84 2 [.agg [.v (.map none),.sl 1 [] (some (X9.length+1))]])=X9++[AB.cells 84 2 [.agg [.v (.map none),.sl 1 [] (some (X9.length+1))]],AB.grow 3 1 0]:=by
         rw[List.append_assoc,List.set_append_right _ _ (Nat.le_refl _),Nat.sub_self];rfl
        have hN0:NSt (X9++[AB.cells 84 2 [.agg [.v (.map none),.sl 1 [] (some (X9.length+1))]],.grow 3 1 0]) X9.length []:=⟨.v (.map none),by rw[List.getElem?_append_right (Nat.le_refl _),Nat.sub_self];rfl,by rw[List.getElem?_append_right (by omega),Nat.add_sub_cancel_left];rfl,.inl ⟨rfl,rfl⟩⟩
        rw[hZ]
        obtain⟨Z0,hZ0⟩:∃Z0,Z0=X9++[AB.cells 84 2 [.agg [.v (.map none),.sl 1 [] (some (X9.length+1))]],AB.grow 3 1 0]:=⟨_,rfl⟩
        have hl0:X9.length+1<Z0.length:=by rw[hZ0,List.length_append];simp
        have hr1:Z0[B.length]? = some (.cells 34 6 [.agg [.v (.string name2),sG av 2 nk keep2,sG av 2 nr remove2,sG gv 3 ng g2,sG gv 3 nb b4,.i 0]]):=by rw[hZ0];exact hrL _
        have hA1:At Z0 nk (layG 54 nk keep2):=by rw[hZ0];exact hAk.app _
        have hA2:At Z0 nr (layG 54 nr remove2):=by rw[hZ0];exact hAr.app _
        have hA3:At Z0 ng (layG 54 ng g2):=by rw[hZ0];exact hAg.app _
        have hA4:At Z0 nb (layG 54 nb b4):=by rw[hZ0];exact hAb.app _
        rw[←hZ0]at hN0
        rw[←hZ0]
        have c1:=retQ (QgO keep2 hSk2.1 Z0 X9.length nk [] (by have:=hSk2.2.2;omega) (by have:=hSk2.2.1;simp only[QrX];omega) (by omega) hl0 hN0 hA1)
        have hlk:=QaT [] keep2
        have hlr:=QaT (Xp gG [] keep2).2 remove2
        have hlg:=QaT (Xp gG (Xp gG [] keep2).2 remove2).2 g2
        have hnd1:=hSk2.2.1
        have hnd2:=hSr2.2.1
        have hnd3:=hSg2.2.1
        have hnd4:=hSb4.2.1
        simp only[QrX]at hlk
        repeat (first|((first|(with_reducible (first|refine Qa fun K E hK hE=>?_|refine FunW.retE (FunW.call c1) fun Y=>?_)));simp -implicitDefEqProofs only[Qc,Qd,OpW,QB,aop,Xa,AS.ev,↓reduceIte,Qg,Qw,Qv,ti31,Qfr,Qfs,t3,hr1,seval])|((with_reducible refine hK _ ?_);clear hK))
        have hY:=Y.2
        generalize Y.1=Y1 at *
        obtain⟨_,p1,n1,a1⟩:=hY
        have l1:X9.length+1<Y1.length:=by have:=p1.long;omega
        have r1:Y1[B.length]? = some (.cells 34 6 [.agg [.v (.string name2),sG av 2 nk keep2,sG av 2 nr remove2,sG gv 3 ng g2,sG gv 3 nb b4,.i 0]]):=by rw[p1.out _ (by omega) (by omega)];exact hr1
        have b2:At Y1 nr (layG 54 nr remove2):=hA2.keep fun i i1 i2=>p1.out i (by rw[QO]at i2;omega) (by rw[QO]at i2;omega)
        have b3:At Y1 ng (layG 54 ng g2):=hA3.keep fun i i1 i2=>p1.out i (by rw[QO]at i2;omega) (by rw[QO]at i2;omega)
        have b5:At Y1 nb (layG 54 nb b4):=hA4.keep fun i i1 i2=>p1.out i (by rw[QO]at i2;omega) (by rw[QO]at i2;omega)
        have c2:=retQ (QgO remove2 hSr2.1 Y1 X9.length nr _ (by have:=hSr2.2.2;omega) (by omega) (by omega) l1 n1 b2)
        simp -implicitDefEqProofs only[Qcb,QrJ,QrK,QrL,r1]
        repeat (first|((first|(with_reducible (first|refine Qa fun K E hK hE=>?_|refine FunW.retE (FunW.call c2) fun Y=>?_)));simp -implicitDefEqProofs only[Qc,Qd,OpW,QB,aop,Xa,AS.ev,↓reduceIte,Qg,Qw,Qv,ti32,Qch,t3,seval])|((with_reducible refine hK _ ?_);clear hK))
        have hY:=Y.2
        generalize Y.1=Y2 at *
        obtain⟨_,p2,n2,a2⟩:=hY
        have l2:X9.length+1<Y2.length:=by have:=p2.long;omega
        have r2:Y2[B.length]? = some (.cells 34 6 [.agg [.v (.string name2),sG av 2 nk keep2,sG av 2 nr remove2,sG gv 3 ng g2,sG gv 3 nb b4,.i 0]]):=by rw[p2.out _ (by omega) (by omega)];exact r1
        have d1:At Y2 nk (layG 54 nk (Xp gG [] keep2).1):=a1.keep fun i i1 i2=>p2.out i (by rw[QO,Ys]at i2;omega) (by rw[QO,Ys]at i2;omega)
        have d3:At Y2 ng (layG 54 ng g2):=b3.keep fun i i1 i2=>p2.out i (by rw[QO]at i2;omega) (by rw[QO]at i2;omega)
        have d4:At Y2 nb (layG 54 nb b4):=b5.keep fun i i1 i2=>p2.out i (by rw[QO]at i2;omega) (by rw[QO]at i2;omega)
        have c3:=retQ (Qd9 g2 hSg2.1 Y2 X9.length ng _ (by have:=hSg2.2.2;omega) (by omega) (by omega) l2 n2 d3)
        simp -implicitDefEqProofs only[Qcb,QrJ,QrK,QrL,r2]
        repeat (first|((first|(with_reducible (first|refine Qa fun K E hK hE=>?_|refine FunW.retE (FunW.call c3) fun Y=>?_)));simp -implicitDefEqProofs only[Qc,Qd,OpW,QB,aop,Xa,AS.ev,↓reduceIte,Qg,Qw,Qv,ti32,Qae,t3,seval])|((with_reducible refine hK _ ?_);clear hK))
        have hY:=Y.2
        generalize Y.1=Y3 at *
        obtain⟨_,p3,n3,a3⟩:=hY
        have l3:X9.length+1<Y3.length:=by have:=p3.long;omega
        have r3:Y3[B.length]? = some (.cells 34 6 [.agg [.v (.string name2),sG av 2 nk keep2,sG av 2 nr remove2,sG gv 3 ng g2,sG gv 3 nb b4,.i 0]]):=by rw[p3.out _ (by omega) (by omega)];exact r2
        have m1:At Y3 nk (layG 54 nk (Xp gG [] keep2).1):=d1.keep fun i i1 i2=>p3.out i (by rw[QO,Ys]at i2;omega) (by rw[QO,Ys]at i2;omega)
        have m2:=a2.keep (Y:=Y3) fun i i1 i2=>p3.out i (by rw[QO,Ys]at i2;omega) (by rw[QO,Ys]at i2;omega)
        have m4:At Y3 nb (layG 54 nb b4):=d4.keep fun i i1 i2=>p3.out i (by rw[QO]at i2;omega) (by rw[QO]at i2;omega)
        have c4:=retQ (Qd9 b4 hSb4.1 Y3 X9.length nb _ (by have:=hSb4.2.2;omega) (by omega) (by omega) l3 n3 m4)
        simp -implicitDefEqProofs only[Qcb,QrJ,QrK,QrL,r3]
        repeat (first|((first|(with_reducible (first|refine Qa fun K E hK hE=>?_|refine FunW.retE (FunW.call c4) fun Y=>?_)));simp -implicitDefEqProofs only[Qc,Qd,OpW,QB,aop,undef,Xa,AS.ev,AV.QqY,↓reduceIte,Qg,Qw,Qv,Qu,Ql,aLen,goInt,ti3,Qlr,ti82,un82,Qd4,t3,seval])|((with_reducible refine hK _ ?_);clear hK))
        have hY:=Y.2
        generalize Y.1=Y4 at *
        obtain⟨_,p4,n4,a4⟩:=hY
        have hb4l:=QaT (Xp gG (Xp gG (Xp gG [] keep2).2 remove2).2 g2).2 b4
        have w1:=m1.keep (Y:=Y4) fun i i1 i2=>p4.out i (by rw[QO,Ys]at i2;omega) (by rw[QO,Ys]at i2;omega)
        have w2:=m2.keep (Y:=Y4) fun i i1 i2=>p4.out i (by rw[QO,Ys]at i2;omega) (by rw[QO,Ys]at i2;omega)
        have w3:=a3.keep (Y:=Y4) fun i i1 i2=>p4.out i (by rw[QO,Ys]at i2;omega) (by rw[QO,Ys]at i2;omega)
        have r4:Y4[B.length]? = some (.cells 34 6 [.agg [.v (.string name2),sG av 2 nk keep2,sG av 2 nr remove2,sG gv 3 ng g2,sG gv 3 nb b4,.i 0]]):=by rw[p4.out _ (by omega) (by omega)];exact r3
        have rlow:∀i,i<B.length→Y4[i]? = X9[i]? := fun i i1=>by
         rw[p4.out i (by omega) (by omega),p3.out i (by omega) (by omega),p2.out i (by omega) (by omega),p1.out i (by omega) (by omega),hZ0,List.getElem?_append_left (by omega)]
        have rX:Y4[X.length]? = some (.cells 34 6 [.agg [.v (.string {data:=#[]}),nilV,nilV,nilV,nilV,.i 0]]):=by rw[rlow _ (by omega)];exact hresX
        obtain⟨toV,z1,z2,z3⟩:=n4
        have l4:B.length+2≤Y4.length:=by have:=Qs z1;omega
        have u1:∀y,(Y4.set B.length y)[B.length]? = some y:=fun y=>List.getElem?_set_self (by omega)
        have u2:∀y,(Y4.set B.length y)[X.length]? = some (.cells 34 6 [.agg [.v (.string {data:=#[]}),nilV,nilV,nilV,nilV,.i 0]]):=fun y=>by rw[List.getElem?_set_ne (by omega)];exact rX
        have u3:∀y z,((Y4.set B.length y).set X.length z)[X.length]? = some z:=fun y z=>List.getElem?_set_self (by rw[List.length_set];omega)
        simp -implicitDefEqProofs only[Qc,↓reduceIte,r4,z1,seval]
        repeat (first|(((with_reducible refine Qa fun K E hK hE=>?_));simp -implicitDefEqProofs only[Qc,Qd,OpW,aop,undef,AS.ev,AV.QqY,↓reduceIte,Qw,Qv,Qu,Ql,ti34,t2,t3,u1,u2,QcB,seval])|(with_reducible refine Qm ?_)|((with_reducible refine hK _ ?_);clear hK))
        simp -implicitDefEqProofs only[Qc,↓reduceIte,Qw,Qv,ti34,t2,Qw,Qv,u3,QH,Qo,Qt,QrT,seval]
        have nl:=Qke ⟨name2,keep2,remove2,g2,b4,0⟩
        have hsx:∀(y z:AB) (i:Nat),i≠B.length→i≠X.length→((Y4.set B.length y).set X.length z)[i]? = Y4[i]? := fun y z i i1 i2=>by rw[List.getElem?_set_ne (Ne.symm i2),List.getElem?_set_ne (Ne.symm i1)]
        refine .inr (hQo _ s6 _ _ (by rw[Zm,hs0,hpart,hb3,hT4];rfl) ?_)
        rw[nl]
        exact⟨nk,nr,ng,nb,by simp only[Qoy Qpz,Qoy Qok],by omega,by omega,by omega,by omega,w1.keep fun i i1 i2=>hsx _ _ i (by omega) (by omega),w2.keep fun i i1 i2=>hsx _ _ i (by omega) (by omega),w3.keep fun i i1 i2=>hsx _ _ i (by omega) (by omega),a4.keep fun i i1 i2=>hsx _ _ i (by omega) (by omega),by simp only[List.length_set];omega,List.ext_getElem? fun i=>by
         by_cases i1:i<X.length
         ·rw[List.getElem?_take_of_lt i1,hsx _ _ i (by omega) (by omega),rlow i (by omega),hlow i i1]
         ·rw[List.getElem?_take_eq_none (by omega),List.getElem?_eq_none (by simp only[List.length_set];omega)]⟩
       ·have hnl:=fun t'=>Qcs Tryd.prog 32 t' 52 (by kernel_rfl)
        rcases b2 with _|⟨x,_|⟨y,l⟩⟩
        ·simp only[Qqj]
         have z0:((0:Int)==1)=false:=rfl
         repeat (first|(((with_reducible refine Qa fun K E hK hE=>?_));simp -implicitDefEqProofs only[Qc,Qd,OpW,aop,undef,AS.ev,↓reduceIte,Qg,Qw,Qv,aBin,aLen,goInt,ti32,Qae,t3,rB,f3,hnl,z0,seval])|(with_reducible (first|refine Qk ?_|refine Qb ?_))|((with_reducible refine hK _ ?_);clear hK)|(refine Qh rfl ?_;simp only[↓reduceIte,QrN]))
         exact⟨_,_,hT3,rfl,t0,t2,t3,hW6,hSk,hSr,hSg,Qc5,nk,nr,ng,nb,x6,M,rfl,hAk,hAr,hAg,At.nil _ _,o1,o2,o3,o4,o5⟩
        ·have hv:sG gv 3 nb [x] = .sl 3 [gv (nb+1) x] none:=rfl
         have e7:(gv (nb+1) x).cells=[.i x.op,.v (.string x.name),lsl (nb+1) x.args]:=rfl
         have e8:(gv (nb+1) x).isAgg=true:=rfl
         have u1:((((1:Nat):Int))==1)=true:=rfl
         have u2:(0:Int)<((1:Nat):Int):=by decide
         by_cases hx1:x.op=1
         ·have z1:(x.op==1)=true:=by simpa using hx1
          repeat (first|((first|(with_reducible (first|refine Qa fun K E hK hE=>?_|refine Qj fun K E hK hE=>?_)));simp -implicitDefEqProofs only[Qc,Qd,OpW,aop,undef,AS.ev,AV.QqY,↓reduceIte,Qg,Qw,Qv,Qu,Ql,QM,aBin,aLen,goInt,ti3,ti32,ei32,un32,Qae,YB,Qsw,t3,rB,f3,f5,hv,e7,z1,u1,u2,seval])|(with_reducible refine Qb ?_)|((with_reducible refine hK _ ?_);clear hK)|(refine Qh rfl ?_;simp only[↓reduceIte]))
          have hd:QjW [x]=[]:=by simp[QjW,hx1]
          rw[hd]at hT3
          have q1:nk+(layG 54 nk keep).length≤B.length+2+M.length:=by rw[QO];omega
          have q2:nr+(layG 54 nr remove).length≤B.length+2+M.length:=by rw[QO];omega
          have q3:ng+(layG 54 ng g).length≤B.length+2+M.length:=by rw[QO];omega
          have q5:B.length+2≤nr:=by omega
          have q6:B.length+2≤ng:=by omega
          have q7:nb+gsz []≤B.length+2+M.length:=by rw[hz0];omega
          have k1:=fun x y=>ZS (s':=s5.nx) (a':=x) (b':=y) (N:=[]) hAk o1 q1
          have k2:=fun x y=>ZS (s':=s5.nx) (a':=x) (b':=y) (N:=[]) hAr q5 q2
          have k3:=fun x y=>ZS (s':=s5.nx) (a':=x) (b':=y) (N:=[]) hAg q6 q3
          rw[List.append_nil]at k1 k2 k3
          exact⟨_,_,hT3,rfl,t0,t2,t3,hW6,hSk,hSr,hSg,Qc5,nk,nr,ng,nb,x6,M,rfl,k1 _ _,k2 _ _,k3 _ _,At.nil _ _,o1,o2,o3,o4,q7⟩
         ·have z1:(x.op==1)=false:=by simpa using hx1
          repeat (first|(((with_reducible refine Qa fun K E hK hE=>?_));simp -implicitDefEqProofs only[Qc,Qd,OpW,aop,AS.ev,↓reduceIte,Qg,Qw,Qv,QM,aBin,aLen,goInt,ti3,ti32,ei32,un32,Qae,YB,Qsw,t3,rB,f3,hv,e7,z1,u1,u2,seval])|(with_reducible (first|refine Qk ?_|refine Qb ?_))|((with_reducible refine hK _ ?_);clear hK)|(refine Qh rfl ?_;simp only[↓reduceIte,QrN]))
          have hd:QjW [x]=[x]:=by simp[QjW,hx1]
          rw[hd]at hT3
          exact⟨_,_,hT3,rfl,t0,t2,t3,hW6,hSk,hSr,hSg,hSb2,nk,nr,ng,nb,x6,M,rfl,hAk,hAr,hAg,hAb,o1,o2,o3,o4,o5⟩
        ·have hv:sG gv 3 nb (x::y::l) = .sl 3 (lvG gv nb (x::y::l)) none:=rfl
         have hvl:=Yx gv nb (x::y::l)
         have z1:(((l.length+1+1:Nat):Int)==1)=false:=beq_eq_false_iff_ne.2 (by omega)
         have u2:(0:Int)<((l.length+1+1:Nat):Int):=by omega
         repeat (first|(((with_reducible refine Qa fun K E hK hE=>?_));simp -implicitDefEqProofs only[Qc,Qd,OpW,aop,undef,AS.ev,↓reduceIte,Qg,Qw,Qv,aBin,aLen,goInt,ti32,un32,Qae,t3,rB,f3,hv,hvl,z1,seval])|(with_reducible (first|refine Qk ?_|refine Qb ?_))|((with_reducible refine hK _ ?_);clear hK)|(refine Qh rfl ?_;simp only[↓reduceIte,QrN]))
         exact⟨_,_,hT3,rfl,t0,t2,t3,hW6,hSk,hSr,hSg,hSb2,nk,nr,ng,nb,x6,M,rfl,hAk,hAr,hAg,hAb,o1,o2,o3,o4,o5⟩
      ·cases p1:s5.is sDot with
       |true =>
        have cx:=fun L=>XU hW5 HB hN L {data:=#[46]} (by rw[bDot];exact p1)
        repeat (first|((first|(with_reducible (first|refine Qj fun K E hK hE=>?_|refine FunW.QqZ (cx _) ?_)));simp -implicitDefEqProofs only[Qc,Qd,OpW,QB,aop,AS.ev,↓reduceIte,Nat.reduceLT,Qg,QJ,Qp,t0,rB,hi5])|(with_reducible refine Qb ?_)|((with_reducible refine hK _ ?_);clear hK))
        have q1:nk+(layG 54 nk keep).length≤B.length+2+M.length:=by rw[QO];omega
        have q2:nr+(layG 54 nr remove).length≤B.length+2+M.length:=by rw[QO];omega
        have q3:ng+(layG 54 ng g).length≤B.length+2+M.length:=by rw[QO];omega
        have q4:nb+(layG 54 nb b2).length≤B.length+2+M.length:=by rw[QO];omega
        have q5:B.length+2≤nr:=by omega
        have q6:B.length+2≤ng:=by omega
        have q7:B.length+2≤nb:=by omega
        have k1:=fun x y=>ZS (s':=s5.nx) (a':=x) (b':=y) (N:=[]) hAk o1 q1
        have k2:=fun x y=>ZS (s':=s5.nx) (a':=x) (b':=y) (N:=[]) hAr q5 q2
        have k3:=fun x y=>ZS (s':=s5.nx) (a':=x) (b':=y) (N:=[]) hAg q6 q3
        have k4:=fun x y=>ZS (s':=s5.nx) (a':=x) (b':=y) (N:=[]) hAb q7 q4
        rw[List.append_nil]at k1 k2 k3 k4
        exact⟨rfl,t0,t2,t3,hW5.nx,hSk,hSr,hSg,hSb2,nk,nr,ng,nb,x6,M,rfl,k1 _ _,k2 _ _,k3 _ _,k4 _ _,o1,o2,o3,o4,o5⟩
       |false =>
        have cx:=fun L=>Yj hW5 HB hN L {data:=#[46]} (by rw[bDot];exact p1)
        repeat (first|((first|(with_reducible (first|refine Qj fun K E hK hE=>?_|refine FunW.pan (FunW.call (cx _)) ?_)));simp -implicitDefEqProofs only[Qc,Qd,OpW,QB,aop,AS.ev,↓reduceIte,Nat.reduceLT,Qg,QJ,Qp,t0,rB,hi5])|(with_reducible (first|refine hE _ _ ?_|refine QN ?_)))
        exact .inr (hErr3 _ _ _ _ (by rw[hT2,finT,XO,if_neg (by rw[p1];decide)];rfl))
     ·cases p1:s4.is sBar with
      |false =>
       rw[p1]at hT
       have cs:=fun L=>ZZ hW4 HB hN L {data:=#[124]} (by rw[bBar];exact p1)
       repeat (first|((first|(with_reducible (first|refine Qa fun K E hK hE=>?_|refine FunW.QqZ (cs _) ?_)));simp -implicitDefEqProofs only[Qc,Qd,OpW,QB,aop,AS.ev,↓reduceIte,Nat.reduceLT,Qg,QJ,Qp,t0,rB,hi4])|(with_reducible (first|refine Qk ?_|refine Qb ?_))|((with_reducible refine hK _ ?_);clear hK)|(refine Qh rfl ?_;simp only[↓reduceIte,QrN]))
       exact⟨[],b,s4,by rw[hT];rfl,t0,t2,t3,hW4,hSk,hSr,Qc5,hSb,nk,nr,ng,nb,x5,M,rfl,hAk,hAr,hAg,hAb,o1,o2,o3,o4,o5⟩
      |true =>
       rw[p1]at hT
       have cs:=fun L=>Zw hW4 HB hN L {data:=#[124]} (by rw[bBar];exact p1)
       have hi5:=ph_i HB s4.nx
       simp only[pB]at hi5
       cases hr4:Yo 12 s4.nx with
       |err p e =>
        have cg:=fun L=>Qfy hW4.nx HB hN hD L (most:=12) (by omega) hr4
        simp only[show((12:Nat):Int)=12 from rfl]at cg
        repeat (first|((first|(with_reducible (first|refine Qa fun K E hK hE=>?_|refine FunW.QqZ (cs _) ?_)));simp -implicitDefEqProofs only[Qc,Qd,OpW,QB,aop,AS.ev,↓reduceIte,Nat.reduceLT,Qg,QJ,Qp,t0,rB,hi4])|((with_reducible refine hK _ ?_);clear hK)|(refine Qh rfl ?_;simp only[↓reduceIte]))
        refine Xd 3 [(0,0),(1,0),(2,0),(4,0)] mixed rfl rfl rfl (by kernel_rfl) (fun v h'=>v=Fl p e∧∃s' L,h'=ph B P2 s'++L) ?_ ?_
        ·rintro tm v h' ⟨rfl,s',L,rfl⟩
         exact .inr (hErr3 _ _ _ _ (by rw[hT];show(Yo 12 s4.nx).bind _=_;rw[hr4];rfl))
        ·simp -implicitDefEqProofs only[Qc,Qd,aop,AS.ev,↓reduceIte,Qg,Qw,Qv,ti32,Qch,Qae,t0,t3,f3,seval]
         exact fun _=>(FunW.call (cg _)).mono (by rintro _ _ ⟨rfl,x,rfl⟩;exact⟨_,rfl,rfl,_,_,rfl⟩)
       |ok b2 s5 =>
        have hW5:Wst P2.all s5:=Kp.Ps.ok (n:=wdOf P2.all) (Kp.goals_ps trivial 12) hW4.nx hr4
        have cg:=fun c d=>Qhb hW4.nx HB hN hD (c::d::M) (most:=12) (by omega) hr4 (k:=B.length+2+M.length) (by simp only[QrW];omega)
        simp only[show((12:Nat):Int)=12 from rfl,Qsb]at cg
        repeat (first|((first|(with_reducible (first|refine Qa fun K E hK hE=>?_|refine FunW.QqZ (cs _) ?_)));simp -implicitDefEqProofs only[Qc,Qd,OpW,QB,aop,AS.ev,↓reduceIte,Nat.reduceLT,Qg,QJ,Qp,t0,rB,hi4])|((with_reducible refine hK _ ?_);clear hK)|(refine Qh rfl ?_;simp only[↓reduceIte]))
        have q1:nk+(layG 54 nk keep).length≤B.length+2+M.length:=by rw[QO];omega
        have q2:nr+(layG 54 nr remove).length≤B.length+2+M.length:=by rw[QO];omega
        have q3:nb+(layG 54 nb b).length≤B.length+2+M.length:=by rw[QO];omega
        have q4:B.length+2+M.length+gsz b2≤B.length+2+(M++layG 54 (B.length+2+M.length) b2).length:=by rw[List.length_append,QO];omega
        have hb20:=QdB hr4
        have q5:B.length+2≤nr:=by omega
        have q6:B.length+2≤nb:=by omega
        have q7:nr+gsz remove≤nb:=by omega
        have q8:nb+gsz b≤B.length+2+M.length:=o5
        have hAb2:∀(x y:AB),At (ph B P2 s5++(x::y::(M++layG 54 (B.length+2+M.length) b2))) (B.length+2+M.length) (layG 54 (B.length+2+M.length) b2):=fun x y=>by
         have:=At.base (At.mid (x::y::M) (layG 54 (B.length+2+M.length) b2) [] (n:=2+M.length) (by simp only[QrW];omega)) (QU B P2 s5)
         rw[show B.length+(2+M.length)=B.length+2+M.length by omega,List.append_nil]at this
         exact this
        have fin:∀tm':Nat→AV,tm' 0 = .ptr P2.i 0 0→tm' 2 = .ptr X.length 0 0→tm' 3 = .ptr B.length 0 0→∃g b6 s6,Ze name keep remove s3=finT name keep remove g b6 s6∧RH B P2 X s6 ⟨name,keep,remove,g,b6,0⟩ ⟨tm',ph B P2 s5++(AB.cells 34 6 [.agg [.v (.string name),sG av 2 nk keep,sG av 2 nr remove,sG gv 3 nb b,.sl 3 (lvG gv (B.length+2+M.length) b2) none,.i 0]]::x5::(M++layG 54 (B.length+2+M.length) b2))⟩:=fun tm' k0 k2 k3 =>
         ⟨b,b2,s5,by rw[hT];show(Yo 12 s4.nx).bind _=_;rw[hr4];rfl,k0,k2,k3,hW5,hSk,hSr,hSb,QhJ (Nat.le_refl _) hr4,nk,nr,nb,B.length+2+M.length,x5,M++layG 54 (B.length+2+M.length) b2,
          by rw[Qe6 gv 3 _ hb20];rfl,ZS hAk o1 q1,ZS hAr q5 q2,ZS hAb q6 q3,hAb2 _ _,o1,o2,q7,q8,q4⟩
        refine QcN (.node [(2,0)] 3 0 (.leaf [(3,2),(0,0),(1,0),(4,0),(5,2),(6,0),(7,2)]) (.node [(0,0)] 3 1 (.leaf [(3,2),(1,0),(4,0),(5,2),(6,0),(7,2)]) (.node [(1,0)] 3 4 (.leaf [(3,2),(4,0),(5,2),(6,0),(7,2)]) (.leaf [(4,0),(3,2),(5,2),(6,0),(7,2)])))) mixed (by kernel_rfl) (fun K2 hK2=>?_)
        simp only[OT.walk]
        simp -implicitDefEqProofs only[Qc,Qd,aop,AS.ev,↓reduceIte,Qg,Qw,Qv,ti32,Qch,Qae,t0,t3,f3,seval]
        refine⟨?_,?_,?_,?_⟩
        ·refine XT (FunW.call (cg _ _)) Zz ?_
         simp -implicitDefEqProofs only[Qc,Qd,aop,undef,AS.ev,AV.QqY,↓reduceIte,Qg,Qw,Qv,Qu,Ql,ti32,Qch,Qae,t3,f3,f5,QdK,QdL,QcB,seval]
         refine hK2 _ (fin _ ?_ ?_ ?_) <;> assumption
        ·refine XT (FunW.call (cg _ _)) Zz ?_
         simp -implicitDefEqProofs only[Qc,Qd,aop,undef,AS.ev,AV.QqY,↓reduceIte,Qg,Qw,Qv,Qu,Ql,ti32,Qch,Qae,t3,f3,f5,QdK,QdL,QcB,seval]
         refine hK2 _ (fin _ ?_ ?_ ?_) <;> assumption
        ·refine XT (FunW.call (cg _ _)) Zz ?_
         simp -implicitDefEqProofs only[Qc,Qd,aop,undef,AS.ev,AV.QqY,↓reduceIte,Qg,Qu,Ql,ti32,Qch,Qae,t3,f3,f5,QdK,QdL,QcB,seval]
         refine hK2 _ (fin _ ?_ ?_ ?_) <;> assumption
        ·refine XT (FunW.call (cg _ _)) Zz ?_
         simp -implicitDefEqProofs only[Qc,Qd,aop,undef,AS.ev,AV.QqY,↓reduceIte,Qg,Qu,Ql,ti32,Qae,t3,f3,f5,QdK,QdL,QcB,seval]
         refine hK2 _ (fin _ ?_ ?_ ?_) <;> assumption
    ·cases hr3:Yo 12 s3 with
     |err p e =>
      have cg:=fun L=>Qfy hW3 HB hN hD L (most:=12) (by omega) hr3
      simp only[show((12:Nat):Int)=12 from rfl]at cg
      repeat (first|((first|(with_reducible (first|refine Qj fun K E hK hE=>?_|refine FunW.panE (FunW.call (cg _)) fun r=>?_)));simp -implicitDefEqProofs only[Qc,Qd,OpW,QB,aop,AS.ev,↓reduceIte,Nat.reduceLT,t0,rB])|(with_reducible (first|refine hE _ _ ?_|refine QN ?_)))
      exact .inr (hErr3 _ _ _ _ (by rw[Qji,hr3];rfl))
     |ok b s4 =>
      obtain⟨hSb,hb0⟩:SmG b∧b≠[]:=⟨QhJ (Nat.le_refl _) hr3,QdB hr3⟩
      have hW4:Wst P2.all s4:=Kp.Ps.ok (n:=wdOf P2.all) (Kp.goals_ps trivial 12) hW3 hr3
      have cg:=fun c d=>Qhb hW3 HB hN hD (c::d::M) (most:=12) (by omega) hr3 (k:=B.length+2+M.length) (by simp only[QrW];omega)
      simp only[show((12:Nat):Int)=12 from rfl,Qsb]at cg
      repeat (first|((first|(with_reducible (first|refine Qj fun K E hK hE=>?_|refine FunW.QqZ (cg _ _) ?_)));simp -implicitDefEqProofs only[Qc,Qd,OpW,QB,aop,undef,AS.ev,AV.QqY,↓reduceIte,Qg,Qu,Ql,ti32,Qae,t0,t3,rB,f3,f5,seval])|(with_reducible refine Qb ?_)|((with_reducible refine hK _ ?_);clear hK))
      have hAb:∀(x y:AB),At (ph B P2 s4++(x::y::(M++layG 54 (B.length+2+M.length) b))) (B.length+2+M.length) (layG 54 (B.length+2+M.length) b):=fun x y=>by
       have:=At.base (At.mid (x::y::M) (layG 54 (B.length+2+M.length) b) [] (n:=2+M.length) (by simp only[QrW];omega)) (QU B P2 s4)
       rw[show B.length+(2+M.length)=B.length+2+M.length by omega,List.append_nil]at this
       exact this
      have q1:nk+(layG 54 nk keep).length≤B.length+2+M.length:=by rw[QO];omega
      have q2:nr+(layG 54 nr remove).length≤B.length+2+M.length:=by rw[QO];omega
      have q3:B.length+2+M.length+gsz b≤B.length+2+(M++layG 54 (B.length+2+M.length) b).length:=by rw[List.length_append,QO];omega
      refine⟨b,s4,rfl,t0,t2,t3,hW4,hSk,hSr,Qc5,hSb,nk,nr,B.length+2+M.length,B.length+2+M.length,x5,M++layG 54 (B.length+2+M.length) b,?_,ZS hAk o1 q1,ZS hAr (by omega) q2,At.nil _ _,hAb _ _,o1,o2,o3,Nat.le_refl _,q3⟩
      show _=ph B P2 s4++(rB name _ _ _ (sG gv 3 _ b)::_)
      rw[Qe6 gv 3 _ hb0];rfl
   ·cases p1:s2.is Qe7 with
    |true =>
     have p3:s2.is QaH=false:=Qon p1 (by decide)
     rw[p3,p1]at hB1
     have cs:=fun L=>Zw hW2 HB hN L {data:=#[61,61,62]} (by rw[bProp];exact p1)
     have hi3:=ph_i HB s2.nx
     simp only[pB]at hi3
     repeat (first|((first|(with_reducible (first|refine Qa fun K E hK hE=>?_|refine Qj fun K E hK hE=>?_|refine FunW.QqZ (cs _) ?_)));simp -implicitDefEqProofs only[Qc,Qd,OpW,QB,aop,undef,AS.ev,AV.QqY,↓reduceIte,Qg,Qu,Ql,ti31,Qfr,QJ,Qp,t0,t3,t5,rB,f3,f5,hi2,seval])|(with_reducible (first|refine Qi ?_|refine Qb ?_|refine Qn ?_))|((with_reducible refine hK _ ?_);clear hK)|(refine Qh rfl ?_;simp only[↓reduceIte]))
     exact⟨l,[],s2.nx,B.length+2,B.length+2+gsz l,x4,layG 54 (B.length+2) l,by rw[hB1];rfl,hW2.nx,hS1,Qc5,t0,t2,t3,by rw[hsl];rfl,by have:=hAl (rB name (.sl 2 (lvG av (B.length+2) l) none) nilV nilV nilV) x4 [] s2.nx;rw[List.append_nil]at this;exact this,At.nil _ _,Nat.le_refl _,Nat.le_refl _,by rw[QO];exact Nat.le_refl _⟩
    |false =>
     have cs:=fun L=>ZZ hW2 HB hN L {data:=#[61,61,62]} (by rw[bProp];exact p1)
     cases p2:s2.is Qe5 with
     |true =>
      have p3:s2.is QaH=false:=Qon p2 (by decide)
      rw[p3,p1,p2]at hB1
      have cs2:=fun L=>Zw hW2 HB hN L {data:=#[92]} (by rw[bBack];exact p2)
      have hi3:=ph_i HB s2.nx
      simp only[pB]at hi3
      cases hr2:Yp l.length s2.nx with
      |err p e =>
       have ch:=fun L=>QfB hW2.nx HB hN hD L (by omega) hr2
       repeat (first|((first|(with_reducible (first|refine Qa fun K E hK hE=>?_|refine FunW.QqZ (cs _) ?_|refine FunW.QqZ (cs2 _) ?_|refine FunW.panE (FunW.call (ch _)) fun r=>?_)));simp -implicitDefEqProofs only[Qc,Qd,OpW,QB,aop,AS.ev,↓reduceIte,Qg,aLen,goInt,un31,QJ,Qp,t0,t5,rB,hi2,hlvl,seval])|(with_reducible refine Qi ?_)|((with_reducible refine hK _ ?_);clear hK)|(refine Qh rfl ?_;simp only[↓reduceIte,QrN])|(with_reducible (first|refine hE _ _ ?_|refine QN ?_|refine Xb ?_)))
       exact .inr (hErr2 _ _ _ _ (by rw[hB1];show(Yp l.length s2.nx).bind _=_;rw[hr2];rfl))
      |ok rem s4 =>
       have ch:=fun c d=>Qhe hW2.nx HB hN hD (c::d::layG 54 (B.length+2) l) (by omega) hr2 (k:=B.length+2+gsz l) (by rw[List.length_cons,List.length_cons,QO];omega)
       simp only[Qsb]at ch
       have hW4:Wst P2.all s4:=Kp.Ps.ok (n:=wdOf P2.all) (Kp.heads_ps trivial l.length) hW2.nx hr2
       have hi4:=ph_i HB s4
       simp only[pB]at hi4
       cases p5:s4.is QaH with
       |true =>
        have cx:=fun L=>XU hW4 HB hN L {data:=#[60,61,62]} (by rw[bSimp];exact p5)
        repeat (first|((first|(with_reducible (first|refine Qa fun K E hK hE=>?_|refine Qj fun K E hK hE=>?_|refine FunW.QqZ (cs _) ?_|refine FunW.QqZ (cs2 _) ?_|refine FunW.QqZ (ch _ _) ?_|refine FunW.QqZ (cx _) ?_)));simp -implicitDefEqProofs only[Qc,Qd,OpW,QB,aop,undef,AS.ev,AV.QqY,↓reduceIte,Qg,Qu,Ql,aLen,goInt,ti31,un31,Qfr,Qfs,QJ,Qp,t0,t3,t5,rB,f3,f5,hi2,hi4,hlvl,seval])|(with_reducible (first|refine Qi ?_|refine Qb ?_|refine Qn ?_))|((with_reducible refine hK _ ?_);clear hK)|(refine Qh rfl ?_;simp only[↓reduceIte,QrN]))
        obtain⟨hS2,hm4,hm0⟩:=QhK hr2
        have hsl2:=Qe6 av 2 (B.length+2+gsz l) (l:=rem) (by rintro rfl;simp at hm0)
        refine⟨l,rem,s4.nx,B.length+2,B.length+2+gsz l,x4,layG 54 (B.length+2) l++layG 54 (B.length+2+gsz l) rem,?_,hW4.nx,hS1,hS2,t0,t2,t3,by rw[hsl,hsl2];rfl,hAl (rB name (.sl 2 (lvG av (B.length+2) l) none) (.sl 2 (lvG av (B.length+2+gsz l) rem) none) nilV nilV) x4 _ s4.nx,?_,Nat.le_refl _,Nat.le_refl _,by rw[List.length_append,QO,QO];omega⟩
        ·rw[hB1];show(Yp l.length s2.nx).bind _=_;rw[hr2];show(XO QaH s4).bind _=_;rw[XO,if_pos p5];rfl
        ·have:=At.base (At.mid (rB name (.sl 2 (lvG av (B.length+2) l) none) (.sl 2 (lvG av (B.length+2+gsz l) rem) none) nilV nilV::x4::layG 54 (B.length+2) l) (layG 54 (B.length+2+gsz l) rem) [] (n:=2+gsz l) (by rw[List.length_cons,List.length_cons,QO];omega)) (QU B P2 s4.nx)
         rw[show B.length+(2+gsz l)=B.length+2+gsz l by omega,List.append_nil]at this
         exact this
       |false =>
        have cx:=fun L=>Yj hW4 HB hN L {data:=#[60,61,62]} (by rw[bSimp];exact p5)
        repeat (first|((first|(with_reducible (first|refine Qa fun K E hK hE=>?_|refine Qj fun K E hK hE=>?_|refine FunW.QqZ (cs _) ?_|refine FunW.QqZ (cs2 _) ?_|refine FunW.QqZ (ch _ _) ?_|refine FunW.pan (FunW.call (cx _)) ?_)));simp -implicitDefEqProofs only[Qc,Qd,OpW,QB,aop,undef,AS.ev,AV.QqY,↓reduceIte,Qg,Qu,Ql,aLen,goInt,ti31,un31,Qfr,Qfs,QJ,Qp,t0,t3,t5,rB,f3,f5,hi2,hi4,hlvl,seval])|(with_reducible refine Qi ?_)|((with_reducible refine hK _ ?_);clear hK)|(refine Qh rfl ?_;simp only[↓reduceIte,QrN])|(with_reducible (first|refine hE _ _ ?_|refine QN ?_|refine Xb ?_)))
        exact .inr (hErr2 _ _ _ _ (by rw[hB1];show(Yp l.length s2.nx).bind _=_;rw[hr2];show(XO QaH s4).bind _=_;rw[XO,if_neg (by rw[p5];decide)];rfl))
     |false =>
      have cs2:=fun L=>ZZ hW2 HB hN L {data:=#[92]} (by rw[bBack];exact p2)
      rw[p1,p2]at hB1
      cases p3:s2.is QaH with
      |true =>
       rw[p3]at hB1
       have cx:=fun L=>XU hW2 HB hN L {data:=#[60,61,62]} (by rw[bSimp];exact p3)
       have hi3:=ph_i HB s2.nx
       simp only[pB]at hi3
       repeat (first|((first|(with_reducible (first|refine Qa fun K E hK hE=>?_|refine Qj fun K E hK hE=>?_|refine FunW.QqZ (cs _) ?_|refine FunW.QqZ (cs2 _) ?_|refine FunW.QqZ (cx _) ?_)));simp -implicitDefEqProofs only[Qc,Qd,OpW,QB,aop,undef,AS.ev,AV.QqY,↓reduceIte,Qg,Qu,Ql,ti31,Qfs,QJ,Qp,t0,t3,t5,rB,f3,f5,hi2,seval])|(with_reducible (first|refine Qi ?_|refine Qb ?_|refine Qn ?_))|((with_reducible refine hK _ ?_);clear hK)|(refine Qh rfl ?_;simp only[↓reduceIte,QrN]))
       exact⟨[],l,s2.nx,B.length+2,B.length+2,x4,layG 54 (B.length+2) l,by rw[hB1];rfl,hW2.nx,Qc5,hS1,t0,t2,t3,by rw[hsl];rfl,At.nil _ _,by have:=hAl (rB name nilV (.sl 2 (lvG av (B.length+2) l) none) nilV nilV) x4 [] s2.nx;rw[List.append_nil]at this;exact this,Nat.le_refl _,Nat.le_refl _,by rw[QO];exact Nat.le_refl _⟩
      |false =>
       rw[p3]at hB1
       have cx:=fun L=>Yj hW2 HB hN L {data:=#[60,61,62]} (by rw[bSimp];exact p3)
       repeat (first|((first|(with_reducible (first|refine Qa fun K E hK hE=>?_|refine FunW.QqZ (cs _) ?_|refine FunW.QqZ (cs2 _) ?_|refine FunW.pan (FunW.call (cx _)) ?_)));simp -implicitDefEqProofs only[Qc,Qd,OpW,QB,aop,AS.ev,↓reduceIte,Qg,QJ,Qp,t0,rB,hi2,seval])|(with_reducible refine Qi ?_)|((with_reducible refine hK _ ?_);clear hK)|(refine Qh rfl ?_;simp only[↓reduceIte,QrN])|(with_reducible (first|refine hE _ _ ?_|refine QN ?_|refine Xb ?_)))
       exact .inr (hErr2 _ _ _ _ (by rw[hB1];rfl))
  ·cases hr:Yp 0 s1 with
   |err p e =>
    have ch:=fun L=>QfB hW1 HB hN hD L (by omega) hr
    repeat (first|((first|(with_reducible (first|refine Qj fun K E hK hE=>?_|refine FunW.panE (FunW.call (ch _)) fun r=>?_)));simp -implicitDefEqProofs only[Qc,Qd,OpW,QB,aop,AS.ev,↓reduceIte,Nat.reduceLT,t0])|(with_reducible (first|refine hE _ _ ?_|refine QN ?_)))
    exact .inr (hErr2 _ _ _ _ (by rw[bodyT,hr];rfl))
   |ok l s2 =>
    have ch:=fun c=>Qhe hW1 HB hN hD [rB name nilV nilV nilV nilV,c] (by omega) hr (k:=B.length+2) rfl
    simp only[Qsb,Qsa]at ch
    repeat (first|((first|(with_reducible (first|refine Qj fun K E hK hE=>?_|refine FunW.QqZ (ch _) ?_)));simp -implicitDefEqProofs only[Qc,Qd,OpW,QB,aop,AS.ev,↓reduceIte,Nat.reduceLT,t0])|(with_reducible refine Qb ?_)|((with_reducible refine hK _ ?_);clear hK))
    exact⟨t0,t2,t3,l,s2,rfl,rfl,rfl⟩
 ·iterate 3 (try (first|((first|(with_reducible (first|refine Qa fun K E hK hE=>?_|refine FunW.QqZ (ca _) ?_)));simp -implicitDefEqProofs only[Qc,Qd,OpW,QB,aop,undef,AS.ev,Qr,AV.QqY,↓reduceIte,Qg,Qu,Ql,ti60,zi60,QJ,Qp,hi,f1,f4,f6,e3,e4,seval])|((with_reducible refine hK _ ?_);clear hK)))
  refine Q2 (fun st=>st.tm 0 = .ptr P2.i 0 0∧st.tm 2 = .ptr X.length 0 0∧st.tm 3 = .ptr B.length 0 0∧st.tm 28 = .b (s0.tk.kind==1&&s0.nx.is sAt)∧∃x4,st.h=ph B P2 s0++[rB {data:=#[]} nilV nilV nilV nilV,x4]) ?_ ?_
  ·rintro⟨tm,hp⟩ ⟨t0,t2,t3,t28,x4,rfl⟩
   simp only at t0 t2 t3 t28
   cases hc:(s0.tk.kind==1&&s0.nx.is sAt)with
   |false =>
    rw[hc]at t28
    have hpart:YQ s0=bodyT eB s0:=by
     rw[QfK,if_neg]
     rintro⟨h1,h2⟩
     rw[h1,h2]at hc
     exact absurd hc (by decide)
    refine Qh (t:=false) t28 ?_
    simp only[QrN,if_false]
    repeat (first|(with_reducible (first|refine Qk ?_|refine Qb ?_)))
    exact⟨_,s0,hpart,hW,t0,t2,t3,_,rfl⟩
   |true =>
    rw[hc]at t28
    simp only[Bool.and_eq_true,beq_iff_eq]at hc
    have hpart:YQ s0=(ZD s0).bind fun x s=>bodyT x s.nx:=by rw[QfK,if_pos hc]
    cases hn:ZD s0 with
    |err p e =>
     have cm:=fun L=>Qgn hW HB hN L hn
     refine Qh (t:=true) t28 ?_
     simp only[if_true]
     repeat (first|((first|(with_reducible (first|refine Qa fun K E hK hE=>?_|refine FunW.panE (FunW.call (cm _)) fun r=>?_)));simp -implicitDefEqProofs only[Qc,Qd,OpW,QB,aop,AS.ev,↓reduceIte,Nat.reduceLT,Qg,QJ,Qp,t0,rB,hi])|(with_reducible (first|refine hE _ _ ?_|refine QN ?_)))
     exact .inr (hErr _ _ _ _ (by rw[hpart,hn];rfl))
    |ok x s1 =>
     have cm:=fun L=>Qil hW HB hN L hn
     have hi1:=ph_i HB s1
     simp only[pB]at hi1
     have hs1:s1=s0.nx:=by
      unfold ZD at hn
      split at hn
      ·cases hn
      ·split at hn
       ·cases hn
       ·cases hn;rfl
     subst hs1
     have cx:=fun L=>XU hW.nx HB hN L {data:=#[64]} (by rw[show({data:=#[64]}:ByteArray).toList=sAt from tl sAt];exact hc.2)
     refine Qh (t:=true) t28 ?_
     simp only[if_true]
     repeat (first|((first|(with_reducible (first|refine Qa fun K E hK hE=>?_|refine Qj fun K E hK hE=>?_|refine FunW.QqZ (cm _) ?_|refine FunW.QqZ (cx _) ?_)));simp -implicitDefEqProofs only[Qc,Qd,OpW,QB,aop,undef,AS.ev,AV.QqY,↓reduceIte,Qg,Qu,Ql,ti9,Qlq,QJ,Qp,t0,t3,rB,f3,f5,hi,hi1,seval])|(with_reducible refine Qb ?_)|((with_reducible refine hK _ ?_);clear hK))
     exact⟨x,s0.nx.nx,by rw[hpart,hn];rfl,hW.nx.nx,t0,t2,t3,_,rfl⟩
  ·by_cases k1:s0.tk.kind=1
   ·have z1:(s0.tk.kind==1)=true:=by simpa using k1
    by_cases k2:s0.nx.tk.kind=4
    ·have z2:(s0.nx.tk.kind==4)=true:=by simpa using k2
     repeat (first|((first|(with_reducible (first|refine Qj fun K E hK hE=>?_|refine FunW.QqZ (cn _) ?_)));simp -implicitDefEqProofs only[Qc,Qd,OpW,QB,aop,undef,AS.ev,Qr,↓reduceIte,Qg,Qw,Qv,aBin,Zq,ti3,ti9,QK,QQ,QJ,Qp,hi,f4,e1,e2,e3,z1,z2,seval])|(with_reducible refine Qb ?_)|((with_reducible refine hK _ ?_);clear hK))
     exact⟨rfl,rfl,rfl,by rw[hAt,z1,z2,←tl sAt];rfl,_,rfl⟩
    ·have z2:(s0.nx.tk.kind==4)=false:=by simpa using k2
     repeat (first|((first|(with_reducible (first|refine Qj fun K E hK hE=>?_|refine FunW.QqZ (cn _) ?_)));simp -implicitDefEqProofs only[Qc,Qd,OpW,QB,aop,undef,AS.ev,Qr,↓reduceIte,Qg,Qw,Qv,aBin,Zq,ti3,QK,QJ,Qp,hi,f4,e1,e2,e3,z1,z2,seval])|(with_reducible refine Qb ?_)|((with_reducible refine hK _ ?_);clear hK))
     exact⟨rfl,rfl,rfl,by rw[hAt,z1,z2];rfl,_,rfl⟩
   ·have z1:(s0.tk.kind==1)=false:=by simpa using k1
    repeat (first|((first|(with_reducible (first|refine Qj fun K E hK hE=>?_|refine FunW.QqZ (cn _) ?_)));simp -implicitDefEqProofs only[Qc,Qd,OpW,QB,aop,undef,AS.ev,Qr,↓reduceIte,Qg,Qv,aBin,Zq,ti3,QK,QJ,Qp,hi,e1,e2,z1,seval])|(with_reducible refine Qb ?_)|((with_reducible refine hK _ ?_);clear hK))
    exact⟨rfl,rfl,rfl,by rw[z1,Bool.false_and];rfl,_,rfl⟩
theorem Qmy:QL Tryd.prog 20 [.ptr P.i 0 0] X (RuQ X P (Zm s)):=by
 refine QjN (Q0:=fun o h'=>(∃p e,Zm s = .err p e∧ErrY X P h'∧o = .panic (Fl p e))∨∃r s6,Zm s = .ok r s6∧RuR X P r s6 o h') (Qn0 HP hW hN hD _ (fun p e h' h k=>.inl ⟨p,e,h,k,rfl⟩) fun r s6 o h' h k=>.inr ⟨r,s6,h,k⟩) fun hbel o h' h=>?_
 rcases h with⟨p,e,h,hy,rfl⟩|⟨r,s6,h,nk,nr,ng,nb,rfl,e1,e2,e3,e4,a1,a2,a3,a4,hl,ht⟩
 ·rw[h];exact .inl ⟨rfl,⟨h',hy⟩,rfl⟩
 ·rw[h]
  refine .inr ⟨_,r.av,rfl,hl,fun b hb=>?_,?_,rfl,ht⟩
  ·rw[ht]at hb
   obtain⟨k,hk⟩:=List.mem_iff_getElem?.1 hb
   have hj:=Qs HP.j
   have hi:=Qs HP.i
   by_cases c1:k=P.j
   ·subst c1
    rw[List.getElem?_set_self (by rw[List.length_set];exact hj)]at hk
    cases hk
    exact Qi7 (HP.ok [] .dead) s6 _
   ·rw[List.getElem?_set_ne (Ne.symm c1)]at hk
    by_cases c2:k=P.i
    ·subst c2
     rw[List.getElem?_set_self hi]at hk
     cases hk
     intro a ha
     simp only[flat,List.flatMap_cons,List.flatMap_nil,Qsc,AV.cells,List.mem_cons,List.not_mem_nil,or_false]at ha
     rcases ha with rfl|rfl|rfl|rfl
     ·exact .sl 3 _ none (QbB _ _) (fun b hb=>by cases hb)
     ·exact .v _
     ·exact .sl 1 _ _ (Qbq _ _) (fun b hb=>by cases hb)
     ·exact .mp _ hj
    ·rw[List.getElem?_set_ne (Ne.symm c2)]at hk
     exact hbel k b hk
  ·refine .agg rfl fun j a a' h1 h2=>?_
   match j,h1,h2 with
   |0,h1,h2=>cases h1;cases h2;exact .keep (.v _)
   |1,h1,h2=>cases h1;cases h2;exact QlV _ e1 a1
   |2,h1,h2=>cases h1;cases h2;exact QlV _ e2 a2
   |3,h1,h2=>cases h1;cases h2;exact QlW _ e3 a3
   |4,h1,h2=>cases h1;cases h2;exact QlW _ e4 a4
   |5,h1,h2=>cases h1;cases h2;exact .keep (.v _)
   |j+6,h1,h2=>simp at h1
end
end Go.Proofs.YticgcpebdldbgaaDoor.Ab
set_option maxRecDepth 4000
namespace Go.Proofs.YticgcpebdldbgaaDoor.Ab
open Go.Proofs
def DcQ(h:AH)(P:Pz):PR (List Dc)→AOut→AH→Prop
 | .ok l s,o,h'=>o = .ret (.sl 2 (vs Dc.av l) none)∧h'=ph h P s
 | .err p e,o,h'=>o = .panic (Fl p e)∧∃s,h'=ph h P s
theorem Qln(n:Nat)(l:List Dc):∀a∈flat (vs Dc.av l),Below n a:=QmV Dc.av n (fun d=>Dc.bel n d) l
section
variable{P:Pz}{s:PS}(hW:Wst P.all s){h:AH}(H:P.ok h)(hN:P.all.length≤1000000)(hD:TkOk P.all)
include hW H hN hD
theorem QjU:QL Tryd.prog 17 [.ptr P.i 0 0] (ph h P s) (DcQ h P (Y5 (s.toks.length+1) [] s)):=by
 have f1:=QU h P
 have f3:=XB h P
 have f4:=Yf h P
 have f5:=Xk h P
 have f6:=XL h P
 have hi0:=X6 H s
 have hi:=ph_i H s
 simp only[pB]at hi hi0
 have cn0:=fun L=>nextL hW (X6 H s) L
 have g1:=Tk.Qq0 s.tk
 have g2:=Tk.Qq1 s.tk
 have bSl:({data:=#[47]}:ByteArray).toList=QeE:=tl QeE
 have bCo:({data:=#[44]}:ByteArray).toList=Y6:=tl Y6
 have bDo:({data:=#[46]}:ByteArray).toList=sDot:=tl sDot
 generalize hR:Y5 (s.toks.length+1) [] s=R
 refine Qe Tryd.func17 rfl Tryd.call17 Tryd.ntmps17 Tryd.results17 (by simp) ?_
 iterate 4 (try (first|(((with_reducible refine Qa fun K E hK hE=>?_));simp -implicitDefEqProofs only[XN,Y0,Qd,OpW,aop,AS.ev,Xw,Qcq,Nat.reduceLT])|((with_reducible refine hK _ ?_);clear hK)))
 refine ZC 3 78 2 rfl ?_
 repeat (first|((first|(with_reducible (first|refine Qa fun K E hK hE=>?_|refine FunW.QqZ (cn0 _) ?_)));simp -implicitDefEqProofs only[Qc,Qd,OpW,QB,aop,undef,AS.ev,Qr,AV.QqY,↓reduceIte,Qg,Qu,Ql,ti60,zi60,QJ,Qp,f1,f4,f6,hi,g1,g2,seval])|(with_reducible (first|refine Qf fun K hK=>?_|refine Qi ?_))|((with_reducible refine hK _ ?_);clear hK))
 obtain⟨I,hI⟩:∃I:Nat→AS→Prop,I=fun m' s=>∃(l:List Dc) (s2:PS) (X:AH) (id:Nat),m'=s2.toks.length∧Wst P.all s2∧l.length≤30∧(∃k,s2.toks.length+1≤k∧Y5 k l s2=R)∧X[id]? = some (.cells 60 3 [s2.tk.av])∧s.tm 0 = .ptr P.i 0 0∧s.tm 3 = .sl 2 (vs Dc.av l) (some h.length)∧s.tm 4 = .ptr (h.length+(id+1)) 0 0 ∧
  s.h=ph h P s2++(.grow 78 2 l.length::X):=⟨_,rfl⟩;refine QR I ?_ (m:=s.toks.length) ?_
 ·intro m' s hs;rw[hI]at hs;obtain⟨tm,hp⟩:=s;dsimp only at hs;obtain⟨l,s2,X,id,rfl,hW2,hl30,⟨k,hk,hR2⟩,hX,t0,t3,t4,rfl⟩:=hs
  have hk1:k=k - 1+1:=by omega
  have e1:=Tk.Qq0 s2.tk
  have e2:=Tk.Qq1 s2.tk
  have hXa:=fun Y=>hext hX Y
  have hi2:=ph_i H s2
  simp only[pB]at hi2
  rw[hk1,Y5]at hR2
  by_cases hc:s2.tk.kind=1∧s2.tk.text.toList=Qk4
  ·rw[if_pos hc]at hR2
   have z1:(s2.tk.kind==1)=true:=by simpa using hc.1
   have z2:(s2.tk.text.toList==({data:=#[99,111,110,115,116,114,97,105,110,116]}:ByteArray).toList)=true:=by rw[hc.2,Lib.toList_data];rfl
   have ct:=fun L=>Xq hW2 (H.app L) hN
   simp only[Q4 H]at ct
   have hI0:=hI
   have hln:=Xo hW2.wf (by rw[hc.1];decide)
   generalize hRi:Zd (s2.toks.length+1) l s2.nx=Ri at *
   repeat (first|((first|(with_reducible (first|refine Qa fun K E hK hE=>?_|refine FunW.QqZ (ct _) ?_)));simp -implicitDefEqProofs only[Qc,Qd,OpW,QB,aop,AS.ev,↓reduceIte,Qg,Qw,Qv,aBin,ti3,ti9,QK,QQ,QJ,Qp,t0,t4,f4,hX,hi2,e1,z1,z2,seval])|(with_reducible (first|refine Qf fun K hK=>?_|refine Qi ?_|refine Qk ?_|refine Qb ?_))|((with_reducible refine hK _ ?_);clear hK)|(refine Qh rfl ?_;simp only[↓reduceIte]))
   obtain⟨I,hI⟩:∃I:Nat→AS→Prop,I=fun m' s=>∃(l3:List Dc) (s3:PS) (G:AH),m'=s3.toks.length∧Wst P.all s3∧l3.length≤30∧(∃k,s3.toks.length+1≤k∧Zd k l3 s3=Ri)∧s3.toks.length+1≤s2.toks.length∧G[id]? = some (.cells 60 3 [s2.tk.av])∧s.tm 0 = .ptr P.i 0 0∧s.tm 3 = .sl 2 (vs Dc.av l3) (some h.length)∧s.tm 4 = .ptr (h.length+(id+1)) 0 0 ∧
    s.h=ph h P s3++(.grow 78 2 l3.length::G):=⟨_,rfl⟩;refine QR I ?_ (m:=s2.nx.toks.length) ?_
   ·intro m' s hs;rw[hI]at hs;obtain⟨tm,hp⟩:=s;dsimp only at hs;obtain⟨l3,s3,G,rfl,hW3,hl3,⟨k3,hk3,hR3⟩,hlt3,hG,u0,u3,u4,rfl⟩:=hs
    have hk4:k3=k3 - 1+1:=by omega
    rw[hk4,Zd]at hR3
    have hi3:=ph_i H s3
    have hi4:=ph_i H s3.nx
    have hi5:=ph_i H s3.nx.nx
    have hi6:=ph_i H s3.nx.nx.nx
    simp only[pB]at hi3 hi4 hi5 hi6
    have hG0:=fun Y=>hext hG Y
    have ev:(vs Dc.av l3).length=l3.length:=ZR _ _
    have e3:=Tk.Qq0 s3.nx.nx.tk
    have e4:=Tk.Qq1 s3.nx.nx.tk
    have e5:=Tk.Qq0 s2.tk
    have e6:=Tk.Qq1 s2.tk
    have x1:∀(Y:AH),(G++Y)[G.length]? = Y[0]? := fun Y=>Qad _ _
    have x2:∀(Y:AH) k,(G++Y)[G.length+k]? = Y[k]? := fun Y k=>hget _ _ _
    have x3:∀(Y:AH) y,(G++Y).set G.length y=G++Y.set 0 y:=fun Y y=>QbT _ _ _
    have x4:∀(Y:AH) k y,(G++Y).set (G.length+k) y=G++Y.set k y:=fun Y k y=>hset _ _ _ _
    by_cases hm:30≤l3.length
    ·rw[if_pos hm]at hR3
     have cr:=fun L=>Qgy hW3 H hN L ((l3.length:Nat):Int) 30 (by omega)
     repeat (first|((first|(with_reducible (first|refine Qa fun K E hK hE=>?_|refine FunW.pan (FunW.call (cr _)) ?_)));simp -implicitDefEqProofs only[Qc,Qd,OpW,QB,aop,AS.ev,↓reduceIte,Qg,aLen,goInt,un23,QJ,Qp,u0,u3,ev,hi3,seval])|(with_reducible (first|refine Qi ?_|refine hE _ _ ?_|refine QN ?_|refine Xb ?_)))
     subst hR3
     subst hR2
     exact QW H s s3 _ _ _ ⟨rfl,_,rfl⟩
    ·have cr:=fun L=>QeB hW3 H hN L ((l3.length:Nat):Int) 30 (by omega)
     rw[if_neg hm]at hR3
     cases hn:ZD s3 with
     |err p e =>
      rw[hn]at hR3
      have hR4:PR.err p e=Ri:=hR3
      have cm:=fun L=>Qgn hW3 H hN L hn
      repeat (first|((first|(with_reducible (first|refine Qa fun K E hK hE=>?_|refine FunW.QqZ (cr _) ?_|refine FunW.panE (FunW.call (cm _)) fun r=>?_)));simp -implicitDefEqProofs only[Qc,Qd,OpW,QB,aop,AS.ev,↓reduceIte,Qg,aLen,goInt,un23,QJ,Qp,u0,u3,ev,hi3,seval])|(with_reducible refine Qi ?_)|((with_reducible refine hK _ ?_);clear hK)|(with_reducible (first|refine hE _ _ ?_|refine QN ?_|refine Xb ?_)))
      subst hR4
      subst hR2
      exact QW H s r _ _ _ ⟨rfl,_,rfl⟩
     |ok x s4 =>
      have cm:=fun L=>Qil hW3 H hN L hn
      rw[hn]at hR3
      have hk1s:s3.tk.kind=1∧s4=s3.nx:=by
       unfold ZD at hn
       split at hn
       ·cases hn
       ·rename_i h1
        split at hn
        ·cases hn
        ·cases hn;exact⟨by simpa using h1,rfl⟩
      obtain⟨hk1s,rfl⟩:=hk1s
      have hl1:=Xo hW3.wf (by rw[hk1s];decide)
      have hW4:=hW3.nx
      cases hsl:s3.nx.is QeE with
      |false =>
       have hR4:PR.err s3.nx.tk.pos 16=Ri:=by rw[←hR3];show _=(XO QeE s3.nx).bind _;rw[XO,if_neg (by rw[hsl];decide)];rfl
       have cx:=fun L=>Yj hW4 H hN L {data:=#[47]} (by rw[bSl];exact hsl)
       repeat (first|((first|(with_reducible (first|refine Qa fun K E hK hE=>?_|refine FunW.QqZ (cr _) ?_|refine FunW.QqZ (cm _) ?_|refine FunW.pan (FunW.call (cx _)) ?_)));simp -implicitDefEqProofs only[Qc,Qd,OpW,QB,aop,undef,AS.ev,AV.QqY,↓reduceIte,Qg,Qu,Ql,QP,Q6,aLen,goInt,un23,QJ,ti78,zi78,sp78,Qp,u0,u3,f1,f4,f6,x1,x3,ev,hi3,hi4,List.append_assoc,seval])|(with_reducible refine Qi ?_)|((with_reducible refine hK _ ?_);clear hK)|(with_reducible (first|refine hE _ _ ?_|refine QN ?_|refine Xb ?_)))
       subst hR4
       subst hR2
       exact QW H s s3.nx _ _ _ ⟨rfl,_,rfl⟩
      |true =>
       have hl2:=Xo hW4.wf (PS.Qq2 hsl)
       have hW5:=hW4.nx
       have cx:=fun L=>XU hW4 H hN L {data:=#[47]} (by rw[bSl];exact hsl)
       have ct3:=fun L=>Xq hW5 (H.app L) hN
       simp only[Q4 H]at ct3
       have hR4:(if s3.nx.nx.tk.kind≠3 then PR.err s3.nx.nx.tk.pos 16 else if valT s3.nx.nx.tk.text>6 then .err s3.nx.nx.tk.pos 6 else
         if s3.nx.nx.nx.is Y6 then Zd (k3 - 1) (l3++[⟨x,valT s3.nx.nx.tk.text⟩]) s3.nx.nx.nx.nx else(XO sDot s3.nx.nx.nx).bind fun _ s2=>.ok (l3++[⟨x,valT s3.nx.nx.tk.text⟩]) s2)=Ri:=by
        have hw:XO QeE s3.nx = .ok () s3.nx.nx:=by rw[XO,if_pos hsl]
        rw[←hR3];show _=(XO QeE s3.nx).bind _;rw[hw];rfl
       clear hR3
       by_cases h3:s3.nx.nx.tk.kind=3
       ·rw[if_neg (by simpa using h3)]at hR4
        have y1:(s3.nx.nx.tk.kind != 3)=false:=by simpa using h3
        have hl5:=Xo hW5.wf (by rw[h3];decide)
        obtain⟨cv,v0,v1⟩:=Qic hD hW5 h3
        have hW6:=hW5.nx
        by_cases h6:valT s3.nx.nx.tk.text>6
        ·rw[if_pos h6]at hR4
         have y2:(6:Int)<valT s3.nx.nx.tk.text:=h6
         have cf:=YL s3.nx.nx.tk 6
         repeat (first|((first|(with_reducible (first|refine Qa fun K E hK hE=>?_|refine FunW.QqZ (cr _) ?_|refine FunW.QqZ (cm _) ?_|refine FunW.QqZ (cx _) ?_|refine FunW.QqZ (ct3 _) ?_|refine Qz cv ?_)));simp -implicitDefEqProofs only[Qc,Qd,OpW,QB,aop,undef,AS.ev,AV.QqY,↓reduceIte,Qg,Qw,Qv,Qu,Ql,aBin,QP,Q6,aLen,goInt,ti3,ti9,un23,ti60,QK,QQ,zi60,QJ,ti78,QiY,zi78,sp78,Qp,u0,u3,f1,f4,f6,x1,x2,x3,x4,ev,hi3,hi4,hi5,e3,e4,List.append_assoc,y1,y2,seval])|(with_reducible (first|refine Qf fun K hK=>?_|refine Qi ?_|refine Qk ?_|refine Qb ?_))|((with_reducible refine hK _ ?_);clear hK)|(refine Qh rfl ?_;simp only[↓reduceIte,QrN]))
         subst hR4
         subst hR2
         refine Xd 4 [(0,0),(1,0),(2,0),(3,0)] mixed rfl rfl rfl (by kernel_rfl) (fun v h'=>v=Fl s3.nx.nx.tk.pos 6∧∃L,h'=ph h P s3.nx.nx.nx++L) ?_ ?_
         ·rintro tm v h' ⟨rfl,L,rfl⟩
          exact QW H s s3.nx.nx.nx _ _ _ ⟨rfl,_,rfl⟩
         ·simp -implicitDefEqProofs only[Qc,Qd,aop,AS.ev,↓reduceIte,Qg,Qw,Qv,ti60,QJ,Qp,u0,f4,x2,hi6,e3,e4,seval]
          exact fun _=>(FunW.call (cf _ _)).mono (by rintro _ _ ⟨rfl,rfl⟩;exact⟨_,rfl,rfl,_,rfl⟩)
        ·rw[if_neg h6]at hR4
         have y2:¬(6:Int)<valT s3.nx.nx.tk.text:=h6
         have hm1:(l3.length+1) * 24≤140737488355328:=by omega
         have hm2:l3.length+1≤maxLen:=by simp only[maxLen];omega
         have evs:vs Dc.av (l3++[⟨x,valT s3.nx.nx.tk.text⟩])=vs Dc.av l3++[.agg [.v (.string x),.i (valT s3.nx.nx.tk.text)]]:=by rw[QhR];rfl
         cases hco:s3.nx.nx.nx.is Y6 with
         |true =>
          rw[hco,if_pos rfl]at hR4
          have hl6:=Xo hW6.wf (PS.Qq2 hco)
          have cs:=fun L=>Zw hW6 H hN L {data:=#[44]} (by rw[bCo];exact hco)
          repeat (first|((first|(with_reducible (first|refine Qa fun K E hK hE=>?_|refine FunW.QqZ (cr _) ?_|refine FunW.QqZ (cm _) ?_|refine FunW.QqZ (cx _) ?_|refine FunW.QqZ (ct3 _) ?_|refine Qz cv ?_|refine FunW.QqZ (cs _) ?_)));simp -implicitDefEqProofs only[Qc,Qd,OpW,QB,aop,undef,AS.ev,AV.QqY,↓reduceIte,Qg,Qw,Qv,Qu,Ql,aBin,QP,Q6,QG,aLen,XI,Yk,goInt,ti3,ti9,ei23,ai23,un23,ti60,QK,QQ,zi60,QJ,ti78,QiY,zi78,sp78,Qp,u0,u3,f1,f3,f4,f5,f6,x1,x2,x3,x4,ev,hi3,hi4,hi5,hi6,e3,e4,List.append_assoc,y1,y2,hm1,hm2,seval])|(with_reducible (first|refine Qf fun K hK=>?_|refine Qi ?_|refine Qk ?_|refine Qb ?_|refine Qn ?_))|((with_reducible refine hK _ ?_);clear hK)|(refine Qh rfl ?_;simp only[↓reduceIte,QrN]))
          refine Xi.mk (m':=s3.nx.nx.nx.nx.toks.length) (by omega) ?_
          rw[hI]
          refine⟨l3++[⟨x,valT s3.nx.nx.tk.text⟩],s3.nx.nx.nx.nx,G++[.cells 78 2 [.agg [.v (.string x),.i (valT s3.nx.nx.tk.text)]],.cells 60 3 [s3.nx.nx.tk.av]],rfl,hW6.nx,by simp;omega,⟨k3 - 1,by omega,hR4⟩,by omega,hG0 _,u0,?_,u4,?_⟩
          ·rw[evs];rfl
          ·rw[List.length_append];rfl
         |false =>
          rw[hco,if_neg (by decide)]at hR4
          have cs:=fun L=>ZZ hW6 H hN L {data:=#[44]} (by rw[bCo];exact hco)
          cases hdo:s3.nx.nx.nx.is sDot with
          |false =>
           have hR5:PR.err s3.nx.nx.nx.tk.pos 16=Ri:=by rw[←hR4,XO,if_neg (by rw[hdo];decide)];rfl
           have cd:=fun L=>Yj hW6 H hN L {data:=#[46]} (by rw[bDo];exact hdo)
           repeat (first|((first|(with_reducible (first|refine Qa fun K E hK hE=>?_|refine Qj fun K E hK hE=>?_|refine FunW.QqZ (cr _) ?_|refine FunW.QqZ (cm _) ?_|refine FunW.QqZ (cx _) ?_|refine FunW.QqZ (ct3 _) ?_|refine Qz cv ?_|refine FunW.QqZ (cs _) ?_|refine FunW.pan (FunW.call (cd _)) ?_)));simp -implicitDefEqProofs only[Qc,Qd,OpW,QB,aop,undef,AS.ev,AV.QqY,↓reduceIte,Qg,Qw,Qv,Qu,Ql,aBin,QP,Q6,QG,aLen,XI,Yk,goInt,ti3,ti9,ei23,ai23,un23,ti60,QK,QQ,zi60,QJ,ti78,QiY,zi78,sp78,Qp,u0,u3,f1,f3,f4,f5,f6,x1,x2,x3,x4,ev,hi3,hi4,hi5,hi6,e3,e4,List.append_assoc,y1,y2,hm1,hm2,seval])|(with_reducible (first|refine Qf fun K hK=>?_|refine Qi ?_|refine Qk ?_|refine QF ?_|refine Qb ?_|refine QD ?_|refine QC ?_|refine QZ rfl ?_))|((with_reducible refine hK _ ?_);clear hK)|(refine Qh rfl ?_;simp only[↓reduceIte,QrN])|(with_reducible (first|refine hE _ _ ?_|refine QN ?_|refine Xb ?_)))
           subst hR5
           subst hR2
           exact QW H s s3.nx.nx.nx _ _ _ ⟨rfl,_,rfl⟩
          |true =>
           have hR5:PR.ok (l3++[⟨x,valT s3.nx.nx.tk.text⟩]) s3.nx.nx.nx.nx=Ri:=by rw[←hR4,XO,if_pos hdo];rfl
           subst hR5
           have hR6:Y5 (k - 1) (l3++[⟨x,valT s3.nx.nx.tk.text⟩]) s3.nx.nx.nx.nx=R:=hR2
           have hl6:=Xo hW6.wf (PS.Qq2 hdo)
           have cd:=fun L=>XU hW6 H hN L {data:=#[46]} (by rw[bDo];exact hdo)
           have hi7:=ph_i H s3.nx.nx.nx.nx
           simp only[pB]at hi7
           have e7:=Tk.Qq0 s3.nx.nx.nx.nx.tk
           have e8:=Tk.Qq1 s3.nx.nx.nx.nx.tk
           have cn7:=fun L=>nextL hW6.nx (X6 H s3.nx.nx.nx.nx) L
           repeat (first|((first|(with_reducible (first|refine Qa fun K E hK hE=>?_|refine Qj fun K E hK hE=>?_|refine FunW.QqZ (cr _) ?_|refine FunW.QqZ (cm _) ?_|refine FunW.QqZ (cx _) ?_|refine FunW.QqZ (ct3 _) ?_|refine Qz cv ?_|refine FunW.QqZ (cs _) ?_|refine FunW.QqZ (cd _) ?_|refine FunW.QqZ (cn7 _) ?_)));simp -implicitDefEqProofs only[Qc,Qd,OpW,QB,aop,undef,AS.ev,AV.QqY,↓reduceIte,Qg,Qw,Qv,Qu,Ql,aBin,QP,Q6,QG,aLen,XI,Yk,goInt,ti3,ti9,ei23,ai23,un23,ti60,QK,QQ,zi60,QJ,ti78,QiY,zi78,sp78,Qp,u0,u3,u4,f1,f3,f4,f5,f6,x1,x2,x3,x4,ev,hG0,hi3,hi4,hi5,hi6,e3,e4,e5,e6,List.append_assoc,y1,y2,hm1,hm2,hi7,e7,e8,seval])|(with_reducible (first|refine Qf fun K hK=>?_|refine Qi ?_|refine Qk ?_|refine QF ?_|refine Qb ?_|refine QD ?_|refine Qn ?_|refine QC ?_|refine QZ rfl ?_))|((with_reducible refine hK _ ?_);clear hK)|(refine Qh rfl ?_;simp only[↓reduceIte,QrN]))
           refine Xi.mk (m':=s3.nx.nx.nx.nx.toks.length) (by omega) ?_
           rw[hI0]
           refine⟨l3++[⟨x,valT s3.nx.nx.tk.text⟩],s3.nx.nx.nx.nx,G++[.cells 78 2 [.agg [.v (.string x),.i (valT s3.nx.nx.tk.text)]],.cells 60 3 [s3.nx.nx.tk.av],.cells 60 3 [s3.nx.nx.nx.nx.tk.av]],G.length+2,rfl,hW6.nx,by simp;omega,⟨k - 1,by omega,hR6⟩,hget _ _ _,u0,?_,?_,?_⟩
           ·rw[evs];rfl
           ·rfl
           ·rw[List.length_append];rfl
       ·rw[if_pos h3]at hR4
        have y1:(s3.nx.nx.tk.kind != 3)=true:=by simpa using h3
        have cf:=YL s3.nx.nx.tk 16
        repeat (first|((first|(with_reducible (first|refine Qa fun K E hK hE=>?_|refine FunW.QqZ (cr _) ?_|refine FunW.QqZ (cm _) ?_|refine FunW.QqZ (cx _) ?_|refine FunW.QqZ (ct3 _) ?_)));simp -implicitDefEqProofs only[Qc,Qd,OpW,QB,aop,undef,AS.ev,AV.QqY,↓reduceIte,Qg,Qw,Qv,Qu,Ql,aBin,QP,Q6,aLen,goInt,ti3,un23,ti60,QK,zi60,QJ,ti78,zi78,sp78,Qp,u0,u3,f1,f4,f6,x1,x2,x3,x4,ev,hi3,hi4,hi5,e3,e4,List.append_assoc,y1,seval])|(with_reducible (first|refine Qf fun K hK=>?_|refine Qi ?_))|((with_reducible refine hK _ ?_);clear hK)|(refine Qh rfl ?_;simp only[↓reduceIte]))
        subst hR4
        subst hR2
        refine Xd 4 [(0,0),(1,0),(2,0),(3,0)] mixed rfl rfl rfl (by kernel_rfl) (fun v h'=>v=Fl s3.nx.nx.tk.pos 16∧∃L,h'=ph h P s3.nx.nx.nx++L) ?_ ?_
        ·rintro tm v h' ⟨rfl,L,rfl⟩
         exact QW H s s3.nx.nx.nx _ _ _ ⟨rfl,_,rfl⟩
        ·simp -implicitDefEqProofs only[Qc,Qd,aop,AS.ev,↓reduceIte,Qg,Qw,Qv,ti60,QJ,Qp,u0,f4,x2,hi6,e3,e4,seval]
         exact fun _=>(FunW.call (cf _ _)).mono (by rintro _ _ ⟨rfl,rfl⟩;exact⟨_,rfl,rfl,_,rfl⟩)
   ·rw[hI]
    exact⟨l,s2.nx,X,rfl,hW2.nx,hl30,⟨s2.toks.length+1,by omega,hRi⟩,by omega,hX,t0,t3,t4,rfl⟩
  ·rw[if_neg hc]at hR2
   subst hR2
   by_cases hk1:s2.tk.kind=1
   ·have z1:(s2.tk.kind==1)=true:=by simpa using hk1
    have z2:(s2.tk.text.toList==({data:=#[99,111,110,115,116,114,97,105,110,116]}:ByteArray).toList)=false:=by
     rw[Lib.toList_data ({data:=#[99,111,110,115,116,114,97,105,110,116]}:ByteArray)]
     exact beq_eq_false_iff_ne.2 fun q=>hc ⟨hk1,q⟩
    repeat (first|(((with_reducible refine Qa fun K E hK hE=>?_));simp -implicitDefEqProofs only[Qc,Qd,OpW,aop,AS.ev,↓reduceIte,Qg,Qw,Qv,aBin,ti3,ti9,QK,QQ,t3,t4,f4,hX,e1,z1,z2,seval])|(with_reducible (first|refine Qf fun K hK=>?_|refine Qm ?_|refine QF ?_|refine Qb ?_|refine QD ?_|refine QC ?_))|((with_reducible refine hK _ ?_);clear hK)|(clear hK;(with_reducible refine hK _ ?_);clear hK)|(refine Qh rfl ?_;simp only[↓reduceIte,QrN]))
    simp only[QH,Qo,Qt,upd,↓reduceIte,QrP,QrT]
    exact Xl H (s:=s) (s':=s2) (Frz.tok (Qln _ _)) ⟨rfl,rfl⟩
   ·have z1:(s2.tk.kind==1)=false:=by simpa using hk1
    repeat (first|(((with_reducible refine Qa fun K E hK hE=>?_));simp -implicitDefEqProofs only[Qc,Qd,OpW,aop,undef,AS.ev,↓reduceIte,Qg,Qw,Qv,aBin,ti3,QK,t3,t4,f4,hX,e1,z1,seval])|(with_reducible (first|refine Qf fun K hK=>?_|refine Qm ?_|refine QF ?_|refine Qb ?_|refine QD ?_|refine QC ?_))|((with_reducible refine hK _ ?_);clear hK)|(clear hK;(with_reducible refine hK _ ?_);clear hK)|(refine Qh rfl ?_;simp only[↓reduceIte,QrN]))
    simp only[QH,Qo,Qt,upd,↓reduceIte,QrP,QrT]
    exact Xl H (s:=s) (s':=s2) (Frz.tok (Qln _ _)) ⟨rfl,rfl⟩
 ·rw[hI]
  exact⟨[],s,[.cells 60 3 [s.tk.av]],0,rfl,hW,Nat.zero_le _,⟨_,Nat.le_refl _,hR⟩,rfl,rfl,rfl,rfl,rfl⟩
end
end Go.Proofs.YticgcpebdldbgaaDoor.Ab
set_option maxRecDepth 4000
namespace Go.Proofs.YticgcpebdldbgaaDoor.Ab
open Go.Proofs
structure KpO (h:AH) (P:Pz) (o:Nat) (Y:AH):Prop where
 long:h.length≤Y.length
 out:∀i,i<h.length→i≠o→i≠P.i→i≠P.j→i≠P.g→Y[i]? = h[i]?
abbrev pgB(d r:AV):AB:=.cells 26 2 [.agg [d,r]]
def PgQ(h:AH)(P:Pz)(o:Nat):PR Pg→AOut→AH→Prop
 | .ok pg _,x,h'=>x = .ret (.tup [])∧∃Y:{Y:AH // KpO h P o Y∧Y[o]? = some (pgB (.sl 2 (vs Dc.av pg.decls) none) (.sl 6 (vs Rl.av pg.rules) none))},h'=Y.1
 | .err p e,x,h'=>x = .panic (Fl p e)∧∃Y:{Y:AH // KpO h P o Y},h'=Y.1
section
variable{P:Pz}{s:PS}(hW:Wst P.all s){h:AH}(H:P.ok h)(hN:P.all.length≤1000000)(hD:TkOk P.all){o:Nat}(hol:o<h.length)(hoi:o≠P.i)(hoj:o≠P.j)(hog:o≠P.g)
include hW H hN hD hol hoi hoj hog
omit hW hN hD hol hoi hoj hog in
theorem QpP(s':PS)(L:AH):KpO h P o (ph h P s'++L):=⟨by rw[List.length_append,QU];omega,fun i h1 h2 h3 h4 h5=>by rw[List.getElem?_append_left (by rw[QU];exact h1),Zu H h3 h4 h5]⟩
theorem Qkl(hob:h[o]? = some (pgB nilV nilV)):QL Tryd.prog 16 [.ptr P.i 0 0,.ptr o 0 0] (ph h P s) (PgQ h P o (QbY s)):=by
 have cd:=QjU hW H hN hD
 rw[QbY]
 cases hd:Y5 (s.toks.length+1) [] s with
 |err p e =>
  rw[hd]at cd
  have cd2:QL Tryd.prog 17 [.ptr P.i 0 0] (ph h P s) fun x h'=>x = .panic (Fl p e)∧∃s1:PS,h'=ph h P s1:=cd
  refine Qe Tryd.func16 rfl Tryd.call16 Tryd.ntmps16 Tryd.results16 (by simp) ?_
  repeat (first|((first|(with_reducible (first|refine Qa fun K E hK hE=>?_|refine FunW.panE (FunW.call cd2) fun r=>?_)));simp -implicitDefEqProofs only[Qc,Qd,OpW,QB,aop,undef,AS.ev,Qr,↓reduceIte,Nat.reduceLT])|(with_reducible refine hE _ _ ?_))
  have:=QpP (o:=o) H r []
  rw[List.append_nil]at this
  exact .inr ⟨rfl,⟨_,this⟩,rfl⟩
 |ok d s1 =>
  rw[hd]at cd
  have cd2:QL Tryd.prog 17 [.ptr P.i 0 0] (ph h P s) fun x h'=>x = .ret (.sl 2 (vs Dc.av d) none)∧h'=ph h P s1:=cd
  have hW1:Wst P.all s1:=Kp.Ps.ok (n:=wdOf P.all) (Kp.decls_ps trivial _ _) hW hd
  have ho1:(ph h P s1)[o]? = some (pgB nilV nilV):=by rw[Zu H hoi hoj hog];exact hob
  generalize hRr:((PR.ok d s1).bind fun d s=>(Zt (s.toks.length+1) [] s).bind fun r s=>PR.ok (⟨d,r⟩:Pg) s)=R
  have hR0:((Zt (s1.toks.length+1) [] s1).bind fun r s=>PR.ok (⟨d,r⟩:Pg) s)=R:=hRr
  clear hRr
  refine Qe Tryd.func16 rfl Tryd.call16 Tryd.ntmps16 Tryd.results16 (by simp) ?_
  iterate 3 (try (first|((first|(with_reducible (first|refine Qa fun K E hK hE=>?_|refine FunW.QqZ cd2 ?_)));simp -implicitDefEqProofs only[Qc,Qd,OpW,QB,aop,undef,AS.ev,Qr,AV.QqY,↓reduceIte,Qg,Qu,Ql,ti23,Qg6,ho1,seval])|((with_reducible refine hK _ ?_);clear hK)))
  refine YD o 26 2 6 (.grow 34 6 0) (.inr ⟨_,rfl⟩) [.agg [.sl 2 (vs Dc.av d) none,nilV]] [.agg [.sl 2 (vs Dc.av d) none,.sl 6 [] (some h.length)]] 1 (List.getElem?_set_self (by rw[QU];exact hol)) rfl (by simp[flat,AV.cells,QU]) (by simp[AV.cells]) ?_
  iterate 1 (try ((with_reducible refine Qi ?_)))
  obtain⟨I,hI⟩:∃I:Nat→AS→Prop,I=fun m' s=>∃(rs:List Rl) (s2:PS) (own:Option Nat) (m:List (ByteArray×AV)),m'=s2.toks.length∧Wst P.all s2∧rs.length≤40∧(∃k,s2.toks.length+1≤k∧((Zt k rs s2).bind fun r s=>PR.ok (⟨d,r⟩:Pg) s)=R)∧KpO h P o s.h∧PIn P s.h s2 own m∧s.h[o]? = some (pgB (.sl 2 (vs Dc.av d) none) (.sl 6 (vs Rl.av rs) (some h.length)))∧s.h[h.length]? = some (.grow 34 6 rs.length)∧s.tm 0 = .ptr P.i 0 0∧s.tm 1 = .ptr o 0 0:=⟨_,rfl⟩;refine QR I ?_ (m:=s1.toks.length) ?_
  ·intro m' s hs;rw[hI]at hs;obtain⟨tm,hp⟩:=s;dsimp only at hs;obtain⟨rs,s2,own,m,rfl,hW2,hl40,⟨k,hk,hR2⟩,hkp,hpin,hob2,htk,t0,t1⟩:=hs
   have hk1:k=k - 1+1:=by omega
   have hpl:=Qs htk
   have hWc:Wst P.all ⟨s2.toks,[]⟩:=⟨hW2.wf,hW2.suf,by have:=hW2.nms;simp only[QrX];omega⟩
   have hoh:o≠h.length:=by omega
   rw[hk1,Zt]at hR2
   have e1:=Tk.Qq0 s2.tk
   have e2:=Tk.Qq1 s2.tk
   have hi2:=hpin.i
   rw[pN]at hi2
   by_cases h0:s2.tk.kind=0
   ·rw[if_pos h0]at hR2
    subst hR2
    refine Qbc o 26 2 [.agg [.sl 2 (vs Dc.av d) none,.sl 6 (vs Rl.av rs) (some h.length)]] [.agg [.sl 2 (vs Dc.av d) none,.sl 6 (vs Rl.av rs) none]] 1
     (Wk.sl rfl (fun y hy=>by obtain⟨x,_,rfl⟩:=List.mem_map.1 hy;rfl) (WkL.refl _)) hob2 rfl rfl (fun x hx=>by rw[List.mem_singleton]at hx;subst hx;rfl) ?_
    have hX2:(hp.set o (pgB (.sl 2 (vs Dc.av d) none) (.sl 6 (vs Rl.av rs) none)))[P.i]? = some (pN P s2 own):=by rw[List.getElem?_set_ne hoi];exact hpin.i
    have cn:=Qkc hW2 hX2
    have hi3:=hX2
    rw[pN]at hi3
    have z1:(s2.tk.kind != 0)=false:=by simpa using h0
    repeat (first|((first|(with_reducible (first|refine Qa fun K E hK hE=>?_|refine FunW.QqZ cn ?_)));simp -implicitDefEqProofs only[Qc,Qd,OpW,QB,aop,AS.ev,↓reduceIte,Nat.reduceLT,Qg,Qv,aBin,Zq,ti3,QK,QJ,Qp,t0,hi3,e1,e2,z1])|(with_reducible (first|refine Qf fun K hK=>?_|refine QF ?_|refine QD ?_|refine QC ?_))|((with_reducible refine hK _ ?_);clear hK)|(refine Qh rfl ?_;simp only[↓reduceIte,QrN]))
    simp -implicitDefEqProofs only[QrL,QrP,List.mapM_nil,Option.pure_def,QrL,QH,Qo,QrT]
    exact .inr ⟨rfl,⟨_,⟨by rw[List.length_set];exact hkp.long,fun i h1 h2 h3 h4 h5=>by rw[List.getElem?_set_ne (Ne.symm h2)];exact hkp.out i h1 h2 h3 h4 h5⟩,List.getElem?_set_self (by omega)⟩,rfl⟩
   ·rw[if_neg h0]at hR2
    have z1:(s2.tk.kind != 0)=true:=by simpa using h0
    have cn:=Qkc hW2 hpin.i
    have ev:(vs Rl.av rs).length=rs.length:=ZR _ _
    by_cases hm:40≤rs.length
    ·rw[if_pos hm]at hR2
     subst hR2
     have cr:=QnY hW2 hpin.i ((rs.length:Nat):Int) 40 (by omega)
     repeat (first|((first|(with_reducible (first|refine Qa fun K E hK hE=>?_|refine FunW.QqZ cn ?_)));simp -implicitDefEqProofs only[Qc,Qd,OpW,QB,aop,AS.ev,↓reduceIte,Nat.reduceLT,Qg,Qv,aBin,Zq,ti3,QK,QJ,Qp,t0,hi2,e1,e2,z1])|(with_reducible (first|refine Qf fun K hK=>?_|refine Qi ?_|refine Qk ?_|refine Qb ?_))|((with_reducible refine hK _ ?_);clear hK)|(refine Qh rfl ?_;simp only[↓reduceIte]))
     refine Xd 6 [(0,0),(1,0),(2,0),(3,0),(4,0),(5,0)] mixed rfl rfl rfl (by kernel_rfl) (fun v h'=>v=Fl s2.tk.pos 6∧h'=hp) ?_ ?_
     ·rintro tm v h' ⟨rfl,rfl⟩
      exact .inr ⟨rfl,⟨_,hkp⟩,rfl⟩
     ·simp -implicitDefEqProofs only[Qc,Qd,aop,AS.ev,↓reduceIte,Qg,Qw,Qv,aLen,goInt,ti24,un24,Qa4,QJ,Qp,t0,t1,hi2,hob2,ev,seval]
      exact fun _=>(FunW.call cr).mono (by rintro _ _ ⟨rfl,rfl⟩;exact⟨_,rfl,rfl,rfl⟩)
    ·rw[if_neg hm]at hR2
     have cr:=Qmx hW2 hpin.i ((rs.length:Nat):Int) 40 (by omega)
     have cR:=Qmy hpin hWc hN hD
     repeat (first|((first|(with_reducible (first|refine Qa fun K E hK hE=>?_|refine FunW.QqZ cn ?_)));simp -implicitDefEqProofs only[Qc,Qd,OpW,QB,aop,AS.ev,↓reduceIte,Nat.reduceLT,Qg,Qv,aBin,Zq,ti3,QK,QJ,Qp,t0,hi2,e1,e2,z1])|(with_reducible (first|refine Qf fun K hK=>?_|refine Qi ?_|refine Qk ?_|refine Qb ?_))|((with_reducible refine hK _ ?_);clear hK)|(refine Qh rfl ?_;simp only[↓reduceIte]))
     first|refine QS (id:=2) [(0,0),(1,0),(2,0),(3,0),(4,0),(5,0),(6,2)] mixed (by kernel_rfl) fun K hK=>?_|refine Xh (id:=2) [(0,0),(1,0),(2,0),(3,0),(4,0),(5,0),(6,2)] mixed (by kernel_rfl) fun K hK=>?_
     simp -implicitDefEqProofs only[Qc,Qd,aop,AS.ev,↓reduceIte,Qg,Qw,Qv,aLen,goInt,ti24,un24,Qa4,QJ,Qp,t0,t1,hi2,hob2,ev,seval]
     refine XT (FunW.call cr) Zz ?_
     simp -implicitDefEqProofs only[Qdx,Xw,Nat.reduceLT]
     cases hr:Zm s2 with
     |err p e =>
      rw[hr]at cR hR2
      have hR3:PR.err p e=R:=hR2
      subst hR3
      have cR2:QL Tryd.prog 20 [.ptr P.i 0 0] hp fun o h'=>o = .panic (Fl p e)∧∃Y:{Y:AH // ErrY hp P Y},h'=Y.1:=cR
      refine hK _ ?_
      clear hK
      repeat (first|(with_reducible refine Qb ?_)|((with_reducible refine hK _ ?_);clear hK))
      refine Xd 3 [(0,0),(1,0),(2,0)] mixed rfl rfl rfl (by kernel_rfl) (fun v h'=>v=Fl p e∧∃Y:{Y:AH // ErrY hp P Y},h'=Y.1) ?_ ?_
      ·rintro tm v h' ⟨rfl,⟨Y,hY⟩,rfl⟩
       exact .inr ⟨rfl,⟨h',Nat.le_trans hkp.long hY.long,fun i h1 h2 h3 h4 h5=>by rw[hY.out i (by have:=hkp.long;omega) h3 h4];exact hkp.out i h1 h2 h3 h4 h5⟩,rfl⟩
      ·simp -implicitDefEqProofs only[Qc,Qd,aop,AS.ev,↓reduceIte,Qg,Qw,Qv,ti24,Qa4,t0,t1,hob2,seval]
       exact fun _=>(FunW.call cR2).mono (by rintro _ _ ⟨rfl,x,rfl⟩;exact⟨_,rfl,rfl,x,rfl⟩)
     |ok r s6 =>
      rw[hr]at cR hR2
      have hR3:((Zt (k - 1) (rs++[r]) s6).bind fun r s=>PR.ok (⟨d,r⟩:Pg) s)=R:=hR2
      have hW6:Wst P.all s6:=Kp.Ps.ok (n:=wdOf P.all) (Kp.rule_ps trivial) hW2 hr
      have hl6:=(Qgz s2 hW2.wf r s6 hr).2
      have cR2:QL Tryd.prog 20 [.ptr P.i 0 0] hp fun o h'=>o = .ret r.av∧h'=(hp.set P.i (pN P s6 none)).set P.j (kB s6):=cR
      have pil:=Qs hpin.i
      have pjl:=Qs hpin.j
      have pij:P.i≠P.j:=H.ij
      generalize hX:(hp.set P.i (pN P s6 none)).set P.j (kB s6)=X at *
      have hXo:X[o]? = some (pgB (.sl 2 (vs Dc.av d) none) (.sl 6 (vs Rl.av rs) (some h.length))):=by rw[←hX,List.getElem?_set_ne (Ne.symm hoj),List.getElem?_set_ne (Ne.symm hoi)];exact hob2
      have hXt:X[h.length]? = some (.grow 34 6 rs.length):=by rw[←hX,List.getElem?_set_ne (by have:=H.j;omega),List.getElem?_set_ne (by have:=H.i;omega)];exact htk
      have hXs:∀y,(X.set h.length y)[o]? = some (pgB (.sl 2 (vs Dc.av d) none) (.sl 6 (vs Rl.av rs) (some h.length))):=fun y=>by rw[List.getElem?_set_ne (Ne.symm hoh)];exact hXo
      have hXl:X.length=hp.length:=by rw[←hX,List.length_set,List.length_set]
      have rc:=Rl.cells r
      have ri:=Rl.isAgg r
      have hm1:(rs.length+1) * 120≤140737488355328:=by omega
      have hm2:rs.length+1≤maxLen:=by simp only[maxLen];omega
      have evs:vs Rl.av (rs++[r])=vs Rl.av rs++[r.av]:=by rw[QhR];rfl
      have fin:∀tm':Nat→AV,tm' 0 = .ptr P.i 0 0→tm' 1 = .ptr o 0 0→Xi I s2.toks.length ⟨tm',(X.set h.length (.grow 34 6 (rs.length+1))).set o (pgB (.sl 2 (vs Dc.av d) none) (.sl 6 (vs Rl.av rs++[r.av]) (some h.length)))⟩:=fun tm' k0 k1=>by
       have hYi:((X.set h.length (.grow 34 6 (rs.length+1))).set o (pgB (.sl 2 (vs Dc.av d) none) (.sl 6 (vs Rl.av rs++[r.av]) (some h.length))))[P.i]? = some (pN P s6 none):=by
        rw[List.getElem?_set_ne hoi,List.getElem?_set_ne (by have:=H.i;omega),←hX,List.getElem?_set_ne (Ne.symm pij),List.getElem?_set_self pil]
       have hYj:((X.set h.length (.grow 34 6 (rs.length+1))).set o (pgB (.sl 2 (vs Dc.av d) none) (.sl 6 (vs Rl.av rs++[r.av]) (some h.length))))[P.j]? = some (kB s6):=by
        rw[List.getElem?_set_ne hoj,List.getElem?_set_ne (by have:=H.j;omega),←hX,List.getElem?_set_self (by rw[List.length_set];exact pjl)]
       refine Xi.mk (m':=s6.toks.length) (by omega) ?_
       rw[hI]
       refine⟨rs++[r],s6,none,kn s6.names,rfl,hW6,by simp;omega,⟨k - 1,by omega,hR3⟩,⟨by simp only[List.length_set,hXl];exact hkp.long,fun i h1 h2 h3 h4 h5=>?_⟩,⟨hYi,hYj⟩,?_,?_,k0,k1⟩
       ·rw[List.getElem?_set_ne (Ne.symm h2),List.getElem?_set_ne (by omega),←hX,List.getElem?_set_ne (Ne.symm h4),List.getElem?_set_ne (Ne.symm h3)];exact hkp.out i h1 h2 h3 h4 h5
       ·rw[evs];exact List.getElem?_set_self (by simp only[List.length_set,hXl];omega)
       ·rw[List.length_append,List.getElem?_set_ne hoh,List.getElem?_set_self (by rw[hXl];exact hpl)];rfl
      refine hK _ ?_
      clear hK
      repeat (first|(with_reducible refine Qb ?_)|((with_reducible refine hK _ ?_);clear hK))
      refine Zr 0 1 3 [(2,0)] [(3,2),(0,0),(1,0),(4,0),(5,2),(6,0),(7,2)] [(0,0)] [(3,2),(1,0),(4,0),(5,2),(6,0),(7,2)] [(1,0),(3,2),(4,0),(5,2),(6,0),(7,2)] mixed (by kernel_rfl) (by kernel_rfl) (by kernel_rfl) (by kernel_rfl) (by kernel_rfl) (by kernel_rfl) (by kernel_rfl) (by kernel_rfl) (by kernel_rfl) (by kernel_rfl) (by kernel_rfl) (by kernel_rfl) (fun K2 hK2=>?_)
      simp -implicitDefEqProofs only[Qc,Qd,aop,AS.ev,↓reduceIte,Qg,Qw,Qv,ti24,Qa4,t0,t1,hob2,seval]
      refine⟨?_,?_⟩
      ·refine XT (FunW.call cR2) Zz ?_
       simp -implicitDefEqProofs only[Qc,Qd,aop,undef,AS.ev,AV.QqY,↓reduceIte,Qg,Qw,Qv,Qu,Ql,QG,XI,Yk,ti24,ei24,ai24,Qa4,zi34,t1,hXo,hXt,hXs,rc,hm1,hm2,ev,seval]
       refine hK2 _ (fin _ ?_ ?_) <;> assumption
      ·refine⟨?_,?_⟩
       ·refine XT (FunW.call cR2) Zz ?_
        simp -implicitDefEqProofs only[Qc,Qd,aop,undef,AS.ev,AV.QqY,↓reduceIte,Qg,Qw,Qv,Qu,Ql,QG,XI,Yk,ti24,ei24,ai24,Qa4,zi34,t1,hXo,hXt,hXs,rc,hm1,hm2,ev,seval]
        refine hK2 _ (fin _ ?_ ?_) <;> assumption
       ·refine XT (FunW.call cR2) Zz ?_
        simp -implicitDefEqProofs only[Qc,Qd,aop,undef,AS.ev,AV.QqY,↓reduceIte,Qg,Qu,Ql,QG,XI,Yk,ti24,ei24,ai24,Qa4,zi34,t1,hXt,hXs,rc,hm1,hm2,ev,seval]
        refine hK2 _ (fin _ ?_ ?_) <;> assumption
  ·rw[hI]
   have hg:∀i (y z:AB),i≠o→i<h.length→(((ph h P s1).set o y++[AB.grow 34 6 0]).set o z)[i]? = (ph h P s1)[i]? := fun i y z h1 h2=>by
    rw[List.getElem?_set_ne (Ne.symm h1),List.getElem?_append_left (by rw[List.length_set,QU];exact h2),List.getElem?_set_ne (Ne.symm h1)]
   refine⟨[],s1,some P.g,kn s1.names,rfl,hW1,Nat.zero_le _,⟨_,Nat.le_refl _,hR0⟩,⟨by simp only[List.length_set,QsA,QU];omega,fun i h1 h2 h3 h4 h5=>?_⟩,⟨?_,?_⟩,?_,?_,rfl,rfl⟩
   ·rw[hg i _ _ h2 h1,Zu H h3 h4 h5]
   ·rw[hg _ _ _ (Ne.symm hoi) H.i,X6 H];rfl
   ·rw[hg _ _ _ (Ne.symm hoj) H.j,Qo9 H];rfl
   ·exact List.getElem?_set_self (by simp only[List.length_set,QsA,QU];omega)
   ·rw[List.getElem?_set_ne (by omega)]
    have e:((ph h P s1).set o (AB.cells 26 2 [.agg [.sl 2 (vs Dc.av d) none,nilV]])).length=h.length:=by rw[List.length_set,QU]
    rw[←e,List.getElem?_append_right (Nat.le_refl _),Nat.sub_self];rfl
end
end Go.Proofs.YticgcpebdldbgaaDoor.Ab
set_option maxRecDepth 4000
namespace Go.Proofs.YticgcpebdldbgaaDoor.Ab
open Go.Proofs
section
variable{P:Pz}{s:PS}(hW:Wst P.all s){h:AH}(H:P.ok h)(hN:P.all.length≤1000000)(hD:TkOk P.all){o:Nat}(hol:o<h.length)(hoi:o≠P.i)(hoj:o≠P.j)(hog:o≠P.g)
include hW H hN hD hol hoi hoj hog
end
end Go.Proofs.YticgcpebdldbgaaDoor.Ab
namespace Go.Proofs.YticgcpebdldbgaaDoor.Ab
theorem Qg1{P:Program}{N:Nat}{x:Code}{Q:AExit→AS→Prop}{tm:Nat→AV}{h:AH}(id d k off:Nat){ty s:Nat}{xs:List AV}(hb:h[id]? = some (.cells ty s xs))(hd:tm d = .ptr id k off)
  (H:XS P N x Q ⟨upd tm d (.pin s xs k off),h.set id .dead⟩):XS P N x Q ⟨tm,h⟩:=by
 intro F n base c a hF hst hr R hR
 have hh:c.h=h:=hr.h
 subst hh
 have hev:=Ev.kill hb
 have hst2:=hst.kill hb
 refine H F n base (c.kill id) a hF hst2 ⟨rfl,hr.size,hr.above,hr.defers.ev hev,RoundOk.ev hev hr.round,fun t=>?_⟩ R fun e' s' c' a' ex hq h1 h2 h3 h4=>hR e' s' c' a' ex hq (Ev.trans hst hev h1) h2 h3 h4
 show Rel (c.kill id) (if t=d then .pin s xs k off else tm t) _
 split
 ·rename_i ht
  subst ht
  have h0:=hr.tm t
  rw[show(AS.mk tm c.h).tm t=tm t from rfl,hd]at h0
  generalize a.tmps.getD t undef=u at h0
  cases h0 with
  |ptr _ _ _ x hid ho h1 =>
   obtain⟨B,hρ,rfl⟩:=h1 _ _ _ hb
   obtain⟨h4,f,h5⟩:=Qdl hst hb hρ
   have:=Rel.pin (c:=c.kill id) s xs k off B 0 f h4 (fun j a hj=>(h5 j a hj).1) (fun j a hj=>(h5 j a hj).2)
   rwa [Nat.zero_add]at this
 ·exact(hr.tm t).ev hst hev
set_option maxRecDepth 4000
open Go.Proofs
theorem Qa2.mono{P:Program}{f:FuncId}{args:List AV}{h:AH}{m:AMode}{Q Q':AMode→AH→Prop}(H:Qa2 P f args h m Q)(hq:∀m' h',Q m' h'→Q' m' h'):Qa2 P f args h m Q' :=
 ⟨H.1,fun F n c vals u hF hro hs hh hvals hm=>(H.2 F n c vals u hF hro hs hh hvals hm).mono fun e u' w' ⟨x,m',c',h1,h2,h3⟩=>⟨x,m',c',h1,hq _ _ h2,h3⟩⟩
abbrev iC(n:Int):AB:=.cells 3 1 [.i n]
abbrev eC(n:Int):AB:=.cells 27 1 [.i n]
theorem Qmq{h:AH}{k:Nat}:Qa2 Tryd.prog 31 [.ptr k 0 0,.ptr (k+1) 0 0] h .ret fun m' h'=>m' = .ret∧h'=h:=by
 refine Qa2.mono (QbG (Q:=fun h'=>h'=h) Tryd.func31 rfl Tryd.call31 Tryd.ntmps31 (congrArg Array.toList Tryd.results31) (by simp) (by decide) (by decide) .ret ?_) (fun m' h' q=>q)
 have hn2:∀xo yo,pv Tryd.prog (do eqGuard .neq 20 xo yo .nilIface .nilIface;binOp .neq 20 .nilIface .nilIface)=some (.bool false):=fun xo yo=>by
  cases xo <;> cases yo <;> kernel_rfl
 repeat (first|(((with_reducible refine Qa fun K E hK hE=>?_));simp -implicitDefEqProofs only[Qc,Qd,OpW,aop,AS.ev,↓reduceIte,Nat.reduceLT,aBin,recV,hn2])|(with_reducible refine Qk ?_)|((with_reducible refine hK _ ?_);clear hK)|(refine Qh rfl ?_;simp only[↓reduceIte,QrN]))
 simp -implicitDefEqProofs only[QrL,QrP,List.mapM_nil,Option.pure_def,QrL,QH,Qo,QrT]
 exact .inr ⟨⟨_,rfl⟩,rfl⟩
theorem Qmp{h:AH}{k:Nat}{a0 e0:Int}(hk:h[k]? = some (iC a0))(hk1:h[k+1]? = some (eC e0))(p e:Int):Qa2 Tryd.prog 31 [.ptr k 0 0,.ptr (k+1) 0 0] h (.pan (Fl p e) false) fun m' h'=>m' = .pan (Fl p e) true∧∃L,h'=(h.set k (iC p)).set (k+1) (eC e)++L:=by
 refine Qa2.mono (QbG (Q:=fun h'=>∃L,h'=(h.set k (iC p)).set (k+1) (eC e)++L) Tryd.func31 rfl Tryd.call31 Tryd.ntmps31 (congrArg Array.toList Tryd.results31) (by simp) (by decide) (by decide) (.pan (Fl p e) false) ?_) (fun m' h' q=>q)
 have hn:∀H,notNil Tryd.prog 20 H (.ifc 87 (.agg [.i p,.i e])) .nilIface=true:=fun H=>by kernel_rfl
 have ha:QfY Tryd.prog (.ifc 87 (.agg [.i p,.i e])) 20 87 true=some (.tup [.agg [.i p,.i e],.v (.bool true)]):=by kernel_rfl
 have l1:=Qs hk
 have l2:=Qs hk1
 have g1:∀L,(h++L)[k]? = some (iC a0):=fun L=>hext hk L
 have g2:∀L y,((h++L).set k y)[k+1]? = some (eC e0):=fun L y=>by rw[List.getElem?_set_ne (by omega)];exact hext hk1 L
 repeat (first|(((with_reducible refine Qa fun K E hK hE=>?_));simp -implicitDefEqProofs only[Qc,Qd,OpW,aop,undef,AS.ev,AV.QqY,↓reduceIte,Qu,Ql,aBin,Q1,ti87,zi87,recV,Fl,hn,ha,seval])|(with_reducible (first|refine Qf fun K hK=>?_|refine Qk ?_|refine Qb ?_))|((with_reducible refine hK _ ?_);clear hK)|(refine Qh rfl ?_;simp only[↓reduceIte,QrN]))
 refine Qg1 h.length 3 0 0 (ty:=87) (s:=2) (xs:=[.agg [.i p,.i e]]) (by rw[List.getElem?_append_right (Nat.le_refl _),Nat.sub_self];rfl) rfl ?_
 have g3:(h++[AB.cells 87 2 [.agg [.i p,.i e]]]).set h.length .dead=h++[.dead]:=by rw[List.set_append_right _ _ (Nat.le_refl _),Nat.sub_self];rfl
 rw[g3]
 repeat (first|(((refine Xh (id:=5) [(0,1),(1,1),(2,1),(3,1),(4,2),(5,2)] mixed (by kernel_rfl) fun K hK=>?_));simp -implicitDefEqProofs only[Qc,Qd,aop,undef,AS.ev,Qr,AV.QqY,↓reduceIte,Qg,Qw,Qv,Qu,Ql,ti3,ti27,QpI,QpJ,g1,g2,seval])|((with_reducible refine hK _ ?_);clear hK))
 simp -implicitDefEqProofs only[QrL,QrP,List.mapM_nil,Option.pure_def,QrL,QH,Qo,QrT]
 refine .inr ⟨⟨_,rfl⟩,[.dead],?_⟩
 rw[List.set_append_left _ _ l1,List.set_append_left _ _ (by rw[List.length_set];exact l2)]
def symC:Array Value:=(Xn.map fun x=>Value.string (mkB x)).toArray
def ZJ(h:AH):Prop:=HasG h 0 symC
theorem QnT(j:Nat)(h:j<Xn.length):pv Tryd.prog (Instr.index 141 (.agg symC) (.int .i64 (j:Int)))=some (.string (mkB Xn[j])):=by
 have h23:j<23:=h
 have key:∀m:Fin 23,pv Tryd.prog (Instr.index 141 (.agg symC) (.int .i64 ((m:Nat):Int)))=some (.string (mkB (Xn[(m:Nat)]'m.isLt))):=by
  have hx:∀(m:Fin 23),(match pv Tryd.prog (Instr.index 141 (.agg symC) (.int .i64 ((m:Nat):Int)))with|some (.string b)=>b.data.toList==Xn[(m:Nat)]'m.isLt|_=>false)=true:=by decide +kernel
  intro m
  have:=hx m
  split at this
  ·rename_i b hb
   rw[hb]
   rw[show b=mkB (Xn[(m:Nat)]'m.isLt)from by rw[←beq_iff_eq.1 this];exact(QdF b).symm]
  ·cases this
 exact key ⟨j,h23⟩
theorem QaV(x l:List UInt8):x.isPrefixOf l=(l.take x.length==x):=by
 rw[Bool.eq_iff_iff,List.isPrefixOf_iff_prefix,beq_iff_eq,List.prefix_iff_eq_take]
 exact eq_comm
theorem QcP(l:List UInt8)(k n:Nat)(h:k+n≤l.length):((mkB l).extract k (k+n)).toList=(l.drop k).take n:=by
 rw[Lib.toList_data,ByteArray.data_extract,mkB]
 simp only[Array.toList_extract,List.extract_eq_take_drop]
 rw[Nat.add_sub_cancel_left]
theorem YE(l:List UInt8)(k n:Nat)(h:k+n≤l.length):(mkB l).extract k (k+n)=mkB ((l.drop k).take n):=by
 apply toList_inj
 rw[QcP l k n h,Qco]
theorem QiI(l:List UInt8)(hl:l.length≤16384)(k:Nat)(hk:k≤l.length)(h:AH)(hG:ZJ h) :
  QL Tryd.prog 98 [.v (.string (mkB l)),.i k] h fun o h'=>o = .ret (.v (.string (mkB ((QbF (l.drop k)).getD []))))∧h'=h:=by
 have hsl:=fun b=>Yi Tryd.prog 9 3 (by kernel_rfl) b
 have z1:¬((k:Nat):Int)<0:=by omega
 have z2:¬((l.length:Nat):Int)<((k:Nat):Int):=by omega
 have z3:¬((k:Nat):Int)>((l.length:Nat):Int):=by omega
 refine Qe Tryd.func98 rfl Tryd.call98 Tryd.ntmps98 Tryd.results98 (by simp) ?_
 iterate 10 (try (first|(((with_reducible refine Qa fun K E hK hE=>?_));simp -implicitDefEqProofs only[Qc,Qd,OpW,aop,undef,AS.ev,Qr,↓reduceIte,aBin,aLen,goInt,hsl,QA,z1,z2,seval])|(with_reducible (first|refine Qf fun K hK=>?_|refine Qk ?_|refine Qb ?_))|((with_reducible refine hK _ ?_);clear hK)|(refine Qh rfl ?_;simp only[↓reduceIte,QrN])))
 refine QeW 0 rfl fun K E hK hE=>?_
 simp -implicitDefEqProofs only[Qc,Qd,OpW,aop,AS.ev,Nat.reduceLT,QqW,Qm4]
 refine⟨_,symC,rfl,hG,rfl,rfl,?_⟩
 refine hK _ ?_
 clear hK hE
 iterate 1 (try ((with_reducible refine Qi ?_)))
 obtain⟨I,hI⟩:∃I:Nat→AS→Prop,I=fun m' s=>∃j:Nat,m'=Xn.length - j∧j≤Xn.length∧(Xn.drop j).find? (fun x=>x.isPrefixOf (l.drop k))=QbF (l.drop k)∧s.tm 0 = .v (.string (mkB l))∧s.tm 1 = .i k∧s.tm 15 = .v (.agg symC)∧s.tm 16 = .i j∧s.h=h:=⟨_,rfl⟩;refine QR I ?_ (m:=Xn.length) ?_
 ·intro m' s hs;rw[hI]at hs;obtain⟨tm,hp⟩:=s;dsimp only at hs;obtain⟨j,rfl,hj,he,t0,t1,t15,t16,rfl⟩:=hs
  by_cases hlt:j<Xn.length
  ·have y1:((j:Nat):Int)<23:=by have:Xn.length=23:=rfl;omega
   have hix:=QnT j hlt
   have hx3:Xn[j].length≤3:=by have:∀x∈Xn,x.length≤3:=(by decide);exact this _ (List.getElem_mem hlt)
   rw[List.drop_eq_getElem_cons hlt,List.find?_cons]at he
   generalize hx:Xn[j]=x at *
   have w1:IntKind.i64.wrap (((l.length:Nat):Int) - ((k:Nat):Int))=((l.length - k:Nat):Int):=by rw[Xt (by omega)];omega
   have w2:IntKind.i64.wrap (((k:Nat):Int)+((x.length:Nat):Int))=((k+x.length:Nat):Int):=by rw[Xt (by omega)];omega
   have w3:IntKind.i64.wrap (((j:Nat):Int)+1)=((j+1:Nat):Int):=XE (by omega)
   by_cases hle:x.length≤l.length - k
   ·have y2:((x.length:Nat):Int)≤((l.length - k:Nat):Int):=by omega
    have y3:((l.length - k:Nat):Int)≥((x.length:Nat):Int):=by omega
    have hsp:=Zg Tryd.prog 9 (by kernel_rfl) (mkB l) (some (.i64,(k:Nat))) (some (.i64,(k+x.length:Nat))) k (k+x.length) ⟨by omega,by rw[QA];omega,by omega⟩ ⟨by omega,by omega,by omega⟩
    simp only[QrL]at hsp
    have hq:(((mkB l).extract k (k+x.length)).toList==(mkB x).toList)=x.isPrefixOf (l.drop k):=by rw[QcP l k _ (by omega),Qco,QaV]
    cases hc:x.isPrefixOf (l.drop k)with
    |true =>
     rw[hc]at hq he
     repeat (first|(((with_reducible refine Qa fun K E hK hE=>?_));simp -implicitDefEqProofs only[Qc,Qd,OpW,aop,AS.ev,↓reduceIte,aBin,Xf,aLen,goInt,ei9,t0,t1,t15,t16,hsl,QA,y1,y2,hix,w1,w2,hsp,hq,seval])|(with_reducible (first|refine Qf fun K hK=>?_|refine Qi ?_|refine Qm ?_|refine Qk ?_|refine Qb ?_|refine Qy ?_|refine QE ?_))|((with_reducible refine hK _ ?_);clear hK)|(refine Qh rfl ?_;simp only[↓reduceIte]))
     simp only[QH,Qo,Qt,upd,↓reduceIte,QrP,QrT]
     exact Qq List.take_length (.keep (.v _)) ⟨by rw[←he];rfl,rfl⟩
    |false =>
     rw[hc]at hq he
     repeat (first|((first|(with_reducible (first|refine Qa fun K E hK hE=>?_|refine Qj fun K E hK hE=>?_)));simp -implicitDefEqProofs only[Qc,Qd,OpW,aop,AS.ev,↓reduceIte,aBin,Xf,aLen,goInt,ei9,t0,t1,t15,t16,hsl,QA,y1,y2,hix,w1,w2,w3,hsp,hq,seval])|(with_reducible (first|refine Qf fun K hK=>?_|refine Qi ?_|refine Qk ?_|refine Qb ?_|refine Qn ?_))|((with_reducible refine hK _ ?_);clear hK)|(refine Qh rfl ?_;simp only[↓reduceIte,QrN]))
     refine Xi.mk (m':=Xn.length - (j+1)) (by omega) ?_
     rw[hI]
     exact⟨j+1,rfl,by omega,he,t0,t1,t15,rfl,rfl⟩
   ·have y2:¬((x.length:Nat):Int)≤((l.length - k:Nat):Int):=by omega
    have y3:¬((l.length - k:Nat):Int)≥((x.length:Nat):Int):=by omega
    have hc:x.isPrefixOf (l.drop k)=false:=by
     rw[QaV,beq_eq_false_iff_ne]
     intro e
     have:=congrArg List.length e
     rw[List.length_take,List.length_drop]at this
     omega
    rw[hc]at he
    repeat (first|((first|(with_reducible (first|refine Qa fun K E hK hE=>?_|refine Qj fun K E hK hE=>?_)));simp -implicitDefEqProofs only[Qc,Qd,OpW,aop,undef,AS.ev,↓reduceIte,aBin,aLen,goInt,t0,t1,t15,t16,hsl,QA,y1,y2,hix,w1,w3,seval])|(with_reducible (first|refine Qf fun K hK=>?_|refine Qi ?_|refine Qk ?_|refine Qb ?_|refine Qn ?_))|((with_reducible refine hK _ ?_);clear hK)|(refine Qh rfl ?_;simp only[↓reduceIte,QrN]))
    refine Xi.mk (m':=Xn.length - (j+1)) (by omega) ?_
    rw[hI]
    exact⟨j+1,rfl,by omega,he,t0,t1,t15,rfl,rfl⟩
  ·have hjl:j=Xn.length:=by omega
   have y1:¬((j:Nat):Int)<23:=by have:Xn.length=23:=rfl;omega
   rw[hjl,List.drop_length,List.find?_nil]at he
   repeat (first|(((with_reducible refine Qa fun K E hK hE=>?_));simp -implicitDefEqProofs only[Qc,Qd,OpW,aop,AS.ev,Nat.reduceLT,aBin,t16,y1])|(with_reducible (first|refine Qf fun K hK=>?_|refine Qm ?_|refine QF ?_|refine Qb ?_|refine QD ?_|refine QC ?_))|((with_reducible refine hK _ ?_);clear hK)|(clear hK;(with_reducible refine hK _ ?_);clear hK)|(refine Qh rfl ?_;simp only[↓reduceIte,QrN]))
   simp only[QH,Qo,Qt,upd,↓reduceIte,QrP,QrT]
   exact Qq List.take_length (.keep (.v _)) ⟨by rw[←he];rfl,rfl⟩
 ·rw[hI]
  exact⟨0,rfl,Nat.zero_le _,rfl,rfl,rfl,rfl,rfl,rfl⟩
end Go.Proofs.YticgcpebdldbgaaDoor.Ab
set_option maxRecDepth 4000
namespace Go.Proofs.YticgcpebdldbgaaDoor.Ab
open Go.Proofs
def tkv(k i:Int)(x:List UInt8):AV:=.agg [.i k,.i i,.v (.string (mkB x))]
def zTok:AV:=.agg [.i 0,.i 0,.v (.string {data:=#[]})]
theorem QcE(n:Nat)(k i:Int)(x:List UInt8):Below n (tkv k i x):=.agg _ fun a ha=>by
 simp only[List.mem_cons,List.not_mem_nil,or_false]at ha
 rcases ha with rfl|rfl|rfl <;> exact .v _
theorem Z4{n:Nat}{t:AV}(ht:Below n t)(a b:Int):Below n (.tup [t,.i a,.i b]):=.tup _ fun x hx=>by
 simp only[List.mem_cons,List.not_mem_nil,or_false]at hx
 rcases hx with rfl|rfl|rfl
 ·exact ht
 ·exact .v _
 ·exact .v _
def rdT(k:Nat):Int×List UInt8 ⊕ Int→AV
 | .inl (kd,x)=>.tup [tkv kd k x,.i ((k+x.length:Nat):Int),.i 0]
 | .inr e=>.tup [zTok,.i k,.i e]
theorem Qpu:zTok=tkv 0 0 []:=rfl
theorem XH(n k:Nat)(r:Int×List UInt8 ⊕ Int):Below n (rdT k r):=by
 cases r with
 |inl p=>exact Z4 (QcE n _ _ _) _ _
 |inr e=>exact Z4 (Qpu▸QcE n _ _ _) _ _
theorem QiU(c:UInt8):(clsN (c.toNat:Nat)=2∧isL c=true∧97≤c.toNat)∨(clsN (c.toNat:Nat)=3∧isL c=true∧¬97≤c.toNat)∨(clsN (c.toNat:Nat)=4∧isL c=false∧isD c=true)∨((clsN (c.toNat:Nat)=0∨clsN (c.toNat:Nat)=1)∧isL c=false∧isD c=false):=by
 have hc:=c.toNat_lt
 unfold clsN isL isD
 simp only[decide_eq_true_eq,decide_eq_false_iff_not]
 repeat' split
 all_goals omega
section
variable(l:List UInt8)(hl:l.length≤16384)(k:Nat)(h:AH)
include hl
theorem QmO(hk:k=l.length):QL Tryd.prog 89 [.v (.string (mkB l)),.i k] h fun o h'=>o = .ret (rdT k (Xv (l.drop k)))∧h'=h:=by
 have _hu:=hl
 have hsl:=fun b=>Yi Tryd.prog 9 3 (by kernel_rfl) b
 have z1:(((k:Nat):Int)==((l.length:Nat):Int))=true:=by rw[hk];simp
 have e:rdT k (Xv (l.drop k)) = .tup [tkv 0 k [],.i k,.i 0]:=by rw[hk,List.drop_length];rfl
 rw[e]
 refine Qe Tryd.func89 rfl Tryd.call89 Tryd.ntmps89 Tryd.results89 (by simp) ?_
 repeat (first|(((with_reducible refine Qa fun K E hK hE=>?_));simp -implicitDefEqProofs only[Qc,Qd,OpW,aop,undef,AS.ev,Qr,AV.QqY,↓reduceIte,Qg,Qw,Qv,Qu,Ql,aBin,aLen,goInt,ti3,ti60,Xc,zi60,hsl,QA,z1,seval])|(with_reducible (first|refine Qf fun K hK=>?_|refine Qm ?_|refine Qy ?_))|((with_reducible refine hK _ ?_);clear hK)|(refine Qh rfl ?_;simp only[↓reduceIte]))
 simp -implicitDefEqProofs only[Qc,↓reduceIte,Qw,Qv,ti60,List.mapM_cons,List.mapM_nil,Option.pure_def,Option.bind_eq_bind,Qw,Qv,QH,Qo,Qt,QrT,seval]
 exact Qq (htake _ _) (.keep (Z4 (QcE _ _ _ _) _ _)) ⟨rfl,rfl⟩
theorem QkH(hk:k<l.length)(hL:isL l[k]=true):QL Tryd.prog 89 [.v (.string (mkB l)),.i k] h fun o h'=>o = .ret (rdT k (Xv (l.drop k)))∧h'=h:=by
 have hsl:=fun b=>Yi Tryd.prog 9 3 (by kernel_rfl) b
 have z1:(((k:Nat):Int)==((l.length:Nat):Int))=false:=by simp;omega
 have hix:=XP Tryd.prog 9 (by kernel_rfl) (mkB l) k (by rw[QA];exact hk)
 rw[X7 l k hk]at hix
 have cp:=Qcc (((l[k]).toNat:Nat):Int)
 have cr:=QhB l hl isW 2 QpB k (by omega)
 have hd:=drop_cons hk
 have hn:((l.drop k).takeWhile isW).length≤l.length - k:=by rw[←List.length_drop];exact(List.takeWhile_prefix _).length_le
 obtain⟨w,hw⟩:∃w,w=(l.drop k).takeWhile isW:=⟨_,rfl⟩
 rw[←hw]at cr hn
 have ht:Xv (l.drop k)=if 40<w.length then .inr 7 else .inl (if 97≤l[k].toNat then 1 else 2,w):=by rw[hw,hd,Xv,if_pos hL]
 have w1:IntKind.i64.wrap (((k+w.length:Nat):Int) - ((k:Nat):Int))=((w.length:Nat):Int):=by rw[Xt (by omega)];omega
 have hsp:=Zg Tryd.prog 9 (by kernel_rfl) (mkB l) (some (.i64,(k:Nat))) (some (.i64,(k+w.length:Nat))) k (k+w.length) ⟨by omega,by rw[QA];omega,by omega⟩ ⟨by omega,by omega,by omega⟩
 simp only[QrL]at hsp
 have hwt:(l.drop k).take w.length=w:=by rw[hw];exact(List.prefix_iff_eq_take.1 (List.takeWhile_prefix isW)).symm
 rw[YE l k _ (by omega),hwt]at hsp
 have hcl:=QiU l[k]
 have q23:((2:Int)==3)=false:=rfl
 have q32:((3:Int)==2)=false:=rfl
 rw[ht]
 by_cases h40:40<w.length
 ·have y1:((w.length:Nat):Int)>40:=by omega
  have y2:(40:Int)<((w.length:Nat):Int):=by omega
  rw[if_pos h40]
  by_cases h97:97≤l[k].toNat
  ·have c2:clsN (((l[k]).toNat:Nat):Int)=2:=by rcases hcl with⟨a,b,c⟩|⟨a,b,c⟩|⟨a,b,c⟩|⟨a,b,c⟩ <;> first|exact a|omega|exact absurd (b.symm.trans hL) (by decide)
   rw[c2]at cp
   refine Qe Tryd.func89 rfl Tryd.call89 Tryd.ntmps89 Tryd.results89 (by simp) ?_
   repeat (first|((first|(with_reducible (first|refine Qa fun K E hK hE=>?_|refine Qz cp ?_|refine Qz cr ?_)));simp -implicitDefEqProofs only[Qc,Qd,OpW,QB,aop,undef,AS.ev,Qr,AV.QqY,↓reduceIte,Qg,Qu,Ql,aBin,QP,Q6,aLen,goInt,ti3,ti60,QK,Xc,zi60,sp60,hsl,QA,z1,hix,w1,y1,q23,seval])|(with_reducible (first|refine Qf fun K hK=>?_|refine Qi ?_|refine Qm ?_|refine Qk ?_|refine Qb ?_|refine Qy ?_|refine QE ?_))|((with_reducible refine hK _ ?_);clear hK)|(refine Qh rfl ?_;simp only[↓reduceIte,QrN]))
   simp -implicitDefEqProofs only[Qc,↓reduceIte,Qw,Qv,ti60,List.mapM_cons,List.mapM_nil,Option.pure_def,Option.bind_eq_bind,Qw,Qv,QH,Qo,Qt,QrT,seval]
   exact Qq (htake _ _) (.keep (XH _ _ (.inr 7))) ⟨rfl,rfl⟩
  ·have c2:clsN (((l[k]).toNat:Nat):Int)=3:=by rcases hcl with⟨a,b,c⟩|⟨a,b,c⟩|⟨a,b,c⟩|⟨a,b,c⟩ <;> first|exact a|omega|exact absurd (b.symm.trans hL) (by decide)
   rw[c2]at cp
   refine Qe Tryd.func89 rfl Tryd.call89 Tryd.ntmps89 Tryd.results89 (by simp) ?_
   repeat (first|((first|(with_reducible (first|refine Qa fun K E hK hE=>?_|refine Qj fun K E hK hE=>?_|refine Qz cp ?_|refine Qz cr ?_)));simp -implicitDefEqProofs only[Qc,Qd,OpW,QB,aop,undef,AS.ev,Qr,AV.QqY,↓reduceIte,Qg,Qu,Ql,aBin,QP,Q6,aLen,goInt,ti3,ti60,QK,Xc,zi60,sp60,hsl,QA,z1,hix,w1,y1,q32,seval])|(with_reducible (first|refine Qf fun K hK=>?_|refine Qi ?_|refine Qm ?_|refine Qk ?_|refine Qb ?_|refine Qy ?_|refine QE ?_))|((with_reducible refine hK _ ?_);clear hK)|(refine Qh rfl ?_;simp only[↓reduceIte,QrN]))
   simp -implicitDefEqProofs only[Qc,↓reduceIte,Qw,Qv,ti60,List.mapM_cons,List.mapM_nil,Option.pure_def,Option.bind_eq_bind,Qw,Qv,QH,Qo,Qt,QrT,seval]
   exact Qq (htake _ _) (.keep (XH _ _ (.inr 7))) ⟨rfl,rfl⟩
 ·have y1:¬((w.length:Nat):Int)>40:=by omega
  have y2:¬(40:Int)<((w.length:Nat):Int):=by omega
  rw[if_neg h40]
  by_cases h97:97≤l[k].toNat
  ·have c2:clsN (((l[k]).toNat:Nat):Int)=2:=by rcases hcl with⟨a,b,c⟩|⟨a,b,c⟩|⟨a,b,c⟩|⟨a,b,c⟩ <;> first|exact a|omega|exact absurd (b.symm.trans hL) (by decide)
   rw[c2]at cp
   rw[if_pos h97]
   refine Qe Tryd.func89 rfl Tryd.call89 Tryd.ntmps89 Tryd.results89 (by simp) ?_
   repeat (first|((first|(with_reducible (first|refine Qa fun K E hK hE=>?_|refine Qz cp ?_|refine Qz cr ?_)));simp -implicitDefEqProofs only[Qc,Qd,OpW,QB,aop,undef,AS.ev,Qr,AV.QqY,↓reduceIte,Qg,Qw,Qv,Qu,Ql,aBin,Xf,aLen,goInt,ti3,ti9,ei9,ti60,QK,Xc,QQ,zi60,hsl,QA,z1,hix,w1,y1,hsp,q23,seval])|(with_reducible (first|refine Qf fun K hK=>?_|refine Qi ?_|refine Qm ?_|refine Qk ?_|refine Qb ?_|refine Qn ?_))|((with_reducible refine hK _ ?_);clear hK)|(refine Qh rfl ?_;simp only[↓reduceIte,QrN]))
   simp -implicitDefEqProofs only[Qc,↓reduceIte,Qw,Qv,ti60,List.mapM_cons,List.mapM_nil,Option.pure_def,Option.bind_eq_bind,Qw,Qv,QH,Qo,Qt,QrT,seval]
   exact Qq (htake _ _) (.keep (XH _ k (.inl (1,w)))) ⟨rfl,rfl⟩
  ·have c2:clsN (((l[k]).toNat:Nat):Int)=3:=by rcases hcl with⟨a,b,c⟩|⟨a,b,c⟩|⟨a,b,c⟩|⟨a,b,c⟩ <;> first|exact a|omega|exact absurd (b.symm.trans hL) (by decide)
   rw[c2]at cp
   rw[if_neg h97]
   refine Qe Tryd.func89 rfl Tryd.call89 Tryd.ntmps89 Tryd.results89 (by simp) ?_
   repeat (first|((first|(with_reducible (first|refine Qa fun K E hK hE=>?_|refine Qj fun K E hK hE=>?_|refine Qz cp ?_|refine Qz cr ?_)));simp -implicitDefEqProofs only[Qc,Qd,OpW,QB,aop,undef,AS.ev,Qr,AV.QqY,↓reduceIte,Qg,Qw,Qv,Qu,Ql,aBin,Xf,aLen,goInt,ti3,ti9,ei9,ti60,QK,Xc,QQ,zi60,hsl,QA,z1,hix,w1,y1,hsp,q32,seval])|(with_reducible (first|refine Qf fun K hK=>?_|refine Qi ?_|refine Qm ?_|refine Qk ?_|refine Qb ?_|refine Qn ?_))|((with_reducible refine hK _ ?_);clear hK)|(refine Qh rfl ?_;simp only[↓reduceIte,QrN]))
   simp -implicitDefEqProofs only[Qc,↓reduceIte,Qw,Qv,ti60,List.mapM_cons,List.mapM_nil,Option.pure_def,Option.bind_eq_bind,Qw,Qv,QH,Qo,Qt,QrT,seval]
   exact Qq (htake _ _) (.keep (XH _ k (.inl (2,w)))) ⟨rfl,rfl⟩
theorem QmQ(hk:k<l.length)(hL:isL l[k]=false)(hD:isD l[k]=false)(hG:ZJ h):QL Tryd.prog 89 [.v (.string (mkB l)),.i k] h fun o h'=>o = .ret (rdT k (Xv (l.drop k)))∧h'=h:=by
 have hsl:=fun b=>Yi Tryd.prog 9 3 (by kernel_rfl) b
 have z1:(((k:Nat):Int)==((l.length:Nat):Int))=false:=by simp;omega
 have hix:=XP Tryd.prog 9 (by kernel_rfl) (mkB l) k (by rw[QA];exact hk)
 rw[X7 l k hk]at hix
 have cp:=Qcc (((l[k]).toNat:Nat):Int)
 have hd:=drop_cons hk
 have cs:=fun b=>QiI l hl k (by omega) (h++[b]) (hG.app [b])
 have ht:Xv (l.drop k)=match QbF (l.drop k)with|some x=>.inl (4,x)|none=>.inr 16:=by rw[hd,Xv,if_neg (by rw[hL];decide),if_neg (by rw[hD];decide)];rfl
 have hcl:=QiU l[k]
 have c0:clsN (((l[k]).toNat:Nat):Int)=0∨clsN (((l[k]).toNat:Nat):Int)=1:=by rcases hcl with⟨a,b,c⟩|⟨a,b,c⟩|⟨a,b,c⟩|⟨a,b,c⟩ <;> first|exact a|exact absurd (b.symm.trans hL) (by decide)|exact absurd (c.symm.trans hD) (by decide)
 generalize hcn:clsN (((l[k]).toNat:Nat):Int)=cn at *
 clear hcl
 have u2:(cn==2)=false:=by simp;omega
 have u3:(cn==3)=false:=by simp;omega
 have u4:(cn==4)=false:=by simp;omega
 rw[ht]
 cases hs:QbF (l.drop k)with
 |none =>
  rw[hs]at cs
  have hq:((mkB []).toList==({data:=#[]}:ByteArray).toList)=true:=by rw[Qco,Lib.toList_data];rfl
  simp only[Option.getD_none]at cs
  refine Qe Tryd.func89 rfl Tryd.call89 Tryd.ntmps89 Tryd.results89 (by simp) ?_
  repeat (first|((first|(with_reducible (first|refine Qa fun K E hK hE=>?_|refine Qj fun K E hK hE=>?_|refine Qz cp ?_|refine FunW.QqZ (cs _) ?_)));simp -implicitDefEqProofs only[Qc,Qd,OpW,QB,aop,undef,AS.ev,Qr,AV.QqY,↓reduceIte,Qg,Qu,Ql,aBin,QP,Q6,aLen,goInt,ti3,ti60,Xc,zi60,sp60,hsl,QA,z1,hix,u2,u3,u4,hq,seval])|(with_reducible (first|refine Qf fun K hK=>?_|refine Qi ?_|refine Qm ?_|refine Qk ?_|refine Qb ?_|refine Qy ?_|refine QE ?_))|((with_reducible refine hK _ ?_);clear hK)|(refine Qh rfl ?_;simp only[↓reduceIte,QrN]))
  simp -implicitDefEqProofs only[Qc,↓reduceIte,Qw,Qv,ti60,List.mapM_cons,List.mapM_nil,Option.pure_def,Option.bind_eq_bind,Qw,Qv,QH,Qo,Qt,QrT,seval]
  exact Qq (htake _ _) (.keep (XH _ _ (.inr 16))) ⟨rfl,rfl⟩
 |some x =>
  rw[hs]at cs
  obtain⟨x1,x3,xp⟩:=QeJ hs
  rw[QaV,beq_iff_eq]at xp
  have xl:x.length≤l.length - k:=by have:=congrArg List.length xp;rw[List.length_take,List.length_drop]at this;omega
  have hq:((mkB x).toList==({data:=#[]}:ByteArray).toList)=false:=by
   rw[Qco,beq_eq_false_iff_ne]
   intro e
   have:=congrArg List.length e
   rw[Lib.toList_data,show({data:=#[]}:ByteArray).data.toList.length=0 from rfl]at this
   omega
  simp only[Option.getD_some]at cs
  have w1:IntKind.i64.wrap (((k:Nat):Int)+((x.length:Nat):Int))=((k+x.length:Nat):Int):=by rw[Xt (by omega)];omega
  have hsp:=Zg Tryd.prog 9 (by kernel_rfl) (mkB l) (some (.i64,(k:Nat))) (some (.i64,(k+x.length:Nat))) k (k+x.length) ⟨by omega,by rw[QA];omega,by omega⟩ ⟨by omega,by omega,by omega⟩
  simp only[QrL]at hsp
  rw[YE l k _ (by omega),xp]at hsp
  refine Qe Tryd.func89 rfl Tryd.call89 Tryd.ntmps89 Tryd.results89 (by simp) ?_
  repeat (first|((first|(with_reducible (first|refine Qa fun K E hK hE=>?_|refine Qj fun K E hK hE=>?_|refine Qz cp ?_|refine FunW.QqZ (cs _) ?_)));simp -implicitDefEqProofs only[Qc,Qd,OpW,QB,aop,undef,AS.ev,Qr,AV.QqY,↓reduceIte,Qg,Qw,Qv,Qu,Ql,aBin,Xf,aLen,goInt,ti3,ti9,ei9,ti60,QK,Xc,QQ,zi60,hsl,QA,z1,hix,u2,u3,u4,hq,w1,hsp,seval])|(with_reducible (first|refine Qf fun K hK=>?_|refine Qi ?_|refine Qm ?_|refine Qk ?_|refine Qb ?_|refine Qn ?_))|((with_reducible refine hK _ ?_);clear hK)|(refine Qh rfl ?_;simp only[↓reduceIte,QrN]))
  simp -implicitDefEqProofs only[Qc,↓reduceIte,Qw,Qv,ti60,List.mapM_cons,List.mapM_nil,Option.pure_def,Option.bind_eq_bind,Qw,Qv,QH,Qo,Qt,QrT,seval]
  exact Qq (htake _ _) (.keep (XH _ _ (.inl (4,x)))) ⟨rfl,rfl⟩
end
end Go.Proofs.YticgcpebdldbgaaDoor.Ab
set_option maxRecDepth 4000
namespace Go.Proofs.YticgcpebdldbgaaDoor.Ab
open Go.Proofs
theorem Qqq {n : Int} (h : 0 ≤ n ∧ n ≤ 255) : IntKind.u8.wrap n = n := IntWalk.u8_in n h
theorem Qp3 (n : Int) (hn : 0 ≤ n ∧ n < 256) : pv Tryd.prog (convert 5 3 (.int .u8 n)) = some (.int .i64 n) := by
  have : pv Tryd.prog (convert 5 3 (.int .u8 n)) = some (.int .i64 (IntKind.i64.wrap n)) := by kernel_rfl
  rw [this, Xt (by omega)]
theorem QcC (q : List UInt8) : ∃ j, j ≤ q.length ∧ QV false q = q.drop j := by
  have : ∀ (b : Bool) (q : List UInt8), ∃ j, j ≤ q.length ∧ QV b q = q.drop j := fun b q => by
    induction q generalizing b with
    | nil => exact ⟨0, Nat.le_refl _, by cases b <;> rfl⟩
    | cons c r ih =>
      cases b with
      | true =>
        rw [QV]
        split
        · obtain ⟨j, h1, h2⟩ := ih false; exact ⟨j + 1, by simp; omega, by rw [h2]; rfl⟩
        · obtain ⟨j, h1, h2⟩ := ih true; exact ⟨j + 1, by simp; omega, by rw [h2]; rfl⟩
      | false =>
        rw [QV]
        split
        · obtain ⟨j, h1, h2⟩ := ih false; exact ⟨j + 1, by simp; omega, by rw [h2]; rfl⟩
        · split
          · obtain ⟨j, h1, h2⟩ := ih true; exact ⟨j + 1, by simp; omega, by rw [h2]; rfl⟩
          · exact ⟨0, Nat.zero_le _, rfl⟩
  exact this false q
section
variable (l : List UInt8) (hl : l.length ≤ 16384) (k : Nat) (h : AH)
include hl
theorem QmP (hk : k < l.length) (hD : isD l[k] = true) : QL Tryd.prog 89 [.v (.string (mkB l)), .i k] h fun o h' => o = .ret (rdT k (Xv (l.drop k))) ∧ h' = h := by
  have hsl := fun b => Yi Tryd.prog 9 3 (by kernel_rfl) b
  have z1 : (((k : Nat) : Int) == ((l.length : Nat) : Int)) = false := by simp; omega
  have hix := XP Tryd.prog 9 (by kernel_rfl) (mkB l) k (by rw [QA]; exact hk)
  rw [X7 l k hk] at hix
  have cp := Qcc (((l[k]).toNat : Nat) : Int)
  have cr := QhB l hl isD 4 Qlj k (by omega)
  have hd := drop_cons hk
  have hn : ((l.drop k).takeWhile isD).length ≤ l.length - k := by rw [← List.length_drop]; exact (List.takeWhile_prefix _).length_le
  obtain ⟨w, hw⟩ : ∃ w, w = (l.drop k).takeWhile isD := ⟨_, rfl⟩
  rw [← hw] at cr hn
  have hL : isL l[k] = false := by rcases QiU l[k] with ⟨a, b, c⟩ | ⟨a, b, c⟩ | ⟨a, b, c⟩ | ⟨a, b, c⟩
                                   · exact absurd ((Qlj l[k]).2 hD) (by omega)
                                   · exact absurd ((Qlj l[k]).2 hD) (by omega)
                                   · exact b
                                   · exact b
  have c4 : clsN (((l[k]).toNat : Nat) : Int) = 4 := by rcases QiU l[k] with ⟨a, b, c⟩ | ⟨a, b, c⟩ | ⟨a, b, c⟩ | ⟨a, b, c⟩ <;> first | exact a | exact absurd (b.symm.trans hL) (by decide) | exact absurd (c.symm.trans hD) (by decide)
  rw [c4] at cp
  have ht : Xv (l.drop k) = if 2147483648 < numVal w then .inr 5 else .inl (3, w) := by rw [hw, hd, Xv, if_neg (by rw [hL]; decide), if_pos hD]
  have hsp := Zg Tryd.prog 9 (by kernel_rfl) (mkB l) (some (.i64, (k : Nat))) (some (.i64, (k + w.length : Nat))) k (k + w.length) ⟨by omega, by rw [QA]; omega, by omega⟩ ⟨by omega, by omega, by omega⟩
  simp only [QrL] at hsp
  have hwt : (l.drop k).take w.length = w := by rw [hw]; exact (List.prefix_iff_eq_take.1 (List.takeWhile_prefix isD)).symm
  rw [YE l k _ (by omega), hwt] at hsp
  have q42 : ((4 : Int) == 2) = false := rfl
  have q43 : ((4 : Int) == 3) = false := rfl
  have hwd : ∀ (j : Nat) (hj : j < w.length), l[k + j]'(by omega) = w[j] ∧ isD w[j] = true := fun j hj => by
    constructor
    · have : (l.drop k)[j]? = w[j]? := by
        conv => rhs; rw [← hwt, List.getElem?_take, if_pos hj]
      rw [List.getElem?_drop, List.getElem?_eq_getElem (by omega), List.getElem?_eq_getElem hj] at this
      exact Option.some.inj this
    · have : ∀ c ∈ w, isD c = true := fun c hc => by
        rw [hw] at hc
        exact List.all_eq_true.1 List.all_takeWhile c hc
      exact this _ (List.getElem_mem hj)
  rw [ht]
  refine Qe Tryd.func89 rfl Tryd.call89 Tryd.ntmps89 Tryd.results89 (by simp) ?_
  repeat (first | ((first | (with_reducible (first | refine Qa fun K E hK hE => ?_ | refine Qj fun K E hK hE => ?_ | refine Qz cp ?_ | refine Qz cr ?_))); simp -implicitDefEqProofs only [Qc, Qd, OpW, QB, aop, undef, AS.ev, Qr, AV.QqY, ↓reduceIte, Qg, Qu, Ql, aBin, aLen, goInt, ti3, QK, Xc, zi60, hsl, QA, z1, hix, q42, q43, seval]) | (with_reducible (first | refine Qf fun K hK => ?_ | refine Qi ?_ | refine Qk ?_ | refine Qb ?_)) | ((with_reducible refine hK _ ?_); clear hK) | (refine Qh rfl ?_; simp only [↓reduceIte, QrN]))
  obtain ⟨I, hI⟩ : ∃ I : Nat → AS → Prop, I = fun m' s => ∃ j : Nat, m' = w.length - j ∧ j ≤ w.length ∧ numVal (w.take j) ≤ 2147483648 ∧ s.tm 0 = .v (.string (mkB l)) ∧ s.tm 1 = .i k ∧ s.tm 4 = .ptr h.length 0 0 ∧ s.tm 5 = .i ((k + w.length : Nat) : Int) ∧ s.tm 7 = .i (numVal (w.take j) : Nat) ∧ s.tm 8 = .i ((k + j : Nat) : Int) ∧ s.h = h ++ [.cells 60 3 [.agg [.i 3, .i k, .v (.string { data := #[] })]]] := ⟨_, rfl⟩; refine QR I ?_ (m := w.length) ?_
  · intro m' s hs; rw [hI] at hs; obtain ⟨tm, hp⟩ := s; dsimp only at hs; obtain ⟨j, rfl, hj, hv, t0, t1, t4, t5, t7, t8, rfl⟩ := hs
    by_cases hlt : j < w.length
    · have y1 : (((k + j : Nat) : Int) < ((k + w.length : Nat) : Int)) := by omega
      obtain ⟨d1, d2⟩ := hwd j hlt
      have hix2 := XP Tryd.prog 9 (by kernel_rfl) (mkB l) (k + j) (by rw [QA]; omega)
      rw [X7 l (k + j) (by omega), d1] at hix2
      have hcd : 48 ≤ (w[j]).toNat ∧ (w[j]).toNat ≤ 57 := by unfold isD at d2; simpa using d2
      obtain ⟨n1, n2⟩ := QbW hlt
      generalize hnv : numVal (w.take j) = v at *
      have w1 : IntKind.i64.wrap (10 * ((v : Nat) : Int)) = ((10 * v : Nat) : Int) := by rw [Xt (by omega)]; omega
      have w2 : IntKind.u8.wrap ((((w[j]).toNat : Nat) : Int) - 48) = (((w[j]).toNat - 48 : Nat) : Int) := by rw [Qqq (by omega)]; omega
      have w3 := Qp3 (((w[j]).toNat - 48 : Nat) : Int) (by omega)
      have w4 : IntKind.i64.wrap (((10 * v : Nat) : Int) + (((w[j]).toNat - 48 : Nat) : Int)) = ((numVal (w.take (j + 1)) : Nat) : Int) := by rw [Xt (by omega)]; omega
      have w5 : IntKind.i64.wrap (((k + j : Nat) : Int) + 1) = ((k + (j + 1) : Nat) : Int) := by rw [Xt (by omega)]; omega
      by_cases hb : 2147483648 < numVal (w.take (j + 1))
      · have y2 : ((numVal (w.take (j + 1)) : Nat) : Int) > 2147483648 := by omega
        have y3 : (2147483648 : Int) < ((numVal (w.take (j + 1)) : Nat) : Int) := by omega
        rw [show (if 2147483648 < numVal w then (Sum.inr 5 : Int × List UInt8 ⊕ Int) else .inl (3, w)) = .inr 5 from if_pos (by omega)]
        repeat (first | (((with_reducible refine Qa fun K E hK hE => ?_)); simp -implicitDefEqProofs only [Qc, Qd, OpW, aop, undef, AS.ev, AV.QqY, ↓reduceIte, Qu, Ql, aBin, QP, Q6, ti60, zi60, sp60, t0, t1, t4, t5, t7, t8, y1, hix2, w1, w2, w3, w4, y2, seval]) | (with_reducible (first | refine Qf fun K hK => ?_ | refine Qi ?_ | refine Qm ?_ | refine Qk ?_ | refine Qb ?_ | refine Qy ?_ | refine QE ?_)) | ((with_reducible refine hK _ ?_); clear hK) | (refine Qh rfl ?_; simp only [↓reduceIte]))
        simp -implicitDefEqProofs only [Qc, ↓reduceIte, Qw, Qv, ti60, List.mapM_cons, List.mapM_nil, Option.pure_def, Option.bind_eq_bind, t4, Qw, Qv, QH, Qo, Qt, QrT, seval]
        exact Qq (htake _ _) (.keep (XH _ k (.inr 5))) ⟨rfl, rfl⟩
      · have y2 : ¬ ((numVal (w.take (j + 1)) : Nat) : Int) > 2147483648 := by omega
        have y3 : ¬ (2147483648 : Int) < ((numVal (w.take (j + 1)) : Nat) : Int) := by omega
        repeat (first | ((first | (with_reducible (first | refine Qa fun K E hK hE => ?_ | refine Qj fun K E hK hE => ?_))); simp -implicitDefEqProofs only [Qc, Qd, OpW, aop, AS.ev, ↓reduceIte, aBin, t0, t5, t7, t8, y1, hix2, w1, w2, w3, w4, y2, w5, seval]) | (with_reducible (first | refine Qf fun K hK => ?_ | refine Qi ?_ | refine Qk ?_ | refine Qb ?_ | refine Qn ?_)) | ((with_reducible refine hK _ ?_); clear hK) | (refine Qh rfl ?_; simp only [↓reduceIte, QrN]))
        refine Xi.mk (m' := w.length - (j + 1)) (by omega) ?_
        rw [hI]
        exact ⟨j + 1, rfl, hlt, by omega, t0, t1, t4, t5, rfl, rfl, rfl⟩
    · have hjl : j = w.length := by omega
      have y1 : ¬ (((k + j : Nat) : Int) < ((k + w.length : Nat) : Int)) := by omega
      rw [hjl, List.take_length] at hv
      repeat (first | (((with_reducible refine Qa fun K E hK hE => ?_)); simp -implicitDefEqProofs only [Qc, Qd, OpW, aop, undef, AS.ev, AV.QqY, ↓reduceIte, Qg, Qw, Qv, Qu, Ql, aBin, Xf, ti9, ei9, ti60, QQ, t0, t1, t4, t5, t8, y1, hsp, seval]) | (with_reducible (first | refine Qf fun K hK => ?_ | refine Qm ?_ | refine QF ?_ | refine Qb ?_ | refine QD ?_ | refine Qn ?_ | refine QC ?_)) | ((with_reducible refine hK _ ?_); clear hK) | (clear hK; (with_reducible refine hK _ ?_); clear hK) | (refine Qh rfl ?_; simp only [↓reduceIte, QrN]))
      simp -implicitDefEqProofs only [Qc, ↓reduceIte, Qw, Qv, ti60, List.mapM_cons, List.mapM_nil, Option.pure_def, Option.bind_eq_bind, t4, Qw, Qv, QH, Qo, Qt, QrT, seval]
      exact Qq (htake _ _) (.keep (XH _ k (.inl (3, w)))) ⟨by rw [show (if 2147483648 < numVal w then (Sum.inr 5 : Int × List UInt8 ⊕ Int) else .inl (3, w)) = .inl (3, w) from if_neg (by omega)]; rfl, rfl⟩
  · rw [hI]
    refine ⟨0, rfl, Nat.zero_le _, by simp [numVal], rfl, rfl, rfl, rfl, rfl, rfl, rfl⟩
theorem QkG (hk : k ≤ l.length) (hG : ZJ h) : QL Tryd.prog 89 [.v (.string (mkB l)), .i k] h fun o h' => o = .ret (rdT k (Xv (l.drop k))) ∧ h' = h := by
  by_cases e : k = l.length
  · exact QmO l hl k h e
  · have hlt : k < l.length := by omega
    by_cases hL : isL l[k] = true
    · exact QkH l hl k h hlt hL
    · by_cases hD : isD l[k] = true
      · exact QmP l hl k h hlt hD
      · exact QmQ l hl k h hlt (by simpa using hL) (by simpa using hD) hG
def Qeo (tot : Nat) (q : List UInt8) : AV := rdT (tot - (QV false q).length) (Xv (QV false q))
theorem QnE (hk : k ≤ l.length) (hG : ZJ h) : QL Tryd.prog 77 [.v (.string (mkB l)), .i k] h fun o h' => o = .ret (Qeo l.length (l.drop k)) ∧ h' = h := by
  have hsl := fun b => Yi Tryd.prog 9 3 (by kernel_rfl) b
  have z1 : ¬ ((k : Nat) : Int) < 0 := by omega
  have z2 : ¬ ((l.length : Nat) : Int) < ((k : Nat) : Int) := by omega
  have z3 : ¬ ((k : Nat) : Int) > ((l.length : Nat) : Int) := by omega
  have z4 : ¬ ((l.length : Nat) : Int) > 16384 := by omega
  have z5 : ¬ (16384 : Int) < ((l.length : Nat) : Int) := by omega
  have cs := Qkw l hl k hk
  obtain ⟨j, j1, j2⟩ := QcC (l.drop k)
  have e1 : QV false (l.drop k) = l.drop (l.length - (QV false (l.drop k)).length) := by
    rw [List.length_drop] at j1
    rw [j2, List.drop_drop, List.length_drop]
    congr 1; omega
  have cr := fun b => QkG l hl (l.length - (QV false (l.drop k)).length) (h ++ [b]) (by omega) (hG.app [b])
  rw [← e1] at cr
  have fin : ∀ n, Below n (Qeo l.length (l.drop k)) := fun n => XH _ _ _
  cases hr : Xv (QV false (l.drop k)) with
  | inl p =>
    obtain ⟨kd, x⟩ := p
    have e2 : Qeo l.length (l.drop k) = rdT (l.length - (QV false (l.drop k)).length) (.inl (kd, x)) := by rw [Qeo, hr]
    rw [e2] at fin ⊢
    rw [hr] at cr
    generalize l.length - (QV false (l.drop k)).length = i at *
    refine Qe Tryd.func77 rfl Tryd.call77 Tryd.ntmps77 Tryd.results77 (by simp) ?_
    repeat (first | ((first | (with_reducible (first | refine Qa fun K E hK hE => ?_ | refine Qz cs ?_ | refine FunW.QqZ (cr _) ?_))); simp -implicitDefEqProofs only [Qc, Qd, OpW, QB, aop, undef, AS.ev, Qr, AV.QqY, ↓reduceIte, Qu, Ql, aBin, Q1, aLen, goInt, ti60, zi60, hsl, QA, z1, z2, z4, rdT, tkv, seval]) | (with_reducible (first | refine Qf fun K hK => ?_ | refine Qm ?_ | refine Qk ?_ | refine Qb ?_)) | ((with_reducible refine hK _ ?_); clear hK) | (refine Qh rfl ?_; simp only [↓reduceIte, QrN]))
    simp -implicitDefEqProofs only [Qc, ↓reduceIte, ti60, List.mapM_cons, List.mapM_nil, Option.pure_def, Option.bind_eq_bind, Qw, Qv, QH, Qo, Qt, QrT, seval]
    exact Qq (htake _ _) (.keep (fin _)) ⟨rfl, rfl⟩
  | inr e =>
    have e2 : Qeo l.length (l.drop k) = rdT (l.length - (QV false (l.drop k)).length) (.inr e) := by rw [Qeo, hr]
    rw [e2] at fin ⊢
    rw [hr] at cr
    generalize l.length - (QV false (l.drop k)).length = i at *
    refine Qe Tryd.func77 rfl Tryd.call77 Tryd.ntmps77 Tryd.results77 (by simp) ?_
    repeat (first | ((first | (with_reducible (first | refine Qa fun K E hK hE => ?_ | refine Qz cs ?_ | refine FunW.QqZ (cr _) ?_))); simp -implicitDefEqProofs only [Qc, Qd, OpW, QB, aop, undef, AS.ev, Qr, AV.QqY, ↓reduceIte, Qu, Ql, aBin, Q1, aLen, goInt, ti60, zi60, hsl, QA, z1, z2, z4, rdT, zTok, seval]) | (with_reducible (first | refine Qf fun K hK => ?_ | refine Qm ?_ | refine Qk ?_ | refine Qb ?_)) | ((with_reducible refine hK _ ?_); clear hK) | (refine Qh rfl ?_; simp only [↓reduceIte, QrN]))
    simp -implicitDefEqProofs only [Qc, ↓reduceIte, ti60, List.mapM_cons, List.mapM_nil, Option.pure_def, Option.bind_eq_bind, Qw, Qv, QH, Qo, Qt, QrT, seval]
    exact Qq (htake _ _) (.keep (fin _)) ⟨rfl, rfl⟩
end
end Go.Proofs.YticgcpebdldbgaaDoor.Ab
set_option maxRecDepth 4000
namespace Go.Proofs.YticgcpebdldbgaaDoor.Ab
open Go.Proofs
def scR:List Tk ⊕ (Int×Int)→AV
 | .inl ts=>.tup [.sl 3 (tks ts) none,.i 0,.i 0]
 | .inr p=>.tup [.v (.slice none 0 0),.i p.1,.i p.2]
def scJ(ts:List Tk):List Tk ⊕ (Int×Int)→List Tk ⊕ (Int×Int)
 | .inl us=>.inl (ts++us)
 | .inr p=>.inr p
theorem QeF(n:Nat)(r:List Tk ⊕ (Int×Int)):Below n (scR r):=by
 cases r with
 |inl ts =>
  refine .tup _ fun x hx=>?_
  simp only[List.mem_cons,List.not_mem_nil,or_false]at hx
  rcases hx with rfl|rfl|rfl
  ·exact .sl 3 _ none (QbB _ _) (fun b hb=>by cases hb)
  ·exact .v _
  ·exact .v _
 |inr p =>
  refine .tup _ fun x hx=>?_
  simp only[List.mem_cons,List.not_mem_nil,or_false]at hx
  rcases hx with rfl|rfl|rfl <;> exact .v _
theorem QlZ(l:List UInt8)(hl:16384<l.length)(h:AH):QL Tryd.prog 77 [.v (.string (mkB l)),.i 0] h fun o h'=>o = .ret (.tup [zTok,.i 0,.i 6])∧h'=h:=by
 have hsl:=fun b=>Yi Tryd.prog 9 3 (by kernel_rfl) b
 have z1:¬(0:Int)<0:=by omega
 have z2:¬((l.length:Nat):Int)<0:=by omega
 have z3:¬(0:Int)>((l.length:Nat):Int):=by omega
 have z4:((l.length:Nat):Int)>16384:=by omega
 have z5:(16384:Int)<((l.length:Nat):Int):=by omega
 refine Qe Tryd.func77 rfl Tryd.call77 Tryd.ntmps77 Tryd.results77 (by simp) ?_
 repeat (first|(((with_reducible refine Qa fun K E hK hE=>?_));simp -implicitDefEqProofs only[Qc,Qd,OpW,aop,undef,AS.ev,Qr,AV.QqY,↓reduceIte,Qu,Ql,aBin,QP,Q6,aLen,goInt,ti60,zi60,sp60,hsl,QA,z1,z2,z4,seval])|(with_reducible (first|refine Qf fun K hK=>?_|refine Qm ?_|refine Qk ?_|refine Qb ?_|refine Qy ?_))|((with_reducible refine hK _ ?_);clear hK)|(refine Qh rfl ?_;simp only[↓reduceIte,QrN]))
 simp -implicitDefEqProofs only[Qc,↓reduceIte,ti60,List.mapM_cons,List.mapM_nil,Option.pure_def,Option.bind_eq_bind,Qw,Qv,QH,Qo,Qt,QrT,seval]
 exact Qq (htake _ _) (.keep (XH _ 0 (.inr 6))) ⟨rfl,rfl⟩
theorem QgF{q:List UInt8}{e:Int}(h:Xv q = .inr e):e≠0:=by
 cases q with
 |nil=>cases h
 |cons c r =>
  rw[Xv]at h
  split at h
  ·split at h
   ·cases h;decide
   ·cases h
  ·split at h
   ·split at h
    ·cases h;decide
    ·cases h
   ·split at h
    ·cases h
    ·cases h;decide
theorem QhD(l:List UInt8)(h:AH)(hG:ZJ h):QL Tryd.prog 58 [.v (.string (mkB l))] h fun o h'=>o = .ret (scR (XQ l))∧h'=h:=by
 by_cases hl:16384<l.length
 ·have cn:=fun L=>QlZ l hl (h++L)
  rw[XQ,if_pos hl]
  have e2:((6:Int) != 0)=true:=rfl
  refine Qe Tryd.func58 rfl Tryd.call58 Tryd.ntmps58 Tryd.results58 (by simp) ?_
  iterate 6 (try (first|(((with_reducible refine Qa fun K E hK hE=>?_));simp -implicitDefEqProofs only[Qc,Qd,OpW,aop,AS.ev,Nat.reduceLT])|((with_reducible refine hK _ ?_);clear hK)))
  refine ZC 5 60 3 rfl ?_
  iterate 4 (try ((with_reducible refine Qi ?_)))
  obtain⟨I,hI⟩:∃I:Nat→AS→Prop,I=fun m' s=>m'=0∧s.tm 0 = .v (.string (mkB l))∧s.tm 6 = .i 0∧s.h=h++[.grow 60 3 0]:=⟨_,rfl⟩;refine QR I ?_ (m:=0) ?_
  ·intro m' s hs;rw[hI]at hs;obtain⟨tm,hp⟩:=s;dsimp only at hs;obtain⟨rfl,t0,t6,rfl⟩:=hs
   repeat (first|((first|(with_reducible (first|refine Qa fun K E hK hE=>?_|refine FunW.QqZ (cn _) ?_)));simp -implicitDefEqProofs only[Qc,Qd,OpW,QB,aop,undef,AS.ev,AV.QqY,↓reduceIte,Qu,Ql,aBin,Q1,ti60,zi60,t0,t6,zTok,e2,seval])|(with_reducible (first|refine Qf fun K hK=>?_|refine Qi ?_|refine Qm ?_|refine Qy ?_|refine QE ?_))|((with_reducible refine hK _ ?_);clear hK)|(refine Qh rfl ?_;simp only[↓reduceIte]))
   simp -implicitDefEqProofs only[Yq,↓reduceIte,Nat.reduceEqDiff,QrL,QrO,QrP,List.mapM_cons,List.mapM_nil,Option.pure_def,Option.bind_eq_bind,QH,Qo,Qt,QrT]
   exact Qq (htake _ _) (.keep (QeF _ (.inr (0,6)))) ⟨rfl,rfl⟩
  ·rw[hI]
   exact⟨rfl,rfl,rfl,rfl⟩
 ·have hl2:l.length≤16384:=by omega
  rw[XQ,if_neg hl]
  generalize hR:X1 l.length (l.length+1) l=R
  refine Qe Tryd.func58 rfl Tryd.call58 Tryd.ntmps58 Tryd.results58 (by simp) ?_
  iterate 6 (try (first|(((with_reducible refine Qa fun K E hK hE=>?_));simp -implicitDefEqProofs only[Qc,Qd,OpW,aop,AS.ev,Nat.reduceLT])|((with_reducible refine hK _ ?_);clear hK)))
  refine ZC 5 60 3 rfl ?_
  iterate 4 (try ((with_reducible refine Qi ?_)))
  obtain⟨I,hI⟩:∃I:Nat→AS→Prop,I=fun m' s=>∃(ts:List Tk) (k:Nat) (G:AH),m'=l.length - k∧k≤l.length∧ts.length≤k∧(∃m,l.length - k<m∧scJ ts (X1 l.length m (l.drop k))=R)∧s.tm 0 = .v (.string (mkB l))∧s.tm 5 = .sl 3 (tks ts) (some h.length)∧s.tm 6 = .i k∧s.h=h++(.grow 60 3 ts.length::G):=⟨_,rfl⟩;refine QR I ?_ (m:=l.length) ?_
  ·intro m' s hs;rw[hI]at hs;obtain⟨tm,hp⟩:=s;dsimp only at hs;obtain⟨ts,k,G,rfl,hk,htl,⟨m,hm,hR2⟩,t0,t5,t6,rfl⟩:=hs
   have hm1:m=m - 1+1:=by omega
   rw[hm1,X1]at hR2
   have cn:=fun L=>QnE l hl2 k (h++L) hk (hG.app L)
   obtain⟨j,j1,j2⟩:=QcC (l.drop k)
   have hsl:(QV false (l.drop k)).length≤l.length - k:=by rw[j2,List.length_drop,List.length_drop];omega
   have e1:QV false (l.drop k)=l.drop (l.length - (QV false (l.drop k)).length):=by
    rw[List.length_drop]at j1
    rw[j2,List.drop_drop,List.length_drop]
    congr 1;omega
   rw[Qeo]at cn
   have x1:∀(Y:AH),(G++Y)[G.length]? = Y[0]? := fun Y=>Qad _ _
   have x2:∀(Y:AH) k,(G++Y)[G.length+k]? = Y[k]? := fun Y k=>hget _ _ _
   have x3:∀(Y:AH) y,(G++Y).set G.length y=G++Y.set 0 y:=fun Y y=>QbT _ _ _
   have ev:(tks ts).length=ts.length:=Z3 _
   cases ht:Xv (QV false (l.drop k))with
   |inr e =>
    rw[ht]at hR2 cn
    have hR3:Sum.inr (((l.length - (QV false (l.drop k)).length:Nat):Int),e)=R:=hR2
    subst hR3
    have he:(e != 0)=true:=by
     have:=QgF ht
     simpa using this
    repeat (first|((first|(with_reducible (first|refine Qa fun K E hK hE=>?_|refine FunW.QqZ (cn _) ?_)));simp -implicitDefEqProofs only[Qc,Qd,OpW,QB,aop,undef,AS.ev,AV.QqY,↓reduceIte,Qu,Ql,aBin,Q1,ti60,zi60,t0,t6,rdT,zTok,he,seval])|(with_reducible (first|refine Qf fun K hK=>?_|refine Qi ?_|refine Qm ?_|refine Qy ?_|refine QE ?_))|((with_reducible refine hK _ ?_);clear hK)|(refine Qh rfl ?_;simp only[↓reduceIte]))
    simp -implicitDefEqProofs only[Yq,↓reduceIte,Nat.reduceEqDiff,QrL,QrO,QrP,List.mapM_cons,List.mapM_nil,Option.pure_def,Option.bind_eq_bind,QH,Qo,Qt,QrT]
    exact Qq (htake _ _) (.keep (QeF _ (.inr (_,e)))) ⟨rfl,rfl⟩
   |inl p =>
    obtain⟨kd,x⟩:=p
    rw[ht]at hR2 cn
    have hm2:(ts.length+1) * 32≤140737488355328:=by omega
    have hm3:ts.length+1≤maxLen:=by simp only[maxLen];omega
    have e0:((0:Int) != 0)=false:=rfl
    rcases Qar ht with⟨k0,hx1,hx2⟩|⟨k0,hx1,r,hx2⟩
    ·subst k0
     subst hx2
     have hR3:Sum.inl (ts++[⟨0,((l.length - (QV false (l.drop k)).length:Nat):Int),eB⟩])=R:=hR2
     subst hR3
     have z1:((0:Int)==0)=true:=rfl
     generalize l.length - (QV false (l.drop k)).length=i at *
     have evs:tks (ts++[⟨0,((i:Nat):Int),eB⟩])=tks ts++[.agg [.i 0,.i i,.v (.string (mkB []))]]:=by rw[tks,List.map_append];rfl
     repeat (first|((first|(with_reducible (first|refine Qa fun K E hK hE=>?_|refine FunW.QqZ (cn _) ?_)));simp -implicitDefEqProofs only[Qc,Qd,OpW,QB,aop,undef,AS.ev,AV.QqY,↓reduceIte,Qg,Qw,Qv,Qu,Ql,aBin,Q1,QG,XI,Yk,ti3,ei37,ai37,ti60,QK,zi60,t0,t5,t6,rdT,tkv,x1,x3,ev,hm2,hm3,List.append_assoc,seval])|(with_reducible (first|refine Qf fun K hK=>?_|refine Qi ?_|refine Qm ?_|refine Qk ?_|refine Qb ?_|refine Qy ?_|refine QE ?_))|((with_reducible refine hK _ ?_);clear hK)|(refine Qh rfl ?_;simp only[↓reduceIte,QrN]))
     simp -implicitDefEqProofs only[Yq,↓reduceIte,Nat.reduceEqDiff,QrL,QrO,QrP,List.mapM_cons,List.mapM_nil,Option.pure_def,Option.bind_eq_bind,QH,Qo,Qt,QrT]
     refine Qq (htake _ _) (r':=.tup [.sl 3 (tks ts++[.agg [.i 0,.i i,.v (.string (mkB []))]]) none,.i 0,.i 0]) (Frz.tup rfl fun j a a' h1 h2=>?_) ⟨by rw[scR,evs],rfl⟩
     match j,h1,h2 with
     |0,h1,h2=>cases h1;cases h2;exact .tok (by rw[←evs];exact QbB _ _)
     |1,h1,h2=>cases h1;cases h2;exact .keep (.v _)
     |2,h1,h2=>cases h1;cases h2;exact .keep (.v _)
     |j+3,h1,h2=>simp at h1
    ·have hR3:scJ (ts++[⟨kd,((l.length - (QV false (l.drop k)).length:Nat):Int),mkB x⟩]) (X1 l.length (m - 1) ((QV false (l.drop k)).drop x.length))=R:=by
      rw[←hR2]
      show _=scJ ts (if kd=0 then _ else match X1 l.length (m - 1) ((QV false (l.drop k)).drop x.length)with | .inl ts=>_ | .inr e=>_)
      rw[if_neg k0]
      cases X1 l.length (m - 1) ((QV false (l.drop k)).drop x.length)with
      |inl us=>simp[scJ]
      |inr e=>rfl
     have hxl:0<x.length:=List.length_pos_iff.2 hx1
     have hxr:x.length≤(QV false (l.drop k)).length:=by rw[hx2,List.length_append];omega
     have e9:(QV false (l.drop k)).drop x.length=l.drop (l.length - (QV false (l.drop k)).length+x.length):=by
      conv=>lhs;rw[e1]
      rw[List.drop_drop]
     rw[e9]at hR3
     generalize (QV false (l.drop k)).length=u at *
     have z1:(kd==0)=false:=by simpa using k0
     have evs:tks (ts++[⟨kd,((l.length - u:Nat):Int),mkB x⟩])=tks ts++[.agg [.i kd,.i ((l.length - u:Nat):Int),.v (.string (mkB x))]]:=by rw[tks,List.map_append];rfl
     repeat (first|((first|(with_reducible (first|refine Qa fun K E hK hE=>?_|refine Qj fun K E hK hE=>?_|refine FunW.QqZ (cn _) ?_)));simp -implicitDefEqProofs only[Qc,Qd,OpW,QB,aop,undef,AS.ev,AV.QqY,↓reduceIte,Qg,Qw,Qv,Qu,Ql,aBin,Q1,QG,XI,Yk,ti3,ei37,ai37,ti60,QK,zi60,t0,t5,t6,rdT,tkv,z1,x1,x3,ev,hm2,hm3,List.append_assoc,seval])|(with_reducible (first|refine Qf fun K hK=>?_|refine Qi ?_|refine Qk ?_|refine Qb ?_|refine Qn ?_))|((with_reducible refine hK _ ?_);clear hK)|(refine Qh rfl ?_;simp only[↓reduceIte,QrN]))
     refine Xi.mk (m':=l.length - (l.length - u+x.length)) (by omega) ?_
     rw[hI]
     refine⟨ts++[⟨kd,((l.length - u:Nat):Int),mkB x⟩],l.length - u+x.length,G++[.cells 60 3 [tkv kd ((l.length - u:Nat):Int) x]],rfl,by omega,by simp;omega,⟨m - 1,by omega,hR3⟩,t0,?_,rfl,?_⟩
     ·rw[evs];rfl
     ·rw[List.length_append];rfl
  ·rw[hI]
   exact⟨[],0,[],rfl,Nat.zero_le _,Nat.le_refl _,⟨l.length+1,by omega,by rw[←hR];cases h0:X1 l.length (l.length+1) l <;> simp[scJ,h0]⟩,rfl,rfl,rfl,rfl⟩
end Go.Proofs.YticgcpebdldbgaaDoor.Ab
set_option maxRecDepth 4000
namespace Go.Proofs.YticgcpebdldbgaaDoor.Ab
open Go.Proofs
def lowB(c:UInt8):Bool:=decide (97≤c.toNat∧c.toNat≤122)
def upB(c:UInt8):Bool:=decide (65≤c.toNat∧c.toNat≤90∨c.toNat=95)
theorem Qec(c:UInt8):isL c=(lowB c||upB c):=by
 unfold isL lowB upB
 rw[Bool.eq_iff_iff]
 simp only[decide_eq_true_eq,Bool.or_eq_true]
theorem Z9(c:UInt8):Pure Tryd.prog 48 [.v (.int .u8 (c.toNat:Nat))] (.b (lowB c)):=by
 intro h
 have hc:=c.toNat_lt
 refine Qe Tryd.func48 rfl Tryd.call48 Tryd.ntmps48 Tryd.results48 (by simp) ?_
 by_cases h1:97≤c.toNat
 ·have y1:((c.toNat:Nat):Int)≥97:=by omega
  have y1':(97:Int)≤((c.toNat:Nat):Int):=by omega
  by_cases h2:c.toNat≤122
  ·have y2:((c.toNat:Nat):Int)≤122:=by omega
   have e:lowB c=true:=decide_eq_true ⟨h1,h2⟩
   repeat (first|(((with_reducible refine Qa fun K E hK hE=>?_));simp -implicitDefEqProofs only[Qc,Qd,OpW,aop,undef,AS.ev,Qr,↓reduceIte,aBin,y1,y2,seval])|(with_reducible refine Qm ?_)|((with_reducible refine hK _ ?_);clear hK))
   simp only[QH,Qo,Qt,upd,↓reduceIte,QrP,QrT];(refine Qq List.take_length (.keep (.v _)) ⟨by rw[e],rfl⟩)
  ·have y2:¬((c.toNat:Nat):Int)≤122:=by omega
   have e:lowB c=false:=decide_eq_false (by omega)
   repeat (first|(((with_reducible refine Qa fun K E hK hE=>?_));simp -implicitDefEqProofs only[Qc,Qd,OpW,aop,undef,AS.ev,Qr,↓reduceIte,aBin,y1,y2,seval])|(with_reducible refine Qm ?_)|((with_reducible refine hK _ ?_);clear hK))
   simp only[QH,Qo,Qt,upd,↓reduceIte,QrP,QrT];(refine Qq List.take_length (.keep (.v _)) ⟨by rw[e],rfl⟩)
 ·have y1:¬((c.toNat:Nat):Int)≥97:=by omega
  have y1':¬(97:Int)≤((c.toNat:Nat):Int):=by omega
  have e:lowB c=false:=decide_eq_false (by omega)
  repeat (first|(((with_reducible refine Qa fun K E hK hE=>?_));simp -implicitDefEqProofs only[Qc,Qd,OpW,aop,undef,AS.ev,Qr,↓reduceIte,aBin,y1,seval])|(with_reducible refine Qm ?_)|((with_reducible refine hK _ ?_);clear hK))
  simp only[QH,Qo,Qt,upd,↓reduceIte,QrP,QrT];(refine Qq List.take_length (.keep (.v _)) ⟨by rw[e],rfl⟩)
theorem ZP(c:UInt8):Pure Tryd.prog 50 [.v (.int .u8 (c.toNat:Nat))] (.b (isD c)):=by
 intro h
 have hc:=c.toNat_lt
 refine Qe Tryd.func50 rfl Tryd.call50 Tryd.ntmps50 Tryd.results50 (by simp) ?_
 by_cases h1:48≤c.toNat
 ·have y1:((c.toNat:Nat):Int)≥48:=by omega
  have y1':(48:Int)≤((c.toNat:Nat):Int):=by omega
  by_cases h2:c.toNat≤57
  ·have y2:((c.toNat:Nat):Int)≤57:=by omega
   have e:isD c=true:=decide_eq_true ⟨h1,h2⟩
   repeat (first|(((with_reducible refine Qa fun K E hK hE=>?_));simp -implicitDefEqProofs only[Qc,Qd,OpW,aop,undef,AS.ev,Qr,↓reduceIte,aBin,y1,y2,seval])|(with_reducible refine Qm ?_)|((with_reducible refine hK _ ?_);clear hK))
   simp only[QH,Qo,Qt,upd,↓reduceIte,QrP,QrT];(refine Qq List.take_length (.keep (.v _)) ⟨by rw[e],rfl⟩)
  ·have y2:¬((c.toNat:Nat):Int)≤57:=by omega
   have e:isD c=false:=decide_eq_false (by omega)
   repeat (first|(((with_reducible refine Qa fun K E hK hE=>?_));simp -implicitDefEqProofs only[Qc,Qd,OpW,aop,undef,AS.ev,Qr,↓reduceIte,aBin,y1,y2,seval])|(with_reducible refine Qm ?_)|((with_reducible refine hK _ ?_);clear hK))
   simp only[QH,Qo,Qt,upd,↓reduceIte,QrP,QrT];(refine Qq List.take_length (.keep (.v _)) ⟨by rw[e],rfl⟩)
 ·have y1:¬((c.toNat:Nat):Int)≥48:=by omega
  have y1':¬(48:Int)≤((c.toNat:Nat):Int):=by omega
  have e:isD c=false:=decide_eq_false (by omega)
  repeat (first|(((with_reducible refine Qa fun K E hK hE=>?_));simp -implicitDefEqProofs only[Qc,Qd,OpW,aop,undef,AS.ev,Qr,↓reduceIte,aBin,y1,seval])|(with_reducible refine Qm ?_)|((with_reducible refine hK _ ?_);clear hK))
  simp only[QH,Qo,Qt,upd,↓reduceIte,QrP,QrT];(refine Qq List.take_length (.keep (.v _)) ⟨by rw[e],rfl⟩)
theorem QaY(c:UInt8):Pure Tryd.prog 49 [.v (.int .u8 (c.toNat:Nat))] (.b (upB c)):=by
 intro h
 have hc:=c.toNat_lt
 refine Qe Tryd.func49 rfl Tryd.call49 Tryd.ntmps49 Tryd.results49 (by simp) ?_
 by_cases h1:65≤c.toNat
 ·have y1:((c.toNat:Nat):Int)≥65:=by omega
  have y1':(65:Int)≤((c.toNat:Nat):Int):=by omega
  by_cases h2:c.toNat≤90
  ·have y2:((c.toNat:Nat):Int)≤90:=by omega
   have e:upB c=true:=decide_eq_true (.inl ⟨h1,h2⟩)
   repeat (first|(((with_reducible refine Qa fun K E hK hE=>?_));simp -implicitDefEqProofs only[Qc,Qd,OpW,aop,undef,AS.ev,Qr,↓reduceIte,aBin,y1,y2,seval])|(with_reducible refine Qm ?_)|((with_reducible refine hK _ ?_);clear hK))
   simp only[QH,Qo,Qt,upd,↓reduceIte,QrP,QrT];(refine Qq List.take_length (.keep (.v _)) ⟨by rw[e],rfl⟩)
  ·have y2:¬((c.toNat:Nat):Int)≤90:=by omega
   by_cases h3:c.toNat=95
   ·have y3:(((c.toNat:Nat):Int)==95)=true:=by simp;omega
    have e:upB c=true:=decide_eq_true (.inr h3)
    repeat (first|(((with_reducible refine Qa fun K E hK hE=>?_));simp -implicitDefEqProofs only[Qc,Qd,OpW,aop,undef,AS.ev,Qr,↓reduceIte,aBin,y1,y2,y3,seval])|(with_reducible refine Qm ?_)|((with_reducible refine hK _ ?_);clear hK))
    simp only[QH,Qo,Qt,upd,↓reduceIte,QrP,QrT];(refine Qq List.take_length (.keep (.v _)) ⟨by rw[e],rfl⟩)
   ·have y3:(((c.toNat:Nat):Int)==95)=false:=by simp;omega
    have e:upB c=false:=decide_eq_false (by omega)
    repeat (first|(((with_reducible refine Qa fun K E hK hE=>?_));simp -implicitDefEqProofs only[Qc,Qd,OpW,aop,undef,AS.ev,Qr,↓reduceIte,aBin,y1,y2,y3,seval])|(with_reducible refine Qm ?_)|((with_reducible refine hK _ ?_);clear hK))
    simp only[QH,Qo,Qt,upd,↓reduceIte,QrP,QrT];(refine Qq List.take_length (.keep (.v _)) ⟨by rw[e],rfl⟩)
 ·have y1:¬((c.toNat:Nat):Int)≥65:=by omega
  have y1':¬(65:Int)≤((c.toNat:Nat):Int):=by omega
  have y3:(((c.toNat:Nat):Int)==95)=false:=by simp;omega
  have e:upB c=false:=decide_eq_false (by omega)
  repeat (first|(((with_reducible refine Qa fun K E hK hE=>?_));simp -implicitDefEqProofs only[Qc,Qd,OpW,aop,undef,AS.ev,Qr,↓reduceIte,aBin,y1,y3,seval])|(with_reducible refine Qm ?_)|((with_reducible refine hK _ ?_);clear hK))
  simp only[QH,Qo,Qt,upd,↓reduceIte,QrP,QrT];(refine Qq List.take_length (.keep (.v _)) ⟨by rw[e],rfl⟩)
theorem QiB(c:UInt8):Pure Tryd.prog 69 [.v (.int .u8 (c.toNat:Nat))] (.b (isSp c)):=by
 intro h
 refine Qe Tryd.func69 rfl Tryd.call69 Tryd.ntmps69 Tryd.results69 (by simp) ?_
 by_cases h1:c.toNat=32
 ·have y1:(((c.toNat:Nat):Int)==32)=true:=by simp;omega
  have e:isSp c=true:=decide_eq_true (by omega)
  repeat (first|(((with_reducible refine Qa fun K E hK hE=>?_));simp -implicitDefEqProofs only[Qc,Qd,OpW,aop,undef,AS.ev,Qr,↓reduceIte,aBin,y1,seval])|(with_reducible refine Qm ?_)|((with_reducible refine hK _ ?_);clear hK))
  simp only[QH,Qo,Qt,upd,↓reduceIte,QrP,QrT];(refine Qq List.take_length (.keep (.v _)) ⟨by rw[e],rfl⟩)
 ·have y1:(((c.toNat:Nat):Int)==32)=false:=by simp;omega
  by_cases h2:c.toNat=9
  ·have y2:(((c.toNat:Nat):Int)==9)=true:=by simp;omega
   have e:isSp c=true:=decide_eq_true (by omega)
   repeat (first|(((with_reducible refine Qa fun K E hK hE=>?_));simp -implicitDefEqProofs only[Qc,Qd,OpW,aop,undef,AS.ev,Qr,↓reduceIte,aBin,y1,y2,seval])|(with_reducible refine Qm ?_)|((with_reducible refine hK _ ?_);clear hK))
   simp only[QH,Qo,Qt,upd,↓reduceIte,QrP,QrT];(refine Qq List.take_length (.keep (.v _)) ⟨by rw[e],rfl⟩)
  ·have y2:(((c.toNat:Nat):Int)==9)=false:=by simp;omega
   by_cases h3:c.toNat=10
   ·have y3:(((c.toNat:Nat):Int)==10)=true:=by simp;omega
    have e:isSp c=true:=decide_eq_true (by omega)
    repeat (first|(((with_reducible refine Qa fun K E hK hE=>?_));simp -implicitDefEqProofs only[Qc,Qd,OpW,aop,undef,AS.ev,Qr,↓reduceIte,aBin,y1,y2,y3,seval])|(with_reducible refine Qm ?_)|((with_reducible refine hK _ ?_);clear hK))
    simp only[QH,Qo,Qt,upd,↓reduceIte,QrP,QrT];(refine Qq List.take_length (.keep (.v _)) ⟨by rw[e],rfl⟩)
   ·have y3:(((c.toNat:Nat):Int)==10)=false:=by simp;omega
    by_cases h4:c.toNat=13
    ·have y4:(((c.toNat:Nat):Int)==13)=true:=by simp;omega
     have e:isSp c=true:=decide_eq_true (by omega)
     repeat (first|(((with_reducible refine Qa fun K E hK hE=>?_));simp -implicitDefEqProofs only[Qc,Qd,OpW,aop,undef,AS.ev,Qr,↓reduceIte,aBin,y1,y2,y3,y4,seval])|(with_reducible refine Qm ?_)|((with_reducible refine hK _ ?_);clear hK))
     simp only[QH,Qo,Qt,upd,↓reduceIte,QrP,QrT];(refine Qq List.take_length (.keep (.v _)) ⟨by rw[e],rfl⟩)
    ·have y4:(((c.toNat:Nat):Int)==13)=false:=by simp;omega
     have e:isSp c=false:=decide_eq_false (by omega)
     repeat (first|(((with_reducible refine Qa fun K E hK hE=>?_));simp -implicitDefEqProofs only[Qc,Qd,OpW,aop,undef,AS.ev,Qr,↓reduceIte,aBin,y1,y2,y3,y4,seval])|(with_reducible refine Qm ?_)|((with_reducible refine hK _ ?_);clear hK))
     simp only[QH,Qo,Qt,upd,↓reduceIte,QrP,QrT];(refine Qq List.take_length (.keep (.v _)) ⟨by rw[e],rfl⟩)
section
variable(l:List UInt8)(hl:l.length≤16384)
include hl
theorem Z2(k:Nat)(hk:k≤l.length):Pure Tryd.prog 47 [.v (.string (mkB l)),.i k] (.i ((l.length - (QV false (l.drop k)).length:Nat):Int)):=by
 intro h
 have hsl:=fun b=>Yi Tryd.prog 9 3 (by kernel_rfl) b
 refine Qe Tryd.func47 rfl Tryd.call47 Tryd.ntmps47 Tryd.results47 (by simp) ?_
 repeat (first|(((with_reducible refine Qa fun K E hK hE=>?_));simp -implicitDefEqProofs only[XN,Y0,Qd,OpW,aop,AS.ev,Xw,QbX,Nat.reduceLT])|(with_reducible (first|refine Qf fun K hK=>?_|refine Qi ?_))|((with_reducible refine hK _ ?_);clear hK))
 obtain⟨I,hI⟩:∃I:Nat→AS→Prop,I=fun m' s=>∃j:Nat,m'=l.length - j∧j≤l.length∧QV false (l.drop j)=QV false (l.drop k)∧s.tm 0 = .v (.string (mkB l))∧s.tm 1 = .i j∧s.h=h:=⟨_,rfl⟩;refine QR I ?_ (m:=l.length - k) ?_
 ·intro m' s hs;rw[hI]at hs;obtain⟨tm,hp⟩:=s;dsimp only at hs;obtain⟨j,rfl,hj,he,t0,t1,rfl⟩:=hs
  by_cases hlt:j<l.length
  ·have z1:(((j:Nat):Int)<((l.length:Nat):Int)):=by omega
   have hix:=XP Tryd.prog 9 (by kernel_rfl) (mkB l) j (by rw[QA];exact hlt)
   rw[X7 l j hlt]at hix
   have cp:=QiB l[j]
   have hd:=drop_cons hlt
   rw[hd,QV]at he
   cases hc:isSp l[j]with
   |true =>
    rw[hc]at cp
    rw[if_pos hc]at he
    repeat (first|((first|(with_reducible (first|refine Qa fun K E hK hE=>?_|refine Qj fun K E hK hE=>?_|refine Qz cp ?_)));simp -implicitDefEqProofs only[Qc,Qd,OpW,QB,aop,AS.ev,↓reduceIte,aBin,aLen,goInt,t0,t1,hsl,QA,z1,hix,seval])|(with_reducible (first|refine Qf fun K hK=>?_|refine Qi ?_|refine Qk ?_|refine Qb ?_|refine Qn ?_))|((with_reducible refine hK _ ?_);clear hK)|(refine Qh rfl ?_;simp only[↓reduceIte]))
    refine Xi.mk (m':=l.length - (j+1)) (by omega) ?_
    rw[hI]
    refine⟨j+1,rfl,hlt,he,t0,?_,rfl⟩
    simp only[upd,↓reduceIte]
    rw[XE (by omega)]
   |false =>
    rw[hc]at cp
    rw[if_neg (by rw[hc];decide)]at he
    by_cases h35:(l[j]).toNat=35
    ·rw[if_pos h35]at he
     have z3:((((l[j]).toNat:Nat):Int)==35)=true:=by rw[h35];rfl
     have hI0:=hI
     repeat (first|((first|(with_reducible (first|refine Qa fun K E hK hE=>?_|refine Qz cp ?_)));simp -implicitDefEqProofs only[Qc,Qd,OpW,QB,aop,AS.ev,↓reduceIte,aBin,aLen,goInt,t0,t1,hsl,QA,z1,hix,z3,seval])|(with_reducible (first|refine Qf fun K hK=>?_|refine Qi ?_|refine Qk ?_|refine Qb ?_))|((with_reducible refine hK _ ?_);clear hK)|(refine Qh rfl ?_;simp only[↓reduceIte,QrN]))
     obtain⟨I,hI⟩:∃I:Nat→AS→Prop,I=fun m' s=>∃i:Nat,m'=l.length - i∧i≤l.length∧j≤i∧(i=j∨QV true (l.drop i)=QV false (l.drop k))∧s.tm 0 = .v (.string (mkB l))∧s.tm 1 = .i i∧s.h=hp:=⟨_,rfl⟩;refine QR I ?_ (m:=l.length - j) ?_
     ·intro m' s hs;rw[hI]at hs;obtain⟨tm,hp⟩:=s;dsimp only at hs;obtain⟨i,rfl,hi,hji,he2,u0,u1,rfl⟩:=hs
      by_cases hlt2:i<l.length
      ·have y1:(((i:Nat):Int)<((l.length:Nat):Int)):=by omega
       have hix2:=XP Tryd.prog 9 (by kernel_rfl) (mkB l) i (by rw[QA];exact hlt2)
       rw[X7 l i hlt2]at hix2
       have hd2:=drop_cons hlt2
       by_cases h10:(l[i]).toNat=10
       ·have y2:((((l[i]).toNat:Nat):Int) != 10)=false:=by rw[h10];rfl
        have hne:i≠j:=by rintro rfl;omega
        have he3:=he2.resolve_left hne
        rw[hd2,QV,if_pos h10]at he3
        repeat (first|(((with_reducible refine Qa fun K E hK hE=>?_));simp -implicitDefEqProofs only[Qc,Qd,OpW,aop,AS.ev,↓reduceIte,aBin,aLen,goInt,u0,u1,hsl,QA,y1,hix2,y2,seval])|(with_reducible (first|refine Qf fun K hK=>?_|refine QF ?_|refine Qb ?_|refine QD ?_|refine Qn ?_|refine QC ?_))|((with_reducible refine hK _ ?_);clear hK)|(refine Qh rfl ?_;simp only[↓reduceIte,QrN]))
        refine Xi.mk (m':=l.length - i) (by omega) ?_
        rw[hI0]
        refine⟨i,rfl,hi,?_,u0,u1,rfl⟩
        rw[hd2,QV,if_pos (show isSp l[i]=true by unfold isSp;exact decide_eq_true (by omega))];exact he3
       ·have y2:((((l[i]).toNat:Nat):Int) != 10)=true:=by simpa using fun e=>h10 (by omega)
        repeat (first|((first|(with_reducible (first|refine Qa fun K E hK hE=>?_|refine Qj fun K E hK hE=>?_)));simp -implicitDefEqProofs only[Qc,Qd,OpW,aop,AS.ev,↓reduceIte,aBin,aLen,goInt,u0,u1,hsl,QA,y1,hix2,y2,seval])|(with_reducible (first|refine Qf fun K hK=>?_|refine Qi ?_|refine Qk ?_|refine Qb ?_|refine Qn ?_))|((with_reducible refine hK _ ?_);clear hK)|(refine Qh rfl ?_;simp only[↓reduceIte]))
        refine Xi.mk (m':=l.length - (i+1)) (by omega) ?_
        rw[hI]
        refine⟨i+1,rfl,hlt2,by omega,.inr ?_,u0,?_,rfl⟩
        ·rcases he2 with rfl|he2
         ·exact he
         ·rw[hd2,QV,if_neg h10]at he2;exact he2
        ·simp only[upd,↓reduceIte]
         rw[XE (by omega)]
      ·have hil:i=l.length:=by omega
       have y1:¬(((i:Nat):Int)<((l.length:Nat):Int)):=by omega
       have hne:i≠j:=by omega
       have he3:=he2.resolve_left hne
       repeat (first|(((with_reducible refine Qa fun K E hK hE=>?_));simp -implicitDefEqProofs only[Qc,Qd,OpW,aop,undef,AS.ev,↓reduceIte,aBin,aLen,goInt,u0,u1,hsl,QA,y1,seval])|(with_reducible (first|refine Qf fun K hK=>?_|refine QF ?_|refine Qb ?_|refine QD ?_|refine Qn ?_|refine QC ?_))|((with_reducible refine hK _ ?_);clear hK)|(refine Qh rfl ?_;simp only[↓reduceIte,QrN]))
       refine Xi.mk (m':=l.length - i) (by omega) ?_
       rw[hI0]
       refine⟨i,rfl,hi,?_,u0,u1,rfl⟩
       rw[hil,List.drop_length]at he3 ⊢
       rw[←he3,QV,QV]
     ·rw[hI]
      exact⟨j,rfl,hj,Nat.le_refl _,.inl rfl,t0,t1,rfl⟩
    ·rw[if_neg h35]at he
     have z3:((((l[j]).toNat:Nat):Int)==35)=false:=by simpa using fun e=>h35 (by omega)
     repeat (first|((first|(with_reducible (first|refine Qa fun K E hK hE=>?_|refine Qz cp ?_)));simp -implicitDefEqProofs only[Qc,Qd,OpW,QB,aop,AS.ev,↓reduceIte,aBin,aLen,goInt,t0,t1,hsl,QA,z1,hix,z3,seval])|(with_reducible (first|refine Qf fun K hK=>?_|refine Qi ?_|refine Qm ?_|refine Qk ?_|refine Qb ?_|refine Qy ?_|refine QE ?_))|((with_reducible refine hK _ ?_);clear hK)|(refine Qh rfl ?_;simp only[↓reduceIte,QrN]))
     simp only[QH,Qo,Qt,upd,↓reduceIte,QrP,QrT]
     exact Qq List.take_length (.keep (.v _)) ⟨by rw[←he,List.length_cons,List.length_drop];congr 3;omega,rfl⟩
  ·have hjl:j=l.length:=by omega
   have z1:¬(((j:Nat):Int)<((l.length:Nat):Int)):=by omega
   rw[hjl,List.drop_length,QV]at he
   repeat (first|(((with_reducible refine Qa fun K E hK hE=>?_));simp -implicitDefEqProofs only[Qc,Qd,OpW,aop,AS.ev,↓reduceIte,aBin,aLen,goInt,t0,t1,hsl,QA,z1,seval])|(with_reducible (first|refine Qf fun K hK=>?_|refine Qm ?_|refine QF ?_|refine Qb ?_|refine QD ?_|refine QC ?_))|((with_reducible refine hK _ ?_);clear hK)|(clear hK;(with_reducible refine hK _ ?_);clear hK)|(refine Qh rfl ?_;simp only[↓reduceIte,QrN]))
   simp only[QH,Qo,Qt,upd,↓reduceIte,QrP,QrT]
   exact Qq List.take_length (.keep (.v _)) ⟨by rw[←he,hjl];rfl,rfl⟩
 ·rw[hI]
  exact⟨k,rfl,hk,rfl,rfl,rfl,rfl⟩
end
theorem QiE(l:List UInt8)(hd:∀c∈l,isD c=true)(hl:l.length≤16384):Pure Tryd.prog 51 [.v (.string (mkB l))] (.i (min (numVal l) 2147483649:Nat)):=by
 intro h
 have hsl:=fun b=>Yi Tryd.prog 9 3 (by kernel_rfl) b
 refine Qe Tryd.func51 rfl Tryd.call51 Tryd.ntmps51 Tryd.results51 (by simp) ?_
 repeat (first|(((with_reducible refine Qa fun K E hK hE=>?_));simp -implicitDefEqProofs only[XN,Y0,Qd,OpW,aop,AS.ev,Xw,QbX,Nat.reduceLT])|(with_reducible (first|refine Qf fun K hK=>?_|refine Qi ?_))|((with_reducible refine hK _ ?_);clear hK))
 obtain⟨I,hI⟩:∃I:Nat→AS→Prop,I=fun m' s=>∃p:Nat,m'=l.length - p∧p≤l.length∧s.tm 0 = .v (.string (mkB l))∧s.tm 3 = .i (min (numVal (l.take p)) 2147483649:Nat)∧s.tm 4 = .i p∧s.h=h:=⟨_,rfl⟩;refine QR I ?_ (m:=l.length) ?_
 ·intro m' s hs;rw[hI]at hs;obtain⟨tm,hp⟩:=s;dsimp only at hs;obtain⟨p,rfl,hp',t0,t3,t4,rfl⟩:=hs
  by_cases hlt:p<l.length
  ·have y1:(((p:Nat):Int)<((l.length:Nat):Int)):=by omega
   have hix:=XP Tryd.prog 9 (by kernel_rfl) (mkB l) p (by rw[QA];exact hlt)
   rw[X7 l p hlt]at hix
   have d2:=hd l[p] (List.getElem_mem hlt)
   have hcd:48≤(l[p]).toNat∧(l[p]).toNat≤57:=by unfold isD at d2;simpa using d2
   obtain⟨n1,n2⟩:=QbW hlt
   obtain⟨v,hv⟩:∃v,v=min (numVal (l.take p)) 2147483649:=⟨_,rfl⟩
   rw[←hv]at t3
   have w1:IntKind.i64.wrap (((v:Nat):Int) * 10)=((v * 10:Nat):Int):=by rw[Xt (by omega)];omega
   have w2:IntKind.u8.wrap ((((l[p]).toNat:Nat):Int) - 48)=(((l[p]).toNat - 48:Nat):Int):=by rw[Qqq (by omega)];omega
   have w3:=Qp3 (((l[p]).toNat - 48:Nat):Int) (by omega)
   have w4:IntKind.i64.wrap (((v * 10:Nat):Int)+(((l[p]).toNat - 48:Nat):Int))=((v * 10+((l[p]).toNat - 48):Nat):Int):=by rw[Xt (by omega)];omega
   have w5:IntKind.i64.wrap (((p:Nat):Int)+1)=((p+1:Nat):Int):=XE (by omega)
   repeat (first|((first|(with_reducible (first|refine Qa fun K E hK hE=>?_|refine Qj fun K E hK hE=>?_)));simp -implicitDefEqProofs only[Qc,Qd,OpW,aop,AS.ev,↓reduceIte,aBin,aLen,goInt,t0,t3,t4,hsl,QA,y1,hix,w1,w2,w3,w4,w5,seval])|(with_reducible (first|refine Qf fun K hK=>?_|refine Qi ?_|refine Qk ?_|refine Qb ?_|refine Qn ?_))|((with_reducible refine hK _ ?_);clear hK)|(refine Qh rfl ?_;simp only[↓reduceIte]))
   refine Xi.mk (m':=l.length - (p+1)) (by omega) ?_
   rw[hI]
   refine⟨p+1,rfl,hlt,t0,?_,rfl,rfl⟩
   simp only[upd,↓reduceIte,Nat.reduceEqDiff]
   congr 3
   rw[n1]
   split <;> omega
  ·have y1:¬(((p:Nat):Int)<((l.length:Nat):Int)):=by omega
   have e:l.take p=l:=List.take_of_length_le (by omega)
   rw[e]at t3
   repeat (first|(((with_reducible refine Qa fun K E hK hE=>?_));simp -implicitDefEqProofs only[Qc,Qd,OpW,aop,AS.ev,↓reduceIte,aBin,aLen,goInt,t0,t3,t4,hsl,QA,y1,seval])|(with_reducible (first|refine Qf fun K hK=>?_|refine Qm ?_|refine QF ?_|refine Qb ?_|refine QD ?_|refine QC ?_))|((with_reducible refine hK _ ?_);clear hK)|(clear hK;(with_reducible refine hK _ ?_);clear hK)|(refine Qh rfl ?_;simp only[↓reduceIte,QrN]))
   simp only[QH,Qo,Qt,upd,↓reduceIte,QrP,QrT];(refine Qq List.take_length (.keep (.v _)) ⟨rfl,rfl⟩)
 ·rw[hI]
  exact⟨0,rfl,Nat.zero_le _,rfl,rfl,rfl,rfl⟩
end Go.Proofs.YticgcpebdldbgaaDoor.Ab
set_option maxRecDepth 4000
namespace Go.Proofs.YticgcpebdldbgaaDoor.Ab
open Go.Proofs
def YG:List (List UInt8):=[[64],[44],[46],[40],[41],[124],[47],[92],[43],[45],[42],[37],[61],[61,61],[92,61],[60],[61,60],[62],[62,61],[61,58,61],[61,92,61],[60,61,62],[61,61,62]]
def stepS(q b x:List UInt8):List UInt8:=if x.isPrefixOf q=true∧b.length<x.length then x else b
def QcJ(q:List UInt8)(m:List (List UInt8)):List UInt8:=m.foldl (stepS q) []
theorem QjL(q:List UInt8)(m:List (List UInt8))(x:List UInt8):QcJ q (m++[x])=stepS q (QcJ q m) x:=by rw[QcJ,List.foldl_append];rfl
theorem Qfx(q:List UInt8):∀(m:List (List UInt8)) (b:List UInt8),(m.foldl (stepS q) b=b∨(m.foldl (stepS q) b∈m∧(m.foldl (stepS q) b).isPrefixOf q=true))∧b.length≤(m.foldl (stepS q) b).length∧∀x∈m,x.isPrefixOf q=true→x.length≤(m.foldl (stepS q) b).length
 |[],b=>⟨.inl rfl,Nat.le_refl _,fun x h=>(List.not_mem_nil h).elim⟩
 |y::m,b=>by
  obtain⟨h1,h2,h3⟩:=Qfx q m (stepS q b y)
  rw[List.foldl_cons]
  have hb:b.length≤(stepS q b y).length:=by unfold stepS;split <;> omega
  have hy:y.isPrefixOf q=true→y.length≤(stepS q b y).length:=fun hp=>by
   unfold stepS;split
   ·exact Nat.le_refl _
   ·rename_i hc
    exact Nat.le_of_not_lt fun q=>hc ⟨hp,q⟩
  refine⟨?_,Nat.le_trans hb h2,fun x hx hp=>?_⟩
  ·rcases h1 with h1|⟨h1,h4⟩
   ·rw[h1]
    unfold stepS
    split
    ·rename_i hc;exact .inr ⟨by simp,hc.1⟩
    ·exact .inl rfl
   ·exact .inr ⟨List.mem_cons_of_mem _ h1,h4⟩
  ·rcases List.mem_cons.1 hx with rfl|hx
   ·exact Nat.le_trans (hy hp) h2
   ·exact h3 x hx hp
theorem pre_eq{a b q:List UInt8}(ha:a.isPrefixOf q=true)(hb:b.isPrefixOf q=true)(h:a.length=b.length):a=b:=by
 rw[QaV,beq_iff_eq]at ha hb
 rw[←ha,←hb,h]
theorem Qn7:(∀x∈YG,x∈Xn)∧(∀x∈Xn,x∈YG)∧Xn.Pairwise (fun a b=>b.length≤a.length)∧∀x∈YG,0<x.length:=by decide
theorem Qm9(q:List UInt8):QcJ q YG=(QbF q).getD []:=by
 obtain⟨p1,p2,p3,p4⟩:=Qn7
 obtain⟨h1,h2,h3⟩:=Qfx q YG []
 change (QcJ q YG=[]∨(QcJ q YG∈YG∧(QcJ q YG).isPrefixOf q=true))at h1
 change ∀x∈YG,x.isPrefixOf q=true→x.length≤(QcJ q YG).length at h3
 generalize QcJ q YG=b at *
 cases hs:QbF q with
 |none =>
  rcases h1 with h1|⟨h1,h4⟩
  ·exact h1
  ·have:=(List.find?_eq_none.1 hs) b (p1 b h1)
   exact absurd h4 this
 |some x =>
  obtain⟨hx,l1,l2,hl,hno⟩:=List.find?_eq_some_iff_append.1 hs
  have hxm:x∈Xn:=by rw[hl];simp
  have hxb:=h3 x (p2 x hxm) hx
  rcases h1 with h1|⟨h1,h4⟩
  ·have:=p4 x (p2 x hxm)
   rw[h1]at hxb
   simp at hxb
   rw[hxb]at this
   simp at this
  ·have hbm:=p1 b h1
   have hle:b.length≤x.length:=by
    rw[hl]at hbm p3
    rcases List.mem_append.1 hbm with hb|hb
    ·have:=hno b hb
     rw[h4]at this
     cases this
    ·rcases List.mem_cons.1 hb with rfl|hb
     ·exact Nat.le_refl _
     ·have:=(List.pairwise_append.1 p3).2.1
      exact(List.pairwise_cons.1 this).1 b hb
   exact pre_eq h4 hx (Nat.le_antisymm hle hxb)
theorem Qkv:Pure Tryd.prog 70 [] (.sl 1 (strs (YG.map mkB)) none):=by
 intro h
 have r23:([0,1,2,3,4,5,6,7,8,9,10,11,12,13,14,15,16,17,18,19,20,21,22]:List Nat)=List.range 23:=by decide
 refine Qe Tryd.func70 rfl Tryd.call70 Tryd.ntmps70 Tryd.results70 (by simp) ?_
 repeat (first|(((with_reducible refine Qa fun K E hK hE=>?_));simp -implicitDefEqProofs only[Qc,Qd,OpW,aop,undef,AS.ev,Qr,AV.QqY,↓reduceIte,QG,zi9,ei46,r23,seval])|(with_reducible refine Qm ?_)|((with_reducible refine hK _ ?_);clear hK))
 simp only[QH,Qo,Qt,upd,↓reduceIte,QrP,QrT];first|refine Qq (htake _ _) (.keep (.sl 1 _ none (Qbq _ (YG.map mkB)) (fun b hb=>by cases hb))) ⟨rfl,rfl⟩|refine Qq List.take_length (.keep (.sl 1 _ none (Qbq _ (YG.map mkB)) (fun b hb=>by cases hb))) ⟨rfl,rfl⟩
theorem Qdn(l:List UInt8)(hl:l.length≤16384)(k:Nat)(hk:k≤l.length):Pure Tryd.prog 52 [.v (.string (mkB l)),.i k] (.v (.string (mkB ((QbF (l.drop k)).getD [])))):=by
 intro h
 have hsl:=fun b=>Yi Tryd.prog 9 3 (by kernel_rfl) b
 have z1:¬((k:Nat):Int)<0:=by omega
 have z2:¬((l.length:Nat):Int)<((k:Nat):Int):=by omega
 have z3:¬((k:Nat):Int)>((l.length:Nat):Int):=by omega
 have cs:=Qkv
 have hlen2:(strs (YG.map mkB)).length=YG.length:=by rw[YH,List.length_map]
 rw[←Qm9]
 have hm3:∀x∈YG,x.length≤3:=by decide
 refine Qe Tryd.func52 rfl Tryd.call52 Tryd.ntmps52 Tryd.results52 (by simp) ?_
 repeat (first|((first|(with_reducible (first|refine Qa fun K E hK hE=>?_|refine Qz cs ?_)));simp -implicitDefEqProofs only[Qc,Qd,OpW,QB,aop,undef,AS.ev,Qr,↓reduceIte,aBin,aLen,goInt,hsl,QA,z1,z2,seval])|(with_reducible (first|refine Qf fun K hK=>?_|refine Qi ?_|refine Qk ?_|refine Qb ?_))|((with_reducible refine hK _ ?_);clear hK)|(refine Qh rfl ?_;simp only[↓reduceIte,QrN]))
 obtain⟨I,hI⟩:∃I:Nat→AS→Prop,I=fun m' s=>∃j:Nat,m'=YG.length - j∧j≤YG.length∧s.tm 0 = .v (.string (mkB l))∧s.tm 1 = .i k∧s.tm 5 = .v (.string (mkB (QcJ (l.drop k) (YG.take j))))∧s.tm 6 = .sl 1 (strs (YG.map mkB)) none∧s.tm 7 = .i j∧s.h=h:=⟨_,rfl⟩;refine QR I ?_ (m:=YG.length) ?_
 ·intro m' s hs;rw[hI]at hs;obtain⟨tm,hp⟩:=s;dsimp only at hs;obtain⟨j,rfl,hj,t0,t1,t5,t6,t7,rfl⟩:=hs
  by_cases hlt:j<YG.length
  ·have y1:((j:Nat):Int)<((YG.length:Nat):Int):=by omega
   have hat:(strs (YG.map mkB))[j]? = some (.v (.string (mkB YG[j]))):=by rw[strs,List.getElem?_map,List.getElem?_map,List.getElem?_eq_getElem hlt];rfl
   have hx3:=hm3 _ (List.getElem_mem hlt)
   have htk:QcJ (l.drop k) (YG.take (j+1))=stepS (l.drop k) (QcJ (l.drop k) (YG.take j)) YG[j]:=by rw[List.take_succ_eq_append_getElem hlt,QjL]
   generalize hb:QcJ (l.drop k) (YG.take j)=b at *
   generalize YG[j]=x at *
   have w1:IntKind.i64.wrap (((l.length:Nat):Int) - ((k:Nat):Int))=((l.length - k:Nat):Int):=by rw[Xt (by omega)];omega
   have w2:IntKind.i64.wrap (((k:Nat):Int)+((x.length:Nat):Int))=((k+x.length:Nat):Int):=by rw[Xt (by omega)];omega
   have w3:IntKind.i64.wrap (((j:Nat):Int)+1)=((j+1:Nat):Int):=XE (by have:YG.length=23:=rfl;omega)
   by_cases hle:x.length≤l.length - k
   ·have y2:((x.length:Nat):Int)≤((l.length - k:Nat):Int):=by omega
    have hsp:=Zg Tryd.prog 9 (by kernel_rfl) (mkB l) (some (.i64,(k:Nat))) (some (.i64,(k+x.length:Nat))) k (k+x.length) ⟨by omega,by rw[QA];omega,by omega⟩ ⟨by omega,by omega,by omega⟩
    simp only[QrL]at hsp
    have hq:(((mkB l).extract k (k+x.length)).toList==(mkB x).toList)=x.isPrefixOf (l.drop k):=by rw[QcP l k _ (by omega),Qco,QaV]
    cases hc:x.isPrefixOf (l.drop k)with
    |true =>
     rw[hc]at hq
     by_cases hg:b.length<x.length
     ·have y4:((x.length:Nat):Int)>((b.length:Nat):Int):=by omega
      have y5:((b.length:Nat):Int)<((x.length:Nat):Int):=by omega
      repeat (first|((first|(with_reducible (first|refine Qa fun K E hK hE=>?_|refine Qj fun K E hK hE=>?_))|(refine QS (id:=9) [(0,0),(1,0),(2,0),(3,0),(4,0),(5,0),(6,0),(7,0),(8,0),(9,0),(10,0),(11,0),(12,0),(13,0),(14,0),(15,0),(16,0),(17,0),(18,0),(19,0),(20,0),(21,0),(22,0),(23,0),(24,0)] mixed (by kernel_rfl) fun K hK=>?_));simp -implicitDefEqProofs only[Qc,Qd,OpW,aop,AS.ev,↓reduceIte,Qw,Qv,QM,aBin,Xf,aLen,goInt,ti9,ei9,ei46,un46,t0,t1,t5,t6,t7,hsl,QA,hlen2,y1,hat,w1,w2,w3,y2,hsp,hq,y4,seval])|(with_reducible (first|refine Qf fun K hK=>?_|refine Qi ?_|refine Qk ?_|refine Qb ?_|refine Qn ?_))|((with_reducible refine hK _ ?_);clear hK)|(refine Qh rfl ?_;simp only[↓reduceIte]))
      refine Xi.mk (m':=YG.length - (j+1)) (by omega) ?_
      rw[hI]
      refine⟨j+1,rfl,hlt,t0,t1,?_,t6,rfl,rfl⟩
      rw[htk,stepS,if_pos ⟨hc,hg⟩];rfl
     ·have y4:¬((x.length:Nat):Int)>((b.length:Nat):Int):=by omega
      have y5:¬((b.length:Nat):Int)<((x.length:Nat):Int):=by omega
      repeat (first|((first|(with_reducible (first|refine Qa fun K E hK hE=>?_|refine Qj fun K E hK hE=>?_))|(refine QS (id:=9) [(0,0),(1,0),(2,0),(3,0),(4,0),(5,0),(6,0),(7,0),(8,0),(9,0),(10,0),(11,0),(12,0),(13,0),(14,0),(15,0),(16,0),(17,0),(18,0),(19,0),(20,0),(21,0),(22,0),(23,0),(24,0)] mixed (by kernel_rfl) fun K hK=>?_));simp -implicitDefEqProofs only[Qc,Qd,OpW,aop,AS.ev,↓reduceIte,Qw,Qv,QM,aBin,Xf,aLen,goInt,ti9,ei9,ei46,un46,t0,t1,t5,t6,t7,hsl,QA,hlen2,y1,hat,w1,w2,w3,y2,hsp,hq,y4,seval])|(with_reducible (first|refine Qf fun K hK=>?_|refine Qi ?_|refine Qk ?_|refine Qb ?_|refine Qn ?_))|((with_reducible refine hK _ ?_);clear hK)|(refine Qh rfl ?_;simp only[↓reduceIte,QrN]))
      refine Xi.mk (m':=YG.length - (j+1)) (by omega) ?_
      rw[hI]
      refine⟨j+1,rfl,hlt,t0,t1,?_,t6,rfl,rfl⟩
      rw[htk,stepS,if_neg (by rintro⟨_,q⟩;exact hg q)];exact t5
    |false =>
     rw[hc]at hq
     repeat (first|((first|(with_reducible (first|refine Qa fun K E hK hE=>?_|refine Qj fun K E hK hE=>?_))|(refine QS (id:=9) [(0,0),(1,0),(2,0),(3,0),(4,0),(5,0),(6,0),(7,0),(8,0),(9,0),(10,0),(11,0),(12,0),(13,0),(14,0),(15,0),(16,0),(17,0),(18,0),(19,0),(20,0),(21,0),(22,0),(23,0),(24,0)] mixed (by kernel_rfl) fun K hK=>?_));simp -implicitDefEqProofs only[Qc,Qd,OpW,aop,undef,AS.ev,↓reduceIte,Qw,Qv,QM,aBin,Xf,aLen,goInt,ti9,ei9,ei46,un46,t0,t1,t6,t7,hsl,QA,hlen2,y1,hat,w1,w2,w3,y2,hsp,hq,seval])|(with_reducible (first|refine Qf fun K hK=>?_|refine Qi ?_|refine Qk ?_|refine Qb ?_|refine Qn ?_))|((with_reducible refine hK _ ?_);clear hK)|(refine Qh rfl ?_;simp only[↓reduceIte,QrN]))
     refine Xi.mk (m':=YG.length - (j+1)) (by omega) ?_
     rw[hI]
     refine⟨j+1,rfl,hlt,t0,t1,?_,t6,rfl,rfl⟩
     rw[htk,stepS,if_neg (by rintro⟨q,_⟩;rw[hc]at q;cases q)];exact t5
   ·have y2:¬((x.length:Nat):Int)≤((l.length - k:Nat):Int):=by omega
    have hc:x.isPrefixOf (l.drop k)=false:=by
     rw[QaV,beq_eq_false_iff_ne]
     intro e
     have:=congrArg List.length e
     rw[List.length_take,List.length_drop]at this
     omega
    repeat (first|((first|(with_reducible (first|refine Qa fun K E hK hE=>?_|refine Qj fun K E hK hE=>?_))|(refine QS (id:=9) [(0,0),(1,0),(2,0),(3,0),(4,0),(5,0),(6,0),(7,0),(8,0),(9,0),(10,0),(11,0),(12,0),(13,0),(14,0),(15,0),(16,0),(17,0),(18,0),(19,0),(20,0),(21,0),(22,0),(23,0),(24,0)] mixed (by kernel_rfl) fun K hK=>?_));simp -implicitDefEqProofs only[Qc,Qd,OpW,aop,undef,AS.ev,↓reduceIte,Qw,Qv,QM,aBin,aLen,goInt,ti9,ei46,un46,t0,t1,t6,t7,hsl,QA,hlen2,y1,hat,w1,w3,y2,seval])|(with_reducible (first|refine Qf fun K hK=>?_|refine Qi ?_|refine Qk ?_|refine Qb ?_|refine Qn ?_))|((with_reducible refine hK _ ?_);clear hK)|(refine Qh rfl ?_;simp only[↓reduceIte,QrN]))
    refine Xi.mk (m':=YG.length - (j+1)) (by omega) ?_
    rw[hI]
    refine⟨j+1,rfl,hlt,t0,t1,?_,t6,rfl,rfl⟩
    rw[htk,stepS,if_neg (by rintro⟨q,_⟩;rw[hc]at q;cases q)];exact t5
  ·have hjl:j=YG.length:=by omega
   have y1:¬((j:Nat):Int)<((YG.length:Nat):Int):=by omega
   rw[hjl,List.take_length]at t5
   repeat (first|(((with_reducible refine Qa fun K E hK hE=>?_));simp -implicitDefEqProofs only[Qc,Qd,OpW,aop,AS.ev,↓reduceIte,aBin,aLen,goInt,un46,t5,t6,t7,hlen2,y1,seval])|(with_reducible (first|refine Qf fun K hK=>?_|refine Qm ?_|refine QF ?_|refine Qb ?_|refine QD ?_|refine QC ?_))|((with_reducible refine hK _ ?_);clear hK)|(clear hK;(with_reducible refine hK _ ?_);clear hK)|(refine Qh rfl ?_;simp only[↓reduceIte,QrN]))
   simp only[QH,Qo,Qt,upd,↓reduceIte,QrP,QrT];first|refine Qq (htake _ _) (.keep (.v _)) ⟨rfl,rfl⟩|refine Qq List.take_length (.keep (.v _)) ⟨rfl,rfl⟩
 ·rw[hI]
  exact⟨0,rfl,Nat.zero_le _,rfl,rfl,rfl,rfl,rfl,rfl⟩
end Go.Proofs.YticgcpebdldbgaaDoor.Ab
set_option maxRecDepth 4000
namespace Go.Proofs.YticgcpebdldbgaaDoor.Ab
open Go.Proofs
section
variable(l:List UInt8)(hl:l.length≤16384)(k0:Nat)(hk0:k0≤l.length)(h:AH)(k:Nat)(hk:k=l.length - (QV false (l.drop k0)).length)(he:QV false (l.drop k0)=l.drop k)
include hl hk0 hk he
theorem Qmu(hk2:k=l.length):QL Tryd.prog 24 [.v (.string (mkB l)),.i k0] h fun o h'=>o = .ret (rdT k (Xv (l.drop k)))∧h'=h:=by
 have hsl:=fun b=>Yi Tryd.prog 9 3 (by kernel_rfl) b
 have z1:¬((k0:Nat):Int)<0:=by omega
 have z2:¬((l.length:Nat):Int)<((k0:Nat):Int):=by omega
 have z3:¬((k0:Nat):Int)>((l.length:Nat):Int):=by omega
 have z4:¬((l.length:Nat):Int)>16384:=by omega
 have z5:¬(16384:Int)<((l.length:Nat):Int):=by omega
 have cs:=Z2 l hl k0 hk0
 rw[←hk]at cs
 have _u:=he
 have y1:(((k:Nat):Int)==((l.length:Nat):Int))=true:=by rw[hk2];simp
 have e:rdT k (Xv (l.drop k)) = .tup [tkv 0 k [],.i k,.i 0]:=by rw[hk2,List.drop_length];rfl
 have hsp:=Zg Tryd.prog 9 (by kernel_rfl) (mkB l) (some (.i64,(k:Nat))) (some (.i64,(k:Nat))) k (k+0) ⟨by omega,by rw[QA];omega,by omega⟩ ⟨by omega,by omega,by omega⟩
 simp only[QrL]at hsp
 rw[YE l k 0 (by omega),List.take_zero]at hsp
 rw[e]
 refine Qe Tryd.func24 rfl Tryd.call24 Tryd.ntmps24 Tryd.results24 (by simp) ?_
 repeat (first|((first|(with_reducible (first|refine Qa fun K E hK hE=>?_|refine Qz cs ?_)));simp -implicitDefEqProofs only[Qc,Qd,OpW,QB,aop,undef,AS.ev,Qr,AV.QqY,↓reduceIte,Qu,Ql,aBin,QP,Q6,Xf,aLen,goInt,ei9,ti60,zi60,sp60,hsl,QA,z1,z2,z4,y1,hsp,seval])|(with_reducible (first|refine Qf fun K hK=>?_|refine Qi ?_|refine Qm ?_|refine Qk ?_|refine Qb ?_|refine Qn ?_))|((with_reducible refine hK _ ?_);clear hK)|(refine Qh rfl ?_;simp only[↓reduceIte,QrN]))
 simp -implicitDefEqProofs only[Qc,↓reduceIte,ti60,List.mapM_cons,List.mapM_nil,Option.pure_def,Option.bind_eq_bind,Qw,Qv,QH,Qo,Qt,QrT,seval]
 exact Qq (htake _ _) (.keep (Z4 (QcE _ _ _ _) _ _)) ⟨rfl,rfl⟩
theorem Qmw(hk2:k<l.length)(hL:lowB l[k]=true):QL Tryd.prog 24 [.v (.string (mkB l)),.i k0] h fun o h'=>o = .ret (rdT k (Xv (l.drop k)))∧h'=h:=by
 have hsl:=fun b=>Yi Tryd.prog 9 3 (by kernel_rfl) b
 have z1:¬((k0:Nat):Int)<0:=by omega
 have z2:¬((l.length:Nat):Int)<((k0:Nat):Int):=by omega
 have z3:¬((k0:Nat):Int)>((l.length:Nat):Int):=by omega
 have z4:¬((l.length:Nat):Int)>16384:=by omega
 have z5:¬(16384:Int)<((l.length:Nat):Int):=by omega
 have cs:=Z2 l hl k0 hk0
 rw[←hk]at cs
 have _u:=he
 have y1:(((k:Nat):Int)==((l.length:Nat):Int))=false:=by simp;omega
 have hix:=XP Tryd.prog 9 (by kernel_rfl) (mkB l) k (by rw[QA];exact hk2)
 rw[X7 l k hk2]at hix
 have cl:=Z9 l[k]
 have cu:=QaY l[k]
 have cd:=ZP l[k]
 have hd:=drop_cons hk2
 have hlu:=Qec l[k]
 rw[hL]at cl hlu
 rw[Bool.true_or]at hlu
 have h97:97≤l[k].toNat:=(of_decide_eq_true hL).1
 obtain⟨w,hw⟩:∃w,w=(l.drop k).takeWhile isW:=⟨_,rfl⟩
 have hn:w.length≤l.length - k:=by rw[hw,←List.length_drop];exact(List.takeWhile_prefix _).length_le
 have ht:Xv (l.drop k)=if 40<w.length then .inr 7 else .inl (1,w):=by rw[hw,hd,Xv,if_pos hlu,if_pos h97]
 have hwt:(l.drop k).take w.length=w:=by rw[hw];exact(List.prefix_iff_eq_take.1 (List.takeWhile_prefix isW)).symm
 refine Qe Tryd.func24 rfl Tryd.call24 Tryd.ntmps24 Tryd.results24 (by simp) ?_
 repeat (first|((first|(with_reducible (first|refine Qa fun K E hK hE=>?_|refine Qj fun K E hK hE=>?_|refine Qz cs ?_|refine Qz cl ?_)));simp -implicitDefEqProofs only[Qc,Qd,OpW,QB,aop,undef,AS.ev,Qr,AV.QqY,↓reduceIte,aBin,aLen,goInt,zi60,hsl,QA,z1,z2,z4,y1,hix,seval])|(with_reducible (first|refine Qf fun K hK=>?_|refine Qi ?_|refine Qk ?_|refine Qb ?_))|((with_reducible refine hK _ ?_);clear hK)|(refine Qh rfl ?_;simp only[↓reduceIte,QrN]))
 obtain⟨I,hI⟩:∃I:Nat→AS→Prop,I=fun m' s=>∃j:Nat,m'=w.length - j∧j≤w.length∧j+((l.drop (k+j)).takeWhile isW).length=w.length∧s.tm 0 = .v (.string (mkB l))∧s.tm 1 = .i k∧s.tm 4 = .ptr h.length 0 0∧s.tm 7 = .i ((k+j:Nat):Int)∧s.tm 8 = .i 1∧s.h=h++[.cells 60 3 [zTok]]:=⟨_,rfl⟩;refine QR I ?_ (m:=w.length) ?_
 ·intro m' s hs;rw[hI]at hs;obtain⟨tm,hp⟩:=s;dsimp only at hs;obtain⟨j,rfl,hj,hw2,t0,t1,t4,t7,t8,rfl⟩:=hs
  (with_reducible refine Qf fun K hK=>?_)
  refine Q2 (fun s=>s.tm 78 = .b (decide (j<w.length))∧s.tm 0 = .v (.string (mkB l))∧s.tm 1 = .i k∧s.tm 4 = .ptr h.length 0 0∧s.tm 7 = .i ((k+j:Nat):Int)∧s.tm 8 = .i 1∧s.h=h++[.cells 60 3 [zTok]]) ?_ ?_
  ·rintro⟨tm,hq⟩ ⟨t78,t0,t1,t4,t7,t8,rfl⟩
   dsimp only at t78 t0 t1 t4 t7 t8
   by_cases hjw:j<w.length
   ·rw[decide_eq_true hjw]at t78
    have hlt:k+j<l.length:=by omega
    have w5:IntKind.i64.wrap (((k+j:Nat):Int)+1)=((k+(j+1):Nat):Int):=by rw[Xt (by omega)];omega
    rw[drop_cons hlt,List.takeWhile_cons]at hw2
    have hc:isW l[k+j]=true:=by
     cases q:isW l[k+j]with
     |true=>rfl
     |false =>
      rw[q]at hw2
      simp at hw2;omega
    rw[if_pos hc,List.length_cons]at hw2
    refine Qh (by exact t78) ?_
    simp only[↓reduceIte]
    repeat (first|(((with_reducible refine Qj fun K E hK hE=>?_));simp -implicitDefEqProofs only[Qc,Qd,OpW,aop,AS.ev,↓reduceIte,Nat.reduceLT,aBin,t7,w5])|(with_reducible (first|refine Qi ?_|refine Qk ?_|refine Qb ?_|refine Qn ?_))|((with_reducible refine hK _ ?_);clear hK))
    refine Xi.mk (m':=w.length - (j+1)) (by omega) ?_
    rw[hI]
    exact⟨j+1,rfl,by omega,by rw[show k+(j+1)=k+j+1 by omega];omega,t0,t1,t4,rfl,t8,rfl⟩
   ·rw[decide_eq_false hjw]at t78
    have hje:j=w.length:=by omega
    subst hje
    have hsp:=Zg Tryd.prog 9 (by kernel_rfl) (mkB l) (some (.i64,(k:Nat))) (some (.i64,(k+w.length:Nat))) k (k+w.length) ⟨by omega,by rw[QA];omega,by omega⟩ ⟨by omega,by omega,by omega⟩
    have w6:IntKind.i64.wrap (((k+w.length:Nat):Int) - ((k:Nat):Int))=((w.length:Nat):Int):=by rw[Xt (by omega)];omega
    simp only[QrL]at hsp
    rw[YE l k _ (by omega),hwt]at hsp
    refine Qh (by exact t78) ?_
    simp only[↓reduceIte,QrN]
    by_cases h40:40<w.length
    ·have x1:((w.length:Nat):Int)>40:=by omega
     have x2:(40:Int)<((w.length:Nat):Int):=by omega
     repeat (first|(((with_reducible refine Qa fun K E hK hE=>?_));simp -implicitDefEqProofs only[Qc,Qd,OpW,aop,undef,AS.ev,AV.QqY,↓reduceIte,Qu,Ql,aBin,QP,Q6,ti60,zi60,sp60,t1,t4,t7,zTok,w6,x1,seval])|(with_reducible (first|refine Qm ?_|refine QF ?_|refine Qb ?_|refine Qy ?_|refine QD ?_|refine QE ?_|refine QC ?_))|((with_reducible refine hK _ ?_);clear hK)|(clear hK;(with_reducible refine hK _ ?_);clear hK)|(refine Qh rfl ?_;simp only[↓reduceIte]))
     simp -implicitDefEqProofs only[Qc,↓reduceIte,ti60,List.mapM_cons,List.mapM_nil,Option.pure_def,Option.bind_eq_bind,t4,Qw,Qv,QH,Qo,Qt,QrT,seval]
     exact Qq (htake _ _) (.keep (XH _ k (.inr 7))) ⟨by rw[ht,if_pos h40];rfl,rfl⟩
    ·have x1:¬((w.length:Nat):Int)>40:=by omega
     have x2:¬(40:Int)<((w.length:Nat):Int):=by omega
     repeat (first|(((with_reducible refine Qa fun K E hK hE=>?_));simp -implicitDefEqProofs only[Qc,Qd,OpW,aop,undef,AS.ev,AV.QqY,↓reduceIte,Qu,Ql,aBin,QP,Q6,Xf,ei9,ti60,zi60,sp60,t0,t1,t4,t7,t8,zTok,w6,x1,hsp,seval])|(with_reducible (first|refine Qm ?_|refine Qk ?_|refine QF ?_|refine Qb ?_|refine QD ?_|refine Qn ?_|refine QC ?_))|((with_reducible refine hK _ ?_);clear hK)|(clear hK;(with_reducible refine hK _ ?_);clear hK)|(refine Qh rfl ?_;simp only[↓reduceIte,QrN]))
     simp -implicitDefEqProofs only[Qc,↓reduceIte,ti60,List.mapM_cons,List.mapM_nil,Option.pure_def,Option.bind_eq_bind,t4,Qw,Qv,QH,Qo,Qt,QrT,seval]
     exact Qq (htake _ _) (.keep (XH _ k (.inl (1,w)))) ⟨by rw[ht,if_neg h40];rfl,rfl⟩
  ·refine Qj (fun K1 E1 hK1 hE1=>?_)
   by_cases hlt:k+j<l.length
   ·have y2:((k+j:Nat):Int)<((l.length:Nat):Int):=by omega
    have hix2:=XP Tryd.prog 9 (by kernel_rfl) (mkB l) (k+j) (by rw[QA];exact hlt)
    rw[X7 l (k+j) hlt]at hix2
    have bl:=Z9 l[k+j]
    have bu:=QaY l[k+j]
    have bd:=ZP l[k+j]
    have hisW:isW l[k+j]=((lowB l[k+j]||upB l[k+j])||isD l[k+j]):=by rw[←Qec];rfl
    have hjw:decide (j<w.length)=isW l[k+j]:=by
     rw[drop_cons hlt,List.takeWhile_cons]at hw2
     cases q:isW l[k+j]with
     |true=>rw[if_pos q,List.length_cons]at hw2;exact decide_eq_true (by omega)
     |false=>rw[q]at hw2;simp at hw2;exact decide_eq_false (by omega)
    cases q1:lowB l[k+j]with
    |true =>
     rw[q1]at bl
     (try simp only[Qsk]);refine QI 6 (fun K1 hK1=>?_);simp -implicitDefEqProofs only[Qc,Qd,OpW,aop,AS.ev,↓reduceIte,aBin,aLen,goInt,t0,t7,hsl,QA,y2,seval];(repeat ((((with_reducible refine Qa fun K E hK hE=>?_));simp -implicitDefEqProofs only[Qc,Qd,OpW,QB,aop,undef,Xa,AS.ev,Qr,AV.QqY,↓reduceIte,Qu,Ql,aBin,QP,Q6,Xf,QX,aLen,goInt,ti0,zi0,ti3,zi3,un3,ti4,zi4,un4,ti5,zi5,un5,ti9,ei9,zi9,un9,ti27,zi27,un27,ti60,QK,Xc,QQ,zi60,sp60,Qsw,Int.sub_zero,XJ,Qp,t0,t1,t4,t7,t8,hsl,QA,y2,hix2,seval])));refine hK1 _ ?_;clear hK1
     (try simp only[QrS,Qr0]);refine QI 4 (fun K1 hK1=>?_);simp -implicitDefEqProofs only[Qc,Qd,OpW,aop,AS.ev,↓reduceIte,t7,hix2,seval];(repeat ((((with_reducible refine Qz bl ?_));simp -implicitDefEqProofs only[Qc,Qd,OpW,QB,aop,AS.ev,↓reduceIte,seval])));refine hK1 _ ?_;clear hK1
     (try simp only[QrS,Qr0]);refine QI 6 (fun K1 hK1=>?_);simp -implicitDefEqProofs only[Qc,Qd,OpW,aop,undef,AS.ev,↓reduceIte,seval];(repeat ((((with_reducible refine Qa fun K E hK hE=>?_));simp -implicitDefEqProofs only[Qc,Qd,OpW,QB,aop,undef,Xa,AS.ev,Qr,AV.QqY,↓reduceIte,Qu,Ql,aBin,QP,Q6,Xf,QX,aLen,goInt,ti0,zi0,ti3,zi3,un3,ti4,zi4,un4,ti5,zi5,un5,ti9,ei9,zi9,un9,ti27,zi27,un27,ti60,QK,Xc,QQ,zi60,sp60,Qsw,Int.sub_zero,XJ,Qp,t0,t1,t4,t7,t8,hsl,QA,y2,hix2,seval])));refine hK1 _ ?_;clear hK1
     (try simp only[QrS,Qr0]);refine QI 4 (fun K1 hK1=>?_);simp -implicitDefEqProofs only[Qc,Qd,undef,↓reduceIte,seval];(repeat ((((with_reducible refine Qa fun K E hK hE=>?_));simp -implicitDefEqProofs only[Qc,Qd,OpW,QB,aop,undef,Xa,AS.ev,Qr,AV.QqY,↓reduceIte,Qu,Ql,aBin,QP,Q6,Xf,QX,aLen,goInt,ti0,zi0,ti3,zi3,un3,ti4,zi4,un4,ti5,zi5,un5,ti9,ei9,zi9,un9,ti27,zi27,un27,ti60,QK,Xc,QQ,zi60,sp60,Qsw,Int.sub_zero,XJ,Qp,t0,t1,t4,t7,t8,hsl,QA,y2,hix2,seval])));refine hK1 _ ?_;clear hK1
     (try simp only[QrS,Qr0])
     simp -implicitDefEqProofs only[Qc,Qd,OpW,aop,AS.ev,↓reduceIte,seval]
     repeat ((((with_reducible refine Qa fun K E hK hE=>?_));simp -implicitDefEqProofs only[Qc,Qd,OpW,QB,aop,undef,Xa,AS.ev,Qr,AV.QqY,↓reduceIte,Qu,Ql,aBin,QP,Q6,Xf,QX,aLen,goInt,ti0,zi0,ti3,zi3,un3,ti4,zi4,un4,ti5,zi5,un5,ti9,ei9,zi9,un9,ti27,zi27,un27,ti60,QK,Xc,QQ,zi60,sp60,Qsw,Int.sub_zero,XJ,Qp,t0,t1,t4,t7,t8,hsl,QA,y2,hix2,seval]))
     (try (refine hK1 _ ?_;rw[Xu]))
     exact⟨by rw[hjw,hisW,q1];rfl,t0,t1,t4,t7,t8,rfl⟩
    |false =>
     rw[q1]at bl
     cases q2:upB l[k+j]with
     |true =>
      rw[q2]at bu
      (try simp only[Qsk]);refine QI 6 (fun K1 hK1=>?_);simp -implicitDefEqProofs only[Qc,Qd,OpW,aop,AS.ev,↓reduceIte,aBin,aLen,goInt,t0,t7,hsl,QA,y2,seval];(repeat ((((with_reducible refine Qa fun K E hK hE=>?_));simp -implicitDefEqProofs only[Qc,Qd,OpW,QB,aop,undef,Xa,AS.ev,Qr,AV.QqY,↓reduceIte,Qu,Ql,aBin,QP,Q6,Xf,QX,aLen,goInt,ti0,zi0,ti3,zi3,un3,ti4,zi4,un4,ti5,zi5,un5,ti9,ei9,zi9,un9,ti27,zi27,un27,ti60,QK,Xc,QQ,zi60,sp60,Qsw,Int.sub_zero,XJ,Qp,t0,t1,t4,t7,t8,hsl,QA,y2,hix2,seval])));refine hK1 _ ?_;clear hK1
      (try simp only[QrS,Qr0]);refine QI 4 (fun K1 hK1=>?_);simp -implicitDefEqProofs only[Qc,Qd,OpW,aop,AS.ev,↓reduceIte,t7,hix2,seval];(repeat ((((with_reducible refine Qz bl ?_));simp -implicitDefEqProofs only[Qc,Qd,OpW,QB,aop,AS.ev,↓reduceIte,seval])));refine hK1 _ ?_;clear hK1
      (try simp only[QrS,Qr0]);refine QI 6 (fun K1 hK1=>?_);simp -implicitDefEqProofs only[Qc,Qd,OpW,aop,AS.ev,↓reduceIte,t0,t7,hix2,seval];(repeat ((((with_reducible refine Qz bu ?_));simp -implicitDefEqProofs only[Qc,Qd,OpW,QB,aop,AS.ev,↓reduceIte,seval])));refine hK1 _ ?_;clear hK1
      (try simp only[QrS,Qr0]);refine QI 4 (fun K1 hK1=>?_);simp -implicitDefEqProofs only[Qc,Qd,undef,↓reduceIte,seval];(repeat ((((with_reducible refine Qa fun K E hK hE=>?_));simp -implicitDefEqProofs only[Qc,Qd,OpW,QB,aop,undef,Xa,AS.ev,Qr,AV.QqY,↓reduceIte,Qu,Ql,aBin,QP,Q6,Xf,QX,aLen,goInt,ti0,zi0,ti3,zi3,un3,ti4,zi4,un4,ti5,zi5,un5,ti9,ei9,zi9,un9,ti27,zi27,un27,ti60,QK,Xc,QQ,zi60,sp60,Qsw,Int.sub_zero,XJ,Qp,t0,t1,t4,t7,t8,hsl,QA,y2,hix2,seval])));refine hK1 _ ?_;clear hK1
      (try simp only[QrS,Qr0])
      simp -implicitDefEqProofs only[Qc,Qd,OpW,aop,AS.ev,↓reduceIte,seval]
      repeat ((((with_reducible refine Qa fun K E hK hE=>?_));simp -implicitDefEqProofs only[Qc,Qd,OpW,QB,aop,undef,Xa,AS.ev,Qr,AV.QqY,↓reduceIte,Qu,Ql,aBin,QP,Q6,Xf,QX,aLen,goInt,ti0,zi0,ti3,zi3,un3,ti4,zi4,un4,ti5,zi5,un5,ti9,ei9,zi9,un9,ti27,zi27,un27,ti60,QK,Xc,QQ,zi60,sp60,Qsw,Int.sub_zero,XJ,Qp,t0,t1,t4,t7,t8,hsl,QA,y2,hix2,seval]))
      (try (refine hK1 _ ?_;rw[Xu]))
      exact⟨by rw[hjw,hisW,q1,q2];rfl,t0,t1,t4,t7,t8,rfl⟩
     |false =>
      rw[q2]at bu
      cases q3:isD l[k+j]with
      |true =>
       rw[q3]at bd
       (try simp only[Qsk]);refine QI 6 (fun K1 hK1=>?_);simp -implicitDefEqProofs only[Qc,Qd,OpW,aop,AS.ev,↓reduceIte,aBin,aLen,goInt,t0,t7,hsl,QA,y2,seval];(repeat ((((with_reducible refine Qa fun K E hK hE=>?_));simp -implicitDefEqProofs only[Qc,Qd,OpW,QB,aop,undef,Xa,AS.ev,Qr,AV.QqY,↓reduceIte,Qu,Ql,aBin,QP,Q6,Xf,QX,aLen,goInt,ti0,zi0,ti3,zi3,un3,ti4,zi4,un4,ti5,zi5,un5,ti9,ei9,zi9,un9,ti27,zi27,un27,ti60,QK,Xc,QQ,zi60,sp60,Qsw,Int.sub_zero,XJ,Qp,t0,t1,t4,t7,t8,hsl,QA,y2,hix2,seval])));refine hK1 _ ?_;clear hK1
       (try simp only[QrS,Qr0]);refine QI 4 (fun K1 hK1=>?_);simp -implicitDefEqProofs only[Qc,Qd,OpW,aop,AS.ev,↓reduceIte,t7,hix2,seval];(repeat ((((with_reducible refine Qz bl ?_));simp -implicitDefEqProofs only[Qc,Qd,OpW,QB,aop,AS.ev,↓reduceIte,seval])));refine hK1 _ ?_;clear hK1
       (try simp only[QrS,Qr0]);refine QI 6 (fun K1 hK1=>?_);simp -implicitDefEqProofs only[Qc,Qd,OpW,aop,AS.ev,↓reduceIte,t0,t7,hix2,seval];(repeat ((((with_reducible refine Qz bu ?_));simp -implicitDefEqProofs only[Qc,Qd,OpW,QB,aop,AS.ev,↓reduceIte,seval])));refine hK1 _ ?_;clear hK1
       (try simp only[QrS,Qr0]);refine QI 4 (fun K1 hK1=>?_);simp -implicitDefEqProofs only[Qc,Qd,OpW,aop,AS.ev,↓reduceIte,t0,t7,hix2,seval];(repeat ((((with_reducible refine Qz bd ?_));simp -implicitDefEqProofs only[XN,QB,Xw,Nat.reduceLT])));refine hK1 _ ?_;clear hK1
       (try simp only[QrS,Qr0])
       simp -implicitDefEqProofs only[Qc,Qd,OpW,aop,AS.ev,↓reduceIte,seval]
       repeat ((((with_reducible refine Qa fun K E hK hE=>?_));simp -implicitDefEqProofs only[Qc,Qd,OpW,QB,aop,undef,Xa,AS.ev,Qr,AV.QqY,↓reduceIte,Qu,Ql,aBin,QP,Q6,Xf,QX,aLen,goInt,ti0,zi0,ti3,zi3,un3,ti4,zi4,un4,ti5,zi5,un5,ti9,ei9,zi9,un9,ti27,zi27,un27,ti60,QK,Xc,QQ,zi60,sp60,Qsw,Int.sub_zero,XJ,Qp,t0,t1,t4,t7,t8,hsl,QA,y2,hix2,seval]))
       (try (refine hK1 _ ?_;rw[Xu]))
       exact⟨by rw[hjw,hisW,q1,q2,q3];rfl,t0,t1,t4,t7,t8,rfl⟩
      |false =>
       rw[q3]at bd
       (try simp only[Qsk]);refine QI 6 (fun K1 hK1=>?_);simp -implicitDefEqProofs only[Qc,Qd,OpW,aop,AS.ev,↓reduceIte,aBin,aLen,goInt,t0,t7,hsl,QA,y2,seval];(repeat ((((with_reducible refine Qa fun K E hK hE=>?_));simp -implicitDefEqProofs only[Qc,Qd,OpW,QB,aop,undef,Xa,AS.ev,Qr,AV.QqY,↓reduceIte,Qu,Ql,aBin,QP,Q6,Xf,QX,aLen,goInt,ti0,zi0,ti3,zi3,un3,ti4,zi4,un4,ti5,zi5,un5,ti9,ei9,zi9,un9,ti27,zi27,un27,ti60,QK,Xc,QQ,zi60,sp60,Qsw,Int.sub_zero,XJ,Qp,t0,t1,t4,t7,t8,hsl,QA,y2,hix2,seval])));refine hK1 _ ?_;clear hK1
       (try simp only[QrS,Qr0]);refine QI 4 (fun K1 hK1=>?_);simp -implicitDefEqProofs only[Qc,Qd,OpW,aop,AS.ev,↓reduceIte,t7,hix2,seval];(repeat ((((with_reducible refine Qz bl ?_));simp -implicitDefEqProofs only[Qc,Qd,OpW,QB,aop,AS.ev,↓reduceIte,seval])));refine hK1 _ ?_;clear hK1
       (try simp only[QrS,Qr0]);refine QI 6 (fun K1 hK1=>?_);simp -implicitDefEqProofs only[Qc,Qd,OpW,aop,AS.ev,↓reduceIte,t0,t7,hix2,seval];(repeat ((((with_reducible refine Qz bu ?_));simp -implicitDefEqProofs only[Qc,Qd,OpW,QB,aop,AS.ev,↓reduceIte,seval])));refine hK1 _ ?_;clear hK1
       (try simp only[QrS,Qr0]);refine QI 4 (fun K1 hK1=>?_);simp -implicitDefEqProofs only[Qc,Qd,OpW,aop,AS.ev,↓reduceIte,t0,t7,hix2,seval];(repeat ((((with_reducible refine Qz bd ?_));simp -implicitDefEqProofs only[XN,QB,Xw,Nat.reduceLT])));refine hK1 _ ?_;clear hK1
       (try simp only[QrS,Qr0])
       simp -implicitDefEqProofs only[Qc,Qd,OpW,aop,AS.ev,↓reduceIte,seval]
       repeat ((((with_reducible refine Qa fun K E hK hE=>?_));simp -implicitDefEqProofs only[Qc,Qd,OpW,QB,aop,undef,Xa,AS.ev,Qr,AV.QqY,↓reduceIte,Qu,Ql,aBin,QP,Q6,Xf,QX,aLen,goInt,ti0,zi0,ti3,zi3,un3,ti4,zi4,un4,ti5,zi5,un5,ti9,ei9,zi9,un9,ti27,zi27,un27,ti60,QK,Xc,QQ,zi60,sp60,Qsw,Int.sub_zero,XJ,Qp,t0,t1,t4,t7,t8,hsl,QA,y2,hix2,seval]))
       (try (refine hK1 _ ?_;rw[Xu]))
       exact⟨by rw[hjw,hisW,q1,q2,q3];rfl,t0,t1,t4,t7,t8,rfl⟩
   ·have y2:¬((k+j:Nat):Int)<((l.length:Nat):Int):=by omega
    have hjw:decide (j<w.length)=false:=by
     rw[List.drop_eq_nil_of_le (by omega),List.takeWhile_nil,List.length_nil,Nat.add_zero]at hw2
     exact decide_eq_false (by omega)
    (try simp only[Qsk]);refine QI 6 (fun K1 hK1=>?_);simp -implicitDefEqProofs only[Qc,Qd,OpW,aop,undef,AS.ev,↓reduceIte,aBin,aLen,goInt,t0,t7,hsl,QA,y2,seval];(repeat ((((with_reducible refine Qa fun K E hK hE=>?_));simp -implicitDefEqProofs only[Qc,Qd,OpW,QB,aop,undef,Xa,AS.ev,Qr,AV.QqY,↓reduceIte,Qu,Ql,aBin,QP,Q6,Xf,QX,aLen,goInt,ti0,zi0,ti3,zi3,un3,ti4,zi4,un4,ti5,zi5,un5,ti9,ei9,zi9,un9,ti27,zi27,un27,ti60,QK,Xc,QQ,zi60,sp60,Qsw,Int.sub_zero,XJ,Qp,t0,t1,t4,t7,t8,hsl,QA,y2,seval])));refine hK1 _ ?_;clear hK1
    (try simp only[QrS,Qr0]);refine QI 4 (fun K1 hK1=>?_);simp -implicitDefEqProofs only[Qc,Qd,undef,↓reduceIte,seval];(repeat ((((with_reducible refine Qa fun K E hK hE=>?_));simp -implicitDefEqProofs only[Qc,Qd,OpW,QB,aop,undef,Xa,AS.ev,Qr,AV.QqY,↓reduceIte,Qu,Ql,aBin,QP,Q6,Xf,QX,aLen,goInt,ti0,zi0,ti3,zi3,un3,ti4,zi4,un4,ti5,zi5,un5,ti9,ei9,zi9,un9,ti27,zi27,un27,ti60,QK,Xc,QQ,zi60,sp60,Qsw,Int.sub_zero,XJ,Qp,t0,t1,t4,t7,t8,hsl,QA,y2,seval])));refine hK1 _ ?_;clear hK1
    (try simp only[QrS,Qr0]);refine QI 6 (fun K1 hK1=>?_);simp -implicitDefEqProofs only[Qc,Qd,undef,↓reduceIte,seval];(repeat ((((with_reducible refine Qa fun K E hK hE=>?_));simp -implicitDefEqProofs only[Qc,Qd,OpW,QB,aop,undef,Xa,AS.ev,Qr,AV.QqY,↓reduceIte,Qu,Ql,aBin,QP,Q6,Xf,QX,aLen,goInt,ti0,zi0,ti3,zi3,un3,ti4,zi4,un4,ti5,zi5,un5,ti9,ei9,zi9,un9,ti27,zi27,un27,ti60,QK,Xc,QQ,zi60,sp60,Qsw,Int.sub_zero,XJ,Qp,t0,t1,t4,t7,t8,hsl,QA,y2,seval])));refine hK1 _ ?_;clear hK1
    (try simp only[QrS,Qr0]);refine QI 4 (fun K1 hK1=>?_);simp -implicitDefEqProofs only[Qc,Qd,undef,↓reduceIte,seval];(repeat ((((with_reducible refine Qa fun K E hK hE=>?_));simp -implicitDefEqProofs only[Qc,Qd,OpW,QB,aop,undef,Xa,AS.ev,Qr,AV.QqY,↓reduceIte,Qu,Ql,aBin,QP,Q6,Xf,QX,aLen,goInt,ti0,zi0,ti3,zi3,un3,ti4,zi4,un4,ti5,zi5,un5,ti9,ei9,zi9,un9,ti27,zi27,un27,ti60,QK,Xc,QQ,zi60,sp60,Qsw,Int.sub_zero,XJ,Qp,t0,t1,t4,t7,t8,hsl,QA,y2,seval])));refine hK1 _ ?_;clear hK1
    (try simp only[QrS,Qr0])
    simp -implicitDefEqProofs only[Qc,Qd,OpW,aop,undef,AS.ev,↓reduceIte,seval]
    repeat ((((with_reducible refine Qa fun K E hK hE=>?_));simp -implicitDefEqProofs only[Qc,Qd,OpW,QB,aop,undef,Xa,AS.ev,Qr,AV.QqY,↓reduceIte,Qu,Ql,aBin,QP,Q6,Xf,QX,aLen,goInt,ti0,zi0,ti3,zi3,un3,ti4,zi4,un4,ti5,zi5,un5,ti9,ei9,zi9,un9,ti27,zi27,un27,ti60,QK,Xc,QQ,zi60,sp60,Qsw,Int.sub_zero,XJ,Qp,t0,t1,t4,t7,t8,hsl,QA,y2,seval]))
    (try (refine hK1 _ ?_;rw[Xu]))
    exact⟨by rw[hjw];rfl,t0,t1,t4,t7,t8,rfl⟩
 ·rw[hI]
  exact⟨0,rfl,Nat.zero_le _,by rw[Nat.add_zero,←hw,Nat.zero_add],rfl,rfl,rfl,rfl,rfl,rfl⟩
theorem QnX(hk2:k<l.length)(hL:lowB l[k]=false)(hU:upB l[k]=true):QL Tryd.prog 24 [.v (.string (mkB l)),.i k0] h fun o h'=>o = .ret (rdT k (Xv (l.drop k)))∧h'=h:=by
 have hsl:=fun b=>Yi Tryd.prog 9 3 (by kernel_rfl) b
 have z1:¬((k0:Nat):Int)<0:=by omega
 have z2:¬((l.length:Nat):Int)<((k0:Nat):Int):=by omega
 have z3:¬((k0:Nat):Int)>((l.length:Nat):Int):=by omega
 have z4:¬((l.length:Nat):Int)>16384:=by omega
 have z5:¬(16384:Int)<((l.length:Nat):Int):=by omega
 have cs:=Z2 l hl k0 hk0
 rw[←hk]at cs
 have _u:=he
 have y1:(((k:Nat):Int)==((l.length:Nat):Int))=false:=by simp;omega
 have hix:=XP Tryd.prog 9 (by kernel_rfl) (mkB l) k (by rw[QA];exact hk2)
 rw[X7 l k hk2]at hix
 have cl:=Z9 l[k]
 have cu:=QaY l[k]
 have cd:=ZP l[k]
 have hd:=drop_cons hk2
 have hlu:=Qec l[k]
 rw[hL]at cl hlu
 rw[hU]at cu hlu
 rw[Bool.or_true]at hlu
 have h97:¬97≤l[k].toNat:=fun q=>by
  have h1:=of_decide_eq_true hU
  have h2:=of_decide_eq_false hL
  omega
 obtain⟨w,hw⟩:∃w,w=(l.drop k).takeWhile isW:=⟨_,rfl⟩
 have hn:w.length≤l.length - k:=by rw[hw,←List.length_drop];exact(List.takeWhile_prefix _).length_le
 have ht:Xv (l.drop k)=if 40<w.length then .inr 7 else .inl (2,w):=by rw[hw,hd,Xv,if_pos hlu,if_neg h97]
 have hwt:(l.drop k).take w.length=w:=by rw[hw];exact(List.prefix_iff_eq_take.1 (List.takeWhile_prefix isW)).symm
 refine Qe Tryd.func24 rfl Tryd.call24 Tryd.ntmps24 Tryd.results24 (by simp) ?_
 repeat (first|((first|(with_reducible (first|refine Qa fun K E hK hE=>?_|refine Qz cs ?_|refine Qz cl ?_|refine Qz cu ?_)));simp -implicitDefEqProofs only[Qc,Qd,OpW,QB,aop,undef,AS.ev,Qr,AV.QqY,↓reduceIte,aBin,aLen,goInt,zi60,hsl,QA,z1,z2,z4,y1,hix,seval])|(with_reducible (first|refine Qf fun K hK=>?_|refine Qi ?_|refine Qk ?_|refine Qb ?_))|((with_reducible refine hK _ ?_);clear hK)|(refine Qh rfl ?_;simp only[↓reduceIte,QrN]))
 obtain⟨I,hI⟩:∃I:Nat→AS→Prop,I=fun m' s=>∃j:Nat,m'=w.length - j∧j≤w.length∧j+((l.drop (k+j)).takeWhile isW).length=w.length∧s.tm 0 = .v (.string (mkB l))∧s.tm 1 = .i k∧s.tm 4 = .ptr h.length 0 0∧s.tm 7 = .i ((k+j:Nat):Int)∧s.tm 8 = .i 2∧s.h=h++[.cells 60 3 [zTok]]:=⟨_,rfl⟩;refine QR I ?_ (m:=w.length) ?_
 ·intro m' s hs;rw[hI]at hs;obtain⟨tm,hp⟩:=s;dsimp only at hs;obtain⟨j,rfl,hj,hw2,t0,t1,t4,t7,t8,rfl⟩:=hs
  (with_reducible refine Qf fun K hK=>?_)
  refine Q2 (fun s=>s.tm 78 = .b (decide (j<w.length))∧s.tm 0 = .v (.string (mkB l))∧s.tm 1 = .i k∧s.tm 4 = .ptr h.length 0 0∧s.tm 7 = .i ((k+j:Nat):Int)∧s.tm 8 = .i 2∧s.h=h++[.cells 60 3 [zTok]]) ?_ ?_
  ·rintro⟨tm,hq⟩ ⟨t78,t0,t1,t4,t7,t8,rfl⟩
   dsimp only at t78 t0 t1 t4 t7 t8
   by_cases hjw:j<w.length
   ·rw[decide_eq_true hjw]at t78
    have hlt:k+j<l.length:=by omega
    have w5:IntKind.i64.wrap (((k+j:Nat):Int)+1)=((k+(j+1):Nat):Int):=by rw[Xt (by omega)];omega
    rw[drop_cons hlt,List.takeWhile_cons]at hw2
    have hc:isW l[k+j]=true:=by
     cases q:isW l[k+j]with
     |true=>rfl
     |false =>
      rw[q]at hw2
      simp at hw2;omega
    rw[if_pos hc,List.length_cons]at hw2
    refine Qh (by exact t78) ?_
    simp only[↓reduceIte]
    repeat (first|(((with_reducible refine Qj fun K E hK hE=>?_));simp -implicitDefEqProofs only[Qc,Qd,OpW,aop,AS.ev,↓reduceIte,Nat.reduceLT,aBin,t7,w5])|(with_reducible (first|refine Qi ?_|refine Qk ?_|refine Qb ?_|refine Qn ?_))|((with_reducible refine hK _ ?_);clear hK))
    refine Xi.mk (m':=w.length - (j+1)) (by omega) ?_
    rw[hI]
    exact⟨j+1,rfl,by omega,by rw[show k+(j+1)=k+j+1 by omega];omega,t0,t1,t4,rfl,t8,rfl⟩
   ·rw[decide_eq_false hjw]at t78
    have hje:j=w.length:=by omega
    subst hje
    have hsp:=Zg Tryd.prog 9 (by kernel_rfl) (mkB l) (some (.i64,(k:Nat))) (some (.i64,(k+w.length:Nat))) k (k+w.length) ⟨by omega,by rw[QA];omega,by omega⟩ ⟨by omega,by omega,by omega⟩
    have w6:IntKind.i64.wrap (((k+w.length:Nat):Int) - ((k:Nat):Int))=((w.length:Nat):Int):=by rw[Xt (by omega)];omega
    simp only[QrL]at hsp
    rw[YE l k _ (by omega),hwt]at hsp
    refine Qh (by exact t78) ?_
    simp only[↓reduceIte,QrN]
    by_cases h40:40<w.length
    ·have x1:((w.length:Nat):Int)>40:=by omega
     have x2:(40:Int)<((w.length:Nat):Int):=by omega
     repeat (first|(((with_reducible refine Qa fun K E hK hE=>?_));simp -implicitDefEqProofs only[Qc,Qd,OpW,aop,undef,AS.ev,AV.QqY,↓reduceIte,Qu,Ql,aBin,QP,Q6,ti60,zi60,sp60,t1,t4,t7,zTok,w6,x1,seval])|(with_reducible (first|refine Qm ?_|refine QF ?_|refine Qb ?_|refine Qy ?_|refine QD ?_|refine QE ?_|refine QC ?_))|((with_reducible refine hK _ ?_);clear hK)|(clear hK;(with_reducible refine hK _ ?_);clear hK)|(refine Qh rfl ?_;simp only[↓reduceIte]))
     simp -implicitDefEqProofs only[Qc,↓reduceIte,ti60,List.mapM_cons,List.mapM_nil,Option.pure_def,Option.bind_eq_bind,t4,Qw,Qv,QH,Qo,Qt,QrT,seval]
     exact Qq (htake _ _) (.keep (XH _ k (.inr 7))) ⟨by rw[ht,if_pos h40];rfl,rfl⟩
    ·have x1:¬((w.length:Nat):Int)>40:=by omega
     have x2:¬(40:Int)<((w.length:Nat):Int):=by omega
     repeat (first|(((with_reducible refine Qa fun K E hK hE=>?_));simp -implicitDefEqProofs only[Qc,Qd,OpW,aop,undef,AS.ev,AV.QqY,↓reduceIte,Qu,Ql,aBin,QP,Q6,Xf,ei9,ti60,zi60,sp60,t0,t1,t4,t7,t8,zTok,w6,x1,hsp,seval])|(with_reducible (first|refine Qm ?_|refine Qk ?_|refine QF ?_|refine Qb ?_|refine QD ?_|refine Qn ?_|refine QC ?_))|((with_reducible refine hK _ ?_);clear hK)|(clear hK;(with_reducible refine hK _ ?_);clear hK)|(refine Qh rfl ?_;simp only[↓reduceIte,QrN]))
     simp -implicitDefEqProofs only[Qc,↓reduceIte,ti60,List.mapM_cons,List.mapM_nil,Option.pure_def,Option.bind_eq_bind,t4,Qw,Qv,QH,Qo,Qt,QrT,seval]
     exact Qq (htake _ _) (.keep (XH _ k (.inl (2,w)))) ⟨by rw[ht,if_neg h40];rfl,rfl⟩
  ·refine Qj (fun K1 E1 hK1 hE1=>?_)
   by_cases hlt:k+j<l.length
   ·have y2:((k+j:Nat):Int)<((l.length:Nat):Int):=by omega
    have hix2:=XP Tryd.prog 9 (by kernel_rfl) (mkB l) (k+j) (by rw[QA];exact hlt)
    rw[X7 l (k+j) hlt]at hix2
    have bl:=Z9 l[k+j]
    have bu:=QaY l[k+j]
    have bd:=ZP l[k+j]
    have hisW:isW l[k+j]=((lowB l[k+j]||upB l[k+j])||isD l[k+j]):=by rw[←Qec];rfl
    have hjw:decide (j<w.length)=isW l[k+j]:=by
     rw[drop_cons hlt,List.takeWhile_cons]at hw2
     cases q:isW l[k+j]with
     |true=>rw[if_pos q,List.length_cons]at hw2;exact decide_eq_true (by omega)
     |false=>rw[q]at hw2;simp at hw2;exact decide_eq_false (by omega)
    cases q1:lowB l[k+j]with
    |true =>
     rw[q1]at bl
     (try simp only[Qsk]);refine QI 6 (fun K1 hK1=>?_);simp -implicitDefEqProofs only[Qc,Qd,OpW,aop,AS.ev,↓reduceIte,aBin,aLen,goInt,t0,t7,hsl,QA,y2,seval];(repeat ((((with_reducible refine Qa fun K E hK hE=>?_));simp -implicitDefEqProofs only[Qc,Qd,OpW,QB,aop,undef,Xa,AS.ev,Qr,AV.QqY,↓reduceIte,Qu,Ql,aBin,QP,Q6,Xf,QX,aLen,goInt,ti0,zi0,ti3,zi3,un3,ti4,zi4,un4,ti5,zi5,un5,ti9,ei9,zi9,un9,ti27,zi27,un27,ti60,QK,Xc,QQ,zi60,sp60,Qsw,Int.sub_zero,XJ,Qp,t0,t1,t4,t7,t8,hsl,QA,y2,hix2,seval])));refine hK1 _ ?_;clear hK1
     (try simp only[QrS,Qr0]);refine QI 4 (fun K1 hK1=>?_);simp -implicitDefEqProofs only[Qc,Qd,OpW,aop,AS.ev,↓reduceIte,t7,hix2,seval];(repeat ((((with_reducible refine Qz bl ?_));simp -implicitDefEqProofs only[Qc,Qd,OpW,QB,aop,AS.ev,↓reduceIte,seval])));refine hK1 _ ?_;clear hK1
     (try simp only[QrS,Qr0]);refine QI 6 (fun K1 hK1=>?_);simp -implicitDefEqProofs only[Qc,Qd,OpW,aop,undef,AS.ev,↓reduceIte,seval];(repeat ((((with_reducible refine Qa fun K E hK hE=>?_));simp -implicitDefEqProofs only[Qc,Qd,OpW,QB,aop,undef,Xa,AS.ev,Qr,AV.QqY,↓reduceIte,Qu,Ql,aBin,QP,Q6,Xf,QX,aLen,goInt,ti0,zi0,ti3,zi3,un3,ti4,zi4,un4,ti5,zi5,un5,ti9,ei9,zi9,un9,ti27,zi27,un27,ti60,QK,Xc,QQ,zi60,sp60,Qsw,Int.sub_zero,XJ,Qp,t0,t1,t4,t7,t8,hsl,QA,y2,hix2,seval])));refine hK1 _ ?_;clear hK1
     (try simp only[QrS,Qr0]);refine QI 4 (fun K1 hK1=>?_);simp -implicitDefEqProofs only[Qc,Qd,undef,↓reduceIte,seval];(repeat ((((with_reducible refine Qa fun K E hK hE=>?_));simp -implicitDefEqProofs only[Qc,Qd,OpW,QB,aop,undef,Xa,AS.ev,Qr,AV.QqY,↓reduceIte,Qu,Ql,aBin,QP,Q6,Xf,QX,aLen,goInt,ti0,zi0,ti3,zi3,un3,ti4,zi4,un4,ti5,zi5,un5,ti9,ei9,zi9,un9,ti27,zi27,un27,ti60,QK,Xc,QQ,zi60,sp60,Qsw,Int.sub_zero,XJ,Qp,t0,t1,t4,t7,t8,hsl,QA,y2,hix2,seval])));refine hK1 _ ?_;clear hK1
     (try simp only[QrS,Qr0])
     simp -implicitDefEqProofs only[Qc,Qd,OpW,aop,AS.ev,↓reduceIte,seval]
     repeat ((((with_reducible refine Qa fun K E hK hE=>?_));simp -implicitDefEqProofs only[Qc,Qd,OpW,QB,aop,undef,Xa,AS.ev,Qr,AV.QqY,↓reduceIte,Qu,Ql,aBin,QP,Q6,Xf,QX,aLen,goInt,ti0,zi0,ti3,zi3,un3,ti4,zi4,un4,ti5,zi5,un5,ti9,ei9,zi9,un9,ti27,zi27,un27,ti60,QK,Xc,QQ,zi60,sp60,Qsw,Int.sub_zero,XJ,Qp,t0,t1,t4,t7,t8,hsl,QA,y2,hix2,seval]))
     (try (refine hK1 _ ?_;rw[Xu]))
     exact⟨by rw[hjw,hisW,q1];rfl,t0,t1,t4,t7,t8,rfl⟩
    |false =>
     rw[q1]at bl
     cases q2:upB l[k+j]with
     |true =>
      rw[q2]at bu
      (try simp only[Qsk]);refine QI 6 (fun K1 hK1=>?_);simp -implicitDefEqProofs only[Qc,Qd,OpW,aop,AS.ev,↓reduceIte,aBin,aLen,goInt,t0,t7,hsl,QA,y2,seval];(repeat ((((with_reducible refine Qa fun K E hK hE=>?_));simp -implicitDefEqProofs only[Qc,Qd,OpW,QB,aop,undef,Xa,AS.ev,Qr,AV.QqY,↓reduceIte,Qu,Ql,aBin,QP,Q6,Xf,QX,aLen,goInt,ti0,zi0,ti3,zi3,un3,ti4,zi4,un4,ti5,zi5,un5,ti9,ei9,zi9,un9,ti27,zi27,un27,ti60,QK,Xc,QQ,zi60,sp60,Qsw,Int.sub_zero,XJ,Qp,t0,t1,t4,t7,t8,hsl,QA,y2,hix2,seval])));refine hK1 _ ?_;clear hK1
      (try simp only[QrS,Qr0]);refine QI 4 (fun K1 hK1=>?_);simp -implicitDefEqProofs only[Qc,Qd,OpW,aop,AS.ev,↓reduceIte,t7,hix2,seval];(repeat ((((with_reducible refine Qz bl ?_));simp -implicitDefEqProofs only[Qc,Qd,OpW,QB,aop,AS.ev,↓reduceIte,seval])));refine hK1 _ ?_;clear hK1
      (try simp only[QrS,Qr0]);refine QI 6 (fun K1 hK1=>?_);simp -implicitDefEqProofs only[Qc,Qd,OpW,aop,AS.ev,↓reduceIte,t0,t7,hix2,seval];(repeat ((((with_reducible refine Qz bu ?_));simp -implicitDefEqProofs only[Qc,Qd,OpW,QB,aop,AS.ev,↓reduceIte,seval])));refine hK1 _ ?_;clear hK1
      (try simp only[QrS,Qr0]);refine QI 4 (fun K1 hK1=>?_);simp -implicitDefEqProofs only[Qc,Qd,undef,↓reduceIte,seval];(repeat ((((with_reducible refine Qa fun K E hK hE=>?_));simp -implicitDefEqProofs only[Qc,Qd,OpW,QB,aop,undef,Xa,AS.ev,Qr,AV.QqY,↓reduceIte,Qu,Ql,aBin,QP,Q6,Xf,QX,aLen,goInt,ti0,zi0,ti3,zi3,un3,ti4,zi4,un4,ti5,zi5,un5,ti9,ei9,zi9,un9,ti27,zi27,un27,ti60,QK,Xc,QQ,zi60,sp60,Qsw,Int.sub_zero,XJ,Qp,t0,t1,t4,t7,t8,hsl,QA,y2,hix2,seval])));refine hK1 _ ?_;clear hK1
      (try simp only[QrS,Qr0])
      simp -implicitDefEqProofs only[Qc,Qd,OpW,aop,AS.ev,↓reduceIte,seval]
      repeat ((((with_reducible refine Qa fun K E hK hE=>?_));simp -implicitDefEqProofs only[Qc,Qd,OpW,QB,aop,undef,Xa,AS.ev,Qr,AV.QqY,↓reduceIte,Qu,Ql,aBin,QP,Q6,Xf,QX,aLen,goInt,ti0,zi0,ti3,zi3,un3,ti4,zi4,un4,ti5,zi5,un5,ti9,ei9,zi9,un9,ti27,zi27,un27,ti60,QK,Xc,QQ,zi60,sp60,Qsw,Int.sub_zero,XJ,Qp,t0,t1,t4,t7,t8,hsl,QA,y2,hix2,seval]))
      (try (refine hK1 _ ?_;rw[Xu]))
      exact⟨by rw[hjw,hisW,q1,q2];rfl,t0,t1,t4,t7,t8,rfl⟩
     |false =>
      rw[q2]at bu
      cases q3:isD l[k+j]with
      |true =>
       rw[q3]at bd
       (try simp only[Qsk]);refine QI 6 (fun K1 hK1=>?_);simp -implicitDefEqProofs only[Qc,Qd,OpW,aop,AS.ev,↓reduceIte,aBin,aLen,goInt,t0,t7,hsl,QA,y2,seval];(repeat ((((with_reducible refine Qa fun K E hK hE=>?_));simp -implicitDefEqProofs only[Qc,Qd,OpW,QB,aop,undef,Xa,AS.ev,Qr,AV.QqY,↓reduceIte,Qu,Ql,aBin,QP,Q6,Xf,QX,aLen,goInt,ti0,zi0,ti3,zi3,un3,ti4,zi4,un4,ti5,zi5,un5,ti9,ei9,zi9,un9,ti27,zi27,un27,ti60,QK,Xc,QQ,zi60,sp60,Qsw,Int.sub_zero,XJ,Qp,t0,t1,t4,t7,t8,hsl,QA,y2,hix2,seval])));refine hK1 _ ?_;clear hK1
       (try simp only[QrS,Qr0]);refine QI 4 (fun K1 hK1=>?_);simp -implicitDefEqProofs only[Qc,Qd,OpW,aop,AS.ev,↓reduceIte,t7,hix2,seval];(repeat ((((with_reducible refine Qz bl ?_));simp -implicitDefEqProofs only[Qc,Qd,OpW,QB,aop,AS.ev,↓reduceIte,seval])));refine hK1 _ ?_;clear hK1
       (try simp only[QrS,Qr0]);refine QI 6 (fun K1 hK1=>?_);simp -implicitDefEqProofs only[Qc,Qd,OpW,aop,AS.ev,↓reduceIte,t0,t7,hix2,seval];(repeat ((((with_reducible refine Qz bu ?_));simp -implicitDefEqProofs only[Qc,Qd,OpW,QB,aop,AS.ev,↓reduceIte,seval])));refine hK1 _ ?_;clear hK1
       (try simp only[QrS,Qr0]);refine QI 4 (fun K1 hK1=>?_);simp -implicitDefEqProofs only[Qc,Qd,OpW,aop,AS.ev,↓reduceIte,t0,t7,hix2,seval];(repeat ((((with_reducible refine Qz bd ?_));simp -implicitDefEqProofs only[XN,QB,Xw,Nat.reduceLT])));refine hK1 _ ?_;clear hK1
       (try simp only[QrS,Qr0])
       simp -implicitDefEqProofs only[Qc,Qd,OpW,aop,AS.ev,↓reduceIte,seval]
       repeat ((((with_reducible refine Qa fun K E hK hE=>?_));simp -implicitDefEqProofs only[Qc,Qd,OpW,QB,aop,undef,Xa,AS.ev,Qr,AV.QqY,↓reduceIte,Qu,Ql,aBin,QP,Q6,Xf,QX,aLen,goInt,ti0,zi0,ti3,zi3,un3,ti4,zi4,un4,ti5,zi5,un5,ti9,ei9,zi9,un9,ti27,zi27,un27,ti60,QK,Xc,QQ,zi60,sp60,Qsw,Int.sub_zero,XJ,Qp,t0,t1,t4,t7,t8,hsl,QA,y2,hix2,seval]))
       (try (refine hK1 _ ?_;rw[Xu]))
       exact⟨by rw[hjw,hisW,q1,q2,q3];rfl,t0,t1,t4,t7,t8,rfl⟩
      |false =>
       rw[q3]at bd
       (try simp only[Qsk]);refine QI 6 (fun K1 hK1=>?_);simp -implicitDefEqProofs only[Qc,Qd,OpW,aop,AS.ev,↓reduceIte,aBin,aLen,goInt,t0,t7,hsl,QA,y2,seval];(repeat ((((with_reducible refine Qa fun K E hK hE=>?_));simp -implicitDefEqProofs only[Qc,Qd,OpW,QB,aop,undef,Xa,AS.ev,Qr,AV.QqY,↓reduceIte,Qu,Ql,aBin,QP,Q6,Xf,QX,aLen,goInt,ti0,zi0,ti3,zi3,un3,ti4,zi4,un4,ti5,zi5,un5,ti9,ei9,zi9,un9,ti27,zi27,un27,ti60,QK,Xc,QQ,zi60,sp60,Qsw,Int.sub_zero,XJ,Qp,t0,t1,t4,t7,t8,hsl,QA,y2,hix2,seval])));refine hK1 _ ?_;clear hK1
       (try simp only[QrS,Qr0]);refine QI 4 (fun K1 hK1=>?_);simp -implicitDefEqProofs only[Qc,Qd,OpW,aop,AS.ev,↓reduceIte,t7,hix2,seval];(repeat ((((with_reducible refine Qz bl ?_));simp -implicitDefEqProofs only[Qc,Qd,OpW,QB,aop,AS.ev,↓reduceIte,seval])));refine hK1 _ ?_;clear hK1
       (try simp only[QrS,Qr0]);refine QI 6 (fun K1 hK1=>?_);simp -implicitDefEqProofs only[Qc,Qd,OpW,aop,AS.ev,↓reduceIte,t0,t7,hix2,seval];(repeat ((((with_reducible refine Qz bu ?_));simp -implicitDefEqProofs only[Qc,Qd,OpW,QB,aop,AS.ev,↓reduceIte,seval])));refine hK1 _ ?_;clear hK1
       (try simp only[QrS,Qr0]);refine QI 4 (fun K1 hK1=>?_);simp -implicitDefEqProofs only[Qc,Qd,OpW,aop,AS.ev,↓reduceIte,t0,t7,hix2,seval];(repeat ((((with_reducible refine Qz bd ?_));simp -implicitDefEqProofs only[XN,QB,Xw,Nat.reduceLT])));refine hK1 _ ?_;clear hK1
       (try simp only[QrS,Qr0])
       simp -implicitDefEqProofs only[Qc,Qd,OpW,aop,AS.ev,↓reduceIte,seval]
       repeat ((((with_reducible refine Qa fun K E hK hE=>?_));simp -implicitDefEqProofs only[Qc,Qd,OpW,QB,aop,undef,Xa,AS.ev,Qr,AV.QqY,↓reduceIte,Qu,Ql,aBin,QP,Q6,Xf,QX,aLen,goInt,ti0,zi0,ti3,zi3,un3,ti4,zi4,un4,ti5,zi5,un5,ti9,ei9,zi9,un9,ti27,zi27,un27,ti60,QK,Xc,QQ,zi60,sp60,Qsw,Int.sub_zero,XJ,Qp,t0,t1,t4,t7,t8,hsl,QA,y2,hix2,seval]))
       (try (refine hK1 _ ?_;rw[Xu]))
       exact⟨by rw[hjw,hisW,q1,q2,q3];rfl,t0,t1,t4,t7,t8,rfl⟩
   ·have y2:¬((k+j:Nat):Int)<((l.length:Nat):Int):=by omega
    have hjw:decide (j<w.length)=false:=by
     rw[List.drop_eq_nil_of_le (by omega),List.takeWhile_nil,List.length_nil,Nat.add_zero]at hw2
     exact decide_eq_false (by omega)
    (try simp only[Qsk]);refine QI 6 (fun K1 hK1=>?_);simp -implicitDefEqProofs only[Qc,Qd,OpW,aop,undef,AS.ev,↓reduceIte,aBin,aLen,goInt,t0,t7,hsl,QA,y2,seval];(repeat ((((with_reducible refine Qa fun K E hK hE=>?_));simp -implicitDefEqProofs only[Qc,Qd,OpW,QB,aop,undef,Xa,AS.ev,Qr,AV.QqY,↓reduceIte,Qu,Ql,aBin,QP,Q6,Xf,QX,aLen,goInt,ti0,zi0,ti3,zi3,un3,ti4,zi4,un4,ti5,zi5,un5,ti9,ei9,zi9,un9,ti27,zi27,un27,ti60,QK,Xc,QQ,zi60,sp60,Qsw,Int.sub_zero,XJ,Qp,t0,t1,t4,t7,t8,hsl,QA,y2,seval])));refine hK1 _ ?_;clear hK1
    (try simp only[QrS,Qr0]);refine QI 4 (fun K1 hK1=>?_);simp -implicitDefEqProofs only[Qc,Qd,undef,↓reduceIte,seval];(repeat ((((with_reducible refine Qa fun K E hK hE=>?_));simp -implicitDefEqProofs only[Qc,Qd,OpW,QB,aop,undef,Xa,AS.ev,Qr,AV.QqY,↓reduceIte,Qu,Ql,aBin,QP,Q6,Xf,QX,aLen,goInt,ti0,zi0,ti3,zi3,un3,ti4,zi4,un4,ti5,zi5,un5,ti9,ei9,zi9,un9,ti27,zi27,un27,ti60,QK,Xc,QQ,zi60,sp60,Qsw,Int.sub_zero,XJ,Qp,t0,t1,t4,t7,t8,hsl,QA,y2,seval])));refine hK1 _ ?_;clear hK1
    (try simp only[QrS,Qr0]);refine QI 6 (fun K1 hK1=>?_);simp -implicitDefEqProofs only[Qc,Qd,undef,↓reduceIte,seval];(repeat ((((with_reducible refine Qa fun K E hK hE=>?_));simp -implicitDefEqProofs only[Qc,Qd,OpW,QB,aop,undef,Xa,AS.ev,Qr,AV.QqY,↓reduceIte,Qu,Ql,aBin,QP,Q6,Xf,QX,aLen,goInt,ti0,zi0,ti3,zi3,un3,ti4,zi4,un4,ti5,zi5,un5,ti9,ei9,zi9,un9,ti27,zi27,un27,ti60,QK,Xc,QQ,zi60,sp60,Qsw,Int.sub_zero,XJ,Qp,t0,t1,t4,t7,t8,hsl,QA,y2,seval])));refine hK1 _ ?_;clear hK1
    (try simp only[QrS,Qr0]);refine QI 4 (fun K1 hK1=>?_);simp -implicitDefEqProofs only[Qc,Qd,undef,↓reduceIte,seval];(repeat ((((with_reducible refine Qa fun K E hK hE=>?_));simp -implicitDefEqProofs only[Qc,Qd,OpW,QB,aop,undef,Xa,AS.ev,Qr,AV.QqY,↓reduceIte,Qu,Ql,aBin,QP,Q6,Xf,QX,aLen,goInt,ti0,zi0,ti3,zi3,un3,ti4,zi4,un4,ti5,zi5,un5,ti9,ei9,zi9,un9,ti27,zi27,un27,ti60,QK,Xc,QQ,zi60,sp60,Qsw,Int.sub_zero,XJ,Qp,t0,t1,t4,t7,t8,hsl,QA,y2,seval])));refine hK1 _ ?_;clear hK1
    (try simp only[QrS,Qr0])
    simp -implicitDefEqProofs only[Qc,Qd,OpW,aop,undef,AS.ev,↓reduceIte,seval]
    repeat ((((with_reducible refine Qa fun K E hK hE=>?_));simp -implicitDefEqProofs only[Qc,Qd,OpW,QB,aop,undef,Xa,AS.ev,Qr,AV.QqY,↓reduceIte,Qu,Ql,aBin,QP,Q6,Xf,QX,aLen,goInt,ti0,zi0,ti3,zi3,un3,ti4,zi4,un4,ti5,zi5,un5,ti9,ei9,zi9,un9,ti27,zi27,un27,ti60,QK,Xc,QQ,zi60,sp60,Qsw,Int.sub_zero,XJ,Qp,t0,t1,t4,t7,t8,hsl,QA,y2,seval]))
    (try (refine hK1 _ ?_;rw[Xu]))
    exact⟨by rw[hjw];rfl,t0,t1,t4,t7,t8,rfl⟩
 ·rw[hI]
  exact⟨0,rfl,Nat.zero_le _,by rw[Nat.add_zero,←hw,Nat.zero_add],rfl,rfl,rfl,rfl,rfl,rfl⟩
theorem Qmv(hk2:k<l.length)(hL:lowB l[k]=false)(hU:upB l[k]=false)(hD:isD l[k]=true):QL Tryd.prog 24 [.v (.string (mkB l)),.i k0] h fun o h'=>o = .ret (rdT k (Xv (l.drop k)))∧h'=h:=by
 have hsl:=fun b=>Yi Tryd.prog 9 3 (by kernel_rfl) b
 have z1:¬((k0:Nat):Int)<0:=by omega
 have z2:¬((l.length:Nat):Int)<((k0:Nat):Int):=by omega
 have z3:¬((k0:Nat):Int)>((l.length:Nat):Int):=by omega
 have z4:¬((l.length:Nat):Int)>16384:=by omega
 have z5:¬(16384:Int)<((l.length:Nat):Int):=by omega
 have cs:=Z2 l hl k0 hk0
 rw[←hk]at cs
 have _u:=he
 have y1:(((k:Nat):Int)==((l.length:Nat):Int))=false:=by simp;omega
 have hix:=XP Tryd.prog 9 (by kernel_rfl) (mkB l) k (by rw[QA];exact hk2)
 rw[X7 l k hk2]at hix
 have cl:=Z9 l[k]
 have cu:=QaY l[k]
 have cd:=ZP l[k]
 have hd:=drop_cons hk2
 have hlu:=Qec l[k]
 rw[hL]at cl hlu
 rw[hU]at cu hlu
 rw[hD]at cd
 obtain⟨w,hw⟩:∃w,w=(l.drop k).takeWhile isD:=⟨_,rfl⟩
 have hn:w.length≤l.length - k:=by rw[hw,←List.length_drop];exact(List.takeWhile_prefix _).length_le
 have ht:Xv (l.drop k)=if 2147483648<numVal w then .inr 5 else .inl (3,w):=by rw[hw,hd,Xv,if_neg (by rw[hlu];decide),if_pos hD]
 have hwt:(l.drop k).take w.length=w:=by rw[hw];exact(List.prefix_iff_eq_take.1 (List.takeWhile_prefix isD)).symm
 have hwd:∀c∈w,isD c=true:=fun c hc=>by
  rw[hw]at hc
  exact List.all_eq_true.1 List.all_takeWhile c hc
 have cv:=QiE w hwd (by omega)
 refine Qe Tryd.func24 rfl Tryd.call24 Tryd.ntmps24 Tryd.results24 (by simp) ?_
 repeat (first|((first|(with_reducible (first|refine Qa fun K E hK hE=>?_|refine Qz cs ?_|refine Qz cl ?_|refine Qz cu ?_|refine Qz cd ?_)));simp -implicitDefEqProofs only[Qc,Qd,OpW,QB,aop,undef,AS.ev,Qr,AV.QqY,↓reduceIte,aBin,aLen,goInt,zi60,hsl,QA,z1,z2,z4,y1,hix,seval])|(with_reducible (first|refine Qf fun K hK=>?_|refine Qi ?_|refine Qk ?_|refine Qb ?_))|((with_reducible refine hK _ ?_);clear hK)|(refine Qh rfl ?_;simp only[↓reduceIte,QrN]))
 obtain⟨I,hI⟩:∃I:Nat→AS→Prop,I=fun m' s=>∃j:Nat,m'=w.length - j∧j≤w.length∧j+((l.drop (k+j)).takeWhile isD).length=w.length∧s.tm 0 = .v (.string (mkB l))∧s.tm 1 = .i k∧s.tm 4 = .ptr h.length 0 0∧s.tm 7 = .i ((k+j:Nat):Int)∧s.tm 8 = .i 3∧s.h=h++[.cells 60 3 [zTok]]:=⟨_,rfl⟩;refine QR I ?_ (m:=w.length) ?_
 ·intro m' s hs;rw[hI]at hs;obtain⟨tm,hp⟩:=s;dsimp only at hs;obtain⟨j,rfl,hj,hw2,t0,t1,t4,t7,t8,rfl⟩:=hs
  by_cases hlt:k+j<l.length
  ·have y2:((k+j:Nat):Int)<((l.length:Nat):Int):=by omega
   have hix2:=XP Tryd.prog 9 (by kernel_rfl) (mkB l) (k+j) (by rw[QA];exact hlt)
   rw[X7 l (k+j) hlt]at hix2
   have bd:=ZP l[k+j]
   have w5:IntKind.i64.wrap (((k+j:Nat):Int)+1)=((k+(j+1):Nat):Int):=by rw[Xt (by omega)];omega
   have hd2:=drop_cons hlt
   rw[hd2,List.takeWhile_cons]at hw2
   cases q3:isD l[k+j]with
   |true =>
    rw[q3]at bd
    rw[if_pos q3,List.length_cons]at hw2
    repeat (first|((first|(with_reducible (first|refine Qa fun K E hK hE=>?_|refine Qj fun K E hK hE=>?_|refine Qz bd ?_)));simp -implicitDefEqProofs only[Qc,Qd,OpW,QB,aop,AS.ev,↓reduceIte,aBin,aLen,goInt,t0,t7,hsl,zTok,QA,y2,hix2,w5,seval])|(with_reducible (first|refine Qf fun K hK=>?_|refine Qi ?_|refine Qk ?_|refine Qb ?_|refine Qn ?_))|((with_reducible refine hK _ ?_);clear hK)|(refine Qh rfl ?_;simp only[↓reduceIte]))
    refine Xi.mk (m':=w.length - (j+1)) (by omega) ?_
    rw[hI]
    exact⟨j+1,rfl,by omega,by rw[show k+(j+1)=k+j+1 by omega];omega,t0,t1,t4,rfl,t8,rfl⟩
   |false =>
    rw[q3]at bd
    rw[if_neg (by rw[q3];decide),List.length_nil,Nat.add_zero]at hw2
    subst hw2
    have hsp:=Zg Tryd.prog 9 (by kernel_rfl) (mkB l) (some (.i64,(k:Nat))) (some (.i64,(k+w.length:Nat))) k (k+w.length) ⟨by omega,by rw[QA];omega,by omega⟩ ⟨by omega,by omega,by omega⟩
    simp only[QrL]at hsp
    rw[YE l k _ (by omega),hwt]at hsp
    by_cases hb:2147483648<numVal w
    ·have x1:((min (numVal w) 2147483649:Nat):Int)>2147483648:=by omega
     have x2:(2147483648:Int)<((min (numVal w) 2147483649:Nat):Int):=by omega
     repeat (first|((first|(with_reducible (first|refine Qa fun K E hK hE=>?_|refine Qz bd ?_|refine Qz cv ?_)));simp -implicitDefEqProofs only[Qc,Qd,OpW,QB,aop,undef,AS.ev,AV.QqY,↓reduceIte,Qu,Ql,aBin,QP,Q6,Xf,aLen,goInt,ei9,ti60,zi60,sp60,t0,t1,t4,t7,hsl,zTok,QA,y2,hix2,hsp,x1,seval])|(with_reducible (first|refine Qf fun K hK=>?_|refine Qm ?_|refine QF ?_|refine Qb ?_|refine Qy ?_|refine QD ?_|refine QE ?_|refine QC ?_))|((with_reducible refine hK _ ?_);clear hK)|(clear hK;(with_reducible refine hK _ ?_);clear hK)|(refine Qh rfl ?_;simp only[↓reduceIte,QrN]))
     simp -implicitDefEqProofs only[Qc,↓reduceIte,ti60,List.mapM_cons,List.mapM_nil,Option.pure_def,Option.bind_eq_bind,t4,Qw,Qv,QH,Qo,Qt,QrT,seval]
     exact Qq (htake _ _) (.keep (XH _ k (.inr 5))) ⟨by rw[ht,if_pos hb];rfl,rfl⟩
    ·have x1:¬((min (numVal w) 2147483649:Nat):Int)>2147483648:=by omega
     have x2:¬(2147483648:Int)<((min (numVal w) 2147483649:Nat):Int):=by omega
     repeat (first|((first|(with_reducible (first|refine Qa fun K E hK hE=>?_|refine Qz bd ?_|refine Qz cv ?_)));simp -implicitDefEqProofs only[Qc,Qd,OpW,QB,aop,undef,AS.ev,AV.QqY,↓reduceIte,Qu,Ql,aBin,QP,Q6,Xf,aLen,goInt,ei9,ti60,zi60,sp60,t0,t1,t4,t7,t8,hsl,zTok,QA,y2,hix2,hsp,x1,seval])|(with_reducible (first|refine Qf fun K hK=>?_|refine Qm ?_|refine Qk ?_|refine QF ?_|refine Qb ?_|refine QD ?_|refine Qn ?_|refine QC ?_))|((with_reducible refine hK _ ?_);clear hK)|(clear hK;(with_reducible refine hK _ ?_);clear hK)|(refine Qh rfl ?_;simp only[↓reduceIte,QrN]))
     simp -implicitDefEqProofs only[Qc,↓reduceIte,ti60,List.mapM_cons,List.mapM_nil,Option.pure_def,Option.bind_eq_bind,t4,Qw,Qv,QH,Qo,Qt,QrT,seval]
     exact Qq (htake _ _) (.keep (XH _ k (.inl (3,w)))) ⟨by rw[ht,if_neg hb];rfl,rfl⟩
  ·have y2:¬((k+j:Nat):Int)<((l.length:Nat):Int):=by omega
   rw[List.drop_eq_nil_of_le (by omega),List.takeWhile_nil,List.length_nil,Nat.add_zero]at hw2
   subst hw2
   have hsp:=Zg Tryd.prog 9 (by kernel_rfl) (mkB l) (some (.i64,(k:Nat))) (some (.i64,(k+w.length:Nat))) k (k+w.length) ⟨by omega,by rw[QA];omega,by omega⟩ ⟨by omega,by omega,by omega⟩
   simp only[QrL]at hsp
   rw[YE l k _ (by omega),hwt]at hsp
   by_cases hb:2147483648<numVal w
   ·have x1:((min (numVal w) 2147483649:Nat):Int)>2147483648:=by omega
    have x2:(2147483648:Int)<((min (numVal w) 2147483649:Nat):Int):=by omega
    repeat (first|((first|(with_reducible (first|refine Qa fun K E hK hE=>?_|refine Qz cv ?_)));simp -implicitDefEqProofs only[Qc,Qd,OpW,QB,aop,undef,AS.ev,AV.QqY,↓reduceIte,Qu,Ql,aBin,QP,Q6,Xf,aLen,goInt,ei9,ti60,zi60,sp60,t0,t1,t4,t7,hsl,zTok,QA,y2,hsp,x1,seval])|(with_reducible (first|refine Qf fun K hK=>?_|refine Qm ?_|refine QF ?_|refine Qb ?_|refine Qy ?_|refine QD ?_|refine QE ?_|refine QC ?_))|((with_reducible refine hK _ ?_);clear hK)|(clear hK;(with_reducible refine hK _ ?_);clear hK)|(refine Qh rfl ?_;simp only[↓reduceIte,QrN]))
    simp -implicitDefEqProofs only[Qc,↓reduceIte,ti60,List.mapM_cons,List.mapM_nil,Option.pure_def,Option.bind_eq_bind,t4,Qw,Qv,QH,Qo,Qt,QrT,seval]
    exact Qq (htake _ _) (.keep (XH _ k (.inr 5))) ⟨by rw[ht,if_pos hb];rfl,rfl⟩
   ·have x1:¬((min (numVal w) 2147483649:Nat):Int)>2147483648:=by omega
    have x2:¬(2147483648:Int)<((min (numVal w) 2147483649:Nat):Int):=by omega
    repeat (first|((first|(with_reducible (first|refine Qa fun K E hK hE=>?_|refine Qz cv ?_)));simp -implicitDefEqProofs only[Qc,Qd,OpW,QB,aop,undef,AS.ev,AV.QqY,↓reduceIte,Qu,Ql,aBin,QP,Q6,Xf,aLen,goInt,ei9,ti60,zi60,sp60,t0,t1,t4,t7,t8,hsl,zTok,QA,y2,hsp,x1,seval])|(with_reducible (first|refine Qf fun K hK=>?_|refine Qm ?_|refine Qk ?_|refine QF ?_|refine Qb ?_|refine QD ?_|refine Qn ?_|refine QC ?_))|((with_reducible refine hK _ ?_);clear hK)|(clear hK;(with_reducible refine hK _ ?_);clear hK)|(refine Qh rfl ?_;simp only[↓reduceIte,QrN]))
    simp -implicitDefEqProofs only[Qc,↓reduceIte,ti60,List.mapM_cons,List.mapM_nil,Option.pure_def,Option.bind_eq_bind,t4,Qw,Qv,QH,Qo,Qt,QrT,seval]
    exact Qq (htake _ _) (.keep (XH _ k (.inl (3,w)))) ⟨by rw[ht,if_neg hb];rfl,rfl⟩
 ·rw[hI]
  exact⟨0,rfl,Nat.zero_le _,by rw[Nat.add_zero,←hw,Nat.zero_add],rfl,rfl,rfl,rfl,rfl,rfl⟩
theorem Qkr(hk2:k<l.length)(hL:lowB l[k]=false)(hU:upB l[k]=false)(hD:isD l[k]=false)(hs:QbF (l.drop k)=none):QL Tryd.prog 24 [.v (.string (mkB l)),.i k0] h fun o h'=>o = .ret (rdT k (Xv (l.drop k)))∧h'=h:=by
 have hsl:=fun b=>Yi Tryd.prog 9 3 (by kernel_rfl) b
 have z1:¬((k0:Nat):Int)<0:=by omega
 have z2:¬((l.length:Nat):Int)<((k0:Nat):Int):=by omega
 have z3:¬((k0:Nat):Int)>((l.length:Nat):Int):=by omega
 have z4:¬((l.length:Nat):Int)>16384:=by omega
 have z5:¬(16384:Int)<((l.length:Nat):Int):=by omega
 have cs:=Z2 l hl k0 hk0
 rw[←hk]at cs
 have _u:=he
 have y1:(((k:Nat):Int)==((l.length:Nat):Int))=false:=by simp;omega
 have hix:=XP Tryd.prog 9 (by kernel_rfl) (mkB l) k (by rw[QA];exact hk2)
 rw[X7 l k hk2]at hix
 have cl:=Z9 l[k]
 have cu:=QaY l[k]
 have cd:=ZP l[k]
 have hd:=drop_cons hk2
 have hlu:=Qec l[k]
 rw[hL]at cl hlu
 rw[hU]at cu hlu
 rw[hD]at cd
 have cy:=Qdn l hl k (by omega)
 rw[hs]at cy
 simp only[Option.getD_none]at cy
 have hs2:=hs
 rw[hd]at hs2
 have ht:Xv (l.drop k) = .inr 16:=by rw[hd,Xv,if_neg (by rw[hlu];decide),if_neg (by rw[hD];decide),hs2]
 have w1:IntKind.i64.wrap (((k:Nat):Int)+(([]:List UInt8).length:Nat))=((k:Nat):Int):=by rw[Xt (by simp only[QrX];omega)];simp
 have w2:IntKind.i64.wrap (((k:Nat):Int)+0)=((k:Nat):Int):=by rw[Xt (by omega)];omega
 rw[ht]
 refine Qe Tryd.func24 rfl Tryd.call24 Tryd.ntmps24 Tryd.results24 (by simp) ?_
 repeat (first|((first|(with_reducible (first|refine Qa fun K E hK hE=>?_|refine Qz cs ?_|refine Qz cl ?_|refine Qz cu ?_|refine Qz cd ?_|refine Qz cy ?_)));simp -implicitDefEqProofs only[Qc,Qd,OpW,QB,aop,undef,AS.ev,Qr,AV.QqY,↓reduceIte,Qu,Ql,aBin,QP,Q6,aLen,goInt,ti60,zi60,sp60,hsl,QA,z1,z2,z4,y1,hix,w2,seval])|(with_reducible (first|refine Qf fun K hK=>?_|refine Qi ?_|refine Qm ?_|refine Qk ?_|refine Qb ?_|refine Qy ?_|refine QE ?_))|((with_reducible refine hK _ ?_);clear hK)|(refine Qh rfl ?_;simp only[↓reduceIte,QrN]))
 simp -implicitDefEqProofs only[Qc,↓reduceIte,ti60,List.mapM_cons,List.mapM_nil,Option.pure_def,Option.bind_eq_bind,Qw,Qv,QH,Qo,Qt,QrT,seval]
 exact Qq (htake _ _) (.keep (XH _ k (.inr 16))) ⟨rfl,rfl⟩
theorem Qks(hk2:k<l.length)(hL:lowB l[k]=false)(hU:upB l[k]=false)(hD:isD l[k]=false)(x:List UInt8)(hs:QbF (l.drop k)=some x):QL Tryd.prog 24 [.v (.string (mkB l)),.i k0] h fun o h'=>o = .ret (rdT k (Xv (l.drop k)))∧h'=h:=by
 have hsl:=fun b=>Yi Tryd.prog 9 3 (by kernel_rfl) b
 have z1:¬((k0:Nat):Int)<0:=by omega
 have z2:¬((l.length:Nat):Int)<((k0:Nat):Int):=by omega
 have z3:¬((k0:Nat):Int)>((l.length:Nat):Int):=by omega
 have z4:¬((l.length:Nat):Int)>16384:=by omega
 have z5:¬(16384:Int)<((l.length:Nat):Int):=by omega
 have cs:=Z2 l hl k0 hk0
 rw[←hk]at cs
 have _u:=he
 have y1:(((k:Nat):Int)==((l.length:Nat):Int))=false:=by simp;omega
 have hix:=XP Tryd.prog 9 (by kernel_rfl) (mkB l) k (by rw[QA];exact hk2)
 rw[X7 l k hk2]at hix
 have cl:=Z9 l[k]
 have cu:=QaY l[k]
 have cd:=ZP l[k]
 have hd:=drop_cons hk2
 have hlu:=Qec l[k]
 rw[hL]at cl hlu
 rw[hU]at cu hlu
 rw[hD]at cd
 have cy:=Qdn l hl k (by omega)
 rw[hs]at cy
 simp only[Option.getD_some]at cy
 have hs2:=hs
 rw[hd]at hs2
 have ht:Xv (l.drop k) = .inl (4,x):=by rw[hd,Xv,if_neg (by rw[hlu];decide),if_neg (by rw[hD];decide),hs2]
 obtain⟨x1,x3,xp⟩:=QeJ hs
 rw[QaV,beq_iff_eq]at xp
 have xl:x.length≤l.length - k:=by have:=congrArg List.length xp;rw[List.length_take,List.length_drop]at this;omega
 have w1:IntKind.i64.wrap (((k:Nat):Int)+((x.length:Nat):Int))=((k+x.length:Nat):Int):=by rw[Xt (by omega)];omega
 have q1:(((k+x.length:Nat):Int)==((k:Nat):Int))=false:=by simp;omega
 have hsp:=Zg Tryd.prog 9 (by kernel_rfl) (mkB l) (some (.i64,(k:Nat))) (some (.i64,(k+x.length:Nat))) k (k+x.length) ⟨by omega,by rw[QA];omega,by omega⟩ ⟨by omega,by omega,by omega⟩
 simp only[QrL]at hsp
 rw[YE l k _ (by omega),xp]at hsp
 rw[ht]
 refine Qe Tryd.func24 rfl Tryd.call24 Tryd.ntmps24 Tryd.results24 (by simp) ?_
 repeat (first|((first|(with_reducible (first|refine Qa fun K E hK hE=>?_|refine Qz cs ?_|refine Qz cl ?_|refine Qz cu ?_|refine Qz cd ?_|refine Qz cy ?_)));simp -implicitDefEqProofs only[Qc,Qd,OpW,QB,aop,undef,AS.ev,Qr,AV.QqY,↓reduceIte,Qu,Ql,aBin,QP,Q6,Xf,aLen,goInt,ei9,ti60,zi60,sp60,hsl,QA,z1,z2,z4,y1,hix,w1,q1,hsp,seval])|(with_reducible (first|refine Qf fun K hK=>?_|refine Qi ?_|refine Qm ?_|refine Qk ?_|refine Qb ?_|refine Qn ?_))|((with_reducible refine hK _ ?_);clear hK)|(refine Qh rfl ?_;simp only[↓reduceIte,QrN]))
 simp -implicitDefEqProofs only[Qc,↓reduceIte,ti60,List.mapM_cons,List.mapM_nil,Option.pure_def,Option.bind_eq_bind,Qw,Qv,QH,Qo,Qt,QrT,seval]
 exact Qq (htake _ _) (.keep (XH _ k (.inl (4,x)))) ⟨rfl,rfl⟩
end
theorem Qkq(l:List UInt8)(hl:l.length≤16384)(k0:Nat)(hk0:k0≤l.length)(h:AH):QL Tryd.prog 24 [.v (.string (mkB l)),.i k0] h fun o h'=>o = .ret (Qeo l.length (l.drop k0))∧h'=h:=by
 obtain⟨j,j1,j2⟩:=QcC (l.drop k0)
 have e1:QV false (l.drop k0)=l.drop (l.length - (QV false (l.drop k0)).length):=by
  rw[List.length_drop]at j1
  rw[j2,List.drop_drop,List.length_drop]
  congr 1;omega
 have en:Qeo l.length (l.drop k0)=rdT (l.length - (QV false (l.drop k0)).length) (Xv (l.drop (l.length - (QV false (l.drop k0)).length))):=by rw[Qeo,←e1]
 rw[en]
 generalize hk:l.length - (QV false (l.drop k0)).length=k at *
 by_cases e:k=l.length
 ·exact Qmu l hl k0 hk0 h k hk.symm e1 e
 ·have hlt:k<l.length:=by omega
  cases hL:lowB l[k]with
  |true=>exact Qmw l hl k0 hk0 h k hk.symm e1 hlt hL
  |false =>
   cases hU:upB l[k]with
   |true=>exact QnX l hl k0 hk0 h k hk.symm e1 hlt hL hU
   |false =>
    cases hD:isD l[k]with
    |true=>exact Qmv l hl k0 hk0 h k hk.symm e1 hlt hL hU hD
    |false =>
     cases hs:QbF (l.drop k)with
     |none=>exact Qkr l hl k0 hk0 h k hk.symm e1 hlt hL hU hD hs
     |some x=>exact Qks l hl k0 hk0 h k hk.symm e1 hlt hL hU hD x hs
end Go.Proofs.YticgcpebdldbgaaDoor.Ab
set_option maxRecDepth 4000
namespace Go.Proofs.YticgcpebdldbgaaDoor.Ab
open Go.Proofs
theorem Qku(l:List UInt8)(hl:l.length≤16384)(h:AH):QL Tryd.prog 9 [.v (.string (mkB l))] h fun o h'=>o = .ret (scR (XQ l))∧h'=h:=by
 have hsl0:=fun b=>Yi Tryd.prog 9 3 (by kernel_rfl) b
 have w0:IntKind.i64.wrap (((l.length:Nat):Int)+1)=((l.length+1:Nat):Int):=XE (by omega)
 rw[XQ,if_neg (by omega)]
 generalize hR:X1 l.length (l.length+1) l=R
 refine Qe Tryd.func9 rfl Tryd.call9 Tryd.ntmps9 Tryd.results9 (by simp) ?_
 iterate 6 (try (first|(((with_reducible refine Qa fun K E hK hE=>?_));simp -implicitDefEqProofs only[Qc,Qd,OpW,aop,AS.ev,Nat.reduceLT])|((with_reducible refine hK _ ?_);clear hK)))
 refine ZC 5 60 3 rfl ?_
 repeat (first|(((with_reducible refine Qa fun K E hK hE=>?_));simp -implicitDefEqProofs only[Qc,Qd,OpW,aop,undef,AS.ev,Qr,↓reduceIte,aBin,aLen,goInt,hsl0,QA,w0,seval])|(with_reducible (first|refine Qf fun K hK=>?_|refine Qi ?_))|((with_reducible refine hK _ ?_);clear hK))
 obtain⟨I,hI⟩:∃I:Nat→AS→Prop,I=fun m' s=>∃(ts:List Tk) (k:Nat) (G:AH),m'=l.length - k∧k≤l.length∧ts.length≤k∧(∃m,l.length - k<m∧scJ ts (X1 l.length m (l.drop k))=R)∧s.tm 0 = .v (.string (mkB l))∧s.tm 5 = .sl 3 (tks ts) (some h.length)∧s.tm 6 = .i k∧s.tm 12 = .i ((l.length+1:Nat):Int)∧s.tm 13 = .i ts.length∧s.h=h++(.grow 60 3 ts.length::G):=⟨_,rfl⟩;refine QR I ?_ (m:=l.length) ?_
 ·intro m' s hs;rw[hI]at hs;obtain⟨tm,hp⟩:=s;dsimp only at hs;obtain⟨ts,k,G,rfl,hk,htl,⟨m,hm,hR2⟩,t0,t5,t6,t12,t13,rfl⟩:=hs
  have yl:((ts.length:Nat):Int)<((l.length+1:Nat):Int):=by omega
  have wl:IntKind.i64.wrap (((ts.length:Nat):Int)+1)=((ts.length+1:Nat):Int):=XE (by omega)
  have hm1:m=m - 1+1:=by omega
  rw[hm1,X1]at hR2
  have cn:=fun L=>Qkq l hl k hk (h++L)
  obtain⟨j,j1,j2⟩:=QcC (l.drop k)
  have hsl:(QV false (l.drop k)).length≤l.length - k:=by rw[j2,List.length_drop,List.length_drop];omega
  have e1:QV false (l.drop k)=l.drop (l.length - (QV false (l.drop k)).length):=by
   rw[List.length_drop]at j1
   rw[j2,List.drop_drop,List.length_drop]
   congr 1;omega
  rw[Qeo]at cn
  have x1:∀(Y:AH),(G++Y)[G.length]? = Y[0]? := fun Y=>Qad _ _
  have x2:∀(Y:AH) k,(G++Y)[G.length+k]? = Y[k]? := fun Y k=>hget _ _ _
  have x3:∀(Y:AH) y,(G++Y).set G.length y=G++Y.set 0 y:=fun Y y=>QbT _ _ _
  have ev:(tks ts).length=ts.length:=Z3 _
  cases ht:Xv (QV false (l.drop k))with
  |inr e =>
   rw[ht]at hR2 cn
   have hR3:Sum.inr (((l.length - (QV false (l.drop k)).length:Nat):Int),e)=R:=hR2
   subst hR3
   have he:(e != 0)=true:=by
    have:=QgF ht
    simpa using this
   repeat (first|((first|(with_reducible (first|refine Qa fun K E hK hE=>?_|refine FunW.QqZ (cn _) ?_)));simp -implicitDefEqProofs only[Qc,Qd,OpW,QB,aop,undef,AS.ev,AV.QqY,↓reduceIte,Qu,Ql,aBin,Q1,ti60,zi60,t0,t6,t12,t13,yl,rdT,zTok,he,seval])|(with_reducible (first|refine Qf fun K hK=>?_|refine Qi ?_|refine Qm ?_|refine Qk ?_|refine Qb ?_|refine Qy ?_|refine QE ?_))|((with_reducible refine hK _ ?_);clear hK)|(refine Qh rfl ?_;simp only[↓reduceIte]))
   simp -implicitDefEqProofs only[Yq,↓reduceIte,Nat.reduceEqDiff,QrL,QrO,QrP,List.mapM_cons,List.mapM_nil,Option.pure_def,Option.bind_eq_bind,QH,Qo,Qt,QrT]
   exact Qq (htake _ _) (.keep (QeF _ (.inr (_,e)))) ⟨rfl,rfl⟩
  |inl p =>
   obtain⟨kd,x⟩:=p
   rw[ht]at hR2 cn
   have hm2:(ts.length+1) * 32≤140737488355328:=by omega
   have hm3:ts.length+1≤maxLen:=by simp only[maxLen];omega
   have e0:((0:Int) != 0)=false:=rfl
   rcases Qar ht with⟨k0,hx1,hx2⟩|⟨k0,hx1,r,hx2⟩
   ·subst k0
    subst hx2
    have hR3:Sum.inl (ts++[⟨0,((l.length - (QV false (l.drop k)).length:Nat):Int),eB⟩])=R:=hR2
    subst hR3
    have z1:((0:Int)==0)=true:=rfl
    generalize l.length - (QV false (l.drop k)).length=i at *
    have evs:tks (ts++[⟨0,((i:Nat):Int),eB⟩])=tks ts++[.agg [.i 0,.i i,.v (.string (mkB []))]]:=by rw[tks,List.map_append];rfl
    repeat (first|((first|(with_reducible (first|refine Qa fun K E hK hE=>?_|refine FunW.QqZ (cn _) ?_)));simp -implicitDefEqProofs only[Qc,Qd,OpW,QB,aop,undef,AS.ev,AV.QqY,↓reduceIte,Qg,Qw,Qv,Qu,Ql,aBin,Q1,QG,XI,Yk,ti3,ei37,ai37,ti60,QK,zi60,t0,t5,t6,t12,t13,yl,rdT,tkv,x1,x3,ev,hm2,hm3,List.append_assoc,seval])|(with_reducible (first|refine Qf fun K hK=>?_|refine Qi ?_|refine Qm ?_|refine Qk ?_|refine Qb ?_|refine Qy ?_|refine QE ?_))|((with_reducible refine hK _ ?_);clear hK)|(refine Qh rfl ?_;simp only[↓reduceIte,QrN]))
    simp -implicitDefEqProofs only[Yq,↓reduceIte,Nat.reduceEqDiff,QrL,QrO,QrP,List.mapM_cons,List.mapM_nil,Option.pure_def,Option.bind_eq_bind,QH,Qo,Qt,QrT]
    refine Qq (htake _ _) (r':=.tup [.sl 3 (tks ts++[.agg [.i 0,.i i,.v (.string (mkB []))]]) none,.i 0,.i 0]) (Frz.tup rfl fun j a a' h1 h2=>?_) ⟨by rw[scR,evs],rfl⟩
    match j,h1,h2 with
    |0,h1,h2=>cases h1;cases h2;exact .tok (by rw[←evs];exact QbB _ _)
    |1,h1,h2=>cases h1;cases h2;exact .keep (.v _)
    |2,h1,h2=>cases h1;cases h2;exact .keep (.v _)
    |j+3,h1,h2=>simp at h1
   ·have hR3:scJ (ts++[⟨kd,((l.length - (QV false (l.drop k)).length:Nat):Int),mkB x⟩]) (X1 l.length (m - 1) ((QV false (l.drop k)).drop x.length))=R:=by
     rw[←hR2]
     show _=scJ ts (if kd=0 then _ else match X1 l.length (m - 1) ((QV false (l.drop k)).drop x.length)with | .inl ts=>_ | .inr e=>_)
     rw[if_neg k0]
     cases X1 l.length (m - 1) ((QV false (l.drop k)).drop x.length)with
     |inl us=>simp[scJ]
     |inr e=>rfl
    have hxl:0<x.length:=List.length_pos_iff.2 hx1
    have hxr:x.length≤(QV false (l.drop k)).length:=by rw[hx2,List.length_append];omega
    have e9:(QV false (l.drop k)).drop x.length=l.drop (l.length - (QV false (l.drop k)).length+x.length):=by
     conv=>lhs;rw[e1]
     rw[List.drop_drop]
    rw[e9]at hR3
    generalize (QV false (l.drop k)).length=u at *
    have z1:(kd==0)=false:=by simpa using k0
    have evs:tks (ts++[⟨kd,((l.length - u:Nat):Int),mkB x⟩])=tks ts++[.agg [.i kd,.i ((l.length - u:Nat):Int),.v (.string (mkB x))]]:=by rw[tks,List.map_append];rfl
    repeat (first|((first|(with_reducible (first|refine Qa fun K E hK hE=>?_|refine Qj fun K E hK hE=>?_|refine FunW.QqZ (cn _) ?_)));simp -implicitDefEqProofs only[Qc,Qd,OpW,QB,aop,undef,AS.ev,AV.QqY,↓reduceIte,Qg,Qw,Qv,Qu,Ql,aBin,Q1,QG,XI,Yk,ti3,ei37,ai37,ti60,QK,zi60,t0,t5,t6,t12,t13,yl,wl,rdT,tkv,z1,x1,x3,ev,hm2,hm3,List.append_assoc,seval])|(with_reducible (first|refine Qf fun K hK=>?_|refine Qi ?_|refine Qk ?_|refine Qb ?_|refine Qn ?_))|((with_reducible refine hK _ ?_);clear hK)|(refine Qh rfl ?_;simp only[↓reduceIte,QrN]))
    refine Xi.mk (m':=l.length - (l.length - u+x.length)) (by omega) ?_
    rw[hI]
    refine⟨ts++[⟨kd,((l.length - u:Nat):Int),mkB x⟩],l.length - u+x.length,G++[.cells 60 3 [tkv kd ((l.length - u:Nat):Int) x]],rfl,by omega,by simp;omega,⟨m - 1,by omega,hR3⟩,t0,?_,rfl,t12,?_,?_⟩
    ·rw[evs];rfl
    ·rw[List.length_append];rfl
    ·rw[List.length_append];rfl
 ·rw[hI]
  exact⟨[],0,[],rfl,Nat.zero_le _,Nat.le_refl _,⟨l.length+1,by omega,by rw[←hR];cases h0:X1 l.length (l.length+1) l <;> simp[scJ,h0]⟩,rfl,rfl,rfl,rfl,rfl,rfl⟩
def sepI(d:Int):List UInt8:=if d=0 then[32]else if d=1 then[9,10]else if d=2 then[13,32]else if d=3 then[32,35,120,10]else[32,32]
theorem Qjx(d:Int):sepI d∈seps∧(sepI d).length≤4:=by
 unfold sepI
 repeat' split
 all_goals exact⟨by decide,by decide⟩
def QmD(s:Int)(i:Nat):Int:=IntKind.u64.wrap (IntKind.u64.wrap (IntKind.u64.wrap (s.tdiv 5) * 7)+((i:Nat):Int))
def sprL:Option Tk→Nat→Int→List Tk→List UInt8
 |_,_,_,[]=>[]
 |none,i,s,t::l=>t.text.toList++sprL (some t) (i+1) s l
 |some p,i,s,t::l=>if near p t then t.text.toList++sprL (some t) (i+1) s l else sepI (s.tmod 5)++(t.text.toList++sprL (some t) (i+1) (QmD s i) l)
theorem QdN:∀(l:List Tk) (p:Option Tk) (i:Nat) (s:Int),Spr p l (sprL p i s l)
 |[],p,i,s=>by cases p <;> exact .nil _
 |t::l,none,i,s=>.first t l _ (QdN l (some t) (i+1) s)
 |t::l,some p,i,s=>by
  rw[sprL]
  split
  ·rename_i hn;exact .near p t l _ hn (QdN l (some t) (i+1) s)
  ·rename_i hn;exact .far p t l _ _ hn (Qjx _).1 (QdN l (some t) (i+1) (QmD s i))
def txl:List Tk→Nat
 |[]=>0
 |t::l=>t.text.toList.length+txl l
theorem QdM:∀(l:List Tk) (p:Option Tk) (i:Nat) (s:Int),(sprL p i s l).length≤txl l+4 * l.length
 |[],p,i,s=>by cases p <;> exact Nat.zero_le _
 |t::l,none,i,s=>by
  have:=QdM l (some t) (i+1) s
  rw[sprL,List.length_append,txl,List.length_cons];omega
 |t::l,some p,i,s=>by
  rw[sprL]
  split
  ·have:=QdM l (some t) (i+1) s
   rw[List.length_append,txl,List.length_cons];omega
  ·have:=QdM l (some t) (i+1) (QmD s i)
   have:=(Qjx (s.tmod 5)).2
   rw[List.length_append,List.length_append,txl,List.length_cons];omega
theorem Qjw(tot:Nat):∀(m:Nat) (q:List UInt8) (ts:List Tk),X1 tot m q = .inl ts→txl ts≤q.length
 |0,_,_,h=>by cases h;exact Nat.zero_le _
 |m+1,q,ts,h=>by
  rw[X1]at h
  have hsk:=Qak false q
  cases ht:Xv (QV false q)with
  |inr e=>rw[ht]at h;cases h
  |inl p =>
   obtain⟨k,x⟩:=p
   rw[ht]at h
   simp only at h
   split at h
   ·cases h
    show eB.toList.length+0≤_
    rw[show eB.toList=[]from by rw[Lib.toList_data];rfl]
    exact Nat.zero_le _
   ·rename_i k0
    rcases Qar ht with⟨k1,_,_⟩|⟨k1,hx1,r,hx2⟩
    ·exact absurd k1 k0
    ·cases hs:X1 tot m ((QV false q).drop x.length)with
     |inr e=>rw[hs]at h;cases h
     |inl us =>
      rw[hs]at h
      cases h
      have h1:=Qjw tot m _ us hs
      have h2:x.length≤(QV false q).length:=by rw[hx2,List.length_append];omega
      rw[List.length_drop]at h1
      show(mkB x).toList.length+txl us≤_
      rw[Qco];omega
theorem QcY(a b:List UInt8):mkB a++mkB b=mkB (a++b):=by
 apply toList_inj
 rw[Lib.toList_data,Qco,ByteArray.data_append,Array.toList_append,Qho,Qho]
theorem Qjd(t:Tk):mkB t.text.toList=t.text:=by rw[Lib.toList_data];exact QdF _
theorem QqT(n:Nat)(h:n≤1000000):pv Tryd.prog (convert 3 36 (.int .i64 (n:Int)))=some (.int .u64 (n:Int)):=by
 have:pv Tryd.prog (convert 3 36 (.int .i64 (n:Int)))=some (.int .u64 (IntKind.u64.wrap (n:Int))):=by kernel_rfl
 rw[this,IntKind.wrap_u64];congr 2;omega
def sepQ(ts:List Tk)(j:Nat):Bool:=match (ts.take j).getLast?,ts[j]? with
 |some p,some t=>!decide (near p t)
 |_,_=>false
theorem Qn4(ts:List Tk)(j:Nat)(hj:j<ts.length)(pre:List UInt8)(sd:Int) :
  ((if sepQ ts j then pre++sepI (sd.tmod 5)else pre)++ts[j].text.toList)++sprL (some ts[j]) (j+1) (if sepQ ts j then QmD sd j else sd) (ts.drop (j+1))=pre++sprL (ts.take j).getLast? j sd (ts[j]::ts.drop (j+1)):=by
 unfold sepQ
 rw[List.getElem?_eq_getElem hj]
 cases (ts.take j).getLast? with
 |none=>simp[sprL]
 |some p =>
  by_cases hn:near p ts[j]
  ·simp[sprL,hn]
  ·simp[sprL,hn,List.append_assoc]
theorem QiH(ts:List Tk)(s0:Int)(hn:ts.length≤100000)(hps:∀t∈ts,0≤t.pos∧t.pos≤1000000)(hw:(sprL none 0 s0 ts).length≤1000000) :
  Pure Tryd.prog 10 [.sl 3 (tks ts) none,.v (.int .u64 s0)] (.v (.string (mkB (sprL none 0 s0 ts)))):=by
 intro h
 obtain⟨W,hW⟩:∃W,W=sprL none 0 s0 ts:=⟨_,rfl⟩
 rw[←hW]at hw ⊢
 have sadd:=fun xo yo a b h=>QbZ Tryd.prog 9 xo yo a b h
 have ev:=Z3 ts
 refine Qe Tryd.func10 rfl Tryd.call10 Tryd.ntmps10 Tryd.results10 (by simp) ?_
 repeat (first|(((with_reducible refine Qa fun K E hK hE=>?_));simp -implicitDefEqProofs only[Qc,Qd,OpW,aop,undef,AS.ev,Qr,↓reduceIte,aLen,goInt,un37,ev,seval])|(with_reducible (first|refine Qf fun K hK=>?_|refine Qi ?_))|((with_reducible refine hK _ ?_);clear hK))
 obtain⟨I,hI⟩:∃I:Nat→AS→Prop,I=fun m' s=>∃(j:Nat) (pre:List UInt8) (sd:Int),m'=ts.length - j∧j≤ts.length∧pre++sprL (ts.take j).getLast? j sd (ts.drop j)=W∧s.tm 0 = .sl 3 (tks ts) none∧s.tm 1 = .v (.int .u64 sd)∧s.tm 5 = .v (.string (mkB pre))∧s.tm 8 = .i ts.length∧s.tm 9 = .i j∧s.h=h:=⟨_,rfl⟩;refine QR I ?_ (m:=ts.length) ?_
 ·intro m' s hs;rw[hI]at hs;obtain⟨tm,hp⟩:=s;dsimp only at hs;obtain⟨j,pre,sd,rfl,hj,hpre,t0,t1,t5,t8,t9,rfl⟩:=hs
  by_cases hlt:j<ts.length
  ·have y1:((j:Nat):Int)<((ts.length:Nat):Int):=by omega
   have wj:IntKind.i64.wrap (((j:Nat):Int)+1)=((j+1:Nat):Int):=XE (by omega)
   have hat:=QmK hlt
   have e1:=Tk.Qq0 ts[j]
   have e2:=Tk.Qq1 ts[j]
   have htl:(ts.take (j+1)).getLast? = some ts[j]:=by rw[List.getLast?_eq_getElem?,List.length_take,Nat.min_eq_left hlt,Nat.succ_sub_one,List.getElem?_take_of_lt (by omega),List.getElem?_eq_getElem hlt]
   have hdr:ts.drop j=ts[j]::ts.drop (j+1):=List.drop_eq_getElem_cons hlt
   have hpj:=hps _ (List.getElem_mem hlt)
   obtain⟨q,hq⟩:∃q:Bool,q=sepQ ts j:=⟨_,rfl⟩
   obtain⟨pre2,hpre2⟩:∃p2,p2=(if q then pre++sepI (sd.tmod 5)else pre):=⟨_,rfl⟩
   obtain⟨sd2,hsd2⟩:∃s2,s2=(if q then QmD sd j else sd):=⟨_,rfl⟩
   have hnext:(pre2++ts[j].text.toList)++sprL (ts.take (j+1)).getLast? (j+1) sd2 (ts.drop (j+1))=W:=by
    rw[←hpre,hdr,htl,hpre2,hsd2,hq]
    exact Qn4 ts j hlt pre sd
   have hb2:pre2.length+ts[j].text.toList.length≤1000000:=by
    have:=congrArg List.length hnext
    simp only[QsA]at this
    omega
   have hpl:pre.length≤1000000:=by
    have:=congrArg List.length hpre
    simp only[QsA]at this
    omega
   iterate 11 (try (first|(((with_reducible refine Qa fun K E hK hE=>?_));simp -implicitDefEqProofs only[Qc,Qd,OpW,aop,AS.ev,↓reduceIte,aBin,t8,t9,y1,seval])|(with_reducible (first|refine Qf fun K hK=>?_|refine Qi ?_|refine Qk ?_|refine Qb ?_))|((with_reducible refine hK _ ?_);clear hK)|(refine Qh rfl ?_;simp only[↓reduceIte])))
   refine Q2 (fun s=>s.tm 0 = .sl 3 (tks ts) none∧s.tm 1 = .v (.int .u64 sd2)∧s.tm 5 = .v (.string (mkB pre2))∧s.tm 6 = .i j∧s.tm 8 = .i ts.length∧s.tm 9 = .i j∧s.h=hp) ?_ ?_
   ·rintro⟨tm,hp⟩ ⟨t0,t1,t5,t6,t8,t9,rfl⟩
    dsimp only at t0 t1 t5 t6 t8 t9
    have sa:=fun xo yo=>QbZ Tryd.prog 9 xo yo (mkB pre2) ts[j].text (by rw[QA,←Qjd ts[j],QA];omega)
    have ma:mkB pre2++ts[j].text=mkB (pre2++ts[j].text.toList):=by
     conv=>lhs;rw[←Qjd ts[j]]
     exact QcY _ _
    simp only[ma]at sa
    repeat (first|(((with_reducible refine Qj fun K E hK hE=>?_));simp -implicitDefEqProofs only[Qc,Qd,OpW,aop,AS.ev,↓reduceIte,Qg,Qw,Qv,QM,aBin,ti9,ei37,QQ,t0,t5,t6,t9,hat,ev,hlt,e1,sa,wj,seval])|(with_reducible (first|refine Qb ?_|refine Qn ?_))|((with_reducible refine hK _ ?_);clear hK))
    refine Xi.mk (m':=ts.length - (j+1)) (by omega) ?_
    rw[hI]
    exact⟨j+1,pre2++ts[j].text.toList,sd2,rfl,by omega,hnext,t0,t1,rfl,t8,rfl,rfl⟩
   ·refine Q2 (fun s=>s.tm 46 = .b q∧s.tm 0 = .sl 3 (tks ts) none∧s.tm 1 = .v (.int .u64 sd)∧s.tm 5 = .v (.string (mkB pre))∧s.tm 6 = .i j∧s.tm 8 = .i ts.length∧s.tm 9 = .i j∧s.h=hp) ?_ ?_
    ·rintro⟨tm,hp⟩ ⟨t46,t0,t1,t5,t6,t8,t9,rfl⟩
     dsimp only at t46 t0 t1 t5 t6 t8 t9
     cases q with
     |false =>
      refine Qh (by exact t46) ?_
      simp only[↓reduceIte,QrN]
      repeat (first|(with_reducible (first|refine Qk ?_|refine Qb ?_)))
      exact⟨t0,by rw[hsd2];exact t1,by rw[hpre2];exact t5,t6,t8,t9,rfl⟩
     |true =>
      have hrem:=fun t xo yo=>Qqg Tryd.prog t xo yo .u64 sd 5 (by decide)
      have hquo:=fun t xo yo=>Qqf Tryd.prog t xo yo .u64 sd 5 (by decide)
      have hcv:=QqT j (by omega)
      refine Qh (by exact t46) ?_
      simp only[↓reduceIte]
      generalize hd:sd.tmod 5=d at *
      by_cases d0:d=0
      ·subst d0
       have sa:=fun xo yo=>QbZ Tryd.prog 9 xo yo (mkB pre) {data:=#[32]} (by rw[QA];show pre.length+1≤_;omega)
       have ma:mkB pre++({data:=#[32]}:ByteArray)=mkB (pre++[32]):=QcY pre [32]
       simp only[ma]at sa
       have y0:((0:Int)==0)=true:=rfl
       repeat (first|((first|(with_reducible (first|refine Qa fun K E hK hE=>?_|refine Qj fun K E hK hE=>?_)));simp -implicitDefEqProofs only[Qc,Qd,OpW,aop,AS.ev,↓reduceIte,aBin,t1,t5,t6,hrem,hquo,hcv,sa,seval])|(with_reducible (first|refine Qf fun K hK=>?_|refine Qi ?_|refine Qb ?_|refine Qn ?_))|((with_reducible refine hK _ ?_);clear hK)|(refine Qh rfl ?_;simp only[↓reduceIte]))
       exact⟨t0,by rw[hsd2];rfl,by rw[hpre2];rfl,t6,t8,t9,rfl⟩
      ·have y0:(d==0)=false:=by simpa using d0
       by_cases d1:d=1
       ·subst d1
        have sa:=fun xo yo=>QbZ Tryd.prog 9 xo yo (mkB pre) {data:=#[9,10]} (by rw[QA];show pre.length+2≤_;omega)
        have ma:mkB pre++({data:=#[9,10]}:ByteArray)=mkB (pre++[9,10]):=QcY pre [9,10]
        simp only[ma]at sa
        have y1:((1:Int)==1)=true:=rfl
        repeat (first|((first|(with_reducible (first|refine Qa fun K E hK hE=>?_|refine Qj fun K E hK hE=>?_)));simp -implicitDefEqProofs only[Qc,Qd,OpW,aop,AS.ev,↓reduceIte,aBin,t1,t5,t6,hrem,hquo,hcv,sa,y0,seval])|(with_reducible (first|refine Qf fun K hK=>?_|refine Qi ?_|refine Qb ?_|refine Qn ?_))|((with_reducible refine hK _ ?_);clear hK)|(refine Qh rfl ?_;simp only[↓reduceIte,QrN]))
        exact⟨t0,by rw[hsd2];rfl,by rw[hpre2];rfl,t6,t8,t9,rfl⟩
       ·have y1:(d==1)=false:=by simpa using d1
        by_cases d2:d=2
        ·subst d2
         have sa:=fun xo yo=>QbZ Tryd.prog 9 xo yo (mkB pre) {data:=#[13,32]} (by rw[QA];show pre.length+2≤_;omega)
         have ma:mkB pre++({data:=#[13,32]}:ByteArray)=mkB (pre++[13,32]):=QcY pre [13,32]
         simp only[ma]at sa
         have y2:((2:Int)==2)=true:=rfl
         repeat (first|((first|(with_reducible (first|refine Qa fun K E hK hE=>?_|refine Qj fun K E hK hE=>?_)));simp -implicitDefEqProofs only[Qc,Qd,OpW,aop,AS.ev,↓reduceIte,aBin,t1,t5,t6,hrem,hquo,hcv,sa,y0,y1,seval])|(with_reducible (first|refine Qf fun K hK=>?_|refine Qi ?_|refine Qb ?_|refine Qn ?_))|((with_reducible refine hK _ ?_);clear hK)|(refine Qh rfl ?_;simp only[↓reduceIte,QrN]))
         exact⟨t0,by rw[hsd2];rfl,by rw[hpre2];rfl,t6,t8,t9,rfl⟩
        ·have y2:(d==2)=false:=by simpa using d2
         by_cases d3:d=3
         ·subst d3
          have sa:=fun xo yo=>QbZ Tryd.prog 9 xo yo (mkB pre) {data:=#[32,35,120,10]} (by rw[QA];show pre.length+4≤_;omega)
          have ma:mkB pre++({data:=#[32,35,120,10]}:ByteArray)=mkB (pre++[32,35,120,10]):=QcY pre [32,35,120,10]
          simp only[ma]at sa
          have y3:((3:Int)==3)=true:=rfl
          repeat (first|((first|(with_reducible (first|refine Qa fun K E hK hE=>?_|refine Qj fun K E hK hE=>?_)));simp -implicitDefEqProofs only[Qc,Qd,OpW,aop,AS.ev,↓reduceIte,aBin,t1,t5,t6,hrem,hquo,hcv,sa,y0,y1,y2,seval])|(with_reducible (first|refine Qf fun K hK=>?_|refine Qi ?_|refine Qb ?_|refine Qn ?_))|((with_reducible refine hK _ ?_);clear hK)|(refine Qh rfl ?_;simp only[↓reduceIte,QrN]))
          exact⟨t0,by rw[hsd2];rfl,by rw[hpre2];rfl,t6,t8,t9,rfl⟩
         ·have y3:(d==3)=false:=by simpa using d3
          have hsep:sepI d=[32,32]:=by rw[sepI,if_neg d0,if_neg d1,if_neg d2,if_neg d3]
          have sa:=fun xo yo=>QbZ Tryd.prog 9 xo yo (mkB pre) {data:=#[32,32]} (by rw[QA];show pre.length+2≤_;omega)
          have ma:mkB pre++({data:=#[32,32]}:ByteArray)=mkB (pre++[32,32]):=QcY pre [32,32]
          simp only[ma]at sa
          repeat (first|((first|(with_reducible (first|refine Qa fun K E hK hE=>?_|refine Qj fun K E hK hE=>?_)));simp -implicitDefEqProofs only[Qc,Qd,OpW,aop,AS.ev,↓reduceIte,aBin,t1,t5,t6,hrem,hquo,hcv,sa,y0,y1,y2,y3,seval])|(with_reducible (first|refine Qf fun K hK=>?_|refine Qi ?_|refine Qb ?_|refine Qn ?_))|((with_reducible refine hK _ ?_);clear hK)|(refine Qh rfl ?_;simp only[↓reduceIte,QrN]))
          exact⟨t0,by rw[hsd2];rfl,by rw[hpre2,hsep];rfl,t6,t8,t9,rfl⟩
    ·by_cases j0:j=0
     ·have y2:¬((j:Nat):Int)>0:=by omega
      have y3:¬(0:Int)<((j:Nat):Int):=by omega
      have hq0:q=false:=by rw[hq,sepQ,j0];rfl
      first|refine QS (id:=5) [(0,0),(1,0),(2,0),(3,0),(4,0),(5,0),(6,0),(7,0),(8,0),(9,0),(10,0),(11,0),(12,0),(13,0),(14,0),(15,0),(16,0),(17,0),(18,0),(19,0),(20,0),(21,0),(22,0),(23,0),(24,0),(25,0),(26,0),(27,0),(28,0),(29,0),(30,0),(31,0),(32,0),(33,0),(34,0)] mixed (by kernel_rfl) fun K hK=>?_|refine Xh (id:=5) [(0,0),(1,0),(2,0),(3,0),(4,0),(5,0),(6,0),(7,0),(8,0),(9,0),(10,0),(11,0),(12,0),(13,0),(14,0),(15,0),(16,0),(17,0),(18,0),(19,0),(20,0),(21,0),(22,0),(23,0),(24,0),(25,0),(26,0),(27,0),(28,0),(29,0),(30,0),(31,0),(32,0),(33,0),(34,0)] mixed (by kernel_rfl) fun K hK=>?_
      (try simp only[QrS]);refine XA 8 (fun K1 hK1=>?_);simp -implicitDefEqProofs only[Qc,Qd,aop,undef,AS.ev,↓reduceIte,aBin,y2,seval];refine hK1 _ ?_;clear hK1
      (try simp only[QrS,Qr0]);refine XA 8 (fun K1 hK1=>?_);simp -implicitDefEqProofs only[Qc,Qd,undef,↓reduceIte,seval];refine hK1 _ ?_;clear hK1
      (try simp only[QrS,Qr0]);refine XA 6 (fun K1 hK1=>?_);simp -implicitDefEqProofs only[Qc,Qd,undef,↓reduceIte,seval];refine hK1 _ ?_;clear hK1
      (try simp only[QrS,Qr0]);refine XA 6 (fun K1 hK1=>?_);simp -implicitDefEqProofs only[Qc,Qd,undef,↓reduceIte,seval];refine hK1 _ ?_;clear hK1
      (try simp only[QrS,Qr0])
      simp -implicitDefEqProofs only[Qc,Qd,aop,undef,AS.ev,↓reduceIte,seval]
      refine hK _ ?_
      rw[Xu]
      exact⟨by rw[hq0];rfl,t0,t1,t5,rfl,t8,t9,rfl⟩
     ·have y2:((j:Nat):Int)>0:=by omega
      have y3:(0:Int)<((j:Nat):Int):=by omega
      have wm:IntKind.i64.wrap (((j:Nat):Int) - 1)=((j - 1:Nat):Int):=by rw[Xt (by omega)];omega
      have hlt2:j - 1<ts.length:=by omega
      have hat2:=QmK hlt2
      have g1:=Tk.Qq0 ts[j - 1]
      have g2:=Tk.Qq1 ts[j - 1]
      have hpp:=hps _ (List.getElem_mem hlt2)
      have wp:IntKind.i64.wrap (ts[j - 1].pos+1)=ts[j - 1].pos+1:=Xt (by omega)
      have hq1:q=!decide (near ts[j - 1] ts[j]):=by
       have a1:(ts.take j).getLast? = some ts[j - 1]:=by rw[List.getLast?_eq_getElem?,List.length_take,Nat.min_eq_left hj,List.getElem?_take_of_lt (by omega),List.getElem?_eq_getElem hlt2]
       have a2:ts[j]? = some ts[j]:=List.getElem?_eq_getElem hlt
       rw[hq,sepQ,a1,a2]
      have e45:(ByteArray.toList {data:=#[45]})=Qai:=by rw[Lib.toList_data];rfl
      by_cases m1:ts[j - 1].text.toList=Qai
      ·have u1:(ts[j - 1].text.toList==ByteArray.toList {data:=#[45]})=true:=by rw[e45,m1];simp
       by_cases m2:ts[j].kind=3
       ·have u2:(ts[j].kind==3)=true:=by simpa using m2
        by_cases m3:ts[j].pos=ts[j - 1].pos+1
        ·have u3:(ts[j].pos==ts[j - 1].pos+1)=true:=by simpa using m3
         have hq2:q=false:=by rw[hq1,decide_eq_true ⟨m1,m2,m3⟩];rfl
         first|refine QS (id:=5) [(0,0),(1,0),(2,0),(3,0),(4,0),(5,0),(6,0),(7,0),(8,0),(9,0),(10,0),(11,0),(12,0),(13,0),(14,0),(15,0),(16,0),(17,0),(18,0),(19,0),(20,0),(21,0),(22,0),(23,0),(24,0),(25,0),(26,0),(27,0),(28,0),(29,0),(30,0),(31,0),(32,0),(33,0),(34,0)] mixed (by kernel_rfl) fun K hK=>?_|refine Xh (id:=5) [(0,0),(1,0),(2,0),(3,0),(4,0),(5,0),(6,0),(7,0),(8,0),(9,0),(10,0),(11,0),(12,0),(13,0),(14,0),(15,0),(16,0),(17,0),(18,0),(19,0),(20,0),(21,0),(22,0),(23,0),(24,0),(25,0),(26,0),(27,0),(28,0),(29,0),(30,0),(31,0),(32,0),(33,0),(34,0)] mixed (by kernel_rfl) fun K hK=>?_
         (try simp only[QrS]);refine XA 8 (fun K1 hK1=>?_);simp -implicitDefEqProofs only[Qc,Qd,aop,AS.ev,↓reduceIte,Qg,QM,aBin,ei37,QQ,t0,ev,y2,wm,hlt2,seval];refine hK1 _ ?_;clear hK1
         (try simp only[QrS,Qr0]);refine XA 8 (fun K1 hK1=>?_);simp -implicitDefEqProofs only[Qc,Qd,aop,AS.ev,↓reduceIte,Qg,Qw,Qv,QM,aBin,ti3,ti9,ei37,QK,t0,ev,hlt,hat,e1,hat2,g1,u1,seval];refine hK1 _ ?_;clear hK1
         (try simp only[QrS,Qr0]);refine XA 6 (fun K1 hK1=>?_);simp -implicitDefEqProofs only[Qc,Qd,aop,AS.ev,↓reduceIte,QM,aBin,ei37,t0,ev,hlt,u2,seval];refine hK1 _ ?_;clear hK1
         (try simp only[QrS,Qr0]);refine XA 6 (fun K1 hK1=>?_);simp -implicitDefEqProofs only[Qc,Qd,aop,AS.ev,↓reduceIte,Qg,Qw,Qv,QM,aBin,ti3,ei37,Xc,t0,ev,hat,e1,wm,hlt2,seval];refine hK1 _ ?_;clear hK1
         (try simp only[QrS,Qr0])
         simp -implicitDefEqProofs only[Qc,Qd,aop,AS.ev,↓reduceIte,Qg,Qw,Qv,aBin,ti3,Xc,hat2,g1,wp,u3,seval]
         refine hK _ ?_
         rw[Xu]
         exact⟨by rw[hq2];rfl,t0,t1,t5,rfl,t8,t9,rfl⟩
        ·have u3:(ts[j].pos==ts[j - 1].pos+1)=false:=by simpa using m3
         have hq2:q=true:=by rw[hq1,decide_eq_false (fun h=>m3 h.2.2)];rfl
         first|refine QS (id:=5) [(0,0),(1,0),(2,0),(3,0),(4,0),(5,0),(6,0),(7,0),(8,0),(9,0),(10,0),(11,0),(12,0),(13,0),(14,0),(15,0),(16,0),(17,0),(18,0),(19,0),(20,0),(21,0),(22,0),(23,0),(24,0),(25,0),(26,0),(27,0),(28,0),(29,0),(30,0),(31,0),(32,0),(33,0),(34,0)] mixed (by kernel_rfl) fun K hK=>?_|refine Xh (id:=5) [(0,0),(1,0),(2,0),(3,0),(4,0),(5,0),(6,0),(7,0),(8,0),(9,0),(10,0),(11,0),(12,0),(13,0),(14,0),(15,0),(16,0),(17,0),(18,0),(19,0),(20,0),(21,0),(22,0),(23,0),(24,0),(25,0),(26,0),(27,0),(28,0),(29,0),(30,0),(31,0),(32,0),(33,0),(34,0)] mixed (by kernel_rfl) fun K hK=>?_
         (try simp only[QrS]);refine XA 8 (fun K1 hK1=>?_);simp -implicitDefEqProofs only[Qc,Qd,aop,AS.ev,↓reduceIte,Qg,QM,aBin,ei37,QQ,t0,ev,y2,wm,hlt2,seval];refine hK1 _ ?_;clear hK1
         (try simp only[QrS,Qr0]);refine XA 8 (fun K1 hK1=>?_);simp -implicitDefEqProofs only[Qc,Qd,aop,AS.ev,↓reduceIte,Qg,Qw,Qv,QM,aBin,ti3,ti9,ei37,QK,t0,ev,hlt,hat,e1,hat2,g1,u1,seval];refine hK1 _ ?_;clear hK1
         (try simp only[QrS,Qr0]);refine XA 6 (fun K1 hK1=>?_);simp -implicitDefEqProofs only[Qc,Qd,aop,AS.ev,↓reduceIte,QM,aBin,ei37,t0,ev,hlt,u2,seval];refine hK1 _ ?_;clear hK1
         (try simp only[QrS,Qr0]);refine XA 6 (fun K1 hK1=>?_);simp -implicitDefEqProofs only[Qc,Qd,aop,AS.ev,↓reduceIte,Qg,Qw,Qv,QM,aBin,ti3,ei37,Xc,t0,ev,hat,e1,wm,hlt2,seval];refine hK1 _ ?_;clear hK1
         (try simp only[QrS,Qr0])
         simp -implicitDefEqProofs only[Qc,Qd,aop,AS.ev,↓reduceIte,Qg,Qw,Qv,aBin,ti3,Xc,hat2,g1,wp,u3,seval]
         refine hK _ ?_
         rw[Xu]
         exact⟨by rw[hq2];rfl,t0,t1,t5,rfl,t8,t9,rfl⟩
       ·have u2:(ts[j].kind==3)=false:=by simpa using m2
        have hq2:q=true:=by rw[hq1,decide_eq_false (fun h=>m2 h.2.1)];rfl
        first|refine QS (id:=5) [(0,0),(1,0),(2,0),(3,0),(4,0),(5,0),(6,0),(7,0),(8,0),(9,0),(10,0),(11,0),(12,0),(13,0),(14,0),(15,0),(16,0),(17,0),(18,0),(19,0),(20,0),(21,0),(22,0),(23,0),(24,0),(25,0),(26,0),(27,0),(28,0),(29,0),(30,0),(31,0),(32,0),(33,0),(34,0)] mixed (by kernel_rfl) fun K hK=>?_|refine Xh (id:=5) [(0,0),(1,0),(2,0),(3,0),(4,0),(5,0),(6,0),(7,0),(8,0),(9,0),(10,0),(11,0),(12,0),(13,0),(14,0),(15,0),(16,0),(17,0),(18,0),(19,0),(20,0),(21,0),(22,0),(23,0),(24,0),(25,0),(26,0),(27,0),(28,0),(29,0),(30,0),(31,0),(32,0),(33,0),(34,0)] mixed (by kernel_rfl) fun K hK=>?_
        (try simp only[QrS]);refine XA 8 (fun K1 hK1=>?_);simp -implicitDefEqProofs only[Qc,Qd,aop,AS.ev,↓reduceIte,Qg,QM,aBin,ei37,QQ,t0,ev,y2,wm,hlt2,seval];refine hK1 _ ?_;clear hK1
        (try simp only[QrS,Qr0]);refine XA 8 (fun K1 hK1=>?_);simp -implicitDefEqProofs only[Qc,Qd,aop,AS.ev,↓reduceIte,Qg,Qw,Qv,QM,aBin,ti3,ti9,ei37,QK,t0,ev,hlt,hat,e1,hat2,g1,u1,seval];refine hK1 _ ?_;clear hK1
        (try simp only[QrS,Qr0]);refine XA 6 (fun K1 hK1=>?_);simp -implicitDefEqProofs only[Qc,Qd,aop,undef,AS.ev,↓reduceIte,aBin,u2,seval];refine hK1 _ ?_;clear hK1
        (try simp only[QrS,Qr0]);refine XA 6 (fun K1 hK1=>?_);simp -implicitDefEqProofs only[Qc,Qd,undef,↓reduceIte,seval];refine hK1 _ ?_;clear hK1
        (try simp only[QrS,Qr0])
        simp -implicitDefEqProofs only[Qc,Qd,aop,undef,AS.ev,↓reduceIte,seval]
        refine hK _ ?_
        rw[Xu]
        exact⟨by rw[hq2];rfl,t0,t1,t5,rfl,t8,t9,rfl⟩
      ·have u1:(ts[j - 1].text.toList==ByteArray.toList {data:=#[45]})=false:=by rw[e45];simpa using m1
       have hq2:q=true:=by rw[hq1,decide_eq_false (fun h=>m1 h.1)];rfl
       first|refine QS (id:=5) [(0,0),(1,0),(2,0),(3,0),(4,0),(5,0),(6,0),(7,0),(8,0),(9,0),(10,0),(11,0),(12,0),(13,0),(14,0),(15,0),(16,0),(17,0),(18,0),(19,0),(20,0),(21,0),(22,0),(23,0),(24,0),(25,0),(26,0),(27,0),(28,0),(29,0),(30,0),(31,0),(32,0),(33,0),(34,0)] mixed (by kernel_rfl) fun K hK=>?_|refine Xh (id:=5) [(0,0),(1,0),(2,0),(3,0),(4,0),(5,0),(6,0),(7,0),(8,0),(9,0),(10,0),(11,0),(12,0),(13,0),(14,0),(15,0),(16,0),(17,0),(18,0),(19,0),(20,0),(21,0),(22,0),(23,0),(24,0),(25,0),(26,0),(27,0),(28,0),(29,0),(30,0),(31,0),(32,0),(33,0),(34,0)] mixed (by kernel_rfl) fun K hK=>?_
       (try simp only[QrS]);refine XA 8 (fun K1 hK1=>?_);simp -implicitDefEqProofs only[Qc,Qd,aop,AS.ev,↓reduceIte,Qg,QM,aBin,ei37,QQ,t0,ev,y2,wm,hlt2,seval];refine hK1 _ ?_;clear hK1
       (try simp only[QrS,Qr0]);refine XA 8 (fun K1 hK1=>?_);simp -implicitDefEqProofs only[Qc,Qd,aop,undef,AS.ev,↓reduceIte,Qw,Qv,aBin,ti9,hat2,g1,u1,seval];refine hK1 _ ?_;clear hK1
       (try simp only[QrS,Qr0]);refine XA 6 (fun K1 hK1=>?_);simp -implicitDefEqProofs only[Qc,Qd,aop,undef,AS.ev,↓reduceIte,seval];refine hK1 _ ?_;clear hK1
       (try simp only[QrS,Qr0]);refine XA 6 (fun K1 hK1=>?_);simp -implicitDefEqProofs only[Qc,Qd,undef,↓reduceIte,seval];refine hK1 _ ?_;clear hK1
       (try simp only[QrS,Qr0])
       simp -implicitDefEqProofs only[Qc,Qd,aop,undef,AS.ev,↓reduceIte,seval]
       refine hK _ ?_
       rw[Xu]
       exact⟨by rw[hq2];rfl,t0,t1,t5,rfl,t8,t9,rfl⟩
  ·have hjl:j=ts.length:=by omega
   have y1:¬((j:Nat):Int)<((ts.length:Nat):Int):=by omega
   have hfin:pre=W:=by rw[←hpre,hjl,List.drop_length];cases (ts.take ts.length).getLast? <;> simp[sprL]
   repeat (first|(((with_reducible refine Qa fun K E hK hE=>?_));simp -implicitDefEqProofs only[Qc,Qd,OpW,aop,AS.ev,↓reduceIte,aBin,t8,t9,y1,t5,seval])|(with_reducible (first|refine Qf fun K hK=>?_|refine Qm ?_|refine QF ?_|refine Qb ?_|refine QD ?_|refine QC ?_))|((with_reducible refine hK _ ?_);clear hK)|(clear hK;(with_reducible refine hK _ ?_);clear hK)|(refine Qh rfl ?_;simp only[↓reduceIte,QrN]))
   simp only[QH,Qo,Qt,upd,↓reduceIte,QrP,QrT];first|refine Qq (htake _ _) (.keep (.v _)) ⟨by rw[hfin],rfl⟩|refine Qq List.take_length (.keep (.v _)) ⟨by rw[hfin],rfl⟩
 ·rw[hI]
  exact⟨0,[],s0,rfl,Nat.zero_le _,by rw[hW];rfl,rfl,rfl,rfl,rfl,rfl,rfl⟩
structure OneTk (tot:Nat) (t:Tk):Prop where
 int:t.kind=3→(∀c∈t.text.toList,isD c=true)∧numVal t.text.toList≤2147483648
 pos:0≤t.pos∧t.pos≤tot
 nam:t.kind=1→opB t.text=false
theorem QnK{x:ByteArray}(h:opB x=true):∃c,x.toList=[c]∧isL c=false:=by
 rcases Qgt.1 h with h|h
 ·simp only[Yy,List.mem_cons,List.not_mem_nil,or_false]at h
  rcases h with h|h|h <;> exact⟨_,h,by decide⟩
 ·simp only[ZU,List.mem_cons,List.not_mem_nil,or_false]at h
  rcases h with h|h <;> exact⟨_,h,by decide⟩
theorem Qpp{q x:List UInt8}{k:Int}(h:Xv q = .inl (k,x)):(k=3→(∀c∈x,isD c=true)∧numVal x≤2147483648)∧(k=1→opB (mkB x)=false):=by
 cases q with
 |nil=>cases h;exact⟨fun e=>absurd e (by decide),fun e=>absurd e (by decide)⟩
 |cons c r =>
  rw[Xv]at h
  split at h
  ·rename_i hL
   split at h
   ·cases h
   ·cases h
    refine⟨fun e=>by split at e <;> exact absurd e (by decide),fun _=>?_⟩
    cases ho:opB (mkB ((c::r).takeWhile isW))with
    |false=>rfl
    |true =>
     obtain⟨d,h1,h2⟩:=QnK ho
     have hw:isW c=true:=by unfold isW;rw[hL];rfl
     rw[Qco,List.takeWhile_cons,if_pos hw,List.cons.injEq]at h1
     rw[h1.1]at hL
     rw[hL]at h2;cases h2
  ·split at h
   ·split at h
    ·cases h
    ·rename_i hb
     cases h
     exact⟨fun _=>⟨fun d hd=>List.all_eq_true.1 List.all_takeWhile d hd,by omega⟩,fun e=>absurd e (by decide)⟩
   ·split at h
    ·cases h;exact⟨fun e=>absurd e (by decide),fun e=>absurd e (by decide)⟩
    ·cases h
theorem QgA(tot:Nat):∀(m:Nat) (q:List UInt8) (ts:List Tk),X1 tot m q = .inl ts→q.length<m→(∀t∈ts,OneTk tot t)∧(∃a e,ts=a++[e]∧e.kind=0∧∀t∈a,t.kind≠0)∧ts.length≤q.length+1
 |0,_,_,_,h=>by omega
 |m+1,q,ts,h,hm=>by
  rw[X1]at h
  have hsk:=Qak false q
  cases ht:Xv (QV false q)with
  |inr e=>rw[ht]at h;cases h
  |inl p =>
   obtain⟨k,x⟩:=p
   rw[ht]at h
   simp only at h
   obtain⟨h1,h2⟩:=Qpp ht
   split at h
   ·rename_i k0
    cases h
    refine⟨fun t hm=>?_,⟨[],_,rfl,rfl,fun t h=>(List.not_mem_nil h).elim⟩,by simp⟩
    rw[List.mem_singleton]at hm
    subst hm
    exact⟨fun e=>absurd (show(0:Int)=3 from e) (by decide),⟨by show(0:Int)≤((tot - _:Nat):Int);omega,by show((tot - _:Nat):Int)≤_;omega⟩,fun e=>absurd (show(0:Int)=1 from e) (by decide)⟩
   ·rename_i k0
    rcases Qar ht with⟨k1,_,_⟩|⟨k1,hx1,r,hx2⟩
    ·exact absurd k1 k0
    ·have hxl:0<x.length:=List.length_pos_iff.2 hx1
     have hxr:x.length≤(QV false q).length:=by rw[hx2,List.length_append];omega
     cases hs:X1 tot m ((QV false q).drop x.length)with
     |inr e=>rw[hs]at h;cases h
     |inl us =>
      rw[hs]at h
      cases h
      obtain⟨a1,⟨a,e,a2,a3,a4⟩,a5⟩:=QgA tot m _ us hs (by rw[List.length_drop];omega)
      rw[List.length_drop]at a5
      refine⟨fun t hm=>?_,⟨⟨k,_,mkB x⟩::a,e,by rw[a2];rfl,a3,fun t hm=>?_⟩,by simp only[QrW];omega⟩
      ·rw[List.mem_cons]at hm
       rcases hm with rfl|hm
       ·exact⟨fun e=>by rw[Qco];exact h1 e,⟨by show(0:Int)≤((tot - _:Nat):Int);omega,by show((tot - _:Nat):Int)≤_;omega⟩,h2⟩
       ·exact a1 t hm
      ·rw[List.mem_cons]at hm
       rcases hm with rfl|hm
       ·exact k1
       ·exact a4 t hm
theorem QfS{l:List UInt8}{ts:List Tk}(h:XQ l = .inl ts):TkOk ts∧Wst ts ⟨ts,[]⟩∧ts.length≤1000000∧l.length≤16384:=by
 rw[XQ]at h
 split at h
 ·cases h
 ·rename_i hl
  obtain⟨h1,⟨a,e,h2,h3,h4⟩,h5⟩:=QgA l.length (l.length+1) l ts h (by omega)
  exact⟨⟨fun t ht=>(h1 t ht).int,fun t ht=>⟨(h1 t ht).pos.1,by have:=(h1 t ht).pos.2;omega⟩,fun t ht=>(h1 t ht).nam⟩,⟨⟨a,e,h2,h3,h4⟩,List.suffix_refl _,by simp⟩,by omega,by omega⟩
end Go.Proofs.YticgcpebdldbgaaDoor.Ab

