/-
  An abstract program logic, contracts of functions, and laws of terms and rules (part 4).
-/
import Derived.Test.YticgcpebdldbgaaDoorAbThree
import Derived.Test.YticgcpebdldbgaaDoorAbTwo
set_option linter.unusedVariables false
set_option linter.unusedSimpArgs false
set_option maxHeartbeats 4000000
set_option maxRecDepth 4000
namespace Go.Proofs.YticgcpebdldbgaaDoor.Ab
open Go.Proofs
theorem Qqm{P:Pz}{f:FuncId}{args:List AV}{h0 h:AH}{L:AH}{t:T}{s2:PS}(H:P.ok h)(C:QL Tryd.prog f args h0 (TQ (h++L) P (.ok t s2))){k:Nat}(hk:k=h.length+L.length):QL Tryd.prog f args h0 fun o h'=>o = .ret (t.lv k)∧h'=ph h P s2++(L++t.lay 54 k):=by
 subst hk
 exact C.mono fun o h' q=>by simpa only[TQ,Q4 H,QsA,List.append_assoc]using q
theorem QoB{P:Pz}{f:FuncId}{args:List AV}{h0 h:AH}{L:AH}{p c:Int}(H:P.ok h)(C:QL Tryd.prog f args h0 (TQ (h++L) P (.err p c))):QL Tryd.prog f args h0 fun o h'=>o = .panic (Fl p c)∧∃s2:PS,h'=ph h P s2++L :=
 C.mono fun o h' q=>by simpa only[TQ,Q4 H]using q
section
variable{P:Pz}{g:PS→PR T}{Nn:Nat}(hEat:Eat 0 g)(hKp:Kp.Ps (wdOf P.all) g)(hN:P.all.length≤1000000)
include hEat hKp hN
theorem Qfi{f:FuncId}(HR:TRd P f g Nn)(opsB:List ByteArray)(hob:opsB.length≤10){s:PS}(hs:s.toks.length<Nn)(hW:Wst P.all s){h:AH}(H:P.ok h) :
  QL Tryd.prog 85 [.ptr P.i 0 0,.fn (.func f) [.ptr P.i 0 0] [],.sl 1 (strs opsB) none] (ph h P s) (TQ h P (X4 g (opsB.map ByteArray.toList) s)) :=
 QdP H 1 (Qli HR hEat hKp opsB hob hs hW H hN)
theorem Qkk(HR:TRd P 94 g Nn):TRd P 86 (X4 g Yy) Nn:=by
 intro s hs hW h H
 have cc:=Qfi hEat hKp hN HR [{data:=#[42]},{data:=#[47]},{data:=#[37]}] (by simp) hs hW (H.app [c6])
 have eo:List.map ByteArray.toList [{data:=#[42]},{data:=#[47]},{data:=#[37]}]=Yy:=by
  simp only[QrY,Qr2,Lib.toList_data];rfl
 rw[eo,Q4 H]at cc
 simp only[strs,QrY,Qr2]at cc
 have f1:=QU h P
 have f3:=XB h P
 have f5:=Xk h P
 refine QdP H 1 ?_
 cases hr:X4 g Yy s with
 |err p e =>
  rw[hr]at cc
  replace cc:=QoB H cc
  refine Qe Tryd.func86 rfl Tryd.call86 Tryd.ntmps86 Tryd.results86 (by simp) ?_
  repeat (first|((first|(with_reducible (first|refine Qa fun K E hK hE=>?_|refine FunW.panE (FunW.call cc) fun r=>?_)));simp -implicitDefEqProofs only[Qc,Qd,OpW,QB,aop,undef,AS.ev,Qr,AV.QqY,↓reduceIte,QG,zi9,ei46,zi54,f1,seval])|((with_reducible refine hK _ ?_);clear hK)|(with_reducible refine hE _ _ ?_))
  exact QW H s r p e _ ⟨rfl,_,rfl⟩
 |ok t s2 =>
  rw[hr]at cc
  replace cc:=Qqm H cc (k:=h.length+1) rfl
  have e1:=T.Qq4 (h.length+1) t
  have e2:=T.Qq5 (h.length+1) t
  refine Qe Tryd.func86 rfl Tryd.call86 Tryd.ntmps86 Tryd.results86 (by simp) ?_
  repeat (first|((first|(with_reducible (first|refine Qa fun K E hK hE=>?_|refine FunW.QqZ cc ?_)));simp -implicitDefEqProofs only[Qc,Qd,OpW,QB,aop,undef,AS.ev,Qr,AV.QqY,↓reduceIte,Qu,Ql,QG,zi9,ei46,ti54,zi54,f1,f3,f5,e1,e2,QT,seval])|(with_reducible refine Qm ?_)|((with_reducible refine hK _ ?_);clear hK))
  simp -implicitDefEqProofs only[Qc,↓reduceIte,ti54,Qw,Qv,f3,e1,e2,QH,Qo,Qt,QrT,seval]
  exact .inr ⟨rfl,_,rfl,At.tail (At.all _)⟩
theorem QoS(HR:TRd P 86 g Nn):TRd P 73 (X4 g ZU) Nn:=by
 intro s hs hW h H
 have cc:=Qfi hEat hKp hN HR [{data:=#[43]},{data:=#[45]}] (by simp) hs hW (H.app [c6])
 have eo:List.map ByteArray.toList [{data:=#[43]},{data:=#[45]}]=ZU:=by
  simp only[QrY,Qr2,Lib.toList_data];rfl
 rw[eo,Q4 H]at cc
 simp only[strs,QrY,Qr2]at cc
 have f1:=QU h P
 have f3:=XB h P
 have f5:=Xk h P
 refine QdP H 1 ?_
 cases hr:X4 g ZU s with
 |err p e =>
  rw[hr]at cc
  replace cc:=QoB H cc
  refine Qe Tryd.func73 rfl Tryd.call73 Tryd.ntmps73 Tryd.results73 (by simp) ?_
  repeat (first|((first|(with_reducible (first|refine Qa fun K E hK hE=>?_|refine FunW.panE (FunW.call cc) fun r=>?_)));simp -implicitDefEqProofs only[Qc,Qd,OpW,QB,aop,undef,AS.ev,Qr,AV.QqY,↓reduceIte,QG,zi9,ei46,zi54,f1,seval])|((with_reducible refine hK _ ?_);clear hK)|(with_reducible refine hE _ _ ?_))
  exact QW H s r p e _ ⟨rfl,_,rfl⟩
 |ok t s2 =>
  rw[hr]at cc
  replace cc:=Qqm H cc (k:=h.length+1) rfl
  have e1:=T.Qq4 (h.length+1) t
  have e2:=T.Qq5 (h.length+1) t
  refine Qe Tryd.func73 rfl Tryd.call73 Tryd.ntmps73 Tryd.results73 (by simp) ?_
  repeat (first|((first|(with_reducible (first|refine Qa fun K E hK hE=>?_|refine FunW.QqZ cc ?_)));simp -implicitDefEqProofs only[Qc,Qd,OpW,QB,aop,undef,AS.ev,Qr,AV.QqY,↓reduceIte,Qu,Ql,QG,zi9,ei46,ti54,zi54,f1,f3,f5,e1,e2,QT,seval])|(with_reducible refine Qm ?_)|((with_reducible refine hK _ ?_);clear hK))
  simp -implicitDefEqProofs only[Qc,↓reduceIte,ti54,Qw,Qv,f3,e1,e2,QH,Qo,Qt,QrT,seval]
  exact .inr ⟨rfl,_,rfl,At.tail (At.all _)⟩
end
end Go.Proofs.YticgcpebdldbgaaDoor.Ab
namespace Go.Proofs.YticgcpebdldbgaaDoor.Ab
def Qjm(ops:Array Oper)(ms:List Nat)(z w x y:Nat):List (Nat×Nat)→Bool
 |[]=>true
 |(i,ci)::l=>(l.all fun p=>match ops[i]?,ops[p.1]? with
   |some a,some b=>!clash ops a b ci p.2||(QcI ms x y i p.1||QcI ms z w i p.1)
   |_,_=>false)&&Qjm ops ms z w x y l
theorem Qew{ops:Array Oper}{ms:List Nat}{z w x y:Nat}(hm:∀(k i:Nat),(ms.getD k 0).testBit i=true→Anc ops i k):∀(tr:List Tr),Qjm ops ms z w x y (tr.map fun t=>(t.i,t.c))=true→(∀t∈tr,ops[t.i]? = some t.o) →
  tr.Pairwise (fun a b=>clash ops a.o b.o a.c b.c=true→AncX ops x y a.i b.i∨AncX ops z w a.i b.i)
 |[],_,_=>.nil
 |t::l,h,ho=>by
  simp only[QrY,Qjm,Bool.and_eq_true,List.all_eq_true]at h
  have key:∀x y i j,QcI ms x y i j=true→AncX ops x y i j:=fun x y i j h=>by
   simp only[QcI,Bool.or_eq_true,Bool.and_eq_true,beq_iff_eq]at h
   rcases h with h1|⟨h1,h2⟩
   ·exact .inl (hm _ _ h1)
   ·exact .inr ⟨h1.imp id (hm _ _),h2.imp id (hm _ _)⟩
  refine List.pairwise_cons.2 ⟨fun b hb hc=>?_,Qew hm l h.2 fun t ht=>ho t (by simp[ht])⟩
  have:=h.1 (b.i,b.c) (List.mem_map.2 ⟨b,hb,rfl⟩)
  simp only[ho t (by simp),ho b (by simp[hb]),hc,Qr6,Bool.false_or,Bool.or_eq_true]at this
  exact this.imp (key _ _ _ _) (key _ _ _ _)
def okZ(ops:Array Oper)(z w x y:Nat)(π:List (Nat×Nat)):Bool :=
 π.length==ops.size&&Qjm ops (masks ops.toList []) z w x y π&&topo ops [] π&&Qhs (π.map (·.1))&&((List.range ops.size).all fun i=>(π.map (·.1)).contains i) &&
 π.all fun p=>match ops[p.1]? with|some o=>kindOk o p.2|none=>false
structure FitZ (ops:Array Oper) (z w x y:Nat) (tr:List Tr):Prop where
 len:tr.length=ops.size
 pairs:tr.Pairwise (fun a b=>clash ops a.o b.o a.c b.c=true→AncX ops x y a.i b.i∨AncX ops z w a.i b.i)
 topo:topo ops [] (tr.map fun t=>(t.i,t.c))=true
 nodup:(tr.map (·.i)).Nodup
 all:∀i,i<ops.size→∃t∈tr,t.i=i
 kind:∀t∈tr,kindOk t.o t.c=true
theorem QnH{P:Program}{N:Nat}{ops:Array Oper}{z w x y:Nat}{tr:List Tr}{tm:Nat→AV}{h:AH}(hruns:Runs P N ops tr tm h)(hok:okZ ops z w x y (tr.map fun t=>(t.i,t.c))=true):FitZ ops z w x y tr:=by
 simp only[okZ,Bool.and_eq_true]at hok
 obtain⟨⟨⟨⟨⟨hp0,hp1⟩,hp2⟩,hp3⟩,hp4⟩,hp5⟩:=hok
 have hops:=Qah hruns
 refine⟨by have:=beq_iff_eq.1 hp0;simpa using this,Qew (Zc ops.toList [] (fun j o h=>by simpa using h) (fun k i h=>by simp at h)) tr hp1 hops,hp2,?_,?_,?_⟩
 ·have:=Z1 hp3
  rw[List.map_map]at this
  exact this
 ·intro i hi
  have:=List.all_eq_true.1 hp4 i (List.mem_range.2 hi)
  have:i∈(tr.map fun t=>(t.i,t.c)).map (·.1):=by simpa using this
  rw[List.map_map]at this
  obtain⟨t,ht,rfl⟩:=List.mem_map.1 this
  exact⟨t,ht,rfl⟩
 ·intro t ht
  have:=List.all_eq_true.1 hp5 (t.i,t.c) (List.mem_map.2 ⟨t,ht,rfl⟩)
  simpa [hops t ht]using this
theorem FitX.toZ{ops:Array Oper}{x y:Nat}{tr:List Tr}(h:FitX ops x y tr)(z w:Nat):FitZ ops z w x y tr:=⟨h.len,h.pairs.imp fun h hc=>.inl (h hc),h.topo,h.nodup,h.all,h.kind⟩
theorem Qdq{P:Program}{N:Nat}{base:Bs×Fence}{ops:Array Oper}{F:Fence}{n:Nat}(hF:WF F){Qx:Exit→Act→World→Prop}{z w x y:Nat}{tr:List Tr}{tm0:Nat→AV}{h0:AH}(hruns:Runs P N ops tr tm0 h0)(hfit:FitZ ops z w x y tr) :
  ∀(fuel:Nat) (listed:Array Bool) (c:Cx) (a:Act),listed.size=ops.size→Down ops (fun i=>listed.getD i false)→listed.getD x false=true→listed.getD z false=true→St c→SR N base c ⟨tmS N (fun i=>listed.getD i false) tr tm0,hS (fun i=>listed.getD i false) tr h0⟩ a →
   tr.countP (fun t=>!listed.getD t.i false)≤fuel →
   (∀c' a',Ev c c'→St c'→SR N base c' ⟨tmS N (fun _=>true) tr tm0,hS (fun _=>true) tr h0⟩ a'→Qx .normal a' c'.w)→wpAnyIn F n P .any ops Qx fuel listed a c.w:=by
 intro fuel
 induction fuel with
 |zero =>
  intro listed c a hsz hd hx hz hst hr hc hQ
  have hl:∀t∈tr,listed.getD t.i false=true:=fun t ht=>by
   have:=List.countP_eq_zero.1 (Nat.le_zero.1 hc) t ht
   simpa using this
  exact⟨any_zero hsz hfit.all hl,YR hst hr hQ hl⟩
 |succ fuel ih =>
  intro listed c a hsz hd hx hz hst hr hc hQ
  refine⟨fun h=>YR hst hr hQ fun t ht=>ZI hsz h _ [] hfit.topo (fun i hi=>by cases hi) (t.i,t.c) (List.mem_map.2 ⟨t,ht,rfl⟩),fun i hi=>?_⟩
  have hi':=hi
  obtain⟨h1,o,ho,_⟩:=mem_ready.1 hi'
  have hlt:i<ops.size:=(Array.getElem?_eq_some_iff.1 ho).1
  obtain⟨t,ht,hti⟩:=hfit.all i hlt
  have hd':=ZL hsz hd hi
  have hx':(listed.setIfInBounds i true).getD x false=true:=by rw[Yr (by omega),hx];simp
  have hz':(listed.setIfInBounds i true).getD z false=true:=by rw[Yr (by omega),hz];simp
  exact Y8 (A:=fun i j=>AncX ops x y i j∨AncX ops z w i j) hF hruns hfit.pairs hfit.nodup hfit.kind hi ht hti hsz (fun i j h hj=>Or.elim h (fun h=>AncX.good hd (fun _=>hx) h hj) fun h=>AncX.good hd (fun _=>hz) h hj) (fun i j h hj=>Or.elim h (fun h=>AncX.good hd' (fun _=>hx') h hj) fun h=>AncX.good hd' (fun _=>hz') h hj) hst hr fun c' a' hev hst' hr' =>
   ih _ c' a' (by simpa using hsz) hd' hx' hz' hst' hr' (Xs hsz ⟨t,ht,hti⟩ hi hc) fun c2 a2 e2 s2 r2=>hQ c2 a2 (Ev.trans hst hev e2) s2 r2
theorem QkL{P:Program}{N:Nat}{base:Bs×Fence}{ops:Array Oper}{F:Fence}{n:Nat}(hF:WF F){Qx:Exit→Act→World→Prop}{z w x y:Nat}(hxy:x≠y){ρ t1 t2:List Tr}{tm0:Nat→AV}{h0:AH}(hr1:Runs P N ops (ρ++t1) tm0 h0)(hr2:Runs P N ops (ρ++t2) tm0 h0)
  (hf1:FitZ ops z w x y (ρ++t1)) (hf2:FitZ ops z w y x (ρ++t2)) (hn1:∀t∈t1,∀S:Nat→Bool,Down ops S→S x=false→S y=false→S t.i=false) (hn2:∀t∈t2,∀S:Nat→Bool,Down ops S→S x=false→S y=false→S t.i=false) :
  ∀(fuel:Nat) (listed:Array Bool) (c:Cx) (a:Act),listed.size=ops.size→Down ops (fun i=>listed.getD i false)→listed.getD x false=false→listed.getD y false=false→listed.getD z false=true→St c →
   SR N base c ⟨tmS N (fun i=>listed.getD i false) (ρ++t1) tm0,hS (fun i=>listed.getD i false) (ρ++t1) h0⟩ a→(ρ++t1).countP (fun t=>!listed.getD t.i false)≤fuel→(ρ++t2).countP (fun t=>!listed.getD t.i false)≤fuel →
   (∀c' a',Ev c c'→St c'→SR N base c' ⟨tmS N (fun _=>true) (ρ++t1) tm0,hS (fun _=>true) (ρ++t1) h0⟩ a'→Qx .normal a' c'.w) →
   (∀c' a',Ev c c'→St c'→SR N base c' ⟨tmS N (fun _=>true) (ρ++t2) tm0,hS (fun _=>true) (ρ++t2) h0⟩ a'→Qx .normal a' c'.w)→wpAnyIn F n P .any ops Qx fuel listed a c.w:=by
 intro fuel
 induction fuel with
 |zero =>
  intro listed c a hsz hd hx hy hz hst hr hc hc2 hQ hQ2
  have hl:∀t∈ρ++t1,listed.getD t.i false=true:=fun t ht=>by
   have:=List.countP_eq_zero.1 (Nat.le_zero.1 hc) t ht
   simpa using this
  exact⟨any_zero hsz hf1.all hl,YR hst hr hQ hl⟩
 |succ fuel ih =>
  intro listed c a hsz hd hx hy hz hst hr hc hc2 hQ hQ2
  refine⟨fun h=>YR hst hr hQ fun t ht=>ZI hsz h _ [] hf1.topo (fun i hi=>by cases hi) (t.i,t.c) (List.mem_map.2 ⟨t,ht,rfl⟩),fun i hi=>?_⟩
  have hi':=hi
  obtain⟨h1,o,ho,_⟩:=mem_ready.1 hi'
  have hlt:i<ops.size:=(Array.getElem?_eq_some_iff.1 ho).1
  have hd':=ZL hsz hd hi
  have hset:∀j,(listed.setIfInBounds i true).getD j false=(decide (j=i)||listed.getD j false):=fun j=>Yr (by omega)
  have hz':(listed.setIfInBounds i true).getD z false=true:=by rw[hset,hz];simp
  by_cases hiy:i=y
  ·-- the second order
   subst hiy
   obtain⟨t,ht,hti⟩:=hf2.all i hlt
   have skip1:tmS N (fun i=>listed.getD i false) (ρ++t1) tm0=tmS N (fun i=>listed.getD i false) (ρ++t2) tm0:=by
    funext z
    have k1:∀t∈t1,listed.getD t.i false=true→t.o.dst≠some z:=fun t ht hs _=>by
     have:=hn1 t ht _ hd hx hy
     rw[hs]at this;cases this
    have k2:∀t∈t2,listed.getD t.i false=true→t.o.dst≠some z:=fun t ht hs _=>by
     have:=hn2 t ht _ hd hx hy
     rw[hs]at this;cases this
    rw[X3,X3,XZ (S:=fun i=>listed.getD i false) k1,XZ (S:=fun i=>listed.getD i false) k2]
   have skip2:hS (fun i=>listed.getD i false) (ρ++t1) h0=hS (fun i=>listed.getD i false) (ρ++t2) h0:=by
    rw[Yw,Yw,YF (S:=fun i=>listed.getD i false) fun t ht _=>hn1 t ht _ hd hx hy,YF (S:=fun i=>listed.getD i false) fun t ht _=>hn2 t ht _ hd hx hy]
   rw[skip1,skip2]at hr
   have hy':(listed.setIfInBounds i true).getD i false=true:=by rw[hset];simp
   exact Y8 (A:=fun p q=>AncX ops i x p q∨AncX ops z w p q) hF hr2 hf2.pairs hf2.nodup hf2.kind hi ht hti hsz (fun j k h hk=>Or.elim h (fun h=>AncX.good hd (fun hxx=>by rw[hx]at hxx;cases hxx) h hk) fun h=>AncX.good hd (fun _=>hz) h hk) (fun j k h hk=>Or.elim h (fun h=>AncX.good hd' (fun _=>hy') h hk) fun h=>AncX.good hd' (fun _=>hz') h hk) hst hr fun c' a' hev hst' hr' =>
    Qdq hF hr2 hf2 fuel _ c' a' (by simpa using hsz) hd' hy' hz' hst' hr' (Xs hsz ⟨t,ht,hti⟩ hi hc2) fun c2 a2 e2 s2 r2=>hQ2 c2 a2 (Ev.trans hst hev e2) s2 r2
  ·obtain⟨t,ht,hti⟩:=hf1.all i hlt
   have hy':(listed.setIfInBounds i true).getD y false=false:=by rw[hset,hy];simp;exact fun h=>hiy h.symm
   refine Y8 (A:=fun p q=>AncX ops x y p q∨AncX ops z w p q) hF hr1 hf1.pairs hf1.nodup hf1.kind hi ht hti hsz (fun j k h hk=>Or.elim h (fun h=>AncX.good hd (fun hyy=>by rw[hy]at hyy;cases hyy) h hk) fun h=>AncX.good hd (fun _=>hz) h hk) (fun j k h hk=>Or.elim h (fun h=>AncX.good hd' (fun hyy=>by have hyy2:(listed.setIfInBounds i true).getD y false=true:=hyy;rw[hy']at hyy2;cases hyy2) h hk) fun h=>AncX.good hd' (fun _=>hz') h hk) hst hr fun c' a' hev hst' hr'=>?_
   by_cases hix:i=x
   ·subst hix
    have hx':(listed.setIfInBounds i true).getD i false=true:=by rw[hset];simp
    exact Qdq hF hr1 hf1 fuel _ c' a' (by simpa using hsz) hd' hx' hz' hst' hr' (Xs hsz ⟨t,ht,hti⟩ hi hc) fun c2 a2 e2 s2 r2=>hQ c2 a2 (Ev.trans hst hev e2) s2 r2
   ·have hx':(listed.setIfInBounds i true).getD x false=false:=by rw[hset,hx];simp;exact fun h=>hix h.symm
    exact ih _ c' a' (by simpa using hsz) hd' hx' hy' hz' hst' hr' (Xs hsz ⟨t,ht,hti⟩ hi hc) (Xs hsz (hf2.all i hlt) hi hc2) (fun c2 a2 e2 s2 r2=>hQ c2 a2 (Ev.trans hst hev e2) s2 r2) fun c2 a2 e2 s2 r2=>hQ2 c2 a2 (Ev.trans hst hev e2) s2 r2
theorem QiK{P:Program}{N:Nat}{base:Bs×Fence}{ops:Array Oper}{F:Fence}{n:Nat}(hF:WF F){Qx:Exit→Act→World→Prop}{z x y:Nat}(hzy:z≠y)(hxy:x≠y)(hzx:z≠x)(hanc:Anc ops z x){ρ ρ2 t1 t2 t3:List Tr}{tm0:Nat→AV}{h0:AH}
  (hr1:Runs P N ops (ρ++t1) tm0 h0) (hr2:Runs P N ops ((ρ++ρ2)++t2) tm0 h0) (hr3:Runs P N ops ((ρ++ρ2)++t3) tm0 h0)
  (hf1:FitX ops y z (ρ++t1)) (hf2:FitZ ops z y y x ((ρ++ρ2)++t2)) (hf3:FitX ops x y ((ρ++ρ2)++t3))
  (hn1:∀t∈t1,∀S:Nat→Bool,Down ops S→S z=false→S y=false→S t.i=false) (hn23:∀t∈ρ2++t3,∀S:Nat→Bool,Down ops S→S z=false→S y=false→S t.i=false)
  (hn2:∀t∈t2,∀S:Nat→Bool,Down ops S→S x=false→S y=false→S t.i=false) (hn3:∀t∈t3,∀S:Nat→Bool,Down ops S→S x=false→S y=false→S t.i=false) :
  ∀(fuel:Nat) (listed:Array Bool) (c:Cx) (a:Act),listed.size=ops.size→Down ops (fun i=>listed.getD i false)→listed.getD z false=false→listed.getD y false=false→St c →
   SR N base c ⟨tmS N (fun i=>listed.getD i false) ((ρ++ρ2)++t3) tm0,hS (fun i=>listed.getD i false) ((ρ++ρ2)++t3) h0⟩ a→(ρ++t1).countP (fun t=>!listed.getD t.i false)≤fuel→((ρ++ρ2)++t2).countP (fun t=>!listed.getD t.i false)≤fuel→((ρ++ρ2)++t3).countP (fun t=>!listed.getD t.i false)≤fuel →
   (∀c' a',Ev c c'→St c'→SR N base c' ⟨tmS N (fun _=>true) (ρ++t1) tm0,hS (fun _=>true) (ρ++t1) h0⟩ a'→Qx .normal a' c'.w) →
   (∀c' a',Ev c c'→St c'→SR N base c' ⟨tmS N (fun _=>true) ((ρ++ρ2)++t2) tm0,hS (fun _=>true) ((ρ++ρ2)++t2) h0⟩ a'→Qx .normal a' c'.w) →
   (∀c' a',Ev c c'→St c'→SR N base c' ⟨tmS N (fun _=>true) ((ρ++ρ2)++t3) tm0,hS (fun _=>true) ((ρ++ρ2)++t3) h0⟩ a'→Qx .normal a' c'.w)→wpAnyIn F n P .any ops Qx fuel listed a c.w:=by
 intro fuel
 induction fuel with
 |zero =>
  intro listed c a hsz hd hz hy hst hr hc hc2 hc3 hQ hQ2 hQ3
  have hl:∀t∈(ρ++ρ2)++t3,listed.getD t.i false=true:=fun t ht=>by
   have:=List.countP_eq_zero.1 (Nat.le_zero.1 hc3) t ht
   simpa using this
  exact⟨any_zero hsz hf3.all hl,YR hst hr hQ3 hl⟩
 |succ fuel ih =>
  intro listed c a hsz hd hz hy hst hr hc hc2 hc3 hQ hQ2 hQ3
  refine⟨fun h=>YR hst hr hQ3 fun t ht=>ZI hsz h _ [] hf3.topo (fun i hi=>by cases hi) (t.i,t.c) (List.mem_map.2 ⟨t,ht,rfl⟩),fun i hi=>?_⟩
  have hi':=hi
  obtain⟨h1,o,ho,_⟩:=mem_ready.1 hi'
  have hlt:i<ops.size:=(Array.getElem?_eq_some_iff.1 ho).1
  have hd':=ZL hsz hd hi
  have hset:∀j,(listed.setIfInBounds i true).getD j false=(decide (j=i)||listed.getD j false):=fun j=>Yr (by omega)
  by_cases hiy:i=y
  ·-- the one comes first
   subst hiy
   obtain⟨t,ht,hti⟩:=hf1.all i hlt
   have k1:∀t∈t1,listed.getD t.i false=false:=fun t ht=>hn1 t ht _ hd hz hy
   have k2:∀t∈ρ2++t3,listed.getD t.i false=false:=fun t ht=>hn23 t ht _ hd hz hy
   have skip1:tmS N (fun i=>listed.getD i false) ((ρ++ρ2)++t3) tm0=tmS N (fun i=>listed.getD i false) (ρ++t1) tm0:=by
    funext u
    have l1:∀t∈t1,listed.getD t.i false=true→t.o.dst≠some u:=fun t ht hs _=>by rw[k1 t ht]at hs;cases hs
    have l2:∀t∈ρ2++t3,listed.getD t.i false=true→t.o.dst≠some u:=fun t ht hs _=>by rw[k2 t ht]at hs;cases hs
    rw[List.append_assoc,X3 N _ ρ (ρ2++t3),X3 N _ ρ t1,XZ (S:=fun i=>listed.getD i false) l2,XZ (S:=fun i=>listed.getD i false) l1]
   have skip2:hS (fun i=>listed.getD i false) ((ρ++ρ2)++t3) h0=hS (fun i=>listed.getD i false) (ρ++t1) h0:=by
    rw[List.append_assoc,Yw _ ρ (ρ2++t3),Yw _ ρ t1,YF (S:=fun i=>listed.getD i false) fun t ht _=>k2 t ht,YF (S:=fun i=>listed.getD i false) fun t ht _=>k1 t ht]
   rw[skip1,skip2]at hr
   have hy':(listed.setIfInBounds i true).getD i false=true:=by rw[hset];simp
   exact Y8 hF hr1 hf1.pairs hf1.nodup hf1.kind hi ht hti hsz (fun j k h hk=>AncX.good hd (fun hxx=>by rw[hz]at hxx;cases hxx) h hk) (fun j k h hk=>AncX.good hd' (fun _=>hy') h hk) hst hr fun c' a' hev hst' hr' =>
    Qb6 hF hr1 hf1 fuel _ c' a' (by simpa using hsz) hd' hy' hst' hr' (Xs hsz ⟨t,ht,hti⟩ hi hc) fun c2 a2 e2 s2 r2=>hQ c2 a2 (Ev.trans hst hev e2) s2 r2
  ·obtain⟨t,ht,hti⟩:=hf3.all i hlt
   have hy':(listed.setIfInBounds i true).getD y false=false:=by rw[hset,hy];simp;exact fun h=>hiy h.symm
   refine Y8 hF hr3 hf3.pairs hf3.nodup hf3.kind hi ht hti hsz (fun j k h hk=>AncX.good hd (fun hyy=>by rw[hy]at hyy;cases hyy) h hk) (fun j k h hk=>AncX.good hd' (fun hyy=>by have hyy2:(listed.setIfInBounds i true).getD y false=true:=hyy;rw[hy']at hyy2;cases hyy2) h hk) hst hr fun c' a' hev hst' hr'=>?_
   by_cases hiz:i=z
   ·subst hiz
    have hz':(listed.setIfInBounds i true).getD i false=true:=by rw[hset];simp
    have hx0:listed.getD x false=false:=by
     cases hb:listed.getD x false with
     |false=>rfl
     |true=>have h9:listed.getD i false=true:=hd.anc hanc hb;rw[hz]at h9;cases h9
    have hx':(listed.setIfInBounds i true).getD x false=false:=by rw[hset,hx0];simp;exact fun h=>hzx h.symm
    exact QkL hF hxy hr3 hr2 (hf3.toZ i y) hf2 hn3 hn2 fuel _ c' a' (by simpa using hsz) hd' hx' hy' hz' hst' hr' (Xs hsz ⟨t,ht,hti⟩ hi hc3) (Xs hsz (hf2.all i hlt) hi hc2) (fun c2 a2 e2 s2 r2=>hQ3 c2 a2 (Ev.trans hst hev e2) s2 r2) fun c2 a2 e2 s2 r2=>hQ2 c2 a2 (Ev.trans hst hev e2) s2 r2
   ·have hz':(listed.setIfInBounds i true).getD z false=false:=by rw[hset,hz];simp;exact fun h=>hiz h.symm
    exact ih _ c' a' (by simpa using hsz) hd' hz' hy' hst' hr' (Xs hsz (hf1.all i hlt) hi hc) (Xs hsz (hf2.all i hlt) hi hc2) (Xs hsz ⟨t,ht,hti⟩ hi hc3) (fun c2 a2 e2 s2 r2=>hQ c2 a2 (Ev.trans hst hev e2) s2 r2) (fun c2 a2 e2 s2 r2=>hQ2 c2 a2 (Ev.trans hst hev e2) s2 r2) fun c2 a2 e2 s2 r2=>hQ3 c2 a2 (Ev.trans hst hev e2) s2 r2
theorem Zr{P:Program}{N:Nat}{Q:AExit→AS→Prop}{s:AS}{id:Nat}{ops:Array Oper}(z x y:Nat)(ρ σ1 ρ2 σ2 σ3:List (Nat×Nat))(hm:P.follows .mixedOrders=true)
  (hne:((z==y)||(x==y)||(z==x))=false) (hza:((masks ops.toList []).getD x 0).testBit z=true)
  (hok1:okX ops y z (ρ++σ1)=true) (hok2:okZ ops z y y x ((ρ++ρ2)++σ2)=true) (hok3:okX ops x y ((ρ++ρ2)++σ3)=true) (hb:((σ1++(ρ2++σ3)).all fun p=>behind ops z y p.1)=true) (hb2:((σ2++σ3).all fun p=>behind ops x y p.1)=true)
  (hk:Qap ops ρ=true) (hk1:Qap ops σ1=true) (hkr:Qap ops ρ2=true) (hk2:Qap ops σ2=true) (hk3:Qap ops σ3=true)
  (H:∀(K:AS→Prop),(∀s,Q .normal s→K s)→AnyW P N ops ρ (fun s=>AnyW P N ops σ1 K s∧AnyW P N ops ρ2 (fun s=>AnyW P N ops σ2 K s∧AnyW P N ops σ3 K s) s) s):XS P N (.region id ops true) Q s:=by
 intro F n base c a hF hst hr R hR
 refine wpIn_region_any hm ?_
 obtain⟨tm,hp⟩:=s
 obtain⟨ρ',rfl,hρ,hK1,hKr⟩:=Yt (H _ (fun s h=>h)) hk
 obtain⟨t1,rfl,hr1,hQ1⟩:=Yt hK1 hk1
 obtain⟨ρ2',rfl,hρ2,hK2,hK3⟩:=Yt hKr hkr
 obtain⟨t2,rfl,hr2,hQ2⟩:=Yt hK2 hk2
 obtain⟨t3,rfl,hr3,hQ3⟩:=Yt hK3 hk3
 have hruns1:=hρ.append hr1
 have hρρ:=hρ.append hρ2
 have e0:∀l:List Tr,tmS N (fun _=>true) (ρ'++ρ2') tm=tmS N (fun _=>true) ρ2' (tmS N (fun _=>true) ρ' tm)∧hS (fun _=>true) (ρ'++ρ2') hp=hS (fun _=>true) ρ2' (hS (fun _=>true) ρ' hp):=fun _=>⟨X3 _ _ _ _ _,Yw _ _ _ _⟩
 have hruns2:=hρρ.append (m:=t2) (by rw[(e0 []).1,(e0 []).2];exact hr2)
 have hruns3:=hρρ.append (m:=t3) (by rw[(e0 []).1,(e0 []).2];exact hr3)
 rw[←List.map_append]at hok1
 rw[←List.map_append,←List.map_append]at hok2 hok3
 have hf1:=QdH hruns1 hok1
 have hf2:=QnH hruns2 hok2
 have hf3:=QdH hruns3 hok3
 have hm':∀(k i:Nat),((masks ops.toList []).getD k 0).testBit i=true→Anc ops i k:=Zc ops.toList [] (fun j o h=>by simpa using h) (fun k i h=>by simp at h)
 have hbeh:∀x y i,behind ops x y i=true→∀S:Nat→Bool,Down ops S→S x=false→S y=false→S i=false:=by
  intro x y i hi S hd hx hy
  cases hS:S i with
  |false=>rfl
  |true =>
   exfalso
   simp only[behind,Bool.or_eq_true,beq_iff_eq]at hi
   rcases hi with((rfl|rfl)|h)|h
   ·rw[hx]at hS;cases hS
   ·rw[hy]at hS;cases hS
   ·have:=hd.anc (hm' _ _ h) hS;rw[hx]at this;cases this
   ·have:=hd.anc (hm' _ _ h) hS;rw[hy]at this;cases this
 rw[List.all_eq_true]at hb hb2
 simp only[Bool.or_eq_false_iff,beq_eq_false_iff_ne,ne_eq]at hne
 obtain⟨⟨hne1,hne2⟩,hne3⟩:=hne
 have hn1:∀t∈t1,∀S:Nat→Bool,Down ops S→S z=false→S y=false→S t.i=false:=fun t ht=>hbeh _ _ _ (hb (t.i,t.c) (List.mem_append_left _ (List.mem_map.2 ⟨t,ht,rfl⟩)))
 have hn23:∀t∈ρ2'++t3,∀S:Nat→Bool,Down ops S→S z=false→S y=false→S t.i=false:=fun t ht=>hbeh _ _ _ (hb (t.i,t.c) (List.mem_append_right _ (by rw[←List.map_append];exact List.mem_map.2 ⟨t,ht,rfl⟩)))
 have hn2:∀t∈t2,∀S:Nat→Bool,Down ops S→S x=false→S y=false→S t.i=false:=fun t ht=>hbeh _ _ _ (hb2 (t.i,t.c) (List.mem_append_left _ (List.mem_map.2 ⟨t,ht,rfl⟩)))
 have hn3:∀t∈t3,∀S:Nat→Bool,Down ops S→S x=false→S y=false→S t.i=false:=fun t ht=>hbeh _ _ _ (hb2 (t.i,t.c) (List.mem_append_right _ (List.mem_map.2 ⟨t,ht,rfl⟩)))
 have hev:Ev c (c.to {c.w with drawn:=c.w.drawn+1}):=Ev.idle hst (Ev.refl c) rfl rfl rfl rfl fun k=>.inl rfl
 have hst':St (c.to {c.w with drawn:=c.w.drawn+1}):=hst.idle rfl fun k o hk=>.inl hk
 have hr':SR N (base,F) (c.to {c.w with drawn:=c.w.drawn+1}) ⟨tm,hp⟩ a:=⟨hr.h,hr.size,Nat.le_trans hr.above hev.size,hr.defers.ev hev,RoundOk.ev hev hr.round,fun t=>(hr.tm t).ev hst hev⟩
 have hnone:∀j,(Array.replicate ops.size false).getD j false=false:=fun j=>by
  rw[Array.getD_eq_getD_getElem?,Array.getElem?_replicate]
  split <;> rfl
 refine QiK (base:=(base,F)) hF hne1 hne2 hne3 (hm' _ _ hza) hruns1 hruns2 hruns3 hf1 hf2 hf3 hn1 hn23 hn2 hn3 _ _ (c.to {c.w with drawn:=c.w.drawn+1}) a (by simp) ?_ (hnone _) (hnone _) hst' ?_ ?_ ?_ ?_ ?_ ?_ ?_
 ·intro j o ho hj
  simp only at hj
  rw[hnone]at hj;cases hj
 ·have e1:tmS N (fun i=>(Array.replicate ops.size false).getD i false) ((ρ'++ρ2')++t3) tm=tm:=funext fun x=>XZ fun t _ h=>by rw[hnone]at h;cases h
  have e2:hS (fun i=>(Array.replicate ops.size false).getD i false) ((ρ'++ρ2')++t3) hp=hp:=YF fun t _ _=>hnone _
  rw[e1,e2];exact hr'
 ·exact Nat.le_trans List.countP_le_length (Nat.le_of_eq hf1.len)
 ·exact Nat.le_trans List.countP_le_length (Nat.le_of_eq hf2.len)
 ·exact Nat.le_trans List.countP_le_length (Nat.le_of_eq hf3.len)
 ·intro c' a' h1 h2 h3
  rw[X3,Yw]at h3
  exact hR _ _ c' a' _ hQ1 (Ev.trans hst hev h1) h2 h3 rfl
 ·intro c' a' h1 h2 h3
  rw[X3,Yw,X3,Yw]at h3
  exact hR _ _ c' a' _ hQ2 (Ev.trans hst hev h1) h2 h3 rfl
 ·intro c' a' h1 h2 h3
  rw[X3,Yw,X3,Yw]at h3
  exact hR _ _ c' a' _ hQ3 (Ev.trans hst hev h1) h2 h3 rfl
end Go.Proofs.YticgcpebdldbgaaDoor.Ab
set_option maxRecDepth 4000
namespace Go.Proofs.YticgcpebdldbgaaDoor.Ab
open Go.Proofs
def GQ(h:AH)(P:Pz):PR G→AOut→AH→Prop
 | .ok a s,o,h'=>o = .ret (.agg [.v (.string a.name),lsl h.length a.args])∧h'=ph h P s++layA 54 h.length a.args
 | .err p e,o,h'=>o = .panic (Fl p e)∧∃s,h'=ph h P s
def GC(g:Nat)(h:AH)(P:Pz):PR G→AOut→AH→Prop
 | .ok a s,o,h'=>o = .ret (.agg [.v (.string a.name),lsl (h.length+g) a.args])∧∃N,h'=ph h P s++N∧At N g (layA 54 (h.length+g) a.args)
 | .err p e,o,h'=>o = .panic (Fl p e)∧∃s,h'=ph h P s
theorem Qi4{P:Pz}{f:FuncId}{args:List AV}{h:AH}{s:PS}(H:P.ok h)(g:Nat){r:PR G}(C:QL Tryd.prog f args (ph h P s) (GC g h P r)):QL Tryd.prog f args (ph h P s) (GQ h P r):=by
 refine Qau C fun hb0 o h' hQ=>?_
 cases r with
 |err p e=>exact .inl hQ
 |ok t s2 =>
  obtain⟨rfl,N,rfl,hN⟩:=hQ
  rw[QU]at hb0 ⊢
  have hb:∀b∈ph h P s2,b.Below h.length:=fun b hb=>by
   obtain⟨k,hk⟩:=Zi hb
   rcases Qby H (s0:=s) hk with h1|h1
   ·exact hb0 k b h1
   ·exact h1
  obtain⟨K,hk⟩:=QnM (QU h P s2) hb g t.args hN
  refine .inr ⟨_,.agg [.v (.string t.name),lsl h.length t.args],_,_,rfl,K,.agg rfl fun j a a' h1 h2=>?_,rfl,rfl⟩
  match j,h1,h2 with
  |0,h1,h2=>cases h1;cases h2;exact .keep (.v _)
  |1,h1,h2=>cases h1;cases h2;exact hk
  |j+2,h1,h2=>simp at h1
section
variable{P:Pz}{s:PS}(hW:Wst P.all s){h:AH}(H:P.ok h)(hN:P.all.length≤1000000)(L:AH)
include hW H hN
theorem Qil{x:ByteArray}{s1:PS}(e:ZD s = .ok x s1):QL Tryd.prog 35 [.ptr P.i 0 0] (ph h P s++L) fun o h'=>o = .ret (.v (.string x))∧h'=ph h P s1++L:=by
 have:=Qhp hW (H.app L) hN
 rw[e,Q4 H]at this
 exact this.mono fun o h' q=>by simpa only[Q4 H]using q
theorem Qgn{p c:Int}(e:ZD s = .err p c):QL Tryd.prog 35 [.ptr P.i 0 0] (ph h P s++L) fun o h'=>o = .panic (Fl p c)∧∃s1:PS,h'=ph h P s1++L:=by
 have:=Qhp hW (H.app L) hN
 rw[e,Q4 H]at this
 exact this.mono fun o h' q=>by simpa only[Q4 H]using q
theorem Zw(b:ByteArray)(hb:s.is b.toList=true):QL Tryd.prog 39 [.ptr P.i 0 0,.v (.string b)] (ph h P s++L) fun o h'=>o = .ret (.b true)∧h'=ph h P s.nx++L:=by
 have:=QgB hW (H.app L) hN b hb
 simpa only[Q4 H]using this
theorem ZZ(b:ByteArray)(hb:s.is b.toList=false):QL Tryd.prog 39 [.ptr P.i 0 0,.v (.string b)] (ph h P s++L) fun o h'=>o = .ret (.b false)∧h'=ph h P s++L:=by
 have:=QiF hW (H.app L) hN b hb
 simpa only[Q4 H]using this
theorem XU(b:ByteArray)(hb:s.is b.toList=true):QL Tryd.prog 36 [.ptr P.i 0 0,.v (.string b)] (ph h P s++L) fun o h'=>o = .ret (.tup [])∧h'=ph h P s.nx++L:=by
 have:=QjX hW (H.app L) hN b hb
 simpa only[Q4 H]using this
theorem Yj(b:ByteArray)(hb:s.is b.toList=false):QL Tryd.prog 36 [.ptr P.i 0 0,.v (.string b)] (ph h P s++L) fun o h'=>o = .panic (Fl s.tk.pos 16)∧h'=ph h P s++L:=by
 have:=Qlp hW (H.app L) hN b hb
 simpa only[Q4 H]using this
end
theorem tl(l:List UInt8):(ByteArray.mk l.toArray).toList=l:=by rw[Lib.toList_data]
end Go.Proofs.YticgcpebdldbgaaDoor.Ab
set_option maxRecDepth 4000
namespace Go.Proofs.YticgcpebdldbgaaDoor.Ab
open Go.Proofs
abbrev cA0:AB:=.cells 72 2 [.agg [.v (.string {data:=#[]}),.v (.slice none 0 0)]]
def avl(n d:Nat)(l:List T):AV:=if l.isEmpty then .sl 4 [] (some d)else .arr (n+szs l - 1) 0 l.length
section
variable{P:Pz}{ex:PS→PR T}{Nn:Nat}(HR:TRd P 73 ex Nn)(hEat:Eat 0 ex)(hKp:Kp.Ps (wdOf P.all) ex){s:PS}(hs:s.toks.length<Nn+1)(hW:Wst P.all s){h:AH}(H:P.ok h)(hN:P.all.length≤1000000)
include HR hEat hKp hs hW H hN
theorem QiQ:QL Tryd.prog 61 [.ptr P.i 0 0] (ph h P s) (GC 3 h P (Yz ex s)):=by
 have f1:=QU h P
 have f3:=XB h P
 have f4:=Yf h P
 have f5:=Xk h P
 have f6:=XL h P
 rw[Yz]
 have hi:=ph_i H s
 simp only[pB]at hi
 cases hn:ZD s with
 |err p e =>
  have cn:=fun L=>Qgn hW H hN L hn
  refine Qe Tryd.func61 rfl Tryd.call61 Tryd.ntmps61 Tryd.results61 (by simp) ?_
  repeat (first|((first|(with_reducible (first|refine Qa fun K E hK hE=>?_|refine FunW.panE (FunW.call (cn _)) fun r=>?_)));simp -implicitDefEqProofs only[Qc,Qd,OpW,QB,aop,undef,AS.ev,Qr,AV.QqY,↓reduceIte,Qg,QJ,zi72,Qp,f1,hi,seval])|((with_reducible refine hK _ ?_);clear hK)|(with_reducible refine hE _ _ ?_))
  exact QW H s r p e _ ⟨rfl,_,rfl⟩
 |ok x s1 =>
  have cn:=fun L=>Qil hW H hN L hn
  have hW1:Wst P.all s1:=Kp.Ps.ok (n:=wdOf P.all) (Kp.name_ps trivial) hW hn
  have hl1:=(YT s hW.wf x s1 hn).2
  have hi1:=ph_i H s1
  simp only[pB]at hi1
  show QL _ _ _ _ (GC 3 h P (if s1.is sLp=true then(YU ex s1.toks.length [] s1.nx).bind fun l s=>PR.ok (⟨0,x,l⟩:G) s else PR.ok ⟨0,x,[]⟩ s1))
  cases hp:s1.is sLp with
  |false =>
   have cs:=fun L=>ZZ hW1 H hN L {data:=#[40]} (by rw[Lib.toList_data];exact hp)
   rw[if_neg (by simp)]
   refine Qe Tryd.func61 rfl Tryd.call61 Tryd.ntmps61 Tryd.results61 (by simp) ?_
   repeat (first|((first|(with_reducible (first|refine Qa fun K E hK hE=>?_|refine FunW.QqZ (cn _) ?_|refine FunW.QqZ (cs _) ?_)));simp -implicitDefEqProofs only[Qc,Qd,OpW,QB,aop,undef,AS.ev,Qr,AV.QqY,↓reduceIte,Qg,Qw,Qv,Qu,Ql,QP,Q6,QJ,ti72,zi72,sp72,Qp,f1,f3,f4,f5,f6,hi,hi1,seval])|(with_reducible (first|refine Qf fun K hK=>?_|refine Qm ?_|refine Qy ?_))|((with_reducible refine hK _ ?_);clear hK)|(refine Qh rfl ?_;simp only[↓reduceIte]))
   simp -implicitDefEqProofs only[Qc,↓reduceIte,Qw,Qv,ti72,Qw,Qv,f3,QH,Qo,Qt,QrT,seval]
   refine .inr ⟨rfl,_,rfl,?_⟩
   exact fun j b hb=>by simp[layA,lays]at hb
  |true =>
   have cs:=fun L=>Zw hW1 H hN L {data:=#[40]} (by rw[Lib.toList_data];exact hp)
   have hk1:=PS.Qq2 hp
   have hln1:=Xo hW1.wf hk1
   have hWn1:=hW1.nx
   have hi2:=ph_i H s1.nx
   simp only[pB]at hi2
   rw[if_pos rfl]
   generalize hR:((YU ex s1.toks.length [] s1.nx).bind fun l s=>PR.ok (⟨0,x,l⟩:G) s)=R
   refine Qe Tryd.func61 rfl Tryd.call61 Tryd.ntmps61 Tryd.results61 (by simp) ?_
   repeat (first|((first|(with_reducible (first|refine Qa fun K E hK hE=>?_|refine FunW.QqZ (cn _) ?_|refine FunW.QqZ (cs _) ?_)));simp -implicitDefEqProofs only[Qc,Qd,OpW,QB,aop,undef,AS.ev,Qr,AV.QqY,↓reduceIte,Qg,Qu,Ql,QP,Q6,QJ,ti72,zi72,sp72,Qp,f1,f4,f6,hi,hi1,seval])|(with_reducible (first|refine Qf fun K hK=>?_|refine Qi ?_|refine Qk ?_|refine Qb ?_))|((with_reducible refine hK _ ?_);clear hK)|(refine Qh rfl ?_;simp only[↓reduceIte,QrN]))
   refine YD (h.length+1) 72 2 4 .dead (.inl rfl) [.agg [.v (.string x),.v (.slice none 0 0)]] [.agg [.v (.string x),.sl 4 [] (some (h.length+2))]] 1 (by rw[f4];rfl) rfl (by rw[List.length_append,QU];rfl) (by simp[AV.cells]) ?_
   rw[List.append_assoc,f6]
   obtain⟨I,hI⟩:∃I:Nat→AS→Prop,I=fun m' s=>∃(l:List T) (s2:PS),m'=s2.toks.length∧s2.toks.length<Nn∧Wst P.all s2∧l.length+s2.toks.length≤P.all.length+1∧(∃k,s2.toks.length≤k∧((YU ex k l s2).bind fun l s=>PR.ok (⟨0,x,l⟩:G) s)=R)∧s.tm 0 = .ptr P.i 0 0∧s.tm 2 = .ptr h.length 0 0∧s.tm 3 = .ptr (h.length+1) 0 0 ∧
    s.h=ph h P s2++(cA0 :: .cells 72 2 [.agg [.v (.string x),avl (h.length+3) (h.length+2) l]] :: .dead::layA 54 (h.length+3) l):=⟨_,rfl⟩;refine QR I ?_ (m:=s1.nx.toks.length) ?_
   ·intro m' s hs;rw[hI]at hs;obtain⟨tm,hp⟩:=s;dsimp only at hs;obtain⟨l,s2,rfl,hl2,hW2,hbd,⟨k,hk,hR2⟩,t0,t2,t3,rfl⟩:=hs
    have hlk:1≤s2.toks.length:=by
     have:=Qob hW2.wf
     cases hq:s2.toks with
     |nil=>exact absurd hq this
     |cons _ _=>simp
    have hk1:k=k - 1+1:=by omega
    cases hop:ex s2 with
    |err p e =>
     have hRR:R = .err p e:=by
      rw[←hR2,hk1,YU,hop];rfl
     subst hRR
     have c2:=TRd.err HR hl2 hW2 H hop (cA0 :: .cells 72 2 [.agg [.v (.string x),avl (h.length+3) (h.length+2) l]] :: .dead::layA 54 (h.length+3) l)
     repeat (first|(with_reducible (first|refine Qf fun K hK=>?_|refine Qi ?_)))
     refine Xd 3 [(0,0),(1,0),(2,1)] mixed rfl rfl rfl (by kernel_rfl) (fun v h'=>v=Fl p e∧∃x2:PS,h'=ph h P x2++(cA0 :: .cells 72 2 [.agg [.v (.string x),avl (h.length+3) (h.length+2) l]] :: .dead::layA 54 (h.length+3) l)) ?_ ?_
     ·rintro tm v h' ⟨rfl,x2,rfl⟩
      exact QW H s x2 p e _ ⟨rfl,_,rfl⟩
     ·simp -implicitDefEqProofs only[Qc,Qd,aop,AS.ev,↓reduceIte,Qg,Qw,Qv,ti50,Z7,t0,t3,f4,seval]
      exact fun _=>(FunW.call c2).mono (by rintro _ _ ⟨rfl,x,rfl⟩;exact⟨_,rfl,rfl,x,rfl⟩)
    |ok u s3 =>
     have hW3:Wst P.all s3:=Kp.Ps.ok hKp hW2 hop
     have hl3:=(hEat s2 hW2.wf u s3 hop).2
     have hi3:=ph_i H s3
     simp only[pB]at hi3
     have hR3:(if s3.is Y6=true then(YU ex (k - 1) (l++[u]) s3.nx).bind fun l s=>PR.ok (⟨0,x,l⟩:G) s else(XO sRp s3).bind fun _ s=>PR.ok (⟨0,x,l++[u]⟩:G) s)=R:=by
      rw[←hR2,hk1,YU,hop]
      simp only[PR.bind]
      split
      ·rfl
      ·cases XO sRp s3 <;> rfl
     repeat (first|(with_reducible (first|refine Qf fun K hK=>?_|refine Qi ?_)))
     have fin:∀tm':Nat→AV,tm' 0 = .ptr P.i 0 0→tm' 2 = .ptr h.length 0 0→tm' 3 = .ptr (h.length+1) 0 0 →
       K ⟨tm',ph h P s3++(cA0 :: .cells 72 2 [.agg [.v (.string x),.arr (h.length+3+szs (l++[u]) - 1) 0 (l++[u]).length]] :: .dead::layA 54 (h.length+3) (l++[u]))⟩:=by
      intro tm' v0 v2 v3
      refine hK _ ?_
      cases hc:s3.is Y6 with
      |true =>
       have cs:=fun L=>Zw hW3 H hN L {data:=#[44]} (by rw[Lib.toList_data];exact hc)
       rw[hc,if_pos rfl]at hR3
       have hln3:=Xo hW3.wf (PS.Qq2 hc)
       repeat (first|((first|(with_reducible (first|refine Qa fun K E hK hE=>?_|refine FunW.QqZ (cs _) ?_)));simp -implicitDefEqProofs only[Qc,Qd,OpW,QB,aop,AS.ev,↓reduceIte,Nat.reduceLT,Qg,QJ,Qp,v0,hi3])|(with_reducible (first|refine Qk ?_|refine Qb ?_|refine Qn ?_))|((with_reducible refine hK _ ?_);clear hK)|(refine Qh rfl ?_;simp only[↓reduceIte,QrN]))
       refine Xi.mk (m':=s3.nx.toks.length) (by omega) ?_
       rw[hI]
       refine⟨l++[u],s3.nx,rfl,by omega,hW3.nx,by simp;omega,⟨k - 1,by omega,hR3⟩,v0,v2,v3,?_⟩
       rw[avl,if_neg (by simp)]
      |false =>
       have cs:=fun L=>ZZ hW3 H hN L {data:=#[44]} (by rw[Lib.toList_data];exact hc)
       rw[hc,if_neg (by simp)]at hR3
       have hat:At (cA0 :: .cells 72 2 [.agg [.v (.string x),.arr (h.length+3+szs (l++[u]) - 1) 0 (l++[u]).length]] :: .dead::layA 54 (h.length+3) (l++[u])) 3 (layA 54 (h.length+3) (l++[u])):=At.tail (At.tail (At.tail (At.all _)))
       cases hr:s3.is sRp with
       |true =>
        have ce:=fun L=>XU hW3 H hN L {data:=#[41]} (by rw[Lib.toList_data];exact hr)
        have hi4:=ph_i H s3.nx
        simp only[pB]at hi4
        have hRR:R = .ok ⟨0,x,l++[u]⟩ s3.nx:=by
         rw[←hR3,XO,hr,if_pos rfl];rfl
        subst hRR
        repeat (first|((first|(with_reducible (first|refine Qa fun K E hK hE=>?_|refine FunW.QqZ (cs _) ?_|refine FunW.QqZ (ce _) ?_)));simp -implicitDefEqProofs only[Qc,Qd,OpW,QB,aop,undef,AS.ev,AV.QqY,↓reduceIte,Qg,Qw,Qv,Qu,Ql,QJ,ti72,Qp,v0,v2,v3,hi3,f3,f4,f5,seval])|(with_reducible (first|refine Qm ?_|refine QF ?_|refine Qb ?_|refine QD ?_|refine QC ?_|refine QZ rfl ?_))|((with_reducible refine hK _ ?_);clear hK)|(clear hK;(with_reducible refine hK _ ?_);clear hK)|(refine Qh rfl ?_;simp only[↓reduceIte]))
        simp -implicitDefEqProofs only[Qc,↓reduceIte,Qw,Qv,ti72,Qw,Qv,v2,f3,QH,Qo,Qt,QrT,seval]
        refine .inr ⟨?_,_,rfl,?_⟩
        ·show AOut.ret _=AOut.ret (.agg [_,lsl (h.length+3) (l++[u])])
         rw[lsl,if_neg (by simp)]
        ·exact fun j b hb hl=>by
          have:=hat j b hb hl
          rw[Nat.add_comm 3 j]at this ⊢
          simpa only[QrK]using this
       |false =>
        have ce:=fun L=>Yj hW3 H hN L {data:=#[41]} (by rw[Lib.toList_data];exact hr)
        have hRR:R = .err s3.tk.pos 16:=by
         rw[←hR3,XO,hr,if_neg (by simp)];rfl
        subst hRR
        repeat (first|((first|(with_reducible (first|refine Qa fun K E hK hE=>?_|refine FunW.QqZ (cs _) ?_|refine FunW.pan (FunW.call (ce _)) ?_)));simp -implicitDefEqProofs only[Qc,Qd,OpW,QB,aop,AS.ev,↓reduceIte,Qg,QJ,Qp,v0,hi3,seval])|(with_reducible (first|refine QF ?_|refine Qb ?_|refine QD ?_|refine QC ?_|refine QZ rfl ?_))|((with_reducible refine hK _ ?_);clear hK)|(clear hK;(with_reducible refine hK _ ?_);clear hK)|(refine Qh rfl ?_;simp only[↓reduceIte])|(with_reducible refine hE _ _ ?_))
        exact QW H s s3 _ _ _ ⟨rfl,_,rfl⟩
     have e3:=T.Qq4 (h.length+3+szs l) u
     have e4:=T.Qq5 (h.length+3+szs l) u
     have hmx:1≤maxLen:=by decide
     have c2:=TRd.ok HR hl2 hW2 H hop (cA0 :: .cells 72 2 [.agg [.v (.string x),avl (h.length+3) (h.length+2) l]] :: .dead::layA 54 (h.length+3) l) (k:=h.length+3+szs l) (by simp only[QrW,Yg];omega)
     cases l with
     |nil =>
      simp only[szs,Qr8]at e3 e4 c2
      have ea:avl (h.length+3) (h.length+2) [] = .sl 4 [] (some (h.length+2)):=rfl
      have el:layA 54 (h.length+3) []=[]:=rfl
      simp only[ea,el]at c2 ⊢
      refine Zr 0 1 3 [(2,1)] [(3,2),(0,0),(1,0),(4,0),(5,2),(6,0),(7,2)] [(0,0)] [(3,2),(1,0),(4,0),(5,2),(6,0),(7,2)] [(1,0),(3,2),(4,0),(5,2),(6,0),(7,2)] mixed (by kernel_rfl) (by kernel_rfl) (by kernel_rfl) (by kernel_rfl) (by kernel_rfl) (by kernel_rfl) (by kernel_rfl) (by kernel_rfl) (by kernel_rfl) (by kernel_rfl) (by kernel_rfl) (by kernel_rfl) (fun K2 hK2=>?_)
      simp -implicitDefEqProofs only[Qc,Qd,aop,AS.ev,↓reduceIte,Qg,Qw,Qv,ti50,Z7,t0,t3,f4,seval]
      have e5:h.length+3+szs ([]++[u]) - 1=h.length+((u.lay 54 (h.length+3)).length+1+1+1):=by
       rw[T.Qq3,YP];simp only[szs];omega
      have e6:layA 54 (h.length+3) ([]++[u])=u.lay 54 (h.length+3)++[.cells 54 4 [u.lv (h.length+3)]]:=by
       rw[Qhj];simp[lays,szs,lvs]
      simp only[e5,e6]at fin
      refine⟨?_,?_⟩
      ·refine XT (FunW.call c2) Zz ?_
       simp -implicitDefEqProofs only[Qc,Qd,aop,undef,AS.ev,AV.QqY,↓reduceIte,Qg,Qw,Qv,Qu,Ql,QG,XI,Yk,ti50,ei50,ai50,zi54,Z7,t3,f1,f4,f6,e3,QT,hmx,List.append_assoc,seval]
       refine hK2 _ (Qb (fin _ ?_ ?_ ?_)) <;> assumption
      ·refine⟨?_,?_⟩
       ·refine XT (FunW.call c2) Zz ?_
        simp -implicitDefEqProofs only[Qc,Qd,aop,undef,AS.ev,AV.QqY,↓reduceIte,Qg,Qw,Qv,Qu,Ql,QG,XI,Yk,ti50,ei50,ai50,zi54,Z7,t3,f1,f4,f6,e3,QT,hmx,List.append_assoc,seval]
        refine hK2 _ (Qb (fin _ ?_ ?_ ?_)) <;> assumption
       ·refine XT (FunW.call c2) Zz ?_
        simp -implicitDefEqProofs only[Qc,Qd,aop,undef,AS.ev,AV.QqY,↓reduceIte,Qg,Qu,Ql,QG,XI,Yk,ti50,ei50,ai50,zi54,Z7,t3,f1,f4,f6,e3,QT,hmx,List.append_assoc,seval]
        refine hK2 _ (Qb (fin _ ?_ ?_ ?_)) <;> assumption
     |cons a l0 =>
      have hne:a::l0≠[]:=by simp
      generalize hl1:a::l0=l1 at *
      have ea:avl (h.length+3) (h.length+2) l1 = .arr (h.length+3+szs l1 - 1) 0 l1.length:=by rw[avl,if_neg (by simpa using hne)]
      have hsp:=Qb3 hne
      have gid:h.length+3+szs l1 - 1=h.length+(szs l1 - 1+1+1+1):=by omega
      have gA:∀(c:AB) X,(ph h P s3++(cA0::c :: .dead::(layA 54 (h.length+3) l1++X)))[h.length+3+szs l1 - 1]? = some (.cells 54 4 (lvs (h.length+3) l1)):=fun c X=>by
       rw[gid,f4]
       simp only[QrK]
       rw[List.getElem?_append_left (by rw[Yg];omega)]
       exact(Qhi _ _ _ hne).1
      have sA:∀(c:AB) X,(ph h P s3++(cA0::c :: .dead::(layA 54 (h.length+3) l1++X))).set (h.length+3+szs l1 - 1) .dead=ph h P s3++(cA0::c :: .dead::(lays 54 (h.length+3) .dead l1++X)):=fun c X=>by
       rw[gid,f6]
       simp only[Qse]
       rw[List.set_append_left _ _ (by rw[Yg];omega),(Qhi _ _ _ hne).2]
      have hb1:l1.length+1≤maxLen:=by simp only[maxLen];omega
      have hb2:(l1.length+1) * 56≤140737488355328:=by omega
      have e5:h.length+3+szs (l1++[u]) - 1=h.length+(szs l1+((u.lay 54 (h.length+3+szs l1)).length)+1+1+1):=by
       rw[T.Qq3,YP];simp only[szs];omega
      have e6:=Qhj 54 (h.length+3) l1 u
      have e7:(l1++[u]).length=l1.length+1:=by simp
      simp only[e5,e6,e7]at fin
      have e8:=Zb 54 (h.length+3) .dead l1
      have e9:=Zl (h.length+3) l1
      simp only[ea]at c2 ⊢
      refine Zr 0 1 3 [(2,1)] [(3,2),(0,0),(1,0),(4,0),(5,4),(6,0),(7,2)] [(0,0)] [(3,2),(1,0),(4,0),(5,4),(6,0),(7,2)] [(1,0),(3,2),(4,0),(5,4),(6,0),(7,2)] mixed (by kernel_rfl) (by kernel_rfl) (by kernel_rfl) (by kernel_rfl) (by kernel_rfl) (by kernel_rfl) (by kernel_rfl) (by kernel_rfl) (by kernel_rfl) (by kernel_rfl) (by kernel_rfl) (by kernel_rfl) (fun K2 hK2=>?_)
      simp -implicitDefEqProofs only[Qc,Qd,aop,AS.ev,↓reduceIte,Qg,Qw,Qv,ti50,Z7,t0,t3,f4,seval]
      refine⟨?_,?_⟩
      ·refine XT (FunW.call c2) Zz ?_
       simp -implicitDefEqProofs only[Qc,Qd,aop,undef,AS.ev,AV.QqY,↓reduceIte,Qg,Qw,Qv,Qu,Ql,QG,XI,Yk,ti50,ei50,ai50,zi54,Z7,t3,f1,f4,f6,e3,gA,sA,e9,hb1,hb2,Yg,aopR,Qbr,QT,List.append_assoc,seval]
       refine hK2 _ (Qb (fin _ ?_ ?_ ?_)) <;> assumption
      ·refine⟨?_,?_⟩
       ·refine XT (FunW.call c2) Zz ?_
        simp -implicitDefEqProofs only[Qc,Qd,aop,undef,AS.ev,AV.QqY,↓reduceIte,Qg,Qw,Qv,Qu,Ql,QG,XI,Yk,ti50,ei50,ai50,zi54,Z7,t3,f1,f4,f6,e3,gA,sA,e9,hb1,hb2,Yg,aopR,Qbr,QT,List.append_assoc,seval]
        refine hK2 _ (Qb (fin _ ?_ ?_ ?_)) <;> assumption
       ·refine XT (FunW.call c2) Zz ?_
        simp -implicitDefEqProofs only[Qc,Qd,aop,undef,AS.ev,AV.QqY,↓reduceIte,Qg,Qu,Ql,QG,XI,Yk,ti50,ei50,ai50,zi54,Z7,t3,f1,f4,f6,e3,gA,sA,e9,hb1,hb2,Yg,aopR,Qbr,QT,List.append_assoc,seval]
        refine hK2 _ (Qb (fin _ ?_ ?_ ?_)) <;> assumption
   ·rw[hI]
    exact⟨[],s1.nx,rfl,by omega,hWn1,by have:=hWn1.suf.length_le;simp;omega,⟨_,by omega,hR⟩,rfl,rfl,rfl,rfl⟩
end
end Go.Proofs.YticgcpebdldbgaaDoor.Ab
set_option maxRecDepth 4000
namespace Go.Proofs.YticgcpebdldbgaaDoor.Ab
open Go.Proofs
structure TkOk (all:List Tk):Prop where
 int:∀t∈all,t.kind=3→(∀c∈t.text.toList,isD c=true)∧numVal t.text.toList≤2147483648
 pos:∀t∈all,0≤t.pos∧t.pos≤1000000
 nam:∀t∈all,t.kind=1→opB t.text=false
theorem QmJ{all:List Tk}{s:PS}(hW:Wst all s):s.tk∈all:=by
 refine hW.suf.subset ?_
 cases hq:s.toks with
 |nil=>exact absurd hq (Qob hW.wf)
 |cons t l=>unfold PS.tk;rw[hq];simp
theorem Qj9(x:ByteArray):mkB x.toList=x:=by rw[Lib.toList_data];exact QdF x
theorem Qic{all:List Tk}(hD:TkOk all){s:PS}(hW:Wst all s)(hk:s.tk.kind=3):Pure Tryd.prog 38 [.v (.string s.tk.text)] (.i (valT s.tk.text))∧0≤valT s.tk.text∧valT s.tk.text≤2147483648:=by
 obtain⟨h1,h2⟩:=hD.int _ (QmJ hW) hk
 have:=Qio s.tk.text.toList h1 h2
 rw[Qj9]at this
 exact⟨this,by unfold valT;omega,by unfold valT;omega⟩
theorem QfJ(N:AH)(g:Nat):At N g []:=fun j b hb=>by simp at hb
section
variable{P:Pz}{ex:PS→PR T}{Nn:Nat}(HR:TRd P 73 ex Nn)(hEat:Eat 0 ex)(hKp:Kp.Ps (wdOf P.all) ex)(hN:P.all.length≤1000000)(hD:TkOk P.all)
include HR hEat hKp hN hD
theorem Qkg:TRd P 94 (pOpT ex) (Nn+1):=by
 intro s hs hW h H
 refine QdP H 2 ?_
 have f1:=QU h P
 have f3:=XB h P
 have f4:=Yf h P
 have f5:=Xk h P
 have f6:=XL h P
 have hi:=ph_i H s
 have hin:=ph_i H s.nx
 simp only[pB]at hi hin
 have cn:=nextL hW (X6 H s)
 have ct:=fun L=>Xq hW (H.app L) hN
 simp only[Q4 H]at ct
 have e1:=Tk.Qq0 s.tk
 have e2:=Tk.Qq1 s.tk
 unfold pOpT
 by_cases h3:s.tk.kind=3
 ·rw[if_pos h3]
  have z1:(s.tk.kind==3)=true:=by simpa using h3
  obtain⟨cv,_,_⟩:=Qic hD hW h3
  have ci:=Qi6 (valT s.tk.text)
  refine Qe Tryd.func94 rfl Tryd.call94 Tryd.ntmps94 Tryd.results94 (by simp) ?_
  repeat (first|((first|(with_reducible (first|refine Qa fun K E hK hE=>?_|refine FunW.QqZ (cn _) ?_|refine FunW.QqZ (ct _) ?_|refine Qz cv ?_|refine Qz ci ?_)));simp -implicitDefEqProofs only[Qc,Qd,OpW,QB,aop,undef,AS.ev,Qr,AV.QqY,↓reduceIte,Qg,Qw,Qv,Qu,Ql,aBin,Zq,ti3,ti9,ti54,zi54,ti60,QK,QQ,zi60,QJ,Qp,f1,f3,f4,f5,f6,hi,e1,e2,z1,seval])|(with_reducible (first|refine Qf fun K hK=>?_|refine Qi ?_|refine Qm ?_|refine Qy ?_|refine QE ?_))|((with_reducible refine hK _ ?_);clear hK)|(refine Qh rfl ?_;simp only[↓reduceIte]))
  simp -implicitDefEqProofs only[Qc,↓reduceIte,Qw,Qv,ti54,Qw,Qv,f3,QH,Qo,Qt,QrT,seval]
  exact .inr ⟨rfl,_,rfl,QfJ _ _⟩
 ·rw[if_neg h3]
  have z3:(s.tk.kind==3)=false:=by simpa using h3
  by_cases h2:s.tk.kind=2
  ·rw[if_pos h2]
   have z2:(s.tk.kind==2)=true:=by simpa using h2
   have cv:=fun L=>QgG hW.nx (H.app L) hN s.tk.text
   simp only[Q4 H]at cv
   obtain⟨hv1,hv2⟩:=Qps (h.length+2) s.tk.text s.nx
   refine Qe Tryd.func94 rfl Tryd.call94 Tryd.ntmps94 Tryd.results94 (by simp) ?_
   repeat (first|((first|(with_reducible (first|refine Qa fun K E hK hE=>?_|refine FunW.QqZ (cn _) ?_|refine FunW.QqZ (ct _) ?_|refine FunW.QqZ (cv _) ?_)));simp -implicitDefEqProofs only[Qc,Qd,OpW,QB,aop,undef,AS.ev,Qr,AV.QqY,↓reduceIte,Qg,Qw,Qv,Qu,Ql,aBin,Zq,ti3,ti9,ti54,zi54,ti60,QK,QQ,zi60,QJ,Qp,f1,f3,f4,f5,f6,hi,e1,e2,z3,z2,seval])|(with_reducible (first|refine Qf fun K hK=>?_|refine Qi ?_|refine Qm ?_|refine Qy ?_|refine QE ?_))|((with_reducible refine hK _ ?_);clear hK)|(refine Qh rfl ?_;simp only[↓reduceIte,QrN]))
   simp -implicitDefEqProofs only[Qc,↓reduceIte,Qw,Qv,ti54,Qw,Qv,f3,QH,Qo,Qt,QrT,seval]
   refine .inr ⟨by rw[hv1],_,rfl,?_⟩
   rw[T.Qq8,hv2]
   exact QfJ _ _
  ·rw[if_neg h2]
   have z2:(s.tk.kind==2)=false:=by simpa using h2
   by_cases h1:s.tk.kind=1
   ·rw[if_pos h1]
    have z1:(s.tk.kind==1)=true:=by simpa using h1
    have ca:=fun L=>Qi4 (H.app L) 3 (QiQ HR hEat hKp hs hW (H.app L) hN)
    cases hr:Yz ex s with
    |err p e =>
     rw[hr]at ca
     have ca':∀L,QL Tryd.prog 61 [.ptr P.i 0 0] (ph h P s++L) fun o h'=>o = .panic (Fl p e)∧∃s1:PS,h'=ph h P s1++L:=fun L=>by
      have:=ca L
      rw[Q4 H]at this
      exact this.mono fun o h' q=>by simpa only[GQ,Q4 H]using q
     refine Qe Tryd.func94 rfl Tryd.call94 Tryd.ntmps94 Tryd.results94 (by simp) ?_
     repeat (first|((first|(with_reducible (first|refine Qa fun K E hK hE=>?_|refine FunW.QqZ (cn _) ?_|refine FunW.panE (FunW.call (ca' _)) fun r=>?_)));simp -implicitDefEqProofs only[Qc,Qd,OpW,QB,aop,undef,AS.ev,Qr,AV.QqY,↓reduceIte,Qg,Qw,Qv,Qu,Ql,aBin,ti3,zi54,ti60,QK,zi60,QJ,Qp,f1,f4,f6,hi,e1,e2,z3,z2,z1,seval])|(with_reducible (first|refine Qf fun K hK=>?_|refine Qi ?_))|((with_reducible refine hK _ ?_);clear hK)|(refine Qh rfl ?_;simp only[↓reduceIte,QrN])|(with_reducible (first|refine hE _ _ ?_|refine QN ?_|refine Xb ?_)))
     exact QW H s r p e _ ⟨rfl,_,rfl⟩
    |ok a s1 =>
     rw[hr]at ca
     have ca':∀(c d:AB),QL Tryd.prog 61 [.ptr P.i 0 0] (ph h P s++[c,d]) fun o h'=>o = .ret (.agg [.v (.string a.name),lsl (h.length+2) a.args])∧h'=ph h P s1++(c::d::layA 54 (h.length+2) a.args):=fun c d=>by
      have:=ca [c,d]
      rw[Q4 H]at this
      exact this.mono fun o h' q=>by simpa only[GQ,Q4 H,QsA,QrW,QrX,List.append_assoc,Qsb,Qsa]using q
     have e5:=Qei (h.length+2) a.args
     have e6:=Qej (h.length+2) a.args
     have hat:∀(c d:AB) X,At (c::d::(layA 54 (h.length+2) a.args++X)) 2 (layA 54 (h.length+2) a.args):=fun c d X=>At.mid [c,d] _ _ rfl
     refine Qe Tryd.func94 rfl Tryd.call94 Tryd.ntmps94 Tryd.results94 (by simp) ?_
     repeat (first|((first|(with_reducible (first|refine Qa fun K E hK hE=>?_|refine FunW.QqZ (cn _) ?_|refine FunW.QqZ (ca' _ _) ?_)));simp -implicitDefEqProofs only[Qc,Qd,OpW,QB,aop,undef,AS.ev,Qr,AV.QqY,↓reduceIte,Qg,Qw,Qv,Qu,Ql,aBin,QP,Q6,ti3,ti9,ti50,ti54,zi54,sp54,ti60,QK,zi60,QJ,ti72,Qfv,Z7,zi72,Qp,f1,f3,f4,f5,f6,hi,e1,e2,z3,z2,z1,e5,QT,seval])|(with_reducible (first|refine Qf fun K hK=>?_|refine Qi ?_|refine Qm ?_|refine Qy ?_|refine QE ?_))|((with_reducible refine hK _ ?_);clear hK)|(refine Qh rfl ?_;simp only[↓reduceIte,QrN]))
     simp -implicitDefEqProofs only[Qc,↓reduceIte,Qw,Qv,ti54,Qw,Qv,f3,QH,Qo,Qt,QrT,seval]
     exact .inr ⟨rfl,_,rfl,hat _ _ _⟩
   ·rw[if_neg h1]
    have z1:(s.tk.kind==1)=false:=by simpa using h1
    cases hm:s.is Qai with
    |true =>
     rw[if_pos rfl]
     have cs:=fun L=>Zw hW H hN L {data:=#[45]} (by rw[Lib.toList_data];exact hm)
     have hWn:=hW.nx
     have cn2:=nextL hWn (X6 H s.nx)
     have e3:=Tk.Qq0 s.nx.tk
     have e4:=Tk.Qq1 s.nx.tk
     have hp:=hD.pos _ (QmJ hW)
     have w1:IntKind.i64.wrap (s.tk.pos+1)=s.tk.pos+1:=Xt (by omega)
     have bad:(s.nx.tk.kind≠3∨s.nx.tk.pos≠s.tk.pos+1)→QL Tryd.prog 94 [.ptr P.i 0 0] (ph h P s) (CQ 2 h P (.err s.nx.tk.pos 16)):=fun hb=>by
      have cf:=YL s.nx.tk 16
      by_cases hk:s.nx.tk.kind=3
      ·have y1:(s.nx.tk.kind != 3)=false:=by simpa using hk
       have y2:(s.nx.tk.pos != s.tk.pos+1)=true:=by simpa using hb.resolve_left (fun q=>q hk)
       refine Qe Tryd.func94 rfl Tryd.call94 Tryd.ntmps94 Tryd.results94 (by simp) ?_
       repeat (first|((first|(with_reducible (first|refine Qa fun K E hK hE=>?_|refine FunW.QqZ (cn _) ?_|refine FunW.QqZ (cs _) ?_|refine FunW.QqZ (cn2 _) ?_)));simp -implicitDefEqProofs only[Qc,Qd,OpW,QB,aop,undef,AS.ev,Qr,AV.QqY,↓reduceIte,Qg,Qw,Qv,Qu,Ql,aBin,ti3,zi54,ti60,QK,Xc,zi60,QJ,Qp,f1,f4,f6,hi,hin,e1,e2,e3,e4,z3,z2,z1,y1,y2,w1,seval])|(with_reducible (first|refine Qf fun K hK=>?_|refine Qi ?_))|((with_reducible refine hK _ ?_);clear hK)|(refine Qh rfl ?_;simp only[↓reduceIte,QrN]))
       refine Xd 4 [(0,1),(1,0),(2,0),(3,0)] mixed rfl rfl rfl (by kernel_rfl) (fun v h'=>v=Fl s.nx.tk.pos 16∧∃L,h'=ph h P s.nx++L) ?_ ?_
       ·rintro tm v h' ⟨rfl,L,rfl⟩
        exact QW H s s.nx _ _ _ ⟨rfl,_,rfl⟩
       ·simp -implicitDefEqProofs only[Qc,Qd,aop,undef,AS.ev,Qr,↓reduceIte,Qg,Qw,Qv,ti60,QJ,Qp,f4,hin,e3,e4,seval]
        exact fun _=>(FunW.call (cf _ _)).mono (by rintro _ _ ⟨rfl,rfl⟩;exact⟨_,rfl,rfl,_,rfl⟩)
      ·have y1:(s.nx.tk.kind != 3)=true:=by simpa using hk
       refine Qe Tryd.func94 rfl Tryd.call94 Tryd.ntmps94 Tryd.results94 (by simp) ?_
       repeat (first|((first|(with_reducible (first|refine Qa fun K E hK hE=>?_|refine FunW.QqZ (cn _) ?_|refine FunW.QqZ (cs _) ?_|refine FunW.QqZ (cn2 _) ?_)));simp -implicitDefEqProofs only[Qc,Qd,OpW,QB,aop,undef,AS.ev,Qr,AV.QqY,↓reduceIte,Qg,Qw,Qv,Qu,Ql,aBin,ti3,zi54,ti60,QK,zi60,QJ,Qp,f1,f4,f6,hi,hin,e1,e2,e3,e4,z3,z2,z1,y1,seval])|(with_reducible (first|refine Qf fun K hK=>?_|refine Qi ?_))|((with_reducible refine hK _ ?_);clear hK)|(refine Qh rfl ?_;simp only[↓reduceIte,QrN]))
       refine Xd 4 [(0,1),(1,0),(2,0),(3,0)] mixed rfl rfl rfl (by kernel_rfl) (fun v h'=>v=Fl s.nx.tk.pos 16∧∃L,h'=ph h P s.nx++L) ?_ ?_
       ·rintro tm v h' ⟨rfl,L,rfl⟩
        exact QW H s s.nx _ _ _ ⟨rfl,_,rfl⟩
       ·simp -implicitDefEqProofs only[Qc,Qd,aop,undef,AS.ev,Qr,↓reduceIte,Qg,Qw,Qv,ti60,QJ,Qp,f4,hin,e3,e4,seval]
        exact fun _=>(FunW.call (cf _ _)).mono (by rintro _ _ ⟨rfl,rfl⟩;exact⟨_,rfl,rfl,_,rfl⟩)
     by_cases hb:s.nx.tk.kind≠3∨s.nx.tk.pos≠s.tk.pos+1
     ·rw[if_pos hb];exact bad hb
     ·rw[if_neg hb]
      have hk:s.nx.tk.kind=3:=Classical.byContradiction fun q=>hb (.inl q)
      have hq:s.nx.tk.pos=s.tk.pos+1:=Classical.byContradiction fun q=>hb (.inr q)
      have y1:(s.nx.tk.kind != 3)=false:=by simpa using hk
      have y2:(s.nx.tk.pos != s.tk.pos+1)=false:=by simpa using hq
      obtain⟨cv,v1,v2⟩:=Qic hD hWn hk
      have ci:=Qi6 (-valT s.nx.tk.text)
      have w2:IntKind.i64.wrap (0 - valT s.nx.tk.text) = -valT s.nx.tk.text:=by rw[Xt (by omega)];omega
      have ct2:=fun L=>Xq hWn (H.app L) hN
      simp only[Q4 H]at ct2
      refine Qe Tryd.func94 rfl Tryd.call94 Tryd.ntmps94 Tryd.results94 (by simp) ?_
      repeat (first|((first|(with_reducible (first|refine Qa fun K E hK hE=>?_|refine FunW.QqZ (cn _) ?_|refine FunW.QqZ (cs _) ?_|refine FunW.QqZ (cn2 _) ?_|refine FunW.QqZ (ct2 _) ?_|refine Qz cv ?_|refine Qz ci ?_)));simp -implicitDefEqProofs only[Qc,Qd,OpW,QB,aop,undef,AS.ev,Qr,AV.QqY,↓reduceIte,Qg,Qw,Qv,Qu,Ql,aBin,Zq,ti3,ti9,ti54,zi54,ti60,QK,Xc,QQ,zi60,QJ,Qp,f1,f3,f4,f5,f6,hi,hin,e1,e2,e3,e4,z3,z2,z1,y1,y2,w1,w2,seval])|(with_reducible (first|refine Qf fun K hK=>?_|refine Qi ?_|refine Qm ?_|refine Qk ?_|refine Qb ?_|refine Qy ?_|refine QE ?_))|((with_reducible refine hK _ ?_);clear hK)|(refine Qh rfl ?_;simp only[↓reduceIte,QrN]))
      simp -implicitDefEqProofs only[Qc,↓reduceIte,Qw,Qv,ti54,Qw,Qv,f3,QH,Qo,Qt,QrT,seval]
      exact .inr ⟨rfl,_,rfl,QfJ _ _⟩
    |false =>
     rw[if_neg (by simp)]
     have cs:=fun L=>ZZ hW H hN L {data:=#[45]} (by rw[Lib.toList_data];exact hm)
     cases hl:s.is sLp with
     |false =>
      rw[if_neg (by simp)]
      have ce:=fun L=>Yj hW H hN L {data:=#[40]} (by rw[Lib.toList_data];exact hl)
      refine Qe Tryd.func94 rfl Tryd.call94 Tryd.ntmps94 Tryd.results94 (by simp) ?_
      repeat (first|((first|(with_reducible (first|refine Qa fun K E hK hE=>?_|refine FunW.QqZ (cn _) ?_|refine FunW.QqZ (cs _) ?_|refine FunW.pan (FunW.call (ce _)) ?_)));simp -implicitDefEqProofs only[Qc,Qd,OpW,QB,aop,undef,AS.ev,Qr,AV.QqY,↓reduceIte,Qg,Qw,Qv,Qu,Ql,aBin,ti3,zi54,ti60,QK,zi60,QJ,Qp,f1,f4,f6,hi,e1,e2,z3,z2,z1,seval])|(with_reducible (first|refine Qf fun K hK=>?_|refine Qi ?_|refine Qk ?_|refine Qb ?_|refine Qn ?_))|((with_reducible refine hK _ ?_);clear hK)|(refine Qh rfl ?_;simp only[↓reduceIte,QrN])|(with_reducible refine hE _ _ ?_))
      exact QW H s s _ _ _ ⟨rfl,_,rfl⟩
     |true =>
      rw[if_pos rfl]
      have ce:=fun L=>XU hW H hN L {data:=#[40]} (by rw[Lib.toList_data];exact hl)
      have hWn:=hW.nx
      have hln:=Xo hW.wf (PS.Qq2 hl)
      cases hr:ex s.nx with
      |err p e =>
       have cx:=fun L=>TRd.err HR (s:=s.nx) (by omega) hWn H hr L
       refine Qe Tryd.func94 rfl Tryd.call94 Tryd.ntmps94 Tryd.results94 (by simp) ?_
       repeat (first|((first|(with_reducible (first|refine Qa fun K E hK hE=>?_|refine FunW.QqZ (cn _) ?_|refine FunW.QqZ (cs _) ?_|refine FunW.QqZ (ce _) ?_|refine FunW.panE (FunW.call (cx _)) fun r=>?_)));simp -implicitDefEqProofs only[Qc,Qd,OpW,QB,aop,undef,AS.ev,Qr,AV.QqY,↓reduceIte,Qg,Qw,Qv,Qu,Ql,aBin,ti3,zi54,ti60,QK,zi60,QJ,Qp,f1,f4,f6,hi,e1,e2,z3,z2,z1,seval])|(with_reducible (first|refine Qf fun K hK=>?_|refine Qi ?_|refine Qk ?_|refine Qb ?_|refine Qn ?_))|((with_reducible refine hK _ ?_);clear hK)|(refine Qh rfl ?_;simp only[↓reduceIte,QrN])|(with_reducible refine hE _ _ ?_))
       exact QW H s r _ _ _ ⟨rfl,_,rfl⟩
      |ok t s1 =>
       have cx:=fun(c d:AB)=>TRd.ok HR (s:=s.nx) (by omega) hWn H hr [c,d] (k:=h.length+2) rfl
       simp only[Qsb,Qsa]at cx
       have hW1:Wst P.all s1:=Kp.Ps.ok hKp hWn hr
       have hi1:=ph_i H s1
       simp only[pB]at hi1
       have e5:=T.Qq4 (h.length+2) t
       have e6:=T.Qq5 (h.length+2) t
       have hat:∀(c d:AB) X,At (c::d::(t.lay 54 (h.length+2)++X)) 2 (t.lay 54 (h.length+2)):=fun c d X=>At.mid [c,d] _ _ rfl
       simp only[PR.bind,XO]
       cases hp2:s1.is sRp with
       |false =>
        rw[if_neg (by simp)]
        have ce2:=fun L=>Yj hW1 H hN L {data:=#[41]} (by rw[Lib.toList_data];exact hp2)
        refine Qe Tryd.func94 rfl Tryd.call94 Tryd.ntmps94 Tryd.results94 (by simp) ?_
        repeat (first|((first|(with_reducible (first|refine Qa fun K E hK hE=>?_|refine FunW.QqZ (cn _) ?_|refine FunW.QqZ (cs _) ?_|refine FunW.QqZ (ce _) ?_|refine FunW.QqZ (cx _ _) ?_|refine FunW.pan (FunW.call (ce2 _)) ?_)));simp -implicitDefEqProofs only[Qc,Qd,OpW,QB,aop,undef,AS.ev,Qr,AV.QqY,↓reduceIte,Qg,Qw,Qv,Qu,Ql,aBin,ti3,ti54,zi54,ti60,QK,zi60,QJ,Qp,f1,f4,f6,hi,hi1,e1,e2,e5,e6,QT,z3,z2,z1,seval])|(with_reducible (first|refine Qf fun K hK=>?_|refine Qi ?_|refine Qk ?_|refine Qb ?_|refine Qn ?_))|((with_reducible refine hK _ ?_);clear hK)|(refine Qh rfl ?_;simp only[↓reduceIte,QrN])|(with_reducible refine hE _ _ ?_))
        exact QW H s s1 _ _ _ ⟨rfl,_,rfl⟩
       |true =>
        rw[if_pos rfl]
        have ce2:=fun L=>XU hW1 H hN L {data:=#[41]} (by rw[Lib.toList_data];exact hp2)
        refine Qe Tryd.func94 rfl Tryd.call94 Tryd.ntmps94 Tryd.results94 (by simp) ?_
        repeat (first|((first|(with_reducible (first|refine Qa fun K E hK hE=>?_|refine FunW.QqZ (cn _) ?_|refine FunW.QqZ (cs _) ?_|refine FunW.QqZ (ce _) ?_|refine FunW.QqZ (cx _ _) ?_|refine FunW.QqZ (ce2 _) ?_)));simp -implicitDefEqProofs only[Qc,Qd,OpW,QB,aop,undef,AS.ev,Qr,AV.QqY,↓reduceIte,Qg,Qw,Qv,Qu,Ql,aBin,ti3,ti54,zi54,ti60,QK,zi60,QJ,Qp,f1,f3,f4,f5,f6,hi,hi1,e1,e2,e5,e6,QT,z3,z2,z1,seval])|(with_reducible (first|refine Qf fun K hK=>?_|refine Qi ?_|refine Qm ?_|refine Qk ?_|refine Qb ?_|refine Qn ?_))|((with_reducible refine hK _ ?_);clear hK)|(refine Qh rfl ?_;simp only[↓reduceIte,QrN]))
        simp -implicitDefEqProofs only[Qc,↓reduceIte,Qw,Qv,ti54,Qw,Qv,f3,e5,e6,QH,Qo,Qt,QrT,seval]
        exact .inr ⟨rfl,_,rfl,hat _ _ _⟩
end
end Go.Proofs.YticgcpebdldbgaaDoor.Ab
set_option maxRecDepth 4000
namespace Go.Proofs.YticgcpebdldbgaaDoor.Ab
open Go.Proofs
theorem TRd.congr{P:Pz}{f:FuncId}{g g':PS→PR T}{N:Nat}(HR:TRd P f g N)(he:∀s:PS,Wst P.all s→s.toks.length<N→g s=g' s):TRd P f g' N:=fun s hs hW h H=>by rw[←he s hW hs];exact HR s hs hW h H
section
variable{P:Pz}(hN:P.all.length≤1000000)(hD:TkOk P.all)
include hN hD
theorem QiX:∀N:Nat,TRd P 73 (X5 N) N
 |0=>fun s hs=>absurd hs (Nat.not_lt_zero _)
 |N+1=>by
  have h0:=QiX N
  have hE0:Eat 0 (X5 N):=(Qaz N).less (by omega)
  have hK0:Kp.Ps (wdOf P.all) (X5 N):=Kp.exprT_ps trivial N
  have h1:=Qkg h0 hE0 hK0 hN hD
  have hE1:Eat 0 (pOpT (X5 N)):=(QcZ hE0).less (by omega)
  have hK1:Kp.Ps (wdOf P.all) (pOpT (X5 N)):=Kp.opT_ps trivial hK0
  have h2:=Qkk hE1 hK1 hN h1
  have hE2:Eat 0 (X4 (pOpT (X5 N)) Yy):=Qaw hE1 Yy
  have hK2:Kp.Ps (wdOf P.all) (X4 (pOpT (X5 N)) Yy):=Kp.chain_ps trivial hK1 Yy
  exact QoS hE2 hK2 hN h2
theorem QgE:TRd P 73 XW 1000001 :=
 (QiX hN hD 1000001).congr fun s hW hs=>QkB hW.wf hs
theorem QgS{s:PS}(hW:Wst P.all s){h:AH}(H:P.ok h):QL Tryd.prog 61 [.ptr P.i 0 0] (ph h P s) (GQ h P (Yz XW s)) :=
 Qi4 H 3 (QiQ (QgE hN hD) (Yl.less (by omega)) (Kp.termT_ps trivial) (by have:=hW.suf.length_le;omega) hW H hN)
end
end Go.Proofs.YticgcpebdldbgaaDoor.Ab
set_option maxRecDepth 4000
namespace Go.Proofs.YticgcpebdldbgaaDoor.Ab
open Go.Proofs
def MQ(h:AH)(P:Pz)(s:PS):Option (Int×Bool)→AOut→AH→Prop
 |some (op,sw),o,h'=>o = .ret (.tup [.i op,.b sw,.b true])∧h'=ph h P s.nx
 |none,o,h'=>o = .ret (.tup [.i 0,.b false,.b false])∧h'=ph h P s
section
variable{P:Pz}{s:PS}(hW:Wst P.all s){h:AH}(H:P.ok h)(hN:P.all.length≤1000000)
include hW H hN
omit hW H hN in
theorem Yc(n:Nat)(a:Int)(b c:Bool):Below n (.tup [.i a,.b b,.b c]):=.tup _ fun x hx=>by
 simp only[List.mem_cons,List.not_mem_nil,or_false]at hx
 rcases hx with rfl|rfl|rfl <;> exact .v _
theorem QpF(hk:s.tk.kind=1)(hx:s.tk.text.toList=[105,115]):QL Tryd.prog 74 [.ptr P.i 0 0] (ph h P s) (MQ h P s (some (4,false))):=by
 have f1:=QU h P
 have f3:=XB h P
 have f4:=Yf h P
 have f5:=Xk h P
 have f6:=XL h P
 have hi:=ph_i H s
 have hi0:=X6 H s
 have hin:=ph_i H s.nx
 simp only[pB]at hi hi0 hin
 have cn:=XM hW (X6 H s)
 have ct:=fun L=>Xq hW (H.app L) hN
 simp only[Q4 H]at ct
 have e1:=Tk.Qq0 s.tk
 have e2:=Tk.Qq1 s.tk
 have z1:(s.tk.kind==1)=true:=by simpa using hk
 have z2:(s.tk.text.toList==({data:=#[105,115]}:ByteArray).toList)=true:=by rw[hx,Lib.toList_data];rfl
 refine Qe Tryd.func74 rfl Tryd.call74 Tryd.ntmps74 Tryd.results74 (by simp) ?_
 repeat (first|((first|(with_reducible (first|refine Qa fun K E hK hE=>?_|refine FunW.QqZ cn ?_|refine FunW.QqZ (ct _) ?_)));simp -implicitDefEqProofs only[Qc,Qd,OpW,QB,aop,undef,AS.ev,Qr,AV.QqY,↓reduceIte,Qg,Qw,Qv,Qu,Ql,aBin,ti3,ti9,ti60,QK,QQ,zi60,QJ,Qp,f1,f3,f5,hi,hi0,e1,e2,z1,z2,seval])|(with_reducible (first|refine Qf fun K hK=>?_|refine Qm ?_|refine Qy ?_))|((with_reducible refine hK _ ?_);clear hK)|(refine Qh rfl ?_;simp only[↓reduceIte]))
 simp -implicitDefEqProofs only[Yq,↓reduceIte,Nat.reduceEqDiff,QrL,QrO,QrP,List.mapM_cons,List.mapM_nil,Option.pure_def,Option.bind_eq_bind,QH,Qo,Qt,QrT]
 exact Xl H (s:=s) (s':=s.nx) (.keep (Yc _ _ _ _)) ⟨rfl,rfl⟩
theorem Qnh(hk:s.tk.kind=1)(hx:s.tk.text.toList≠[105,115]):QL Tryd.prog 74 [.ptr P.i 0 0] (ph h P s) (MQ h P s (none)):=by
 have f1:=QU h P
 have f3:=XB h P
 have f4:=Yf h P
 have f5:=Xk h P
 have f6:=XL h P
 have hi:=ph_i H s
 have hi0:=X6 H s
 have hin:=ph_i H s.nx
 simp only[pB]at hi hi0 hin
 have cn:=XM hW (X6 H s)
 have ct:=fun L=>Xq hW (H.app L) hN
 simp only[Q4 H]at ct
 have e1:=Tk.Qq0 s.tk
 have e2:=Tk.Qq1 s.tk
 have z1:(s.tk.kind==1)=true:=by simpa using hk
 have z2:(s.tk.text.toList==({data:=#[105,115]}:ByteArray).toList)=false:=by rw[Lib.toList_data ({data:=#[105,115]}:ByteArray)];simpa using hx
 have z3:(s.tk.kind != 4)=true:=by rw[hk];rfl
 refine Qe Tryd.func74 rfl Tryd.call74 Tryd.ntmps74 Tryd.results74 (by simp) ?_
 repeat (first|((first|(with_reducible (first|refine Qa fun K E hK hE=>?_|refine FunW.QqZ cn ?_)));simp -implicitDefEqProofs only[Qc,Qd,OpW,QB,aop,undef,AS.ev,Qr,AV.QqY,↓reduceIte,Qg,Qw,Qv,Qu,Ql,aBin,ti3,ti9,ti60,QK,QQ,zi60,QJ,Qp,f1,f3,f5,hi0,e1,e2,z1,z2,z3,seval])|(with_reducible (first|refine Qf fun K hK=>?_|refine Qm ?_|refine Qk ?_|refine Qb ?_|refine Qy ?_))|((with_reducible refine hK _ ?_);clear hK)|(refine Qh rfl ?_;simp only[↓reduceIte,QrN]))
 simp -implicitDefEqProofs only[Yq,↓reduceIte,Nat.reduceEqDiff,QrL,QrO,QrP,List.mapM_cons,List.mapM_nil,Option.pure_def,Option.bind_eq_bind,QH,Qo,Qt,QrT]
 exact Xl H (s:=s) (s':=s) (.keep (Yc _ _ _ _)) ⟨rfl,rfl⟩
theorem Qll(hk:s.tk.kind≠1)(hk4:s.tk.kind≠4):QL Tryd.prog 74 [.ptr P.i 0 0] (ph h P s) (MQ h P s (none)):=by
 have f1:=QU h P
 have f3:=XB h P
 have f4:=Yf h P
 have f5:=Xk h P
 have f6:=XL h P
 have hi:=ph_i H s
 have hi0:=X6 H s
 have hin:=ph_i H s.nx
 simp only[pB]at hi hi0 hin
 have cn:=XM hW (X6 H s)
 have ct:=fun L=>Xq hW (H.app L) hN
 simp only[Q4 H]at ct
 have e1:=Tk.Qq0 s.tk
 have e2:=Tk.Qq1 s.tk
 have z1:(s.tk.kind==1)=false:=by simpa using hk
 have z3:(s.tk.kind != 4)=true:=by simpa using hk4
 refine Qe Tryd.func74 rfl Tryd.call74 Tryd.ntmps74 Tryd.results74 (by simp) ?_
 repeat (first|((first|(with_reducible (first|refine Qa fun K E hK hE=>?_|refine FunW.QqZ cn ?_)));simp -implicitDefEqProofs only[Qc,Qd,OpW,QB,aop,undef,AS.ev,Qr,AV.QqY,↓reduceIte,Qg,Qw,Qv,Qu,Ql,aBin,ti3,ti60,QK,zi60,QJ,Qp,f1,f3,f5,hi0,e1,e2,z1,z3,seval])|(with_reducible (first|refine Qf fun K hK=>?_|refine Qm ?_|refine Qk ?_|refine Qb ?_|refine Qy ?_))|((with_reducible refine hK _ ?_);clear hK)|(refine Qh rfl ?_;simp only[↓reduceIte,QrN]))
 simp -implicitDefEqProofs only[Yq,↓reduceIte,Nat.reduceEqDiff,QrL,QrO,QrP,List.mapM_cons,List.mapM_nil,Option.pure_def,Option.bind_eq_bind,QH,Qo,Qt,QrT]
 exact Xl H (s:=s) (s':=s) (.keep (Yc _ _ _ _)) ⟨rfl,rfl⟩
theorem QqC(hk:s.tk.kind=4)(hx:s.tk.text.toList=[61]):QL Tryd.prog 74 [.ptr P.i 0 0] (ph h P s) (MQ h P s (some (3,false))):=by
 have f1:=QU h P
 have f3:=XB h P
 have f4:=Yf h P
 have f5:=Xk h P
 have f6:=XL h P
 have hi:=ph_i H s
 have hi0:=X6 H s
 have hin:=ph_i H s.nx
 simp only[pB]at hi hi0 hin
 have cn:=XM hW (X6 H s)
 have ct:=fun L=>Xq hW (H.app L) hN
 simp only[Q4 H]at ct
 have e1:=Tk.Qq0 s.tk
 have e2:=Tk.Qq1 s.tk
 have z1:(s.tk.kind==1)=false:=by rw[hk];rfl
 have z3:(s.tk.kind != 4)=false:=by rw[hk];rfl
 have y0:(s.tk.text.toList==({data:=#[61]}:ByteArray).toList)=true:=by rw[hx,Lib.toList_data];rfl
 refine Qe Tryd.func74 rfl Tryd.call74 Tryd.ntmps74 Tryd.results74 (by simp) ?_
 repeat (first|((first|(with_reducible (first|refine Qa fun K E hK hE=>?_|refine FunW.QqZ cn ?_)));simp -implicitDefEqProofs only[Qc,Qd,OpW,QB,aop,undef,AS.ev,Qr,AV.QqY,↓reduceIte,Qg,Qw,Qv,Qu,Ql,aBin,ti3,ti9,ti60,QK,QQ,zi60,QJ,Qp,f1,f3,f5,hi0,e1,e2,z1,z3,y0,seval])|(with_reducible (first|refine Qf fun K hK=>?_|refine Qi ?_|refine Qk ?_|refine QF ?_|refine Qb ?_|refine QD ?_|refine QC ?_|refine QZ rfl ?_))|((with_reducible refine hK _ ?_);clear hK)|(clear hK;clear hK;(with_reducible refine hK _ ?_);clear hK)|(refine Qh rfl ?_;simp only[↓reduceIte,QrN]))
 try ((clear hK;clear hK;clear hK;clear hK;clear hK;clear hK;clear hK;clear hK;clear hK;(with_reducible refine hK _ ?_);clear hK))
 repeat (first|((first|(with_reducible (first|refine Qa fun K E hK hE=>?_|refine FunW.QqZ (ct _) ?_)));simp -implicitDefEqProofs only[Qc,Qd,OpW,QB,aop,undef,AS.ev,Qr,↓reduceIte,Qg,QJ,Qp,hi,seval])|(with_reducible refine Qm ?_)|((with_reducible refine hK _ ?_);clear hK))
 try (((with_reducible refine hK _ ?_);clear hK))
 repeat ((((with_reducible refine Qa fun K E hK hE=>?_));simp -implicitDefEqProofs only[Qc,Qd,OpW,QB,aop,undef,Xa,AS.ev,Qr,AV.QqY,↓reduceIte,Qg,Qw,Qv,Qu,Ql,aBin,goInt,ti0,zi0,ti3,zi3,un3,ti4,zi4,un4,ti9,ei9,zi9,un9,ti57,zi57,un57,ti60,QK,Xc,QQ,zi60,sp60,ti66,QJ,YW,YX,zi66,sp66,Qsw,Int.sub_zero,XJ,Qp,f1,f3,f4,f5,f6,hi,hi0,hin,e1,e2,z1,z3,y0,seval]))
 try (((with_reducible refine hK _ ?_);clear hK))
 repeat ((((with_reducible refine Qa fun K E hK hE=>?_));simp -implicitDefEqProofs only[Qc,Qd,OpW,QB,aop,undef,Xa,AS.ev,Qr,AV.QqY,↓reduceIte,Qg,Qw,Qv,Qu,Ql,aBin,goInt,ti0,zi0,ti3,zi3,un3,ti4,zi4,un4,ti9,ei9,zi9,un9,ti57,zi57,un57,ti60,QK,Xc,QQ,zi60,sp60,ti66,QJ,YW,YX,zi66,sp66,Qsw,Int.sub_zero,XJ,Qp,f1,f3,f4,f5,f6,hi,hi0,hin,e1,e2,z1,z3,y0,seval]))
 simp -implicitDefEqProofs only[Yq,↓reduceIte,Nat.reduceEqDiff,QrL,QrO,QrP,List.mapM_cons,List.mapM_nil,Option.pure_def,Option.bind_eq_bind,QH,Qo,Qt,QrT]
 exact Xl H (s:=s) (s':=s.nx) (.keep (Yc _ _ _ _)) ⟨rfl,rfl⟩
theorem QqD(hk:s.tk.kind=4)(hx:s.tk.text.toList=[61,61]):QL Tryd.prog 74 [.ptr P.i 0 0] (ph h P s) (MQ h P s (some (5,false))):=by
 have f1:=QU h P
 have f3:=XB h P
 have f4:=Yf h P
 have f5:=Xk h P
 have f6:=XL h P
 have hi:=ph_i H s
 have hi0:=X6 H s
 have hin:=ph_i H s.nx
 simp only[pB]at hi hi0 hin
 have cn:=XM hW (X6 H s)
 have ct:=fun L=>Xq hW (H.app L) hN
 simp only[Q4 H]at ct
 have e1:=Tk.Qq0 s.tk
 have e2:=Tk.Qq1 s.tk
 have z1:(s.tk.kind==1)=false:=by rw[hk];rfl
 have z3:(s.tk.kind != 4)=false:=by rw[hk];rfl
 have y0:(s.tk.text.toList==({data:=#[61]}:ByteArray).toList)=false:=by rw[hx,Lib.toList_data];rfl
 have y1:(s.tk.text.toList==({data:=#[61,61]}:ByteArray).toList)=true:=by rw[hx,Lib.toList_data];rfl
 refine Qe Tryd.func74 rfl Tryd.call74 Tryd.ntmps74 Tryd.results74 (by simp) ?_
 repeat (first|((first|(with_reducible (first|refine Qa fun K E hK hE=>?_|refine FunW.QqZ cn ?_)));simp -implicitDefEqProofs only[Qc,Qd,OpW,QB,aop,undef,AS.ev,Qr,AV.QqY,↓reduceIte,Qg,Qw,Qv,Qu,Ql,aBin,ti3,ti9,ti60,QK,QQ,zi60,QJ,Qp,f1,f3,f5,hi0,e1,e2,z1,z3,y0,y1,seval])|(with_reducible (first|refine Qf fun K hK=>?_|refine Qi ?_|refine Qk ?_|refine QF ?_|refine Qb ?_|refine QD ?_|refine QC ?_|refine QZ rfl ?_))|((with_reducible refine hK _ ?_);clear hK)|(clear hK;clear hK;clear hK;(with_reducible refine hK _ ?_);clear hK)|(refine Qh rfl ?_;simp only[↓reduceIte,QrN]))
 try ((clear hK;clear hK;clear hK;clear hK;clear hK;clear hK;clear hK;clear hK;(with_reducible refine hK _ ?_);clear hK))
 repeat (first|((first|(with_reducible (first|refine Qa fun K E hK hE=>?_|refine FunW.QqZ (ct _) ?_)));simp -implicitDefEqProofs only[Qc,Qd,OpW,QB,aop,undef,AS.ev,Qr,↓reduceIte,Qg,QJ,Qp,hi,seval])|(with_reducible refine Qm ?_)|((with_reducible refine hK _ ?_);clear hK))
 try (((with_reducible refine hK _ ?_);clear hK))
 repeat ((((with_reducible refine Qa fun K E hK hE=>?_));simp -implicitDefEqProofs only[Qc,Qd,OpW,QB,aop,undef,Xa,AS.ev,Qr,AV.QqY,↓reduceIte,Qg,Qw,Qv,Qu,Ql,aBin,goInt,ti0,zi0,ti3,zi3,un3,ti4,zi4,un4,ti9,ei9,zi9,un9,ti57,zi57,un57,ti60,QK,Xc,QQ,zi60,sp60,ti66,QJ,YW,YX,zi66,sp66,Qsw,Int.sub_zero,XJ,Qp,f1,f3,f4,f5,f6,hi,hi0,hin,e1,e2,z1,z3,y0,y1,seval]))
 try (((with_reducible refine hK _ ?_);clear hK))
 repeat ((((with_reducible refine Qa fun K E hK hE=>?_));simp -implicitDefEqProofs only[Qc,Qd,OpW,QB,aop,undef,Xa,AS.ev,Qr,AV.QqY,↓reduceIte,Qg,Qw,Qv,Qu,Ql,aBin,goInt,ti0,zi0,ti3,zi3,un3,ti4,zi4,un4,ti9,ei9,zi9,un9,ti57,zi57,un57,ti60,QK,Xc,QQ,zi60,sp60,ti66,QJ,YW,YX,zi66,sp66,Qsw,Int.sub_zero,XJ,Qp,f1,f3,f4,f5,f6,hi,hi0,hin,e1,e2,z1,z3,y0,y1,seval]))
 simp -implicitDefEqProofs only[Yq,↓reduceIte,Nat.reduceEqDiff,QrL,QrO,QrP,List.mapM_cons,List.mapM_nil,Option.pure_def,Option.bind_eq_bind,QH,Qo,Qt,QrT]
 exact Xl H (s:=s) (s':=s.nx) (.keep (Yc _ _ _ _)) ⟨rfl,rfl⟩
theorem QqE(hk:s.tk.kind=4)(hx:s.tk.text.toList=[92,61]):QL Tryd.prog 74 [.ptr P.i 0 0] (ph h P s) (MQ h P s (some (6,false))):=by
 have f1:=QU h P
 have f3:=XB h P
 have f4:=Yf h P
 have f5:=Xk h P
 have f6:=XL h P
 have hi:=ph_i H s
 have hi0:=X6 H s
 have hin:=ph_i H s.nx
 simp only[pB]at hi hi0 hin
 have cn:=XM hW (X6 H s)
 have ct:=fun L=>Xq hW (H.app L) hN
 simp only[Q4 H]at ct
 have e1:=Tk.Qq0 s.tk
 have e2:=Tk.Qq1 s.tk
 have z1:(s.tk.kind==1)=false:=by rw[hk];rfl
 have z3:(s.tk.kind != 4)=false:=by rw[hk];rfl
 have y0:(s.tk.text.toList==({data:=#[61]}:ByteArray).toList)=false:=by rw[hx,Lib.toList_data];rfl
 have y1:(s.tk.text.toList==({data:=#[61,61]}:ByteArray).toList)=false:=by rw[hx,Lib.toList_data];rfl
 have y2:(s.tk.text.toList==({data:=#[92,61]}:ByteArray).toList)=true:=by rw[hx,Lib.toList_data];rfl
 refine Qe Tryd.func74 rfl Tryd.call74 Tryd.ntmps74 Tryd.results74 (by simp) ?_
 repeat (first|((first|(with_reducible (first|refine Qa fun K E hK hE=>?_|refine FunW.QqZ cn ?_)));simp -implicitDefEqProofs only[Qc,Qd,OpW,QB,aop,undef,AS.ev,Qr,AV.QqY,↓reduceIte,Qg,Qw,Qv,Qu,Ql,aBin,ti3,ti9,ti60,QK,QQ,zi60,QJ,Qp,f1,f3,f5,hi0,e1,e2,z1,z3,y0,y1,y2,seval])|(with_reducible (first|refine Qf fun K hK=>?_|refine Qi ?_|refine Qk ?_|refine QF ?_|refine Qb ?_|refine QD ?_|refine QC ?_|refine QZ rfl ?_))|((with_reducible refine hK _ ?_);clear hK)|(refine Qh rfl ?_;simp only[↓reduceIte,QrN]))
 try ((clear hK;clear hK;clear hK;clear hK;(with_reducible refine hK _ ?_);clear hK))
 repeat (first|(((with_reducible refine Qa fun K E hK hE=>?_));simp -implicitDefEqProofs only[XN,Y0,Qd,OpW,aop,AS.ev,Xw,QbX,Nat.reduceLT])|(with_reducible (first|refine QF ?_|refine Qb ?_|refine QD ?_|refine QC ?_|refine QZ rfl ?_))|((with_reducible refine hK _ ?_);clear hK))
 try ((clear hK;clear hK;clear hK;clear hK;clear hK;clear hK;clear hK;(with_reducible refine hK _ ?_);clear hK))
 repeat (first|((first|(with_reducible (first|refine Qa fun K E hK hE=>?_|refine FunW.QqZ (ct _) ?_)));simp -implicitDefEqProofs only[Qc,Qd,OpW,QB,aop,undef,AS.ev,Qr,↓reduceIte,Qg,QJ,Qp,hi,seval])|(with_reducible refine Qm ?_)|((with_reducible refine hK _ ?_);clear hK))
 try (((with_reducible refine hK _ ?_);clear hK))
 repeat ((((with_reducible refine Qa fun K E hK hE=>?_));simp -implicitDefEqProofs only[Qc,Qd,OpW,QB,aop,undef,Xa,AS.ev,Qr,AV.QqY,↓reduceIte,Qg,Qw,Qv,Qu,Ql,aBin,goInt,ti0,zi0,ti3,zi3,un3,ti4,zi4,un4,ti9,ei9,zi9,un9,ti57,zi57,un57,ti60,QK,Xc,QQ,zi60,sp60,ti66,QJ,YW,YX,zi66,sp66,Qsw,Int.sub_zero,XJ,Qp,f1,f3,f4,f5,f6,hi,hi0,hin,e1,e2,z1,z3,y0,y1,y2,seval]))
 simp -implicitDefEqProofs only[Yq,↓reduceIte,Nat.reduceEqDiff,QrL,QrO,QrP,List.mapM_cons,List.mapM_nil,Option.pure_def,Option.bind_eq_bind,QH,Qo,Qt,QrT]
 exact Xl H (s:=s) (s':=s.nx) (.keep (Yc _ _ _ _)) ⟨rfl,rfl⟩
theorem QqF(hk:s.tk.kind=4)(hx:s.tk.text.toList=[62]):QL Tryd.prog 74 [.ptr P.i 0 0] (ph h P s) (MQ h P s (some (7,true))):=by
 have f1:=QU h P
 have f3:=XB h P
 have f4:=Yf h P
 have f5:=Xk h P
 have f6:=XL h P
 have hi:=ph_i H s
 have hi0:=X6 H s
 have hin:=ph_i H s.nx
 simp only[pB]at hi hi0 hin
 have cn:=XM hW (X6 H s)
 have ct:=fun L=>Xq hW (H.app L) hN
 simp only[Q4 H]at ct
 have e1:=Tk.Qq0 s.tk
 have e2:=Tk.Qq1 s.tk
 have z1:(s.tk.kind==1)=false:=by rw[hk];rfl
 have z3:(s.tk.kind != 4)=false:=by rw[hk];rfl
 have y0:(s.tk.text.toList==({data:=#[61]}:ByteArray).toList)=false:=by rw[hx,Lib.toList_data];rfl
 have y1:(s.tk.text.toList==({data:=#[61,61]}:ByteArray).toList)=false:=by rw[hx,Lib.toList_data];rfl
 have y2:(s.tk.text.toList==({data:=#[92,61]}:ByteArray).toList)=false:=by rw[hx,Lib.toList_data];rfl
 have y3:(s.tk.text.toList==({data:=#[62]}:ByteArray).toList)=true:=by rw[hx,Lib.toList_data];rfl
 refine Qe Tryd.func74 rfl Tryd.call74 Tryd.ntmps74 Tryd.results74 (by simp) ?_
 repeat (first|((first|(with_reducible (first|refine Qa fun K E hK hE=>?_|refine FunW.QqZ cn ?_)));simp -implicitDefEqProofs only[Qc,Qd,OpW,QB,aop,undef,AS.ev,Qr,AV.QqY,↓reduceIte,Qg,Qw,Qv,Qu,Ql,aBin,ti3,ti9,ti60,QK,QQ,zi60,QJ,Qp,f1,f3,f5,hi0,e1,e2,z1,z3,y0,y1,y2,y3,seval])|(with_reducible (first|refine Qf fun K hK=>?_|refine Qi ?_|refine Qk ?_|refine QF ?_|refine Qb ?_|refine QD ?_|refine QC ?_|refine QZ rfl ?_))|((with_reducible refine hK _ ?_);clear hK)|(refine Qh rfl ?_;simp only[↓reduceIte,QrN]))
 try ((clear hK;clear hK;clear hK;clear hK;clear hK;(with_reducible refine hK _ ?_);clear hK))
 repeat (first|((first|(with_reducible (first|refine Qa fun K E hK hE=>?_|refine Qj fun K E hK hE=>?_)));simp -implicitDefEqProofs only[Qc,Qd,OpW,aop,AS.ev,Nat.reduceLT])|(with_reducible (first|refine QF ?_|refine Qb ?_|refine QD ?_|refine Qn ?_|refine QC ?_|refine QZ rfl ?_))|((with_reducible refine hK _ ?_);clear hK))
 try ((clear hK;clear hK;clear hK;clear hK;clear hK;(with_reducible refine hK _ ?_);clear hK))
 repeat (first|((first|(with_reducible (first|refine Qa fun K E hK hE=>?_|refine FunW.QqZ (ct _) ?_)));simp -implicitDefEqProofs only[Qc,Qd,OpW,QB,aop,undef,AS.ev,Qr,↓reduceIte,Qg,QJ,Qp,hi,seval])|(with_reducible refine Qm ?_)|((with_reducible refine hK _ ?_);clear hK))
 try (((with_reducible refine hK _ ?_);clear hK))
 repeat ((((with_reducible refine Qa fun K E hK hE=>?_));simp -implicitDefEqProofs only[Qc,Qd,OpW,QB,aop,undef,Xa,AS.ev,Qr,AV.QqY,↓reduceIte,Qg,Qw,Qv,Qu,Ql,aBin,goInt,ti0,zi0,ti3,zi3,un3,ti4,zi4,un4,ti9,ei9,zi9,un9,ti57,zi57,un57,ti60,QK,Xc,QQ,zi60,sp60,ti66,QJ,YW,YX,zi66,sp66,Qsw,Int.sub_zero,XJ,Qp,f1,f3,f4,f5,f6,hi,hi0,hin,e1,e2,z1,z3,y0,y1,y2,y3,seval]))
 simp -implicitDefEqProofs only[Yq,↓reduceIte,Nat.reduceEqDiff,QrL,QrO,QrP,List.mapM_cons,List.mapM_nil,Option.pure_def,Option.bind_eq_bind,QH,Qo,Qt,QrT]
 exact Xl H (s:=s) (s':=s.nx) (.keep (Yc _ _ _ _)) ⟨rfl,rfl⟩
theorem QqG(hk:s.tk.kind=4)(hx:s.tk.text.toList=[60]):QL Tryd.prog 74 [.ptr P.i 0 0] (ph h P s) (MQ h P s (some (7,false))):=by
 have f1:=QU h P
 have f3:=XB h P
 have f4:=Yf h P
 have f5:=Xk h P
 have f6:=XL h P
 have hi:=ph_i H s
 have hi0:=X6 H s
 have hin:=ph_i H s.nx
 simp only[pB]at hi hi0 hin
 have cn:=XM hW (X6 H s)
 have ct:=fun L=>Xq hW (H.app L) hN
 simp only[Q4 H]at ct
 have e1:=Tk.Qq0 s.tk
 have e2:=Tk.Qq1 s.tk
 have z1:(s.tk.kind==1)=false:=by rw[hk];rfl
 have z3:(s.tk.kind != 4)=false:=by rw[hk];rfl
 have y0:(s.tk.text.toList==({data:=#[61]}:ByteArray).toList)=false:=by rw[hx,Lib.toList_data];rfl
 have y1:(s.tk.text.toList==({data:=#[61,61]}:ByteArray).toList)=false:=by rw[hx,Lib.toList_data];rfl
 have y2:(s.tk.text.toList==({data:=#[92,61]}:ByteArray).toList)=false:=by rw[hx,Lib.toList_data];rfl
 have y3:(s.tk.text.toList==({data:=#[62]}:ByteArray).toList)=false:=by rw[hx,Lib.toList_data];rfl
 have y4:(s.tk.text.toList==({data:=#[60]}:ByteArray).toList)=true:=by rw[hx,Lib.toList_data];rfl
 refine Qe Tryd.func74 rfl Tryd.call74 Tryd.ntmps74 Tryd.results74 (by simp) ?_
 repeat (first|((first|(with_reducible (first|refine Qa fun K E hK hE=>?_|refine FunW.QqZ cn ?_)));simp -implicitDefEqProofs only[Qc,Qd,OpW,QB,aop,undef,AS.ev,Qr,AV.QqY,↓reduceIte,Qg,Qw,Qv,Qu,Ql,aBin,ti3,ti9,ti60,QK,QQ,zi60,QJ,Qp,f1,f3,f5,hi0,e1,e2,z1,z3,y0,y1,y2,y3,y4,seval])|(with_reducible (first|refine Qf fun K hK=>?_|refine Qi ?_|refine Qk ?_|refine QF ?_|refine Qb ?_|refine QD ?_|refine QC ?_|refine QZ rfl ?_))|((with_reducible refine hK _ ?_);clear hK)|(refine Qh rfl ?_;simp only[↓reduceIte,QrN]))
 try ((clear hK;clear hK;clear hK;clear hK;clear hK;clear hK;(with_reducible refine hK _ ?_);clear hK))
 repeat (first|(((with_reducible refine Qa fun K E hK hE=>?_));simp -implicitDefEqProofs only[XN,Y0,Qd,OpW,aop,AS.ev,Xw,QbX,Nat.reduceLT])|(with_reducible (first|refine QF ?_|refine Qb ?_|refine QD ?_|refine QC ?_|refine QZ rfl ?_))|((with_reducible refine hK _ ?_);clear hK))
 try ((clear hK;clear hK;clear hK;clear hK;clear hK;(with_reducible refine hK _ ?_);clear hK))
 repeat (first|((first|(with_reducible (first|refine Qa fun K E hK hE=>?_|refine FunW.QqZ (ct _) ?_)));simp -implicitDefEqProofs only[Qc,Qd,OpW,QB,aop,undef,AS.ev,Qr,↓reduceIte,Qg,QJ,Qp,hi,seval])|(with_reducible refine Qm ?_)|((with_reducible refine hK _ ?_);clear hK))
 try (((with_reducible refine hK _ ?_);clear hK))
 repeat ((((with_reducible refine Qa fun K E hK hE=>?_));simp -implicitDefEqProofs only[Qc,Qd,OpW,QB,aop,undef,Xa,AS.ev,Qr,AV.QqY,↓reduceIte,Qg,Qw,Qv,Qu,Ql,aBin,goInt,ti0,zi0,ti3,zi3,un3,ti4,zi4,un4,ti9,ei9,zi9,un9,ti57,zi57,un57,ti60,QK,Xc,QQ,zi60,sp60,ti66,QJ,YW,YX,zi66,sp66,Qsw,Int.sub_zero,XJ,Qp,f1,f3,f4,f5,f6,hi,hi0,hin,e1,e2,z1,z3,y0,y1,y2,y3,y4,seval]))
 simp -implicitDefEqProofs only[Yq,↓reduceIte,Nat.reduceEqDiff,QrL,QrO,QrP,List.mapM_cons,List.mapM_nil,Option.pure_def,Option.bind_eq_bind,QH,Qo,Qt,QrT]
 exact Xl H (s:=s) (s':=s.nx) (.keep (Yc _ _ _ _)) ⟨rfl,rfl⟩
theorem QqH(hk:s.tk.kind=4)(hx:s.tk.text.toList=[62,61]):QL Tryd.prog 74 [.ptr P.i 0 0] (ph h P s) (MQ h P s (some (8,true))):=by
 have f1:=QU h P
 have f3:=XB h P
 have f4:=Yf h P
 have f5:=Xk h P
 have f6:=XL h P
 have hi:=ph_i H s
 have hi0:=X6 H s
 have hin:=ph_i H s.nx
 simp only[pB]at hi hi0 hin
 have cn:=XM hW (X6 H s)
 have ct:=fun L=>Xq hW (H.app L) hN
 simp only[Q4 H]at ct
 have e1:=Tk.Qq0 s.tk
 have e2:=Tk.Qq1 s.tk
 have z1:(s.tk.kind==1)=false:=by rw[hk];rfl
 have z3:(s.tk.kind != 4)=false:=by rw[hk];rfl
 have y0:(s.tk.text.toList==({data:=#[61]}:ByteArray).toList)=false:=by rw[hx,Lib.toList_data];rfl
 have y1:(s.tk.text.toList==({data:=#[61,61]}:ByteArray).toList)=false:=by rw[hx,Lib.toList_data];rfl
 have y2:(s.tk.text.toList==({data:=#[92,61]}:ByteArray).toList)=false:=by rw[hx,Lib.toList_data];rfl
 have y3:(s.tk.text.toList==({data:=#[62]}:ByteArray).toList)=false:=by rw[hx,Lib.toList_data];rfl
 have y4:(s.tk.text.toList==({data:=#[60]}:ByteArray).toList)=false:=by rw[hx,Lib.toList_data];rfl
 have y5:(s.tk.text.toList==({data:=#[62,61]}:ByteArray).toList)=true:=by rw[hx,Lib.toList_data];rfl
 refine Qe Tryd.func74 rfl Tryd.call74 Tryd.ntmps74 Tryd.results74 (by simp) ?_
 repeat (first|((first|(with_reducible (first|refine Qa fun K E hK hE=>?_|refine FunW.QqZ cn ?_)));simp -implicitDefEqProofs only[Qc,Qd,OpW,QB,aop,undef,AS.ev,Qr,AV.QqY,↓reduceIte,Qg,Qw,Qv,Qu,Ql,aBin,ti3,ti9,ti60,QK,QQ,zi60,QJ,Qp,f1,f3,f5,hi0,e1,e2,z1,z3,y0,y1,y2,y3,y4,y5,seval])|(with_reducible (first|refine Qf fun K hK=>?_|refine Qi ?_|refine Qk ?_|refine QF ?_|refine Qb ?_|refine QD ?_|refine QC ?_|refine QZ rfl ?_))|((with_reducible refine hK _ ?_);clear hK)|(refine Qh rfl ?_;simp only[↓reduceIte,QrN]))
 try ((clear hK;clear hK;clear hK;clear hK;clear hK;clear hK;clear hK;(with_reducible refine hK _ ?_);clear hK))
 repeat (first|((first|(with_reducible (first|refine Qa fun K E hK hE=>?_|refine Qj fun K E hK hE=>?_|refine FunW.QqZ (ct _) ?_)));simp -implicitDefEqProofs only[Qc,Qd,OpW,QB,aop,undef,AS.ev,Qr,↓reduceIte,Qg,QJ,Qp,hi,seval])|(with_reducible (first|refine Qm ?_|refine QF ?_|refine Qb ?_|refine QD ?_|refine Qn ?_|refine QC ?_|refine QZ rfl ?_))|((with_reducible refine hK _ ?_);clear hK)|(clear hK;clear hK;clear hK;(with_reducible refine hK _ ?_);clear hK))
 try (((with_reducible refine hK _ ?_);clear hK))
 repeat ((((with_reducible refine Qa fun K E hK hE=>?_));simp -implicitDefEqProofs only[Qc,Qd,OpW,QB,aop,undef,Xa,AS.ev,Qr,AV.QqY,↓reduceIte,Qg,Qw,Qv,Qu,Ql,aBin,goInt,ti0,zi0,ti3,zi3,un3,ti4,zi4,un4,ti9,ei9,zi9,un9,ti57,zi57,un57,ti60,QK,Xc,QQ,zi60,sp60,ti66,QJ,YW,YX,zi66,sp66,Qsw,Int.sub_zero,XJ,Qp,f1,f3,f4,f5,f6,hi,hi0,hin,e1,e2,z1,z3,y0,y1,y2,y3,y4,y5,seval]))
 try (((with_reducible refine hK _ ?_);clear hK))
 repeat ((((with_reducible refine Qa fun K E hK hE=>?_));simp -implicitDefEqProofs only[Qc,Qd,OpW,QB,aop,undef,Xa,AS.ev,Qr,AV.QqY,↓reduceIte,Qg,Qw,Qv,Qu,Ql,aBin,goInt,ti0,zi0,ti3,zi3,un3,ti4,zi4,un4,ti9,ei9,zi9,un9,ti57,zi57,un57,ti60,QK,Xc,QQ,zi60,sp60,ti66,QJ,YW,YX,zi66,sp66,Qsw,Int.sub_zero,XJ,Qp,f1,f3,f4,f5,f6,hi,hi0,hin,e1,e2,z1,z3,y0,y1,y2,y3,y4,y5,seval]))
 simp -implicitDefEqProofs only[Yq,↓reduceIte,Nat.reduceEqDiff,QrL,QrO,QrP,List.mapM_cons,List.mapM_nil,Option.pure_def,Option.bind_eq_bind,QH,Qo,Qt,QrT]
 exact Xl H (s:=s) (s':=s.nx) (.keep (Yc _ _ _ _)) ⟨rfl,rfl⟩
theorem QqI(hk:s.tk.kind=4)(hx:s.tk.text.toList=[61,60]):QL Tryd.prog 74 [.ptr P.i 0 0] (ph h P s) (MQ h P s (some (8,false))):=by
 have f1:=QU h P
 have f3:=XB h P
 have f4:=Yf h P
 have f5:=Xk h P
 have f6:=XL h P
 have hi:=ph_i H s
 have hi0:=X6 H s
 have hin:=ph_i H s.nx
 simp only[pB]at hi hi0 hin
 have cn:=XM hW (X6 H s)
 have ct:=fun L=>Xq hW (H.app L) hN
 simp only[Q4 H]at ct
 have e1:=Tk.Qq0 s.tk
 have e2:=Tk.Qq1 s.tk
 have z1:(s.tk.kind==1)=false:=by rw[hk];rfl
 have z3:(s.tk.kind != 4)=false:=by rw[hk];rfl
 have y0:(s.tk.text.toList==({data:=#[61]}:ByteArray).toList)=false:=by rw[hx,Lib.toList_data];rfl
 have y1:(s.tk.text.toList==({data:=#[61,61]}:ByteArray).toList)=false:=by rw[hx,Lib.toList_data];rfl
 have y2:(s.tk.text.toList==({data:=#[92,61]}:ByteArray).toList)=false:=by rw[hx,Lib.toList_data];rfl
 have y3:(s.tk.text.toList==({data:=#[62]}:ByteArray).toList)=false:=by rw[hx,Lib.toList_data];rfl
 have y4:(s.tk.text.toList==({data:=#[60]}:ByteArray).toList)=false:=by rw[hx,Lib.toList_data];rfl
 have y5:(s.tk.text.toList==({data:=#[62,61]}:ByteArray).toList)=false:=by rw[hx,Lib.toList_data];rfl
 have y6:(s.tk.text.toList==({data:=#[61,60]}:ByteArray).toList)=true:=by rw[hx,Lib.toList_data];rfl
 refine Qe Tryd.func74 rfl Tryd.call74 Tryd.ntmps74 Tryd.results74 (by simp) ?_
 repeat (first|((first|(with_reducible (first|refine Qa fun K E hK hE=>?_|refine FunW.QqZ cn ?_)));simp -implicitDefEqProofs only[Qc,Qd,OpW,QB,aop,undef,AS.ev,Qr,AV.QqY,↓reduceIte,Qg,Qw,Qv,Qu,Ql,aBin,ti3,ti9,ti60,QK,QQ,zi60,QJ,Qp,f1,f3,f5,hi0,e1,e2,z1,z3,y0,y1,y2,y3,y4,y5,y6,seval])|(with_reducible (first|refine Qf fun K hK=>?_|refine Qi ?_|refine Qk ?_|refine QF ?_|refine Qb ?_|refine QD ?_|refine QC ?_|refine QZ rfl ?_))|((with_reducible refine hK _ ?_);clear hK)|(refine Qh rfl ?_;simp only[↓reduceIte,QrN]))
 try ((clear hK;clear hK;clear hK;clear hK;clear hK;clear hK;clear hK;clear hK;(with_reducible refine hK _ ?_);clear hK))
 repeat (first|((first|(with_reducible (first|refine Qa fun K E hK hE=>?_|refine FunW.QqZ (ct _) ?_)));simp -implicitDefEqProofs only[Qc,Qd,OpW,QB,aop,undef,AS.ev,Qr,↓reduceIte,Qg,QJ,Qp,hi,seval])|(with_reducible (first|refine Qm ?_|refine QF ?_|refine Qb ?_|refine QD ?_|refine QC ?_|refine QZ rfl ?_))|((with_reducible refine hK _ ?_);clear hK)|(clear hK;clear hK;clear hK;(with_reducible refine hK _ ?_);clear hK))
 try (((with_reducible refine hK _ ?_);clear hK))
 repeat ((((with_reducible refine Qa fun K E hK hE=>?_));simp -implicitDefEqProofs only[Qc,Qd,OpW,QB,aop,undef,Xa,AS.ev,Qr,AV.QqY,↓reduceIte,Qg,Qw,Qv,Qu,Ql,aBin,goInt,ti0,zi0,ti3,zi3,un3,ti4,zi4,un4,ti9,ei9,zi9,un9,ti57,zi57,un57,ti60,QK,Xc,QQ,zi60,sp60,ti66,QJ,YW,YX,zi66,sp66,Qsw,Int.sub_zero,XJ,Qp,f1,f3,f4,f5,f6,hi,hi0,hin,e1,e2,z1,z3,y0,y1,y2,y3,y4,y5,y6,seval]))
 try (((with_reducible refine hK _ ?_);clear hK))
 repeat ((((with_reducible refine Qa fun K E hK hE=>?_));simp -implicitDefEqProofs only[Qc,Qd,OpW,QB,aop,undef,Xa,AS.ev,Qr,AV.QqY,↓reduceIte,Qg,Qw,Qv,Qu,Ql,aBin,goInt,ti0,zi0,ti3,zi3,un3,ti4,zi4,un4,ti9,ei9,zi9,un9,ti57,zi57,un57,ti60,QK,Xc,QQ,zi60,sp60,ti66,QJ,YW,YX,zi66,sp66,Qsw,Int.sub_zero,XJ,Qp,f1,f3,f4,f5,f6,hi,hi0,hin,e1,e2,z1,z3,y0,y1,y2,y3,y4,y5,y6,seval]))
 simp -implicitDefEqProofs only[Yq,↓reduceIte,Nat.reduceEqDiff,QrL,QrO,QrP,List.mapM_cons,List.mapM_nil,Option.pure_def,Option.bind_eq_bind,QH,Qo,Qt,QrT]
 exact Xl H (s:=s) (s':=s.nx) (.keep (Yc _ _ _ _)) ⟨rfl,rfl⟩
theorem QqJ(hk:s.tk.kind=4)(hx:s.tk.text.toList=[61,58,61]):QL Tryd.prog 74 [.ptr P.i 0 0] (ph h P s) (MQ h P s (some (9,false))):=by
 have f1:=QU h P
 have f3:=XB h P
 have f4:=Yf h P
 have f5:=Xk h P
 have f6:=XL h P
 have hi:=ph_i H s
 have hi0:=X6 H s
 have hin:=ph_i H s.nx
 simp only[pB]at hi hi0 hin
 have cn:=XM hW (X6 H s)
 have ct:=fun L=>Xq hW (H.app L) hN
 simp only[Q4 H]at ct
 have e1:=Tk.Qq0 s.tk
 have e2:=Tk.Qq1 s.tk
 have z1:(s.tk.kind==1)=false:=by rw[hk];rfl
 have z3:(s.tk.kind != 4)=false:=by rw[hk];rfl
 have y0:(s.tk.text.toList==({data:=#[61]}:ByteArray).toList)=false:=by rw[hx,Lib.toList_data];rfl
 have y1:(s.tk.text.toList==({data:=#[61,61]}:ByteArray).toList)=false:=by rw[hx,Lib.toList_data];rfl
 have y2:(s.tk.text.toList==({data:=#[92,61]}:ByteArray).toList)=false:=by rw[hx,Lib.toList_data];rfl
 have y3:(s.tk.text.toList==({data:=#[62]}:ByteArray).toList)=false:=by rw[hx,Lib.toList_data];rfl
 have y4:(s.tk.text.toList==({data:=#[60]}:ByteArray).toList)=false:=by rw[hx,Lib.toList_data];rfl
 have y5:(s.tk.text.toList==({data:=#[62,61]}:ByteArray).toList)=false:=by rw[hx,Lib.toList_data];rfl
 have y6:(s.tk.text.toList==({data:=#[61,60]}:ByteArray).toList)=false:=by rw[hx,Lib.toList_data];rfl
 have y7:(s.tk.text.toList==({data:=#[61,58,61]}:ByteArray).toList)=true:=by rw[hx,Lib.toList_data];rfl
 refine Qe Tryd.func74 rfl Tryd.call74 Tryd.ntmps74 Tryd.results74 (by simp) ?_
 repeat (first|((first|(with_reducible (first|refine Qa fun K E hK hE=>?_|refine FunW.QqZ cn ?_)));simp -implicitDefEqProofs only[Qc,Qd,OpW,QB,aop,undef,AS.ev,Qr,AV.QqY,↓reduceIte,Qg,Qw,Qv,Qu,Ql,aBin,ti3,ti9,ti60,QK,QQ,zi60,QJ,Qp,f1,f3,f5,hi0,e1,e2,z1,z3,y0,y1,y2,y3,y4,y5,y6,y7,seval])|(with_reducible (first|refine Qf fun K hK=>?_|refine Qi ?_|refine Qk ?_|refine QF ?_|refine Qb ?_|refine QD ?_|refine QC ?_|refine QZ rfl ?_))|((with_reducible refine hK _ ?_);clear hK)|(refine Qh rfl ?_;simp only[↓reduceIte,QrN]))
 try ((clear hK;clear hK;clear hK;clear hK;clear hK;clear hK;clear hK;clear hK;clear hK;(with_reducible refine hK _ ?_);clear hK))
 repeat (first|((first|(with_reducible (first|refine Qa fun K E hK hE=>?_|refine FunW.QqZ (ct _) ?_)));simp -implicitDefEqProofs only[Qc,Qd,OpW,QB,aop,undef,AS.ev,Qr,↓reduceIte,Qg,QJ,Qp,hi,seval])|(with_reducible (first|refine Qm ?_|refine QF ?_|refine Qb ?_|refine QD ?_|refine QC ?_|refine QZ rfl ?_))|((with_reducible refine hK _ ?_);clear hK)|(clear hK;clear hK;(with_reducible refine hK _ ?_);clear hK))
 try (((with_reducible refine hK _ ?_);clear hK))
 repeat ((((with_reducible refine Qa fun K E hK hE=>?_));simp -implicitDefEqProofs only[Qc,Qd,OpW,QB,aop,undef,Xa,AS.ev,Qr,AV.QqY,↓reduceIte,Qg,Qw,Qv,Qu,Ql,aBin,goInt,ti0,zi0,ti3,zi3,un3,ti4,zi4,un4,ti9,ei9,zi9,un9,ti57,zi57,un57,ti60,QK,Xc,QQ,zi60,sp60,ti66,QJ,YW,YX,zi66,sp66,Qsw,Int.sub_zero,XJ,Qp,f1,f3,f4,f5,f6,hi,hi0,hin,e1,e2,z1,z3,y0,y1,y2,y3,y4,y5,y6,y7,seval]))
 try (((with_reducible refine hK _ ?_);clear hK))
 repeat ((((with_reducible refine Qa fun K E hK hE=>?_));simp -implicitDefEqProofs only[Qc,Qd,OpW,QB,aop,undef,Xa,AS.ev,Qr,AV.QqY,↓reduceIte,Qg,Qw,Qv,Qu,Ql,aBin,goInt,ti0,zi0,ti3,zi3,un3,ti4,zi4,un4,ti9,ei9,zi9,un9,ti57,zi57,un57,ti60,QK,Xc,QQ,zi60,sp60,ti66,QJ,YW,YX,zi66,sp66,Qsw,Int.sub_zero,XJ,Qp,f1,f3,f4,f5,f6,hi,hi0,hin,e1,e2,z1,z3,y0,y1,y2,y3,y4,y5,y6,y7,seval]))
 simp -implicitDefEqProofs only[Yq,↓reduceIte,Nat.reduceEqDiff,QrL,QrO,QrP,List.mapM_cons,List.mapM_nil,Option.pure_def,Option.bind_eq_bind,QH,Qo,Qt,QrT]
 exact Xl H (s:=s) (s':=s.nx) (.keep (Yc _ _ _ _)) ⟨rfl,rfl⟩
theorem QqK(hk:s.tk.kind=4)(hx:s.tk.text.toList=[61,92,61]):QL Tryd.prog 74 [.ptr P.i 0 0] (ph h P s) (MQ h P s (some (10,false))):=by
 have f1:=QU h P
 have f3:=XB h P
 have f4:=Yf h P
 have f5:=Xk h P
 have f6:=XL h P
 have hi:=ph_i H s
 have hi0:=X6 H s
 have hin:=ph_i H s.nx
 simp only[pB]at hi hi0 hin
 have cn:=XM hW (X6 H s)
 have ct:=fun L=>Xq hW (H.app L) hN
 simp only[Q4 H]at ct
 have e1:=Tk.Qq0 s.tk
 have e2:=Tk.Qq1 s.tk
 have z1:(s.tk.kind==1)=false:=by rw[hk];rfl
 have z3:(s.tk.kind != 4)=false:=by rw[hk];rfl
 have y0:(s.tk.text.toList==({data:=#[61]}:ByteArray).toList)=false:=by rw[hx,Lib.toList_data];rfl
 have y1:(s.tk.text.toList==({data:=#[61,61]}:ByteArray).toList)=false:=by rw[hx,Lib.toList_data];rfl
 have y2:(s.tk.text.toList==({data:=#[92,61]}:ByteArray).toList)=false:=by rw[hx,Lib.toList_data];rfl
 have y3:(s.tk.text.toList==({data:=#[62]}:ByteArray).toList)=false:=by rw[hx,Lib.toList_data];rfl
 have y4:(s.tk.text.toList==({data:=#[60]}:ByteArray).toList)=false:=by rw[hx,Lib.toList_data];rfl
 have y5:(s.tk.text.toList==({data:=#[62,61]}:ByteArray).toList)=false:=by rw[hx,Lib.toList_data];rfl
 have y6:(s.tk.text.toList==({data:=#[61,60]}:ByteArray).toList)=false:=by rw[hx,Lib.toList_data];rfl
 have y7:(s.tk.text.toList==({data:=#[61,58,61]}:ByteArray).toList)=false:=by rw[hx,Lib.toList_data];rfl
 have y8:(s.tk.text.toList==({data:=#[61,92,61]}:ByteArray).toList)=true:=by rw[hx,Lib.toList_data];rfl
 refine Qe Tryd.func74 rfl Tryd.call74 Tryd.ntmps74 Tryd.results74 (by simp) ?_
 repeat (first|((first|(with_reducible (first|refine Qa fun K E hK hE=>?_|refine FunW.QqZ cn ?_)));simp -implicitDefEqProofs only[Qc,Qd,OpW,QB,aop,undef,AS.ev,Qr,AV.QqY,↓reduceIte,Qg,Qw,Qv,Qu,Ql,aBin,ti3,ti9,ti60,QK,QQ,zi60,QJ,Qp,f1,f3,f5,hi0,e1,e2,z1,z3,y0,y1,y2,y3,y4,y5,y6,y7,y8,seval])|(with_reducible (first|refine Qf fun K hK=>?_|refine Qi ?_|refine Qk ?_|refine QF ?_|refine Qb ?_|refine QD ?_|refine QC ?_|refine QZ rfl ?_))|((with_reducible refine hK _ ?_);clear hK)|(refine Qh rfl ?_;simp only[↓reduceIte,QrN]))
 try ((clear hK;clear hK;clear hK;clear hK;clear hK;clear hK;clear hK;clear hK;clear hK;(with_reducible refine hK _ ?_);clear hK))
 repeat (first|((first|(with_reducible (first|refine Qa fun K E hK hE=>?_|refine FunW.QqZ (ct _) ?_)));simp -implicitDefEqProofs only[Qc,Qd,OpW,QB,aop,undef,AS.ev,Qr,↓reduceIte,Qg,QJ,Qp,hi,seval])|(with_reducible (first|refine Qm ?_|refine QF ?_|refine Qb ?_|refine QD ?_|refine QC ?_|refine QZ rfl ?_))|((with_reducible refine hK _ ?_);clear hK)|(clear hK;(with_reducible refine hK _ ?_);clear hK))
 try (((with_reducible refine hK _ ?_);clear hK))
 repeat ((((with_reducible refine Qa fun K E hK hE=>?_));simp -implicitDefEqProofs only[Qc,Qd,OpW,QB,aop,undef,Xa,AS.ev,Qr,AV.QqY,↓reduceIte,Qg,Qw,Qv,Qu,Ql,aBin,goInt,ti0,zi0,ti3,zi3,un3,ti4,zi4,un4,ti9,ei9,zi9,un9,ti57,zi57,un57,ti60,QK,Xc,QQ,zi60,sp60,ti66,QJ,YW,YX,zi66,sp66,Qsw,Int.sub_zero,XJ,Qp,f1,f3,f4,f5,f6,hi,hi0,hin,e1,e2,z1,z3,y0,y1,y2,y3,y4,y5,y6,y7,y8,seval]))
 try (((with_reducible refine hK _ ?_);clear hK))
 repeat ((((with_reducible refine Qa fun K E hK hE=>?_));simp -implicitDefEqProofs only[Qc,Qd,OpW,QB,aop,undef,Xa,AS.ev,Qr,AV.QqY,↓reduceIte,Qg,Qw,Qv,Qu,Ql,aBin,goInt,ti0,zi0,ti3,zi3,un3,ti4,zi4,un4,ti9,ei9,zi9,un9,ti57,zi57,un57,ti60,QK,Xc,QQ,zi60,sp60,ti66,QJ,YW,YX,zi66,sp66,Qsw,Int.sub_zero,XJ,Qp,f1,f3,f4,f5,f6,hi,hi0,hin,e1,e2,z1,z3,y0,y1,y2,y3,y4,y5,y6,y7,y8,seval]))
 simp -implicitDefEqProofs only[Yq,↓reduceIte,Nat.reduceEqDiff,QrL,QrO,QrP,List.mapM_cons,List.mapM_nil,Option.pure_def,Option.bind_eq_bind,QH,Qo,Qt,QrT]
 exact Xl H (s:=s) (s':=s.nx) (.keep (Yc _ _ _ _)) ⟨rfl,rfl⟩
theorem Qng(hk:s.tk.kind=4)(h0:s.tk.text.toList≠[61])(h1:s.tk.text.toList≠[61,61])(h2:s.tk.text.toList≠[92,61])(h3:s.tk.text.toList≠[62])(h4:s.tk.text.toList≠[60])(h5:s.tk.text.toList≠[62,61])(h6:s.tk.text.toList≠[61,60])(h7:s.tk.text.toList≠[61,58,61])(h8:s.tk.text.toList≠[61,92,61]):QL Tryd.prog 74 [.ptr P.i 0 0] (ph h P s) (MQ h P s (none)):=by
 have f1:=QU h P
 have f3:=XB h P
 have f4:=Yf h P
 have f5:=Xk h P
 have f6:=XL h P
 have hi:=ph_i H s
 have hi0:=X6 H s
 have hin:=ph_i H s.nx
 simp only[pB]at hi hi0 hin
 have cn:=XM hW (X6 H s)
 have ct:=fun L=>Xq hW (H.app L) hN
 simp only[Q4 H]at ct
 have e1:=Tk.Qq0 s.tk
 have e2:=Tk.Qq1 s.tk
 have z1:(s.tk.kind==1)=false:=by rw[hk];rfl
 have z3:(s.tk.kind != 4)=false:=by rw[hk];rfl
 have y0:(s.tk.text.toList==({data:=#[61]}:ByteArray).toList)=false:=by rw[Lib.toList_data ({data:=#[61]}:ByteArray)];simpa using h0
 have y1:(s.tk.text.toList==({data:=#[61,61]}:ByteArray).toList)=false:=by rw[Lib.toList_data ({data:=#[61,61]}:ByteArray)];simpa using h1
 have y2:(s.tk.text.toList==({data:=#[92,61]}:ByteArray).toList)=false:=by rw[Lib.toList_data ({data:=#[92,61]}:ByteArray)];simpa using h2
 have y3:(s.tk.text.toList==({data:=#[62]}:ByteArray).toList)=false:=by rw[Lib.toList_data ({data:=#[62]}:ByteArray)];simpa using h3
 have y4:(s.tk.text.toList==({data:=#[60]}:ByteArray).toList)=false:=by rw[Lib.toList_data ({data:=#[60]}:ByteArray)];simpa using h4
 have y5:(s.tk.text.toList==({data:=#[62,61]}:ByteArray).toList)=false:=by rw[Lib.toList_data ({data:=#[62,61]}:ByteArray)];simpa using h5
 have y6:(s.tk.text.toList==({data:=#[61,60]}:ByteArray).toList)=false:=by rw[Lib.toList_data ({data:=#[61,60]}:ByteArray)];simpa using h6
 have y7:(s.tk.text.toList==({data:=#[61,58,61]}:ByteArray).toList)=false:=by rw[Lib.toList_data ({data:=#[61,58,61]}:ByteArray)];simpa using h7
 have y8:(s.tk.text.toList==({data:=#[61,92,61]}:ByteArray).toList)=false:=by rw[Lib.toList_data ({data:=#[61,92,61]}:ByteArray)];simpa using h8
 refine Qe Tryd.func74 rfl Tryd.call74 Tryd.ntmps74 Tryd.results74 (by simp) ?_
 repeat (first|((first|(with_reducible (first|refine Qa fun K E hK hE=>?_|refine FunW.QqZ cn ?_)));simp -implicitDefEqProofs only[Qc,Qd,OpW,QB,aop,undef,AS.ev,Qr,AV.QqY,↓reduceIte,Qg,Qw,Qv,Qu,Ql,aBin,ti3,ti9,ti60,QK,QQ,zi60,QJ,Qp,f1,f3,f5,hi0,e1,e2,z1,z3,y0,y1,y2,y3,y4,y5,y6,y7,y8,seval])|(with_reducible (first|refine Qf fun K hK=>?_|refine Qi ?_|refine Qk ?_|refine QF ?_|refine Qb ?_|refine QD ?_|refine QC ?_|refine QZ rfl ?_))|((with_reducible refine hK _ ?_);clear hK)|(refine Qh rfl ?_;simp only[↓reduceIte,QrN]))
 try ((clear hK;clear hK;clear hK;clear hK;clear hK;clear hK;clear hK;clear hK;clear hK;(with_reducible refine hK _ ?_);clear hK))
 repeat (first|(((with_reducible refine Qa fun K E hK hE=>?_));simp -implicitDefEqProofs only[Qc,Qd,OpW,aop,AS.ev,Nat.reduceLT])|(with_reducible (first|refine Qf fun K hK=>?_|refine Qm ?_|refine Qy ?_|refine QE ?_))|((with_reducible refine hK _ ?_);clear hK))
 try (((with_reducible refine hK _ ?_);clear hK))
 repeat ((((with_reducible refine Qa fun K E hK hE=>?_));simp -implicitDefEqProofs only[Qc,Qd,OpW,QB,aop,undef,Xa,AS.ev,Qr,AV.QqY,↓reduceIte,Qg,Qw,Qv,Qu,Ql,aBin,goInt,ti0,zi0,ti3,zi3,un3,ti4,zi4,un4,ti9,ei9,zi9,un9,ti57,zi57,un57,ti60,QK,Xc,QQ,zi60,sp60,ti66,QJ,YW,YX,zi66,sp66,Qsw,Int.sub_zero,XJ,Qp,f1,f3,f4,f5,f6,hi,hi0,hin,e1,e2,z1,z3,y0,y1,y2,y3,y4,y5,y6,y7,y8,seval]))
 try (((with_reducible refine hK _ ?_);clear hK))
 repeat ((((with_reducible refine Qa fun K E hK hE=>?_));simp -implicitDefEqProofs only[Qc,Qd,OpW,QB,aop,undef,Xa,AS.ev,Qr,AV.QqY,↓reduceIte,Qg,Qw,Qv,Qu,Ql,aBin,goInt,ti0,zi0,ti3,zi3,un3,ti4,zi4,un4,ti9,ei9,zi9,un9,ti57,zi57,un57,ti60,QK,Xc,QQ,zi60,sp60,ti66,QJ,YW,YX,zi66,sp66,Qsw,Int.sub_zero,XJ,Qp,f1,f3,f4,f5,f6,hi,hi0,hin,e1,e2,z1,z3,y0,y1,y2,y3,y4,y5,y6,y7,y8,seval]))
 simp -implicitDefEqProofs only[Yq,↓reduceIte,Nat.reduceEqDiff,QrL,QrO,QrP,List.mapM_cons,List.mapM_nil,Option.pure_def,Option.bind_eq_bind,QH,Qo,Qt,QrT]
 exact Xl H (s:=s) (s':=s) (.keep (Yc _ _ _ _)) ⟨rfl,rfl⟩
theorem Qd3:QL Tryd.prog 74 [.ptr P.i 0 0] (ph h P s) (MQ h P s (Qax s)):=by
 unfold Qax
 by_cases hk:s.tk.kind=1
 ·rw[if_pos hk]
  by_cases hx:s.tk.text.toList=[105,115]
  ·rw[if_pos hx];exact QpF hW H hN hk hx
  ·rw[if_neg hx];exact Qnh hW H hN hk hx
 rw[if_neg hk]
 by_cases hk4:s.tk.kind=4
 case neg=>rw[if_pos hk4];exact Qll hW H hN hk hk4
 rw[if_neg (by simpa using hk4)]
 by_cases h0:s.tk.text.toList=[61]
 ·rw[if_pos h0];exact QqC hW H hN hk4 h0
 rw[if_neg h0]
 by_cases h1:s.tk.text.toList=[61,61]
 ·rw[if_pos h1];exact QqD hW H hN hk4 h1
 rw[if_neg h1]
 by_cases h2:s.tk.text.toList=[92,61]
 ·rw[if_pos h2];exact QqE hW H hN hk4 h2
 rw[if_neg h2]
 by_cases h4:s.tk.text.toList=[60]
 ·rw[if_pos h4];exact QqG hW H hN hk4 h4
 rw[if_neg h4]
 by_cases h6:s.tk.text.toList=[61,60]
 ·rw[if_pos h6];exact QqI hW H hN hk4 h6
 rw[if_neg h6]
 by_cases h3:s.tk.text.toList=[62]
 ·rw[if_pos h3];exact QqF hW H hN hk4 h3
 rw[if_neg h3]
 by_cases h5:s.tk.text.toList=[62,61]
 ·rw[if_pos h5];exact QqH hW H hN hk4 h5
 rw[if_neg h5]
 by_cases h7:s.tk.text.toList=[61,58,61]
 ·rw[if_pos h7];exact QqJ hW H hN hk4 h7
 rw[if_neg h7]
 by_cases h8:s.tk.text.toList=[61,92,61]
 ·rw[if_pos h8];exact QqK hW H hN hk4 h8
 rw[if_neg h8]
 exact Qng hW H hN hk4 h0 h1 h2 h3 h4 h5 h6 h7 h8
end
end Go.Proofs.YticgcpebdldbgaaDoor.Ab
namespace Go.Proofs.YticgcpebdldbgaaDoor.Ab
theorem Qnz(tt:TypeId)(n:Nat)(x y:T):layA tt n [x,y]=x.lay tt n++(.dead::(y.lay tt (n+x.sz+1)++[.cells tt 4 [x.lv n,y.lv (n+x.sz+1)]])):=by
 simp only[layA,lays,lvs,Qsq,Qsp,QrN,if_false,if_true]
def tauT(n px sx pd py sy pr:Nat):Nat→Nat:=fun i=>if i<n then i else if i<n+sx then px+(i - n)else if i=n+sx then pd else if i<n+sx+1+sy then py+(i - n - sx - 1)else pr+(i - (n+sx+1+sy))
theorem Qo8{tt:TypeId}{A N:AH}{n:Nat}(hn:A.length=n)(hb:∀b∈A,b.Below n)(x y:T){px pd py pr:Nat}(h1:n≤px)(h2:n≤py)(h3:n≤pd)
  (ho:(px+x.sz≤pd∧pd<py∧py+y.sz≤pr)∨(py+y.sz≤pd∧pd<px∧px+x.sz≤pr)) (hx:At (A++N) px (x.lay tt px)) (hy:At (A++N) py (y.lay tt py)) (hr:(A++N)[pr]? = some (.cells tt 4 [x.lv px,y.lv py])) :
  Pack n (tauT n px x.sz pd py y.sz pr) (A++N) (A++layA tt n [x,y])∧Pk n (tauT n px x.sz pd py y.sz pr) (A++layA tt n [x,y]) (.arr pr 0 2) (lsl n [x,y]):=by
 have hlen:(layA tt n [x,y]).length=x.sz+1+(y.sz+1):=by rw[Yg];simp only[szs];try omega
 have hL:(A++layA tt n [x,y]).length=n+(x.sz+1+(y.sz+1)):=by rw[List.length_append,hlen,hn]
 have shx:Sh n (tauT n px x.sz pd py y.sz pr) (A++layA tt n [x,y]) px n x.sz:=⟨Nat.le_refl _,by omega,fun j hj=>by unfold tauT;rw[if_neg (by omega),if_pos (by omega)];omega⟩
 have shy:Sh n (tauT n px x.sz pd py y.sz pr) (A++layA tt n [x,y]) py (n+x.sz+1) y.sz:=⟨by omega,by omega,fun j hj=>by unfold tauT;rw[if_neg (by omega),if_neg (by omega),if_neg (by omega),if_pos (by omega)];omega⟩
 have cl:∀i,n≤i→i<n+(x.sz+1+(y.sz+1))→(i<n+x.sz∧tauT n px x.sz pd py y.sz pr i=px+(i - n))∨(i=n+x.sz∧tauT n px x.sz pd py y.sz pr i=pd) ∨
   (n+x.sz<i∧i<n+x.sz+1+y.sz∧tauT n px x.sz pd py y.sz pr i=py+(i - n - x.sz - 1))∨(i=n+x.sz+1+y.sz∧tauT n px x.sz pd py y.sz pr i=pr):=by
  intro i hi hi2
  by_cases a1:i<n+x.sz
  ·exact .inl ⟨a1,by unfold tauT;rw[if_neg (by omega),if_pos a1]⟩
  ·by_cases a2:i=n+x.sz
   ·exact .inr (.inl ⟨a2,by unfold tauT;rw[if_neg (by omega),if_neg a1,if_pos a2]⟩)
   ·by_cases a3:i<n+x.sz+1+y.sz
    ·exact .inr (.inr (.inl ⟨by omega,a3,by unfold tauT;rw[if_neg (by omega),if_neg a1,if_neg a2,if_pos a3]⟩))
    ·refine .inr (.inr (.inr ⟨by omega,?_⟩))
     unfold tauT
     rw[if_neg (by omega),if_neg a1,if_neg a2,if_neg a3]
     omega
 have tr:tauT n px x.sz pd py y.sz pr (n+x.sz+1+y.sz)=pr:=by
  rcases cl (n+x.sz+1+y.sz) (by omega) (by omega)with h|h|h|h <;> omega
 refine⟨Qjj hn hb (fun i hi=>by unfold tauT;rw[if_pos hi]) (fun i hi hi2=>?_) (fun i j hi hi2 hj hj2 he=>?_) fun j b' hj=>?_,?_⟩
 ·rcases cl i hi (by omega)with h|h|h|h <;> omega
 ·rw[hlen]at hi2 hj2
  rcases cl i hi hi2 with h|h|h|h <;> rcases cl j hj hj2 with k|k|k|k <;> omega
 ·have hjl:=Qs hj
  rw[hlen]at hjl
  rw[Qnz,List.getElem?_append,T.Qq3]at hj
  split at hj
  ·rename_i hlt
   obtain⟨b,hbb⟩:∃b,(x.lay tt px)[j]? = some b:=⟨_,List.getElem?_eq_getElem (by rw[T.Qq3];exact hlt)⟩
   cases hl:b.live with
   |false=>exact .inl (T.Qrd x j b b' hbb hj hl)
   |true =>
    refine .inr ⟨b,?_,T.pkB x shx j b b' hbb hj⟩
    rw[shx.2.2 j hlt]
    exact hx j b hbb hl
  ·rename_i hge
   cases hk:j - x.sz with
   |zero =>
    rw[hk,List.getElem?_cons_zero]at hj
    cases hj
    exact .inl rfl
   |succ k =>
    rw[hk,List.getElem?_cons_succ,List.getElem?_append,T.Qq3]at hj
    split at hj
    ·rename_i hlt
     obtain⟨b,hbb⟩:∃b,(y.lay tt py)[k]? = some b:=⟨_,List.getElem?_eq_getElem (by rw[T.Qq3];exact hlt)⟩
     cases hl:b.live with
     |false=>exact .inl (T.Qrd y k b b' hbb hj hl)
     |true =>
      refine .inr ⟨b,?_,T.pkB y shy k b b' hbb hj⟩
      rw[show n+j=n+x.sz+1+k by omega,shy.2.2 k hlt]
      exact hy k b hbb hl
    ·rename_i hge2
     have hk2:k=y.sz:=by omega
     subst hk2
     rw[Nat.sub_self,List.getElem?_cons_zero]at hj
     cases hj
     refine .inr ⟨_,by rw[show n+j=n+x.sz+1+y.sz by omega,tr];exact hr,.inr ⟨tt,4,_,_,rfl,rfl,?_,?_⟩⟩
     ·intro z hz
      simp only[List.mem_cons,List.not_mem_nil,or_false]at hz
      rcases hz with rfl|rfl <;> exact T.Qq6 _ _
     ·have:=Qls (R:=Pk n (tauT n px x.sz pd py y.sz pr) (A++layA tt n [x,y])) (xs:=[x.lv px,y.lv py]) (ys:=[x.lv n,y.lv (n+x.sz+1)]) rfl fun i u v hu hv=>by
       match i,hu,hv with
       |0,hu,hv=>cases hu;cases hv;exact⟨by rw[T.Qq6,T.Qq6],T.Qra shx⟩
       |1,hu,hv=>cases hu;cases hv;exact⟨by rw[T.Qq6,T.Qq6],T.Qra shy⟩
       |i+2,hu,hv=>simp at hu
      exact⟨Nat.le_of_eq this.1,this.2⟩
 ·show Pk _ _ _ _ (.arr (n+szs [x,y] - 1) 0 2)
  have e:n+szs [x,y] - 1=n+x.sz+1+y.sz:=by simp only[szs];omega
  rw[e]
  exact .arr tr.symm (by omega) (by omega)
end Go.Proofs.YticgcpebdldbgaaDoor.Ab
set_option maxRecDepth 4000
namespace Go.Proofs.YticgcpebdldbgaaDoor.Ab
open Go.Proofs
def gv(n:Nat)(g:G):AV:=.agg [.i g.op,.v (.string g.name),lsl n g.args]
abbrev zg:AV:=.agg [.i 0,.v (.string {data:=#[]}),.v (.slice none 0 0)]
def WC(g:Nat)(h:AH)(P:Pz):PR G→AOut→AH→Prop
 | .ok a s,o,h'=>o = .ret (.tup [gv (h.length+g) a,.b true])∧∃N,h'=ph h P s++N∧At N g (layA 54 (h.length+g) a.args)
 | .err p e,o,h'=>o = .panic (Fl p e)∧∃s,h'=ph h P s
def WQ(h:AH)(P:Pz):PR G→AOut→AH→Prop
 | .ok a s,o,h'=>o = .ret (.tup [gv h.length a,.b true])∧h'=ph h P s++layA 54 h.length a.args
 | .err p e,o,h'=>o = .panic (Fl p e)∧∃s,h'=ph h P s
theorem Qpb{n:Nat}{τ:Nat→Nat}{h2:AH}{m':Nat}{g:G}{y:AV}(hy:Pk n τ h2 y (lsl m' g.args)):Pk n τ h2 (.agg [.i g.op,.v (.string g.name),y]) (gv m' g):=.agg rfl fun j a a' h1 h2=>by
 match j,h1,h2 with
 |0,h1,h2=>cases h1;cases h2;exact .keep (.v _)
 |1,h1,h2=>cases h1;cases h2;exact .keep (.v _)
 |2,h1,h2=>cases h1;cases h2;exact hy
 |j+3,h1,h2=>simp at h1
theorem Qof{P:Pz}{f:FuncId}{args:List AV}{h:AH}{s:PS}(H:P.ok h)(g:Nat){r:PR G}(C:QL Tryd.prog f args (ph h P s) (WC g h P r)):QL Tryd.prog f args (ph h P s) (WQ h P r):=by
 refine Qau C fun hb0 o h' hQ=>?_
 cases r with
 |err p e=>exact .inl hQ
 |ok t s2 =>
  obtain⟨rfl,N,rfl,hN⟩:=hQ
  rw[QU]at hb0 ⊢
  have hb:∀b∈ph h P s2,b.Below h.length:=fun b hb=>by
   obtain⟨k,hk⟩:=Zi hb
   rcases Qby H (s0:=s) hk with h1|h1
   ·exact hb0 k b h1
   ·exact h1
  obtain⟨K,hk⟩:=QnM (QU h P s2) hb g t.args hN
  refine .inr ⟨_,.tup [gv h.length t,.b true],_,_,rfl,K,.tup rfl fun j a a' h1 h2=>?_,rfl,rfl⟩
  match j,h1,h2 with
  |0,h1,h2=>cases h1;cases h2;exact Qpb hk
  |1,h1,h2=>cases h1;cases h2;exact .keep (.v _)
  |j+2,h1,h2=>simp at h1
theorem QjG(n:Nat)(b:Bool):Below n (.tup [zg,.b b]):=.tup _ fun x hx=>by
 simp only[List.mem_cons,List.not_mem_nil,or_false]at hx
 rcases hx with rfl|rfl
 ·exact .agg _ fun x hx=>by
   simp only[List.mem_cons,List.not_mem_nil,or_false]at hx
   rcases hx with rfl|rfl|rfl <;> exact .v _
 ·exact .v _
section
variable{P:Pz}{s:PS}(hW:Wst P.all s){h:AH}(H:P.ok h)(hN:P.all.length≤1000000)(hD:TkOk P.all)
include hW H hN hD
theorem Qod(hk:s.tk.kind≠1):QL Tryd.prog 72 [.ptr P.i 0 0] (ph h P s) fun o h'=>o = .ret (.tup [zg,.b false])∧h'=ph h P s:=by
 have _hu:=hN;have _hv:=hD
 have f1:=QU h P
 have f3:=XB h P
 have f4:=Yf h P
 have f5:=Xk h P
 have f6:=XL h P
 have hi:=ph_i H s
 simp only[pB]at hi
 have cn:=nextL hW (X6 H s)
 have e1:=Tk.Qq0 s.tk
 have e2:=Tk.Qq1 s.tk
 have z1:(s.tk.kind != 1)=true:=by simpa using hk
 refine Qe Tryd.func72 rfl Tryd.call72 Tryd.ntmps72 Tryd.results72 (by simp) ?_
 repeat (first|((first|(with_reducible (first|refine Qa fun K E hK hE=>?_|refine Qj fun K E hK hE=>?_|refine FunW.QqZ (cn _) ?_)));simp -implicitDefEqProofs only[Qc,Qd,OpW,QB,aop,undef,AS.ev,Qr,AV.QqY,↓reduceIte,Qg,Qw,Qv,Qu,Ql,aBin,QP,Q6,ti3,ti52,zi52,sp52,ti60,QK,zi60,QJ,Qp,f1,f3,f4,f5,f6,hi,e1,e2,z1,seval])|(with_reducible (first|refine Qf fun K hK=>?_|refine Qi ?_|refine Qm ?_|refine QaM ?_|refine QbP ?_|refine Qk ?_|refine QF ?_|refine Qb ?_|refine Qy ?_|refine QD ?_|refine Qn ?_|refine QE ?_|refine QC ?_|refine QZ rfl ?_))|(with_reducible (first|refine hK _ ?_|(clear hK;refine hK _ ?_)|(clear hK;clear hK;refine hK _ ?_)|(clear hK;clear hK;clear hK;refine hK _ ?_));clear hK)|(refine Qh rfl ?_;simp only[↓reduceIte])|(with_reducible (first|refine hE _ _ ?_|refine QN ?_|refine Xb ?_))|(intro (b:Bool);cases b))
 simp -implicitDefEqProofs only[Qc,↓reduceIte,Qw,Qv,ti52,Qw,Qv,f3,List.mapM_cons,List.mapM_nil,Option.pure_def,Option.bind_eq_bind,QH,Qo,Qt,QrT,seval]
 exact Xl H (s:=s) (s':=s) (.keep (QjG _ _)) ⟨rfl,rfl⟩
end
end Go.Proofs.YticgcpebdldbgaaDoor.Ab
set_option maxRecDepth 4000
namespace Go.Proofs.YticgcpebdldbgaaDoor.Ab
open Go.Proofs
section
variable{P:Pz}{s:PS}(hW:Wst P.all s){h:AH}(H:P.ok h)(hN:P.all.length≤1000000)(hD:TkOk P.all)
include hW H hN hD
theorem QmY(hk:s.tk.kind=1)(h0:s.tk.text.toList≠[116,114,117,101])(h1:s.tk.text.toList≠[102,97,105,108])(h2:s.tk.text.toList≠[105,110,116])(h3:s.tk.text.toList≠[103,114,111,117,110,100]):QL Tryd.prog 72 [.ptr P.i 0 0] (ph h P s) fun o h'=>o = .ret (.tup [zg,.b false])∧h'=ph h P s:=by
 have _hu:=hD
 have f1:=QU h P
 have f3:=XB h P
 have f4:=Yf h P
 have f5:=Xk h P
 have f6:=XL h P
 have hi:=ph_i H s
 have hin:=ph_i H s.nx
 simp only[pB]at hi hin
 have cn:=nextL hW (X6 H s)
 have ct:=fun L=>Xq hW (H.app L) hN
 simp only[Q4 H]at ct
 have e1:=Tk.Qq0 s.tk
 have e2:=Tk.Qq1 s.tk
 have z1:(s.tk.kind != 1)=false:=by rw[hk];rfl
 have y0:(s.tk.text.toList==({data:=#[116,114,117,101]}:ByteArray).toList)=false:=by rw[Lib.toList_data ({data:=#[116,114,117,101]}:ByteArray)];simpa using h0
 have y1:(s.tk.text.toList==({data:=#[102,97,105,108]}:ByteArray).toList)=false:=by rw[Lib.toList_data ({data:=#[102,97,105,108]}:ByteArray)];simpa using h1
 have y2:(s.tk.text.toList==({data:=#[105,110,116]}:ByteArray).toList)=false:=by rw[Lib.toList_data ({data:=#[105,110,116]}:ByteArray)];simpa using h2
 have y3:(s.tk.text.toList==({data:=#[103,114,111,117,110,100]}:ByteArray).toList)=false:=by rw[Lib.toList_data ({data:=#[103,114,111,117,110,100]}:ByteArray)];simpa using h3
 refine Qe Tryd.func72 rfl Tryd.call72 Tryd.ntmps72 Tryd.results72 (by simp) ?_
 repeat (first|((first|(with_reducible (first|refine Qa fun K E hK hE=>?_|refine FunW.QqZ (cn _) ?_)));simp -implicitDefEqProofs only[Qc,Qd,OpW,QB,aop,undef,AS.ev,Qr,AV.QqY,↓reduceIte,Qg,Qw,Qv,Qu,Ql,aBin,QP,Q6,ti3,ti9,ti52,zi52,sp52,ti60,QK,QQ,zi60,QJ,Qp,f1,f3,f4,f5,f6,hi,e1,e2,z1,y0,y1,y2,y3,seval])|(with_reducible (first|refine Qf fun K hK=>?_|refine Qi ?_|refine Qm ?_|refine Qk ?_|refine Qb ?_|refine Qy ?_|refine QE ?_))|((with_reducible refine hK _ ?_);clear hK)|(refine Qh rfl ?_;simp only[↓reduceIte,QrN]))
 simp -implicitDefEqProofs only[Qc,↓reduceIte,Qw,Qv,ti52,Qw,Qv,f3,List.mapM_cons,List.mapM_nil,Option.pure_def,Option.bind_eq_bind,QH,Qo,Qt,QrT,seval]
 exact Xl H (s:=s) (s':=s) (.keep (QjG _ _)) ⟨rfl,rfl⟩
theorem Qm0(hk:s.tk.kind=1)(hx:s.tk.text.toList=[116,114,117,101]):QL Tryd.prog 72 [.ptr P.i 0 0] (ph h P s) (WC 3 h P (.ok ⟨1,eB,[]⟩ s.nx)):=by
 have _hu:=hD
 have f1:=QU h P
 have f3:=XB h P
 have f4:=Yf h P
 have f5:=Xk h P
 have f6:=XL h P
 have hi:=ph_i H s
 have hin:=ph_i H s.nx
 simp only[pB]at hi hin
 have cn:=nextL hW (X6 H s)
 have ct:=fun L=>Xq hW (H.app L) hN
 simp only[Q4 H]at ct
 have e1:=Tk.Qq0 s.tk
 have e2:=Tk.Qq1 s.tk
 have z1:(s.tk.kind != 1)=false:=by rw[hk];rfl
 have o1:((1:Int)==11)=false:=by decide
 have o2:((1:Int)==12)=false:=by decide
 have y0:(s.tk.text.toList==({data:=#[116,114,117,101]}:ByteArray).toList)=true:=by rw[hx,Lib.toList_data];rfl
 refine Qe Tryd.func72 rfl Tryd.call72 Tryd.ntmps72 Tryd.results72 (by simp) ?_
 repeat (first|((first|(with_reducible (first|refine Qa fun K E hK hE=>?_|refine Qj fun K E hK hE=>?_|refine FunW.QqZ (cn _) ?_|refine FunW.QqZ (ct _) ?_)));simp -implicitDefEqProofs only[Qc,Qd,OpW,QB,aop,undef,AS.ev,Qr,AV.QqY,↓reduceIte,Qg,Qw,Qv,Qu,Ql,aBin,QP,Q6,ti3,ti9,ti52,YB,zi52,sp52,ti60,QK,QQ,zi60,QJ,Qp,f1,f3,f4,f5,f6,hi,e1,e2,z1,o1,o2,y0,seval])|(with_reducible (first|refine Qf fun K hK=>?_|refine Qi ?_|refine Qm ?_|refine Qk ?_|refine Qb ?_|refine Qn ?_))|((with_reducible refine hK _ ?_);clear hK)|(refine Qh rfl ?_;simp only[↓reduceIte,QrN]))
 simp -implicitDefEqProofs only[Qc,↓reduceIte,Qw,Qv,ti52,Qw,Qv,f3,List.mapM_cons,List.mapM_nil,Option.pure_def,Option.bind_eq_bind,QH,Qo,Qt,QrT,seval]
 exact .inr ⟨rfl,_,rfl,QfJ _ _⟩
theorem QmX(hk:s.tk.kind=1)(hx:s.tk.text.toList=[102,97,105,108]):QL Tryd.prog 72 [.ptr P.i 0 0] (ph h P s) (WC 3 h P (.ok ⟨2,eB,[]⟩ s.nx)):=by
 have _hu:=hD
 have f1:=QU h P
 have f3:=XB h P
 have f4:=Yf h P
 have f5:=Xk h P
 have f6:=XL h P
 have hi:=ph_i H s
 have hin:=ph_i H s.nx
 simp only[pB]at hi hin
 have cn:=nextL hW (X6 H s)
 have ct:=fun L=>Xq hW (H.app L) hN
 simp only[Q4 H]at ct
 have e1:=Tk.Qq0 s.tk
 have e2:=Tk.Qq1 s.tk
 have z1:(s.tk.kind != 1)=false:=by rw[hk];rfl
 have o1:((2:Int)==11)=false:=by decide
 have o2:((2:Int)==12)=false:=by decide
 have y0:(s.tk.text.toList==({data:=#[116,114,117,101]}:ByteArray).toList)=false:=by rw[hx,Lib.toList_data];rfl
 have y1:(s.tk.text.toList==({data:=#[102,97,105,108]}:ByteArray).toList)=true:=by rw[hx,Lib.toList_data];rfl
 refine Qe Tryd.func72 rfl Tryd.call72 Tryd.ntmps72 Tryd.results72 (by simp) ?_
 repeat (first|((first|(with_reducible (first|refine Qa fun K E hK hE=>?_|refine Qj fun K E hK hE=>?_|refine FunW.QqZ (cn _) ?_|refine FunW.QqZ (ct _) ?_)));simp -implicitDefEqProofs only[Qc,Qd,OpW,QB,aop,undef,AS.ev,Qr,AV.QqY,↓reduceIte,Qg,Qw,Qv,Qu,Ql,aBin,QP,Q6,ti3,ti9,ti52,YB,zi52,sp52,ti60,QK,QQ,zi60,QJ,Qp,f1,f3,f4,f5,f6,hi,e1,e2,z1,o1,o2,y0,y1,seval])|(with_reducible (first|refine Qf fun K hK=>?_|refine Qi ?_|refine Qm ?_|refine Qk ?_|refine Qb ?_|refine Qn ?_))|((with_reducible refine hK _ ?_);clear hK)|(refine Qh rfl ?_;simp only[↓reduceIte,QrN]))
 simp -implicitDefEqProofs only[Qc,↓reduceIte,Qw,Qv,ti52,Qw,Qv,f3,List.mapM_cons,List.mapM_nil,Option.pure_def,Option.bind_eq_bind,QH,Qo,Qt,QrT,seval]
 exact .inr ⟨rfl,_,rfl,QfJ _ _⟩
theorem Qoc(hk:s.tk.kind=1)(hx:s.tk.text.toList=[105,110,116]):QL Tryd.prog 72 [.ptr P.i 0 0] (ph h P s) (WC 3 h P (Qa6 11 s.nx)):=by
 have f1:=QU h P
 have f3:=XB h P
 have f4:=Yf h P
 have f5:=Xk h P
 have f6:=XL h P
 have hi:=ph_i H s
 have hin:=ph_i H s.nx
 simp only[pB]at hi hin
 have cn:=nextL hW (X6 H s)
 have ct:=fun L=>Xq hW (H.app L) hN
 simp only[Q4 H]at ct
 have e1:=Tk.Qq0 s.tk
 have e2:=Tk.Qq1 s.tk
 have z1:(s.tk.kind != 1)=false:=by rw[hk];rfl
 have o1:((11:Int)==11)=true:=by decide
 have o2:((11:Int)==12)=false:=by decide
 have y0:(s.tk.text.toList==({data:=#[116,114,117,101]}:ByteArray).toList)=false:=by rw[hx,Lib.toList_data];rfl
 have y1:(s.tk.text.toList==({data:=#[102,97,105,108]}:ByteArray).toList)=false:=by rw[hx,Lib.toList_data];rfl
 have y2:(s.tk.text.toList==({data:=#[105,110,116]}:ByteArray).toList)=true:=by rw[hx,Lib.toList_data];rfl
 have hWn:=hW.nx
 have HR:=QgE hN hD
 rw[Qa6,XO]
 cases hl:s.nx.is sLp with
 |false =>
  rw[if_neg (by simp)]
  have ce:=fun L=>Yj hWn H hN L {data:=#[40]} (by rw[Lib.toList_data];exact hl)
  refine Qe Tryd.func72 rfl Tryd.call72 Tryd.ntmps72 Tryd.results72 (by simp) ?_
  repeat (first|((first|(with_reducible (first|refine Qa fun K E hK hE=>?_|refine Qj fun K E hK hE=>?_|refine FunW.QqZ (cn _) ?_|refine FunW.QqZ (ct _) ?_|refine FunW.pan (FunW.call (ce _)) ?_)));simp -implicitDefEqProofs only[Qc,Qd,OpW,QB,aop,undef,AS.ev,Qr,AV.QqY,↓reduceIte,Qg,Qw,Qv,Qu,Ql,aBin,QP,Q6,ti3,ti9,ti52,YB,zi52,sp52,ti60,QK,QQ,zi60,QJ,Qp,f1,f4,f6,hi,hin,e1,e2,z1,y0,y1,y2,seval])|(with_reducible (first|refine Qf fun K hK=>?_|refine Qi ?_|refine Qk ?_|refine Qb ?_|refine Qn ?_))|((with_reducible refine hK _ ?_);clear hK)|(refine Qh rfl ?_;simp only[↓reduceIte,QrN])|(with_reducible (first|refine hE _ _ ?_|refine QN ?_)))
  exact QW H s s.nx _ _ _ ⟨rfl,_,rfl⟩
 |true =>
  rw[if_pos rfl]
  have ce:=fun L=>XU hWn H hN L {data:=#[40]} (by rw[Lib.toList_data];exact hl)
  have hWm:=hWn.nx
  have him:=ph_i H s.nx.nx
  simp only[pB]at him
  have hlm:s.nx.nx.toks.length<1000001:=by have:=hWm.suf.length_le;omega
  show QL _ _ _ _ (WC 3 h P ((XW s.nx.nx).bind fun t s=>(XO sRp s).bind fun _ s=>.ok ⟨11,eB,[t]⟩ s))
  cases hr:XW s.nx.nx with
  |err p e =>
   have cx:=fun L=>TRd.err HR hlm hWm H hr L
   refine Qe Tryd.func72 rfl Tryd.call72 Tryd.ntmps72 Tryd.results72 (by simp) ?_
   repeat (first|((first|(with_reducible (first|refine Qa fun K E hK hE=>?_|refine Qj fun K E hK hE=>?_|refine FunW.QqZ (cn _) ?_|refine FunW.QqZ (ct _) ?_|refine FunW.QqZ (ce _) ?_|refine FunW.panE (FunW.call (cx _)) fun r=>?_)));simp -implicitDefEqProofs only[Qc,Qd,OpW,QB,aop,undef,AS.ev,Qr,AV.QqY,↓reduceIte,Qg,Qw,Qv,Qu,Ql,aBin,QP,Q6,ti3,ti9,ti52,YB,zi52,sp52,ti60,QK,QQ,zi60,QJ,Qp,f1,f4,f6,hi,hin,e1,e2,z1,y0,y1,y2,seval])|(with_reducible (first|refine Qf fun K hK=>?_|refine Qi ?_|refine Qk ?_|refine Qb ?_|refine Qn ?_))|((with_reducible refine hK _ ?_);clear hK)|(refine Qh rfl ?_;simp only[↓reduceIte,QrN])|(with_reducible (first|refine hE _ _ ?_|refine QN ?_)))
   exact QW H s r _ _ _ ⟨rfl,_,rfl⟩
  |ok t s1 =>
   have cx:=fun(c d e:AB)=>TRd.ok HR hlm hWm H hr [c,d,e] (k:=h.length+3) rfl
   simp only[Qsb,Qsa]at cx
   have hW1:Wst P.all s1:=Kp.Ps.ok (n:=wdOf P.all) (Kp.termT_ps trivial) hWm hr
   have hi1:=ph_i H s1
   simp only[pB]at hi1
   have e5:=T.Qq4 (h.length+3) t
   have e6:=T.Qq5 (h.length+3) t
   have hat:∀(c d e:AB),At (c::d::e::(t.lay 54 (h.length+3)++[.cells 54 4 [t.lv (h.length+3)]])) 3 (layA 54 (h.length+3) [t]):=fun c d e=>by
    have:layA 54 (h.length+3) [t]=t.lay 54 (h.length+3)++[.cells 54 4 [t.lv (h.length+3)]]:=by simp[layA,lays,lvs]
    rw[this]
    exact At.tail (At.tail (At.tail (At.all _)))
   have hls:lsl (h.length+3) [t] = .arr (h.length+((t.lay 54 (h.length+3)).length+1+1+1)) 0 1:=by
    rw[T.Qq3]
    show AV.arr (h.length+3+szs [t] - 1) 0 1=_
    simp only[szs]
    congr 1;omega
   simp only[PR.bind,XO]
   cases hp2:s1.is sRp with
   |false =>
    rw[if_neg (by simp)]
    have ce2:=fun L=>Yj hW1 H hN L {data:=#[41]} (by rw[Lib.toList_data];exact hp2)
    refine Qe Tryd.func72 rfl Tryd.call72 Tryd.ntmps72 Tryd.results72 (by simp) ?_
    repeat (first|((first|(with_reducible (first|refine Qa fun K E hK hE=>?_|refine Qj fun K E hK hE=>?_|refine FunW.QqZ (cn _) ?_|refine FunW.QqZ (ct _) ?_)));simp -implicitDefEqProofs only[Qc,Qd,OpW,QB,aop,undef,AS.ev,Qr,AV.QqY,↓reduceIte,Qg,Qw,Qv,Qu,Ql,aBin,QP,Q6,ti3,ti9,ti52,YB,zi52,sp52,ti60,QK,QQ,zi60,QJ,Qp,f1,f4,f6,hi,hin,e1,e2,z1,y0,y1,y2,seval])|(with_reducible (first|refine Qf fun K hK=>?_|refine Qi ?_|refine Qk ?_|refine Qb ?_|refine Qn ?_))|((with_reducible refine hK _ ?_);clear hK)|(refine Qh rfl ?_;simp only[↓reduceIte,QrN]))
    refine FunW.QqZ (ce _) ?_
    simp -implicitDefEqProofs only[XN,QB,Xw,Nat.reduceLT]
    (((with_reducible refine hK _ ?_);clear hK))
    refine Y9 2 rfl fun K E hK hE=>?_
    simp only[QrU,Qr1,QrS,Qr0]
    simp -implicitDefEqProofs only[Qc,Qd,OpW,aop,undef,AS.ev,Qr,↓reduceIte,seval]
    repeat ((((with_reducible refine FunW.QqZ (cx _ _ _) ?_));simp -implicitDefEqProofs only[XN,QB,Xw,Nat.reduceLT]))
    simp only[ArrW]
    simp -implicitDefEqProofs only[Qc,Qd,OpW,aop,undef,AS.ev,Qr,AV.QqY,↓reduceIte,Qg,Qu,Ql,QG,ti50,ei50,QaA,zi54,f1,f4,f6,e5,QT,Option.isSome_some,seval]
    repeat (first|((first|(with_reducible (first|refine Qj fun K E hK hE=>?_|refine FunW.pan (FunW.call (ce2 _)) ?_)));simp -implicitDefEqProofs only[Qc,Qd,OpW,QB,aop,undef,AS.ev,Qr,↓reduceIte,Qg,QJ,Qp,hi1,seval])|((with_reducible refine hK _ ?_);clear hK)|(with_reducible (first|refine hE _ _ ?_|refine QN ?_)))
    exact QW H s s1 _ _ _ ⟨rfl,_,rfl⟩
   |true =>
    rw[if_pos rfl]
    have ce2:=fun L=>XU hW1 H hN L {data:=#[41]} (by rw[Lib.toList_data];exact hp2)
    refine Qe Tryd.func72 rfl Tryd.call72 Tryd.ntmps72 Tryd.results72 (by simp) ?_
    repeat (first|((first|(with_reducible (first|refine Qa fun K E hK hE=>?_|refine Qj fun K E hK hE=>?_|refine FunW.QqZ (cn _) ?_|refine FunW.QqZ (ct _) ?_)));simp -implicitDefEqProofs only[Qc,Qd,OpW,QB,aop,undef,AS.ev,Qr,AV.QqY,↓reduceIte,Qg,Qw,Qv,Qu,Ql,aBin,QP,Q6,ti3,ti9,ti52,YB,zi52,sp52,ti60,QK,QQ,zi60,QJ,Qp,f1,f4,f6,hi,hin,e1,e2,z1,y0,y1,y2,seval])|(with_reducible (first|refine Qf fun K hK=>?_|refine Qi ?_|refine Qk ?_|refine Qb ?_|refine Qn ?_))|((with_reducible refine hK _ ?_);clear hK)|(refine Qh rfl ?_;simp only[↓reduceIte,QrN]))
    refine FunW.QqZ (ce _) ?_
    simp -implicitDefEqProofs only[XN,QB,Xw,Nat.reduceLT]
    (((with_reducible refine hK _ ?_);clear hK))
    refine Y9 2 rfl fun K E hK hE=>?_
    simp only[QrU,Qr1,QrS,Qr0]
    simp -implicitDefEqProofs only[Qc,Qd,OpW,aop,undef,AS.ev,Qr,↓reduceIte,seval]
    repeat ((((with_reducible refine FunW.QqZ (cx _ _ _) ?_));simp -implicitDefEqProofs only[XN,QB,Xw,Nat.reduceLT]))
    simp only[ArrW]
    simp -implicitDefEqProofs only[Qc,Qd,OpW,aop,undef,AS.ev,Qr,AV.QqY,↓reduceIte,Qg,Qu,Ql,QG,ti50,ei50,QaA,zi54,f1,f4,f6,e5,QT,Option.isSome_some,seval]
    repeat (first|((first|(with_reducible (first|refine Qa fun K E hK hE=>?_|refine Qj fun K E hK hE=>?_|refine FunW.QqZ (ce2 _) ?_)));simp -implicitDefEqProofs only[Qc,Qd,OpW,QB,aop,undef,AS.ev,Qr,AV.QqY,↓reduceIte,Qg,Qw,Qv,Qu,Ql,ti52,QJ,Qp,f3,f4,f5,hi1,seval])|(with_reducible (first|refine Qm ?_|refine Qb ?_))|((with_reducible refine hK _ ?_);clear hK))
    simp -implicitDefEqProofs only[Qc,↓reduceIte,Qw,Qv,ti52,Qw,Qv,f3,List.mapM_cons,List.mapM_nil,Option.pure_def,Option.bind_eq_bind,QH,Qo,Qt,QrT,seval]
    refine .inr ⟨?_,_,rfl,hat _ _ _⟩
    rw[gv,hls];rfl
theorem QiJ(hk:s.tk.kind=1)(hx:s.tk.text.toList=[103,114,111,117,110,100]):QL Tryd.prog 72 [.ptr P.i 0 0] (ph h P s) (WC 3 h P (Qa6 12 s.nx)):=by
 have f1:=QU h P
 have f3:=XB h P
 have f4:=Yf h P
 have f5:=Xk h P
 have f6:=XL h P
 have hi:=ph_i H s
 have hin:=ph_i H s.nx
 simp only[pB]at hi hin
 have cn:=nextL hW (X6 H s)
 have ct:=fun L=>Xq hW (H.app L) hN
 simp only[Q4 H]at ct
 have e1:=Tk.Qq0 s.tk
 have e2:=Tk.Qq1 s.tk
 have z1:(s.tk.kind != 1)=false:=by rw[hk];rfl
 have o1:((12:Int)==11)=false:=by decide
 have o2:((12:Int)==12)=true:=by decide
 have y0:(s.tk.text.toList==({data:=#[116,114,117,101]}:ByteArray).toList)=false:=by rw[hx,Lib.toList_data];rfl
 have y1:(s.tk.text.toList==({data:=#[102,97,105,108]}:ByteArray).toList)=false:=by rw[hx,Lib.toList_data];rfl
 have y2:(s.tk.text.toList==({data:=#[105,110,116]}:ByteArray).toList)=false:=by rw[hx,Lib.toList_data];rfl
 have y3:(s.tk.text.toList==({data:=#[103,114,111,117,110,100]}:ByteArray).toList)=true:=by rw[hx,Lib.toList_data];rfl
 have hWn:=hW.nx
 have HR:=QgE hN hD
 rw[Qa6,XO]
 cases hl:s.nx.is sLp with
 |false =>
  rw[if_neg (by simp)]
  have ce:=fun L=>Yj hWn H hN L {data:=#[40]} (by rw[Lib.toList_data];exact hl)
  refine Qe Tryd.func72 rfl Tryd.call72 Tryd.ntmps72 Tryd.results72 (by simp) ?_
  repeat (first|((first|(with_reducible (first|refine Qa fun K E hK hE=>?_|refine Qj fun K E hK hE=>?_|refine FunW.QqZ (cn _) ?_|refine FunW.QqZ (ct _) ?_|refine FunW.pan (FunW.call (ce _)) ?_)));simp -implicitDefEqProofs only[Qc,Qd,OpW,QB,aop,undef,AS.ev,Qr,AV.QqY,↓reduceIte,Qg,Qw,Qv,Qu,Ql,aBin,QP,Q6,ti3,ti9,ti52,YB,zi52,sp52,ti60,QK,QQ,zi60,QJ,Qp,f1,f4,f6,hi,hin,e1,e2,z1,o1,y0,y1,y2,y3,seval])|(with_reducible (first|refine Qf fun K hK=>?_|refine Qi ?_|refine Qk ?_|refine Qb ?_|refine Qn ?_))|((with_reducible refine hK _ ?_);clear hK)|(refine Qh rfl ?_;simp only[↓reduceIte,QrN])|(with_reducible (first|refine hE _ _ ?_|refine QN ?_)))
  exact QW H s s.nx _ _ _ ⟨rfl,_,rfl⟩
 |true =>
  rw[if_pos rfl]
  have ce:=fun L=>XU hWn H hN L {data:=#[40]} (by rw[Lib.toList_data];exact hl)
  have hWm:=hWn.nx
  have him:=ph_i H s.nx.nx
  simp only[pB]at him
  have hlm:s.nx.nx.toks.length<1000001:=by have:=hWm.suf.length_le;omega
  show QL _ _ _ _ (WC 3 h P ((XW s.nx.nx).bind fun t s=>(XO sRp s).bind fun _ s=>.ok ⟨12,eB,[t]⟩ s))
  cases hr:XW s.nx.nx with
  |err p e =>
   have cx:=fun L=>TRd.err HR hlm hWm H hr L
   refine Qe Tryd.func72 rfl Tryd.call72 Tryd.ntmps72 Tryd.results72 (by simp) ?_
   repeat (first|((first|(with_reducible (first|refine Qa fun K E hK hE=>?_|refine Qj fun K E hK hE=>?_|refine FunW.QqZ (cn _) ?_|refine FunW.QqZ (ct _) ?_|refine FunW.QqZ (ce _) ?_|refine FunW.panE (FunW.call (cx _)) fun r=>?_)));simp -implicitDefEqProofs only[Qc,Qd,OpW,QB,aop,undef,AS.ev,Qr,AV.QqY,↓reduceIte,Qg,Qw,Qv,Qu,Ql,aBin,QP,Q6,ti3,ti9,ti52,YB,zi52,sp52,ti60,QK,QQ,zi60,QJ,Qp,f1,f4,f6,hi,hin,e1,e2,z1,o1,y0,y1,y2,y3,seval])|(with_reducible (first|refine Qf fun K hK=>?_|refine Qi ?_|refine Qk ?_|refine Qb ?_|refine Qn ?_))|((with_reducible refine hK _ ?_);clear hK)|(refine Qh rfl ?_;simp only[↓reduceIte,QrN])|(with_reducible (first|refine hE _ _ ?_|refine QN ?_)))
   exact QW H s r _ _ _ ⟨rfl,_,rfl⟩
  |ok t s1 =>
   have cx:=fun(c d e:AB)=>TRd.ok HR hlm hWm H hr [c,d,e] (k:=h.length+3) rfl
   simp only[Qsb,Qsa]at cx
   have hW1:Wst P.all s1:=Kp.Ps.ok (n:=wdOf P.all) (Kp.termT_ps trivial) hWm hr
   have hi1:=ph_i H s1
   simp only[pB]at hi1
   have e5:=T.Qq4 (h.length+3) t
   have e6:=T.Qq5 (h.length+3) t
   have hat:∀(c d e:AB),At (c::d::e::(t.lay 54 (h.length+3)++[.cells 54 4 [t.lv (h.length+3)]])) 3 (layA 54 (h.length+3) [t]):=fun c d e=>by
    have:layA 54 (h.length+3) [t]=t.lay 54 (h.length+3)++[.cells 54 4 [t.lv (h.length+3)]]:=by simp[layA,lays,lvs]
    rw[this]
    exact At.tail (At.tail (At.tail (At.all _)))
   have hls:lsl (h.length+3) [t] = .arr (h.length+((t.lay 54 (h.length+3)).length+1+1+1)) 0 1:=by
    rw[T.Qq3]
    show AV.arr (h.length+3+szs [t] - 1) 0 1=_
    simp only[szs]
    congr 1;omega
   simp only[PR.bind,XO]
   cases hp2:s1.is sRp with
   |false =>
    rw[if_neg (by simp)]
    have ce2:=fun L=>Yj hW1 H hN L {data:=#[41]} (by rw[Lib.toList_data];exact hp2)
    refine Qe Tryd.func72 rfl Tryd.call72 Tryd.ntmps72 Tryd.results72 (by simp) ?_
    repeat (first|((first|(with_reducible (first|refine Qa fun K E hK hE=>?_|refine Qj fun K E hK hE=>?_|refine FunW.QqZ (cn _) ?_|refine FunW.QqZ (ct _) ?_)));simp -implicitDefEqProofs only[Qc,Qd,OpW,QB,aop,undef,AS.ev,Qr,AV.QqY,↓reduceIte,Qg,Qw,Qv,Qu,Ql,aBin,QP,Q6,ti3,ti9,ti52,YB,zi52,sp52,ti60,QK,QQ,zi60,QJ,Qp,f1,f4,f6,hi,hin,e1,e2,z1,o1,y0,y1,y2,y3,seval])|(with_reducible (first|refine Qf fun K hK=>?_|refine Qi ?_|refine Qk ?_|refine Qb ?_|refine Qn ?_))|((with_reducible refine hK _ ?_);clear hK)|(refine Qh rfl ?_;simp only[↓reduceIte,QrN]))
    refine FunW.QqZ (ce _) ?_
    simp -implicitDefEqProofs only[XN,QB,Xw,Nat.reduceLT]
    (((with_reducible refine hK _ ?_);clear hK))
    refine Y9 2 rfl fun K E hK hE=>?_
    simp only[QrU,Qr1,QrS,Qr0]
    simp -implicitDefEqProofs only[Qc,Qd,OpW,aop,undef,AS.ev,Qr,↓reduceIte,seval]
    repeat ((((with_reducible refine FunW.QqZ (cx _ _ _) ?_));simp -implicitDefEqProofs only[XN,QB,Xw,Nat.reduceLT]))
    simp only[ArrW]
    simp -implicitDefEqProofs only[Qc,Qd,OpW,aop,undef,AS.ev,Qr,AV.QqY,↓reduceIte,Qg,Qu,Ql,QG,ti50,ei50,QaA,zi54,f1,f4,f6,e5,QT,Option.isSome_some,seval]
    repeat (first|((first|(with_reducible (first|refine Qj fun K E hK hE=>?_|refine FunW.pan (FunW.call (ce2 _)) ?_)));simp -implicitDefEqProofs only[Qc,Qd,OpW,QB,aop,undef,AS.ev,Qr,↓reduceIte,Qg,QJ,Qp,hi1,seval])|((with_reducible refine hK _ ?_);clear hK)|(with_reducible (first|refine hE _ _ ?_|refine QN ?_)))
    exact QW H s s1 _ _ _ ⟨rfl,_,rfl⟩
   |true =>
    rw[if_pos rfl]
    have ce2:=fun L=>XU hW1 H hN L {data:=#[41]} (by rw[Lib.toList_data];exact hp2)
    refine Qe Tryd.func72 rfl Tryd.call72 Tryd.ntmps72 Tryd.results72 (by simp) ?_
    repeat (first|((first|(with_reducible (first|refine Qa fun K E hK hE=>?_|refine Qj fun K E hK hE=>?_|refine FunW.QqZ (cn _) ?_|refine FunW.QqZ (ct _) ?_)));simp -implicitDefEqProofs only[Qc,Qd,OpW,QB,aop,undef,AS.ev,Qr,AV.QqY,↓reduceIte,Qg,Qw,Qv,Qu,Ql,aBin,QP,Q6,ti3,ti9,ti52,YB,zi52,sp52,ti60,QK,QQ,zi60,QJ,Qp,f1,f4,f6,hi,hin,e1,e2,z1,o1,y0,y1,y2,y3,seval])|(with_reducible (first|refine Qf fun K hK=>?_|refine Qi ?_|refine Qk ?_|refine Qb ?_|refine Qn ?_))|((with_reducible refine hK _ ?_);clear hK)|(refine Qh rfl ?_;simp only[↓reduceIte,QrN]))
    refine FunW.QqZ (ce _) ?_
    simp -implicitDefEqProofs only[XN,QB,Xw,Nat.reduceLT]
    (((with_reducible refine hK _ ?_);clear hK))
    refine Y9 2 rfl fun K E hK hE=>?_
    simp only[QrU,Qr1,QrS,Qr0]
    simp -implicitDefEqProofs only[Qc,Qd,OpW,aop,undef,AS.ev,Qr,↓reduceIte,seval]
    repeat ((((with_reducible refine FunW.QqZ (cx _ _ _) ?_));simp -implicitDefEqProofs only[XN,QB,Xw,Nat.reduceLT]))
    simp only[ArrW]
    simp -implicitDefEqProofs only[Qc,Qd,OpW,aop,undef,AS.ev,Qr,AV.QqY,↓reduceIte,Qg,Qu,Ql,QG,ti50,ei50,QaA,zi54,f1,f4,f6,e5,QT,Option.isSome_some,seval]
    repeat (first|((first|(with_reducible (first|refine Qa fun K E hK hE=>?_|refine Qj fun K E hK hE=>?_|refine FunW.QqZ (ce2 _) ?_)));simp -implicitDefEqProofs only[Qc,Qd,OpW,QB,aop,undef,AS.ev,Qr,AV.QqY,↓reduceIte,Qg,Qw,Qv,Qu,Ql,ti52,QJ,Qp,f3,f4,f5,hi1,seval])|(with_reducible (first|refine Qm ?_|refine Qb ?_))|((with_reducible refine hK _ ?_);clear hK))
    simp -implicitDefEqProofs only[Qc,↓reduceIte,Qw,Qv,ti52,Qw,Qv,f3,List.mapM_cons,List.mapM_nil,Option.pure_def,Option.bind_eq_bind,QH,Qo,Qt,QrT,seval]
    refine .inr ⟨?_,_,rfl,hat _ _ _⟩
    rw[gv,hls];rfl
end
end Go.Proofs.YticgcpebdldbgaaDoor.Ab
set_option maxRecDepth 4000
namespace Go.Proofs.YticgcpebdldbgaaDoor.Ab
open Go.Proofs
theorem QoZ{s:PS}{b:List UInt8}(h:s.is b=true):s.tk.text.toList=b:=by
 simp only[PS.is,Bool.and_eq_true,beq_iff_eq]at h;exact h.2
theorem Qkf{s:PS}{l:List (List UInt8)}(h:s.oneOf l=true):s.tk.text.toList∈l:=by
 rw[PS.oneOf,List.any_eq_true]at h
 obtain⟨b,hb,h⟩:=h
 rw[QoZ h];exact hb
theorem QnJ{ex:PS→PR T}{s:PS}{t:T}{s2:PS}(h:pOpT ex s = .ok t s2)(hk:s.tk.kind=1):t.name=s.tk.text:=by
 rw[pOpT,if_neg (by omega),if_neg (by omega),if_pos hk]at h
 obtain⟨a,s1,h1,h⟩:=bind_ok h
 cases h
 rw[Yz]at h1
 obtain⟨x,s3,h3,h1⟩:=bind_ok h1
 have hx:x=s.tk.text:=by
  rw[ZD]at h3
  split at h3
  ·cases h3
  ·split at h3
   ·cases h3
   ·cases h3;rfl
 split at h1
 ·obtain⟨l,s4,h4,h1⟩:=bind_ok h1
  cases h1
  exact hx
 ·cases h1
  exact hx
theorem Qd0{op:PS→PR T}{ops:List (List UInt8)}:∀(m:Nat) (t:T) (s:PS) (t2:T) (s2:PS),XK op ops m t s = .ok t2 s2→t2.name=t.name∨t2.name.toList∈ops
 |0,t,s,t2,s2,h=>by cases h;exact .inl rfl
 |m+1,t,s,t2,s2,h=>by
  rw[XK]at h
  split at h
  ·rename_i hc
   obtain⟨u,s1,h1,h⟩:=bind_ok h
   rcases Qd0 m _ s1 t2 s2 h with h|h
   ·exact .inr (by rw[h];exact Qkf hc)
   ·exact .inr h
  ·cases h;exact .inl rfl
theorem Qfj{op:PS→PR T}{ops:List (List UInt8)}{s:PS}{t:T}{s2:PS}(h:X4 op ops s = .ok t s2):∃t1 s1,op s = .ok t1 s1∧(t.name=t1.name∨t.name.toList∈ops):=by
 rw[X4]at h
 obtain⟨t1,s1,h1,h⟩:=bind_ok h
 exact⟨t1,s1,h1,Qd0 _ t1 s1 t s2 h⟩
theorem QmG{s:PS}{t:T}{s2:PS}(h:XW s = .ok t s2)(hk:s.tk.kind=1):t.name=s.tk.text∨t.name.toList∈Yy∨t.name.toList∈ZU:=by
 rw[XW,X5]at h
 obtain⟨t1,s1,h1,h2⟩:=Qfj h
 obtain⟨t3,s3,h3,h4⟩:=Qfj h1
 have h5:=QnJ h3 hk
 rcases h2 with h2|h2
 ·rw[h2]
  rcases h4 with h4|h4
  ·exact .inl (by rw[h4,h5])
  ·exact .inr (.inl h4)
 ·exact .inr (.inr h2)
theorem Qn9{s:PS}(hk:s.tk.kind=1)(hr:resB s.tk.text=true):XW s = .err s.tk.pos 7:=by
 rw[XW,X5,X4,X4,pOpT,if_neg (by omega),if_neg (by omega),if_pos hk,Yz,ZD,if_neg (by omega),if_pos hr]
 rfl
def Ql9(s:PS):PR G :=
 if s.tk.kind=1∧s.tk.text.toList=[116,114,117,101]then .ok ⟨1,eB,[]⟩ s.nx else if s.tk.kind=1∧s.tk.text.toList=[102,97,105,108]then .ok ⟨2,eB,[]⟩ s.nx else
 if s.tk.kind=1∧s.tk.text.toList=[105,110,116]then Qa6 11 s.nx else if s.tk.kind=1∧s.tk.text.toList=[103,114,111,117,110,100]then Qa6 12 s.nx else
 (XW s).bind fun t s2=>match Qax s2 with
  |some (op,turn)=>(XW s2.nx).bind fun u s3=>.ok ⟨op,eB,if turn then[u,t]else[t,u]⟩ s3
  |none=>if s.tk.kind≠1∨opB t.name=true then .err s2.tk.pos 16 else .ok ⟨0,t.name,t.args⟩ s2
theorem Qgt{x:ByteArray}:opB x=true↔x.toList∈Yy∨x.toList∈ZU:=by
 simp only[opB,Yy,ZU,Bool.or_eq_true,beq_iff_eq,Lib.toList_data,List.mem_cons,List.not_mem_nil,or_false]
 constructor
 ·intro h
  rcases h with(((h|h)|h)|h)|h <;> simp[h]
 ·intro h
  rcases h with(h|h|h)|h|h <;> simp[h]
theorem Qjq{x:ByteArray}(h:x.toList=[116,114,117,101]∨x.toList=[102,97,105,108]∨x.toList=[105,110,116]∨x.toList=[103,114,111,117,110,100]):resB x=true:=by
 simp only[resB,Lib.toList_data]at h ⊢
 rcases h with h|h|h|h <;> rw[h] <;> decide
theorem Qnn{s:PS}(hop:s.tk.kind=1→opB s.tk.text=false):Ql9 s=ZO s:=by
 rw[Ql9,ZO]
 by_cases hk:s.tk.kind=1
 ·simp only[hk,Qsi,not_true_eq_false,ne_eq,false_or]
  cases hr:resB s.tk.text with
  |true =>
   rw[if_pos rfl,Qn9 hk hr]
   rfl
  |false =>
   have no:∀b,(s.tk.text.toList=b→resB s.tk.text=true)→¬s.tk.text.toList=b:=fun b h q=>by rw[h q]at hr;cases hr
   rw[if_neg (no _ fun q=>Qjq (.inl q)),if_neg (no _ fun q=>Qjq (.inr (.inl q))),if_neg (no _ fun q=>Qjq (.inr (.inr (.inl q)))),if_neg (no _ fun q=>Qjq (.inr (.inr (.inr q)))),if_neg (by decide)]
   refine bind_congr fun t s1 h1=>?_
   cases Qax s1 with
   |some x=>rfl
   |none =>
    simp only
    have ht:=QmG h1 hk
    by_cases ho:opB t.name=true
    ·rw[if_pos ho,if_neg]
     intro q
     have:opB s.tk.text=true:=Qgt.2 (by rw[←q];exact Qgt.1 ho)
     rw[hop hk]at this;cases this
    ·rw[if_neg ho,if_pos]
     rcases ht with ht|ht
     ·rw[ht]
     ·exact absurd (Qgt.2 ht) ho
 ·simp only[hk,false_and,if_false,ne_eq,not_false_eq_true,true_or,if_true]
  exact bind_congr fun t s1 _=>by cases Qax s1 <;> rfl
end Go.Proofs.YticgcpebdldbgaaDoor.Ab
set_option maxRecDepth 4000
namespace Go.Proofs.YticgcpebdldbgaaDoor.Ab
open Go.Proofs
theorem QgY{P:Program}{N:Nat}{f:FuncId}{args:List AV}{s:AS}{d:Option Tmp}{K:AS→Prop}{r:AV}(H:∀hx,Keep s.h hx→QL P f args hx fun o h'=>o = .ret r∧h'=hx)(k:K (AS.put N s d r)):QoF P N (.fn (.func f) [] []) args s d K:=⟨r,fun hx hk=>FunW.call (H hx hk),k⟩
def LQ(h:AH)(P:Pz):PR G→AOut→AH→Prop
 | .ok a s,o,h'=>o = .ret (gv h.length a)∧h'=ph h P s++layA 54 h.length a.args
 | .err p e,o,h'=>o = .panic (Fl p e)∧∃s,h'=ph h P s
def LC(h:AH)(P:Pz):PR G→AOut→AH→Prop
 | .ok a s,o,h'=>(∃g y N,o = .ret (.agg [.i a.op,.v (.string a.name),lsl (h.length+g) a.args])∧h'=ph h P s++N∧At N g (layA 54 (h.length+g) a.args)∧y=g) ∨
   ∃(x y:T) (px pd py pr:Nat) (N:AH),a.args=[x,y]∧o = .ret (.agg [.i a.op,.v (.string a.name),.arr pr 0 2])∧h'=ph h P s++N∧h.length≤px∧h.length≤py∧h.length≤pd ∧
    ((px+x.sz≤pd∧pd<py∧py+y.sz≤pr)∨(py+y.sz≤pd∧pd<px∧px+x.sz≤pr))∧At h' px (x.lay 54 px)∧At h' py (y.lay 54 py)∧h'[pr]? = some (.cells 54 4 [x.lv px,y.lv py])
 | .err p e,o,h'=>o = .panic (Fl p e)∧∃s,h'=ph h P s
theorem Qja{P:Pz}{f:FuncId}{args:List AV}{h:AH}{s:PS}(H:P.ok h){r:PR G}(C:QL Tryd.prog f args (ph h P s) (LC h P r)):QL Tryd.prog f args (ph h P s) (LQ h P r):=by
 refine Qau C fun hb0 o h' hQ=>?_
 cases r with
 |err p e=>exact .inl hQ
 |ok t s2 =>
  have hb:∀b∈ph h P s2,b.Below h.length:=fun b hb=>by
   rw[QU]at hb0
   obtain⟨k,hk⟩:=Zi hb
   rcases Qby H (s0:=s) hk with h1|h1
   ·exact hb0 k b h1
   ·exact h1
  rw[QU]
  rcases hQ with⟨g,_,N,rfl,rfl,hN,_⟩|⟨x,y,px,pd,py,pr,N,ha,rfl,rfl,h1,h2,h3,h4,h5,h6,h7⟩
  ·obtain⟨K,hk⟩:=QnM (QU h P s2) hb g t.args hN
   exact .inr ⟨_,gv h.length t,_,_,rfl,K,Qpb hk,rfl,rfl⟩
  ·obtain⟨K,hk⟩:=Qo8 (QU h P s2) hb x y h1 h2 h3 h4 h5 h6 h7
   rw[←ha]at K hk
   exact .inr ⟨_,gv h.length t,_,_,rfl,K,Qpb hk,rfl,rfl⟩
theorem At.base{A N M:AH}{n k:Nat}(H:At N k M)(hA:A.length=n):At (A++N) (n+k) M:=fun j b hb hl=>by
 have:=H j b hb hl
 rw[List.getElem?_append_right (by omega),hA,show n+k+j - n=k+j by omega];exact this
theorem Qoo{P:Pz}{h:AH}{s3:PS}(c d e f:AB)(t u:T)(op:Int)(sw:Bool):LC h P (.ok ⟨op,eB,if sw then[u,t]else[t,u]⟩ s3)
  (.ret (.agg [.v (.int .i64 op),.v (.string {data:=#[]}),.arr (h.length+((t.lay 54 (h.length+2)).length+((u.lay 54 (h.length+2+t.sz+1)).length+1+1)+1+1)) 0 2]))
  (ph h P s3++(c::d::(t.lay 54 (h.length+2)++(e::(u.lay 54 (h.length+2+t.sz+1)++[f,.cells 54 4 (if sw then[u.lv (h.length+2+t.sz+1),t.lv (h.length+2)]else[t.lv (h.length+2),u.lv (h.length+2+t.sz+1)])]))))):=by
 have l1:=T.Qq3 54 (h.length+2) t
 have l2:=T.Qq3 54 (h.length+2+t.sz+1) u
 have a1:At (ph h P s3++(c::d::(t.lay 54 (h.length+2)++(e::(u.lay 54 (h.length+2+t.sz+1)++[f,.cells 54 4 (if sw then[u.lv (h.length+2+t.sz+1),t.lv (h.length+2)]else[t.lv (h.length+2),u.lv (h.length+2+t.sz+1)])]))))) (h.length+2) (t.lay 54 (h.length+2)) :=
  At.base (At.mid [c,d] _ _ rfl) (QU h P s3)
 have a2:At (ph h P s3++(c::d::(t.lay 54 (h.length+2)++(e::(u.lay 54 (h.length+2+t.sz+1)++[f,.cells 54 4 (if sw then[u.lv (h.length+2+t.sz+1),t.lv (h.length+2)]else[t.lv (h.length+2),u.lv (h.length+2+t.sz+1)])]))))) (h.length+2+t.sz+1) (u.lay 54 (h.length+2+t.sz+1)):=by
  have:=At.base (At.mid (c::d::(t.lay 54 (h.length+2)++[e])) (u.lay 54 (h.length+2+t.sz+1)) [f,.cells 54 4 (if sw then[u.lv (h.length+2+t.sz+1),t.lv (h.length+2)]else[t.lv (h.length+2),u.lv (h.length+2+t.sz+1)])] (n:=2+t.sz+1) (by simp only[QrW,QsA,QrX,l1];omega)) (QU h P s3)
  rw[show h.length+(2+t.sz+1)=h.length+2+t.sz+1 by omega]at this
  simpa only[Qsb,List.append_assoc,Qsa]using this
 have a3:(ph h P s3++(c::d::(t.lay 54 (h.length+2)++(e::(u.lay 54 (h.length+2+t.sz+1)++[f,.cells 54 4 (if sw then[u.lv (h.length+2+t.sz+1),t.lv (h.length+2)]else[t.lv (h.length+2),u.lv (h.length+2+t.sz+1)])])))))[h.length+((t.lay 54 (h.length+2)).length+((u.lay 54 (h.length+2+t.sz+1)).length+1+1)+1+1)]? = some (.cells 54 4 (if sw then[u.lv (h.length+2+t.sz+1),t.lv (h.length+2)]else[t.lv (h.length+2),u.lv (h.length+2+t.sz+1)])):=by
  rw[Yf]
  simp only[QrK]
  rw[hget]
  simp only[QrK]
  rw[hget]
  rfl
 cases sw with
 |false=>exact .inr ⟨t,u,h.length+2,h.length+2+t.sz,h.length+2+t.sz+1,_,_,rfl,rfl,rfl,by omega,by omega,by omega,.inl ⟨by omega,by omega,by omega⟩,a1,a2,a3⟩
 |true=>exact .inr ⟨u,t,h.length+2+t.sz+1,h.length+2+t.sz,h.length+2,_,_,rfl,rfl,rfl,by omega,by omega,by omega,.inr ⟨by omega,by omega,by omega⟩,a2,a1,a3⟩
section
variable{P:Pz}{s:PS}(hW:Wst P.all s){h:AH}(H:P.ok h)(hN:P.all.length≤1000000)(hD:TkOk P.all)
include hW H hN hD
theorem Qcj{r:PR G}(hw:∀L:AH,QL Tryd.prog 72 [.ptr P.i 0 0] (ph (h++L) P s) (WC 3 (h++L) P r)):QL Tryd.prog 55 [.ptr P.i 0 0] (ph h P s) (LQ h P r):=by
 have _u:=hN
 have _v:=hD
 have _w:=hW
 have cw:=fun L=>Qof (H.app L) 3 (hw L)
 have f1:=QU h P
 have f3:=XB h P
 have f4:=Yf h P
 have f5:=Xk h P
 have f6:=XL h P
 refine Qja H ?_
 cases r with
 |err p e =>
  have cw':∀L,QL Tryd.prog 72 [.ptr P.i 0 0] (ph h P s++L) fun o h'=>o = .panic (Fl p e)∧∃s1:PS,h'=ph h P s1++L:=fun L=>by
   have:=cw L
   rw[Q4 H]at this
   exact this.mono fun o h' q=>by simpa only[WQ,Q4 H]using q
  refine Qe Tryd.func55 rfl Tryd.call55 Tryd.ntmps55 Tryd.results55 (by simp) ?_
  repeat (first|((first|(with_reducible (first|refine Qa fun K E hK hE=>?_|refine FunW.panE (FunW.call (cw' _)) fun r=>?_)));simp -implicitDefEqProofs only[Qc,Qd,OpW,QB,aop,undef,AS.ev,Qr,AV.QqY,↓reduceIte,zi52,f1,seval])|(with_reducible refine Qf fun K hK=>?_)|((with_reducible refine hK _ ?_);clear hK)|(with_reducible (first|refine hE _ _ ?_|refine QN ?_)))
  exact QW H s r _ _ _ ⟨rfl,_,rfl⟩
 |ok a s1 =>
  have cw':∀c:AB,QL Tryd.prog 72 [.ptr P.i 0 0] (ph h P s++[c]) fun o h'=>o = .ret (.tup [gv (h.length+1) a,.b true])∧h'=ph h P s1++(c::layA 54 (h.length+1) a.args):=fun c=>by
   have:=cw [c]
   rw[Q4 H]at this
   exact this.mono fun o h' q=>by simpa only[WQ,Q4 H,QsA,QrW,QrX,List.append_assoc,Qsb,Qsa]using q
  simp only[gv]at cw'
  have e5:=Qei (h.length+1) a.args
  have e6:=Qej (h.length+1) a.args
  refine Qe Tryd.func55 rfl Tryd.call55 Tryd.ntmps55 Tryd.results55 (by simp) ?_
  repeat (first|((first|(with_reducible (first|refine Qa fun K E hK hE=>?_|refine FunW.QqZ (cw' _) ?_)));simp -implicitDefEqProofs only[Qc,Qd,OpW,QB,aop,undef,AS.ev,Qr,AV.QqY,↓reduceIte,Qw,Qv,Qu,Ql,Q1,ti52,zi52,f1,f3,f4,f5,f6,QT,seval])|(with_reducible (first|refine Qf fun K hK=>?_|refine Qm ?_|refine Qy ?_))|((with_reducible refine hK _ ?_);clear hK)|(refine Qh rfl ?_;simp only[↓reduceIte]))
  simp -implicitDefEqProofs only[Qc,↓reduceIte,Qw,Qv,ti52,Qw,Qv,f3,QH,Qo,Qt,QrT,seval]
  exact .inr (.inl ⟨1,1,_,rfl,rfl,At.mid [_] _ _ rfl,rfl⟩)
theorem Qlw(hw:∀L:AH,QL Tryd.prog 72 [.ptr P.i 0 0] (ph h P s++L) fun o h'=>o = .ret (.tup [zg,.b false])∧h'=ph h P s++L) :
  QL Tryd.prog 55 [.ptr P.i 0 0] (ph h P s) (LQ h P ((XW s).bind fun t s2=>match Qax s2 with
   |some (op,turn)=>(XW s2.nx).bind fun u s3=>.ok ⟨op,eB,if turn then[u,t]else[t,u]⟩ s3
   |none=>if s.tk.kind≠1∨opB t.name=true then .err s2.tk.pos 16 else .ok ⟨0,t.name,t.args⟩ s2)):=by
 have f1:=QU h P
 have f3:=XB h P
 have f4:=Yf h P
 have f5:=Xk h P
 have f6:=XL h P
 have hi:=ph_i H s
 simp only[pB]at hi
 have cn:=nextL hW (X6 H s)
 have e1:=Tk.Qq0 s.tk
 have e2:=Tk.Qq1 s.tk
 have HR:=QgE hN hD
 have hls:s.toks.length<1000001:=by have:=hW.suf.length_le;omega
 refine Qja H ?_
 cases hr:XW s with
 |err p e =>
  have cx:=fun L=>TRd.err HR hls hW H hr L
  refine Qe Tryd.func55 rfl Tryd.call55 Tryd.ntmps55 Tryd.results55 (by simp) ?_
  repeat (first|((first|(with_reducible (first|refine Qa fun K E hK hE=>?_|refine FunW.QqZ (hw _) ?_|refine FunW.QqZ (cn _) ?_|refine FunW.panE (FunW.call (cx _)) fun r=>?_)));simp -implicitDefEqProofs only[Qc,Qd,OpW,QB,aop,undef,AS.ev,Qr,AV.QqY,↓reduceIte,Qg,Qv,Qu,Ql,aBin,Zq,Q1,ti3,ti52,zi52,QK,QJ,Qp,f1,f4,f6,hi,e1,e2,seval])|(with_reducible (first|refine Qf fun K hK=>?_|refine Qk ?_|refine Qb ?_))|((with_reducible refine hK _ ?_);clear hK)|(refine Qh rfl ?_;simp only[↓reduceIte,QrN])|(with_reducible refine hE _ _ ?_))
  exact QW H s r _ _ _ ⟨rfl,_,rfl⟩
 |ok t s2 =>
  have cx:=fun(c d:AB)=>TRd.ok HR hls hW H hr [c,d] (k:=h.length+2) rfl
  simp only[Qsb,Qsa]at cx
  have hW2:Wst P.all s2:=Kp.Ps.ok (n:=wdOf P.all) (Kp.termT_ps trivial) hW hr
  have hi2:=ph_i H s2
  simp only[pB]at hi2
  have e3:=T.Qq4 (h.length+2) t
  have e4:=T.Qq5 (h.length+2) t
  have cm:=fun L=>Qd3 hW2 (H.app L) hN
  show QL _ _ _ _ (LC h P (match Qax s2 with
   |some (op,turn)=>(XW s2.nx).bind fun u s3=>.ok ⟨op,eB,if turn then[u,t]else[t,u]⟩ s3
   |none=>if s.tk.kind≠1∨opB t.name=true then .err s2.tk.pos 16 else .ok ⟨0,t.name,t.args⟩ s2))
  cases hc:Qax s2 with
  |none =>
   rw[hc]at cm
   have cm':∀L,QL Tryd.prog 74 [.ptr P.i 0 0] (ph h P s2++L) fun o h'=>o = .ret (.tup [.i 0,.b false,.b false])∧h'=ph h P s2++L:=fun L=>by
    have:=cm L
    rw[Q4 H]at this
    exact this.mono fun o h' q=>by simpa only[MQ,Q4 H]using q
   have cn2:=nextL hW2 (X6 H s2)
   have cf:=YL s2.tk 16
   by_cases hk:s.tk.kind=1
   ·have z1:(s.tk.kind==1)=true:=by simpa using hk
    have co:=Qcr t.name
    cases hop:opB t.name with
    |true =>
     rw[hop]at co
     simp only[or_true,if_true]
     refine Qe Tryd.func55 rfl Tryd.call55 Tryd.ntmps55 Tryd.results55 (by simp) ?_
     repeat (first|((first|(with_reducible (first|refine Qa fun K E hK hE=>?_|refine FunW.QqZ (hw _) ?_|refine FunW.QqZ (cn _) ?_|refine FunW.QqZ (cx _ _) ?_|refine FunW.QqZ (cm' _) ?_|refine Qz co ?_)));simp -implicitDefEqProofs only[Qc,Qd,OpW,QB,aop,undef,AS.ev,Qr,AV.QqY,↓reduceIte,Qg,Qw,Qv,Qu,Ql,aBin,Zq,Q1,ti3,ti9,ti52,zi52,ti54,ZV,zi54,QK,QJ,Qp,f1,f4,f6,hi,e1,e2,e3,e4,QT,z1,seval])|(with_reducible (first|refine Qf fun K hK=>?_|refine Qk ?_|refine Qb ?_))|((with_reducible refine hK _ ?_);clear hK)|(refine Qh rfl ?_;simp only[↓reduceIte,QrN]))
     refine Xd 7 [(0,1),(1,0),(2,0),(3,1),(4,0),(5,0),(6,0)] mixed rfl rfl rfl (by kernel_rfl) (fun v h'=>v=Fl s2.tk.pos 16∧∃L,h'=ph h P s2++L) ?_ ?_
     ·rintro tm v h' ⟨rfl,L,rfl⟩
      exact QW H s s2 _ _ _ ⟨rfl,_,rfl⟩
     ·simp -implicitDefEqProofs only[Qc,Qd,aop,undef,AS.ev,Qr,↓reduceIte,Qg,QJ,Qp,hi2,seval]
      refine QgY (fun hx hkp=>XM hW2 (hkp _ _ (ph_i H s2 _) (fun _ _ _ q=>by unfold pB at q;cases q))) ?_
      simp -implicitDefEqProofs only[Qdx,Xw,Yq,↓reduceIte,Nat.reduceLT,Nat.reduceEqDiff]
      exact fun _=>(FunW.call (cf _ _)).mono (by rintro _ _ ⟨rfl,rfl⟩;exact⟨_,rfl,rfl,_,rfl⟩)
    |false =>
     rw[hop]at co
     simp only[hk,ne_eq,not_true_eq_false,QrN,or_self,if_false]
     have e5:=Qei (h.length+2) t.args
     have e6:=Qej (h.length+2) t.args
     have hat:∀(c d:AB) X,At (c::d::(t.lay 54 (h.length+2)++X)) 2 (layA 54 (h.length+2) t.args):=fun c d X=>by rw[T.Qq8];exact At.mid [c,d] _ _ rfl
     refine Qe Tryd.func55 rfl Tryd.call55 Tryd.ntmps55 Tryd.results55 (by simp) ?_
     repeat (first|((first|(with_reducible (first|refine Qa fun K E hK hE=>?_|refine FunW.QqZ (hw _) ?_|refine FunW.QqZ (cn _) ?_|refine FunW.QqZ (cx _ _) ?_|refine FunW.QqZ (cm' _) ?_|refine Qz co ?_)));simp -implicitDefEqProofs only[Qc,Qd,OpW,QB,aop,undef,AS.ev,Qr,AV.QqY,↓reduceIte,Qg,Qw,Qv,Qu,Ql,aBin,Zq,Q1,QP,Q6,ti3,ti9,ti50,ti52,zi52,sp52,ti54,ZV,Zx,zi54,QK,QJ,Qp,f1,f3,f4,f5,f6,hi,e1,e2,e3,e4,e5,QT,z1,seval])|(with_reducible (first|refine Qf fun K hK=>?_|refine Qm ?_|refine Qk ?_|refine Qb ?_))|((with_reducible refine hK _ ?_);clear hK)|(refine Qh rfl ?_;simp only[↓reduceIte,QrN]))
     simp -implicitDefEqProofs only[Qc,↓reduceIte,Qw,Qv,ti52,Qw,Qv,f3,QH,Qo,Qt,QrT,seval]
     exact .inr (.inl ⟨2,2,_,rfl,rfl,hat _ _ _,rfl⟩)
   ·have z1:(s.tk.kind==1)=false:=by simpa using hk
    rw[if_pos (.inl hk)]
    refine Qe Tryd.func55 rfl Tryd.call55 Tryd.ntmps55 Tryd.results55 (by simp) ?_
    repeat (first|((first|(with_reducible (first|refine Qa fun K E hK hE=>?_|refine FunW.QqZ (hw _) ?_|refine FunW.QqZ (cn _) ?_|refine FunW.QqZ (cx _ _) ?_|refine FunW.QqZ (cm' _) ?_)));simp -implicitDefEqProofs only[Qc,Qd,OpW,QB,aop,undef,AS.ev,Qr,AV.QqY,↓reduceIte,Qg,Qv,Qu,Ql,aBin,Zq,Q1,ti3,ti52,zi52,ti54,zi54,QK,QJ,Qp,f1,f4,f6,hi,e1,e2,e3,e4,QT,z1,seval])|(with_reducible (first|refine Qf fun K hK=>?_|refine Qk ?_|refine Qb ?_))|((with_reducible refine hK _ ?_);clear hK)|(refine Qh rfl ?_;simp only[↓reduceIte,QrN]))
    refine Xd 7 [(0,1),(1,0),(2,0),(3,1),(4,0),(5,0),(6,0)] mixed rfl rfl rfl (by kernel_rfl) (fun v h'=>v=Fl s2.tk.pos 16∧∃L,h'=ph h P s2++L) ?_ ?_
    ·rintro tm v h' ⟨rfl,L,rfl⟩
     exact QW H s s2 _ _ _ ⟨rfl,_,rfl⟩
    ·simp -implicitDefEqProofs only[Qc,Qd,aop,undef,AS.ev,Qr,↓reduceIte,Qg,QJ,Qp,hi2,seval]
     refine QgY (fun hx hkp=>XM hW2 (hkp _ _ (ph_i H s2 _) (fun _ _ _ q=>by unfold pB at q;cases q))) ?_
     simp -implicitDefEqProofs only[Qdx,Xw,Yq,↓reduceIte,Nat.reduceLT,Nat.reduceEqDiff]
     exact fun _=>(FunW.call (cf _ _)).mono (by rintro _ _ ⟨rfl,rfl⟩;exact⟨_,rfl,rfl,_,rfl⟩)
  |some x =>
   obtain⟨op,turn⟩:=x
   rw[hc]at cm
   have cm':∀L,QL Tryd.prog 74 [.ptr P.i 0 0] (ph h P s2++L) fun o h'=>o = .ret (.tup [.i op,.b turn,.b true])∧h'=ph h P s2.nx++L:=fun L=>by
    have:=cm L
    rw[Q4 H]at this
    exact this.mono fun o h' q=>by simpa only[MQ,Q4 H]using q
   have hkc:s2.tk.kind≠0:=Qfk hc
   have hWn:=hW2.nx
   have hin:=ph_i H s2.nx
   simp only[pB]at hin
   have hln:s2.nx.toks.length<1000001:=by have:=hWn.suf.length_le;omega
   show QL _ _ _ _ (LC h P ((XW s2.nx).bind fun u s3=>.ok ⟨op,eB,if turn then[u,t]else[t,u]⟩ s3))
   cases hr2:XW s2.nx with
   |err p e =>
    have cy:=fun L=>TRd.err HR hln hWn H hr2 L
    refine Qe Tryd.func55 rfl Tryd.call55 Tryd.ntmps55 Tryd.results55 (by simp) ?_
    repeat (first|((first|(with_reducible (first|refine Qa fun K E hK hE=>?_|refine FunW.QqZ (hw _) ?_|refine FunW.QqZ (cn _) ?_|refine FunW.QqZ (cx _ _) ?_|refine FunW.QqZ (cm' _) ?_|refine FunW.panE (FunW.call (cy _)) fun r=>?_)));simp -implicitDefEqProofs only[Qc,Qd,OpW,QB,aop,undef,AS.ev,Qr,AV.QqY,↓reduceIte,Qg,Qv,Qu,Ql,aBin,Zq,Q1,ti3,ti52,zi52,ti54,zi54,QK,QJ,Qp,f1,f4,f6,hi,e1,e2,e3,e4,QT,seval])|(with_reducible (first|refine Qf fun K hK=>?_|refine Qk ?_|refine Qb ?_))|((with_reducible refine hK _ ?_);clear hK)|(refine Qh rfl ?_;simp only[↓reduceIte,QrN])|(with_reducible (first|refine hE _ _ ?_|refine QN ?_)))
    exact QW H s r _ _ _ ⟨rfl,_,rfl⟩
   |ok u s3 =>
    have cy:=fun(c d f:AB)=>TRd.ok HR hln hWn H hr2 (c::d::(t.lay 54 (h.length+2)++[f])) (k:=h.length+2+t.sz+1) (by simp only[QrW,QsA,T.Qq3,QrX];omega)
    simp only[Qsb,List.append_assoc,Qsa]at cy
    have e5:=T.Qq4 (h.length+2+t.sz+1) u
    have e6:=T.Qq5 (h.length+2+t.sz+1) u
    have g1:∀(X:AH),(t.lay 54 (h.length+2)++X)[(t.lay 54 (h.length+2)).length]? = X[0]? := fun X=>Qad _ _
    have g2:∀(X:AH) (y:AB),(t.lay 54 (h.length+2)++X).set (t.lay 54 (h.length+2)).length y=t.lay 54 (h.length+2)++X.set 0 y:=fun X y=>QbT _ _ _
    have g3:∀(X:AH),(u.lay 54 (h.length+2+t.sz+1)++X)[(u.lay 54 (h.length+2+t.sz+1)).length]? = X[0]? := fun X=>Qad _ _
    have g4:∀(X:AH) (y:AB),(u.lay 54 (h.length+2+t.sz+1)++X).set (u.lay 54 (h.length+2+t.sz+1)).length y=u.lay 54 (h.length+2+t.sz+1)++X.set 0 y:=fun X y=>QbT _ _ _
    cases turn with
    |false =>
     refine Qe Tryd.func55 rfl Tryd.call55 Tryd.ntmps55 Tryd.results55 (by simp) ?_
     repeat (first|((first|(with_reducible (first|refine Qa fun K E hK hE=>?_|refine FunW.QqZ (hw _) ?_|refine FunW.QqZ (cn _) ?_|refine FunW.QqZ (cx _ _) ?_|refine FunW.QqZ (cm' _) ?_)));simp -implicitDefEqProofs only[Qc,Qd,OpW,QB,aop,undef,AS.ev,Qr,AV.QqY,↓reduceIte,Qg,Qv,Qu,Ql,aBin,Zq,Q1,ti3,ti52,zi52,ti54,zi54,QK,QJ,Qp,f1,f4,f6,hi,e1,e2,e3,e4,QT,List.append_assoc,g1,g2,seval])|(with_reducible (first|refine Qf fun K hK=>?_|refine Qk ?_|refine Qb ?_))|((with_reducible refine hK _ ?_);clear hK)|(refine Qh rfl ?_;simp only[↓reduceIte,QrN]))
     refine FunW.QqZ (cy _ _ _) ?_
     simp -implicitDefEqProofs only[Qc,Qd,OpW,QB,aop,undef,AS.ev,AV.QqY,↓reduceIte,Qu,Ql,ti54,zi54,f1,f4,f6,e5,e6,QT,List.append_assoc,g3,g4,seval]
     (((with_reducible refine hK _ ?_);clear hK))
     iterate 7 (try (first|(((with_reducible refine Qa fun K E hK hE=>?_));simp -implicitDefEqProofs only[Qc,Qd,OpW,aop,AS.ev,↓reduceIte,seval])|(with_reducible (first|refine Qf fun K hK=>?_|refine Qk ?_|refine Qb ?_))|((with_reducible refine hK _ ?_);clear hK)|(refine Qh rfl ?_;simp only[↓reduceIte,QrN])))
     refine Y9 3 rfl fun K E hK hE=>?_
     simp only[QrU,Qr1,QrS,Qr0]
     simp -implicitDefEqProofs only[Qc,Qd,OpW,aop,AS.ev,↓reduceIte,Qw,Qv,ti54,f4,e3,e4,e5,e6,g1,g3,seval]
     simp only[ArrW]
     simp -implicitDefEqProofs only[Qc,Qd,OpW,aop,undef,AS.ev,Qr,AV.QqY,↓reduceIte,Qu,Ql,QP,Q6,QG,ei50,ti52,zi52,sp52,zi54,f1,f3,f5,e3,e5,QT,List.append_assoc,Option.isSome_some,seval]
     repeat (first|(with_reducible (first|refine Qm ?_|refine Qy ?_))|((with_reducible refine hK _ ?_);clear hK))
     simp -implicitDefEqProofs only[Qc,↓reduceIte,Qw,Qv,ti52,Qw,Qv,f3,QH,Qo,Qt,QrT,seval]
     exact .inr (Qoo _ _ _ _ t u op false)
    |true =>
     refine Qe Tryd.func55 rfl Tryd.call55 Tryd.ntmps55 Tryd.results55 (by simp) ?_
     repeat (first|((first|(with_reducible (first|refine Qa fun K E hK hE=>?_|refine FunW.QqZ (hw _) ?_|refine FunW.QqZ (cn _) ?_|refine FunW.QqZ (cx _ _) ?_|refine FunW.QqZ (cm' _) ?_)));simp -implicitDefEqProofs only[Qc,Qd,OpW,QB,aop,undef,AS.ev,Qr,AV.QqY,↓reduceIte,Qg,Qv,Qu,Ql,aBin,Zq,Q1,ti3,ti52,zi52,ti54,zi54,QK,QJ,Qp,f1,f4,f6,hi,e1,e2,e3,e4,QT,List.append_assoc,g1,g2,seval])|(with_reducible (first|refine Qf fun K hK=>?_|refine Qk ?_|refine Qb ?_))|((with_reducible refine hK _ ?_);clear hK)|(refine Qh rfl ?_;simp only[↓reduceIte,QrN]))
     refine FunW.QqZ (cy _ _ _) ?_
     simp -implicitDefEqProofs only[Qc,Qd,OpW,QB,aop,undef,AS.ev,AV.QqY,↓reduceIte,Qu,Ql,ti54,zi54,f1,f4,f6,e5,e6,QT,List.append_assoc,g3,g4,seval]
     (((with_reducible refine hK _ ?_);clear hK))
     iterate 8 (try (first|((first|(with_reducible (first|refine Qa fun K E hK hE=>?_|refine Qj fun K E hK hE=>?_)));simp -implicitDefEqProofs only[Qc,Qd,OpW,aop,undef,AS.ev,AV.QqY,↓reduceIte,Qw,Qv,Qu,Ql,ti54,f4,f6,e3,e4,e5,e6,QT,g1,g2,g3,g4,seval])|(with_reducible (first|refine Qf fun K hK=>?_|refine Qb ?_))|((with_reducible refine hK _ ?_);clear hK)|(refine Qh rfl ?_;simp only[↓reduceIte])))
     refine Y9 3 rfl fun K E hK hE=>?_
     simp only[QrU,Qr1,QrS,Qr0]
     simp -implicitDefEqProofs only[Qc,Qd,OpW,aop,AS.ev,↓reduceIte,Qw,Qv,ti54,f4,e3,e4,e5,e6,g1,g3,seval]
     simp only[ArrW]
     simp -implicitDefEqProofs only[Qc,Qd,OpW,aop,undef,AS.ev,Qr,AV.QqY,↓reduceIte,Qu,Ql,QP,Q6,QG,ei50,ti52,zi52,sp52,zi54,f1,f3,f5,e3,e5,QT,List.append_assoc,Option.isSome_some,seval]
     repeat (first|(with_reducible (first|refine Qm ?_|refine Qy ?_))|((with_reducible refine hK _ ?_);clear hK))
     simp -implicitDefEqProofs only[Qc,↓reduceIte,Qw,Qv,ti52,Qw,Qv,f3,QH,Qo,Qt,QrT,seval]
     exact .inr (Qoo _ _ _ _ t u op true)
end
end Go.Proofs.YticgcpebdldbgaaDoor.Ab
set_option maxRecDepth 4000
namespace Go.Proofs.YticgcpebdldbgaaDoor.Ab
open Go.Proofs
theorem Qe4(g:G):Pure Tryd.prog 56 [g.goal] (.b (Q5 g)):=by
 intro h
 refine Qe Tryd.func56 rfl Tryd.call56 Tryd.ntmps56 Tryd.results56 (by simp) ?_
 iterate 4 (try (first|(((with_reducible refine Qa fun K E hK hE=>?_));simp -implicitDefEqProofs only[Qc,Qd,OpW,aop,undef,AS.ev,Qr,AV.QqY,↓reduceIte,Xm,seval])|((with_reducible refine hK _ ?_);clear hK)))
 refine Q2 (fun s=>g.op≠0∧s.tm 1 = .ptr h.length 0 0∧s.tm 3 = .i (Qbd g.op)∧s.h=h++[.cells 52 3 [g.goal]]) ?_ ?_
 ·rintro⟨tm,hp⟩ ⟨k0,t1,t3,hh⟩
  dsimp only at t1 t3 hh
  subst hh
  cases p0:decide (g.op>0)
  ·skip
   have R:Q5 g=false:=by
    rw[Q5,if_neg k0,decide_eq_false (by simp at p0;omega)];rfl
   iterate 2 (try (first|(((with_reducible refine Qa fun K E hK hE=>?_));simp -implicitDefEqProofs only[Qc,Qd,OpW,aop,AS.ev,AV.QqY,↓reduceIte,QP,Q6,QhS,QhL,seval])|((with_reducible refine hK _ ?_);clear hK)))
   (with_reducible refine Qa fun K E hK hE=>?_)
   (try simp only[Qsk]);refine QI 8 (fun K1 hK1=>?_);simp -implicitDefEqProofs only[Qc,Qd,OpW,aop,undef,AS.ev,↓reduceIte,Qg,Qw,Qv,aBin,ti3,YB,Xm,t1,p0,seval];refine hK1 _ ?_;clear hK1
   (try simp only[QrS,Qr0]);refine QI 6 (fun K1 hK1=>?_);simp -implicitDefEqProofs only[Qc,Qd,OpW,aop,undef,AS.ev,↓reduceIte,seval];refine hK1 _ ?_;clear hK1
   (try simp only[QrS,Qr0]);refine QI 6 (fun K1 hK1=>?_);simp -implicitDefEqProofs only[Qc,Qd,OpW,aop,undef,AS.ev,↓reduceIte,seval];refine hK1 _ ?_;clear hK1
   (try simp only[QrS,Qr0])
   simp -implicitDefEqProofs only[Qc,Qd,OpW,aop,undef,AS.ev,↓reduceIte,seval]
   repeat (first|(with_reducible refine Qm ?_)|((with_reducible refine hK _ ?_);clear hK))
   simp only[QH,Qo,Qt,upd,↓reduceIte,QrP,QrT];(refine Qq (htake _ _) (.keep (.v _)) ⟨by rw[R],rfl⟩)
  cases p1:decide (g.op≤12)
  ·skip
   have R:Q5 g=false:=by
    rw[Q5,if_neg k0,decide_eq_false (by simp at p1;omega)];rfl
   iterate 2 (try (first|(((with_reducible refine Qa fun K E hK hE=>?_));simp -implicitDefEqProofs only[Qc,Qd,OpW,aop,AS.ev,AV.QqY,↓reduceIte,QP,Q6,QhS,QhL,seval])|((with_reducible refine hK _ ?_);clear hK)))
   (with_reducible refine Qa fun K E hK hE=>?_)
   (try simp only[Qsk]);refine QI 8 (fun K1 hK1=>?_);simp -implicitDefEqProofs only[Qc,Qd,OpW,aop,AS.ev,↓reduceIte,Qg,Qw,Qv,aBin,ti3,YB,Xm,t1,p0,p1,seval];refine hK1 _ ?_;clear hK1
   (try simp only[QrS,Qr0]);refine QI 6 (fun K1 hK1=>?_);simp -implicitDefEqProofs only[Qc,Qd,OpW,aop,undef,AS.ev,↓reduceIte,seval];refine hK1 _ ?_;clear hK1
   (try simp only[QrS,Qr0]);refine QI 6 (fun K1 hK1=>?_);simp -implicitDefEqProofs only[Qc,Qd,OpW,aop,undef,AS.ev,↓reduceIte,seval];refine hK1 _ ?_;clear hK1
   (try simp only[QrS,Qr0])
   simp -implicitDefEqProofs only[Qc,Qd,OpW,aop,undef,AS.ev,↓reduceIte,seval]
   repeat (first|(with_reducible refine Qm ?_)|((with_reducible refine hK _ ?_);clear hK))
   simp only[QH,Qo,Qt,upd,↓reduceIte,QrP,QrT];(refine Qq (htake _ _) (.keep (.v _)) ⟨by rw[R],rfl⟩)
  have p2:decide (0<g.op∧g.op≤12)=true:=decide_eq_true ⟨of_decide_eq_true p0,of_decide_eq_true p1⟩
  cases c3:QbH g.name
  ·have c3':(g.name.toList==({data:=#[]}:ByteArray).toList)=false:=c3
   have R:Q5 g=false:=by
    rw[Q5,if_neg k0,p2,c3];rfl
   iterate 2 (try (first|(((with_reducible refine Qa fun K E hK hE=>?_));simp -implicitDefEqProofs only[Qc,Qd,OpW,aop,AS.ev,AV.QqY,↓reduceIte,QP,Q6,QhS,QhL,seval])|((with_reducible refine hK _ ?_);clear hK)))
   (with_reducible refine Qa fun K E hK hE=>?_)
   (try simp only[Qsk]);refine QI 8 (fun K1 hK1=>?_);simp -implicitDefEqProofs only[Qc,Qd,OpW,aop,AS.ev,↓reduceIte,Qg,Qw,Qv,aBin,ti3,YB,Xm,t1,p0,p1,seval];refine hK1 _ ?_;clear hK1
   (try simp only[QrS,Qr0]);refine QI 6 (fun K1 hK1=>?_);simp -implicitDefEqProofs only[Qc,Qd,OpW,aop,AS.ev,↓reduceIte,Qg,Qw,Qv,aBin,ti9,Qft,Xm,t1,c3',seval];refine hK1 _ ?_;clear hK1
   (try simp only[QrS,Qr0]);refine QI 6 (fun K1 hK1=>?_);simp -implicitDefEqProofs only[Qc,Qd,OpW,aop,undef,AS.ev,↓reduceIte,seval];refine hK1 _ ?_;clear hK1
   (try simp only[QrS,Qr0])
   simp -implicitDefEqProofs only[Qc,Qd,OpW,aop,undef,AS.ev,↓reduceIte,seval]
   repeat (first|(with_reducible refine Qm ?_)|((with_reducible refine hK _ ?_);clear hK))
   simp only[QH,Qo,Qt,upd,↓reduceIte,QrP,QrT];(refine Qq (htake _ _) (.keep (.v _)) ⟨by rw[R],rfl⟩)
  have c3':(g.name.toList==({data:=#[]}:ByteArray).toList)=true:=c3
  cases c4:((g.args.length:Int)==Qbd g.op)
  ·have c5:decide ((g.args.length:Int)=Qbd g.op)=false:=decide_eq_false (by simpa using c4)
   have R:Q5 g=false:=by
    rw[Q5,if_neg k0,p2,c3,c5];rfl
   iterate 2 (try (first|(((with_reducible refine Qa fun K E hK hE=>?_));simp -implicitDefEqProofs only[Qc,Qd,OpW,aop,AS.ev,AV.QqY,↓reduceIte,QP,Q6,QhS,QhL,seval])|((with_reducible refine hK _ ?_);clear hK)))
   (with_reducible refine Qa fun K E hK hE=>?_)
   (try simp only[Qsk]);refine QI 8 (fun K1 hK1=>?_);simp -implicitDefEqProofs only[Qc,Qd,OpW,aop,AS.ev,↓reduceIte,Qg,Qw,Qv,aBin,ti3,YB,Xm,t1,p0,p1,seval];refine hK1 _ ?_;clear hK1
   (try simp only[QrS,Qr0]);refine QI 6 (fun K1 hK1=>?_);simp -implicitDefEqProofs only[Qc,Qd,OpW,aop,AS.ev,↓reduceIte,Qg,Qw,Qv,aBin,ti9,Qft,Xm,t1,c3',seval];refine hK1 _ ?_;clear hK1
   (try simp only[QrS,Qr0]);refine QI 6 (fun K1 hK1=>?_);simp -implicitDefEqProofs only[Qc,Qd,OpW,aop,AS.ev,↓reduceIte,Qg,Qw,Qv,aBin,aLen,goInt,ti50,un50,QaA,Xm,t1,t3,c4,seval];refine hK1 _ ?_;clear hK1
   (try simp only[QrS,Qr0])
   simp -implicitDefEqProofs only[Qc,Qd,OpW,aop,undef,AS.ev,↓reduceIte,seval]
   repeat (first|(with_reducible refine Qm ?_)|((with_reducible refine hK _ ?_);clear hK))
   simp only[QH,Qo,Qt,upd,↓reduceIte,QrP,QrT];(refine Qq (htake _ _) (.keep (.v _)) ⟨by rw[R],rfl⟩)
  have c5:decide ((g.args.length:Int)=Qbd g.op)=true:=decide_eq_true (by simpa using c4)
  have c6:(g.args.length:Int)≤2:=by
   have c7:(g.args.length:Int)=Qbd g.op:=by simpa using c4
   rw[c7,Qbd];split <;> (try split) <;> decide
  have ca:=Qog g.args (by omega) (h++[.cells 52 3 [g.goal],.cells 121 1 [.agg [.i 200]]]) (h.length+1) (by rw[hget];rfl)
  rw[hset]at ca
  have R:Q5 g=(runL g.args 200 20).1:=by
   rw[Q5,if_neg k0,p2,c3,c5];rfl
  iterate 2 (try (first|(((with_reducible refine Qa fun K E hK hE=>?_));simp -implicitDefEqProofs only[Qc,Qd,OpW,aop,AS.ev,AV.QqY,↓reduceIte,QP,Q6,QhS,QhL,seval])|((with_reducible refine hK _ ?_);clear hK)))
  (with_reducible refine Qa fun K E hK hE=>?_)
  (try simp only[Qsk]);refine QI 8 (fun K1 hK1=>?_);simp -implicitDefEqProofs only[Qc,Qd,OpW,aop,AS.ev,↓reduceIte,Qg,Qw,Qv,aBin,ti3,YB,Xm,t1,p0,p1,seval];refine hK1 _ ?_;clear hK1
  (try simp only[QrS,Qr0]);refine QI 6 (fun K1 hK1=>?_);simp -implicitDefEqProofs only[Qc,Qd,OpW,aop,AS.ev,↓reduceIte,Qg,Qw,Qv,aBin,ti9,Qft,Xm,t1,c3',seval];refine hK1 _ ?_;clear hK1
  (try simp only[QrS,Qr0]);refine QI 6 (fun K1 hK1=>?_);simp -implicitDefEqProofs only[Qc,Qd,OpW,aop,AS.ev,↓reduceIte,Qg,Qw,Qv,aBin,aLen,goInt,ti50,un50,QaA,Xm,t1,t3,c4,seval];refine hK1 _ ?_;clear hK1
  (try simp only[QrS,Qr0])
  simp -implicitDefEqProofs only[Qc,Qd,OpW,aop,AS.ev,↓reduceIte,Qg,Qw,Qv,ti50,QaA,Xm,t1,seval]
  repeat (first|(((with_reducible refine FunW.QqZ ca ?_));simp -implicitDefEqProofs only[Qc,Qd,OpW,QB,aop,AS.ev,↓reduceIte,seval])|(with_reducible refine Qm ?_)|((with_reducible refine hK _ ?_);clear hK))
  simp only[QH,Qo,Qt,upd,↓reduceIte,QrP,QrT];(refine Qq (htake _ _) (.keep (.v _)) ⟨by rw[R],rfl⟩)
 ·by_cases k0:g.op=0
  ·have c:=QbM ⟨0,g.name,g.args⟩
   rw[show G.atom ⟨0,g.name,g.args⟩=AV.agg [.v (.string g.name),.sl 4 (avs g.args) none]from rfl]at c
   have R:Q5 g=Q8 ⟨0,g.name,g.args⟩:=by
    rw[Q5,if_pos k0]
   have z0:(g.op==0)=true:=by simp[k0]
   repeat (first|((first|(with_reducible (first|refine Qa fun K E hK hE=>?_|refine Qz c ?_)));simp -implicitDefEqProofs only[Qc,Qd,OpW,QB,aop,undef,AS.ev,Qr,AV.QqY,↓reduceIte,Qg,Qw,Qv,aBin,QP,Q6,ti3,ti9,ti50,YB,Qft,QaA,zi72,sp72,Xm,z0,seval])|(with_reducible (first|refine Qi ?_|refine Qm ?_|refine Qy ?_|refine QE ?_))|((with_reducible refine hK _ ?_);clear hK)|(refine Qh rfl ?_;simp only[↓reduceIte]))
   simp only[QH,Qo,Qt,upd,↓reduceIte,QrP,QrT];(refine Qq (htake _ _) (.keep (.v _)) ⟨by rw[R],rfl⟩)
  have z0:(g.op==0)=false:=by simp[k0]
  by_cases k1:g.op=1
  ·have z1:(g.op==1)=true:=by simp[k1]
   have gn:Qbd g.op=0:=by simp[Qbd,k1]
   repeat (first|((first|(with_reducible (first|refine Qa fun K E hK hE=>?_|refine Qj fun K E hK hE=>?_)));simp -implicitDefEqProofs only[Qc,Qd,OpW,aop,AS.ev,↓reduceIte,Qg,Qw,Qv,aBin,ti3,YB,Xm,z0,z1,seval])|(with_reducible (first|refine Qf fun K hK=>?_|refine Qi ?_|refine Qk ?_|refine Qb ?_|refine Qn ?_))|((with_reducible refine hK _ ?_);clear hK)|(refine Qh rfl ?_;simp only[↓reduceIte,QrN]))
   exact⟨k0,rfl,by rw[gn];rfl,rfl⟩
  have z1:(g.op==1)=false:=by simp[k1]
  by_cases k2:g.op=2
  ·have z2:(g.op==2)=true:=by simp[k2]
   have gn:Qbd g.op=0:=by simp[Qbd,k2]
   repeat (first|((first|(with_reducible (first|refine Qa fun K E hK hE=>?_|refine Qj fun K E hK hE=>?_)));simp -implicitDefEqProofs only[Qc,Qd,OpW,aop,AS.ev,↓reduceIte,Qg,Qw,Qv,aBin,ti3,YB,Xm,z0,z1,z2,seval])|(with_reducible (first|refine Qf fun K hK=>?_|refine Qi ?_|refine Qb ?_|refine Qn ?_))|((with_reducible refine hK _ ?_);clear hK)|(refine Qh rfl ?_;simp only[↓reduceIte,QrN]))
   exact⟨k0,rfl,by rw[gn];rfl,rfl⟩
  have z2:(g.op==2)=false:=by simp[k2]
  by_cases k11:g.op=11
  ·have z11:(g.op==11)=true:=by simp[k11]
   have gn:Qbd g.op=1:=by simp[Qbd,k11]
   repeat (first|((first|(with_reducible (first|refine Qa fun K E hK hE=>?_|refine Qj fun K E hK hE=>?_)));simp -implicitDefEqProofs only[Qc,Qd,OpW,aop,AS.ev,↓reduceIte,Qg,Qw,Qv,aBin,ti3,YB,Xm,z0,z1,z2,z11,seval])|(with_reducible (first|refine Qf fun K hK=>?_|refine Qi ?_|refine Qk ?_|refine Qb ?_|refine Qn ?_))|((with_reducible refine hK _ ?_);clear hK)|(refine Qh rfl ?_;simp only[↓reduceIte,QrN]))
   exact⟨k0,rfl,by rw[gn];rfl,rfl⟩
  have z11:(g.op==11)=false:=by simp[k11]
  by_cases k12:g.op=12
  ·have z12:(g.op==12)=true:=by simp[k12]
   have gn:Qbd g.op=1:=by simp[Qbd,k12]
   repeat (first|((first|(with_reducible (first|refine Qa fun K E hK hE=>?_|refine Qj fun K E hK hE=>?_)));simp -implicitDefEqProofs only[Qc,Qd,OpW,aop,AS.ev,↓reduceIte,Qg,Qw,Qv,aBin,ti3,YB,Xm,z0,z1,z2,z11,z12,seval])|(with_reducible (first|refine Qf fun K hK=>?_|refine Qi ?_|refine Qb ?_|refine Qn ?_))|((with_reducible refine hK _ ?_);clear hK)|(refine Qh rfl ?_;simp only[↓reduceIte,QrN]))
   exact⟨k0,rfl,by rw[gn];rfl,rfl⟩
  have z12:(g.op==12)=false:=by simp[k12]
  have gn:Qbd g.op=2:=by simp[Qbd,k1,k2,k11,k12]
  repeat (first|((first|(with_reducible (first|refine Qa fun K E hK hE=>?_|refine Qj fun K E hK hE=>?_)));simp -implicitDefEqProofs only[Qc,Qd,OpW,aop,AS.ev,↓reduceIte,Qg,Qw,Qv,aBin,ti3,YB,Xm,z0,z1,z2,z11,z12,seval])|(with_reducible (first|refine Qf fun K hK=>?_|refine Qi ?_|refine Qk ?_|refine Qb ?_|refine Qn ?_))|((with_reducible refine hK _ ?_);clear hK)|(refine Qh rfl ?_;simp only[↓reduceIte,QrN]))
  exact⟨k0,rfl,by rw[gn];rfl,rfl⟩
theorem Qha{P:Pz}{s:PS}(hW:Wst P.all s){h:AH}(H:P.ok h)(hN:P.all.length≤1000000)(hD:TkOk P.all):QL Tryd.prog 55 [.ptr P.i 0 0] (ph h P s) (LQ h P (ZO s)):=by
 rw[←Qnn (fun hk=>hD.nam _ (QmJ hW) hk)]
 unfold Ql9
 have rest:=Qlw hW H hN hD
 have fin:(∀L:AH,QL Tryd.prog 72 [.ptr P.i 0 0] (ph (h++L) P s) fun o h'=>o = .ret (.tup [zg,.b false])∧h'=ph (h++L) P s)→_:=fun q=>rest fun L=>by
  have:=q L
  simpa only[Q4 H]using this
 by_cases hk:s.tk.kind=1
 ·by_cases h0:s.tk.text.toList=[116,114,117,101]
  ·rw[if_pos ⟨hk,h0⟩];exact Qcj hW H hN hD fun L=>Qm0 hW (H.app L) hN hD hk h0
  ·rw[if_neg (fun q=>h0 q.2)]
   by_cases h1:s.tk.text.toList=[102,97,105,108]
   ·rw[if_pos ⟨hk,h1⟩];exact Qcj hW H hN hD fun L=>QmX hW (H.app L) hN hD hk h1
   ·rw[if_neg (fun q=>h1 q.2)]
    by_cases h2:s.tk.text.toList=[105,110,116]
    ·rw[if_pos ⟨hk,h2⟩];exact Qcj hW H hN hD fun L=>Qoc hW (H.app L) hN hD hk h2
    ·rw[if_neg (fun q=>h2 q.2)]
     by_cases h3:s.tk.text.toList=[103,114,111,117,110,100]
     ·rw[if_pos ⟨hk,h3⟩];exact Qcj hW H hN hD fun L=>QiJ hW (H.app L) hN hD hk h3
     ·rw[if_neg (fun q=>h3 q.2)]
      exact fin fun L=>QmY hW (H.app L) hN hD hk h0 h1 h2 h3
 ·rw[if_neg (fun q=>hk q.1),if_neg (fun q=>hk q.1),if_neg (fun q=>hk q.1),if_neg (fun q=>hk q.1)]
  exact fin fun L=>Qod hW (H.app L) hN hD hk
def gsz:List G→Nat
 |[]=>0
 |g::l=>szs g.args+2+gsz l
def lvG(vw:Nat→G→AV)(n:Nat):List G→List AV
 |[]=>[]
 |g::l=>vw (n+1) g::lvG vw (n+szs g.args+2) l
def layG(tt:TypeId)(n:Nat):List G→AH
 |[]=>[]
 |g::l=>.dead::(layA tt (n+1) g.args++(.dead::layG tt (n+szs g.args+2) l))
theorem Zk:∀l m:List G,gsz (l++m)=gsz l+gsz m
 |[],m=>by simp[gsz]
 |g::l,m=>by rw[List.cons_append,gsz,gsz,Zk l m];omega
theorem Yx(vw:Nat→G→AV):∀(n:Nat) (l:List G),(lvG vw n l).length=l.length
 |_,[]=>rfl
 |n,g::l=>by rw[lvG,List.length_cons,Yx];rfl
theorem QO(tt:TypeId):∀(n:Nat) (l:List G),(layG tt n l).length=gsz l
 |_,[]=>rfl
 |n,g::l=>by rw[layG,List.length_cons,List.length_append,List.length_cons,Yg,QO,gsz];omega
theorem Qgk(vw:Nat→G→AV):∀(n:Nat) (l:List G) (g:G),lvG vw n (l++[g])=lvG vw n l++[vw (n+gsz l+1) g]
 |n,[],g=>by simp[lvG,gsz]
 |n,a::l,g=>by
  rw[List.cons_append,lvG,lvG,Qgk vw _ l g,gsz,List.cons_append]
  rw[show n+szs a.args+2+gsz l+1=n+(szs a.args+2+gsz l)+1 by omega]
theorem Qee(tt:TypeId):∀(n:Nat) (l:List G) (g:G),layG tt n (l++[g])=layG tt n l++(.dead::(layA tt (n+gsz l+1) g.args++[.dead]))
 |n,[],g=>by simp[layG,gsz]
 |n,a::l,g=>by
  rw[List.cons_append,layG,layG,Qee tt _ l g,gsz]
  rw[show n+szs a.args+2+gsz l+1=n+(szs a.args+2+gsz l)+1 by omega]
  simp only[Qsb,List.append_assoc]
theorem Qhk{tt:TypeId}:∀{m m':Nat} (l:List G) (j:Nat) (b b':AB),(layG tt m l)[j]? = some b→(layG tt m' l)[j]? = some b'→b.live=false→b' = .dead
 |m,m',[],j,b,b',h1,h2,hl=>by simp[layG]at h1
 |m,m',g::l,j,b,b',h1,h2,hl=>by
  rw[layG]at h1 h2
  cases j with
  |zero=>cases h1;cases h2;rfl
  |succ j =>
   rw[List.getElem?_cons_succ,List.getElem?_append,Yg]at h1 h2
   split at h1
   ·rename_i hj
    rw[if_pos hj]at h2
    exact Qhh g.args j b b' h1 h2 hl
   ·rename_i hj
    rw[if_neg hj]at h2
    cases hk:j - szs g.args with
    |zero=>rw[hk]at h1 h2;cases h1;cases h2;rfl
    |succ k =>
     rw[hk,List.getElem?_cons_succ]at h1 h2
     exact Qhk l k b b' h1 h2 hl
theorem Qi9{n:Nat}{τ:Nat→Nat}{h2:AH}{tt:TypeId}:∀{m m':Nat} (l:List G),Sh n τ h2 m m' (gsz l)→∀(j:Nat) b b',(layG tt m l)[j]? = some b→(layG tt m' l)[j]? = some b'→PkB n τ h2 b b'
 |m,m',[],H,j,b,b',h1,h3=>by simp[layG]at h1
 |m,m',g::l,H,j,b,b',h1,h3=>by
  rw[gsz]at H
  rw[layG]at h1 h3
  cases j with
  |zero=>cases h1;cases h3;exact .inl rfl
  |succ j =>
   rw[List.getElem?_cons_succ,List.getElem?_append,Yg]at h1 h3
   split at h1
   ·rename_i hj
    rw[if_pos hj]at h3
    have hs:=H.sub (k:=1) (l:=szs g.args) (a:=m+1) (b:=m'+1) (by omega) rfl rfl
    exact QdD g.args (Qiv hs) hs j b b' h1 h3
   ·rename_i hj
    rw[if_neg hj]at h3
    cases hk:j - szs g.args with
    |zero=>rw[hk]at h1 h3;cases h1;cases h3;exact .inl rfl
    |succ k =>
     rw[hk,List.getElem?_cons_succ]at h1 h3
     exact Qi9 l (H.sub (k:=szs g.args+2) (l:=gsz l) (a:=m+szs g.args+2) (b:=m'+szs g.args+2) (by omega) (by omega) (by omega)) k b b' h1 h3
theorem Qop{n:Nat}{τ:Nat→Nat}{h2:AH}{vw:Nat→G→AV}{w:Nat}(hw:∀m g,(vw m g).cells.length=w)(hp:∀m m' g,Sh n τ h2 m m' (szs g.args)→∀(j:Nat) a a',(vw m g).cells[j]? = some a→(vw m' g).cells[j]? = some a'→Pk n τ h2 a a') :
  ∀{m m':Nat} (l:List G),Sh n τ h2 m m' (gsz l)→(∀y∈lvG vw m' l,y.cells.length=w)∧(flat (lvG vw m' l)).length=(flat (lvG vw m l)).length∧∀(j:Nat) a a',(flat (lvG vw m l))[j]? = some a→(flat (lvG vw m' l))[j]? = some a'→Pk n τ h2 a a'
 |m,m',[],H=>⟨by simp[lvG],rfl,fun j a a' h1=>by simp[lvG,flat]at h1⟩
 |m,m',g::l,H=>by
  rw[gsz]at H
  have h1:=hp (m+1) (m'+1) g (H.sub (k:=1) (l:=szs g.args) (by omega) rfl rfl)
  obtain⟨h3,h4,h5⟩:=Qop hw hp l (H.sub (k:=szs g.args+2) (l:=gsz l) (a:=m+szs g.args+2) (b:=m'+szs g.args+2) (by omega) (by omega) (by omega))
  refine⟨fun y hy=>?_,?_,fun j a a' ha hb=>?_⟩
  ·rw[lvG,List.mem_cons]at hy
   rcases hy with rfl|hy
   ·exact hw _ _
   ·exact h3 y hy
  ·rw[lvG,lvG,Q7,Q7,List.length_append,List.length_append,h4,hw,hw]
  ·rw[lvG,Q7,List.getElem?_append,hw]at ha hb
   split at ha
   ·rename_i hj;rw[if_pos hj]at hb;exact h1 j a a' ha hb
   ·rename_i hj;rw[if_neg hj]at hb;exact h5 _ a a' ha hb
theorem QqN{tt:TypeId}{A N:AH}{n:Nat}(hn:A.length=n)(hb:∀b∈A,b.Below n)(g:Nat)(l:List G){vw:Nat→G→AV}{w:Nat}(hw:∀m g,(vw m g).cells.length=w)
  (hp:∀(τ:Nat→Nat) (h2:AH) m m' g,Sh n τ h2 m m' (szs g.args)→∀(j:Nat) a a',(vw m g).cells[j]? = some a→(vw m' g).cells[j]? = some a'→Pk n τ h2 a a') (own:Option Nat) (hN:At N g (layG tt (n+g) l)) :
  Pack n (tauG n g) (A++N) (A++layG tt n l)∧Pk n (tauG n g) (A++layG tt n l) (.sl w (lvG vw (n+g) l) own) (.sl w (lvG vw n l) none):=by
 have hsh:=shG (L':=layG tt n l) hn g
 rw[QO]at hsh
 obtain⟨h1,h2,h3⟩:=Qop hw (hp _ _) l hsh
 exact⟨QfM hn hb (by rw[QO,QO]) hN (fun h j b b' h1 h2=>Qi9 l hsh j b b' h1 h2) (fun j b b' h1 h2 hl=>Qhk l j b b' h1 h2 hl),.sl (by rw[Yx,Yx]) h1 h2 h3⟩
theorem QoU(m:Nat)(g:G):(gv m g).cells.length=3:=rfl
theorem QqL{n:Nat}{τ:Nat→Nat}{h2:AH}{m m':Nat}{g:G}(H:Sh n τ h2 m m' (szs g.args)):∀(j:Nat) a a',(gv m g).cells[j]? = some a→(gv m' g).cells[j]? = some a'→Pk n τ h2 a a':=fun j a a' h1 h3=>by
 match j,h1,h3 with
 |0,h1,h3=>cases h1;cases h3;exact .keep (.v _)
 |1,h1,h3=>cases h1;cases h3;exact .keep (.v _)
 |2,h1,h3=>cases h1;cases h3;exact Qjn H
 |j+3,h1,h3=>simp[gv,AV.cells]at h1
def av(n:Nat)(g:G):AV:=.agg [.v (.string g.name),lsl n g.args]
theorem QoN(m:Nat)(g:G):(av m g).cells.length=2:=rfl
theorem Qqr{n:Nat}{τ:Nat→Nat}{h2:AH}{m m':Nat}{g:G}(H:Sh n τ h2 m m' (szs g.args)):∀(j:Nat) a a',(av m g).cells[j]? = some a→(av m' g).cells[j]? = some a'→Pk n τ h2 a a':=fun j a a' h1 h3=>by
 match j,h1,h3 with
 |0,h1,h3=>cases h1;cases h3;exact .keep (.v _)
 |1,h1,h3=>cases h1;cases h3;exact Qjn H
 |j+2,h1,h3=>simp[av,AV.cells]at h1
theorem Qe2(g:G){n:Nat}{h:AH}(hA:At h n (layA 54 n g.args)):QL Tryd.prog 56 [gv n g] h fun o h'=>o = .ret (.b (Q5 g))∧h'=h:=by
 refine Qfg (args':=[g.goal]) rfl (fun j a a' h1 h2=>?_) (Qe4 g [])
 match j,h1,h2 with
 |0,h1,h2 =>
  cases h1;cases h2
  refine .agg rfl fun j a a' h1 h2=>?_
  match j,h1,h2 with
  |0,h1,h2=>cases h1;cases h2;exact .keep (.v _)
  |1,h1,h2=>cases h1;cases h2;exact .keep (.v _)
  |2,h1,h2=>cases h1;cases h2;exact Qen (Nat.zero_le _) hA
  |j+3,h1,h2=>simp at h1
 |j+1,h1,h2=>simp at h1
theorem Qe1(g:G){n:Nat}{h:AH}(hA:At h n (layA 54 n g.args)):QL Tryd.prog 62 [av n g] h fun o h'=>o = .ret (.b (Q8 g))∧h'=h:=by
 refine Qfg (args':=[g.atom]) rfl (fun j a a' h1 h2=>?_) (QbM g [])
 match j,h1,h2 with
 |0,h1,h2 =>
  cases h1;cases h2
  refine .agg rfl fun j a a' h1 h2=>?_
  match j,h1,h2 with
  |0,h1,h2=>cases h1;cases h2;exact .keep (.v _)
  |1,h1,h2=>cases h1;cases h2;exact Qen (Nat.zero_le _) hA
  |j+2,h1,h2=>simp at h1
 |j+1,h1,h2=>simp at h1
end Go.Proofs.YticgcpebdldbgaaDoor.Ab
set_option maxRecDepth 4000
namespace Go.Proofs.YticgcpebdldbgaaDoor.Ab
open Go.Proofs
def GsQ(h:AH)(P:Pz)(vw:Nat→G→AV)(w:Nat):PR (List G)→AOut→AH→Prop
 | .ok l s,o,h'=>o = .ret (.sl w (lvG vw h.length l) none)∧h'=ph h P s++layG 54 h.length l
 | .err p e,o,h'=>o = .panic (Fl p e)∧∃s,h'=ph h P s
def GsC(h:AH)(P:Pz)(vw:Nat→G→AV)(w:Nat):PR (List G)→AOut→AH→Prop
 | .ok l s,o,h'=>∃own N,o = .ret (.sl w (lvG vw (h.length+1) l) own)∧h'=ph h P s++N∧At N 1 (layG 54 (h.length+1) l)
 | .err p e,o,h'=>o = .panic (Fl p e)∧∃s,h'=ph h P s
theorem Qi5{P:Pz}{f:FuncId}{args:List AV}{h:AH}{s:PS}(H:P.ok h){vw:Nat→G→AV}{w:Nat}(hw:∀m g,(vw m g).cells.length=w)
  (hp:∀(τ:Nat→Nat) (h2:AH) m m' g,Sh h.length τ h2 m m' (szs g.args)→∀(j:Nat) a a',(vw m g).cells[j]? = some a→(vw m' g).cells[j]? = some a'→Pk h.length τ h2 a a') {r:PR (List G)} (C:QL Tryd.prog f args (ph h P s) (GsC h P vw w r)):QL Tryd.prog f args (ph h P s) (GsQ h P vw w r):=by
 refine Qau C fun hb0 o h' hQ=>?_
 cases r with
 |err p e=>exact .inl hQ
 |ok t s2 =>
  have hb:∀b∈ph h P s2,b.Below h.length:=fun b hb=>by
   rw[QU]at hb0
   obtain⟨k,hk⟩:=Zi hb
   rcases Qby H (s0:=s) hk with h1|h1
   ·exact hb0 k b h1
   ·exact h1
  rw[QU]
  obtain⟨own,N,rfl,rfl,hN⟩:=hQ
  obtain⟨K,hk⟩:=QqN (QU h P s2) hb 1 t hw hp own hN
  exact .inr ⟨_,_,_,_,rfl,K,hk,rfl,rfl⟩
section
variable{P:Pz}{s:PS}(hW:Wst P.all s){h:AH}(H:P.ok h)(hN:P.all.length≤1000000)(hD:TkOk P.all)(L:AH)
include hW H hN
theorem QeB(n m:Int)(hm:¬m≤n):QL Tryd.prog 19 [.ptr P.i 0 0,.i n,.i m] (ph h P s++L) fun o h'=>o = .ret (.tup [])∧h'=ph h P s++L:=by
 have:=QnZ hW (H.app L) hN n m hm
 simpa only[Q4 H]using this
theorem Qgy(n m:Int)(hm:m≤n):QL Tryd.prog 19 [.ptr P.i 0 0,.i n,.i m] (ph h P s++L) fun o h'=>o = .panic (Fl s.tk.pos 6)∧h'=ph h P s++L:=by
 have:=Qpk hW (H.app L) hN n m hm
 simpa only[Q4 H]using this
include hD
theorem QoT{g:G}{s2:PS}(e:ZO s = .ok g s2){k:Nat}(hk:k=h.length+L.length):QL Tryd.prog 55 [.ptr P.i 0 0] (ph h P s++L) fun o h'=>o = .ret (gv k g)∧h'=ph h P s2++(L++layA 54 k g.args):=by
 have:=Qha hW (H.app L) hN hD
 rw[e,Q4 H]at this
 subst hk
 exact this.mono fun o h' q=>by simpa only[LQ,Q4 H,QsA,List.append_assoc]using q
theorem Qnp{p c:Int}(e:ZO s = .err p c):QL Tryd.prog 55 [.ptr P.i 0 0] (ph h P s++L) fun o h'=>o = .panic (Fl p c)∧∃s2:PS,h'=ph h P s2++L:=by
 have:=Qha hW (H.app L) hN hD
 rw[e,Q4 H]at this
 exact this.mono fun o h' q=>by simpa only[LQ,Q4 H]using q
end
section
variable{P:Pz}{s:PS}(hW:Wst P.all s){h:AH}(H:P.ok h)(hN:P.all.length≤1000000)(hD:TkOk P.all)
include hW H hN hD
theorem Qlx(most:Nat)(hmost:most≤100):QL Tryd.prog 29 [.ptr P.i 0 0,.i (most:Nat)] (ph h P s) (GsC h P gv 3 (Yo most s)):=by
 have f1:=QU h P
 have f3:=XB h P
 have f4:=Yf h P
 have f5:=Xk h P
 have f6:=XL h P
 generalize hR:Yo most s=R
 rw[Yo]at hR
 refine Qe Tryd.func29 rfl Tryd.call29 Tryd.ntmps29 Tryd.results29 (by simp) ?_
 repeat (first|(((with_reducible refine Qa fun K E hK hE=>?_));simp -implicitDefEqProofs only[XN,Y0,Qd,OpW,aop,AS.ev,Xw,Qcq,Nat.reduceLT])|(with_reducible refine Qi ?_)|((with_reducible refine hK _ ?_);clear hK))
 refine ZC 5 52 3 rfl ?_
 obtain⟨I,hI⟩:∃I:Nat→AS→Prop,I=fun m' s=>∃(l:List G) (s2:PS) (X:AH),m'=s2.toks.length∧Wst P.all s2∧l.length≤most∧(∃k,s2.toks.length+1≤k∧Yh most k l s2=R)∧X.length=gsz l∧At X 0 (layG 54 (h.length+1) l)∧s.tm 0 = .ptr P.i 0 0∧s.tm 1 = .i (most:Nat)∧s.tm 5 = .sl 3 (lvG gv (h.length+1) l) (some h.length) ∧
  s.h=ph h P s2++(.grow 52 3 l.length::X):=⟨_,rfl⟩;refine QR I ?_ (m:=s.toks.length) ?_
 ·intro m' s hs;rw[hI]at hs;obtain⟨tm,hp⟩:=s;dsimp only at hs;obtain⟨l,s2,X,rfl,hW2,hlm,⟨k,hk,hR2⟩,hX,hAt,t0,t1,t5,rfl⟩:=hs
  have hk1:k=k - 1+1:=by omega
  have hi2:=ph_i H s2
  simp only[pB]at hi2
  have elen:(lvG gv (h.length+1) l).length=l.length:=Yx gv (h.length+1) l
  by_cases hm:most≤l.length
  ·have hRR:R = .err s2.tk.pos 6:=by rw[←hR2,hk1,Yh,if_pos hm]
   subst hRR
   have cr:=fun L=>Qgy hW2 H hN L (l.length:Nat) (most:Nat) (by omega)
   repeat (first|((first|(with_reducible (first|refine Qa fun K E hK hE=>?_|refine FunW.pan (FunW.call (cr _)) ?_)));simp -implicitDefEqProofs only[Qc,Qd,OpW,QB,aop,AS.ev,↓reduceIte,Qg,aLen,goInt,un32,QJ,Qp,t0,t1,t5,hi2,elen,seval])|(with_reducible (first|refine Qi ?_|refine hE _ _ ?_|refine QN ?_|refine Xb ?_)))
   exact QW H s s2 _ _ _ ⟨rfl,_,rfl⟩
  ·have cr:=fun L=>QeB hW2 H hN L (l.length:Nat) (most:Nat) (by omega)
   have cn:=nextL hW2 (X6 H s2)
   have e1:=Tk.Qq0 s2.tk
   have e2:=Tk.Qq1 s2.tk
   have x1:∀(Y:AH),(X++Y)[X.length]? = Y[0]? := fun Y=>Qad _ _
   have x2:∀(Y:AH) k,(X++Y)[X.length+k]? = Y[k]? := fun Y k=>hget _ _ _
   have x3:∀(Y:AH) y,(X++Y).set X.length y=X++Y.set 0 y:=fun Y y=>QbT _ _ _
   have x4:∀(Y:AH) k y,(X++Y).set (X.length+k) y=X++Y.set k y:=fun Y k y=>hset _ _ _ _
   cases hr:ZO s2 with
   |err p e =>
    have hRR:R = .err p e:=by rw[←hR2,hk1,Yh,if_neg hm,hr];rfl
    subst hRR
    have cg:=fun L=>Qnp hW2 H hN hD L hr
    repeat (first|((first|(with_reducible (first|refine Qa fun K E hK hE=>?_|refine FunW.QqZ (cr _) ?_|refine FunW.QqZ (cn _) ?_|refine FunW.panE (FunW.call (cg _)) fun r=>?_)));simp -implicitDefEqProofs only[Qc,Qd,OpW,QB,aop,undef,AS.ev,AV.QqY,↓reduceIte,Qg,Qu,Ql,aLen,goInt,un32,ti60,zi60,QJ,Qp,t0,t1,t5,hi2,elen,e1,e2,f1,f4,f6,x1,x3,seval])|(with_reducible refine Qi ?_)|((with_reducible refine hK _ ?_);clear hK)|(with_reducible (first|refine hE _ _ ?_|refine QN ?_|refine Xb ?_)))
    exact QW H s r _ _ _ ⟨rfl,_,rfl⟩
   |ok g s3 =>
    have hW3:Wst P.all s3:=Kp.Ps.ok (n:=wdOf P.all) (Kp.goalT_ps trivial) hW2 hr
    have hl3:=(QaB s2 hW2.wf g s3 hr).2
    have hi3:=ph_i H s3
    simp only[pB]at hi3
    have cg:=fun c d=>QoT hW2 H hN hD (c::(X++[d])) hr (k:=h.length+1+gsz l+1) (by simp only[QrW,QsA,QrX,hX];omega)
    simp only[Qsb,List.append_assoc,Qsa]at cg
    have cR:∀(c d:AB) (Y:AH),QL Tryd.prog 56 [gv (h.length+1+gsz l+1) g] (ph h P s3++(c::(X++(d::(layA 54 (h.length+1+gsz l+1) g.args++Y))))) fun o h'=>o = .ret (.b (Q5 g))∧h'=ph h P s3++(c::(X++(d::(layA 54 (h.length+1+gsz l+1) g.args++Y)))):=fun c d Y=>Qe2 g (by
     have:=At.base (At.mid (c::(X++[d])) (layA 54 (h.length+1+gsz l+1) g.args) Y (n:=1+gsz l+1) (by simp only[QrW,QsA,QrX,hX];omega)) (QU h P s3)
     rw[show h.length+(1+gsz l+1)=h.length+1+gsz l+1 by omega]at this
     simpa only[Qsb,List.append_assoc,Qsa]using this)
    have e3:(gv (h.length+1+gsz l+1) g).cells=[.i g.op,.v (.string g.name),lsl (h.length+1+gsz l+1) g.args]:=rfl
    have e4:(gv (h.length+1+gsz l+1) g).isAgg=true:=rfl
    have y1:∀(Y:AH),(layA 54 (h.length+1+gsz l+1) g.args++Y)[(layA 54 (h.length+1+gsz l+1) g.args).length]? = Y[0]? := fun Y=>Qad _ _
    have y2:∀(Y:AH) y,(layA 54 (h.length+1+gsz l+1) g.args++Y).set (layA 54 (h.length+1+gsz l+1) g.args).length y=layA 54 (h.length+1+gsz l+1) g.args++Y.set 0 y:=fun Y y=>QbT _ _ _
    cases hg:Q5 g with
    |false =>
     have hRR:R = .err s2.tk.pos 6:=by rw[←hR2,hk1,Yh,if_neg hm,hr];show(if Q5 g=false then _ else _)=_;rw[if_pos hg]
     subst hRR
     have cf:=YL s2.tk 6
     rw[hg]at cR
     repeat (first|((first|(with_reducible (first|refine Qa fun K E hK hE=>?_|refine FunW.QqZ (cr _) ?_|refine FunW.QqZ (cn _) ?_|refine FunW.QqZ (cg _ _) ?_|refine FunW.QqZ (cR _ _ _) ?_)));simp -implicitDefEqProofs only[Qc,Qd,OpW,QB,aop,undef,AS.ev,AV.QqY,↓reduceIte,Qg,Qw,Qv,Qu,Ql,aLen,goInt,un32,ti52,zi52,ti60,zi60,QJ,Qp,t0,t1,t5,hi2,elen,e1,e2,e3,e4,f1,f4,f6,x1,x2,x3,x4,y1,y2,QT,List.append_assoc,seval])|(with_reducible (first|refine Qf fun K hK=>?_|refine Qi ?_))|((with_reducible refine hK _ ?_);clear hK)|(refine Qh rfl ?_;simp only[↓reduceIte]))
     refine Xd 4 [(0,1),(1,0),(2,0),(3,0)] mixed rfl rfl rfl (by kernel_rfl) (fun v h'=>v=Fl s2.tk.pos 6∧∃L,h'=ph h P s3++L) ?_ ?_
     ·rintro tm v h' ⟨rfl,L,rfl⟩
      exact QW H s s3 _ _ _ ⟨rfl,_,rfl⟩
     ·simp -implicitDefEqProofs only[Qc,Qd,aop,AS.ev,↓reduceIte,Qg,Qw,Qv,ti60,QJ,Qp,t0,hi3,e1,e2,f4,x1,seval]
      exact fun _=>(FunW.call (cf _ _)).mono (by rintro _ _ ⟨rfl,rfl⟩;exact⟨_,rfl,rfl,_,rfl⟩)
    |true =>
     rw[hg]at cR
     have hm1:(l.length+1) * 48≤140737488355328:=by omega
     have hm2:l.length+1≤maxLen:=by simp only[maxLen];omega
     have hR3:(if s3.is Y6=true then Yh most (k - 1) (l++[g]) s3.nx else PR.ok (l++[g]) s3)=R:=by
      rw[←hR2,hk1,Yh,if_neg hm,hr]
      show _=(if Q5 g=false then _ else _)
      rw[hg];rfl
     have hX2:∀c d:AB,(X++(c::(layA 54 (h.length+1+gsz l+1) g.args++[d]))).length=gsz (l++[g]):=fun c d=>by
      simp only[QsA,QrW,QrX,Yg,hX,Zk,gsz];try omega
     have hA2:∀c d:AB,At (X++(c::(layA 54 (h.length+1+gsz l+1) g.args++[d]))) 0 (layG 54 (h.length+1) (l++[g])):=fun c d=>by
      rw[Qee]
      refine At.both (hAt.app _) (At.cons (fun q=>by cases q) ?_)
      rw[QO]
      have:=At.mid (X++[c]) (layA 54 (h.length+1+gsz l+1) g.args) [d] (n:=0+gsz l+1) (by simp only[QsA,QrW,QrX,hX];omega)
      refine At.both ?_ (At.cons (fun q=>by cases q) (At.nil _ _))
      simpa only[List.append_assoc,Qsb,Qsa]using this
     have elv:=Qgk gv (h.length+1) l g
     cases hc:s3.is Y6 with
     |true =>
      have cs:=fun L=>Zw hW3 H hN L {data:=#[44]} (by rw[Lib.toList_data];exact hc)
      rw[hc,if_pos rfl]at hR3
      have hln3:=Xo hW3.wf (PS.Qq2 hc)
      repeat (first|((first|(with_reducible (first|refine Qa fun K E hK hE=>?_|refine FunW.QqZ (cr _) ?_|refine FunW.QqZ (cn _) ?_|refine FunW.QqZ (cg _ _) ?_|refine FunW.QqZ (cR _ _ _) ?_|refine FunW.QqZ (cs _) ?_)));simp -implicitDefEqProofs only[Qc,Qd,OpW,QB,aop,undef,AS.ev,AV.QqY,↓reduceIte,Qg,Qw,Qv,Qu,Ql,QG,aLen,XI,Yk,goInt,ei32,ai32,un32,ti52,zi52,ti60,zi60,QJ,Qp,t0,t1,t5,hi2,hi3,elen,e1,e2,e3,e4,f1,f3,f4,f5,f6,x1,x2,x3,x4,y1,y2,QT,List.append_assoc,hm1,hm2,seval])|(with_reducible (first|refine Qf fun K hK=>?_|refine Qi ?_|refine Qk ?_|refine Qb ?_|refine Qn ?_))|((with_reducible refine hK _ ?_);clear hK)|(refine Qh rfl ?_;simp only[↓reduceIte,QrN]))
      refine Xi.mk (m':=s3.nx.toks.length) (by omega) ?_
      rw[hI]
      refine⟨l++[g],s3.nx,X++(.cells 60 3 [s2.tk.av]::(layA 54 (h.length+1+gsz l+1) g.args++[.cells 52 3 [gv (h.length+1+gsz l+1) g]])),rfl,hW3.nx,by simp;omega,⟨k - 1,by omega,hR3⟩,hX2 _ _,hA2 _ _,t0,t1,?_,?_⟩
      ·rw[elv];rfl
      ·rw[List.length_append];rfl
     |false =>
      have cs:=fun L=>ZZ hW3 H hN L {data:=#[44]} (by rw[Lib.toList_data];exact hc)
      rw[hc,if_neg (by simp)]at hR3
      subst hR3
      repeat (first|((first|(with_reducible (first|refine Qa fun K E hK hE=>?_|refine FunW.QqZ (cr _) ?_|refine FunW.QqZ (cn _) ?_|refine FunW.QqZ (cg _ _) ?_|refine FunW.QqZ (cR _ _ _) ?_|refine FunW.QqZ (cs _) ?_)));simp -implicitDefEqProofs only[Qc,Qd,OpW,QB,aop,undef,AS.ev,AV.QqY,↓reduceIte,Qg,Qw,Qv,Qu,Ql,QG,aLen,XI,Yk,goInt,ei32,ai32,un32,ti52,zi52,ti60,zi60,QJ,Qp,t0,t1,t5,hi2,hi3,elen,e1,e2,e3,e4,f1,f3,f4,f5,f6,x1,x2,x3,x4,y1,y2,QT,List.append_assoc,hm1,hm2,seval])|(with_reducible (first|refine Qf fun K hK=>?_|refine Qi ?_|refine Qm ?_|refine Qk ?_|refine Qb ?_|refine Qy ?_|refine QE ?_))|((with_reducible refine hK _ ?_);clear hK)|(refine Qh rfl ?_;simp only[↓reduceIte,QrN]))
      simp only[QH,Qo,Qt,upd,↓reduceIte,QrP,QrT]
      rw[←elv]
      exact .inr ⟨_,_,rfl,rfl,At.tail (hA2 _ _)⟩
 ·rw[hI]
  exact⟨[],s,[],rfl,hW,Nat.zero_le _,⟨_,Nat.le_refl _,hR⟩,rfl,At.nil _ _,rfl,rfl,by simp only[upd,↓reduceIte,QU];rfl,rfl⟩
end
end Go.Proofs.YticgcpebdldbgaaDoor.Ab
set_option maxRecDepth 4000
namespace Go.Proofs.YticgcpebdldbgaaDoor.Ab
open Go.Proofs
section
variable{P:Pz}{s:PS}(hW:Wst P.all s){h:AH}(H:P.ok h)(hN:P.all.length≤1000000)(hD:TkOk P.all)(L:AH)
include hW H hN hD
theorem QoL{g:G}{s2:PS}(e:Yz XW s = .ok g s2){k:Nat}(hk:k=h.length+L.length):QL Tryd.prog 61 [.ptr P.i 0 0] (ph h P s++L) fun o h'=>o = .ret (av k g)∧h'=ph h P s2++(L++layA 54 k g.args):=by
 have:=QgS hN hD hW (H.app L)
 rw[e,Q4 H]at this
 subst hk
 exact this.mono fun o h' q=>by simpa only[GQ,av,Q4 H,QsA,List.append_assoc]using q
theorem Qm8{p c:Int}(e:Yz XW s = .err p c):QL Tryd.prog 61 [.ptr P.i 0 0] (ph h P s++L) fun o h'=>o = .panic (Fl p c)∧∃s2:PS,h'=ph h P s2++L:=by
 have:=QgS hN hD hW (H.app L)
 rw[e,Q4 H]at this
 exact this.mono fun o h' q=>by simpa only[GQ,Q4 H]using q
end
section
variable{P:Pz}{s:PS}(hW:Wst P.all s){h:AH}(H:P.ok h)(hN:P.all.length≤1000000)(hD:TkOk P.all)
include hW H hN hD
theorem Qly(pre:Nat)(hpre:pre≤100):QL Tryd.prog 41 [.ptr P.i 0 0,.i (pre:Nat)] (ph h P s) (GsC h P av 2 (Yp pre s)):=by
 have f1:=QU h P
 have f3:=XB h P
 have f4:=Yf h P
 have f5:=Xk h P
 have f6:=XL h P
 generalize hR:Yp pre s=R
 rw[Yp]at hR
 refine Qe Tryd.func41 rfl Tryd.call41 Tryd.ntmps41 Tryd.results41 (by simp) ?_
 repeat (first|(((with_reducible refine Qa fun K E hK hE=>?_));simp -implicitDefEqProofs only[XN,Y0,Qd,OpW,aop,AS.ev,Xw,Qcq,Nat.reduceLT])|(with_reducible refine Qi ?_)|((with_reducible refine hK _ ?_);clear hK))
 refine ZC 5 72 2 rfl ?_
 obtain⟨I,hI⟩:∃I:Nat→AS→Prop,I=fun m' s=>∃(l:List G) (s2:PS) (X:AH),m'=s2.toks.length∧Wst P.all s2∧l.length≤4∧(∃k,s2.toks.length+1≤k∧YA pre k l s2=R)∧X.length=gsz l∧At X 0 (layG 54 (h.length+1) l)∧s.tm 0 = .ptr P.i 0 0∧s.tm 1 = .i (pre:Nat)∧s.tm 5 = .sl 2 (lvG av (h.length+1) l) (some h.length) ∧
  s.h=ph h P s2++(.grow 72 2 l.length::X):=⟨_,rfl⟩;refine QR I ?_ (m:=s.toks.length) ?_
 ·intro m' s hs;rw[hI]at hs;obtain⟨tm,hp⟩:=s;dsimp only at hs;obtain⟨l,s2,X,rfl,hW2,hlm,⟨k,hk,hR2⟩,hX,hAt,t0,t1,t5,rfl⟩:=hs
  have hk1:k=k - 1+1:=by omega
  have hi2:=ph_i H s2
  simp only[pB]at hi2
  have elen:(lvG av (h.length+1) l).length=l.length:=Yx av (h.length+1) l
  have w1:IntKind.i64.wrap ((pre:Nat)+(l.length:Nat):Int)=((pre+l.length:Nat):Int):=by rw[Xt (by omega)];omega
  by_cases hm:4≤pre+l.length
  ·have hRR:R = .err s2.tk.pos 6:=by rw[←hR2,hk1,YA,if_pos hm]
   subst hRR
   have cr:=fun L=>Qgy hW2 H hN L ((pre+l.length:Nat):Int) 4 (by omega)
   repeat (first|((first|(with_reducible (first|refine Qa fun K E hK hE=>?_|refine FunW.pan (FunW.call (cr _)) ?_)));simp -implicitDefEqProofs only[Qc,Qd,OpW,QB,aop,AS.ev,↓reduceIte,Qg,aBin,aLen,goInt,un31,QJ,Qp,t0,t1,t5,w1,hi2,elen,seval])|(with_reducible (first|refine Qi ?_|refine hE _ _ ?_|refine QN ?_|refine Xb ?_)))
   exact QW H s s2 _ _ _ ⟨rfl,_,rfl⟩
  ·have cr:=fun L=>QeB hW2 H hN L ((pre+l.length:Nat):Int) 4 (by omega)
   have cn:=nextL hW2 (X6 H s2)
   have e1:=Tk.Qq0 s2.tk
   have e2:=Tk.Qq1 s2.tk
   have x1:∀(Y:AH),(X++Y)[X.length]? = Y[0]? := fun Y=>Qad _ _
   have x2:∀(Y:AH) k,(X++Y)[X.length+k]? = Y[k]? := fun Y k=>hget _ _ _
   have x3:∀(Y:AH) y,(X++Y).set X.length y=X++Y.set 0 y:=fun Y y=>QbT _ _ _
   have x4:∀(Y:AH) k y,(X++Y).set (X.length+k) y=X++Y.set k y:=fun Y k y=>hset _ _ _ _
   cases hr:Yz XW s2 with
   |err p e =>
    have hRR:R = .err p e:=by rw[←hR2,hk1,YA,if_neg hm,hr];rfl
    subst hRR
    have cg:=fun L=>Qm8 hW2 H hN hD L hr
    repeat (first|((first|(with_reducible (first|refine Qa fun K E hK hE=>?_|refine FunW.QqZ (cr _) ?_|refine FunW.QqZ (cn _) ?_|refine FunW.panE (FunW.call (cg _)) fun r=>?_)));simp -implicitDefEqProofs only[Qc,Qd,OpW,QB,aop,undef,AS.ev,AV.QqY,↓reduceIte,Qg,Qu,Ql,aBin,aLen,goInt,un31,ti60,zi60,QJ,Qp,t0,t1,t5,w1,hi2,elen,e1,e2,f1,f4,f6,x1,x3,seval])|(with_reducible refine Qi ?_)|((with_reducible refine hK _ ?_);clear hK)|(with_reducible (first|refine hE _ _ ?_|refine QN ?_|refine Xb ?_)))
    exact QW H s r _ _ _ ⟨rfl,_,rfl⟩
   |ok g s3 =>
    have hW3:Wst P.all s3:=Kp.Ps.ok (n:=wdOf P.all) (Kp.atom_ps trivial (Kp.termT_ps trivial)) hW2 hr
    have hl3:=(Qdz (Yl.less (by omega)) s2 hW2.wf g s3 hr).2
    have hi3:=ph_i H s3
    simp only[pB]at hi3
    have cg:=fun c d=>QoL hW2 H hN hD (c::(X++[d])) hr (k:=h.length+1+gsz l+1) (by simp only[QrW,QsA,QrX,hX];omega)
    simp only[Qsb,List.append_assoc,Qsa]at cg
    have cR:∀(c d:AB) (Y:AH),QL Tryd.prog 62 [av (h.length+1+gsz l+1) g] (ph h P s3++(c::(X++(d::(layA 54 (h.length+1+gsz l+1) g.args++Y))))) fun o h'=>o = .ret (.b (Q8 g))∧h'=ph h P s3++(c::(X++(d::(layA 54 (h.length+1+gsz l+1) g.args++Y)))):=fun c d Y=>Qe1 g (by
     have:=At.base (At.mid (c::(X++[d])) (layA 54 (h.length+1+gsz l+1) g.args) Y (n:=1+gsz l+1) (by simp only[QrW,QsA,QrX,hX];omega)) (QU h P s3)
     rw[show h.length+(1+gsz l+1)=h.length+1+gsz l+1 by omega]at this
     simpa only[Qsb,List.append_assoc,Qsa]using this)
    have e3:(av (h.length+1+gsz l+1) g).cells=[.v (.string g.name),lsl (h.length+1+gsz l+1) g.args]:=rfl
    have e4:(av (h.length+1+gsz l+1) g).isAgg=true:=rfl
    have y1:∀(Y:AH),(layA 54 (h.length+1+gsz l+1) g.args++Y)[(layA 54 (h.length+1+gsz l+1) g.args).length]? = Y[0]? := fun Y=>Qad _ _
    have y2:∀(Y:AH) y,(layA 54 (h.length+1+gsz l+1) g.args++Y).set (layA 54 (h.length+1+gsz l+1) g.args).length y=layA 54 (h.length+1+gsz l+1) g.args++Y.set 0 y:=fun Y y=>QbT _ _ _
    cases hg:Q8 g with
    |false =>
     have hRR:R = .err s2.tk.pos 6:=by rw[←hR2,hk1,YA,if_neg hm,hr];show(if Q8 g=false then _ else _)=_;rw[if_pos hg]
     subst hRR
     have cf:=YL s2.tk 6
     rw[hg]at cR
     repeat (first|((first|(with_reducible (first|refine Qa fun K E hK hE=>?_|refine FunW.QqZ (cr _) ?_|refine FunW.QqZ (cn _) ?_|refine FunW.QqZ (cg _ _) ?_|refine FunW.QqZ (cR _ _ _) ?_)));simp -implicitDefEqProofs only[Qc,Qd,OpW,QB,aop,undef,AS.ev,AV.QqY,↓reduceIte,Qg,Qw,Qv,Qu,Ql,aBin,aLen,goInt,un31,ti60,zi60,QJ,ti72,zi72,Qp,t0,t1,t5,w1,hi2,elen,e1,e2,e3,e4,f1,f4,f6,x1,x2,x3,x4,y1,y2,QT,List.append_assoc,seval])|(with_reducible (first|refine Qf fun K hK=>?_|refine Qi ?_))|((with_reducible refine hK _ ?_);clear hK)|(refine Qh rfl ?_;simp only[↓reduceIte]))
     refine Xd 4 [(0,1),(1,0),(2,0),(3,0)] mixed rfl rfl rfl (by kernel_rfl) (fun v h'=>v=Fl s2.tk.pos 6∧∃L,h'=ph h P s3++L) ?_ ?_
     ·rintro tm v h' ⟨rfl,L,rfl⟩
      exact QW H s s3 _ _ _ ⟨rfl,_,rfl⟩
     ·simp -implicitDefEqProofs only[Qc,Qd,aop,AS.ev,↓reduceIte,Qg,Qw,Qv,ti60,QJ,Qp,t0,hi3,e1,e2,f4,x1,seval]
      exact fun _=>(FunW.call (cf _ _)).mono (by rintro _ _ ⟨rfl,rfl⟩;exact⟨_,rfl,rfl,_,rfl⟩)
    |true =>
     rw[hg]at cR
     have hm1:(l.length+1) * 40≤140737488355328:=by omega
     have hm2:l.length+1≤maxLen:=by simp only[maxLen];omega
     have hR3:(if s3.is Y6=true then YA pre (k - 1) (l++[g]) s3.nx else PR.ok (l++[g]) s3)=R:=by
      rw[←hR2,hk1,YA,if_neg hm,hr]
      show _=(if Q8 g=false then _ else _)
      rw[hg];rfl
     have hX2:∀c d:AB,(X++(c::(layA 54 (h.length+1+gsz l+1) g.args++[d]))).length=gsz (l++[g]):=fun c d=>by
      simp only[QsA,QrW,QrX,Yg,hX,Zk,gsz];try omega
     have hA2:∀c d:AB,At (X++(c::(layA 54 (h.length+1+gsz l+1) g.args++[d]))) 0 (layG 54 (h.length+1) (l++[g])):=fun c d=>by
      rw[Qee]
      refine At.both (hAt.app _) (At.cons (fun q=>by cases q) ?_)
      rw[QO]
      have:=At.mid (X++[c]) (layA 54 (h.length+1+gsz l+1) g.args) [d] (n:=0+gsz l+1) (by simp only[QsA,QrW,QrX,hX];omega)
      refine At.both ?_ (At.cons (fun q=>by cases q) (At.nil _ _))
      simpa only[List.append_assoc,Qsb,Qsa]using this
     have elv:=Qgk av (h.length+1) l g
     cases hc:s3.is Y6 with
     |true =>
      have cs:=fun L=>Zw hW3 H hN L {data:=#[44]} (by rw[Lib.toList_data];exact hc)
      rw[hc,if_pos rfl]at hR3
      have hln3:=Xo hW3.wf (PS.Qq2 hc)
      repeat (first|((first|(with_reducible (first|refine Qa fun K E hK hE=>?_|refine FunW.QqZ (cr _) ?_|refine FunW.QqZ (cn _) ?_|refine FunW.QqZ (cg _ _) ?_|refine FunW.QqZ (cR _ _ _) ?_|refine FunW.QqZ (cs _) ?_)));simp -implicitDefEqProofs only[Qc,Qd,OpW,QB,aop,undef,AS.ev,AV.QqY,↓reduceIte,Qg,Qw,Qv,Qu,Ql,aBin,QG,aLen,XI,Yk,goInt,ei31,ai31,un31,ti60,zi60,QJ,ti72,zi72,Qp,t0,t1,t5,w1,hi2,hi3,elen,e1,e2,e3,e4,f1,f3,f4,f5,f6,x1,x2,x3,x4,y1,y2,QT,List.append_assoc,hm1,hm2,seval])|(with_reducible (first|refine Qf fun K hK=>?_|refine Qi ?_|refine Qk ?_|refine Qb ?_|refine Qn ?_))|((with_reducible refine hK _ ?_);clear hK)|(refine Qh rfl ?_;simp only[↓reduceIte,QrN]))
      refine Xi.mk (m':=s3.nx.toks.length) (by omega) ?_
      rw[hI]
      refine⟨l++[g],s3.nx,X++(.cells 60 3 [s2.tk.av]::(layA 54 (h.length+1+gsz l+1) g.args++[.cells 72 2 [av (h.length+1+gsz l+1) g]])),rfl,hW3.nx,by simp;omega,⟨k - 1,by omega,hR3⟩,hX2 _ _,hA2 _ _,t0,t1,?_,?_⟩
      ·rw[elv];rfl
      ·rw[List.length_append];rfl
     |false =>
      have cs:=fun L=>ZZ hW3 H hN L {data:=#[44]} (by rw[Lib.toList_data];exact hc)
      rw[hc,if_neg (by simp)]at hR3
      subst hR3
      repeat (first|((first|(with_reducible (first|refine Qa fun K E hK hE=>?_|refine FunW.QqZ (cr _) ?_|refine FunW.QqZ (cn _) ?_|refine FunW.QqZ (cg _ _) ?_|refine FunW.QqZ (cR _ _ _) ?_|refine FunW.QqZ (cs _) ?_)));simp -implicitDefEqProofs only[Qc,Qd,OpW,QB,aop,undef,AS.ev,AV.QqY,↓reduceIte,Qg,Qw,Qv,Qu,Ql,aBin,QG,aLen,XI,Yk,goInt,ei31,ai31,un31,ti60,zi60,QJ,ti72,zi72,Qp,t0,t1,t5,w1,hi2,hi3,elen,e1,e2,e3,e4,f1,f3,f4,f5,f6,x1,x2,x3,x4,y1,y2,QT,List.append_assoc,hm1,hm2,seval])|(with_reducible (first|refine Qf fun K hK=>?_|refine Qi ?_|refine Qm ?_|refine Qk ?_|refine Qb ?_|refine Qy ?_|refine QE ?_))|((with_reducible refine hK _ ?_);clear hK)|(refine Qh rfl ?_;simp only[↓reduceIte,QrN]))
      simp only[QH,Qo,Qt,upd,↓reduceIte,QrP,QrT]
      rw[←elv]
      exact .inr ⟨_,_,rfl,rfl,At.tail (hA2 _ _)⟩
 ·rw[hI]
  exact⟨[],s,[],rfl,hW,Nat.zero_le _,⟨_,Nat.le_refl _,hR⟩,rfl,At.nil _ _,rfl,rfl,by simp only[upd,↓reduceIte,QU];rfl,rfl⟩
theorem QcS(most:Nat)(hmost:most≤100):QL Tryd.prog 29 [.ptr P.i 0 0,.i (most:Nat)] (ph h P s) (GsQ h P gv 3 (Yo most s)) :=
 Qi5 H QoU (fun _ _ _ _ _ h=>QqL h) (Qlx hW H hN hD most hmost)
theorem QfD(pre:Nat)(hpre:pre≤100):QL Tryd.prog 41 [.ptr P.i 0 0,.i (pre:Nat)] (ph h P s) (GsQ h P av 2 (Yp pre s)) :=
 Qi5 H QoN (fun _ _ _ _ _ h=>Qqr h) (Qly hW H hN hD pre hpre)
end
end Go.Proofs.YticgcpebdldbgaaDoor.Ab
set_option maxRecDepth 4000
namespace Go.Proofs.YticgcpebdldbgaaDoor.Ab
open Go.Proofs
mutual
/-- a parsed term: what is no operator and no name has no arguments -/
def T.ps:T→Prop
 | .mk k _ _ bs=>(k=0∨k=1∨k=2)∧(k≠2→bs=[])∧pss bs
def pss:List T→Prop
 |[]=>True
 |t::l=>t.ps∧pss l
end
theorem Qmk:∀{l:List T} {k:Nat} (h:k<l.length),pss l→(l[k]).ps
 |t::l,0,_,hp=>by rw[pss]at hp;exact hp.1
 |t::l,k+1,h,hp=>by rw[pss]at hp;exact Qmk (l:=l) (by simpa using h) hp.2
theorem T.QrF{t:T}(h:t.ps):(t.kind=0∨t.kind=1∨t.kind=2)∧(t.kind≠2→t.args=[])∧pss t.args:=by
 cases t;rw[T.ps]at h;exact h
section
variable{σ:Type}(g:σ→Int→Int×σ)
mutual
theorem T.Qrx:∀(s:σ) (t:T),(T.mapS g s t).1.sz=t.sz
 |s,.mk k i n l=>by
  simp only[T.mapS]
  split
  ·rfl
  ·split
   ·show szs (XD g s l).1=szs l;exact YN s l
   ·rfl
theorem YN:∀(s:σ) (l:List T),szs (XD g s l).1=szs l
 |s,[]=>by simp[XD]
 |s,t::l=>by simp only[XD,szs,T.Qrx s t,YN _ l]
end
theorem Qem(n:Nat)(s:σ)(l:List T):lsl n (XD g s l).1=lsl n l:=by
 unfold lsl
 rw[YN,ZN]
 cases l with
 |nil=>simp[XD]
 |cons t l=>simp[XD]
end
theorem Qpx{X:AH}{tt:TypeId}{n:Nat}{r:AB}{l:List T}(h:At X n (lays tt n r l))(hl:l≠[])(hr:r.live=true):At X n (lays tt n .dead l)∧X[n+szs l - 1]? = some r:=by
 obtain⟨h1,h2⟩:=Qbi tt n r l hl
 have hp:=Qb3 hl
 refine⟨?_,h.get h1 hr (by omega)⟩
 rw[←h2]
 intro j b hb hlv
 by_cases e:szs l - 1=j
 ·subst e
  rw[List.getElem?_set_self (by rw[Zb];omega)]at hb
  cases hb;cases hlv
 ·rw[List.getElem?_set_ne e]at hb
  exact h j b hb hlv
theorem Qqi{X:AH}{tt:TypeId}{n:Nat}{r:AB}{l:List T}(h:At X n (lays tt n .dead l))(hl:l≠[])(hr:X[n+szs l - 1]? = some r):At X n (lays tt n r l):=by
 obtain⟨h1,h2⟩:=Qbi tt n r l hl
 have hp:=Qb3 hl
 intro j b hb hlv
 by_cases e:szs l - 1=j
 ·subst e
  rw[h1]at hb;cases hb
  rw[show n+(szs l - 1)=n+szs l - 1 by omega];exact hr
 ·rw[←h2]at h
  exact h j b (by rw[List.getElem?_set_ne e];exact hb) hlv
theorem QoK{X X':AH}{tt:TypeId}{n:Nat}{l m:List T}{u u':T}(hX:At X n (lays tt n .dead (l++u::m)))(hsz:u'.sz=u.sz)(hu:At X' (n+szs l) (u'.lay tt (n+szs l)))
  (hout:∀j,n≤j→j<n+szs (l++u::m)→¬(n+szs l≤j∧j<n+szs l+u.sz)→X'[j]? = X[j]?):At X' n (lays tt n .dead (l++u'::m)):=by
 intro j b hb hl
 have hlen:szs (l++u::m)=szs l+(u.sz+1+szs m):=by rw[YP,szs]
 have hjl:=Qs hb
 rw[Zb,YP,szs,hsz]at hjl
 rw[QaQ,lays,List.getElem?_append,Zb]at hb
 split at hb
 ·rename_i hj
  rw[hout (n+j) (by omega) (by omega) (by omega)]
  exact hX j b (by rw[QaQ,List.getElem?_append,Zb,if_pos hj];exact hb) hl
 ·rename_i hj
  rw[List.getElem?_append,T.Qq3,hsz]at hb
  split at hb
  ·rename_i hj2
   have:=hu (j - szs l) b hb hl
   rwa [show n+szs l+(j - szs l)=n+j by omega]at this
  ·rename_i hj2
   rw[hout (n+j) (by omega) (by omega) (by omega)]
   refine hX j b ?_ hl
   rw[QaQ,lays,List.getElem?_append,Zb,if_neg hj,List.getElem?_append,T.Qq3,if_neg hj2]
   exact hb
theorem QlP{tt:TypeId}{n:Nat}{r:AB}{l m:List T}{u u':T}(h:u'.args=u.args):lays tt n r (l++u'::m)=lays tt n r (l++u::m):=by
 have h1:∀k,u'.lay tt k=u.lay tt k:=fun k=>by rw[T.Qq8,T.Qq8,h]
 have h2:u'.sz=u.sz:=by rw[T.Qrc,T.Qrc,h]
 rw[QaQ,QaQ,lays,lays,h1,h2]
theorem Qel(n:Nat)(l m:List T)(u:T):lvs n (l++u::m)=lvs n l++(u.lv (n+szs l)::lvs (n+szs l+u.sz+1) m):=by rw[QcW,lvs]
theorem QnA{n:Nat}{l m:List T}{u u':T}(h:∀k,u'.lv k=u.lv k)(hs:u'.sz=u.sz):lvs n (l++u'::m)=lvs n (l++u::m):=by rw[Qel,Qel,h,hs]
theorem QpR(n:Nat)(l m:List T)(u:T):(lvs n (l++u::m))[l.length]? = some (u.lv (n+szs l)):=by
 rw[Qel,List.getElem?_append_right (by rw[Zl];exact Nat.le_refl _),Zl,Nat.sub_self];rfl
theorem QlS{n:Nat}{l m:List T}{u u':T}(hs:u'.sz=u.sz):(lvs n (l++u::m)).set l.length (u'.lv (n+szs l))=lvs n (l++u'::m):=by
 rw[Qel,Qel,hs,List.set_append_right _ _ (by rw[Zl];exact Nat.le_refl _),Zl,Nat.sub_self];rfl
def NSt(X:AH)(q:Nat)(ord:List Int):Prop:=∃toV,X[q]? = some (.cells 84 2 [.agg [toV,.sl 1 (ints ord) (some (q+1))]])∧X[q+1]? = some (.grow 3 1 ord.length) ∧
 ((toV = .v (.map none)∧ord=[])∨∃m,toV = .mp m∧q+1<m∧X[m]? = some (mapB ord))
structure NumP (X X':AH) (q n w:Nat):Prop where
 long:X.length≤X'.length
 out:∀j,j<q→¬(n≤j∧j<n+w)→X'[j]? = X[j]?
theorem NumP.refl(X:AH)(q n w:Nat):NumP X X q n w:=⟨Nat.le_refl _,fun _ _ _=>rfl⟩
theorem NumP.trans{X Y Z:AH}{q n w a b:Nat}(h:NumP X Y q n w)(k:NumP Y Z q a b)(ha:n≤a)(hb:a+b≤n+w):NumP X Z q n w :=
 ⟨Nat.le_trans h.long k.long,fun j hj hn=>(k.out j hj (by omega)).trans (h.out j hj hn)⟩
theorem NSt.app{X:AH}{q:Nat}{ord:List Int}(h:NSt X q ord)(L:AH):NSt (X++L) q ord:=by
 obtain⟨toV,h1,h2,h3⟩:=h
 refine⟨toV,hext h1 L,hext h2 L,h3.imp id ?_⟩
 rintro⟨m,e,h4,h5⟩
 exact⟨m,e,h4,hext h5 L⟩
end Go.Proofs.YticgcpebdldbgaaDoor.Ab
set_option maxRecDepth 4000
namespace Go.Proofs.YticgcpebdldbgaaDoor.Ab
open Go.Proofs
theorem FunW.retE{P:Program}{α:Type}{fv:AV}{args:List AV}{h:AH}{h':α→AH}{r:AV}{Q:AOut→AH→Prop}(H:FunW P fv args h fun o h2=>o = .ret r∧∃x,h2=h' x)(k:∀x,Q (.ret r) (h' x)):FunW P fv args h Q:=H.mono (by rintro _ _ ⟨rfl,x,rfl⟩;exact k x)
theorem QoW(s:List Int)(v:Int):(ins s v).length≤s.length+1:=by
 unfold ins
 split
 ·omega
 ·simp
mutual
theorem T.Qry:∀(s:List Int) (t:T),(T.mapS gNum s t).2.length≤s.length+t.nds
 |s,.mk k i n l=>by
  simp only[T.mapS,T.nds]
  split
  ·have:=QoW s i
   show(ins s i).length≤_
   omega
  ·split
   ·have:=Qcp s l
    show(XD gNum s l).2.length≤_
    omega
   ·show s.length≤_;omega
theorem Qcp:∀(s:List Int) (l:List T),(XD gNum s l).2.length≤s.length+ndsL l
 |s,[]=>by simp[XD]
 |s,t::l=>by
  simp only[XD,ndsL]
  have h1:=T.Qry s t
  have h2:=Qcp (T.mapS gNum s t).2 l
  omega
end
theorem QlT{s:List Int}{u:T}(hp:u.ps)(hk:u.kind≠1):T.mapS gNum s u=(.mk u.kind u.int u.name (XD gNum s u.args).1,(XD gNum s u.args).2):=by
 obtain⟨h1,h2,_⟩:=T.QrF hp
 rw[T.Qrn,if_neg hk]
 by_cases h3:u.kind=2
 ·rw[if_pos h3]
 ·rw[if_neg h3,h2 h3]
  cases u
  simp only[T.args,T.kind]at h2 h3
  rw[h2 h3];rfl
theorem QbV:∀a b:List T,ndsL (a++b)=ndsL a+ndsL b
 |[],b=>by simp[ndsL]
 |t::a,b=>by rw[List.cons_append,ndsL,ndsL,QbV a b];omega
theorem Qkb(l:List T){j:Nat}(h:j<l.length):ndsL (l.take j)+l[j].nds≤ndsL l:=by
 have:=congrArg ndsL (List.take_append_drop j l)
 rw[QbV,List.drop_eq_getElem_cons h,ndsL]at this
 omega
theorem QlY(l:List T)(j:Nat):ndsL (l.take j)≤ndsL l:=by
 have:=congrArg ndsL (List.take_append_drop j l)
 rw[QbV]at this
 omega
theorem Qpy{X:AH}{tt:TypeId}{n:Nat}{r:AB}{l m:List T}{u:T}(h:At X n (lays tt n r (l++u::m))):At X (n+szs l) (u.lay tt (n+szs l)):=by
 rw[QaQ,lays]at h
 exact(h.right (m:=n+szs l) (by rw[Zb])).left
def Cur(ord:List Int)(bs:List T)(j:Nat):List T:=(XD gNum ord (bs.take j)).1++bs.drop j
theorem Qg3(ord:List Int){bs:List T}{j:Nat}(hj:j<bs.length):Cur ord bs j=(XD gNum ord (bs.take j)).1++bs[j]::bs.drop (j+1) ∧
  Cur ord bs (j+1)=(XD gNum ord (bs.take j)).1++(T.mapS gNum (XD gNum ord (bs.take j)).2 bs[j]).1::bs.drop (j+1)∧(XD gNum ord (bs.take (j+1))).2=(T.mapS gNum (XD gNum ord (bs.take j)).2 bs[j]).2:=by
 obtain⟨h1,h2⟩:=Qj8 gNum ord hj
 refine⟨by rw[Cur,List.drop_eq_getElem_cons hj],?_,h2⟩
 rw[Cur,h1,List.append_assoc];rfl
theorem Qh5(ord:List Int)(bs:List T)(j:Nat):szs (Cur ord bs j)=szs bs:=by
 rw[Cur,YP,YN,←YP,List.take_append_drop]
theorem NSt.set{X:AH}{q:Nat}{ord:List Int}(h:NSt X q ord){k:Nat}(hk:k<q)(y:AB):NSt (X.set k y) q ord:=by
 obtain⟨toV,h1,h2,h3⟩:=h
 refine⟨toV,by rw[List.getElem?_set_ne (by omega)];exact h1,by rw[List.getElem?_set_ne (by omega)];exact h2,h3.imp id ?_⟩
 rintro⟨m,e,h4,h5⟩
 exact⟨m,e,h4,by rw[List.getElem?_set_ne (by omega)];exact h5⟩
theorem NumP.set{X Y:AH}{q n w:Nat}(h:NumP X Y q n w){k:Nat}(hk:n≤k∧k<n+w)(y:AB):NumP X (Y.set k y) q n w :=
 ⟨by rw[List.length_set];exact h.long,fun j hj hn=>by rw[List.getElem?_set_ne (by omega)];exact h.out j hj hn⟩
theorem NumP.setA{X Y:AH}{q n w:Nat}(h:NumP X Y q n w){k:Nat}(hk:q≤k)(y:AB):NumP X (Y.set k y) q n w :=
 ⟨by rw[List.length_set];exact h.long,fun j hj hn=>by rw[List.getElem?_set_ne (by omega)];exact h.out j hj hn⟩
theorem NumP.app{X Y:AH}{q n w:Nat}(h:NumP X Y q n w)(L:AH)(hq:q≤Y.length):NumP X (Y++L) q n w :=
 ⟨by rw[List.length_append];exact Nat.le_trans h.long (by omega),fun j hj hn=>by rw[List.getElem?_append_left (by omega)];exact h.out j hj hn⟩
theorem At.Qrq{h:AH}{n:Nat}{L:AH}(H:At h n L){k:Nat}{x:AB}(hk:n+L.length≤k):At (h.set k x) n L:=H.set fun b hb _=>by
 have:=Qs hb
 omega
theorem Qin{X0 Z:AH}{q n:Nat}{ord:List Int}{bs:List T}{j rid:Nat}(hlt:j<bs.length)(hrid:rid=n+szs bs - 1)(hq:n+szs bs≤q)(hP:NumP X0 Z q n (szs bs))(hS:NSt Z q (XD gNum ord (bs.take (j+1))).2)
  (hA:At Z n (lays 54 n .dead (Cur ord bs j))) {c1:List T} (hc1:(XD gNum ord (bs.take j)).1=c1) (hr:rid<Z.length) {v:Int} (ec':Cur ord bs (j+1)=c1++T.mk bs[j].kind v bs[j].name bs[j].args::bs.drop (j+1)) :
  NumP X0 (Z.set rid (.cells 54 4 ((lvs n (Cur ord bs j)).set j (.agg [.v (.int .i64 bs[j].kind),.v (.int .i64 v),.v (.string bs[j].name),lsl (n+szs c1) bs[j].args])))) q n (szs bs) ∧
  NSt (Z.set rid (.cells 54 4 ((lvs n (Cur ord bs j)).set j (.agg [.v (.int .i64 bs[j].kind),.v (.int .i64 v),.v (.string bs[j].name),lsl (n+szs c1) bs[j].args])))) q (XD gNum ord (bs.take (j+1))).2 ∧
  At (Z.set rid (.cells 54 4 ((lvs n (Cur ord bs j)).set j (.agg [.v (.int .i64 bs[j].kind),.v (.int .i64 v),.v (.string bs[j].name),lsl (n+szs c1) bs[j].args])))) n (lays 54 n .dead (Cur ord bs (j+1))) ∧
  (Z.set rid (.cells 54 4 ((lvs n (Cur ord bs j)).set j (.agg [.v (.int .i64 bs[j].kind),.v (.int .i64 v),.v (.string bs[j].name),lsl (n+szs c1) bs[j].args]))))[rid]? = some (.cells 54 4 (lvs n (Cur ord bs (j+1)))):=by
 have hne:bs≠[]:=by rintro rfl;simp at hlt
 have hp:=Qb3 hne
 obtain⟨ec,_,_⟩:=Qg3 ord hlt
 rw[hc1]at ec
 have hc1l:c1.length=j:=by rw[←hc1,ZN,List.length_take];omega
 have hcs:=Qh5 ord bs j
 refine⟨hP.set (by omega) _,hS.set (by omega) _,?_,?_⟩
 ·rw[ec',QlP (u:=bs[j]) (u':=T.mk bs[j].kind v bs[j].name bs[j].args) rfl,←ec]
  refine hA.set fun b hb hn=>?_
  have hne2:Cur ord bs j≠[]:=by rw[ec];exact List.append_ne_nil_of_right_ne_nil _ (List.cons_ne_nil _ _)
  have h1:=(Qbi 54 n .dead _ hne2).1
  rw[hcs,show szs bs - 1=rid - n by omega,hb]at h1
  cases h1;rfl
 ·rw[List.getElem?_set_self hr,ec',←QlS (u:=bs[j]) (u':=T.mk bs[j].kind v bs[j].name bs[j].args) (by rw[T.Qrc,T.Qrc];rfl),←ec,hc1l,T.Qrg]
  rfl
theorem Qjf{X0 X:AH}{q n a w:Nat}{M:AH}(hM:M.length≤w)(hq:n+w≤q)(hqx:q≤X.length)(hP:NumP X0 X q n w)(hA:At X n M)(ha:q≤a)(A G C:AB)(L:AH) :
  NumP X0 ((((X.set a A).set (q+1) G).set q C)++L) q n w∧At ((((X.set a A).set (q+1) G).set q C)++L) n M:=by
 refine⟨NumP.app (((hP.setA ha A).setA (by omega) G).setA (Nat.le_refl _) C) L (by simp only[List.length_set];exact hqx),?_⟩
 exact(((hA.Qrq (by omega)).Qrq (by omega)).Qrq (by omega)).app L
theorem QpT{X:AH}{q a:Nat}(A G C:AB)(L:AH)(h:q+1<X.length):((((X.set a A).set (q+1) G).set q C)++L)[q]? = some C∧((((X.set a A).set (q+1) G).set q C)++L)[q+1]? = some G ∧
  (q+1<a→a<X.length→((((X.set a A).set (q+1) G).set q C)++L)[a]? = some A):=by
 refine⟨?_,?_,fun h1 h2=>?_⟩
 ·rw[List.getElem?_append_left (by simp only[List.length_set];omega),List.getElem?_set_self (by simp only[List.length_set];omega)]
 ·rw[List.getElem?_append_left (by simp only[List.length_set];omega),List.getElem?_set_ne (by omega),List.getElem?_set_self (by simp only[List.length_set];omega)]
 ·rw[List.getElem?_append_left (by simp only[List.length_set];omega),List.getElem?_set_ne (by omega),List.getElem?_set_ne (by omega),List.getElem?_set_self h2]
theorem QlE(l:List Int)(v:Int):ints (l++[v])=ints l++[.i v]:=by simp[ints]
theorem Ql1{X:AH}{q:Nat}(A c:AB)(v:Int)(h:q+1<X.length):NSt ((((X.set q A).set (q+1) (.grow 3 1 1)).set q (.cells 84 2 [.agg [.mp (X.length+1),.sl 1 (ints []++[.v (.int .i64 v)]) (some (q+1))]]))++[c,.map [(.int .i64 v,.v (.int .i64 0))]]) q ([]++[v]):=by
 obtain⟨b1,b2,_⟩:=QpT (X:=X) (q:=q) (a:=q) A (.grow 3 1 1) (.cells 84 2 [.agg [.mp (X.length+1),.sl 1 (ints []++[.v (.int .i64 v)]) (some (q+1))]]) [c,.map [(.int .i64 v,.v (.int .i64 0))]] h
 refine⟨_,b1,b2,.inr ⟨X.length+1,rfl,by omega,?_⟩⟩
 rw[List.getElem?_append_right (by simp only[List.length_set];omega)]
 simp only[List.length_set,Nat.add_sub_cancel_left]
 rfl
theorem QnF{X:AH}{q m:Nat}{ord:List Int}(c:AB)(v:Int)(h:q+1<X.length)(hm:q+1<m)(hmX:m<X.length):NSt ((((X.set m (.map (imap (QaE ord++[(v,.v (.int .i64 ord.length))])))).set (q+1) (.grow 3 1 (ord.length+1))).set q (.cells 84 2 [.agg [.mp m,.sl 1 (ints ord++[.v (.int .i64 v)]) (some (q+1))]]))++[c]) q (ord++[v]):=by
 obtain⟨b1,b2,b3⟩:=QpT (X:=X) (q:=q) (a:=m) (.map (imap (QaE ord++[(v,.v (.int .i64 ord.length))]))) (.grow 3 1 (ord.length+1)) (.cells 84 2 [.agg [.mp m,.sl 1 (ints ord++[.v (.int .i64 v)]) (some (q+1))]]) [c] h
 refine⟨.mp m,?_,?_,.inr ⟨m,rfl,hm,?_⟩⟩
 ·rw[b1,QlE]
 ·rw[b2,List.length_append];rfl
 ·rw[b3 hm hmX,mapB,Qim]
def TmQ(X:AH)(q n:Nat)(ord:List Int)(bs:List T)(o:AOut)(h':AH):Prop:=o = .ret (.tup [])∧NumP X h' q n (szs bs)∧NSt h' q (XD gNum ord bs).2∧At h' n (layA 54 n (XD gNum ord bs).1)
theorem QmH(X:AH)(q n:Nat)(ord:List Int)(hS:NSt X q ord):QL Tryd.prog 57 [.ptr q 0 0,.v (.slice none 0 0)] X (TmQ X q n ord []):=by
 have hn:=fun t'=>Qcs Tryd.prog 50 t' 54 (by kernel_rfl)
 refine Qe Tryd.func57 rfl Tryd.call57 Tryd.ntmps57 Tryd.results57 (by simp) ?_
 repeat (first|(((with_reducible refine Qa fun K E hK hE=>?_));simp -implicitDefEqProofs only[Qc,Qd,OpW,aop,undef,AS.ev,Qr,↓reduceIte,Nat.reduceLT,aLen,goInt,hn])|(with_reducible refine Qi ?_)|((with_reducible refine hK _ ?_);clear hK))
 obtain⟨I,hI⟩:∃I:Nat→AS→Prop,I=fun m' s=>s.tm 9 = .i 0∧s.tm 10 = .i 0∧s.h=X:=⟨_,rfl⟩;refine QR I ?_ (m:=0) ?_
 ·intro m' s hs;rw[hI]at hs;obtain⟨tm,hp⟩:=s;dsimp only at hs;obtain⟨t9,t10,rfl⟩:=hs
  have z:¬((0:Int)<0):=by omega
  repeat (first|(((with_reducible refine Qa fun K E hK hE=>?_));simp -implicitDefEqProofs only[Qc,Qd,OpW,aop,AS.ev,Nat.reduceLT,aBin,t9,t10,z])|(with_reducible (first|refine Qf fun K hK=>?_|refine QF ?_|refine QD ?_|refine QC ?_))|((with_reducible refine hK _ ?_);clear hK)|(refine Qh rfl ?_;simp only[↓reduceIte,QrN]))
  simp -implicitDefEqProofs only[QrL,QrP,List.mapM_nil,Option.pure_def,QrL,QH,Qo,QrT]
  exact .inr ⟨rfl,NumP.refl _ _ _ _,by simpa [XD]using hS,by simp only[XD];exact QfJ _ _⟩
 ·rw[hI]
  exact⟨rfl,rfl,rfl⟩
section
variable{Nn:Nat}(IH:∀(bs:List T),szs bs<Nn→pss bs→∀(X:AH) (q n:Nat) (ord:List Int),ord.length+ndsL bs≤1000000000→n+szs bs≤q→q+1<X.length→NSt X q ord→At X n (layA 54 n bs)→QL Tryd.prog 57 [.ptr q 0 0,lsl n bs] X (TmQ X q n ord bs))
include IH
theorem QkC(bs:List T)(hsz:szs bs<Nn+1)(hps:pss bs)(X0:AH)(q n:Nat)(ord:List Int)(hb:ord.length+ndsL bs≤1000000000)(hq:n+szs bs≤q)(hqx:q+1<X0.length)(hS0:NSt X0 q ord)(hA0:At X0 n (layA 54 n bs)) :
  QL Tryd.prog 57 [.ptr q 0 0,lsl n bs] X0 (TmQ X0 q n ord bs):=by
 by_cases hne:bs=[]
 ·subst hne;exact QmH X0 q n ord hS0
 obtain⟨hA1,hrow0⟩:=Qpx hA0 hne rfl
 have hsp:=Qb3 hne
 obtain⟨rid,hrid⟩:∃rid,rid=n+szs bs - 1:=⟨_,rfl⟩
 have hbl:bs.length≤1000000000:=by
  have:bs.length≤ndsL bs:=ZX bs
  omega
 have hl0:lsl n bs = .arr rid 0 bs.length:=by rw[lsl,if_neg (by simpa using hne),hrid]
 rw[hl0]
 rw[←hrid]at hrow0
 have hg0:∀L:AH,(X0++L)[rid]? = some (.cells 54 4 (lvs n bs)):=fun L=>hext hrow0 L
 have hlv:=Zl n bs
 refine Qe Tryd.func57 rfl Tryd.call57 Tryd.ntmps57 Tryd.results57 (by simp) ?_
 repeat (first|(((with_reducible refine Qa fun K E hK hE=>?_));simp -implicitDefEqProofs only[Qc,Qd,OpW,aop,undef,AS.ev,Qr,↓reduceIte,Nat.reduceLT,aLen,goInt,un50,hrow0])|(with_reducible refine Qi ?_)|((with_reducible refine hK _ ?_);clear hK))
 obtain⟨I,hI⟩:∃I:Nat→AS→Prop,I=fun m' s=>∃(j:Nat),m'=bs.length - j∧j≤bs.length∧NumP X0 s.h q n (szs bs)∧NSt s.h q (XD gNum ord (bs.take j)).2∧At s.h n (lays 54 n .dead (Cur ord bs j))∧s.h[rid]? = some (.cells 54 4 (lvs n (Cur ord bs j))) ∧
  s.tm 0 = .ptr q 0 0∧s.tm 1 = .arr rid 0 bs.length∧s.tm 8 = .arr rid 0 bs.length∧s.tm 9 = .i bs.length∧s.tm 10 = .i j:=⟨_,rfl⟩;refine QR I ?_ (m:=bs.length) ?_
 ·intro m' s hs;rw[hI]at hs;obtain⟨tm,hp⟩:=s;dsimp only at hs;obtain⟨j,rfl,hj,hP,hS,hA,hrow,t0,t1,t8,t9,t10⟩:=hs
  by_cases hlt:j<bs.length
  ·have z1:(((j:Nat):Int)<((bs.length:Nat):Int)):=by omega
   obtain⟨ec,ec',eo⟩:=Qg3 ord hlt
   have hup:=Qmk hlt hps
   have hpl:=hP.long
   generalize hX:hp=X at *
   have hXl:q+1<X.length:=by omega
   generalize hc1:(XD gNum ord (bs.take j)).1=c1 at *
   have hc1l:c1.length=j:=by rw[←hc1,ZN,List.length_take];omega
   have hc1s:szs c1=szs (bs.take j):=by rw[←hc1,YN]
   generalize hord:(XD gNum ord (bs.take j)).2=ordj at *
   have hol:ordj.length≤1000000000:=by
    have h1:=Qcp ord (bs.take j)
    have h2:ndsL (bs.take j)≤ndsL bs:=QlY bs j
    rw[hord]at h1;omega
   have hszu:szs (bs.take j)+(bs[j].sz+1+szs (bs.drop (j+1)))=szs bs:=by
    have:=congrArg szs (List.take_append_drop j bs)
    rw[YP,List.drop_eq_getElem_cons hlt,szs]at this
    exact this
   have hu1:bs[j].sz=szs bs[j].args:=T.Qrc _
   have hndu:bs[j].nds≤ndsL bs:=QdG hlt
   have hcl:(lvs n (Cur ord bs j)).length=bs.length:=by rw[Zl,ec,List.length_append,List.length_cons,List.length_drop,hc1l];omega
   have hat:(lvs n (Cur ord bs j))[j]? = some (bs[j].lv (n+szs c1)):=by
    have:=QpR n c1 (bs.drop (j+1)) bs[j]
    rw[hc1l]at this
    rw[ec];exact this
   have e1:=T.Qq4 (n+szs c1) bs[j]
   have e2:=T.Qq5 (n+szs c1) bs[j]
   have hrL:∀L:AH,(X++L)[rid]? = some (.cells 54 4 (lvs n (Cur ord bs j))):=fun L=>hext hrow L
   have wj:IntKind.i64.wrap (((j:Nat):Int)+1)=((j+1:Nat):Int):=XE (by omega)
   by_cases hk:bs[j].kind=1
   ·have z2:(bs[j].kind != 1)=false:=by simp[hk]
    have hmv:T.mapS gNum ordj bs[j]=(.mk bs[j].kind (plc (ins ordj bs[j].int) bs[j].int:Nat) bs[j].name bs[j].args,ins ordj bs[j].int):=by rw[T.Qrn,if_pos hk];rfl
    rw[hmv]at ec' eo
    obtain⟨toV,s1,s2,s3⟩:=hS
    have g1:∀L:AH,(X++L)[q]? = _:=fun L=>hext s1 L
    have g2:∀L:AH,(X++L)[q+1]? = _:=fun L=>hext s2 L
    by_cases hf:bs[j].int∈ordj
    ·rcases s3 with⟨_,rfl⟩|⟨m,rfl,hm,s3⟩
     ·cases hf
     have hmX:=Qs s3
     have g3:∀L:AH,(X++L)[m]? = _:=fun L=>hext s3 L
     have hget1:=Ql3 bs[j].int ordj
     rw[if_pos hf]at hget1
     have hfind:=Qd7 bs[j].int (QaE ordj)
     rw[hget1]at hfind
     repeat (first|((first|(with_reducible (first|refine Qa fun K E hK hE=>?_|refine Qj fun K E hK hE=>?_))|(refine QS (id:=5) [(0,0),(1,0),(2,0),(3,0),(4,0),(5,0),(6,0),(7,0),(8,0),(9,0),(10,0),(11,0)] mixed (by kernel_rfl) fun K hK=>?_));simp -implicitDefEqProofs only[Qc,Qd,OpW,aop,undef,AS.ev,AV.QqY,↓reduceIte,Qg,Qw,Qv,Qu,Ql,QM,aBin,Q1,ZA,ti3,ei50,ti54,YM,YC,zi54,ti81,mi81,Qfw,Qp,t0,t1,t8,t9,t10,z1,z2,hrow,hrL,hat,e1,e2,QT,g1,g3,hfind,mapB,seval])|(with_reducible (first|refine Qf fun K hK=>?_|refine Qi ?_|refine Qk ?_|refine Qb ?_|refine Qn ?_))|((with_reducible refine hK _ ?_);clear hK)|(refine Qh rfl ?_;simp only[↓reduceIte,QrN]))
     refine Xi.mk (m':=bs.length - (j+1)) (by omega) ?_
     rw[hI]
     have hins:ins ordj bs[j].int=ordj:=by unfold ins;rw[if_pos hf]
     rw[hins]at ec' eo
     obtain⟨r1,r2,r3,r4⟩:=Qin (Z:=X++[.cells 54 4 [T.lv (n+szs c1) bs[j]]]) hlt hrid hq (hP.app _ (by omega)) (by rw[eo];exact NSt.app ⟨_,s1,s2,.inr ⟨m,rfl,hm,s3⟩⟩ _) (hA.app _) hc1 (Qs (hrL _)) ec'
     exact⟨j+1,rfl,by omega,r1,r2,r3,r4,t0,t1,t8,t9,by rw[wj];rfl⟩
    ·have hfl:Qgi bs[j].int (QaE ordj)=none:=by rw[Ql3,if_neg hf]
     have hfind:=Qd7 bs[j].int (QaE ordj)
     rw[hfl]at hfind
     have hins:ins ordj bs[j].int=ordj++[bs[j].int]:=by unfold ins;rw[if_neg hf]
     have hplc:plc (ordj++[bs[j].int]) bs[j].int=ordj.length:=QbK [] hf
     rw[hins,hplc]at ec' eo
     have hrq:rid<q:=by omega
     have hqX0:q<X.length:=by omega
     have ml1:1≤maxLen:=by decide
     have ml2:ordj.length+1≤maxLen:=by unfold maxLen;omega
     have ml3:(ordj.length+1) * 8≤140737488355328:=by omega
     have nM:pv Tryd.prog (do eqGuard .eql 81 (Operand.tmp 37) (Operand.const (Value.map none)) (.map none) (.map none);binOp .eql 81 (.map none) (.map none))=some (.bool true):=by kernel_rfl
     rcases s3 with⟨rfl,e0⟩|⟨m,rfl,hm,s3⟩
     ·subst e0
      have hupd:∀v,updA (.int .i64) (.int .i64 bs[j].int) v []=some [(.int .i64 bs[j].int,v)]:=fun _=>rfl
      have a_q:∀(Y L:AH),Y.length=X.length→(Y++L)[q]? = Y[q]? := fun Y L hY=>List.getElem?_append_left (by omega)
      have s_q:∀(Y L:AH) (y:AB),Y.length=X.length→(Y++L).set q y=Y.set q y++L:=fun Y L y hY=>List.set_append_left _ _ (by omega)
      have i_q:∀(Y:AH) (y:AB),Y.length=X.length→(Y.set q y)[q]? = some y:=fun Y y hY=>List.getElem?_set_self (by omega)
      have n_q_p:∀(Y:AH) (y:AB),(Y.set q y)[(q+1)]? = Y[(q+1)]? := fun Y y=>List.getElem?_set_ne (by omega)
      have n_q_r:∀(Y:AH) (y:AB),(Y.set q y)[rid]? = Y[rid]? := fun Y y=>List.getElem?_set_ne (by omega)
      have a_p:∀(Y L:AH),Y.length=X.length→(Y++L)[(q+1)]? = Y[(q+1)]? := fun Y L hY=>List.getElem?_append_left (by omega)
      have s_p:∀(Y L:AH) (y:AB),Y.length=X.length→(Y++L).set (q+1) y=Y.set (q+1) y++L:=fun Y L y hY=>List.set_append_left _ _ (by omega)
      have i_p:∀(Y:AH) (y:AB),Y.length=X.length→(Y.set (q+1) y)[(q+1)]? = some y:=fun Y y hY=>List.getElem?_set_self (by omega)
      have n_p_q:∀(Y:AH) (y:AB),(Y.set (q+1) y)[q]? = Y[q]? := fun Y y=>List.getElem?_set_ne (by omega)
      have n_p_r:∀(Y:AH) (y:AB),(Y.set (q+1) y)[rid]? = Y[rid]? := fun Y y=>List.getElem?_set_ne (by omega)
      have a_r:∀(Y L:AH),Y.length=X.length→(Y++L)[rid]? = Y[rid]? := fun Y L hY=>List.getElem?_append_left (by omega)
      have s_r:∀(Y L:AH) (y:AB),Y.length=X.length→(Y++L).set rid y=Y.set rid y++L:=fun Y L y hY=>List.set_append_left _ _ (by omega)
      have i_r:∀(Y:AH) (y:AB),Y.length=X.length→(Y.set rid y)[rid]? = some y:=fun Y y hY=>List.getElem?_set_self (by omega)
      have n_r_q:∀(Y:AH) (y:AB),(Y.set rid y)[q]? = Y[q]? := fun Y y=>List.getElem?_set_ne (by omega)
      have n_r_p:∀(Y:AH) (y:AB),(Y.set rid y)[(q+1)]? = Y[(q+1)]? := fun Y y=>List.getElem?_set_ne (by omega)
      have t_0:∀(Y L:AH),Y.length=X.length→(Y++L)[X.length]? = L[0]? := fun Y L hY=>by rw[←hY];exact Qad _ _
      have t_k:∀(Y L:AH) (k:Nat),Y.length=X.length→(Y++L)[X.length+k]? = L[k]? := fun Y L k hY=>by rw[←hY];exact hget _ _ _
      have u_0:∀(Y L:AH) (y:AB),Y.length=X.length→(Y++L).set X.length y=Y++L.set 0 y:=fun Y L y hY=>by rw[←hY];exact QbT _ _ _
      have u_k:∀(Y L:AH) (k:Nat) (y:AB),Y.length=X.length→(Y++L).set (X.length+k) y=Y++L.set k y:=fun Y L k y hY=>by rw[←hY];exact hset _ _ _ _
      repeat (first|((first|(with_reducible (first|refine Qa fun K E hK hE=>?_|refine Qj fun K E hK hE=>?_))|(refine QS (id:=5) [(0,0),(1,0),(2,0),(3,0),(4,0),(5,0),(6,0),(7,0),(8,0),(9,0),(10,0),(11,0)] mixed (by kernel_rfl) fun K hK=>?_)|(refine QS (id:=10) [(0,0),(1,0),(2,0),(3,0),(4,0),(5,0),(6,0),(7,2)] mixed (by kernel_rfl) fun K hK=>?_)|(refine Xh (id:=11) [(0,0),(1,0),(2,0),(3,0),(4,0),(5,0),(6,0),(7,0),(8,2),(9,0),(10,0),(11,2)] mixed (by kernel_rfl) fun K hK=>?_));simp -implicitDefEqProofs only[Qc,Qd,OpW,aop,undef,AS.ev,AV.QqY,↓reduceIte,Qg,Qw,Qv,Qu,Ql,QM,aBin,Q1,QG,aLen,XI,Yk,ZA,Y7,goInt,ti3,zi3,ei50,ti54,YM,YC,zi54,ti81,mi81,ti82,ei82,ai82,un82,Qfw,Qd4,Qp,t0,t1,t8,t9,t10,z1,z2,hrow,hat,e1,e2,QT,s2,g1,nM,hupd,List.length_set,ml1,a_q,s_q,i_q,n_q_p,n_q_r,a_p,s_p,n_p_q,n_p_r,a_r,s_r,t_0,t_k,u_0,u_k,seval])|(with_reducible (first|refine Qf fun K hK=>?_|refine Qi ?_|refine Qk ?_|refine Qb ?_|refine Qn ?_))|((with_reducible refine hK _ ?_);clear hK)|(refine Qh rfl ?_;simp only[↓reduceIte,QrN]))
      refine Xi.mk (m':=bs.length - (j+1)) (by omega) ?_
      rw[hI]
      rw[←List.set_append_left _ _ (by simp only[List.length_set];omega)]
      have hML:(lays 54 n .dead (Cur ord bs j)).length≤szs bs:=by rw[Zb,Qh5];exact Nat.le_refl _
      obtain⟨b1,b2⟩:=Qjf (a:=q) hML hq (by omega) hP hA (by omega) (.cells 84 2 [.agg [.mp (X.length+1),.sl 1 (ints []) (some (q+1))]]) (.grow 3 1 1) (.cells 84 2 [.agg [.mp (X.length+1),.sl 1 (ints []++[.v (.int .i64 bs[j].int)]) (some (q+1))]]) [.cells 54 4 [T.lv (n+szs c1) bs[j]],.map [(.int .i64 bs[j].int,.v (.int .i64 0))]]
      obtain⟨r1,r2,r3,r4⟩:=Qin hlt hrid hq b1 (by rw[eo];exact Ql1 (.cells 84 2 [.agg [.mp (X.length+1),.sl 1 (ints []) (some (q+1))]]) (.cells 54 4 [T.lv (n+szs c1) bs[j]]) _ (by omega)) b2 hc1 (by simp only[QsA,List.length_set];omega) ec'
      exact⟨j+1,rfl,by omega,r1,r2,r3,r4,t0,t1,t8,t9,by rw[wj];rfl⟩
     ·have hmX:=Qs s3
      have g3:∀L:AH,(X++L)[m]? = _:=fun L=>hext s3 L
      have hupd:=fun v=>QjB bs[j].int v (QaE ordj) hfl
      have nn:∀L:AH,notNil Tryd.prog 81 (X++L) (.mp m) (.map none)=true:=fun L=>by
       have hu:Tryd.prog.underlying 81=some (.map 3 3):=by kernel_rfl
       simp only[notNil,hu,g3 L,mapB]
      have a_q:∀(Y L:AH),Y.length=X.length→(Y++L)[q]? = Y[q]? := fun Y L hY=>List.getElem?_append_left (by omega)
      have s_q:∀(Y L:AH) (y:AB),Y.length=X.length→(Y++L).set q y=Y.set q y++L:=fun Y L y hY=>List.set_append_left _ _ (by omega)
      have i_q:∀(Y:AH) (y:AB),Y.length=X.length→(Y.set q y)[q]? = some y:=fun Y y hY=>List.getElem?_set_self (by omega)
      have n_q_p:∀(Y:AH) (y:AB),(Y.set q y)[(q+1)]? = Y[(q+1)]? := fun Y y=>List.getElem?_set_ne (by omega)
      have n_q_m:∀(Y:AH) (y:AB),(Y.set q y)[m]? = Y[m]? := fun Y y=>List.getElem?_set_ne (by omega)
      have n_q_r:∀(Y:AH) (y:AB),(Y.set q y)[rid]? = Y[rid]? := fun Y y=>List.getElem?_set_ne (by omega)
      have a_p:∀(Y L:AH),Y.length=X.length→(Y++L)[(q+1)]? = Y[(q+1)]? := fun Y L hY=>List.getElem?_append_left (by omega)
      have s_p:∀(Y L:AH) (y:AB),Y.length=X.length→(Y++L).set (q+1) y=Y.set (q+1) y++L:=fun Y L y hY=>List.set_append_left _ _ (by omega)
      have i_p:∀(Y:AH) (y:AB),Y.length=X.length→(Y.set (q+1) y)[(q+1)]? = some y:=fun Y y hY=>List.getElem?_set_self (by omega)
      have n_p_q:∀(Y:AH) (y:AB),(Y.set (q+1) y)[q]? = Y[q]? := fun Y y=>List.getElem?_set_ne (by omega)
      have n_p_m:∀(Y:AH) (y:AB),(Y.set (q+1) y)[m]? = Y[m]? := fun Y y=>List.getElem?_set_ne (by omega)
      have n_p_r:∀(Y:AH) (y:AB),(Y.set (q+1) y)[rid]? = Y[rid]? := fun Y y=>List.getElem?_set_ne (by omega)
      have a_m:∀(Y L:AH),Y.length=X.length→(Y++L)[m]? = Y[m]? := fun Y L hY=>List.getElem?_append_left (by omega)
      have s_m:∀(Y L:AH) (y:AB),Y.length=X.length→(Y++L).set m y=Y.set m y++L:=fun Y L y hY=>List.set_append_left _ _ (by omega)
      have i_m:∀(Y:AH) (y:AB),Y.length=X.length→(Y.set m y)[m]? = some y:=fun Y y hY=>List.getElem?_set_self (by omega)
      have n_m_q:∀(Y:AH) (y:AB),(Y.set m y)[q]? = Y[q]? := fun Y y=>List.getElem?_set_ne (by omega)
      have n_m_p:∀(Y:AH) (y:AB),(Y.set m y)[(q+1)]? = Y[(q+1)]? := fun Y y=>List.getElem?_set_ne (by omega)
      have n_m_r:∀(Y:AH) (y:AB),(Y.set m y)[rid]? = Y[rid]? := fun Y y=>List.getElem?_set_ne (by omega)
      have a_r:∀(Y L:AH),Y.length=X.length→(Y++L)[rid]? = Y[rid]? := fun Y L hY=>List.getElem?_append_left (by omega)
      have s_r:∀(Y L:AH) (y:AB),Y.length=X.length→(Y++L).set rid y=Y.set rid y++L:=fun Y L y hY=>List.set_append_left _ _ (by omega)
      have i_r:∀(Y:AH) (y:AB),Y.length=X.length→(Y.set rid y)[rid]? = some y:=fun Y y hY=>List.getElem?_set_self (by omega)
      have n_r_q:∀(Y:AH) (y:AB),(Y.set rid y)[q]? = Y[q]? := fun Y y=>List.getElem?_set_ne (by omega)
      have n_r_p:∀(Y:AH) (y:AB),(Y.set rid y)[(q+1)]? = Y[(q+1)]? := fun Y y=>List.getElem?_set_ne (by omega)
      have n_r_m:∀(Y:AH) (y:AB),(Y.set rid y)[m]? = Y[m]? := fun Y y=>List.getElem?_set_ne (by omega)
      have t_0:∀(Y L:AH),Y.length=X.length→(Y++L)[X.length]? = L[0]? := fun Y L hY=>by rw[←hY];exact Qad _ _
      have t_k:∀(Y L:AH) (k:Nat),Y.length=X.length→(Y++L)[X.length+k]? = L[k]? := fun Y L k hY=>by rw[←hY];exact hget _ _ _
      have u_0:∀(Y L:AH) (y:AB),Y.length=X.length→(Y++L).set X.length y=Y++L.set 0 y:=fun Y L y hY=>by rw[←hY];exact QbT _ _ _
      have u_k:∀(Y L:AH) (k:Nat) (y:AB),Y.length=X.length→(Y++L).set (X.length+k) y=Y++L.set k y:=fun Y L k y hY=>by rw[←hY];exact hset _ _ _ _
      repeat (first|((first|(with_reducible (first|refine Qa fun K E hK hE=>?_|refine Qj fun K E hK hE=>?_))|(refine QS (id:=5) [(0,0),(1,0),(2,0),(3,0),(4,0),(5,0),(6,0),(7,0),(8,0),(9,0),(10,0),(11,0)] mixed (by kernel_rfl) fun K hK=>?_)|(refine QS (id:=10) [(0,0),(1,0),(2,0),(3,0),(4,0),(5,0),(6,0),(7,2)] mixed (by kernel_rfl) fun K hK=>?_)|(refine Xh (id:=11) [(0,0),(1,0),(2,0),(3,0),(4,0),(5,0),(6,0),(7,0),(8,2),(9,0),(10,0),(11,2)] mixed (by kernel_rfl) fun K hK=>?_));simp -implicitDefEqProofs only[Qc,Qd,OpW,aop,undef,AS.ev,AV.QqY,↓reduceIte,Qg,Qw,Qv,Qu,Ql,QM,aBin,Q1,QG,aLen,XI,Yk,ZA,Y7,goInt,ti3,zi3,ei50,ti54,YM,YC,zi54,ti81,mi81,ti82,ei82,ai82,un82,Qfw,Qd4,Qp,t0,t1,t8,t9,t10,z1,z2,hrow,hat,e1,e2,QT,s1,s2,g1,g3,hfind,mapB,hupd,nn,List.length_set,ml2,ml3,a_q,s_q,n_q_r,a_p,s_p,n_p_q,n_p_r,s_m,n_m_q,n_m_p,n_m_r,a_r,s_r,t_0,u_0,seval])|(with_reducible (first|refine Qf fun K hK=>?_|refine Qi ?_|refine Qk ?_|refine Qb ?_|refine Qn ?_))|((with_reducible refine hK _ ?_);clear hK)|(refine Qh rfl ?_;simp only[↓reduceIte,QrN]))
      refine Xi.mk (m':=bs.length - (j+1)) (by omega) ?_
      rw[hI]
      rw[←List.set_append_left _ _ (by simp only[List.length_set];omega)]
      have hML:(lays 54 n .dead (Cur ord bs j)).length≤szs bs:=by rw[Zb,Qh5];exact Nat.le_refl _
      obtain⟨b1,b2⟩:=Qjf (a:=m) hML hq (by omega) hP hA (by omega) (.map (imap (QaE ordj++[(bs[j].int,.v (.int .i64 ordj.length))]))) (.grow 3 1 (ordj.length+1)) (.cells 84 2 [.agg [.mp m,.sl 1 (ints ordj++[.v (.int .i64 bs[j].int)]) (some (q+1))]]) [.cells 54 4 [T.lv (n+szs c1) bs[j]]]
      obtain⟨r1,r2,r3,r4⟩:=Qin hlt hrid hq b1 (by rw[eo];exact QnF (.cells 54 4 [T.lv (n+szs c1) bs[j]]) _ (by omega) hm hmX) b2 hc1 (by simp only[QsA,List.length_set];omega) ec'
      exact⟨j+1,rfl,by omega,r1,r2,r3,r4,t0,t1,t8,t9,by rw[wj];rfl⟩
   ·have z2:(bs[j].kind != 1)=true:=by simpa using hk
    have hm:=QlT (s:=ordj) hup hk
    rw[hm]at ec' eo
    have hsub:At X (n+szs c1) (layA 54 (n+szs c1) bs[j].args):=by
     have:=Qpy (by rw[ec]at hA;exact hA)
     rwa [T.Qq8]at this
    have cI:∀c:AB,QL Tryd.prog 57 [.ptr q 0 0,lsl (n+szs c1) bs[j].args] (X++[c]) fun o h'=>o = .ret (.tup [])∧∃Y:{Y:AH // TmQ (X++[c]) q (n+szs c1) ordj bs[j].args (.ret (.tup [])) Y},h'=Y.1:=fun c =>
     (IH bs[j].args (by omega) (T.QrF hup).2.2 (X++[c]) q (n+szs c1) ordj (by
      have:=T.Qri bs[j]
      have h1:=Qcp ord (bs.take j)
      have h2:=Qkb bs hlt
      rw[hord]at h1
      omega) (by omega) (by rw[List.length_append];omega) (hS.app _) (hsub.app _)).mono fun o h' q=>by
       obtain⟨rfl,q2⟩:=q
       exact⟨rfl,⟨h',rfl,q2⟩,rfl⟩
    repeat (first|((first|(with_reducible (first|refine Qa fun K E hK hE=>?_|refine Qj fun K E hK hE=>?_|refine FunW.retE (FunW.call (cI _)) fun Y=>?_)));simp -implicitDefEqProofs only[Qc,Qd,OpW,QB,aop,undef,AS.ev,AV.QqY,↓reduceIte,Qg,Qw,Qv,Qu,Ql,QM,aBin,ti3,ti50,ei50,ti54,YM,Zx,zi54,t0,t8,t9,t10,z1,z2,hrow,hat,e1,e2,QT,seval])|(with_reducible (first|refine Qf fun K hK=>?_|refine Qi ?_|refine Qk ?_|refine QF ?_|refine Qb ?_|refine QD ?_|refine QC ?_))|((with_reducible refine hK _ ?_);clear hK)|(clear hK;(with_reducible refine hK _ ?_);clear hK)|(refine Qh rfl ?_;simp only[↓reduceIte]))
    obtain⟨Y,hY⟩:=Y
    obtain⟨_,y1,y2,y3⟩:=hY
    repeat ((((with_reducible refine Qa fun K E hK hE=>?_));simp -implicitDefEqProofs only[Qc,Qd,OpW,QB,aop,undef,Xa,AS.ev,Qr,AV.QqY,↓reduceIte,Qg,Qw,Qv,Qu,Ql,QM,aBin,Q1,Q6,QG,aLen,XI,Yk,ZA,Y7,goInt,ti0,zi0,ti3,zi3,un3,ti4,zi4,un4,ti50,ei50,ai50,zi50,un50,ti54,YM,YC,ZV,Zx,zi54,sp54,ti81,zi81,mi81,un81,ti82,ei82,ai82,zi82,un82,ti84,Qfw,Qd4,zi84,sp84,Qpo,Qpv,Qpr,QqV,Qsw,Int.sub_zero,XJ,Qp,t10,wj,seval]))
    have hP2:NumP X Y q (n+szs c1) (szs bs[j].args):=⟨by have:=y1.long;rw[List.length_append]at this;omega,fun i hi hn=>by rw[y1.out i hi hn,List.getElem?_append_left (by omega)]⟩
    refine Xi.mk (m':=bs.length - (j+1)) (by omega) ?_
    rw[hI]
    refine⟨j+1,rfl,by omega,hP.trans hP2 (by omega) (by omega),by rw[eo];exact y2,?_,?_,t0,t1,t8,t9,by rw[wj];rfl⟩
    ·rw[ec']
     refine QoK (u:=bs[j]) (by rw[←ec];exact hA) ?_ (by rw[T.Qq8];exact y3) fun i h1 h2 h3=>hP2.out i ?_ (by rw[←hu1];exact h3)
     ·rw[T.Qrc,T.Qrc bs[j]];exact YN _ _ _
     ·rw[YP,szs]at h2;omega
    ·rw[ec',QnA (u:=bs[j]) (fun k=>by rw[T.Qrg,T.Qrg];exact congrArg _ (by simp only[T.args,T.kind,T.int,T.name,Qem])) (by rw[T.Qrc,T.Qrc bs[j]];exact YN _ _ _),←ec,←hrow]
     exact hP2.out rid (by omega) (by omega)
  ·have hjl:j=bs.length:=by omega
   have z1:¬(((j:Nat):Int)<((bs.length:Nat):Int)):=by omega
   repeat (first|(((with_reducible refine Qa fun K E hK hE=>?_));simp -implicitDefEqProofs only[Qc,Qd,OpW,aop,AS.ev,Nat.reduceLT,aBin,t9,t10,z1])|(with_reducible (first|refine Qf fun K hK=>?_|refine QF ?_|refine QD ?_|refine QC ?_))|((with_reducible refine hK _ ?_);clear hK)|(refine Qh rfl ?_;simp only[↓reduceIte,QrN]))
   simp -implicitDefEqProofs only[QrL,QrP,List.mapM_nil,Option.pure_def,QrL,QH,Qo,QrT]
   subst hjl
   have hcur:Cur ord bs bs.length=(XD gNum ord bs).1:=by rw[Cur,List.take_length,List.drop_length,List.append_nil]
   rw[List.take_length]at hS
   rw[hcur]at hA hrow
   refine .inr ⟨rfl,hP,hS,?_⟩
   have hne2:(XD gNum ord bs).1≠[]:=fun e=>hne (List.eq_nil_of_length_eq_zero (by rw[←ZN gNum ord bs,e];rfl))
   exact Qqi hA hne2 (by rw[YN,←hrid];exact hrow)
 ·rw[hI]
  have hcur:Cur ord bs 0=bs:=by simp[Cur,XD]
  exact⟨0,rfl,Nat.zero_le _,NumP.refl _ _ _ _,by simpa [XD]using hS0,by rw[hcur];exact hA1,by rw[hcur];exact hrow0,rfl,rfl,rfl,rfl,rfl⟩
end
theorem Qc6:∀(N:Nat) (bs:List T),szs bs<N→pss bs→∀(X:AH) (q n:Nat) (ord:List Int),ord.length+ndsL bs≤1000000000→n+szs bs≤q→q+1<X.length→NSt X q ord→At X n (layA 54 n bs)→QL Tryd.prog 57 [.ptr q 0 0,lsl n bs] X (TmQ X q n ord bs)
 |0,bs,h=>(Nat.not_lt_zero _ h).elim
 |N+1,bs,h=>fun hp X q n ord h1 h2 h3 h4 h5=>QkC (Qc6 N) bs h hp X q n ord h1 h2 h3 h4 h5
end Go.Proofs.YticgcpebdldbgaaDoor.Ab
set_option maxRecDepth 4000
namespace Go.Proofs.YticgcpebdldbgaaDoor.Ab
open Go.Proofs
theorem Qj4{X σ:Type}(g:σ→X→X×σ)(s:σ){l:List X}{k:Nat}(h:k<l.length) :
  (Xp g s (l.take (k+1))).1=(Xp g s (l.take k)).1++[(g (Xp g s (l.take k)).2 l[k]).1]∧(Xp g s (l.take (k+1))).2=(g (Xp g s (l.take k)).2 l[k]).2:=by
 rw[List.take_succ_eq_append_getElem h,Qdf]
 exact⟨by simp[Xp],by simp[Xp]⟩
def gG(s:List Int)(g:G):G×List Int:=(⟨g.op,g.name,(XD gNum s g.args).1⟩,(XD gNum s g.args).2)
def ndG:List G→Nat
 |[]=>0
 |g::l=>ndsL g.args+ndG l
theorem QfI:∀a b:List G,ndG (a++b)=ndG a+ndG b
 |[],b=>by simp[ndG]
 |t::a,b=>by rw[List.cons_append,ndG,ndG,QfI a b];omega
theorem Qhq(l:List G){j:Nat}(h:j<l.length):ndG (l.take j)+ndsL l[j].args≤ndG l:=by
 have:=congrArg ndG (List.take_append_drop j l)
 rw[QfI,List.drop_eq_getElem_cons h,ndG]at this
 omega
theorem QaT:∀(s:List Int) (l:List G),(Xp gG s l).2.length≤s.length+ndG l
 |s,[]=>by simp[Xp]
 |s,g::l=>by
  have h1:=Qcp s g.args
  have h2:=QaT (gG s g).2 l
  simp only[Xp,ndG]
  show _≤_
  have h3:(gG s g).2=(XD gNum s g.args).2:=rfl
  rw[h3]at h2 ⊢
  omega
theorem Ys:∀(s:List Int) (l:List G),gsz (Xp gG s l).1=gsz l
 |s,[]=>rfl
 |s,g::l=>by
  simp only[Xp,gsz,Ys _ l]
  rw[show(gG s g).1.args=(XD gNum s g.args).1 from rfl,YN]
def CurG(ord:List Int)(bs:List G)(j:Nat):List G:=(Xp gG ord (bs.take j)).1++bs.drop j
theorem Qfn(ord:List Int){bs:List G}{j:Nat}(hj:j<bs.length):CurG ord bs j=(Xp gG ord (bs.take j)).1++bs[j]::bs.drop (j+1) ∧
  CurG ord bs (j+1)=(Xp gG ord (bs.take j)).1++(gG (Xp gG ord (bs.take j)).2 bs[j]).1::bs.drop (j+1)∧(Xp gG ord (bs.take (j+1))).2=(gG (Xp gG ord (bs.take j)).2 bs[j]).2:=by
 obtain⟨h1,h2⟩:=Qj4 gG ord hj
 refine⟨by rw[CurG,List.drop_eq_getElem_cons hj],?_,h2⟩
 rw[CurG,h1,List.append_assoc];rfl
theorem Qgj(tt:TypeId):∀(n:Nat) (l:List G) (g:G) (m:List G),layG tt n (l++g::m)=layG tt n l++(.dead::(layA tt (n+gsz l+1) g.args++(.dead::layG tt (n+gsz l+szs g.args+2) m)))
 |n,[],g,m=>by simp[layG,gsz]
 |n,a::l,g,m=>by
  rw[List.cons_append,layG,layG,Qgj tt _ l g m,gsz]
  rw[show n+szs a.args+2+gsz l=n+(szs a.args+2+gsz l) by omega]
  simp only[Qsb,List.append_assoc]
theorem QlR(vw:Nat→G→AV):∀(n:Nat) (l:List G) {j:Nat} (h:j<l.length),(lvG vw n l)[j]? = some (vw (n+gsz (l.take j)+1) l[j])
 |n,g::l,0,h=>by simp[lvG,gsz]
 |n,g::l,j+1,h=>by
  rw[lvG,List.getElem?_cons_succ,QlR vw _ l (by simpa using h),List.take_succ_cons,gsz,List.getElem_cons_succ]
  rw[show n+szs g.args+2+gsz (l.take j)=n+(szs g.args+2+gsz (l.take j)) by omega]
theorem At.keep{X Y:AH}{n:Nat}{L:AH}(h:At X n L)(hk:∀i,n≤i→i<n+L.length→Y[i]? = X[i]?):At Y n L:=fun j b hb hl=>by
 rw[hk _ (by omega) (by have:=Qs hb;omega)];exact h j b hb hl
theorem at_g{X:AH}{tt:TypeId}{n:Nat}{l m:List G}{g:G}(h:At X n (layG tt n (l++g::m))):At X (n+gsz l+1) (layA tt (n+gsz l+1) g.args):=by
 rw[Qgj]at h
 have h1:=h.right (m:=n+gsz l) (by rw[QO])
 exact(At.right (L:=[.dead]) h1 rfl).left
theorem QkX{X Y:AH}{tt:TypeId}{n:Nat}{l m:List G}{g g':G}(h:At X n (layG tt n (l++g::m)))(hs:szs g'.args=szs g.args)(hg:At Y (n+gsz l+1) (layA tt (n+gsz l+1) g'.args))
  (hout:∀i,n≤i→i<n+gsz (l++g::m)→¬(n+gsz l+1≤i∧i<n+gsz l+1+szs g.args)→Y[i]? = X[i]?):At Y n (layG tt n (l++g'::m)):=by
 have hz:gsz (l++g::m)=gsz l+(szs g.args+2+gsz m):=by rw[Zk,gsz]
 rw[Qgj]at h ⊢
 have h1:=h.right (m:=n+gsz l) (by rw[QO])
 have h0:At X (n+gsz l+1) (layA tt (n+gsz l+1) g.args++(.dead::layG tt (n+gsz l+szs g.args+2) m)):=At.right (L:=[.dead]) h1 rfl
 have h2:=h0.right (m:=n+gsz l+1+szs g.args) (by rw[Yg])
 have h3:At X (n+gsz l+1+szs g.args+1) (layG tt (n+gsz l+szs g.args+2) m):=At.right (L:=[.dead]) (M:=layG tt (n+gsz l+szs g.args+2) m) h2 rfl
 refine At.both (h.left.keep fun i h1 h2=>hout i h1 (by rw[QO]at h2;omega) (by rw[QO]at h2;omega)) ?_
 rw[QO]
 refine At.cons (fun e=>by cases e) (At.both hg ?_)
 rw[Yg,hs]
 refine At.cons (fun e=>by cases e) (h3.keep fun i h1 h2=>hout i (by omega) (by rw[QO]at h2;omega) (by omega))
def GnQ(X:AH)(q n:Nat)(ord:List Int)(l:List G)(o:AOut)(h':AH):Prop:=o = .ret (.tup [])∧NumP X h' q n (gsz l)∧NSt h' q (Xp gG ord l).2∧At h' n (layG 54 n (Xp gG ord l).1)
theorem QeZ(l:List G)(own:Option Nat)(hps:∀g∈l,pss g.args)(X0:AH)(q n:Nat)(ord:List Int)(hbl:l.length≤1000000000)(hb:ord.length+ndG l≤1000000000)(hq:n+gsz l≤q)(hqx:q+1<X0.length)(hS0:NSt X0 q ord)(hA0:At X0 n (layG 54 n l)) :
  QL Tryd.prog 30 [.ptr q 0 0,.sl 3 (lvG gv n l) own] X0 (GnQ X0 q n ord l):=by
 have hlv:=Yx gv n l
 refine Qe Tryd.func30 rfl Tryd.call30 Tryd.ntmps30 Tryd.results30 (by simp) ?_
 repeat (first|(((with_reducible refine Qa fun K E hK hE=>?_));simp -implicitDefEqProofs only[Qc,Qd,OpW,aop,undef,AS.ev,Qr,↓reduceIte,Nat.reduceLT,aLen,goInt,un32,hlv])|(with_reducible refine Qi ?_)|((with_reducible refine hK _ ?_);clear hK))
 obtain⟨I,hI⟩:∃I:Nat→AS→Prop,I=fun m' s=>∃(j:Nat),m'=l.length - j∧j≤l.length∧NumP X0 s.h q n (gsz l)∧NSt s.h q (Xp gG ord (l.take j)).2∧At s.h n (layG 54 n (CurG ord l j)) ∧
  s.tm 0 = .ptr q 0 0∧s.tm 6 = .sl 3 (lvG gv n l) own∧s.tm 7 = .i l.length∧s.tm 8 = .i j:=⟨_,rfl⟩;refine QR I ?_ (m:=l.length) ?_
 ·intro m' s hs;rw[hI]at hs;obtain⟨tm,hp⟩:=s;dsimp only at hs;obtain⟨j,rfl,hj,hP,hS,hA,t0,t6,t7,t8⟩:=hs
  by_cases hlt:j<l.length
  ·have z1:(((j:Nat):Int)<((l.length:Nat):Int)):=by omega
   obtain⟨ec,ec',eo⟩:=Qfn ord hlt
   have hpl:=hP.long
   generalize hX:hp=X at *
   generalize hc1:(Xp gG ord (l.take j)).1=c1 at *
   have hc1s:gsz c1=gsz (l.take j):=by rw[←hc1,Ys]
   generalize hord:(Xp gG ord (l.take j)).2=ordj at *
   have hol:ordj.length+ndsL l[j].args≤1000000000:=by
    have h1:=QaT ord (l.take j)
    have h2:=Qhq l hlt
    rw[hord]at h1;omega
   have hszu:gsz (l.take j)+(szs l[j].args+2+gsz (l.drop (j+1)))=gsz l:=by
    have:=congrArg gsz (List.take_append_drop j l)
    rw[Zk,List.drop_eq_getElem_cons hlt,gsz]at this
    exact this
   have hat:(lvG gv n l)[j]? = some (gv (n+gsz c1+1) l[j]):=by rw[QlR _ _ _ hlt,hc1s]
   have e1:(gv (n+gsz c1+1) l[j]).cells=[.i l[j].op,.v (.string l[j].name),lsl (n+gsz c1+1) l[j].args]:=rfl
   have e2:(gv (n+gsz c1+1) l[j]).isAgg=true:=rfl
   have wj:IntKind.i64.wrap (((j:Nat):Int)+1)=((j+1:Nat):Int):=XE (by omega)
   have hsub:At X (n+gsz c1+1) (layA 54 (n+gsz c1+1) l[j].args):=at_g (by rw[←ec];exact hA)
   have cI:∀c:AB,QL Tryd.prog 57 [.ptr q 0 0,lsl (n+gsz c1+1) l[j].args] (X++[c]) fun o h'=>o = .ret (.tup [])∧∃Y:{Y:AH // TmQ (X++[c]) q (n+gsz c1+1) ordj l[j].args (.ret (.tup [])) Y},h'=Y.1:=fun c =>
    (Qc6 (szs l[j].args+1) l[j].args (by omega) (hps _ (List.getElem_mem hlt)) (X++[c]) q (n+gsz c1+1) ordj hol (by omega) (by rw[List.length_append];omega) (hS.app _) (hsub.app _)).mono fun o h' q=>by
      obtain⟨rfl,q2⟩:=q
      exact⟨rfl,⟨h',rfl,q2⟩,rfl⟩
   repeat (first|((first|(with_reducible (first|refine Qa fun K E hK hE=>?_|refine Qj fun K E hK hE=>?_|refine FunW.retE (FunW.call (cI _)) fun Y=>?_)));simp -implicitDefEqProofs only[Qc,Qd,OpW,QB,aop,undef,AS.ev,AV.QqY,↓reduceIte,Qg,Qw,Qv,Qu,Ql,QM,aBin,ei32,ti50,ti52,QaA,zi52,t0,t6,t7,t8,z1,hat,hlv,e1,e2,QT,seval])|(with_reducible (first|refine Qf fun K hK=>?_|refine Qi ?_|refine Qk ?_|refine Qb ?_|refine Qn ?_))|((with_reducible refine hK _ ?_);clear hK)|(refine Qh rfl ?_;simp only[↓reduceIte]))
   obtain⟨Y,hY⟩:=Y
   obtain⟨_,y1,y2,y3⟩:=hY
   repeat ((((with_reducible refine Qa fun K E hK hE=>?_));simp -implicitDefEqProofs only[Qc,Qd,OpW,QB,aop,undef,Xa,AS.ev,Qr,AV.QqY,↓reduceIte,Qg,Qw,Qv,Qu,Ql,QM,aBin,aLen,goInt,ti0,zi0,ti3,zi3,un3,ti32,ei32,ai32,zi32,un32,ti50,ei50,ai50,zi50,un50,ti52,YB,Qft,QaA,zi52,sp52,ti54,YM,YC,ZV,Zx,zi54,sp54,ti84,Qfw,Qd4,zi84,sp84,Qpo,Qpv,Qpr,Qsw,Int.sub_zero,XJ,Qp,t8,wj,seval]))
   have hP2:NumP X Y q (n+gsz c1+1) (szs l[j].args):=⟨by have:=y1.long;rw[List.length_append]at this;omega,fun i hi hn=>by rw[y1.out i hi hn,List.getElem?_append_left (by omega)]⟩
   refine Xi.mk (m':=l.length - (j+1)) (by omega) ?_
   rw[hI]
   refine⟨j+1,rfl,by omega,hP.trans hP2 (by omega) (by omega),by rw[eo];exact y2,?_,t0,t6,t7,by rw[wj];rfl⟩
   rw[ec']
   refine QkX (g:=l[j]) (by rw[←ec];exact hA) (YN _ _ _) y3 fun i h1 h2 h3=>hP2.out i ?_ h3
   rw[Zk,gsz]at h2;omega
  ·have hjl:j=l.length:=by omega
   have z1:¬(((j:Nat):Int)<((l.length:Nat):Int)):=by omega
   repeat (first|(((with_reducible refine Qa fun K E hK hE=>?_));simp -implicitDefEqProofs only[Qc,Qd,OpW,aop,AS.ev,Nat.reduceLT,aBin,t7,t8,z1])|(with_reducible (first|refine Qf fun K hK=>?_|refine QF ?_|refine QD ?_|refine QC ?_))|((with_reducible refine hK _ ?_);clear hK)|(refine Qh rfl ?_;simp only[↓reduceIte,QrN]))
   simp -implicitDefEqProofs only[QrL,QrP,List.mapM_nil,Option.pure_def,QrL,QH,Qo,QrT]
   subst hjl
   have hcur:CurG ord l l.length=(Xp gG ord l).1:=by rw[CurG,List.take_length,List.drop_length,List.append_nil]
   rw[List.take_length]at hS
   rw[hcur]at hA
   exact .inr ⟨rfl,hP,hS,hA⟩
 ·rw[hI]
  have hcur:CurG ord l 0=l:=by simp[CurG,Xp]
  exact⟨0,rfl,Nat.zero_le _,NumP.refl _ _ _ _,by simpa [Xp]using hS0,by rw[hcur];exact hA0,rfl,rfl,rfl,rfl⟩
theorem QeY(l:List G)(own:Option Nat)(hps:∀g∈l,pss g.args)(X0:AH)(q n:Nat)(ord:List Int)(hbl:l.length≤1000000000)(hb:ord.length+ndG l≤1000000000)(hq:n+gsz l≤q)(hqx:q+1<X0.length)(hS0:NSt X0 q ord)(hA0:At X0 n (layG 54 n l)) :
  QL Tryd.prog 42 [.ptr q 0 0,.sl 2 (lvG av n l) own] X0 (GnQ X0 q n ord l):=by
 have hlv:=Yx av n l
 refine Qe Tryd.func42 rfl Tryd.call42 Tryd.ntmps42 Tryd.results42 (by simp) ?_
 repeat (first|(((with_reducible refine Qa fun K E hK hE=>?_));simp -implicitDefEqProofs only[Qc,Qd,OpW,aop,undef,AS.ev,Qr,↓reduceIte,Nat.reduceLT,aLen,goInt,un31,hlv])|(with_reducible refine Qi ?_)|((with_reducible refine hK _ ?_);clear hK))
 obtain⟨I,hI⟩:∃I:Nat→AS→Prop,I=fun m' s=>∃(j:Nat),m'=l.length - j∧j≤l.length∧NumP X0 s.h q n (gsz l)∧NSt s.h q (Xp gG ord (l.take j)).2∧At s.h n (layG 54 n (CurG ord l j)) ∧
  s.tm 0 = .ptr q 0 0∧s.tm 6 = .sl 2 (lvG av n l) own∧s.tm 7 = .i l.length∧s.tm 8 = .i j:=⟨_,rfl⟩;refine QR I ?_ (m:=l.length) ?_
 ·intro m' s hs;rw[hI]at hs;obtain⟨tm,hp⟩:=s;dsimp only at hs;obtain⟨j,rfl,hj,hP,hS,hA,t0,t6,t7,t8⟩:=hs
  by_cases hlt:j<l.length
  ·have z1:(((j:Nat):Int)<((l.length:Nat):Int)):=by omega
   obtain⟨ec,ec',eo⟩:=Qfn ord hlt
   have hpl:=hP.long
   generalize hX:hp=X at *
   generalize hc1:(Xp gG ord (l.take j)).1=c1 at *
   have hc1s:gsz c1=gsz (l.take j):=by rw[←hc1,Ys]
   generalize hord:(Xp gG ord (l.take j)).2=ordj at *
   have hol:ordj.length+ndsL l[j].args≤1000000000:=by
    have h1:=QaT ord (l.take j)
    have h2:=Qhq l hlt
    rw[hord]at h1;omega
   have hszu:gsz (l.take j)+(szs l[j].args+2+gsz (l.drop (j+1)))=gsz l:=by
    have:=congrArg gsz (List.take_append_drop j l)
    rw[Zk,List.drop_eq_getElem_cons hlt,gsz]at this
    exact this
   have hat:(lvG av n l)[j]? = some (av (n+gsz c1+1) l[j]):=by rw[QlR _ _ _ hlt,hc1s]
   have e1:(av (n+gsz c1+1) l[j]).cells=[.v (.string l[j].name),lsl (n+gsz c1+1) l[j].args]:=rfl
   have e2:(av (n+gsz c1+1) l[j]).isAgg=true:=rfl
   have wj:IntKind.i64.wrap (((j:Nat):Int)+1)=((j+1:Nat):Int):=XE (by omega)
   have hsub:At X (n+gsz c1+1) (layA 54 (n+gsz c1+1) l[j].args):=at_g (by rw[←ec];exact hA)
   have cI:∀c:AB,QL Tryd.prog 57 [.ptr q 0 0,lsl (n+gsz c1+1) l[j].args] (X++[c]) fun o h'=>o = .ret (.tup [])∧∃Y:{Y:AH // TmQ (X++[c]) q (n+gsz c1+1) ordj l[j].args (.ret (.tup [])) Y},h'=Y.1:=fun c =>
    (Qc6 (szs l[j].args+1) l[j].args (by omega) (hps _ (List.getElem_mem hlt)) (X++[c]) q (n+gsz c1+1) ordj hol (by omega) (by rw[List.length_append];omega) (hS.app _) (hsub.app _)).mono fun o h' q=>by
      obtain⟨rfl,q2⟩:=q
      exact⟨rfl,⟨h',rfl,q2⟩,rfl⟩
   repeat (first|((first|(with_reducible (first|refine Qa fun K E hK hE=>?_|refine Qj fun K E hK hE=>?_|refine FunW.retE (FunW.call (cI _)) fun Y=>?_)));simp -implicitDefEqProofs only[Qc,Qd,OpW,QB,aop,undef,AS.ev,AV.QqY,↓reduceIte,Qg,Qw,Qv,Qu,Ql,QM,aBin,ei31,ti50,ti72,Z7,zi72,t0,t6,t7,t8,z1,hat,hlv,e1,e2,QT,seval])|(with_reducible (first|refine Qf fun K hK=>?_|refine Qi ?_|refine Qk ?_|refine Qb ?_|refine Qn ?_))|((with_reducible refine hK _ ?_);clear hK)|(refine Qh rfl ?_;simp only[↓reduceIte]))
   obtain⟨Y,hY⟩:=Y
   obtain⟨_,y1,y2,y3⟩:=hY
   repeat ((((with_reducible refine Qa fun K E hK hE=>?_));simp -implicitDefEqProofs only[Qc,Qd,OpW,QB,aop,undef,Xa,AS.ev,Qr,AV.QqY,↓reduceIte,Qg,Qw,Qv,Qu,Ql,QM,aBin,aLen,goInt,ti0,zi0,ti3,zi3,un3,ti31,ei31,ai31,zi31,un31,ti50,ei50,ai50,zi50,un50,ti54,YM,YC,ZV,Zx,zi54,sp54,ti72,Qfv,Z7,zi72,sp72,ti84,Qfw,Qd4,zi84,sp84,Qpo,Qpv,Qpr,Qsw,Int.sub_zero,XJ,Qp,t8,wj,seval]))
   have hP2:NumP X Y q (n+gsz c1+1) (szs l[j].args):=⟨by have:=y1.long;rw[List.length_append]at this;omega,fun i hi hn=>by rw[y1.out i hi hn,List.getElem?_append_left (by omega)]⟩
   refine Xi.mk (m':=l.length - (j+1)) (by omega) ?_
   rw[hI]
   refine⟨j+1,rfl,by omega,hP.trans hP2 (by omega) (by omega),by rw[eo];exact y2,?_,t0,t6,t7,by rw[wj];rfl⟩
   rw[ec']
   refine QkX (g:=l[j]) (by rw[←ec];exact hA) (YN _ _ _) y3 fun i h1 h2 h3=>hP2.out i ?_ h3
   rw[Zk,gsz]at h2;omega
  ·have hjl:j=l.length:=by omega
   have z1:¬(((j:Nat):Int)<((l.length:Nat):Int)):=by omega
   repeat (first|(((with_reducible refine Qa fun K E hK hE=>?_));simp -implicitDefEqProofs only[Qc,Qd,OpW,aop,AS.ev,Nat.reduceLT,aBin,t7,t8,z1])|(with_reducible (first|refine Qf fun K hK=>?_|refine QF ?_|refine QD ?_|refine QC ?_))|((with_reducible refine hK _ ?_);clear hK)|(refine Qh rfl ?_;simp only[↓reduceIte,QrN]))
   simp -implicitDefEqProofs only[QrL,QrP,List.mapM_nil,Option.pure_def,QrL,QH,Qo,QrT]
   subst hjl
   have hcur:CurG ord l l.length=(Xp gG ord l).1:=by rw[CurG,List.take_length,List.drop_length,List.append_nil]
   rw[List.take_length]at hS
   rw[hcur]at hA
   exact .inr ⟨rfl,hP,hS,hA⟩
 ·rw[hI]
  have hcur:CurG ord l 0=l:=by simp[CurG,Xp]
  exact⟨0,rfl,Nat.zero_le _,NumP.refl _ _ _ _,by simpa [Xp]using hS0,by rw[hcur];exact hA0,rfl,rfl,rfl,rfl⟩
theorem Qqo{c:Cx}(hst:St c){id ty n:Nat}{xs xs':List AV}{j:Nat}{v w:AV}(hb:c.h[id]? = some (.cells ty n xs))(hj:(flat xs)[j]? = some v)(hf:flat xs'=(flat xs).set j w)(hw:Wk v w)(hc:∀x∈xs',x.cells.length=n) :
  ∃c2,Ev c c2∧St c2∧c2.h=c.h.set id (AB.cells ty n xs')∧c2.w=c.w:=by
 obtain⟨B,cur,hρ,hcur,h3,h4⟩:=hst.blocks id _ hb
 have hev2:=Ev.turn (b':=.cells ty n xs') hst hb rfl hρ (w:=c.w) rfl rfl rfl rfl (fun _ _=>rfl) (.inr ⟨_,rfl,rfl,fun _ cur _ h=>⟨cur,h,rfl⟩⟩)
 have hst2:=St.turn (b':=.cells ty n xs') hst hb rfl hρ (w:=c.w) (fun _ _=>rfl) hev2 ⟨B,cur,hρ,hcur,hc,by
  intro i a' hi
  rw[hf]at hi
  by_cases e:j=i
  ·subst e
   rw[List.getElem?_set_self (Qs hj)]at hi
   cases hi
   obtain⟨u,g1,g2,g3⟩:=h4 j _ hj
   exact⟨_,g1,g2,(hw _ _ g3).ev hst hev2⟩
  ·rw[List.getElem?_set_ne e]at hi
   obtain⟨u,g1,g2,g3⟩:=h4 i _ hi
   exact⟨u,g1,g2,g3.ev hst hev2⟩⟩
 exact⟨_,hev2,hst2,rfl,rfl⟩
theorem Qbc{P:Program}{N:Nat}{code:Code}{Q:AExit→AS→Prop}{tm:Nat→AV}{h:AH}(id ty n:Nat)(xs xs':List AV)(j:Nat){v w:AV}(hw:Wk v w)(hb:h[id]? = some (.cells ty n xs))
  (hj:(flat xs)[j]? = some v) (hf:flat xs'=(flat xs).set j w) (hc:∀x∈xs',x.cells.length=n)
  (H:XS P N code Q ⟨tm,h.set id (AB.cells ty n xs')⟩):XS P N code Q ⟨tm,h⟩:=by
 intro F m base c a hF hst hr R hR
 have hh:c.h=h:=hr.h
 subst hh
 obtain⟨c2,hev,hst2,hh2,hw2⟩:=Qqo hst hb hj hf hw hc
 rw[←hw2]
 exact H F m base c2 a hF hst2 ⟨hh2,hr.size,Nat.le_trans hr.above hev.size,hr.defers.ev hev,RoundOk.ev hev hr.round,fun t=>(hr.tm t).ev hst hev⟩ R fun e' s' c' a' ex hq h1 h2 h3 h4=>hR e' s' c' a' ex hq (Ev.trans hst hev h1) h2 h3 h4
def Pz.to(P:Pz)(n:Nat):Pz:=⟨P.all,P.i,P.j,n⟩
def pN(P:Pz)(s:PS)(own:Option Nat):AB:=.cells 66 4 [.agg [.sl 3 (tks P.all) none,.i ((P.all.length - s.toks.length:Nat):Int),.sl 1 (strs s.names) own,.mp P.j]]
structure PIn (P:Pz) (X:AH) (s:PS) (own:Option Nat) (m:List (ByteArray×AV)):Prop where
 i:X[P.i]? = some (pN P s own)
 j:X[P.j]? = some (.map (smap m))
theorem PIn.ok{P:Pz}{X:AH}{s:PS}{own:Option Nat}{m:List (ByteArray×AV)}(H:PIn P X s own m)(L:AH)(x:AB):(P.to X.length).ok (X++(x::L)):=by
 have h1:=Qs H.i
 have h2:=Qs H.j
 refine⟨by rw[List.length_append];simp only[Pz.to];omega,by rw[List.length_append];simp only[Pz.to];omega,by rw[List.length_append,List.length_cons];simp only[Pz.to];omega,?_,?_,?_⟩
 ·intro e
  simp only[Pz.to]at e
  have h3:=H.i
  rw[e,H.j]at h3
  cases h3
 ·simp only[Pz.to];omega
 ·simp only[Pz.to];omega
theorem QjP{X:AH}{P:Pz}{s:PS}{own:Option Nat}{m:List (ByteArray×AV)}(H:PIn P X s own m):QL Tryd.prog 33 [.ptr P.i 0 0] X fun o h'=>o = .ret (.tup [])∧h'=ph (X++[.dead]) (P.to X.length) ⟨s.toks,[]⟩:=by
 have hi:=H.i
 have hj:=H.j
 have h1:=Qs hi
 have h2:=Qs hj
 have h3:P.i≠P.j:=(H.ok [] .dead).ij
 rw[pN]at hi
 have a1:∀(y:AB),(X.set P.i y)[P.i]? = some y:=fun y=>List.getElem?_set_self (by omega)
 refine Qe Tryd.func33 rfl Tryd.call33 Tryd.ntmps33 Tryd.results33 (by simp) ?_
 iterate 3 (try (first|(((with_reducible refine Qa fun K E hK hE=>?_));simp -implicitDefEqProofs only[Qc,Qd,OpW,aop,undef,AS.ev,Qr,AV.QqY,↓reduceIte,Qg,Qu,Ql,ti46,YW,Qp,hi,seval])|(with_reducible refine Qf fun K hK=>?_)|((with_reducible refine hK _ ?_);clear hK)))
 refine YD P.i 66 4 1 (.grow 9 1 0) (.inr ⟨_,rfl⟩) [.agg [.sl 3 (tks P.all) none,.i ((P.all.length - s.toks.length:Nat):Int),.v (.slice none 0 0),.mp P.j]] [.agg [.sl 3 (tks P.all) none,.i ((P.all.length - s.toks.length:Nat):Int),.sl 1 [] (some X.length),.mp P.j]] 2 (a1 _) rfl (by simp[flat,AV.cells]) (by simp[AV.cells]) ?_
 rw[List.set_append_left _ _ (by rw[List.length_set];omega),List.set_set]
 generalize hB:AB.cells 66 4 [.agg [.sl 3 (tks P.all) none,.i ((P.all.length - s.toks.length:Nat):Int),.sl 1 [] (some X.length),.mp P.j]]=B at *
 have b1:(X.set P.i B++[.grow 9 1 0])[P.i]? = some (AB.cells 66 4 [.agg [.sl 3 (tks P.all) none,.i ((P.all.length - s.toks.length:Nat):Int),.sl 1 [] (some X.length),.mp P.j]]):=by rw[List.getElem?_append_left (by rw[List.length_set];omega),a1,hB]
 have b2:(X.set P.i B++[.grow 9 1 0])[P.j]? = some (.map (smap m)):=by rw[List.getElem?_append_left (by rw[List.length_set];omega),List.getElem?_set_ne h3];exact hj
 have nn:notNil Tryd.prog 64 (X.set P.i B++[.grow 9 1 0]) (.mp P.j) (.map none)=true:=by
  have hu:Tryd.prog.underlying 64=some (.map 9 3):=by kernel_rfl
  simp only[notNil,hu,b2]
 repeat (first|((first|(with_reducible (first|refine Qa fun K E hK hE=>?_|refine Qj fun K E hK hE=>?_)));simp -implicitDefEqProofs only[Qc,Qd,OpW,aop,undef,AS.ev,Qr,↓reduceIte,Qg,Qw,Qv,aBin,ti64,un64,YX,QgJ,Qp,b1,b2,nn,seval])|(with_reducible (first|refine Qk ?_|refine Qb ?_))|((with_reducible refine hK _ ?_);clear hK)|(refine Qh rfl ?_;simp only[↓reduceIte,QrN]))
 simp -implicitDefEqProofs only[QrL,QrP,List.mapM_nil,Option.pure_def,QrL,QH,Qo,QrT]
 refine .inr ⟨rfl,?_⟩
 rw[List.set_append_left _ _ (by rw[List.length_set];omega)]
 unfold ph
 rw[List.set_append_left _ _ (by simp only[Pz.to];omega),List.set_append_left _ _ (by simp only[Pz.to,List.length_set];omega),List.set_append_right _ _ (by simp only[Pz.to,List.length_set];omega),←hB]
 simp only[Pz.to,List.length_set,Nat.sub_self]
 rfl
theorem Qh3{X:AH}{P:Pz}{s:PS}(hi:X[P.i]? = some (.cells 66 4 [.agg [.sl 3 (tks P.all) none,.i ((P.all.length - s.toks.length:Nat):Int),.v (.slice none 0 0),.v (.map none)]]))(hj:P.j=X.length+1) :
  QL Tryd.prog 33 [.ptr P.i 0 0] X fun o h'=>o = .ret (.tup [])∧h'=ph (X++[.dead,.dead]) (P.to X.length) ⟨s.toks,[]⟩:=by
 have h1:=Qs hi
 have a1:∀(y:AB),(X.set P.i y)[P.i]? = some y:=fun y=>List.getElem?_set_self (by omega)
 have nM:pv Tryd.prog (do eqGuard .eql 64 (Operand.tmp 8) (Operand.const (Value.map none)) (.map none) (.map none);binOp .eql 64 (.map none) (.map none))=some (.bool true):=by kernel_rfl
 refine Qe Tryd.func33 rfl Tryd.call33 Tryd.ntmps33 Tryd.results33 (by simp) ?_
 iterate 3 (try (first|(((with_reducible refine Qa fun K E hK hE=>?_));simp -implicitDefEqProofs only[Qc,Qd,OpW,aop,undef,AS.ev,Qr,AV.QqY,↓reduceIte,Qg,Qu,Ql,ti46,YW,Qp,hi,seval])|(with_reducible refine Qf fun K hK=>?_)|((with_reducible refine hK _ ?_);clear hK)))
 refine YD P.i 66 4 1 (.grow 9 1 0) (.inr ⟨_,rfl⟩) [.agg [.sl 3 (tks P.all) none,.i ((P.all.length - s.toks.length:Nat):Int),.v (.slice none 0 0),.v (.map none)]] [.agg [.sl 3 (tks P.all) none,.i ((P.all.length - s.toks.length:Nat):Int),.sl 1 [] (some X.length),.v (.map none)]] 2 (a1 _) rfl (by simp[flat,AV.cells]) (by simp[AV.cells]) ?_
 rw[List.set_append_left _ _ (by rw[List.length_set];omega),List.set_set]
 have b1:∀(B:AB) (L:AH),(X.set P.i B++L)[P.i]? = some B:=fun B L=>by rw[List.getElem?_append_left (by rw[List.length_set];omega),a1]
 have b2:∀(B C:AB) (L:AH),(X.set P.i B++L).set P.i C=X.set P.i C++L:=fun B C L=>by rw[List.set_append_left _ _ (by rw[List.length_set];omega),List.set_set]
 have b3:∀(B:AB) (L:AH) (k:Nat),(X.set P.i B++L)[X.length+k]? = L[k]? := fun B L k=>by rw[List.getElem?_append_right (by rw[List.length_set];omega),List.length_set];congr 1;omega
 have b4:∀(B C:AB) (L:AH) (k:Nat),(X.set P.i B++L).set (X.length+k) C=X.set P.i B++L.set k C:=fun B C L k=>by rw[List.set_append_right _ _ (by rw[List.length_set];omega),List.length_set];congr 2;omega
 repeat (first|((first|(with_reducible (first|refine Qa fun K E hK hE=>?_|refine Qj fun K E hK hE=>?_)));simp -implicitDefEqProofs only[Qc,Qd,OpW,aop,undef,AS.ev,Qr,AV.QqY,↓reduceIte,Qg,Qw,Qv,Qu,Ql,aBin,ti64,un64,YX,QgJ,Qp,b1,b2,b3,b4,nM,List.length_set,QsA,seval])|(with_reducible refine Qb ?_)|((with_reducible refine hK _ ?_);clear hK)|(refine Qh rfl ?_;simp only[↓reduceIte]))
 simp -implicitDefEqProofs only[QrL,QrP,List.mapM_nil,Option.pure_def,QrL,QH,Qo,QrT]
 refine .inr ⟨rfl,?_⟩
 unfold ph
 rw[List.set_append_left _ _ (by simp only[Pz.to];omega),List.set_append_right _ _ (by simp only[Pz.to,List.length_set];omega),List.set_append_right _ _ (by simp only[Pz.to,List.length_set];omega)]
 simp only[Pz.to,List.length_set,Nat.sub_self,hj,Nat.add_sub_cancel_left]
 rfl
end Go.Proofs.YticgcpebdldbgaaDoor.Ab
set_option maxRecDepth 4000
namespace Go.Proofs.YticgcpebdldbgaaDoor.Ab
open Go.Proofs
section
variable{P:Pz}{s:PS}{own:Option Nat}(hW:Wst P.all s){X:AH}(hX:X[P.i]? = some (pN P s own))
include hW hX
theorem Qot(L:AH):(X++L)[P.i]? = some (pN P s own):=by have _u:=hW;rw[List.getElem?_append_left (Qs hX)];exact hX
theorem Qkc:QL Tryd.prog 18 [.ptr P.i 0 0] X fun o h'=>o = .ret s.tk.av∧h'=X:=by
 obtain⟨h1,h2⟩:=QmI hW
 have hi:=Qot hW hX
 have hi0:=hX
 rw[pN]at hi0
 simp only[pN]at hi
 have e1:=Tk.Qq0 s.tk
 have e2:=Tk.Qq1 s.tk
 generalize P.all.length - s.toks.length=k at *
 refine Qe Tryd.func18 rfl Tryd.call18 Tryd.ntmps18 Tryd.results18 (by simp) ?_
 repeat (first|((first|(with_reducible refine Qa fun K E hK hE=>?_)|(refine QS (id:=1) [(0,0),(1,0),(2,0),(3,0),(4,0),(5,0),(6,0),(7,0),(8,0),(9,0),(10,2)] mixed (by kernel_rfl) fun K hK=>?_));simp -implicitDefEqProofs only[Qc,Qd,OpW,aop,undef,AS.ev,Qr,AV.QqY,↓reduceIte,Qg,Qw,Qv,Qu,Ql,QM,ti3,ti37,ei37,ti60,zi60,Qg7,Qfu,Qp,hi,h1,h2,Z3,e1,e2,seval])|(with_reducible refine Qm ?_)|((with_reducible refine hK _ ?_);clear hK))
 simp -implicitDefEqProofs only[Qc,↓reduceIte,Qw,Qv,ti60,Qw,Qv,e1,e2,QH,Qo,Qt,QrT,seval]
 exact Qq (htake _ _) (.keep (QcD _ _)) ⟨rfl,rfl⟩
theorem Qnj(hk:s.tk.kind=0):QL Tryd.prog 27 [.ptr P.i 0 0] X fun o h'=>o = .ret (.tup [])∧h'=X:=by
 have cn:=Qkc hW hX
 have hi0:=hX
 rw[pN]at hi0
 have e1:=Tk.Qq0 s.tk
 have e2:=Tk.Qq1 s.tk
 have z1:(s.tk.kind != 0)=false:=by simpa using hk
 refine Qe Tryd.func27 rfl Tryd.call27 Tryd.ntmps27 Tryd.results27 (by simp) ?_
 repeat (first|((first|(with_reducible (first|refine Qa fun K E hK hE=>?_|refine FunW.QqZ cn ?_)));simp -implicitDefEqProofs only[Qc,Qd,OpW,QB,aop,undef,AS.ev,Qr,AV.QqY,↓reduceIte,Qg,Qw,Qv,Qu,Ql,aBin,ti3,ti60,QK,zi60,e1,e2,z1,seval])|(with_reducible refine Qk ?_)|((with_reducible refine hK _ ?_);clear hK)|(refine Qh rfl ?_;simp only[↓reduceIte,QrN]))
 simp -implicitDefEqProofs only[QrL,QrP,List.mapM_nil,Option.pure_def,QrL,QH,Qo,QrT]
 exact Qq (htake _ _) (.keep (.tup _ (by simp))) ⟨rfl,rfl⟩
theorem QoQ(hk:s.tk.kind≠0):QL Tryd.prog 27 [.ptr P.i 0 0] X fun o h'=>o = .panic (Fl s.tk.pos 16)∧h'=X:=by
 have cn:=Qkc hW hX
 have hi0:=hX
 rw[pN]at hi0
 have e1:=Tk.Qq0 s.tk
 have e2:=Tk.Qq1 s.tk
 have z1:(s.tk.kind != 0)=true:=by simpa using hk
 have cf:=YL s.tk 16
 refine Qe Tryd.func27 rfl Tryd.call27 Tryd.ntmps27 Tryd.results27 (by simp) ?_
 repeat (first|((first|(with_reducible (first|refine Qa fun K E hK hE=>?_|refine Qj fun K E hK hE=>?_|refine FunW.QqZ cn ?_|refine FunW.pan (FunW.call (cf _ _)) ?_)));simp -implicitDefEqProofs only[Qc,Qd,OpW,QB,aop,undef,AS.ev,Qr,AV.QqY,↓reduceIte,Qg,Qw,Qv,Qu,Ql,aBin,ti3,ti60,QK,zi60,e1,e2,z1,seval])|((with_reducible refine hK _ ?_);clear hK)|(refine Qh rfl ?_;simp only[↓reduceIte])|(with_reducible refine hE _ _ ?_))
 exact Qq (htake _ _) (.keep (Qbt _ _ _)) ⟨rfl,rfl⟩
theorem Qmx(n m:Int)(hm:¬m≤n):QL Tryd.prog 19 [.ptr P.i 0 0,.i n,.i m] X fun o h'=>o = .ret (.tup [])∧h'=X:=by
 have _hu:=hW
 have _u:=hX
 have z1:¬n≥m:=hm
 refine Qe Tryd.func19 rfl Tryd.call19 Tryd.ntmps19 Tryd.results19 (by simp) ?_
 repeat (first|(((with_reducible refine Qa fun K E hK hE=>?_));simp -implicitDefEqProofs only[Qc,Qd,OpW,aop,undef,AS.ev,Qr,↓reduceIte,aBin,hm,seval])|(with_reducible refine Qk ?_)|((with_reducible refine hK _ ?_);clear hK)|(refine Qh rfl ?_;simp only[↓reduceIte,QrN]))
 simp -implicitDefEqProofs only[QrL,QrP,List.mapM_nil,Option.pure_def,QrL,QH,Qo,QrT]
 exact .inr ⟨rfl,rfl⟩
theorem QnY(n m:Int)(hm:m≤n):QL Tryd.prog 19 [.ptr P.i 0 0,.i n,.i m] X fun o h'=>o = .panic (Fl s.tk.pos 6)∧h'=X:=by
 have z1:n≥m:=hm
 have hi0:=hX
 rw[pN]at hi0
 have cn:=Qkc hW hX
 have cf:=YL s.tk 6
 refine Qe Tryd.func19 rfl Tryd.call19 Tryd.ntmps19 Tryd.results19 (by simp) ?_
 repeat (first|((first|(with_reducible (first|refine Qa fun K E hK hE=>?_|refine Qj fun K E hK hE=>?_|refine FunW.QqZ cn ?_|refine FunW.pan (FunW.call (cf _ _)) ?_)));simp -implicitDefEqProofs only[Qc,Qd,OpW,QB,aop,undef,AS.ev,Qr,↓reduceIte,aBin,hm,seval])|((with_reducible refine hK _ ?_);clear hK)|(refine Qh rfl ?_;simp only[↓reduceIte])|(with_reducible refine hE _ _ ?_))
 exact .inr ⟨rfl,rfl⟩
end
theorem Qgr(X:AH)(q n:Nat)(ord:List Int)(hS:NSt X q ord):QL Tryd.prog 30 [.ptr q 0 0,.v (.slice none 0 0)] X (GnQ X q n ord []):=by
 have hn:=fun t'=>Qcs Tryd.prog 32 t' 52 (by kernel_rfl)
 refine Qe Tryd.func30 rfl Tryd.call30 Tryd.ntmps30 Tryd.results30 (by simp) ?_
 repeat (first|(((with_reducible refine Qa fun K E hK hE=>?_));simp -implicitDefEqProofs only[Qc,Qd,OpW,aop,undef,AS.ev,Qr,↓reduceIte,Nat.reduceLT,aLen,goInt,hn])|(with_reducible refine Qi ?_)|((with_reducible refine hK _ ?_);clear hK))
 obtain⟨I,hI⟩:∃I:Nat→AS→Prop,I=fun m' s=>s.tm 7 = .i 0∧s.tm 8 = .i 0∧s.h=X:=⟨_,rfl⟩;refine QR I ?_ (m:=0) ?_
 ·intro m' s hs;rw[hI]at hs;obtain⟨tm,hp⟩:=s;dsimp only at hs;obtain⟨t9,t10,rfl⟩:=hs
  have z:¬((0:Int)<0):=by omega
  repeat (first|(((with_reducible refine Qa fun K E hK hE=>?_));simp -implicitDefEqProofs only[Qc,Qd,OpW,aop,AS.ev,Nat.reduceLT,aBin,t9,t10,z])|(with_reducible (first|refine Qf fun K hK=>?_|refine QF ?_|refine QD ?_|refine QC ?_))|((with_reducible refine hK _ ?_);clear hK)|(refine Qh rfl ?_;simp only[↓reduceIte,QrN]))
  simp -implicitDefEqProofs only[QrL,QrP,List.mapM_nil,Option.pure_def,QrL,QH,Qo,QrT]
  exact .inr ⟨rfl,NumP.refl _ _ _ _,hS,At.nil _ _⟩
 ·rw[hI]
  exact⟨rfl,rfl,rfl⟩
theorem Qgq(X:AH)(q n:Nat)(ord:List Int)(hS:NSt X q ord):QL Tryd.prog 42 [.ptr q 0 0,.v (.slice none 0 0)] X (GnQ X q n ord []):=by
 have hn:=fun t'=>Qcs Tryd.prog 31 t' 72 (by kernel_rfl)
 refine Qe Tryd.func42 rfl Tryd.call42 Tryd.ntmps42 Tryd.results42 (by simp) ?_
 repeat (first|(((with_reducible refine Qa fun K E hK hE=>?_));simp -implicitDefEqProofs only[Qc,Qd,OpW,aop,undef,AS.ev,Qr,↓reduceIte,Nat.reduceLT,aLen,goInt,hn])|(with_reducible refine Qi ?_)|((with_reducible refine hK _ ?_);clear hK))
 obtain⟨I,hI⟩:∃I:Nat→AS→Prop,I=fun m' s=>s.tm 7 = .i 0∧s.tm 8 = .i 0∧s.h=X:=⟨_,rfl⟩;refine QR I ?_ (m:=0) ?_
 ·intro m' s hs;rw[hI]at hs;obtain⟨tm,hp⟩:=s;dsimp only at hs;obtain⟨t9,t10,rfl⟩:=hs
  have z:¬((0:Int)<0):=by omega
  repeat (first|(((with_reducible refine Qa fun K E hK hE=>?_));simp -implicitDefEqProofs only[Qc,Qd,OpW,aop,AS.ev,Nat.reduceLT,aBin,t9,t10,z])|(with_reducible (first|refine Qf fun K hK=>?_|refine QF ?_|refine QD ?_|refine QC ?_))|((with_reducible refine hK _ ?_);clear hK)|(refine Qh rfl ?_;simp only[↓reduceIte,QrN]))
  simp -implicitDefEqProofs only[QrL,QrP,List.mapM_nil,Option.pure_def,QrL,QH,Qo,QrT]
  exact .inr ⟨rfl,NumP.refl _ _ _ _,hS,At.nil _ _⟩
 ·rw[hI]
  exact⟨rfl,rfl,rfl⟩
def sG(vw:Nat→G→AV)(w n:Nat)(l:List G):AV:=if l.isEmpty then .v (.slice none 0 0)else .sl w (lvG vw n l) none
theorem QcB(vw:Nat→G→AV)(w n:Nat)(l:List G):(sG vw w n l).cell1=true:=by unfold sG;split <;> rfl
theorem QdK(vw:Nat→G→AV)(w n:Nat)(l:List G):(sG vw w n l).cells=[sG vw w n l]:=by unfold sG;split <;> rfl
theorem QdL(vw:Nat→G→AV)(w n:Nat)(l:List G):(sG vw w n l).isAgg=false:=by unfold sG;split <;> rfl
theorem Qe6(vw:Nat→G→AV)(w n:Nat){l:List G}(h:l≠[]):sG vw w n l = .sl w (lvG vw n l) none:=by unfold sG;rw[if_neg (by simpa using h)]
theorem Qqj(vw:Nat→G→AV)(w n:Nat):sG vw w n [] = .v (.slice none 0 0):=rfl
theorem Qd9(l:List G)(hps:∀g∈l,pss g.args)(X0:AH)(q n:Nat)(ord:List Int)(hbl:l.length≤1000000000)(hb:ord.length+ndG l≤1000000000)(hq:n+gsz l≤q)(hqx:q+1<X0.length)(hS0:NSt X0 q ord)(hA0:At X0 n (layG 54 n l)) :
  QL Tryd.prog 30 [.ptr q 0 0,sG gv 3 n l] X0 (GnQ X0 q n ord l):=by
 by_cases e:l=[]
 ·subst e;exact Qgr X0 q n ord hS0
 ·rw[Qe6 _ _ _ e];exact QeZ l none hps X0 q n ord hbl hb hq hqx hS0 hA0
theorem QgO(l:List G)(hps:∀g∈l,pss g.args)(X0:AH)(q n:Nat)(ord:List Int)(hbl:l.length≤1000000000)(hb:ord.length+ndG l≤1000000000)(hq:n+gsz l≤q)(hqx:q+1<X0.length)(hS0:NSt X0 q ord)(hA0:At X0 n (layG 54 n l)) :
  QL Tryd.prog 42 [.ptr q 0 0,sG av 2 n l] X0 (GnQ X0 q n ord l):=by
 by_cases e:l=[]
 ·subst e;exact Qgq X0 q n ord hS0
 ·rw[Qe6 _ _ _ e];exact QeY l none hps X0 q n ord hbl hb hq hqx hS0 hA0
end Go.Proofs.YticgcpebdldbgaaDoor.Ab
set_option maxRecDepth 4000
namespace Go.Proofs.YticgcpebdldbgaaDoor.Ab
open Go.Proofs
def goalsOk(l:List G):Prop:=∀g∈l,Q5 g=true
def atomsOk(l:List G):Prop:=∀g∈l,Q8 g=true
theorem QbS(most:Nat):∀(m:Nat) (l:List G) (s:PS) (a:List G) (s2:PS),goalsOk l→Yh most m l s = .ok a s2→goalsOk a∧a.length≤most∧l.length<a.length
 |0,_,_,_,_,_,h=>by cases h
 |m+1,l,s,a,s2,hl,h=>by
  rw[Yh]at h
  split at h
  ·cases h
  ·rename_i hm
   obtain⟨g,s1,h1,h⟩:=bind_ok h
   split at h
   ·cases h
   ·rename_i hg
    have hl2:goalsOk (l++[g]):=fun x hx=>by
     rcases List.mem_append.1 hx with hx|hx
     ·exact hl x hx
     ·rw[List.mem_singleton.1 hx];simpa using hg
    split at h
    ·obtain⟨a1,a2,a3⟩:=QbS most m _ _ a s2 hl2 h
     rw[List.length_append,List.length_singleton]at a3
     exact⟨a1,a2,by omega⟩
    ·cases h
     refine⟨hl2,?_,?_⟩ <;> rw[List.length_append,List.length_singleton] <;> omega
theorem Qbu{most:Nat}{s:PS}{a:List G}{s2:PS}(h:Yo most s = .ok a s2):goalsOk a∧a.length≤most:=by
 obtain⟨h1,h2,_⟩:=QbS most _ [] s a s2 (fun _ h=>(List.not_mem_nil h).elim) h
 exact⟨h1,h2⟩
theorem Qea(pre:Nat):∀(m:Nat) (l:List G) (s:PS) (a:List G) (s2:PS),atomsOk l→YA pre m l s = .ok a s2→atomsOk a∧pre+a.length≤4∧l.length<a.length
 |0,_,_,_,_,_,h=>by cases h
 |m+1,l,s,a,s2,hl,h=>by
  rw[YA]at h
  split at h
  ·cases h
  ·rename_i hm
   obtain⟨g,s1,h1,h⟩:=bind_ok h
   split at h
   ·cases h
   ·rename_i hg
    have hl2:atomsOk (l++[g]):=fun x hx=>by
     rcases List.mem_append.1 hx with hx|hx
     ·exact hl x hx
     ·rw[List.mem_singleton.1 hx];simpa using hg
    split at h
    ·obtain⟨a1,a2,a3⟩:=Qea pre m _ _ a s2 hl2 h
     rw[List.length_append,List.length_singleton]at a3
     exact⟨a1,a2,by omega⟩
    ·cases h
     refine⟨hl2,?_,?_⟩ <;> rw[List.length_append,List.length_singleton] <;> omega
theorem QcU{pre:Nat}{s:PS}{a:List G}{s2:PS}(h:Yp pre s = .ok a s2):atomsOk a∧pre+a.length≤4∧0<a.length:=Qea pre _ [] s a s2 (fun _ h=>(List.not_mem_nil h).elim) h
theorem Qoj{l:List T}(h:l.isEmpty=true):l=[]:=by cases l with|nil=>rfl|cons=>cases h
mutual
theorem T.QrG:∀(t:T) (b d:Int),(t.run b d).1=true→t.ps∧(t.nds:Int)≤b - (t.run b d).2∧0≤(t.run b d).2
 | .mk k i n l,b,d,h=>by
  rw[T.run]at h ⊢
  rw[T.ps,T.nds]
  split at h
  ·cases h
  ·rename_i h0
   rw[if_neg h0]
   split at h
   ·rename_i h1
    rw[if_pos h1]
    have hl:l=[]:=Qoj (by simp only[Bool.and_eq_true]at h;exact h.2)
    subst hl
    refine⟨⟨.inl h1,fun _=>rfl,trivial⟩,?_,?_⟩
    ·simp only[ndsL];omega
    ·show 0≤b - 1;omega
   ·rename_i h1
    rw[if_neg h1]
    split at h
    ·rename_i h2
     rw[if_pos h2]
     have hl:l=[]:=Qoj (by simp only[Bool.and_eq_true]at h;exact h.2)
     subst hl
     refine⟨⟨.inr (.inl h2),fun _=>rfl,trivial⟩,?_,?_⟩
     ·simp only[ndsL];omega
     ·show 0≤b - 1;omega
    ·rename_i h2
     rw[if_neg h2]
     split at h
     ·rename_i h3
      rw[if_pos h3]
      split at h
      ·cases h
      ·rename_i h4
       rw[if_neg h4]
       split at h
       ·cases h
       ·rename_i h5
        rw[if_neg h5]
        obtain⟨q1,q2,q3⟩:=QiD l (b - 1) (d - 1) (by omega) h
        refine⟨⟨.inr (.inr h3),fun e=>absurd h3 e,q1⟩,?_,q3⟩
        push_cast
        omega
     ·cases h
theorem QiD:∀(l:List T) (b d:Int),0≤b→(runL l b d).1=true→pss l∧(ndsL l:Int)≤b - (runL l b d).2∧0≤(runL l b d).2
 |[],b,d,hb,h=>by simp only[runL,pss,ndsL];exact⟨trivial,by omega,hb⟩
 |t::l,b,d,hb,h=>by
  rw[runL]at h ⊢
  split at h
  ·rename_i h1
   rw[if_pos h1]
   obtain⟨q1,q2,q3⟩:=T.QrG t b d h1
   obtain⟨r1,r2,r3⟩:=QiD l (t.run b d).2 d q3 h
   rw[pss,ndsL]
   exact⟨⟨q1,r1⟩,by push_cast;omega,r3⟩
  ·cases h
end
theorem QiC{l:List T}(h:(runL l 200 20).1=true):pss l∧ndsL l≤200:=by
 obtain⟨h1,h2,h3⟩:=QiD l 200 20 (by omega) h
 exact⟨h1,by omega⟩
theorem QdA{g:G}(h:Q5 g=true):pss g.args∧ndsL g.args≤200:=by
 unfold Q5 at h
 split at h
 ·unfold Q8 at h
  simp only[Bool.and_eq_true]at h
  exact QiC h.2.2
 ·simp only[Bool.and_eq_true]at h
  exact QiC h.2.2.2
theorem QiN{g:G}(h:Q8 g=true):pss g.args∧ndsL g.args≤200:=by
 unfold Q8 at h
 simp only[Bool.and_eq_true]at h
 exact QiC h.2.2
def SmG(l:List G):Prop:=(∀g∈l,pss g.args)∧ndG l≤2400∧l.length≤12
theorem Qoz{l:List G}(h:∀g∈l,pss g.args∧ndsL g.args≤200)(hl:l.length≤12):SmG l:=by
 refine⟨fun g hg=>(h g hg).1,?_,hl⟩
 have:∀m:List G,(∀g∈m,pss g.args∧ndsL g.args≤200)→ndG m≤200 * m.length:=fun m=>by
  induction m with
  |nil=>intro _;exact Nat.le_refl _
  |cons g m ih =>
   intro hm
   have h1:=(hm g (by simp)).2
   have h2:=ih fun x hx=>hm x (by simp[hx])
   rw[ndG,List.length_cons];omega
 have:=this l h
 omega
theorem QhJ{most:Nat}{s s2:PS}{l:List G}(hm:most≤12)(h:Yo most s = .ok l s2):SmG l:=by
 obtain⟨h1,h2⟩:=Qbu h
 exact Qoz (fun g hg=>QdA (h1 g hg)) (by omega)
theorem QhK{pre:Nat}{s s2:PS}{l:List G}(h:Yp pre s = .ok l s2):SmG l∧pre+l.length≤4∧0<l.length:=by
 obtain⟨h1,h2,h3⟩:=QcU h
 exact⟨Qoz (fun g hg=>QiN (h1 g hg)) (by omega),h2,h3⟩
theorem Qc5:SmG []:=⟨fun _ h=>by simp at h,Nat.zero_le _,Nat.zero_le _⟩
def mG(f:Int→Int)(l:List G):List G:=l.map fun g:G=>(⟨g.op,g.name,maps f g.args⟩:G)
theorem Qbv:∀(s:List Int) (l:List G) (r:List Int),Xp gG s l=(mG (fun v=>((plc (ded s (Xj l)++r) v:Nat):Int)) l,ded s (Xj l))
 |s,[],r=>rfl
 |s,g::l,r=>by
  have e:Xj (g::l)=XR g.args++Xj l:=by simp[Xj]
  obtain⟨q,hq⟩:=QbQ (ded s (XR g.args)) (Xj l)
  rw[Xp,gG,QcX s g.args (q++r)]
  simp only
  rw[Qbv _ l r,e,Zj,hq]
  simp only[mG,QrY,List.append_assoc]
theorem Qke(r:Rl):r.numd=⟨r.name,(Xp gG [] r.keep).1,(Xp gG (Xp gG [] r.keep).2 r.remove).1,(Xp gG (Xp gG (Xp gG [] r.keep).2 r.remove).2 r.guard).1,
  (Xp gG (Xp gG (Xp gG (Xp gG [] r.keep).2 r.remove).2 r.guard).2 r.body).1,((Xp gG (Xp gG (Xp gG (Xp gG [] r.keep).2 r.remove).2 r.guard).2 r.body).2.length:Nat)⟩:=by
 have e:r.allV=Xj r.keep++Xj r.remove++Xj r.guard++Xj r.body:=by simp[Rl.allV,Xj]
 obtain⟨q1,h1⟩:=QbQ (ded [] (Xj r.keep)) (Xj r.remove)
 obtain⟨q2,h2⟩:=QbQ (ded (ded [] (Xj r.keep)) (Xj r.remove)) (Xj r.guard)
 obtain⟨q3,h3⟩:=QbQ (ded (ded (ded [] (Xj r.keep)) (Xj r.remove)) (Xj r.guard)) (Xj r.body)
 have ea:ded [] r.allV=ded (ded (ded (ded [] (Xj r.keep)) (Xj r.remove)) (Xj r.guard)) (Xj r.body):=by rw[e,Zj,Zj,Zj]
 have hB:ded (ded (ded (ded [] (Xj r.keep)) (Xj r.remove)) (Xj r.guard)) (Xj r.body)=ded (ded [] (Xj r.keep)) (Xj r.remove)++(q2++q3):=by rw[h3,h2,List.append_assoc]
 have hA:ded (ded (ded (ded [] (Xj r.keep)) (Xj r.remove)) (Xj r.guard)) (Xj r.body)=ded [] (Xj r.keep)++(q1++q2++q3):=by rw[h3,h2,h1,List.append_assoc,List.append_assoc,List.append_assoc]
 rw[Rl.numd,ea]
 rw[Qbv [] r.keep (q1++q2++q3)]
 simp only
 rw[Qbv _ r.remove (q2++q3)]
 simp only
 rw[Qbv _ r.guard q3]
 simp only
 rw[Qbv _ r.body []]
 simp only[mG,←hA,←hB,←h3,Qsc]
end Go.Proofs.YticgcpebdldbgaaDoor.Ab
set_option maxRecDepth 4000
namespace Go.Proofs.YticgcpebdldbgaaDoor.Ab
open Go.Proofs
section
variable{P:Pz}{s:PS}{own:Option Nat}(hW:Wst P.all s){X:AH}(hX:X[P.i]? = some (pN P s own))(hN:P.all.length≤1000000)
include hW hX hN
theorem QjI:QL Tryd.prog 40 [.ptr P.i 0 0] X fun o h'=>o = .ret s.nx.tk.av∧h'=X:=by
 have hi:=Qot hW hX
 have hi0:=hX
 rw[pN]at hi0
 simp only[pN]at hi
 have e1:=Tk.Qq0 s.nx.tk
 have e2:=Tk.Qq1 s.nx.tk
 obtain⟨h1,h2⟩:=QmI hW
 obtain⟨k,hk⟩:∃k,k=P.all.length - s.toks.length:=⟨_,rfl⟩
 obtain⟨j,hj,hjl,hat⟩:∃j:Nat,((if (P.all.length:Int) - 1<(k:Int)+1 then(P.all.length:Int) - 1 else(k:Int)+1)=j)∧j<P.all.length∧(tks P.all)[j]? = some s.nx.tk.av:=by
  obtain⟨pre,hp⟩:=hW.suf
  cases ht:s.toks with
  |nil=>exact absurd ht (Qob hW.wf)
  |cons t r =>
   rw[ht]at hp
   have hkl:k=pre.length:=by rw[hk,ht,←hp,List.length_append];omega
   have hal:P.all.length=pre.length+(r.length+1):=by rw[←hp,List.length_append,List.length_cons]
   cases r with
   |nil =>
    refine⟨pre.length,by rw[hkl,hal];simp only[QrX];rw[if_pos (by omega)];omega,by omega,?_⟩
    rw[←hp,tks,List.getElem?_map,List.getElem?_append_right (Nat.le_refl _),Nat.sub_self]
    simp[PS.nx,PS.tk,ht]
   |cons u r =>
    refine⟨pre.length+1,by rw[hkl,hal];simp only[QrW];rw[if_neg (by omega)];omega,by rw[hal,List.length_cons];omega,?_⟩
    rw[←hp,tks,List.getElem?_map,List.getElem?_append_right (by omega),Nat.add_sub_cancel_left]
    simp[PS.nx,PS.tk,ht]
 rw[←hk]at hi hi0
 have w1:IntKind.i64.wrap ((k:Int)+1)=(k:Int)+1:=Xt ⟨by omega,by omega⟩
 have w2:IntKind.i64.wrap ((P.all.length:Int) - 1)=(P.all.length:Int) - 1:=Xt ⟨by omega,by omega⟩
 refine Qe Tryd.func40 rfl Tryd.call40 Tryd.ntmps40 Tryd.results40 (by simp) ?_
 repeat (first|(((with_reducible refine Qa fun K E hK hE=>?_));simp -implicitDefEqProofs only[Qc,Qd,OpW,aop,AV.QqY,↓reduceIte,zi60,seval])|(with_reducible refine Qf fun K hK=>?_)|((with_reducible refine hK _ ?_);clear hK))
 first|refine QS (id:=1) [(0,0),(1,0),(2,0),(3,0),(4,0),(5,0),(6,0),(7,0),(8,0),(9,0),(10,0),(11,0),(12,0),(13,0),(14,0),(15,0),(16,0),(17,0),(18,2)] mixed (by kernel_rfl) fun K hK=>?_|refine Xh (id:=1) [(0,0),(1,0),(2,0),(3,0),(4,0),(5,0),(6,0),(7,0),(8,0),(9,0),(10,0),(11,0),(12,0),(13,0),(14,0),(15,0),(16,0),(17,0),(18,2)] mixed (by kernel_rfl) fun K hK=>?_
 (try simp only[QrS,Qr0]);refine XA 9 (fun K1 hK1=>?_);simp -implicitDefEqProofs only[Qc,Qd,aop,undef,AS.ev,Qr,↓reduceIte,Qg,Qw,Qv,aBin,ti3,ti37,Qg7,Qfu,Qp,hi,w1,seval];refine hK1 _ ?_;clear hK1
 (try simp only[QrS,Qr0])
 simp -implicitDefEqProofs only[Qc,Qd,aop,undef,AS.ev,Qr,AV.QqY,↓reduceIte,Qg,Qw,Qv,Qu,Ql,QM,aBin,aLen,goInt,ti37,ei37,un37,ti60,Qg7,Qp,hi,hat,hjl,Z3,e1,e2,w2,hj,seval]
 repeat (first|(with_reducible (first|refine Qm ?_|refine Qb ?_))|((with_reducible refine hK _ ?_);clear hK))
 simp -implicitDefEqProofs only[Qc,↓reduceIte,Qw,Qv,ti60,Qw,Qv,e1,e2,QH,Qo,Qt,QrT,seval]
 exact Qq (htake _ _) (.keep (QcD _ _)) ⟨rfl,rfl⟩
end
end Go.Proofs.YticgcpebdldbgaaDoor.Ab

