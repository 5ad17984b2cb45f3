/-
  An abstract program logic, contracts of functions, and laws of terms and rules (part 2).
-/
import Derived.Test.YtenheconhibonaaGreatDoorAbOne
import Derived.DefersIn
import Derived.RangeFuncLeaves
import Derived.RangeFuncStops
import Derived.IntWalk
import Derived.RangeFuncNested
import Derived.Laws.Externs
import Derived.Attr
import Derived.Test.YtenheconhibonaaGreatDoorProg
import Derived.KernelRfl
import Derived.Below
import Derived.Lib.Strings
import Derived.Shelf.Strings.Builder1
import Derived.Shelf.Strconv.Itoa0
import Derived.Shelf.Strconv.Itoa1
import Derived.Shelf.LaysM
import Derived.Shelf.Strconv.Itoa2
import Derived.Shelf.Strconv.Itoa3
import Derived.Shelf.Strings.Search1
import Derived.Shelf.Strings.Search2
import Derived.Shelf.Strings.Search3
import Derived.Shelf.Strings.Shaped
import Derived.Lib.ConvBytes
import Derived.Lib.AtoiErrMem
import Derived.ProofKit
import Derived.WalkKit
import Derived.OpenShut
import Derived.LaidSub
import Derived.Lib.LaidTab
import Derived.Lib.ItoaNum
import Derived.Lib.ItoaMem
import Derived.Lib.AtoiTie
set_option linter.unusedVariables false
set_option linter.unusedSimpArgs false
set_option maxHeartbeats 4000000
set_option maxRecDepth 4000
namespace Go.Proofs.YtenheconhibonaaGreatDoor.Ab
inductive Below (n:Nat):AV->Prop
 |v (x:Value):Below n (.v x)
 |junk:Below n .junk
 |agg (l:List AV) (h:∀a∈l,Below n a):Below n (.agg l)
 |tup (l:List AV) (h:∀a∈l,Below n a):Below n (.tup l)
 |sl (s:Nat) (xs:List AV) (own:Option Nat) (h:∀a∈flat xs,Below n a) (hb:∀b,own=some b->b<n):Below n (.sl s xs own)
 |pin (s:Nat) (xs:List AV) (k off:Nat) (h:∀a∈flat xs,Below n a):Below n (.pin s xs k off)
 |ptr (id k off:Nat) (h:id<n):Below n (.ptr id k off)
 |arr (id lo len:Nat) (h:id<n):Below n (.arr id lo len)
 |row (id lo len cap:Nat) (h:id<n):Below n (.row id lo len cap)
 |mp (id:Nat) (h:id<n):Below n (.mp id)
 |fn (f:Fn) (first cap:List AV) (h1:∀a∈first,Below n a) (h2:∀a∈cap,Below n a):Below n (.fn f first cap)
 |ifc (t:TypeId) (x:AV) (h:Below n x):Below n (.ifc t x)
 |spt (s:Nat) (xs:List AV) (own:Option Nat) (h:Below n (.sl s xs own)):Below n (.spt s xs own)
theorem Qab{α:Type}{l:List α}{a:α}(h:a∈l):∃j:Nat,l[j]? = some a:=by
 obtain⟨j,hj,rfl⟩:=List.getElem_of_mem h
 exact⟨j,Qzg hj⟩
theorem Qbn{vs:Array Value}{n j:Nat}(h:vs.size=n)(hj:j<n):∃u,vs[j]? = some u:=⟨_,Qzv (by omega)⟩
theorem Rel.ids{c:Cx}{a:AV}{x:Value}(h:Rel c a x):Below c.h.length a:=by
 induction h with
 |v x=>exact .v x
 |junk x=>exact .junk
 |agg l cs hl _ ih =>
  refine .agg l fun a ha=>?_
  obtain⟨j,hj⟩:=Qab ha
  obtain⟨u,hu⟩:=Qbn hl (Qf hj)
  exact ih j a u hj hu
 |tup l cs hl _ ih =>
  refine .tup l fun a ha=>?_
  obtain⟨j,hj⟩:=Qab ha
  obtain⟨u,hu⟩:=Qbn hl (Qf hj)
  exact ih j a u hj hu
 |slnil s own ht=>exact .sl s [] own (by simp[flat]) fun b hb=>(ht b hb).1
 |slzero s own ba ht=>exact .sl s [] own (by simp[flat]) fun b hb=>(ht b hb).1
 |sl s xs own B o cap f hs hcap hmax hc _ ht ih =>
  refine .sl s xs own (fun a ha=>?_) fun b hb=>(ht b hb).1.1
  obtain⟨j,hj⟩:=Qab ha
  exact ih j a hj
 |pin s xs k off B o f hs hc _ ih =>
  refine .pin s xs k off fun a ha=>?_
  obtain⟨j,hj⟩:=Qab ha
  exact ih j a hj
 |ptr id k off x hid ho h1=>exact .ptr id k off hid
 |arr id lo len x hid ho h1=>exact .arr id lo len hid
 |row id lo len cap x hid ho h1=>exact .row id lo len cap hid
 |mp id x hid ho h1=>exact .mp id hid
 |fn f first cap vs ws e1 e2 _ _ ih1 ih2 =>
  refine .fn f first cap (fun a ha=>?_) fun a ha=>?_
  ·obtain⟨j,hj⟩:=Qab ha
   obtain⟨u,hu⟩:=Qbn e1 (Qf hj)
   exact ih1 j a u hj hu
  ·obtain⟨j,hj⟩:=Qab ha
   obtain⟨u,hu⟩:=Qbn e2 (Qf hj)
   exact ih2 j a u hj hu
 |ifc t a u _ ih=>exact .ifc t a ih
 |spt s xs own p n k _ ih=>exact .spt s xs own ih
def Cx.cut(c:Cx)(m:Nat):Cx:={c with h:=c.h.take m}
theorem Zv{c:Cx}{m id:Nat}{b:AB}(h:(c.cut m).h[id]? = some b):id<m/\c.h[id]? = some b:=by
 have hlt:=Qf h
 simp only[Cx.cut,QzE]at hlt h
 rw[Qzx (by omega)]at h
 exact⟨by omega,h⟩
theorem Qp9{c:Cx}{m id:Nat}{b:AB}(hm:id<m)(h:c.h[id]? = some b):(c.cut m).h[id]? = some b:=by
 simp only[Cx.cut];rw[Qzx hm];exact h
theorem Qf8{c:Cx}{m B o:Nat}(h:c.prot B o):(c.cut m).prot B o :=
 ⟨h.1,fun id b hb hl hρ=>h.2 id b (Zv hb).2 hl hρ⟩
theorem Rel.cut{c:Cx}{m:Nat}(hm:m<=c.h.length){a:AV}{x:Value}(h:Rel c a x)(hb:Below m a):Rel (c.cut m) a x:=by
 have hlen:(c.cut m).h.length=m:=by simp[Cx.cut];omega
 induction h with
 |v x=>exact .v x
 |junk x=>exact .junk x
 |agg l cs hl _ ih=>cases hb with|agg _ h=>exact .agg l cs hl fun j a u h1 h2=>ih j a u h1 h2 (h a (Qzp h1))
 |tup l cs hl _ ih=>cases hb with|tup _ h=>exact .tup l cs hl fun j a u h1 h2=>ih j a u h1 h2 (h a (Qzp h1))
 |slnil s own ht =>
  cases hb with
  |sl _ _ _ h hown =>
   refine .slnil s own fun b hb=>⟨by rw[hlen];exact hown b hb,fun e s' n hg=>(ht b hb).2 e s' n (Zv hg).2⟩
 |slzero s own ba ht =>
  cases hb with
  |sl _ _ _ h hown =>
   refine .slzero s own ba fun b hb=>⟨by rw[hlen];exact hown b hb,fun e s' n hg=>(ht b hb).2 e s' n (Zv hg).2⟩
 |sl s xs own B o cap f hs hcap hmax hc _ ht ih =>
  cases hb with
  |sl _ _ _ h hown =>
   exact .sl s xs own B o cap f hs hcap hmax (fun j a hj=>⟨⟨(hc j a hj).1.1,Qf8 (hc j a hj).1.2⟩,(hc j a hj).2⟩) (fun j a hj=>ih j a hj (h a (Qzp hj)))
    fun b hb=>⟨⟨by rw[hlen];exact hown b hb,let ⟨x,g1,g2⟩:=(ht b hb).1.2;⟨x,Qp9 (hown b hb) g1,g2⟩⟩,fun e s' n hg=>(ht b hb).2 e s' n (Zv hg).2⟩
 |pin s xs k off B o f hs hc _ ih =>
  cases hb with
  |pin _ _ _ _ h =>
   exact .pin s xs k off B o f hs (fun j a hj=>⟨⟨(hc j a hj).1.1,Qf8 (hc j a hj).1.2⟩,(hc j a hj).2⟩) (fun j a hj=>ih j a hj (h a (Qzp hj)))
 |ptr id k off x hid ho h1=>cases hb with|ptr _ _ _ h=>exact .ptr id k off x (by rw[hlen];exact h) ho fun ty s xs hg=>h1 ty s xs (Zv hg).2
 |arr id lo len x hid ho h1=>cases hb with|arr _ _ _ h=>exact .arr id lo len x (by rw[hlen];exact h) ho fun ty s xs hg=>h1 ty s xs (Zv hg).2
 |row id lo len cap x hid ho h1=>cases hb with|row _ _ _ _ h=>exact .row id lo len cap x (by rw[hlen];exact h) ho fun ty s xs hg=>h1 ty s xs (Zv hg).2
 |mp id x hid ho h1=>cases hb with|mp _ h=>exact .mp id x (by rw[hlen];exact h) ho ⟨fun es hg=>h1.1 es (Zv hg).2,fun i hg=>h1.2.1 i (Zv hg).2,fun s p hg=>h1.2.2 s p (Zv hg).2⟩
 |fn f first cap vs ws e1 e2 _ _ ih1 ih2 =>
  cases hb with
  |fn _ _ _ h1 h2=>exact .fn f first cap vs ws e1 e2 (fun j a u h3 h4=>ih1 j a u h3 h4 (h1 a (Qzp h3))) (fun j a u h3 h4=>ih2 j a u h3 h4 (h2 a (Qzp h3)))
 |ifc t a u _ ih=>cases hb with|ifc _ _ h=>exact .ifc t a u (ih h)
 |spt s xs own p n k _ ih=>cases hb with|spt _ _ _ h=>exact .spt s xs own p n k (ih h)
def AB.Below(n:Nat):AB->Prop
 | .cells _ _ xs=>∀a∈flat xs,Ab.Below n a
 | .grow _ _ _=>True
 | .map es=>∀kv∈es,Ab.Below n kv.2
 | .loop i=>∀t,Ab.Below n (i.tm t)
 | .iter _ _=>True
 | .glob _ _ _ _=>True
 | .dead=>True
 | .gone=>True
theorem Below.mono{n m:Nat}(hnm:n<=m){a:AV}(h:Ab.Below n a):Ab.Below m a:=by
 induction h with
 |v x=>exact .v x
 |junk=>exact .junk
 |agg l _ ih=>exact .agg l ih
 |tup l _ ih=>exact .tup l ih
 |sl s xs own _ ho ih=>exact .sl s xs own ih fun b hb=>QzI (ho b hb) hnm
 |pin s xs k off _ ih=>exact .pin s xs k off ih
 |ptr id k off h=>exact .ptr id k off (QzI h hnm)
 |arr id lo len h=>exact .arr id lo len (QzI h hnm)
 |row id lo len cap h=>exact .row id lo len cap (QzI h hnm)
 |mp id h=>exact .mp id (QzI h hnm)
 |fn f a b _ _ ih1 ih2=>exact .fn f a b ih1 ih2
 |ifc t a _ ih=>exact .ifc t _ ih
 |spt s xs own _ ih=>exact .spt s xs own ih
theorem AB.Below.mono{n m:Nat}{b:AB}(h:b.Below n)(hnm:n<=m):b.Below m:=by
 cases b with
 |cells t s xs=>exact fun a ha=>Ab.Below.mono hnm (h a ha)
 |grow=>trivial
 |map es=>exact fun kv hkv=>Ab.Below.mono hnm (h kv hkv)
 |loop i=>exact fun t=>Ab.Below.mono hnm (h t)
 |iter=>trivial
 |glob=>trivial
 |dead=>trivial
 |gone=>trivial
theorem St.below{c:Cx}(hs:St c){id:Nat}{b:AB}(hb:c.h[id]? = some b):b.Below c.h.length:=by
 have:=hs.blocks id b hb
 cases b with
 |cells ty s xs =>
  obtain⟨B,cur,h1,h2,h3,h4⟩:=this
  intro a ha
  obtain⟨j,hj⟩:=Qab ha
  obtain⟨u,_,_,hr⟩:=h4 j a hj
  exact hr.ids
 |grow=>trivial
 |map es =>
  obtain⟨B,ents,clock,h1,h2,h3,h4⟩:=this
  intro kv hkv
  obtain⟨j,hj⟩:=Qab hkv
  have hlt:j<ents.size:=by rw[h3];exact Qf hj
  exact(h4 j kv ents[j] hj (Qzv hlt)).2.ids
 |loop i =>
  obtain⟨B,r,h1,h2,h3,h4⟩:=this
  exact fun t=>(h4 t).ids
 |iter=>trivial
 |glob=>trivial
 |dead=>trivial
 |gone=>trivial
theorem St.cut{c:Cx}(hs:St c){m:Nat}(hm:m<=c.h.length)(hb:∀b∈c.h.take m,b.Below m):St (c.cut m):=by
 refine⟨fun id b hg=>?_,fun i j a b B hi hj hla hlb hρi hρj=>hs.inj i j a b B (Zv hi).2 (Zv hj).2 hla hlb hρi hρj⟩
 have hbl:b.Below m:=hb b (Qzp hg)
 have h0:=hs.blocks id b (Zv hg).2
 cases b with
 |cells ty s xs =>
  obtain⟨B,cur,h1,h2,h3,h4⟩:=h0
  exact⟨B,cur,h1,h2,h3,fun j a hj=>let ⟨u,h5,h6,h7⟩:=h4 j a hj;⟨u,h5,h6,h7.cut hm (hbl a (Qzp hj))⟩⟩
 |grow e s n=>exact h0
 |map es =>
  obtain⟨B,ents,clock,h1,h2,h3,h4⟩:=h0
  exact⟨B,ents,clock,h1,h2,h3,fun j kv e hj he=>⟨(h4 j kv e hj he).1,(h4 j kv e hj he).2.cut hm (hbl kv (Qzp hj))⟩⟩
 |loop i =>
  obtain⟨B,r,h1,h2,h3,h4⟩:=h0
  exact⟨B,r,h1,h2,h3,fun t=>(h4 t).cut hm (hbl t)⟩
 |iter s p=>exact h0
 |glob g cs ty fr=>exact h0
 |dead=>trivial
 |gone=>trivial
theorem Ev.cut{c c':Cx}(h:Ev c c'){m:Nat}(h1:c.h.length<=m)(h2:m<=c'.h.length):Ev c (c'.cut m):=by
 refine⟨h.os,h.tape,h.output,h.size,by simp[Cx.cut];omega,h.frame,fun id b hb=>?_,fun id B b h3 h4 hl hρ=>(h.fresh id B b h3 (Zv h4).2 hl hρ).imp (fun e=>e) fun⟨i,ty,s,xs,a1,a2,a3⟩=>⟨i,ty,s,xs,a1,a2,by
  have:=Qf a1
  simp only[Cx.cut,QAK];rw[Qzh (by omega)];exact a3⟩⟩
 obtain⟨b',hb',hk⟩:=h.kin id b hb
 have hlt:=Qf hb
 exact⟨b',Qp9 (by omega) hb',hk⟩
inductive Frz (h:AH) (m:Nat):AV->AV->Prop
 |nil (s:Nat):Frz h m (.v (.slice none 0 0)) (.sl s [] none)
 |keep {a:AV} (hb:Below m a):Frz h m a a
 |tok {s:Nat} {xs:List AV} {own:Option Nat} (hb:∀a∈flat xs,Below m a):Frz h m (.sl s xs own) (.sl s xs none)
 |arr {id lo len s:Nat} {ty:TypeId} {xs:List AV} (hi:m<=id) (hg:h[id]? = some (.cells ty s xs)) (hl:lo+len<=xs.length) (hb:∀a∈flat xs,Below m a) :
   Frz h m (.arr id lo len) (.sl s ((xs.drop lo).take len) none)
 |row {id lo len cap s:Nat} {ty:TypeId} {xs:List AV} (hi:m<=id) (hg:h[id]? = some (.cells ty s xs)) (hl:lo+len<=xs.length) (hb:∀a∈flat xs,Below m a) :
   Frz h m (.row id lo len cap) (.sl s ((xs.drop lo).take len) none)
 |ptr {id k off s:Nat} {ty:TypeId} {xs:List AV} (hi:m<=id) (hg:h[id]? = some (.cells ty s xs)) (hb:∀a∈flat xs,Below m a):Frz h m (.ptr id k off) (.pin s xs k off)
 |agg {l l':List AV} (hl:l'.length=l.length) (hp:∀(j:Nat) a a',l[j]? = some a->l'[j]? = some a'->Frz h m a a'):Frz h m (.agg l) (.agg l')
 |tup {l l':List AV} (hl:l'.length=l.length) (hp:∀(j:Nat) a a',l[j]? = some a->l'[j]? = some a'->Frz h m a a'):Frz h m (.tup l) (.tup l')
 |fn {f:Fn} {a a' b b':List AV} (hl:a'.length=a.length) (hl':b'.length=b.length) (hp:∀(j:Nat) x x',a[j]? = some x->a'[j]? = some x'->Frz h m x x')
   (hq:∀(j:Nat) x x',b[j]? = some x->b'[j]? = some x'->Frz h m x x'):Frz h m (.fn f a b) (.fn f a' b')
theorem Qd1{c:Cx}(hs:St c){m:Nat}(hm:m<=c.h.length){id B ty s:Nat}{xs:List AV}(hi:m<=id)(hg:c.h[id]? = some (.cells ty s xs))(hρ:c.ρ id=some B)(hb:∀a∈flat xs,Below m a) :
  (∀x∈xs,x.cells.length=s)/\∃f:Nat->Value,∀(j:Nat) a,(flat xs)[j]? = some a->((c.cut m).cellP B (0+j) (f j)/\(f j).oneCell'=true)/\Rel (c.cut m) a (f j):=by
 obtain⟨B',cur,h1,h2,h3,h4⟩:=hs.blocks id _ hg
 rw[hρ]at h1;cases h1
 refine⟨h3,fun j=>cur.getD j undef,fun j a hj=>?_⟩
 obtain⟨u,h5,h6,h7⟩:=h4 j a hj
 have e:cur.getD j undef=u:=by rw[Qzr,h5];rfl
 show((c.cut m).cellP B (0+j) (cur.getD j undef)/\(cur.getD j undef).oneCell'=true)/\Rel (c.cut m) a (cur.getD j undef)
 rw[e]
 refine⟨⟨⟨by show c.w.cell? _=_;rw[Qyv,XC h2];exact h5,?_⟩,h6⟩,h7.cut hm (hb a (Qzp hj))⟩
 refine⟨hs.lt hg rfl hρ,fun id' b' hb' hl' hρ'=>?_⟩
 obtain⟨hlt,hb''⟩:=Zv hb'
 have:=hs.inj id' id b' _ B hb'' hg hl' rfl hρ' hρ
 omega
theorem Frz.rel{c:Cx}(hs:St c){m:Nat}(hm:m<=c.h.length){a a':AV}(h:Frz c.h m a a'):∀{x:Value},Rel c a x->Rel (c.cut m) a' x:=by
 induction h with
 |nil s=>intro x hr;cases hr;exact .slnil s none fun b hb=>by cases hb
 |keep hb=>exact fun hr=>hr.cut hm hb
 |@tok s xs own hb =>
  intro x hr
  cases hr with
  |slnil _ _ ht=>exact .slnil s none fun b hb=>by cases hb
  |slzero _ _ ba ht=>exact .slzero s none ba fun b hb=>by cases hb
  |sl _ _ _ B o cap f hs' hcap hmax hc hr ht =>
   exact .sl s xs none B o cap f hs' hcap hmax (fun j a hj=>⟨⟨(hc j a hj).1.1,Qf8 (hc j a hj).1.2⟩,(hc j a hj).2⟩) (fun j a hj=>(hr j a hj).cut hm (hb a (Qzp hj))) fun b hb=>by cases hb
 |@arr id lo len s ty xs hi hg hl hb =>
  intro x hr
  cases hr with
  |arr _ _ _ x hid ho h1 =>
   obtain⟨B,cap,hρ,rfl,h2,h3,_⟩:=h1 _ _ _ hg
   obtain⟨h4,f,h5⟩:=Qd1 hs hm hi hg hρ hb
   have hlen:((xs.drop lo).take len).length=len:=by simp;omega
   have hdrop:∀y∈xs.drop lo,y.cells.length=s:=fun y hy=>h4 y (QzZ hy)
   have hget:∀(j:Nat) a,(flat ((xs.drop lo).take len))[j]? = some a->(flat xs)[lo * s+j]? = some a:=by
    intro j a hj
    rw[Zx hdrop (by simp;omega)]at hj
    have hlt:=Qf hj
    rw[QzE]at hlt
    rw[Qzx (by omega),QaA h4 (by omega),QzO]at hj
    exact hj
   have:=Rel.sl (c:=c.cut m) s ((xs.drop lo).take len) none B (lo * s) cap (fun j=>f (lo * s+j)) (fun y hy=>hdrop y (QAa hy)) (by omega) h3
    (fun j a hj=>by have:=(h5 _ a (hget j a hj)).1;rwa [Qyv]at this) (fun j a hj=>(h5 _ a (hget j a hj)).2) (fun b hb=>by cases hb)
   rwa [hlen]at this
 |@row id lo len cap s ty xs hi hg hl hb =>
  intro x hr
  cases hr with
  |row _ _ _ _ x hid ho h1 =>
   obtain⟨B,cur,hρ,rfl,h2,h3,_⟩:=h1 _ _ _ hg
   obtain⟨h4,f,h5⟩:=Qd1 hs hm hi hg hρ hb
   have hlen:((xs.drop lo).take len).length=len:=by simp;omega
   have hdrop:∀y∈xs.drop lo,y.cells.length=s:=fun y hy=>h4 y (QzZ hy)
   have hget:∀(j:Nat) a,(flat ((xs.drop lo).take len))[j]? = some a->(flat xs)[lo * s+j]? = some a:=by
    intro j a hj
    rw[Zx hdrop (by simp;omega)]at hj
    have hlt:=Qf hj
    rw[QzE]at hlt
    rw[Qzx (by omega),QaA h4 (by omega),QzO]at hj
    exact hj
   have:=Rel.sl (c:=c.cut m) s ((xs.drop lo).take len) none B (lo * s) cap (fun j=>f (lo * s+j)) (fun y hy=>hdrop y (QAa hy)) (by omega) h3
    (fun j a hj=>by have:=(h5 _ a (hget j a hj)).1;rwa [Qyv]at this) (fun j a hj=>(h5 _ a (hget j a hj)).2) (fun b hb=>by cases hb)
   rwa [hlen]at this
 |@ptr id k off s ty xs hi hg hb =>
  intro x hr
  cases hr with
  |ptr _ _ _ x hid ho h1 =>
   obtain⟨B,hρ,rfl⟩:=h1 _ _ _ hg
   obtain⟨h4,f,h5⟩:=Qd1 hs hm hi hg hρ hb
   have:=Rel.pin (c:=c.cut m) s xs k off B 0 f h4 (fun j a hj=>(h5 j a hj).1) (fun j a hj=>(h5 j a hj).2)
   rwa [Qyv]at this
 |@agg l l' hl _ ih =>
  intro x hr
  cases hr with
  |agg _ cs hl' hr =>
   refine .agg _ cs (by omega) fun j a' u ha' hu=>?_
   obtain⟨a,ha⟩:∃a,l[j]? = some a:=⟨_,Qzg (by rw[<-hl];exact Qf ha')⟩
   exact ih j a a' ha ha' (hr j a u ha hu)
 |@tup l l' hl _ ih =>
  intro x hr
  cases hr with
  |tup _ cs hl' hr =>
   refine .tup _ cs (by omega) fun j a' u ha' hu=>?_
   obtain⟨a,ha⟩:∃a,l[j]? = some a:=⟨_,Qzg (by rw[<-hl];exact Qf ha')⟩
   exact ih j a a' ha ha' (hr j a u ha hu)
 |@fn f p p' q q' hl hl' _ _ ih1 ih2 =>
  intro x hr
  cases hr with
  |fn _ _ _ vs ws e1 e2 h1 h2 =>
   refine .fn _ _ _ vs ws (by omega) (by omega) (fun j a' u ha' hu=>?_) (fun j a' u ha' hu=>?_)
   ·obtain⟨a,ha⟩:∃a,p[j]? = some a:=⟨_,Qzg (by rw[<-hl];exact Qf ha')⟩
    exact ih1 j a a' ha ha' (h1 j a u ha hu)
   ·obtain⟨a,ha⟩:∃a,q[j]? = some a:=⟨_,Qzg (by rw[<-hl'];exact Qf ha')⟩
    exact ih2 j a a' ha ha' (h2 j a u ha hu)
def YE(P:Program)(s:AS):ResultVar->Option AV
 | .tmp t=>some (s.tm t)
 | .cell a t=>Xt P t (s.tm a) s.h
def Xf(P:Program)(s:AS)(rs:List ResultVar):Option AV :=
 match rs with
 |[r]=>YE P s r
 |rs=>(rs.mapM (YE P s)).map .tup
def resF(tmps:Array Value):ResultVar->Sem Value
 | .tmp t=>pure (tmps.getD t undef)
 | .cell p t=>do loadVar t (<-asAddr (tmps.getD p undef))
theorem QoW(fn:Func)(tmps:Array Value):results fn tmps=(do let vs<-fn.results.mapM (resF tmps);pure (if h:vs.size=1 then vs[0]else .tuple vs)):=by
 unfold results
 congr 1
theorem QfI{P:Program}{N:Nat}{base:Bs×Fence}{c:Cx}(hst:St c){s:AS}{a:Act}(hr:SR N base c s a){rv:ResultVar}{r:AV}(h:YE P s rv=some r) :
  ∃x,(resF a.tmps rv).run P c.w = .ok x c.w/\Rel c r x:=by
 cases rv with
 |tmp t=>simp only[YE]at h;cases h;exact⟨_,rfl,hr.tm t⟩
 |cell p t =>
  simp only[YE]at h
  rw[<-hr.h]at h
  obtain⟨x,hrun,hx⟩:=Qgp hst h (hr.tm p)
  refine⟨x,?_,hx⟩
  rw[<-hrun]
  simp only[Instr.loadAt,resF]
  generalize a.tmps.getD p undef=u at hrun
  cases u with
  |pointer o =>
   cases o with
   |some ad=>rfl
   |none=>simp[Instr.loadAt,Instr.sureAddr]at hrun
  |_=>simp[Instr.loadAt,Instr.sureAddr]at hrun
theorem QfC{P:Program}{N:Nat}{base:Bs×Fence}{c:Cx}(hst:St c){s:AS}{a:Act}(hr:SR N base c s a):∀{rs:List ResultVar} {l:List AV},rs.mapM (YE P s)=some l ->
  ∃xs:List Value,(rs.mapM (resF a.tmps)).run P c.w = .ok xs c.w/\RelL c l xs.toArray
 |[],l,h=>by simp at h;subst h;exact⟨[],rfl,rfl,fun j a u h=>by simp at h⟩
 |rv::rs,l,h=>by
  simp only[QAB]at h
  cases h1:YE P s rv with
  |none=>simp[h1]at h
  |some r =>
   cases h2:rs.mapM (YE P s)with
   |none=>simp[h1,h2]at h
   |some l' =>
    simp[h1,h2]at h
    subst h
    obtain⟨x,h3,h4⟩:=QfI hst hr h1
    obtain⟨xs,h5,h6⟩:=QfC hst hr h2
    refine⟨x::xs,by simp only[QAB,Sem.run_bind,h3,Result.andThen_ok,h5,Sem.run_pure],by have:=h6.1;simpa using this,fun j a u ha hu=>?_⟩
    cases j with
    |zero=>simp at ha hu;subst ha;subst hu;exact h4
    |succ j=>exact h6.2 j a u (by simpa using ha) (by simpa using hu)
theorem Qcq{P:Program}{N:Nat}{base:Bs×Fence}{c:Cx}(hst:St c){s:AS}{a:Act}(hr:SR N base c s a){fn:Func}{r:AV}(h:Xf P s fn.results.toList=some r):∃x,(results fn a.tmps).run P c.w = .ok x c.w/\Rel c r x:=by
 have hrun:∀xs:List Value,(fn.results.toList.mapM (resF a.tmps)).run P c.w = .ok xs c.w ->
   (results fn a.tmps).run P c.w = .ok (if h:xs.toArray.size=1 then xs.toArray[0]else .tuple xs.toArray) c.w:=by
  intro xs hx
  rw[QoW,Array.mapM_eq_mapM_toList]
  simp only[Sem.run_bind,Sem.run_map]
  rw[hx]
  rfl
 unfold Xf at h
 split at h
 ·rename_i rv hrs
  obtain⟨x,h1,h2⟩:=QfI hst hr h
  refine⟨x,?_,h2⟩
  rw[hrun [x] (by rw[hrs];simp only[QAB,List.mapM_nil,Sem.run_bind,h1,Result.andThen_ok,Sem.run_pure])]
  rfl
 ·rename_i rs hne
  simp only[Qzo]at h
  obtain⟨l,hl,rfl⟩:=h
  obtain⟨xs,h1,h2⟩:=QfC hst hr hl
  refine⟨.tuple xs.toArray,?_,.tup l _ h2.1 h2.2⟩
  rw[hrun xs h1]
  have hne1:¬xs.toArray.size=1:=by
   intro he
   have h3:l.length=1:=by have:=h2.1;omega
   have h4:fn.results.toList.length=l.length:=by
    clear h1 h2 hrun hne
    generalize fn.results.toList=rs at hl
    induction rs generalizing l with
    |nil=>simp at hl;subst hl;rfl
    |cons rv rs ih =>
     simp only[QAB]at hl
     cases h5:YE P s rv with
     |none=>simp[h5]at hl
     |some r =>
      cases h6:rs.mapM (YE P s)with
      |none=>simp[h5,h6]at hl
      |some l' =>
       simp[h5,h6]at hl
       subst hl
       simp only[Qyw]
       cases l' with
       |nil=>cases rs with
        |nil=>rfl
        |cons z zs =>
         simp only[QAB]at h6
         cases h7:YE P s z with
         |none=>simp[h7]at h6
         |some q=>cases h8:zs.mapM (YE P s)with
          |none=>simp[h7,h8]at h6
          |some q'=>simp[h7,h8]at h6
       |cons z zs=>simp at h3
   rw[h3]at h4
   match hq:fn.results.toList with
   |[rv]=>exact hne rv hq
   |[]=>rw[hq]at h4;simp at h4
   |_::_::_=>rw[hq]at h4;simp at h4
  rw[dif_neg hne1]
def Xm(args:List AV):Nat->AV:=fun t=>args.getD t (.v undef)
def Leaves(h h':AH)(r:AV)(Q:AV->AH->Prop):Prop :=
 (∃m r',h.length<=m/\m<=h'.length/\(h'.take m=h\/∀(i:Nat) b,(h'.take m)[i]? = some b->h[i]? = some b\/b.Below m)/\Frz h' m r r'/\Q r' (h'.take m))\/Q r h'
def Zr(P:Program)(rs:List ResultVar)(h:AH)(Q:AOut->AH->Prop):AExit->AS->Prop
 | .normal,s | .ret,s=>∃r,Xf P s rs=some r/\Leaves h s.h r fun r h'=>Q (.ret r) h'
 | .panic x,s=>Leaves h s.h x fun r h'=>Q (.panic r) h'
 | .exit _,_=>False
theorem Qa0{c c':Cx}{r:AV}{x:Value}{Q:AV->AH->Prop}(hs:St c)(hs':St c')(hev:Ev c c')(hr:Rel c' r x)(hl:Leaves c.h c'.h r Q) :
  ∃c2 r',Q r' c2.h/\Ev c c2/\St c2/\c2.w=c'.w/\Rel c2 r' x:=by
 rcases hl with⟨m,r',h1,h2,h3,h4,h5⟩|h5
 case inr=>exact⟨c',r,h5,hev,hs',rfl,hr⟩
 refine⟨c'.cut m,r',h5,hev.cut h1 h2,hs'.cut h2 ?_,rfl,h4.rel hs' h2 hr⟩
 rcases h3 with h3|h3
 ·intro b hb
  have hb':=hb
  rw[h3]at hb'
  obtain⟨j,hj⟩:=Qab hb'
  have hm:m=c.h.length:=by
   have:=QzP List.length h3
   rw[QzE]at this;omega
  rw[hm]
  exact hs.below hj
 ·intro b hb
  obtain⟨i,hi⟩:=Qab hb
  rcases h3 i b hi with h6|h6
  ·exact AB.Below.mono (hs.below h6) h1
  ·exact h6
theorem QaJ{P:Program}{w:World}{r:Nat}(h:w.heap[r]? = some (.deferred (some []))):(Instr.takeDeferred r).run P w = .ok [] {w with heap:=w.heap.setIfInBounds r (.deferred none)}:=by
 simp[Instr.takeDeferred,getObj,setObj,Sem.run,h]
theorem QcT{P:Program}{F:Fence}{n:Nat}{fn:Func}{tmps:Array Value}{R:Ending->World->Prop}{u:FrameMode}(hu:u ≠ .run){c:Cx}(hs:St c){base:Nat}:∀(Ds:List Nat) (w:World),
  Ds.Nodup->(∀D∈Ds,base<=D/\w.heap[D]? = some (.deferred (some []))) ->
  (∀w',w'.os=w.os->w'.tape=w.tape->w'.output=w.output->w'.heap.size=w.heap.size->(∀k,k∉Ds->w'.heap[k]? = w.heap[k]?)->LeavesInM F n P fn tmps R [] u w') ->
  LeavesInM F n P fn tmps R (Ds.map Qny) u w
 |[],w,_,_,h=>h w rfl rfl rfl rfl fun _ _=>rfl
 |D::Ds,w,hn,hd,h=>by
  have hD:=(hd D (by simp)).2
  have hlt:=(Qzs.1 hD).1
  simp only[Qyy,LeavesInM]
  refine⟨hu,.inl ⟨D,_,rfl,QaJ hD,?_⟩⟩
  have hnd:=QA9.1 hn
  have hold:∀k,k≠D->({w with heap:=w.heap.setIfInBounds D (.deferred none)}:World).heap[k]? = w.heap[k]? := fun k hk=>by
   show(w.heap.setIfInBounds D _)[k]? = _
   rw[Qz2 (fun e=>hk e.symm)]
  refine QcT hu hs (base:=base) Ds _ hnd.2 (fun D' hD'=>⟨(hd D' (by simp[hD'])).1,?_⟩) fun w' h1 h2 h3 h4 h5=>h w' h1 h2 h3 (by simpa using h4) fun k hk=>?_
  ·have hne:D'≠D:=fun e=>hnd.1 (e▸hD')
   exact(hold D' hne).trans (hd D' (by simp[hD'])).2
  ·simp only[Qzn,not_or]at hk
   exact(h5 k hk.2).trans (hold k hk.1)
theorem Ev.idle{c0 c:Cx}(hs:St c)(hev:Ev c0 c){w:World}(h1:w.os=c.w.os)(h2:w.tape=c.w.tape)(h3:w.output=c.w.output)(h4:w.heap.size=c.w.heap.size)
  (h5:∀k,w.heap[k]? = c.w.heap[k]? \/ (c0.w.heap.size<=k/\¬c.owns k/\∃o,c.w.heap[k]? = some (.deferred o))):Ev c0 (c.to w):=by
 refine⟨h1.trans hev.os,h2.trans hev.tape,h3.trans hev.output,by show _<=w.heap.size;rw[h4];exact hev.size,hev.len,fun B hB ho=>?_,fun id b hb=>?_,hev.fresh⟩
 ·rcases h5 B with h|⟨h,_⟩
  ·exact h.trans (hev.frame B hB ho)
  ·omega
 ·obtain⟨b',hb',hk⟩:=hev.kin id b hb
  refine⟨b',hb',?_⟩
  cases b with
  |cells ty s xs =>
   rcases hk with e0|⟨xs',e1,e2,e3⟩
   ·exact .inl e0
   refine .inr ⟨xs',e1,e2,fun B cur hρ hc=>?_⟩
   obtain⟨cur',h6,h7⟩:=e3 B cur hρ hc
   refine⟨cur',?_,h7⟩
   rcases h5 B with h|⟨_,_,o,h⟩
   ·exact h.trans h6
   ·rw[h6]at h;cases h
  |grow e s n =>
   rcases hk with⟨e1,e5⟩|⟨n',e1,e2,e3,e4,e5⟩
   ·refine .inl ⟨e1,fun B cur hρ hc=>?_⟩
    obtain⟨cur',fr,h6,h7⟩:=e5 B cur hρ hc
    refine⟨cur',fr,?_,h7⟩
    rcases h5 B with h|⟨_,_,o,h⟩
    ·exact h.trans h6
    ·rw[h6]at h;cases h
   refine .inr ⟨n',e1,e2,e3,e4,fun B cur hρ hc=>?_⟩
   obtain⟨cur',h6,h7⟩:=e5 B cur hρ hc
   refine⟨cur',?_,h7⟩
   rcases h5 B with h|⟨_,_,o,h⟩
   ·exact h.trans h6
   ·rw[h6]at h;cases h
  |map es=>exact hk
  |loop i=>exact hk
  |iter s p=>exact hk
  |glob g cs ty fr =>
   simp only[Kin]at hk ⊢
   refine⟨hk.1,hk.2.1,fun B hρ=>?_⟩
   rcases h5 B with h|⟨_,hno,_⟩
   ·exact h.trans (hk.2.2 B hρ)
   ·exact absurd ⟨id,b',hb',by rw[hk.1];rfl,hk.2.1.trans hρ⟩ hno
  |dead=>exact hk
  |gone=>exact hk
theorem Rel.idle{c:Cx}{w:World}(hsz:w.heap.size=c.w.heap.size)(h5:∀(k:Nat) cs t fr,c.w.heap[k]? = some (Obj.cells cs t fr)->w.heap[k]? = c.w.heap[k]?){a:AV}{x:Value}(h:Rel c a x):Rel (c.to w) a x:=by
 have hcell:∀{B o:Nat} {u:Value},c.cellP B o u->(c.to w).cellP B o u:=by
  intro B o u hc
  refine⟨?_,by show B<w.heap.size;rw[hsz];exact hc.2.1,hc.2.2⟩
  have h1:=hc.1
  cases hb:c.w.heap[B]? with
  |none=>simp[World.cell?,hb]at h1
  |some o' =>
   cases o' with
   |cells cs t fr=>exact(World.cell?_of_block (w:=c.w) (a:=⟨B,o,none⟩) (h5 B cs t fr hb)).trans h1
   |_=>simp[World.cell?,hb]at h1
 induction h with
 |v x=>exact .v x
 |junk x=>exact .junk x
 |agg l cs hl _ ih=>exact .agg l cs hl ih
 |tup l cs hl _ ih=>exact .tup l cs hl ih
 |slnil s own ht=>exact .slnil s own ht
 |slzero s own ba ht=>exact .slzero s own ba ht
 |sl s xs own B o cap f hs' hcap hmax hc _ ht ih =>
  refine .sl s xs own B o cap f hs' hcap hmax (fun j a hj=>⟨hcell (hc j a hj).1,(hc j a hj).2⟩) ih fun b hb=>⟨(ht b hb).1,fun e s' n hg=>?_⟩
  obtain⟨h1,h2,h3⟩:=(ht b hb).2 e s' n hg
  refine⟨h1,h2,fun he=>?_⟩
  obtain⟨h6,h7,h8,h9,cur,h10,h11⟩:=h3 he
  exact⟨h6,h7,h8,h9,cur,(h5 B _ _ _ h10).trans h10,h11⟩
 |pin s xs k off B o f hs' hc _ ih=>exact .pin s xs k off B o f hs' (fun j a hj=>⟨hcell (hc j a hj).1,(hc j a hj).2⟩) ih
 |ptr id k off x hid ho h1=>exact .ptr id k off x hid ho h1
 |arr id lo len x hid ho h1 =>
  refine .arr id lo len x hid ho fun ty s xs hb=>?_
  obtain⟨B,cap,h2,h3,h4,h6,cur,h7,h8⟩:=h1 ty s xs hb
  exact⟨B,cap,h2,h3,h4,h6,cur,(h5 B _ _ _ h7).trans h7,h8⟩
 |row id lo len cap x hid ho h1 =>
  refine .row id lo len cap x hid ho fun ty s xs hb=>?_
  obtain⟨B,cur,h2,h3,h4,h6,h7,h8⟩:=h1 ty s xs hb
  exact⟨B,cur,h2,h3,h4,h6,(h5 B _ _ _ h7).trans h7,h8⟩
 |mp id x hid ho h1=>exact .mp id x hid ho h1
 |fn f first cap vs ws e1 e2 _ _ ih1 ih2=>exact .fn f first cap vs ws e1 e2 ih1 ih2
 |ifc t a u _ ih=>exact .ifc t a u ih
 |spt s xs own p n k _ ih=>exact .spt s xs own p n k ih
theorem St.idle{c:Cx}(hs:St c){w:World}(hsz:w.heap.size=c.w.heap.size)(h5:∀(k:Nat) (o:Obj),c.w.heap[k]? = some o->(w.heap[k]? = some o\/∃d,o=Obj.deferred d)):St (c.to w):=by
 have hc:∀(k:Nat) cs t fr,c.w.heap[k]? = some (Obj.cells cs t fr)->w.heap[k]? = c.w.heap[k]? := fun k cs t fr h=>by
  rcases h5 k _ h with h'|⟨d,h'⟩
  ·rw[h,h']
  ·cases h'
 have hm:∀(k:Nat) es n,c.w.heap[k]? = some (Obj.map es n)->w.heap[k]? = c.w.heap[k]? := fun k es n h=>by
  rcases h5 k _ h with h'|⟨d,h'⟩
  ·rw[h,h']
  ·cases h'
 refine⟨fun id b hb=>?_,hs.inj⟩
 have h0:=hs.blocks id b hb
 cases b with
 |cells ty s xs =>
  obtain⟨B,cur,h1,h2,h3,h4⟩:=h0
  exact⟨B,cur,h1,(hc B _ _ _ h2).trans h2,h3,fun j a hj=>let ⟨u,h6,h7,h8⟩:=h4 j a hj;⟨u,h6,h7,h8.idle hsz hc⟩⟩
 |grow e s n=>exact fun B hB=>let ⟨cur,h1,h2⟩:=h0 B hB;⟨cur,(hc B _ _ _ h1).trans h1,h2⟩
 |map es =>
  obtain⟨B,ents,clock,h1,h2,h3,h4⟩:=h0
  exact⟨B,ents,clock,h1,(hm B _ _ h2).trans h2,h3,fun j kv e hj he=>⟨(h4 j kv e hj he).1,(h4 j kv e hj he).2.idle hsz hc⟩⟩
 |loop i =>
  obtain⟨B,r,h1,h2,h3,h4⟩:=h0
  have hl:w.heap[B]? = c.w.heap[B]? := by
   rcases h5 B _ h2 with h'|⟨d,h'⟩
   ·rw[h2,h']
   ·cases h'
  exact⟨B,r,h1,hl.trans h2,h3,fun t=>(h4 t).idle hsz hc⟩
 |iter s p =>
  obtain⟨B,h1,h2⟩:=h0
  refine⟨B,h1,?_⟩
  rcases h5 B _ h2 with h'|⟨d,h'⟩
  ·exact h'
  ·cases h'
 |glob g cs ty fr =>
  obtain⟨h1,h2⟩:=h0
  exact⟨h1,(hc g _ _ _ h2).trans h2⟩
 |dead=>trivial
 |gone=>trivial
theorem Qcf{F:Fence}{n:Nat}{P:Program}{f:FuncId}{args:Array Value}{w:World}{R:Ending->World->Prop}(h:CallsIn F.plain n P f args w R):CallsIn F n P f args w R:=h
theorem Qjf{P:Program}{f:FuncId}{fn:Func}{code:Code}{args:List AV}{h:AH}{Q:AOut->AH->Prop}(hf:P.funcs[f]? = some fn)(hb:fn.body=some code)
  (hcall:∀vals w,(callFunc f vals).run P w = .ok (.enter f vals) w) {N:Nat} (hN:fn.ntmps=N) {rs:List ResultVar} (hrs:fn.results.toList=rs) (hn:args.length<=N) (H:Xs P N code (Zr P rs h Q) ⟨Xm args,h⟩):Qp P f args h Q:=by
 subst hN
 subst hrs
 refine⟨hcall,fun F n c vals hF hs hh hvals=>Qcf ?_⟩
 subst hh
 refine callsIn_of_wp_marks hf hb (hF.plain.fn f) ?_
 have hsr:SR fn.ntmps (⟨c.w.heap.size,[]⟩,F.plain) c ⟨Xm args,c.h⟩ {tmps:=vals++Array.replicate (fn.ntmps - vals.size) undef,defers:=[]}:=by
  refine⟨rfl,by have:=hvals.1;simp;omega,Qzl _,⟨[],rfl,QAN,fun D h=>by cases h⟩,(fun l hl=>by cases hl),fun t=>?_⟩
  simp only[Xm]
  rw[Qzr,QAL,QzQ]
  have hsz:=hvals.1
  by_cases ht:t<vals.size
  ·rw[Qzh ht]
   obtain⟨u,hu⟩:∃u,vals[t]? = some u:=⟨_,Qzv ht⟩
   obtain⟨a,ha⟩:∃a,args[t]? = some a:=⟨_,Qzg (by omega)⟩
   rw[hu,ha]
   exact hvals.2 t a u ha hu
  ·rw[Qzf ht,QzR (by omega),QAo]
   split
   ·exact .v _
   ·exact .v _
 refine H F.plain n ⟨c.w.heap.size,[]⟩ c _ hF.plain hs hsr _ ?_
 intro e s' c' a' e' hQ hev hst hr hex
 -- the end, whichever way
 have fin:∀(u:FrameMode),u ≠ .run->(∀(c2:Cx),Ev c c2->St c2->c2.h=c'.h->(∀a x,Rel c' a x->Rel c2 a x)->SR fn.ntmps (⟨0,[]⟩,F.plain) c2 s' {a' with defers:=[]} ->
   LeavesInM F.plain n P fn a'.tmps (fun e w'=>∃o c',Q o c'.h/\Ev c c'/\St c'/\c'.w=w'/\EndC c' o e) [] u c2.w) ->
   LeavesInM F.plain n P fn a'.tmps (fun e w'=>∃o c',Q o c'.h/\Ev c c'/\St c'/\c'.w=w'/\EndC c' o e) a'.defers u c'.w:=by
  intro u hu hfin
  obtain⟨Ds,e1,hnd,hall⟩:=hr.defers
  rw[e1,QyM]
  refine QcT hu hst (base:=c.w.heap.size) Ds c'.w hnd (fun D hD=>⟨(hall D hD).1,(hall D hD).2.1⟩) ?_
  intro w' h1 h2 h3 h4 h5
  have hidle:∀k,w'.heap[k]? = c'.w.heap[k]? \/ (c.w.heap.size<=k/\¬c'.owns k/\∃o,c'.w.heap[k]? = some (.deferred o)):=by
   intro k
   by_cases hk:k∈Ds
   ·exact .inr ⟨(hall k hk).1,(hall k hk).2.2,_,(hall k hk).2.1⟩
   ·exact .inl (h5 k hk)
  have hcells:∀(k:Nat) cs t fr,c'.w.heap[k]? = some (Obj.cells cs t fr)->w'.heap[k]? = c'.w.heap[k]? := fun k cs t fr hk=>by
   rcases hidle k with h|⟨_,_,o,h⟩
   ·exact h
   ·rw[hk]at h;cases h
  have hst2:St (c'.to w'):=hst.idle h4 fun k o hk=>by
   rcases hidle k with h|⟨_,_,d,h⟩
   ·exact .inl (h.trans hk)
   ·rw[hk]at h;cases h;exact .inr ⟨d,rfl⟩
  have hrel:∀a x,Rel c' a x->Rel (c'.to w') a x:=fun a x hax=>hax.idle h4 hcells
  exact hfin (c'.to w') (Ev.idle hst hev h1 h2 h3 h4 hidle) hst2 rfl hrel ⟨hr.h,hr.size,Qzy _,⟨[],rfl,QAN,fun D h=>by cases h⟩,(fun l hl=>by cases hl),fun t=>hrel _ _ (hr.tm t)⟩
 cases e with
 |normal =>
  cases hex
  obtain⟨r,hres,hl⟩:=hQ
  refine fin .returning (by simp) fun c2 hev2 hst2 hh2 hrel2 hsr2=>?_
  obtain⟨x,hrun,hx⟩:=Qcq hst2 hsr2 hres
  rw[<-hr.h,<-hh2]at hl
  obtain⟨c3,r',h1,h2,h3,h4,h5⟩:=Qa0 hs hst2 hev2 hx hl
  exact⟨x,hrun,.ret r',c3,h1,h2,h3,h4,x,rfl,h5⟩
 |ret =>
  cases hex
  obtain⟨r,hres,hl⟩:=hQ
  refine fin .returning (by simp) fun c2 hev2 hst2 hh2 hrel2 hsr2=>?_
  obtain⟨x,hrun,hx⟩:=Qcq hst2 hsr2 hres
  rw[<-hr.h,<-hh2]at hl
  obtain⟨c3,r',h1,h2,h3,h4,h5⟩:=Qa0 hs hst2 hev2 hx hl
  exact⟨x,hrun,.ret r',c3,h1,h2,h3,h4,x,rfl,h5⟩
 |panic av =>
  obtain⟨x,rfl,hx⟩:=hex
  refine fin (.panicking [{v:=x,recovered:=false}]) (by simp) fun c2 hev2 hst2 hh2 hrel2 hsr2=>?_
  have hl:Leaves c.h s'.h av fun r h'=>Q (.panic r) h':=hQ
  rw[<-hr.h,<-hh2]at hl
  obtain⟨c3,r',h1,h2,h3,h4,h5⟩:=Qa0 hs hst2 hev2 (hrel2 _ _ hx) hl
  exact⟨.panic r',c3,h1,h2,h3,h4,x,rfl,h5⟩
 |exit id=>exact hQ.elim
theorem Qc{P:Program}{f:FuncId}{fn:Func}{code:Code}{args:List AV}{h:AH}{Q:AOut->AH->Prop}(hf:P.funcs[f]? = some fn)(hb:fn.body=some code)(hcall:∀vals w,(callFunc f vals).run P w = .ok (.enter f vals) w){N:Nat}(hN:fn.ntmps=N){ra:Array ResultVar}(hrs:fn.results=ra)(hn:args.length<=N)(H:Xs P N code (Zr P ra.toList h Q) ⟨Xm args,h⟩):Qp P f args h Q:=Qjf hf hb hcall hN (QzP Array.toList hrs) hn H
end Go.Proofs.YtenheconhibonaaGreatDoor.Ab
namespace Go.Proofs.YtenheconhibonaaGreatDoor.Ab
theorem hget(h l:AH)(k:Nat):(h++l)[h.length+k]? = l[k]? := by
 rw[Qzi (by omega)];congr 1;omega
theorem XP(h l:AH):(h++l)[h.length]? = l[0]? := hget h l 0
theorem hset(h l:AH)(k:Nat)(b:AB):(h++l).set (h.length+k) b=h++l.set k b:=by
 rw[Qz7 _ _ (by omega)];congr 2;omega
theorem Qaa(h l:AH)(b:AB):(h++l).set h.length b=h++l.set 0 b:=hset h l 0 b
theorem hext{h:AH}{i:Nat}{b:AB}(hb:h[i]? = some b)(l:AH):(h++l)[i]? = some b:=by
 rw[Qzc (Qf hb)];exact hb
theorem hlen(h l:AH):(h++l).length=h.length+l.length:=Qza
theorem happ(h l m:AH):(h++l)++m=h++(l++m):=Qze h l m
theorem htake(h l:AH):(h++l).take h.length=h:=List.take_left
theorem QD(l:List AV):(AV.agg l).cells=l:=rfl
theorem Zk(x:Value):(AV.v x).cells=[.v x]:=rfl
theorem YB(s:Nat)(xs:List AV)(o:Option Nat):(AV.sl s xs o).cells=[.sl s xs o]:=rfl
theorem Y7(s:Nat)(xs:List AV)(k o:Nat):(AV.pin s xs k o).cells=[.pin s xs k o]:=rfl
theorem Xe(i k o:Nat):(AV.ptr i k o).cells=[.ptr i k o]:=rfl
theorem Y5(i k o:Nat):(AV.arr i k o).cells=[.arr i k o]:=rfl
theorem Zn(i:Nat):(AV.mp i).cells=[.mp i]:=rfl
theorem Z4(f:Fn)(a b:List AV):(AV.fn f a b).cells=[.fn f a b]:=rfl
theorem Y6(t:TypeId)(x:AV):(AV.ifc t x).cells=[.ifc t x]:=rfl
theorem QK(l:List AV):(AV.agg l).isAgg=true:=rfl
theorem Zz(x:Value):(AV.v x).isAgg=false:=rfl
theorem YD(s:Nat)(xs:List AV)(o:Option Nat):(AV.sl s xs o).isAgg=false:=rfl
theorem Zd(s:Nat)(xs:List AV)(k o:Nat):(AV.pin s xs k o).isAgg=false:=rfl
theorem YM(i k o:Nat):(AV.ptr i k o).isAgg=false:=rfl
theorem Zb(i k o:Nat):(AV.arr i k o).isAgg=false:=rfl
theorem Zo(i:Nat):(AV.mp i).isAgg=false:=rfl
theorem Z7(f:Fn)(a b:List AV):(AV.fn f a b).isAgg=false:=rfl
theorem Zc(t:TypeId)(x:AV):(AV.ifc t x).isAgg=false:=rfl
theorem QU(k:IntKind)(n:Int):(AV.v (.int k n)).cell1=true:=rfl
theorem Yv(b:Bool):(AV.v (.bool b)).cell1=true:=rfl
theorem QX(b:ByteArray):(AV.v (.string b)).cell1=true:=rfl
theorem Xh(a:Option Addr)(m n:Nat):(AV.v (.slice a m n)).cell1=true:=rfl
theorem YZ(a:Option Nat):(AV.v (.map a)).cell1=true:=rfl
theorem XH(a:Option Addr):(AV.v (.pointer a)).cell1=true:=rfl
theorem XG:(AV.v .nilFunc).cell1=true:=rfl
theorem Xp:(AV.v .nilIface).cell1=true:=rfl
theorem Xb(s:Nat)(xs:List AV)(o:Option Nat):(AV.sl s xs o).cell1=true:=rfl
theorem Y0(s:Nat)(xs:List AV)(k o:Nat):(AV.pin s xs k o).cell1=true:=rfl
theorem Xd(i k o:Nat):(AV.ptr i k o).cell1=true:=rfl
theorem YX(i k o:Nat):(AV.arr i k o).cell1=true:=rfl
theorem Zm(i:Nat):(AV.mp i).cell1=true:=rfl
theorem Z3(f:Fn)(a b:List AV):(AV.fn f a b).cell1=true:=rfl
theorem YY(t:TypeId)(x:AV):(AV.ifc t x).cell1=true:=rfl
theorem Xc(k:IntKind)(n:Int):AV.ofV (.int k n) = .v (.int k n):=rfl
theorem Q5(b:Bool):AV.ofV (.bool b) = .v (.bool b):=rfl
theorem Ye(b:ByteArray):AV.ofV (.string b) = .v (.string b):=rfl
theorem YN(a:Option Addr)(m n:Nat):AV.ofV (.slice a m n) = .v (.slice a m n):=rfl
theorem Qac(a:Option Nat):AV.ofV (.map a) = .v (.map a):=rfl
theorem XV(a:Option Addr):AV.ofV (.pointer a) = .v (.pointer a):=rfl
theorem Yd:AV.ofV .nilFunc = .v .nilFunc:=rfl
theorem XA:AV.ofV .nilIface = .v .nilIface:=rfl
theorem Qba(cs:Array Value):AV.ofV (.agg cs) = .agg (cs.toList.map .v):=rfl
section
variable(P:Program)(t:TypeId)(xo yo:Operand)(k:IntKind)(a b:Int)
theorem Qa5:pv P (do eqGuard .eql t xo yo (.int k a) (.int k b);binOp .eql t (.int k a) (.int k b))=some (.bool (a==b)):=by cases k <;> rfl
theorem Qap:pv P (do eqGuard .neq t xo yo (.int k a) (.int k b);binOp .neq t (.int k a) (.int k b))=some (.bool (a != b)):=by cases k <;> rfl
theorem Qbq:pv P (do eqGuard .lss t xo yo (.int k a) (.int k b);binOp .lss t (.int k a) (.int k b))=some (.bool (a<b)):=by cases k <;> rfl
theorem QvE:pv P (do eqGuard .leq t xo yo (.int k a) (.int k b);binOp .leq t (.int k a) (.int k b))=some (.bool (a<=b)):=by cases k <;> rfl
theorem QaC:pv P (do eqGuard .gtr t xo yo (.int k a) (.int k b);binOp .gtr t (.int k a) (.int k b))=some (.bool (a>b)):=by cases k <;> rfl
theorem QvD:pv P (do eqGuard .geq t xo yo (.int k a) (.int k b);binOp .geq t (.int k a) (.int k b))=some (.bool (a>=b)):=by cases k <;> rfl
theorem Zf:pv P (do eqGuard .add t xo yo (.int k a) (.int k b);binOp .add t (.int k a) (.int k b))=some (.int k (k.wrap (a+b))):=by cases k <;> rfl
theorem QvJ:pv P (do eqGuard .sub t xo yo (.int k a) (.int k b);binOp .sub t (.int k a) (.int k b))=some (.int k (k.wrap (a - b))):=by cases k <;> rfl
theorem QvH:pv P (do eqGuard .mul t xo yo (.int k a) (.int k b);binOp .mul t (.int k a) (.int k b))=some (.int k (k.wrap (a * b))):=by cases k <;> rfl
theorem Qlv(x:Bool):pv P (Op.unary .not (.bool x))=some (.bool !x):=rfl
theorem QvI:pv P (Op.unary .neg (.int k a))=some (.int k (k.wrap (0 - a))):=by cases k <;> rfl
theorem QvF(ty:TypeId)(ts:Array TypeId):pv P (Builtin.max_ ts ty #[.int k a,.int k b])=some (.int k (if b>a then b else a)):=by cases k <;> rfl
theorem QvG(ty:TypeId)(ts:Array TypeId):pv P (Builtin.min_ ts ty #[.int k a,.int k b])=some (.int k (if b<a then b else a)):=by cases k <;> rfl
end
theorem Yu{α β:Type}(P:Program):∀(x:Sem α) (f:α->Sem β),pv P (x >>= f)=(pv P x).bind fun a=>pv P (f a)
 | .pure a,f=>rfl
 | .program k,f=>Yu P (k P) f
 | .mark m k,f=>Yu P k f
 | .load _ _ _,f | .store _ _ _ _,f | .new _ _,f | .shape _ _,f | .freeze _ _ _,f | .frozen _ _,f | .getObj _ _,f | .setObj _ _ _,f | .choose _ _,f | .sys _ _,f | .halt _,f=>rfl
theorem QjX(P:Program)(t:TypeId)(ht:P.underlying t=some .bool)(a b:Bool):pv P (Op.equal t (.bool a) (.bool b))=some (a==b):=by
 have h:∀n,pv P (Op.equalIn (n+1) t (.bool a) (.bool b))=some (a==b):=by
  intro n
  simp only[Op.equalIn,underlying]
  rw[Yu,Yu]
  simp only[program,pv,Qyo,ht]
  rfl
 exact h 9999
theorem Quq(P:Program)(t:TypeId)(xo yo:Operand)(ht:P.underlying t=some .bool)(a b:Bool):pv P (do eqGuard .eql t xo yo (.bool a) (.bool b);binOp .eql t (.bool a) (.bool b))=some (.bool (a==b)):=by
 have h1:pv P (binOp .eql t (.bool a) (.bool b))=some (.bool (a==b)):=by
  show pv P (do let r<-Op.equal t (.bool a) (.bool b);pure (Value.bool r))=_
  rw[Yu,QjX P t ht];rfl
 rw[Yu]
 show(some ()).bind _=_
 exact h1
theorem QjY(P:Program)(t:TypeId)(xo yo:Operand)(a b:ByteArray):pv P (do eqGuard .eql t xo yo (.string a) (.string b);binOp .eql t (.string a) (.string b))=some (.bool (a.toList==b.toList)):=rfl
theorem QjZ(P:Program)(t:TypeId)(xo yo:Operand)(a b:ByteArray):pv P (do eqGuard .neq t xo yo (.string a) (.string b);binOp .neq t (.string a) (.string b))=some (.bool !(a.toList==b.toList)):=rfl
theorem Qc0(P:Program)(t:TypeId)(xo yo:Operand)(a b:ByteArray):pv P (do eqGuard .lss t xo yo (.string a) (.string b);binOp .lss t (.string a) (.string b))=some (.bool (Op.bytesLess a.toList b.toList)):=rfl
theorem Qd0(P:Program)(t:TypeId)(xo yo:Operand)(a b:ByteArray):pv P (do eqGuard .gtr t xo yo (.string a) (.string b);binOp .gtr t (.string a) (.string b))=some (.bool !(Op.bytesLess a.toList b.toList||a.toList==b.toList)):=rfl
theorem ZB(P:Program)(t ty:TypeId)(ht:P.underlying t=some .string)(s:ByteArray):pv P (Builtin.len_ #[t] ty #[.string s])=some (goInt s.size):=by
 simp only[Builtin.len_,Qym,Qyj,underlying,program,Bind.bind,Sem.bind,pv,ht]
 rfl
theorem QeD(P:Program)(t ty e:TypeId)(ht:P.underlying t=some (.slice e)):pv P (Builtin.len_ #[t] ty #[.slice none 0 0])=some (goInt 0):=by
 simp only[Builtin.len_,Qym,Qyj,underlying,program,Bind.bind,Sem.bind,pv,ht]
 rfl
theorem XJ(K:AS->Prop)(Q:AExit->AS->Prop)(s:AS):AExit.then K Q .normal s=K s:=rfl
theorem QsY(K:AS->Prop)(Q:AExit->AS->Prop)(s:AS):AExit.then K Q .ret s=Q .ret s:=rfl
theorem XY(i:Nat)(Q:AExit->AS->Prop)(s:AS):AExit.inBlock i Q .normal s=Q .normal s:=rfl
theorem QpH(i:Nat)(Q:AExit->AS->Prop)(s:AS):AExit.inBlock i Q .ret s=Q .ret s:=rfl
theorem Qil(i j:Nat)(Q:AExit->AS->Prop)(s:AS):AExit.inBlock i Q (.exit j) s=if j=i then Q .normal s else Q (.exit j) s:=rfl
end Go.Proofs.YtenheconhibonaaGreatDoor.Ab
namespace Go.Proofs.YtenheconhibonaaGreatDoor.Ab
theorem Ql(N:Nat)(tm:Nat->AV)(h:AH)(d:Nat)(x:AV)(hd:d<N):AS.put N ⟨tm,h⟩ (some d) x=⟨upd tm d x,h⟩:=Qzh hd
theorem Qr(P:Program)(N:Nat)(ops:Array Oper)(K:AS->Prop)(E:AV->AS->Prop)(tm:Nat->AV)(h:AH):OpsW P N ops [] K E ⟨tm,h⟩=K ⟨tm,h⟩:=rfl
theorem Qi(P:Program)(N:Nat)(ops:Array Oper)(o:Oper)(l:List Oper)(K:AS->Prop)(E:AV->AS->Prop)(tm:Nat->AV)(h:AH):OpsW P N ops (o::l) K E ⟨tm,h⟩=(match Qn ops tm o with|some true=>OpW P N o ⟨tm,h⟩ (OpsW P N ops l K E) E|some false=>OpsW P N ops l K E (AS.put N ⟨tm,h⟩ o.dst (.v undef))|none=>False):=rfl
theorem XZ(N:Nat)(tm:Nat->AV)(h:AH)(x:AV):AS.put N ⟨tm,h⟩ none x=⟨tm,h⟩:=rfl
theorem Qz(f:Nat->AV)(d t:Nat)(x:AV):upd f d x t=if t=d then x else f t:=rfl
theorem QcA(tm:Nat->AV)(h:AH)(t:Nat):AS.ev ⟨tm,h⟩ (.tmp t)=tm t:=rfl
theorem Z5(tm:Nat->AV)(h:AH)(v:Value):AS.ev ⟨tm,h⟩ (.const v)=AV.ofV v:=rfl
theorem Qa9(tm:Nat->AV)(h:AH)(f:FuncId):AS.ev ⟨tm,h⟩ (.func f) = .fn (.func f) [] []:=rfl
end Go.Proofs.YtenheconhibonaaGreatDoor.Ab
namespace Go.Proofs.YtenheconhibonaaGreatDoor.Ab
theorem Qs{P:Program}{N:Nat}{Q:AExit->AS->Prop}{s:AS}{id:Nat}{ops:Array Oper}
  (H:∀(K:AS->Prop) (E:AV->AS->Prop),(∀s,Q .normal s->K s)->(∀r s,Q (.panic r) s->E r s)->OpsW P N ops ops.toList K E s):Xs P N (.region id ops false) Q s :=
 Qai (H _ _ (fun _ h=>h) (fun _ _ h=>h))
theorem Qd{P:Program}{N:Nat}{Q:AExit->AS->Prop}{s:AS}{id:Nat}{ops:Array Oper}{y:Code}
  (H:∀(K:AS->Prop) (E:AV->AS->Prop),(∀s,Xs P N y Q s->K s)->(∀r s,Q (.panic r) s->E r s)->OpsW P N ops ops.toList K E s):Xs P N (.seq (.region id ops false) y) Q s :=
 Qav (Qai (H _ _ (fun _ h=>h) (fun _ _ h=>h)))
theorem Qk{K:AS->Prop}{Q:AExit->AS->Prop}{s:AS}(h:K s):AExit.then K Q .normal s:=h
theorem Qd5{K:AS->Prop}{Q:AExit->AS->Prop}{s:AS}(h:Q .ret s):AExit.then K Q .ret s:=h
theorem ZE{K:AS->Prop}{Q:AExit->AS->Prop}{s:AS}{i:Nat}(h:Q (.exit i) s):AExit.then K Q (.exit i) s:=h
theorem QeT{K:AS->Prop}{Q:AExit->AS->Prop}{s:AS}{x:AV}(h:Q (.panic x) s):AExit.then K Q (.panic x) s:=h
theorem QI{i:Nat}{Q:AExit->AS->Prop}{s:AS}(h:Q .normal s):AExit.inBlock i Q .normal s:=h
theorem QfJ{i:Nat}{Q:AExit->AS->Prop}{s:AS}(h:Q .ret s):AExit.inBlock i Q .ret s:=h
theorem Qic{i:Nat}{Q:AExit->AS->Prop}{s:AS}{x:AV}(h:Q (.panic x) s):AExit.inBlock i Q (.panic x) s:=h
theorem ZD{i:Nat}{Q:AExit->AS->Prop}{s:AS}(h:Q .normal s):AExit.inBlock i Q (.exit i) s:=by
 rw[Qil,Qzh rfl];exact h
theorem Qcv{i j:Nat}{Q:AExit->AS->Prop}{s:AS}(hj:(j==i)=false)(h:Q (.exit j) s):AExit.inBlock i Q (.exit j) s:=by
 rw[Qil,Qzf (by simpa using hj)];exact h
end Go.Proofs.YtenheconhibonaaGreatDoor.Ab
set_option linter.unusedSectionVars false
namespace Go.Proofs.YtenheconhibonaaGreatDoor.Ab
def Keep (h h' : AH) : Prop := ∀ (id : Nat) (b : AB), h[id]? = some b -> (∀ e s n, b ≠ .grow e s n) -> h'[id]? = some b
theorem Keep.refl (h : AH) : Keep h h := fun _ _ h _ => h
theorem Keep.trans {a b c : AH} (h : Keep a b) (k : Keep b c) : Keep a c := fun id x hx hn => k id x (h id x hx hn) hn
theorem Keep.nil (h : AH) : Keep [] h := fun id b hb => by simp at hb
theorem Keep.app (h l : AH) : Keep h (h ++ l) := fun id b hb _ => hext hb l
theorem Keep.Qyc {h : AH} {i : Nat} {e s n : Nat} (hi : h[i]? = some (.grow e s n)) (b : AB) : Keep h (h.set i b) := fun id x hx hn => by
  have hne : i ≠ id := fun e' => by subst e'; rw [hi] at hx; cases hx; exact hn _ _ _ rfl
  rw [Qzd hne]; exact hx
def QcU : Op -> Bool
  | .move _ | .assign _ | .pick .. | .build .. | .load .. | .binOp .. | .unOp .. | .convert .. | .makeFunc .. | .makeInterface .. | .fieldAddr .. | .field .. | .indexAddr .. | .index .. | .lookup .. | .extract .. | .nilCheck _ | .typeAssert .. => true
  | .buildSlice _ n _ => n != 0
  | .slice _ _ _ _ m => m.isNone
  | .call c => match c.callee with
    | .builtin .len | .builtin .min | .builtin .max | .builtin .unsafeSliceData => true
    | _ => false
  | _ => false
def Qd9 : Op -> Bool
  | .alloc _ | .box .. | .buildSlice .. | .makeMap .. | .makeSlice .. => true
  | .slice _ _ _ _ m => m.isSome
  | .call c => match c.callee with
    | .builtin .append => true
    | _ => false
  | _ => false
theorem Zp {α : Type} {x : Option α} {h h1 : AH} {r : α} (e : x.map (·, h) = some (r, h1)) : x = some r /\ h1 = h := by
  cases x <;> simp at e
  exact ⟨by rw [e.1], e.2.symm⟩
theorem YK {h h' : AH} (k : Keep h h') {id : Nat} {t s : Nat} {xs : List AV} (e : h[id]? = some (.cells t s xs)) : h'[id]? = some (.cells t s xs) := k id _ e (fun _ _ _ h => by cases h)
theorem get_map {h h' : AH} (k : Keep h h') {id : Nat} {es : List (Value × AV)} (e : h[id]? = some (.map es)) : h'[id]? = some (.map es) := k id _ e (fun _ _ _ h => by cases h)
section
variable {P : Program} {h h' : AH} (k : Keep h h')
include k
theorem QnZ {t : TypeId} {x r : AV} (e : Xt P t x h = some r) : Xt P t x h' = some r := by
  unfold Xt at e ⊢
  cases x <;> simp only at e ⊢ <;> try exact e
  split at e
  · rename_i hb; rw [YK k hb]; exact e
  · cases e
theorem Qgn {t : TypeId} {x r : AV} {i : Nat} (e : Qm P t x i h = some r) : Qm P t x i h' = some r := by
  unfold Qm at e ⊢
  cases hf : fieldInfo P t i with
  | none => simp [hf] at e
  | some p =>
    simp only [hf] at e ⊢
    cases x <;> simp only at e ⊢ <;> try exact e
    split at e
    · rename_i hb; rw [YK k hb]; exact e
    · cases e
theorem Qgo {t : TypeId} {x i r : AV} (e : QM P t x i h = some r) : QM P t x i h' = some r := by
  unfold QM at e ⊢
  cases hf : Q3 P t with
  | none => simp [hf] at e
  | some p =>
    simp only [hf] at e ⊢
    split at e
    · cases x <;> simp only at e ⊢ <;> try exact e
      split at e
      · rename_i hb; rw [YK k hb]; exact e
      · cases e
    · cases e
theorem Qpn {t ty : TypeId} {x r : AV} (e : aLen P t ty x h = some r) : aLen P t ty x h' = some r := by
  unfold aLen at e ⊢
  cases x <;> simp only at e ⊢ <;> try exact e
  · split at e
    · rename_i hu hb; rw [hu, YK k hb]; exact e
    · cases e
  · split at e
    · rename_i hu hb; rw [hu, YK k hb]; exact e
    · cases e
  · split at e
    · rename_i hu hb; rw [hu, get_map k hb]; exact e
    · cases e
theorem Qo3 {n : Nat} {x : AV} {ys : List AV} (e : Qbd n h x = some ys) : Qbd n h' x = some ys := by
  unfold Qbd at e ⊢
  split at e <;> try exact e
  · split at e
    · rename_i hb; rw [YK k hb]; exact e
    · cases e
  · split at e
    · rename_i hb; rw [YK k hb]; exact e
    · cases e
theorem Ql1 {s d : TypeId} {x r : AV} (e : Qig P s d x h = some r) : Qig P s d x h' = some r := by
  unfold Qig at e ⊢
  split at e
  · rename_i hb hs
    rw [hb, Qo3 k hs]
    exact e
  · cases e
theorem Ql3 {t : TypeId} {x r : AV} {lo hi : Option AV} (e : QbO P t x lo hi h = some r) : QbO P t x lo hi h' = some r := by
  unfold QbO at e ⊢
  cases hf : Q3 P t with
  | none => simp only [hf] at e ⊢; exact e
  | some p =>
    simp only [hf] at e ⊢
    split at e <;> try exact e
    · split at e
      · rename_i hb; rw [YK k hb]; exact e
      · cases e
    · split at e
      · rename_i hb; rw [YK k hb]; exact e
      · cases e
theorem Qhp {t : TypeId} {x : AV} {b : Value} (e : notNil P t h x b = true) : notNil P t h' x b = true := by
  unfold notNil at e ⊢
  split at e <;> first
    | exact e
    | (split at e
       · rename_i hu hb
         first
           | rw [hu, YK k hb]
           | rw [hu, get_map k hb]
       · cases e)
    | cases e
theorem Ql2 {op : BinOp} {t : TypeId} {x y r : AV} (e : Qgq P op t x y h = some r) : Qgq P op t x y h' = some r := by
  unfold Qgq at e ⊢
  split at e
  · split at e
    · rename_i hu hb
      rw [hu, YK k hb]
      exact e
    · cases e
  · cases e
theorem Qku {s d : TypeId} {id kk off : Nat} {r : AV} (e : QbH P s d id kk off h = some r) : QbH P s d id kk off h' = some r := by
  unfold QbH at e ⊢
  split at e
  · rename_i hb
    rw [YK k hb]
    exact e
  · cases e
theorem Qi7 {x : AV} (e : QR h x = true) : QR h' x = true := by
  cases x <;> simp only [QR] at e ⊢ <;> try exact e
  split at e
  · rename_i hb; rw [YK k hb]
  · cases e
theorem Qpm {op : BinOp} {t : TypeId} {xo yo : Operand} {x y r : AV} (e : aBin P op t xo yo x y h = some r) : aBin P op t xo yo x y h' = some r := by
  unfold aBin at e ⊢
  split at e
  · exact e
  · rename_i b hnv
    split at e
    · split at e
      · rename_i hn; rw [Qhp k hn]; simpa using e
      · cases e
    · split at e
      · rename_i hn; rw [Qhp k hn]; simpa using e
      · cases e
    · cases e
  · exact Ql2 k e
  · exact e
  · cases e
theorem Qks {t : TypeId} {x y r : AV} {ok : Bool} (e : Qbl P t x y ok h = some r) : Qbl P t x y ok h' = some r := by
  unfold Qbl at e ⊢
  cases hf : QbL P t with
  | none => simp [hf] at e
  | some p =>
    simp only [hf] at e ⊢
    cases y with
    | v kv =>
      simp only at e ⊢
      cases x with
      | mp id =>
        simp only at e ⊢
        cases hb : h[id]? with
        | none => simp [hb] at e
        | some b =>
          cases b with
          | map es => rw [get_map k hb]; rw [hb] at e; exact e
          | _ => simp [hb] at e
      | v x => cases x with
        | map r => cases r <;> exact e
        | _ => exact e
      | _ => exact e
    | _ => exact e
theorem QfM {t : TypeId} {n : Nat} (hn : (n != 0) = true) {parts : List (Nat × AV)} {r : AV} {h1 : AH} (e : QT P t n parts h = some (r, h1)) : h1 = h /\ QT P t n parts h' = some (r, h') := by
  unfold QT at e ⊢
  have hn' : n ≠ 0 := by simpa using hn
  cases hf : Q3 P t with
  | none => simp [hf] at e
  | some p =>
    simp only [hf, Qzf hn'] at e ⊢
    split at e
    · rename_i hc; rw [Qzh hc]; cases e; exact ⟨rfl, rfl⟩
    · cases e
theorem Qi9 {ev : Operand -> AV} {ty : TypeId} {op : Op} (hl : QcU op = true) {r : AV} {h1 : AH} (e : aop P ev ty h op = some (r, h1)) : h1 = h /\ aop P ev ty h' op = some (r, h') := by
  cases op with
  | move x => simp only [aop] at e ⊢; cases e; exact ⟨rfl, rfl⟩
  | assign x => simp only [aop] at e ⊢; cases e; exact ⟨rfl, rfl⟩
  | pick c a b =>
    simp only [aop] at e ⊢
    split at e
    · cases e; exact ⟨rfl, rfl⟩
    · cases e
  | build t parts => simp only [aop] at e ⊢; obtain ⟨e1, e2⟩ := Zp e; rw [e1]; exact ⟨e2, rfl⟩
  | buildSlice t n parts => simp only [aop] at e ⊢; exact QfM k hl e
  | load t a => simp only [aop] at e ⊢; obtain ⟨e1, e2⟩ := Zp e; rw [QnZ k e1]; exact ⟨e2, rfl⟩
  | binOp b t x y t2 => simp only [aop] at e ⊢; obtain ⟨e1, e2⟩ := Zp e; rw [Qpm k e1]; exact ⟨e2, rfl⟩
  | unOp b t x =>
    simp only [aop] at e ⊢
    split at e
    · obtain ⟨z, e1, e2⟩ := Qzo.1 e; cases e2; rw [e1]; exact ⟨rfl, rfl⟩
    · cases e
  | convert s d x =>
    simp only [aop] at e ⊢
    split at e
    · obtain ⟨z, e1, e2⟩ := Qzo.1 e; cases e2; rw [e1]; exact ⟨rfl, rfl⟩
    · obtain ⟨e1, e2⟩ := Zp e; rw [Qku k e1]; exact ⟨e2, rfl⟩
    · obtain ⟨e1, e2⟩ := Zp e; rw [Ql1 k e1]; exact ⟨e2, rfl⟩
  | nilCheck x =>
    simp only [aop] at e ⊢
    split at e
    · rename_i hn; rw [Qi7 k hn]; cases e; exact ⟨rfl, rfl⟩
    · cases e
  | typeAssert x xt t ok => simp only [aop] at e ⊢; obtain ⟨e1, e2⟩ := Zp e; rw [e1]; exact ⟨e2, rfl⟩
  | makeFunc f a b => simp only [aop] at e ⊢; cases e; exact ⟨rfl, rfl⟩
  | makeInterface t x =>
    simp only [aop] at e ⊢
    split at e
    · cases e
    · cases e; exact ⟨rfl, rfl⟩
    · cases e
  | slice t x lo hi mx =>
    simp only [aop] at e ⊢
    cases mx with
    | none => simp only at e ⊢; obtain ⟨e1, e2⟩ := Zp e; rw [Ql3 k e1]; exact ⟨e2, rfl⟩
    | some m => simp [QcU] at hl
  | fieldAddr t x i => simp only [aop] at e ⊢; obtain ⟨e1, e2⟩ := Zp e; rw [Qgn k e1]; exact ⟨e2, rfl⟩
  | field t x i => simp only [aop] at e ⊢; obtain ⟨e1, e2⟩ := Zp e; rw [e1]; exact ⟨e2, rfl⟩
  | indexAddr t x i => simp only [aop] at e ⊢; obtain ⟨e1, e2⟩ := Zp e; rw [Qgo k e1]; exact ⟨e2, rfl⟩
  | index t x i =>
    simp only [aop] at e ⊢
    split at e
    · obtain ⟨z, e1, e2⟩ := Qzo.1 e; cases e2; rw [e1]; exact ⟨rfl, rfl⟩
    · cases e
  | lookup t x y ok => simp only [aop] at e ⊢; obtain ⟨e1, e2⟩ := Zp e; rw [Qks k e1]; exact ⟨e2, rfl⟩
  | extract t i => simp only [aop] at e ⊢; obtain ⟨e1, e2⟩ := Zp e; rw [e1]; exact ⟨e2, rfl⟩
  | call c =>
    obtain ⟨cal, args, tys⟩ := c
    cases cal with
    | builtin b =>
      cases b with
      | len =>
        simp only [aop] at e ⊢
        split at e
        · obtain ⟨e1, e2⟩ := Zp e; rw [Qpn k e1]; exact ⟨e2, rfl⟩
        · cases e
      | min =>
        simp only [aop] at e ⊢
        split at e
        · obtain ⟨z, e1, e2⟩ := Qzo.1 e; cases e2; rw [e1]; exact ⟨rfl, rfl⟩
        · cases e
      | max =>
        simp only [aop] at e ⊢
        split at e
        · obtain ⟨z, e1, e2⟩ := Qzo.1 e; cases e2; rw [e1]; exact ⟨rfl, rfl⟩
        · cases e
      | unsafeSliceData =>
        simp only [aop] at e ⊢
        split at e
        · obtain ⟨e1, e2⟩ := Zp e; rw [e1]; exact ⟨e2, rfl⟩
        · cases e
      | _ => simp [QcU] at hl
    | _ => simp [QcU] at hl
  | _ => simp [QcU] at hl
end
theorem Qr0 {P : Program} {h : AH} {ev : Operand -> AV} {ty : TypeId} {op : Op} (hl : Qd9 op = true) {r : AV} {h1 : AH} (e : aop P ev ty h op = some (r, h1)) : Keep h h1 := by
  cases op with
  | alloc t =>
    simp only [aop] at e
    split at e
    · split at e
      · cases e; exact Keep.app _ _
      · cases e
    · cases e
  | box t x =>
    simp only [aop] at e
    split at e
    · cases e; exact Keep.app _ _
    · cases e
  | buildSlice t n parts =>
    simp only [aop, QT] at e
    split at e
    · split at e
      · split at e
        · cases e; exact Keep.app _ _
        · cases e; exact Keep.refl _
      · cases e
    · cases e
  | slice t x lo hi mx =>
    cases mx with
    | none => simp [Qd9] at hl
    | some m =>
      simp only [aop, Qi8] at e
      split at e
      · split at e
        · cases e; exact Keep.app _ _
        · cases e
      · cases e
  | makeSlice t l n =>
    simp only [aop] at e
    split at e
    · rename_i x hm
      cases e
      unfold QrZ at hm
      repeat' split at hm
      all_goals first
        | (cases hm; exact Keep.app _ _)
        | cases hm
    · unfold Qm1 at e
      repeat' split at e
      all_goals first
        | (cases e; exact Keep.app _ _)
        | cases e
  | makeMap t r =>
    simp only [aop] at e
    split at e
    · cases e; exact Keep.app _ _
    · split at e
      · cases e; exact Keep.app _ _
      · cases e
    · cases e
  | call c =>
    obtain ⟨cal, args, tys⟩ := c
    cases cal with
    | builtin b =>
      cases b with
      | append =>
        simp only [aop] at e
        split at e
        · unfold QbG at e
          split at e
          · split at e
            · split at e
              · split at e
                · cases e; exact Keep.app _ _
                · cases e
              · split at e
                · rename_i hb
                  split at e
                  · cases e; exact Keep.Qyc hb _
                  · cases e
                · split at e
                  · split at e
                    · cases e; exact Keep.refl _
                    · cases e; exact Keep.app _ _
                  · cases e
                · cases e
              · cases e
            · cases e
          · cases e
        · cases e
      | _ => simp [Qd9] at hl
    | _ => simp [Qd9] at hl
  | _ => simp [Qd9] at hl
def Qkn : Op -> Bool
  | .store .. | .mapUpdate .. | .insert .. => true
  | .call c => match c.callee with
    | .builtin .copy | .builtin .unsafeString => true
    | _ => false
  | _ => false
theorem Qpt {P : Program} {h : AH} {ev ev' : Operand -> AV} {ty : TypeId} {op : Op} (he : ∀ x ∈ op.operands, ev x = ev' x) (hl : (QcU op || Qd9 op || Qkn op) = true) : aop P ev ty h op = aop P ev' ty h op := by
  have hp : ∀ {α : Type} (parts : Array (α × Operand)), (∀ x ∈ parts.map (·.2), ev x = ev' x) -> (parts.toList.map fun p => (p.1, ev p.2)) = (parts.toList.map fun p => (p.1, ev' p.2)) := fun parts hh => by
    refine QAh fun p hp => ?_
    rw [hh p.2 (QBg.2 ⟨p, QAw.2 hp, rfl⟩)]
  have ha : ∀ (l : Array Operand), (∀ x ∈ l, ev x = ev' x) -> l.toList.map ev = l.toList.map ev' := fun l hh => QAh fun p hp => hh p (QAw.2 hp)
  have ho : ∀ (l : Option Operand), (∀ x, l = some x -> ev x = ev' x) -> l.map ev = l.map ev' := fun l hh => by
    cases l with
    | none => rfl
    | some x => simp [hh x rfl]
  cases op with
  | build t parts => simp only [aop]; rw [hp parts (fun x hx => he x (by simpa [Op.operands] using hx))]
  | buildSlice t n parts => simp only [aop]; rw [hp parts (fun x hx => he x (by simpa [Op.operands] using hx))]
  | makeFunc f a b =>
    simp only [aop]
    rw [ha a (fun x hx => he x (by simp [Op.operands, hx])), ha b (fun x hx => he x (by simp [Op.operands, hx]))]
  | makeMap t r => simp only [aop]; rw [ho r (fun x hx => he x (by simp [Op.operands, hx]))]
  | slice t x l hh m =>
    simp only [aop]
    rw [ho l (fun x hx => he x (by simp [Op.operands, hx])), ho hh (fun x hx => he x (by simp [Op.operands, hx])), he x (by simp [Op.operands])]
    cases m with
    | none => rfl
    | some m => simp only; rw [he m (by simp [Op.operands])]
  | call c =>
    obtain ⟨cal, args, tys⟩ := c
    cases cal with
    | builtin b =>
      have hargs := ha args (fun x hx => he x (by simp [Op.operands, Call.operands, hx]))
      have hone : ∀ x, args.toList = [x] -> ev x = ev' x := fun x hx => he x (by simp [Op.operands, Call.operands, QAw, hx])
      have htwo : ∀ x y, args.toList = [x, y] -> ev x = ev' x /\ ev y = ev' y := fun x y hx => ⟨he x (by simp [Op.operands, Call.operands, QAw, hx]), he y (by simp [Op.operands, Call.operands, QAw, hx])⟩
      cases b with
      | len =>
        simp only [aop]
        split
        · rename_i h1 h2; rw [hone _ h1]
        · rfl
      | append =>
        simp only [aop]
        split
        · rename_i h1 h2; rw [(htwo _ _ h1).1, (htwo _ _ h1).2]
        · rfl
      | min => simp only [aop]; rw [hargs]
      | max => simp only [aop]; rw [hargs]
      | cap =>
        simp only [aop]
        split
        · rename_i h1 h2; rw [hone _ h1]
        · rfl
      | copy =>
        simp only [aop]
        split
        · rename_i h1 h2; rw [(htwo _ _ h1).1, (htwo _ _ h1).2]
        · rfl
      | unsafeString =>
        simp only [aop]
        split
        · rename_i h1 h2; rw [(htwo _ _ h1).1, (htwo _ _ h1).2]
        · rfl
      | unsafeSliceData =>
        simp only [aop]
        split
        · rename_i h1; rw [hone _ h1]
        · rfl
      | clear =>
        simp only [aop]
        split
        · rename_i h1 h2; rw [hone _ h1]
        · rfl
      | _ => rfl
    | _ => simp [QcU, Qd9, Qkn] at hl
  | _ =>
    first
      | (simp [QcU, Qd9, Qkn] at hl; done)
      | (simp [Op.operands] at he; simp only [aop, he]; done)
      | (simp only [aop]; done)
end Go.Proofs.YtenheconhibonaaGreatDoor.Ab
namespace Go.Proofs.YtenheconhibonaaGreatDoor.Ab
theorem QhZ{P:Program}{c:Cx}(hst:St c){t e:TypeId}{n len:Nat}{parts:List (Nat×AV)}{vals:Array (Nat×Value)}{r:AV}{h':AH}(he:Q3 P t=some (e,n))(ha:QT P t len parts c.h=some (r,h'))
  (hi:parts.map (·.1)=vals.toList.map (·.1)) (hv:RelL c (parts.map (·.2)) (vals.toList.map (·.2)).toArray) :
  ∃y c',(Instr.buildSlice t len vals).run P c.w = .ok y c'.w/\Ev c c'/\St c'/\c'.h=c.h++[.grow e n (parts.map (·.2)).length]/\Rel c' (.sl n (parts.map (·.2)) (some c.h.length)) y:=by
 unfold QT at ha
 ·obtain⟨hu,hsz⟩:=X8 he
  simp only[he]at ha
  split at ha
  ·rename_i hh
   obtain⟨h1,h2,h3,h4,h5⟩:=hh
   cases hz:Xi P e with
   |none=>simp[hz]at h5
   |some z =>
    obtain⟨v,hrun,rfl⟩:=Qar hz
    simp only[hz,Option.any_some,Qzk,QAb]at h5
    obtain⟨hrl0,hone0⟩:=QaD (Qbb c v) h5.1
    have hvn:v.cells.size=n:=by rw[hrl0.1];exact h5.2
    have hlen:parts.length=len:=by have:=QzP List.length h1;simpa using this
    have hall:∀x∈parts.map (·.2),x.Qxu=true/\x.cells.length=n:=by
     intro x hx
     simp only[QzD]at hx
     obtain⟨p,hp,rfl⟩:=hx
     simp only[QzB,Qzk,QAb]at h2
     exact h2 p hp
    -- the zero cells
    let zs:Array Value:=(Array.range (len * n)).map (v.cells[· % v.cells.size]!)
    have hzs:zs.size=len * n:=by simp[zs]
    have hzone:∀x∈zs.toList,x.oneCell'=true:=by
     intro x hx
     simp only[zs,QzT,QBg]at hx
     obtain⟨i,_,rfl⟩:=hx
     have hlt:i % v.cells.size<v.cells.size:=Nat.mod_lt _ (by omega)
     rw[getElem!_pos v.cells _ hlt]
     exact hone0 _ (by rw[QzT];exact QAO hlt)
    have hjunk:RelL c (List.replicate (len * n) AV.junk) zs:=by
     refine⟨by simp[hzs],fun j a u ha hu=>?_⟩
     rw[QAE]at ha
     split at ha
     ·cases ha;exact .junk u
     ·cases ha
    have hfill:Qdz (fun i=>some (i * n,n)) (List.replicate (len * n) AV.junk) parts=some (flat (parts.map (·.2))):=by
     have:=Qd8 (n:=n) (parts.map (·.2)) 0 (List.replicate (len * n) AV.junk) hall (by simp[hlen])
     have e:(List.range' 0 (parts.map (·.2)).length).zip (parts.map (·.2))=parts:=by
      rw[QzJ,hlen,<-QAy,<-h1]
      exact Qbv parts
     rw[e]at this
     rw[this]
     simp[hlen]
    obtain⟨cs',hf,hrl,_,hone⟩:=Qbk hi hv hfill hjunk hzone
    have hfl:(flat (parts.map (·.2))).length=len * n:=by
     rw[flat_length (fun x hx=>(hall x hx).2)];simp[hlen]
    have hrun':(Instr.buildSlice t len vals).run P c.w = .ok (.slice (some ⟨c.w.heap.size,0,none⟩) len len) (c.w.alloc (.cells cs' e)):=by
     have h3':¬len * n>2 ^ 24:=by omega
     simp only[Instr.buildSlice,Sem.run_bind,underlying,run_program,Result.andThen_ok,hu,Sem.run_pure,hsz,h3',Qz5]
     by_cases h0:len * n=0
     ·have hz0:zs=(Array.range (len * n)).map ((#[]:Array Value)[· % (#[]:Array Value).size]!):=by
       apply Array.ext
       ·simp[hzs]
       ·intro i h1 h2;simp[hzs,h0]at h1
      rw[Qzh h0]
      simp only[Sem.run_bind,Sem.run_pure,Result.andThen_ok]
      rw[<-hz0,hf]
      rfl
     ·rw[Qzf h0]
      simp only[Sem.run_bind,hrun,Result.andThen_ok,Sem.run_pure]
      rw[hf]
      rfl
    have hmaxl:len<=maxLen:=by
     have:len * 1<=len * n:=Nat.mul_le_mul_left _ h4
     have h24:(2:Nat) ^ 24=16777216:=by decide
     simp only[maxLen];omega
    have hl':(parts.map (·.2)).length=len:=by simp[hlen]
    have hg:=Grows.alloc c.w (.cells cs' e)
    have ho:∀B,some c.w.heap.size=some B->c.w.heap.size<=B:=fun B h=>by cases h;exact Qzl _
    have hev:=Ev.add hst hg (.grow e n (parts.map (·.2)).length) (some c.w.heap.size) ho
    have hρ:(c.add (c.w.alloc (.cells cs' e)) (.grow e n (parts.map (·.2)).length) (some c.w.heap.size)).ρ c.h.length=some c.w.heap.size:=by simp[Cx.add]
    have hcs:cs'.size=(parts.map (·.2)).length * n:=by rw[hrl.1,hfl,hl']
    have hst':St (c.add (c.w.alloc (.cells cs' e)) (.grow e n (parts.map (·.2)).length) (some c.w.heap.size)):=by
     refine St.add hst hg _ _ ho ?_
     intro B hB
     rw[hρ]at hB;cases hB
     exact⟨cs',QO _ _,by omega⟩
    refine⟨_,c.add (c.w.alloc (.cells cs' e)) (.grow e n (parts.map (·.2)).length) (some c.w.heap.size),hrun',hev,hst',rfl,?_⟩
    have:=Qaq (c:=c.add (c.w.alloc (.cells cs' e)) (.grow e n (parts.map (·.2)).length) (some c.w.heap.size)) hst' (b:=c.h.length) (B:=c.w.heap.size) (s:=n) (cap:=(parts.map (·.2)).length) (e:=e) (xs:=parts.map (·.2)) (cur:=cs') (by simp[Cx.add]) hρ (QO _ _) hcs (Qzl _) (by rw[hl'];exact hmaxl) (fun x hx=>(hall x hx).2) (fun j a ha=>by
     have hlt:j<cs'.size:=by rw[hrl.1];exact Qf ha
     exact⟨cs'[j],Qzv hlt,hone _ (by rw[QzT];exact QAO hlt),(hrl.2 j a _ ha (Qzv hlt)).ev hst hev⟩)
    exact(show Value.slice (some ⟨c.w.heap.size,0,none⟩) (parts.map (·.2)).length (parts.map (·.2)).length=Value.slice (some ⟨c.w.heap.size,0,none⟩) len len by rw[hl'])▸this
  ·cases ha
theorem QhY{P:Program}{c:Cx}(hst:St c){t e:TypeId}{n len:Nat}{parts:List (Nat×AV)}{vals:Array (Nat×Value)}{r:AV}{h':AH}(he:Q3 P t=some (e,n))(ha:QT P t len parts c.h=some (r,h'))
  (hi:parts.map (·.1)=vals.toList.map (·.1)) (hv:RelL c (parts.map (·.2)) (vals.toList.map (·.2)).toArray) :
  ∃y c',(Instr.buildSlice t len vals).run P c.w = .ok y c'.w/\Ev c c'/\St c'/\c'.h=c.h++[.cells e n (parts.map (·.2))]/\Rel c' (.arr c.h.length 0 len) y:=by
 unfold QT at ha
 ·obtain⟨hu,hsz⟩:=X8 he
  simp only[he]at ha
  split at ha
  ·rename_i hh
   obtain⟨h1,h2,h3,h4,h5⟩:=hh
   cases hz:Xi P e with
   |none=>simp[hz]at h5
   |some z =>
    obtain⟨v,hrun,rfl⟩:=Qar hz
    simp only[hz,Option.any_some,Qzk,QAb]at h5
    obtain⟨hrl0,hone0⟩:=QaD (Qbb c v) h5.1
    have hvn:v.cells.size=n:=by rw[hrl0.1];exact h5.2
    have hlen:parts.length=len:=by have:=QzP List.length h1;simpa using this
    have hall:∀x∈parts.map (·.2),x.Qxu=true/\x.cells.length=n:=by
     intro x hx
     simp only[QzD]at hx
     obtain⟨p,hp,rfl⟩:=hx
     simp only[QzB,Qzk,QAb]at h2
     exact h2 p hp
    -- the zero cells
    let zs:Array Value:=(Array.range (len * n)).map (v.cells[· % v.cells.size]!)
    have hzs:zs.size=len * n:=by simp[zs]
    have hzone:∀x∈zs.toList,x.oneCell'=true:=by
     intro x hx
     simp only[zs,QzT,QBg]at hx
     obtain⟨i,_,rfl⟩:=hx
     have hlt:i % v.cells.size<v.cells.size:=Nat.mod_lt _ (by omega)
     rw[getElem!_pos v.cells _ hlt]
     exact hone0 _ (by rw[QzT];exact QAO hlt)
    have hjunk:RelL c (List.replicate (len * n) AV.junk) zs:=by
     refine⟨by simp[hzs],fun j a u ha hu=>?_⟩
     rw[QAE]at ha
     split at ha
     ·cases ha;exact .junk u
     ·cases ha
    have hfill:Qdz (fun i=>some (i * n,n)) (List.replicate (len * n) AV.junk) parts=some (flat (parts.map (·.2))):=by
     have:=Qd8 (n:=n) (parts.map (·.2)) 0 (List.replicate (len * n) AV.junk) hall (by simp[hlen])
     have e:(List.range' 0 (parts.map (·.2)).length).zip (parts.map (·.2))=parts:=by
      rw[QzJ,hlen,<-QAy,<-h1]
      exact Qbv parts
     rw[e]at this
     rw[this]
     simp[hlen]
    obtain⟨cs',hf,hrl,_,hone⟩:=Qbk hi hv hfill hjunk hzone
    have hfl:(flat (parts.map (·.2))).length=len * n:=by
     rw[flat_length (fun x hx=>(hall x hx).2)];simp[hlen]
    have hrun':(Instr.buildSlice t len vals).run P c.w = .ok (.slice (some ⟨c.w.heap.size,0,none⟩) len len) (c.w.alloc (.cells cs' e)):=by
     have h3':¬len * n>2 ^ 24:=by omega
     simp only[Instr.buildSlice,Sem.run_bind,underlying,run_program,Result.andThen_ok,hu,Sem.run_pure,hsz,h3',Qz5]
     by_cases h0:len * n=0
     ·have hz0:zs=(Array.range (len * n)).map ((#[]:Array Value)[· % (#[]:Array Value).size]!):=by
       apply Array.ext
       ·simp[hzs]
       ·intro i h1 h2;simp[hzs,h0]at h1
      rw[Qzh h0]
      simp only[Sem.run_bind,Sem.run_pure,Result.andThen_ok]
      rw[<-hz0,hf]
      rfl
     ·rw[Qzf h0]
      simp only[Sem.run_bind,hrun,Result.andThen_ok,Sem.run_pure]
      rw[hf]
      rfl
    have hmaxl:len<=maxLen:=by
     have:len * 1<=len * n:=Nat.mul_le_mul_left _ h4
     have h24:(2:Nat) ^ 24=16777216:=by decide
     simp only[maxLen];omega
    have hl':(parts.map (·.2)).length=len:=by simp[hlen]
    have hg:=Grows.alloc c.w (.cells cs' e)
    have ho:∀B,some c.w.heap.size=some B->c.w.heap.size<=B:=fun B h=>by cases h;exact Qzl _
    have hev:=Ev.add hst hg (.cells e n (parts.map (·.2))) (some c.w.heap.size) ho
    have hρ:(c.add (c.w.alloc (.cells cs' e)) (.cells e n (parts.map (·.2))) (some c.w.heap.size)).ρ c.h.length=some c.w.heap.size:=by simp[Cx.add]
    have hst':St (c.add (c.w.alloc (.cells cs' e)) (.cells e n (parts.map (·.2))) (some c.w.heap.size)):=by
     refine St.add hst hg _ _ ho ?_
     exact⟨c.w.heap.size,cs',hρ,QO _ _,fun x hx=>(hall x hx).2,fun j a ha=>by
      have hlt:j<cs'.size:=by rw[hrl.1];exact Qf ha
      exact⟨cs'[j],Qzv hlt,hone _ (by rw[QzT];exact QAO hlt),(hrl.2 j a _ ha (Qzv hlt)).ev hst hev⟩⟩
    refine⟨_,c.add (c.w.alloc (.cells cs' e)) (.cells e n (parts.map (·.2))) (some c.w.heap.size),hrun',hev,hst',rfl,?_⟩
    refine Rel.arr _ 0 len _ (by simp[Cx.add]) rfl fun ty s xs hb=>?_
    have hb':some (AB.cells e n (parts.map (·.2)))=some (.cells ty s xs):=by rw[<-hb];simp[Cx.add]
    cases hb'
    exact⟨c.w.heap.size,len,hρ,by rw[QAs],Qzl _,hmaxl,cs',QO _ _,by rw[hrl.1,hfl,Qyv];exact Qzl _⟩
  ·cases ha
theorem Qih{P:Program}{N:Nat}{base:Bs×Fence}{o:Oper}{s:AS}{t:TypeId}{len:Nat}{ps:Array (Nat×Operand)}{e:TypeId}{m:Nat}(hop:o.op = .buildSlice t len ps)(he:Q3 P t=some (e,m)){K:AS->Prop}
  (ha:(QT P t len (ps.toList.map fun p=>(p.1,s.ev p.2)) s.h).isSome=true)
  (H:K (AS.put N {s with h:=s.h++[.cells e m (ps.toList.map fun p=>s.ev p.2)]} o.dst (.arr s.h.length 0 len))) {F:Fence} {n:Nat} {c:Cx} {a:Act} (hF:WF F) (hst:St c) (hr:SR N base c s a)
  {next:Act->World->Prop} {Qx:Exit->Act->World->Prop} (hK:∀s' c' a',K s'->Ev c c'->St c'->SR N base c' s' a'->next a' c'.w):o.wpIn F n P a c.w next Qx:=by
 have hev:∀x,Rel c (s.ev x) (a.eval x):=hr.eval
 refine⟨fun f _=>hF.fn f,?_⟩
 rw[Oper.semAt_eq _ _ _ (fun q=>by rw[hop];intro h;cases h)]
 obtain⟨⟨r,h'⟩,ha⟩:=QAP.1 ha
 rw[<-hr.h]at ha
 obtain⟨h1,h2⟩:=Qdq hev ps
 obtain⟨y,c',hrun,h3,h4,h5,h6⟩:=QhY hst he ha h1 h2
 have hrun':(execOp a.eval o).run P c.w = .ok (.value y) c'.w:=by
  simp only[execOp,hop,Sem.run_bind,hrun,Result.andThen_ok,Sem.run_pure]
 rw[hrun']
 have e1:(ps.toList.map fun p=>(p.1,s.ev p.2)).map (·.2)=ps.toList.map fun p=>s.ev p.2:=by rw[QAu];rfl
 rw[e1]at h5
 have hp:=hr.put hst h3 o.dst h6
 rw[h5,hr.h]at hp
 exact hK _ c' _ H h3 h4 hp
theorem Qpb{P:Program}{N:Nat}{base:Bs×Fence}{o:Oper}{s:AS}{t:TypeId}{len:Nat}{ps:Array (Nat×Operand)}{e:TypeId}{m:Nat}(hop:o.op = .buildSlice t len ps)(he:Q3 P t=some (e,m)){K:AS->Prop}
  (ha:(QT P t len (ps.toList.map fun p=>(p.1,s.ev p.2)) s.h).isSome=true)
  (H:K (AS.put N {s with h:=s.h++[.grow e m (ps.toList.map fun p=>s.ev p.2).length]} o.dst (.sl m (ps.toList.map fun p=>s.ev p.2) (some s.h.length)))) {F:Fence} {n:Nat} {c:Cx} {a:Act} (hF:WF F) (hst:St c) (hr:SR N base c s a)
  {next:Act->World->Prop} {Qx:Exit->Act->World->Prop} (hK:∀s' c' a',K s'->Ev c c'->St c'->SR N base c' s' a'->next a' c'.w):o.wpIn F n P a c.w next Qx:=by
 have hev:∀x,Rel c (s.ev x) (a.eval x):=hr.eval
 refine⟨fun f _=>hF.fn f,?_⟩
 rw[Oper.semAt_eq _ _ _ (fun q=>by rw[hop];intro h;cases h)]
 obtain⟨⟨r,h'⟩,ha⟩:=QAP.1 ha
 rw[<-hr.h]at ha
 obtain⟨h1,h2⟩:=Qdq hev ps
 obtain⟨y,c',hrun,h3,h4,h5,h6⟩:=QhZ hst he ha h1 h2
 have hrun':(execOp a.eval o).run P c.w = .ok (.value y) c'.w:=by
  simp only[execOp,hop,Sem.run_bind,hrun,Result.andThen_ok,Sem.run_pure]
 rw[hrun']
 have e1:(ps.toList.map fun p=>(p.1,s.ev p.2)).map (·.2)=ps.toList.map fun p=>s.ev p.2:=by rw[QAu];rfl
 rw[e1]at h5 h6
 have hp:=hr.put hst h3 o.dst h6
 rw[h5,hr.h]at hp
 exact hK _ c' _ H h3 h4 hp
def tokA(c:Nat)(P:Program)(ev:Operand->AV)(h:AH)(op:Op):Option (AV×AH):=match op with
 | .buildSlice t len ps=>(match Q3 P t with
  |some (e,n)=>if (QT P t len (ps.toList.map fun p=>(p.1,ev p.2)) h).isSome=true then(if c=5 then some (.sl n (ps.toList.map fun p=>ev p.2) (some h.length),h++[.grow e n (ps.toList.map fun p=>ev p.2).length])else some (.arr h.length 0 len,h++[.cells e n (ps.toList.map fun p=>ev p.2)]))else none
  |none=>none)
 |_=>none
theorem QrC{c:Nat}{P:Program}{ev:Operand->AV}{h h':AH}{op:Op}{r:AV}(e:tokA c P ev h op=some (r,h')):Keep h h':=by
 unfold tokA at e
 split at e
 ·split at e
  ·split at e
   ·split at e
    ·cases e;exact Keep.app _ _
    ·cases e;exact Keep.app _ _
   ·cases e
  ·cases e
 ·cases e
theorem Qo9{c:Nat}{P:Program}{h:AH}{ev ev':Operand->AV}{op:Op}(he:∀x∈op.operands,ev x=ev' x):tokA c P ev h op=tokA c P ev' h op:=by
 cases op with
 |buildSlice t len ps =>
  have h1:∀p∈ps.toList,ev p.2=ev' p.2:=fun p hp=>he p.2 (by simp only[Op.operands,List.mem_toArray,QzD];exact⟨p,hp,rfl⟩)
  have e1:(ps.toList.map fun p=>(p.1,ev p.2))=ps.toList.map fun p=>(p.1,ev' p.2):=QAh fun p hp=>by rw[h1 p hp]
  have e2:(ps.toList.map fun p=>ev p.2)=ps.toList.map fun p=>ev' p.2:=QAh fun p hp=>h1 p hp
  simp only[tokA,e1,e2]
 |_=>rfl
theorem Qi0{k:Nat}{P:Program}{N:Nat}{base:Bs×Fence}{o:Oper}{s:AS}{r:AV}{h':AH}(ha:tokA k P s.ev s.h o.op=some (r,h')){K:AS->Prop}(H:K (AS.put N {s with h:=h'} o.dst r)){F:Fence}{n:Nat}{c:Cx}{a:Act}(hF:WF F)(hst:St c)(hr:SR N base c s a)
  {next:Act->World->Prop} {Qx:Exit->Act->World->Prop} (hK:∀s' c' a',K s'->Ev c c'->St c'->SR N base c' s' a'->next a' c'.w):o.wpIn F n P a c.w next Qx:=by
 unfold tokA at ha
 split at ha
 ·rename_i t len ps hop
  split at ha
  ·rename_i e m he
   split at ha
   ·rename_i hs
    split at ha
    ·cases ha
     exact Qpb hop he hs H hF hst hr hK
    ·cases ha
     exact Qih hop he hs H hF hst hr hK
   ·cases ha
  ·cases ha
 ·cases ha
end Go.Proofs.YtenheconhibonaaGreatDoor.Ab
namespace Go.Proofs.YtenheconhibonaaGreatDoor.Ab
inductive Anc (ops:Array Oper):Nat->Nat->Prop
 |edge (j:Nat) (o:Oper) (e:Edge) (ho:ops[j]? = some o) (he:e∈o.after) (hb:Region.binds .any e=true):Anc ops e.on j
 |trans {i j k:Nat}:Anc ops i j->Anc ops j k->Anc ops i k
def Qtj(acc:List Nat)(o:Oper):Nat:=o.after.toList.foldl (fun s e=>if Region.binds .any e then s ||| 2 ^ e.on ||| acc.getD e.on 0 else s) 0
def masks:List Oper->List Nat->List Nat
 |[],acc=>acc
 |o::l,acc=>masks l (acc++[Qtj acc o])
theorem QmB{ops:Array Oper}{acc:List Nat}{o:Oper}{j:Nat}(ho:ops[j]? = some o)(hacc:∀(k i:Nat),(acc.getD k 0).testBit i=true->Anc ops i k){i:Nat}(h:(Qtj acc o).testBit i=true):Anc ops i j:=by
 have go:∀(l:List Edge) (s:Nat),(∀e∈l,e∈o.after)->(∀i,s.testBit i=true->Anc ops i j)->∀i,(l.foldl (fun s e=>if Region.binds .any e then s ||| 2 ^ e.on ||| acc.getD e.on 0 else s) s).testBit i=true->Anc ops i j:=by
  intro l
  induction l with
  |nil=>intro s _ hs i hi;exact hs i hi
  |cons e l ih =>
   intro s hl hs i hi
   refine ih _ (fun e he=>hl e (by simp[he])) ?_ i hi
   intro i hi
   dsimp only at hi
   split at hi
   ·rename_i hb
    have hedge:=Anc.edge j o e ho (hl e (by simp)) hb
    simp only[Nat.testBit_or,QzW]at hi
    rcases hi with(hi|hi)|hi
    ·exact hs i hi
    ·rw[Nat.testBit_two_pow]at hi
     have:e.on=i:=by simpa using hi
     exact this▸hedge
    ·exact(hacc _ _ hi).trans hedge
   ·exact hs i hi
 exact go _ 0 (fun e he=>QAw.2 he) (fun i hi=>by simp at hi) i h
theorem Qb6{ops:Array Oper}:∀(l:List Oper) (acc:List Nat),(∀(j:Nat) o,l[j]? = some o->ops[acc.length+j]? = some o)->(∀(k i:Nat),(acc.getD k 0).testBit i=true->Anc ops i k) ->
  ∀(k i:Nat),((masks l acc).getD k 0).testBit i=true->Anc ops i k
 |[],acc,_,h=>h
 |o::l,acc,hl,h=>by
  refine Qb6 l _ (fun j o' hj=>?_) ?_
  ·have:=hl (j+1) o' (by simpa using hj)
   simpa [QAA,QBi 1 j]using this
  ·intro k i hk
   simp only[QzQ]at hk
   by_cases hlt:k<acc.length
   ·rw[Qzc hlt,<-QzQ]at hk;exact h k i hk
   ·by_cases heq:k=acc.length
    ·subst heq
     rw[Qzi (Qzl _)]at hk
     simp only[Qz0,Qyj,QA6]at hk
     exact QmB (by simpa using hl 0 o (by simp)) h hk
    ·rw[QzR (by simp;omega)]at hk
     simp at hk
def Down(ops:Array Oper)(S:Nat->Bool):Prop:=∀(j:Nat) o,ops[j]? = some o->S j=true->∀e∈o.after,Region.binds .any e=true->S e.on=true
theorem Down.anc{ops:Array Oper}{S:Nat->Bool}(h:Down ops S){i j:Nat}(ha:Anc ops i j):S j=true->S i=true:=by
 induction ha with
 |edge j o e ho he hb=>exact fun hj=>h j o ho hj e he hb
 |trans _ _ ih1 ih2=>exact fun hk=>ih1 (ih2 hk)
def tmpsOf(l:List Operand):List Nat:=l.filterMap fun | .tmp t=>some t|_=>none
def readsOf(ops:Array Oper)(o:Oper):List Nat:=tmpsOf o.op.operands.toList++match o.guard with
 |some (j,_)=>((ops[j]?).bind (·.dst)).toList
 |none=>[]
def clash(ops:Array Oper)(a b:Oper)(ca cb:Nat):Bool :=
 (match a.dst with|some d=>(readsOf ops b).contains d||b.dst==some d|none=>false)||(match b.dst with|some d=>(readsOf ops a).contains d|none=>false) ||
 (decide (2<=ca)&&cb != 1)||(ca != 1&&decide (2<=cb)&&!((Qd9 b.op&&cb != 4)||cb==3))
def Qhz(ops:Array Oper)(ms:List Nat):List (Nat×Nat)->Bool
 |[]=>true
 |(i,ci)::l=>(l.all fun p=>match ops[i]?,ops[p.1]? with
   |some a,some b=>!clash ops a b ci p.2||(ms.getD p.1 0).testBit i
   |_,_=>false)&&Qhz ops ms l
def topo(ops:Array Oper):List Nat->List (Nat×Nat)->Bool
 |_,[]=>true
 |pre,(i,_)::l=>(match ops[i]? with
  |some o=>o.after.toList.all fun e=>!Region.binds .any e||pre.contains e.on
  |none=>false)&&topo ops (i::pre) l
def QdK(o:Oper):Bool:=match o.op with
 | .call c=>match c.callee with | .value _=>true|_=>false
 |_=>false
def kindOk(o:Oper)(c:Nat):Bool :=
 QdK o||(QcU o.op&&decide (c<2))||((c==2||c==4||c==5||c==6)&&(Qd9 o.op||Qkn o.op))
def QoH:List Nat->Bool
 |[]=>true
 |x::l=>!l.contains x&&QoH l
def QtG(ops:Array Oper)(π:List (Nat×Nat)):Bool :=
 π.length==ops.size&&Qhz ops (masks ops.toList []) π&&topo ops [] π&&QoH (π.map (·.1))&&((List.range ops.size).all fun i=>(π.map (·.1)).contains i) &&
 π.all fun p=>match ops[p.1]? with|some o=>kindOk o p.2|none=>false
def StepA(P:Program)(ops:Array Oper)(tm:Nat->AV)(h:AH)(c:Nat)(o:Oper)(r:AV)(h':AH):Prop :=
 match Qn ops tm o with
 |some false=>r = .v undef/\h'=h
 |some true =>
  match o.op with
  | .call ⟨.value f,args,tys⟩=>if 2<=c then FunW P (AS.ev ⟨tm,[]⟩ f) (args.toList.map (AS.ev ⟨tm,[]⟩)) h (fun out h''=>out = .ret r/\h''=h')/\(c=3->Keep h h')else(∀hx,(c=0->Keep h hx)->FunW P (AS.ev ⟨tm,[]⟩ f) (args.toList.map (AS.ev ⟨tm,[]⟩)) hx fun out h''=>out = .ret r/\h''=hx)/\h'=h
  |op=>if c=1 then(∃h1,aop P (AS.ev ⟨tm,[]⟩) o.type [] op=some (r,h1))/\h'=h else aop P (AS.ev ⟨tm,[]⟩) o.type h op=some (r,h')\/(c=4/\aop P (AS.ev ⟨tm,[]⟩) o.type h op=none/\aopR P (AS.ev ⟨tm,[]⟩) h op=some (r,h'))\/(5<=c/\tokA c P (AS.ev ⟨tm,[]⟩) h op=some (r,h'))
 |none=>False
theorem Qn2{P:Program}{h:AH}{ev ev':Operand->AV}{op:Op}(he:∀x∈op.operands,ev x=ev' x):aopR P ev h op=aopR P ev' h op:=by
 cases op with
 |call c =>
  obtain⟨cal,args,tys⟩:=c
  cases cal with
  |builtin b =>
   have htwo:∀x y,args.toList=[x,y]->ev x=ev' x/\ev y=ev' y:=fun x y hx=>⟨he x (by simp[Op.operands,Call.operands,QAw,hx]),he y (by simp[Op.operands,Call.operands,QAw,hx])⟩
   cases b with
   |append =>
    simp only[aopR]
    split
    ·rename_i h1 h2;rw[(htwo _ _ h1).1,(htwo _ _ h1).2]
    ·rfl
   |_=>rfl
  |_=>rfl
 |_=>rfl
theorem Qps{P:Program}{h:AH}{ev:Operand->AV}{op:Op}{x:AV×AH}(e:aopR P ev h op=some x):∃args tys,op = .call ⟨.builtin .append,args,tys⟩:=by
 cases op with
 |call c =>
  obtain⟨cal,args,tys⟩:=c
  cases cal with
  |builtin b =>
   cases b with
   |append=>exact⟨args,tys,rfl⟩
   |_=>simp[aopR]at e
  |_=>simp[aopR]at e
 |_=>simp[aopR]at e
theorem Qcz(tm:Nat->AV)(h h':AH)(x:Operand):AS.ev ⟨tm,h⟩ x=AS.ev ⟨tm,h'⟩ x:=by cases x <;> rfl
theorem Qec{ops:Array Oper}{tm tm':Nat->AV}{o:Oper}(h:∀t∈readsOf ops o,tm t=tm' t):Qn ops tm o=Qn ops tm' o:=by
 unfold Qn
 cases hg:o.guard with
 |none=>rfl
 |some jw =>
  obtain⟨j,want⟩:=jw
  simp only
  cases hd:(ops[j]?).bind (·.dst)with
  |none=>rfl
  |some d =>
   have:tm d=tm' d:=h d (by unfold readsOf;rw[hg];simp[hd])
   simp only[this]
theorem Qek{ops:Array Oper}{tm tm':Nat->AV}{o:Oper}(h:∀t∈readsOf ops o,tm t=tm' t):∀x∈o.op.operands,AS.ev ⟨tm,[]⟩ x=AS.ev ⟨tm',[]⟩ x:=by
 intro x hx
 cases x with
 |tmp t=>exact h t (by unfold readsOf tmpsOf;exact QAk _ (List.mem_filterMap.2 ⟨.tmp t,QAw.1 hx,rfl⟩))
 |_=>rfl
theorem QdW{o:Oper}(h:QdK o=true):∃f args tys,o.op = .call ⟨.value f,args,tys⟩:=by
 unfold QdK at h
 cases ho:o.op with
 |call c =>
  obtain⟨cal,args,tys⟩:=c
  cases cal with
  |value f=>exact⟨f,args,tys,rfl⟩
  |_=>simp[ho]at h
 |_=>simp[ho]at h
theorem StepA.turn{P:Program}{ops:Array Oper}{tm tm':Nat->AV}{h h2 h':AH}{c:Nat}{o:Oper}{r:AV}(hs:StepA P ops tm h c o r h')(hk:kindOk o c=true)(ht:∀t∈readsOf ops o,tm' t=tm t)
  (hh:(2<=c/\h2=h)\/(c<2/\(c=1\/Keep h h2))) (N:Nat) :
  (Qn ops tm' o=some false/\r = .v undef/\(if 2<=c then h' else h2)=h2) \/
  (Qn ops tm' o=some true/\((∀(K:AS->Prop) (E:AV->AS->Prop),K (AS.put N ⟨tm',if 2<=c then h' else h2⟩ o.dst r)->OpW P N o ⟨tm',h2⟩ K E)\/tokA c P (AS.ev ⟨tm',h2⟩) h2 o.op=some (r,if 2<=c then h' else h2))):=by
 unfold StepA at hs
 rw[Qec ht]
 split at hs
 ·rename_i hw
  obtain⟨rfl,rfl⟩:=hs
  refine .inl ⟨hw,rfl,?_⟩
  rcases hh with⟨_,rfl⟩|⟨hc,_⟩
  ·simp
  ·rw[Qzf (by omega)]
 ·rename_i hw
  refine .inr ⟨hw,?_⟩
  split at hs
  ·rename_i f args tys hop
   refine .inl fun K E hK=>?_
   unfold OpW
   simp only[hop]
   have hev:=Qek ht
   rw[hop]at hev
   have h1:AS.ev ⟨tm',h2⟩ f=AS.ev ⟨tm,[]⟩ f:=(Qcz _ _ _ _).trans (hev f (by simp[Op.operands,Call.operands]))
   have h2':args.toList.map (AS.ev ⟨tm',h2⟩)=args.toList.map (AS.ev ⟨tm,[]⟩):=QAh fun x hx=>(Qcz _ _ _ _).trans (hev x (by simp[Op.operands,Call.operands,QAw,hx]))
   rw[h1,h2']
   by_cases hc:2<=c
   ·rw[Qzh hc]at hs hK
    rcases hh with⟨_,rfl⟩|⟨hc',_⟩
    ·exact hs.1.mono fun out h'' ⟨e1,e2⟩=>by subst e1;subst e2;exact hK
    ·omega
   ·rw[Qzf hc]at hs hK
    refine(hs.1 h2 fun h0=>?_).mono fun out h'' ⟨e1,e2⟩=>by subst e1;subst e2;exact hK
    rcases hh with⟨hc',_⟩|⟨_,h1|h1⟩
    ·omega
    ·omega
    ·exact h1
  ·rename_i op hnc
   have hcall:QdK o=false:=by
    cases hc:QdK o with
    |false=>rfl
    |true=>obtain⟨f,args,tys,e⟩:=QdW hc;exact(hnc _ _ _ e).elim
   simp only[kindOk,hcall,QAM,QzW,Qzk]at hk
   have hcongr:∀hx,aop P (AS.ev ⟨tm',h2⟩) o.type hx o.op=aop P (AS.ev ⟨tm,[]⟩) o.type hx o.op:=fun hx=>by
    refine Qpt (fun x hx=>(Qcz _ _ _ _).trans (Qek ht x hx)) ?_
    rcases hk with⟨h1,_⟩|⟨_,h1|h1⟩
    ·simp[h1]
    ·simp[h1]
    ·simp[h1]
   by_cases hT:5<=c/\tokA c P (AS.ev ⟨tm,[]⟩) h o.op=some (r,h')
   ·obtain⟨h5,hT⟩:=hT
    rcases hh with⟨_,rfl⟩|⟨hc',_⟩
    ·refine .inr ?_
     rw[Qzh (by omega)]
     exact(Qo9 (fun x hx=>(Qcz _ _ _ _).trans (Qek ht x hx))).trans hT
    ·omega
   refine .inl fun K E hK=>?_
   by_cases hR:c=4/\aop P (AS.ev ⟨tm,[]⟩) o.type h o.op=none/\aopR P (AS.ev ⟨tm,[]⟩) h o.op=some (r,h')
   ·obtain⟨rfl,hn,hR⟩:=hR
    rcases hh with⟨_,rfl⟩|⟨hc',_⟩
    ·obtain⟨args,tys,hop⟩:=Qps hR
     have hR':aopR P (AS.ev ⟨tm',h2⟩) h2 o.op=some (r,h'):=(Qn2 (fun x hx=>(Qcz _ _ _ _).trans (Qek ht x hx))).trans hR
     have hn':aop P (AS.ev ⟨tm',h2⟩) o.type h2 o.op=none:=(hcongr h2).trans hn
     rw[Qzh (by omega)]at hK
     unfold OpW
     rw[hop]at hR' hn' ⊢
     simp only[hR',hn']
     exact hK
    ·omega
   replace hs:if c=1 then(∃h1,aop P (AS.ev ⟨tm,[]⟩) o.type [] o.op=some (r,h1))/\h'=h else aop P (AS.ev ⟨tm,[]⟩) o.type h o.op=some (r,h'):=by
    by_cases hc1:c=1
    ·rw[Qzh hc1]at hs ⊢;exact hs
    ·rw[Qzf hc1]at hs ⊢
     exact hs.resolve_right fun q=>q.elim hR hT
   -- what it is over the heap at hand
   have key:aop P (AS.ev ⟨tm',h2⟩) o.type h2 o.op=some (r,if 2<=c then h' else h2):=by
    rw[hcongr]
    rcases hh with⟨hc,rfl⟩|⟨hc,hh⟩
    ·rw[Qzf (by omega)]at hs
     rw[Qzh hc];exact hs
    ·have hl:QcU o.op=true:=by
      rcases hk with⟨h1,_⟩|⟨h1,_⟩
      ·exact h1
      ·simp at h1;omega
     rw[Qzf (by omega)]
     by_cases hc1:c=1
     ·rw[Qzh hc1]at hs
      obtain⟨⟨h1,hs⟩,_⟩:=hs
      exact(Qi9 (Keep.nil h2) hl hs).2
     ·rw[Qzf hc1]at hs
      rcases hh with hh|hh
      ·exact(hc1 hh).elim
      ·exact(Qi9 hh hl hs).2
   unfold OpW
   split
   ·rename_i t ps hop
    rw[hop]at key
    simp only[aop]at key
    have key0:=key
    unfold QT at key
    cases he:Q3 P t with
    |none=>simp[he]at key
    |some en =>
     obtain⟨e,n⟩:=en
     simp only[he,QAj]at key
     split at key
     ·rename_i hcond
      have hps:ps.toList=[]:=by
       have:=QzP List.length hcond.1
       simpa using this
      simp only[Qyp,QAJ]at key
      obtain⟨e1,e2⟩:=key
      simp only[hps,QyC]at key0 ⊢
      rw[<-e2]at hK key0
      rw[<-e1]at hK key0
      exact⟨key0,.inl hK⟩
     ·cases key
   ·rename_i q hop
    obtain⟨cal,args,tys⟩:=q
    cases cal with
    |value f=>simp[QdK,hop]at hcall
    |_=>simp only[key];exact hK
   ·rename_i x hop
    rw[hop]at key;simp[aop]at key
   ·rw[key];exact hK
 ·exact hs.elim
structure Tr where
 i:Nat
 c:Nat
 o:Oper
 r:AV
 h':AH
def putT(N:Nat)(tm:Nat->AV)(d:Option Tmp)(r:AV):Nat->AV:=match d with
 |some d=>if d<N then upd tm d r else tm
 |none=>tm
theorem put_eq(N:Nat)(tm:Nat->AV)(h:AH)(d:Option Tmp)(r:AV):AS.put N ⟨tm,h⟩ d r=⟨putT N tm d r,h⟩:=by
 cases d with
 |none=>rfl
 |some d=>simp only[AS.put,putT];split <;> rfl
theorem Qff{N:Nat}{tm:Nat->AV}{d:Option Tmp}{r:AV}{x:Nat}(h:d≠some x):putT N tm d r x=tm x:=by
 cases d with
 |none=>rfl
 |some d =>
  simp only[putT]
  split
  ·rw[upd_ne];intro e;exact h (by rw[e])
  ·rfl
theorem Qfe{N:Nat}{tm tm':Nat->AV}{d:Option Tmp}{r:AV}{x:Nat}(h:d≠some x->tm x=tm' x)(h':tm x=tm' x\/x<N):putT N tm d r x=putT N tm' d r x:=by
 cases d with
 |none=>exact h (by simp)
 |some d =>
  simp only[putT]
  by_cases hx:x=d
  ·subst hx
   split
   ·simp
   ·rename_i hn
    rcases h' with h'|h'
    ·exact h'
    ·exact(hn h').elim
  ·have:=h (by intro e;cases e;exact hx rfl)
   split
   ·rw[upd_ne _ _ hx,upd_ne _ _ hx];exact this
   ·exact this
def tmS(N:Nat)(S:Nat->Bool):List Tr->(Nat->AV)->(Nat->AV)
 |[],f=>f
 |t::l,f=>tmS N S l (if S t.i then putT N f t.o.dst t.r else f)
def hS(S:Nat->Bool):List Tr->AH->AH
 |[],h=>h
 |t::l,h=>hS S l (if S t.i&&decide (2<=t.c)then t.h' else h)
theorem Qbu(N:Nat)(S:Nat->Bool):∀(l m:List Tr) (f:Nat->AV),tmS N S (l++m) f=tmS N S m (tmS N S l f)
 |[],m,f=>rfl
 |t::l,m,f=>Qbu N S l m _
theorem Qb0(S:Nat->Bool):∀(l m:List Tr) (f:AH),hS S (l++m) f=hS S m (hS S l f)
 |[],m,f=>rfl
 |t::l,m,f=>Qb0 S l m _
theorem Z9{N:Nat}{S:Nat->Bool}{x:Nat}:∀{l:List Tr} {f:Nat->AV},(∀t∈l,S t.i=true->t.o.dst≠some x)->tmS N S l f x=f x
 |[],f,h=>rfl
 |t::l,f,h=>by
  simp only[tmS]
  rw[Z9 (fun t ht=>h t (by simp[ht]))]
  split
  ·rename_i hs;exact Qff (h t (by simp) hs)
  ·rfl
theorem QaT{N:Nat}{S S':Nat->Bool}{x:Nat}:∀{l:List Tr} {f f':Nat->AV},f x=f' x->(∀t∈l,t.o.dst=some x->S t.i=S' t.i)->tmS N S l f x=tmS N S' l f' x
 |[],f,f',hf,h=>hf
 |t::l,f,f',hf,h=>by
  simp only[tmS]
  refine QaT ?_ (fun t ht=>h t (by simp[ht]))
  by_cases hd:t.o.dst=some x
  ·rw[h t (by simp) hd]
   split
   ·exact Qfe (fun _=>hf) (.inl hf)
   ·exact hf
  ·have e1:∀(b:Bool) (g:Nat->AV),(if b=true then putT N g t.o.dst t.r else g) x=g x:=fun b g=>by
    split
    ·exact Qff hd
    ·rfl
   rw[e1,e1];exact hf
theorem QbK{S S':Nat->Bool}:∀{l:List Tr} {f:AH},(∀t∈l,2<=t.c->S t.i=S' t.i)->hS S l f=hS S' l f
 |[],f,h=>rfl
 |t::l,f,h=>by
  simp only[hS]
  by_cases hc:2<=t.c
  ·rw[h t (by simp) hc];exact QbK fun t ht=>h t (by simp[ht])
  ·have:(decide (2<=t.c))=false:=by simpa using hc
   rw[this,QAX,QAX];exact QbK fun t ht=>h t (by simp[ht])
theorem Qbp{S:Nat->Bool}:∀{l:List Tr} {f:AH},(∀t∈l,2<=t.c->S t.i=false)->hS S l f=f
 |[],f,h=>rfl
 |t::l,f,h=>by
  simp only[hS]
  have:(S t.i&&decide (2<=t.c))=false:=by
   by_cases hc:2<=t.c
   ·rw[h t (by simp) hc];rfl
   ·have:(decide (2<=t.c))=false:=by simpa using hc
    rw[this,QAX]
  rw[this]
  exact Qbp fun t ht=>h t (by simp[ht])
inductive Runs (P:Program) (N:Nat) (ops:Array Oper):List Tr->(Nat->AV)->AH->Prop
 |nil (tm:Nat->AV) (h:AH):Runs P N ops [] tm h
 |cons (t:Tr) (l:List Tr) (tm:Nat->AV) (h:AH) (ho:ops[t.i]? = some t.o) (hk:kindOk t.o t.c=true) (hs:StepA P ops tm h t.c t.o t.r t.h') (hl:Runs P N ops l (putT N tm t.o.dst t.r) (if 2<=t.c then t.h' else h)):Runs P N ops (t::l) tm h
theorem Runs.split{P:Program}{N:Nat}{ops:Array Oper}:∀{l m:List Tr} {tm:Nat->AV} {h:AH},Runs P N ops (l++m) tm h->Runs P N ops m (tmS N (fun _=>true) l tm) (hS (fun _=>true) l h)
 |[],m,tm,h,H=>H
 |t::l,m,tm,h,H=>by
  cases H with
  |cons t l tm h ho hk hs hl =>
   have:=Runs.split hl
   simp only[tmS,hS,QAj,Qy3,Qzu]
   exact this
theorem Runs.keep{P:Program}{N:Nat}{ops:Array Oper}{S:Nat->Bool}:∀{l:List Tr} {tm:Nat->AV} {h:AH},Runs P N ops l tm h->(∀t∈l,2<=t.c->S t.i=true->((Qd9 t.o.op&&t.c != 4)||t.c==3)=true) ->
  l.Pairwise (fun a b=>2<=a.c->2<=b.c->S b.i=true->S a.i=true)->Keep h (hS S l h)
 |[],tm,h,H,_,_=>Keep.refl h
 |t::l,tm,h,H,ha,hp=>by
  cases H with
  |cons t l tm h ho hk hs hl =>
   simp only[hS]
   obtain⟨hp1,hp2⟩:=QAZ.1 hp
   by_cases hc:2<=t.c
   ·cases hS':S t.i with
    |true =>
     simp only[hc,QyP,QyF,QAj]
     rw[Qzh hc]at hl
     refine Keep.trans ?_ (Runs.keep hl (fun t ht=>ha t (by simp[ht])) hp2)
     have hadd:=ha t (by simp) hc hS'
     unfold StepA at hs
     split at hs
     ·rw[hs.2];exact Keep.refl _
     ·split at hs
      ·rename_i f args tys hop
       rw[Qzh hc]at hs
       refine hs.2 ?_
       rw[hop]at hadd
       simpa [Qd9]using hadd
      ·rename_i op hnc
       rw[Qzf (by omega)]at hs
       have hcall:QdK t.o=false:=by
        cases hc:QdK t.o with
        |false=>rfl
        |true=>obtain⟨f,args,tys,e⟩:=QdW hc;exact(hnc _ _ _ e).elim
       simp only[kindOk,hcall,QAM,QzW,Qzk,Qzu,QAb]at hk
       have h3:t.c≠3:=by
        rcases hk with⟨_,h⟩|⟨h,_⟩
        ·omega
        ·omega
       simp only[QzW,Qzk,bne_iff_ne,ne_eq,QAb]at hadd
       rcases hadd with⟨hadd,h4⟩|hadd
       ·rcases hs with hs|⟨hs,_⟩|⟨_,hs⟩
        ·exact Qr0 hadd hs
        ·exact(h4 hs).elim
        ·exact QrC hs
       ·exact(h3 hadd).elim
     ·exact hs.elim
    |false =>
     simp only[QAv,Qyn,Qz5]
     rw[Qbp (fun t' ht' hc'=>?_)]
     ·exact Keep.refl _
     ·cases hb:S t'.i with
      |false=>rfl
      |true=>have:=hp1 t' ht' hc hc' hb;rw[hS']at this;cases this
   ·have:(decide (2<=t.c))=false:=by simpa using hc
    rw[Qzf hc]at hl
    rw[this,QAX]
    exact Runs.keep hl (fun t ht=>ha t (by simp[ht])) hp2
def Qty(P:Program)(N:Nat)(fv:AV)(args:List AV)(s:AS)(d:Option Tmp)(K:AS->Prop):Prop :=
 ∃r,(∀hx,FunW P fv args hx fun out h''=>out = .ret r/\h''=hx)/\K (AS.put N s d r)
def QtA(P:Program)(N:Nat)(fv:AV)(args:List AV)(s:AS)(d:Option Tmp)(K:AS->Prop):Prop :=
 ∃r,(∀hx,Keep s.h hx->FunW P fv args hx fun out h''=>out = .ret r/\h''=hx)/\K (AS.put N s d r)
def Qtz(P:Program)(N c:Nat)(fv:AV)(args:List AV)(s:AS)(d:Option Tmp)(K:AS->Prop):Prop :=
 ∃r h',FunW P fv args s.h (fun out h''=>out = .ret r/\h''=h')/\(c=3->Keep s.h h')/\K (AS.put N {s with h:=h'} d r)
def AnyO(P:Program)(N:Nat)(ops:Array Oper)(c:Nat)(o:Oper)(s:AS)(K:AS->Prop):Prop :=
 match Qn ops s.tm o with
 |some false=>K (AS.put N s o.dst (.v undef))
 |some true =>
  match o.op with
  | .call ⟨.value f,args,tys⟩=>if 2<=c then Qtz P N c (s.ev f) (args.toList.map s.ev) s o.dst K else if c=0 then QtA P N (s.ev f) (args.toList.map s.ev) s o.dst K else Qty P N (s.ev f) (args.toList.map s.ev) s o.dst K
  |op=>if 5<=c then(match tokA c P s.ev s.h op with
    |some (r,h')=>K (AS.put N {s with h:=h'} o.dst r)
    |none=>False)else match aop P s.ev o.type (if c=1 then[]else s.h) op with
   |some (r,h')=>K (AS.put N {s with h:=if c=1 then s.h else h'} o.dst r)
   |none=>c=4/\match aopR P s.ev s.h op with
    |some (r,h')=>K (AS.put N {s with h:=h'} o.dst r)
    |none=>False
 |none=>False
def AnyW(P:Program)(N:Nat)(ops:Array Oper):List (Nat×Nat)->(AS->Prop)->AS->Prop
 |[],K,s=>K s
 |(i,c)::l,K,s=>match ops[i]? with
  |some o=>AnyO P N ops c o s (AnyW P N ops l K)
  |none=>False
theorem QcB{P:Program}{N:Nat}{ops:Array Oper}{K:AS->Prop}:∀{π:List (Nat×Nat)} {tm:Nat->AV} {h:AH},AnyW P N ops π K ⟨tm,h⟩->(π.all fun p=>match ops[p.1]? with|some o=>kindOk o p.2|none=>false)=true ->
  ∃tr:List Tr,tr.map (fun t=>(t.i,t.c))=π/\Runs P N ops tr tm h/\K ⟨tmS N (fun _=>true) tr tm,hS (fun _=>true) tr h⟩
 |[],tm,h,H,_=>⟨[],rfl,.nil _ _,H⟩
 |(i,c)::π,tm,h,H,hk=>by
  simp only[QyD,Qzk]at hk
  obtain⟨hk1,hk2⟩:=hk
  simp only[AnyW]at H
  cases ho:ops[i]? with
  |none=>simp[ho]at H
  |some o =>
   simp only[ho]at H hk1
   -- a step, and the rest
   have fin:∀(r:AV) (h':AH),StepA P ops tm h c o r h'->AnyW P N ops π K ⟨putT N tm o.dst r,if 2<=c then h' else h⟩ ->
     ∃tr:List Tr,tr.map (fun t=>(t.i,t.c))=(i,c)::π/\Runs P N ops tr tm h/\K ⟨tmS N (fun _=>true) tr tm,hS (fun _=>true) tr h⟩:=by
    intro r h' hs hw
    obtain⟨tr,h1,h2,h3⟩:=QcB hw hk2
    refine⟨⟨i,c,o,r,h'⟩::tr,by simp[h1],.cons ⟨i,c,o,r,h'⟩ tr tm h ho hk1 hs h2,?_⟩
    simp only[tmS,hS,QAj,Qy3,Qzu]
    exact h3
   unfold AnyO at H
   simp only at H
   split at H
   ·rename_i hw
    rw[put_eq]at H
    refine fin (.v undef) h (by unfold StepA;simp only[hw,QyR]) ?_
    simpa using H
   ·rename_i hw
    split at H
    ·rename_i f args tys hop
     have h1:AS.ev ⟨tm,[]⟩ f=AS.ev ⟨tm,h⟩ f:=Qcz _ _ _ _
     have h2:args.toList.map (AS.ev ⟨tm,[]⟩)=args.toList.map (AS.ev ⟨tm,h⟩):=QAh fun x _=>Qcz _ _ _ _
     by_cases hc:2<=c
     ·rw[Qzh hc]at H
      obtain⟨r,h',hf,hkp,H⟩:=H
      rw[put_eq]at H
      refine fin r h' ?_ (by rw[Qzh hc];exact H)
      unfold StepA
      simp only[hw,hop,Qzh hc]
      rw[h1,h2]
      exact⟨hf,hkp⟩
     ·rw[Qzf hc]at H
      by_cases h0:c=0
      ·rw[Qzh h0]at H
       obtain⟨r,hf,H⟩:=H
       rw[put_eq]at H
       refine fin r h ?_ (by simpa using H)
       unfold StepA
       simp only[hw,hop,Qzf hc,QyT]
       intro hx hkp
       rw[h1,h2]
       exact hf hx (hkp h0)
      ·rw[Qzf h0]at H
       obtain⟨r,hf,H⟩:=H
       rw[put_eq]at H
       refine fin r h ?_ (by simpa using H)
       unfold StepA
       simp only[hw,hop,Qzf hc,QyT]
       intro hx _
       rw[h1,h2]
       exact hf hx
    ·rename_i op hnc
     have hev:AS.ev ⟨tm,h⟩=AS.ev ⟨tm,[]⟩:=funext fun x=>Qcz _ _ _ _
     have hstep:∀r h',(if c=1 then(∃h1,aop P (AS.ev ⟨tm,[]⟩) o.type [] o.op=some (r,h1))/\h'=h else aop P (AS.ev ⟨tm,[]⟩) o.type h o.op=some (r,h')\/(c=4/\aop P (AS.ev ⟨tm,[]⟩) o.type h o.op=none/\aopR P (AS.ev ⟨tm,[]⟩) h o.op=some (r,h'))\/(5<=c/\tokA c P (AS.ev ⟨tm,[]⟩) h o.op=some (r,h')))->StepA P ops tm h c o r h':=by
      intro r h' hh
      unfold StepA
      rw[hw]
      cases hop:o.op with
      |call q =>
       obtain⟨cal,args,tys⟩:=q
       cases cal with
       |value f=>exact(hnc _ _ _ hop).elim
       |_=>rw[hop]at hh;exact hh
      |_=>rw[hop]at hh;exact hh
     by_cases hc5:5<=c
     ·rw[Qzh hc5]at H
      split at H
      ·rename_i r h' hT
       rw[put_eq]at H
       rw[hev]at hT
       refine fin r h' (hstep r h' (by rw[Qzf (by omega)];exact .inr (.inr ⟨hc5,hT⟩))) ?_
       rw[Qzh (by omega)];exact H
      ·exact H.elim
     rw[Qzf hc5]at H
     split at H
     ·rename_i r h' ha
      rw[put_eq]at H
      rw[hev]at ha
      by_cases hc1:c=1
      ·subst hc1
       simp only[QAj]at ha
       refine fin r h (hstep r h ?_) ?_
       ·rw[Qzh rfl];exact⟨⟨_,ha⟩,rfl⟩
       ·simpa using H
      ·simp only[Qzf hc1]at ha H
       refine fin r h' (hstep r h' (by rw[Qzf hc1];exact .inl ha)) ?_
       by_cases hc2:2<=c
       ·rw[Qzh hc2];exact H
       ·rw[Qzf hc2]
        have hl:QcU o.op=true:=by
         have hcall:QdK o=false:=by
          cases hc:QdK o with
          |false=>rfl
          |true=>obtain⟨f,args,tys,e⟩:=QdW hc;exact(hnc _ _ _ e).elim
         simp only[kindOk,hcall,QAM,QzW,Qzk]at hk1
         rcases hk1 with⟨h1,_⟩|⟨h1,_⟩
         ·exact h1
         ·simp at h1;exact(hc2 (by omega)).elim
        have:=(Qi9 (Keep.refl h) hl ha).1
        rw[<-this];exact H
     ·rename_i ha
      obtain⟨rfl,H⟩:=H
      rw[hev]at ha H
      simp only[show ¬(4=1) by decide,Qz5]at ha
      split at H
      ·rename_i r h' hR
       rw[put_eq]at H
       refine fin r h' (hstep r h' (by rw[Qzf (by decide)];exact .inr (.inl ⟨rfl,ha,hR⟩))) ?_
       rw[Qzh (by omega)];exact H
      ·exact H.elim
   ·exact H.elim
theorem Qfd{ops:Array Oper}{ms:List Nat}(hm:∀(k i:Nat),(ms.getD k 0).testBit i=true->Anc ops i k):∀(tr:List Tr),Qhz ops ms (tr.map fun t=>(t.i,t.c))=true->(∀t∈tr,ops[t.i]? = some t.o) ->
  tr.Pairwise (fun a b=>clash ops a.o b.o a.c b.c=true->Anc ops a.i b.i)
 |[],_,_=>.nil
 |t::l,h,ho=>by
  simp only[Qyy,Qhz,Qzk,QzB]at h
  refine QAZ.2 ⟨fun b hb hc=>?_,Qfd hm l h.2 fun t ht=>ho t (by simp[ht])⟩
  have:=h.1 (b.i,b.c) (QzD.2 ⟨b,hb,rfl⟩)
  simp only[ho t (by simp),ho b (by simp[hb]),hc,QyG,QAM]at this
  exact hm _ _ this
theorem Qdm:∀{l:List Nat},QoH l=true->l.Nodup
 |[],_=>QAN
 |x::l,h=>by
  simp only[QoH,Qzk,QAG]at h
  exact QA9.2 ⟨by simpa using h.1,Qdm h.2⟩
theorem Qds{P:Program}{N:Nat}{ops:Array Oper}:∀{tr:List Tr} {tm:Nat->AV} {h:AH},Runs P N ops tr tm h->∀t∈tr,ops[t.i]? = some t.o
 |[],_,_,_,t,ht=>by cases ht
 |t::l,tm,h,H,t',ht'=>by
  cases H with
  |cons t l tm h ho hk hs hl =>
   rcases Qzn.1 ht' with rfl|h'
   ·exact ho
   ·exact Qds hl t' h'
theorem QeU{ops:Array Oper}{listed:Array Bool}(hsz:listed.size=ops.size)(hr:Region.ready .any ops listed=[]):∀(l:List (Nat×Nat)) (pre:List Nat),topo ops pre l=true->(∀i∈pre,listed.getD i false=true)->∀p∈l,listed.getD p.1 false=true
 |[],_,_,_,p,hp=>by cases hp
 |(i,c)::l,pre,h,hpre,p,hp=>by
  simp only[topo,Qzk]at h
  have hi:listed.getD i false=true:=by
   cases ho:ops[i]? with
   |none=>simp[ho]at h
   |some o =>
    have hlt:i<ops.size:=(Qzs.1 ho).1
    cases hb:listed.getD i false with
    |true=>rfl
    |false =>
     have:i∈Region.ready .any ops listed:=mem_ready.2 ⟨by
      rw[Qzr,Qzv (by omega)]at hb ⊢
      simpa using hb,o,ho,fun e he hbd=>by
       simp only[ho,QzB]at h
       have:=h.1 e (QAw.1 he)
       rw[hbd]at this
       exact hpre _ (by simpa using this)⟩
     rw[hr]at this;cases this
  rcases Qzn.1 hp with rfl|hp'
  ·exact hi
  ·exact QeU hsz hr l (i::pre) h.2 (fun j hj=>by
    rcases Qzn.1 hj with rfl|hj
    ·exact hi
    ·exact hpre j hj) p hp'
theorem QaQ{listed:Array Bool}{i j:Nat}(hi:i<listed.size):(listed.setIfInBounds i true).getD j false=(decide (j=i)||listed.getD j false):=by
 rw[Qzr,Qzr]
 by_cases h:j=i
 ·subst h;rw[Qz9 hi];simp
 ·rw[Qz2 (fun e=>h e.symm)];simp[h]
theorem Qs5{P:Program}{N:Nat}{base:Bs×Fence}{ops:Array Oper}{F:Fence}{n:Nat}(hF:WF F){Qx:Exit->Act->World->Prop}{tr:List Tr}{tm0:Nat->AV}{h0:AH}(hruns:Runs P N ops tr tm0 h0)
  (hpw:tr.Pairwise (fun a b=>clash ops a.o b.o a.c b.c=true->Anc ops a.i b.i)) (htopo:topo ops [] (tr.map fun t=>(t.i,t.c))=true) (hnd:(tr.map (·.i)).Nodup) (hall:∀i,i<ops.size->∃t∈tr,t.i=i) (hkind:∀t∈tr,kindOk t.o t.c=true) :
  ∀(fuel:Nat) (listed:Array Bool) (c:Cx) (a:Act),listed.size=ops.size->Down ops (fun i=>listed.getD i false)->St c->SR N base c ⟨tmS N (fun i=>listed.getD i false) tr tm0,hS (fun i=>listed.getD i false) tr h0⟩ a ->
   tr.countP (fun t=>!listed.getD t.i false)<=fuel ->
   (∀c' a',Ev c c'->St c'->SR N base c' ⟨tmS N (fun _=>true) tr tm0,hS (fun _=>true) tr h0⟩ a'->Qx .normal a' c'.w)->wpAnyIn F n P .any ops Qx fuel listed a c.w:=by
 -- the end
 have done:∀(listed:Array Bool) (c:Cx) (a:Act),listed.size=ops.size->St c->SR N base c ⟨tmS N (fun i=>listed.getD i false) tr tm0,hS (fun i=>listed.getD i false) tr h0⟩ a ->
   (∀c' a',Ev c c'->St c'->SR N base c' ⟨tmS N (fun _=>true) tr tm0,hS (fun _=>true) tr h0⟩ a'->Qx .normal a' c'.w)->(∀t∈tr,listed.getD t.i false=true)->Qx .normal a c.w:=by
  intro listed c a hsz hst hr hQ hl
  refine hQ c a (Ev.refl c) hst ?_
  have e1:tmS N (fun i=>listed.getD i false) tr tm0=tmS N (fun _=>true) tr tm0:=funext fun x=>QaT rfl fun t ht _=>hl t ht
  have e2:hS (fun i=>listed.getD i false) tr h0=hS (fun _=>true) tr h0:=QbK fun t ht _=>hl t ht
  rw[e1,e2]at hr
  exact hr
 have ready0:∀(listed:Array Bool),listed.size=ops.size->Region.ready .any ops listed=[]->∀t∈tr,listed.getD t.i false=true:=fun listed hsz h t ht =>
  QeU hsz h _ [] htopo (fun i hi=>by cases hi) (t.i,t.c) (QzD.2 ⟨t,ht,rfl⟩)
 intro fuel
 induction fuel with
 |zero =>
  intro listed c a hsz hd hst hr hc hQ
  have hl:∀t∈tr,listed.getD t.i false=true:=fun t ht=>by
   have:=List.countP_eq_zero.1 (Nat.le_zero.1 hc) t ht
   simpa using this
  refine⟨?_,done listed c a hsz hst hr hQ hl⟩
  cases hrd:Region.ready .any ops listed with
  |nil=>rfl
  |cons i l =>
   have hi:i∈Region.ready .any ops listed:=by rw[hrd];simp
   obtain⟨h1,o,ho,_⟩:=mem_ready.1 hi
   have hlt:i<ops.size:=(Qzs.1 ho).1
   obtain⟨t,ht,rfl⟩:=hall i hlt
   have:=hl t ht
   rw[Qzr,Qzv (by omega)]at this h1
   simp only[QA6]at this h1
   rw[this]at h1;cases h1
 |succ fuel ih =>
  intro listed c a hsz hd hst hr hc hQ
  refine⟨fun h=>done listed c a hsz hst hr hQ (ready0 listed hsz h),fun i hi=>?_⟩
  obtain⟨h1,o,ho,hedge⟩:=mem_ready.1 hi
  have hlt:i<ops.size:=(Qzs.1 ho).1
  have hSi:listed.getD i false=false:=by
   rw[Qzr,Qzv (by omega)]at h1 ⊢
   simpa using h1
  obtain⟨t,ht,rfl⟩:=hall i hlt
  obtain⟨pre,post,htr⟩:=List.append_of_mem ht
  have hto:t.o=o:=by
   have:=Qds hruns t ht
   rw[ho]at this;cases this;rfl
  subst hto
  -- the set with it
  have hS':∀j,(listed.setIfInBounds t.i true).getD j false=(decide (j=t.i)||listed.getD j false):=fun j=>QaQ (by omega)
  have hd':Down ops (fun j=>(listed.setIfInBounds t.i true).getD j false):=by
   intro j oj hoj hj e he hb
   dsimp only at hj ⊢
   rw[hS']at hj ⊢
   by_cases hji:j=t.i
   ·subst hji
    rw[ho]at hoj;cases hoj
    rw[hedge e he hb];simp
   ·have:listed.getD j false=true:=by simpa [hji]using hj
    have h2:listed.getD e.on false=true:=hd j oj hoj this e he hb
    rw[h2];simp
  have hanc:∀j,Anc ops j t.i->j≠t.i->listed.getD j false=true:=fun j hj hne=>by
   have:=hd'.anc hj (by show _=true;rw[hS'];simp)
   have h2:(listed.setIfInBounds t.i true).getD j false=true:=this
   rw[hS']at h2
   simpa [hne]using h2
  have hnot:∀j,Anc ops t.i j->listed.getD j false=false:=fun j hj=>by
   cases hb:listed.getD j false with
   |false=>rfl
   |true=>have:=hd.anc hj hb;rw[hSi]at this;cases this
  -- the others
  have hne:∀b,b∈pre\/b∈post->b.i≠t.i:=by
   rw[htr]at hnd
   simp only[Qz3,Qyy]at hnd
   obtain⟨n1,n2,n3⟩:=List.nodup_append.1 hnd
   intro b hb e
   rcases hb with hb|hb
   ·exact n3 b.i (QzD.2 ⟨b,hb,rfl⟩) t.i (by simp) e
   ·exact(QA9.1 n2).1 (QzD.2 ⟨b,hb,e⟩)
  rw[htr]at hpw
  obtain⟨p1,p2,p3⟩:=List.pairwise_append.1 hpw
  obtain⟨p4,p5⟩:=QAZ.1 p2
  have hpre:∀b∈pre,clash ops b.o t.o b.c t.c=true->listed.getD b.i false=true:=fun b hb hcl=>hanc _ (p3 b hb t (by simp) hcl) (hne b (.inl hb))
  have hpost:∀b∈post,clash ops t.o b.o t.c b.c=true->listed.getD b.i false=false:=fun b hb hcl=>hnot _ (p4 b hb hcl)
  have hsame:∀b,b∈pre\/b∈post->(listed.setIfInBounds t.i true).getD b.i false=listed.getD b.i false:=fun b hb=>by
   rw[hS'];simp[hne b hb]
  -- what it looks at
  have hsplit:=hruns
  rw[htr]at hsplit
  have hs2:=Runs.split hsplit
  have hstep:StepA P ops (tmS N (fun _=>true) pre tm0) (hS (fun _=>true) pre h0) t.c t.o t.r t.h':=by cases hs2 with|cons _ _ _ _ _ _ hs _=>exact hs
  have hk:kindOk t.o t.c=true:=hkind t ht
  have hreads:∀x∈readsOf ops t.o,tmS N (fun i=>listed.getD i false) tr tm0 x=tmS N (fun _=>true) pre tm0 x:=by
   intro x hx
   rw[htr,Qbu,Z9]
   ·refine QaT rfl fun b hb hbd=>hpre b hb ?_
    unfold clash;rw[hbd];simp[hx]
   ·intro b hb hbS hbd
    rcases Qzn.1 hb with rfl|hb
    ·rw[hSi]at hbS;cases hbS
    ·rw[hpost b hb (by unfold clash;rw[hbd];simp[hx])]at hbS;cases hbS
  have hclash2:∀b∈pre,2<=b.c->t.c≠1->listed.getD b.i false=true:=fun b hb h2 ht1=>hpre b hb (by unfold clash;simp[h2,ht1])
  have hheapPre:t.c≠1->hS (fun i=>listed.getD i false) pre h0=hS (fun _=>true) pre h0:=fun ht1=>QbK fun b hb h2=>hclash2 b hb h2 ht1
  have hh:(2<=t.c/\hS (fun i=>listed.getD i false) tr h0=hS (fun _=>true) pre h0)\/(t.c<2/\(t.c=1\/Keep (hS (fun _=>true) pre h0) (hS (fun i=>listed.getD i false) tr h0))):=by
   by_cases hc2:2<=t.c
   ·refine .inl ⟨hc2,?_⟩
    rw[htr,Qb0,Qbp,hheapPre (by omega)]
    intro b hb hbc
    rcases Qzn.1 hb with rfl|hb
    ·exact hSi
    ·have h1:b.c≠1:=by omega
     exact hpost b hb (by unfold clash;simp[hc2,h1])
   ·refine .inr ⟨by omega,?_⟩
    by_cases hc1:t.c=1
    ·exact .inl hc1
    ·refine .inr ?_
     rw[htr,Qb0,hheapPre hc1]
     refine Runs.keep hs2 ?_ ?_
     ·intro b hb hbc hbS
      rcases Qzn.1 hb with rfl|hb
      ·exact(hc2 hbc).elim
      ·cases hadd:((Qd9 b.o.op&&b.c != 4)||b.c==3)with
       |true=>rfl
       |false =>
        rw[hpost b hb (by unfold clash;rw[hadd];simp[hc1,hc2,hbc])]at hbS;cases hbS
     ·refine p2.imp ?_
      intro x y hxy hx hy hyS
      have h1:y.c≠1:=by omega
      exact hd.anc (hxy (by unfold clash;simp[hx,h1])) hyS
  -- the state behind it
  have hpreS:tmS N (fun i=>(listed.setIfInBounds t.i true).getD i false) pre tm0=tmS N (fun i=>listed.getD i false) pre tm0:=funext fun x=>QaT rfl fun b hb _=>hsame b (.inl hb)
  have hpreH:hS (fun i=>(listed.setIfInBounds t.i true).getD i false) pre h0=hS (fun i=>listed.getD i false) pre h0:=QbK fun b hb _=>hsame b (.inl hb)
  have hSt:(listed.setIfInBounds t.i true).getD t.i false=true:=by rw[hS'];simp
  have hstm:tmS N (fun i=>(listed.setIfInBounds t.i true).getD i false) tr tm0=putT N (tmS N (fun i=>listed.getD i false) tr tm0) t.o.dst t.r:=by
   funext x
   rw[htr,Qbu,Qbu,hpreS]
   simp only[tmS,hSt,hSi,QAj,Qyn,Qz5]
   by_cases hdx:t.o.dst=some x
   ·have hskip:∀b∈post,b.o.dst=some x->listed.getD b.i false=false:=fun b hb hbd=>hpost b hb (by unfold clash;rw[hdx,hbd];simp)
    rw[Z9 (fun b hb hbS hbd=>by rw[hsame b (.inr hb),hskip b hb hbd]at hbS;cases hbS)]
    have e:=Z9 (N:=N) (S:=fun i=>listed.getD i false) (x:=x) (l:=post) (f:=tmS N (fun i=>listed.getD i false) pre tm0) (fun b hb hbS hbd=>by rw[hskip b hb hbd]at hbS;cases hbS)
    exact Qfe (fun _=>e.symm) (.inl e.symm)
   ·rw[Qff hdx]
    exact QaT (Qff hdx) fun b hb _=>hsame b (.inr hb)
  have hshp:hS (fun i=>(listed.setIfInBounds t.i true).getD i false) tr h0=if 2<=t.c then t.h' else hS (fun i=>listed.getD i false) tr h0:=by
   rw[htr,Qb0,Qb0,hpreH]
   simp only[hS,hSt,hSi,Qy3,QAv,Qyn,Qz5,Qzu]
   by_cases hc2:2<=t.c
   ·rw[Qzh hc2,Qzh hc2]
    refine Qbp fun b hb hbc=>?_
    rw[hsame b (.inr hb)]
    have h1:b.c≠1:=by omega
    exact hpost b hb (by unfold clash;simp[hc2,h1])
   ·rw[Qzf hc2,Qzf hc2]
    exact QbK fun b hb _=>hsame b (.inr hb)
  have hcount:tr.countP (fun u=>!(listed.setIfInBounds t.i true).getD u.i false)<=fuel:=by
   rw[htr]at hc ⊢
   simp only[List.countP_append,List.countP_cons,hSt,hSi,QyG,QyH,Qyn,Qz5,QAj]at hc ⊢
   have c1:pre.countP (fun u=>!(listed.setIfInBounds t.i true).getD u.i false)=pre.countP (fun u=>!listed.getD u.i false):=List.countP_congr fun b hb=>by rw[hsame b (.inl hb)]
   have c2:post.countP (fun u=>!(listed.setIfInBounds t.i true).getD u.i false)=post.countP (fun u=>!listed.getD u.i false):=List.countP_congr fun b hb=>by rw[hsame b (.inr hb)]
   rw[c1,c2];omega
  have next:∀c' a',Ev c c'->St c'->SR N base c' (AS.put N ⟨tmS N (fun i=>listed.getD i false) tr tm0,if 2<=t.c then t.h' else hS (fun i=>listed.getD i false) tr h0⟩ t.o.dst t.r) a' ->
    wpAnyIn F n P .any ops Qx fuel (listed.setIfInBounds t.i true) a' c'.w:=by
   intro c' a' hev hst' hr'
   rw[put_eq,<-hstm,<-hshp]at hr'
   exact ih _ c' a' (by simpa using hsz) hd' hst' hr' hcount fun c2 a2 e2 s2 r2=>hQ c2 a2 (Ev.trans hst hev e2) s2 r2
  unfold wpOpIn
  simp only[ho]
  rcases hstep.turn hk hreads hh N with⟨hw,hru,hhe⟩|⟨hw,hop|hop⟩
  ·rw[Q7 hr hw]
   simp only[Qyn,Qz5]
   refine⟨fun f _=>hF.fn f,?_⟩
   have hr':=hr.put hst (Ev.refl c) t.o.dst (.v undef)
   rw[hr.h]at hr'
   refine next c _ (Ev.refl c) hst ?_
   rw[hhe,hru]
   exact hr'
  ·rw[Q7 hr hw]
   simp only[QAj]
   refine QcY (hop (fun s'=>s'=AS.put N ⟨tmS N (fun i=>listed.getD i false) tr tm0,if 2<=t.c then t.h' else hS (fun i=>listed.getD i false) tr h0⟩ t.o.dst t.r) (fun _ _=>False) rfl) hF hst hr ?_ ?_
   ·intro s' c' a' hs hev hst' hr'
    subst hs
    exact next c' a' hev hst' hr'
   ·intro r s' c' x hf
    exact hf.elim
  ·rw[Q7 hr hw]
   simp only[QAj]
   refine Qi0 (K:=fun s'=>s'=AS.put N ⟨tmS N (fun i=>listed.getD i false) tr tm0,if 2<=t.c then t.h' else hS (fun i=>listed.getD i false) tr h0⟩ t.o.dst t.r) hop rfl hF hst hr ?_
   intro s' c' a' hs hev hst' hr'
   subst hs
   exact next c' a' hev hst' hr'
theorem Q1{P:Program}{N:Nat}{Q:AExit->AS->Prop}{s:AS}{id:Nat}{ops:Array Oper}(π:List (Nat×Nat))(hm:P.follows .mixedOrders=true)(hok:QtG ops π=true)
  (H:∀(K:AS->Prop),(∀s,Q .normal s->K s)->AnyW P N ops π K s):Xs P N (.region id ops true) Q s:=by
 intro F n base c a hF hst hr R hR
 refine wpIn_region_any hm ?_
 obtain⟨tm,hp⟩:=s
 simp only[QtG,Qzk]at hok
 obtain⟨⟨⟨⟨⟨hp0,hp1⟩,hp2⟩,hp3⟩,hp4⟩,hp5⟩:=hok
 obtain⟨tr,rfl,hruns,hK⟩:=QcB (H _ (fun s h=>h)) hp5
 have hev:Ev c (c.to {c.w with drawn:=c.w.drawn+1}):=Ev.idle hst (Ev.refl c) rfl rfl rfl rfl fun k=>.inl rfl
 have hst':St (c.to {c.w with drawn:=c.w.drawn+1}):=hst.idle rfl fun k o hk=>.inl hk
 have hr':SR N (base,F) (c.to {c.w with drawn:=c.w.drawn+1}) ⟨tm,hp⟩ a:=⟨hr.h,hr.size,QzL hr.above hev.size,hr.defers.ev hev,RoundOk.ev hev hr.round,fun t=>(hr.tm t).ev hst hev⟩
 have hops:=Qds hruns
 have hnone:∀j,(Array.replicate ops.size false).getD j false=false:=fun j=>by
  rw[Qzr,QAo]
  split <;> rfl
 refine Qs5 (base:=(base,F)) hF hruns (Qfd (Qb6 ops.toList [] (fun j o h=>by simpa using h) (fun k i h=>by simp at h)) tr hp1 hops) hp2 ?_ ?_ ?_ _ _ (c.to {c.w with drawn:=c.w.drawn+1}) a (by simp) ?_ hst' ?_ ?_ ?_
 ·have:=Qdm hp3
  rw[QAu]at this
  exact this
 ·intro i hi
  have:=QzB.1 hp4 i (List.mem_range.2 hi)
  have:i∈(tr.map fun t=>(t.i,t.c)).map (·.1):=by simpa using this
  rw[QAu]at this
  obtain⟨t,ht,rfl⟩:=QzD.1 this
  exact⟨t,ht,rfl⟩
 ·intro t ht
  have:=QzB.1 hp5 (t.i,t.c) (QzD.2 ⟨t,ht,rfl⟩)
  simpa [hops t ht]using this
 ·intro j o ho hj
  simp only at hj
  rw[hnone]at hj;cases hj
 ·have e1:tmS N (fun i=>(Array.replicate ops.size false).getD i false) tr tm=tm:=funext fun x=>Z9 fun t _ h=>by rw[hnone]at h;cases h
  have e2:hS (fun i=>(Array.replicate ops.size false).getD i false) tr hp=hp:=Qbp fun t _ _=>hnone _
  rw[e1,e2];exact hr'
 ·-- asx many asx there are
  have:tr.length<=ops.size:=by
   have:=QAb.1 hp0
   simp only[QzJ]at this;omega
  exact QzL List.countP_le_length this
 ·intro c' a' h1 h2 h3
  exact hR _ _ c' a' _ hK (Ev.trans hst hev h1) h2 h3 rfl
theorem Qj{P:Program}{N:Nat}{Q:AExit->AS->Prop}{s:AS}{id:Nat}{ops:Array Oper}{y:Code}(π:List (Nat×Nat))(hm:P.follows .mixedOrders=true)(hok:QtG ops π=true)
  (H:∀(K:AS->Prop),(∀s,Xs P N y Q s->K s)->AnyW P N ops π K s):Xs P N (.seq (.region id ops true) y) Q s :=
 Qav (Q1 π hm hok fun K hK=>H K hK)
section
variable(P:Program)(N:Nat)(ops:Array Oper)(tm:Nat->AV)(h:AH)(K:AS->Prop)
theorem X6:AnyW P N ops [] K ⟨tm,h⟩=K ⟨tm,h⟩:=rfl
theorem XK(i c:Nat)(l:List (Nat×Nat)):AnyW P N ops ((i,c)::l) K ⟨tm,h⟩=(match ops[i]? with|some o=>AnyO P N ops c o ⟨tm,h⟩ (AnyW P N ops l K)|none=>False):=rfl
theorem YF(c:Nat)(o:Oper):AnyO P N ops c o ⟨tm,h⟩ K=(match Qn ops tm o with
 |some false=>K (AS.put N ⟨tm,h⟩ o.dst (.v undef))
 |some true =>
  match o.op with
  | .call ⟨.value f,args,tys⟩=>if 2<=c then Qtz P N c (AS.ev ⟨tm,h⟩ f) (args.toList.map (AS.ev ⟨tm,h⟩)) ⟨tm,h⟩ o.dst K else if c=0 then QtA P N (AS.ev ⟨tm,h⟩ f) (args.toList.map (AS.ev ⟨tm,h⟩)) ⟨tm,h⟩ o.dst K else Qty P N (AS.ev ⟨tm,h⟩ f) (args.toList.map (AS.ev ⟨tm,h⟩)) ⟨tm,h⟩ o.dst K
  |op=>if 5<=c then(match tokA c P (AS.ev ⟨tm,h⟩) h op with
    |some (r,h')=>K (AS.put N ⟨tm,h'⟩ o.dst r)
    |none=>False)else match aop P (AS.ev ⟨tm,h⟩) o.type (if c=1 then[]else h) op with
   |some (r,h')=>K (AS.put N ⟨tm,if c=1 then h else h'⟩ o.dst r)
   |none=>c=4/\match aopR P (AS.ev ⟨tm,h⟩) h op with
    |some (r,h')=>K (AS.put N ⟨tm,h'⟩ o.dst r)
    |none=>False
 |none=>False):=rfl
end
end Go.Proofs.YtenheconhibonaaGreatDoor.Ab
namespace Go.Proofs.YtenheconhibonaaGreatDoor.Ab
theorem Qpa{c:Cx}(e s:Nat):∀b,some c.h.length=some b->(c.add c.w (.grow e s 0) none).tokNil b s:=by
 intro b hb
 cases hb
 refine⟨by simp[Cx.add],fun e2 s2 n2 hg2=>?_⟩
 simp[Cx.add]at hg2
 exact⟨hg2.2.1.symm,fun _=>by simp[Cx.add]⟩
theorem Zu{P:Program}{N:Nat}{code:Code}{Q:AExit->AS->Prop}{tm:Nat->AV}{h:AH}(d e s:Nat)(hd:tm d = .v (.slice none 0 0))
  (H:Xs P N code Q ⟨upd tm d (.sl s [] (some h.length)),h++[.grow e s 0]⟩):Xs P N code Q ⟨tm,h⟩:=by
 intro F n base c a hF hst hr R hR
 have hh:c.h=h:=hr.h
 subst hh
 have hg:=Grows.refl c.w
 have ho:∀B,(none:Option Nat)=some B->c.w.heap.size<=B:=fun B h=>by cases h
 have hev:=Ev.add hst hg (.grow e s 0) none ho
 have hρ:(c.add c.w (.grow e s 0) none).ρ c.h.length=none:=by simp[Cx.add]
 have hst':St (c.add c.w (.grow e s 0) none):=St.add hst hg _ _ ho (fun B hB=>by rw[hρ]at hB;cases hB)
 refine H F n base (c.add c.w (.grow e s 0) none) a hF hst' ⟨rfl,hr.size,hr.above,hr.defers.ev hev,RoundOk.ev hev hr.round,fun t=>?_⟩ R fun e' s' c' a' ex hq h1 h2 h3 h4=>hR e' s' c' a' ex hq (Ev.trans hst hev h1) h2 h3 h4
 simp only[upd]
 split
 ·rename_i ht
  subst ht
  have h1:=hr.tm t
  simp only[hd]at h1
  generalize hu:a.tmps.getD t undef=u at h1
  cases h1
  exact .slnil _ _ (Qpa e s)
 ·exact(hr.tm t).ev hst hev
inductive T where
 |mk (kind int:Int) (name:ByteArray) (args:List T)
 deriving Inhabited
def T.kind:T->Int | .mk k _ _ _=>k
def T.int:T->Int | .mk _ i _ _=>i
def T.name:T->ByteArray | .mk _ _ n _=>n
def T.args:T->List T | .mk _ _ _ l=>l
mutual
def T.av:T->AV
 | .mk k i n l=>.agg [.v (.int .i64 k),.v (.int .i64 i),.v (.string n),.sl 4 (avs l) none]
def avs:List T->List AV
 |[]=>[]
 |t::l=>t.av::avs l
end
theorem QcE:∀l:List T,avs l=l.map T.av
 |[]=>rfl
 |t::l=>by simp only[avs,Qyy,QcE l]
theorem Qpx:avs []=[]:=rfl
theorem Yj(l:List T):(avs l).length=l.length:=by rw[QcE,QzJ]
theorem QtK(t:T):avs [t]=[t.av]:=rfl
theorem Qcd{l:List T}{k:Nat}(h:k<l.length):(avs l)[k]? = some (l[k]).av:=by
 rw[QcE,QzN,Qzg h];rfl
theorem T.Qxs(t:T):t.av.cells=[.v (.int .i64 t.kind),.v (.int .i64 t.int),.v (.string t.name),.sl 4 (avs t.args) none]:=by cases t;rfl
theorem T.Qxt(t:T):t.av.isAgg=true:=by cases t;rfl
mutual
theorem T.QxD(n:Nat):∀t:T,Below n t.av
 | .mk k i nm l=>by
  simp only[T.av]
  refine .agg _ fun a ha=>?_
  simp only[Qzn,Qzz,QAf]at ha
  rcases ha with rfl|rfl|rfl|rfl
  ·exact .v _
  ·exact .v _
  ·exact .v _
  ·exact .sl 4 _ none (QfY n l) (fun b hb=>by cases hb)
theorem QfY(n:Nat):∀l:List T,∀a∈flat (avs l),Below n a
 |[],a,ha=>by simp[avs,flat]at ha
 |t::l,a,ha=>by
  simp only[avs,QQ,QzH]at ha
  rcases ha with ha|ha
  ·have h1:=T.QxD n t
   cases t with
   |mk k i nm l' =>
    simp only[T.av]at h1
    cases h1 with
    |agg _ h=>exact h a (by simpa only[T.av,AV.cells]using ha)
  ·exact QfY n l a ha
end
theorem QkC(n:Nat)(l:List T):Below n (.sl 4 (avs l) none):=.sl 4 _ none (QfY n l) (fun b hb=>by cases hb)
def ints(l:List Int):List AV:=l.map fun n=>.v (.int .i64 n)
theorem Xx(l:List Int):(ints l).length=l.length:=QzJ _
theorem Qqj(n:Nat)(l:List Int):∀a∈flat (ints l),Below n a:=by
 intro a ha
 simp only[flat,ints,QA5,QzD]at ha
 obtain⟨x,⟨y,_,rfl⟩,hx⟩:=ha
 simp only[AV.cells,Qz8]at hx
 subst hx
 exact .v _
theorem rng0:List.range 0=[]:=rfl
theorem rng1:List.range 1=[0]:=rfl
theorem rng2:List.range 2=[0,1]:=rfl
theorem rng3:List.range 3=[0,1,2]:=rfl
theorem rng4:List.range 4=[0,1,2,3]:=rfl
theorem rng5:List.range 5=[0,1,2,3,4]:=rfl
theorem rng6:List.range 6=[0,1,2,3,4,5]:=rfl
theorem rng7:List.range 7=[0,1,2,3,4,5,6]:=rfl
theorem rng8:List.range 8=[0,1,2,3,4,5,6,7]:=rfl
theorem Ym{α:Type}(p:α->Bool)(x:α):Option.any p (some x)=p x:=rfl
def Pure(P:Program)(f:FuncId)(args:List AV)(r:AV):Prop:=∀h,Qp P f args h fun o h'=>o = .ret r/\h'=h
theorem Qe{P:Program}{f:FuncId}{args:List AV}{r:AV}{h:AH}{C:AOut->AH->Prop}(H:Pure P f args r)(k:C (.ret r) h):FunW P (.fn (.func f) [] []) args h C:=by
 refine FunW.fn ?_
 rw[QyK,QyM]
 exact(H h).mono (by rintro _ _ ⟨rfl,rfl⟩;exact k)
theorem Qq{P:Program}{N:Nat}{f:FuncId}{args:List AV}{r:AV}{s:AS}{d:Option Tmp}{K:AS->Prop}(H:Pure P f args r)(k:K (AS.put N s d r)):Qty P N (.fn (.func f) [] []) args s d K :=
 ⟨r,fun hx=>Qe H ⟨rfl,rfl⟩,k⟩
theorem Qb{h h':AH}{r r':AV}{Q:AV->AH->Prop}(ht:h'.take h.length=h)(hf:Frz h' h.length r r')(hq:Q r' h):Leaves h h' r Q:=by
 refine .inl ⟨h.length,r',Qzl _,?_,.inl ht,hf,by rw[ht];exact hq⟩
 have:=QzP List.length ht
 rw[QzE]at this
 omega
theorem Xk{n:Int}(h : -9223372036854775808<=n/\n<=9223372036854775807):IntKind.i64.wrap n=n:=IntWalk.i64_in n h
theorem QY{n:Nat}(h:n<=9223372036854775806):IntKind.i64.wrap ((n:Int)+1)=((n+1:Nat):Int):=by
 rw[Xk (by omega)];omega
def T.uses(t:T):List T:=if t.kind=2 then t.args else[]
mutual
def T.size:T->Nat
 | .mk k _ _ l=>1+(if k=2 then sizes l else 0)
def sizes:List T->Nat
 |[]=>0
 |t::l=>t.size+sizes l
end
theorem T.size_eq(t:T):t.size=1+sizes t.uses:=by
 cases t with|mk k i n l=>simp only[T.size,T.uses,T.kind,T.args];by_cases hk:k=2 <;> simp[hk,sizes]
theorem size_pos(t:T):1<=t.size:=by rw[T.size_eq];omega
def LoopA.at(i:LoopA)(st:LoopState)(pend:Option Code):LoopA:={i with st:=st,pend:=pend}
theorem Qpo{c:Cx}(hs:St c)(e s:Nat):Ev c (c.add c.w (.grow e s 0) none)/\St (c.add c.w (.grow e s 0) none):=by
 have hg:=Grows.refl c.w
 have ho:∀B,(none:Option Nat)=some B->c.w.heap.size<=B:=fun B h=>by cases h
 have hρ:(c.add c.w (.grow e s 0) none).ρ c.h.length=none:=by simp[Cx.add]
 exact⟨Ev.add hs hg (.grow e s 0) none ho,St.add hs hg _ _ ho (fun B hB=>by rw[hρ]at hB;cases hB)⟩
theorem QtY{h:AH}{m:Nat}{x y:AV}(hf:Frz h m x y):∀(j:Nat) (a a':AV),[x][j]? = some a->[y][j]? = some a'->Frz h m a a'
 |0,a,a',h1,h2=>by simp at h1 h2;subst h1;subst h2;exact hf
 |j+1,a,a',h1,_=>by simp at h1
theorem Qjy{h:AH}{m:Nat}{x y:AV}{l l':List AV}(hf:Frz h m x y)(hl:∀(j:Nat) (a a':AV),l[j]? = some a->l'[j]? = some a'->Frz h m a a'):∀(j:Nat) (a a':AV),(x::l)[j]? = some a->(y::l')[j]? = some a'->Frz h m a a'
 |0,a,a',h1,h2=>by simp at h1 h2;subst h1;subst h2;exact hf
 |j+1,a,a',h1,h2=>hl j a a' (by simpa using h1) (by simpa using h2)
def ikey(n:Int):Value:=.int .i64 n
def imap(l:List (Int×AV)):List (Value×AV):=l.map fun p=>(ikey p.1,p.2)
def QjD(k:Int):List (Int×AV)->Option AV
 |[]=>none
 |p::l=>if k=p.1 then some p.2 else QjD k l
theorem QsP(a b:Int):Instr.sameNow (.int .i64) (ikey a) (ikey b)=some (a==b):=rfl
theorem QcL(k:Int):∀l:List (Int×AV),QgY (.int .i64) (.int .i64 k) (imap l)=some (QjD k l)
 |[]=>rfl
 |p::l=>by
  have h:=QsP k p.1
  have e:imap (p::l)=(ikey p.1,p.2)::imap l:=rfl
  rw[e]
  simp only[QgY,QjD]
  rw[show Instr.sameNow (.int .i64) (.int .i64 k) (ikey p.1)=some (k==p.1)from rfl]
  by_cases hk:k=p.1
  ·rw[Qzh hk,show(k==p.1)=true by simpa using hk]
  ·rw[Qzf hk,show(k==p.1)=false by simpa using hk]
   exact QcL k l
theorem Qki(k:Int)(v:AV):∀l:List (Int×AV),QjD k l=none->updA (.int .i64) (.int .i64 k) v (imap l)=some (imap (l++[(k,v)]))
 |[],_=>rfl
 |p::l,hn=>by
  have e:imap (p::l)=(ikey p.1,p.2)::imap l:=rfl
  rw[e]
  simp only[QjD]at hn
  split at hn
  ·cases hn
  ·rename_i hk
   simp only[updA]
   rw[show Instr.sameNow (.int .i64) (.int .i64 k) (ikey p.1)=some (k==p.1)from rfl,show(k==p.1)=false by simpa using hk,Qki k v l hn]
   rfl
theorem Qur(P:Program)(s d:TypeId){ts:TypeDesc}{kd:IntKind}(hs:P.underlying s=some ts)(hd:P.underlying d=some (.int kd))(k:IntKind)(a:Int):pv P (convert s d (.int k a))=some (.int kd (kd.wrap a)):=by
 have hp:∀{α:Type} (x:α),pv P (pure x)=some x:=fun _=>rfl
 simp only[convert,underlying]
 rw[Yu,Yu]
 simp only[program,pv,Qyo,hs,hp]
 rw[Yu,Yu]
 simp only[program,pv,Qyo,hd,hp]
 rfl
theorem QmH{P:Program}{N:Nat}{ops:Array Oper}{E:AV->AS->Prop}:∀(l1 l2:List Oper) (K K':AS->Prop) (s:AS),(∀s,OpsW P N ops l2 K E s->K' s)->OpsW P N ops l2 K E=K'->OpsW P N ops l1 K' E s->OpsW P N ops (l1++l2) K E s
 |[],l2,K,K',s,_,e,h=>by subst e;exact h
 |o::l1,l2,K,K',s,hK,e,h=>by
  subst e
  have ih:OpsW P N ops (l1++l2) K E=OpsW P N ops l1 (OpsW P N ops l2 K E) E:=by
   clear h hK s o
   funext s
   apply propext
   induction l1 generalizing s with
   |nil=>exact Iff.rfl
   |cons o l1 ih =>
    have ih':OpsW P N ops (l1++l2) K E=OpsW P N ops l1 (OpsW P N ops l2 K E) E:=funext fun s=>propext (ih s)
    show(match Qn ops s.tm o with|some true=>OpW P N o s (OpsW P N ops (l1++l2) K E) E|some false=>OpsW P N ops (l1++l2) K E (AS.put N s o.dst (.v undef))|none=>False)↔(match Qn ops s.tm o with|some true=>OpW P N o s (OpsW P N ops l1 (OpsW P N ops l2 K E) E) E|some false=>OpsW P N ops l1 (OpsW P N ops l2 K E) E (AS.put N s o.dst (.v undef))|none=>False)
    rw[ih']
  show(match Qn ops s.tm o with|some true=>OpW P N o s (OpsW P N ops (l1++l2) K E) E|some false=>OpsW P N ops (l1++l2) K E (AS.put N s o.dst (.v undef))|none=>False)
  rw[ih]
  exact h
theorem Qy{P:Program}{N:Nat}{ops:Array Oper}{E:AV->AS->Prop}{l:List Oper}{K:AS->Prop}{s:AS}(k:Nat)(h:∀K':AS->Prop,(∀s,OpsW P N ops (l.drop k) K E s->K' s)->OpsW P N ops (l.take k) K' E s):OpsW P N ops l K E s:=by
 have:=QmH (l.take k) (l.drop k) K _ s (fun s hs=>hs) rfl (h _ fun s hs=>hs)
 rwa [Qz1]at this
theorem DefOk.cut{c:Cx}{base:Bs}{m:Nat}{ds:List Deferred}(h:DefOk c base ds):DefOk (c.cut m) base ds:=by
 obtain⟨Ds,e,hn,hall⟩:=h
 refine⟨Ds,e,hn,fun D hD=>?_⟩
 obtain⟨h1,h2,h3⟩:=hall D hD
 exact⟨h1,h2,fun⟨id,b,g1,g2,g3⟩=>h3 ⟨id,b,(Zv g1).2,g2,g3⟩⟩
theorem X4{P:Program}{b:Frame}{a:Act}{k:List Item}{cs:List Frame}{w:World}{c:Code} :
  step P (lone (b.atR a (.code (.scope c)::k)) cs w) = .next (lone (b.atR a (.code c :: .inScope c::k)) cs w) :=
 step_lone_go (by simp[stepG,stepG.exec,Frame.atR])
theorem Qcs{P:Program}{b:Frame}{a:Act}{k:List Item}{cs:List Frame}{w:World}{c:Code} :
  step P (lone (b.atR a (.inScope c::k)) cs w) = .next (lone (b.atR a k) cs w) :=
 step_lone_go (by simp[stepG,stepG.exec,Frame.atR])
def Qug(Q:Exit->Act->World->Prop):Exit->Act->World->Prop
 | .goto _,_,_=>False
 |e,a,w=>Q e a w
theorem Qph{F:Fence}{n:Nat}{P:Program}{Q:Exit->Act->World->Prop}{a:Act}{w:World}{c:Code}(h:c.wpIn F n P (Qug Q) a w):(Code.scope c).wpIn F n P Q a w:=by
 intro b k cs hro hb hr
 have h0:(lone (b.atR a (.code (.scope c)::k)) cs w).fenced P F:=fenced_calm hb hr rfl
 obtain⟨e,a₁,w₁,hq,harr⟩:=h b (.inScope c::k) cs hro hb hr
 cases e with
 |normal=>exact⟨.normal,a₁,w₁,hq,.head h0 X4 (StepsIn.trans harr (.one (fenced_calm hb hr rfl) Qcs))⟩
 |exit id' =>
  have hx:exitTo id' (.inScope c::k)=exitTo id' k:=by simp[exitTo]
  exact⟨.exit id',a₁,w₁,hq,fun k' hk=>.head h0 X4 (harr.1 k' (by rw[hx];exact hk)),
   fun hr' hk=>let ⟨k₁,h1,h2⟩:=harr.2 hr' (by rw[hx];exact hk);⟨k₁,h1,.head h0 X4 h2⟩⟩
 |goto l=>exact hq.elim
 |ret=>exact⟨_,a₁,w₁,hq,.of_steps (.one h0 X4) harr⟩
 |panic ch=>exact⟨_,a₁,w₁,hq,.of_steps (.one h0 X4) harr⟩
 |outgrown=>exact⟨_,a₁,w₁,hq,.of_steps (.one h0 X4) harr⟩
theorem QgD{P:Program}{N:Nat}{x:Code}{Q:AExit->AS->Prop}{s:AS}(h:Xs P N x Q s):Xs P N (.scope x) Q s:=by
 intro F n base c a hF hs hr R hR
 refine Qph (h F n base c a hF hs hr _ fun e s' c' a' e' hQ hev hst hsr hex=>?_)
 cases e with
 |normal=>cases hex;exact hR _ s' c' a' _ hQ hev hst hsr rfl
 |exit i=>cases hex;exact hR _ s' c' a' _ hQ hev hst hsr rfl
 |ret=>cases hex;exact hR _ s' c' a' _ hQ hev hst hsr rfl
 |panic av=>obtain⟨x,rfl,hx⟩:=hex;exact hR _ s' c' a' _ hQ hev hst hsr ⟨x,rfl,hx⟩
inductive Kill (h:AH) (id:Nat):AV->AV->Prop
 |keep (a:AV):Kill h id a a
 |arr {lo len s:Nat} {ty:TypeId} {xs:List AV} (hg:h[id]? = some (.cells ty s xs)) (hl:lo+len<=xs.length):Kill h id (.arr id lo len) (.sl s ((xs.drop lo).take len) none)
 |row {lo len cap s:Nat} {ty:TypeId} {xs:List AV} (hg:h[id]? = some (.cells ty s xs)) (hl:lo+len<=xs.length):Kill h id (.row id lo len cap) (.sl s ((xs.drop lo).take len) none)
theorem QfH{c:Cx}(hs:St c){id B ty s:Nat}{xs:List AV}(hg:c.h[id]? = some (.cells ty s xs))(hρ:c.ρ id=some B) :
  (∀x∈xs,x.cells.length=s)/\∃f:Nat->Value,∀(j:Nat) a,(flat xs)[j]? = some a->((c.kill id).cellP B (0+j) (f j)/\(f j).oneCell'=true)/\Rel (c.kill id) a (f j):=by
 obtain⟨B',cur,h1,h2,h3,h4⟩:=hs.blocks id _ hg
 rw[hρ]at h1;cases h1
 refine⟨h3,fun j=>cur.getD j undef,fun j a hj=>?_⟩
 obtain⟨u,h5,h6,h7⟩:=h4 j a hj
 have e:cur.getD j undef=u:=by rw[Qzr,h5];rfl
 show((c.kill id).cellP B (0+j) (cur.getD j undef)/\(cur.getD j undef).oneCell'=true)/\Rel (c.kill id) a (cur.getD j undef)
 rw[e]
 refine⟨⟨⟨by show c.w.cell? _=_;rw[Qyv,XC h2];exact h5,?_⟩,h6⟩,h7.ev hs (Ev.kill hg)⟩
 refine⟨hs.lt hg rfl hρ,fun id' b' hb' hl' hρ'=>?_⟩
 rcases Qf5 hb' with⟨rfl,rfl⟩|⟨hne,hb''⟩
 ·cases hl'
 ·exact absurd (hs.inj id' id b' _ B hb'' hg hl' rfl hρ' hρ) hne
theorem QdN{c:Cx}(hs:St c){id B ty s lo len cap:Nat}{xs:List AV}(hg:c.h[id]? = some (.cells ty s xs))(hρ:c.ρ id=some B)(hl:lo+len<=xs.length)(h2:len<=cap)(h3:cap<=maxLen) :
  Rel (c.kill id) (.sl s ((xs.drop lo).take len) none) (.slice (some ⟨B,lo * s,none⟩) len cap):=by
 obtain⟨h4,f,h5⟩:=QfH hs hg hρ
 have hlen:((xs.drop lo).take len).length=len:=by simp;omega
 have hdrop:∀y∈xs.drop lo,y.cells.length=s:=fun y hy=>h4 y (QzZ hy)
 have hget:∀(j:Nat) a,(flat ((xs.drop lo).take len))[j]? = some a->(flat xs)[lo * s+j]? = some a:=by
  intro j a hj
  rw[Zx hdrop (by simp;omega)]at hj
  have hlt:=Qf hj
  rw[QzE]at hlt
  rw[Qzx (by omega),QaA h4 (by omega),QzO]at hj
  exact hj
 have:=Rel.sl (c:=c.kill id) s ((xs.drop lo).take len) none B (lo * s) cap (fun j=>f (lo * s+j)) (fun y hy=>hdrop y (QAa hy)) (by omega) h3
  (fun j a hj=>by have:=(h5 _ a (hget j a hj)).1;rwa [Qyv]at this) (fun j a hj=>(h5 _ a (hget j a hj)).2) (fun b hb=>by cases hb)
 rwa [hlen]at this
theorem Kill.rel{c:Cx}(hs:St c){id ty s:Nat}{xs:List AV}(hb:c.h[id]? = some (.cells ty s xs)){a a':AV}(h:Kill c.h id a a'){x:Value}(hr:Rel c a x):Rel (c.kill id) a' x:=by
 cases h with
 |keep=>exact hr.ev hs (Ev.kill hb)
 |arr hg hl =>
  cases hr with
  |arr _ _ _ x hid ho h1 =>
   obtain⟨B,cap,hρ,rfl,h2,h3,_⟩:=h1 _ _ _ hg
   exact QdN hs hg hρ hl h2 h3
 |row hg hl =>
  cases hr with
  |row _ _ _ _ x hid ho h1 =>
   obtain⟨B,cur,hρ,rfl,h2,h3,_⟩:=h1 _ _ _ hg
   exact QdN hs hg hρ hl h2 h3
theorem Qea{P:Program}{N:Nat}{base:Bs×Fence}{ops:Array Oper}{F:Fence}{n:Nat}(hF:WF F){Qx:Exit->Act->World->Prop}{KK:Act->World->Prop}{tr:List Tr}{tm0:Nat->AV}{h0:AH}{A:Nat->Nat->Prop}(hruns:Runs P N ops tr tm0 h0)
  (hpw:tr.Pairwise (fun a b=>clash ops a.o b.o a.c b.c=true->A a.i b.i)) (hnd:(tr.map (·.i)).Nodup) (hkind:∀t∈tr,kindOk t.o t.c=true)
  {listed:Array Bool} {c:Cx} {a:Act} {i:Nat} {t:Tr} (hi:i∈Region.ready .any ops listed) (ht:t∈tr) (hti:t.i=i) (hsz:listed.size=ops.size)
  (hA:∀i j,A i j->listed.getD j false=true->listed.getD i false=true) (hA':∀i' j,A i' j->(listed.setIfInBounds i true).getD j false=true->(listed.setIfInBounds i true).getD i' false=true)
  (hst:St c) (hr:SR N base c ⟨tmS N (fun i=>listed.getD i false) tr tm0,hS (fun i=>listed.getD i false) tr h0⟩ a)
  (hnext:∀c' a',Ev c c'->St c'->SR N base c' ⟨tmS N (fun j=>(listed.setIfInBounds i true).getD j false) tr tm0,hS (fun j=>(listed.setIfInBounds i true).getD j false) tr h0⟩ a'->KK a' c'.w) :
  wpOpIn F n P ops Qx i KK a c.w:=by
 obtain⟨h1,o,ho,hedge⟩:=mem_ready.1 hi
 have hlt:i<ops.size:=(Qzs.1 ho).1
 have hSi:listed.getD i false=false:=by
  rw[Qzr,Qzv (by omega)]at h1 ⊢
  simpa using h1
 subst hti
 obtain⟨pre,post,htr⟩:=List.append_of_mem ht
 have hto:t.o=o:=by
  have:=Qds hruns t ht
  rw[ho]at this;cases this;rfl
 subst hto
 -- the set with it
 have hS':∀j,(listed.setIfInBounds t.i true).getD j false=(decide (j=t.i)||listed.getD j false):=fun j=>QaQ (by omega)
 have hanc:∀j,A j t.i->j≠t.i->listed.getD j false=true:=fun j hj hne=>by
  have h2:(listed.setIfInBounds t.i true).getD j false=true:=hA' _ _ hj (by rw[hS'];simp)
  rw[hS']at h2
  simpa [hne]using h2
 have hnot:∀j,A t.i j->listed.getD j false=false:=fun j hj=>by
  cases hb:listed.getD j false with
  |false=>rfl
  |true=>have:=hA _ _ hj hb;rw[hSi]at this;cases this
 -- the others
 have hne:∀b,b∈pre\/b∈post->b.i≠t.i:=by
  rw[htr]at hnd
  simp only[Qz3,Qyy]at hnd
  obtain⟨n1,n2,n3⟩:=List.nodup_append.1 hnd
  intro b hb e
  rcases hb with hb|hb
  ·exact n3 b.i (QzD.2 ⟨b,hb,rfl⟩) t.i (by simp) e
  ·exact(QA9.1 n2).1 (QzD.2 ⟨b,hb,e⟩)
 rw[htr]at hpw
 obtain⟨p1,p2,p3⟩:=List.pairwise_append.1 hpw
 obtain⟨p4,p5⟩:=QAZ.1 p2
 have hpre:∀b∈pre,clash ops b.o t.o b.c t.c=true->listed.getD b.i false=true:=fun b hb hcl=>hanc _ (p3 b hb t (by simp) hcl) (hne b (.inl hb))
 have hpost:∀b∈post,clash ops t.o b.o t.c b.c=true->listed.getD b.i false=false:=fun b hb hcl=>hnot _ (p4 b hb hcl)
 have hsame:∀b,b∈pre\/b∈post->(listed.setIfInBounds t.i true).getD b.i false=listed.getD b.i false:=fun b hb=>by
  rw[hS'];simp[hne b hb]
 -- what it looks at
 have hsplit:=hruns
 rw[htr]at hsplit
 have hs2:=Runs.split hsplit
 have hstep:StepA P ops (tmS N (fun _=>true) pre tm0) (hS (fun _=>true) pre h0) t.c t.o t.r t.h':=by cases hs2 with|cons _ _ _ _ _ _ hs _=>exact hs
 have hk:kindOk t.o t.c=true:=hkind t ht
 have hreads:∀x∈readsOf ops t.o,tmS N (fun i=>listed.getD i false) tr tm0 x=tmS N (fun _=>true) pre tm0 x:=by
  intro x hx
  rw[htr,Qbu,Z9]
  ·refine QaT rfl fun b hb hbd=>hpre b hb ?_
   unfold clash;rw[hbd];simp[hx]
  ·intro b hb hbS hbd
   rcases Qzn.1 hb with rfl|hb
   ·rw[hSi]at hbS;cases hbS
   ·rw[hpost b hb (by unfold clash;rw[hbd];simp[hx])]at hbS;cases hbS
 have hclash2:∀b∈pre,2<=b.c->t.c≠1->listed.getD b.i false=true:=fun b hb h2 ht1=>hpre b hb (by unfold clash;simp[h2,ht1])
 have hheapPre:t.c≠1->hS (fun i=>listed.getD i false) pre h0=hS (fun _=>true) pre h0:=fun ht1=>QbK fun b hb h2=>hclash2 b hb h2 ht1
 have hh:(2<=t.c/\hS (fun i=>listed.getD i false) tr h0=hS (fun _=>true) pre h0)\/(t.c<2/\(t.c=1\/Keep (hS (fun _=>true) pre h0) (hS (fun i=>listed.getD i false) tr h0))):=by
  by_cases hc2:2<=t.c
  ·refine .inl ⟨hc2,?_⟩
   rw[htr,Qb0,Qbp,hheapPre (by omega)]
   intro b hb hbc
   rcases Qzn.1 hb with rfl|hb
   ·exact hSi
   ·have h1:b.c≠1:=by omega
    exact hpost b hb (by unfold clash;simp[hc2,h1])
  ·refine .inr ⟨by omega,?_⟩
   by_cases hc1:t.c=1
   ·exact .inl hc1
   ·refine .inr ?_
    rw[htr,Qb0,hheapPre hc1]
    refine Runs.keep hs2 ?_ ?_
    ·intro b hb hbc hbS
     rcases Qzn.1 hb with rfl|hb
     ·exact(hc2 hbc).elim
     ·cases hadd:((Qd9 b.o.op&&b.c != 4)||b.c==3)with
      |true=>rfl
      |false =>
       rw[hpost b hb (by unfold clash;rw[hadd];simp[hc1,hc2,hbc])]at hbS;cases hbS
    ·refine p2.imp ?_
     intro x y hxy hx hy hyS
     have h1:y.c≠1:=by omega
     exact hA _ _ (hxy (by unfold clash;simp[hx,h1])) hyS
 -- the state behind it
 have hpreS:tmS N (fun i=>(listed.setIfInBounds t.i true).getD i false) pre tm0=tmS N (fun i=>listed.getD i false) pre tm0:=funext fun x=>QaT rfl fun b hb _=>hsame b (.inl hb)
 have hpreH:hS (fun i=>(listed.setIfInBounds t.i true).getD i false) pre h0=hS (fun i=>listed.getD i false) pre h0:=QbK fun b hb _=>hsame b (.inl hb)
 have hSt:(listed.setIfInBounds t.i true).getD t.i false=true:=by rw[hS'];simp
 have hstm:tmS N (fun i=>(listed.setIfInBounds t.i true).getD i false) tr tm0=putT N (tmS N (fun i=>listed.getD i false) tr tm0) t.o.dst t.r:=by
  funext x
  rw[htr,Qbu,Qbu,hpreS]
  simp only[tmS,hSt,hSi,QAj,Qyn,Qz5]
  by_cases hdx:t.o.dst=some x
  ·have hskip:∀b∈post,b.o.dst=some x->listed.getD b.i false=false:=fun b hb hbd=>hpost b hb (by unfold clash;rw[hdx,hbd];simp)
   rw[Z9 (fun b hb hbS hbd=>by rw[hsame b (.inr hb),hskip b hb hbd]at hbS;cases hbS)]
   have e:=Z9 (N:=N) (S:=fun i=>listed.getD i false) (x:=x) (l:=post) (f:=tmS N (fun i=>listed.getD i false) pre tm0) (fun b hb hbS hbd=>by rw[hskip b hb hbd]at hbS;cases hbS)
   exact Qfe (fun _=>e.symm) (.inl e.symm)
  ·rw[Qff hdx]
   exact QaT (Qff hdx) fun b hb _=>hsame b (.inr hb)
 have hshp:hS (fun i=>(listed.setIfInBounds t.i true).getD i false) tr h0=if 2<=t.c then t.h' else hS (fun i=>listed.getD i false) tr h0:=by
  rw[htr,Qb0,Qb0,hpreH]
  simp only[hS,hSt,hSi,Qy3,QAv,Qyn,Qz5,Qzu]
  by_cases hc2:2<=t.c
  ·rw[Qzh hc2,Qzh hc2]
   refine Qbp fun b hb hbc=>?_
   rw[hsame b (.inr hb)]
   have h1:b.c≠1:=by omega
   exact hpost b hb (by unfold clash;simp[hc2,h1])
  ·rw[Qzf hc2,Qzf hc2]
   exact QbK fun b hb _=>hsame b (.inr hb)
 have next:∀c' a',Ev c c'->St c'->SR N base c' (AS.put N ⟨tmS N (fun i=>listed.getD i false) tr tm0,if 2<=t.c then t.h' else hS (fun i=>listed.getD i false) tr h0⟩ t.o.dst t.r) a' ->
   KK a' c'.w:=by
  intro c' a' hev hst' hr'
  rw[put_eq,<-hstm,<-hshp]at hr'
  exact hnext c' a' hev hst' hr'
 unfold wpOpIn
 simp only[ho]
 rcases hstep.turn hk hreads hh N with⟨hw,hru,hhe⟩|⟨hw,hop|hop⟩
 ·rw[Q7 hr hw]
  simp only[Qyn,Qz5]
  refine⟨fun f _=>hF.fn f,?_⟩
  have hr':=hr.put hst (Ev.refl c) t.o.dst (.v undef)
  rw[hr.h]at hr'
  refine next c _ (Ev.refl c) hst ?_
  rw[hhe,hru]
  exact hr'
 ·rw[Q7 hr hw]
  simp only[QAj]
  refine QcY (hop (fun s'=>s'=AS.put N ⟨tmS N (fun i=>listed.getD i false) tr tm0,if 2<=t.c then t.h' else hS (fun i=>listed.getD i false) tr h0⟩ t.o.dst t.r) (fun _ _=>False) rfl) hF hst hr ?_ ?_
  ·intro s' c' a' hs hev hst' hr'
   subst hs
   exact next c' a' hev hst' hr'
  ·intro r s' c' x hf
   exact hf.elim
 ·rw[Q7 hr hw]
  simp only[QAj]
  refine Qi0 (K:=fun s'=>s'=AS.put N ⟨tmS N (fun i=>listed.getD i false) tr tm0,if 2<=t.c then t.h' else hS (fun i=>listed.getD i false) tr h0⟩ t.o.dst t.r) hop rfl hF hst hr ?_
  intro s' c' a' hs hev hst' hr'
  subst hs
  exact next c' a' hev hst' hr'
def AncX(ops:Array Oper)(x y i j:Nat):Prop:=Anc ops i j\/((i=x\/Anc ops i x)/\(j=y\/Anc ops y j))
theorem AncX.good{ops:Array Oper}{x y:Nat}{S:Nat->Bool}(hd:Down ops S)(hxy:S y=true->S x=true){i j:Nat}(h:AncX ops x y i j)(hj:S j=true):S i=true:=by
 rcases h with h|⟨h1,h2⟩
 ·exact hd.anc h hj
 ·have hy:S y=true:=by
   rcases h2 with rfl|h2
   ·exact hj
   ·exact hd.anc h2 hj
  rcases h1 with rfl|h1
  ·exact hxy hy
  ·exact hd.anc h1 (hxy hy)
structure FitX (ops:Array Oper) (x y:Nat) (tr:List Tr):Prop where
 len:tr.length=ops.size
 pairs:tr.Pairwise (fun a b=>clash ops a.o b.o a.c b.c=true->AncX ops x y a.i b.i)
 topo:topo ops [] (tr.map fun t=>(t.i,t.c))=true
 nodup:(tr.map (·.i)).Nodup
 all:∀i,i<ops.size->∃t∈tr,t.i=i
 kind:∀t∈tr,kindOk t.o t.c=true
theorem QgJ{ops:Array Oper}{listed:Array Bool}{i:Nat}(hsz:listed.size=ops.size)(hd:Down ops (fun j=>listed.getD j false))(hi:i∈Region.ready .any ops listed):Down ops (fun j=>(listed.setIfInBounds i true).getD j false):=by
 obtain⟨h1,o,ho,hedge⟩:=mem_ready.1 hi
 have hlt:i<ops.size:=(Qzs.1 ho).1
 have hS':∀j,(listed.setIfInBounds i true).getD j false=(decide (j=i)||listed.getD j false):=fun j=>QaQ (by omega)
 intro j oj hoj hj e he hb
 dsimp only at hj ⊢
 rw[hS']at hj ⊢
 by_cases hji:j=i
 ·subst hji
  rw[ho]at hoj;cases hoj
  rw[hedge e he hb];simp
 ·have:listed.getD j false=true:=by simpa [hji]using hj
  have h2:listed.getD e.on false=true:=hd j oj hoj this e he hb
  rw[h2];simp
theorem QeZ{ops:Array Oper}{listed:Array Bool}{i fuel:Nat}{tr:List Tr}(hsz:listed.size=ops.size)(hall:∃t∈tr,t.i=i)(hi:i∈Region.ready .any ops listed)(hc:tr.countP (fun t=>!listed.getD t.i false)<=fuel+1) :
  tr.countP (fun u=>!(listed.setIfInBounds i true).getD u.i false)<=fuel:=by
 obtain⟨h1,o,ho,_⟩:=mem_ready.1 hi
 have hlt:i<ops.size:=(Qzs.1 ho).1
 have hS':∀j,(listed.setIfInBounds i true).getD j false=(decide (j=i)||listed.getD j false):=fun j=>QaQ (by omega)
 have hSi:listed.getD i false=false:=by
  rw[Qzr,Qzv (by omega)]at h1 ⊢
  simpa using h1
 obtain⟨t,ht,rfl⟩:=hall
 obtain⟨pre,post,rfl⟩:=List.append_of_mem ht
 have le:∀l:List Tr,l.countP (fun u=>!(listed.setIfInBounds t.i true).getD u.i false)<=l.countP (fun u=>!listed.getD u.i false):=fun l =>
  List.countP_mono_left fun u _ hu=>by rw[hS']at hu;revert hu;cases listed.getD u.i false <;> simp
 have l1:=le pre
 have l2:=le post
 simp only[List.countP_append,List.countP_cons,hS' t.i,hSi,QyP,QAF,QyG,QyH,Qyn,Qz5,QAj]at hc ⊢
 omega
theorem QfW{N:Nat}{base:Bs×Fence}{Qx:Exit->Act->World->Prop}{tr:List Tr}{tm0:Nat->AV}{h0:AH}{listed:Array Bool}{c:Cx}{a:Act}(hst:St c)
  (hr:SR N base c ⟨tmS N (fun i=>listed.getD i false) tr tm0,hS (fun i=>listed.getD i false) tr h0⟩ a)
  (hQ:∀c' a',Ev c c'->St c'->SR N base c' ⟨tmS N (fun _=>true) tr tm0,hS (fun _=>true) tr h0⟩ a'->Qx .normal a' c'.w) (hl:∀t∈tr,listed.getD t.i false=true):Qx .normal a c.w:=by
 refine hQ c a (Ev.refl c) hst ?_
 have e1:tmS N (fun i=>listed.getD i false) tr tm0=tmS N (fun _=>true) tr tm0:=funext fun x=>QaT rfl fun t ht _=>hl t ht
 have e2:hS (fun i=>listed.getD i false) tr h0=hS (fun _=>true) tr h0:=QbK fun t ht _=>hl t ht
 rw[e1,e2]at hr
 exact hr
theorem any_zero{ops:Array Oper}{listed:Array Bool}{tr:List Tr}(hsz:listed.size=ops.size)(hall:∀i,i<ops.size->∃t∈tr,t.i=i)(hl:∀t∈tr,listed.getD t.i false=true):Region.ready .any ops listed=[]:=by
 cases hrd:Region.ready .any ops listed with
 |nil=>rfl
 |cons i l =>
  have hi:i∈Region.ready .any ops listed:=by rw[hrd];simp
  obtain⟨h1,o,ho,_⟩:=mem_ready.1 hi
  have hlt:i<ops.size:=(Qzs.1 ho).1
  obtain⟨t,ht,rfl⟩:=hall i hlt
  have:=hl t ht
  rw[Qzr,Qzv (by omega)]at this h1
  simp only[QA6]at this h1
  rw[this]at h1;cases h1
theorem Runs.append{P:Program}{N:Nat}{ops:Array Oper}:∀{l m:List Tr} {tm:Nat->AV} {h:AH},Runs P N ops l tm h->Runs P N ops m (tmS N (fun _=>true) l tm) (hS (fun _=>true) l h)->Runs P N ops (l++m) tm h
 |[],m,tm,h,_,H=>H
 |t::l,m,tm,h,H,H2=>by
  cases H with
  |cons t l tm h ho hk hs hl =>
   refine .cons t (l++m) tm h ho hk hs (Runs.append hl ?_)
   simpa only[tmS,hS,QAj,Qy3,Qzu]using H2
def behind(ops:Array Oper)(x y i:Nat):Bool:=i==x||i==y||((masks ops.toList []).getD i 0).testBit x||((masks ops.toList []).getD i 0).testBit y
def Qqt(ops:Array Oper)(π:List (Nat×Nat)):Bool:=π.all fun p=>match ops[p.1]? with|some o=>kindOk o p.2|none=>false
end Go.Proofs.YtenheconhibonaaGreatDoor.Ab
namespace Go.Proofs.YtenheconhibonaaGreatDoor.Ab
inductive Alt where
 |done
 |stop
 |alt (i c:Nat) (sub more:Alt)
section
variable(P:Program)(N:Nat)(ops:Array Oper)(K:AS->Prop)(s:AS)
end
theorem Qgs{P:Program}{N:Nat}{ops:Array Oper}{K:AS->Prop}:∀(l1 l2:List (Nat×Nat)),AnyW P N ops (l1++l2) K=AnyW P N ops l1 (AnyW P N ops l2 K)
 |[],l2=>funext fun s=>rfl
 |p::l1,l2=>by
  funext s
  show(match ops[p.1]? with|some o=>AnyO P N ops p.2 o s (AnyW P N ops (l1++l2) K)|none=>False)=(match ops[p.1]? with|some o=>AnyO P N ops p.2 o s (AnyW P N ops l1 (AnyW P N ops l2 K))|none=>False)
  rw[Qgs l1 l2]
theorem Qpr{P:Program}{N:Nat}{ops:Array Oper}{l:List (Nat×Nat)}{K:AS->Prop}{s:AS}(k:Nat)(h:∀K':AS->Prop,(∀s,AnyW P N ops (l.drop k) K s->K' s)->AnyW P N ops (l.take k) K' s):AnyW P N ops l K s:=by
 have:=h (AnyW P N ops (l.drop k) K) fun s hs=>hs
 rw[<-Qgs,Qz1]at this
 exact this
theorem Qeg{P:Program}{N:Nat}{x y:Code}{Q:AExit->AS->Prop}{s:AS}(J:AS->Prop)(h1:∀s,J s->Xs P N y Q s)(h2:Xs P N x (AExit.then J Q) s):Xs P N (.seq x y) Q s:=by
 refine Qav (h2.mono fun e s' hq=>?_)
 cases e with
 |normal=>exact h1 s' hq
 |_=>exact hq
end Go.Proofs.YtenheconhibonaaGreatDoor.Ab
namespace Go.Proofs.YtenheconhibonaaGreatDoor.Ab
class CT where
 c:Code
 q:AExit->AS->Prop
def KW(P:Program)(N:Nat)[t:CT](s:AS):Prop:=match t with|⟨c,q⟩=>Xs P N c q s
def Qd6(P:Program)(N:Nat)[t:CT]:AExit->AS->Prop:=match t with|⟨c,q⟩=>AExit.then (Xs P N c q) q
class PT where
 q:AExit->AS->Prop
def PanE[t:PT](r:AV)(s:AS):Prop:=match t with|⟨q⟩=>q (.panic r) s
def NorE[t:PT](s:AS):Prop:=match t with|⟨q⟩=>q .normal s
class LT where
 h:AH
 q:AOut->AH->Prop
def Qpk[t:LT](h':AH)(r:AV):Prop:=match t with|⟨h,q⟩=>Leaves h h' r fun r h'=>q (.ret r) h'
def QtC[t:LT](h':AH)(r:AV):Prop:=match t with|⟨h,q⟩=>Leaves h h' r fun r h'=>q (.panic r) h'
def NW(P:Program)(N:Nat):Code->(AExit->AS->Prop)->AS->Prop
 | .seq (.region _ ops false) y,Q,s=>OpsW P N ops ops.toList (@KW P N ⟨y,Q⟩) (@PanE ⟨Q⟩) s
 | .seq x y,Q,s=>@KW P N ⟨x,@Qd6 P N ⟨y,Q⟩⟩ s
 | .region _ ops false,Q,s=>OpsW P N ops ops.toList (@NorE ⟨Q⟩) (@PanE ⟨Q⟩) s
 | .block iD x,Q,s=>@KW P N ⟨x,(AExit.inBlock iD Q)⟩ s
 | .scope x,Q,s=>@KW P N ⟨x,Q⟩ s
 | .skip,Q,s=>Q .normal s
 | .label _,Q,s=>Q .normal s
 | .exit iD,Q,s=>Q (.exit iD) s
 | .ret,Q,s=>Q .ret s
 | .cond o x y,Q,s=>∃t,s.ev o = .v (.bool t)/\@KW P N ⟨(if t then x else y),Q⟩ s
 |c,Q,s=>Xs P N c Q s
theorem Qa{P:Program}{N:Nat}{c:Code}{Q:AExit->AS->Prop}{s:AS}(h:NW P N c Q s):Xs P N c Q s:=by
 unfold NW at h
 split at h
 ·exact Qav (Qai h)
 ·exact Qav h
 ·exact Qai h
 ·exact QA h
 ·exact QgD h
 ·exact Xu h
 ·exact QdT h
 ·exact Qah h
 ·exact YH h
 ·obtain⟨t,h1,h2⟩:=h;exact Qw h1 h2
 ·exact h
section
variable(P:Program)(N:Nat)(Q:AExit->AS->Prop)(s:AS)(x y:Code)(iD:Nat)(ops:Array Oper)
@[go_sem ↓] theorem Qxq:NW P N (.seq (.region iD ops false) y) Q s=OpsW P N ops ops.toList (@KW P N ⟨y,Q⟩) (@PanE ⟨Q⟩) s:=id rfl
@[go_sem ↓] theorem Qxf (a b:Code):NW P N (.seq (.seq a b) y) Q s=@KW P N ⟨(.seq a b),@Qd6 P N ⟨y,Q⟩⟩ s:=id rfl
@[go_sem ↓] theorem Qxg  : NW P N (.seq (.block iD x) y) Q s=@KW P N ⟨(.block iD x),@Qd6 P N ⟨y,Q⟩⟩ s:=id rfl
@[go_sem ↓] theorem Qxh (o:Operand) (a b:Code):NW P N (.seq (.cond o a b) y) Q s=@KW P N ⟨(.cond o a b),@Qd6 P N ⟨y,Q⟩⟩ s:=id rfl
@[go_sem ↓] theorem Qxi  : NW P N (.seq (.loop x) y) Q s=@KW P N ⟨(.loop x),@Qd6 P N ⟨y,Q⟩⟩ s:=id rfl
@[go_sem ↓] theorem Qxj  : NW P N (.seq (.scope x) y) Q s=@KW P N ⟨(.scope x),@Qd6 P N ⟨y,Q⟩⟩ s:=id rfl
@[go_sem ↓] theorem Qxk  : NW P N (.seq .skip y) Q s=@KW P N ⟨.skip,@Qd6 P N ⟨y,Q⟩⟩ s:=id rfl
@[go_sem ↓] theorem Qxl (l:Nat):NW P N (.seq (.label l) y) Q s=@KW P N ⟨(.label l),@Qd6 P N ⟨y,Q⟩⟩ s:=id rfl
@[go_sem ↓] theorem Qxm (f:Operand) (ps:Array Tmp) (a b:Code):NW P N (.seq (.rangeFunc f ps a b) y) Q s=@KW P N ⟨(.rangeFunc f ps a b),@Qd6 P N ⟨y,Q⟩⟩ s:=id rfl
@[go_sem ↓] theorem Qxn  : NW P N (.seq (.region iD ops true) y) Q s=@KW P N ⟨(.region iD ops true),@Qd6 P N ⟨y,Q⟩⟩ s:=id rfl
@[go_sem ↓] theorem QwL:@Qd6 P N ⟨y,Q⟩ .normal s=@KW P N ⟨y,Q⟩ s:=id rfl
@[go_sem ↓] theorem QwN:@Qd6 P N ⟨y,Q⟩ .ret s=Q .ret s:=id rfl
@[go_sem ↓] theorem QwK:@Qd6 P N ⟨y,Q⟩ (.exit iD) s=Q (.exit iD) s:=id rfl
@[go_sem ↓] theorem QwM (r:AV):@Qd6 P N ⟨y,Q⟩ (.panic r) s=Q (.panic r) s:=id rfl
@[go_sem ↓] theorem Qw9 (r:AV):@PanE ⟨Q⟩ r s=Q (.panic r) s:=id rfl
@[go_sem ↓] theorem Qw8:@NorE ⟨Q⟩ s=Q .normal s:=id rfl
@[go_sem ↓] theorem nw_r:NW P N (.region iD ops false) Q s=OpsW P N ops ops.toList (@NorE ⟨Q⟩) (@PanE ⟨Q⟩) s:=id rfl
@[go_sem ↓] theorem nw_b:NW P N (.block iD x) Q s=@KW P N ⟨x,(AExit.inBlock iD Q)⟩ s:=id rfl
@[go_sem ↓] theorem Qxo:NW P N (.scope x) Q s=@KW P N ⟨x,Q⟩ s:=id rfl
@[go_sem ↓] theorem Qxp:NW P N .skip Q s=Q .normal s:=id rfl
@[go_sem ↓] theorem Qxd (l:Nat):NW P N (.label l) Q s=Q .normal s:=id rfl
@[go_sem ↓] theorem Qxc:NW P N (.exit iD) Q s=Q (.exit iD) s:=id rfl
@[go_sem ↓] theorem Qxe:NW P N .ret Q s=Q .ret s:=id rfl
@[go_sem ↓] theorem Qxb {o:Operand} (h:s.ev o = .v (.bool true)):NW P N (.cond o x y) Q s=@KW P N ⟨x,Q⟩ s:=by
 simp only[NW,h];exact propext ⟨fun⟨_,e,k⟩=>by cases e;exact k,fun k=>⟨true,rfl,k⟩⟩
@[go_sem ↓] theorem Qxa {o:Operand} (h:s.ev o = .v (.bool false)):NW P N (.cond o x y) Q s=@KW P N ⟨y,Q⟩ s:=by
 simp only[NW,h];exact propext ⟨fun⟨_,e,k⟩=>by cases e;exact k,fun k=>⟨false,rfl,k⟩⟩
end
section
variable(P:Program)(rs:List ResultVar)(h:AH)(Q:AOut->AH->Prop)(s:AS)
@[go_sem ↓] theorem Qw5:Zr P rs h Q .normal s=∃r,Xf P s rs=some r/\@Qpk ⟨h,Q⟩ s.h r:=id rfl
@[go_sem ↓] theorem Qw7:Zr P rs h Q .ret s=∃r,Xf P s rs=some r/\@Qpk ⟨h,Q⟩ s.h r:=id rfl
@[go_sem ↓] theorem Qw6 (x:AV):Zr P rs h Q (.panic x) s=@QtC ⟨h,Q⟩ s.h x:=id rfl
end
class OCt where
 ops:Array Oper
 l:List Oper
 k:AS->Prop
 e:AV->AS->Prop
def OW(P:Program)(N:Nat)[t:OCt](s:AS):Prop:=match t with|⟨ops,l,k,e⟩=>OpsW P N ops l k e s
section
variable{P:Program}{N:Nat}{Q:AExit->AS->Prop}{s:AS}{y:Code}{iD:Nat}{ops:Array Oper}{l:List Oper}{K0:AS->Prop}{E:AV->AS->Prop}
theorem owN(h:K0 s):@OW P N ⟨ops,[],K0,E⟩ s:=h
theorem owK(h:∀K:AS->Prop,(∀s,@OW P N ⟨ops,List.drop 6 l,K0,E⟩ s->K s)->OpsW P N ops (List.take 6 l) K E s):@OW P N ⟨ops,l,K0,E⟩ s :=
 Qy 6 h
theorem nwcS(h:∀K:AS->Prop,(∀s,@OW P N ⟨ops,List.drop 6 ops.toList,@KW P N ⟨y,Q⟩,@PanE ⟨Q⟩⟩ s->K s)->OpsW P N ops (List.take 6 ops.toList) K (@PanE ⟨Q⟩) s):Xs P N (.seq (.region iD ops false) y) Q s :=
 Qav (Qai (Qy 6 h))
theorem nwcR(h:∀K:AS->Prop,(∀s,@OW P N ⟨ops,List.drop 6 ops.toList,@NorE ⟨Q⟩,@PanE ⟨Q⟩⟩ s->K s)->OpsW P N ops (List.take 6 ops.toList) K (@PanE ⟨Q⟩) s):Xs P N (.region iD ops false) Q s :=
 Qai (Qy 6 h)
end
class JT where
 j:AS->Prop
def Hold[t:JT](s:AS):Prop:=match t with|⟨j⟩=>j s
theorem XT{P:Program}{N:Nat}{x y:Code}{Q:AExit->AS->Prop}{s:AS}(J:AS->Prop)(h1:∀s,J s->Xs P N y Q s)(h2:Xs P N x (AExit.then (@Hold ⟨J⟩) Q) s):Xs P N (.seq x y) Q s:=Qeg J h1 h2
section
variable(K:AS->Prop)(Q:AExit->AS->Prop)(s:AS)(i:Nat)(x:AV)
@[go_sem ↓] theorem QwP:AExit.then K Q .normal s=K s:=id rfl
@[go_sem ↓] theorem QwR:AExit.then K Q .ret s=Q .ret s:=id rfl
@[go_sem ↓] theorem QwO:AExit.then K Q (.exit i) s=Q (.exit i) s:=id rfl
@[go_sem ↓] theorem QwQ:AExit.then K Q (.panic x) s=Q (.panic x) s:=id rfl
@[go_sem ↓] theorem Qv1:AExit.inBlock i Q .normal s=Q .normal s:=id rfl
@[go_sem ↓] theorem Qv3:AExit.inBlock i Q .ret s=Q .ret s:=id rfl
@[go_sem ↓] theorem Qv2:AExit.inBlock i Q (.panic x) s=Q (.panic x) s:=id rfl
end
@[go_sem ↓] theorem QuZ (i:Nat) (Q:AExit->AS->Prop) (s:AS):AExit.inBlock i Q (.exit i) s=Q .normal s:=Qzh rfl
@[go_sem ↓] theorem QuR {i j:Nat} (Q:AExit->AS->Prop) (s:AS) (h:(j==i)=false):AExit.inBlock i Q (.exit j) s=Q (.exit j) s:=Qzf (by simpa using h)
attribute [go_sem ↓] Qzh Qzf Qa5 Qap Qbq QvE QaC QvD Zf QvJ QvH Qlv QvI QvF QvG QjY QjZ Qc0 Qd0
attribute [go_sem] X6 XK YF Qr Qi QyZ Qy0 QcA Z5 Qa9 Ql XZ Xc Q5 Ye YN Qac XV Yd XA Qba Qz List.getD_cons_zero List.getD_cons_succ QD Zk YB Y7 Xe Y5 Zn Z4 Y6 QK Zz YD Zd YM Zb Zo Z7 Zc List.all_cons List.all_nil QU Yv QX Xh YZ XH XG Xp Xb Y0 Xd YX Zm Z3 YY Bool.and_self Bool.and_true Qy3 Bool.not_true Bool.not_false Qyw Qyx Qyv QyI true_and and_true and_self XP hget Qaa hset hlen happ Qyj Qyk List.getElem?_nil List.set_cons_zero List.set_cons_succ Option.map_some Option.map_none Option.bind_some Option.bind_none Option.some.injEq List.toList_toArray List.getElem?_toArray List.map_cons List.map_nil QyL QyK QyM List.take_succ_cons List.take_zero List.drop_succ_cons QyA decide_true decide_false beq_self_eq_true bne_self_eq_false Int.toNat_natCast Int.toNat_zero Int.toNat_one Int.natCast_nonneg Int.ofNat_lt Int.ofNat_le Int.natCast_zero Bool.false_eq_true Bool.true_eq_false beq_true beq_false rng0 rng1 rng2 rng3 rng4 rng5 rng6 rng7 rng8 Ym Qzy QAs T.Qxs T.Qxt Yj Xx Qn OpW Yx aop undef Qa2 AS.ev Xm AV.Qxu Qm Xt Xv Zt XS QM aBin Qm0 Qbg Qif Qdz QT aLen QbG Qbd goInt QR QdR Xf YE List.drop_nil List.take_nil exists_eq_left' QAB List.mapM_nil Option.pure_def Option.bind_eq_bind Int.sub_zero Int.le_refl Qbl Qaf
end Go.Proofs.YtenheconhibonaaGreatDoor.Ab
namespace Go.Proofs.YtenheconhibonaaGreatDoor.Ab
open Go.Proofs
theorem ti0:Xa Tryz.prog 0=some (false,1):=by kernel_rfl
theorem zi0:Xi Tryz.prog 0=some (.v (.tuple #[])):=by kernel_rfl
theorem ti1:Xa Tryz.prog 1=some (false,1):=by kernel_rfl
theorem zi1:Xi Tryz.prog 1=some (.v .nilFunc):=by kernel_rfl
theorem ti3:Xa Tryz.prog 3=some (false,1):=by kernel_rfl
theorem zi3:Xi Tryz.prog 3=some (.v (.int .i64 0)):=by kernel_rfl
theorem un3:Program.underlying Tryz.prog 3=some (.int .i64):=by kernel_rfl
theorem ti4:Xa Tryz.prog 4=some (false,1):=by kernel_rfl
theorem zi4:Xi Tryz.prog 4=some (.v (.bool false)):=by kernel_rfl
theorem un4:Program.underlying Tryz.prog 4=some .bool:=by kernel_rfl
theorem ti5:Xa Tryz.prog 5=some (false,1):=by kernel_rfl
theorem zi5:Xi Tryz.prog 5=some (.v (.int .u8 0)):=by kernel_rfl
theorem un5:Program.underlying Tryz.prog 5=some (.int .u8):=by kernel_rfl
theorem ti9:Xa Tryz.prog 9=some (false,1):=by kernel_rfl
theorem ei9:Q3 Tryz.prog 9=none:=by kernel_rfl
theorem zi9:Xi Tryz.prog 9=some (.v (.string ⟨#[]⟩)):=by kernel_rfl
theorem un9:Program.underlying Tryz.prog 9=some .string:=by kernel_rfl
theorem ti22:Xa Tryz.prog 22=some (false,1):=by kernel_rfl
theorem ei22:Q3 Tryz.prog 22=some (66,2):=by kernel_rfl
theorem ai22:appInfo Tryz.prog 22 22=some ⟨66,2,40⟩:=by kernel_rfl
theorem zi22:Xi Tryz.prog 22=some (.v (.slice none 0 0)):=by kernel_rfl
theorem un22:Program.underlying Tryz.prog 22=some (.slice 66):=by kernel_rfl
theorem ti23:Xa Tryz.prog 23=some (false,1):=by kernel_rfl
theorem ei23:Q3 Tryz.prog 23=some (53,3):=by kernel_rfl
theorem ai23:appInfo Tryz.prog 23 23=some ⟨53,3,48⟩:=by kernel_rfl
theorem zi23:Xi Tryz.prog 23=some (.v (.slice none 0 0)):=by kernel_rfl
theorem un23:Program.underlying Tryz.prog 23=some (.slice 53):=by kernel_rfl
theorem ti25:Xa Tryz.prog 25=some (true,6):=by kernel_rfl
theorem QbZ:fieldInfo Tryz.prog 25 0=some (0,9):=by kernel_rfl
theorem QaH:fieldInfo Tryz.prog 25 1=some (1,22):=by kernel_rfl
theorem QaY:fieldInfo Tryz.prog 25 2=some (2,22):=by kernel_rfl
theorem QdG:fieldInfo Tryz.prog 25 3=some (3,23):=by kernel_rfl
theorem Qel:fieldInfo Tryz.prog 25 4=some (4,23):=by kernel_rfl
theorem QgS:fieldInfo Tryz.prog 25 5=some (5,3):=by kernel_rfl
theorem zi25:Xi Tryz.prog 25=some (.agg [.v (.string ⟨#[]⟩),.v (.slice none 0 0),.v (.slice none 0 0),.v (.slice none 0 0),.v (.slice none 0 0),.v (.int .i64 0)]):=by kernel_rfl
theorem sp25:Xg Tryz.prog 25=some [(0,1),(1,1),(2,1),(3,1),(4,1),(5,1)]:=by kernel_rfl
theorem ti27:Xa Tryz.prog 27=some (false,1):=by kernel_rfl
theorem ei27:Q3 Tryz.prog 27=some (25,6):=by kernel_rfl
theorem ai27:appInfo Tryz.prog 27 27=some ⟨25,6,120⟩:=by kernel_rfl
theorem zi27:Xi Tryz.prog 27=some (.v (.slice none 0 0)):=by kernel_rfl
theorem un27:Program.underlying Tryz.prog 27=some (.slice 25):=by kernel_rfl
theorem ti33:Xa Tryz.prog 33=some (false,1):=by kernel_rfl
theorem ei33:Q3 Tryz.prog 33=some (38,2):=by kernel_rfl
theorem ai33:appInfo Tryz.prog 33 33=some ⟨38,2,24⟩:=by kernel_rfl
theorem un33:Program.underlying Tryz.prog 33=some (.slice 38):=by kernel_rfl
theorem ti35:Xa Tryz.prog 35=some (true,2):=by kernel_rfl
theorem Qu7:fieldInfo Tryz.prog 35 0=some (0,33):=by kernel_rfl
theorem Qu8:fieldInfo Tryz.prog 35 1=some (1,27):=by kernel_rfl
theorem zi35:Xi Tryz.prog 35=some (.agg [.v (.slice none 0 0),.v (.slice none 0 0)]):=by kernel_rfl
theorem sp35:Xg Tryz.prog 35=some [(0,1),(1,1)]:=by kernel_rfl
theorem ti38:Xa Tryz.prog 38=some (true,2):=by kernel_rfl
theorem Qu9:fieldInfo Tryz.prog 38 0=some (0,9):=by kernel_rfl
theorem Qva:fieldInfo Tryz.prog 38 1=some (1,3):=by kernel_rfl
theorem zi38:Xi Tryz.prog 38=some (.agg [.v (.string ⟨#[]⟩),.v (.int .i64 0)]):=by kernel_rfl
theorem sp38:Xg Tryz.prog 38=some [(0,1),(1,1)]:=by kernel_rfl
theorem ti42:Xa Tryz.prog 42=some (false,1):=by kernel_rfl
theorem ei42:Q3 Tryz.prog 42=some (3,1):=by kernel_rfl
theorem ai42:appInfo Tryz.prog 42 42=some ⟨3,1,8⟩:=by kernel_rfl
theorem zi42:Xi Tryz.prog 42=some (.v (.slice none 0 0)):=by kernel_rfl
theorem un42:Program.underlying Tryz.prog 42=some (.slice 3):=by kernel_rfl
theorem ti44:Xa Tryz.prog 44=some (false,1):=by kernel_rfl
theorem ei44:Q3 Tryz.prog 44=some (69,4):=by kernel_rfl
theorem ai44:appInfo Tryz.prog 44 44=some ⟨69,4,56⟩:=by kernel_rfl
theorem zi44:Xi Tryz.prog 44=some (.v (.slice none 0 0)):=by kernel_rfl
theorem un44:Program.underlying Tryz.prog 44=some (.slice 69):=by kernel_rfl
theorem ti48:Xa Tryz.prog 48=some (false,1):=by kernel_rfl
theorem ei48:Q3 Tryz.prog 48=some (9,1):=by kernel_rfl
theorem ai48:appInfo Tryz.prog 48 48=some ⟨9,1,16⟩:=by kernel_rfl
theorem zi48:Xi Tryz.prog 48=some (.v (.slice none 0 0)):=by kernel_rfl
theorem un48:Program.underlying Tryz.prog 48=some (.slice 9):=by kernel_rfl
theorem ti49:Xa Tryz.prog 49=some (false,1):=by kernel_rfl
theorem zi49:Xi Tryz.prog 49=some (.v (.int .i64 0)):=by kernel_rfl
theorem un49:Program.underlying Tryz.prog 49=some (.int .i64):=by kernel_rfl
theorem ti53:Xa Tryz.prog 53=some (true,3):=by kernel_rfl
theorem QdH:fieldInfo Tryz.prog 53 0=some (0,3):=by kernel_rfl
theorem Qem:fieldInfo Tryz.prog 53 1=some (1,9):=by kernel_rfl
theorem QdI:fieldInfo Tryz.prog 53 2=some (2,44):=by kernel_rfl
theorem zi53:Xi Tryz.prog 53=some (.agg [.v (.int .i64 0),.v (.string ⟨#[]⟩),.v (.slice none 0 0)]):=by kernel_rfl
theorem sp53:Xg Tryz.prog 53=some [(0,1),(1,1),(2,1)]:=by kernel_rfl
theorem ti66:Xa Tryz.prog 66=some (true,2):=by kernel_rfl
theorem QgT:fieldInfo Tryz.prog 66 0=some (0,9):=by kernel_rfl
theorem QgU:fieldInfo Tryz.prog 66 1=some (1,44):=by kernel_rfl
theorem zi66:Xi Tryz.prog 66=some (.agg [.v (.string ⟨#[]⟩),.v (.slice none 0 0)]):=by kernel_rfl
theorem sp66:Xg Tryz.prog 66=some [(0,1),(1,1)]:=by kernel_rfl
theorem ti69:Xa Tryz.prog 69=some (true,4):=by kernel_rfl
theorem Qfu:fieldInfo Tryz.prog 69 0=some (0,3):=by kernel_rfl
theorem QgV:fieldInfo Tryz.prog 69 1=some (1,3):=by kernel_rfl
theorem Qbe:fieldInfo Tryz.prog 69 2=some (2,9):=by kernel_rfl
theorem QaZ:fieldInfo Tryz.prog 69 3=some (3,44):=by kernel_rfl
theorem zi69:Xi Tryz.prog 69=some (.agg [.v (.int .i64 0),.v (.int .i64 0),.v (.string ⟨#[]⟩),.v (.slice none 0 0)]):=by kernel_rfl
theorem sp69:Xg Tryz.prog 69=some [(0,1),(1,1),(2,1),(3,1)]:=by kernel_rfl
theorem ti71:Xa Tryz.prog 71=some (false,1):=by kernel_rfl
theorem zi71:Xi Tryz.prog 71=some (.v (.pointer none)):=by kernel_rfl
theorem un71:Program.underlying Tryz.prog 71=some (.pointer 74):=by kernel_rfl
theorem ti72:Xa Tryz.prog 72=some (false,1):=by kernel_rfl
theorem ei72:Q3 Tryz.prog 72=some (5,1):=by kernel_rfl
theorem ai72:appInfo Tryz.prog 72 72=some ⟨5,1,1⟩:=by kernel_rfl
theorem zi72:Xi Tryz.prog 72=some (.v (.slice none 0 0)):=by kernel_rfl
theorem un72:Program.underlying Tryz.prog 72=some (.slice 5):=by kernel_rfl
theorem ti74:Xa Tryz.prog 74=some (true,2):=by kernel_rfl
theorem Qnb:fieldInfo Tryz.prog 74 0=some (0,71):=by kernel_rfl
theorem QkR:fieldInfo Tryz.prog 74 1=some (1,72):=by kernel_rfl
theorem zi74:Xi Tryz.prog 74=some (.agg [.v (.pointer none),.v (.slice none 0 0)]):=by kernel_rfl
theorem sp74:Xg Tryz.prog 74=some [(0,1),(1,1)]:=by kernel_rfl
theorem ti86:Xa Tryz.prog 86=some (false,1):=by kernel_rfl
theorem ti91:Xa Tryz.prog 91=some (false,1):=by kernel_rfl
theorem zi91:Xi Tryz.prog 91=some (.v (.map none)):=by kernel_rfl
theorem mi91:QbL Tryz.prog 91=some ((.int .i64),3):=by kernel_rfl
theorem un91:Program.underlying Tryz.prog 91=some (.map 3 3):=by kernel_rfl
theorem mi92:QbL Tryz.prog 92=some ((.int .i64),3):=by kernel_rfl
theorem un92:Program.underlying Tryz.prog 92=some (.map 3 3):=by kernel_rfl
theorem QuA:Xa Tryz.prog 110=some (false,1):=by kernel_rfl
theorem QuO:Xi Tryz.prog 110=some (.v (.pointer none)):=by kernel_rfl
theorem QuH:Program.underlying Tryz.prog 110=some (.pointer 117):=by kernel_rfl
theorem QwS:Xa Tryz.prog 112=some (false,1):=by kernel_rfl
theorem Qwp:Q3 Tryz.prog 112=some (127,3):=by kernel_rfl
theorem Qv4:appInfo Tryz.prog 112 112=some ⟨127,3,32⟩:=by kernel_rfl
theorem QwX:Program.underlying Tryz.prog 112=some (.slice 127):=by kernel_rfl
theorem QwT:Xa Tryz.prog 114=some (true,2):=by kernel_rfl
theorem QtT:fieldInfo Tryz.prog 114 0=some (0,112):=by kernel_rfl
theorem QtU:fieldInfo Tryz.prog 114 1=some (1,3):=by kernel_rfl
theorem Qw0:Xi Tryz.prog 114=some (.agg [.v (.slice none 0 0),.v (.int .i64 0)]):=by kernel_rfl
theorem QwG:Xg Tryz.prog 114=some [(0,1),(1,1)]:=by kernel_rfl
theorem QvO:Xa Tryz.prog 115=some (false,1):=by kernel_rfl
theorem Qwv:QbL Tryz.prog 115=some (.string,3):=by kernel_rfl
theorem QvU:Program.underlying Tryz.prog 115=some (.map 9 3):=by kernel_rfl
theorem QuB:Xa Tryz.prog 117=some (true,4):=by kernel_rfl
theorem Qmd:fieldInfo Tryz.prog 117 0=some (0,114):=by kernel_rfl
theorem Qju:fieldInfo Tryz.prog 117 1=some (2,48):=by kernel_rfl
theorem Qjv:fieldInfo Tryz.prog 117 2=some (3,115):=by kernel_rfl
theorem QuP:Xi Tryz.prog 117=some (.agg [.v (.slice none 0 0),.v (.int .i64 0),.v (.slice none 0 0),.v (.map none)]):=by kernel_rfl
theorem Quw:Xg Tryz.prog 117=some [(0,2),(2,1),(3,1)]:=by kernel_rfl
theorem QvP:Xa Tryz.prog 119=some (true,2):=by kernel_rfl
theorem QgR:fieldInfo Tryz.prog 119 0=some (0,91):=by kernel_rfl
theorem Qjw:fieldInfo Tryz.prog 119 1=some (1,42):=by kernel_rfl
theorem QvY:Xi Tryz.prog 119=some (.agg [.v (.map none),.v (.slice none 0 0)]):=by kernel_rfl
theorem QvM:Xg Tryz.prog 119=some [(0,1),(1,1)]:=by kernel_rfl
theorem QwU:Xa Tryz.prog 121=some (false,1):=by kernel_rfl
theorem Qw1:Xi Tryz.prog 121=some (.v .nilFunc):=by kernel_rfl
theorem QuC:Xa Tryz.prog 127=some (true,3):=by kernel_rfl
theorem Qme:fieldInfo Tryz.prog 127 0=some (0,3):=by kernel_rfl
theorem Qmf:fieldInfo Tryz.prog 127 1=some (1,3):=by kernel_rfl
theorem Qmg:fieldInfo Tryz.prog 127 2=some (2,9):=by kernel_rfl
theorem QuQ:Xi Tryz.prog 127=some (.agg [.v (.int .i64 0),.v (.int .i64 0),.v (.string ⟨#[]⟩)]):=by kernel_rfl
theorem Qux:Xg Tryz.prog 127=some [(0,1),(1,1),(2,1)]:=by kernel_rfl
theorem Qfn:Xa Tryz.prog 134=some (false,1):=by kernel_rfl
theorem Qaz:fieldInfo Tryz.prog 138 0=some (0,74):=by kernel_rfl
theorem Qw2:Xi Tryz.prog 138=some (.agg [.v (.pointer none),.v (.slice none 0 0)]):=by kernel_rfl
theorem QvQ:Xa Tryz.prog 140=some (false,1):=by kernel_rfl
theorem QvZ:Xi Tryz.prog 140=some (.v (.pointer none)):=by kernel_rfl
theorem QvV:Program.underlying Tryz.prog 140=some (.pointer 5):=by kernel_rfl
theorem QtV:fieldInfo Tryz.prog 149 0=some (0,3):=by kernel_rfl
theorem Qw3:Xi Tryz.prog 149=some (.agg [.v (.int .i64 0)]):=by kernel_rfl
theorem QwH:Xg Tryz.prog 149=some [(0,1)]:=by kernel_rfl
theorem QwV:Xa Tryz.prog 155=some (true,2):=by kernel_rfl
theorem QtW:fieldInfo Tryz.prog 155 0=some (0,3):=by kernel_rfl
theorem QtX:fieldInfo Tryz.prog 155 1=some (1,49):=by kernel_rfl
theorem Qw4:Xi Tryz.prog 155=some (.agg [.v (.int .i64 0),.v (.int .i64 0)]):=by kernel_rfl
theorem QwI:Xg Tryz.prog 155=some [(0,1),(1,1)]:=by kernel_rfl
theorem QvR:Xa Tryz.prog 161=some (false,1):=by kernel_rfl
theorem Qv0:Xi Tryz.prog 161=some (.v (.pointer none)):=by kernel_rfl
theorem QvW:Program.underlying Tryz.prog 161=some (.pointer 119):=by kernel_rfl
theorem QvS:Xa Tryz.prog 179=some (false,1):=by kernel_rfl
theorem QwW:Xa Tryz.prog 232=some (true,23):=by kernel_rfl
theorem mixed:Tryz.prog.follows .mixedOrders=true:=by kernel_rfl
end Go.Proofs.YtenheconhibonaaGreatDoor.Ab
namespace Go.Proofs.YtenheconhibonaaGreatDoor.Ab
attribute [go_sem] Qv4 ai22 ai23 ai27 ai33 ai42 ai44 ai48 ai72 Qwp ei22 ei23 ei27 ei33 ei42 ei44 ei48 ei72 ei9 QtT QtU Qmd Qju Qjv QgR Qjw Qme Qmf Qmg Qaz QtV QtW QtX QbZ QaH QaY QdG Qel QgS Qu7 Qu8 Qu9 Qva QdH Qem QdI QgT QgU Qfu QgV Qbe QaZ QkR Qwv mi91 mi92 QwG Quw QvM Qux QwH QwI sp25 sp35 sp38 sp53 sp66 sp69 ti0 ti1 QuA QwS QwT QvO QuB QvP QwU QuC Qfn QwV QvR QvS ti22 ti23 QwW ti25 ti27 ti3 ti33 ti35 ti38 ti4 ti42 ti44 ti48 ti49 ti5 ti53 ti66 ti69 ti72 ti86 ti9 ti91 QuH QwX QvU QvW un22 un23 un27 un3 un33 un4 un42 un44 un48 un49 un5 un9 un91 un92 zi0 zi1 QuO Qw0 QuP QvY Qw1 QuQ Qw2 Qw3 Qw4 Qv0 zi22 zi23 zi25 zi27 zi3 zi35 zi38 zi4 zi42 zi44 zi48 zi49 zi5 zi53 zi66 zi69 zi74 zi9 zi91
end Go.Proofs.YtenheconhibonaaGreatDoor.Ab
namespace Go.Proofs.YtenheconhibonaaGreatDoor.Ab
theorem QoT{c:Cx}{x:Value}(s:Nat)(h:Rel c (.v (.slice none 0 0)) x):Rel c (.sl s [] none) x:=by
 cases h
 exact .slnil s none fun b hb=>by cases hb
end Go.Proofs.YtenheconhibonaaGreatDoor.Ab
namespace Go.Proofs.YtenheconhibonaaGreatDoor.Ab
def hs(h:AH)(i:Nat)(x:AB):AH:=h.set i x
section
variable{h:AH}{i:Nat}(hi:i<h.length)
theorem ZU(h:AH)(i:Nat)(x:AB):(hs h i x).length=h.length:=by simp[hs]
include hi
theorem Qtd(x:AB):(hs h i x)[i]? = some x:=by simp[hs,hi]
theorem Qmn(x:AB)(L:AH):(hs h i x++L)[i]? = some x:=by rw[Qzc (by rw[ZU];exact hi)];exact Qtd hi x
theorem Qvd(x y:AB):(hs h i x).set i y=hs h i y:=by have _u:=hi;simp[hs]
theorem Qmo(x y:AB)(L:AH):(hs h i x++L).set i y=hs h i y++L:=by rw[Qzw _ _ (by rw[ZU];exact hi),Qvd hi]
theorem QbA(x:AB)(L:AH):hs (h++L) i x=hs h i x++L:=by simp only[hs];rw[Qzw _ _ hi]
omit hi
theorem QcR(x:AB)(L:AH):(hs h i x++L)[h.length]? = L[0]? := by rw[<-ZU h i x];exact XP _ _
theorem QiE(x:AB)(L:AH)(k:Nat):(hs h i x++L)[h.length+k]? = L[k]? := by rw[<-ZU h i x];exact hget _ _ _
theorem Qdi(x y:AB)(L:AH):(hs h i x++L).set h.length y=hs h i x++L.set 0 y:=by rw[<-ZU h i x];exact Qaa _ _ _
theorem Qe3(x y:AB)(L:AH)(k:Nat):(hs h i x++L).set (h.length+k) y=hs h i x++L.set k y:=by rw[<-ZU h i x];exact hset _ _ _ _
theorem Qt2{x:AB}(hx:h[i]? = some x):hs h i x=h:=by
 apply QzY
 intro j
 simp only[hs,QAQ]
 split
 ·rename_i hj;subst hj;rw[hx];simp[Qf hx]
 ·rfl
end
def Chg(P:Program)(f:FuncId)(args:List AV)(i:Nat)(x:AB)(r:AV)(y:AB):Prop :=
 ∀h:AH,i<h.length->Qp P f args (hs h i x) fun o h'=>o = .ret r/\h'=hs h i y
theorem Chg.app{P:Program}{f:FuncId}{args:List AV}{i:Nat}{x y:AB}{r:AV}(H:Chg P f args i x r y){h:AH}(hi:i<h.length)(L:AH) :
  Qp P f args (hs h i x++L) fun o h'=>o = .ret r/\h'=hs h i y++L:=by
 have:=H (h++L) (by rw[Qza];omega)
 rwa [QbA hi,QbA hi]at this
theorem Q4{h:AH}{i:Nat}{x y:AB}{L:AH}{r r':AV}{Q:AV->AH->Prop}(hy:y.Below h.length)(hf:Frz (hs h i y++L) h.length r r')(hq:Q r' (hs h i y)):Leaves (hs h i x) (hs h i y++L) r Q:=by
 have ht:(hs h i y++L).take h.length=hs h i y:=by rw[<-ZU h i y];exact htake _ _
 refine .inl ⟨h.length,r',by rw[ZU];exact Qzl _,by rw[Qza,ZU];omega,.inr fun k b hb=>?_,hf,by rw[ht];exact hq⟩
 rw[ht]at hb
 simp only[hs,QAQ]at hb ⊢
 by_cases hk:i=k
 ·subst hk
  simp only[QAj]at hb ⊢
  split at hb
  ·cases hb;exact .inr hy
  ·cases hb
 ·rw[Qzf hk]at hb ⊢
  exact .inl hb
def hs2(h:AH)(i:Nat)(x:AB)(j:Nat)(y:AB):AH:=(h.set i x).set j y
section
variable{h:AH}{i j:Nat}(hi:i<h.length)(hj:j<h.length)(hij:i≠j)
theorem ZR(h:AH)(i:Nat)(x:AB)(j:Nat)(y:AB):(hs2 h i x j y).length=h.length:=by simp[hs2]
theorem Qsg(x y:AB)(L:AH):(hs2 h i x j y++L)[h.length]? = L[0]? := by rw[<-ZR h i x j y];exact XP _ _
theorem Qqi(x y:AB)(L:AH)(k:Nat):(hs2 h i x j y++L)[h.length+k]? = L[k]? := by rw[<-ZR h i x j y];exact hget _ _ _
theorem Qqh(x y z:AB)(L:AH):(hs2 h i x j y++L).set h.length z=hs2 h i x j y++L.set 0 z:=by rw[<-ZR h i x j y];exact Qaa _ _ _
theorem Qni(x y z:AB)(L:AH)(k:Nat):(hs2 h i x j y++L).set (h.length+k) z=hs2 h i x j y++L.set k z:=by rw[<-ZR h i x j y];exact hset _ _ _ _
include hj in
theorem Qdh(x y:AB):(hs2 h i x j y)[j]? = some y:=by simp[hs2,hj]
include hi hij in
theorem Z6(x y:AB):(hs2 h i x j y)[i]? = some x:=by
 simp only[hs2]
 rw[Qzd (fun e=>hij e.symm)]
 simp[hi]
include hi hij in
theorem Qk2(x y:AB)(L:AH):(hs2 h i x j y++L)[i]? = some x:=by rw[Qzc (by rw[ZR];exact hi)];exact Z6 hi hij x y
theorem Qf4(x y z:AB):(hs2 h i x j y).set j z=hs2 h i x j z:=by simp[hs2]
include hij in
theorem Qf3(x y z:AB):(hs2 h i x j y).set i z=hs2 h i z j y:=by
 simp only[hs2]
 rw[QA8 _ _ (fun e=>hij e.symm),QAS]
include hi hj in
theorem QjC(x y:AB)(L:AH):hs2 (h++L) i x j y=hs2 h i x j y++L:=by
 simp only[hs2]
 rw[Qzw _ _ hi,Qzw _ _ (by simpa using hj)]
theorem Yo(x y:AB){k:Nat}(h1:i≠k)(h2:j≠k):(hs2 h i x j y)[k]? = h[k]? := by
 simp only[hs2]
 rw[Qzd h2,Qzd h1]
end
theorem Qoy{h:AH}{i j:Nat}{x y x' y':AB}{L:AH}{r r':AV}{Q:AV->AH->Prop}(hij:i≠j)(hx:x'.Below h.length)(hy:y'.Below h.length)(hf:Frz (hs2 h i x' j y'++L) h.length r r')(hq:Q r' (hs2 h i x' j y')) :
  Leaves (hs2 h i x j y) (hs2 h i x' j y'++L) r Q:=by
 have ht:(hs2 h i x' j y'++L).take h.length=hs2 h i x' j y':=by rw[<-ZR h i x' j y'];exact htake _ _
 refine .inl ⟨h.length,r',by rw[ZR];exact Qzl _,by rw[Qza,ZR];omega,.inr fun k b hb=>?_,hf,by rw[ht];exact hq⟩
 rw[ht]at hb
 have hlt:=Qf hb
 rw[ZR]at hlt
 by_cases hk:j=k
 ·subst hk
  rw[Qdh hlt]at hb
  cases hb;exact .inr hy
 ·by_cases hk':i=k
  ·subst hk'
   rw[Z6 hlt hij]at hb
   cases hb;exact .inr hx
  ·rw[Yo _ _ hk' hk]at hb ⊢
   exact .inl hb
def Chg2(P:Program)(f:FuncId)(args:List AV)(i:Nat)(x:AB)(j:Nat)(y:AB)(r:AV)(x' y':AB):Prop :=
 ∀h:AH,i<h.length->j<h.length->Qp P f args (hs2 h i x j y) fun o h'=>o = .ret r/\h'=hs2 h i x' j y'
theorem Chg2.app{P:Program}{f:FuncId}{args:List AV}{i j:Nat}{x y x' y':AB}{r:AV}(H:Chg2 P f args i x j y r x' y'){h:AH}(hi:i<h.length)(hj:j<h.length)(L:AH) :
  Qp P f args (hs2 h i x j y++L) fun o h'=>o = .ret r/\h'=hs2 h i x' j y'++L:=by
 have:=H (h++L) (by rw[Qza];omega) (by rw[Qza];omega)
 rwa [QjC hi hj,QjC hi hj]at this
end Go.Proofs.YtenheconhibonaaGreatDoor.Ab
namespace Go.Proofs.YtenheconhibonaaGreatDoor.Ab
theorem Qp5{P:Program}{f:FuncId}{fn:Func}(hf:P.funcs[f]? = some fn)(hname:(fn.name == "runtime.NumGoroutine")=false)(hbn:fn.body.isNone=true)(hn:Extern.findNext fn=none)
  (he:Extern.find fn=some Extern.AbiNoEscape.same) {y:AV} {h:AH}:FunW P (.fn (.func f) [] []) [y] h fun o h'=>o = .ret y/\h'=h:=by
 intro F n c v vals hF hst hh hv hvs o a next Qx h1 h2
 subst hh
 cases hv with
 |fn _ _ _ vs ws e1 e2 hv1 hv2 =>
  have hvs0:vs=#[]:=Array.eq_empty_of_size_eq_zero e1
  have hws0:ws=#[]:=Array.eq_empty_of_size_eq_zero e2
  subst hvs0;subst hws0
  obtain⟨x,hx⟩:=Qbn hvs.1 (show 0<[y].length by simp)
  have hvals:vals=#[x]:=by
   apply Array.ext'
   have hl:vals.toList.length=1:=by simpa using hvs.1
   apply QzY
   intro j
   match j with
   |0=>simpa using hx
   |j+1=>rw[QzR (by omega)];simp
  have hrx:=hvs.2 0 _ x rfl hx
  subst hvals
  have hcall:=run_callFunc_extern (P:=P) hf hname hbn hn he #[x] c.w
  rw[show(Extern.AbiNoEscape.same #[x]).run P c.w = .ok x c.w from rfl]at hcall
  simp only[Deferred.ofValue,Sem.run_bind,Sem.run_pure,Result.andThen_ok,invoke,QA1,Array.append_empty,hcall]
  exact h1 _ c _ ⟨rfl,rfl⟩ (Ev.refl c) hst hrx
theorem QbI(s t:ByteArray):Q6 (s++t)=Q6 s++Q6 t:=by
 simp only[Q6,ByteArray.data_append,Array.toList_append,Qz3]
theorem QhR(s:ByteArray):Qcx (Q6 s)=some s.data.toList:=by rw[Qn5,QeV]
theorem Qg(s t:ByteArray):(s++t).size=s.size+t.size:=ByteArray.size_append
theorem Qn6{s:ByteArray}(h:0<s.size):∃y ys,Q6 s=y::ys:=by
 cases hs:Q6 s with
 |nil=>have:=Yi s;rw[hs]at this;simp at this;omega
 |cons y ys=>exact⟨y,ys,rfl⟩
theorem Ql0{P:Program}{t t' e:TypeId}{i:TypeInfo}{z:Value}(ht:P.underlying t=some (.slice e))(ht':P.underlying t'=some .string)(hi:P.info? e=some i)(hz:i.zero=some z)(h1:i.size=1)(h2:i.bytes=1)(h3:z.cells.size=1)
  {T s:ByteArray} {j:Nat} {h:AH} (hj:h[j]? = some (.grow e 1 T.size)) (hs:T.size+s.size<=140737488355328) :
  Qda P t t' (.sl 1 (Q6 T) (some j)) s h=some (.sl 1 (Q6 (T++s)) (some j),h.set j (.grow e 1 (T++s).size)):=by
 unfold Qda
 simp only[ht,ht',hi,hz,h1,h2,h3,QyR,QAj,hj,Yi,Qg,QbI]
 by_cases h0:0<s.size
 ·rw[Qzh (by simp only[h0,hs,QyR])]
 ·have h0':s.size=0:=by omega
  rw[Qzf (fun e=>h0 e.1),Qzh (by simp only[h0',QyR])]
  have hn:Q6 s=[]:=by
   have:=Yi s
   rw[h0']at this
   exact List.length_eq_zero_iff.1 this
  rw[hn,QyM,h0',QyI]
  congr 2
  apply QzY
  intro k
  rw[QAQ]
  split
  ·rename_i hk;subst hk;rw[hj];simp[Qf hj]
  ·rfl
theorem QfO{P:Program}{pt e:TypeId}(ht:P.underlying pt=some (.pointer e))(he:P.cellsOf e=1){T:ByteArray}{j:Nat}{h:AH}(hj:h[j]? = some (.grow e 1 T.size))(h0:0<T.size)(hs:T.size<=9223372036854775807) :
  ZF P pt (.spt 1 (Q6 T) (some j)) (.v (.int .i64 (T.size:Nat))) h=some (.v (.string T),h.set j .gone):=by
 unfold ZF
 simp only[hj,QhR,ht,Yi]
 rw[Qzh (by simp only[h0,he,hs,QyR])]
theorem QfN{T:ByteArray}(h0:0<T.size)(j:Nat):QbP (.sl 1 (Q6 T) (some j))=some (.spt 1 (Q6 T) (some j)):=by
 obtain⟨y,ys,e⟩:=Qn6 h0
 rw[e];rfl
def bw(ty i j:Nat)(u:Bool)(T:ByteArray):AB:=.cells ty 2 [.agg [if u then .ptr i 0 0 else .v (.pointer none),.sl 1 (Q6 T) (some j)]]
theorem bw0(ty i j:Nat)(T:ByteArray):bw ty i j false T = .cells ty 2 [.agg [.v (.pointer none),.sl 1 (Q6 T) (some j)]]:=rfl
theorem bw1(ty i j:Nat)(T:ByteArray):bw ty i j true T = .cells ty 2 [.agg [.ptr i 0 0,.sl 1 (Q6 T) (some j)]]:=rfl
theorem Qr4{ty i j n:Nat}{u:Bool}{T:ByteArray}(hi:i<n)(hj:j<n):(bw ty i j u T).Below n:=by
 have hsl:Ab.Below n (.sl 1 (Q6 T) (some j)):=by
  refine .sl _ _ _ (fun y hy=>?_) fun b hb=>by cases hb;exact hj
  rw[QcM]at hy
  obtain⟨b,_,rfl⟩:=QzD.1 hy
  exact .v _
 cases u
 ·intro x hx
  have hx':x∈[.v (.pointer none),.sl 1 (Q6 T) (some j)]:=hx
  simp only[Qzn,Qzz,QAf]at hx'
  rcases hx' with rfl|rfl
  ·exact .v _
  ·exact hsl
 ·intro x hx
  have hx':x∈[.ptr i 0 0,.sl 1 (Q6 T) (some j)]:=hx
  simp only[Qzn,Qzz,QAf]at hx'
  rcases hx' with rfl|rfl
  ·exact .ptr _ _ _ hi
  ·exact hsl
def Wr(P:Program)(e ty:TypeId)(f:FuncId)(args:List AV)(i j:Nat)(u:Bool)(T:ByteArray)(r:AV)(u':Bool)(T':ByteArray):Prop :=
 Chg2 P f args i (bw ty i j u T) j (.grow e 1 T.size) r (bw ty i j u' T') (.grow e 1 T'.size)
open Go.Proofs
abbrev Qej{a:List AV}{h:AH}{Q:AOut->AH->Prop}:=@Qc Tryz.prog 182 _ _ a h Q Tryz.func182 rfl Tryz.call182 _ Tryz.ntmps182 _ Tryz.results182
abbrev QgN{a:List AV}{h:AH}{Q:AOut->AH->Prop}:=@Qc Tryz.prog 156 _ _ a h Q Tryz.func156 rfl Tryz.call156 _ Tryz.ntmps156 _ Tryz.results156
abbrev QgO{a:List AV}{h:AH}{Q:AOut->AH->Prop}:=@Qc Tryz.prog 157 _ _ a h Q Tryz.func157 rfl Tryz.call157 _ Tryz.ntmps157 _ Tryz.results157
def cmpI(a b:Int):Int:=if a<b then -1 else if a>b then 1 else 0
def cmpS(a b:ByteArray):Int:=if Op.bytesLess a.toList b.toList=true then -1 else if (!(Op.bytesLess a.toList b.toList||a.toList==b.toList))=true then 1 else 0
def Zs(k:Int):Int:=if k=1 then 0 else if k=0 then 1 else if k=2 then 2 else 3
abbrev AV.i(n:Int):AV:=.v (.int .i64 n)
abbrev AV.b(n:Bool):AV:=.v (.bool n)
abbrev AV.s(n:ByteArray):AV:=.v (.string n)
theorem Qfg(a b:Int):Pure Tryz.prog 157 [.i a,.i b] (.i (cmpI a b)):=by
 intro h
 by_cases h1:a<b
 ·refine QgO (by simp) ?_
  repeat refine Qa ?_;simp only[go_sem,seval,h1]
  first|refine Qb (htake _ _) (.keep (.v _)) ⟨by rw[cmpI,Qzh h1],rfl⟩|refine Qb Qzb (.keep (.v _)) ⟨by rw[cmpI,Qzh h1],rfl⟩
 ·by_cases h2:a>b
  ·refine QgO (by simp) ?_
   repeat refine Qa ?_;simp only[go_sem,seval,h1,h2]
   first|refine Qb (htake _ _) (.keep (.v _)) ⟨by rw[cmpI,Qzf h1,Qzh h2],rfl⟩|refine Qb Qzb (.keep (.v _)) ⟨by rw[cmpI,Qzf h1,Qzh h2],rfl⟩
  ·refine QgO (by simp) ?_
   repeat refine Qa ?_;simp only[go_sem,seval,h1,h2]
   first|refine Qb (htake _ _) (.keep (.v _)) ⟨by rw[cmpI,Qzf h1,Qzf h2],rfl⟩|refine Qb Qzb (.keep (.v _)) ⟨by rw[cmpI,Qzf h1,Qzf h2],rfl⟩
theorem QnK(a b:ByteArray):Pure Tryz.prog 156 [.s a,.s b] (.i (cmpS a b)):=by
 intro h
 cases h1:Op.bytesLess a.toList b.toList with
 |true =>
  refine QgN (by simp) ?_
  repeat refine Qa ?_;simp only[go_sem,seval,h1]
  first|refine Qb (htake _ _) (.keep (.v _)) ⟨by rw[cmpS,Qzh h1],rfl⟩|refine Qb Qzb (.keep (.v _)) ⟨by rw[cmpS,Qzh h1],rfl⟩
 |false =>
  cases h2:(a.toList==b.toList)with
  |true =>
   refine QgN (by simp) ?_
   repeat refine Qa ?_;simp only[go_sem,seval,h1,h2,QAl]
   first|refine Qb (htake _ _) (.keep (.v _)) ⟨by rw[cmpS,h1,h2];rfl,rfl⟩|refine Qb Qzb (.keep (.v _)) ⟨by rw[cmpS,h1,h2];rfl,rfl⟩
  |false =>
   refine QgN (by simp) ?_
   repeat refine Qa ?_;simp only[go_sem,seval,h1,h2,Bool.or_self]
   first|refine Qb (htake _ _) (.keep (.v _)) ⟨by rw[cmpS,h1,h2];rfl,rfl⟩|refine Qb Qzb (.keep (.v _)) ⟨by rw[cmpS,h1,h2];rfl,rfl⟩
theorem Qis(t:T):Pure Tryz.prog 182 [t.av] (.i (Zs t.kind)):=by
 intro h
 by_cases h1:t.kind=1
 ·have b1:(t.kind==1)=true:=by simpa using h1
  refine Qej (by simp) ?_
  repeat refine Qa ?_;simp only[go_sem,seval,b1]
  first|refine Qb (htake _ _) (.keep (.v _)) ⟨by rw[Zs,Qzh h1],rfl⟩|refine Qb Qzb (.keep (.v _)) ⟨by rw[Zs,Qzh h1],rfl⟩
 ·have b1:(t.kind==1)=false:=by simpa using h1
  by_cases h2:t.kind=0
  ·have b2:(t.kind==0)=true:=by simpa using h2
   refine Qej (by simp) ?_
   repeat refine Qa ?_;simp only[go_sem,seval,b1,b2]
   first|refine Qb (htake _ _) (.keep (.v _)) ⟨by rw[Zs,Qzf h1,Qzh h2],rfl⟩|refine Qb Qzb (.keep (.v _)) ⟨by rw[Zs,Qzf h1,Qzh h2],rfl⟩
  ·have b2:(t.kind==0)=false:=by simpa using h2
   by_cases h3:t.kind=2
   ·have b3:(t.kind==2)=true:=by simpa using h3
    refine Qej (by simp) ?_
    repeat refine Qa ?_;simp only[go_sem,seval,b1,b2,b3]
    first|refine Qb (htake _ _) (.keep (.v _)) ⟨by rw[Zs,Qzf h1,Qzf h2,Qzh h3],rfl⟩|refine Qb Qzb (.keep (.v _)) ⟨by rw[Zs,Qzf h1,Qzf h2,Qzh h3],rfl⟩
   ·have b3:(t.kind==2)=false:=by simpa using h3
    refine Qej (by simp) ?_
    repeat refine Qa ?_;simp only[go_sem,seval,b1,b2,b3]
    first|refine Qb (htake _ _) (.keep (.v _)) ⟨by rw[Zs,Qzf h1,Qzf h2,Qzf h3],rfl⟩|refine Qb Qzb (.keep (.v _)) ⟨by rw[Zs,Qzf h1,Qzf h2,Qzf h3],rfl⟩
abbrev Qay{a:List AV}{h:AH}{Q:AOut->AH->Prop}:=@Qc Tryz.prog 168 _ _ a h Q Tryz.func168 rfl Tryz.call168 _ Tryz.ntmps168 _ Tryz.results168
mutual
def T.nds:T->Nat
 | .mk _ _ _ l=>1+ndsL l
def ndsL:List T->Nat
 |[]=>0
 |t::l=>t.nds+ndsL l
end
theorem T.QxK(t:T):t.nds=1+ndsL t.args:=by cases t;simp only[T.nds,T.args]
theorem Qf7:∀{l:List T} {k:Nat} (h:k<l.length),(l[k]).nds<=ndsL l
 |t::l,0,_=>by simp only[List.getElem_cons_zero,ndsL];omega
 |t::l,k+1,h=>by
  have:=Qf7 (l:=l) (k:=k) (by simpa using h)
  simp only[QAY,ndsL];omega
def orL:List Int->Int
 |[]=>0
 |a::l=>if (a != 0)=true then a else orL l
def or3(a b c:Int):Int:=orL [a,b,c]
mutual
def cmpT:T->T->Int
 | .mk k i n l,.mk k' i' n' l' =>
  if (cmpI (Zs k) (Zs k') != 0)=true then cmpI (Zs k) (Zs k')
  else if Zs k=0\/Zs k=1 then cmpI i i'
  else if Zs k=2 then
   if (cmpI l.length l'.length != 0)=true then cmpI l.length l'.length
   else if (cmpS n n' != 0)=true then cmpS n n'
   else cmpL l l'
  else or3 (cmpI k k') (cmpI i i') (cmpS n n')
def cmpL:List T->List T->Int
 |a::l,b::m=>if (cmpT a b != 0)=true then cmpT a b else cmpL l m
 |[],[]=>0
 |[],_::_ => -1
 |_::_,[]=>1
end
theorem QtL(a b:T):cmpT a b =
  if (cmpI (Zs a.kind) (Zs b.kind) != 0)=true then cmpI (Zs a.kind) (Zs b.kind)
  else if Zs a.kind=0\/Zs a.kind=1 then cmpI a.int b.int
  else if Zs a.kind=2 then
   if (cmpI a.args.length b.args.length != 0)=true then cmpI a.args.length b.args.length
   else if (cmpS a.name b.name != 0)=true then cmpS a.name b.name
   else cmpL a.args b.args
  else or3 (cmpI a.kind b.kind) (cmpI a.int b.int) (cmpS a.name b.name):=by
 cases a;cases b;simp only[cmpT,T.kind,T.int,T.name,T.args];rfl
theorem QpP{l m:List T}{k:Nat}(h1:k<l.length)(h2:k<m.length):cmpL (l.drop k) (m.drop k)=if (cmpT l[k] m[k] != 0)=true then cmpT l[k] m[k]else cmpL (l.drop (k+1)) (m.drop (k+1)):=by
 rw[Qzq h1,Qzq h2];simp only[cmpL]
theorem Yy:∀l:List T,l.length<=ndsL l
 |[]=>Qzl _
 |t::l=>by
  have:=Yy l
  have:=T.QxK t
  simp only[Qyw,ndsL];omega
theorem Qe7(n:Nat)(ih:∀a b:T,a.nds<=n->Pure Tryz.prog 168 [a.av,b.av] (.i (cmpT a b)))(l m:List T)(hn:ndsL l<=n)(hl:l.length<=9000000000000000000) :
  Pure Tryz.prog 147 [.sl 4 (avs l) none,.sl 4 (avs m) none] (.i (cmpL l m)):=by
 intro h
 have ci:=Qfg l.length m.length
 refine Qc Tryz.func147 rfl Tryz.call147 Tryz.ntmps147 Tryz.results147 (by simp) ?_
 repeat refine Qa ?_;simp only[go_sem,seval]
 obtain⟨I,hI⟩:∃I:Nat->AS->Prop,I=fun m' s=>∃(k:Nat) (L:AH),m'=l.length - k/\k<=l.length/\k<=m.length/\s.tm 0 = .sl 4 (avs l) none/\s.tm 1 = .sl 4 (avs m) none/\s.tm 5 = .i k/\s.h=h++L/\cmpL l m=cmpL (l.drop k) (m.drop k):=⟨_,rfl⟩;refine Qv I ?_ (m:=l.length) ?_
 ·intro m' s hs;rw[hI]at hs;obtain⟨tm,hp⟩:=s;dsimp only at hs;obtain⟨k,L,rfl,hk,hk2,h0,h1,h5,rfl,hor⟩:=hs
  by_cases hlt:k<l.length
  ·by_cases hlt2:k<m.length
   ·have hd:=QpP hlt hlt2
    have hc:=ih l[k] m[k] (QzL (Qf7 hlt) hn)
    cases ha:(cmpT l[k] m[k] != 0)with
    |true =>
     repeat first|(first|refine Qq hc ?_|refine Qj (id:=4) [(0,0),(1,0),(2,0),(3,0),(4,0),(5,0),(6,0),(7,0),(8,1),(9,0)] mixed (by kernel_rfl) fun K hK=>?_|refine Qa ?_);simp only[go_sem,seval,hlt,hlt2,h0,h1,h5,ha,Qcd hlt,Qcd hlt2]|refine hK _ ?_;clear hK
     first|refine Qb (htake _ _) (.keep (.v _)) ⟨by rw[hor,hd,Qzh ha],rfl⟩|refine Qb Qzb (.keep (.v _)) ⟨by rw[hor,hd,Qzh ha],rfl⟩
    |false =>
     repeat first|(first|refine Qq hc ?_|refine Qj (id:=4) [(0,0),(1,0),(2,0),(3,0),(4,0),(5,0),(6,0),(7,0),(8,1),(9,0)] mixed (by kernel_rfl) fun K hK=>?_|refine Qa ?_);simp only[go_sem,seval,hlt,hlt2,h0,h1,h5,ha,Qcd hlt,Qcd hlt2]|refine hK _ ?_;clear hK
     refine QZ.mk (m':=l.length - (k+1)) (by omega) ?_
     rw[hI]
     refine⟨k+1,L,rfl,hlt,hlt2,h0,h1,?_,rfl,?_⟩
     ·simp only[upd,↓reduceIte]
      rw[QY (by omega)]
     ·rw[hor,hd,ha];rfl
   ·have hkm:k=m.length:=by omega
    repeat (first|refine Qe ci ?_|refine Qa ?_);simp only[go_sem,seval,hlt,hlt2,h0,h1,h5]
    first|refine Qb (htake _ _) (.keep (.v _)) ⟨?_,rfl⟩|refine Qb Qzb (.keep (.v _)) ⟨?_,rfl⟩
    rw[hor,hkm,QzG,Qzq (by omega),cmpL,cmpI,Qzf (by omega),Qzh (by omega)]
  ·have hkl:k=l.length:=by omega
   repeat (first|refine Qe ci ?_|refine Qa ?_);simp only[go_sem,seval,hlt,h0,h1,h5]
   first|refine Qb (htake _ _) (.keep (.v _)) ⟨?_,rfl⟩|refine Qb Qzb (.keep (.v _)) ⟨?_,rfl⟩
   rw[hor,hkl,QzG]
   by_cases hm:l.length<m.length
   ·rw[Qzq hm,cmpL,cmpI,Qzh (by omega)]
   ·have:l.length=m.length:=by omega
    rw[this,QzG,cmpL,cmpI,Qzf (by omega),Qzf (by omega)]
 ·rw[hI]
  exact⟨0,[],by omega,Qzy _,Qzy _,rfl,rfl,rfl,by simp only[QyM],rfl⟩
theorem Qbr:∀(n:Nat),n<=1000000->∀a b:T,a.nds<=n->Pure Tryz.prog 168 [a.av,b.av] (.i (cmpT a b))
 |0,_,a,b,hn=>by have:=T.QxK a;omega
 |n+1,hn1,a,b,hn=>by
  intro h
  have e:=QtL a b
  have r1:=Qis a
  have r2:=Qis b
  have c1:=Qfg (Zs a.kind) (Zs b.kind)
  cases h1:(cmpI (Zs a.kind) (Zs b.kind) != 0)with
  |true =>
   rw[Qzh h1]at e
   refine Qay (by simp) ?_
   repeat first|(first|refine Qq r1 ?_|refine Qq r2 ?_|refine Qq c1 ?_|refine Qj (id:=1) [(0,0),(1,1),(2,0),(3,1),(4,1),(5,0)] mixed (by kernel_rfl) fun K hK=>?_|refine Qa ?_);simp only[go_sem,seval,h1]|refine hK _ ?_;clear hK
   first|refine Qb (htake _ _) (.keep (.v _)) ⟨by rw[e],rfl⟩|refine Qb Qzb (.keep (.v _)) ⟨by rw[e],rfl⟩
  |false =>
   rw[Qzf (by rw[h1];simp)]at e
   have c2:=Qfg a.int b.int
   by_cases k0:Zs a.kind=0
   ·rw[Qzh (.inl k0)]at e
    have b0:(Zs a.kind==0)=true:=by simpa using k0
    refine Qay (by simp) ?_
    repeat first|(first|refine Qe r1 ?_|refine Qq r1 ?_|refine Qq r2 ?_|refine Qq c1 ?_|refine Qe c2 ?_|refine Qj (id:=1) [(0,0),(1,1),(2,0),(3,1),(4,1),(5,0)] mixed (by kernel_rfl) fun K hK=>?_|refine Qa ?_);simp only[go_sem,seval,h1,b0]|refine hK _ ?_;clear hK
    first|refine Qb (htake _ _) (.keep (.v _)) ⟨by rw[e],rfl⟩|refine Qb Qzb (.keep (.v _)) ⟨by rw[e],rfl⟩
   ·have b0:(Zs a.kind==0)=false:=by simpa using k0
    by_cases k1:Zs a.kind=1
    ·rw[Qzh (.inr k1)]at e
     have b1:(Zs a.kind==1)=true:=by simpa using k1
     refine Qay (by simp) ?_
     repeat first|(first|refine Qe r1 ?_|refine Qq r1 ?_|refine Qq r2 ?_|refine Qq c1 ?_|refine Qe c2 ?_|refine Qj (id:=1) [(0,0),(1,1),(2,0),(3,1),(4,1),(5,0)] mixed (by kernel_rfl) fun K hK=>?_|refine Qa ?_);simp only[go_sem,seval,h1,b0,b1]|refine hK _ ?_;clear hK
     first|refine Qb (htake _ _) (.keep (.v _)) ⟨by rw[e],rfl⟩|refine Qb Qzb (.keep (.v _)) ⟨by rw[e],rfl⟩
    ·rw[Qzf (by simp only[k0,k1,or_self,not_false_eq_true])]at e
     have b1:(Zs a.kind==1)=false:=by simpa using k1
     have c3:=QnK a.name b.name
     by_cases k2:Zs a.kind=2
     ·rw[Qzh k2]at e
      have b2:(Zs a.kind==2)=true:=by simpa using k2
      have c4:=Qfg a.args.length b.args.length
      cases h2:(cmpI a.args.length b.args.length != 0)with
      |true =>
       have h2':(cmpI a.args.length b.args.length==0)=false:=by simpa using h2
       rw[Qzh h2]at e
       refine Qay (by simp) ?_
       repeat first|(first|refine Qe r1 ?_|refine Qq r1 ?_|refine Qq r2 ?_|refine Qq c1 ?_|refine Qe c4 ?_|refine Qj (id:=1) [(0,0),(1,1),(2,0),(3,1),(4,1),(5,0)] mixed (by kernel_rfl) fun K hK=>?_|refine Qa ?_);simp only[go_sem,seval,h1,h2',b0,b1,b2]|refine hK _ ?_;clear hK
       first|refine Qb (htake _ _) (.keep (.v _)) ⟨by rw[e],rfl⟩|refine Qb Qzb (.keep (.v _)) ⟨by rw[e],rfl⟩
      |false =>
       have h2':(cmpI a.args.length b.args.length==0)=true:=by simpa using h2
       rw[Qzf (by rw[h2];simp)]at e
       cases h3:(cmpS a.name b.name != 0)with
       |true =>
        have h3':(cmpS a.name b.name==0)=false:=by simpa using h3
        rw[Qzh h3]at e
        refine Qay (by simp) ?_
        repeat first|(first|refine Qe r1 ?_|refine Qq r1 ?_|refine Qq r2 ?_|refine Qq c1 ?_|refine Qe c3 ?_|refine Qe c4 ?_|refine Qj (id:=1) [(0,0),(1,1),(2,0),(3,1),(4,1),(5,0)] mixed (by kernel_rfl) fun K hK=>?_|refine Qa ?_);simp only[go_sem,seval,h1,h2',h3',b0,b1,b2]|refine hK _ ?_;clear hK
        first|refine Qb (htake _ _) (.keep (.v _)) ⟨by rw[e],rfl⟩|refine Qb Qzb (.keep (.v _)) ⟨by rw[e],rfl⟩
       |false =>
        have h3':(cmpS a.name b.name==0)=true:=by simpa using h3
        rw[Qzf (by rw[h3];simp)]at e
        have hnd:=T.QxK a
        have c5:=Qe7 n (Qbr n (by omega)) a.args b.args (by omega) (by have:=Yy a.args;omega)
        refine Qay (by simp) ?_
        repeat first|(first|refine Qe r1 ?_|refine Qq r1 ?_|refine Qq r2 ?_|refine Qq c1 ?_|refine Qe c3 ?_|refine Qe c4 ?_|refine Qe c5 ?_|refine Qj (id:=1) [(0,0),(1,1),(2,0),(3,1),(4,1),(5,0)] mixed (by kernel_rfl) fun K hK=>?_|refine Qa ?_);simp only[go_sem,seval,h1,h2',h3',b0,b1,b2]|refine hK _ ?_;clear hK
        first|refine Qb (htake _ _) (.keep (.v _)) ⟨by rw[e],rfl⟩|refine Qb Qzb (.keep (.v _)) ⟨by rw[e],rfl⟩
     ·rw[Qzf k2]at e
      have b2:(Zs a.kind==2)=false:=by simpa using k2
      have c4:=Qfg a.kind b.kind
      rw[or3,orL,orL,orL]at e
      cases h2:(cmpI a.kind b.kind != 0)with
      |true =>
       have h2':(cmpI a.kind b.kind==0)=false:=by simpa using h2
       rw[Qzh h2]at e
       refine Qay (by simp) ?_
       repeat first|(first|refine Qe r1 ?_|refine Qq r1 ?_|refine Qq r2 ?_|refine Qq c1 ?_|refine Qe c4 ?_|refine Qj (id:=1) [(0,0),(1,1),(2,0),(3,1),(4,1),(5,0)] mixed (by kernel_rfl) fun K hK=>?_|refine Qa ?_);simp only[go_sem,seval,h1,b0,b1,b2,h2']|refine hK _ ?_;clear hK
       first|refine Qb (htake _ _) (.keep (.v _)) ⟨by rw[e],rfl⟩|refine Qb Qzb (.keep (.v _)) ⟨by rw[e],rfl⟩
      |false =>
       have h2':(cmpI a.kind b.kind==0)=true:=by simpa using h2
       rw[Qzf (by rw[h2];simp)]at e
       cases h3:(cmpI a.int b.int != 0)with
       |true =>
        have h3':(cmpI a.int b.int==0)=false:=by simpa using h3
        rw[Qzh h3]at e
        refine Qay (by simp) ?_
        repeat first|(first|refine Qe r1 ?_|refine Qq r1 ?_|refine Qq r2 ?_|refine Qq c1 ?_|refine Qe c2 ?_|refine Qe c4 ?_|refine Qj (id:=1) [(0,0),(1,1),(2,0),(3,1),(4,1),(5,0)] mixed (by kernel_rfl) fun K hK=>?_|refine Qa ?_);simp only[go_sem,seval,h1,b0,b1,b2,h2',h3']|refine hK _ ?_;clear hK
        first|refine Qb (htake _ _) (.keep (.v _)) ⟨by rw[e],rfl⟩|refine Qb Qzb (.keep (.v _)) ⟨by rw[e],rfl⟩
       |false =>
        have h3':(cmpI a.int b.int==0)=true:=by simpa using h3
        rw[Qzf (by rw[h3];simp)]at e
        refine Qay (by simp) ?_
        repeat first|(first|refine Qe r1 ?_|refine Qq r1 ?_|refine Qq r2 ?_|refine Qq c1 ?_|refine Qe c2 ?_|refine Qe c3 ?_|refine Qe c4 ?_|refine Qj (id:=1) [(0,0),(1,1),(2,0),(3,1),(4,1),(5,0)] mixed (by kernel_rfl) fun K hK=>?_|refine Qa ?_);simp only[go_sem,seval,h1,b0,b1,b2,h2',h3']|refine hK _ ?_;clear hK
        first|refine Qb (htake _ _) (.keep (.v _)) ⟨?_,rfl⟩|refine Qb Qzb (.keep (.v _)) ⟨?_,rfl⟩
        rw[e,orL];split <;> simp_all
theorem Qib(a b:List T)(ha:ndsL a<=1000000):Pure Tryz.prog 112 [.sl 4 (avs a) none,.sl 4 (avs b) none] (.b (cmpL a b==0)):=by
 intro h
 have c:=Qe7 1000000 (Qbr 1000000 (Qzl _)) a b ha (by have:=Yy a;omega)
 refine Qc Tryz.func112 rfl Tryz.call112 Tryz.ntmps112 Tryz.results112 (by simp) ?_
 repeat (first|refine Qe c ?_|refine Qa ?_);simp only[go_sem,seval]
 first|refine Qb (htake _ _) (.keep (.v _)) ⟨rfl,rfl⟩|refine Qb Qzb (.keep (.v _)) ⟨rfl,rfl⟩
end Go.Proofs.YtenheconhibonaaGreatDoor.Ab
namespace Go.Proofs.YtenheconhibonaaGreatDoor.Ab
theorem QL{P:Program}{N c:Nat}{fv:AV}{args:List AV}{s:AS}{d:Option Tmp}{K:AS->Prop}{r:AV}{h':AH}(H:FunW P fv args s.h fun o h2=>o = .ret r/\h2=h')(hk:c=3->Keep s.h h')(k:K (AS.put N {s with h:=h'} d r)):Qtz P N c fv args s d K:=⟨r,h',H,hk,k⟩
def vs{X:Type}(f:X->AV)(l:List X):List AV:=l.map f
section
variable{X:Type}(f:X->AV)
theorem Qh(l:List X):(vs f l).length=l.length:=QzJ _
theorem Z2{l:List X}{k:Nat}(h:k<l.length):(vs f l)[k]? = some (f l[k]):=by
 rw[vs,QzN,Qzg h];rfl
theorem Qb9(l m:List X):vs f (l++m)=vs f l++vs f m:=Qz3
theorem Qtx:vs f []=[]:=rfl
theorem QuK(x:X)(l:List X):vs f (x::l)=f x::vs f l:=rfl
theorem QhU(n:Nat)(hf:∀x,∀a∈(f x).cells,Below n a)(l:List X):∀a∈flat (vs f l),Below n a:=by
 intro a ha
 simp only[flat,vs,QA5,QzD]at ha
 obtain⟨x,⟨b,_,rfl⟩,hx⟩:=ha
 exact hf b a hx
theorem QaU(n s:Nat)(hf:∀x,∀a∈(f x).cells,Below n a)(l:List X):Below n (.sl s (vs f l) none):=.sl s _ none (QhU f n hf l) (fun b hb=>by cases hb)
end
structure G where
 op:Int
 name:ByteArray
 args:List T
def G.atom(g:G):AV:=.agg [.v (.string g.name),.sl 4 (avs g.args) none]
def G.goal(g:G):AV:=.agg [.v (.int .i64 g.op),.v (.string g.name),.sl 4 (avs g.args) none]
theorem Yc(g:G):g.atom.cells=[.v (.string g.name),.sl 4 (avs g.args) none]:=rfl
theorem QbR(g:G):g.atom.isAgg=true:=rfl
theorem QJ(g:G):g.goal.cells=[.v (.int .i64 g.op),.v (.string g.name),.sl 4 (avs g.args) none]:=rfl
theorem Qcc(n:Nat)(g:G):∀a∈g.atom.cells,Below n a:=by
 intro a ha
 rw[Yc]at ha
 simp only[Qzn,Qzz,QAf]at ha
 rcases ha with rfl|rfl
 ·exact .v _
 ·exact QkC _ _
theorem Qdg(n:Nat)(g:G):∀a∈g.goal.cells,Below n a:=by
 intro a ha
 rw[QJ]at ha
 simp only[Qzn,Qzz,QAf]at ha
 rcases ha with rfl|rfl|rfl
 ·exact .v _
 ·exact .v _
 ·exact QkC _ _
structure Rl where
 name:ByteArray
 keep:List G
 remove:List G
 guard:List G
 body:List G
 vars:Int
def Rl.av(r:Rl):AV:=.agg [.v (.string r.name),.sl 2 (vs G.atom r.keep) none,.sl 2 (vs G.atom r.remove) none,.sl 3 (vs G.goal r.guard) none,.sl 3 (vs G.goal r.body) none,.v (.int .i64 r.vars)]
theorem Rl.cells(r:Rl):r.av.cells=[.v (.string r.name),.sl 2 (vs G.atom r.keep) none,.sl 2 (vs G.atom r.remove) none,.sl 3 (vs G.goal r.guard) none,.sl 3 (vs G.goal r.body) none,.v (.int .i64 r.vars)]:=rfl
theorem Rl.isAgg(r:Rl):r.av.isAgg=true:=rfl
structure Ky where
 name:ByteArray
 arity:Int
 pos:List Int
def Ky.av(k:Ky):AV:=.agg [.v (.string k.name),.v (.int .i64 k.arity),.sl 1 (ints k.pos) none]
theorem Ky.cells(k:Ky):k.av.cells=[.v (.string k.name),.v (.int .i64 k.arity),.sl 1 (ints k.pos) none]:=rfl
theorem Ky.isAgg(k:Ky):k.av.isAgg=true:=rfl
theorem Qsh(n:Nat)(l:List Int):Below n (.sl 1 (ints l) none):=.sl 1 _ none (Qqj n l) (fun b hb=>by cases hb)
theorem Ky.bel(n:Nat)(k:Ky):∀a∈k.av.cells,Below n a:=by
 intro a ha
 rw[Ky.cells]at ha
 simp only[Qzn,Qzz,QAf]at ha
 rcases ha with rfl|rfl|rfl
 ·exact .v _
 ·exact .v _
 ·exact Qsh _ _
theorem Ky.below(n:Nat)(k:Ky):Below n k.av:=.agg _ (Ky.bel n k)
structure It where
 id:Int
 atom:G
def It.av(x:It):AV:=.agg [.v (.int .i64 x.id),.v (.string x.atom.name),.sl 4 (avs x.atom.args) none]
theorem It.cells(x:It):x.av.cells=[.v (.int .i64 x.id),.v (.string x.atom.name),.sl 4 (avs x.atom.args) none]:=rfl
theorem It.isAgg(x:It):x.av.isAgg=true:=rfl
theorem Qak(g:G):g.goal.isAgg=true:=rfl
theorem Rl.bel(n:Nat)(r:Rl):∀a∈r.av.cells,Below n a:=by
 intro a ha
 rw[Rl.cells]at ha
 simp only[Qzn,Qzz,QAf]at ha
 rcases ha with rfl|rfl|rfl|rfl|rfl|rfl
 ·exact .v _
 ·exact QaU _ _ _ (Qcc _) _
 ·exact QaU _ _ _ (Qcc _) _
 ·exact QaU _ _ _ (Qdg _) _
 ·exact QaU _ _ _ (Qdg _) _
 ·exact .v _
structure Dc where
 name:ByteArray
 arity:Int
def Dc.av(d:Dc):AV:=.agg [.v (.string d.name),.v (.int .i64 d.arity)]
theorem Dc.cells(d:Dc):d.av.cells=[.v (.string d.name),.v (.int .i64 d.arity)]:=rfl
theorem Dc.isAgg(d:Dc):d.av.isAgg=true:=rfl
theorem Dc.bel(n:Nat)(d:Dc):∀a∈d.av.cells,Below n a:=by
 intro a ha
 rw[Dc.cells]at ha
 simp only[Qzn,Qzz,QAf]at ha
 rcases ha with rfl|rfl <;> exact .v _
structure Pg where
 decls:List Dc
 rules:List Rl
def Pg.av(p:Pg):AV:=.agg [.sl 2 (vs Dc.av p.decls) none,.sl 6 (vs Rl.av p.rules) none]
theorem Pg.cells(p:Pg):p.av.cells=[.sl 2 (vs Dc.av p.decls) none,.sl 6 (vs Rl.av p.rules) none]:=rfl
theorem Pg.isAgg(p:Pg):p.av.isAgg=true:=rfl
end Go.Proofs.YtenheconhibonaaGreatDoor.Ab
namespace Go.Proofs.YtenheconhibonaaGreatDoor.Ab
def Wk(a b:AV):Prop:=∀c x,Rel c a x->Rel c b x
def WkL(l l':List AV):Prop:=l.length=l'.length/\∀(j:Nat) a b,l[j]? = some a->l'[j]? = some b->Wk a b
theorem Wk.refl(a:AV):Wk a a:=fun _ _ h=>h
theorem Wk.trans{a b d:AV}(h:Wk a b)(k:Wk b d):Wk a d:=fun c x r=>k c x (h c x r)
theorem Wk.nilS(s:Nat):Wk (.v (.slice none 0 0)) (.sl s [] none):=fun c x h=>QoT s h
theorem WkL.nil:WkL [] []:=⟨rfl,fun j a b h=>by simp at h⟩
theorem WkL.refl(l:List AV):WkL l l:=⟨rfl,fun j a b h k=>by rw[h]at k;cases k;exact .refl a⟩
theorem WkL.cons{a b:AV}{l m:List AV}(h:Wk a b)(k:WkL l m):WkL (a::l) (b::m):=by
 refine⟨by simp[k.1],fun j x y hx hy=>?_⟩
 cases j with
 |zero=>simp at hx hy;subst hx;subst hy;exact h
 |succ j=>exact k.2 j x y (by simpa using hx) (by simpa using hy)
theorem WkL.append{l1 l2 m1 m2:List AV}(h:WkL l1 m1)(k:WkL l2 m2):WkL (l1++l2) (m1++m2):=by
 refine⟨by simp[h.1,k.1],fun j x y hx hy=>?_⟩
 rcases QAR j l1.length with hj|hj
 ·rw[Qzc hj]at hx
  rw[Qzc (by rw[<-h.1];exact hj)]at hy
  exact h.2 j x y hx hy
 ·rw[Qzi hj]at hx
  rw[Qzi (by rw[<-h.1];exact hj),<-h.1]at hy
  exact k.2 _ x y hx hy
theorem Wk.agg{l m:List AV}(h:WkL l m):Wk (.agg l) (.agg m):=by
 intro c x r
 cases r with
 |agg _ cs hl hr =>
  refine .agg m cs (hl.trans h.1) fun j a u ha hu=>?_
  obtain⟨b,hb⟩:∃b,l[j]? = some b:=⟨_,Qzg (by rw[h.1];exact Qf ha)⟩
  exact h.2 j b a hb ha c u (hr j b u hb hu)
theorem Wk.sl{s:Nat}{xs ys:List AV}{own:Option Nat}(hl:xs.length=ys.length)(hs:∀y∈ys,y.cells.length=s)(h:WkL (flat xs) (flat ys)):Wk (.sl s xs own) (.sl s ys none):=by
 intro c x r
 cases r with
 |slnil _ _ ht =>
  cases ys with
  |nil=>exact .slnil s none fun b hb=>by cases hb
  |cons y ys=>simp at hl
 |slzero _ _ ba ht =>
  cases ys with
  |nil=>exact .slzero s none ba fun b hb=>by cases hb
  |cons y ys=>simp at hl
 |sl _ _ _ B o cap f hs' hcap hmax hc hr ht =>
  rw[hl]
  rw[hl]at hcap
  have old:∀(j:Nat) a,(flat ys)[j]? = some a->∃b,(flat xs)[j]? = some b:=fun j a ha=>⟨_,Qzg (by rw[h.1];exact Qf ha)⟩
  refine .sl s ys none B o cap f hs hcap hmax (fun j a ha=>?_) (fun j a ha=>?_) fun b hb=>by cases hb
  ·obtain⟨b,hb⟩:=old j a ha
   exact hc j b hb
  ·obtain⟨b,hb⟩:=old j a ha
   exact h.2 j b a hb ha c _ (hr j b hb)
theorem RelL.weak{c:Cx}{args args':List AV}{vals:Array Value}(hw:WkL args args')(h:RelL c args vals):RelL c args' vals:=by
 refine⟨h.1.trans hw.1,fun j a u ha hu=>?_⟩
 obtain⟨b,hb⟩:∃b,args[j]? = some b:=⟨_,Qzg (by rw[hw.1];exact Qf ha)⟩
 exact hw.2 j b a hb ha c u (h.2 j b u hb hu)
theorem Qn9{P:Program}{f:FuncId}{args args':List AV}{h:AH}{Q:AOut->AH->Prop}(hw:WkL args args')(H:Qp P f args' h Q):Qp P f args h Q :=
 ⟨H.1,fun F n c vals hF hst hh hvals=>H.2 F n c vals hF hst hh (hvals.weak hw)⟩
theorem Qh3{P:Program}{N:Nat}{code:Code}{Q:AExit->AS->Prop}{tm:Nat->AV}{h:AH}(id ty s:Nat)(xs xs':List AV)(hb:h[id]? = some (.cells ty s xs))(hs:∀x∈xs',x.cells.length=s)(hw:WkL (flat xs) (flat xs'))
  (H:Xs P N code Q ⟨tm,h.set id (.cells ty s xs')⟩):Xs P N code Q ⟨tm,h⟩:=by
 intro F n base c a hF hst hr R hR
 have hh:c.h=h:=hr.h
 subst hh
 obtain⟨B,cur,hρ,hcur,h3,h4⟩:=hst.blocks id _ hb
 have hev:=Ev.turn (b':=.cells ty s xs') hst hb rfl hρ (w:=c.w) rfl rfl rfl rfl (fun _ _=>rfl) (.inr ⟨_,rfl,rfl,fun _ cur _ h=>⟨cur,h,rfl⟩⟩)
 have hst2:=St.turn (b':=.cells ty s xs') hst hb rfl hρ (w:=c.w) (fun _ _=>rfl) hev ⟨B,cur,hρ,hcur,hs,fun j a' ha=>by
  obtain⟨b,hb'⟩:∃b,(flat xs)[j]? = some b:=⟨_,Qzg (by rw[hw.1];exact Qf ha)⟩
  obtain⟨u,g1,g2,g3⟩:=h4 j b hb'
  exact⟨u,g1,g2,(hw.2 j b a' hb' ha c u g3).ev hst hev⟩⟩
 have hw':(c.turn c.w id (.cells ty s xs')).w=c.w:=rfl
 rw[<-hw']
 exact H F n base _ a hF hst2 ⟨rfl,hr.size,QzL hr.above hev.size,hr.defers.ev hev,RoundOk.ev hev hr.round,fun t=>(hr.tm t).ev hst hev⟩ R fun e' s' c' a' ex hq h1 h2 h3 h4=>hR e' s' c' a' ex hq (Ev.trans hst hev h1) h2 h3 h4
theorem QcZ{P:Program}{N:Nat}{base:Bs×Fence}{ops:Array Oper}{Q:AS->Prop}{E:AV->AS->Prop}{F:Fence}{n:Nat}(hF:WF F){Qx:Exit->Act->World->Prop}{tail:List Nat}:∀(l:List Oper) (k:Nat) (s:AS) (c:Cx) (a:Act),(∀j,j<l.length->l[j]? = ops[k+j]?) ->
  OpsW P N ops l Q E s->St c->SR N base c s a->(∀s' c' a',Q s'->Ev c c'->St c'->SR N base c' s' a'->wpOpsIn F n P ops Qx tail a' c'.w) ->
  (∀r s' c' a' x,E r s'->Ev c c'->St c'->SR N base c' s' a'->Rel c' r x->Qx (.panic [{v:=x,recovered:=false}]) a' c'.w)->wpOpsIn F n P ops Qx (List.range' k l.length++tail) a c.w
 |[],k,s,c,a,hl,H,hst,hr,hQ,hE=>by
  simp only[Qyx,List.range'_zero,QyK]
  exact hQ s c a H (Ev.refl c) hst hr
 |o::l,k,s,c,a,hl,H,hst,hr,hQ,hE=>by
  have h0:ops[k]? = some o:=by simpa using(hl 0 (by simp)).symm
  have hl':∀j,j<l.length->l[j]? = ops[k+1+j]? := fun j hj=>by have:=hl (j+1) (by simp;omega);simpa [QAA,QBi 1 j]using this
  simp only[Qyw,List.range'_succ,QyL,wpOpsIn,h0]
  simp only[OpsW]at H
  split at H
  ·rename_i hw
   rw[Q7 hr hw]
   simp only[QAj]
   refine QcY H hF hst hr ?_ ?_
   ·intro s' c' a' hK h1 h2 h3
    exact QcZ hF l (k+1) s' c' a' hl' hK h2 h3 (fun s2 c2 a2 q e2 t2 r2=>hQ s2 c2 a2 q (Ev.trans hst h1 e2) t2 r2) (fun r s2 c2 a2 x q e2 t2 r2=>hE r s2 c2 a2 x q (Ev.trans hst h1 e2) t2 r2)
   ·intro r s' c' x he h1 h2 h3 hx
    exact hE r s' c' a x he h1 h2 h3 hx
  ·rename_i hw
   rw[Q7 hr hw]
   simp only[Qyn,Qz5]
   refine⟨fun f _=>hF.fn f,?_⟩
   have hr':=hr.put hst (Ev.refl c) o.dst (.v undef)
   rw[hr.h]at hr'
   exact QcZ hF l (k+1) _ c _ hl' H hst hr' hQ hE
  ·exact H.elim
end Go.Proofs.YtenheconhibonaaGreatDoor.Ab
namespace Go.Proofs.YtenheconhibonaaGreatDoor.Ab
open Go.RowKit
theorem WF.QxX{F:Fence}(h:WF F):F.plain=Fence.wide:=by
 obtain⟨fn,depth,alive,round⟩:=F
 obtain⟨h1,h2,h3⟩:=h
 have h1':∀f,fn f:=h1
 have h2':depth=none:=h2
 have h3':alive=false:=h3
 subst h2' h3'
 have:fn=fun _=>True:=funext fun f=>by simpa using h1' f
 subst this
 rfl
theorem QfR{F:Fence}(hF:WF F){n:Nat}{P:Program}{f:FuncId}{args:Array Value}{w:World}{R:Ending->World->Prop}(h:Calls P f args w R):CallsIn F n P f args w R :=
 Qcf (by rw[hF.QxX];exact callsIn_wide.2 h)
theorem Grows.of_below{w w':World}(h:Go.RowKit.Below w.heap.size w w'):Grows w w':=⟨h.os,h.tape,h.output,h.size,h.block⟩
theorem Qus{c:Cx}{vs:List Value}{vals:Array Value}(h:RelL c (vs.map AV.v) vals):vals=vs.toArray:=by
 apply Array.ext'
 apply QzY
 intro j
 rcases QAR j vs.length with hj|hj
 ·have h1:(vs.map AV.v)[j]? = some (.v vs[j]):=by rw[QzN,Qzg hj];rfl
  have hs:vals.size=vs.length:=by rw[h.1,QzJ]
  have h2:vals[j]? = some vals[j]:=Qzv (by omega)
  have:=h.2 j _ _ h1 h2
  rw[QAd,h2,List.toList_toArray,Qzg hj]
  generalize vals[j]=u at this
  cases this
  rfl
 ·have hs:vals.size=vs.length:=by rw[h.1,QzJ]
  rw[QAd,Array.getElem?_eq_none (by omega),List.toList_toArray,QzR hj]
theorem Qgz{P:Program}{f:FuncId}{vs:List Value}{h:AH}{a:AV}(hcall:∀vals w,(callFunc f vals).run P w = .ok (.enter f vals) w)
  (H:∀c:Cx,St c->c.h=h->Calls P f vs.toArray c.w fun e w'=>∃u,e = .returned u/\Go.RowKit.Below c.w.heap.size c.w w'/\∀c',Rel c' a u):Qp P f (vs.map AV.v) h fun o h'=>o = .ret a/\h'=h:=by
 refine⟨hcall,fun F n c vals hF hst hh hvals=>QfR hF ?_⟩
 rw[Qus hvals]
 refine(H c hst hh).mono ?_
 rintro e w' ⟨u,rfl,hb,hu⟩
 have hg:=Grows.of_below hb
 exact⟨.ret a,c.to w',⟨rfl,hh⟩,Ev.grows hst hg,hst.grows hg,rfl,⟨u,rfl,hu _⟩⟩
theorem QsF{P:Program}{f:FuncId}{vs:List Value}{a:AV}(hcall:∀vals w,(callFunc f vals).run P w = .ok (.enter f vals) w)
  (H:∀w,Calls P f vs.toArray w fun e w'=>∃u,e = .returned u/\Go.RowKit.Below w.heap.size w w'/\∀c',Rel c' a u):Pure P f (vs.map AV.v) a :=
 fun h=>Qgz hcall fun c _ _=>H c.w
end Go.Proofs.YtenheconhibonaaGreatDoor.Ab
namespace Go.Proofs.YtenheconhibonaaGreatDoor.Ab
def byteAt(s:ByteArray)(i:Nat):Int:=((s.data.toList.getD i 0).toNat:Nat)
theorem Qn7(s:ByteArray)(i:Nat):0<=byteAt s i/\byteAt s i<256:=by
 have:=(s.data.toList.getD i 0).toNat_lt
 unfold byteAt
 omega
theorem Qok(s:ByteArray)(i:Nat)(h:i<s.size):s[i]? = some (s.data.toList.getD i 0):=by
 have h':i<s.data.size:=h
 rw[getElem?_pos s i h]
 congr 1
 show s.data[i]=_
 rw[QzQ,Qzg (by simpa using h')]
 simp
theorem Qa6(P:Program)(t:TypeId)(ht:P.underlying t=some .string)(s:ByteArray)(i:Nat)(h:i<s.size):pv P (Instr.index t (.string s) (.int .i64 (i:Int)))=some (.int .u8 (byteAt s i)):=by
 have hi:(0:Int)<=(i:Int):=by omega
 simp only[Instr.index,asIntOf,Bind.bind,Sem.bind,Pure.pure,pv,underlying,program,ht]
 rw[Qzh hi,Int.toNat_natCast,Qok s i h]
 rfl
theorem QoR(P:Program)(t:TypeId)(ht:P.underlying t=some .string)(s:ByteArray)(h:0<s.size):pv P (Instr.index t (.string s) (.int .i64 0))=some (.int .u8 (byteAt s 0)):=Qa6 P t ht s 0 h
theorem Qf9(P:Program)(q:IntKind)(i:Int)(y:Nat)(code:BoundsCode)(h:0<=i/\i<=(y:Int)):pv P (Instr.sliceBound (.int q i) y code)=some i.toNat:=by
 show pv P (if 0<=i/\i<=(y:Int)then pure i.toNat else boundsPanic q i y code)=_
 rw[Qzh h];rfl
theorem QhB{α:Type}(P:Program)(a:α):pv P (pure a:Sem α)=some a:=rfl
theorem QeF(P:Program){t:TypeId}{d:TypeDesc}(ht:P.underlying t=some d):pv P (underlying t)=some d:=by
 simp only[underlying,program,Bind.bind,Sem.bind,pv,ht];rfl
theorem Qrc(P:Program)(len cap:Nat)(lo hi:Option (IntKind×Int))(l k:Nat)(hk:match hi with|some (_,i)=>0<=i/\i<=(cap:Int)/\i.toNat=k|none=>len=k)(hl:match lo with|some (_,i)=>0<=i/\i<=(k:Int)/\i.toNat=l|none=>l=0) :
  pv P (Instr.sliceBounds false len cap (lo.map fun x=>.int x.1 x.2) (hi.map fun x=>.int x.1 x.2) none)=some (l,k,cap):=by
 unfold Instr.sliceBounds
 cases hi with
 |none =>
  subst hk
  cases lo with
  |none=>subst hl;rfl
  |some x =>
   obtain⟨q,i⟩:=x
   obtain⟨h1,h2,h3⟩:=hl
   simp only[QyY,Qyl,Yu,QhB,Qyo,QBa,Qyn,↓reduceIte,Qf9 P q i len .sliceB ⟨h1,h2⟩,h3]
 |some x =>
  obtain⟨q,i⟩:=x
  obtain⟨h1,h2,h3⟩:=hk
  cases lo with
  |none =>
   subst hl
   simp only[QyY,Qyl,Yu,QhB,Qyo,QBa,Qyn,↓reduceIte,Qf9 P q i cap .sliceAlen ⟨h1,h2⟩,h3]
  |some x =>
   obtain⟨q',i'⟩:=x
   obtain⟨h4,h5,h6⟩:=hl
   simp only[QyY,Qyl,Yu,QhB,Qyo,QBa,Qyn,↓reduceIte,Qf9 P q i cap .sliceAlen ⟨h1,h2⟩,h3,Qf9 P q' i' k .sliceB ⟨h4,h5⟩,h6]
theorem QeE(P:Program)(t:TypeId)(ht:P.underlying t=some .string)(s:ByteArray)(lo hi:Option (IntKind×Int))(l k:Nat)(hk:match hi with|some (_,i)=>0<=i/\i<=(s.size:Int)/\i.toNat=k|none=>s.size=k)(hl:match lo with|some (_,i)=>0<=i/\i<=(k:Int)/\i.toNat=l|none=>l=0) :
  pv P (Instr.sliceAt t (.string s) (lo.map fun x=>.int x.1 x.2) (hi.map fun x=>.int x.1 x.2) none)=some (.string (s.extract l k)):=by
 have hu:pv P (underlying t)=some .string:=QeF P ht
 have:=Qrc P s.size s.size lo hi l k hk hl
 unfold Instr.sliceAt
 rw[Yu,hu]
 show pv P (Instr.slice t (.string s) _ _ none)=_
 unfold Instr.slice
 rw[Yu,hu]
 simp only[Qyo,QBa,Qyn,↓reduceIte,Yu,QhB,this]
theorem QsH(P:Program)(t:TypeId)(ht:P.underlying t=some .string)(s:ByteArray)(i:Nat)(h:i<=s.size):pv P (Instr.sliceAt t (.string s) (some (.int .i64 (i:Int))) none none)=some (.string (s.extract i s.size)) :=
 QeE P t ht s (some (.i64,i)) none i s.size rfl ⟨by omega,by omega,by omega⟩
theorem QbN(P:Program)(t:TypeId)(xo yo:Operand)(a b:ByteArray)(h:a.size+b.size<=9223372036854775807):pv P (do eqGuard .add t xo yo (.string a) (.string b);binOp .add t (.string a) (.string b))=some (.string (a++b)):=by
 have h1:pv P (Op.stringOp .add a b)=some (.string (a++b)):=by
  unfold Op.stringOp
  simp only
  rw[Qzf (by show ¬((a.size+b.size:Nat):Int)>9223372036854775807;omega)]
  rfl
 rw[Yu]
 show(some ()).bind _=_
 exact h1
section
variable(P:Program)(t:TypeId)(xo yo:Operand)(k:IntKind)(a b:Int)
end
theorem Qnf(s:ByteArray)(i:Nat):((s.get! i).toNat:Int)=byteAt s i:=by
 unfold byteAt
 congr 2
 show s.data[i]! = _
 rw[QzQ]
 by_cases h:i<s.data.size
 ·rw[getElem!_pos s.data i h,Qzg (by simpa using h)]
  simp
 ·rw[getElem!_neg s.data i h,QzR (by simpa using h)]
  rfl
theorem decode_ascii{s:ByteArray}{i:Nat}(h:byteAt s i<128):((Utf8.decode s i).1:Int)=byteAt s i/\(Utf8.decode s i).2=1:=by
 rw[<-Qnf]at h ⊢
 unfold Utf8.decode
 simp only[QyI]
 rw[Qzh (by omega)]
 exact⟨rfl,rfl⟩
theorem Qog{s:ByteArray}{i:Nat}(h:128<=byteAt s i):128<=(Utf8.decode s i).1:=by
 rw[<-Qnf]at h
 unfold Utf8.decode
 simp only[QyI]
 rw[Qzf (by omega)]
 have hr:(128:Nat)<=Utf8.runeError:=by decide
 repeat' split
 all_goals first|exact hr|(rename_i h;simp at h;omega)|(simp_all;omega)
end Go.Proofs.YtenheconhibonaaGreatDoor.Ab
namespace Go.Proofs.YtenheconhibonaaGreatDoor.Ab
open Go.Proofs
abbrev Qcj{a:List AV}{h:AH}{Q:AOut->AH->Prop}:=@Qc Tryz.prog 99 _ _ a h Q Tryz.func99 rfl Tryz.call99 _ Tryz.ntmps99 _ Tryz.results99
abbrev Qax{a:List AV}{h:AH}{Q:AOut->AH->Prop}:=@Qc Tryz.prog 135 _ _ a h Q Tryz.func135 rfl Tryz.call135 _ Tryz.ntmps135 _ Tryz.results135
theorem FunW.call{P:Program}{f:FuncId}{args:List AV}{h:AH}{Q:AOut->AH->Prop}(H:Qp P f args h Q):FunW P (.fn (.func f) [] []) args h Q:=FunW.fn (by rw[QyK,QyM];exact H)
theorem FunW.ret{P:Program}{fv:AV}{args:List AV}{h h':AH}{r:AV}{Q:AOut->AH->Prop}(H:FunW P fv args h fun o h2=>o = .ret r/\h2=h')(k:Q (.ret r) h'):FunW P fv args h Q:=H.mono (by rintro _ _ ⟨rfl,rfl⟩;exact k)
def ofN(c:Int):Int:=if 97<=c/\c<=122 then 1 else if (65<=c/\c<=90)\/c=95 then 2 else if 48<=c/\c<=57 then 4 else 0
theorem QqT(c:Int)(hc:0<=c/\c<256):Pure Tryz.prog 135 [.v (.int .u8 c)] (.v (.int .u8 (ofN c))):=by
 intro h
 have hcs:c<48\/48<=c/\c<=57\/58<=c/\c<=64\/65<=c/\c<=90\/91<=c/\c<=94\/c=95\/c=96\/97<=c/\c<=122\/122<c:=by omega
 rcases hcs with hc1|hc1|hc1|hc1|hc1|hc1|hc1|hc1|hc1
 ·-- c<48
  have e0:ofN c=0:=by simp only[ofN];repeat' (first|rw[Qzh (by omega)]|rw[Qzf (by omega)])
  have a1:¬97<=c:=by omega
  have a2:c<=122:=by omega
  have a3:¬65<=c:=by omega
  have a4:c<=90:=by omega
  have a5:¬48<=c:=by omega
  have a6:c<=57:=by omega
  have a7:(c==95)=false:=by simp;omega
  refine Qax (by simp) ?_
  repeat refine Qa ?_;simp only[go_sem,seval,a1,a3,a5,a7]
  first|refine Qb (htake _ _) (.keep (.v _)) ⟨by rw[e0],rfl⟩|refine Qb Qzb (.keep (.v _)) ⟨by rw[e0],rfl⟩
 ·-- 48<=c/\c<=57
  have e0:ofN c=4:=by simp only[ofN];repeat' (first|rw[Qzh (by omega)]|rw[Qzf (by omega)])
  have a1:¬97<=c:=by omega
  have a2:c<=122:=by omega
  have a3:¬65<=c:=by omega
  have a4:c<=90:=by omega
  have a5:48<=c:=by omega
  have a6:c<=57:=by omega
  have a7:(c==95)=false:=by simp;omega
  refine Qax (by simp) ?_
  repeat refine Qa ?_;simp only[go_sem,seval,a1,a3,a5,a6,a7]
  first|refine Qb (htake _ _) (.keep (.v _)) ⟨by rw[e0],rfl⟩|refine Qb Qzb (.keep (.v _)) ⟨by rw[e0],rfl⟩
 ·-- 58<=c/\c<=64
  have e0:ofN c=0:=by simp only[ofN];repeat' (first|rw[Qzh (by omega)]|rw[Qzf (by omega)])
  have a1:¬97<=c:=by omega
  have a2:c<=122:=by omega
  have a3:¬65<=c:=by omega
  have a4:c<=90:=by omega
  have a5:48<=c:=by omega
  have a6:¬c<=57:=by omega
  have a7:(c==95)=false:=by simp;omega
  refine Qax (by simp) ?_
  repeat refine Qa ?_;simp only[go_sem,seval,a1,a3,a5,a6,a7]
  first|refine Qb (htake _ _) (.keep (.v _)) ⟨by rw[e0],rfl⟩|refine Qb Qzb (.keep (.v _)) ⟨by rw[e0],rfl⟩
 ·-- 65<=c/\c<=90
  have e0:ofN c=2:=by simp only[ofN];repeat' (first|rw[Qzh (by omega)]|rw[Qzf (by omega)])
  have a1:¬97<=c:=by omega
  have a2:c<=122:=by omega
  have a3:65<=c:=by omega
  have a4:c<=90:=by omega
  have a5:48<=c:=by omega
  have a6:¬c<=57:=by omega
  have a7:(c==95)=false:=by simp;omega
  refine Qax (by simp) ?_
  repeat refine Qa ?_;simp only[go_sem,seval,a1,a3,a4]
  first|refine Qb (htake _ _) (.keep (.v _)) ⟨by rw[e0],rfl⟩|refine Qb Qzb (.keep (.v _)) ⟨by rw[e0],rfl⟩
 ·-- 91<=c/\c<=94
  have e0:ofN c=0:=by simp only[ofN];repeat' (first|rw[Qzh (by omega)]|rw[Qzf (by omega)])
  have a1:¬97<=c:=by omega
  have a2:c<=122:=by omega
  have a3:65<=c:=by omega
  have a4:¬c<=90:=by omega
  have a5:48<=c:=by omega
  have a6:¬c<=57:=by omega
  have a7:(c==95)=false:=by simp;omega
  refine Qax (by simp) ?_
  repeat refine Qa ?_;simp only[go_sem,seval,a1,a3,a4,a5,a6,a7]
  first|refine Qb (htake _ _) (.keep (.v _)) ⟨by rw[e0],rfl⟩|refine Qb Qzb (.keep (.v _)) ⟨by rw[e0],rfl⟩
 ·-- c=95
  have e0:ofN c=2:=by simp only[ofN];repeat' (first|rw[Qzh (by omega)]|rw[Qzf (by omega)])
  have a1:¬97<=c:=by omega
  have a2:c<=122:=by omega
  have a3:65<=c:=by omega
  have a4:¬c<=90:=by omega
  have a5:48<=c:=by omega
  have a6:¬c<=57:=by omega
  have a7:(c==95)=true:=by simp;omega
  refine Qax (by simp) ?_
  repeat refine Qa ?_;simp only[go_sem,seval,a1,a3,a4,a7]
  first|refine Qb (htake _ _) (.keep (.v _)) ⟨by rw[e0],rfl⟩|refine Qb Qzb (.keep (.v _)) ⟨by rw[e0],rfl⟩
 ·-- c=96
  have e0:ofN c=0:=by simp only[ofN];repeat' (first|rw[Qzh (by omega)]|rw[Qzf (by omega)])
  have a1:¬97<=c:=by omega
  have a2:c<=122:=by omega
  have a3:65<=c:=by omega
  have a4:¬c<=90:=by omega
  have a5:48<=c:=by omega
  have a6:¬c<=57:=by omega
  have a7:(c==95)=false:=by simp;omega
  refine Qax (by simp) ?_
  repeat refine Qa ?_;simp only[go_sem,seval,a1,a3,a4,a5,a6,a7]
  first|refine Qb (htake _ _) (.keep (.v _)) ⟨by rw[e0],rfl⟩|refine Qb Qzb (.keep (.v _)) ⟨by rw[e0],rfl⟩
 ·-- 97<=c/\c<=122
  have e0:ofN c=1:=by simp only[ofN];repeat' (first|rw[Qzh (by omega)]|rw[Qzf (by omega)])
  have a1:97<=c:=by omega
  have a2:c<=122:=by omega
  have a3:65<=c:=by omega
  have a4:¬c<=90:=by omega
  have a5:48<=c:=by omega
  have a6:¬c<=57:=by omega
  have a7:(c==95)=false:=by simp;omega
  refine Qax (by simp) ?_
  repeat refine Qa ?_;simp only[go_sem,seval,a1,a2]
  first|refine Qb (htake _ _) (.keep (.v _)) ⟨by rw[e0],rfl⟩|refine Qb Qzb (.keep (.v _)) ⟨by rw[e0],rfl⟩
 ·-- 122<c
  have e0:ofN c=0:=by simp only[ofN];repeat' (first|rw[Qzh (by omega)]|rw[Qzf (by omega)])
  have a1:97<=c:=by omega
  have a2:¬c<=122:=by omega
  have a3:65<=c:=by omega
  have a4:¬c<=90:=by omega
  have a5:48<=c:=by omega
  have a6:¬c<=57:=by omega
  have a7:(c==95)=false:=by simp;omega
  refine Qax (by simp) ?_
  repeat refine Qa ?_;simp only[go_sem,seval,a1,a2,a3,a4,a5,a6,a7]
  first|refine Qb (htake _ _) (.keep (.v _)) ⟨by rw[e0],rfl⟩|refine Qb Qzb (.keep (.v _)) ⟨by rw[e0],rfl⟩
def resB(s:ByteArray):Bool:=(s.toList==({data:=#[99,111,110,115,116,114,97,105,110,116]}:ByteArray).toList)||(s.toList==({data:=#[116,114,117,101]}:ByteArray).toList)||(s.toList==({data:=#[102,97,105,108]}:ByteArray).toList)||(s.toList==({data:=#[105,115]}:ByteArray).toList)||(s.toList==({data:=#[105,110,116]}:ByteArray).toList)||(s.toList==({data:=#[103,114,111,117,110,100]}:ByteArray).toList)
theorem QeI(s:ByteArray):Pure Tryz.prog 99 [.v (.string s)] (.b (resB s)):=by
 intro h
 cases d0:(s.toList==({data:=#[99,111,110,115,116,114,97,105,110,116]}:ByteArray).toList)with
 |true =>
  refine Qcj (by simp) ?_
  repeat refine Qa ?_;simp only[go_sem,seval,d0]
  first|refine Qb (htake _ _) (.keep (.v _)) ⟨by simp only[resB,d0,QAF],rfl⟩|refine Qb Qzb (.keep (.v _)) ⟨by simp only[resB,d0,QAF],rfl⟩
 |false =>
  cases d1:(s.toList==({data:=#[116,114,117,101]}:ByteArray).toList)with
  |true =>
   refine Qcj (by simp) ?_
   repeat refine Qa ?_;simp only[go_sem,seval,d0,d1]
   first|refine Qb (htake _ _) (.keep (.v _)) ⟨by simp only[resB,d0,d1,QAl,QAF],rfl⟩|refine Qb Qzb (.keep (.v _)) ⟨by simp only[resB,d0,d1,QAl,QAF],rfl⟩
  |false =>
   cases d2:(s.toList==({data:=#[102,97,105,108]}:ByteArray).toList)with
   |true =>
    refine Qcj (by simp) ?_
    repeat refine Qa ?_;simp only[go_sem,seval,d0,d1,d2]
    first|refine Qb (htake _ _) (.keep (.v _)) ⟨by simp only[resB,d0,d1,d2,QAm,QAl,QAF],rfl⟩|refine Qb Qzb (.keep (.v _)) ⟨by simp only[resB,d0,d1,d2,QAm,QAl,QAF],rfl⟩
   |false =>
    cases d3:(s.toList==({data:=#[105,115]}:ByteArray).toList)with
    |true =>
     refine Qcj (by simp) ?_
     repeat refine Qa ?_;simp only[go_sem,seval,d0,d1,d2,d3]
     first|refine Qb (htake _ _) (.keep (.v _)) ⟨by simp only[resB,d0,d1,d2,d3,QAm,QAl,QAF],rfl⟩|refine Qb Qzb (.keep (.v _)) ⟨by simp only[resB,d0,d1,d2,d3,QAm,QAl,QAF],rfl⟩
    |false =>
     cases d4:(s.toList==({data:=#[105,110,116]}:ByteArray).toList)with
     |true =>
      refine Qcj (by simp) ?_
      repeat refine Qa ?_;simp only[go_sem,seval,d0,d1,d2,d3,d4]
      first|refine Qb (htake _ _) (.keep (.v _)) ⟨by simp only[resB,d0,d1,d2,d3,d4,QAm,QAl,QAF],rfl⟩|refine Qb Qzb (.keep (.v _)) ⟨by simp only[resB,d0,d1,d2,d3,d4,QAm,QAl,QAF],rfl⟩
     |false =>
      cases d5:(s.toList==({data:=#[103,114,111,117,110,100]}:ByteArray).toList)with
      |true =>
       refine Qcj (by simp) ?_
       repeat refine Qa ?_;simp only[go_sem,seval,d0,d1,d2,d3,d4,d5]
       first|refine Qb (htake _ _) (.keep (.v _)) ⟨by simp only[resB,d0,d1,d2,d3,d4,d5,QAm,QAl],rfl⟩|refine Qb Qzb (.keep (.v _)) ⟨by simp only[resB,d0,d1,d2,d3,d4,d5,QAm,QAl],rfl⟩
      |false =>
       refine Qcj (by simp) ?_
       repeat refine Qa ?_;simp only[go_sem,seval,d0,d1,d2,d3,d4,d5]
       first|refine Qb (htake _ _) (.keep (.v _)) ⟨by simp only[resB,d0,d1,d2,d3,d4,d5,QAm],rfl⟩|refine Qb Qzb (.keep (.v _)) ⟨by simp only[resB,d0,d1,d2,d3,d4,d5,QAm],rfl⟩
theorem FunW.Qxr{P:Program}{f:FuncId}{args:List AV}{h h':AH}{r:AV}{Q:AOut->AH->Prop}(H:Qp P f args h fun o h2=>o = .ret r/\h2=h')(k:Q (.ret r) h'):FunW P (.fn (.func f) [] []) args h Q:=FunW.ret (FunW.call H) k
abbrev Qf2{a:List AV}{h:AH}{Q:AOut->AH->Prop}:=@Qc Tryz.prog 98 _ _ a h Q Tryz.func98 rfl Tryz.call98 _ Tryz.ntmps98 _ Tryz.results98
theorem Ql6(s:ByteArray)(k:Nat):byteAt (s.extract 1 s.size) k=byteAt s (k+1):=by
 unfold byteAt
 rw[Lib.extract_data,QBb (by rw[QzM,<-Lib.size_eq];omega),QzQ,QzQ,QzO,QBi 1 k]
theorem QlH(s:ByteArray):(s.extract 1 s.size).size=s.size - 1:=by
 rw[Lib.size_eq,Lib.extract_data,QzE,QzM,<-Lib.size_eq];omega
def fol(c:Int):Prop:=ofN c≠0
instance (c:Int):Decidable (fol c):=by unfold fol;infer_instance
theorem Qmi(c:Int):fol c↔(97<=c/\c<=122)\/(65<=c/\c<=90)\/c=95\/(48<=c/\c<=57):=by
 unfold fol ofN
 split
 ·constructor
  ·intro _;omega
  ·intro _;decide
 ·split
  ·constructor
   ·intro _;omega
   ·intro _;decide
  ·split
   ·constructor
    ·intro _;omega
    ·intro _;decide
   ·constructor
    ·intro h;exact absurd rfl h
    ·intro _;omega
def Fol(s:ByteArray):Prop:=∀k,k<s.size->fol (byteAt s k)
instance (s:ByteArray):Decidable (Fol s):=by unfold Fol;infer_instance
theorem Qlq(c:Int):ofN c=0\/ofN c=1\/ofN c=2\/ofN c=4:=by
 unfold ofN
 repeat' split
 all_goals simp
theorem Qrt(r:Int)(hr:0<=r/\r<2147483648):Pure Tryz.prog 137 [.v (.int .i32 r)] (.b (decide (122<r\/¬fol r))):=by
 intro h
 by_cases h1:r>122
 ·refine Qc Tryz.func137 rfl Tryz.call137 Tryz.ntmps137 Tryz.results137 (by simp) ?_
  repeat refine Qa ?_;simp only[go_sem,seval,h1]
  first|refine Qb (htake _ _) (.keep (.v _)) ⟨by rw[QzA (.inl h1)],rfl⟩|refine Qb Qzb (.keep (.v _)) ⟨by rw[QzA (.inl h1)],rfl⟩
 ·have hcv:=Qur Tryz.prog 21 5 (ts:=.int .i32) (kd:=.u8) (by kernel_rfl) (by kernel_rfl) .i32
  have w0:IntKind.u8.wrap r=r:=by simp[IntKind.wrap,IntKind.bits,IntKind.signed];omega
  have c:=QqT r (by omega)
  have hf:decide (122<r\/¬fol r)=(ofN r==0):=by
   by_cases h0:ofN r=0
   ·rw[h0,QzA (.inr fun h=>h h0)];rfl
   ·rw[Qzt (by rintro(h|h);exact h1 h;exact h h0)];simp[h0]
  have ha:∀xo yo a,a=0\/a=1\/a=2\/a=4->pv Tryz.prog (do eqGuard .and 146 xo yo (.int .u8 a) (.int .u8 7);binOp .and 146 (.int .u8 a) (.int .u8 7))=some (.int .u8 a):=by
   rintro xo yo a (rfl|rfl|rfl|rfl) <;> rfl
  have ha':=fun xo yo=>ha xo yo (ofN r) (Qlq r)
  refine Qc Tryz.func137 rfl Tryz.call137 Tryz.ntmps137 Tryz.results137 (by simp) ?_
  repeat (first|refine Qe c ?_|refine Qa ?_);simp only[go_sem,seval,h1,hcv,w0,↓ha']
  first|refine Qb (htake _ _) (.keep (.v _)) ⟨by rw[hf],rfl⟩|refine Qb Qzb (.keep (.v _)) ⟨by rw[hf],rfl⟩
def ixR(s:ByteArray):Nat->Nat->Int
 |_,0 => -1
 |p,n+1=>if fol (byteAt s p)then ixR s (p+1) n else p
theorem Qqn(s:ByteArray):∀(n p:Nat),ixR s p n<0↔∀k,p<=k->k<p+n->fol (byteAt s k)
 |0,p=>by simp only[ixR];exact⟨fun _ k h1 h2=>by omega,fun _=>by omega⟩
 |n+1,p=>by
  simp only[ixR]
  split
  ·rename_i h
   rw[Qqn s n (p+1)]
   constructor
   ·intro h' k h1 h2
    by_cases hk:k=p
    ·rw[hk];exact h
    ·exact h' k (by omega) (by omega)
   ·intro h' k h1 h2;exact h' k (by omega) (by omega)
  ·rename_i h
   constructor
   ·intro h';omega
   ·intro h';exact absurd (h' p (Qzl _) (by omega)) h
theorem QpW(s:ByteArray)(i:Nat):(Utf8.decode s i).1<2147483648:=by
 unfold Utf8.decode
 have hr:Utf8.runeError<2147483648:=by decide
 have hb:∀k,(s.get! k).toNat<256:=fun k=>(s.get! k).toNat_lt
 have b0:=hb (i+0)
 have b1:=hb (i+1)
 have b2:=hb (i+2)
 have b3:=hb (i+3)
 simp only
 repeat' split
 all_goals first|exact hr|(simp only;omega)
theorem Qh4(b:ByteArray)(hs:b.size<=maxLen):Pure Tryz.prog 158 [.v (.string b),.fn (.func 137) [] [],.b true] (.i (ixR b 0 b.size)):=by
 intro h
 have hbe:=fun xo yo a b=>Quq Tryz.prog 4 xo yo (by kernel_rfl) a b
 refine Qc Tryz.func158 rfl Tryz.call158 Tryz.ntmps158 Tryz.results158 (by simp) ?_
 repeat refine Qa ?_;simp only[go_sem,seval]
 obtain⟨I,hI⟩:∃I:Nat->AS->Prop,I=fun m' s=>∃(p:Nat),m'=b.size - p/\p<=b.size/\ixR b 0 b.size=ixR b p (b.size - p)/\s.tm 1 = .fn (.func 137) [] []/\s.tm 2 = .b true/\s.tm 10 = .mp h.length/\s.h=h++[.iter b p]:=⟨_,rfl⟩;refine Qv I ?_ (m:=b.size) ?_
 ·intro m' s hs;rw[hI]at hs;obtain⟨tm,hp⟩:=s;dsimp only at hs;obtain⟨p,rfl,hp',he,t1,t2,t10,rfl⟩:=hs
  by_cases hlt:p<b.size
  ·have c:=Qrt ((Utf8.decode b p).1:Int) ⟨by omega,by have:=QpW b p;omega⟩
   obtain⟨n,hn⟩:∃n,b.size - p=n+1:=⟨b.size - p - 1,by omega⟩
   rw[hn,ixR]at he
   by_cases hf:fol (byteAt b p)
   ·rw[Qzh hf]at he
    have hb:byteAt b p<128:=by have:=(Qmi _).1 hf;omega
    obtain⟨d1,d2⟩:=decode_ascii hb
    have hc:decide (122<((Utf8.decode b p).1:Int)\/¬fol ((Utf8.decode b p).1:Int))=false:=by
     rw[d1]
     refine Qzt ?_
     rintro(h1|h1)
     ·have:=(Qmi _).1 hf;omega
     ·exact h1 hf
    rw[hc]at c
    repeat (first|refine Qe c ?_|refine Qa ?_);simp only[go_sem,seval,t1,t2,t10,hlt,d2,hbe]
    refine QZ.mk (m':=b.size - (p+1)) (by omega) ?_
    rw[hI]
    exact⟨p+1,rfl,hlt,by rw[he,show n=b.size - (p+1) by omega],t1,t2,t10,rfl⟩
   ·rw[Qzf hf]at he
    have hc:decide (122<((Utf8.decode b p).1:Int)\/¬fol ((Utf8.decode b p).1:Int))=true:=by
     refine QzA ?_
     by_cases hb:byteAt b p<128
     ·right;rw[(decode_ascii hb).1];exact hf
     ·left;have:=Qog (s:=b) (i:=p) (by omega);omega
    rw[hc]at c
    repeat (first|refine Qe c ?_|refine Qa ?_);simp only[go_sem,seval,t1,t2,t10,hlt,hbe]
    first|refine Qb (htake _ _) (.keep (.v _)) ⟨by rw[he],rfl⟩|refine Qb Qzb (.keep (.v _)) ⟨by rw[he],rfl⟩
  ·rw[show b.size - p=0 by omega,ixR]at he
   repeat refine Qa ?_;simp only[go_sem,seval,t10,hlt]
   first|refine Qb (htake _ _) (.keep (.v _)) ⟨by rw[he],rfl⟩|refine Qb Qzb (.keep (.v _)) ⟨by rw[he],rfl⟩
 ·rw[hI]
  exact⟨0,by omega,Qzy _,rfl,rfl,rfl,rfl,rfl⟩
theorem Qe4(b:ByteArray)(hs:b.size<=maxLen):Pure Tryz.prog 136 [.v (.string b),.fn (.func 137) [] []] (.i (ixR b 0 b.size)):=by
 intro h
 have c:=Qh4 b hs
 refine Qc Tryz.func136 rfl Tryz.call136 Tryz.ntmps136 Tryz.results136 (by simp) ?_
 repeat (first|refine Qe c ?_|refine Qa ?_);simp only[go_sem,seval]
 first|refine Qb (htake _ _) (.keep (.v _)) ⟨rfl,rfl⟩|refine Qb Qzb (.keep (.v _)) ⟨rfl,rfl⟩
def Qkk(first:Int)(s:ByteArray):Prop:=1<=s.size/\s.size<=40/\ofN (byteAt s 0)=first/\Fol s
instance (first:Int) (s:ByteArray):Decidable (Qkk first s):=by unfold Qkk;infer_instance
theorem Qe1(s:ByteArray):(s.toList==({data:=#[]}:ByteArray).toList)=decide (s.size=0):=by
 rw[Lib.toList_data,Lib.toList_data,Lib.size_eq]
 cases s.data.toList <;> simp
theorem QrR(first:Int)(hf:first=1\/first=2)(s:ByteArray):Pure Tryz.prog 98 [.v (.string s),.v (.int .u8 first)] (.b (decide (Qkk first s))):=by
 intro h
 have hsl:=fun b=>ZB Tryz.prog 9 3 (by kernel_rfl) b
 by_cases n0:s.size=0
 ·have d0:(s.toList==({data:=#[]}:ByteArray).toList)=true:=by rw[Qe1,QzA n0]
  refine Qf2 (by simp) ?_
  repeat refine Qa ?_;simp only[go_sem,seval,d0]
  first|refine Qb (htake _ _) (.keep (.v _)) ⟨by rw[Qzt (fun h=>by have:=h.1;omega)],rfl⟩|refine Qb Qzb (.keep (.v _)) ⟨by rw[Qzt (fun h=>by have:=h.1;omega)],rfl⟩
 ·have d0:(s.toList==({data:=#[]}:ByteArray).toList)=false:=by rw[Qe1,Qzt n0]
  by_cases n1:s.size<=40
  ·have m1:¬((s.size:Int)>40):=by omega
   have hix:=QoR Tryz.prog 9 (by kernel_rfl) s (by omega)
   have hr:=Qn7 s 0
   have c:=QqT (byteAt s 0) hr
   have ha:∀xo yo a,a=0\/a=1\/a=2\/a=4->pv Tryz.prog (do eqGuard .and 146 xo yo (.int .u8 a) (.int .u8 first);binOp .and 146 (.int .u8 a) (.int .u8 first))=some (.int .u8 (if a=first then first else 0)):=by
    rcases hf with rfl|rfl <;> rintro xo yo a (rfl|rfl|rfl|rfl) <;> rfl
   have ha':=fun xo yo=>ha xo yo (ofN (byteAt s 0)) (Qlq _)
   by_cases hc:ofN (byteAt s 0)=first
   ·have f0:(first==0)=false:=by simp;omega
    have hsf:=QsH Tryz.prog 9 (by kernel_rfl) s 1 (by omega)
    have hsf':pv Tryz.prog (Instr.sliceAt 9 (.string s) (some (.int .i64 1)) none none)=some (.string (s.extract 1 s.size)):=hsf
    have ci:=Qe4 (s.extract 1 s.size) (by rw[QlH];simp only[maxLen];omega)
    have hi:decide (ixR (s.extract 1 s.size) 0 (s.extract 1 s.size).size<0)=decide (Qkk first s):=by
     rw[decide_eq_decide,Qqn]
     simp only[QlH,Ql6,Qyv]
     constructor
     ·intro h1
      refine⟨by omega,n1,hc,fun k hk=>?_⟩
      cases k with
      |zero=>show ofN _≠0;rw[hc];omega
      |succ k=>exact h1 k (Qzy _) (by omega)
     ·rintro⟨_,_,_,h4⟩ k _ hk
      exact h4 (k+1) (by omega)
    rw[Qzh hc]at ha'
    refine Qf2 (by simp) ?_
    repeat (first|refine Qe c ?_|refine Qe ci ?_|refine Qa ?_);simp only[go_sem,seval,QbO,d0,hsl,m1,hix,↓ha',f0,hsf']
    first|refine Qb (htake _ _) (.keep (.v _)) ⟨by rw[hi],rfl⟩|refine Qb Qzb (.keep (.v _)) ⟨by rw[hi],rfl⟩
   ·rw[Qzf hc]at ha'
    refine Qf2 (by simp) ?_
    repeat (first|refine Qe c ?_|refine Qa ?_);simp only[go_sem,seval,d0,hsl,m1,hix,↓ha']
    first|refine Qb (htake _ _) (.keep (.v _)) ⟨by rw[Qzt (fun h=>hc h.2.2.1)],rfl⟩|refine Qb Qzb (.keep (.v _)) ⟨by rw[Qzt (fun h=>hc h.2.2.1)],rfl⟩
  ·have m1:((s.size:Int)>40):=by omega
   refine Qf2 (by simp) ?_
   repeat refine Qa ?_;simp only[go_sem,seval,d0,hsl,m1]
   first|refine Qb (htake _ _) (.keep (.v _)) ⟨by rw[Qzt (fun h=>by have:=h.2.1;omega)],rfl⟩|refine Qb Qzb (.keep (.v _)) ⟨by rw[Qzt (fun h=>by have:=h.2.1;omega)],rfl⟩
end Go.Proofs.YtenheconhibonaaGreatDoor.Ab
namespace Go.Proofs
open Go.Shelf
def Tryz.QxQ:Go.Shelf.Ren:=⟨fun|171=>58|243=>100|246=>138|283=>159|284=>160|285=>161|286=>162|129=>173|317=>172|318=>174|319=>175|320=>176|337=>183|338=>184|n=>n,fun|3=>3|9=>9|2=>2|4=>4|171=>204|0=>0|53=>205|37=>72|5=>5|173=>208|212=>216|51=>217|20=>20|213=>218|46=>220|232=>230|233=>231|n=>n,fun|17=>0|18=>1|19=>2|n=>n⟩
theorem Tryz.laysM171:Go.Proofs.LaysM.n171 Tryz.prog Tryz.QxQ:={
 mixed:=by kernel_rfl
 f129:=Tryz.func173.trans (congrArg some (by kernel_rfl))
 f171:=Tryz.func58.trans (congrArg some (by kernel_rfl))
 f243:=Tryz.func100.trans (congrArg some (by kernel_rfl))
 f246:=Tryz.func138.trans (congrArg some (by kernel_rfl))
 f283:=Tryz.func159.trans (congrArg some (by kernel_rfl))
 f284:=Tryz.func160.trans (congrArg some (by kernel_rfl))
 f285:=Tryz.func161.trans (congrArg some (by kernel_rfl))
 f286:=Tryz.func162.trans (congrArg some (by kernel_rfl))
 f317:=Tryz.func172.trans (congrArg some (by kernel_rfl))
 f318:=Tryz.func174.trans (congrArg some (by kernel_rfl))
 f319:=Tryz.func175.trans (congrArg some (by kernel_rfl))
 f320:=Tryz.func176.trans (congrArg some (by kernel_rfl))
 f337:=Tryz.func183.trans (congrArg some (by kernel_rfl))
 f338:=Tryz.func184.trans (congrArg some (by kernel_rfl))
 t0:=Tryz.underlying0
 a0:=Tryz.isAgg0
 z0:=Tryz.sizeOf0
 v0:=Tryz.zeroValue0
 t2:=Tryz.underlying2
 a2:=Tryz.isAgg2
 z2:=Tryz.sizeOf2
 v2:=Tryz.zeroValue2
 t3:=Tryz.underlying3
 a3:=Tryz.isAgg3
 z3:=Tryz.sizeOf3
 v3:=Tryz.zeroValue3
 t4:=Tryz.underlying4
 a4:=Tryz.isAgg4
 z4:=Tryz.sizeOf4
 v4:=Tryz.zeroValue4
 t5:=Tryz.underlying5
 a5:=Tryz.isAgg5
 z5:=Tryz.sizeOf5
 v5:=Tryz.zeroValue5
 t9:=Tryz.underlying9
 a9:=Tryz.isAgg9
 z9:=Tryz.sizeOf9
 v9:=Tryz.zeroValue9
 t20:=Tryz.underlying20
 a20:=Tryz.isAgg20
 z20:=Tryz.sizeOf20
 v20:=Tryz.zeroValue20
 t37:=Tryz.underlying72
 a37:=Tryz.isAgg72
 z37:=Tryz.sizeOf72
 v37:=Tryz.zeroValue72
 t46:=Tryz.underlying220
 a46:=Tryz.isAgg220
 z46:=Tryz.sizeOf220
 v46:=Tryz.zeroValue220
 t51:=Tryz.underlying217
 a51:=Tryz.isAgg217
 z51:=Tryz.sizeOf217
 v51:=Tryz.zeroValue217
 t53:=Tryz.underlying205
 a53:=Tryz.isAgg205
 z53:=Tryz.sizeOf205
 v53:=Tryz.zeroValue205
 t171:=Tryz.underlying204
 a171:=Tryz.isAgg204
 z171:=Tryz.sizeOf204
 v171:=Tryz.zeroValue204
 t173:=Tryz.underlying208
 a173:=Tryz.isAgg208
 z173:=Tryz.sizeOf208
 v173:=Tryz.zeroValue208
 t212:=Tryz.underlying216
 a212:=Tryz.isAgg216
 z212:=Tryz.sizeOf216
 v212:=Tryz.zeroValue216
 t213:=Tryz.underlying218
 a213:=Tryz.isAgg218
 z213:=Tryz.sizeOf218
 t232:=Tryz.underlying230
 a232:=Tryz.isAgg230
 z232:=Tryz.sizeOf230
 v232:=Tryz.zeroValue230
 t233:=Tryz.underlying231
 a233:=Tryz.isAgg231
 z233:=Tryz.sizeOf231
 v233:=Tryz.zeroValue231
 g17:=by kernel_rfl
 g18:=by kernel_rfl
 g19:=by kernel_rfl
 i0:=by kernel_rfl
 i2:=by kernel_rfl
 i3:=by kernel_rfl
 i4:=by kernel_rfl
 i5:=by kernel_rfl
 i9:=by kernel_rfl
 i20:=by kernel_rfl
 i37:=by kernel_rfl
 i46:=by kernel_rfl
 i51:=by kernel_rfl
 i53:=by kernel_rfl
 i171:=by kernel_rfl
 i173:=by kernel_rfl
 i212:=by kernel_rfl
 i232:=by kernel_rfl
 i233:=by kernel_rfl
 m17:=by kernel_rfl
 m18:=by kernel_rfl
 m19:=by kernel_rfl}
open Go.RowKit Go.Sort Go.Lib in
theorem Tryz.strconv_Itoa(n:Int)(h0 : -9223372036854775808<=n)(h1:n<=9223372036854775807)(w:World)(htab:Lib.TabIs Tryz.prog w "internal/strconv.uint64pow10" .u64 Lib.pow10Tab) :
  Calls Tryz.prog 58 #[.int .i64 n] w fun e w'=>e = .returned (.string ⟨(Lib.itoa n).toArray⟩)/\∃k os,w'=grow (w.drewN k) os:=Any.strconv_Itoa Tryz.laysM171 n h0 h1 w htab
def Tryz.QxS:Go.Shelf.Ren:=⟨fun|144=>167|143=>181|219=>190|217=>192|225=>193|224=>194|267=>195|266=>196|314=>197|n=>n,fun|9=>9|4=>4|3=>3|5=>5|46=>220|146=>234|51=>217|n=>n,fun|1=>4|n=>n⟩
theorem Tryz.lays144:Go.Proofs.Lays.n144 Tryz.prog Tryz.QxS:={
 mixed:=by kernel_rfl
 f143:=Tryz.func181.trans (congrArg some (by kernel_rfl))
 f144:=Tryz.func167.trans (congrArg some (by kernel_rfl))
 f217:=Tryz.func192.trans (congrArg some (by kernel_rfl))
 f219:=Tryz.func190.trans (congrArg some (by kernel_rfl))
 f224:=Tryz.func194.trans (congrArg some (by kernel_rfl))
 f225:=Tryz.func193.trans (congrArg some (by kernel_rfl))
 f266:=Tryz.func196.trans (congrArg some (by kernel_rfl))
 f267:=Tryz.func195.trans (congrArg some (by kernel_rfl))
 f314:=Tryz.func197.trans (congrArg some (by kernel_rfl))
 t3:=Tryz.underlying3
 a3:=Tryz.isAgg3
 z3:=Tryz.sizeOf3
 v3:=Tryz.zeroValue3
 t4:=Tryz.underlying4
 a4:=Tryz.isAgg4
 z4:=Tryz.sizeOf4
 v4:=Tryz.zeroValue4
 t5:=Tryz.underlying5
 a5:=Tryz.isAgg5
 z5:=Tryz.sizeOf5
 v5:=Tryz.zeroValue5
 t9:=Tryz.underlying9
 a9:=Tryz.isAgg9
 z9:=Tryz.sizeOf9
 v9:=Tryz.zeroValue9
 t46:=Tryz.underlying220
 a46:=Tryz.isAgg220
 z46:=Tryz.sizeOf220
 v46:=Tryz.zeroValue220
 t51:=Tryz.underlying217
 a51:=Tryz.isAgg217
 z51:=Tryz.sizeOf217
 v51:=Tryz.zeroValue217
 t146:=Tryz.underlying234
 a146:=Tryz.isAgg234
 z146:=Tryz.sizeOf234
 v146:=Tryz.zeroValue234
 g1:=by kernel_rfl}
theorem Tryz.strings_Contains_one(s:ByteArray)(c:UInt8)(w:World) :
  Calls Tryz.prog 167 #[.string s,.string ⟨#[c]⟩] w fun e w'=>e = .returned (.bool (decide (0<=Lib.indexByte s.data.toList c)))/\w'=w:=Any.strings_Contains_one Tryz.lays144 s c w
end Go.Proofs
namespace Go.Proofs.YtenheconhibonaaGreatDoor.Ab
open Go.Proofs
theorem Qdr(s:ByteArray):Pure Tryz.prog 55 [.v (.string s)] (.b (decide (Qkk 1 s)&&!resB s)):=by
 intro h
 have c:=QrR 1 (.inl rfl) s
 have cr:=QeI s
 cases hw:decide (Qkk 1 s)with
 |false =>
  rw[hw]at c
  refine Qc Tryz.func55 rfl Tryz.call55 Tryz.ntmps55 Tryz.results55 (by simp) ?_
  repeat (first|refine Qe c ?_|refine Qa ?_);simp only[go_sem,seval]
  first|refine Qb (htake _ _) (.keep (.v _)) ⟨rfl,rfl⟩|refine Qb Qzb (.keep (.v _)) ⟨rfl,rfl⟩
 |true =>
  rw[hw]at c
  refine Qc Tryz.func55 rfl Tryz.call55 Tryz.ntmps55 Tryz.results55 (by simp) ?_
  repeat (first|refine Qe c ?_|refine Qe cr ?_|refine Qa ?_);simp only[go_sem,seval]
  first|refine Qb (htake _ _) (.keep (.v _)) ⟨rfl,rfl⟩|refine Qb Qzb (.keep (.v _)) ⟨rfl,rfl⟩
def QnL(s:ByteArray):Prop:=1<=s.size/\s.size<=40/\Fol s
instance (s:ByteArray):Decidable (QnL s):=by unfold QnL;infer_instance
end Go.Proofs.YtenheconhibonaaGreatDoor.Ab
namespace Go.Proofs.YtenheconhibonaaGreatDoor.Ab
open Go.Proofs Go.RowKit
abbrev Qp0{a:List AV}{h:AH}{Q:AOut->AH->Prop}:=@Qc Tryz.prog 127 _ _ a h Q Tryz.func127 rfl Tryz.call127 _ Tryz.ntmps127 _ Tryz.results127
def opB(s:ByteArray):Bool:=(s.toList==({data:=#[43]}:ByteArray).toList)||(s.toList==({data:=#[45]}:ByteArray).toList)||(s.toList==({data:=#[42]}:ByteArray).toList)||(s.toList==({data:=#[47]}:ByteArray).toList)||(s.toList==({data:=#[37]}:ByteArray).toList)
theorem Quj:∀n:Fin 256,decide (0<=Lib.indexByte [43,45,42,47,37] (UInt8.ofNat n.val))=(([UInt8.ofNat n.val]==[43])||([UInt8.ofNat n.val]==[45])||([UInt8.ofNat n.val]==[42])||([UInt8.ofNat n.val]==[47])||([UInt8.ofNat n.val]==[37])):=by decide +kernel
theorem Qvt(c:UInt8):decide (0<=Lib.indexByte [43,45,42,47,37] c)=opB {data:=#[c]}:=by
 have:=Quj ⟨c.toNat,c.toNat_lt⟩
 simp only[UInt8.ofNat_toNat]at this
 rw[this,opB]
 simp only[Lib.toList_data]
theorem Qji(c:UInt8):Pure Tryz.prog 167 [.v (.string {data:=#[43,45,42,47,37]}),.v (.string {data:=#[c]})] (.b (opB {data:=#[c]})):=by
 rw[<-Qvt]
 exact QsF (vs:=[.string {data:=#[43,45,42,47,37]},.string {data:=#[c]}]) Tryz.call167 fun w=>(Tryz.strings_Contains_one _ c w).mono (by rintro e w' ⟨rfl,rfl⟩;exact⟨_,rfl,Go.RowKit.Below.refl _ _,fun _=>.v _⟩)
theorem one_byte{s:ByteArray}(h:s.size=1):∃c,s={data:=#[c]}:=by
 obtain⟨⟨l⟩⟩:=s
 match l,h with
 |[c],_=>exact⟨c,rfl⟩
theorem QjT{s:ByteArray}(h:s.size≠1):opB s=false:=by
 have:∀c:UInt8,(s.toList==[c])=false:=fun c=>by
  rw[Lib.toList_data,QAi]
  intro e
  exact h (by rw[Lib.size_eq,e];rfl)
 have t:∀c:UInt8,({data:=#[c]}:ByteArray).toList=[c]:=fun c=>Lib.toList_data _
 simp only[opB,t,this,QAm]
theorem QeC(s:ByteArray):Pure Tryz.prog 145 [.v (.string s)] (.b (opB s)):=by
 intro h
 have hsl:=fun b=>ZB Tryz.prog 9 3 (by kernel_rfl) b
 by_cases n1:s.size=1
 ·have m1:((s.size:Int)==1)=true:=by simp[n1]
  obtain⟨c,rfl⟩:=one_byte n1
  have cc:=Qji c
  refine Qc Tryz.func145 rfl Tryz.call145 Tryz.ntmps145 Tryz.results145 (by simp) ?_
  repeat (first|refine Qe cc ?_|refine Qa ?_);simp only[go_sem,seval,↓hsl,m1]
  first|refine Qb (htake _ _) (.keep (.v _)) ⟨rfl,rfl⟩|refine Qb Qzb (.keep (.v _)) ⟨rfl,rfl⟩
 ·have m1:((s.size:Int)==1)=false:=by simp;omega
  refine Qc Tryz.func145 rfl Tryz.call145 Tryz.ntmps145 Tryz.results145 (by simp) ?_
  repeat refine Qa ?_;simp only[go_sem,seval,↓hsl,m1]
  first|refine Qb (htake _ _) (.keep (.v _)) ⟨by rw[QjT n1],rfl⟩|refine Qb Qzb (.keep (.v _)) ⟨by rw[QjT n1],rfl⟩
def vOf(t:ByteArray):ByteArray:=({data:=#[86]}:ByteArray)++t
theorem Qsj(n:Int)(h0:0<=n)(h1:n<=1048576)(t:ByteArray)(ht:t.size<=1000)(h:AH)(H:Qp Tryz.prog 58 [.i n] h fun o h'=>o = .ret (.v (.string t))/\h'=h):Qp Tryz.prog 127 [.i n] h fun o h'=>o = .ret (.v (.string (vOf t)))/\h'=h:=by
 have m0:¬n<0:=by omega
 have m1:¬n>1048576:=by omega
 have hsa:=fun xo yo=>QbN Tryz.prog 9 xo yo ({data:=#[86]}:ByteArray) t (by show 1+t.size<=_;omega)
 refine Qp0 (by simp) ?_
 repeat (first|refine FunW.Qxr H ?_|refine Qa ?_);simp only[go_sem,seval,m0,m1,↓hsa]
 first|refine Qb (htake _ _) (.keep (.v _)) ⟨rfl,rfl⟩|refine Qb Qzb (.keep (.v _)) ⟨rfl,rfl⟩
end Go.Proofs.YtenheconhibonaaGreatDoor.Ab
namespace Go.Proofs.YtenheconhibonaaGreatDoor.Ab
open Go.ChangeShapes Go.WideShapes Go.ChangeAt Go.RowKit
def base0(W:World):Cx:=⟨fun _=>none,[],W⟩
theorem QoQ{W:World}{B o:Nat}(h:B<W.heap.size):(base0 W).prot B o:=⟨h,fun id b hb=>by simp[base0]at hb⟩
theorem Qcw{H:Type}{enc:TypeId×Value->H}{P:Program}(hl:laidOutB P=true){W W':World}(hb:Go.RowKit.Below W.heap.size W W'){sp:Nat->Bool} :
  ∀(ts:List TypeId) (vs:List Value) (ds:List (DataW H)) (ps:List MemPlace),(∀t∈ts,P.readableRec t=true/\t<P.types.size)->DataW.TrodAll enc P W 0 (fun _=>true) true ts vs ds ps ->
   (∀x∈ps,x.block<W.heap.size/\sp x.block=true)->DataW.TrodAll enc P W' 0 sp true ts vs ds ps
 |[],vs,ds,ps,_,h,_=>by
  obtain⟨rfl,rfl,rfl⟩:=trodAll_nil h
  exact trodAll_mk0
 |t::ts,vs,ds,ps,hp,h,hlt=>by
  obtain⟨v,vs',d,ds',p,q,rfl,rfl,rfl,h1,h2⟩:=trodAll_cons h
  obtain⟨h3,h4⟩:=hp t (by simp)
  exact trodAll_cons_mk (WideElems.Trod_stays hl h3 h4 h1 (fun x hx=>hb.same (hlt x (by simp[hx])).1) (fun x hx=>(hlt x (by simp[hx])).2))
   (Qcw hl hb ts vs' ds' q (fun t ht=>hp t (by simp[ht])) h2 (fun x hx=>hlt x (by simp[hx])))
theorem QfK{H:Type}{enc:TypeId×Value->H}{P:Program}{W:World}{base:Nat}{sp:Nat->Bool}{held:Bool} :
  ∀{ts:List TypeId} {vs:List Value} {ds:List (DataW H)} {ps:List MemPlace} {ts':List TypeId} {vs':List Value} {ds':List (DataW H)} {ps':List MemPlace},
   DataW.TrodAll enc P W base sp held ts vs ds ps->DataW.TrodAll enc P W base sp held ts' vs' ds' ps'->DataW.TrodAll enc P W base sp held (ts++ts') (vs++vs') (ds++ds') (ps++ps')
 |[],_,_,_,_,_,_,_,h,h'=>by
  obtain⟨rfl,rfl,rfl⟩:=trodAll_nil h
  exact h'
 |t::ts,_,_,_,_,_,_,_,h,h'=>by
  obtain⟨v,vs',d,ds',p,q,rfl,rfl,rfl,h1,h2⟩:=trodAll_cons h
  have:=trodAll_cons_mk h1 (QfK h2 h')
  simpa [Qze]using this
theorem QoN{H:Type}{enc:TypeId×Value->H}{P:Program}{fn:Func}{s:ChangeSpec}{apart fresh handsOn again:Bool}{W W':World}{args:Array Value}{ds gs:List (DataW H)}{before:List MemPlace}{tb:TypeId}
  (hl:laidOutB P=true) (hvars:s.vars=[]) (hr:fn.resultTypes=#[tb]) (hb:P.underlying tb=some .bool) (hp:∀t∈fn.params.toList,P.readableRec t=true/\t<P.types.size)
  (hW:DataW.Whole enc P fn.params.toList s.vars apart W args.toList ds gs before) (hs:s.fn H (ds++gs)={results:=[.lit (.bool true)],args:=ds}) (hbel:Go.RowKit.Below W.heap.size W W') :
  s.post enc P fn apart fresh handsOn again W args (.bool true) W':=by
 have hlt:∀x∈before,x.block<W.heap.size:=fun x hx=>by simpa using hW.lt x hx
 have hW0:=hW
 obtain⟨p,q,hA,hV,rfl,hfz,hnd⟩:=hW
 rw[hvars]at hV
 have hV0:=hV
 obtain⟨rfl,rfl⟩:=trodVars_none hV
 simp only[QyM]at hlt hfz hnd hW0 hs
 have hres:∀(b:Nat) (sp:Nat->Bool) (hd:Bool),DataW.TrodAll enc P W' b sp hd fn.resultTypes.toList ((Value.bool true).resultList fn.resultTypes.size) [.lit (.bool true)] []:=fun b sp hd=>by
  rw[hr]
  exact trodAll_mk1 (shut_bool hb true)
 have hvs:∀sp:Nat->Bool,DataW.TrodVars enc P W' sp s.vars [] []:=fun sp=>by rw[hvars];rfl
 refine⟨ds,[],p,[],p,[],by simpa using hW0,?_,?_,?_,?_,fun _=>⟨?_,?_⟩⟩
 ·rw[QyM,hs];exact hres _ _ _
 ·rw[QyM,hs]
  exact Qcw hl hbel _ _ _ _ hp hA fun x hx=>⟨hlt x hx,by simpa using hlt x hx⟩
 ·rw[QyM,hs];exact hvs _
 ·exact hbel.frame _
 ·intro j t r hj hv
  rw[hr]at hj hv
  match j,hj,hv with
  |0,hj,hv =>
   simp only[Qym,Qyj,Qyp]at hj
   have hv':r = .bool true:=by
    have:(some (Value.bool true))=some r:=hv
    cases this;rfl
   subst hj;subst hv'
   exact okWide_bool_mk hb true
  |j+1,hj,hv=>simp at hj
 ·have hA':=Qcw (sp:=fun _=>true) hl hbel _ _ _ _ hp hA fun x hx=>⟨hlt x hx,rfl⟩
  refine⟨_,[],[]++p,⟨[]++p,[],QfK (hres 0 _ true) hA',hvs _,by simp,?_,?_⟩,?_⟩
  ·intro b off hm
   have hm':MemPlace.cell b off∈p:=by simpa using hm
   exact(hbel.frozen (p:=⟨b,off,none⟩) (hlt _ hm')).trans (hfz b off hm')
  ·intro ha
   simpa using hnd ha
  ·intro x hx _
   simpa using hx
theorem QkJ{P:Program}{w:World}{r:Reach}{b:Nat}{t:TypeId}{fs:Array Field}{v:Value}(ht:P.underlying t=some (.struct fs))(hv:Value.okWide P w r b t v):∃cs,v = .agg cs:=by
 simp only[Value.okWide,ht]at hv
 obtain⟨cs,rfl,_⟩:=hv
 exact⟨cs,rfl⟩
def Reads(W:World)(a:AV)(cs:List Value):Prop:=cs.length=a.cells.length/\∀(j:Nat) x u,a.cells[j]? = some x->cs[j]? = some u->Rel (base0 W) x u/\u.oneCell'=true
theorem QkI{w:World}{a:Addr}{u:Value}(h:w.cell? a=some u):a.block<w.heap.size/\a.spot=none:=by
 unfold World.cell? at h
 cases hb:w.heap[a.block]? with
 |none=>simp[hb]at h
 |some o =>
  rw[hb]at h
  refine⟨(Qzs.1 hb).1,?_⟩
  cases o with
  |cells c _ _ =>
   simp only at h
   split at h
   ·cases h
   ·rename_i hs
    cases hsp:a.spot with
    |none=>rfl
    |some q=>rw[hsp]at hs;simp at hs
  |_=>cases h
theorem ZL{H:Type}{enc:TypeId×Value->H}{P:Program}{W:World}{t e:TypeId}{s fuel:Nat}{cs:List Value}{y:DataW H×List MemPlace}{X:Type}{val:X->AV}{Good:X->Prop}
  (ht:P.underlying t=some (.slice e)) (hs:P.cellsOf e=s) (hpos:0<s) (hval:∀x,(val x).cells.length=s)
  (rd:∀n cs y,n<fuel->DataW.trod enc P W 0 (fun _=>true) true n e cs=some y->∃x:X,Good x/\Reads W (val x) cs)
  (h:DataW.trod enc P W 0 (fun _=>true) true fuel t cs=some y):∃(xs:List X) (u:Value),(∀x∈xs,Good x)/\cs=[u]/\u.oneCell'=true/\Rel (base0 W) (.sl s (xs.map val) none) u:=by
 rcases DataW.trod_slice ht h with⟨rfl,_⟩|⟨a,len,cap,elems,rest,n,rfl,rfl,_,_,hlc,hcm,hlen,hel,hsp,_⟩
 ·exact⟨[],_,(by simp),rfl,rfl,.slnil s none fun b hb=>by cases hb⟩
 ·have each:∀i,i<len->∃x:X,Good x/\∃cs,W.cells? 0 (a.add (i * s)) s=some cs/\Reads W (val x) cs:=by
   intro i hi
   have h1:=hel i hi
   rw[Qzg (by omega),hs,Option.bind_eq_some_iff]at h1
   obtain⟨cs,h2,h3⟩:=h1
   obtain⟨x,hx1,hx2⟩:=rd n cs _ (QAV n) h3
   exact⟨x,hx1,cs,h2,hx2⟩
  obtain⟨xs,hxl,hxs⟩:∃xs:List X,xs.length=len/\∀i (hi:i<xs.length),Good xs[i]/\∃cs,W.cells? 0 (a.add (i * s)) s=some cs/\Reads W (val xs[i]) cs:=by
   have:∀m,m<=len->∃xs:List X,xs.length=m/\∀i (hi:i<xs.length),Good xs[i]/\∃cs,W.cells? 0 (a.add (i * s)) s=some cs/\Reads W (val xs[i]) cs:=by
    intro m
    induction m with
    |zero=>exact fun _=>⟨[],rfl,fun i hi=>by simp at hi⟩
    |succ m ih =>
     intro hm
     obtain⟨xs,hl,hx⟩:=ih (by omega)
     obtain⟨x,hg,hr⟩:=each m (by omega)
     refine⟨xs++[x],by simp[hl],fun i hi=>?_⟩
     by_cases hi':i<xs.length
     ·rw[List.getElem_append_left hi'];exact hx i hi'
     ·have e:i=m:=by simp at hi;omega
      subst e
      have hxe:(xs++[x])[i]=x:=by simp[<-hl]
      rw[hxe]
      exact⟨hg,hr⟩
   exact this len (Qzl _)
  have hgood:∀x∈xs,Good x:=fun x hx=>by
   obtain⟨i,hi,rfl⟩:=List.getElem_of_mem hx
   exact(hxs i hi).1
  by_cases hcap:cap=0
  ·have hl0:len=0:=by omega
   subst hcap;subst hl0
   have:xs=[]:=List.length_eq_zero_iff.1 hxl
   subst this
   exact⟨[],_,(by simp),rfl,rfl,.slzero s none a fun b hb=>by cases hb⟩
  ·have hspot:a.spot=none:=by
    have key:W.cells? 0 (a.add (0 * s)) s≠none->a.spot=none:=by
     intro hk
     cases hc:W.cells? 0 (a.add (0 * s)) s with
     |none=>exact absurd hc hk
     |some cs =>
      obtain⟨_,hl,hcell⟩:=World.cells?_some hc
      have:=hcell 0 hpos
      rw[Qzg (by omega)]at this
      have:=(QkI this).2
      simpa [Addr.add]using this
    by_cases hl:0<len
    ·refine key fun hn=>?_
     have:=hel 0 hl
     rw[hs,hn,Qzg (by omega)]at this
     simp at this
    ·obtain⟨hrl,hr⟩:=hsp rfl
     refine key fun hn=>?_
     have:=hr 0 (by omega)
     rw[show len+0=0 by omega,hs,hn,Qzg (by omega)]at this
     simp at this
   have ha:a=⟨a.block,a.off,none⟩:=by cases a;simp only at hspot;subst hspot;rfl
   have hvs:∀x∈xs.map val,x.cells.length=s:=fun x hx=>by
    obtain⟨z,_,rfl⟩:=QzD.1 hx
    exact hval z
   have hflat:∀(j:Nat) (v:AV),(flat (xs.map val))[j]? = some v->∃(i:Nat) (hi:i<xs.length) (k:Nat),k<s/\j=i * s+k/\(val xs[i]).cells[k]? = some v:=by
    intro j v hj
    have hlt:=Qf hj
    rw[flat_length hvs,QzJ]at hlt
    have hi:j / s<xs.length:=by rw[Nat.div_lt_iff_lt_mul hpos];exact hlt
    have hdm:=Nat.div_add_mod j s
    have hml:=Nat.mod_lt j hpos
    refine⟨j / s,hi,j % s,hml,by rw[Nat.mul_comm];exact hdm.symm,?_⟩
    obtain⟨v',hv'⟩:∃v',(val (xs[j / s]'hi)).cells[j % s]? = some v':=⟨_,Qzg (by rw[hval];exact hml)⟩
    have:=flat_get hvs (k:=j / s) (x:=val (xs[j / s]'hi)) (by rw[QzN,Qzg hi];rfl) hv'
    rw[show j / s * s+j % s=j by rw[Nat.mul_comm];exact hdm,hj]at this
    rw[hv',this]
   have hcell:∀(j:Nat) (v:AV),(flat (xs.map val))[j]? = some v->∃u,W.cell? ⟨a.block,a.off+j,none⟩=some u/\Rel (base0 W) v u/\u.oneCell'=true:=by
    intro j v hj
    obtain⟨i,hi,k,hk,rfl,hv⟩:=hflat j v hj
    obtain⟨_,cs,hcs,hrd⟩:=hxs i hi
    obtain⟨_,hl,hc⟩:=World.cells?_some hcs
    obtain⟨u,hu⟩:∃u,cs[k]? = some u:=⟨_,Qzg (by omega)⟩
    have h1:=hc k hk
    rw[hu]at h1
    obtain⟨h2,h3⟩:=hrd.2 k v u hv hu
    refine⟨u,?_,h2,h3⟩
    have e:(a.add (i * s)).add k=⟨a.block,a.off+(i * s+k),none⟩:=by
     rw[ha,addr_add,addr_add,QAA]
    rw[<-e]
    exact h1
   refine⟨xs,_,hgood,rfl,rfl,?_⟩
   have hsl:=Rel.sl (c:=base0 W) s (xs.map val) none a.block a.off cap (fun j=>(W.cell? ⟨a.block,a.off+j,none⟩).getD undef) hvs (by rw[QzJ];omega) hcm
    (fun j v hj=>by
     obtain⟨u,h1,h2,h3⟩:=hcell j v hj
     rw[h1]
     exact⟨⟨h1,QoQ (QkI h1).1⟩,h3⟩)
    (fun j v hj=>by
     obtain⟨u,h1,h2,h3⟩:=hcell j v hj
     rw[h1]
     exact h2)
    (fun b hb=>by cases hb)
   rw[QzJ,hxl,<-ha]at hsl
   exact hsl
theorem QsJ(c:Cx):RelL c [] #[]:=⟨rfl,fun j a u h=>by simp at h⟩
theorem Qrj{c:Cx}{a:AV}{asx:List AV}{u:Value}{us:List Value}(h:Rel c a u)(hs:RelL c asx us.toArray):RelL c (a::asx) (u::us).toArray:=by
 refine⟨by have:=hs.1;simp at this ⊢;exact this,fun j x v hx hv=>?_⟩
 cases j with
 |zero=>simp at hx hv;subst hx;subst hv;exact h
 |succ j=>exact hs.2 j x v (by simpa using hx) (by simpa using hv)
theorem Qrm{W:World}{l:List AV}{cs:Array Value}(h:Reads W (.agg l) cs.toList):Rel (base0 W) (.agg l) (.agg cs) :=
 .agg l cs (by have:=h.1;simpa [AV.cells]using this) fun j a u ha hu=>(h.2 j a u ha (by simpa using hu)).1
theorem Qsy{H:Type}{enc:TypeId×Value->H}{P:Program}{W:World}{r:Reach}{b0:Nat}{t:TypeId}{fs:Array Field}{v:Value}{d:DataW H}{ps:List MemPlace}{X:Type}{val:X->AV}{Good:X->Prop}
  (ht:P.underlying t=some (.struct fs)) (hv:Value.okWide P W r b0 t v) (hd:DataW.Trod enc P W 0 (fun _=>true) true t v d ps) (hval:∀x,∃l,val x = .agg l)
  (rd:∀fuel cs y,DataW.trod enc P W 0 (fun _=>true) true fuel t cs=some y->∃x:X,Good x/\Reads W (val x) cs):∃x:X,Good x/\Rel (base0 W) (val x) v:=by
 obtain⟨cs,rfl⟩:=QkJ ht hv
 obtain⟨fuel,hf⟩:=hd
 obtain⟨x,hg,hr⟩:=rd fuel _ _ hf
 obtain⟨l,hl⟩:=hval x
 refine⟨x,hg,?_⟩
 rw[hl]at hr ⊢
 exact Qrm hr
theorem QV{α:Type}{n:Nat}:∀{l:List α},l.length=n+1->∃a l',l=a::l'/\l'.length=n
 |a::l,h=>⟨a,l,rfl,by simpa using h⟩
theorem len_nil{α:Type}{l:List α}(h:l.length=0):l=[]:=List.length_eq_zero_iff.1 h
end Go.Proofs.YtenheconhibonaaGreatDoor.Ab
namespace Go.Proofs.YtenheconhibonaaGreatDoor.Ab
open Go.RowKit
def HasG(h:AH)(g:Nat)(cs:Array Value):Prop:=∃(i:Nat) (ty:TypeId) (fr:Nat×Nat),h[i]? = some (.glob g cs ty fr)
theorem HasG.app{h:AH}{g:Nat}{cs:Array Value}(H:HasG h g cs)(l:AH):HasG (h++l) g cs:=let ⟨i,ty,fr,e⟩:=H;⟨i,ty,fr,hext e l⟩
theorem HasG.world{c:Cx}(hst:St c){g:Nat}{cs:Array Value}(H:HasG c.h g cs):∃ty fr,c.w.heap[g]? = some (.cells cs ty fr) :=
 let ⟨i,ty,fr,e⟩:=H;⟨ty,fr,(hst.blocks i _ e).2⟩
theorem HasG.var{P:Program}{c:Cx}(hst:St c){g:Nat}{cs:Array Value}(H:HasG c.h g cs){nm:String}(hn:P.globalNamed nm=some g):c.w.var? P nm=some cs:=by
 obtain⟨ty,fr,e⟩:=H.world hst
 simp only[World.var?,hn,Qyo,e]
theorem HasG.kin{c c':Cx}(hev:Ev c c'){g:Nat}{cs:Array Value}(H:HasG c.h g cs):HasG c'.h g cs:=by
 obtain⟨i,ty,fr,e⟩:=H
 obtain⟨b',hb,hk⟩:=hev.kin i _ e
 simp only[Kin]at hk
 obtain⟨rfl,_⟩:=hk
 exact⟨i,ty,fr,hb⟩
structure GV where
 g:Nat
 cs:Array Value
 ty:TypeId
 fr:Nat×Nat
def GV.blk(x:GV):AB:=.glob x.g x.cs x.ty x.fr
def Qgv(W:World)(gs:List GV):Cx:=⟨fun id=>(gs[id]?).map (·.g),gs.map GV.blk,W⟩
theorem QcF{W:World}{gs:List GV}{id:Nat}{b:AB}(h:(Qgv W gs).h[id]? = some b):∃x,gs[id]? = some x/\b=x.blk/\(Qgv W gs).ρ id=some x.g:=by
 simp only[Qgv,QzN,Qzo]at h ⊢
 obtain⟨x,hx,rfl⟩:=h
 exact⟨x,hx,rfl,x,hx,rfl⟩
theorem QqO{l:List Nat}(hn:l.Nodup){i j a:Nat}(hi:l[i]? = some a)(hj:l[j]? = some a):i=j:=by
 have hp:=List.pairwise_iff_getElem.1 hn
 obtain⟨li,ei⟩:=List.getElem?_eq_some_iff.1 hi
 obtain⟨lj,ej⟩:=List.getElem?_eq_some_iff.1 hj
 rcases Nat.lt_trichotomy i j with h|h|h
 ·exact absurd (ei.trans ej.symm) (hp i j li lj h)
 ·exact h
 ·exact absurd (ej.trans ei.symm) (hp j i lj li h)
theorem QsV{W:World}{gs:List GV}(hw:∀x∈gs,W.heap[x.g]? = some (.cells x.cs x.ty x.fr))(hn:(gs.map (·.g)).Nodup):St (Qgv W gs):=by
 refine⟨fun id b h=>?_,fun i j a b B hi hj _ _ hρi hρj=>?_⟩
 ·obtain⟨x,hx,rfl,hρ⟩:=QcF h
  exact⟨hρ,hw x (Qzp hx)⟩
 ·obtain⟨x,hx,rfl,hρ⟩:=QcF hi
  obtain⟨y,hy,rfl,hρ'⟩:=QcF hj
  have e:x.g=y.g:=(QAH (hρ.symm.trans hρi)).trans (QAH (hρ'.symm.trans hρj)).symm
  have e1:(gs.map (·.g))[i]? = some x.g:=by rw[QzN,hx];rfl
  have e2:(gs.map (·.g))[j]? = some x.g:=by rw[QzN,hy,e];rfl
  exact QqO hn e1 e2
theorem QkD{W:World}{gs:List GV}{c:Cx}(hw:∀x∈gs,W.heap[x.g]? = some (.cells x.cs x.ty x.fr))(hst:St c)(h:Ev (Qgv W gs) c):Go.RowKit.Below W.heap.size W c.w:=by
 refine⟨h.os,h.tape,h.output,h.size,fun k hk=>?_⟩
 by_cases ho:(Qgv W gs).owns k
 ·obtain⟨id,b,hb,_,hρ⟩:=ho
  obtain⟨x,hx,rfl,hρ'⟩:=QcF hb
  obtain rfl:=QAH (hρ.symm.trans hρ')
  obtain⟨b',hb',hk'⟩:=h.kin id _ hb
  simp only[GV.blk,Kin]at hk'
  obtain⟨rfl,_⟩:=hk'
  rw[(hst.blocks id _ hb').2,hw x (Qzp hx)]
 ·exact h.frame k hk ho
theorem Qrk{W:World}{gs:List GV}{a:AV}{u:Value}(h:Rel (base0 W) a u):Rel (Qgv W gs) a u:=by
 have hp:∀{B o:Nat} {u:Value},(base0 W).cellP B o u->(Qgv W gs).cellP B o u:=fun{B o u} h=>⟨h.1,h.2.1,fun id b hb hl hρ=>.inr (by
  obtain⟨x,_,rfl,_⟩:=QcF hb
  exact⟨_,_,_,_,rfl⟩)⟩
 induction h with
 |v x=>exact .v x
 |junk x=>exact .junk x
 |agg l cs hl h ih=>exact .agg l cs hl ih
 |tup l cs hl h ih=>exact .tup l cs hl ih
 |slnil s own ht=>exact .slnil s own fun b hb=>absurd (ht b hb).1 (by simp[base0])
 |slzero s own ba ht=>exact .slzero s own ba fun b hb=>absurd (ht b hb).1 (by simp[base0])
 |sl s xs own B o cap f hs hcap hmax hc hr ht ih=>exact .sl s xs own B o cap f hs hcap hmax (fun j a hj=>⟨hp (hc j a hj).1,(hc j a hj).2⟩) ih fun b hb=>absurd (ht b hb).1.1 (by simp[base0])
 |pin s xs k off B o f hs hc hr ih=>exact .pin s xs k off B o f hs (fun j a hj=>⟨hp (hc j a hj).1,(hc j a hj).2⟩) ih
 |ptr id k off x hid=>exact absurd hid (by simp[base0])
 |arr id lo len x hid=>exact absurd hid (by simp[base0])
 |row id lo len cap x hid=>exact absurd hid (by simp[base0])
 |mp id x hid=>exact absurd hid (by simp[base0])
 |fn f first cap vs ws h1 h2 hv hw ihv ihw=>exact .fn f first cap vs ws h1 h2 ihv ihw
 |ifc t a u h ih=>exact .ifc t a u ih
 |spt s xs own p n k h ih=>exact .spt s xs own p n k ih
theorem QoS{W:World}{gs:List GV}{asx:List AV}{args:Array Value}(h:RelL (base0 W) asx args):RelL (Qgv W gs) asx args:=⟨h.1,fun j a u e1 e2=>Qrk (h.2 j a u e1 e2)⟩
theorem Qox{P:Program}{f:FuncId}{asx:List AV}{W:World}{args:Array Value}{gs:List GV}(hw:∀x∈gs,W.heap[x.g]? = some (.cells x.cs x.ty x.fr))(hn:(gs.map (·.g)).Nodup)
  (hc:Qp P f asx (gs.map GV.blk) fun o h'=>o = .ret (.v (.bool true))/\h'=gs.map GV.blk) (hr:RelL (Qgv W gs) asx args) :
  Calls P f args W fun e W'=>e = .returned (.bool true)/\Go.RowKit.Below W.heap.size W W':=by
 refine callsIn_wide.1 ((hc.2 Fence.wide 0 (Qgv W gs) args WF.wide (QsV hw hn) rfl hr).mono ?_)
 rintro e w' ⟨o,c',⟨rfl,hh⟩,hev,hst,rfl,hend⟩
 obtain⟨x,rfl,hx⟩:=hend
 cases hx
 exact⟨rfl,QkD hw hst hev⟩
theorem Qnp{P:Program}{W:World}{l:List (String×DataW Unit)}(h:laidMetH P l W){x:String×DataW Unit}(hf:((l.filter fun x=>x.2.handleName?.isNone).filter fun y=>y.1==x.1)=[x]):laidMet P [x] W:=by
 have:=(laidMetH_iff.1 h).1.filter fun y=>y.1==x.1
 rwa [hf]at this
theorem QlV{P:Program}{W:World}{nm:String}{g:Nat}{cs:Array Value}(hn:P.globalNamed nm=some g)(h:W.var? P nm=some cs):∃ty fr,W.heap[g]? = some (.cells cs ty fr):=by
 simp only[World.var?,hn,Qyo]at h
 split at h
 ·rename_i cs' ty fr e
  cases h
  exact⟨ty,fr,e⟩
 ·cases h
theorem Qsl{P:Program}{W:World}{nm:String}{k:IntKind}{zs:List Int}{g:Nat}{t e:TypeId}{n:Nat}
  (hg:P.globalNamed nm=some g) (hty:(P.globals[g]?).map (·.type)=some t) (ht:P.underlying t=some (.array n e)) (he:P.underlying e=some (.int k)) (hce:P.cellsOf e=1) (hct:P.cellsOf t=n)
  (h:laidMet P [(nm,Lib.tabData k zs)] W):∃ty fr,W.heap[g]? = some (.cells (zs.map fun z=>Value.int k z).toArray ty fr) :=
 QlV hg (Lib.tabIs_of_head hg hty ht he hce hct h)
end Go.Proofs.YtenheconhibonaaGreatDoor.Ab
namespace Go.Proofs.YtenheconhibonaaGreatDoor.Ab
open Go.Lib
def decN(n:Nat):ByteArray:=⟨(decDigits n).toArray⟩
theorem QgG(n:Nat):(decN n).size=nDigits n:=by
 show(decDigits n).toArray.size=_
 rw[QzX,decDigits_length]
theorem QbV(n:Nat):(decN n).data.toList=decDigits n:=rfl
theorem QbC:∀(k n:Nat),n<10 ^ (k+1)->nDigits n<=k+1
 |0,n,h=>by rw[nDigits_small (by simpa using h)];exact Qzl _
 |k+1,n,h=>by
  by_cases hn:n<10
  ·rw[nDigits_small hn];omega
  ·rw[nDigits_big hn]
   have:=QbC k (n / 10) (by rw[Nat.pow_succ]at h;omega)
   omega
theorem QkP{n:Nat}(h:n<=9223372036854775808):(decN n).size<=19:=by
 rw[QgG]
 exact QbC 18 n (by omega)
theorem Qm5{n:Nat}(h:n<=1048576):(decN n).size<=7:=by
 rw[QgG]
 exact QbC 6 n (by omega)
theorem Qr7(n:Nat):1<=(decN n).size:=by rw[QgG];exact nDigits_pos n
theorem Qs8{a b:ByteArray}(h:a.data.toList=b.data.toList):a=b:=by
 obtain⟨a⟩:=a;obtain⟨b⟩:=b
 congr 1
 exact Array.toList_inj.1 h
theorem QC(a b:ByteArray):(a++b).data.toList=a.data.toList++b.data.toList:=by
 rw[ByteArray.data_append,Array.toList_append]
theorem QdF:∀(l m:List UInt8) (a:Nat),decFrom a (l++m)=(decFrom a l).bind fun b=>decFrom b m
 |[],m,a=>rfl
 |c::l,m,a=>by
  rw[QyL]
  simp only[decFrom]
  cases digitVal c with
  |none=>rfl
  |some d=>exact QdF l m _
theorem Qft{d:Nat}(h:d<10):digitVal (UInt8.ofNat (48+d))=some d:=by
 have e:(UInt8.ofNat (48+d)).toNat=48+d:=by
  rw[UInt8.toNat_ofNat'];omega
 unfold digitVal
 rw[e,Qzh (by omega)]
 congr 1;omega
theorem QgF(n:Nat):decFrom 0 (decDigits n)=some n:=by
 induction n using Nat.strongRecOn with
 |_ n ih =>
  rw[decDigits]
  split
  ·rename_i h
   simp only[decFrom,Qft h]
   congr 1;omega
  ·rename_i h
   rw[QdF,ih (n / 10) (by omega),Option.bind_some]
   simp only[decFrom,Qft (show n % 10<10 by omega)]
   congr 1;omega
end Go.Proofs.YtenheconhibonaaGreatDoor.Ab
namespace Go.Proofs.YtenheconhibonaaGreatDoor.Ab
open Go.Proofs Go.RowKit
def tabC:Array Value:=(Lib.pow10Tab.map fun z=>Value.int .u64 z).toArray
def Xl(h:AH):Prop:=HasG h 0 tabC
open Go.Sort in
theorem Qed(w:World)(q:Nat)(os:Array Obj):Go.RowKit.Below w.heap.size w (grow (w.drewN q) os) :=
 ⟨rfl,rfl,rfl,by simp[grow],fun i hi=>by
  show((w.drewN q).heap++os)[i]? = _
  rw[Qz6 (by show i<w.heap.size;omega)]
  rfl⟩
theorem Qqm(n:Nat)(hn:n<=9223372036854775807)(h:AH)(hG:Xl h):Qp Tryz.prog 58 [.i n] h fun o h'=>o = .ret (.v (.string (decN n)))/\h'=h :=
 Qgz (vs:=[.int .i64 n]) Tryz.call58 fun c hst hh=>by
  have hv:c.w.var? Tryz.prog "internal/strconv.uint64pow10" = some tabC:=HasG.var hst (hh▸hG) (by kernel_rfl)
  refine(Tryz.strconv_Itoa n (by omega) (by omega) c.w hv).mono ?_
  rintro e w' ⟨rfl,k,os,rfl⟩
  refine⟨_,rfl,?_,fun c'=>by rw[Lib.itoa_nonneg];exact .v _⟩
  exact Qed c.w k os
theorem Qqx(n:Nat)(h1:n<=1048576)(h:AH)(hG:Xl h):Qp Tryz.prog 127 [.i n] h fun o h'=>o = .ret (.v (.string (vOf (decN n))))/\h'=h :=
 Qsj n (by omega) (by omega) _ (by have:=Qm5 h1;omega) h (Qqm n (by omega) h hG)
end Go.Proofs.YtenheconhibonaaGreatDoor.Ab
namespace Go.Proofs.YtenheconhibonaaGreatDoor.Ab
open Go.Proofs
def BTy(ty:TypeId):Prop:=ty=74\/ty=138
theorem Quf(xo:Operand):pv Tryz.prog (do eqGuard .eql 71 xo (.const (.pointer none)) (.pointer none) (.pointer none);binOp .eql 71 (.pointer none) (.pointer none))=some (.bool true):=by
 kernel_rfl
theorem BTy.cells{ty:TypeId}(h:BTy ty):Tryz.prog.cellsOf ty=2:=by rcases h with rfl|rfl <;> kernel_rfl
theorem BTy.lies{ty:TypeId}(h:BTy ty):liesAt Tryz.prog Tryz.prog.depth ty 1 0 74 1=true:=by rcases h with rfl|rfl <;> kernel_rfl
theorem unB:Tryz.prog.underlying 71=some (.pointer 74):=by kernel_rfl
theorem unU:Tryz.prog.underlying 169=some .unsafePointer:=by kernel_rfl
theorem inB:∃j,Tryz.prog.info? 74=some j/\j.size≠0:=by
 have h:(match Tryz.prog.info? 74 with|some j=>decide (j.size≠0)|none=>false)=true:=by kernel_rfl
 cases hj:Tryz.prog.info? 74 with
 |none=>rw[hj]at h;cases h
 |some j=>rw[hj]at h;exact⟨j,rfl,QA4 h⟩
theorem isB:(Tryz.prog.info? 74).isSome=true:=by kernel_rfl
theorem toU{ty:TypeId}(hty:BTy ty){h:AH}{i:Nat}{xs:List AV}(hb:h[i]? = some (.cells ty 2 [.agg xs])):QbH Tryz.prog 71 169 i 0 0 h=some (.ptr i 0 0):=by
 obtain⟨j,hj,h0⟩:=inB
 simp only[QbH,hb,unB,unU,hj]
 rw[Qzf (by simp),Qzh h0]
theorem Qwq{ty:TypeId}(hty:BTy ty){h:AH}{i:Nat}{xs:List AV}(hb:h[i]? = some (.cells ty 2 [.agg xs])):QbH Tryz.prog 169 71 i 0 0 h=some (.ptr i 0 0):=by
 obtain⟨j,hj,h0⟩:=inB
 simp only[QbH,hb,unB,unU,hj]
 rw[Qzf (by simp),Qzh ⟨rfl,hty.cells,hty.lies⟩]
theorem Qcg{ty:TypeId}(hty:BTy ty){i j:Nat}(hij:i≠j)(u:Bool)(tx:ByteArray):Wr Tryz.prog 5 ty 81 [.ptr i 0 0] i j u tx (.tup []) true tx:=by
 intro h hi hj
 have f1:=fun x y=>ZR h i x j y
 have f2:=fun x y=>Z6 (h:=h) hi hij x y
 have f3:=fun x y z=>Qf3 (h:=h) (i:=i) (j:=j) hij x y z
 have f4:=Quf
 have c0:=fun y h=>Qp5 (P:=Tryz.prog) (y:=y) (h:=h) Tryz.func121 (by kernel_rfl) (by kernel_rfl) (by kernel_rfl) (by kernel_rfl)
 cases u
 ·refine Qc Tryz.func81 rfl Tryz.call81 Tryz.ntmps81 Tryz.results81 (by simp) ?_
  rw[bw0,bw1]
  with_reducible repeat first|(first|refine Qd fun K E hK hE=>?_|refine Qs fun K E hK hE=>?_|refine FunW.ret (c0 _ _) ?_);simp only[Qr,Qi,Qn,OpW,Yx,aop,undef,AS.ev,Ql,XZ,XV,Qz,Xm,Qyq,AV.Qxu,QD,Xe,QK,YM,QyD,QyE,Xd,QyF,↓reduceIte,Qyw,Qyx,Nat.reduceAdd,Nat.reduceLT,Nat.reduceLeDiff,Nat.reduceEqDiff,Qyv,QyI,QyS,QyR,Qm,Xt,Xv,Zt,XS,aBin,Qyj,QyN,Qyl,Qyy,QyC,QyL,QyK,QyB,Qys,QyA,Qyn,ti71,Qnb,QR,f2,f3,f4,toU hty (Z6 (h:=h) hi hij _ _),Qwq hty (Z6 (h:=h) hi hij _ _)]|refine hK _ ?_;clear hK|refine Qw rfl ?_;simp only[↓reduceIte]
  simp only[Qyl,Qyp,List.mapM_nil,Option.pure_def,Qyl,Zr,Xf,Qyt]
  exact .inr ⟨rfl,rfl⟩
 ·refine Qc Tryz.func81 rfl Tryz.call81 Tryz.ntmps81 Tryz.results81 (by simp) ?_
  rw[bw1]
  with_reducible repeat first|refine Qd fun K E hK hE=>?_;simp only[Qr,Qi,Qn,OpW,aop,undef,AS.ev,Ql,XV,Qz,Xm,Qyq,QD,↓reduceIte,Nat.reduceLT,Nat.reduceEqDiff,QyI,QyR,Qm,Xt,Xv,aBin,Qyj,Qyl,ti71,un71,Qnb,QR,f2,isB,Qgq,notNil]|refine Xu ?_|refine hK _ ?_;clear hK|refine Qw rfl ?_;simp only[↓reduceIte,Qyn]
  simp only[Qyl,Qyp,List.mapM_nil,Option.pure_def,Qyl,Zr,Xf,Qyt]
  exact .inr ⟨rfl,rfl⟩
theorem QuI:Tryz.prog.underlying 72=some (.slice 5):=by kernel_rfl
theorem QsZ:Tryz.prog.underlying 9=some .string:=by kernel_rfl
theorem inU8:∃i z,Tryz.prog.info? 5=some i/\i.zero=some z/\i.size=1/\i.bytes=1/\z.cells.size=1:=by
 have h:(match Tryz.prog.info? 5 with|some i=>(match i.zero with|some z=>decide (i.size=1/\i.bytes=1/\z.cells.size=1)|none=>false)|none=>false)=true:=by kernel_rfl
 cases hj:Tryz.prog.info? 5 with
 |none=>rw[hj]at h;cases h
 |some i =>
  cases hz:i.zero with
  |none=>rw[hj]at h;simp[hz]at h
  |some z=>rw[hj]at h;simp only[hz]at h;exact⟨i,z,rfl,hz,QA4 h⟩
theorem appS{tx s:ByteArray}{j:Nat}{h:AH}(hj:h[j]? = some (.grow 5 1 tx.size))(hs:tx.size+s.size<=140737488355328) :
  Qda Tryz.prog 72 9 (.sl 1 (Q6 tx) (some j)) s h=some (.sl 1 (Q6 (tx++s)) (some j),h.set j (.grow 5 1 (tx++s).size)):=by
 obtain⟨i,z,h1,h2,h3,h4,h5⟩:=inU8
 exact Ql0 QuI QsZ h1 h2 h3 h4 h5 hj hs
theorem appN:appInfo Tryz.prog 72 9=none:=by kernel_rfl
theorem Qc8{ty:TypeId}(hty:BTy ty){i j:Nat}(hij:i≠j)(u:Bool)(tx s:ByteArray)(hs:tx.size+s.size<=140737488355328):Wr Tryz.prog 5 ty 35 [.ptr i 0 0,.v (.string s)] i j u tx (.tup [.i s.size,.v .nilIface]) true (tx++s):=by
 intro h hi hj
 have f1:=fun x y=>ZR h i x j y
 have f2:=fun x y=>Z6 (h:=h) hi hij x y
 have f3:=fun x y z=>Qf3 (h:=h) (i:=i) (j:=j) hij x y z
 have f5:=fun x y z=>Qf4 (h:=h) (i:=i) (j:=j) x y z
 have f6:=fun x=>appS (Qdh (h:=h) (i:=i) hj x (.grow 5 1 tx.size)) hs
 have c1:=Qcg hty hij u tx h hi hj
 have hsl:=ZB Tryz.prog 9 3 QsZ s
 refine Qc Tryz.func35 rfl Tryz.call35 Tryz.ntmps35 Tryz.results35 (by simp) ?_
 with_reducible repeat first|(first|refine Qd fun K E hK hE=>?_|refine FunW.Qxr c1 ?_);simp only[Qr,Qi,Qn,OpW,Yx,aop,undef,AS.ev,Ql,XZ,Xc,XA,Qz,Xm,Qyq,QyJ,AV.Qxu,QD,YB,QK,YD,QyD,QyE,Xb,QyF,↓reduceIte,Qyw,Qyx,Nat.reduceAdd,Nat.reduceLT,Nat.reduceLeDiff,Nat.reduceEqDiff,Qyv,QyR,Qm,Xt,Xv,Zt,XS,aLen,QbG,Qyj,Qyk,QyN,Qyl,Qyy,QyC,QyL,QyK,QyM,Qyu,QyB,Qys,QyA,goInt,Qyn,ti72,QkR,QR,f2,f3,f5,f6,bw1,aopR,appN,hsl]|refine YH ?_|refine hK _ ?_;clear hK
 simp only[Qz,↓reduceIte,Nat.reduceEqDiff,Qyl,Qyo,Qyp,List.mapM_nil,QAB,Option.pure_def,Qyl,Option.bind_eq_bind,Zr,Xf,YE,Qyt]
 exact .inr ⟨rfl,rfl⟩
theorem Qkl{ty:TypeId}(hty:BTy ty){i j:Nat}(hij:i≠j)(u:Bool)(tx:ByteArray)(b:UInt8)(hs:tx.size<140737488355328):Wr Tryz.prog 5 ty 149 [.ptr i 0 0,.v (.int .u8 (b.toNat:Nat))] i j u tx (.v .nilIface) true (tx++{data:=#[b]}):=by
 intro h hi hj
 have f1:=fun x y=>ZR h i x j y
 have f2:=fun x y=>Z6 (h:=h) hi hij x y
 have f3:=fun x y z=>Qf3 (h:=h) (i:=i) (j:=j) hij x y z
 have f5:=fun x y z=>Qf4 (h:=h) (i:=i) (j:=j) x y z
 have f7:=fun x y=>Qdh (h:=h) (i:=i) hj x y
 have c1:=Qcg hty hij u tx h hi hj
 have e1:Q6 (tx++{data:=#[b]})=Q6 tx++[.v (.int .u8 (b.toNat:Nat))]:=QbI tx _
 have e2:(tx++({data:=#[b]}:ByteArray)).size=tx.size+1:=Qg _ _
 have hs':tx.size+1<=140737488355328:=hs
 refine Qc Tryz.func149 rfl Tryz.call149 Tryz.ntmps149 Tryz.results149 (by simp) ?_
 rw[bw1,e1,e2]
 have hm:tx.size+1<=maxLen:=by simp only[maxLen];omega
 with_reducible repeat first|(first|refine Qd fun K E hK hE=>?_|refine FunW.Qxr c1 ?_);simp only[Qr,Qi,Qn,OpW,Yx,aop,undef,AS.ev,Ql,XZ,XA,Qz,Xm,Qyq,QyJ,AV.Qxu,QD,Zk,YB,QK,YD,QyD,QyE,QU,Xb,QyF,↓reduceIte,Qyw,Qyx,Nat.reduceAdd,Nat.reduceLT,Nat.reduceLeDiff,Nat.reduceEqDiff,Qyv,QyR,Qm,Xt,Xv,Zt,XS,QT,QbG,Qbd,Qyj,Qyk,QyN,Qyl,Qyy,QyC,QyL,QyK,QyM,Qyu,QyB,Qys,QyA,Qyr,Qyn,rng1,Ym,Nat.reducePow,zi5,ti72,ei72,ai72,QkR,QR,f2,f3,f5,f7,bw1,Yi,hm,hs',QA3]|refine YH ?_|refine hK _ ?_;clear hK
 simp only[Qz,↓reduceIte,Qyp,Zr,Xf,YE,Qyt]
 exact .inr ⟨rfl,rfl⟩
theorem unPB:Tryz.prog.underlying 140=some (.pointer 5):=by kernel_rfl
theorem szB:Tryz.prog.cellsOf 5=1:=by kernel_rfl
theorem Qdv{ty:TypeId}{i j:Nat}(hij:i≠j)(tx:ByteArray)(h0:0<tx.size)(hs:tx.size<=140737488355328):Chg2 Tryz.prog 41 [.ptr i 0 0] i (bw ty i j true tx) j (.grow 5 1 tx.size) (.v (.string tx)) (bw ty i j true tx) .gone:=by
 intro h hi hj
 have f1:=fun x y=>ZR h i x j y
 have f2:=fun x y=>Z6 (h:=h) hi hij x y
 have f5:=fun x y z=>Qf4 (h:=h) (i:=i) (j:=j) x y z
 have f7:=fun x y=>Qdh (h:=h) (i:=i) hj x y
 have hs':tx.size<=9223372036854775807:=by omega
 have g1:=QfN h0 j
 have g2:=fun x=>QfO (P:=Tryz.prog) unPB szB (T:=tx) (f7 x (.grow 5 1 tx.size)) h0 hs'
 refine Qc Tryz.func41 rfl Tryz.call41 Tryz.ntmps41 Tryz.results41 (by simp) ?_
 rw[bw1]
 repeat first|(first|with_reducible refine Qd fun K E hK hE=>?_|refine Qj (id:=1) [(0,0),(1,0),(2,0),(3,0),(4,0),(5,0),(6,0),(7,0),(8,0),(9,0),(10,2),(11,0)] mixed (by kernel_rfl) fun K hK=>?_);simp only[X6,XK,YF,Qr,Qi,Qn,OpW,Yx,aop,undef,Qa2,QyZ,Qy0,QcA,Z5,Qa9,AS.ev,Ql,XZ,Xc,Q5,Ye,YN,Qac,XV,Yd,XA,Qba,Qz,Xm,Qyq,QyJ,AV.Qxu,QD,Zk,YB,Y7,Xe,Y5,Zn,Z4,Y6,QK,Zz,YD,Zd,YM,Zb,Zo,Z7,Zc,QyD,QyE,QU,Yv,QX,Xh,YZ,XH,XG,Xp,Xb,Y0,Xd,YX,Zm,Z3,YY,QyF,Qy2,Qy3,QyG,QyH,↓reduceIte,Qyw,Qyx,Nat.reduceAdd,Nat.reduceLT,Nat.reduceLeDiff,Nat.reduceEqDiff,Nat.reduceSub,Nat.reduceMul,Qyv,QyI,QyS,QyT,QyR,XJ,XY,Qm,Xt,Xv,aBin,aLen,XP,hget,Qaa,hset,hlen,happ,Qyj,Qyk,Qy9,QyN,QyO,Qyl,QyY,Qyo,QyX,Qyp,QyU,Qym,Qyy,QyC,QyL,QyK,QyM,Qyu,QyB,Qys,QyA,goInt,QyP,QyQ,Qyr,Qy4,QyW,Int.toNat_zero,Int.toNat_one,QyV,Qy7,Qy8,Qy5,Qyn,Qy1,beq_true,beq_false,rng0,rng1,rng2,rng3,rng4,rng5,rng6,rng7,rng8,Ym,Nat.reducePow,Qzy,QAs,T.Qxs,T.Qxt,Yj,Xx,ti0,zi0,ti3,zi3,un3,ti5,zi5,un5,ti9,ei9,zi9,un9,ti71,zi71,un71,ti72,ei72,ai72,zi72,un72,ti74,Qnb,QkR,zi74,sp74,QvQ,QvZ,QvV,Qy6,Int.sub_zero,QdR,QR,f1,f2,f5,f7,g1,g2,Yi]|with_reducible (first|refine YH ?_|refine hK _ ?_;clear hK)
 simp only[Zr,Xf,YE,upd,↓reduceIte,Qyp,Qyt]
 exact .inr ⟨rfl,rfl⟩
theorem Qvm:pv Tryz.prog (Builtin.len_ #[72] 3 #[.slice none 0 0])=some (.int .i64 0):=by kernel_rfl
def bw00(ty:TypeId):AB:=.cells ty 2 [.agg [.v (.pointer none),.v (.slice none 0 0)]]
theorem Qct{ty:TypeId}{i:Nat}:Chg Tryz.prog 41 [.ptr i 0 0] i (bw00 ty) (.v (.string .empty)) (bw00 ty):=by
 intro h hi
 have f2:=fun x=>Qtd (h:=h) hi x
 refine Qc Tryz.func41 rfl Tryz.call41 Tryz.ntmps41 Tryz.results41 (by simp) ?_
 rw[bw00]
 repeat first|(first|with_reducible refine Qd fun K E hK hE=>?_|refine Qj (id:=1) [(0,0),(1,0),(2,0),(3,0),(4,0),(5,0),(6,0),(7,0),(8,0),(9,0),(10,2),(11,0)] mixed (by kernel_rfl) fun K hK=>?_);simp only[X6,XK,YF,Qr,Qi,Qn,OpW,Yx,aop,undef,Qa2,QyZ,Qy0,QcA,Z5,Qa9,AS.ev,Ql,XZ,Xc,Q5,Ye,YN,Qac,XV,Yd,XA,Qba,Qz,Xm,Qyq,QyJ,AV.Qxu,QD,Zk,YB,Y7,Xe,Y5,Zn,Z4,Y6,QK,Zz,YD,Zd,YM,Zb,Zo,Z7,Zc,QyD,QyE,QU,Yv,QX,Xh,YZ,XH,XG,Xp,Xb,Y0,Xd,YX,Zm,Z3,YY,QyF,Qy2,Qy3,QyG,QyH,↓reduceIte,Qyw,Qyx,Nat.reduceAdd,Nat.reduceLT,Nat.reduceLeDiff,Nat.reduceEqDiff,Nat.reduceSub,Nat.reduceMul,Qyv,QyI,QyS,QyT,QyR,XJ,XY,Qm,Xt,Xv,aBin,aLen,XP,hget,Qaa,hset,hlen,happ,Qyj,Qyk,Qy9,QyN,QyO,Qyl,QyY,Qyo,QyX,Qyp,QyU,Qym,Qyy,QyC,QyL,QyK,QyM,Qyu,QyB,Qys,QyA,goInt,QyP,QyQ,Qyr,Qy4,QyW,Int.toNat_zero,Int.toNat_one,QyV,Qy7,Qy8,Qy5,Qyn,Qy1,beq_true,beq_false,rng0,rng1,rng2,rng3,rng4,rng5,rng6,rng7,rng8,Ym,Nat.reducePow,Qzy,QAs,T.Qxs,T.Qxt,Yj,Xx,ti0,zi0,ti3,zi3,un3,ti5,zi5,un5,ti9,ei9,zi9,un9,ti71,zi71,un71,ti72,ei72,ai72,zi72,un72,ti74,Qnb,QkR,zi74,sp74,QvQ,QvZ,QvV,Qy6,Int.sub_zero,QdR,QR,f2,QbP,ZF,Qvm]|with_reducible (first|refine YH ?_|refine hK _ ?_;clear hK)
 simp only[Zr,Xf,YE,upd,↓reduceIte,Qyp,Qyt]
 exact .inr ⟨rfl,rfl⟩
abbrev QgL{a:List AV}{h:AH}{Q:AOut->AH->Prop}:=@Qc Tryz.prog 124 _ _ a h Q Tryz.func124 rfl Tryz.call124 _ Tryz.ntmps124 _ Tryz.results124
abbrev QbY{a:List AV}{h:AH}{Q:AOut->AH->Prop}:=@Qc Tryz.prog 150 _ _ a h Q Tryz.func150 rfl Tryz.call150 _ Tryz.ntmps150 _ Tryz.results150
abbrev mi:ByteArray:={data:=#[45]}
def decZ(n:Int):ByteArray:=if n<0 then mi++decN n.natAbs else decN n.toNat
theorem QpT(n:Int):(⟨(Lib.itoa n).toArray⟩:ByteArray)=decZ n:=by
 unfold decZ Lib.itoa
 split
 ·apply ByteArray.ext;rfl
 ·rfl
theorem QgH(n:Int)(h1 : -9223372036854775808<=n)(h2:n<=9223372036854775807):(decZ n).size<=20:=by
 unfold decZ
 split
 ·rw[Qg]
  have:=QkP (n:=n.natAbs) (by omega)
  have:mi.size=1:=rfl
  omega
 ·have:=QkP (n:=n.toNat) (by omega)
  omega
theorem Qr8(n:Int):0<(decZ n).size:=by
 unfold decZ
 split
 ·rw[Qg]
  have:mi.size=1:=rfl
  omega
 ·exact Qr7 _
theorem QiF(n:Int)(h0 : -9223372036854775808<=n)(hn:n<=9223372036854775807)(h:AH)(hG:Xl h):Qp Tryz.prog 58 [.i n] h fun o h'=>o = .ret (.v (.string (decZ n)))/\h'=h :=
 Qgz (vs:=[.int .i64 n]) Tryz.call58 fun c hst hh=>by
  have hv:c.w.var? Tryz.prog "internal/strconv.uint64pow10" = some tabC:=HasG.var hst (hh▸hG) (by kernel_rfl)
  refine(Tryz.strconv_Itoa n h0 hn c.w hv).mono ?_
  rintro e w' ⟨rfl,k,os,rfl⟩
  refine⟨_,rfl,?_,fun c'=>by rw[<-QpT];exact .v _⟩
  exact Qed c.w k os
def ofB(s:ByteArray):Int:=if (s.toList==({data:=#[43]}:ByteArray).toList)||(s.toList==({data:=#[45]}:ByteArray).toList)then 1 else if (s.toList==({data:=#[42]}:ByteArray).toList)||(s.toList==({data:=#[47]}:ByteArray).toList)||(s.toList==({data:=#[37]}:ByteArray).toList)then 2 else 0
def T.oper(t:T):Int:=if t.kind≠2\/t.args.length≠2 then 0 else ofB t.name
theorem Qo5(s:ByteArray):Pure Tryz.prog 150 [.v (.string s)] (.i (ofB s)):=by
 intro h
 cases b1:s.toList==({data:=#[43]}:ByteArray).toList
 ·cases b2:s.toList==({data:=#[45]}:ByteArray).toList
  ·cases b3:s.toList==({data:=#[42]}:ByteArray).toList
   ·cases b4:s.toList==({data:=#[47]}:ByteArray).toList
    ·cases b5:s.toList==({data:=#[37]}:ByteArray).toList
     ·have e:ofB s=0:=by rw[ofB,b1,b2,b3,b4,b5];rfl
      refine QbY (by simp) ?_
      repeat refine Qa ?_;simp only[go_sem,seval,b1,b2,b3,b4,b5]
      first|refine Qb (htake _ _) (.keep (.v _)) ⟨by rw[e],rfl⟩|refine Qb Qzb (.keep (.v _)) ⟨by rw[e],rfl⟩
     ·have e:ofB s=2:=by rw[ofB,b1,b2,b3,b4,b5];rfl
      refine QbY (by simp) ?_
      repeat refine Qa ?_;simp only[go_sem,seval,b1,b2,b3,b4,b5]
      first|refine Qb (htake _ _) (.keep (.v _)) ⟨by rw[e],rfl⟩|refine Qb Qzb (.keep (.v _)) ⟨by rw[e],rfl⟩
    ·have e:ofB s=2:=by rw[ofB,b1,b2,b3,b4];rfl
     refine QbY (by simp) ?_
     repeat refine Qa ?_;simp only[go_sem,seval,b1,b2,b3,b4]
     first|refine Qb (htake _ _) (.keep (.v _)) ⟨by rw[e],rfl⟩|refine Qb Qzb (.keep (.v _)) ⟨by rw[e],rfl⟩
   ·have e:ofB s=2:=by rw[ofB,b1,b2,b3];rfl
    refine QbY (by simp) ?_
    repeat refine Qa ?_;simp only[go_sem,seval,b1,b2,b3]
    first|refine Qb (htake _ _) (.keep (.v _)) ⟨by rw[e],rfl⟩|refine Qb Qzb (.keep (.v _)) ⟨by rw[e],rfl⟩
  ·have e:ofB s=1:=by rw[ofB,b1,b2];rfl
   refine QbY (by simp) ?_
   repeat refine Qa ?_;simp only[go_sem,seval,b1,b2]
   first|refine Qb (htake _ _) (.keep (.v _)) ⟨by rw[e],rfl⟩|refine Qb Qzb (.keep (.v _)) ⟨by rw[e],rfl⟩
 ·have e:ofB s=1:=by rw[ofB,b1];rfl
  refine QbY (by simp) ?_
  repeat refine Qa ?_;simp only[go_sem,seval,b1]
  first|refine Qb (htake _ _) (.keep (.v _)) ⟨by rw[e],rfl⟩|refine Qb Qzb (.keep (.v _)) ⟨by rw[e],rfl⟩
theorem Qdn(t:T)(hl:t.args.length<=maxLen):Pure Tryz.prog 124 [t.av] (.i t.oper):=by
 intro h
 have c1:=Qo5 t.name
 have e1:t.av = .agg [.i t.kind,.i t.int,.v (.string t.name),.sl 4 (avs t.args) none]:=by cases t;rfl
 have m1:((t.args.length:Int)==2)=decide (t.args.length=2):=by
  rw[Bool.eq_iff_iff];simp;omega
 by_cases hk:t.kind=2
 ·by_cases hn:t.args.length=2
  ·have e:t.oper=ofB t.name:=by rw[T.oper,Qzf];omega
   have m2:((t.args.length:Int) != 2)=false:=by simp;omega
   refine QgL (by simp) ?_
   rw[e1]
   repeat (first|refine Qe c1 ?_|refine Qa ?_);simp only[go_sem,seval,hk,m2]
   first|refine Qb (htake _ _) (.keep (.v _)) ⟨by rw[e],rfl⟩|refine Qb Qzb (.keep (.v _)) ⟨by rw[e],rfl⟩
  ·have e:t.oper=0:=by rw[T.oper,Qzh (.inr hn)]
   have m2:((t.args.length:Int) != 2)=true:=by simp;omega
   refine QgL (by simp) ?_
   rw[e1]
   repeat refine Qa ?_;simp only[go_sem,seval,hk,m2]
   first|refine Qb (htake _ _) (.keep (.v _)) ⟨by rw[e],rfl⟩|refine Qb Qzb (.keep (.v _)) ⟨by rw[e],rfl⟩
 ·have e:t.oper=0:=by rw[T.oper,Qzh (.inl hk)]
  have m2:(t.kind != 2)=true:=by simpa using hk
  refine QgL (by simp) ?_
  rw[e1]
  repeat refine Qa ?_;simp only[go_sem,seval,m2]
  first|refine Qb (htake _ _) (.keep (.v _)) ⟨by rw[e],rfl⟩|refine Qb Qzb (.keep (.v _)) ⟨by rw[e],rfl⟩
end Go.Proofs.YtenheconhibonaaGreatDoor.Ab

