/-
  An abstract program logic, contracts of functions, and laws of terms and rules (part 2).
-/
import Derived.Test.YtenheconhibonaaGreatDoorAbOne
import Derived.DefersIn
import Derived.RangeFuncLeaves
import Derived.RangeFuncStops
import Derived.IntWalk
import Derived.RangeFuncNested
import Derived.Laws.Externs
import Derived.Attr
import Derived.Test.YtenheconhibonaaGreatDoorProg
import Derived.KernelRfl
import Derived.Below
import Derived.Lib.Strings
import Derived.Shelf.Strings.Builder1
import Derived.Shelf.Strconv.Itoa0
import Derived.Shelf.Strconv.Itoa1
import Derived.Shelf.LaysM
import Derived.Shelf.Strconv.Itoa2
import Derived.Shelf.Strconv.Itoa3
import Derived.Shelf.Strings.Search1
import Derived.Shelf.Strings.Search2
import Derived.Shelf.Strings.Search3
import Derived.Shelf.Strings.Shaped
import Derived.Lib.ConvBytes
import Derived.Lib.AtoiErrMem
import Derived.ProofKit
import Derived.WalkKit
import Derived.OpenShut
import Derived.LaidSub
import Derived.Lib.LaidTab
import Derived.Lib.ItoaNum
import Derived.Lib.ItoaMem
import Derived.Lib.AtoiTie
set_option linter.unusedVariables false
set_option linter.unusedSimpArgs false
set_option maxHeartbeats 4000000
set_option maxRecDepth 4000
namespace Go.Proofs.YtenheconhibonaaGreatDoor.Ab
inductive Below (n:Nat):AV->Prop
 |v (x:Value):Below n (.v x)
 |junk:Below n .junk
 |agg (l:List AV) (h:∀a∈l,Below n a):Below n (.agg l)
 |tup (l:List AV) (h:∀a∈l,Below n a):Below n (.tup l)
 |sl (s:Nat) (xs:List AV) (own:Option Nat) (h:∀a∈flat xs,Below n a) (hb:∀b,own=some b->b<n):Below n (.sl s xs own)
 |pin (s:Nat) (xs:List AV) (k off:Nat) (h:∀a∈flat xs,Below n a):Below n (.pin s xs k off)
 |ptr (id k off:Nat) (h:id<n):Below n (.ptr id k off)
 |arr (id lo len:Nat) (h:id<n):Below n (.arr id lo len)
 |row (id lo len cap:Nat) (h:id<n):Below n (.row id lo len cap)
 |mp (id:Nat) (h:id<n):Below n (.mp id)
 |fn (f:Fn) (first cap:List AV) (h1:∀a∈first,Below n a) (h2:∀a∈cap,Below n a):Below n (.fn f first cap)
 |ifc (t:TypeId) (x:AV) (h:Below n x):Below n (.ifc t x)
 |spt (s:Nat) (xs:List AV) (own:Option Nat) (h:Below n (.sl s xs own)):Below n (.spt s xs own)
theorem ZT{α:Type}{l:List α}{a:α}(h:a∈l):∃j:Nat,l[j]? = some a:=by
 obtain⟨j,hj,rfl⟩:=List.getElem_of_mem h
 exact⟨j,QwK hj⟩
theorem Qa0{vs:Array Value}{n j:Nat}(h:vs.size=n)(hj:j<n):∃u,vs[j]? = some u:=⟨_,Qw0 (by omega)⟩
theorem Rel.ids{c:Cx}{a:AV}{x:Value}(h:Rel c a x):Below c.h.length a:=by
 induction h with
 |v x=>exact .v x
 |junk x=>exact .junk
 |agg l cs hl _ ih =>
  refine .agg l fun a ha=>?_
  obtain⟨j,hj⟩:=ZT ha
  obtain⟨u,hu⟩:=Qa0 hl (Qv hj)
  exact ih j a u hj hu
 |tup l cs hl _ ih =>
  refine .tup l fun a ha=>?_
  obtain⟨j,hj⟩:=ZT ha
  obtain⟨u,hu⟩:=Qa0 hl (Qv hj)
  exact ih j a u hj hu
 |slnil s own ht=>exact .sl s [] own (by simp[flat]) fun b hb=>(ht b hb).1
 |slzero s own ba ht=>exact .sl s [] own (by simp[flat]) fun b hb=>(ht b hb).1
 |sl s xs own B o cap f hs hcap hmax hc _ ht ih =>
  refine .sl s xs own (fun a ha=>?_) fun b hb=>(ht b hb).1.1
  obtain⟨j,hj⟩:=ZT ha
  exact ih j a hj
 |pin s xs k off B o f hs hc _ ih =>
  refine .pin s xs k off fun a ha=>?_
  obtain⟨j,hj⟩:=ZT ha
  exact ih j a hj
 |ptr id k off x hid ho h1=>exact .ptr id k off hid
 |arr id lo len x hid ho h1=>exact .arr id lo len hid
 |row id lo len cap x hid ho h1=>exact .row id lo len cap hid
 |mp id x hid ho h1=>exact .mp id hid
 |fn f first cap vs ws e1 e2 _ _ ih1 ih2 =>
  refine .fn f first cap (fun a ha=>?_) fun a ha=>?_
  ·obtain⟨j,hj⟩:=ZT ha
   obtain⟨u,hu⟩:=Qa0 e1 (Qv hj)
   exact ih1 j a u hj hu
  ·obtain⟨j,hj⟩:=ZT ha
   obtain⟨u,hu⟩:=Qa0 e2 (Qv hj)
   exact ih2 j a u hj hu
 |ifc t a u _ ih=>exact .ifc t a ih
 |spt s xs own p n k _ ih=>exact .spt s xs own ih
def Cx.cut(c:Cx)(m:Nat):Cx:={c with h:=c.h.take m}
theorem Zb{c:Cx}{m id:Nat}{b:AB}(h:(c.cut m).h[id]? = some b):id<m/\c.h[id]? = some b:=by
 have hlt:=Qv h
 simp only[Cx.cut,Qw9]at hlt h
 rw[Qw5 (by omega)]at h
 exact⟨by omega,h⟩
theorem QnZ{c:Cx}{m id:Nat}{b:AB}(hm:id<m)(h:c.h[id]? = some b):(c.cut m).h[id]? = some b:=by
 simp only[Cx.cut];rw[Qw5 hm];exact h
theorem QeW{c:Cx}{m B o:Nat}(h:c.prot B o):(c.cut m).prot B o :=
 ⟨h.1,fun id b hb hl hρ=>h.2 id b (Zb hb).2 hl hρ⟩
theorem Rel.cut{c:Cx}{m:Nat}(hm:m<=c.h.length){a:AV}{x:Value}(h:Rel c a x)(hb:Below m a):Rel (c.cut m) a x:=by
 have hlen:(c.cut m).h.length=m:=by simp[Cx.cut];omega
 induction h with
 |v x=>exact .v x
 |junk x=>exact .junk x
 |agg l cs hl _ ih=>cases hb with|agg _ h=>exact .agg l cs hl fun j a u h1 h2=>ih j a u h1 h2 (h a (QwV h1))
 |tup l cs hl _ ih=>cases hb with|tup _ h=>exact .tup l cs hl fun j a u h1 h2=>ih j a u h1 h2 (h a (QwV h1))
 |slnil s own ht =>
  cases hb with
  |sl _ _ _ h hown =>
   refine .slnil s own fun b hb=>⟨by rw[hlen];exact hown b hb,fun e s' n hg=>(ht b hb).2 e s' n (Zb hg).2⟩
 |slzero s own ba ht =>
  cases hb with
  |sl _ _ _ h hown =>
   refine .slzero s own ba fun b hb=>⟨by rw[hlen];exact hown b hb,fun e s' n hg=>(ht b hb).2 e s' n (Zb hg).2⟩
 |sl s xs own B o cap f hs hcap hmax hc _ ht ih =>
  cases hb with
  |sl _ _ _ h hown =>
   exact .sl s xs own B o cap f hs hcap hmax (fun j a hj=>⟨⟨(hc j a hj).1.1,QeW (hc j a hj).1.2⟩,(hc j a hj).2⟩) (fun j a hj=>ih j a hj (h a (QwV hj)))
    fun b hb=>⟨⟨by rw[hlen];exact hown b hb,let ⟨x,g1,g2⟩:=(ht b hb).1.2;⟨x,QnZ (hown b hb) g1,g2⟩⟩,fun e s' n hg=>(ht b hb).2 e s' n (Zb hg).2⟩
 |pin s xs k off B o f hs hc _ ih =>
  cases hb with
  |pin _ _ _ _ h =>
   exact .pin s xs k off B o f hs (fun j a hj=>⟨⟨(hc j a hj).1.1,QeW (hc j a hj).1.2⟩,(hc j a hj).2⟩) (fun j a hj=>ih j a hj (h a (QwV hj)))
 |ptr id k off x hid ho h1=>cases hb with|ptr _ _ _ h=>exact .ptr id k off x (by rw[hlen];exact h) ho fun ty s xs hg=>h1 ty s xs (Zb hg).2
 |arr id lo len x hid ho h1=>cases hb with|arr _ _ _ h=>exact .arr id lo len x (by rw[hlen];exact h) ho fun ty s xs hg=>h1 ty s xs (Zb hg).2
 |row id lo len cap x hid ho h1=>cases hb with|row _ _ _ _ h=>exact .row id lo len cap x (by rw[hlen];exact h) ho fun ty s xs hg=>h1 ty s xs (Zb hg).2
 |mp id x hid ho h1=>cases hb with|mp _ h=>exact .mp id x (by rw[hlen];exact h) ho ⟨fun es hg=>h1.1 es (Zb hg).2,fun i hg=>h1.2.1 i (Zb hg).2,fun s p hg=>h1.2.2 s p (Zb hg).2⟩
 |fn f first cap vs ws e1 e2 _ _ ih1 ih2 =>
  cases hb with
  |fn _ _ _ h1 h2=>exact .fn f first cap vs ws e1 e2 (fun j a u h3 h4=>ih1 j a u h3 h4 (h1 a (QwV h3))) (fun j a u h3 h4=>ih2 j a u h3 h4 (h2 a (QwV h3)))
 |ifc t a u _ ih=>cases hb with|ifc _ _ h=>exact .ifc t a u (ih h)
 |spt s xs own p n k _ ih=>cases hb with|spt _ _ _ h=>exact .spt s xs own p n k (ih h)
def AB.Below(n:Nat):AB->Prop
 | .cells _ _ xs=>∀a∈flat xs,Ab.Below n a
 | .grow _ _ _=>True
 | .map es=>∀kv∈es,Ab.Below n kv.2
 | .loop i=>∀t,Ab.Below n (i.tm t)
 | .iter _ _=>True
 | .glob _ _ _ _=>True
 | .dead=>True
 | .gone=>True
theorem Below.mono{n m:Nat}(hnm:n<=m){a:AV}(h:Ab.Below n a):Ab.Below m a:=by
 induction h with
 |v x=>exact .v x
 |junk=>exact .junk
 |agg l _ ih=>exact .agg l ih
 |tup l _ ih=>exact .tup l ih
 |sl s xs own _ ho ih=>exact .sl s xs own ih fun b hb=>Qxg (ho b hb) hnm
 |pin s xs k off _ ih=>exact .pin s xs k off ih
 |ptr id k off h=>exact .ptr id k off (Qxg h hnm)
 |arr id lo len h=>exact .arr id lo len (Qxg h hnm)
 |row id lo len cap h=>exact .row id lo len cap (Qxg h hnm)
 |mp id h=>exact .mp id (Qxg h hnm)
 |fn f a b _ _ ih1 ih2=>exact .fn f a b ih1 ih2
 |ifc t a _ ih=>exact .ifc t _ ih
 |spt s xs own _ ih=>exact .spt s xs own ih
theorem AB.Below.mono{n m:Nat}{b:AB}(h:b.Below n)(hnm:n<=m):b.Below m:=by
 cases b with
 |cells t s xs=>exact fun a ha=>Ab.Below.mono hnm (h a ha)
 |grow=>trivial
 |map es=>exact fun kv hkv=>Ab.Below.mono hnm (h kv hkv)
 |loop i=>exact fun t=>Ab.Below.mono hnm (h t)
 |iter=>trivial
 |glob=>trivial
 |dead=>trivial
 |gone=>trivial
theorem St.below{c:Cx}(hs:St c){id:Nat}{b:AB}(hb:c.h[id]? = some b):b.Below c.h.length:=by
 have:=hs.blocks id b hb
 cases b with
 |cells ty s xs =>
  obtain⟨B,cur,h1,h2,h3,h4⟩:=this
  intro a ha
  obtain⟨j,hj⟩:=ZT ha
  obtain⟨u,_,_,hr⟩:=h4 j a hj
  exact hr.ids
 |grow=>trivial
 |map es =>
  obtain⟨B,ents,clock,h1,h2,h3,h4⟩:=this
  intro kv hkv
  obtain⟨j,hj⟩:=ZT hkv
  have hlt:j<ents.size:=by rw[h3];exact Qv hj
  exact(h4 j kv ents[j] hj (Qw0 hlt)).2.ids
 |loop i =>
  obtain⟨B,r,h1,h2,h3,h4⟩:=this
  exact fun t=>(h4 t).ids
 |iter=>trivial
 |glob=>trivial
 |dead=>trivial
 |gone=>trivial
theorem St.cut{c:Cx}(hs:St c){m:Nat}(hm:m<=c.h.length)(hb:∀b∈c.h.take m,b.Below m):St (c.cut m):=by
 refine⟨fun id b hg=>?_,fun i j a b B hi hj hla hlb hρi hρj=>hs.inj i j a b B (Zb hi).2 (Zb hj).2 hla hlb hρi hρj⟩
 have hbl:b.Below m:=hb b (QwV hg)
 have h0:=hs.blocks id b (Zb hg).2
 cases b with
 |cells ty s xs =>
  obtain⟨B,cur,h1,h2,h3,h4⟩:=h0
  exact⟨B,cur,h1,h2,h3,fun j a hj=>let ⟨u,h5,h6,h7⟩:=h4 j a hj;⟨u,h5,h6,h7.cut hm (hbl a (QwV hj))⟩⟩
 |grow e s n=>exact h0
 |map es =>
  obtain⟨B,ents,clock,h1,h2,h3,h4⟩:=h0
  exact⟨B,ents,clock,h1,h2,h3,fun j kv e hj he=>⟨(h4 j kv e hj he).1,(h4 j kv e hj he).2.cut hm (hbl kv (QwV hj))⟩⟩
 |loop i =>
  obtain⟨B,r,h1,h2,h3,h4⟩:=h0
  exact⟨B,r,h1,h2,h3,fun t=>(h4 t).cut hm (hbl t)⟩
 |iter s p=>exact h0
 |glob g cs ty fr=>exact h0
 |dead=>trivial
 |gone=>trivial
theorem Ev.cut{c c':Cx}(h:Ev c c'){m:Nat}(h1:c.h.length<=m)(h2:m<=c'.h.length):Ev c (c'.cut m):=by
 refine⟨h.os,h.tape,h.output,h.size,by simp[Cx.cut];omega,h.frame,fun id b hb=>?_,fun id B b h3 h4 hl hρ=>(h.fresh id B b h3 (Zb h4).2 hl hρ).imp (fun e=>e) fun⟨i,ty,s,xs,a1,a2,a3⟩=>⟨i,ty,s,xs,a1,a2,by
  have:=Qv a1
  simp only[Cx.cut,Qyf];rw[QwN (by omega)];exact a3⟩⟩
 obtain⟨b',hb',hk⟩:=h.kin id b hb
 have hlt:=Qv hb
 exact⟨b',QnZ (by omega) hb',hk⟩
inductive Frz (h:AH) (m:Nat):AV->AV->Prop
 |nil (s:Nat):Frz h m (.v (.slice none 0 0)) (.sl s [] none)
 |keep {a:AV} (hb:Below m a):Frz h m a a
 |tok {s:Nat} {xs:List AV} {own:Option Nat} (hb:∀a∈flat xs,Below m a):Frz h m (.sl s xs own) (.sl s xs none)
 |arr {id lo len s:Nat} {ty:TypeId} {xs:List AV} (hi:m<=id) (hg:h[id]? = some (.cells ty s xs)) (hl:lo+len<=xs.length) (hb:∀a∈flat xs,Below m a) :
   Frz h m (.arr id lo len) (.sl s ((xs.drop lo).take len) none)
 |row {id lo len cap s:Nat} {ty:TypeId} {xs:List AV} (hi:m<=id) (hg:h[id]? = some (.cells ty s xs)) (hl:lo+len<=xs.length) (hb:∀a∈flat xs,Below m a) :
   Frz h m (.row id lo len cap) (.sl s ((xs.drop lo).take len) none)
 |ptr {id k off s:Nat} {ty:TypeId} {xs:List AV} (hi:m<=id) (hg:h[id]? = some (.cells ty s xs)) (hb:∀a∈flat xs,Below m a):Frz h m (.ptr id k off) (.pin s xs k off)
 |agg {l l':List AV} (hl:l'.length=l.length) (hp:∀(j:Nat) a a',l[j]? = some a->l'[j]? = some a'->Frz h m a a'):Frz h m (.agg l) (.agg l')
 |tup {l l':List AV} (hl:l'.length=l.length) (hp:∀(j:Nat) a a',l[j]? = some a->l'[j]? = some a'->Frz h m a a'):Frz h m (.tup l) (.tup l')
 |fn {f:Fn} {a a' b b':List AV} (hl:a'.length=a.length) (hl':b'.length=b.length) (hp:∀(j:Nat) x x',a[j]? = some x->a'[j]? = some x'->Frz h m x x')
   (hq:∀(j:Nat) x x',b[j]? = some x->b'[j]? = some x'->Frz h m x x'):Frz h m (.fn f a b) (.fn f a' b')
theorem Qda{c:Cx}(hs:St c){m:Nat}(hm:m<=c.h.length){id B ty s:Nat}{xs:List AV}(hi:m<=id)(hg:c.h[id]? = some (.cells ty s xs))(hρ:c.ρ id=some B)(hb:∀a∈flat xs,Below m a) :
  (∀x∈xs,x.cells.length=s)/\∃f:Nat->Value,∀(j:Nat) a,(flat xs)[j]? = some a->((c.cut m).cellP B (0+j) (f j)/\(f j).oneCell'=true)/\Rel (c.cut m) a (f j):=by
 obtain⟨B',cur,h1,h2,h3,h4⟩:=hs.blocks id _ hg
 rw[hρ]at h1;cases h1
 refine⟨h3,fun j=>cur.getD j undef,fun j a hj=>?_⟩
 obtain⟨u,h5,h6,h7⟩:=h4 j a hj
 have e:cur.getD j undef=u:=by rw[QwW,h5];rfl
 show((c.cut m).cellP B (0+j) (cur.getD j undef)/\(cur.getD j undef).oneCell'=true)/\Rel (c.cut m) a (cur.getD j undef)
 rw[e]
 refine⟨⟨⟨by show c.w.cell? _=_;rw[Qv1,XS h2];exact h5,?_⟩,h6⟩,h7.cut hm (hb a (QwV hj))⟩
 refine⟨hs.lt hg rfl hρ,fun id' b' hb' hl' hρ'=>?_⟩
 obtain⟨hlt,hb''⟩:=Zb hb'
 have:=hs.inj id' id b' _ B hb'' hg hl' rfl hρ' hρ
 omega
theorem Frz.rel{c:Cx}(hs:St c){m:Nat}(hm:m<=c.h.length){a a':AV}(h:Frz c.h m a a'):∀{x:Value},Rel c a x->Rel (c.cut m) a' x:=by
 induction h with
 |nil s=>intro x hr;cases hr;exact .slnil s none fun b hb=>by cases hb
 |keep hb=>exact fun hr=>hr.cut hm hb
 |@tok s xs own hb =>
  intro x hr
  cases hr with
  |slnil _ _ ht=>exact .slnil s none fun b hb=>by cases hb
  |slzero _ _ ba ht=>exact .slzero s none ba fun b hb=>by cases hb
  |sl _ _ _ B o cap f hs' hcap hmax hc hr ht =>
   exact .sl s xs none B o cap f hs' hcap hmax (fun j a hj=>⟨⟨(hc j a hj).1.1,QeW (hc j a hj).1.2⟩,(hc j a hj).2⟩) (fun j a hj=>(hr j a hj).cut hm (hb a (QwV hj))) fun b hb=>by cases hb
 |@arr id lo len s ty xs hi hg hl hb =>
  intro x hr
  cases hr with
  |arr _ _ _ x hid ho h1 =>
   obtain⟨B,cap,hρ,rfl,h2,h3,_⟩:=h1 _ _ _ hg
   obtain⟨h4,f,h5⟩:=Qda hs hm hi hg hρ hb
   have hlen:((xs.drop lo).take len).length=len:=by simp;omega
   have hdrop:∀y∈xs.drop lo,y.cells.length=s:=fun y hy=>h4 y (Qxu hy)
   have hget:∀(j:Nat) a,(flat ((xs.drop lo).take len))[j]? = some a->(flat xs)[lo * s+j]? = some a:=by
    intro j a hj
    rw[Zc hdrop (by simp;omega)]at hj
    have hlt:=Qv hj
    rw[Qw9]at hlt
    rw[Qw5 (by omega),Qab h4 (by omega),Qxl]at hj
    exact hj
   have:=Rel.sl (c:=c.cut m) s ((xs.drop lo).take len) none B (lo * s) cap (fun j=>f (lo * s+j)) (fun y hy=>hdrop y (QxD hy)) (by omega) h3
    (fun j a hj=>by have:=(h5 _ a (hget j a hj)).1;rwa [Qv1]at this) (fun j a hj=>(h5 _ a (hget j a hj)).2) (fun b hb=>by cases hb)
   rwa [hlen]at this
 |@row id lo len cap s ty xs hi hg hl hb =>
  intro x hr
  cases hr with
  |row _ _ _ _ x hid ho h1 =>
   obtain⟨B,cur,hρ,rfl,h2,h3,_⟩:=h1 _ _ _ hg
   obtain⟨h4,f,h5⟩:=Qda hs hm hi hg hρ hb
   have hlen:((xs.drop lo).take len).length=len:=by simp;omega
   have hdrop:∀y∈xs.drop lo,y.cells.length=s:=fun y hy=>h4 y (Qxu hy)
   have hget:∀(j:Nat) a,(flat ((xs.drop lo).take len))[j]? = some a->(flat xs)[lo * s+j]? = some a:=by
    intro j a hj
    rw[Zc hdrop (by simp;omega)]at hj
    have hlt:=Qv hj
    rw[Qw9]at hlt
    rw[Qw5 (by omega),Qab h4 (by omega),Qxl]at hj
    exact hj
   have:=Rel.sl (c:=c.cut m) s ((xs.drop lo).take len) none B (lo * s) cap (fun j=>f (lo * s+j)) (fun y hy=>hdrop y (QxD hy)) (by omega) h3
    (fun j a hj=>by have:=(h5 _ a (hget j a hj)).1;rwa [Qv1]at this) (fun j a hj=>(h5 _ a (hget j a hj)).2) (fun b hb=>by cases hb)
   rwa [hlen]at this
 |@ptr id k off s ty xs hi hg hb =>
  intro x hr
  cases hr with
  |ptr _ _ _ x hid ho h1 =>
   obtain⟨B,hρ,rfl⟩:=h1 _ _ _ hg
   obtain⟨h4,f,h5⟩:=Qda hs hm hi hg hρ hb
   have:=Rel.pin (c:=c.cut m) s xs k off B 0 f h4 (fun j a hj=>(h5 j a hj).1) (fun j a hj=>(h5 j a hj).2)
   rwa [Qv1]at this
 |@agg l l' hl _ ih =>
  intro x hr
  cases hr with
  |agg _ cs hl' hr =>
   refine .agg _ cs (by omega) fun j a' u ha' hu=>?_
   obtain⟨a,ha⟩:∃a,l[j]? = some a:=⟨_,QwK (by rw[<-hl];exact Qv ha')⟩
   exact ih j a a' ha ha' (hr j a u ha hu)
 |@tup l l' hl _ ih =>
  intro x hr
  cases hr with
  |tup _ cs hl' hr =>
   refine .tup _ cs (by omega) fun j a' u ha' hu=>?_
   obtain⟨a,ha⟩:∃a,l[j]? = some a:=⟨_,QwK (by rw[<-hl];exact Qv ha')⟩
   exact ih j a a' ha ha' (hr j a u ha hu)
 |@fn f p p' q q' hl hl' _ _ ih1 ih2 =>
  intro x hr
  cases hr with
  |fn _ _ _ vs ws e1 e2 h1 h2 =>
   refine .fn _ _ _ vs ws (by omega) (by omega) (fun j a' u ha' hu=>?_) (fun j a' u ha' hu=>?_)
   ·obtain⟨a,ha⟩:∃a,p[j]? = some a:=⟨_,QwK (by rw[<-hl];exact Qv ha')⟩
    exact ih1 j a a' ha ha' (h1 j a u ha hu)
   ·obtain⟨a,ha⟩:∃a,q[j]? = some a:=⟨_,QwK (by rw[<-hl'];exact Qv ha')⟩
    exact ih2 j a a' ha ha' (h2 j a u ha hu)
def Qz(P:Program)(s:AS):ResultVar->Option AV
 | .tmp t=>some (s.tm t)
 | .cell a t=>QQ P t (s.tm a) s.h
def Qq(P:Program)(s:AS)(rs:List ResultVar):Option AV :=
 match rs with
 |[r]=>Qz P s r
 |rs=>(rs.mapM (Qz P s)).map .tup
def resF(tmps:Array Value):ResultVar->Sem Value
 | .tmp t=>pure (tmps.getD t undef)
 | .cell p t=>do loadVar t (<-asAddr (tmps.getD p undef))
theorem QmV(fn:Func)(tmps:Array Value):results fn tmps=(do let vs<-fn.results.mapM (resF tmps);pure (if h:vs.size=1 then vs[0]else .tuple vs)):=by
 unfold results
 congr 1
theorem QeB{P:Program}{N:Nat}{base:Bs×Fence}{c:Cx}(hst:St c){s:AS}{a:Act}(hr:SR N base c s a){rv:ResultVar}{r:AV}(h:Qz P s rv=some r) :
  ∃x,(resF a.tmps rv).run P c.w = .ok x c.w/\Rel c r x:=by
 cases rv with
 |tmp t=>simp only[Qz]at h;cases h;exact⟨_,rfl,hr.tm t⟩
 |cell p t =>
  simp only[Qz]at h
  rw[<-hr.h]at h
  obtain⟨x,hrun,hx⟩:=Qfc hst h (hr.tm p)
  refine⟨x,?_,hx⟩
  rw[<-hrun]
  simp only[Instr.loadAt,resF]
  generalize a.tmps.getD p undef=u at hrun
  cases u with
  |pointer o =>
   cases o with
   |some ad=>rfl
   |none=>simp[Instr.loadAt,Instr.sureAddr]at hrun
  |_=>simp[Instr.loadAt,Instr.sureAddr]at hrun
theorem Qex{P:Program}{N:Nat}{base:Bs×Fence}{c:Cx}(hst:St c){s:AS}{a:Act}(hr:SR N base c s a):∀{rs:List ResultVar} {l:List AV},rs.mapM (Qz P s)=some l ->
  ∃xs:List Value,(rs.mapM (resF a.tmps)).run P c.w = .ok xs c.w/\RelL c l xs.toArray
 |[],l,h=>by simp at h;subst h;exact⟨[],rfl,rfl,fun j a u h=>by simp at h⟩
 |rv::rs,l,h=>by
  simp only[Qx3]at h
  cases h1:Qz P s rv with
  |none=>simp[h1]at h
  |some r =>
   cases h2:rs.mapM (Qz P s)with
   |none=>simp[h1,h2]at h
   |some l' =>
    simp[h1,h2]at h
    subst h
    obtain⟨x,h3,h4⟩:=QeB hst hr h1
    obtain⟨xs,h5,h6⟩:=Qex hst hr h2
    refine⟨x::xs,by simp only[Qx3,Sem.run_bind,h3,Result.andThen_ok,h5,Sem.run_pure],by have:=h6.1;simpa using this,fun j a u ha hu=>?_⟩
    cases j with
    |zero=>simp at ha hu;subst ha;subst hu;exact h4
    |succ j=>exact h6.2 j a u (by simpa using ha) (by simpa using hu)
theorem QbV{P:Program}{N:Nat}{base:Bs×Fence}{c:Cx}(hst:St c){s:AS}{a:Act}(hr:SR N base c s a){fn:Func}{r:AV}(h:Qq P s fn.results.toList=some r):∃x,(results fn a.tmps).run P c.w = .ok x c.w/\Rel c r x:=by
 have hrun:∀xs:List Value,(fn.results.toList.mapM (resF a.tmps)).run P c.w = .ok xs c.w ->
   (results fn a.tmps).run P c.w = .ok (if h:xs.toArray.size=1 then xs.toArray[0]else .tuple xs.toArray) c.w:=by
  intro xs hx
  rw[QmV,Array.mapM_eq_mapM_toList]
  simp only[Sem.run_bind,Sem.run_map]
  rw[hx]
  rfl
 unfold Qq at h
 split at h
 ·rename_i rv hrs
  obtain⟨x,h1,h2⟩:=QeB hst hr h
  refine⟨x,?_,h2⟩
  rw[hrun [x] (by rw[hrs];simp only[Qx3,List.mapM_nil,Sem.run_bind,h1,Result.andThen_ok,Sem.run_pure])]
  rfl
 ·rename_i rs hne
  simp only[QwT]at h
  obtain⟨l,hl,rfl⟩:=h
  obtain⟨xs,h1,h2⟩:=Qex hst hr hl
  refine⟨.tuple xs.toArray,?_,.tup l _ h2.1 h2.2⟩
  rw[hrun xs h1]
  have hne1:¬xs.toArray.size=1:=by
   intro he
   have h3:l.length=1:=by have:=h2.1;omega
   have h4:fn.results.toList.length=l.length:=by
    clear h1 h2 hrun hne
    generalize fn.results.toList=rs at hl
    induction rs generalizing l with
    |nil=>simp at hl;subst hl;rfl
    |cons rv rs ih =>
     simp only[Qx3]at hl
     cases h5:Qz P s rv with
     |none=>simp[h5]at hl
     |some r =>
      cases h6:rs.mapM (Qz P s)with
      |none=>simp[h5,h6]at hl
      |some l' =>
       simp[h5,h6]at hl
       subst hl
       simp only[Qv2]
       cases l' with
       |nil=>cases rs with
        |nil=>rfl
        |cons z zs =>
         simp only[Qx3]at h6
         cases h7:Qz P s z with
         |none=>simp[h7]at h6
         |some q=>cases h8:zs.mapM (Qz P s)with
          |none=>simp[h7,h8]at h6
          |some q'=>simp[h7,h8]at h6
       |cons z zs=>simp at h3
   rw[h3]at h4
   match hq:fn.results.toList with
   |[rv]=>exact hne rv hq
   |[]=>rw[hq]at h4;simp at h4
   |_::_::_=>rw[hq]at h4;simp at h4
  rw[dif_neg hne1]
def QG(args:List AV):Nat->AV:=fun t=>args.getD t (.v undef)
def Leaves(h h':AH)(r:AV)(Q:AV->AH->Prop):Prop :=
 (∃m r',h.length<=m/\m<=h'.length/\(h'.take m=h\/∀(i:Nat) b,(h'.take m)[i]? = some b->h[i]? = some b\/b.Below m)/\Frz h' m r r'/\Q r' (h'.take m))\/Q r h'
def QS(P:Program)(rs:List ResultVar)(h:AH)(Q:AOut->AH->Prop):AExit->AS->Prop
 | .normal,s | .ret,s=>∃r,Qq P s rs=some r/\Leaves h s.h r fun r h'=>Q (.ret r) h'
 | .panic x,s=>Leaves h s.h x fun r h'=>Q (.panic r) h'
 | .exit _,_=>False
theorem QaE{c c':Cx}{r:AV}{x:Value}{Q:AV->AH->Prop}(hs:St c)(hs':St c')(hev:Ev c c')(hr:Rel c' r x)(hl:Leaves c.h c'.h r Q) :
  ∃c2 r',Q r' c2.h/\Ev c c2/\St c2/\c2.w=c'.w/\Rel c2 r' x:=by
 rcases hl with⟨m,r',h1,h2,h3,h4,h5⟩|h5
 case inr=>exact⟨c',r,h5,hev,hs',rfl,hr⟩
 refine⟨c'.cut m,r',h5,hev.cut h1 h2,hs'.cut h2 ?_,rfl,h4.rel hs' h2 hr⟩
 rcases h3 with h3|h3
 ·intro b hb
  have hb':=hb
  rw[h3]at hb'
  obtain⟨j,hj⟩:=ZT hb'
  have hm:m=c.h.length:=by
   have:=Qxm List.length h3
   rw[Qw9]at this;omega
  rw[hm]
  exact hs.below hj
 ·intro b hb
  obtain⟨i,hi⟩:=ZT hb
  rcases h3 i b hi with h6|h6
  ·exact AB.Below.mono (hs.below h6) h1
  ·exact h6
theorem Qai{P:Program}{w:World}{r:Nat}(h:w.heap[r]? = some (.deferred (some []))):(Instr.takeDeferred r).run P w = .ok [] {w with heap:=w.heap.setIfInBounds r (.deferred none)}:=by
 simp[Instr.takeDeferred,getObj,setObj,Sem.run,h]
theorem Qci{P:Program}{F:Fence}{n:Nat}{fn:Func}{tmps:Array Value}{R:Ending->World->Prop}{u:FrameMode}(hu:u ≠ .run){c:Cx}(hs:St c){base:Nat}:∀(Ds:List Nat) (w:World),
  Ds.Nodup->(∀D∈Ds,base<=D/\w.heap[D]? = some (.deferred (some []))) ->
  (∀w',w'.os=w.os->w'.tape=w.tape->w'.output=w.output->w'.heap.size=w.heap.size->(∀k,k∉Ds->w'.heap[k]? = w.heap[k]?)->LeavesInM F n P fn tmps R [] u w') ->
  LeavesInM F n P fn tmps R (Ds.map QlJ) u w
 |[],w,_,_,h=>h w rfl rfl rfl rfl fun _ _=>rfl
 |D::Ds,w,hn,hd,h=>by
  have hD:=(hd D (by simp)).2
  have hlt:=(QwX.1 hD).1
  simp only[Qv4,LeavesInM]
  refine⟨hu,.inl ⟨D,_,rfl,Qai hD,?_⟩⟩
  have hnd:=QyE.1 hn
  have hold:∀k,k≠D->({w with heap:=w.heap.setIfInBounds D (.deferred none)}:World).heap[k]? = w.heap[k]? := fun k hk=>by
   show(w.heap.setIfInBounds D _)[k]? = _
   rw[Qxv (fun e=>hk e.symm)]
  refine Qci hu hs (base:=base) Ds _ hnd.2 (fun D' hD'=>⟨(hd D' (by simp[hD'])).1,?_⟩) fun w' h1 h2 h3 h4 h5=>h w' h1 h2 h3 (by simpa using h4) fun k hk=>?_
  ·have hne:D'≠D:=fun e=>hnd.1 (e▸hD')
   exact(hold D' hne).trans (hd D' (by simp[hD'])).2
  ·simp only[QwS,not_or]at hk
   exact(h5 k hk.2).trans (hold k hk.1)
theorem Ev.idle{c0 c:Cx}(hs:St c)(hev:Ev c0 c){w:World}(h1:w.os=c.w.os)(h2:w.tape=c.w.tape)(h3:w.output=c.w.output)(h4:w.heap.size=c.w.heap.size)
  (h5:∀k,w.heap[k]? = c.w.heap[k]? \/ (c0.w.heap.size<=k/\¬c.owns k/\∃o,c.w.heap[k]? = some (.deferred o))):Ev c0 (c.to w):=by
 refine⟨h1.trans hev.os,h2.trans hev.tape,h3.trans hev.output,by show _<=w.heap.size;rw[h4];exact hev.size,hev.len,fun B hB ho=>?_,fun id b hb=>?_,hev.fresh⟩
 ·rcases h5 B with h|⟨h,_⟩
  ·exact h.trans (hev.frame B hB ho)
  ·omega
 ·obtain⟨b',hb',hk⟩:=hev.kin id b hb
  refine⟨b',hb',?_⟩
  cases b with
  |cells ty s xs =>
   rcases hk with e0|⟨xs',e1,e2,e3⟩
   ·exact .inl e0
   refine .inr ⟨xs',e1,e2,fun B cur hρ hc=>?_⟩
   obtain⟨cur',h6,h7⟩:=e3 B cur hρ hc
   refine⟨cur',?_,h7⟩
   rcases h5 B with h|⟨_,_,o,h⟩
   ·exact h.trans h6
   ·rw[h6]at h;cases h
  |grow e s n =>
   rcases hk with⟨e1,e5⟩|⟨n',e1,e2,e3,e4,e5⟩
   ·refine .inl ⟨e1,fun B cur hρ hc=>?_⟩
    obtain⟨cur',fr,h6,h7⟩:=e5 B cur hρ hc
    refine⟨cur',fr,?_,h7⟩
    rcases h5 B with h|⟨_,_,o,h⟩
    ·exact h.trans h6
    ·rw[h6]at h;cases h
   refine .inr ⟨n',e1,e2,e3,e4,fun B cur hρ hc=>?_⟩
   obtain⟨cur',h6,h7⟩:=e5 B cur hρ hc
   refine⟨cur',?_,h7⟩
   rcases h5 B with h|⟨_,_,o,h⟩
   ·exact h.trans h6
   ·rw[h6]at h;cases h
  |map es=>exact hk
  |loop i=>exact hk
  |iter s p=>exact hk
  |glob g cs ty fr =>
   simp only[Kin]at hk ⊢
   refine⟨hk.1,hk.2.1,fun B hρ=>?_⟩
   rcases h5 B with h|⟨_,hno,_⟩
   ·exact h.trans (hk.2.2 B hρ)
   ·exact absurd ⟨id,b',hb',by rw[hk.1];rfl,hk.2.1.trans hρ⟩ hno
  |dead=>exact hk
  |gone=>exact hk
theorem Rel.idle{c:Cx}{w:World}(hsz:w.heap.size=c.w.heap.size)(h5:∀(k:Nat) cs t fr,c.w.heap[k]? = some (Obj.cells cs t fr)->w.heap[k]? = c.w.heap[k]?){a:AV}{x:Value}(h:Rel c a x):Rel (c.to w) a x:=by
 have hcell:∀{B o:Nat} {u:Value},c.cellP B o u->(c.to w).cellP B o u:=by
  intro B o u hc
  refine⟨?_,by show B<w.heap.size;rw[hsz];exact hc.2.1,hc.2.2⟩
  have h1:=hc.1
  cases hb:c.w.heap[B]? with
  |none=>simp[World.cell?,hb]at h1
  |some o' =>
   cases o' with
   |cells cs t fr=>exact(World.cell?_of_block (w:=c.w) (a:=⟨B,o,none⟩) (h5 B cs t fr hb)).trans h1
   |_=>simp[World.cell?,hb]at h1
 induction h with
 |v x=>exact .v x
 |junk x=>exact .junk x
 |agg l cs hl _ ih=>exact .agg l cs hl ih
 |tup l cs hl _ ih=>exact .tup l cs hl ih
 |slnil s own ht=>exact .slnil s own ht
 |slzero s own ba ht=>exact .slzero s own ba ht
 |sl s xs own B o cap f hs' hcap hmax hc _ ht ih =>
  refine .sl s xs own B o cap f hs' hcap hmax (fun j a hj=>⟨hcell (hc j a hj).1,(hc j a hj).2⟩) ih fun b hb=>⟨(ht b hb).1,fun e s' n hg=>?_⟩
  obtain⟨h1,h2,h3⟩:=(ht b hb).2 e s' n hg
  refine⟨h1,h2,fun he=>?_⟩
  obtain⟨h6,h7,h8,h9,cur,h10,h11⟩:=h3 he
  exact⟨h6,h7,h8,h9,cur,(h5 B _ _ _ h10).trans h10,h11⟩
 |pin s xs k off B o f hs' hc _ ih=>exact .pin s xs k off B o f hs' (fun j a hj=>⟨hcell (hc j a hj).1,(hc j a hj).2⟩) ih
 |ptr id k off x hid ho h1=>exact .ptr id k off x hid ho h1
 |arr id lo len x hid ho h1 =>
  refine .arr id lo len x hid ho fun ty s xs hb=>?_
  obtain⟨B,cap,h2,h3,h4,h6,cur,h7,h8⟩:=h1 ty s xs hb
  exact⟨B,cap,h2,h3,h4,h6,cur,(h5 B _ _ _ h7).trans h7,h8⟩
 |row id lo len cap x hid ho h1 =>
  refine .row id lo len cap x hid ho fun ty s xs hb=>?_
  obtain⟨B,cur,h2,h3,h4,h6,h7,h8⟩:=h1 ty s xs hb
  exact⟨B,cur,h2,h3,h4,h6,(h5 B _ _ _ h7).trans h7,h8⟩
 |mp id x hid ho h1=>exact .mp id x hid ho h1
 |fn f first cap vs ws e1 e2 _ _ ih1 ih2=>exact .fn f first cap vs ws e1 e2 ih1 ih2
 |ifc t a u _ ih=>exact .ifc t a u ih
 |spt s xs own p n k _ ih=>exact .spt s xs own p n k ih
theorem St.idle{c:Cx}(hs:St c){w:World}(hsz:w.heap.size=c.w.heap.size)(h5:∀(k:Nat) (o:Obj),c.w.heap[k]? = some o->(w.heap[k]? = some o\/∃d,o=Obj.deferred d)):St (c.to w):=by
 have hc:∀(k:Nat) cs t fr,c.w.heap[k]? = some (Obj.cells cs t fr)->w.heap[k]? = c.w.heap[k]? := fun k cs t fr h=>by
  rcases h5 k _ h with h'|⟨d,h'⟩
  ·rw[h,h']
  ·cases h'
 have hm:∀(k:Nat) es n,c.w.heap[k]? = some (Obj.map es n)->w.heap[k]? = c.w.heap[k]? := fun k es n h=>by
  rcases h5 k _ h with h'|⟨d,h'⟩
  ·rw[h,h']
  ·cases h'
 refine⟨fun id b hb=>?_,hs.inj⟩
 have h0:=hs.blocks id b hb
 cases b with
 |cells ty s xs =>
  obtain⟨B,cur,h1,h2,h3,h4⟩:=h0
  exact⟨B,cur,h1,(hc B _ _ _ h2).trans h2,h3,fun j a hj=>let ⟨u,h6,h7,h8⟩:=h4 j a hj;⟨u,h6,h7,h8.idle hsz hc⟩⟩
 |grow e s n=>exact fun B hB=>let ⟨cur,h1,h2⟩:=h0 B hB;⟨cur,(hc B _ _ _ h1).trans h1,h2⟩
 |map es =>
  obtain⟨B,ents,clock,h1,h2,h3,h4⟩:=h0
  exact⟨B,ents,clock,h1,(hm B _ _ h2).trans h2,h3,fun j kv e hj he=>⟨(h4 j kv e hj he).1,(h4 j kv e hj he).2.idle hsz hc⟩⟩
 |loop i =>
  obtain⟨B,r,h1,h2,h3,h4⟩:=h0
  have hl:w.heap[B]? = c.w.heap[B]? := by
   rcases h5 B _ h2 with h'|⟨d,h'⟩
   ·rw[h2,h']
   ·cases h'
  exact⟨B,r,h1,hl.trans h2,h3,fun t=>(h4 t).idle hsz hc⟩
 |iter s p =>
  obtain⟨B,h1,h2⟩:=h0
  refine⟨B,h1,?_⟩
  rcases h5 B _ h2 with h'|⟨d,h'⟩
  ·exact h'
  ·cases h'
 |glob g cs ty fr =>
  obtain⟨h1,h2⟩:=h0
  exact⟨h1,(hc g _ _ _ h2).trans h2⟩
 |dead=>trivial
 |gone=>trivial
theorem QbM{F:Fence}{n:Nat}{P:Program}{f:FuncId}{args:Array Value}{w:World}{R:Ending->World->Prop}(h:CallsIn F.plain n P f args w R):CallsIn F n P f args w R:=h
theorem Qhz{P:Program}{f:FuncId}{fn:Func}{code:Code}{args:List AV}{h:AH}{Q:AOut->AH->Prop}(hf:P.funcs[f]? = some fn)(hb:fn.body=some code)
  (hcall:∀vals w,(callFunc f vals).run P w = .ok (.enter f vals) w) {N:Nat} (hN:fn.ntmps=N) {rs:List ResultVar} (hrs:fn.results.toList=rs) (hn:args.length<=N) (H:XO P N code (QS P rs h Q) ⟨QG args,h⟩):QT P f args h Q:=by
 subst hN
 subst hrs
 refine⟨hcall,fun F n c vals hF hs hh hvals=>QbM ?_⟩
 subst hh
 refine callsIn_of_wp_marks hf hb (hF.plain.fn f) ?_
 have hsr:SR fn.ntmps (⟨c.w.heap.size,[]⟩,F.plain) c ⟨QG args,c.h⟩ {tmps:=vals++Array.replicate (fn.ntmps - vals.size) undef,defers:=[]}:=by
  refine⟨rfl,by have:=hvals.1;simp;omega,QwP _,⟨[],rfl,Qyh,fun D h=>by cases h⟩,(fun l hl=>by cases hl),fun t=>?_⟩
  simp only[QG]
  rw[QwW,Qyg,Qxe]
  have hsz:=hvals.1
  by_cases ht:t<vals.size
  ·rw[QwN ht]
   obtain⟨u,hu⟩:∃u,vals[t]? = some u:=⟨_,Qw0 ht⟩
   obtain⟨a,ha⟩:∃a,args[t]? = some a:=⟨_,QwK (by omega)⟩
   rw[hu,ha]
   exact hvals.2 t a u ha hu
  ·rw[QwJ ht,Qxp (by omega),QxR]
   split
   ·exact .v _
   ·exact .v _
 refine H F.plain n ⟨c.w.heap.size,[]⟩ c _ hF.plain hs hsr _ ?_
 intro e s' c' a' e' hQ hev hst hr hex
 -- the end, whichever way
 have fin:∀(u:FrameMode),u ≠ .run->(∀(c2:Cx),Ev c c2->St c2->c2.h=c'.h->(∀a x,Rel c' a x->Rel c2 a x)->SR fn.ntmps (⟨0,[]⟩,F.plain) c2 s' {a' with defers:=[]} ->
   LeavesInM F.plain n P fn a'.tmps (fun e w'=>∃o c',Q o c'.h/\Ev c c'/\St c'/\c'.w=w'/\EndC c' o e) [] u c2.w) ->
   LeavesInM F.plain n P fn a'.tmps (fun e w'=>∃o c',Q o c'.h/\Ev c c'/\St c'/\c'.w=w'/\EndC c' o e) a'.defers u c'.w:=by
  intro u hu hfin
  obtain⟨Ds,e1,hnd,hall⟩:=hr.defers
  rw[e1,Qwi]
  refine Qci hu hst (base:=c.w.heap.size) Ds c'.w hnd (fun D hD=>⟨(hall D hD).1,(hall D hD).2.1⟩) ?_
  intro w' h1 h2 h3 h4 h5
  have hidle:∀k,w'.heap[k]? = c'.w.heap[k]? \/ (c.w.heap.size<=k/\¬c'.owns k/\∃o,c'.w.heap[k]? = some (.deferred o)):=by
   intro k
   by_cases hk:k∈Ds
   ·exact .inr ⟨(hall k hk).1,(hall k hk).2.2,_,(hall k hk).2.1⟩
   ·exact .inl (h5 k hk)
  have hcells:∀(k:Nat) cs t fr,c'.w.heap[k]? = some (Obj.cells cs t fr)->w'.heap[k]? = c'.w.heap[k]? := fun k cs t fr hk=>by
   rcases hidle k with h|⟨_,_,o,h⟩
   ·exact h
   ·rw[hk]at h;cases h
  have hst2:St (c'.to w'):=hst.idle h4 fun k o hk=>by
   rcases hidle k with h|⟨_,_,d,h⟩
   ·exact .inl (h.trans hk)
   ·rw[hk]at h;cases h;exact .inr ⟨d,rfl⟩
  have hrel:∀a x,Rel c' a x->Rel (c'.to w') a x:=fun a x hax=>hax.idle h4 hcells
  exact hfin (c'.to w') (Ev.idle hst hev h1 h2 h3 h4 hidle) hst2 rfl hrel ⟨hr.h,hr.size,Qw3 _,⟨[],rfl,Qyh,fun D h=>by cases h⟩,(fun l hl=>by cases hl),fun t=>hrel _ _ (hr.tm t)⟩
 cases e with
 |normal =>
  cases hex
  obtain⟨r,hres,hl⟩:=hQ
  refine fin .returning (by simp) fun c2 hev2 hst2 hh2 hrel2 hsr2=>?_
  obtain⟨x,hrun,hx⟩:=QbV hst2 hsr2 hres
  rw[<-hr.h,<-hh2]at hl
  obtain⟨c3,r',h1,h2,h3,h4,h5⟩:=QaE hs hst2 hev2 hx hl
  exact⟨x,hrun,.ret r',c3,h1,h2,h3,h4,x,rfl,h5⟩
 |ret =>
  cases hex
  obtain⟨r,hres,hl⟩:=hQ
  refine fin .returning (by simp) fun c2 hev2 hst2 hh2 hrel2 hsr2=>?_
  obtain⟨x,hrun,hx⟩:=QbV hst2 hsr2 hres
  rw[<-hr.h,<-hh2]at hl
  obtain⟨c3,r',h1,h2,h3,h4,h5⟩:=QaE hs hst2 hev2 hx hl
  exact⟨x,hrun,.ret r',c3,h1,h2,h3,h4,x,rfl,h5⟩
 |panic av =>
  obtain⟨x,rfl,hx⟩:=hex
  refine fin (.panicking [{v:=x,recovered:=false}]) (by simp) fun c2 hev2 hst2 hh2 hrel2 hsr2=>?_
  have hl:Leaves c.h s'.h av fun r h'=>Q (.panic r) h':=hQ
  rw[<-hr.h,<-hh2]at hl
  obtain⟨c3,r',h1,h2,h3,h4,h5⟩:=QaE hs hst2 hev2 (hrel2 _ _ hx) hl
  exact⟨.panic r',c3,h1,h2,h3,h4,x,rfl,h5⟩
 |exit id=>exact hQ.elim
theorem Qb{P:Program}{f:FuncId}{fn:Func}{code:Code}{args:List AV}{h:AH}{Q:AOut->AH->Prop}(hf:P.funcs[f]? = some fn)(hb:fn.body=some code)(hcall:∀vals w,(callFunc f vals).run P w = .ok (.enter f vals) w){N:Nat}(hN:fn.ntmps=N){ra:Array ResultVar}(hrs:fn.results=ra)(hn:args.length<=N)(H:XO P N code (QS P ra.toList h Q) ⟨QG args,h⟩):QT P f args h Q:=Qhz hf hb hcall hN (Qxm Array.toList hrs) hn H
end Go.Proofs.YtenheconhibonaaGreatDoor.Ab
namespace Go.Proofs.YtenheconhibonaaGreatDoor.Ab
theorem hget(h l:AH)(k:Nat):(h++l)[h.length+k]? = l[k]? := by
 rw[QwO (by omega)];congr 1;omega
theorem Q8(h l:AH):(h++l)[h.length]? = l[0]? := hget h l 0
theorem hset(h l:AH)(k:Nat)(b:AB):(h++l).set (h.length+k) b=h++l.set k b:=by
 rw[QxH _ _ (by omega)];congr 2;omega
theorem Yd(h l:AH)(b:AB):(h++l).set h.length b=h++l.set 0 b:=hset h l 0 b
theorem hext{h:AH}{i:Nat}{b:AB}(hb:h[i]? = some b)(l:AH):(h++l)[i]? = some b:=by
 rw[QwI (Qv hb)];exact hb
theorem hlen(h l:AH):(h++l).length=h.length+l.length:=QwG
theorem happ(h l m:AH):(h++l)++m=h++(l++m):=QwM h l m
theorem htake(h l:AH):(h++l).take h.length=h:=List.take_left
theorem Qo(l:List AV):(AV.agg l).cells=l:=rfl
theorem Q6(x:Value):(AV.v x).cells=[.v x]:=rfl
theorem XV(s:Nat)(xs:List AV)(o:Option Nat):(AV.sl s xs o).cells=[.sl s xs o]:=rfl
theorem ZA(s:Nat)(xs:List AV)(k o:Nat):(AV.pin s xs k o).cells=[.pin s xs k o]:=rfl
theorem XH(i k o:Nat):(AV.ptr i k o).cells=[.ptr i k o]:=rfl
theorem Zy(i k o:Nat):(AV.arr i k o).cells=[.arr i k o]:=rfl
theorem ZM(i:Nat):(AV.mp i).cells=[.mp i]:=rfl
theorem Qaq(f:Fn)(a b:List AV):(AV.fn f a b).cells=[.fn f a b]:=rfl
theorem Zz(t:TypeId)(x:AV):(AV.ifc t x).cells=[.ifc t x]:=rfl
theorem QD(l:List AV):(AV.agg l).isAgg=true:=rfl
theorem Xx(x:Value):(AV.v x).isAgg=false:=rfl
theorem Yn(s:Nat)(xs:List AV)(o:Option Nat):(AV.sl s xs o).isAgg=false:=rfl
theorem ZG(s:Nat)(xs:List AV)(k o:Nat):(AV.pin s xs k o).isAgg=false:=rfl
theorem Ze(i k o:Nat):(AV.ptr i k o).isAgg=false:=rfl
theorem ZE(i k o:Nat):(AV.arr i k o).isAgg=false:=rfl
theorem ZO(i:Nat):(AV.mp i).isAgg=false:=rfl
theorem Qat(f:Fn)(a b:List AV):(AV.fn f a b).isAgg=false:=rfl
theorem ZF(t:TypeId)(x:AV):(AV.ifc t x).isAgg=false:=rfl
theorem QE(k:IntKind)(n:Int):(AV.v (.int k n)).cell1=true:=rfl
theorem Y0(b:Bool):(AV.v (.bool b)).cell1=true:=rfl
theorem QA(b:ByteArray):(AV.v (.string b)).cell1=true:=rfl
theorem QM(a:Option Addr)(m n:Nat):(AV.v (.slice a m n)).cell1=true:=rfl
theorem Zw(a:Option Nat):(AV.v (.map a)).cell1=true:=rfl
theorem Xi(a:Option Addr):(AV.v (.pointer a)).cell1=true:=rfl
theorem Yj:(AV.v .nilFunc).cell1=true:=rfl
theorem X4:(AV.v .nilIface).cell1=true:=rfl
theorem QP(s:Nat)(xs:List AV)(o:Option Nat):(AV.sl s xs o).cell1=true:=rfl
theorem Zx(s:Nat)(xs:List AV)(k o:Nat):(AV.pin s xs k o).cell1=true:=rfl
theorem XG(i k o:Nat):(AV.ptr i k o).cell1=true:=rfl
theorem Zu(i k o:Nat):(AV.arr i k o).cell1=true:=rfl
theorem ZL(i:Nat):(AV.mp i).cell1=true:=rfl
theorem Qap(f:Fn)(a b:List AV):(AV.fn f a b).cell1=true:=rfl
theorem Zv(t:TypeId)(x:AV):(AV.ifc t x).cell1=true:=rfl
theorem Qu(k:IntKind)(n:Int):AV.ofV (.int k n) = .v (.int k n):=rfl
theorem QC(b:Bool):AV.ofV (.bool b) = .v (.bool b):=rfl
theorem QI(b:ByteArray):AV.ofV (.string b) = .v (.string b):=rfl
theorem XM(a:Option Addr)(m n:Nat):AV.ofV (.slice a m n) = .v (.slice a m n):=rfl
theorem Qan(a:Option Nat):AV.ofV (.map a) = .v (.map a):=rfl
theorem Yq(a:Option Addr):AV.ofV (.pointer a) = .v (.pointer a):=rfl
theorem YK:AV.ofV .nilFunc = .v .nilFunc:=rfl
theorem X9:AV.ofV .nilIface = .v .nilIface:=rfl
theorem Qbp(cs:Array Value):AV.ofV (.agg cs) = .agg (cs.toList.map .v):=rfl
section
variable(P:Program)(t:TypeId)(xo yo:Operand)(k:IntKind)(a b:Int)
theorem Q1:pv P (do eqGuard .eql t xo yo (.int k a) (.int k b);binOp .eql t (.int k a) (.int k b))=some (.bool (a==b)):=by cases k <;> rfl
theorem YH:pv P (do eqGuard .neq t xo yo (.int k a) (.int k b);binOp .neq t (.int k a) (.int k b))=some (.bool (a != b)):=by cases k <;> rfl
theorem Q5:pv P (do eqGuard .lss t xo yo (.int k a) (.int k b);binOp .lss t (.int k a) (.int k b))=some (.bool (a<b)):=by cases k <;> rfl
theorem YT:pv P (do eqGuard .leq t xo yo (.int k a) (.int k b);binOp .leq t (.int k a) (.int k b))=some (.bool (a<=b)):=by cases k <;> rfl
theorem Xw:pv P (do eqGuard .gtr t xo yo (.int k a) (.int k b);binOp .gtr t (.int k a) (.int k b))=some (.bool (a>b)):=by cases k <;> rfl
theorem Qah:pv P (do eqGuard .geq t xo yo (.int k a) (.int k b);binOp .geq t (.int k a) (.int k b))=some (.bool (a>=b)):=by cases k <;> rfl
theorem Yc:pv P (do eqGuard .add t xo yo (.int k a) (.int k b);binOp .add t (.int k a) (.int k b))=some (.int k (k.wrap (a+b))):=by cases k <;> rfl
theorem Zi:pv P (do eqGuard .sub t xo yo (.int k a) (.int k b);binOp .sub t (.int k a) (.int k b))=some (.int k (k.wrap (a - b))):=by cases k <;> rfl
theorem Qtb:pv P (do eqGuard .mul t xo yo (.int k a) (.int k b);binOp .mul t (.int k a) (.int k b))=some (.int k (k.wrap (a * b))):=by cases k <;> rfl
theorem Ya(x:Bool):pv P (Op.unary .not (.bool x))=some (.bool !x):=rfl
theorem Qtc:pv P (Op.unary .neg (.int k a))=some (.int k (k.wrap (0 - a))):=by cases k <;> rfl
theorem Qs9(ty:TypeId)(ts:Array TypeId):pv P (Builtin.max_ ts ty #[.int k a,.int k b])=some (.int k (if b>a then b else a)):=by cases k <;> rfl
theorem Qta(ty:TypeId)(ts:Array TypeId):pv P (Builtin.min_ ts ty #[.int k a,.int k b])=some (.int k (if b<a then b else a)):=by cases k <;> rfl
end
theorem YW{α β:Type}(P:Program):∀(x:Sem α) (f:α->Sem β),pv P (x >>= f)=(pv P x).bind fun a=>pv P (f a)
 | .pure a,f=>rfl
 | .program k,f=>YW P (k P) f
 | .mark m k,f=>YW P k f
 | .load _ _ _,f | .store _ _ _ _,f | .new _ _,f | .shape _ _,f | .freeze _ _ _,f | .frozen _ _,f | .getObj _ _,f | .setObj _ _ _,f | .choose _ _,f | .sys _ _,f | .halt _,f=>rfl
theorem Qh6(P:Program)(t:TypeId)(ht:P.underlying t=some .bool)(a b:Bool):pv P (Op.equal t (.bool a) (.bool b))=some (a==b):=by
 have h:∀n,pv P (Op.equalIn (n+1) t (.bool a) (.bool b))=some (a==b):=by
  intro n
  simp only[Op.equalIn,underlying]
  rw[YW,YW]
  simp only[program,pv,QvU,ht]
  rfl
 exact h 9999
theorem Qr2(P:Program)(t:TypeId)(xo yo:Operand)(ht:P.underlying t=some .bool)(a b:Bool):pv P (do eqGuard .eql t xo yo (.bool a) (.bool b);binOp .eql t (.bool a) (.bool b))=some (.bool (a==b)):=by
 have h1:pv P (binOp .eql t (.bool a) (.bool b))=some (.bool (a==b)):=by
  show pv P (do let r<-Op.equal t (.bool a) (.bool b);pure (Value.bool r))=_
  rw[YW,Qh6 P t ht];rfl
 rw[YW]
 show(some ()).bind _=_
 exact h1
theorem Xv(P:Program)(t:TypeId)(xo yo:Operand)(a b:ByteArray):pv P (do eqGuard .eql t xo yo (.string a) (.string b);binOp .eql t (.string a) (.string b))=some (.bool (a.toList==b.toList)):=rfl
theorem YM(P:Program)(t:TypeId)(xo yo:Operand)(a b:ByteArray):pv P (do eqGuard .neq t xo yo (.string a) (.string b);binOp .neq t (.string a) (.string b))=some (.bool !(a.toList==b.toList)):=rfl
theorem QoW(P:Program)(t:TypeId)(xo yo:Operand)(a b:ByteArray):pv P (do eqGuard .lss t xo yo (.string a) (.string b);binOp .lss t (.string a) (.string b))=some (.bool (Op.bytesLess a.toList b.toList)):=rfl
theorem Qr3(P:Program)(t:TypeId)(xo yo:Operand)(a b:ByteArray):pv P (do eqGuard .gtr t xo yo (.string a) (.string b);binOp .gtr t (.string a) (.string b))=some (.bool !(Op.bytesLess a.toList b.toList||a.toList==b.toList)):=rfl
theorem ZU(P:Program)(t ty:TypeId)(ht:P.underlying t=some .string)(s:ByteArray):pv P (Builtin.len_ #[t] ty #[.string s])=some (goInt s.size):=by
 simp only[Builtin.len_,QvS,QvP,underlying,program,Bind.bind,Sem.bind,pv,ht]
 rfl
theorem Qjv(P:Program)(t ty e:TypeId)(ht:P.underlying t=some (.slice e)):pv P (Builtin.len_ #[t] ty #[.slice none 0 0])=some (goInt 0):=by
 simp only[Builtin.len_,QvS,QvP,underlying,program,Bind.bind,Sem.bind,pv,ht]
 rfl
theorem Yr(K:AS->Prop)(Q:AExit->AS->Prop)(s:AS):AExit.then K Q .normal s=K s:=rfl
theorem QqK(K:AS->Prop)(Q:AExit->AS->Prop)(s:AS):AExit.then K Q .ret s=Q .ret s:=rfl
theorem Yu(i:Nat)(Q:AExit->AS->Prop)(s:AS):AExit.inBlock i Q .normal s=Q .normal s:=rfl
theorem QnC(i:Nat)(Q:AExit->AS->Prop)(s:AS):AExit.inBlock i Q .ret s=Q .ret s:=rfl
theorem QgL(i j:Nat)(Q:AExit->AS->Prop)(s:AS):AExit.inBlock i Q (.exit j) s=if j=i then Q .normal s else Q (.exit j) s:=rfl
end Go.Proofs.YtenheconhibonaaGreatDoor.Ab
namespace Go.Proofs.YtenheconhibonaaGreatDoor.Ab
theorem Qg(N:Nat)(tm:Nat->AV)(h:AH)(d:Nat)(x:AV)(hd:d<N):AS.put N ⟨tm,h⟩ (some d) x=⟨upd tm d x,h⟩:=QwN hd
theorem Qh(P:Program)(N:Nat)(ops:Array Oper)(K:AS->Prop)(E:AV->AS->Prop)(tm:Nat->AV)(h:AH):OpsW P N ops [] K E ⟨tm,h⟩=K ⟨tm,h⟩:=rfl
theorem Qe(P:Program)(N:Nat)(ops:Array Oper)(o:Oper)(l:List Oper)(K:AS->Prop)(E:AV->AS->Prop)(tm:Nat->AV)(h:AH):OpsW P N ops (o::l) K E ⟨tm,h⟩=(match Qk ops tm o with|some true=>OpW P N o ⟨tm,h⟩ (OpsW P N ops l K E) E|some false=>OpsW P N ops l K E (AS.put N ⟨tm,h⟩ o.dst (.v undef))|none=>False):=rfl
theorem QX(N:Nat)(tm:Nat->AV)(h:AH)(x:AV):AS.put N ⟨tm,h⟩ none x=⟨tm,h⟩:=rfl
theorem Qr(f:Nat->AV)(d t:Nat)(x:AV):upd f d x t=if t=d then x else f t:=rfl
theorem QcX(tm:Nat->AV)(h:AH)(t:Nat):AS.ev ⟨tm,h⟩ (.tmp t)=tm t:=rfl
theorem Qar(tm:Nat->AV)(h:AH)(v:Value):AS.ev ⟨tm,h⟩ (.const v)=AV.ofV v:=rfl
theorem Qbm(tm:Nat->AV)(h:AH)(f:FuncId):AS.ev ⟨tm,h⟩ (.func f) = .fn (.func f) [] []:=rfl
end Go.Proofs.YtenheconhibonaaGreatDoor.Ab
namespace Go.Proofs.YtenheconhibonaaGreatDoor.Ab
theorem Ql{P:Program}{N:Nat}{Q:AExit->AS->Prop}{s:AS}{id:Nat}{ops:Array Oper}
  (H:∀(K:AS->Prop) (E:AV->AS->Prop),(∀s,Q .normal s->K s)->(∀r s,Q (.panic r) s->E r s)->OpsW P N ops ops.toList K E s):XO P N (.region id ops false) Q s :=
 Qbc (H _ _ (fun _ h=>h) (fun _ _ h=>h))
theorem Qa{P:Program}{N:Nat}{Q:AExit->AS->Prop}{s:AS}{id:Nat}{ops:Array Oper}{y:Code}
  (H:∀(K:AS->Prop) (E:AV->AS->Prop),(∀s,XO P N y Q s->K s)->(∀r s,Q (.panic r) s->E r s)->OpsW P N ops ops.toList K E s):XO P N (.seq (.region id ops false) y) Q s :=
 Qaz (Qbc (H _ _ (fun _ h=>h) (fun _ _ h=>h)))
theorem Qd{K:AS->Prop}{Q:AExit->AS->Prop}{s:AS}(h:K s):AExit.then K Q .normal s:=h
theorem QB{K:AS->Prop}{Q:AExit->AS->Prop}{s:AS}(h:Q .ret s):AExit.then K Q .ret s:=h
theorem QV{K:AS->Prop}{Q:AExit->AS->Prop}{s:AS}{i:Nat}(h:Q (.exit i) s):AExit.then K Q (.exit i) s:=h
theorem QdN{K:AS->Prop}{Q:AExit->AS->Prop}{s:AS}{x:AV}(h:Q (.panic x) s):AExit.then K Q (.panic x) s:=h
theorem Qt{i:Nat}{Q:AExit->AS->Prop}{s:AS}(h:Q .normal s):AExit.inBlock i Q .normal s:=h
theorem QF{i:Nat}{Q:AExit->AS->Prop}{s:AS}(h:Q .ret s):AExit.inBlock i Q .ret s:=h
theorem QgF{i:Nat}{Q:AExit->AS->Prop}{s:AS}{x:AV}(h:Q (.panic x) s):AExit.inBlock i Q (.panic x) s:=h
theorem QU{i:Nat}{Q:AExit->AS->Prop}{s:AS}(h:Q .normal s):AExit.inBlock i Q (.exit i) s:=by
 rw[QgL,QwN rfl];exact h
theorem Zp{i j:Nat}{Q:AExit->AS->Prop}{s:AS}(hj:(j==i)=false)(h:Q (.exit j) s):AExit.inBlock i Q (.exit j) s:=by
 rw[QgL,QwJ (by simpa using hj)];exact h
end Go.Proofs.YtenheconhibonaaGreatDoor.Ab
set_option linter.unusedSectionVars false
namespace Go.Proofs.YtenheconhibonaaGreatDoor.Ab
def Keep (h h' : AH) : Prop := ∀ (id : Nat) (b : AB), h[id]? = some b -> (∀ e s n, b ≠ .grow e s n) -> h'[id]? = some b
theorem Keep.refl (h : AH) : Keep h h := fun _ _ h _ => h
theorem Keep.trans {a b c : AH} (h : Keep a b) (k : Keep b c) : Keep a c := fun id x hx hn => k id x (h id x hx hn) hn
theorem Keep.nil (h : AH) : Keep [] h := fun id b hb => by simp at hb
theorem Keep.app (h l : AH) : Keep h (h ++ l) := fun id b hb _ => hext hb l
theorem Keep.QvI {h : AH} {i : Nat} {e s n : Nat} (hi : h[i]? = some (.grow e s n)) (b : AB) : Keep h (h.set i b) := fun id x hx hn => by
  have hne : i ≠ id := fun e' => by subst e'; rw [hi] at hx; cases hx; exact hn _ _ _ rfl
  rw [QwL hne]; exact hx
def Qcj : Op -> Bool
  | .move _ | .assign _ | .pick .. | .build .. | .load .. | .binOp .. | .unOp .. | .convert .. | .makeFunc .. | .makeInterface .. | .fieldAddr .. | .field .. | .indexAddr .. | .index .. | .lookup .. | .extract .. | .nilCheck _ | .typeAssert .. => true
  | .buildSlice _ n _ => n != 0
  | .slice _ _ _ _ m => m.isNone
  | .call c => match c.callee with
    | .builtin .len | .builtin .min | .builtin .max | .builtin .unsafeSliceData => true
    | _ => false
  | _ => false
def Qdh : Op -> Bool
  | .alloc _ | .box .. | .buildSlice .. | .makeMap .. | .makeSlice .. => true
  | .slice _ _ _ _ m => m.isSome
  | .call c => match c.callee with
    | .builtin .append => true
    | _ => false
  | _ => false
theorem Y8 {α : Type} {x : Option α} {h h1 : AH} {r : α} (e : x.map (·, h) = some (r, h1)) : x = some r /\ h1 = h := by
  cases x <;> simp at e
  exact ⟨by rw [e.1], e.2.symm⟩
theorem YR {h h' : AH} (k : Keep h h') {id : Nat} {t s : Nat} {xs : List AV} (e : h[id]? = some (.cells t s xs)) : h'[id]? = some (.cells t s xs) := k id _ e (fun _ _ _ h => by cases h)
theorem get_map {h h' : AH} (k : Keep h h') {id : Nat} {es : List (Value × AV)} (e : h[id]? = some (.map es)) : h'[id]? = some (.map es) := k id _ e (fun _ _ _ h => by cases h)
section
variable {P : Program} {h h' : AH} (k : Keep h h')
include k
theorem Ql7 {t : TypeId} {x r : AV} (e : QQ P t x h = some r) : QQ P t x h' = some r := by
  unfold QQ at e ⊢
  cases x <;> simp only at e ⊢ <;> try exact e
  split at e
  · rename_i hb; rw [YR k hb]; exact e
  · cases e
theorem Qfa {t : TypeId} {x r : AV} {i : Nat} (e : Qm P t x i h = some r) : Qm P t x i h' = some r := by
  unfold Qm at e ⊢
  cases hf : fieldInfo P t i with
  | none => simp [hf] at e
  | some p =>
    simp only [hf] at e ⊢
    cases x <;> simp only at e ⊢ <;> try exact e
    split at e
    · rename_i hb; rw [YR k hb]; exact e
    · cases e
theorem Qfb {t : TypeId} {x i r : AV} (e : QJ P t x i h = some r) : QJ P t x i h' = some r := by
  unfold QJ at e ⊢
  cases hf : Xp P t with
  | none => simp [hf] at e
  | some p =>
    simp only [hf] at e ⊢
    split at e
    · cases x <;> simp only at e ⊢ <;> try exact e
      split at e
      · rename_i hb; rw [YR k hb]; exact e
      · cases e
    · cases e
theorem Qnk {t ty : TypeId} {x r : AV} (e : aLen P t ty x h = some r) : aLen P t ty x h' = some r := by
  unfold aLen at e ⊢
  cases x <;> simp only at e ⊢ <;> try exact e
  · split at e
    · rename_i hu hb; rw [hu, YR k hb]; exact e
    · cases e
  · split at e
    · rename_i hu hb; rw [hu, YR k hb]; exact e
    · cases e
  · split at e
    · rename_i hu hb; rw [hu, get_map k hb]; exact e
    · cases e
theorem Qm2 {n : Nat} {x : AV} {ys : List AV} (e : Zj n h x = some ys) : Zj n h' x = some ys := by
  unfold Zj at e ⊢
  split at e <;> try exact e
  · split at e
    · rename_i hb; rw [YR k hb]; exact e
    · cases e
  · split at e
    · rename_i hb; rw [YR k hb]; exact e
    · cases e
theorem Qj1 {s d : TypeId} {x r : AV} (e : Qem P s d x h = some r) : Qem P s d x h' = some r := by
  unfold Qem at e ⊢
  split at e
  · rename_i hb hs
    rw [hb, Qm2 k hs]
    exact e
  · cases e
theorem Qj3 {t : TypeId} {x r : AV} {lo hi : Option AV} (e : Qbt P t x lo hi h = some r) : Qbt P t x lo hi h' = some r := by
  unfold Qbt at e ⊢
  cases hf : Xp P t with
  | none => simp only [hf] at e ⊢; exact e
  | some p =>
    simp only [hf] at e ⊢
    split at e <;> try exact e
    · split at e
      · rename_i hb; rw [YR k hb]; exact e
      · cases e
    · split at e
      · rename_i hb; rw [YR k hb]; exact e
      · cases e
theorem QfU {t : TypeId} {x : AV} {b : Value} (e : notNil P t h x b = true) : notNil P t h' x b = true := by
  unfold notNil at e ⊢
  split at e <;> first
    | exact e
    | (split at e
       · rename_i hu hb
         first
           | rw [hu, YR k hb]
           | rw [hu, get_map k hb]
       · cases e)
    | cases e
theorem Qj2 {op : BinOp} {t : TypeId} {x y r : AV} (e : Qfd P op t x y h = some r) : Qfd P op t x y h' = some r := by
  unfold Qfd at e ⊢
  split at e
  · split at e
    · rename_i hu hb
      rw [hu, YR k hb]
      exact e
    · cases e
  · cases e
theorem Qix {s d : TypeId} {id kk off : Nat} {r : AV} (e : Qbk P s d id kk off h = some r) : Qbk P s d id kk off h' = some r := by
  unfold Qbk at e ⊢
  split at e
  · rename_i hb
    rw [YR k hb]
    exact e
  · cases e
theorem Qhr {x : AV} (e : Q2 h x = true) : Q2 h' x = true := by
  cases x <;> simp only [Q2] at e ⊢ <;> try exact e
  split at e
  · rename_i hb; rw [YR k hb]
  · cases e
theorem Qnj {op : BinOp} {t : TypeId} {xo yo : Operand} {x y r : AV} (e : aBin P op t xo yo x y h = some r) : aBin P op t xo yo x y h' = some r := by
  unfold aBin at e ⊢
  split at e
  · exact e
  · rename_i b hnv
    split at e
    · split at e
      · rename_i hn; rw [QfU k hn]; simpa using e
      · cases e
    · split at e
      · rename_i hn; rw [QfU k hn]; simpa using e
      · cases e
    · cases e
  · exact Qj2 k e
  · exact e
  · cases e
theorem Qiv {t : TypeId} {x y r : AV} {ok : Bool} (e : Qaj P t x y ok h = some r) : Qaj P t x y ok h' = some r := by
  unfold Qaj at e ⊢
  cases hf : Qbo P t with
  | none => simp [hf] at e
  | some p =>
    simp only [hf] at e ⊢
    cases y with
    | v kv =>
      simp only at e ⊢
      cases x with
      | mp id =>
        simp only at e ⊢
        cases hb : h[id]? with
        | none => simp [hb] at e
        | some b =>
          cases b with
          | map es => rw [get_map k hb]; rw [hb] at e; exact e
          | _ => simp [hb] at e
      | v x => cases x with
        | map r => cases r <;> exact e
        | _ => exact e
      | _ => exact e
    | _ => exact e
theorem QeF {t : TypeId} {n : Nat} (hn : (n != 0) = true) {parts : List (Nat × AV)} {r : AV} {h1 : AH} (e : QW P t n parts h = some (r, h1)) : h1 = h /\ QW P t n parts h' = some (r, h') := by
  unfold QW at e ⊢
  have hn' : n ≠ 0 := by simpa using hn
  cases hf : Xp P t with
  | none => simp [hf] at e
  | some p =>
    simp only [hf, QwJ hn'] at e ⊢
    split at e
    · rename_i hc; rw [QwN hc]; cases e; exact ⟨rfl, rfl⟩
    · cases e
theorem Qht {ev : Operand -> AV} {ty : TypeId} {op : Op} (hl : Qcj op = true) {r : AV} {h1 : AH} (e : aop P ev ty h op = some (r, h1)) : h1 = h /\ aop P ev ty h' op = some (r, h') := by
  cases op with
  | move x => simp only [aop] at e ⊢; cases e; exact ⟨rfl, rfl⟩
  | assign x => simp only [aop] at e ⊢; cases e; exact ⟨rfl, rfl⟩
  | pick c a b =>
    simp only [aop] at e ⊢
    split at e
    · cases e; exact ⟨rfl, rfl⟩
    · cases e
  | build t parts => simp only [aop] at e ⊢; obtain ⟨e1, e2⟩ := Y8 e; rw [e1]; exact ⟨e2, rfl⟩
  | buildSlice t n parts => simp only [aop] at e ⊢; exact QeF k hl e
  | load t a => simp only [aop] at e ⊢; obtain ⟨e1, e2⟩ := Y8 e; rw [Ql7 k e1]; exact ⟨e2, rfl⟩
  | binOp b t x y t2 => simp only [aop] at e ⊢; obtain ⟨e1, e2⟩ := Y8 e; rw [Qnj k e1]; exact ⟨e2, rfl⟩
  | unOp b t x =>
    simp only [aop] at e ⊢
    split at e
    · obtain ⟨z, e1, e2⟩ := QwT.1 e; cases e2; rw [e1]; exact ⟨rfl, rfl⟩
    · cases e
  | convert s d x =>
    simp only [aop] at e ⊢
    split at e
    · obtain ⟨z, e1, e2⟩ := QwT.1 e; cases e2; rw [e1]; exact ⟨rfl, rfl⟩
    · obtain ⟨e1, e2⟩ := Y8 e; rw [Qix k e1]; exact ⟨e2, rfl⟩
    · obtain ⟨e1, e2⟩ := Y8 e; rw [Qj1 k e1]; exact ⟨e2, rfl⟩
  | nilCheck x =>
    simp only [aop] at e ⊢
    split at e
    · rename_i hn; rw [Qhr k hn]; cases e; exact ⟨rfl, rfl⟩
    · cases e
  | typeAssert x xt t ok => simp only [aop] at e ⊢; obtain ⟨e1, e2⟩ := Y8 e; rw [e1]; exact ⟨e2, rfl⟩
  | makeFunc f a b => simp only [aop] at e ⊢; cases e; exact ⟨rfl, rfl⟩
  | makeInterface t x =>
    simp only [aop] at e ⊢
    split at e
    · cases e
    · cases e; exact ⟨rfl, rfl⟩
    · cases e
  | slice t x lo hi mx =>
    simp only [aop] at e ⊢
    cases mx with
    | none => simp only at e ⊢; obtain ⟨e1, e2⟩ := Y8 e; rw [Qj3 k e1]; exact ⟨e2, rfl⟩
    | some m => simp [Qcj] at hl
  | fieldAddr t x i => simp only [aop] at e ⊢; obtain ⟨e1, e2⟩ := Y8 e; rw [Qfa k e1]; exact ⟨e2, rfl⟩
  | field t x i => simp only [aop] at e ⊢; obtain ⟨e1, e2⟩ := Y8 e; rw [e1]; exact ⟨e2, rfl⟩
  | indexAddr t x i => simp only [aop] at e ⊢; obtain ⟨e1, e2⟩ := Y8 e; rw [Qfb k e1]; exact ⟨e2, rfl⟩
  | index t x i =>
    simp only [aop] at e ⊢
    split at e
    · obtain ⟨z, e1, e2⟩ := QwT.1 e; cases e2; rw [e1]; exact ⟨rfl, rfl⟩
    · cases e
  | lookup t x y ok => simp only [aop] at e ⊢; obtain ⟨e1, e2⟩ := Y8 e; rw [Qiv k e1]; exact ⟨e2, rfl⟩
  | extract t i => simp only [aop] at e ⊢; obtain ⟨e1, e2⟩ := Y8 e; rw [e1]; exact ⟨e2, rfl⟩
  | call c =>
    obtain ⟨cal, args, tys⟩ := c
    cases cal with
    | builtin b =>
      cases b with
      | len =>
        simp only [aop] at e ⊢
        split at e
        · obtain ⟨e1, e2⟩ := Y8 e; rw [Qnk k e1]; exact ⟨e2, rfl⟩
        · cases e
      | min =>
        simp only [aop] at e ⊢
        split at e
        · obtain ⟨z, e1, e2⟩ := QwT.1 e; cases e2; rw [e1]; exact ⟨rfl, rfl⟩
        · cases e
      | max =>
        simp only [aop] at e ⊢
        split at e
        · obtain ⟨z, e1, e2⟩ := QwT.1 e; cases e2; rw [e1]; exact ⟨rfl, rfl⟩
        · cases e
      | unsafeSliceData =>
        simp only [aop] at e ⊢
        split at e
        · obtain ⟨e1, e2⟩ := Y8 e; rw [e1]; exact ⟨e2, rfl⟩
        · cases e
      | _ => simp [Qcj] at hl
    | _ => simp [Qcj] at hl
  | _ => simp [Qcj] at hl
end
theorem QpK {P : Program} {h : AH} {ev : Operand -> AV} {ty : TypeId} {op : Op} (hl : Qdh op = true) {r : AV} {h1 : AH} (e : aop P ev ty h op = some (r, h1)) : Keep h h1 := by
  cases op with
  | alloc t =>
    simp only [aop] at e
    split at e
    · split at e
      · cases e; exact Keep.app _ _
      · cases e
    · cases e
  | box t x =>
    simp only [aop] at e
    split at e
    · cases e; exact Keep.app _ _
    · cases e
  | buildSlice t n parts =>
    simp only [aop, QW] at e
    split at e
    · split at e
      · split at e
        · cases e; exact Keep.app _ _
        · cases e; exact Keep.refl _
      · cases e
    · cases e
  | slice t x lo hi mx =>
    cases mx with
    | none => simp [Qdh] at hl
    | some m =>
      simp only [aop, Qhs] at e
      split at e
      · split at e
        · cases e; exact Keep.app _ _
        · cases e
      · cases e
  | makeSlice t l n =>
    simp only [aop] at e
    split at e
    · rename_i x hm
      cases e
      unfold QpJ at hm
      repeat' split at hm
      all_goals first
        | (cases hm; exact Keep.app _ _)
        | cases hm
    · unfold Qla at e
      repeat' split at e
      all_goals first
        | (cases e; exact Keep.app _ _)
        | cases e
  | makeMap t r =>
    simp only [aop] at e
    split at e
    · cases e; exact Keep.app _ _
    · split at e
      · cases e; exact Keep.app _ _
      · cases e
    · cases e
  | call c =>
    obtain ⟨cal, args, tys⟩ := c
    cases cal with
    | builtin b =>
      cases b with
      | append =>
        simp only [aop] at e
        split at e
        · unfold Y4 at e
          split at e
          · split at e
            · split at e
              · split at e
                · cases e; exact Keep.app _ _
                · cases e
              · split at e
                · rename_i hb
                  split at e
                  · cases e; exact Keep.QvI hb _
                  · cases e
                · split at e
                  · split at e
                    · cases e; exact Keep.refl _
                    · cases e; exact Keep.app _ _
                  · cases e
                · cases e
              · cases e
            · cases e
          · cases e
        · cases e
      | _ => simp [Qdh] at hl
    | _ => simp [Qdh] at hl
  | _ => simp [Qdh] at hl
def Qir : Op -> Bool
  | .store .. | .mapUpdate .. | .insert .. => true
  | .call c => match c.callee with
    | .builtin .copy | .builtin .unsafeString => true
    | _ => false
  | _ => false
theorem Qnp {P : Program} {h : AH} {ev ev' : Operand -> AV} {ty : TypeId} {op : Op} (he : ∀ x ∈ op.operands, ev x = ev' x) (hl : (Qcj op || Qdh op || Qir op) = true) : aop P ev ty h op = aop P ev' ty h op := by
  have hp : ∀ {α : Type} (parts : Array (α × Operand)), (∀ x ∈ parts.map (·.2), ev x = ev' x) -> (parts.toList.map fun p => (p.1, ev p.2)) = (parts.toList.map fun p => (p.1, ev' p.2)) := fun parts hh => by
    refine QxB fun p hp => ?_
    rw [hh p.2 (QyK.2 ⟨p, QxY.2 hp, rfl⟩)]
  have ha : ∀ (l : Array Operand), (∀ x ∈ l, ev x = ev' x) -> l.toList.map ev = l.toList.map ev' := fun l hh => QxB fun p hp => hh p (QxY.2 hp)
  have ho : ∀ (l : Option Operand), (∀ x, l = some x -> ev x = ev' x) -> l.map ev = l.map ev' := fun l hh => by
    cases l with
    | none => rfl
    | some x => simp [hh x rfl]
  cases op with
  | build t parts => simp only [aop]; rw [hp parts (fun x hx => he x (by simpa [Op.operands] using hx))]
  | buildSlice t n parts => simp only [aop]; rw [hp parts (fun x hx => he x (by simpa [Op.operands] using hx))]
  | makeFunc f a b =>
    simp only [aop]
    rw [ha a (fun x hx => he x (by simp [Op.operands, hx])), ha b (fun x hx => he x (by simp [Op.operands, hx]))]
  | makeMap t r => simp only [aop]; rw [ho r (fun x hx => he x (by simp [Op.operands, hx]))]
  | slice t x l hh m =>
    simp only [aop]
    rw [ho l (fun x hx => he x (by simp [Op.operands, hx])), ho hh (fun x hx => he x (by simp [Op.operands, hx])), he x (by simp [Op.operands])]
    cases m with
    | none => rfl
    | some m => simp only; rw [he m (by simp [Op.operands])]
  | call c =>
    obtain ⟨cal, args, tys⟩ := c
    cases cal with
    | builtin b =>
      have hargs := ha args (fun x hx => he x (by simp [Op.operands, Call.operands, hx]))
      have hone : ∀ x, args.toList = [x] -> ev x = ev' x := fun x hx => he x (by simp [Op.operands, Call.operands, QxY, hx])
      have htwo : ∀ x y, args.toList = [x, y] -> ev x = ev' x /\ ev y = ev' y := fun x y hx => ⟨he x (by simp [Op.operands, Call.operands, QxY, hx]), he y (by simp [Op.operands, Call.operands, QxY, hx])⟩
      cases b with
      | len =>
        simp only [aop]
        split
        · rename_i h1 h2; rw [hone _ h1]
        · rfl
      | append =>
        simp only [aop]
        split
        · rename_i h1 h2; rw [(htwo _ _ h1).1, (htwo _ _ h1).2]
        · rfl
      | min => simp only [aop]; rw [hargs]
      | max => simp only [aop]; rw [hargs]
      | cap =>
        simp only [aop]
        split
        · rename_i h1 h2; rw [hone _ h1]
        · rfl
      | copy =>
        simp only [aop]
        split
        · rename_i h1 h2; rw [(htwo _ _ h1).1, (htwo _ _ h1).2]
        · rfl
      | unsafeString =>
        simp only [aop]
        split
        · rename_i h1 h2; rw [(htwo _ _ h1).1, (htwo _ _ h1).2]
        · rfl
      | unsafeSliceData =>
        simp only [aop]
        split
        · rename_i h1; rw [hone _ h1]
        · rfl
      | clear =>
        simp only [aop]
        split
        · rename_i h1 h2; rw [hone _ h1]
        · rfl
      | _ => rfl
    | _ => simp [Qcj, Qdh, Qir] at hl
  | _ =>
    first
      | (simp [Qcj, Qdh, Qir] at hl; done)
      | (simp [Op.operands] at he; simp only [aop, he]; done)
      | (simp only [aop]; done)
end Go.Proofs.YtenheconhibonaaGreatDoor.Ab
namespace Go.Proofs.YtenheconhibonaaGreatDoor.Ab
theorem Qgr{P:Program}{c:Cx}(hst:St c){t e:TypeId}{n len:Nat}{parts:List (Nat×AV)}{vals:Array (Nat×Value)}{r:AV}{h':AH}(he:Xp P t=some (e,n))(ha:QW P t len parts c.h=some (r,h'))
  (hi:parts.map (·.1)=vals.toList.map (·.1)) (hv:RelL c (parts.map (·.2)) (vals.toList.map (·.2)).toArray) :
  ∃y c',(Instr.buildSlice t len vals).run P c.w = .ok y c'.w/\Ev c c'/\St c'/\c'.h=c.h++[.grow e n (parts.map (·.2)).length]/\Rel c' (.sl n (parts.map (·.2)) (some c.h.length)) y:=by
 unfold QW at ha
 ·obtain⟨hu,hsz⟩:=Yl he
  simp only[he]at ha
  split at ha
  ·rename_i hh
   obtain⟨h1,h2,h3,h4,h5⟩:=hh
   cases hz:XF P e with
   |none=>simp[hz]at h5
   |some z =>
    obtain⟨v,hrun,rfl⟩:=Z6 hz
    simp only[hz,Option.any_some,QwQ,QxL]at h5
    obtain⟨hrl0,hone0⟩:=Qaf (QaM c v) h5.1
    have hvn:v.cells.size=n:=by rw[hrl0.1];exact h5.2
    have hlen:parts.length=len:=by have:=Qxm List.length h1;simpa using this
    have hall:∀x∈parts.map (·.2),x.QuX=true/\x.cells.length=n:=by
     intro x hx
     simp only[Qxa]at hx
     obtain⟨p,hp,rfl⟩:=hx
     simp only[Qxc,QwQ,QxL]at h2
     exact h2 p hp
    -- the zero cells
    let zs:Array Value:=(Array.range (len * n)).map (v.cells[· % v.cells.size]!)
    have hzs:zs.size=len * n:=by simp[zs]
    have hzone:∀x∈zs.toList,x.oneCell'=true:=by
     intro x hx
     simp only[zs,Qxo,QyK]at hx
     obtain⟨i,_,rfl⟩:=hx
     have hlt:i % v.cells.size<v.cells.size:=Nat.mod_lt _ (by omega)
     rw[getElem!_pos v.cells _ hlt]
     exact hone0 _ (by rw[Qxo];exact Qyi hlt)
    have hjunk:RelL c (List.replicate (len * n) AV.junk) zs:=by
     refine⟨by simp[hzs],fun j a u ha hu=>?_⟩
     rw[Qx7]at ha
     split at ha
     ·cases ha;exact .junk u
     ·cases ha
    have hfill:ZR (fun i=>some (i * n,n)) (List.replicate (len * n) AV.junk) parts=some (flat (parts.map (·.2))):=by
     have:=Qdg (n:=n) (parts.map (·.2)) 0 (List.replicate (len * n) AV.junk) hall (by simp[hlen])
     have e:(List.range' 0 (parts.map (·.2)).length).zip (parts.map (·.2))=parts:=by
      rw[Qxj,hlen,<-Qx0,<-h1]
      exact Qba parts
     rw[e]at this
     rw[this]
     simp[hlen]
    obtain⟨cs',hf,hrl,_,hone⟩:=QaV hi hv hfill hjunk hzone
    have hfl:(flat (parts.map (·.2))).length=len * n:=by
     rw[flat_length (fun x hx=>(hall x hx).2)];simp[hlen]
    have hrun':(Instr.buildSlice t len vals).run P c.w = .ok (.slice (some ⟨c.w.heap.size,0,none⟩) len len) (c.w.alloc (.cells cs' e)):=by
     have h3':¬len * n>2 ^ 24:=by omega
     simp only[Instr.buildSlice,Sem.run_bind,underlying,run_program,Result.andThen_ok,hu,Sem.run_pure,hsz,h3',QxC]
     by_cases h0:len * n=0
     ·have hz0:zs=(Array.range (len * n)).map ((#[]:Array Value)[· % (#[]:Array Value).size]!):=by
       apply Array.ext
       ·simp[hzs]
       ·intro i h1 h2;simp[hzs,h0]at h1
      rw[QwN h0]
      simp only[Sem.run_bind,Sem.run_pure,Result.andThen_ok]
      rw[<-hz0,hf]
      rfl
     ·rw[QwJ h0]
      simp only[Sem.run_bind,hrun,Result.andThen_ok,Sem.run_pure]
      rw[hf]
      rfl
    have hmaxl:len<=maxLen:=by
     have:len * 1<=len * n:=Nat.mul_le_mul_left _ h4
     have h24:(2:Nat) ^ 24=16777216:=by decide
     simp only[maxLen];omega
    have hl':(parts.map (·.2)).length=len:=by simp[hlen]
    have hg:=Grows.alloc c.w (.cells cs' e)
    have ho:∀B,some c.w.heap.size=some B->c.w.heap.size<=B:=fun B h=>by cases h;exact QwP _
    have hev:=Ev.add hst hg (.grow e n (parts.map (·.2)).length) (some c.w.heap.size) ho
    have hρ:(c.add (c.w.alloc (.cells cs' e)) (.grow e n (parts.map (·.2)).length) (some c.w.heap.size)).ρ c.h.length=some c.w.heap.size:=by simp[Cx.add]
    have hcs:cs'.size=(parts.map (·.2)).length * n:=by rw[hrl.1,hfl,hl']
    have hst':St (c.add (c.w.alloc (.cells cs' e)) (.grow e n (parts.map (·.2)).length) (some c.w.heap.size)):=by
     refine St.add hst hg _ _ ho ?_
     intro B hB
     rw[hρ]at hB;cases hB
     exact⟨cs',Xb _ _,by omega⟩
    refine⟨_,c.add (c.w.alloc (.cells cs' e)) (.grow e n (parts.map (·.2)).length) (some c.w.heap.size),hrun',hev,hst',rfl,?_⟩
    have:=Z4 (c:=c.add (c.w.alloc (.cells cs' e)) (.grow e n (parts.map (·.2)).length) (some c.w.heap.size)) hst' (b:=c.h.length) (B:=c.w.heap.size) (s:=n) (cap:=(parts.map (·.2)).length) (e:=e) (xs:=parts.map (·.2)) (cur:=cs') (by simp[Cx.add]) hρ (Xb _ _) hcs (QwP _) (by rw[hl'];exact hmaxl) (fun x hx=>(hall x hx).2) (fun j a ha=>by
     have hlt:j<cs'.size:=by rw[hrl.1];exact Qv ha
     exact⟨cs'[j],Qw0 hlt,hone _ (by rw[Qxo];exact Qyi hlt),(hrl.2 j a _ ha (Qw0 hlt)).ev hst hev⟩)
    exact(show Value.slice (some ⟨c.w.heap.size,0,none⟩) (parts.map (·.2)).length (parts.map (·.2)).length=Value.slice (some ⟨c.w.heap.size,0,none⟩) len len by rw[hl'])▸this
  ·cases ha
theorem Qgq{P:Program}{c:Cx}(hst:St c){t e:TypeId}{n len:Nat}{parts:List (Nat×AV)}{vals:Array (Nat×Value)}{r:AV}{h':AH}(he:Xp P t=some (e,n))(ha:QW P t len parts c.h=some (r,h'))
  (hi:parts.map (·.1)=vals.toList.map (·.1)) (hv:RelL c (parts.map (·.2)) (vals.toList.map (·.2)).toArray) :
  ∃y c',(Instr.buildSlice t len vals).run P c.w = .ok y c'.w/\Ev c c'/\St c'/\c'.h=c.h++[.cells e n (parts.map (·.2))]/\Rel c' (.arr c.h.length 0 len) y:=by
 unfold QW at ha
 ·obtain⟨hu,hsz⟩:=Yl he
  simp only[he]at ha
  split at ha
  ·rename_i hh
   obtain⟨h1,h2,h3,h4,h5⟩:=hh
   cases hz:XF P e with
   |none=>simp[hz]at h5
   |some z =>
    obtain⟨v,hrun,rfl⟩:=Z6 hz
    simp only[hz,Option.any_some,QwQ,QxL]at h5
    obtain⟨hrl0,hone0⟩:=Qaf (QaM c v) h5.1
    have hvn:v.cells.size=n:=by rw[hrl0.1];exact h5.2
    have hlen:parts.length=len:=by have:=Qxm List.length h1;simpa using this
    have hall:∀x∈parts.map (·.2),x.QuX=true/\x.cells.length=n:=by
     intro x hx
     simp only[Qxa]at hx
     obtain⟨p,hp,rfl⟩:=hx
     simp only[Qxc,QwQ,QxL]at h2
     exact h2 p hp
    -- the zero cells
    let zs:Array Value:=(Array.range (len * n)).map (v.cells[· % v.cells.size]!)
    have hzs:zs.size=len * n:=by simp[zs]
    have hzone:∀x∈zs.toList,x.oneCell'=true:=by
     intro x hx
     simp only[zs,Qxo,QyK]at hx
     obtain⟨i,_,rfl⟩:=hx
     have hlt:i % v.cells.size<v.cells.size:=Nat.mod_lt _ (by omega)
     rw[getElem!_pos v.cells _ hlt]
     exact hone0 _ (by rw[Qxo];exact Qyi hlt)
    have hjunk:RelL c (List.replicate (len * n) AV.junk) zs:=by
     refine⟨by simp[hzs],fun j a u ha hu=>?_⟩
     rw[Qx7]at ha
     split at ha
     ·cases ha;exact .junk u
     ·cases ha
    have hfill:ZR (fun i=>some (i * n,n)) (List.replicate (len * n) AV.junk) parts=some (flat (parts.map (·.2))):=by
     have:=Qdg (n:=n) (parts.map (·.2)) 0 (List.replicate (len * n) AV.junk) hall (by simp[hlen])
     have e:(List.range' 0 (parts.map (·.2)).length).zip (parts.map (·.2))=parts:=by
      rw[Qxj,hlen,<-Qx0,<-h1]
      exact Qba parts
     rw[e]at this
     rw[this]
     simp[hlen]
    obtain⟨cs',hf,hrl,_,hone⟩:=QaV hi hv hfill hjunk hzone
    have hfl:(flat (parts.map (·.2))).length=len * n:=by
     rw[flat_length (fun x hx=>(hall x hx).2)];simp[hlen]
    have hrun':(Instr.buildSlice t len vals).run P c.w = .ok (.slice (some ⟨c.w.heap.size,0,none⟩) len len) (c.w.alloc (.cells cs' e)):=by
     have h3':¬len * n>2 ^ 24:=by omega
     simp only[Instr.buildSlice,Sem.run_bind,underlying,run_program,Result.andThen_ok,hu,Sem.run_pure,hsz,h3',QxC]
     by_cases h0:len * n=0
     ·have hz0:zs=(Array.range (len * n)).map ((#[]:Array Value)[· % (#[]:Array Value).size]!):=by
       apply Array.ext
       ·simp[hzs]
       ·intro i h1 h2;simp[hzs,h0]at h1
      rw[QwN h0]
      simp only[Sem.run_bind,Sem.run_pure,Result.andThen_ok]
      rw[<-hz0,hf]
      rfl
     ·rw[QwJ h0]
      simp only[Sem.run_bind,hrun,Result.andThen_ok,Sem.run_pure]
      rw[hf]
      rfl
    have hmaxl:len<=maxLen:=by
     have:len * 1<=len * n:=Nat.mul_le_mul_left _ h4
     have h24:(2:Nat) ^ 24=16777216:=by decide
     simp only[maxLen];omega
    have hl':(parts.map (·.2)).length=len:=by simp[hlen]
    have hg:=Grows.alloc c.w (.cells cs' e)
    have ho:∀B,some c.w.heap.size=some B->c.w.heap.size<=B:=fun B h=>by cases h;exact QwP _
    have hev:=Ev.add hst hg (.cells e n (parts.map (·.2))) (some c.w.heap.size) ho
    have hρ:(c.add (c.w.alloc (.cells cs' e)) (.cells e n (parts.map (·.2))) (some c.w.heap.size)).ρ c.h.length=some c.w.heap.size:=by simp[Cx.add]
    have hst':St (c.add (c.w.alloc (.cells cs' e)) (.cells e n (parts.map (·.2))) (some c.w.heap.size)):=by
     refine St.add hst hg _ _ ho ?_
     exact⟨c.w.heap.size,cs',hρ,Xb _ _,fun x hx=>(hall x hx).2,fun j a ha=>by
      have hlt:j<cs'.size:=by rw[hrl.1];exact Qv ha
      exact⟨cs'[j],Qw0 hlt,hone _ (by rw[Qxo];exact Qyi hlt),(hrl.2 j a _ ha (Qw0 hlt)).ev hst hev⟩⟩
    refine⟨_,c.add (c.w.alloc (.cells cs' e)) (.cells e n (parts.map (·.2))) (some c.w.heap.size),hrun',hev,hst',rfl,?_⟩
    refine Rel.arr _ 0 len _ (by simp[Cx.add]) rfl fun ty s xs hb=>?_
    have hb':some (AB.cells e n (parts.map (·.2)))=some (.cells ty s xs):=by rw[<-hb];simp[Cx.add]
    cases hb'
    exact⟨c.w.heap.size,len,hρ,by rw[QxW],QwP _,hmaxl,cs',Xb _ _,by rw[hrl.1,hfl,Qv1];exact QwP _⟩
  ·cases ha
theorem QgH{P:Program}{N:Nat}{base:Bs×Fence}{o:Oper}{s:AS}{t:TypeId}{len:Nat}{ps:Array (Nat×Operand)}{e:TypeId}{m:Nat}(hop:o.op = .buildSlice t len ps)(he:Xp P t=some (e,m)){K:AS->Prop}
  (ha:(QW P t len (ps.toList.map fun p=>(p.1,s.ev p.2)) s.h).isSome=true)
  (H:K (AS.put N {s with h:=s.h++[.cells e m (ps.toList.map fun p=>s.ev p.2)]} o.dst (.arr s.h.length 0 len))) {F:Fence} {n:Nat} {c:Cx} {a:Act} (hF:WF F) (hst:St c) (hr:SR N base c s a)
  {next:Act->World->Prop} {Qx:Exit->Act->World->Prop} (hK:∀s' c' a',K s'->Ev c c'->St c'->SR N base c' s' a'->next a' c'.w):o.wpIn F n P a c.w next Qx:=by
 have hev:∀x,Rel c (s.ev x) (a.eval x):=hr.eval
 refine⟨fun f _=>hF.fn f,?_⟩
 rw[Oper.semAt_eq _ _ _ (fun q=>by rw[hop];intro h;cases h)]
 obtain⟨⟨r,h'⟩,ha⟩:=Qyj.1 ha
 rw[<-hr.h]at ha
 obtain⟨h1,h2⟩:=QcK hev ps
 obtain⟨y,c',hrun,h3,h4,h5,h6⟩:=Qgq hst he ha h1 h2
 have hrun':(execOp a.eval o).run P c.w = .ok (.value y) c'.w:=by
  simp only[execOp,hop,Sem.run_bind,hrun,Result.andThen_ok,Sem.run_pure]
 rw[hrun']
 have e1:(ps.toList.map fun p=>(p.1,s.ev p.2)).map (·.2)=ps.toList.map fun p=>s.ev p.2:=by rw[QxV];rfl
 rw[e1]at h5
 have hp:=hr.put hst h3 o.dst h6
 rw[h5,hr.h]at hp
 exact hK _ c' _ H h3 h4 hp
theorem Qm9{P:Program}{N:Nat}{base:Bs×Fence}{o:Oper}{s:AS}{t:TypeId}{len:Nat}{ps:Array (Nat×Operand)}{e:TypeId}{m:Nat}(hop:o.op = .buildSlice t len ps)(he:Xp P t=some (e,m)){K:AS->Prop}
  (ha:(QW P t len (ps.toList.map fun p=>(p.1,s.ev p.2)) s.h).isSome=true)
  (H:K (AS.put N {s with h:=s.h++[.grow e m (ps.toList.map fun p=>s.ev p.2).length]} o.dst (.sl m (ps.toList.map fun p=>s.ev p.2) (some s.h.length)))) {F:Fence} {n:Nat} {c:Cx} {a:Act} (hF:WF F) (hst:St c) (hr:SR N base c s a)
  {next:Act->World->Prop} {Qx:Exit->Act->World->Prop} (hK:∀s' c' a',K s'->Ev c c'->St c'->SR N base c' s' a'->next a' c'.w):o.wpIn F n P a c.w next Qx:=by
 have hev:∀x,Rel c (s.ev x) (a.eval x):=hr.eval
 refine⟨fun f _=>hF.fn f,?_⟩
 rw[Oper.semAt_eq _ _ _ (fun q=>by rw[hop];intro h;cases h)]
 obtain⟨⟨r,h'⟩,ha⟩:=Qyj.1 ha
 rw[<-hr.h]at ha
 obtain⟨h1,h2⟩:=QcK hev ps
 obtain⟨y,c',hrun,h3,h4,h5,h6⟩:=Qgr hst he ha h1 h2
 have hrun':(execOp a.eval o).run P c.w = .ok (.value y) c'.w:=by
  simp only[execOp,hop,Sem.run_bind,hrun,Result.andThen_ok,Sem.run_pure]
 rw[hrun']
 have e1:(ps.toList.map fun p=>(p.1,s.ev p.2)).map (·.2)=ps.toList.map fun p=>s.ev p.2:=by rw[QxV];rfl
 rw[e1]at h5 h6
 have hp:=hr.put hst h3 o.dst h6
 rw[h5,hr.h]at hp
 exact hK _ c' _ H h3 h4 hp
def tokA(c:Nat)(P:Program)(ev:Operand->AV)(h:AH)(op:Op):Option (AV×AH):=match op with
 | .buildSlice t len ps=>(match Xp P t with
  |some (e,n)=>if (QW P t len (ps.toList.map fun p=>(p.1,ev p.2)) h).isSome=true then(if c=5 then some (.sl n (ps.toList.map fun p=>ev p.2) (some h.length),h++[.grow e n (ps.toList.map fun p=>ev p.2).length])else some (.arr h.length 0 len,h++[.cells e n (ps.toList.map fun p=>ev p.2)]))else none
  |none=>none)
 |_=>none
theorem Qpl{c:Nat}{P:Program}{ev:Operand->AV}{h h':AH}{op:Op}{r:AV}(e:tokA c P ev h op=some (r,h')):Keep h h':=by
 unfold tokA at e
 split at e
 ·split at e
  ·split at e
   ·split at e
    ·cases e;exact Keep.app _ _
    ·cases e;exact Keep.app _ _
   ·cases e
  ·cases e
 ·cases e
theorem Qm7{c:Nat}{P:Program}{h:AH}{ev ev':Operand->AV}{op:Op}(he:∀x∈op.operands,ev x=ev' x):tokA c P ev h op=tokA c P ev' h op:=by
 cases op with
 |buildSlice t len ps =>
  have h1:∀p∈ps.toList,ev p.2=ev' p.2:=fun p hp=>he p.2 (by simp only[Op.operands,List.mem_toArray,Qxa];exact⟨p,hp,rfl⟩)
  have e1:(ps.toList.map fun p=>(p.1,ev p.2))=ps.toList.map fun p=>(p.1,ev' p.2):=QxB fun p hp=>by rw[h1 p hp]
  have e2:(ps.toList.map fun p=>ev p.2)=ps.toList.map fun p=>ev' p.2:=QxB fun p hp=>h1 p hp
  simp only[tokA,e1,e2]
 |_=>rfl
theorem Qhj{k:Nat}{P:Program}{N:Nat}{base:Bs×Fence}{o:Oper}{s:AS}{r:AV}{h':AH}(ha:tokA k P s.ev s.h o.op=some (r,h')){K:AS->Prop}(H:K (AS.put N {s with h:=h'} o.dst r)){F:Fence}{n:Nat}{c:Cx}{a:Act}(hF:WF F)(hst:St c)(hr:SR N base c s a)
  {next:Act->World->Prop} {Qx:Exit->Act->World->Prop} (hK:∀s' c' a',K s'->Ev c c'->St c'->SR N base c' s' a'->next a' c'.w):o.wpIn F n P a c.w next Qx:=by
 unfold tokA at ha
 split at ha
 ·rename_i t len ps hop
  split at ha
  ·rename_i e m he
   split at ha
   ·rename_i hs
    split at ha
    ·cases ha
     exact Qm9 hop he hs H hF hst hr hK
    ·cases ha
     exact QgH hop he hs H hF hst hr hK
   ·cases ha
  ·cases ha
 ·cases ha
end Go.Proofs.YtenheconhibonaaGreatDoor.Ab
namespace Go.Proofs.YtenheconhibonaaGreatDoor.Ab
inductive Anc (ops:Array Oper):Nat->Nat->Prop
 |edge (j:Nat) (o:Oper) (e:Edge) (ho:ops[j]? = some o) (he:e∈o.after) (hb:Region.binds .any e=true):Anc ops e.on j
 |trans {i j k:Nat}:Anc ops i j->Anc ops j k->Anc ops i k
def Qq2(acc:List Nat)(o:Oper):Nat:=o.after.toList.foldl (fun s e=>if Region.binds .any e then s ||| 2 ^ e.on ||| acc.getD e.on 0 else s) 0
def masks:List Oper->List Nat->List Nat
 |[],acc=>acc
 |o::l,acc=>masks l (acc++[Qq2 acc o])
theorem QkE{ops:Array Oper}{acc:List Nat}{o:Oper}{j:Nat}(ho:ops[j]? = some o)(hacc:∀(k i:Nat),(acc.getD k 0).testBit i=true->Anc ops i k){i:Nat}(h:(Qq2 acc o).testBit i=true):Anc ops i j:=by
 have go:∀(l:List Edge) (s:Nat),(∀e∈l,e∈o.after)->(∀i,s.testBit i=true->Anc ops i j)->∀i,(l.foldl (fun s e=>if Region.binds .any e then s ||| 2 ^ e.on ||| acc.getD e.on 0 else s) s).testBit i=true->Anc ops i j:=by
  intro l
  induction l with
  |nil=>intro s _ hs i hi;exact hs i hi
  |cons e l ih =>
   intro s hl hs i hi
   refine ih _ (fun e he=>hl e (by simp[he])) ?_ i hi
   intro i hi
   dsimp only at hi
   split at hi
   ·rename_i hb
    have hedge:=Anc.edge j o e ho (hl e (by simp)) hb
    simp only[Nat.testBit_or,Qxx]at hi
    rcases hi with(hi|hi)|hi
    ·exact hs i hi
    ·rw[Nat.testBit_two_pow]at hi
     have:e.on=i:=by simpa using hi
     exact this▸hedge
    ·exact(hacc _ _ hi).trans hedge
   ·exact hs i hi
 exact go _ 0 (fun e he=>QxY.2 he) (fun i hi=>by simp at hi) i h
theorem QbE{ops:Array Oper}:∀(l:List Oper) (acc:List Nat),(∀(j:Nat) o,l[j]? = some o->ops[acc.length+j]? = some o)->(∀(k i:Nat),(acc.getD k 0).testBit i=true->Anc ops i k) ->
  ∀(k i:Nat),((masks l acc).getD k 0).testBit i=true->Anc ops i k
 |[],acc,_,h=>h
 |o::l,acc,hl,h=>by
  refine QbE l _ (fun j o' hj=>?_) ?_
  ·have:=hl (j+1) o' (by simpa using hj)
   simpa [Qx2,QyM 1 j]using this
  ·intro k i hk
   simp only[Qxe]at hk
   by_cases hlt:k<acc.length
   ·rw[QwI hlt,<-Qxe]at hk;exact h k i hk
   ·by_cases heq:k=acc.length
    ·subst heq
     rw[QwO (QwP _)]at hk
     simp only[Qxy,QvP,Qyo]at hk
     exact QkE (by simpa using hl 0 o (by simp)) h hk
    ·rw[Qxp (by simp;omega)]at hk
     simp at hk
def Down(ops:Array Oper)(S:Nat->Bool):Prop:=∀(j:Nat) o,ops[j]? = some o->S j=true->∀e∈o.after,Region.binds .any e=true->S e.on=true
theorem Down.anc{ops:Array Oper}{S:Nat->Bool}(h:Down ops S){i j:Nat}(ha:Anc ops i j):S j=true->S i=true:=by
 induction ha with
 |edge j o e ho he hb=>exact fun hj=>h j o ho hj e he hb
 |trans _ _ ih1 ih2=>exact fun hk=>ih1 (ih2 hk)
def tmpsOf(l:List Operand):List Nat:=l.filterMap fun | .tmp t=>some t|_=>none
def readsOf(ops:Array Oper)(o:Oper):List Nat:=tmpsOf o.op.operands.toList++match o.guard with
 |some (j,_)=>((ops[j]?).bind (·.dst)).toList
 |none=>[]
def clash(ops:Array Oper)(a b:Oper)(ca cb:Nat):Bool :=
 (match a.dst with|some d=>(readsOf ops b).contains d||b.dst==some d|none=>false)||(match b.dst with|some d=>(readsOf ops a).contains d|none=>false) ||
 (decide (2<=ca)&&cb != 1)||(ca != 1&&decide (2<=cb)&&!((Qdh b.op&&cb != 4)||cb==3))
def Qf5(ops:Array Oper)(ms:List Nat):List (Nat×Nat)->Bool
 |[]=>true
 |(i,ci)::l=>(l.all fun p=>match ops[i]?,ops[p.1]? with
   |some a,some b=>!clash ops a b ci p.2||(ms.getD p.1 0).testBit i
   |_,_=>false)&&Qf5 ops ms l
def topo(ops:Array Oper):List Nat->List (Nat×Nat)->Bool
 |_,[]=>true
 |pre,(i,_)::l=>(match ops[i]? with
  |some o=>o.after.toList.all fun e=>!Region.binds .any e||pre.contains e.on
  |none=>false)&&topo ops (i::pre) l
def Qc1(o:Oper):Bool:=match o.op with
 | .call c=>match c.callee with | .value _=>true|_=>false
 |_=>false
def kindOk(o:Oper)(c:Nat):Bool :=
 Qc1 o||(Qcj o.op&&decide (c<2))||((c==2||c==4||c==5||c==6)&&(Qdh o.op||Qir o.op))
def QmJ:List Nat->Bool
 |[]=>true
 |x::l=>!l.contains x&&QmJ l
def Qrl(ops:Array Oper)(π:List (Nat×Nat)):Bool :=
 π.length==ops.size&&Qf5 ops (masks ops.toList []) π&&topo ops [] π&&QmJ (π.map (·.1))&&((List.range ops.size).all fun i=>(π.map (·.1)).contains i) &&
 π.all fun p=>match ops[p.1]? with|some o=>kindOk o p.2|none=>false
def StepA(P:Program)(ops:Array Oper)(tm:Nat->AV)(h:AH)(c:Nat)(o:Oper)(r:AV)(h':AH):Prop :=
 match Qk ops tm o with
 |some false=>r = .v undef/\h'=h
 |some true =>
  match o.op with
  | .call ⟨.value f,args,tys⟩=>if 2<=c then FunW P (AS.ev ⟨tm,[]⟩ f) (args.toList.map (AS.ev ⟨tm,[]⟩)) h (fun out h''=>out = .ret r/\h''=h')/\(c=3->Keep h h')else(∀hx,(c=0->Keep h hx)->FunW P (AS.ev ⟨tm,[]⟩ f) (args.toList.map (AS.ev ⟨tm,[]⟩)) hx fun out h''=>out = .ret r/\h''=hx)/\h'=h
  |op=>if c=1 then(∃h1,aop P (AS.ev ⟨tm,[]⟩) o.type [] op=some (r,h1))/\h'=h else aop P (AS.ev ⟨tm,[]⟩) o.type h op=some (r,h')\/(c=4/\aop P (AS.ev ⟨tm,[]⟩) o.type h op=none/\aopR P (AS.ev ⟨tm,[]⟩) h op=some (r,h'))\/(5<=c/\tokA c P (AS.ev ⟨tm,[]⟩) h op=some (r,h'))
 |none=>False
theorem Ql8{P:Program}{h:AH}{ev ev':Operand->AV}{op:Op}(he:∀x∈op.operands,ev x=ev' x):aopR P ev h op=aopR P ev' h op:=by
 cases op with
 |call c =>
  obtain⟨cal,args,tys⟩:=c
  cases cal with
  |builtin b =>
   have htwo:∀x y,args.toList=[x,y]->ev x=ev' x/\ev y=ev' y:=fun x y hx=>⟨he x (by simp[Op.operands,Call.operands,QxY,hx]),he y (by simp[Op.operands,Call.operands,QxY,hx])⟩
   cases b with
   |append =>
    simp only[aopR]
    split
    ·rename_i h1 h2;rw[(htwo _ _ h1).1,(htwo _ _ h1).2]
    ·rfl
   |_=>rfl
  |_=>rfl
 |_=>rfl
theorem Qno{P:Program}{h:AH}{ev:Operand->AV}{op:Op}{x:AV×AH}(e:aopR P ev h op=some x):∃args tys,op = .call ⟨.builtin .append,args,tys⟩:=by
 cases op with
 |call c =>
  obtain⟨cal,args,tys⟩:=c
  cases cal with
  |builtin b =>
   cases b with
   |append=>exact⟨args,tys,rfl⟩
   |_=>simp[aopR]at e
  |_=>simp[aopR]at e
 |_=>simp[aopR]at e
theorem Qb2(tm:Nat->AV)(h h':AH)(x:Operand):AS.ev ⟨tm,h⟩ x=AS.ev ⟨tm,h'⟩ x:=by cases x <;> rfl
theorem Qdk{ops:Array Oper}{tm tm':Nat->AV}{o:Oper}(h:∀t∈readsOf ops o,tm t=tm' t):Qk ops tm o=Qk ops tm' o:=by
 unfold Qk
 cases hg:o.guard with
 |none=>rfl
 |some jw =>
  obtain⟨j,want⟩:=jw
  simp only
  cases hd:(ops[j]?).bind (·.dst)with
  |none=>rfl
  |some d =>
   have:tm d=tm' d:=h d (by unfold readsOf;rw[hg];simp[hd])
   simp only[this]
theorem Qdn{ops:Array Oper}{tm tm':Nat->AV}{o:Oper}(h:∀t∈readsOf ops o,tm t=tm' t):∀x∈o.op.operands,AS.ev ⟨tm,[]⟩ x=AS.ev ⟨tm',[]⟩ x:=by
 intro x hx
 cases x with
 |tmp t=>exact h t (by unfold readsOf tmpsOf;exact QxM _ (List.mem_filterMap.2 ⟨.tmp t,QxY.1 hx,rfl⟩))
 |_=>rfl
theorem Qc7{o:Oper}(h:Qc1 o=true):∃f args tys,o.op = .call ⟨.value f,args,tys⟩:=by
 unfold Qc1 at h
 cases ho:o.op with
 |call c =>
  obtain⟨cal,args,tys⟩:=c
  cases cal with
  |value f=>exact⟨f,args,tys,rfl⟩
  |_=>simp[ho]at h
 |_=>simp[ho]at h
theorem StepA.turn{P:Program}{ops:Array Oper}{tm tm':Nat->AV}{h h2 h':AH}{c:Nat}{o:Oper}{r:AV}(hs:StepA P ops tm h c o r h')(hk:kindOk o c=true)(ht:∀t∈readsOf ops o,tm' t=tm t)
  (hh:(2<=c/\h2=h)\/(c<2/\(c=1\/Keep h h2))) (N:Nat) :
  (Qk ops tm' o=some false/\r = .v undef/\(if 2<=c then h' else h2)=h2) \/
  (Qk ops tm' o=some true/\((∀(K:AS->Prop) (E:AV->AS->Prop),K (AS.put N ⟨tm',if 2<=c then h' else h2⟩ o.dst r)->OpW P N o ⟨tm',h2⟩ K E)\/tokA c P (AS.ev ⟨tm',h2⟩) h2 o.op=some (r,if 2<=c then h' else h2))):=by
 unfold StepA at hs
 rw[Qdk ht]
 split at hs
 ·rename_i hw
  obtain⟨rfl,rfl⟩:=hs
  refine .inl ⟨hw,rfl,?_⟩
  rcases hh with⟨_,rfl⟩|⟨hc,_⟩
  ·simp
  ·rw[QwJ (by omega)]
 ·rename_i hw
  refine .inr ⟨hw,?_⟩
  split at hs
  ·rename_i f args tys hop
   refine .inl fun K E hK=>?_
   unfold OpW
   simp only[hop]
   have hev:=Qdn ht
   rw[hop]at hev
   have h1:AS.ev ⟨tm',h2⟩ f=AS.ev ⟨tm,[]⟩ f:=(Qb2 _ _ _ _).trans (hev f (by simp[Op.operands,Call.operands]))
   have h2':args.toList.map (AS.ev ⟨tm',h2⟩)=args.toList.map (AS.ev ⟨tm,[]⟩):=QxB fun x hx=>(Qb2 _ _ _ _).trans (hev x (by simp[Op.operands,Call.operands,QxY,hx]))
   rw[h1,h2']
   by_cases hc:2<=c
   ·rw[QwN hc]at hs hK
    rcases hh with⟨_,rfl⟩|⟨hc',_⟩
    ·exact hs.1.mono fun out h'' ⟨e1,e2⟩=>by subst e1;subst e2;exact hK
    ·omega
   ·rw[QwJ hc]at hs hK
    refine(hs.1 h2 fun h0=>?_).mono fun out h'' ⟨e1,e2⟩=>by subst e1;subst e2;exact hK
    rcases hh with⟨hc',_⟩|⟨_,h1|h1⟩
    ·omega
    ·omega
    ·exact h1
  ·rename_i op hnc
   have hcall:Qc1 o=false:=by
    cases hc:Qc1 o with
    |false=>rfl
    |true=>obtain⟨f,args,tys,e⟩:=Qc7 hc;exact(hnc _ _ _ e).elim
   simp only[kindOk,hcall,QyG,Qxx,QwQ]at hk
   have hcongr:∀hx,aop P (AS.ev ⟨tm',h2⟩) o.type hx o.op=aop P (AS.ev ⟨tm,[]⟩) o.type hx o.op:=fun hx=>by
    refine Qnp (fun x hx=>(Qb2 _ _ _ _).trans (Qdn ht x hx)) ?_
    rcases hk with⟨h1,_⟩|⟨_,h1|h1⟩
    ·simp[h1]
    ·simp[h1]
    ·simp[h1]
   by_cases hT:5<=c/\tokA c P (AS.ev ⟨tm,[]⟩) h o.op=some (r,h')
   ·obtain⟨h5,hT⟩:=hT
    rcases hh with⟨_,rfl⟩|⟨hc',_⟩
    ·refine .inr ?_
     rw[QwN (by omega)]
     exact(Qm7 (fun x hx=>(Qb2 _ _ _ _).trans (Qdn ht x hx))).trans hT
    ·omega
   refine .inl fun K E hK=>?_
   by_cases hR:c=4/\aop P (AS.ev ⟨tm,[]⟩) o.type h o.op=none/\aopR P (AS.ev ⟨tm,[]⟩) h o.op=some (r,h')
   ·obtain⟨rfl,hn,hR⟩:=hR
    rcases hh with⟨_,rfl⟩|⟨hc',_⟩
    ·obtain⟨args,tys,hop⟩:=Qno hR
     have hR':aopR P (AS.ev ⟨tm',h2⟩) h2 o.op=some (r,h'):=(Ql8 (fun x hx=>(Qb2 _ _ _ _).trans (Qdn ht x hx))).trans hR
     have hn':aop P (AS.ev ⟨tm',h2⟩) o.type h2 o.op=none:=(hcongr h2).trans hn
     rw[QwN (by omega)]at hK
     unfold OpW
     rw[hop]at hR' hn' ⊢
     simp only[hR',hn']
     exact hK
    ·omega
   replace hs:if c=1 then(∃h1,aop P (AS.ev ⟨tm,[]⟩) o.type [] o.op=some (r,h1))/\h'=h else aop P (AS.ev ⟨tm,[]⟩) o.type h o.op=some (r,h'):=by
    by_cases hc1:c=1
    ·rw[QwN hc1]at hs ⊢;exact hs
    ·rw[QwJ hc1]at hs ⊢
     exact hs.resolve_right fun q=>q.elim hR hT
   -- what it is over the heap at hand
   have key:aop P (AS.ev ⟨tm',h2⟩) o.type h2 o.op=some (r,if 2<=c then h' else h2):=by
    rw[hcongr]
    rcases hh with⟨hc,rfl⟩|⟨hc,hh⟩
    ·rw[QwJ (by omega)]at hs
     rw[QwN hc];exact hs
    ·have hl:Qcj o.op=true:=by
      rcases hk with⟨h1,_⟩|⟨h1,_⟩
      ·exact h1
      ·simp at h1;omega
     rw[QwJ (by omega)]
     by_cases hc1:c=1
     ·rw[QwN hc1]at hs
      obtain⟨⟨h1,hs⟩,_⟩:=hs
      exact(Qht (Keep.nil h2) hl hs).2
     ·rw[QwJ hc1]at hs
      rcases hh with hh|hh
      ·exact(hc1 hh).elim
      ·exact(Qht hh hl hs).2
   unfold OpW
   split
   ·rename_i t ps hop
    rw[hop]at key
    simp only[aop]at key
    have key0:=key
    unfold QW at key
    cases he:Xp P t with
    |none=>simp[he]at key
    |some en =>
     obtain⟨e,n⟩:=en
     simp only[he,QxP]at key
     split at key
     ·rename_i hcond
      have hps:ps.toList=[]:=by
       have:=Qxm List.length hcond.1
       simpa using this
      simp only[QvV,Qye]at key
      obtain⟨e1,e2⟩:=key
      simp only[hps,Qv8]at key0 ⊢
      rw[<-e2]at hK key0
      rw[<-e1]at hK key0
      exact⟨key0,.inl hK⟩
     ·cases key
   ·rename_i q hop
    obtain⟨cal,args,tys⟩:=q
    cases cal with
    |value f=>simp[Qc1,hop]at hcall
    |_=>simp only[key];exact hK
   ·rename_i x hop
    rw[hop]at key;simp[aop]at key
   ·rw[key];exact hK
 ·exact hs.elim
structure Tr where
 i:Nat
 c:Nat
 o:Oper
 r:AV
 h':AH
def putT(N:Nat)(tm:Nat->AV)(d:Option Tmp)(r:AV):Nat->AV:=match d with
 |some d=>if d<N then upd tm d r else tm
 |none=>tm
theorem put_eq(N:Nat)(tm:Nat->AV)(h:AH)(d:Option Tmp)(r:AV):AS.put N ⟨tm,h⟩ d r=⟨putT N tm d r,h⟩:=by
 cases d with
 |none=>rfl
 |some d=>simp only[AS.put,putT];split <;> rfl
theorem Qec{N:Nat}{tm:Nat->AV}{d:Option Tmp}{r:AV}{x:Nat}(h:d≠some x):putT N tm d r x=tm x:=by
 cases d with
 |none=>rfl
 |some d =>
  simp only[putT]
  split
  ·rw[upd_ne];intro e;exact h (by rw[e])
  ·rfl
theorem Qeb{N:Nat}{tm tm':Nat->AV}{d:Option Tmp}{r:AV}{x:Nat}(h:d≠some x->tm x=tm' x)(h':tm x=tm' x\/x<N):putT N tm d r x=putT N tm' d r x:=by
 cases d with
 |none=>exact h (by simp)
 |some d =>
  simp only[putT]
  by_cases hx:x=d
  ·subst hx
   split
   ·simp
   ·rename_i hn
    rcases h' with h'|h'
    ·exact h'
    ·exact(hn h').elim
  ·have:=h (by intro e;cases e;exact hx rfl)
   split
   ·rw[upd_ne _ _ hx,upd_ne _ _ hx];exact this
   ·exact this
def tmS(N:Nat)(S:Nat->Bool):List Tr->(Nat->AV)->(Nat->AV)
 |[],f=>f
 |t::l,f=>tmS N S l (if S t.i then putT N f t.o.dst t.r else f)
def hS(S:Nat->Bool):List Tr->AH->AH
 |[],h=>h
 |t::l,h=>hS S l (if S t.i&&decide (2<=t.c)then t.h' else h)
theorem Qa8(N:Nat)(S:Nat->Bool):∀(l m:List Tr) (f:Nat->AV),tmS N S (l++m) f=tmS N S m (tmS N S l f)
 |[],m,f=>rfl
 |t::l,m,f=>Qa8 N S l m _
theorem QbA(S:Nat->Bool):∀(l m:List Tr) (f:AH),hS S (l++m) f=hS S m (hS S l f)
 |[],m,f=>rfl
 |t::l,m,f=>QbA S l m _
theorem ZQ{N:Nat}{S:Nat->Bool}{x:Nat}:∀{l:List Tr} {f:Nat->AV},(∀t∈l,S t.i=true->t.o.dst≠some x)->tmS N S l f x=f x
 |[],f,h=>rfl
 |t::l,f,h=>by
  simp only[tmS]
  rw[ZQ (fun t ht=>h t (by simp[ht]))]
  split
  ·rename_i hs;exact Qec (h t (by simp) hs)
  ·rfl
theorem Qax{N:Nat}{S S':Nat->Bool}{x:Nat}:∀{l:List Tr} {f f':Nat->AV},f x=f' x->(∀t∈l,t.o.dst=some x->S t.i=S' t.i)->tmS N S l f x=tmS N S' l f' x
 |[],f,f',hf,h=>hf
 |t::l,f,f',hf,h=>by
  simp only[tmS]
  refine Qax ?_ (fun t ht=>h t (by simp[ht]))
  by_cases hd:t.o.dst=some x
  ·rw[h t (by simp) hd]
   split
   ·exact Qeb (fun _=>hf) (.inl hf)
   ·exact hf
  ·have e1:∀(b:Bool) (g:Nat->AV),(if b=true then putT N g t.o.dst t.r else g) x=g x:=fun b g=>by
    split
    ·exact Qec hd
    ·rfl
   rw[e1,e1];exact hf
theorem Qbn{S S':Nat->Bool}:∀{l:List Tr} {f:AH},(∀t∈l,2<=t.c->S t.i=S' t.i)->hS S l f=hS S' l f
 |[],f,h=>rfl
 |t::l,f,h=>by
  simp only[hS]
  by_cases hc:2<=t.c
  ·rw[h t (by simp) hc];exact Qbn fun t ht=>h t (by simp[ht])
  ·have:(decide (2<=t.c))=false:=by simpa using hc
   rw[this,QyA,QyA];exact Qbn fun t ht=>h t (by simp[ht])
theorem Qa3{S:Nat->Bool}:∀{l:List Tr} {f:AH},(∀t∈l,2<=t.c->S t.i=false)->hS S l f=f
 |[],f,h=>rfl
 |t::l,f,h=>by
  simp only[hS]
  have:(S t.i&&decide (2<=t.c))=false:=by
   by_cases hc:2<=t.c
   ·rw[h t (by simp) hc];rfl
   ·have:(decide (2<=t.c))=false:=by simpa using hc
    rw[this,QyA]
  rw[this]
  exact Qa3 fun t ht=>h t (by simp[ht])
inductive Runs (P:Program) (N:Nat) (ops:Array Oper):List Tr->(Nat->AV)->AH->Prop
 |nil (tm:Nat->AV) (h:AH):Runs P N ops [] tm h
 |cons (t:Tr) (l:List Tr) (tm:Nat->AV) (h:AH) (ho:ops[t.i]? = some t.o) (hk:kindOk t.o t.c=true) (hs:StepA P ops tm h t.c t.o t.r t.h') (hl:Runs P N ops l (putT N tm t.o.dst t.r) (if 2<=t.c then t.h' else h)):Runs P N ops (t::l) tm h
theorem Runs.split{P:Program}{N:Nat}{ops:Array Oper}:∀{l m:List Tr} {tm:Nat->AV} {h:AH},Runs P N ops (l++m) tm h->Runs P N ops m (tmS N (fun _=>true) l tm) (hS (fun _=>true) l h)
 |[],m,tm,h,H=>H
 |t::l,m,tm,h,H=>by
  cases H with
  |cons t l tm h ho hk hs hl =>
   have:=Runs.split hl
   simp only[tmS,hS,QxP,Qwz,Qw1]
   exact this
theorem Runs.keep{P:Program}{N:Nat}{ops:Array Oper}{S:Nat->Bool}:∀{l:List Tr} {tm:Nat->AV} {h:AH},Runs P N ops l tm h->(∀t∈l,2<=t.c->S t.i=true->((Qdh t.o.op&&t.c != 4)||t.c==3)=true) ->
  l.Pairwise (fun a b=>2<=a.c->2<=b.c->S b.i=true->S a.i=true)->Keep h (hS S l h)
 |[],tm,h,H,_,_=>Keep.refl h
 |t::l,tm,h,H,ha,hp=>by
  cases H with
  |cons t l tm h ho hk hs hl =>
   simp only[hS]
   obtain⟨hp1,hp2⟩:=Qys.1 hp
   by_cases hc:2<=t.c
   ·cases hS':S t.i with
    |true =>
     simp only[hc,Qwl,Qwb,QxP]
     rw[QwN hc]at hl
     refine Keep.trans ?_ (Runs.keep hl (fun t ht=>ha t (by simp[ht])) hp2)
     have hadd:=ha t (by simp) hc hS'
     unfold StepA at hs
     split at hs
     ·rw[hs.2];exact Keep.refl _
     ·split at hs
      ·rename_i f args tys hop
       rw[QwN hc]at hs
       refine hs.2 ?_
       rw[hop]at hadd
       simpa [Qdh]using hadd
      ·rename_i op hnc
       rw[QwJ (by omega)]at hs
       have hcall:Qc1 t.o=false:=by
        cases hc:Qc1 t.o with
        |false=>rfl
        |true=>obtain⟨f,args,tys,e⟩:=Qc7 hc;exact(hnc _ _ _ e).elim
       simp only[kindOk,hcall,QyG,Qxx,QwQ,Qw1,QxL]at hk
       have h3:t.c≠3:=by
        rcases hk with⟨_,h⟩|⟨h,_⟩
        ·omega
        ·omega
       simp only[Qxx,QwQ,bne_iff_ne,ne_eq,QxL]at hadd
       rcases hadd with⟨hadd,h4⟩|hadd
       ·rcases hs with hs|⟨hs,_⟩|⟨_,hs⟩
        ·exact QpK hadd hs
        ·exact(h4 hs).elim
        ·exact Qpl hs
       ·exact(h3 hadd).elim
     ·exact hs.elim
    |false =>
     simp only[Qx4,QvT,QxC]
     rw[Qa3 (fun t' ht' hc'=>?_)]
     ·exact Keep.refl _
     ·cases hb:S t'.i with
      |false=>rfl
      |true=>have:=hp1 t' ht' hc hc' hb;rw[hS']at this;cases this
   ·have:(decide (2<=t.c))=false:=by simpa using hc
    rw[QwJ hc]at hl
    rw[this,QyA]
    exact Runs.keep hl (fun t ht=>ha t (by simp[ht])) hp2
def Qrd(P:Program)(N:Nat)(fv:AV)(args:List AV)(s:AS)(d:Option Tmp)(K:AS->Prop):Prop :=
 ∃r,(∀hx,FunW P fv args hx fun out h''=>out = .ret r/\h''=hx)/\K (AS.put N s d r)
def Qrf(P:Program)(N:Nat)(fv:AV)(args:List AV)(s:AS)(d:Option Tmp)(K:AS->Prop):Prop :=
 ∃r,(∀hx,Keep s.h hx->FunW P fv args hx fun out h''=>out = .ret r/\h''=hx)/\K (AS.put N s d r)
def Qre(P:Program)(N c:Nat)(fv:AV)(args:List AV)(s:AS)(d:Option Tmp)(K:AS->Prop):Prop :=
 ∃r h',FunW P fv args s.h (fun out h''=>out = .ret r/\h''=h')/\(c=3->Keep s.h h')/\K (AS.put N {s with h:=h'} d r)
def AnyO(P:Program)(N:Nat)(ops:Array Oper)(c:Nat)(o:Oper)(s:AS)(K:AS->Prop):Prop :=
 match Qk ops s.tm o with
 |some false=>K (AS.put N s o.dst (.v undef))
 |some true =>
  match o.op with
  | .call ⟨.value f,args,tys⟩=>if 2<=c then Qre P N c (s.ev f) (args.toList.map s.ev) s o.dst K else if c=0 then Qrf P N (s.ev f) (args.toList.map s.ev) s o.dst K else Qrd P N (s.ev f) (args.toList.map s.ev) s o.dst K
  |op=>if 5<=c then(match tokA c P s.ev s.h op with
    |some (r,h')=>K (AS.put N {s with h:=h'} o.dst r)
    |none=>False)else match aop P s.ev o.type (if c=1 then[]else s.h) op with
   |some (r,h')=>K (AS.put N {s with h:=if c=1 then s.h else h'} o.dst r)
   |none=>c=4/\match aopR P s.ev s.h op with
    |some (r,h')=>K (AS.put N {s with h:=h'} o.dst r)
    |none=>False
 |none=>False
def AnyW(P:Program)(N:Nat)(ops:Array Oper):List (Nat×Nat)->(AS->Prop)->AS->Prop
 |[],K,s=>K s
 |(i,c)::l,K,s=>match ops[i]? with
  |some o=>AnyO P N ops c o s (AnyW P N ops l K)
  |none=>False
theorem Qb4{P:Program}{N:Nat}{ops:Array Oper}{K:AS->Prop}:∀{π:List (Nat×Nat)} {tm:Nat->AV} {h:AH},AnyW P N ops π K ⟨tm,h⟩->(π.all fun p=>match ops[p.1]? with|some o=>kindOk o p.2|none=>false)=true ->
  ∃tr:List Tr,tr.map (fun t=>(t.i,t.c))=π/\Runs P N ops tr tm h/\K ⟨tmS N (fun _=>true) tr tm,hS (fun _=>true) tr h⟩
 |[],tm,h,H,_=>⟨[],rfl,.nil _ _,H⟩
 |(i,c)::π,tm,h,H,hk=>by
  simp only[Qv9,QwQ]at hk
  obtain⟨hk1,hk2⟩:=hk
  simp only[AnyW]at H
  cases ho:ops[i]? with
  |none=>simp[ho]at H
  |some o =>
   simp only[ho]at H hk1
   -- a step, and the rest
   have fin:∀(r:AV) (h':AH),StepA P ops tm h c o r h'->AnyW P N ops π K ⟨putT N tm o.dst r,if 2<=c then h' else h⟩ ->
     ∃tr:List Tr,tr.map (fun t=>(t.i,t.c))=(i,c)::π/\Runs P N ops tr tm h/\K ⟨tmS N (fun _=>true) tr tm,hS (fun _=>true) tr h⟩:=by
    intro r h' hs hw
    obtain⟨tr,h1,h2,h3⟩:=Qb4 hw hk2
    refine⟨⟨i,c,o,r,h'⟩::tr,by simp[h1],.cons ⟨i,c,o,r,h'⟩ tr tm h ho hk1 hs h2,?_⟩
    simp only[tmS,hS,QxP,Qwz,Qw1]
    exact h3
   unfold AnyO at H
   simp only at H
   split at H
   ·rename_i hw
    rw[put_eq]at H
    refine fin (.v undef) h (by unfold StepA;simp only[hw,Qwn]) ?_
    simpa using H
   ·rename_i hw
    split at H
    ·rename_i f args tys hop
     have h1:AS.ev ⟨tm,[]⟩ f=AS.ev ⟨tm,h⟩ f:=Qb2 _ _ _ _
     have h2:args.toList.map (AS.ev ⟨tm,[]⟩)=args.toList.map (AS.ev ⟨tm,h⟩):=QxB fun x _=>Qb2 _ _ _ _
     by_cases hc:2<=c
     ·rw[QwN hc]at H
      obtain⟨r,h',hf,hkp,H⟩:=H
      rw[put_eq]at H
      refine fin r h' ?_ (by rw[QwN hc];exact H)
      unfold StepA
      simp only[hw,hop,QwN hc]
      rw[h1,h2]
      exact⟨hf,hkp⟩
     ·rw[QwJ hc]at H
      by_cases h0:c=0
      ·rw[QwN h0]at H
       obtain⟨r,hf,H⟩:=H
       rw[put_eq]at H
       refine fin r h ?_ (by simpa using H)
       unfold StepA
       simp only[hw,hop,QwJ hc,Qwp]
       intro hx hkp
       rw[h1,h2]
       exact hf hx (hkp h0)
      ·rw[QwJ h0]at H
       obtain⟨r,hf,H⟩:=H
       rw[put_eq]at H
       refine fin r h ?_ (by simpa using H)
       unfold StepA
       simp only[hw,hop,QwJ hc,Qwp]
       intro hx _
       rw[h1,h2]
       exact hf hx
    ·rename_i op hnc
     have hev:AS.ev ⟨tm,h⟩=AS.ev ⟨tm,[]⟩:=funext fun x=>Qb2 _ _ _ _
     have hstep:∀r h',(if c=1 then(∃h1,aop P (AS.ev ⟨tm,[]⟩) o.type [] o.op=some (r,h1))/\h'=h else aop P (AS.ev ⟨tm,[]⟩) o.type h o.op=some (r,h')\/(c=4/\aop P (AS.ev ⟨tm,[]⟩) o.type h o.op=none/\aopR P (AS.ev ⟨tm,[]⟩) h o.op=some (r,h'))\/(5<=c/\tokA c P (AS.ev ⟨tm,[]⟩) h o.op=some (r,h')))->StepA P ops tm h c o r h':=by
      intro r h' hh
      unfold StepA
      rw[hw]
      cases hop:o.op with
      |call q =>
       obtain⟨cal,args,tys⟩:=q
       cases cal with
       |value f=>exact(hnc _ _ _ hop).elim
       |_=>rw[hop]at hh;exact hh
      |_=>rw[hop]at hh;exact hh
     by_cases hc5:5<=c
     ·rw[QwN hc5]at H
      split at H
      ·rename_i r h' hT
       rw[put_eq]at H
       rw[hev]at hT
       refine fin r h' (hstep r h' (by rw[QwJ (by omega)];exact .inr (.inr ⟨hc5,hT⟩))) ?_
       rw[QwN (by omega)];exact H
      ·exact H.elim
     rw[QwJ hc5]at H
     split at H
     ·rename_i r h' ha
      rw[put_eq]at H
      rw[hev]at ha
      by_cases hc1:c=1
      ·subst hc1
       simp only[QxP]at ha
       refine fin r h (hstep r h ?_) ?_
       ·rw[QwN rfl];exact⟨⟨_,ha⟩,rfl⟩
       ·simpa using H
      ·simp only[QwJ hc1]at ha H
       refine fin r h' (hstep r h' (by rw[QwJ hc1];exact .inl ha)) ?_
       by_cases hc2:2<=c
       ·rw[QwN hc2];exact H
       ·rw[QwJ hc2]
        have hl:Qcj o.op=true:=by
         have hcall:Qc1 o=false:=by
          cases hc:Qc1 o with
          |false=>rfl
          |true=>obtain⟨f,args,tys,e⟩:=Qc7 hc;exact(hnc _ _ _ e).elim
         simp only[kindOk,hcall,QyG,Qxx,QwQ]at hk1
         rcases hk1 with⟨h1,_⟩|⟨h1,_⟩
         ·exact h1
         ·simp at h1;exact(hc2 (by omega)).elim
        have:=(Qht (Keep.refl h) hl ha).1
        rw[<-this];exact H
     ·rename_i ha
      obtain⟨rfl,H⟩:=H
      rw[hev]at ha H
      simp only[show ¬(4=1) by decide,QxC]at ha
      split at H
      ·rename_i r h' hR
       rw[put_eq]at H
       refine fin r h' (hstep r h' (by rw[QwJ (by decide)];exact .inr (.inl ⟨rfl,ha,hR⟩))) ?_
       rw[QwN (by omega)];exact H
      ·exact H.elim
   ·exact H.elim
theorem Qea{ops:Array Oper}{ms:List Nat}(hm:∀(k i:Nat),(ms.getD k 0).testBit i=true->Anc ops i k):∀(tr:List Tr),Qf5 ops ms (tr.map fun t=>(t.i,t.c))=true->(∀t∈tr,ops[t.i]? = some t.o) ->
  tr.Pairwise (fun a b=>clash ops a.o b.o a.c b.c=true->Anc ops a.i b.i)
 |[],_,_=>.nil
 |t::l,h,ho=>by
  simp only[Qv4,Qf5,QwQ,Qxc]at h
  refine Qys.2 ⟨fun b hb hc=>?_,Qea hm l h.2 fun t ht=>ho t (by simp[ht])⟩
  have:=h.1 (b.i,b.c) (Qxa.2 ⟨b,hb,rfl⟩)
  simp only[ho t (by simp),ho b (by simp[hb]),hc,Qwc,QyG]at this
  exact hm _ _ this
theorem QcG:∀{l:List Nat},QmJ l=true->l.Nodup
 |[],_=>Qyh
 |x::l,h=>by
  simp only[QmJ,QwQ,Qyz]at h
  exact QyE.2 ⟨by simpa using h.1,QcG h.2⟩
theorem QcM{P:Program}{N:Nat}{ops:Array Oper}:∀{tr:List Tr} {tm:Nat->AV} {h:AH},Runs P N ops tr tm h->∀t∈tr,ops[t.i]? = some t.o
 |[],_,_,_,t,ht=>by cases ht
 |t::l,tm,h,H,t',ht'=>by
  cases H with
  |cons t l tm h ho hk hs hl =>
   rcases QwS.1 ht' with rfl|h'
   ·exact ho
   ·exact QcM hl t' h'
theorem QdO{ops:Array Oper}{listed:Array Bool}(hsz:listed.size=ops.size)(hr:Region.ready .any ops listed=[]):∀(l:List (Nat×Nat)) (pre:List Nat),topo ops pre l=true->(∀i∈pre,listed.getD i false=true)->∀p∈l,listed.getD p.1 false=true
 |[],_,_,_,p,hp=>by cases hp
 |(i,c)::l,pre,h,hpre,p,hp=>by
  simp only[topo,QwQ]at h
  have hi:listed.getD i false=true:=by
   cases ho:ops[i]? with
   |none=>simp[ho]at h
   |some o =>
    have hlt:i<ops.size:=(QwX.1 ho).1
    cases hb:listed.getD i false with
    |true=>rfl
    |false =>
     have:i∈Region.ready .any ops listed:=mem_ready.2 ⟨by
      rw[QwW,Qw0 (by omega)]at hb ⊢
      simpa using hb,o,ho,fun e he hbd=>by
       simp only[ho,Qxc]at h
       have:=h.1 e (QxY.1 he)
       rw[hbd]at this
       exact hpre _ (by simpa using this)⟩
     rw[hr]at this;cases this
  rcases QwS.1 hp with rfl|hp'
  ·exact hi
  ·exact QdO hsz hr l (i::pre) h.2 (fun j hj=>by
    rcases QwS.1 hj with rfl|hj
    ·exact hi
    ·exact hpre j hj) p hp'
theorem Qas{listed:Array Bool}{i j:Nat}(hi:i<listed.size):(listed.setIfInBounds i true).getD j false=(decide (j=i)||listed.getD j false):=by
 rw[QwW,QwW]
 by_cases h:j=i
 ·subst h;rw[QxA hi];simp
 ·rw[Qxv (fun e=>h e.symm)];simp[h]
theorem QqP{P:Program}{N:Nat}{base:Bs×Fence}{ops:Array Oper}{F:Fence}{n:Nat}(hF:WF F){Qx:Exit->Act->World->Prop}{tr:List Tr}{tm0:Nat->AV}{h0:AH}(hruns:Runs P N ops tr tm0 h0)
  (hpw:tr.Pairwise (fun a b=>clash ops a.o b.o a.c b.c=true->Anc ops a.i b.i)) (htopo:topo ops [] (tr.map fun t=>(t.i,t.c))=true) (hnd:(tr.map (·.i)).Nodup) (hall:∀i,i<ops.size->∃t∈tr,t.i=i) (hkind:∀t∈tr,kindOk t.o t.c=true) :
  ∀(fuel:Nat) (listed:Array Bool) (c:Cx) (a:Act),listed.size=ops.size->Down ops (fun i=>listed.getD i false)->St c->SR N base c ⟨tmS N (fun i=>listed.getD i false) tr tm0,hS (fun i=>listed.getD i false) tr h0⟩ a ->
   tr.countP (fun t=>!listed.getD t.i false)<=fuel ->
   (∀c' a',Ev c c'->St c'->SR N base c' ⟨tmS N (fun _=>true) tr tm0,hS (fun _=>true) tr h0⟩ a'->Qx .normal a' c'.w)->wpAnyIn F n P .any ops Qx fuel listed a c.w:=by
 -- the end
 have done:∀(listed:Array Bool) (c:Cx) (a:Act),listed.size=ops.size->St c->SR N base c ⟨tmS N (fun i=>listed.getD i false) tr tm0,hS (fun i=>listed.getD i false) tr h0⟩ a ->
   (∀c' a',Ev c c'->St c'->SR N base c' ⟨tmS N (fun _=>true) tr tm0,hS (fun _=>true) tr h0⟩ a'->Qx .normal a' c'.w)->(∀t∈tr,listed.getD t.i false=true)->Qx .normal a c.w:=by
  intro listed c a hsz hst hr hQ hl
  refine hQ c a (Ev.refl c) hst ?_
  have e1:tmS N (fun i=>listed.getD i false) tr tm0=tmS N (fun _=>true) tr tm0:=funext fun x=>Qax rfl fun t ht _=>hl t ht
  have e2:hS (fun i=>listed.getD i false) tr h0=hS (fun _=>true) tr h0:=Qbn fun t ht _=>hl t ht
  rw[e1,e2]at hr
  exact hr
 have ready0:∀(listed:Array Bool),listed.size=ops.size->Region.ready .any ops listed=[]->∀t∈tr,listed.getD t.i false=true:=fun listed hsz h t ht =>
  QdO hsz h _ [] htopo (fun i hi=>by cases hi) (t.i,t.c) (Qxa.2 ⟨t,ht,rfl⟩)
 intro fuel
 induction fuel with
 |zero =>
  intro listed c a hsz hd hst hr hc hQ
  have hl:∀t∈tr,listed.getD t.i false=true:=fun t ht=>by
   have:=List.countP_eq_zero.1 (Nat.le_zero.1 hc) t ht
   simpa using this
  refine⟨?_,done listed c a hsz hst hr hQ hl⟩
  cases hrd:Region.ready .any ops listed with
  |nil=>rfl
  |cons i l =>
   have hi:i∈Region.ready .any ops listed:=by rw[hrd];simp
   obtain⟨h1,o,ho,_⟩:=mem_ready.1 hi
   have hlt:i<ops.size:=(QwX.1 ho).1
   obtain⟨t,ht,rfl⟩:=hall i hlt
   have:=hl t ht
   rw[QwW,Qw0 (by omega)]at this h1
   simp only[Qyo]at this h1
   rw[this]at h1;cases h1
 |succ fuel ih =>
  intro listed c a hsz hd hst hr hc hQ
  refine⟨fun h=>done listed c a hsz hst hr hQ (ready0 listed hsz h),fun i hi=>?_⟩
  obtain⟨h1,o,ho,hedge⟩:=mem_ready.1 hi
  have hlt:i<ops.size:=(QwX.1 ho).1
  have hSi:listed.getD i false=false:=by
   rw[QwW,Qw0 (by omega)]at h1 ⊢
   simpa using h1
  obtain⟨t,ht,rfl⟩:=hall i hlt
  obtain⟨pre,post,htr⟩:=List.append_of_mem ht
  have hto:t.o=o:=by
   have:=QcM hruns t ht
   rw[ho]at this;cases this;rfl
  subst hto
  -- the set with it
  have hS':∀j,(listed.setIfInBounds t.i true).getD j false=(decide (j=t.i)||listed.getD j false):=fun j=>Qas (by omega)
  have hd':Down ops (fun j=>(listed.setIfInBounds t.i true).getD j false):=by
   intro j oj hoj hj e he hb
   dsimp only at hj ⊢
   rw[hS']at hj ⊢
   by_cases hji:j=t.i
   ·subst hji
    rw[ho]at hoj;cases hoj
    rw[hedge e he hb];simp
   ·have:listed.getD j false=true:=by simpa [hji]using hj
    have h2:listed.getD e.on false=true:=hd j oj hoj this e he hb
    rw[h2];simp
  have hanc:∀j,Anc ops j t.i->j≠t.i->listed.getD j false=true:=fun j hj hne=>by
   have:=hd'.anc hj (by show _=true;rw[hS'];simp)
   have h2:(listed.setIfInBounds t.i true).getD j false=true:=this
   rw[hS']at h2
   simpa [hne]using h2
  have hnot:∀j,Anc ops t.i j->listed.getD j false=false:=fun j hj=>by
   cases hb:listed.getD j false with
   |false=>rfl
   |true=>have:=hd.anc hj hb;rw[hSi]at this;cases this
  -- the others
  have hne:∀b,b∈pre\/b∈post->b.i≠t.i:=by
   rw[htr]at hnd
   simp only[Qxs,Qv4]at hnd
   obtain⟨n1,n2,n3⟩:=List.nodup_append.1 hnd
   intro b hb e
   rcases hb with hb|hb
   ·exact n3 b.i (Qxa.2 ⟨b,hb,rfl⟩) t.i (by simp) e
   ·exact(QyE.1 n2).1 (Qxa.2 ⟨b,hb,e⟩)
  rw[htr]at hpw
  obtain⟨p1,p2,p3⟩:=List.pairwise_append.1 hpw
  obtain⟨p4,p5⟩:=Qys.1 p2
  have hpre:∀b∈pre,clash ops b.o t.o b.c t.c=true->listed.getD b.i false=true:=fun b hb hcl=>hanc _ (p3 b hb t (by simp) hcl) (hne b (.inl hb))
  have hpost:∀b∈post,clash ops t.o b.o t.c b.c=true->listed.getD b.i false=false:=fun b hb hcl=>hnot _ (p4 b hb hcl)
  have hsame:∀b,b∈pre\/b∈post->(listed.setIfInBounds t.i true).getD b.i false=listed.getD b.i false:=fun b hb=>by
   rw[hS'];simp[hne b hb]
  -- what it looks at
  have hsplit:=hruns
  rw[htr]at hsplit
  have hs2:=Runs.split hsplit
  have hstep:StepA P ops (tmS N (fun _=>true) pre tm0) (hS (fun _=>true) pre h0) t.c t.o t.r t.h':=by cases hs2 with|cons _ _ _ _ _ _ hs _=>exact hs
  have hk:kindOk t.o t.c=true:=hkind t ht
  have hreads:∀x∈readsOf ops t.o,tmS N (fun i=>listed.getD i false) tr tm0 x=tmS N (fun _=>true) pre tm0 x:=by
   intro x hx
   rw[htr,Qa8,ZQ]
   ·refine Qax rfl fun b hb hbd=>hpre b hb ?_
    unfold clash;rw[hbd];simp[hx]
   ·intro b hb hbS hbd
    rcases QwS.1 hb with rfl|hb
    ·rw[hSi]at hbS;cases hbS
    ·rw[hpost b hb (by unfold clash;rw[hbd];simp[hx])]at hbS;cases hbS
  have hclash2:∀b∈pre,2<=b.c->t.c≠1->listed.getD b.i false=true:=fun b hb h2 ht1=>hpre b hb (by unfold clash;simp[h2,ht1])
  have hheapPre:t.c≠1->hS (fun i=>listed.getD i false) pre h0=hS (fun _=>true) pre h0:=fun ht1=>Qbn fun b hb h2=>hclash2 b hb h2 ht1
  have hh:(2<=t.c/\hS (fun i=>listed.getD i false) tr h0=hS (fun _=>true) pre h0)\/(t.c<2/\(t.c=1\/Keep (hS (fun _=>true) pre h0) (hS (fun i=>listed.getD i false) tr h0))):=by
   by_cases hc2:2<=t.c
   ·refine .inl ⟨hc2,?_⟩
    rw[htr,QbA,Qa3,hheapPre (by omega)]
    intro b hb hbc
    rcases QwS.1 hb with rfl|hb
    ·exact hSi
    ·have h1:b.c≠1:=by omega
     exact hpost b hb (by unfold clash;simp[hc2,h1])
   ·refine .inr ⟨by omega,?_⟩
    by_cases hc1:t.c=1
    ·exact .inl hc1
    ·refine .inr ?_
     rw[htr,QbA,hheapPre hc1]
     refine Runs.keep hs2 ?_ ?_
     ·intro b hb hbc hbS
      rcases QwS.1 hb with rfl|hb
      ·exact(hc2 hbc).elim
      ·cases hadd:((Qdh b.o.op&&b.c != 4)||b.c==3)with
       |true=>rfl
       |false =>
        rw[hpost b hb (by unfold clash;rw[hadd];simp[hc1,hc2,hbc])]at hbS;cases hbS
     ·refine p2.imp ?_
      intro x y hxy hx hy hyS
      have h1:y.c≠1:=by omega
      exact hd.anc (hxy (by unfold clash;simp[hx,h1])) hyS
  -- the state behind it
  have hpreS:tmS N (fun i=>(listed.setIfInBounds t.i true).getD i false) pre tm0=tmS N (fun i=>listed.getD i false) pre tm0:=funext fun x=>Qax rfl fun b hb _=>hsame b (.inl hb)
  have hpreH:hS (fun i=>(listed.setIfInBounds t.i true).getD i false) pre h0=hS (fun i=>listed.getD i false) pre h0:=Qbn fun b hb _=>hsame b (.inl hb)
  have hSt:(listed.setIfInBounds t.i true).getD t.i false=true:=by rw[hS'];simp
  have hstm:tmS N (fun i=>(listed.setIfInBounds t.i true).getD i false) tr tm0=putT N (tmS N (fun i=>listed.getD i false) tr tm0) t.o.dst t.r:=by
   funext x
   rw[htr,Qa8,Qa8,hpreS]
   simp only[tmS,hSt,hSi,QxP,QvT,QxC]
   by_cases hdx:t.o.dst=some x
   ·have hskip:∀b∈post,b.o.dst=some x->listed.getD b.i false=false:=fun b hb hbd=>hpost b hb (by unfold clash;rw[hdx,hbd];simp)
    rw[ZQ (fun b hb hbS hbd=>by rw[hsame b (.inr hb),hskip b hb hbd]at hbS;cases hbS)]
    have e:=ZQ (N:=N) (S:=fun i=>listed.getD i false) (x:=x) (l:=post) (f:=tmS N (fun i=>listed.getD i false) pre tm0) (fun b hb hbS hbd=>by rw[hskip b hb hbd]at hbS;cases hbS)
    exact Qeb (fun _=>e.symm) (.inl e.symm)
   ·rw[Qec hdx]
    exact Qax (Qec hdx) fun b hb _=>hsame b (.inr hb)
  have hshp:hS (fun i=>(listed.setIfInBounds t.i true).getD i false) tr h0=if 2<=t.c then t.h' else hS (fun i=>listed.getD i false) tr h0:=by
   rw[htr,QbA,QbA,hpreH]
   simp only[hS,hSt,hSi,Qwz,Qx4,QvT,QxC,Qw1]
   by_cases hc2:2<=t.c
   ·rw[QwN hc2,QwN hc2]
    refine Qa3 fun b hb hbc=>?_
    rw[hsame b (.inr hb)]
    have h1:b.c≠1:=by omega
    exact hpost b hb (by unfold clash;simp[hc2,h1])
   ·rw[QwJ hc2,QwJ hc2]
    exact Qbn fun b hb _=>hsame b (.inr hb)
  have hcount:tr.countP (fun u=>!(listed.setIfInBounds t.i true).getD u.i false)<=fuel:=by
   rw[htr]at hc ⊢
   simp only[List.countP_append,List.countP_cons,hSt,hSi,Qwc,Qwd,QvT,QxC,QxP]at hc ⊢
   have c1:pre.countP (fun u=>!(listed.setIfInBounds t.i true).getD u.i false)=pre.countP (fun u=>!listed.getD u.i false):=List.countP_congr fun b hb=>by rw[hsame b (.inl hb)]
   have c2:post.countP (fun u=>!(listed.setIfInBounds t.i true).getD u.i false)=post.countP (fun u=>!listed.getD u.i false):=List.countP_congr fun b hb=>by rw[hsame b (.inr hb)]
   rw[c1,c2];omega
  have next:∀c' a',Ev c c'->St c'->SR N base c' (AS.put N ⟨tmS N (fun i=>listed.getD i false) tr tm0,if 2<=t.c then t.h' else hS (fun i=>listed.getD i false) tr h0⟩ t.o.dst t.r) a' ->
    wpAnyIn F n P .any ops Qx fuel (listed.setIfInBounds t.i true) a' c'.w:=by
   intro c' a' hev hst' hr'
   rw[put_eq,<-hstm,<-hshp]at hr'
   exact ih _ c' a' (by simpa using hsz) hd' hst' hr' hcount fun c2 a2 e2 s2 r2=>hQ c2 a2 (Ev.trans hst hev e2) s2 r2
  unfold wpOpIn
  simp only[ho]
  rcases hstep.turn hk hreads hh N with⟨hw,hru,hhe⟩|⟨hw,hop|hop⟩
  ·rw[Xt hr hw]
   simp only[QvT,QxC]
   refine⟨fun f _=>hF.fn f,?_⟩
   have hr':=hr.put hst (Ev.refl c) t.o.dst (.v undef)
   rw[hr.h]at hr'
   refine next c _ (Ev.refl c) hst ?_
   rw[hhe,hru]
   exact hr'
  ·rw[Xt hr hw]
   simp only[QxP]
   refine Qcm (hop (fun s'=>s'=AS.put N ⟨tmS N (fun i=>listed.getD i false) tr tm0,if 2<=t.c then t.h' else hS (fun i=>listed.getD i false) tr h0⟩ t.o.dst t.r) (fun _ _=>False) rfl) hF hst hr ?_ ?_
   ·intro s' c' a' hs hev hst' hr'
    subst hs
    exact next c' a' hev hst' hr'
   ·intro r s' c' x hf
    exact hf.elim
  ·rw[Xt hr hw]
   simp only[QxP]
   refine Qhj (K:=fun s'=>s'=AS.put N ⟨tmS N (fun i=>listed.getD i false) tr tm0,if 2<=t.c then t.h' else hS (fun i=>listed.getD i false) tr h0⟩ t.o.dst t.r) hop rfl hF hst hr ?_
   intro s' c' a' hs hev hst' hr'
   subst hs
   exact next c' a' hev hst' hr'
theorem Xu{P:Program}{N:Nat}{Q:AExit->AS->Prop}{s:AS}{id:Nat}{ops:Array Oper}(π:List (Nat×Nat))(hm:P.follows .mixedOrders=true)(hok:Qrl ops π=true)
  (H:∀(K:AS->Prop),(∀s,Q .normal s->K s)->AnyW P N ops π K s):XO P N (.region id ops true) Q s:=by
 intro F n base c a hF hst hr R hR
 refine wpIn_region_any hm ?_
 obtain⟨tm,hp⟩:=s
 simp only[Qrl,QwQ]at hok
 obtain⟨⟨⟨⟨⟨hp0,hp1⟩,hp2⟩,hp3⟩,hp4⟩,hp5⟩:=hok
 obtain⟨tr,rfl,hruns,hK⟩:=Qb4 (H _ (fun s h=>h)) hp5
 have hev:Ev c (c.to {c.w with drawn:=c.w.drawn+1}):=Ev.idle hst (Ev.refl c) rfl rfl rfl rfl fun k=>.inl rfl
 have hst':St (c.to {c.w with drawn:=c.w.drawn+1}):=hst.idle rfl fun k o hk=>.inl hk
 have hr':SR N (base,F) (c.to {c.w with drawn:=c.w.drawn+1}) ⟨tm,hp⟩ a:=⟨hr.h,hr.size,Qw8 hr.above hev.size,hr.defers.ev hev,RoundOk.ev hev hr.round,fun t=>(hr.tm t).ev hst hev⟩
 have hops:=QcM hruns
 have hnone:∀j,(Array.replicate ops.size false).getD j false=false:=fun j=>by
  rw[QwW,QxR]
  split <;> rfl
 refine QqP (base:=(base,F)) hF hruns (Qea (QbE ops.toList [] (fun j o h=>by simpa using h) (fun k i h=>by simp at h)) tr hp1 hops) hp2 ?_ ?_ ?_ _ _ (c.to {c.w with drawn:=c.w.drawn+1}) a (by simp) ?_ hst' ?_ ?_ ?_
 ·have:=QcG hp3
  rw[QxV]at this
  exact this
 ·intro i hi
  have:=Qxc.1 hp4 i (List.mem_range.2 hi)
  have:i∈(tr.map fun t=>(t.i,t.c)).map (·.1):=by simpa using this
  rw[QxV]at this
  obtain⟨t,ht,rfl⟩:=Qxa.1 this
  exact⟨t,ht,rfl⟩
 ·intro t ht
  have:=Qxc.1 hp5 (t.i,t.c) (Qxa.2 ⟨t,ht,rfl⟩)
  simpa [hops t ht]using this
 ·intro j o ho hj
  simp only at hj
  rw[hnone]at hj;cases hj
 ·have e1:tmS N (fun i=>(Array.replicate ops.size false).getD i false) tr tm=tm:=funext fun x=>ZQ fun t _ h=>by rw[hnone]at h;cases h
  have e2:hS (fun i=>(Array.replicate ops.size false).getD i false) tr hp=hp:=Qa3 fun t _ _=>hnone _
  rw[e1,e2];exact hr'
 ·-- asx many asx there are
  have:tr.length<=ops.size:=by
   have:=QxL.1 hp0
   simp only[Qxj]at this;omega
  exact Qw8 List.countP_le_length this
 ·intro c' a' h1 h2 h3
  exact hR _ _ c' a' _ hK (Ev.trans hst hev h1) h2 h3 rfl
theorem QH{P:Program}{N:Nat}{Q:AExit->AS->Prop}{s:AS}{id:Nat}{ops:Array Oper}{y:Code}(π:List (Nat×Nat))(hm:P.follows .mixedOrders=true)(hok:Qrl ops π=true)
  (H:∀(K:AS->Prop),(∀s,XO P N y Q s->K s)->AnyW P N ops π K s):XO P N (.seq (.region id ops true) y) Q s :=
 Qaz (Xu π hm hok fun K hK=>H K hK)
section
variable(P:Program)(N:Nat)(ops:Array Oper)(tm:Nat->AV)(h:AH)(K:AS->Prop)
theorem XQ:AnyW P N ops [] K ⟨tm,h⟩=K ⟨tm,h⟩:=rfl
theorem Xz(i c:Nat)(l:List (Nat×Nat)):AnyW P N ops ((i,c)::l) K ⟨tm,h⟩=(match ops[i]? with|some o=>AnyO P N ops c o ⟨tm,h⟩ (AnyW P N ops l K)|none=>False):=rfl
theorem Yo(c:Nat)(o:Oper):AnyO P N ops c o ⟨tm,h⟩ K=(match Qk ops tm o with
 |some false=>K (AS.put N ⟨tm,h⟩ o.dst (.v undef))
 |some true =>
  match o.op with
  | .call ⟨.value f,args,tys⟩=>if 2<=c then Qre P N c (AS.ev ⟨tm,h⟩ f) (args.toList.map (AS.ev ⟨tm,h⟩)) ⟨tm,h⟩ o.dst K else if c=0 then Qrf P N (AS.ev ⟨tm,h⟩ f) (args.toList.map (AS.ev ⟨tm,h⟩)) ⟨tm,h⟩ o.dst K else Qrd P N (AS.ev ⟨tm,h⟩ f) (args.toList.map (AS.ev ⟨tm,h⟩)) ⟨tm,h⟩ o.dst K
  |op=>if 5<=c then(match tokA c P (AS.ev ⟨tm,h⟩) h op with
    |some (r,h')=>K (AS.put N ⟨tm,h'⟩ o.dst r)
    |none=>False)else match aop P (AS.ev ⟨tm,h⟩) o.type (if c=1 then[]else h) op with
   |some (r,h')=>K (AS.put N ⟨tm,if c=1 then h else h'⟩ o.dst r)
   |none=>c=4/\match aopR P (AS.ev ⟨tm,h⟩) h op with
    |some (r,h')=>K (AS.put N ⟨tm,h'⟩ o.dst r)
    |none=>False
 |none=>False):=rfl
end
end Go.Proofs.YtenheconhibonaaGreatDoor.Ab
namespace Go.Proofs.YtenheconhibonaaGreatDoor.Ab
theorem Qm8{c:Cx}(e s:Nat):∀b,some c.h.length=some b->(c.add c.w (.grow e s 0) none).tokNil b s:=by
 intro b hb
 cases hb
 refine⟨by simp[Cx.add],fun e2 s2 n2 hg2=>?_⟩
 simp[Cx.add]at hg2
 exact⟨hg2.2.1.symm,fun _=>by simp[Cx.add]⟩
theorem YB{P:Program}{N:Nat}{code:Code}{Q:AExit->AS->Prop}{tm:Nat->AV}{h:AH}(d e s:Nat)(hd:tm d = .v (.slice none 0 0))
  (H:XO P N code Q ⟨upd tm d (.sl s [] (some h.length)),h++[.grow e s 0]⟩):XO P N code Q ⟨tm,h⟩:=by
 intro F n base c a hF hst hr R hR
 have hh:c.h=h:=hr.h
 subst hh
 have hg:=Grows.refl c.w
 have ho:∀B,(none:Option Nat)=some B->c.w.heap.size<=B:=fun B h=>by cases h
 have hev:=Ev.add hst hg (.grow e s 0) none ho
 have hρ:(c.add c.w (.grow e s 0) none).ρ c.h.length=none:=by simp[Cx.add]
 have hst':St (c.add c.w (.grow e s 0) none):=St.add hst hg _ _ ho (fun B hB=>by rw[hρ]at hB;cases hB)
 refine H F n base (c.add c.w (.grow e s 0) none) a hF hst' ⟨rfl,hr.size,hr.above,hr.defers.ev hev,RoundOk.ev hev hr.round,fun t=>?_⟩ R fun e' s' c' a' ex hq h1 h2 h3 h4=>hR e' s' c' a' ex hq (Ev.trans hst hev h1) h2 h3 h4
 simp only[upd]
 split
 ·rename_i ht
  subst ht
  have h1:=hr.tm t
  simp only[hd]at h1
  generalize hu:a.tmps.getD t undef=u at h1
  cases h1
  exact .slnil _ _ (Qm8 e s)
 ·exact(hr.tm t).ev hst hev
inductive T where
 |mk (kind int:Int) (name:ByteArray) (args:List T)
 deriving Inhabited
def T.kind:T->Int | .mk k _ _ _=>k
def T.int:T->Int | .mk _ i _ _=>i
def T.name:T->ByteArray | .mk _ _ n _=>n
def T.args:T->List T | .mk _ _ _ l=>l
mutual
def T.av:T->AV
 | .mk k i n l=>.agg [.v (.int .i64 k),.v (.int .i64 i),.v (.string n),.sl 4 (avs l) none]
def avs:List T->List AV
 |[]=>[]
 |t::l=>t.av::avs l
end
theorem QbK:∀l:List T,avs l=l.map T.av
 |[]=>rfl
 |t::l=>by simp only[avs,Qv4,QbK l]
theorem Qj6:avs []=[]:=rfl
theorem QK(l:List T):(avs l).length=l.length:=by rw[QbK,Qxj]
theorem Qcz(l m:List T):avs (l++m)=avs l++avs m:=by simp only[QbK,Qxs]
theorem Qrp(t:T):avs [t]=[t.av]:=rfl
theorem Qaa{l:List T}{k:Nat}(h:k<l.length):(avs l)[k]? = some (l[k]).av:=by
 rw[QbK,Qxd,QwK h];rfl
theorem T.QuV(t:T):t.av.cells=[.v (.int .i64 t.kind),.v (.int .i64 t.int),.v (.string t.name),.sl 4 (avs t.args) none]:=by cases t;rfl
theorem T.QuY(t:T):t.av.isAgg=true:=by cases t;rfl
mutual
theorem T.Qu8(n:Nat):∀t:T,Below n t.av
 | .mk k i nm l=>by
  simp only[T.av]
  refine .agg _ fun a ha=>?_
  simp only[QwS,Qw4,QxK]at ha
  rcases ha with rfl|rfl|rfl|rfl
  ·exact .v _
  ·exact .v _
  ·exact .v _
  ·exact .sl 4 _ none (QcA n l) (fun b hb=>by cases hb)
theorem QcA(n:Nat):∀l:List T,∀a∈flat (avs l),Below n a
 |[],a,ha=>by simp[avs,flat]at ha
 |t::l,a,ha=>by
  simp only[avs,Xc,Qxf]at ha
  rcases ha with ha|ha
  ·have h1:=T.Qu8 n t
   cases t with
   |mk k i nm l' =>
    simp only[T.av]at h1
    cases h1 with
    |agg _ h=>exact h a (by simpa only[T.av,AV.cells]using ha)
  ·exact QcA n l a ha
end
theorem Qfj(n:Nat)(l:List T):Below n (.sl 4 (avs l) none):=.sl 4 _ none (QcA n l) (fun b hb=>by cases hb)
def ints(l:List Int):List AV:=l.map fun n=>.v (.int .i64 n)
theorem Xn(l:List Int):(ints l).length=l.length:=Qxj _
theorem Qp7(n:Int):ints [n]=[.v (.int .i64 n)]:=rfl
theorem Qkx(l m:List Int):ints (l++m)=ints l++ints m:=Qxs
theorem QeS{l:List Int}{k:Nat}(h:k<l.length):(ints l)[k]? = some (.v (.int .i64 l[k])):=by
 rw[ints,Qxd,QwK h];rfl
theorem Qcg(n:Nat)(l:List Int):∀a∈flat (ints l),Below n a:=by
 intro a ha
 simp only[flat,ints,Qyn,Qxa]at ha
 obtain⟨x,⟨y,_,rfl⟩,hx⟩:=ha
 simp only[AV.cells,QxG]at hx
 subst hx
 exact .v _
theorem rng0:List.range 0=[]:=rfl
theorem rng1:List.range 1=[0]:=rfl
theorem rng2:List.range 2=[0,1]:=rfl
theorem rng3:List.range 3=[0,1,2]:=rfl
theorem rng4:List.range 4=[0,1,2,3]:=rfl
theorem rng5:List.range 5=[0,1,2,3,4]:=rfl
theorem rng6:List.range 6=[0,1,2,3,4,5]:=rfl
theorem rng7:List.range 7=[0,1,2,3,4,5,6]:=rfl
theorem rng8:List.range 8=[0,1,2,3,4,5,6,7]:=rfl
theorem Xg{α:Type}(p:α->Bool)(x:α):Option.any p (some x)=p x:=rfl
def Pure(P:Program)(f:FuncId)(args:List AV)(r:AV):Prop:=∀h,QT P f args h fun o h'=>o = .ret r/\h'=h
theorem Qy{P:Program}{f:FuncId}{args:List AV}{r:AV}{h:AH}{C:AOut->AH->Prop}(H:Pure P f args r)(k:C (.ret r) h):FunW P (.fn (.func f) [] []) args h C:=by
 refine FunW.fn ?_
 rw[Qwg,Qwi]
 exact(H h).mono (by rintro _ _ ⟨rfl,rfl⟩;exact k)
theorem QO{P:Program}{N:Nat}{f:FuncId}{args:List AV}{r:AV}{s:AS}{d:Option Tmp}{K:AS->Prop}(H:Pure P f args r)(k:K (AS.put N s d r)):Qrd P N (.fn (.func f) [] []) args s d K :=
 ⟨r,fun hx=>Qy H ⟨rfl,rfl⟩,k⟩
theorem Qc{h h':AH}{r r':AV}{Q:AV->AH->Prop}(ht:h'.take h.length=h)(hf:Frz h' h.length r r')(hq:Q r' h):Leaves h h' r Q:=by
 refine .inl ⟨h.length,r',QwP _,?_,.inl ht,hf,by rw[ht];exact hq⟩
 have:=Qxm List.length ht
 rw[Qw9]at this
 omega
theorem QsL(h:AH):h.take h.length=h:=QwH
theorem Yg{n:Int}(h : -9223372036854775808<=n/\n<=9223372036854775807):IntKind.i64.wrap n=n:=IntWalk.i64_in n h
theorem Xe{n:Nat}(h:n<=9223372036854775806):IntKind.i64.wrap ((n:Int)+1)=((n+1:Nat):Int):=by
 rw[Yg (by omega)];omega
def T.uses(t:T):List T:=if t.kind=2 then t.args else[]
mutual
def T.size:T->Nat
 | .mk k _ _ l=>1+(if k=2 then sizes l else 0)
def sizes:List T->Nat
 |[]=>0
 |t::l=>t.size+sizes l
end
theorem T.size_eq(t:T):t.size=1+sizes t.uses:=by
 cases t with|mk k i n l=>simp only[T.size,T.uses,T.kind,T.args];by_cases hk:k=2 <;> simp[hk,sizes]
theorem size_pos(t:T):1<=t.size:=by rw[T.size_eq];omega
def LoopA.at(i:LoopA)(st:LoopState)(pend:Option Code):LoopA:={i with st:=st,pend:=pend}
theorem Qnl{c:Cx}(hs:St c)(e s:Nat):Ev c (c.add c.w (.grow e s 0) none)/\St (c.add c.w (.grow e s 0) none):=by
 have hg:=Grows.refl c.w
 have ho:∀B,(none:Option Nat)=some B->c.w.heap.size<=B:=fun B h=>by cases h
 have hρ:(c.add c.w (.grow e s 0) none).ρ c.h.length=none:=by simp[Cx.add]
 exact⟨Ev.add hs hg (.grow e s 0) none ho,St.add hs hg _ _ ho (fun B hB=>by rw[hρ]at hB;cases hB)⟩
theorem QrC{h:AH}{m:Nat}{x y:AV}(hf:Frz h m x y):∀(j:Nat) (a a':AV),[x][j]? = some a->[y][j]? = some a'->Frz h m a a'
 |0,a,a',h1,h2=>by simp at h1 h2;subst h1;subst h2;exact hf
 |j+1,a,a',h1,_=>by simp at h1
theorem QhO{h:AH}{m:Nat}{x y:AV}{l l':List AV}(hf:Frz h m x y)(hl:∀(j:Nat) (a a':AV),l[j]? = some a->l'[j]? = some a'->Frz h m a a'):∀(j:Nat) (a a':AV),(x::l)[j]? = some a->(y::l')[j]? = some a'->Frz h m a a'
 |0,a,a',h1,h2=>by simp at h1 h2;subst h1;subst h2;exact hf
 |j+1,a,a',h1,h2=>hl j a a' (by simpa using h1) (by simpa using h2)
def ikey(n:Int):Value:=.int .i64 n
def imap(l:List (Int×AV)):List (Value×AV):=l.map fun p=>(ikey p.1,p.2)
def QhS(k:Int):List (Int×AV)->Option AV
 |[]=>none
 |p::l=>if k=p.1 then some p.2 else QhS k l
theorem QqC(a b:Int):Instr.sameNow (.int .i64) (ikey a) (ikey b)=some (a==b):=rfl
theorem Qcc(k:Int):∀l:List (Int×AV),QfB (.int .i64) (.int .i64 k) (imap l)=some (QhS k l)
 |[]=>rfl
 |p::l=>by
  have h:=QqC k p.1
  have e:imap (p::l)=(ikey p.1,p.2)::imap l:=rfl
  rw[e]
  simp only[QfB,QhS]
  rw[show Instr.sameNow (.int .i64) (.int .i64 k) (ikey p.1)=some (k==p.1)from rfl]
  by_cases hk:k=p.1
  ·rw[QwN hk,show(k==p.1)=true by simpa using hk]
  ·rw[QwJ hk,show(k==p.1)=false by simpa using hk]
   exact Qcc k l
theorem Qim(k:Int)(v:AV):∀l:List (Int×AV),QhS k l=none->updA (.int .i64) (.int .i64 k) v (imap l)=some (imap (l++[(k,v)]))
 |[],_=>rfl
 |p::l,hn=>by
  have e:imap (p::l)=(ikey p.1,p.2)::imap l:=rfl
  rw[e]
  simp only[QhS]at hn
  split at hn
  ·cases hn
  ·rename_i hk
   simp only[updA]
   rw[show Instr.sameNow (.int .i64) (.int .i64 k) (ikey p.1)=some (k==p.1)from rfl,show(k==p.1)=false by simpa using hk,Qim k v l hn]
   rfl
theorem QoU(P:Program)(s d:TypeId){ts:TypeDesc}{kd:IntKind}(hs:P.underlying s=some ts)(hd:P.underlying d=some (.int kd))(k:IntKind)(a:Int):pv P (convert s d (.int k a))=some (.int kd (kd.wrap a)):=by
 have hp:∀{α:Type} (x:α),pv P (pure x)=some x:=fun _=>rfl
 simp only[convert,underlying]
 rw[YW,YW]
 simp only[program,pv,QvU,hs,hp]
 rw[YW,YW]
 simp only[program,pv,QvU,hd,hp]
 rfl
theorem QkJ{P:Program}{N:Nat}{ops:Array Oper}{E:AV->AS->Prop}:∀(l1 l2:List Oper) (K K':AS->Prop) (s:AS),(∀s,OpsW P N ops l2 K E s->K' s)->OpsW P N ops l2 K E=K'->OpsW P N ops l1 K' E s->OpsW P N ops (l1++l2) K E s
 |[],l2,K,K',s,_,e,h=>by subst e;exact h
 |o::l1,l2,K,K',s,hK,e,h=>by
  subst e
  have ih:OpsW P N ops (l1++l2) K E=OpsW P N ops l1 (OpsW P N ops l2 K E) E:=by
   clear h hK s o
   funext s
   apply propext
   induction l1 generalizing s with
   |nil=>exact Iff.rfl
   |cons o l1 ih =>
    have ih':OpsW P N ops (l1++l2) K E=OpsW P N ops l1 (OpsW P N ops l2 K E) E:=funext fun s=>propext (ih s)
    show(match Qk ops s.tm o with|some true=>OpW P N o s (OpsW P N ops (l1++l2) K E) E|some false=>OpsW P N ops (l1++l2) K E (AS.put N s o.dst (.v undef))|none=>False)↔(match Qk ops s.tm o with|some true=>OpW P N o s (OpsW P N ops l1 (OpsW P N ops l2 K E) E) E|some false=>OpsW P N ops l1 (OpsW P N ops l2 K E) E (AS.put N s o.dst (.v undef))|none=>False)
    rw[ih']
  show(match Qk ops s.tm o with|some true=>OpW P N o s (OpsW P N ops (l1++l2) K E) E|some false=>OpsW P N ops (l1++l2) K E (AS.put N s o.dst (.v undef))|none=>False)
  rw[ih]
  exact h
theorem XC{P:Program}{N:Nat}{ops:Array Oper}{E:AV->AS->Prop}{l:List Oper}{K:AS->Prop}{s:AS}(k:Nat)(h:∀K':AS->Prop,(∀s,OpsW P N ops (l.drop k) K E s->K' s)->OpsW P N ops (l.take k) K' E s):OpsW P N ops l K E s:=by
 have:=QkJ (l.take k) (l.drop k) K _ s (fun s hs=>hs) rfl (h _ fun s hs=>hs)
 rwa [QxI]at this
theorem DefOk.cut{c:Cx}{base:Bs}{m:Nat}{ds:List Deferred}(h:DefOk c base ds):DefOk (c.cut m) base ds:=by
 obtain⟨Ds,e,hn,hall⟩:=h
 refine⟨Ds,e,hn,fun D hD=>?_⟩
 obtain⟨h1,h2,h3⟩:=hall D hD
 exact⟨h1,h2,fun⟨id,b,g1,g2,g3⟩=>h3 ⟨id,b,(Zb g1).2,g2,g3⟩⟩
theorem Yf{P:Program}{b:Frame}{a:Act}{k:List Item}{cs:List Frame}{w:World}{c:Code} :
  step P (lone (b.atR a (.code (.scope c)::k)) cs w) = .next (lone (b.atR a (.code c :: .inScope c::k)) cs w) :=
 step_lone_go (by simp[stepG,stepG.exec,Frame.atR])
theorem QbW{P:Program}{b:Frame}{a:Act}{k:List Item}{cs:List Frame}{w:World}{c:Code} :
  step P (lone (b.atR a (.inScope c::k)) cs w) = .next (lone (b.atR a k) cs w) :=
 step_lone_go (by simp[stepG,stepG.exec,Frame.atR])
def QrU(Q:Exit->Act->World->Prop):Exit->Act->World->Prop
 | .goto _,_,_=>False
 |e,a,w=>Q e a w
theorem Qnf{F:Fence}{n:Nat}{P:Program}{Q:Exit->Act->World->Prop}{a:Act}{w:World}{c:Code}(h:c.wpIn F n P (QrU Q) a w):(Code.scope c).wpIn F n P Q a w:=by
 intro b k cs hro hb hr
 have h0:(lone (b.atR a (.code (.scope c)::k)) cs w).fenced P F:=fenced_calm hb hr rfl
 obtain⟨e,a₁,w₁,hq,harr⟩:=h b (.inScope c::k) cs hro hb hr
 cases e with
 |normal=>exact⟨.normal,a₁,w₁,hq,.head h0 Yf (StepsIn.trans harr (.one (fenced_calm hb hr rfl) QbW))⟩
 |exit id' =>
  have hx:exitTo id' (.inScope c::k)=exitTo id' k:=by simp[exitTo]
  exact⟨.exit id',a₁,w₁,hq,fun k' hk=>.head h0 Yf (harr.1 k' (by rw[hx];exact hk)),
   fun hr' hk=>let ⟨k₁,h1,h2⟩:=harr.2 hr' (by rw[hx];exact hk);⟨k₁,h1,.head h0 Yf h2⟩⟩
 |goto l=>exact hq.elim
 |ret=>exact⟨_,a₁,w₁,hq,.of_steps (.one h0 Yf) harr⟩
 |panic ch=>exact⟨_,a₁,w₁,hq,.of_steps (.one h0 Yf) harr⟩
 |outgrown=>exact⟨_,a₁,w₁,hq,.of_steps (.one h0 Yf) harr⟩
theorem Qfr{P:Program}{N:Nat}{x:Code}{Q:AExit->AS->Prop}{s:AS}(h:XO P N x Q s):XO P N (.scope x) Q s:=by
 intro F n base c a hF hs hr R hR
 refine Qnf (h F n base c a hF hs hr _ fun e s' c' a' e' hQ hev hst hsr hex=>?_)
 cases e with
 |normal=>cases hex;exact hR _ s' c' a' _ hQ hev hst hsr rfl
 |exit i=>cases hex;exact hR _ s' c' a' _ hQ hev hst hsr rfl
 |ret=>cases hex;exact hR _ s' c' a' _ hQ hev hst hsr rfl
 |panic av=>obtain⟨x,rfl,hx⟩:=hex;exact hR _ s' c' a' _ hQ hev hst hsr ⟨x,rfl,hx⟩
inductive Kill (h:AH) (id:Nat):AV->AV->Prop
 |keep (a:AV):Kill h id a a
 |arr {lo len s:Nat} {ty:TypeId} {xs:List AV} (hg:h[id]? = some (.cells ty s xs)) (hl:lo+len<=xs.length):Kill h id (.arr id lo len) (.sl s ((xs.drop lo).take len) none)
 |row {lo len cap s:Nat} {ty:TypeId} {xs:List AV} (hg:h[id]? = some (.cells ty s xs)) (hl:lo+len<=xs.length):Kill h id (.row id lo len cap) (.sl s ((xs.drop lo).take len) none)
theorem QeA{c:Cx}(hs:St c){id B ty s:Nat}{xs:List AV}(hg:c.h[id]? = some (.cells ty s xs))(hρ:c.ρ id=some B) :
  (∀x∈xs,x.cells.length=s)/\∃f:Nat->Value,∀(j:Nat) a,(flat xs)[j]? = some a->((c.kill id).cellP B (0+j) (f j)/\(f j).oneCell'=true)/\Rel (c.kill id) a (f j):=by
 obtain⟨B',cur,h1,h2,h3,h4⟩:=hs.blocks id _ hg
 rw[hρ]at h1;cases h1
 refine⟨h3,fun j=>cur.getD j undef,fun j a hj=>?_⟩
 obtain⟨u,h5,h6,h7⟩:=h4 j a hj
 have e:cur.getD j undef=u:=by rw[QwW,h5];rfl
 show((c.kill id).cellP B (0+j) (cur.getD j undef)/\(cur.getD j undef).oneCell'=true)/\Rel (c.kill id) a (cur.getD j undef)
 rw[e]
 refine⟨⟨⟨by show c.w.cell? _=_;rw[Qv1,XS h2];exact h5,?_⟩,h6⟩,h7.ev hs (Ev.kill hg)⟩
 refine⟨hs.lt hg rfl hρ,fun id' b' hb' hl' hρ'=>?_⟩
 rcases QeT hb' with⟨rfl,rfl⟩|⟨hne,hb''⟩
 ·cases hl'
 ·exact absurd (hs.inj id' id b' _ B hb'' hg hl' rfl hρ' hρ) hne
theorem Qc2{c:Cx}(hs:St c){id B ty s lo len cap:Nat}{xs:List AV}(hg:c.h[id]? = some (.cells ty s xs))(hρ:c.ρ id=some B)(hl:lo+len<=xs.length)(h2:len<=cap)(h3:cap<=maxLen) :
  Rel (c.kill id) (.sl s ((xs.drop lo).take len) none) (.slice (some ⟨B,lo * s,none⟩) len cap):=by
 obtain⟨h4,f,h5⟩:=QeA hs hg hρ
 have hlen:((xs.drop lo).take len).length=len:=by simp;omega
 have hdrop:∀y∈xs.drop lo,y.cells.length=s:=fun y hy=>h4 y (Qxu hy)
 have hget:∀(j:Nat) a,(flat ((xs.drop lo).take len))[j]? = some a->(flat xs)[lo * s+j]? = some a:=by
  intro j a hj
  rw[Zc hdrop (by simp;omega)]at hj
  have hlt:=Qv hj
  rw[Qw9]at hlt
  rw[Qw5 (by omega),Qab h4 (by omega),Qxl]at hj
  exact hj
 have:=Rel.sl (c:=c.kill id) s ((xs.drop lo).take len) none B (lo * s) cap (fun j=>f (lo * s+j)) (fun y hy=>hdrop y (QxD hy)) (by omega) h3
  (fun j a hj=>by have:=(h5 _ a (hget j a hj)).1;rwa [Qv1]at this) (fun j a hj=>(h5 _ a (hget j a hj)).2) (fun b hb=>by cases hb)
 rwa [hlen]at this
theorem Kill.rel{c:Cx}(hs:St c){id ty s:Nat}{xs:List AV}(hb:c.h[id]? = some (.cells ty s xs)){a a':AV}(h:Kill c.h id a a'){x:Value}(hr:Rel c a x):Rel (c.kill id) a' x:=by
 cases h with
 |keep=>exact hr.ev hs (Ev.kill hb)
 |arr hg hl =>
  cases hr with
  |arr _ _ _ x hid ho h1 =>
   obtain⟨B,cap,hρ,rfl,h2,h3,_⟩:=h1 _ _ _ hg
   exact Qc2 hs hg hρ hl h2 h3
 |row hg hl =>
  cases hr with
  |row _ _ _ _ x hid ho h1 =>
   obtain⟨B,cur,hρ,rfl,h2,h3,_⟩:=h1 _ _ _ hg
   exact Qc2 hs hg hρ hl h2 h3
theorem Qdi{P:Program}{N:Nat}{base:Bs×Fence}{ops:Array Oper}{F:Fence}{n:Nat}(hF:WF F){Qx:Exit->Act->World->Prop}{KK:Act->World->Prop}{tr:List Tr}{tm0:Nat->AV}{h0:AH}{A:Nat->Nat->Prop}(hruns:Runs P N ops tr tm0 h0)
  (hpw:tr.Pairwise (fun a b=>clash ops a.o b.o a.c b.c=true->A a.i b.i)) (hnd:(tr.map (·.i)).Nodup) (hkind:∀t∈tr,kindOk t.o t.c=true)
  {listed:Array Bool} {c:Cx} {a:Act} {i:Nat} {t:Tr} (hi:i∈Region.ready .any ops listed) (ht:t∈tr) (hti:t.i=i) (hsz:listed.size=ops.size)
  (hA:∀i j,A i j->listed.getD j false=true->listed.getD i false=true) (hA':∀i' j,A i' j->(listed.setIfInBounds i true).getD j false=true->(listed.setIfInBounds i true).getD i' false=true)
  (hst:St c) (hr:SR N base c ⟨tmS N (fun i=>listed.getD i false) tr tm0,hS (fun i=>listed.getD i false) tr h0⟩ a)
  (hnext:∀c' a',Ev c c'->St c'->SR N base c' ⟨tmS N (fun j=>(listed.setIfInBounds i true).getD j false) tr tm0,hS (fun j=>(listed.setIfInBounds i true).getD j false) tr h0⟩ a'->KK a' c'.w) :
  wpOpIn F n P ops Qx i KK a c.w:=by
 obtain⟨h1,o,ho,hedge⟩:=mem_ready.1 hi
 have hlt:i<ops.size:=(QwX.1 ho).1
 have hSi:listed.getD i false=false:=by
  rw[QwW,Qw0 (by omega)]at h1 ⊢
  simpa using h1
 subst hti
 obtain⟨pre,post,htr⟩:=List.append_of_mem ht
 have hto:t.o=o:=by
  have:=QcM hruns t ht
  rw[ho]at this;cases this;rfl
 subst hto
 -- the set with it
 have hS':∀j,(listed.setIfInBounds t.i true).getD j false=(decide (j=t.i)||listed.getD j false):=fun j=>Qas (by omega)
 have hanc:∀j,A j t.i->j≠t.i->listed.getD j false=true:=fun j hj hne=>by
  have h2:(listed.setIfInBounds t.i true).getD j false=true:=hA' _ _ hj (by rw[hS'];simp)
  rw[hS']at h2
  simpa [hne]using h2
 have hnot:∀j,A t.i j->listed.getD j false=false:=fun j hj=>by
  cases hb:listed.getD j false with
  |false=>rfl
  |true=>have:=hA _ _ hj hb;rw[hSi]at this;cases this
 -- the others
 have hne:∀b,b∈pre\/b∈post->b.i≠t.i:=by
  rw[htr]at hnd
  simp only[Qxs,Qv4]at hnd
  obtain⟨n1,n2,n3⟩:=List.nodup_append.1 hnd
  intro b hb e
  rcases hb with hb|hb
  ·exact n3 b.i (Qxa.2 ⟨b,hb,rfl⟩) t.i (by simp) e
  ·exact(QyE.1 n2).1 (Qxa.2 ⟨b,hb,e⟩)
 rw[htr]at hpw
 obtain⟨p1,p2,p3⟩:=List.pairwise_append.1 hpw
 obtain⟨p4,p5⟩:=Qys.1 p2
 have hpre:∀b∈pre,clash ops b.o t.o b.c t.c=true->listed.getD b.i false=true:=fun b hb hcl=>hanc _ (p3 b hb t (by simp) hcl) (hne b (.inl hb))
 have hpost:∀b∈post,clash ops t.o b.o t.c b.c=true->listed.getD b.i false=false:=fun b hb hcl=>hnot _ (p4 b hb hcl)
 have hsame:∀b,b∈pre\/b∈post->(listed.setIfInBounds t.i true).getD b.i false=listed.getD b.i false:=fun b hb=>by
  rw[hS'];simp[hne b hb]
 -- what it looks at
 have hsplit:=hruns
 rw[htr]at hsplit
 have hs2:=Runs.split hsplit
 have hstep:StepA P ops (tmS N (fun _=>true) pre tm0) (hS (fun _=>true) pre h0) t.c t.o t.r t.h':=by cases hs2 with|cons _ _ _ _ _ _ hs _=>exact hs
 have hk:kindOk t.o t.c=true:=hkind t ht
 have hreads:∀x∈readsOf ops t.o,tmS N (fun i=>listed.getD i false) tr tm0 x=tmS N (fun _=>true) pre tm0 x:=by
  intro x hx
  rw[htr,Qa8,ZQ]
  ·refine Qax rfl fun b hb hbd=>hpre b hb ?_
   unfold clash;rw[hbd];simp[hx]
  ·intro b hb hbS hbd
   rcases QwS.1 hb with rfl|hb
   ·rw[hSi]at hbS;cases hbS
   ·rw[hpost b hb (by unfold clash;rw[hbd];simp[hx])]at hbS;cases hbS
 have hclash2:∀b∈pre,2<=b.c->t.c≠1->listed.getD b.i false=true:=fun b hb h2 ht1=>hpre b hb (by unfold clash;simp[h2,ht1])
 have hheapPre:t.c≠1->hS (fun i=>listed.getD i false) pre h0=hS (fun _=>true) pre h0:=fun ht1=>Qbn fun b hb h2=>hclash2 b hb h2 ht1
 have hh:(2<=t.c/\hS (fun i=>listed.getD i false) tr h0=hS (fun _=>true) pre h0)\/(t.c<2/\(t.c=1\/Keep (hS (fun _=>true) pre h0) (hS (fun i=>listed.getD i false) tr h0))):=by
  by_cases hc2:2<=t.c
  ·refine .inl ⟨hc2,?_⟩
   rw[htr,QbA,Qa3,hheapPre (by omega)]
   intro b hb hbc
   rcases QwS.1 hb with rfl|hb
   ·exact hSi
   ·have h1:b.c≠1:=by omega
    exact hpost b hb (by unfold clash;simp[hc2,h1])
  ·refine .inr ⟨by omega,?_⟩
   by_cases hc1:t.c=1
   ·exact .inl hc1
   ·refine .inr ?_
    rw[htr,QbA,hheapPre hc1]
    refine Runs.keep hs2 ?_ ?_
    ·intro b hb hbc hbS
     rcases QwS.1 hb with rfl|hb
     ·exact(hc2 hbc).elim
     ·cases hadd:((Qdh b.o.op&&b.c != 4)||b.c==3)with
      |true=>rfl
      |false =>
       rw[hpost b hb (by unfold clash;rw[hadd];simp[hc1,hc2,hbc])]at hbS;cases hbS
    ·refine p2.imp ?_
     intro x y hxy hx hy hyS
     have h1:y.c≠1:=by omega
     exact hA _ _ (hxy (by unfold clash;simp[hx,h1])) hyS
 -- the state behind it
 have hpreS:tmS N (fun i=>(listed.setIfInBounds t.i true).getD i false) pre tm0=tmS N (fun i=>listed.getD i false) pre tm0:=funext fun x=>Qax rfl fun b hb _=>hsame b (.inl hb)
 have hpreH:hS (fun i=>(listed.setIfInBounds t.i true).getD i false) pre h0=hS (fun i=>listed.getD i false) pre h0:=Qbn fun b hb _=>hsame b (.inl hb)
 have hSt:(listed.setIfInBounds t.i true).getD t.i false=true:=by rw[hS'];simp
 have hstm:tmS N (fun i=>(listed.setIfInBounds t.i true).getD i false) tr tm0=putT N (tmS N (fun i=>listed.getD i false) tr tm0) t.o.dst t.r:=by
  funext x
  rw[htr,Qa8,Qa8,hpreS]
  simp only[tmS,hSt,hSi,QxP,QvT,QxC]
  by_cases hdx:t.o.dst=some x
  ·have hskip:∀b∈post,b.o.dst=some x->listed.getD b.i false=false:=fun b hb hbd=>hpost b hb (by unfold clash;rw[hdx,hbd];simp)
   rw[ZQ (fun b hb hbS hbd=>by rw[hsame b (.inr hb),hskip b hb hbd]at hbS;cases hbS)]
   have e:=ZQ (N:=N) (S:=fun i=>listed.getD i false) (x:=x) (l:=post) (f:=tmS N (fun i=>listed.getD i false) pre tm0) (fun b hb hbS hbd=>by rw[hskip b hb hbd]at hbS;cases hbS)
   exact Qeb (fun _=>e.symm) (.inl e.symm)
  ·rw[Qec hdx]
   exact Qax (Qec hdx) fun b hb _=>hsame b (.inr hb)
 have hshp:hS (fun i=>(listed.setIfInBounds t.i true).getD i false) tr h0=if 2<=t.c then t.h' else hS (fun i=>listed.getD i false) tr h0:=by
  rw[htr,QbA,QbA,hpreH]
  simp only[hS,hSt,hSi,Qwz,Qx4,QvT,QxC,Qw1]
  by_cases hc2:2<=t.c
  ·rw[QwN hc2,QwN hc2]
   refine Qa3 fun b hb hbc=>?_
   rw[hsame b (.inr hb)]
   have h1:b.c≠1:=by omega
   exact hpost b hb (by unfold clash;simp[hc2,h1])
  ·rw[QwJ hc2,QwJ hc2]
   exact Qbn fun b hb _=>hsame b (.inr hb)
 have next:∀c' a',Ev c c'->St c'->SR N base c' (AS.put N ⟨tmS N (fun i=>listed.getD i false) tr tm0,if 2<=t.c then t.h' else hS (fun i=>listed.getD i false) tr h0⟩ t.o.dst t.r) a' ->
   KK a' c'.w:=by
  intro c' a' hev hst' hr'
  rw[put_eq,<-hstm,<-hshp]at hr'
  exact hnext c' a' hev hst' hr'
 unfold wpOpIn
 simp only[ho]
 rcases hstep.turn hk hreads hh N with⟨hw,hru,hhe⟩|⟨hw,hop|hop⟩
 ·rw[Xt hr hw]
  simp only[QvT,QxC]
  refine⟨fun f _=>hF.fn f,?_⟩
  have hr':=hr.put hst (Ev.refl c) t.o.dst (.v undef)
  rw[hr.h]at hr'
  refine next c _ (Ev.refl c) hst ?_
  rw[hhe,hru]
  exact hr'
 ·rw[Xt hr hw]
  simp only[QxP]
  refine Qcm (hop (fun s'=>s'=AS.put N ⟨tmS N (fun i=>listed.getD i false) tr tm0,if 2<=t.c then t.h' else hS (fun i=>listed.getD i false) tr h0⟩ t.o.dst t.r) (fun _ _=>False) rfl) hF hst hr ?_ ?_
  ·intro s' c' a' hs hev hst' hr'
   subst hs
   exact next c' a' hev hst' hr'
  ·intro r s' c' x hf
   exact hf.elim
 ·rw[Xt hr hw]
  simp only[QxP]
  refine Qhj (K:=fun s'=>s'=AS.put N ⟨tmS N (fun i=>listed.getD i false) tr tm0,if 2<=t.c then t.h' else hS (fun i=>listed.getD i false) tr h0⟩ t.o.dst t.r) hop rfl hF hst hr ?_
  intro s' c' a' hs hev hst' hr'
  subst hs
  exact next c' a' hev hst' hr'
def AncX(ops:Array Oper)(x y i j:Nat):Prop:=Anc ops i j\/((i=x\/Anc ops i x)/\(j=y\/Anc ops y j))
theorem AncX.good{ops:Array Oper}{x y:Nat}{S:Nat->Bool}(hd:Down ops S)(hxy:S y=true->S x=true){i j:Nat}(h:AncX ops x y i j)(hj:S j=true):S i=true:=by
 rcases h with h|⟨h1,h2⟩
 ·exact hd.anc h hj
 ·have hy:S y=true:=by
   rcases h2 with rfl|h2
   ·exact hj
   ·exact hd.anc h2 hj
  rcases h1 with rfl|h1
  ·exact hxy hy
  ·exact hd.anc h1 (hxy hy)
structure FitX (ops:Array Oper) (x y:Nat) (tr:List Tr):Prop where
 len:tr.length=ops.size
 pairs:tr.Pairwise (fun a b=>clash ops a.o b.o a.c b.c=true->AncX ops x y a.i b.i)
 topo:topo ops [] (tr.map fun t=>(t.i,t.c))=true
 nodup:(tr.map (·.i)).Nodup
 all:∀i,i<ops.size->∃t∈tr,t.i=i
 kind:∀t∈tr,kindOk t.o t.c=true
theorem Qfx{ops:Array Oper}{listed:Array Bool}{i:Nat}(hsz:listed.size=ops.size)(hd:Down ops (fun j=>listed.getD j false))(hi:i∈Region.ready .any ops listed):Down ops (fun j=>(listed.setIfInBounds i true).getD j false):=by
 obtain⟨h1,o,ho,hedge⟩:=mem_ready.1 hi
 have hlt:i<ops.size:=(QwX.1 ho).1
 have hS':∀j,(listed.setIfInBounds i true).getD j false=(decide (j=i)||listed.getD j false):=fun j=>Qas (by omega)
 intro j oj hoj hj e he hb
 dsimp only at hj ⊢
 rw[hS']at hj ⊢
 by_cases hji:j=i
 ·subst hji
  rw[ho]at hoj;cases hoj
  rw[hedge e he hb];simp
 ·have:listed.getD j false=true:=by simpa [hji]using hj
  have h2:listed.getD e.on false=true:=hd j oj hoj this e he hb
  rw[h2];simp
theorem QdV{ops:Array Oper}{listed:Array Bool}{i fuel:Nat}{tr:List Tr}(hsz:listed.size=ops.size)(hall:∃t∈tr,t.i=i)(hi:i∈Region.ready .any ops listed)(hc:tr.countP (fun t=>!listed.getD t.i false)<=fuel+1) :
  tr.countP (fun u=>!(listed.setIfInBounds i true).getD u.i false)<=fuel:=by
 obtain⟨h1,o,ho,_⟩:=mem_ready.1 hi
 have hlt:i<ops.size:=(QwX.1 ho).1
 have hS':∀j,(listed.setIfInBounds i true).getD j false=(decide (j=i)||listed.getD j false):=fun j=>Qas (by omega)
 have hSi:listed.getD i false=false:=by
  rw[QwW,Qw0 (by omega)]at h1 ⊢
  simpa using h1
 obtain⟨t,ht,rfl⟩:=hall
 obtain⟨pre,post,rfl⟩:=List.append_of_mem ht
 have le:∀l:List Tr,l.countP (fun u=>!(listed.setIfInBounds t.i true).getD u.i false)<=l.countP (fun u=>!listed.getD u.i false):=fun l =>
  List.countP_mono_left fun u _ hu=>by rw[hS']at hu;revert hu;cases listed.getD u.i false <;> simp
 have l1:=le pre
 have l2:=le post
 simp only[List.countP_append,List.countP_cons,hS' t.i,hSi,Qwl,Qx8,Qwc,Qwd,QvT,QxC,QxP]at hc ⊢
 omega
theorem QeP{N:Nat}{base:Bs×Fence}{Qx:Exit->Act->World->Prop}{tr:List Tr}{tm0:Nat->AV}{h0:AH}{listed:Array Bool}{c:Cx}{a:Act}(hst:St c)
  (hr:SR N base c ⟨tmS N (fun i=>listed.getD i false) tr tm0,hS (fun i=>listed.getD i false) tr h0⟩ a)
  (hQ:∀c' a',Ev c c'->St c'->SR N base c' ⟨tmS N (fun _=>true) tr tm0,hS (fun _=>true) tr h0⟩ a'->Qx .normal a' c'.w) (hl:∀t∈tr,listed.getD t.i false=true):Qx .normal a c.w:=by
 refine hQ c a (Ev.refl c) hst ?_
 have e1:tmS N (fun i=>listed.getD i false) tr tm0=tmS N (fun _=>true) tr tm0:=funext fun x=>Qax rfl fun t ht _=>hl t ht
 have e2:hS (fun i=>listed.getD i false) tr h0=hS (fun _=>true) tr h0:=Qbn fun t ht _=>hl t ht
 rw[e1,e2]at hr
 exact hr
theorem any_zero{ops:Array Oper}{listed:Array Bool}{tr:List Tr}(hsz:listed.size=ops.size)(hall:∀i,i<ops.size->∃t∈tr,t.i=i)(hl:∀t∈tr,listed.getD t.i false=true):Region.ready .any ops listed=[]:=by
 cases hrd:Region.ready .any ops listed with
 |nil=>rfl
 |cons i l =>
  have hi:i∈Region.ready .any ops listed:=by rw[hrd];simp
  obtain⟨h1,o,ho,_⟩:=mem_ready.1 hi
  have hlt:i<ops.size:=(QwX.1 ho).1
  obtain⟨t,ht,rfl⟩:=hall i hlt
  have:=hl t ht
  rw[QwW,Qw0 (by omega)]at this h1
  simp only[Qyo]at this h1
  rw[this]at h1;cases h1
theorem Runs.append{P:Program}{N:Nat}{ops:Array Oper}:∀{l m:List Tr} {tm:Nat->AV} {h:AH},Runs P N ops l tm h->Runs P N ops m (tmS N (fun _=>true) l tm) (hS (fun _=>true) l h)->Runs P N ops (l++m) tm h
 |[],m,tm,h,_,H=>H
 |t::l,m,tm,h,H,H2=>by
  cases H with
  |cons t l tm h ho hk hs hl =>
   refine .cons t (l++m) tm h ho hk hs (Runs.append hl ?_)
   simpa only[tmS,hS,QxP,Qwz,Qw1]using H2
def behind(ops:Array Oper)(x y i:Nat):Bool:=i==x||i==y||((masks ops.toList []).getD i 0).testBit x||((masks ops.toList []).getD i 0).testBit y
def Qoh(ops:Array Oper)(π:List (Nat×Nat)):Bool:=π.all fun p=>match ops[p.1]? with|some o=>kindOk o p.2|none=>false
end Go.Proofs.YtenheconhibonaaGreatDoor.Ab
namespace Go.Proofs.YtenheconhibonaaGreatDoor.Ab
inductive Alt where
 |done
 |stop
 |alt (i c:Nat) (sub more:Alt)
section
variable(P:Program)(N:Nat)(ops:Array Oper)(K:AS->Prop)(s:AS)
end
theorem Yt{P:Program}{N:Nat}{x y:Code}{Q:AExit->AS->Prop}{s:AS}(J:AS->Prop)(h1:∀s,J s->XO P N y Q s)(h2:XO P N x (AExit.then J Q) s):XO P N (.seq x y) Q s:=by
 refine Qaz (h2.mono fun e s' hq=>?_)
 cases e with
 |normal=>exact h1 s' hq
 |_=>exact hq
end Go.Proofs.YtenheconhibonaaGreatDoor.Ab
namespace Go.Proofs.YtenheconhibonaaGreatDoor.Ab
class CT where
 c:Code
 q:AExit->AS->Prop
def KW(P:Program)(N:Nat)[t:CT](s:AS):Prop:=match t with|⟨c,q⟩=>XO P N c q s
def Qde(P:Program)(N:Nat)[t:CT]:AExit->AS->Prop:=match t with|⟨c,q⟩=>AExit.then (XO P N c q) q
class PT where
 q:AExit->AS->Prop
def PanE[t:PT](r:AV)(s:AS):Prop:=match t with|⟨q⟩=>q (.panic r) s
def NorE[t:PT](s:AS):Prop:=match t with|⟨q⟩=>q .normal s
class LT where
 h:AH
 q:AOut->AH->Prop
def QjY[t:LT](h':AH)(r:AV):Prop:=match t with|⟨h,q⟩=>Leaves h h' r fun r h'=>q (.ret r) h'
def Qrh[t:LT](h':AH)(r:AV):Prop:=match t with|⟨h,q⟩=>Leaves h h' r fun r h'=>q (.panic r) h'
def NW(P:Program)(N:Nat):Code->(AExit->AS->Prop)->AS->Prop
 | .seq (.region _ ops false) y,Q,s=>OpsW P N ops ops.toList (@KW P N ⟨y,Q⟩) (@PanE ⟨Q⟩) s
 | .seq x y,Q,s=>@KW P N ⟨x,@Qde P N ⟨y,Q⟩⟩ s
 | .region _ ops false,Q,s=>OpsW P N ops ops.toList (@NorE ⟨Q⟩) (@PanE ⟨Q⟩) s
 | .block iD x,Q,s=>@KW P N ⟨x,(AExit.inBlock iD Q)⟩ s
 | .scope x,Q,s=>@KW P N ⟨x,Q⟩ s
 | .skip,Q,s=>Q .normal s
 | .label _,Q,s=>Q .normal s
 | .exit iD,Q,s=>Q (.exit iD) s
 | .ret,Q,s=>Q .ret s
 | .cond o x y,Q,s=>∃t,s.ev o = .v (.bool t)/\@KW P N ⟨(if t then x else y),Q⟩ s
 |c,Q,s=>XO P N c Q s
theorem Qn{P:Program}{N:Nat}{c:Code}{Q:AExit->AS->Prop}{s:AS}(h:NW P N c Q s):XO P N c Q s:=by
 unfold NW at h
 split at h
 ·exact Qaz (Qbc h)
 ·exact Qaz h
 ·exact Qbc h
 ·exact Qj h
 ·exact Qfr h
 ·exact Qw h
 ·exact Qc4 h
 ·exact Q3 h
 ·exact Qp h
 ·obtain⟨t,h1,h2⟩:=h;exact Qi h1 h2
 ·exact h
section
variable(P:Program)(N:Nat)(Q:AExit->AS->Prop)(s:AS)(x y:Code)(iD:Nat)(ops:Array Oper)
@[go_sem ↓] theorem QuU:NW P N (.seq (.region iD ops false) y) Q s=OpsW P N ops ops.toList (@KW P N ⟨y,Q⟩) (@PanE ⟨Q⟩) s:=id rfl
@[go_sem ↓] theorem QuJ (a b:Code):NW P N (.seq (.seq a b) y) Q s=@KW P N ⟨(.seq a b),@Qde P N ⟨y,Q⟩⟩ s:=id rfl
@[go_sem ↓] theorem QuK  : NW P N (.seq (.block iD x) y) Q s=@KW P N ⟨(.block iD x),@Qde P N ⟨y,Q⟩⟩ s:=id rfl
@[go_sem ↓] theorem QuL (o:Operand) (a b:Code):NW P N (.seq (.cond o a b) y) Q s=@KW P N ⟨(.cond o a b),@Qde P N ⟨y,Q⟩⟩ s:=id rfl
@[go_sem ↓] theorem QuM  : NW P N (.seq (.loop x) y) Q s=@KW P N ⟨(.loop x),@Qde P N ⟨y,Q⟩⟩ s:=id rfl
@[go_sem ↓] theorem QuN  : NW P N (.seq (.scope x) y) Q s=@KW P N ⟨(.scope x),@Qde P N ⟨y,Q⟩⟩ s:=id rfl
@[go_sem ↓] theorem QuO  : NW P N (.seq .skip y) Q s=@KW P N ⟨.skip,@Qde P N ⟨y,Q⟩⟩ s:=id rfl
@[go_sem ↓] theorem QuP (l:Nat):NW P N (.seq (.label l) y) Q s=@KW P N ⟨(.label l),@Qde P N ⟨y,Q⟩⟩ s:=id rfl
@[go_sem ↓] theorem QuQ (f:Operand) (ps:Array Tmp) (a b:Code):NW P N (.seq (.rangeFunc f ps a b) y) Q s=@KW P N ⟨(.rangeFunc f ps a b),@Qde P N ⟨y,Q⟩⟩ s:=id rfl
@[go_sem ↓] theorem QuR  : NW P N (.seq (.region iD ops true) y) Q s=@KW P N ⟨(.region iD ops true),@Qde P N ⟨y,Q⟩⟩ s:=id rfl
@[go_sem ↓] theorem Qug:@Qde P N ⟨y,Q⟩ .normal s=@KW P N ⟨y,Q⟩ s:=id rfl
@[go_sem ↓] theorem Qui:@Qde P N ⟨y,Q⟩ .ret s=Q .ret s:=id rfl
@[go_sem ↓] theorem Quf:@Qde P N ⟨y,Q⟩ (.exit iD) s=Q (.exit iD) s:=id rfl
@[go_sem ↓] theorem Quh (r:AV):@Qde P N ⟨y,Q⟩ (.panic r) s=Q (.panic r) s:=id rfl
@[go_sem ↓] theorem QuD (r:AV):@PanE ⟨Q⟩ r s=Q (.panic r) s:=id rfl
@[go_sem ↓] theorem QuC:@NorE ⟨Q⟩ s=Q .normal s:=id rfl
@[go_sem ↓] theorem nw_r:NW P N (.region iD ops false) Q s=OpsW P N ops ops.toList (@NorE ⟨Q⟩) (@PanE ⟨Q⟩) s:=id rfl
@[go_sem ↓] theorem nw_b:NW P N (.block iD x) Q s=@KW P N ⟨x,(AExit.inBlock iD Q)⟩ s:=id rfl
@[go_sem ↓] theorem QuS:NW P N (.scope x) Q s=@KW P N ⟨x,Q⟩ s:=id rfl
@[go_sem ↓] theorem QuT:NW P N .skip Q s=Q .normal s:=id rfl
@[go_sem ↓] theorem QuH (l:Nat):NW P N (.label l) Q s=Q .normal s:=id rfl
@[go_sem ↓] theorem QuG:NW P N (.exit iD) Q s=Q (.exit iD) s:=id rfl
@[go_sem ↓] theorem QuI:NW P N .ret Q s=Q .ret s:=id rfl
@[go_sem ↓] theorem QuF {o:Operand} (h:s.ev o = .v (.bool true)):NW P N (.cond o x y) Q s=@KW P N ⟨x,Q⟩ s:=by
 simp only[NW,h];exact propext ⟨fun⟨_,e,k⟩=>by cases e;exact k,fun k=>⟨true,rfl,k⟩⟩
@[go_sem ↓] theorem QuE {o:Operand} (h:s.ev o = .v (.bool false)):NW P N (.cond o x y) Q s=@KW P N ⟨y,Q⟩ s:=by
 simp only[NW,h];exact propext ⟨fun⟨_,e,k⟩=>by cases e;exact k,fun k=>⟨false,rfl,k⟩⟩
end
section
variable(P:Program)(rs:List ResultVar)(h:AH)(Q:AOut->AH->Prop)(s:AS)
@[go_sem ↓] theorem Quz:QS P rs h Q .normal s=∃r,Qq P s rs=some r/\@QjY ⟨h,Q⟩ s.h r:=id rfl
@[go_sem ↓] theorem QuB:QS P rs h Q .ret s=∃r,Qq P s rs=some r/\@QjY ⟨h,Q⟩ s.h r:=id rfl
@[go_sem ↓] theorem QuA (x:AV):QS P rs h Q (.panic x) s=@Qrh ⟨h,Q⟩ s.h x:=id rfl
end
class OCt where
 ops:Array Oper
 l:List Oper
 k:AS->Prop
 e:AV->AS->Prop
section
variable{P:Program}{N:Nat}{Q:AExit->AS->Prop}{s:AS}{y:Code}{iD:Nat}{ops:Array Oper}{l:List Oper}{K0:AS->Prop}{E:AV->AS->Prop}
end
class JT where
 j:AS->Prop
def Hold[t:JT](s:AS):Prop:=match t with|⟨j⟩=>j s
theorem QiK{P:Program}{N:Nat}{x y:Code}{Q:AExit->AS->Prop}{s:AS}(J:AS->Prop)(h1:∀s,J s->XO P N y Q s)(h2:XO P N x (AExit.then (@Hold ⟨J⟩) Q) s):XO P N (.seq x y) Q s:=Yt J h1 h2
section
variable(K:AS->Prop)(Q:AExit->AS->Prop)(s:AS)(i:Nat)(x:AV)
@[go_sem ↓] theorem Quk:AExit.then K Q .normal s=K s:=id rfl
@[go_sem ↓] theorem Qum:AExit.then K Q .ret s=Q .ret s:=id rfl
@[go_sem ↓] theorem Quj:AExit.then K Q (.exit i) s=Q (.exit i) s:=id rfl
@[go_sem ↓] theorem Qul:AExit.then K Q (.panic x) s=Q (.panic x) s:=id rfl
@[go_sem ↓] theorem Qty:AExit.inBlock i Q .normal s=Q .normal s:=id rfl
@[go_sem ↓] theorem QtA:AExit.inBlock i Q .ret s=Q .ret s:=id rfl
@[go_sem ↓] theorem Qtz:AExit.inBlock i Q (.panic x) s=Q (.panic x) s:=id rfl
end
@[go_sem ↓] theorem Qsz (i:Nat) (Q:AExit->AS->Prop) (s:AS):AExit.inBlock i Q (.exit i) s=Q .normal s:=QwN rfl
@[go_sem ↓] theorem Qst {i j:Nat} (Q:AExit->AS->Prop) (s:AS) (h:(j==i)=false):AExit.inBlock i Q (.exit j) s=Q (.exit j) s:=QwJ (by simpa using h)
attribute [go_sem ↓] QwN QwJ Q1 YH Q5 YT Xw Qah Yc Zi Qtb Ya Qtc Qs9 Qta Xv YM QoW Qr3
attribute [go_sem] XQ Xz Yo Qh Qe Qwv Qww QcX Qar Qbm Qg QX Qu QC QI XM Qan Yq YK X9 Qbp Qr List.getD_cons_zero List.getD_cons_succ Qo Q6 XV ZA XH Zy ZM Qaq Zz QD Xx Yn ZG Ze ZE ZO Qat ZF List.all_cons List.all_nil QE Y0 QA QM Zw Xi Yj X4 QP Zx XG Zu ZL Qap Zv Bool.and_self Bool.and_true Qwz Bool.not_true Bool.not_false Qv2 Qv3 Qv1 Qwe true_and and_true and_self Q8 hget Yd hset hlen happ QvP QvQ List.getElem?_nil List.set_cons_zero List.set_cons_succ Option.map_some Option.map_none Option.bind_some Option.bind_none Option.some.injEq List.toList_toArray List.getElem?_toArray List.map_cons List.map_nil Qwh Qwg Qwi List.take_succ_cons List.take_zero List.drop_succ_cons Qv6 decide_true decide_false beq_self_eq_true bne_self_eq_false Int.toNat_natCast Int.toNat_zero Int.toNat_one Int.natCast_nonneg Int.ofNat_lt Int.ofNat_le Int.natCast_zero Bool.false_eq_true Bool.true_eq_false beq_true beq_false rng0 rng1 rng2 rng3 rng4 rng5 rng6 rng7 rng8 Xg Qw3 QxW T.QuV T.QuY QK Xn Qk OpW Q7 aop undef Qa4 AS.ev QG AV.QuX Qm QQ QR Xf QY QJ aBin Qk9 Y5 Zs ZR QW aLen Y4 Zj goInt Q2 QcS Qq Qz List.drop_nil List.take_nil exists_eq_left' Qx3 List.mapM_nil Option.pure_def Option.bind_eq_bind Int.sub_zero Int.le_refl Qaj Zk
end Go.Proofs.YtenheconhibonaaGreatDoor.Ab
namespace Go.Proofs.YtenheconhibonaaGreatDoor.Ab
open Go.Proofs
theorem ti0:Xy Tryz.prog 0=some (false,1):=by kernel_rfl
theorem zi0:XF Tryz.prog 0=some (.v (.tuple #[])):=by kernel_rfl
theorem ti1:Xy Tryz.prog 1=some (false,1):=by kernel_rfl
theorem zi1:XF Tryz.prog 1=some (.v .nilFunc):=by kernel_rfl
theorem ti3:Xy Tryz.prog 3=some (false,1):=by kernel_rfl
theorem zi3:XF Tryz.prog 3=some (.v (.int .i64 0)):=by kernel_rfl
theorem un3:Program.underlying Tryz.prog 3=some (.int .i64):=by kernel_rfl
theorem ti4:Xy Tryz.prog 4=some (false,1):=by kernel_rfl
theorem zi4:XF Tryz.prog 4=some (.v (.bool false)):=by kernel_rfl
theorem un4:Program.underlying Tryz.prog 4=some .bool:=by kernel_rfl
theorem ti5:Xy Tryz.prog 5=some (false,1):=by kernel_rfl
theorem zi5:XF Tryz.prog 5=some (.v (.int .u8 0)):=by kernel_rfl
theorem un5:Program.underlying Tryz.prog 5=some (.int .u8):=by kernel_rfl
theorem ti9:Xy Tryz.prog 9=some (false,1):=by kernel_rfl
theorem ei9:Xp Tryz.prog 9=none:=by kernel_rfl
theorem zi9:XF Tryz.prog 9=some (.v (.string ⟨#[]⟩)):=by kernel_rfl
theorem un9:Program.underlying Tryz.prog 9=some .string:=by kernel_rfl
theorem ti22:Xy Tryz.prog 22=some (false,1):=by kernel_rfl
theorem ei22:Xp Tryz.prog 22=some (66,2):=by kernel_rfl
theorem ai22:appInfo Tryz.prog 22 22=some ⟨66,2,40⟩:=by kernel_rfl
theorem zi22:XF Tryz.prog 22=some (.v (.slice none 0 0)):=by kernel_rfl
theorem un22:Program.underlying Tryz.prog 22=some (.slice 66):=by kernel_rfl
theorem ti23:Xy Tryz.prog 23=some (false,1):=by kernel_rfl
theorem ei23:Xp Tryz.prog 23=some (53,3):=by kernel_rfl
theorem ai23:appInfo Tryz.prog 23 23=some ⟨53,3,48⟩:=by kernel_rfl
theorem zi23:XF Tryz.prog 23=some (.v (.slice none 0 0)):=by kernel_rfl
theorem un23:Program.underlying Tryz.prog 23=some (.slice 53):=by kernel_rfl
theorem ti25:Xy Tryz.prog 25=some (true,6):=by kernel_rfl
theorem QaD:fieldInfo Tryz.prog 25 0=some (0,9):=by kernel_rfl
theorem QcY:fieldInfo Tryz.prog 25 1=some (1,22):=by kernel_rfl
theorem QcZ:fieldInfo Tryz.prog 25 2=some (2,22):=by kernel_rfl
theorem QaN:fieldInfo Tryz.prog 25 3=some (3,23):=by kernel_rfl
theorem QaX:fieldInfo Tryz.prog 25 4=some (4,23):=by kernel_rfl
theorem QqU:fieldInfo Tryz.prog 25 5=some (5,3):=by kernel_rfl
theorem zi25:XF Tryz.prog 25=some (.agg [.v (.string ⟨#[]⟩),.v (.slice none 0 0),.v (.slice none 0 0),.v (.slice none 0 0),.v (.slice none 0 0),.v (.int .i64 0)]):=by kernel_rfl
theorem sp25:XA Tryz.prog 25=some [(0,1),(1,1),(2,1),(3,1),(4,1),(5,1)]:=by kernel_rfl
theorem ti27:Xy Tryz.prog 27=some (false,1):=by kernel_rfl
theorem ei27:Xp Tryz.prog 27=some (25,6):=by kernel_rfl
theorem ai27:appInfo Tryz.prog 27 27=some ⟨25,6,120⟩:=by kernel_rfl
theorem un27:Program.underlying Tryz.prog 27=some (.slice 25):=by kernel_rfl
theorem ti33:Xy Tryz.prog 33=some (false,1):=by kernel_rfl
theorem ei33:Xp Tryz.prog 33=some (38,2):=by kernel_rfl
theorem ai33:appInfo Tryz.prog 33 33=some ⟨38,2,24⟩:=by kernel_rfl
theorem un33:Program.underlying Tryz.prog 33=some (.slice 38):=by kernel_rfl
theorem ti35:Xy Tryz.prog 35=some (true,2):=by kernel_rfl
theorem Qes:fieldInfo Tryz.prog 35 0=some (0,33):=by kernel_rfl
theorem QgW:fieldInfo Tryz.prog 35 1=some (1,27):=by kernel_rfl
theorem zi35:XF Tryz.prog 35=some (.agg [.v (.slice none 0 0),.v (.slice none 0 0)]):=by kernel_rfl
theorem sp35:XA Tryz.prog 35=some [(0,1),(1,1)]:=by kernel_rfl
theorem ti38:Xy Tryz.prog 38=some (true,2):=by kernel_rfl
theorem QiQ:fieldInfo Tryz.prog 38 0=some (0,9):=by kernel_rfl
theorem QiR:fieldInfo Tryz.prog 38 1=some (1,3):=by kernel_rfl
theorem zi38:XF Tryz.prog 38=some (.agg [.v (.string ⟨#[]⟩),.v (.int .i64 0)]):=by kernel_rfl
theorem sp38:XA Tryz.prog 38=some [(0,1),(1,1)]:=by kernel_rfl
theorem ti42:Xy Tryz.prog 42=some (false,1):=by kernel_rfl
theorem ei42:Xp Tryz.prog 42=some (3,1):=by kernel_rfl
theorem ai42:appInfo Tryz.prog 42 42=some ⟨3,1,8⟩:=by kernel_rfl
theorem zi42:XF Tryz.prog 42=some (.v (.slice none 0 0)):=by kernel_rfl
theorem un42:Program.underlying Tryz.prog 42=some (.slice 3):=by kernel_rfl
theorem ti44:Xy Tryz.prog 44=some (false,1):=by kernel_rfl
theorem ei44:Xp Tryz.prog 44=some (69,4):=by kernel_rfl
theorem ai44:appInfo Tryz.prog 44 44=some ⟨69,4,56⟩:=by kernel_rfl
theorem zi44:XF Tryz.prog 44=some (.v (.slice none 0 0)):=by kernel_rfl
theorem un44:Program.underlying Tryz.prog 44=some (.slice 69):=by kernel_rfl
theorem ti48:Xy Tryz.prog 48=some (false,1):=by kernel_rfl
theorem ei48:Xp Tryz.prog 48=some (9,1):=by kernel_rfl
theorem ai48:appInfo Tryz.prog 48 48=some ⟨9,1,16⟩:=by kernel_rfl
theorem zi48:XF Tryz.prog 48=some (.v (.slice none 0 0)):=by kernel_rfl
theorem un48:Program.underlying Tryz.prog 48=some (.slice 9):=by kernel_rfl
theorem ti49:Xy Tryz.prog 49=some (false,1):=by kernel_rfl
theorem zi49:XF Tryz.prog 49=some (.v (.int .i64 0)):=by kernel_rfl
theorem un49:Program.underlying Tryz.prog 49=some (.int .i64):=by kernel_rfl
theorem ti53:Xy Tryz.prog 53=some (true,3):=by kernel_rfl
theorem YG:fieldInfo Tryz.prog 53 0=some (0,3):=by kernel_rfl
theorem QaY:fieldInfo Tryz.prog 53 1=some (1,9):=by kernel_rfl
theorem ZC:fieldInfo Tryz.prog 53 2=some (2,44):=by kernel_rfl
theorem zi53:XF Tryz.prog 53=some (.agg [.v (.int .i64 0),.v (.string ⟨#[]⟩),.v (.slice none 0 0)]):=by kernel_rfl
theorem sp53:XA Tryz.prog 53=some [(0,1),(1,1),(2,1)]:=by kernel_rfl
theorem ti66:Xy Tryz.prog 66=some (true,2):=by kernel_rfl
theorem QiS:fieldInfo Tryz.prog 66 0=some (0,9):=by kernel_rfl
theorem QiT:fieldInfo Tryz.prog 66 1=some (1,44):=by kernel_rfl
theorem zi66:XF Tryz.prog 66=some (.agg [.v (.string ⟨#[]⟩),.v (.slice none 0 0)]):=by kernel_rfl
theorem sp66:XA Tryz.prog 66=some [(0,1),(1,1)]:=by kernel_rfl
theorem ti69:Xy Tryz.prog 69=some (true,4):=by kernel_rfl
theorem XR:fieldInfo Tryz.prog 69 0=some (0,3):=by kernel_rfl
theorem Yw:fieldInfo Tryz.prog 69 1=some (1,3):=by kernel_rfl
theorem Yx:fieldInfo Tryz.prog 69 2=some (2,9):=by kernel_rfl
theorem Yh:fieldInfo Tryz.prog 69 3=some (3,44):=by kernel_rfl
theorem zi69:XF Tryz.prog 69=some (.agg [.v (.int .i64 0),.v (.int .i64 0),.v (.string ⟨#[]⟩),.v (.slice none 0 0)]):=by kernel_rfl
theorem sp69:XA Tryz.prog 69=some [(0,1),(1,1),(2,1),(3,1)]:=by kernel_rfl
theorem ti71:Xy Tryz.prog 71=some (false,1):=by kernel_rfl
theorem zi71:XF Tryz.prog 71=some (.v (.pointer none)):=by kernel_rfl
theorem un71:Program.underlying Tryz.prog 71=some (.pointer 74):=by kernel_rfl
theorem ti72:Xy Tryz.prog 72=some (false,1):=by kernel_rfl
theorem ei72:Xp Tryz.prog 72=some (5,1):=by kernel_rfl
theorem ai72:appInfo Tryz.prog 72 72=some ⟨5,1,1⟩:=by kernel_rfl
theorem zi72:XF Tryz.prog 72=some (.v (.slice none 0 0)):=by kernel_rfl
theorem un72:Program.underlying Tryz.prog 72=some (.slice 5):=by kernel_rfl
theorem ti74:Xy Tryz.prog 74=some (true,2):=by kernel_rfl
theorem Qlm:fieldInfo Tryz.prog 74 0=some (0,71):=by kernel_rfl
theorem QiU:fieldInfo Tryz.prog 74 1=some (1,72):=by kernel_rfl
theorem zi74:XF Tryz.prog 74=some (.agg [.v (.pointer none),.v (.slice none 0 0)]):=by kernel_rfl
theorem sp74:XA Tryz.prog 74=some [(0,1),(1,1)]:=by kernel_rfl
theorem ti91:Xy Tryz.prog 91=some (false,1):=by kernel_rfl
theorem zi91:XF Tryz.prog 91=some (.v (.map none)):=by kernel_rfl
theorem mi91:Qbo Tryz.prog 91=some ((.int .i64),3):=by kernel_rfl
theorem un91:Program.underlying Tryz.prog 91=some (.map 3 3):=by kernel_rfl
theorem mi92:Qbo Tryz.prog 92=some ((.int .i64),3):=by kernel_rfl
theorem un92:Program.underlying Tryz.prog 92=some (.map 3 3):=by kernel_rfl
theorem Qsd:Xy Tryz.prog 110=some (false,1):=by kernel_rfl
theorem Qsq:XF Tryz.prog 110=some (.v (.pointer none)):=by kernel_rfl
theorem Qsj:Program.underlying Tryz.prog 110=some (.pointer 117):=by kernel_rfl
theorem Qun:Xy Tryz.prog 112=some (false,1):=by kernel_rfl
theorem QtX:Xp Tryz.prog 112=some (127,3):=by kernel_rfl
theorem QtC:appInfo Tryz.prog 112 112=some ⟨127,3,32⟩:=by kernel_rfl
theorem Qus:Program.underlying Tryz.prog 112=some (.slice 127):=by kernel_rfl
theorem Quo:Xy Tryz.prog 114=some (true,2):=by kernel_rfl
theorem Qry:fieldInfo Tryz.prog 114 0=some (0,112):=by kernel_rfl
theorem Qrz:fieldInfo Tryz.prog 114 1=some (1,3):=by kernel_rfl
theorem Quv:XF Tryz.prog 114=some (.agg [.v (.slice none 0 0),.v (.int .i64 0)]):=by kernel_rfl
theorem Qud:XA Tryz.prog 114=some [(0,1),(1,1)]:=by kernel_rfl
theorem Qtk:Xy Tryz.prog 115=some (false,1):=by kernel_rfl
theorem Qt1:Qbo Tryz.prog 115=some (.string,3):=by kernel_rfl
theorem Qtq:Program.underlying Tryz.prog 115=some (.map 9 3):=by kernel_rfl
theorem Qse:Xy Tryz.prog 117=some (true,4):=by kernel_rfl
theorem Qki:fieldInfo Tryz.prog 117 0=some (0,114):=by kernel_rfl
theorem QhK:fieldInfo Tryz.prog 117 1=some (2,48):=by kernel_rfl
theorem QhL:fieldInfo Tryz.prog 117 2=some (3,115):=by kernel_rfl
theorem Qsr:XF Tryz.prog 117=some (.agg [.v (.slice none 0 0),.v (.int .i64 0),.v (.slice none 0 0),.v (.map none)]):=by kernel_rfl
theorem Qr9:XA Tryz.prog 117=some [(0,2),(2,1),(3,1)]:=by kernel_rfl
theorem Qtl:Xy Tryz.prog 119=some (true,2):=by kernel_rfl
theorem Qfy:fieldInfo Tryz.prog 119 0=some (0,91):=by kernel_rfl
theorem QhM:fieldInfo Tryz.prog 119 1=some (1,42):=by kernel_rfl
theorem Qtv:XF Tryz.prog 119=some (.agg [.v (.map none),.v (.slice none 0 0)]):=by kernel_rfl
theorem Qti:XA Tryz.prog 119=some [(0,1),(1,1)]:=by kernel_rfl
theorem Qup:Xy Tryz.prog 121=some (false,1):=by kernel_rfl
theorem Quw:XF Tryz.prog 121=some (.v .nilFunc):=by kernel_rfl
theorem Qsf:Xy Tryz.prog 127=some (true,3):=by kernel_rfl
theorem Qkj:fieldInfo Tryz.prog 127 0=some (0,3):=by kernel_rfl
theorem Qkk:fieldInfo Tryz.prog 127 1=some (1,3):=by kernel_rfl
theorem Qkl:fieldInfo Tryz.prog 127 2=some (2,9):=by kernel_rfl
theorem Qss:XF Tryz.prog 127=some (.agg [.v (.int .i64 0),.v (.int .i64 0),.v (.string ⟨#[]⟩)]):=by kernel_rfl
theorem Qsa:XA Tryz.prog 127=some [(0,1),(1,1),(2,1)]:=by kernel_rfl
theorem Qeh:Xy Tryz.prog 134=some (false,1):=by kernel_rfl
theorem Zq:fieldInfo Tryz.prog 138 0=some (0,74):=by kernel_rfl
theorem Qux:XF Tryz.prog 138=some (.agg [.v (.pointer none),.v (.slice none 0 0)]):=by kernel_rfl
theorem Qtm:Xy Tryz.prog 140=some (false,1):=by kernel_rfl
theorem Qtw:XF Tryz.prog 140=some (.v (.pointer none)):=by kernel_rfl
theorem Qtr:Program.underlying Tryz.prog 140=some (.pointer 5):=by kernel_rfl
theorem YQ:fieldInfo Tryz.prog 149 0=some (0,3):=by kernel_rfl
theorem QjV:XF Tryz.prog 149=some (.agg [.v (.int .i64 0)]):=by kernel_rfl
theorem QjG:XA Tryz.prog 149=some [(0,1)]:=by kernel_rfl
theorem Quq:Xy Tryz.prog 155=some (true,2):=by kernel_rfl
theorem QrA:fieldInfo Tryz.prog 155 0=some (0,3):=by kernel_rfl
theorem QrB:fieldInfo Tryz.prog 155 1=some (1,49):=by kernel_rfl
theorem Quy:XF Tryz.prog 155=some (.agg [.v (.int .i64 0),.v (.int .i64 0)]):=by kernel_rfl
theorem Que:XA Tryz.prog 155=some [(0,1),(1,1)]:=by kernel_rfl
theorem Qtn:Xy Tryz.prog 161=some (false,1):=by kernel_rfl
theorem Qtx:XF Tryz.prog 161=some (.v (.pointer none)):=by kernel_rfl
theorem Qts:Program.underlying Tryz.prog 161=some (.pointer 119):=by kernel_rfl
theorem Qto:Xy Tryz.prog 179=some (false,1):=by kernel_rfl
theorem Qur:Xy Tryz.prog 232=some (true,23):=by kernel_rfl
theorem mixed:Tryz.prog.follows .mixedOrders=true:=by kernel_rfl
end Go.Proofs.YtenheconhibonaaGreatDoor.Ab
namespace Go.Proofs.YtenheconhibonaaGreatDoor.Ab
attribute [go_sem] QtC ai22 ai23 ai27 ai33 ai42 ai44 ai48 ai72 QtX ei22 ei23 ei27 ei33 ei42 ei44 ei48 ei72 ei9 Qry Qrz Qki QhK QhL Qfy QhM Qkj Qkk Qkl Zq QrA QrB Qes QgW QiR YG QaY ZC QiS QiT XR Yw Yx Yh QiU Qt1 mi91 Qud Qr9 Qti Qsa Que sp25 sp35 sp38 sp53 sp66 sp69 ti0 ti1 Qsd Qun Quo Qtk Qse Qtl Qup Qsf Qeh Quq Qtn Qto ti22 ti23 Qur ti25 ti27 ti3 ti33 ti35 ti38 ti4 ti42 ti44 ti48 ti49 ti53 ti66 ti69 ti72 ti9 ti91 Qsj Qus Qtq Qts un22 un23 un27 un3 un33 un4 un42 un44 un48 un49 un9 un91 zi0 zi1 Qsq Quv Qsr Qtv Quw Qss Qux Quy Qtx zi22 zi23 zi25 zi3 zi35 zi38 zi4 zi42 zi44 zi48 zi49 zi5 zi53 zi66 zi69 zi9 zi91
end Go.Proofs.YtenheconhibonaaGreatDoor.Ab
namespace Go.Proofs.YtenheconhibonaaGreatDoor.Ab
theorem QmS{c:Cx}{x:Value}(s:Nat)(h:Rel c (.v (.slice none 0 0)) x):Rel c (.sl s [] none) x:=by
 cases h
 exact .slnil s none fun b hb=>by cases hb
end Go.Proofs.YtenheconhibonaaGreatDoor.Ab
namespace Go.Proofs.YtenheconhibonaaGreatDoor.Ab
def hs(h:AH)(i:Nat)(x:AB):AH:=h.set i x
section
variable{h:AH}{i:Nat}(hi:i<h.length)
theorem ZD(h:AH)(i:Nat)(x:AB):(hs h i x).length=h.length:=by simp[hs]
include hi
theorem QqX(x:AB):(hs h i x)[i]? = some x:=by simp[hs,hi]
theorem Qkv(x:AB)(L:AH):(hs h i x++L)[i]? = some x:=by rw[QwI (by rw[ZD];exact hi)];exact QqX hi x
theorem QsK(x y:AB):(hs h i x).set i y=hs h i y:=by have _u:=hi;simp[hs]
theorem Qkw(x y:AB)(L:AH):(hs h i x++L).set i y=hs h i y++L:=by rw[Qw2 _ _ (by rw[ZD];exact hi),QsK hi]
theorem Qbe(x:AB)(L:AH):hs (h++L) i x=hs h i x++L:=by simp only[hs];rw[Qw2 _ _ hi]
omit hi
theorem Qcf(x:AB)(L:AH):(hs h i x++L)[h.length]? = L[0]? := by rw[<-ZD h i x];exact Q8 _ _
theorem Qg0(x:AB)(L:AH)(k:Nat):(hs h i x++L)[h.length+k]? = L[k]? := by rw[<-ZD h i x];exact hget _ _ _
theorem QcE(x y:AB)(L:AH):(hs h i x++L).set h.length y=hs h i x++L.set 0 y:=by rw[<-ZD h i x];exact Yd _ _ _
theorem QdY(x y:AB)(L:AH)(k:Nat):(hs h i x++L).set (h.length+k) y=hs h i x++L.set k y:=by rw[<-ZD h i x];exact hset _ _ _ _
theorem QrG{x:AB}(hx:h[i]? = some x):hs h i x=h:=by
 apply QxE
 intro j
 simp only[hs,Qyk]
 split
 ·rename_i hj;subst hj;rw[hx];simp[Qv hx]
 ·rfl
end
def Chg(P:Program)(f:FuncId)(args:List AV)(i:Nat)(x:AB)(r:AV)(y:AB):Prop :=
 ∀h:AH,i<h.length->QT P f args (hs h i x) fun o h'=>o = .ret r/\h'=hs h i y
theorem Chg.app{P:Program}{f:FuncId}{args:List AV}{i:Nat}{x y:AB}{r:AV}(H:Chg P f args i x r y){h:AH}(hi:i<h.length)(L:AH) :
  QT P f args (hs h i x++L) fun o h'=>o = .ret r/\h'=hs h i y++L:=by
 have:=H (h++L) (by rw[QwG];omega)
 rwa [Qbe hi,Qbe hi]at this
theorem Xq{h:AH}{i:Nat}{x y:AB}{L:AH}{r r':AV}{Q:AV->AH->Prop}(hy:y.Below h.length)(hf:Frz (hs h i y++L) h.length r r')(hq:Q r' (hs h i y)):Leaves (hs h i x) (hs h i y++L) r Q:=by
 have ht:(hs h i y++L).take h.length=hs h i y:=by rw[<-ZD h i y];exact htake _ _
 refine .inl ⟨h.length,r',by rw[ZD];exact QwP _,by rw[QwG,ZD];omega,.inr fun k b hb=>?_,hf,by rw[ht];exact hq⟩
 rw[ht]at hb
 simp only[hs,Qyk]at hb ⊢
 by_cases hk:i=k
 ·subst hk
  simp only[QxP]at hb ⊢
  split at hb
  ·cases hb;exact .inr hy
  ·cases hb
 ·rw[QwJ hk]at hb ⊢
  exact .inl hb
def hs2(h:AH)(i:Nat)(x:AB)(j:Nat)(y:AB):AH:=(h.set i x).set j y
section
variable{h:AH}{i j:Nat}(hi:i<h.length)(hj:j<h.length)(hij:i≠j)
theorem Zr(h:AH)(i:Nat)(x:AB)(j:Nat)(y:AB):(hs2 h i x j y).length=h.length:=by simp[hs2]
theorem Qp5(x y:AB)(L:AH):(hs2 h i x j y++L)[h.length]? = L[0]? := by rw[<-Zr h i x j y];exact Q8 _ _
theorem Qn7(x y:AB)(L:AH)(k:Nat):(hs2 h i x j y++L)[h.length+k]? = L[k]? := by rw[<-Zr h i x j y];exact hget _ _ _
theorem Qn6(x y z:AB)(L:AH):(hs2 h i x j y++L).set h.length z=hs2 h i x j y++L.set 0 z:=by rw[<-Zr h i x j y];exact Yd _ _ _
theorem Qlr(x y z:AB)(L:AH)(k:Nat):(hs2 h i x j y++L).set (h.length+k) z=hs2 h i x j y++L.set k z:=by rw[<-Zr h i x j y];exact hset _ _ _ _
include hj in
theorem QcD(x y:AB):(hs2 h i x j y)[j]? = some y:=by simp[hs2,hj]
include hi hij in
theorem ZN(x y:AB):(hs2 h i x j y)[i]? = some x:=by
 simp only[hs2]
 rw[QwL (fun e=>hij e.symm)]
 simp[hi]
include hi hij in
theorem Qi2(x y:AB)(L:AH):(hs2 h i x j y++L)[i]? = some x:=by rw[QwI (by rw[Zr];exact hi)];exact ZN hi hij x y
theorem QeR(x y z:AB):(hs2 h i x j y).set j z=hs2 h i x j z:=by simp[hs2]
include hij in
theorem QeQ(x y z:AB):(hs2 h i x j y).set i z=hs2 h i z j y:=by
 simp only[hs2]
 rw[QyD _ _ (fun e=>hij e.symm),Qyw]
include hi hj in
theorem QhR(x y:AB)(L:AH):hs2 (h++L) i x j y=hs2 h i x j y++L:=by
 simp only[hs2]
 rw[Qw2 _ _ hi,Qw2 _ _ (by simpa using hj)]
theorem YD(x y:AB){k:Nat}(h1:i≠k)(h2:j≠k):(hs2 h i x j y)[k]? = h[k]? := by
 simp only[hs2]
 rw[QwL h2,QwL h1]
end
theorem QmB{h:AH}{i j:Nat}{x y x' y':AB}{L:AH}{r r':AV}{Q:AV->AH->Prop}(hij:i≠j)(hx:x'.Below h.length)(hy:y'.Below h.length)(hf:Frz (hs2 h i x' j y'++L) h.length r r')(hq:Q r' (hs2 h i x' j y')) :
  Leaves (hs2 h i x j y) (hs2 h i x' j y'++L) r Q:=by
 have ht:(hs2 h i x' j y'++L).take h.length=hs2 h i x' j y':=by rw[<-Zr h i x' j y'];exact htake _ _
 refine .inl ⟨h.length,r',by rw[Zr];exact QwP _,by rw[QwG,Zr];omega,.inr fun k b hb=>?_,hf,by rw[ht];exact hq⟩
 rw[ht]at hb
 have hlt:=Qv hb
 rw[Zr]at hlt
 by_cases hk:j=k
 ·subst hk
  rw[QcD hlt]at hb
  cases hb;exact .inr hy
 ·by_cases hk':i=k
  ·subst hk'
   rw[ZN hlt hij]at hb
   cases hb;exact .inr hx
  ·rw[YD _ _ hk' hk]at hb ⊢
   exact .inl hb
def Chg2(P:Program)(f:FuncId)(args:List AV)(i:Nat)(x:AB)(j:Nat)(y:AB)(r:AV)(x' y':AB):Prop :=
 ∀h:AH,i<h.length->j<h.length->QT P f args (hs2 h i x j y) fun o h'=>o = .ret r/\h'=hs2 h i x' j y'
theorem Chg2.app{P:Program}{f:FuncId}{args:List AV}{i j:Nat}{x y x' y':AB}{r:AV}(H:Chg2 P f args i x j y r x' y'){h:AH}(hi:i<h.length)(hj:j<h.length)(L:AH) :
  QT P f args (hs2 h i x j y++L) fun o h'=>o = .ret r/\h'=hs2 h i x' j y'++L:=by
 have:=H (h++L) (by rw[QwG];omega) (by rw[QwG];omega)
 rwa [QhR hi hj,QhR hi hj]at this
end Go.Proofs.YtenheconhibonaaGreatDoor.Ab
namespace Go.Proofs.YtenheconhibonaaGreatDoor.Ab
theorem QnX{P:Program}{f:FuncId}{fn:Func}(hf:P.funcs[f]? = some fn)(hname:(fn.name == "runtime.NumGoroutine")=false)(hbn:fn.body.isNone=true)(hn:Extern.findNext fn=none)
  (he:Extern.find fn=some Extern.AbiNoEscape.same) {y:AV} {h:AH}:FunW P (.fn (.func f) [] []) [y] h fun o h'=>o = .ret y/\h'=h:=by
 intro F n c v vals hF hst hh hv hvs o a next Qx h1 h2
 subst hh
 cases hv with
 |fn _ _ _ vs ws e1 e2 hv1 hv2 =>
  have hvs0:vs=#[]:=Array.eq_empty_of_size_eq_zero e1
  have hws0:ws=#[]:=Array.eq_empty_of_size_eq_zero e2
  subst hvs0;subst hws0
  obtain⟨x,hx⟩:=Qa0 hvs.1 (show 0<[y].length by simp)
  have hvals:vals=#[x]:=by
   apply Array.ext'
   have hl:vals.toList.length=1:=by simpa using hvs.1
   apply QxE
   intro j
   match j with
   |0=>simpa using hx
   |j+1=>rw[Qxp (by omega)];simp
  have hrx:=hvs.2 0 _ x rfl hx
  subst hvals
  have hcall:=run_callFunc_extern (P:=P) hf hname hbn hn he #[x] c.w
  rw[show(Extern.AbiNoEscape.same #[x]).run P c.w = .ok x c.w from rfl]at hcall
  simp only[Deferred.ofValue,Sem.run_bind,Sem.run_pure,Result.andThen_ok,invoke,Qyu,Array.append_empty,hcall]
  exact h1 _ c _ ⟨rfl,rfl⟩ (Ev.refl c) hst hrx
theorem Qbl(s t:ByteArray):Xs (s++t)=Xs s++Xs t:=by
 simp only[Xs,ByteArray.data_append,Array.toList_append,Qxs]
theorem Qgk(s:ByteArray):QbZ (Xs s)=some s.data.toList:=by rw[Qmc,QdP]
theorem Qs(s t:ByteArray):(s++t).size=s.size+t.size:=ByteArray.size_append
theorem Qmd{s:ByteArray}(h:0<s.size):∃y ys,Xs s=y::ys:=by
 cases hs:Xs s with
 |nil=>have:=Yv s;rw[hs]at this;simp at this;omega
 |cons y ys=>exact⟨y,ys,rfl⟩
theorem Qj0{P:Program}{t t' e:TypeId}{i:TypeInfo}{z:Value}(ht:P.underlying t=some (.slice e))(ht':P.underlying t'=some .string)(hi:P.info? e=some i)(hz:i.zero=some z)(h1:i.size=1)(h2:i.bytes=1)(h3:z.cells.size=1)
  {T s:ByteArray} {j:Nat} {h:AH} (hj:h[j]? = some (.grow e 1 T.size)) (hs:T.size+s.size<=140737488355328) :
  Qcw P t t' (.sl 1 (Xs T) (some j)) s h=some (.sl 1 (Xs (T++s)) (some j),h.set j (.grow e 1 (T++s).size)):=by
 unfold Qcw
 simp only[ht,ht',hi,hz,h1,h2,h3,Qwn,QxP,hj,Yv,Qs,Qbl]
 by_cases h0:0<s.size
 ·rw[QwN (by simp only[h0,hs,Qwn])]
 ·have h0':s.size=0:=by omega
  rw[QwJ (fun e=>h0 e.1),QwN (by simp only[h0',Qwn])]
  have hn:Xs s=[]:=by
   have:=Yv s
   rw[h0']at this
   exact List.length_eq_zero_iff.1 this
  rw[hn,Qwi,h0',Qwe]
  congr 2
  apply QxE
  intro k
  rw[Qyk]
  split
  ·rename_i hk;subst hk;rw[hj];simp[Qv hj]
  ·rfl
theorem QeH{P:Program}{pt e:TypeId}(ht:P.underlying pt=some (.pointer e))(he:P.cellsOf e=1){T:ByteArray}{j:Nat}{h:AH}(hj:h[j]? = some (.grow e 1 T.size))(h0:0<T.size)(hs:T.size<=9223372036854775807) :
  Zl P pt (.spt 1 (Xs T) (some j)) (.v (.int .i64 (T.size:Nat))) h=some (.v (.string T),h.set j .gone):=by
 unfold Zl
 simp only[hj,Qgk,ht,Yv]
 rw[QwN (by simp only[h0,he,hs,Qwn])]
theorem QeG{T:ByteArray}(h0:0<T.size)(j:Nat):Qbu (.sl 1 (Xs T) (some j))=some (.spt 1 (Xs T) (some j)):=by
 obtain⟨y,ys,e⟩:=Qmd h0
 rw[e];rfl
def bw(ty i j:Nat)(u:Bool)(T:ByteArray):AB:=.cells ty 2 [.agg [if u then .ptr i 0 0 else .v (.pointer none),.sl 1 (Xs T) (some j)]]
theorem bw0(ty i j:Nat)(T:ByteArray):bw ty i j false T = .cells ty 2 [.agg [.v (.pointer none),.sl 1 (Xs T) (some j)]]:=rfl
theorem bw1(ty i j:Nat)(T:ByteArray):bw ty i j true T = .cells ty 2 [.agg [.ptr i 0 0,.sl 1 (Xs T) (some j)]]:=rfl
theorem QpN{ty i j n:Nat}{u:Bool}{T:ByteArray}(hi:i<n)(hj:j<n):(bw ty i j u T).Below n:=by
 have hsl:Ab.Below n (.sl 1 (Xs T) (some j)):=by
  refine .sl _ _ _ (fun y hy=>?_) fun b hb=>by cases hb;exact hj
  rw[Qcd]at hy
  obtain⟨b,_,rfl⟩:=Qxa.1 hy
  exact .v _
 cases u
 ·intro x hx
  have hx':x∈[.v (.pointer none),.sl 1 (Xs T) (some j)]:=hx
  simp only[QwS,Qw4,QxK]at hx'
  rcases hx' with rfl|rfl
  ·exact .v _
  ·exact hsl
 ·intro x hx
  have hx':x∈[.ptr i 0 0,.sl 1 (Xs T) (some j)]:=hx
  simp only[QwS,Qw4,QxK]at hx'
  rcases hx' with rfl|rfl
  ·exact .ptr _ _ _ hi
  ·exact hsl
def Wr(P:Program)(e ty:TypeId)(f:FuncId)(args:List AV)(i j:Nat)(u:Bool)(T:ByteArray)(r:AV)(u':Bool)(T':ByteArray):Prop :=
 Chg2 P f args i (bw ty i j u T) j (.grow e 1 T.size) r (bw ty i j u' T') (.grow e 1 T'.size)
open Go.Proofs
def cmpI(a b:Int):Int:=if a<b then -1 else if a>b then 1 else 0
def cmpS(a b:ByteArray):Int:=if Op.bytesLess a.toList b.toList=true then -1 else if (!(Op.bytesLess a.toList b.toList||a.toList==b.toList))=true then 1 else 0
def Za(k:Int):Int:=if k=1 then 0 else if k=0 then 1 else if k=2 then 2 else 3
abbrev AV.i(n:Int):AV:=.v (.int .i64 n)
abbrev AV.b(n:Bool):AV:=.v (.bool n)
abbrev AV.s(n:ByteArray):AV:=.v (.string n)
theorem Qf8(a b:Int):Pure Tryz.prog 157 [.i a,.i b] (.i (cmpI a b)):=by
 intro h
 by_cases h1:a<b
 ·refine Qb Tryz.func157 rfl Tryz.call157 Tryz.ntmps157 Tryz.results157 (by simp) ?_
  repeat refine Qn ?_;simp only[go_sem,seval,h1]
  first|refine Qc (htake _ _) (.keep (.v _)) ⟨by rw[cmpI,QwN h1],rfl⟩|refine Qc QwH (.keep (.v _)) ⟨by rw[cmpI,QwN h1],rfl⟩
 ·by_cases h2:a>b
  ·refine Qb Tryz.func157 rfl Tryz.call157 Tryz.ntmps157 Tryz.results157 (by simp) ?_
   repeat refine Qn ?_;simp only[go_sem,seval,h1,h2]
   first|refine Qc (htake _ _) (.keep (.v _)) ⟨by rw[cmpI,QwJ h1,QwN h2],rfl⟩|refine Qc QwH (.keep (.v _)) ⟨by rw[cmpI,QwJ h1,QwN h2],rfl⟩
  ·refine Qb Tryz.func157 rfl Tryz.call157 Tryz.ntmps157 Tryz.results157 (by simp) ?_
   repeat refine Qn ?_;simp only[go_sem,seval,h1,h2]
   first|refine Qc (htake _ _) (.keep (.v _)) ⟨by rw[cmpI,QwJ h1,QwJ h2],rfl⟩|refine Qc QwH (.keep (.v _)) ⟨by rw[cmpI,QwJ h1,QwJ h2],rfl⟩
theorem Qqw(a b:ByteArray):Pure Tryz.prog 156 [.s a,.s b] (.i (cmpS a b)):=by
 intro h
 cases h1:Op.bytesLess a.toList b.toList with
 |true =>
  refine Qb Tryz.func156 rfl Tryz.call156 Tryz.ntmps156 Tryz.results156 (by simp) ?_
  repeat refine Qn ?_;simp only[go_sem,seval,h1]
  first|refine Qc (htake _ _) (.keep (.v _)) ⟨by rw[cmpS,QwN h1],rfl⟩|refine Qc QwH (.keep (.v _)) ⟨by rw[cmpS,QwN h1],rfl⟩
 |false =>
  cases h2:(a.toList==b.toList)with
  |true =>
   refine Qb Tryz.func156 rfl Tryz.call156 Tryz.ntmps156 Tryz.results156 (by simp) ?_
   repeat refine Qn ?_;simp only[go_sem,seval,h1,h2,QxN]
   first|refine Qc (htake _ _) (.keep (.v _)) ⟨by rw[cmpS,h1,h2];rfl,rfl⟩|refine Qc QwH (.keep (.v _)) ⟨by rw[cmpS,h1,h2];rfl,rfl⟩
  |false =>
   refine Qb Tryz.func156 rfl Tryz.call156 Tryz.ntmps156 Tryz.results156 (by simp) ?_
   repeat refine Qn ?_;simp only[go_sem,seval,h1,h2,Bool.or_self]
   first|refine Qc (htake _ _) (.keep (.v _)) ⟨by rw[cmpS,h1,h2];rfl,rfl⟩|refine Qc QwH (.keep (.v _)) ⟨by rw[cmpS,h1,h2];rfl,rfl⟩
theorem QgQ(t:T):Pure Tryz.prog 182 [t.av] (.i (Za t.kind)):=by
 intro h
 by_cases h1:t.kind=1
 ·have b1:(t.kind==1)=true:=by simpa using h1
  refine Qb Tryz.func182 rfl Tryz.call182 Tryz.ntmps182 Tryz.results182 (by simp) ?_
  repeat refine Qn ?_;simp only[go_sem,seval,b1]
  first|refine Qc (htake _ _) (.keep (.v _)) ⟨by rw[Za,QwN h1],rfl⟩|refine Qc QwH (.keep (.v _)) ⟨by rw[Za,QwN h1],rfl⟩
 ·have b1:(t.kind==1)=false:=by simpa using h1
  by_cases h2:t.kind=0
  ·have b2:(t.kind==0)=true:=by simpa using h2
   refine Qb Tryz.func182 rfl Tryz.call182 Tryz.ntmps182 Tryz.results182 (by simp) ?_
   repeat refine Qn ?_;simp only[go_sem,seval,b1,b2]
   first|refine Qc (htake _ _) (.keep (.v _)) ⟨by rw[Za,QwJ h1,QwN h2],rfl⟩|refine Qc QwH (.keep (.v _)) ⟨by rw[Za,QwJ h1,QwN h2],rfl⟩
  ·have b2:(t.kind==0)=false:=by simpa using h2
   by_cases h3:t.kind=2
   ·have b3:(t.kind==2)=true:=by simpa using h3
    refine Qb Tryz.func182 rfl Tryz.call182 Tryz.ntmps182 Tryz.results182 (by simp) ?_
    repeat refine Qn ?_;simp only[go_sem,seval,b1,b2,b3]
    first|refine Qc (htake _ _) (.keep (.v _)) ⟨by rw[Za,QwJ h1,QwJ h2,QwN h3],rfl⟩|refine Qc QwH (.keep (.v _)) ⟨by rw[Za,QwJ h1,QwJ h2,QwN h3],rfl⟩
   ·have b3:(t.kind==2)=false:=by simpa using h3
    refine Qb Tryz.func182 rfl Tryz.call182 Tryz.ntmps182 Tryz.results182 (by simp) ?_
    repeat refine Qn ?_;simp only[go_sem,seval,b1,b2,b3]
    first|refine Qc (htake _ _) (.keep (.v _)) ⟨by rw[Za,QwJ h1,QwJ h2,QwJ h3],rfl⟩|refine Qc QwH (.keep (.v _)) ⟨by rw[Za,QwJ h1,QwJ h2,QwJ h3],rfl⟩
mutual
def T.nds:T->Nat
 | .mk _ _ _ l=>1+ndsL l
def ndsL:List T->Nat
 |[]=>0
 |t::l=>t.nds+ndsL l
end
theorem T.Qu6(t:T):t.nds=1+ndsL t.args:=by cases t;simp only[T.nds,T.args]
theorem QaQ:∀{l:List T} {k:Nat} (h:k<l.length),(l[k]).nds<=ndsL l
 |t::l,0,_=>by simp only[List.getElem_cons_zero,ndsL];omega
 |t::l,k+1,h=>by
  have:=QaQ (l:=l) (k:=k) (by simpa using h)
  simp only[Qyr,ndsL];omega
def orL:List Int->Int
 |[]=>0
 |a::l=>if (a != 0)=true then a else orL l
def or3(a b c:Int):Int:=orL [a,b,c]
mutual
def cmpT:T->T->Int
 | .mk k i n l,.mk k' i' n' l' =>
  if (cmpI (Za k) (Za k') != 0)=true then cmpI (Za k) (Za k')
  else if Za k=0\/Za k=1 then cmpI i i'
  else if Za k=2 then
   if (cmpI l.length l'.length != 0)=true then cmpI l.length l'.length
   else if (cmpS n n' != 0)=true then cmpS n n'
   else cmpL l l'
  else or3 (cmpI k k') (cmpI i i') (cmpS n n')
def cmpL:List T->List T->Int
 |a::l,b::m=>if (cmpT a b != 0)=true then cmpT a b else cmpL l m
 |[],[]=>0
 |[],_::_ => -1
 |_::_,[]=>1
end
theorem Qrq(a b:T):cmpT a b =
  if (cmpI (Za a.kind) (Za b.kind) != 0)=true then cmpI (Za a.kind) (Za b.kind)
  else if Za a.kind=0\/Za a.kind=1 then cmpI a.int b.int
  else if Za a.kind=2 then
   if (cmpI a.args.length b.args.length != 0)=true then cmpI a.args.length b.args.length
   else if (cmpS a.name b.name != 0)=true then cmpS a.name b.name
   else cmpL a.args b.args
  else or3 (cmpI a.kind b.kind) (cmpI a.int b.int) (cmpS a.name b.name):=by
 cases a;cases b;simp only[cmpT,T.kind,T.int,T.name,T.args];rfl
theorem QnK{l m:List T}{k:Nat}(h1:k<l.length)(h2:k<m.length):cmpL (l.drop k) (m.drop k)=if (cmpT l[k] m[k] != 0)=true then cmpT l[k] m[k]else cmpL (l.drop (k+1)) (m.drop (k+1)):=by
 rw[QwU h1,QwU h2];simp only[cmpL]
theorem X5:∀l:List T,l.length<=ndsL l
 |[]=>QwP _
 |t::l=>by
  have:=X5 l
  have:=T.Qu6 t
  simp only[Qv2,ndsL];omega
theorem Qg8(n:Nat)(ih:∀a b:T,a.nds<=n->Pure Tryz.prog 168 [a.av,b.av] (.i (cmpT a b)))(l m:List T)(hn:ndsL l<=n)(hl:l.length<=9000000000000000000) :
  Pure Tryz.prog 147 [.sl 4 (avs l) none,.sl 4 (avs m) none] (.i (cmpL l m)):=by
 intro h
 have ci:=Qf8 l.length m.length
 refine Qb Tryz.func147 rfl Tryz.call147 Tryz.ntmps147 Tryz.results147 (by simp) ?_
 repeat refine Qn ?_;simp only[go_sem,seval]
 obtain⟨I,hI⟩:∃I:Nat->AS->Prop,I=fun m' s=>∃(k:Nat) (L:AH),m'=l.length - k/\k<=l.length/\k<=m.length/\s.tm 0 = .sl 4 (avs l) none/\s.tm 1 = .sl 4 (avs m) none/\s.tm 5 = .i k/\s.h=h++L/\cmpL l m=cmpL (l.drop k) (m.drop k):=⟨_,rfl⟩;refine QZ I ?_ (m:=l.length) ?_
 ·intro m' s hs;rw[hI]at hs;obtain⟨tm,hp⟩:=s;dsimp only at hs;obtain⟨k,L,rfl,hk,hk2,h0,h1,h5,rfl,hor⟩:=hs
  by_cases hlt:k<l.length
  ·by_cases hlt2:k<m.length
   ·have hd:=QnK hlt hlt2
    have hc:=ih l[k] m[k] (Qw8 (QaQ hlt) hn)
    cases ha:(cmpT l[k] m[k] != 0)with
    |true =>
     repeat first|(first|refine QO hc ?_|refine QH (id:=4) [(0,0),(1,0),(2,0),(3,0),(4,0),(5,0),(6,0),(7,0),(8,1),(9,0)] mixed (by kernel_rfl) fun K hK=>?_|refine Qn ?_);simp only[go_sem,seval,hlt,hlt2,h0,h1,h5,ha,Qaa hlt,Qaa hlt2]|refine hK _ ?_;clear hK
     first|refine Qc (htake _ _) (.keep (.v _)) ⟨by rw[hor,hd,QwN ha],rfl⟩|refine Qc QwH (.keep (.v _)) ⟨by rw[hor,hd,QwN ha],rfl⟩
    |false =>
     repeat first|(first|refine QO hc ?_|refine QH (id:=4) [(0,0),(1,0),(2,0),(3,0),(4,0),(5,0),(6,0),(7,0),(8,1),(9,0)] mixed (by kernel_rfl) fun K hK=>?_|refine Qn ?_);simp only[go_sem,seval,hlt,hlt2,h0,h1,h5,ha,Qaa hlt,Qaa hlt2]|refine hK _ ?_;clear hK
     refine Xo.mk (m':=l.length - (k+1)) (by omega) ?_
     rw[hI]
     refine⟨k+1,L,rfl,hlt,hlt2,h0,h1,?_,rfl,?_⟩
     ·simp only[upd,↓reduceIte]
      rw[Xe (by omega)]
     ·rw[hor,hd,ha];rfl
   ·have hkm:k=m.length:=by omega
    repeat (first|refine Qy ci ?_|refine Qn ?_);simp only[go_sem,seval,hlt,hlt2,h0,h1,h5]
    first|refine Qc (htake _ _) (.keep (.v _)) ⟨?_,rfl⟩|refine Qc QwH (.keep (.v _)) ⟨?_,rfl⟩
    rw[hor,hkm,Qxb,QwU (by omega),cmpL,cmpI,QwJ (by omega),QwN (by omega)]
  ·have hkl:k=l.length:=by omega
   repeat (first|refine Qy ci ?_|refine Qn ?_);simp only[go_sem,seval,hlt,h0,h1,h5]
   first|refine Qc (htake _ _) (.keep (.v _)) ⟨?_,rfl⟩|refine Qc QwH (.keep (.v _)) ⟨?_,rfl⟩
   rw[hor,hkl,Qxb]
   by_cases hm:l.length<m.length
   ·rw[QwU hm,cmpL,cmpI,QwN (by omega)]
   ·have:l.length=m.length:=by omega
    rw[this,Qxb,cmpL,cmpI,QwJ (by omega),QwJ (by omega)]
 ·rw[hI]
  exact⟨0,[],by omega,Qw3 _,Qw3 _,rfl,rfl,rfl,by simp only[Qwi],rfl⟩
theorem Qcq:∀(n:Nat),n<=1000000->∀a b:T,a.nds<=n->Pure Tryz.prog 168 [a.av,b.av] (.i (cmpT a b))
 |0,_,a,b,hn=>by have:=T.Qu6 a;omega
 |n+1,hn1,a,b,hn=>by
  intro h
  have e:=Qrq a b
  have r1:=QgQ a
  have r2:=QgQ b
  have c1:=Qf8 (Za a.kind) (Za b.kind)
  cases h1:(cmpI (Za a.kind) (Za b.kind) != 0)with
  |true =>
   rw[QwN h1]at e
   refine Qb Tryz.func168 rfl Tryz.call168 Tryz.ntmps168 Tryz.results168 (by simp) ?_
   repeat first|(first|refine QO r1 ?_|refine QO r2 ?_|refine QO c1 ?_|refine QH (id:=1) [(0,0),(1,1),(2,0),(3,1),(4,1),(5,0)] mixed (by kernel_rfl) fun K hK=>?_|refine Qn ?_);simp only[go_sem,seval,h1]|refine hK _ ?_;clear hK
   first|refine Qc (htake _ _) (.keep (.v _)) ⟨by rw[e],rfl⟩|refine Qc QwH (.keep (.v _)) ⟨by rw[e],rfl⟩
  |false =>
   rw[QwJ (by rw[h1];simp)]at e
   have c2:=Qf8 a.int b.int
   by_cases k0:Za a.kind=0
   ·rw[QwN (.inl k0)]at e
    have b0:(Za a.kind==0)=true:=by simpa using k0
    refine Qb Tryz.func168 rfl Tryz.call168 Tryz.ntmps168 Tryz.results168 (by simp) ?_
    repeat first|(first|refine Qy r1 ?_|refine QO r1 ?_|refine QO r2 ?_|refine QO c1 ?_|refine Qy c2 ?_|refine QH (id:=1) [(0,0),(1,1),(2,0),(3,1),(4,1),(5,0)] mixed (by kernel_rfl) fun K hK=>?_|refine Qn ?_);simp only[go_sem,seval,h1,b0]|refine hK _ ?_;clear hK
    first|refine Qc (htake _ _) (.keep (.v _)) ⟨by rw[e],rfl⟩|refine Qc QwH (.keep (.v _)) ⟨by rw[e],rfl⟩
   ·have b0:(Za a.kind==0)=false:=by simpa using k0
    by_cases k1:Za a.kind=1
    ·rw[QwN (.inr k1)]at e
     have b1:(Za a.kind==1)=true:=by simpa using k1
     refine Qb Tryz.func168 rfl Tryz.call168 Tryz.ntmps168 Tryz.results168 (by simp) ?_
     repeat first|(first|refine Qy r1 ?_|refine QO r1 ?_|refine QO r2 ?_|refine QO c1 ?_|refine Qy c2 ?_|refine QH (id:=1) [(0,0),(1,1),(2,0),(3,1),(4,1),(5,0)] mixed (by kernel_rfl) fun K hK=>?_|refine Qn ?_);simp only[go_sem,seval,h1,b0,b1]|refine hK _ ?_;clear hK
     first|refine Qc (htake _ _) (.keep (.v _)) ⟨by rw[e],rfl⟩|refine Qc QwH (.keep (.v _)) ⟨by rw[e],rfl⟩
    ·rw[QwJ (by simp only[k0,k1,or_self,not_false_eq_true])]at e
     have b1:(Za a.kind==1)=false:=by simpa using k1
     have c3:=Qqw a.name b.name
     by_cases k2:Za a.kind=2
     ·rw[QwN k2]at e
      have b2:(Za a.kind==2)=true:=by simpa using k2
      have c4:=Qf8 a.args.length b.args.length
      cases h2:(cmpI a.args.length b.args.length != 0)with
      |true =>
       have h2':(cmpI a.args.length b.args.length==0)=false:=by simpa using h2
       rw[QwN h2]at e
       refine Qb Tryz.func168 rfl Tryz.call168 Tryz.ntmps168 Tryz.results168 (by simp) ?_
       repeat first|(first|refine Qy r1 ?_|refine QO r1 ?_|refine QO r2 ?_|refine QO c1 ?_|refine Qy c4 ?_|refine QH (id:=1) [(0,0),(1,1),(2,0),(3,1),(4,1),(5,0)] mixed (by kernel_rfl) fun K hK=>?_|refine Qn ?_);simp only[go_sem,seval,h1,h2',b0,b1,b2]|refine hK _ ?_;clear hK
       first|refine Qc (htake _ _) (.keep (.v _)) ⟨by rw[e],rfl⟩|refine Qc QwH (.keep (.v _)) ⟨by rw[e],rfl⟩
      |false =>
       have h2':(cmpI a.args.length b.args.length==0)=true:=by simpa using h2
       rw[QwJ (by rw[h2];simp)]at e
       cases h3:(cmpS a.name b.name != 0)with
       |true =>
        have h3':(cmpS a.name b.name==0)=false:=by simpa using h3
        rw[QwN h3]at e
        refine Qb Tryz.func168 rfl Tryz.call168 Tryz.ntmps168 Tryz.results168 (by simp) ?_
        repeat first|(first|refine Qy r1 ?_|refine QO r1 ?_|refine QO r2 ?_|refine QO c1 ?_|refine Qy c3 ?_|refine Qy c4 ?_|refine QH (id:=1) [(0,0),(1,1),(2,0),(3,1),(4,1),(5,0)] mixed (by kernel_rfl) fun K hK=>?_|refine Qn ?_);simp only[go_sem,seval,h1,h2',h3',b0,b1,b2]|refine hK _ ?_;clear hK
        first|refine Qc (htake _ _) (.keep (.v _)) ⟨by rw[e],rfl⟩|refine Qc QwH (.keep (.v _)) ⟨by rw[e],rfl⟩
       |false =>
        have h3':(cmpS a.name b.name==0)=true:=by simpa using h3
        rw[QwJ (by rw[h3];simp)]at e
        have hnd:=T.Qu6 a
        have c5:=Qg8 n (Qcq n (by omega)) a.args b.args (by omega) (by have:=X5 a.args;omega)
        refine Qb Tryz.func168 rfl Tryz.call168 Tryz.ntmps168 Tryz.results168 (by simp) ?_
        repeat first|(first|refine Qy r1 ?_|refine QO r1 ?_|refine QO r2 ?_|refine QO c1 ?_|refine Qy c3 ?_|refine Qy c4 ?_|refine Qy c5 ?_|refine QH (id:=1) [(0,0),(1,1),(2,0),(3,1),(4,1),(5,0)] mixed (by kernel_rfl) fun K hK=>?_|refine Qn ?_);simp only[go_sem,seval,h1,h2',h3',b0,b1,b2]|refine hK _ ?_;clear hK
        first|refine Qc (htake _ _) (.keep (.v _)) ⟨by rw[e],rfl⟩|refine Qc QwH (.keep (.v _)) ⟨by rw[e],rfl⟩
     ·rw[QwJ k2]at e
      have b2:(Za a.kind==2)=false:=by simpa using k2
      have c4:=Qf8 a.kind b.kind
      rw[or3,orL,orL,orL]at e
      cases h2:(cmpI a.kind b.kind != 0)with
      |true =>
       have h2':(cmpI a.kind b.kind==0)=false:=by simpa using h2
       rw[QwN h2]at e
       refine Qb Tryz.func168 rfl Tryz.call168 Tryz.ntmps168 Tryz.results168 (by simp) ?_
       repeat first|(first|refine Qy r1 ?_|refine QO r1 ?_|refine QO r2 ?_|refine QO c1 ?_|refine Qy c4 ?_|refine QH (id:=1) [(0,0),(1,1),(2,0),(3,1),(4,1),(5,0)] mixed (by kernel_rfl) fun K hK=>?_|refine Qn ?_);simp only[go_sem,seval,h1,b0,b1,b2,h2']|refine hK _ ?_;clear hK
       first|refine Qc (htake _ _) (.keep (.v _)) ⟨by rw[e],rfl⟩|refine Qc QwH (.keep (.v _)) ⟨by rw[e],rfl⟩
      |false =>
       have h2':(cmpI a.kind b.kind==0)=true:=by simpa using h2
       rw[QwJ (by rw[h2];simp)]at e
       cases h3:(cmpI a.int b.int != 0)with
       |true =>
        have h3':(cmpI a.int b.int==0)=false:=by simpa using h3
        rw[QwN h3]at e
        refine Qb Tryz.func168 rfl Tryz.call168 Tryz.ntmps168 Tryz.results168 (by simp) ?_
        repeat first|(first|refine Qy r1 ?_|refine QO r1 ?_|refine QO r2 ?_|refine QO c1 ?_|refine Qy c2 ?_|refine Qy c4 ?_|refine QH (id:=1) [(0,0),(1,1),(2,0),(3,1),(4,1),(5,0)] mixed (by kernel_rfl) fun K hK=>?_|refine Qn ?_);simp only[go_sem,seval,h1,b0,b1,b2,h2',h3']|refine hK _ ?_;clear hK
        first|refine Qc (htake _ _) (.keep (.v _)) ⟨by rw[e],rfl⟩|refine Qc QwH (.keep (.v _)) ⟨by rw[e],rfl⟩
       |false =>
        have h3':(cmpI a.int b.int==0)=true:=by simpa using h3
        rw[QwJ (by rw[h3];simp)]at e
        refine Qb Tryz.func168 rfl Tryz.call168 Tryz.ntmps168 Tryz.results168 (by simp) ?_
        repeat first|(first|refine Qy r1 ?_|refine QO r1 ?_|refine QO r2 ?_|refine QO c1 ?_|refine Qy c2 ?_|refine Qy c3 ?_|refine Qy c4 ?_|refine QH (id:=1) [(0,0),(1,1),(2,0),(3,1),(4,1),(5,0)] mixed (by kernel_rfl) fun K hK=>?_|refine Qn ?_);simp only[go_sem,seval,h1,b0,b1,b2,h2',h3']|refine hK _ ?_;clear hK
        first|refine Qc (htake _ _) (.keep (.v _)) ⟨?_,rfl⟩|refine Qc QwH (.keep (.v _)) ⟨?_,rfl⟩
        rw[e,orL];split <;> simp_all
theorem QgE(a b:List T)(ha:ndsL a<=1000000):Pure Tryz.prog 112 [.sl 4 (avs a) none,.sl 4 (avs b) none] (.b (cmpL a b==0)):=by
 intro h
 have c:=Qg8 1000000 (Qcq 1000000 (QwP _)) a b ha (by have:=X5 a;omega)
 refine Qb Tryz.func112 rfl Tryz.call112 Tryz.ntmps112 Tryz.results112 (by simp) ?_
 repeat (first|refine Qy c ?_|refine Qn ?_);simp only[go_sem,seval]
 first|refine Qc (htake _ _) (.keep (.v _)) ⟨rfl,rfl⟩|refine Qc QwH (.keep (.v _)) ⟨rfl,rfl⟩
end Go.Proofs.YtenheconhibonaaGreatDoor.Ab
namespace Go.Proofs.YtenheconhibonaaGreatDoor.Ab
theorem Xl{P:Program}{N c:Nat}{fv:AV}{args:List AV}{s:AS}{d:Option Tmp}{K:AS->Prop}{r:AV}{h':AH}(H:FunW P fv args s.h fun o h2=>o = .ret r/\h2=h')(hk:c=3->Keep s.h h')(k:K (AS.put N {s with h:=h'} d r)):Qre P N c fv args s d K:=⟨r,h',H,hk,k⟩
def vs{X:Type}(f:X->AV)(l:List X):List AV:=l.map f
section
variable{X:Type}(f:X->AV)
theorem QN(l:List X):(vs f l).length=l.length:=Qxj _
theorem QaK{l:List X}{k:Nat}(h:k<l.length):(vs f l)[k]? = some (f l[k]):=by
 rw[vs,Qxd,QwK h];rfl
theorem QdR(l m:List X):vs f (l++m)=vs f l++vs f m:=Qxs
theorem Qrc:vs f []=[]:=rfl
theorem Qsn(x:X)(l:List X):vs f (x::l)=f x::vs f l:=rfl
theorem Qel(n:Nat)(hf:∀x,∀a∈(f x).cells,Below n a)(l:List X):∀a∈flat (vs f l),Below n a:=by
 intro a ha
 simp only[flat,vs,Qyn,Qxa]at ha
 obtain⟨x,⟨b,_,rfl⟩,hx⟩:=ha
 exact hf b a hx
theorem Qbj(n s:Nat)(hf:∀x,∀a∈(f x).cells,Below n a)(l:List X):Below n (.sl s (vs f l) none):=.sl s _ none (Qel f n hf l) (fun b hb=>by cases hb)
end
structure G where
 op:Int
 name:ByteArray
 args:List T
def G.atom(g:G):AV:=.agg [.v (.string g.name),.sl 4 (avs g.args) none]
def G.goal(g:G):AV:=.agg [.v (.int .i64 g.op),.v (.string g.name),.sl 4 (avs g.args) none]
theorem ZX(g:G):g.atom.cells=[.v (.string g.name),.sl 4 (avs g.args) none]:=rfl
theorem QdS(g:G):g.atom.isAgg=true:=rfl
theorem Q4(g:G):g.goal.cells=[.v (.int .i64 g.op),.v (.string g.name),.sl 4 (avs g.args) none]:=rfl
theorem QbJ(n:Nat)(g:G):∀a∈g.atom.cells,Below n a:=by
 intro a ha
 rw[ZX]at ha
 simp only[QwS,Qw4,QxK]at ha
 rcases ha with rfl|rfl
 ·exact .v _
 ·exact Qfj _ _
theorem Qbd(n:Nat)(g:G):∀a∈g.goal.cells,Below n a:=by
 intro a ha
 rw[Q4]at ha
 simp only[QwS,Qw4,QxK]at ha
 rcases ha with rfl|rfl|rfl
 ·exact .v _
 ·exact .v _
 ·exact Qfj _ _
structure Rl where
 name:ByteArray
 keep:List G
 remove:List G
 guard:List G
 body:List G
 vars:Int
def Rl.av(r:Rl):AV:=.agg [.v (.string r.name),.sl 2 (vs G.atom r.keep) none,.sl 2 (vs G.atom r.remove) none,.sl 3 (vs G.goal r.guard) none,.sl 3 (vs G.goal r.body) none,.v (.int .i64 r.vars)]
theorem Rl.cells(r:Rl):r.av.cells=[.v (.string r.name),.sl 2 (vs G.atom r.keep) none,.sl 2 (vs G.atom r.remove) none,.sl 3 (vs G.goal r.guard) none,.sl 3 (vs G.goal r.body) none,.v (.int .i64 r.vars)]:=rfl
theorem Rl.isAgg(r:Rl):r.av.isAgg=true:=rfl
structure Ky where
 name:ByteArray
 arity:Int
 pos:List Int
def Ky.av(k:Ky):AV:=.agg [.v (.string k.name),.v (.int .i64 k.arity),.sl 1 (ints k.pos) none]
theorem Ky.cells(k:Ky):k.av.cells=[.v (.string k.name),.v (.int .i64 k.arity),.sl 1 (ints k.pos) none]:=rfl
theorem Ky.isAgg(k:Ky):k.av.isAgg=true:=rfl
theorem Qp6(n:Nat)(l:List Int):Below n (.sl 1 (ints l) none):=.sl 1 _ none (Qcg n l) (fun b hb=>by cases hb)
theorem Ky.bel(n:Nat)(k:Ky):∀a∈k.av.cells,Below n a:=by
 intro a ha
 rw[Ky.cells]at ha
 simp only[QwS,Qw4,QxK]at ha
 rcases ha with rfl|rfl|rfl
 ·exact .v _
 ·exact .v _
 ·exact Qp6 _ _
theorem Ky.below(n:Nat)(k:Ky):Below n k.av:=.agg _ (Ky.bel n k)
structure It where
 id:Int
 atom:G
def It.av(x:It):AV:=.agg [.v (.int .i64 x.id),.v (.string x.atom.name),.sl 4 (avs x.atom.args) none]
theorem It.cells(x:It):x.av.cells=[.v (.int .i64 x.id),.v (.string x.atom.name),.sl 4 (avs x.atom.args) none]:=rfl
theorem It.isAgg(x:It):x.av.isAgg=true:=rfl
theorem Z1(g:G):g.goal.isAgg=true:=rfl
theorem Rl.bel(n:Nat)(r:Rl):∀a∈r.av.cells,Below n a:=by
 intro a ha
 rw[Rl.cells]at ha
 simp only[QwS,Qw4,QxK]at ha
 rcases ha with rfl|rfl|rfl|rfl|rfl|rfl
 ·exact .v _
 ·exact Qbj _ _ _ (QbJ _) _
 ·exact Qbj _ _ _ (QbJ _) _
 ·exact Qbj _ _ _ (Qbd _) _
 ·exact Qbj _ _ _ (Qbd _) _
 ·exact .v _
structure Dc where
 name:ByteArray
 arity:Int
def Dc.av(d:Dc):AV:=.agg [.v (.string d.name),.v (.int .i64 d.arity)]
theorem Dc.cells(d:Dc):d.av.cells=[.v (.string d.name),.v (.int .i64 d.arity)]:=rfl
theorem Dc.isAgg(d:Dc):d.av.isAgg=true:=rfl
theorem Dc.bel(n:Nat)(d:Dc):∀a∈d.av.cells,Below n a:=by
 intro a ha
 rw[Dc.cells]at ha
 simp only[QwS,Qw4,QxK]at ha
 rcases ha with rfl|rfl <;> exact .v _
structure Pg where
 decls:List Dc
 rules:List Rl
def Pg.av(p:Pg):AV:=.agg [.sl 2 (vs Dc.av p.decls) none,.sl 6 (vs Rl.av p.rules) none]
theorem Pg.cells(p:Pg):p.av.cells=[.sl 2 (vs Dc.av p.decls) none,.sl 6 (vs Rl.av p.rules) none]:=rfl
theorem Pg.isAgg(p:Pg):p.av.isAgg=true:=rfl
end Go.Proofs.YtenheconhibonaaGreatDoor.Ab
namespace Go.Proofs.YtenheconhibonaaGreatDoor.Ab
def Wk(a b:AV):Prop:=∀c x,Rel c a x->Rel c b x
def WkL(l l':List AV):Prop:=l.length=l'.length/\∀(j:Nat) a b,l[j]? = some a->l'[j]? = some b->Wk a b
theorem Wk.refl(a:AV):Wk a a:=fun _ _ h=>h
theorem Wk.trans{a b d:AV}(h:Wk a b)(k:Wk b d):Wk a d:=fun c x r=>k c x (h c x r)
theorem Wk.nilS(s:Nat):Wk (.v (.slice none 0 0)) (.sl s [] none):=fun c x h=>QmS s h
theorem WkL.nil:WkL [] []:=⟨rfl,fun j a b h=>by simp at h⟩
theorem WkL.refl(l:List AV):WkL l l:=⟨rfl,fun j a b h k=>by rw[h]at k;cases k;exact .refl a⟩
theorem WkL.cons{a b:AV}{l m:List AV}(h:Wk a b)(k:WkL l m):WkL (a::l) (b::m):=by
 refine⟨by simp[k.1],fun j x y hx hy=>?_⟩
 cases j with
 |zero=>simp at hx hy;subst hx;subst hy;exact h
 |succ j=>exact k.2 j x y (by simpa using hx) (by simpa using hy)
theorem WkL.append{l1 l2 m1 m2:List AV}(h:WkL l1 m1)(k:WkL l2 m2):WkL (l1++l2) (m1++m2):=by
 refine⟨by simp[h.1,k.1],fun j x y hx hy=>?_⟩
 rcases Qyd j l1.length with hj|hj
 ·rw[QwI hj]at hx
  rw[QwI (by rw[<-h.1];exact hj)]at hy
  exact h.2 j x y hx hy
 ·rw[QwO hj]at hx
  rw[QwO (by rw[<-h.1];exact hj),<-h.1]at hy
  exact k.2 _ x y hx hy
theorem Wk.agg{l m:List AV}(h:WkL l m):Wk (.agg l) (.agg m):=by
 intro c x r
 cases r with
 |agg _ cs hl hr =>
  refine .agg m cs (hl.trans h.1) fun j a u ha hu=>?_
  obtain⟨b,hb⟩:∃b,l[j]? = some b:=⟨_,QwK (by rw[h.1];exact Qv ha)⟩
  exact h.2 j b a hb ha c u (hr j b u hb hu)
theorem Wk.sl{s:Nat}{xs ys:List AV}{own:Option Nat}(hl:xs.length=ys.length)(hs:∀y∈ys,y.cells.length=s)(h:WkL (flat xs) (flat ys)):Wk (.sl s xs own) (.sl s ys none):=by
 intro c x r
 cases r with
 |slnil _ _ ht =>
  cases ys with
  |nil=>exact .slnil s none fun b hb=>by cases hb
  |cons y ys=>simp at hl
 |slzero _ _ ba ht =>
  cases ys with
  |nil=>exact .slzero s none ba fun b hb=>by cases hb
  |cons y ys=>simp at hl
 |sl _ _ _ B o cap f hs' hcap hmax hc hr ht =>
  rw[hl]
  rw[hl]at hcap
  have old:∀(j:Nat) a,(flat ys)[j]? = some a->∃b,(flat xs)[j]? = some b:=fun j a ha=>⟨_,QwK (by rw[h.1];exact Qv ha)⟩
  refine .sl s ys none B o cap f hs hcap hmax (fun j a ha=>?_) (fun j a ha=>?_) fun b hb=>by cases hb
  ·obtain⟨b,hb⟩:=old j a ha
   exact hc j b hb
  ·obtain⟨b,hb⟩:=old j a ha
   exact h.2 j b a hb ha c _ (hr j b hb)
theorem RelL.weak{c:Cx}{args args':List AV}{vals:Array Value}(hw:WkL args args')(h:RelL c args vals):RelL c args' vals:=by
 refine⟨h.1.trans hw.1,fun j a u ha hu=>?_⟩
 obtain⟨b,hb⟩:∃b,args[j]? = some b:=⟨_,QwK (by rw[hw.1];exact Qv ha)⟩
 exact hw.2 j b a hb ha c u (h.2 j b u hb hu)
theorem Qmg{P:Program}{f:FuncId}{args args':List AV}{h:AH}{Q:AOut->AH->Prop}(hw:WkL args args')(H:QT P f args' h Q):QT P f args h Q :=
 ⟨H.1,fun F n c vals hF hst hh hvals=>H.2 F n c vals hF hst hh (hvals.weak hw)⟩
theorem Qgv{P:Program}{N:Nat}{code:Code}{Q:AExit->AS->Prop}{tm:Nat->AV}{h:AH}(id ty s:Nat)(xs xs':List AV)(hb:h[id]? = some (.cells ty s xs))(hs:∀x∈xs',x.cells.length=s)(hw:WkL (flat xs) (flat xs'))
  (H:XO P N code Q ⟨tm,h.set id (.cells ty s xs')⟩):XO P N code Q ⟨tm,h⟩:=by
 intro F n base c a hF hst hr R hR
 have hh:c.h=h:=hr.h
 subst hh
 obtain⟨B,cur,hρ,hcur,h3,h4⟩:=hst.blocks id _ hb
 have hev:=Ev.turn (b':=.cells ty s xs') hst hb rfl hρ (w:=c.w) rfl rfl rfl rfl (fun _ _=>rfl) (.inr ⟨_,rfl,rfl,fun _ cur _ h=>⟨cur,h,rfl⟩⟩)
 have hst2:=St.turn (b':=.cells ty s xs') hst hb rfl hρ (w:=c.w) (fun _ _=>rfl) hev ⟨B,cur,hρ,hcur,hs,fun j a' ha=>by
  obtain⟨b,hb'⟩:∃b,(flat xs)[j]? = some b:=⟨_,QwK (by rw[hw.1];exact Qv ha)⟩
  obtain⟨u,g1,g2,g3⟩:=h4 j b hb'
  exact⟨u,g1,g2,(hw.2 j b a' hb' ha c u g3).ev hst hev⟩⟩
 have hw':(c.turn c.w id (.cells ty s xs')).w=c.w:=rfl
 rw[<-hw']
 exact H F n base _ a hF hst2 ⟨rfl,hr.size,Qw8 hr.above hev.size,hr.defers.ev hev,RoundOk.ev hev hr.round,fun t=>(hr.tm t).ev hst hev⟩ R fun e' s' c' a' ex hq h1 h2 h3 h4=>hR e' s' c' a' ex hq (Ev.trans hst hev h1) h2 h3 h4
theorem Qcn{P:Program}{N:Nat}{base:Bs×Fence}{ops:Array Oper}{Q:AS->Prop}{E:AV->AS->Prop}{F:Fence}{n:Nat}(hF:WF F){Qx:Exit->Act->World->Prop}{tail:List Nat}:∀(l:List Oper) (k:Nat) (s:AS) (c:Cx) (a:Act),(∀j,j<l.length->l[j]? = ops[k+j]?) ->
  OpsW P N ops l Q E s->St c->SR N base c s a->(∀s' c' a',Q s'->Ev c c'->St c'->SR N base c' s' a'->wpOpsIn F n P ops Qx tail a' c'.w) ->
  (∀r s' c' a' x,E r s'->Ev c c'->St c'->SR N base c' s' a'->Rel c' r x->Qx (.panic [{v:=x,recovered:=false}]) a' c'.w)->wpOpsIn F n P ops Qx (List.range' k l.length++tail) a c.w
 |[],k,s,c,a,hl,H,hst,hr,hQ,hE=>by
  simp only[Qv3,List.range'_zero,Qwg]
  exact hQ s c a H (Ev.refl c) hst hr
 |o::l,k,s,c,a,hl,H,hst,hr,hQ,hE=>by
  have h0:ops[k]? = some o:=by simpa using(hl 0 (by simp)).symm
  have hl':∀j,j<l.length->l[j]? = ops[k+1+j]? := fun j hj=>by have:=hl (j+1) (by simp;omega);simpa [Qx2,QyM 1 j]using this
  simp only[Qv2,List.range'_succ,Qwh,wpOpsIn,h0]
  simp only[OpsW]at H
  split at H
  ·rename_i hw
   rw[Xt hr hw]
   simp only[QxP]
   refine Qcm H hF hst hr ?_ ?_
   ·intro s' c' a' hK h1 h2 h3
    exact Qcn hF l (k+1) s' c' a' hl' hK h2 h3 (fun s2 c2 a2 q e2 t2 r2=>hQ s2 c2 a2 q (Ev.trans hst h1 e2) t2 r2) (fun r s2 c2 a2 x q e2 t2 r2=>hE r s2 c2 a2 x q (Ev.trans hst h1 e2) t2 r2)
   ·intro r s' c' x he h1 h2 h3 hx
    exact hE r s' c' a x he h1 h2 h3 hx
  ·rename_i hw
   rw[Xt hr hw]
   simp only[QvT,QxC]
   refine⟨fun f _=>hF.fn f,?_⟩
   have hr':=hr.put hst (Ev.refl c) o.dst (.v undef)
   rw[hr.h]at hr'
   exact Qcn hF l (k+1) _ c _ hl' H hst hr' hQ hE
  ·exact H.elim
end Go.Proofs.YtenheconhibonaaGreatDoor.Ab
namespace Go.Proofs.YtenheconhibonaaGreatDoor.Ab
open Go.RowKit
theorem WF.Qvr{F:Fence}(h:WF F):F.plain=Fence.wide:=by
 obtain⟨fn,depth,alive,round⟩:=F
 obtain⟨h1,h2,h3⟩:=h
 have h1':∀f,fn f:=h1
 have h2':depth=none:=h2
 have h3':alive=false:=h3
 subst h2' h3'
 have:fn=fun _=>True:=funext fun f=>by simpa using h1' f
 subst this
 rfl
theorem QeK{F:Fence}(hF:WF F){n:Nat}{P:Program}{f:FuncId}{args:Array Value}{w:World}{R:Ending->World->Prop}(h:Calls P f args w R):CallsIn F n P f args w R :=
 QbM (by rw[hF.Qvr];exact callsIn_wide.2 h)
theorem Grows.of_below{w w':World}(h:Go.RowKit.Below w.heap.size w w'):Grows w w':=⟨h.os,h.tape,h.output,h.size,h.block⟩
theorem Qr5{c:Cx}{vs:List Value}{vals:Array Value}(h:RelL c (vs.map AV.v) vals):vals=vs.toArray:=by
 apply Array.ext'
 apply QxE
 intro j
 rcases Qyd j vs.length with hj|hj
 ·have h1:(vs.map AV.v)[j]? = some (.v vs[j]):=by rw[Qxd,QwK hj];rfl
  have hs:vals.size=vs.length:=by rw[h.1,Qxj]
  have h2:vals[j]? = some vals[j]:=Qw0 (by omega)
  have:=h.2 j _ _ h1 h2
  rw[QxJ,h2,List.toList_toArray,QwK hj]
  generalize vals[j]=u at this
  cases this
  rfl
 ·have hs:vals.size=vs.length:=by rw[h.1,Qxj]
  rw[QxJ,Array.getElem?_eq_none (by omega),List.toList_toArray,Qxp hj]
theorem Qfm{P:Program}{f:FuncId}{vs:List Value}{h:AH}{a:AV}(hcall:∀vals w,(callFunc f vals).run P w = .ok (.enter f vals) w)
  (H:∀c:Cx,St c->c.h=h->Calls P f vs.toArray c.w fun e w'=>∃u,e = .returned u/\Go.RowKit.Below c.w.heap.size c.w w'/\∀c',Rel c' a u):QT P f (vs.map AV.v) h fun o h'=>o = .ret a/\h'=h:=by
 refine⟨hcall,fun F n c vals hF hst hh hvals=>QeK hF ?_⟩
 rw[Qr5 hvals]
 refine(H c hst hh).mono ?_
 rintro e w' ⟨u,rfl,hb,hu⟩
 have hg:=Grows.of_below hb
 exact⟨.ret a,c.to w',⟨rfl,hh⟩,Ev.grows hst hg,hst.grows hg,rfl,⟨u,rfl,hu _⟩⟩
theorem Qqr{P:Program}{f:FuncId}{vs:List Value}{a:AV}(hcall:∀vals w,(callFunc f vals).run P w = .ok (.enter f vals) w)
  (H:∀w,Calls P f vs.toArray w fun e w'=>∃u,e = .returned u/\Go.RowKit.Below w.heap.size w w'/\∀c',Rel c' a u):Pure P f (vs.map AV.v) a :=
 fun h=>Qfm hcall fun c _ _=>H c.w
end Go.Proofs.YtenheconhibonaaGreatDoor.Ab
namespace Go.Proofs.YtenheconhibonaaGreatDoor.Ab
def byteAt(s:ByteArray)(i:Nat):Int:=((s.data.toList.getD i 0).toNat:Nat)
theorem Qme(s:ByteArray)(i:Nat):0<=byteAt s i/\byteAt s i<256:=by
 have:=(s.data.toList.getD i 0).toNat_lt
 unfold byteAt
 omega
theorem Qmp(s:ByteArray)(i:Nat)(h:i<s.size):s[i]? = some (s.data.toList.getD i 0):=by
 have h':i<s.data.size:=h
 rw[getElem?_pos s i h]
 congr 1
 show s.data[i]=_
 rw[Qxe,QwK (by simpa using h')]
 simp
theorem QaH(P:Program)(t:TypeId)(ht:P.underlying t=some .string)(s:ByteArray)(i:Nat)(h:i<s.size):pv P (Instr.index t (.string s) (.int .i64 (i:Int)))=some (.int .u8 (byteAt s i)):=by
 have hi:(0:Int)<=(i:Int):=by omega
 simp only[Instr.index,asIntOf,Bind.bind,Sem.bind,Pure.pure,pv,underlying,program,ht]
 rw[QwN hi,Int.toNat_natCast,Qmp s i h]
 rfl
theorem QmQ(P:Program)(t:TypeId)(ht:P.underlying t=some .string)(s:ByteArray)(h:0<s.size):pv P (Instr.index t (.string s) (.int .i64 0))=some (.int .u8 (byteAt s 0)):=QaH P t ht s 0 h
theorem QeX(P:Program)(q:IntKind)(i:Int)(y:Nat)(code:BoundsCode)(h:0<=i/\i<=(y:Int)):pv P (Instr.sliceBound (.int q i) y code)=some i.toNat:=by
 show pv P (if 0<=i/\i<=(y:Int)then pure i.toNat else boundsPanic q i y code)=_
 rw[QwN h];rfl
theorem Qh7{α:Type}(P:Program)(a:α):pv P (pure a:Sem α)=some a:=rfl
theorem Qh8(P:Program){t:TypeId}{d:TypeDesc}(ht:P.underlying t=some d):pv P (underlying t)=some d:=by
 simp only[underlying,program,Bind.bind,Sem.bind,pv,ht];rfl
theorem QoT(P:Program)(len cap:Nat)(lo hi:Option (IntKind×Int))(l k:Nat)(hk:match hi with|some (_,i)=>0<=i/\i<=(cap:Int)/\i.toNat=k|none=>len=k)(hl:match lo with|some (_,i)=>0<=i/\i<=(k:Int)/\i.toNat=l|none=>l=0) :
  pv P (Instr.sliceBounds false len cap (lo.map fun x=>.int x.1 x.2) (hi.map fun x=>.int x.1 x.2) none)=some (l,k,cap):=by
 unfold Instr.sliceBounds
 cases hi with
 |none =>
  subst hk
  cases lo with
  |none=>subst hl;rfl
  |some x =>
   obtain⟨q,i⟩:=x
   obtain⟨h1,h2,h3⟩:=hl
   simp only[Qwu,QvR,YW,Qh7,QvU,QyF,QvT,↓reduceIte,QeX P q i len .sliceB ⟨h1,h2⟩,h3]
 |some x =>
  obtain⟨q,i⟩:=x
  obtain⟨h1,h2,h3⟩:=hk
  cases lo with
  |none =>
   subst hl
   simp only[Qwu,QvR,YW,Qh7,QvU,QyF,QvT,↓reduceIte,QeX P q i cap .sliceAlen ⟨h1,h2⟩,h3]
  |some x =>
   obtain⟨q',i'⟩:=x
   obtain⟨h4,h5,h6⟩:=hl
   simp only[Qwu,QvR,YW,Qh7,QvU,QyF,QvT,↓reduceIte,QeX P q i cap .sliceAlen ⟨h1,h2⟩,h3,QeX P q' i' k .sliceB ⟨h4,h5⟩,h6]
theorem QdD(P:Program)(t:TypeId)(ht:P.underlying t=some .string)(s:ByteArray)(lo hi:Option (IntKind×Int))(l k:Nat)(hk:match hi with|some (_,i)=>0<=i/\i<=(s.size:Int)/\i.toNat=k|none=>s.size=k)(hl:match lo with|some (_,i)=>0<=i/\i<=(k:Int)/\i.toNat=l|none=>l=0) :
  pv P (Instr.sliceAt t (.string s) (lo.map fun x=>.int x.1 x.2) (hi.map fun x=>.int x.1 x.2) none)=some (.string (s.extract l k)):=by
 have hu:pv P (underlying t)=some .string:=Qh8 P ht
 have:=QoT P s.size s.size lo hi l k hk hl
 unfold Instr.sliceAt
 rw[YW,hu]
 show pv P (Instr.slice t (.string s) _ _ none)=_
 unfold Instr.slice
 rw[YW,hu]
 simp only[QvU,QyF,QvT,↓reduceIte,YW,Qh7,this]
theorem Qqt(P:Program)(t:TypeId)(ht:P.underlying t=some .string)(s:ByteArray)(i:Nat)(h:i<=s.size):pv P (Instr.sliceAt t (.string s) (some (.int .i64 (i:Int))) none none)=some (.string (s.extract i s.size)) :=
 QdD P t ht s (some (.i64,i)) none i s.size rfl ⟨by omega,by omega,by omega⟩
theorem QaL(P:Program)(t:TypeId)(xo yo:Operand)(a b:ByteArray)(h:a.size+b.size<=9223372036854775807):pv P (do eqGuard .add t xo yo (.string a) (.string b);binOp .add t (.string a) (.string b))=some (.string (a++b)):=by
 have h1:pv P (Op.stringOp .add a b)=some (.string (a++b)):=by
  unfold Op.stringOp
  simp only
  rw[QwJ (by show ¬((a.size+b.size:Nat):Int)>9223372036854775807;omega)]
  rfl
 rw[YW]
 show(some ()).bind _=_
 exact h1
section
variable(P:Program)(t:TypeId)(xo yo:Operand)(k:IntKind)(a b:Int)
theorem Qtd(h:b≠0):pv P (do eqGuard .quo t xo yo (.int k a) (.int k b);binOp .quo t (.int k a) (.int k b))=some (.int k (k.wrap (a.tdiv b))):=by
 cases k <;> (rw[YW];show pv P (Op.intDiv .quo _ a b)=_;simp[Op.intDiv,h];rfl)
theorem Qte(h:b≠0):pv P (do eqGuard .rem t xo yo (.int k a) (.int k b);binOp .rem t (.int k a) (.int k b))=some (.int k (a.tmod b)):=by
 cases k <;> (rw[YW];show pv P (Op.intDiv .rem _ a b)=_;simp[Op.intDiv,h];rfl)
end
theorem Qlp(s:ByteArray)(i:Nat):((s.get! i).toNat:Int)=byteAt s i:=by
 unfold byteAt
 congr 2
 show s.data[i]! = _
 rw[Qxe]
 by_cases h:i<s.data.size
 ·rw[getElem!_pos s.data i h,QwK (by simpa using h)]
  simp
 ·rw[getElem!_neg s.data i h,Qxp (by simpa using h)]
  rfl
theorem decode_ascii{s:ByteArray}{i:Nat}(h:byteAt s i<128):((Utf8.decode s i).1:Int)=byteAt s i/\(Utf8.decode s i).2=1:=by
 rw[<-Qlp]at h ⊢
 unfold Utf8.decode
 simp only[Qwe]
 rw[QwN (by omega)]
 exact⟨rfl,rfl⟩
theorem Qmm{s:ByteArray}{i:Nat}(h:128<=byteAt s i):128<=(Utf8.decode s i).1:=by
 rw[<-Qlp]at h
 unfold Utf8.decode
 simp only[Qwe]
 rw[QwJ (by omega)]
 have hr:(128:Nat)<=Utf8.runeError:=by decide
 repeat' split
 all_goals first|exact hr|(rename_i h;simp at h;omega)|(simp_all;omega)
end Go.Proofs.YtenheconhibonaaGreatDoor.Ab
namespace Go.Proofs.YtenheconhibonaaGreatDoor.Ab
open Go.Proofs
theorem FunW.call{P:Program}{f:FuncId}{args:List AV}{h:AH}{Q:AOut->AH->Prop}(H:QT P f args h Q):FunW P (.fn (.func f) [] []) args h Q:=FunW.fn (by rw[Qwg,Qwi];exact H)
theorem FunW.ret{P:Program}{fv:AV}{args:List AV}{h h':AH}{r:AV}{Q:AOut->AH->Prop}(H:FunW P fv args h fun o h2=>o = .ret r/\h2=h')(k:Q (.ret r) h'):FunW P fv args h Q:=H.mono (by rintro _ _ ⟨rfl,rfl⟩;exact k)
def ofN(c:Int):Int:=if 97<=c/\c<=122 then 1 else if (65<=c/\c<=90)\/c=95 then 2 else if 48<=c/\c<=57 then 4 else 0
theorem QoC(c:Int)(hc:0<=c/\c<256):Pure Tryz.prog 135 [.v (.int .u8 c)] (.v (.int .u8 (ofN c))):=by
 intro h
 have hcs:c<48\/48<=c/\c<=57\/58<=c/\c<=64\/65<=c/\c<=90\/91<=c/\c<=94\/c=95\/c=96\/97<=c/\c<=122\/122<c:=by omega
 rcases hcs with hc1|hc1|hc1|hc1|hc1|hc1|hc1|hc1|hc1
 ·-- c<48
  have e0:ofN c=0:=by simp only[ofN];repeat' (first|rw[QwN (by omega)]|rw[QwJ (by omega)])
  have a1:¬97<=c:=by omega
  have a2:c<=122:=by omega
  have a3:¬65<=c:=by omega
  have a4:c<=90:=by omega
  have a5:¬48<=c:=by omega
  have a6:c<=57:=by omega
  have a7:(c==95)=false:=by simp;omega
  refine Qb Tryz.func135 rfl Tryz.call135 Tryz.ntmps135 Tryz.results135 (by simp) ?_
  with_reducible repeat first|(first|refine Qa fun K E hK hE=>?_|refine Ql fun K E hK hE=>?_);simp only[Qh,Qe,Qk,OpW,aop,undef,AS.ev,Qg,Qu,QC,Qr,QG,QvW,↓reduceIte,Nat.reduceLT,Nat.reduceEqDiff,aBin,QvP,QvQ,QvR,QvU,QvS,Q1,YT,Qwm,QvT,beq_true,a1,a3,a5,a7]|refine Qf fun K hK=>?_|refine Qj ?_|refine Qp ?_|refine Qw ?_|refine Qd ?_|refine Qt ?_|refine hK _ ?_;clear hK|refine Qi rfl ?_;simp only[↓reduceIte,QvT]
  simp only[QS,Qq,Qz,upd,↓reduceIte,QvV,QvZ];first|refine Qc (htake _ _) (.keep (.v _)) ⟨by rw[e0],rfl⟩|refine Qc QwH (.keep (.v _)) ⟨by rw[e0],rfl⟩
 ·-- 48<=c/\c<=57
  have e0:ofN c=4:=by simp only[ofN];repeat' (first|rw[QwN (by omega)]|rw[QwJ (by omega)])
  have a1:¬97<=c:=by omega
  have a2:c<=122:=by omega
  have a3:¬65<=c:=by omega
  have a4:c<=90:=by omega
  have a5:48<=c:=by omega
  have a6:c<=57:=by omega
  have a7:(c==95)=false:=by simp;omega
  refine Qb Tryz.func135 rfl Tryz.call135 Tryz.ntmps135 Tryz.results135 (by simp) ?_
  with_reducible repeat first|(first|refine Qa fun K E hK hE=>?_|refine Ql fun K E hK hE=>?_);simp only[Qh,Qe,Qk,OpW,aop,undef,AS.ev,Qg,Qu,QC,Qr,QG,QvW,↓reduceIte,Nat.reduceLT,Nat.reduceEqDiff,aBin,QvP,QvQ,QvR,QvU,QvS,Q1,YT,Qwl,Qwm,QvX,QvT,beq_true,a1,a3,a5,a6,a7]|refine Qf fun K hK=>?_|refine Qj ?_|refine Qp ?_|refine Qd ?_|refine QB ?_|refine QF ?_|refine hK _ ?_;clear hK|refine Qi rfl ?_;simp only[↓reduceIte,QvT]
  simp only[QS,Qq,Qz,upd,↓reduceIte,QvV,QvZ];first|refine Qc (htake _ _) (.keep (.v _)) ⟨by rw[e0],rfl⟩|refine Qc QwH (.keep (.v _)) ⟨by rw[e0],rfl⟩
 ·-- 58<=c/\c<=64
  have e0:ofN c=0:=by simp only[ofN];repeat' (first|rw[QwN (by omega)]|rw[QwJ (by omega)])
  have a1:¬97<=c:=by omega
  have a2:c<=122:=by omega
  have a3:¬65<=c:=by omega
  have a4:c<=90:=by omega
  have a5:48<=c:=by omega
  have a6:¬c<=57:=by omega
  have a7:(c==95)=false:=by simp;omega
  refine Qb Tryz.func135 rfl Tryz.call135 Tryz.ntmps135 Tryz.results135 (by simp) ?_
  with_reducible repeat first|(first|refine Qa fun K E hK hE=>?_|refine Ql fun K E hK hE=>?_);simp only[Qh,Qe,Qk,OpW,aop,undef,AS.ev,Qg,Qu,QC,Qr,QG,QvW,↓reduceIte,Nat.reduceLT,Nat.reduceEqDiff,aBin,QvP,QvQ,QvR,QvU,QvS,Q1,YT,Qwl,Qwm,QvX,QvT,beq_true,a1,a3,a5,a6,a7]|refine Qf fun K hK=>?_|refine Qj ?_|refine Qp ?_|refine Qw ?_|refine Qd ?_|refine Qt ?_|refine hK _ ?_;clear hK|refine Qi rfl ?_;simp only[↓reduceIte,QvT]
  simp only[QS,Qq,Qz,upd,↓reduceIte,QvV,QvZ];first|refine Qc (htake _ _) (.keep (.v _)) ⟨by rw[e0],rfl⟩|refine Qc QwH (.keep (.v _)) ⟨by rw[e0],rfl⟩
 ·-- 65<=c/\c<=90
  have e0:ofN c=2:=by simp only[ofN];repeat' (first|rw[QwN (by omega)]|rw[QwJ (by omega)])
  have a1:¬97<=c:=by omega
  have a2:c<=122:=by omega
  have a3:65<=c:=by omega
  have a4:c<=90:=by omega
  have a5:48<=c:=by omega
  have a6:¬c<=57:=by omega
  have a7:(c==95)=false:=by simp;omega
  refine Qb Tryz.func135 rfl Tryz.call135 Tryz.ntmps135 Tryz.results135 (by simp) ?_
  with_reducible repeat first|refine Qa fun K E hK hE=>?_;simp only[Qh,Qe,Qk,OpW,aop,undef,AS.ev,Qg,Qu,QC,Qr,QG,QvW,↓reduceIte,Nat.reduceLT,Nat.reduceEqDiff,aBin,QvP,QvQ,QvR,QvU,QvS,YT,Qwl,Qwm,QvX,QvT,beq_true,a1,a3,a4]|refine Qf fun K hK=>?_|refine Qj ?_|refine Qp ?_|refine Qw ?_|refine Qd ?_|refine QB ?_|refine QF ?_|refine hK _ ?_;clear hK|refine Qi rfl ?_;simp only[↓reduceIte,QvT]
  simp only[QS,Qq,Qz,upd,↓reduceIte,QvV,QvZ];first|refine Qc (htake _ _) (.keep (.v _)) ⟨by rw[e0],rfl⟩|refine Qc QwH (.keep (.v _)) ⟨by rw[e0],rfl⟩
 ·-- 91<=c/\c<=94
  have e0:ofN c=0:=by simp only[ofN];repeat' (first|rw[QwN (by omega)]|rw[QwJ (by omega)])
  have a1:¬97<=c:=by omega
  have a2:c<=122:=by omega
  have a3:65<=c:=by omega
  have a4:¬c<=90:=by omega
  have a5:48<=c:=by omega
  have a6:¬c<=57:=by omega
  have a7:(c==95)=false:=by simp;omega
  refine Qb Tryz.func135 rfl Tryz.call135 Tryz.ntmps135 Tryz.results135 (by simp) ?_
  with_reducible repeat first|(first|refine Qa fun K E hK hE=>?_|refine Ql fun K E hK hE=>?_);simp only[Qh,Qe,Qk,OpW,aop,undef,AS.ev,Qg,Qu,QC,Qr,QG,QvW,↓reduceIte,Nat.reduceLT,Nat.reduceEqDiff,aBin,QvP,QvQ,QvR,QvU,QvS,Q1,YT,Qwl,Qwm,QvX,QvT,beq_true,a1,a3,a4,a5,a6,a7]|refine Qf fun K hK=>?_|refine Qj ?_|refine Qp ?_|refine Qw ?_|refine Qd ?_|refine Qt ?_|refine hK _ ?_;clear hK|refine Qi rfl ?_;simp only[↓reduceIte,QvT]
  simp only[QS,Qq,Qz,upd,↓reduceIte,QvV,QvZ];first|refine Qc (htake _ _) (.keep (.v _)) ⟨by rw[e0],rfl⟩|refine Qc QwH (.keep (.v _)) ⟨by rw[e0],rfl⟩
 ·-- c=95
  have e0:ofN c=2:=by simp only[ofN];repeat' (first|rw[QwN (by omega)]|rw[QwJ (by omega)])
  have a1:¬97<=c:=by omega
  have a2:c<=122:=by omega
  have a3:65<=c:=by omega
  have a4:¬c<=90:=by omega
  have a5:48<=c:=by omega
  have a6:¬c<=57:=by omega
  have a7:(c==95)=true:=by simp;omega
  refine Qb Tryz.func135 rfl Tryz.call135 Tryz.ntmps135 Tryz.results135 (by simp) ?_
  with_reducible repeat first|(first|refine Qa fun K E hK hE=>?_|refine Ql fun K E hK hE=>?_);simp only[Qh,Qe,Qk,OpW,aop,undef,AS.ev,Qg,Qu,QC,Qr,QG,QvW,↓reduceIte,Nat.reduceLT,Nat.reduceEqDiff,aBin,QvP,QvQ,QvR,QvU,QvS,Q1,YT,Qwl,Qwm,QvX,QvT,beq_true,a1,a3,a4,a7]|refine Qf fun K hK=>?_|refine Qj ?_|refine Qp ?_|refine Qd ?_|refine QB ?_|refine QF ?_|refine hK _ ?_;clear hK|refine Qi rfl ?_;simp only[↓reduceIte,QvT]
  simp only[QS,Qq,Qz,upd,↓reduceIte,QvV,QvZ];first|refine Qc (htake _ _) (.keep (.v _)) ⟨by rw[e0],rfl⟩|refine Qc QwH (.keep (.v _)) ⟨by rw[e0],rfl⟩
 ·-- c=96
  have e0:ofN c=0:=by simp only[ofN];repeat' (first|rw[QwN (by omega)]|rw[QwJ (by omega)])
  have a1:¬97<=c:=by omega
  have a2:c<=122:=by omega
  have a3:65<=c:=by omega
  have a4:¬c<=90:=by omega
  have a5:48<=c:=by omega
  have a6:¬c<=57:=by omega
  have a7:(c==95)=false:=by simp;omega
  refine Qb Tryz.func135 rfl Tryz.call135 Tryz.ntmps135 Tryz.results135 (by simp) ?_
  with_reducible repeat first|(first|refine Qa fun K E hK hE=>?_|refine Ql fun K E hK hE=>?_);simp only[Qh,Qe,Qk,OpW,aop,undef,AS.ev,Qg,Qu,QC,Qr,QG,QvW,↓reduceIte,Nat.reduceLT,Nat.reduceEqDiff,aBin,QvP,QvQ,QvR,QvU,QvS,Q1,YT,Qwl,Qwm,QvX,QvT,beq_true,a1,a3,a4,a5,a6,a7]|refine Qf fun K hK=>?_|refine Qj ?_|refine Qp ?_|refine Qw ?_|refine Qd ?_|refine Qt ?_|refine hK _ ?_;clear hK|refine Qi rfl ?_;simp only[↓reduceIte,QvT]
  simp only[QS,Qq,Qz,upd,↓reduceIte,QvV,QvZ];first|refine Qc (htake _ _) (.keep (.v _)) ⟨by rw[e0],rfl⟩|refine Qc QwH (.keep (.v _)) ⟨by rw[e0],rfl⟩
 ·-- 97<=c/\c<=122
  have e0:ofN c=1:=by simp only[ofN];repeat' (first|rw[QwN (by omega)]|rw[QwJ (by omega)])
  have a1:97<=c:=by omega
  have a2:c<=122:=by omega
  have a3:65<=c:=by omega
  have a4:¬c<=90:=by omega
  have a5:48<=c:=by omega
  have a6:¬c<=57:=by omega
  have a7:(c==95)=false:=by simp;omega
  refine Qb Tryz.func135 rfl Tryz.call135 Tryz.ntmps135 Tryz.results135 (by simp) ?_
  with_reducible repeat first|refine Qa fun K E hK hE=>?_;simp only[Qh,Qe,Qk,OpW,aop,undef,AS.ev,Qg,Qu,Qr,QG,QvW,↓reduceIte,Nat.reduceLT,Nat.reduceEqDiff,aBin,QvP,QvQ,QvR,QvU,QvS,YT,Qwl,QvX,a1,a2]|refine Qf fun K hK=>?_|refine Qj ?_|refine Qp ?_|refine QB ?_|refine QF ?_|refine hK _ ?_;clear hK|refine Qi rfl ?_;simp only[↓reduceIte]
  simp only[QS,Qq,Qz,upd,↓reduceIte,QvV,QvZ];first|refine Qc (htake _ _) (.keep (.v _)) ⟨by rw[e0],rfl⟩|refine Qc QwH (.keep (.v _)) ⟨by rw[e0],rfl⟩
 ·-- 122<c
  have e0:ofN c=0:=by simp only[ofN];repeat' (first|rw[QwN (by omega)]|rw[QwJ (by omega)])
  have a1:97<=c:=by omega
  have a2:¬c<=122:=by omega
  have a3:65<=c:=by omega
  have a4:¬c<=90:=by omega
  have a5:48<=c:=by omega
  have a6:¬c<=57:=by omega
  have a7:(c==95)=false:=by simp;omega
  refine Qb Tryz.func135 rfl Tryz.call135 Tryz.ntmps135 Tryz.results135 (by simp) ?_
  with_reducible repeat first|(first|refine Qa fun K E hK hE=>?_|refine Ql fun K E hK hE=>?_);simp only[Qh,Qe,Qk,OpW,aop,undef,AS.ev,Qg,Qu,Qr,QG,QvW,↓reduceIte,Nat.reduceLT,Nat.reduceEqDiff,aBin,QvP,QvQ,QvR,QvU,QvS,Q1,YT,Qwl,Qwm,QvX,a1,a2,a3,a4,a5,a6,a7]|refine Qf fun K hK=>?_|refine Qj ?_|refine Qp ?_|refine Qw ?_|refine Qd ?_|refine Qt ?_|refine hK _ ?_;clear hK|refine Qi rfl ?_;simp only[↓reduceIte,QvT]
  simp only[QS,Qq,Qz,upd,↓reduceIte,QvV,QvZ];first|refine Qc (htake _ _) (.keep (.v _)) ⟨by rw[e0],rfl⟩|refine Qc QwH (.keep (.v _)) ⟨by rw[e0],rfl⟩
def resB(s:ByteArray):Bool:=(s.toList==({data:=#[99,111,110,115,116,114,97,105,110,116]}:ByteArray).toList)||(s.toList==({data:=#[116,114,117,101]}:ByteArray).toList)||(s.toList==({data:=#[102,97,105,108]}:ByteArray).toList)||(s.toList==({data:=#[105,115]}:ByteArray).toList)||(s.toList==({data:=#[105,110,116]}:ByteArray).toList)||(s.toList==({data:=#[103,114,111,117,110,100]}:ByteArray).toList)
theorem QdG(s:ByteArray):Pure Tryz.prog 99 [.v (.string s)] (.b (resB s)):=by
 intro h
 cases d0:(s.toList==({data:=#[99,111,110,115,116,114,97,105,110,116]}:ByteArray).toList)with
 |true =>
  refine Qb Tryz.func99 rfl Tryz.call99 Tryz.ntmps99 Tryz.results99 (by simp) ?_
  with_reducible repeat first|refine Qa fun K E hK hE=>?_;simp only[Qh,Qe,Qk,OpW,aop,undef,AS.ev,Qg,QC,QI,Qr,QG,QvW,↓reduceIte,Nat.reduceLT,Nat.reduceEqDiff,aBin,QvR,Xv,d0]|refine Qf fun K hK=>?_|refine Qj ?_|refine Qp ?_|refine Qw ?_|refine Qd ?_|refine QB ?_|refine QF ?_|refine hK _ ?_;clear hK|refine Qi rfl ?_;simp only[↓reduceIte]
  simp only[QS,Qq,Qz,upd,↓reduceIte,QvV,QvZ];first|refine Qc (htake _ _) (.keep (.v _)) ⟨by simp only[resB,d0,Qx8],rfl⟩|refine Qc QwH (.keep (.v _)) ⟨by simp only[resB,d0,Qx8],rfl⟩
 |false =>
  cases d1:(s.toList==({data:=#[116,114,117,101]}:ByteArray).toList)with
  |true =>
   refine Qb Tryz.func99 rfl Tryz.call99 Tryz.ntmps99 Tryz.results99 (by simp) ?_
   with_reducible repeat first|refine Qa fun K E hK hE=>?_;simp only[Qh,Qe,Qk,OpW,aop,undef,AS.ev,Qg,QC,QI,Qr,QG,QvW,↓reduceIte,Nat.reduceLT,Nat.reduceEqDiff,aBin,QvR,Xv,d0,d1]|refine Qf fun K hK=>?_|refine Qj ?_|refine Qp ?_|refine Qw ?_|refine Qd ?_|refine QB ?_|refine QF ?_|refine hK _ ?_;clear hK|refine Qi rfl ?_;simp only[↓reduceIte,QvT]
   simp only[QS,Qq,Qz,upd,↓reduceIte,QvV,QvZ];first|refine Qc (htake _ _) (.keep (.v _)) ⟨by simp only[resB,d0,d1,QxN,Qx8],rfl⟩|refine Qc QwH (.keep (.v _)) ⟨by simp only[resB,d0,d1,QxN,Qx8],rfl⟩
  |false =>
   cases d2:(s.toList==({data:=#[102,97,105,108]}:ByteArray).toList)with
   |true =>
    refine Qb Tryz.func99 rfl Tryz.call99 Tryz.ntmps99 Tryz.results99 (by simp) ?_
    with_reducible repeat first|refine Qa fun K E hK hE=>?_;simp only[Qh,Qe,Qk,OpW,aop,undef,AS.ev,Qg,QC,QI,Qr,QG,QvW,↓reduceIte,Nat.reduceLT,Nat.reduceEqDiff,aBin,QvR,Xv,d0,d1,d2]|refine Qf fun K hK=>?_|refine Qj ?_|refine Qp ?_|refine Qw ?_|refine Qd ?_|refine QB ?_|refine QF ?_|refine hK _ ?_;clear hK|refine Qi rfl ?_;simp only[↓reduceIte,QvT]
    simp only[QS,Qq,Qz,upd,↓reduceIte,QvV,QvZ];first|refine Qc (htake _ _) (.keep (.v _)) ⟨by simp only[resB,d0,d1,d2,QxO,QxN,Qx8],rfl⟩|refine Qc QwH (.keep (.v _)) ⟨by simp only[resB,d0,d1,d2,QxO,QxN,Qx8],rfl⟩
   |false =>
    cases d3:(s.toList==({data:=#[105,115]}:ByteArray).toList)with
    |true =>
     refine Qb Tryz.func99 rfl Tryz.call99 Tryz.ntmps99 Tryz.results99 (by simp) ?_
     with_reducible repeat first|refine Qa fun K E hK hE=>?_;simp only[Qh,Qe,Qk,OpW,aop,undef,AS.ev,Qg,QC,QI,Qr,QG,QvW,↓reduceIte,Nat.reduceLT,Nat.reduceEqDiff,aBin,QvR,Xv,d0,d1,d2,d3]|refine Qf fun K hK=>?_|refine Qj ?_|refine Qp ?_|refine Qw ?_|refine Qd ?_|refine QB ?_|refine QF ?_|refine hK _ ?_;clear hK|refine Qi rfl ?_;simp only[↓reduceIte,QvT]
     simp only[QS,Qq,Qz,upd,↓reduceIte,QvV,QvZ];first|refine Qc (htake _ _) (.keep (.v _)) ⟨by simp only[resB,d0,d1,d2,d3,QxO,QxN,Qx8],rfl⟩|refine Qc QwH (.keep (.v _)) ⟨by simp only[resB,d0,d1,d2,d3,QxO,QxN,Qx8],rfl⟩
    |false =>
     cases d4:(s.toList==({data:=#[105,110,116]}:ByteArray).toList)with
     |true =>
      refine Qb Tryz.func99 rfl Tryz.call99 Tryz.ntmps99 Tryz.results99 (by simp) ?_
      with_reducible repeat first|refine Qa fun K E hK hE=>?_;simp only[Qh,Qe,Qk,OpW,aop,undef,AS.ev,Qg,QC,QI,Qr,QG,QvW,↓reduceIte,Nat.reduceLT,Nat.reduceEqDiff,aBin,QvR,Xv,d0,d1,d2,d3,d4]|refine Qf fun K hK=>?_|refine Qj ?_|refine Qp ?_|refine Qw ?_|refine Qd ?_|refine QB ?_|refine QF ?_|refine hK _ ?_;clear hK|refine Qi rfl ?_;simp only[↓reduceIte,QvT]
      simp only[QS,Qq,Qz,upd,↓reduceIte,QvV,QvZ];first|refine Qc (htake _ _) (.keep (.v _)) ⟨by simp only[resB,d0,d1,d2,d3,d4,QxO,QxN,Qx8],rfl⟩|refine Qc QwH (.keep (.v _)) ⟨by simp only[resB,d0,d1,d2,d3,d4,QxO,QxN,Qx8],rfl⟩
     |false =>
      cases d5:(s.toList==({data:=#[103,114,111,117,110,100]}:ByteArray).toList)with
      |true =>
       refine Qb Tryz.func99 rfl Tryz.call99 Tryz.ntmps99 Tryz.results99 (by simp) ?_
       with_reducible repeat first|(first|refine Qa fun K E hK hE=>?_|refine Ql fun K E hK hE=>?_);simp only[Qh,Qe,Qk,OpW,aop,undef,AS.ev,Qg,QC,QI,Qr,QG,QvW,↓reduceIte,Nat.reduceLT,Nat.reduceEqDiff,aBin,QvR,Xv,d0,d1,d2,d3,d4,d5]|refine Qf fun K hK=>?_|refine Qj ?_|refine Qp ?_|refine Qd ?_|refine QB ?_|refine QF ?_|refine hK _ ?_;clear hK|refine Qi rfl ?_;simp only[↓reduceIte,QvT]
       simp only[QS,Qq,Qz,upd,↓reduceIte,QvV,QvZ];first|refine Qc (htake _ _) (.keep (.v _)) ⟨by simp only[resB,d0,d1,d2,d3,d4,d5,QxO,QxN],rfl⟩|refine Qc QwH (.keep (.v _)) ⟨by simp only[resB,d0,d1,d2,d3,d4,d5,QxO,QxN],rfl⟩
      |false =>
       refine Qb Tryz.func99 rfl Tryz.call99 Tryz.ntmps99 Tryz.results99 (by simp) ?_
       with_reducible repeat first|(first|refine Qa fun K E hK hE=>?_|refine Ql fun K E hK hE=>?_);simp only[Qh,Qe,Qk,OpW,aop,undef,AS.ev,Qg,QC,QI,Qr,QG,QvW,↓reduceIte,Nat.reduceLT,Nat.reduceEqDiff,aBin,QvR,Xv,d0,d1,d2,d3,d4,d5]|refine Qf fun K hK=>?_|refine Qj ?_|refine Qp ?_|refine Qw ?_|refine Qd ?_|refine Qt ?_|refine hK _ ?_;clear hK|refine Qi rfl ?_;simp only[↓reduceIte,QvT]
       simp only[QS,Qq,Qz,upd,↓reduceIte,QvV,QvZ];first|refine Qc (htake _ _) (.keep (.v _)) ⟨by simp only[resB,d0,d1,d2,d3,d4,d5,QxO],rfl⟩|refine Qc QwH (.keep (.v _)) ⟨by simp only[resB,d0,d1,d2,d3,d4,d5,QxO],rfl⟩
theorem FunW.QuW{P:Program}{f:FuncId}{args:List AV}{h h':AH}{r:AV}{Q:AOut->AH->Prop}(H:QT P f args h fun o h2=>o = .ret r/\h2=h')(k:Q (.ret r) h'):FunW P (.fn (.func f) [] []) args h Q:=FunW.ret (FunW.call H) k
theorem Qj8(s:ByteArray)(k:Nat):byteAt (s.extract 1 s.size) k=byteAt s (k+1):=by
 unfold byteAt
 rw[Lib.extract_data,Qyq (by rw[Qxi,<-Lib.size_eq];omega),Qxe,Qxe,Qxl,QyM 1 k]
theorem QjD(s:ByteArray):(s.extract 1 s.size).size=s.size - 1:=by
 rw[Lib.size_eq,Lib.extract_data,Qw9,Qxi,<-Lib.size_eq];omega
def fol(c:Int):Prop:=ofN c≠0
instance (c:Int):Decidable (fol c):=by unfold fol;infer_instance
theorem Qkn(c:Int):fol c↔(97<=c/\c<=122)\/(65<=c/\c<=90)\/c=95\/(48<=c/\c<=57):=by
 unfold fol ofN
 split
 ·constructor
  ·intro _;omega
  ·intro _;decide
 ·split
  ·constructor
   ·intro _;omega
   ·intro _;decide
  ·split
   ·constructor
    ·intro _;omega
    ·intro _;decide
   ·constructor
    ·intro h;exact absurd rfl h
    ·intro _;omega
def Fol(s:ByteArray):Prop:=∀k,k<s.size->fol (byteAt s k)
instance (s:ByteArray):Decidable (Fol s):=by unfold Fol;infer_instance
theorem Qjq(c:Int):ofN c=0\/ofN c=1\/ofN c=2\/ofN c=4:=by
 unfold ofN
 repeat' split
 all_goals simp
theorem Qpd(r:Int)(hr:0<=r/\r<2147483648):Pure Tryz.prog 137 [.v (.int .i32 r)] (.b (decide (122<r\/¬fol r))):=by
 intro h
 by_cases h1:r>122
 ·refine Qb Tryz.func137 rfl Tryz.call137 Tryz.ntmps137 Tryz.results137 (by simp) ?_
  with_reducible repeat first|refine Qa fun K E hK hE=>?_;simp only[Qh,Qe,Qk,OpW,aop,undef,AS.ev,Qg,Qu,QC,Qr,QG,QvW,Qwc,↓reduceIte,Nat.reduceLT,Nat.reduceEqDiff,aBin,QvP,QvQ,QvR,QvU,QvS,Xw,Qwl,beq_false,h1]|refine Qp ?_|refine hK _ ?_;clear hK
  simp only[QS,Qq,Qz,upd,↓reduceIte,QvV,QvZ];first|refine Qc (htake _ _) (.keep (.v _)) ⟨by rw[Qw7 (.inl h1)],rfl⟩|refine Qc QwH (.keep (.v _)) ⟨by rw[Qw7 (.inl h1)],rfl⟩
 ·have hcv:=QoU Tryz.prog 21 5 (ts:=.int .i32) (kd:=.u8) (by kernel_rfl) (by kernel_rfl) .i32
  have w0:IntKind.u8.wrap r=r:=by simp[IntKind.wrap,IntKind.bits,IntKind.signed];omega
  have c:=QoC r (by omega)
  have hf:decide (122<r\/¬fol r)=(ofN r==0):=by
   by_cases h0:ofN r=0
   ·rw[h0,Qw7 (.inr fun h=>h h0)];rfl
   ·rw[QwY (by rintro(h|h);exact h1 h;exact h h0)];simp[h0]
  have ha:∀xo yo a,a=0\/a=1\/a=2\/a=4->pv Tryz.prog (do eqGuard .and 146 xo yo (.int .u8 a) (.int .u8 7);binOp .and 146 (.int .u8 a) (.int .u8 7))=some (.int .u8 a):=by
   rintro xo yo a (rfl|rfl|rfl|rfl) <;> rfl
  have ha':=fun xo yo=>ha xo yo (ofN r) (Qjq r)
  refine Qb Tryz.func137 rfl Tryz.call137 Tryz.ntmps137 Tryz.results137 (by simp) ?_
  with_reducible repeat first|(first|refine Qa fun K E hK hE=>?_|refine Qy c ?_);simp only[Qh,Qe,Qk,OpW,Q7,aop,undef,AS.ev,Qg,Qu,QC,Qr,QG,QvW,↓reduceIte,Nat.reduceLT,Nat.reduceEqDiff,aBin,QvP,QvQ,QvR,QvU,QvS,Qv4,Qv8,Q1,Xw,Qwm,QvX,QvT,h1,hcv,w0,ha']|refine Qp ?_|refine hK _ ?_;clear hK
  simp only[QS,Qq,Qz,upd,↓reduceIte,QvV,QvZ];first|refine Qc (htake _ _) (.keep (.v _)) ⟨by rw[hf],rfl⟩|refine Qc QwH (.keep (.v _)) ⟨by rw[hf],rfl⟩
def ixR(s:ByteArray):Nat->Nat->Int
 |_,0 => -1
 |p,n+1=>if fol (byteAt s p)then ixR s (p+1) n else p
theorem Qod(s:ByteArray):∀(n p:Nat),ixR s p n<0↔∀k,p<=k->k<p+n->fol (byteAt s k)
 |0,p=>by simp only[ixR];exact⟨fun _ k h1 h2=>by omega,fun _=>by omega⟩
 |n+1,p=>by
  simp only[ixR]
  split
  ·rename_i h
   rw[Qod s n (p+1)]
   constructor
   ·intro h' k h1 h2
    by_cases hk:k=p
    ·rw[hk];exact h
    ·exact h' k (by omega) (by omega)
   ·intro h' k h1 h2;exact h' k (by omega) (by omega)
  ·rename_i h
   constructor
   ·intro h';omega
   ·intro h';exact absurd (h' p (QwP _) (by omega)) h
theorem QnQ(s:ByteArray)(i:Nat):(Utf8.decode s i).1<2147483648:=by
 unfold Utf8.decode
 have hr:Utf8.runeError<2147483648:=by decide
 have hb:∀k,(s.get! k).toNat<256:=fun k=>(s.get! k).toNat_lt
 have b0:=hb (i+0)
 have b1:=hb (i+1)
 have b2:=hb (i+2)
 have b3:=hb (i+3)
 simp only
 repeat' split
 all_goals first|exact hr|(simp only;omega)
theorem Qgw(b:ByteArray)(hs:b.size<=maxLen):Pure Tryz.prog 158 [.v (.string b),.fn (.func 137) [] [],.b true] (.i (ixR b 0 b.size)):=by
 intro h
 have hbe:=fun xo yo a b=>Qr2 Tryz.prog 4 xo yo (by kernel_rfl) a b
 refine Qb Tryz.func158 rfl Tryz.call158 Tryz.ntmps158 Tryz.results158 (by simp) ?_
 with_reducible repeat first|refine Qa fun K E hK hE=>?_;simp only[Qh,Qe,Qk,OpW,aop,undef,AS.ev,Qg,Qu,Qr,QG,QvW,↓reduceIte,Nat.reduceLT,Nat.reduceEqDiff,un9]|refine Qf fun K hK=>?_|refine Qj ?_|refine hK _ ?_;clear hK
 obtain⟨I,hI⟩:∃I:Nat->AS->Prop,I=fun m' s=>∃(p:Nat),m'=b.size - p/\p<=b.size/\ixR b 0 b.size=ixR b p (b.size - p)/\s.tm 1 = .fn (.func 137) [] []/\s.tm 2 = .b true/\s.tm 10 = .mp h.length/\s.h=h++[.iter b p]:=⟨_,rfl⟩;refine QZ I ?_ (m:=b.size) ?_
 ·intro m' s hs;rw[hI]at hs;obtain⟨tm,hp⟩:=s;dsimp only at hs;obtain⟨p,rfl,hp',he,t1,t2,t10,rfl⟩:=hs
  by_cases hlt:p<b.size
  ·have c:=Qpd ((Utf8.decode b p).1:Int) ⟨by omega,by have:=QnQ b p;omega⟩
   obtain⟨n,hn⟩:∃n,b.size - p=n+1:=⟨b.size - p - 1,by omega⟩
   rw[hn,ixR]at he
   by_cases hf:fol (byteAt b p)
   ·rw[QwN hf]at he
    have hb:byteAt b p<128:=by have:=(Qkn _).1 hf;omega
    obtain⟨d1,d2⟩:=decode_ascii hb
    have hc:decide (122<((Utf8.decode b p).1:Int)\/¬fol ((Utf8.decode b p).1:Int))=false:=by
     rw[d1]
     refine QwY ?_
     rintro(h1|h1)
     ·have:=(Qkn _).1 hf;omega
     ·exact h1 hf
    rw[hc]at c
    with_reducible repeat first|(first|refine Qa fun K E hK hE=>?_|refine Qy c ?_);simp only[Qh,Qe,Qk,OpW,Q7,aop,AS.ev,Qg,Qr,↓reduceIte,Nat.reduceLT,Nat.reduceEqDiff,aBin,Y5,Q8,Yd,QvP,QvQ,Qwj,QvR,Qv4,Qv8,goInt,beq_true,QcS,t1,t2,t10,hlt,d2,hbe]|refine Qf fun K hK=>?_|refine Qj ?_|refine Qw ?_|refine Qd ?_|refine Qt ?_|refine hK _ ?_;clear hK|refine Qi rfl ?_;simp only[↓reduceIte,QvT]
    refine Xo.mk (m':=b.size - (p+1)) (by omega) ?_
    rw[hI]
    exact⟨p+1,rfl,hlt,by rw[he,show n=b.size - (p+1) by omega],t1,t2,t10,rfl⟩
   ·rw[QwJ hf]at he
    have hc:decide (122<((Utf8.decode b p).1:Int)\/¬fol ((Utf8.decode b p).1:Int))=true:=by
     refine Qw7 ?_
     by_cases hb:byteAt b p<128
     ·right;rw[(decode_ascii hb).1];exact hf
     ·left;have:=Qmm (s:=b) (i:=p) (by omega);omega
    rw[hc]at c
    with_reducible repeat first|(first|refine Qa fun K E hK hE=>?_|refine Qy c ?_);simp only[Qh,Qe,Qk,OpW,Q7,aop,AS.ev,Qg,Qr,↓reduceIte,Nat.reduceLT,Nat.reduceEqDiff,aBin,Y5,Q8,Yd,QvP,QvQ,Qwj,QvR,Qv4,Qv8,goInt,QvX,QcS,t1,t2,t10,hlt,hbe]|refine Qf fun K hK=>?_|refine Qj ?_|refine Qp ?_|refine Qw ?_|refine Qd ?_|refine QB ?_|refine QF ?_|refine hK _ ?_;clear hK|refine Qi rfl ?_;simp only[↓reduceIte]
    simp only[QS,Qq,Qz,upd,↓reduceIte,QvV,QvZ];first|refine Qc (htake _ _) (.keep (.v _)) ⟨by rw[he],rfl⟩|refine Qc QwH (.keep (.v _)) ⟨by rw[he],rfl⟩
  ·rw[show b.size - p=0 by omega,ixR]at he
   with_reducible repeat first|refine Qa fun K E hK hE=>?_;simp only[Qh,Qe,Qk,OpW,aop,AS.ev,Qg,Qu,Qr,↓reduceIte,Nat.reduceLT,Y5,Q8,QvP,QvR,QcS,t10,hlt]|refine Qf fun K hK=>?_|refine Qp ?_|refine Q3 ?_|refine Qd ?_|refine QV ?_|refine QU ?_|refine hK _ ?_;clear hK|clear hK;refine hK _ ?_;clear hK|refine Qi rfl ?_;simp only[↓reduceIte,QvT]
   simp only[QS,Qq,Qz,upd,↓reduceIte,QvV,QvZ];first|refine Qc (htake _ _) (.keep (.v _)) ⟨by rw[he],rfl⟩|refine Qc QwH (.keep (.v _)) ⟨by rw[he],rfl⟩
 ·rw[hI]
  exact⟨0,by omega,Qw3 _,rfl,rfl,rfl,rfl,rfl⟩
theorem QdZ(b:ByteArray)(hs:b.size<=maxLen):Pure Tryz.prog 136 [.v (.string b),.fn (.func 137) [] []] (.i (ixR b 0 b.size)):=by
 intro h
 have c:=Qgw b hs
 refine Qb Tryz.func136 rfl Tryz.call136 Tryz.ntmps136 Tryz.results136 (by simp) ?_
 with_reducible repeat first|(first|refine Qa fun K E hK hE=>?_|refine Qy c ?_);simp only[Qh,Qe,Qk,OpW,Q7,aop,undef,AS.ev,Qg,Qu,QC,Qr,QG,QvW,Qwf,↓reduceIte,Nat.reduceLT,Nat.reduceEqDiff,Qv4,Qv8]|refine Qp ?_|refine hK _ ?_;clear hK
 simp only[QS,Qq,Qz,upd,↓reduceIte,QvV,QvZ];first|refine Qc (htake _ _) (.keep (.v _)) ⟨rfl,rfl⟩|refine Qc QwH (.keep (.v _)) ⟨rfl,rfl⟩
def Qio(first:Int)(s:ByteArray):Prop:=1<=s.size/\s.size<=40/\ofN (byteAt s 0)=first/\Fol s
instance (first:Int) (s:ByteArray):Decidable (Qio first s):=by unfold Qio;infer_instance
theorem QdW(s:ByteArray):(s.toList==({data:=#[]}:ByteArray).toList)=decide (s.size=0):=by
 rw[Lib.toList_data,Lib.toList_data,Lib.size_eq]
 cases s.data.toList <;> simp
theorem QpB(first:Int)(hf:first=1\/first=2)(s:ByteArray):Pure Tryz.prog 98 [.v (.string s),.v (.int .u8 first)] (.b (decide (Qio first s))):=by
 intro h
 have hsl:=fun b=>ZU Tryz.prog 9 3 (by kernel_rfl) b
 by_cases n0:s.size=0
 ·have d0:(s.toList==({data:=#[]}:ByteArray).toList)=true:=by rw[QdW,Qw7 n0]
  refine Qb Tryz.func98 rfl Tryz.call98 Tryz.ntmps98 Tryz.results98 (by simp) ?_
  with_reducible repeat first|refine Qa fun K E hK hE=>?_;simp only[Qh,Qe,Qk,OpW,aop,undef,AS.ev,Qg,QC,QI,Qr,QG,QvW,Qwc,↓reduceIte,Nat.reduceLT,Nat.reduceEqDiff,aBin,QvP,QvQ,QvR,QvU,QvS,Xv,beq_false,d0]|refine Qf fun K hK=>?_|refine Qp ?_|refine QB ?_|refine hK _ ?_;clear hK|refine Qi rfl ?_;simp only[↓reduceIte]
  simp only[QS,Qq,Qz,upd,↓reduceIte,QvV,QvZ];first|refine Qc (htake _ _) (.keep (.v _)) ⟨by rw[QwY (fun h=>by have:=h.1;omega)],rfl⟩|refine Qc QwH (.keep (.v _)) ⟨by rw[QwY (fun h=>by have:=h.1;omega)],rfl⟩
 ·have d0:(s.toList==({data:=#[]}:ByteArray).toList)=false:=by rw[QdW,QwY n0]
  by_cases n1:s.size<=40
  ·have m1:¬((s.size:Int)>40):=by omega
   have hix:=QmQ Tryz.prog 9 (by kernel_rfl) s (by omega)
   have hr:=Qme s 0
   have c:=QoC (byteAt s 0) hr
   have ha:∀xo yo a,a=0\/a=1\/a=2\/a=4->pv Tryz.prog (do eqGuard .and 146 xo yo (.int .u8 a) (.int .u8 first);binOp .and 146 (.int .u8 a) (.int .u8 first))=some (.int .u8 (if a=first then first else 0)):=by
    rcases hf with rfl|rfl <;> rintro xo yo a (rfl|rfl|rfl|rfl) <;> rfl
   have ha':=fun xo yo=>ha xo yo (ofN (byteAt s 0)) (Qjq _)
   by_cases hc:ofN (byteAt s 0)=first
   ·have f0:(first==0)=false:=by simp;omega
    have hsf:=Qqt Tryz.prog 9 (by kernel_rfl) s 1 (by omega)
    have hsf':pv Tryz.prog (Instr.sliceAt 9 (.string s) (some (.int .i64 1)) none none)=some (.string (s.extract 1 s.size)):=hsf
    have ci:=QdZ (s.extract 1 s.size) (by rw[QjD];simp only[maxLen];omega)
    have hi:decide (ixR (s.extract 1 s.size) 0 (s.extract 1 s.size).size<0)=decide (Qio first s):=by
     rw[decide_eq_decide,Qod]
     simp only[QjD,Qj8,Qv1]
     constructor
     ·intro h1
      refine⟨by omega,n1,hc,fun k hk=>?_⟩
      cases k with
      |zero=>show ofN _≠0;rw[hc];omega
      |succ k=>exact h1 k (Qw3 _) (by omega)
     ·rintro⟨_,_,_,h4⟩ k _ hk
      exact h4 (k+1) (by omega)
    rw[QwN hc]at ha'
    refine Qb Tryz.func98 rfl Tryz.call98 Tryz.ntmps98 Tryz.results98 (by simp) ?_
    with_reducible repeat first|(first|refine Qa fun K E hK hE=>?_|refine Qy c ?_|refine Qy ci ?_);simp only[Qh,Qe,Qk,OpW,Q7,aop,undef,AS.ev,Qg,Qu,QC,QI,Qr,QG,QvW,Qwf,↓reduceIte,Nat.reduceLT,Nat.reduceEqDiff,aBin,Qbt,aLen,QvP,QvQ,QvR,Qwu,QvU,QvS,Qv4,Qv8,Q1,Q5,Xw,Xv,goInt,Qwm,QvX,QvT,ei9,d0,hsl,m1,hix,ha',f0,hsf']|refine Qf fun K hK=>?_|refine Qp ?_|refine Qw ?_|refine Qd ?_|refine hK _ ?_;clear hK|refine Qi rfl ?_;simp only[↓reduceIte,QvT]
    simp only[QS,Qq,Qz,upd,↓reduceIte,QvV,QvZ];first|refine Qc (htake _ _) (.keep (.v _)) ⟨by rw[hi],rfl⟩|refine Qc QwH (.keep (.v _)) ⟨by rw[hi],rfl⟩
   ·rw[QwJ hc]at ha'
    refine Qb Tryz.func98 rfl Tryz.call98 Tryz.ntmps98 Tryz.results98 (by simp) ?_
    with_reducible repeat first|(first|refine Qa fun K E hK hE=>?_|refine Qy c ?_);simp only[Qh,Qe,Qk,OpW,Q7,aop,undef,AS.ev,Qg,Qu,QC,QI,Qr,QG,QvW,Qwf,↓reduceIte,Nat.reduceLT,Nat.reduceEqDiff,aBin,aLen,QvP,QvQ,QvR,QvU,QvS,Qv4,Qv8,Q1,Xw,Xv,goInt,Qwm,QvX,QvT,d0,hsl,m1,hix,ha']|refine Qf fun K hK=>?_|refine Qp ?_|refine QB ?_|refine hK _ ?_;clear hK|refine Qi rfl ?_;simp only[↓reduceIte]
    simp only[QS,Qq,Qz,upd,↓reduceIte,QvV,QvZ];first|refine Qc (htake _ _) (.keep (.v _)) ⟨by rw[QwY (fun h=>hc h.2.2.1)],rfl⟩|refine Qc QwH (.keep (.v _)) ⟨by rw[QwY (fun h=>hc h.2.2.1)],rfl⟩
  ·have m1:((s.size:Int)>40):=by omega
   refine Qb Tryz.func98 rfl Tryz.call98 Tryz.ntmps98 Tryz.results98 (by simp) ?_
   with_reducible repeat first|refine Qa fun K E hK hE=>?_;simp only[Qh,Qe,Qk,OpW,aop,undef,AS.ev,Qg,Qu,QC,QI,Qr,QG,QvW,Qwc,↓reduceIte,Nat.reduceLT,Nat.reduceEqDiff,aBin,aLen,QvP,QvQ,QvR,QvU,QvS,Xw,Xv,goInt,Qwl,QvX,QvT,beq_false,d0,hsl,m1]|refine Qf fun K hK=>?_|refine Qp ?_|refine QB ?_|refine hK _ ?_;clear hK|refine Qi rfl ?_;simp only[↓reduceIte]
   simp only[QS,Qq,Qz,upd,↓reduceIte,QvV,QvZ];first|refine Qc (htake _ _) (.keep (.v _)) ⟨by rw[QwY (fun h=>by have:=h.2.1;omega)],rfl⟩|refine Qc QwH (.keep (.v _)) ⟨by rw[QwY (fun h=>by have:=h.2.1;omega)],rfl⟩
end Go.Proofs.YtenheconhibonaaGreatDoor.Ab
namespace Go.Proofs
open Go.Shelf
def Tryz.Qvk:Go.Shelf.Ren:=⟨fun|171=>58|243=>100|246=>138|283=>159|284=>160|285=>161|286=>162|129=>173|317=>172|318=>174|319=>175|320=>176|337=>183|338=>184|n=>n,fun|3=>3|9=>9|2=>2|4=>4|171=>204|0=>0|53=>205|37=>72|5=>5|173=>208|212=>216|51=>217|20=>20|213=>218|46=>220|232=>230|233=>231|n=>n,fun|17=>0|18=>1|19=>2|n=>n⟩
theorem Tryz.laysM171:Go.Proofs.LaysM.n171 Tryz.prog Tryz.Qvk:={
 mixed:=by kernel_rfl
 f129:=Tryz.func173.trans (congrArg some (by kernel_rfl))
 f171:=Tryz.func58.trans (congrArg some (by kernel_rfl))
 f243:=Tryz.func100.trans (congrArg some (by kernel_rfl))
 f246:=Tryz.func138.trans (congrArg some (by kernel_rfl))
 f283:=Tryz.func159.trans (congrArg some (by kernel_rfl))
 f284:=Tryz.func160.trans (congrArg some (by kernel_rfl))
 f285:=Tryz.func161.trans (congrArg some (by kernel_rfl))
 f286:=Tryz.func162.trans (congrArg some (by kernel_rfl))
 f317:=Tryz.func172.trans (congrArg some (by kernel_rfl))
 f318:=Tryz.func174.trans (congrArg some (by kernel_rfl))
 f319:=Tryz.func175.trans (congrArg some (by kernel_rfl))
 f320:=Tryz.func176.trans (congrArg some (by kernel_rfl))
 f337:=Tryz.func183.trans (congrArg some (by kernel_rfl))
 f338:=Tryz.func184.trans (congrArg some (by kernel_rfl))
 t0:=Tryz.underlying0
 a0:=Tryz.isAgg0
 z0:=Tryz.sizeOf0
 v0:=Tryz.zeroValue0
 t2:=Tryz.underlying2
 a2:=Tryz.isAgg2
 z2:=Tryz.sizeOf2
 v2:=Tryz.zeroValue2
 t3:=Tryz.underlying3
 a3:=Tryz.isAgg3
 z3:=Tryz.sizeOf3
 v3:=Tryz.zeroValue3
 t4:=Tryz.underlying4
 a4:=Tryz.isAgg4
 z4:=Tryz.sizeOf4
 v4:=Tryz.zeroValue4
 t5:=Tryz.underlying5
 a5:=Tryz.isAgg5
 z5:=Tryz.sizeOf5
 v5:=Tryz.zeroValue5
 t9:=Tryz.underlying9
 a9:=Tryz.isAgg9
 z9:=Tryz.sizeOf9
 v9:=Tryz.zeroValue9
 t20:=Tryz.underlying20
 a20:=Tryz.isAgg20
 z20:=Tryz.sizeOf20
 v20:=Tryz.zeroValue20
 t37:=Tryz.underlying72
 a37:=Tryz.isAgg72
 z37:=Tryz.sizeOf72
 v37:=Tryz.zeroValue72
 t46:=Tryz.underlying220
 a46:=Tryz.isAgg220
 z46:=Tryz.sizeOf220
 v46:=Tryz.zeroValue220
 t51:=Tryz.underlying217
 a51:=Tryz.isAgg217
 z51:=Tryz.sizeOf217
 v51:=Tryz.zeroValue217
 t53:=Tryz.underlying205
 a53:=Tryz.isAgg205
 z53:=Tryz.sizeOf205
 v53:=Tryz.zeroValue205
 t171:=Tryz.underlying204
 a171:=Tryz.isAgg204
 z171:=Tryz.sizeOf204
 v171:=Tryz.zeroValue204
 t173:=Tryz.underlying208
 a173:=Tryz.isAgg208
 z173:=Tryz.sizeOf208
 v173:=Tryz.zeroValue208
 t212:=Tryz.underlying216
 a212:=Tryz.isAgg216
 z212:=Tryz.sizeOf216
 v212:=Tryz.zeroValue216
 t213:=Tryz.underlying218
 a213:=Tryz.isAgg218
 z213:=Tryz.sizeOf218
 t232:=Tryz.underlying230
 a232:=Tryz.isAgg230
 z232:=Tryz.sizeOf230
 v232:=Tryz.zeroValue230
 t233:=Tryz.underlying231
 a233:=Tryz.isAgg231
 z233:=Tryz.sizeOf231
 v233:=Tryz.zeroValue231
 g17:=by kernel_rfl
 g18:=by kernel_rfl
 g19:=by kernel_rfl
 i0:=by kernel_rfl
 i2:=by kernel_rfl
 i3:=by kernel_rfl
 i4:=by kernel_rfl
 i5:=by kernel_rfl
 i9:=by kernel_rfl
 i20:=by kernel_rfl
 i37:=by kernel_rfl
 i46:=by kernel_rfl
 i51:=by kernel_rfl
 i53:=by kernel_rfl
 i171:=by kernel_rfl
 i173:=by kernel_rfl
 i212:=by kernel_rfl
 i232:=by kernel_rfl
 i233:=by kernel_rfl
 m17:=by kernel_rfl
 m18:=by kernel_rfl
 m19:=by kernel_rfl}
open Go.RowKit Go.Sort Go.Lib in
theorem Tryz.strconv_Itoa(n:Int)(h0 : -9223372036854775808<=n)(h1:n<=9223372036854775807)(w:World)(htab:Lib.TabIs Tryz.prog w "internal/strconv.uint64pow10" .u64 Lib.pow10Tab) :
  Calls Tryz.prog 58 #[.int .i64 n] w fun e w'=>e = .returned (.string ⟨(Lib.itoa n).toArray⟩)/\∃k os,w'=grow (w.drewN k) os:=Any.strconv_Itoa Tryz.laysM171 n h0 h1 w htab
def Tryz.Qvm:Go.Shelf.Ren:=⟨fun|144=>167|143=>181|219=>190|217=>192|225=>193|224=>194|267=>195|266=>196|314=>197|n=>n,fun|9=>9|4=>4|3=>3|5=>5|46=>220|146=>234|51=>217|n=>n,fun|1=>4|n=>n⟩
theorem Tryz.lays144:Go.Proofs.Lays.n144 Tryz.prog Tryz.Qvm:={
 mixed:=by kernel_rfl
 f143:=Tryz.func181.trans (congrArg some (by kernel_rfl))
 f144:=Tryz.func167.trans (congrArg some (by kernel_rfl))
 f217:=Tryz.func192.trans (congrArg some (by kernel_rfl))
 f219:=Tryz.func190.trans (congrArg some (by kernel_rfl))
 f224:=Tryz.func194.trans (congrArg some (by kernel_rfl))
 f225:=Tryz.func193.trans (congrArg some (by kernel_rfl))
 f266:=Tryz.func196.trans (congrArg some (by kernel_rfl))
 f267:=Tryz.func195.trans (congrArg some (by kernel_rfl))
 f314:=Tryz.func197.trans (congrArg some (by kernel_rfl))
 t3:=Tryz.underlying3
 a3:=Tryz.isAgg3
 z3:=Tryz.sizeOf3
 v3:=Tryz.zeroValue3
 t4:=Tryz.underlying4
 a4:=Tryz.isAgg4
 z4:=Tryz.sizeOf4
 v4:=Tryz.zeroValue4
 t5:=Tryz.underlying5
 a5:=Tryz.isAgg5
 z5:=Tryz.sizeOf5
 v5:=Tryz.zeroValue5
 t9:=Tryz.underlying9
 a9:=Tryz.isAgg9
 z9:=Tryz.sizeOf9
 v9:=Tryz.zeroValue9
 t46:=Tryz.underlying220
 a46:=Tryz.isAgg220
 z46:=Tryz.sizeOf220
 v46:=Tryz.zeroValue220
 t51:=Tryz.underlying217
 a51:=Tryz.isAgg217
 z51:=Tryz.sizeOf217
 v51:=Tryz.zeroValue217
 t146:=Tryz.underlying234
 a146:=Tryz.isAgg234
 z146:=Tryz.sizeOf234
 v146:=Tryz.zeroValue234
 g1:=by kernel_rfl}
theorem Tryz.strings_Contains_one(s:ByteArray)(c:UInt8)(w:World) :
  Calls Tryz.prog 167 #[.string s,.string ⟨#[c]⟩] w fun e w'=>e = .returned (.bool (decide (0<=Lib.indexByte s.data.toList c)))/\w'=w:=Any.strings_Contains_one Tryz.lays144 s c w
end Go.Proofs
namespace Go.Proofs.YtenheconhibonaaGreatDoor.Ab
open Go.Proofs
theorem QcL(s:ByteArray):Pure Tryz.prog 55 [.v (.string s)] (.b (decide (Qio 1 s)&&!resB s)):=by
 intro h
 have c:=QpB 1 (.inl rfl) s
 have cr:=QdG s
 cases hw:decide (Qio 1 s)with
 |false =>
  rw[hw]at c
  refine Qb Tryz.func55 rfl Tryz.call55 Tryz.ntmps55 Tryz.results55 (by simp) ?_
  with_reducible repeat first|(first|refine Qa fun K E hK hE=>?_|refine Qy c ?_);simp only[Qh,Qe,Qk,OpW,Q7,aop,undef,AS.ev,Qg,Qu,QC,Qr,QG,QvW,↓reduceIte,Nat.reduceLT,Nat.reduceEqDiff,QvP,QvQ,QvU,QvS,Qv4,Qv8,QvT,beq_true]|refine Qp ?_|refine hK _ ?_;clear hK
  simp only[QS,Qq,Qz,upd,↓reduceIte,QvV,QvZ];first|refine Qc (htake _ _) (.keep (.v _)) ⟨rfl,rfl⟩|refine Qc QwH (.keep (.v _)) ⟨rfl,rfl⟩
 |true =>
  rw[hw]at c
  refine Qb Tryz.func55 rfl Tryz.call55 Tryz.ntmps55 Tryz.results55 (by simp) ?_
  with_reducible repeat first|(first|refine Qa fun K E hK hE=>?_|refine Qy c ?_|refine Qy cr ?_);simp only[Qh,Qe,Qk,OpW,Q7,aop,undef,AS.ev,Qg,Qu,QC,Qr,QG,QvW,↓reduceIte,Nat.reduceLT,Nat.reduceEqDiff,QvP,QvQ,QvR,QvU,QvS,Qv4,Qv8,Ya,QvX]|refine Qp ?_|refine hK _ ?_;clear hK
  simp only[QS,Qq,Qz,upd,↓reduceIte,QvV,QvZ];first|refine Qc (htake _ _) (.keep (.v _)) ⟨rfl,rfl⟩|refine Qc QwH (.keep (.v _)) ⟨rfl,rfl⟩
def QlT(s:ByteArray):Prop:=1<=s.size/\s.size<=40/\Fol s
instance (s:ByteArray):Decidable (QlT s):=by unfold QlT;infer_instance
end Go.Proofs.YtenheconhibonaaGreatDoor.Ab
namespace Go.Proofs.YtenheconhibonaaGreatDoor.Ab
open Go.Proofs Go.RowKit
def opB(s:ByteArray):Bool:=(s.toList==({data:=#[43]}:ByteArray).toList)||(s.toList==({data:=#[45]}:ByteArray).toList)||(s.toList==({data:=#[42]}:ByteArray).toList)||(s.toList==({data:=#[47]}:ByteArray).toList)||(s.toList==({data:=#[37]}:ByteArray).toList)
theorem QrX:∀n:Fin 256,decide (0<=Lib.indexByte [43,45,42,47,37] (UInt8.ofNat n.val))=(([UInt8.ofNat n.val]==[43])||([UInt8.ofNat n.val]==[45])||([UInt8.ofNat n.val]==[42])||([UInt8.ofNat n.val]==[47])||([UInt8.ofNat n.val]==[37])):=by decide +kernel
theorem QsY(c:UInt8):decide (0<=Lib.indexByte [43,45,42,47,37] c)=opB {data:=#[c]}:=by
 have:=QrX ⟨c.toNat,c.toNat_lt⟩
 simp only[UInt8.ofNat_toNat]at this
 rw[this,opB]
 simp only[Lib.toList_data]
theorem QhC(c:UInt8):Pure Tryz.prog 167 [.v (.string {data:=#[43,45,42,47,37]}),.v (.string {data:=#[c]})] (.b (opB {data:=#[c]})):=by
 rw[<-QsY]
 exact Qqr (vs:=[.string {data:=#[43,45,42,47,37]},.string {data:=#[c]}]) Tryz.call167 fun w=>(Tryz.strings_Contains_one _ c w).mono (by rintro e w' ⟨rfl,rfl⟩;exact⟨_,rfl,Go.RowKit.Below.refl _ _,fun _=>.v _⟩)
theorem one_byte{s:ByteArray}(h:s.size=1):∃c,s={data:=#[c]}:=by
 obtain⟨⟨l⟩⟩:=s
 match l,h with
 |[c],_=>exact⟨c,rfl⟩
theorem Qh4{s:ByteArray}(h:s.size≠1):opB s=false:=by
 have:∀c:UInt8,(s.toList==[c])=false:=fun c=>by
  rw[Lib.toList_data,QxU]
  intro e
  exact h (by rw[Lib.size_eq,e];rfl)
 have t:∀c:UInt8,({data:=#[c]}:ByteArray).toList=[c]:=fun c=>Lib.toList_data _
 simp only[opB,t,this,QxO]
theorem Qdz(s:ByteArray):Pure Tryz.prog 145 [.v (.string s)] (.b (opB s)):=by
 intro h
 have hsl:=fun b=>ZU Tryz.prog 9 3 (by kernel_rfl) b
 by_cases n1:s.size=1
 ·have m1:((s.size:Int)==1)=true:=by simp[n1]
  obtain⟨c,rfl⟩:=one_byte n1
  have cc:=QhC c
  refine Qb Tryz.func145 rfl Tryz.call145 Tryz.ntmps145 Tryz.results145 (by simp) ?_
  with_reducible repeat first|(first|refine Qa fun K E hK hE=>?_|refine Qy cc ?_);simp only[Qh,Qe,Qk,OpW,Q7,aop,undef,AS.ev,Qg,Qu,QC,QI,Qr,QG,QvW,↓reduceIte,Nat.reduceLT,Nat.reduceEqDiff,aBin,aLen,QvP,QvQ,QvR,QvU,QvS,Qv4,Qv8,Q1,goInt,QvX,hsl,m1]|refine Qp ?_|refine hK _ ?_;clear hK
  simp only[QS,Qq,Qz,upd,↓reduceIte,QvV,QvZ];first|refine Qc (htake _ _) (.keep (.v _)) ⟨rfl,rfl⟩|refine Qc QwH (.keep (.v _)) ⟨rfl,rfl⟩
 ·have m1:((s.size:Int)==1)=false:=by simp;omega
  refine Qb Tryz.func145 rfl Tryz.call145 Tryz.ntmps145 Tryz.results145 (by simp) ?_
  with_reducible repeat first|refine Qa fun K E hK hE=>?_;simp only[Qh,Qe,Qk,OpW,aop,undef,AS.ev,Qg,Qu,QC,Qr,QG,QvW,↓reduceIte,Nat.reduceLT,Nat.reduceEqDiff,aBin,aLen,QvP,QvQ,QvR,QvU,QvS,Q1,goInt,QvT,beq_true,hsl,m1]|refine Qp ?_|refine hK _ ?_;clear hK
  simp only[QS,Qq,Qz,upd,↓reduceIte,QvV,QvZ];first|refine Qc (htake _ _) (.keep (.v _)) ⟨by rw[Qh4 n1],rfl⟩|refine Qc QwH (.keep (.v _)) ⟨by rw[Qh4 n1],rfl⟩
def vOf(t:ByteArray):ByteArray:=({data:=#[86]}:ByteArray)++t
theorem Qqa(n:Int)(h0:0<=n)(h1:n<=1048576)(t:ByteArray)(ht:t.size<=1000)(h:AH)(H:QT Tryz.prog 58 [.i n] h fun o h'=>o = .ret (.v (.string t))/\h'=h):QT Tryz.prog 127 [.i n] h fun o h'=>o = .ret (.v (.string (vOf t)))/\h'=h:=by
 have m0:¬n<0:=by omega
 have m1:¬n>1048576:=by omega
 have hsa:=fun xo yo=>QaL Tryz.prog 9 xo yo ({data:=#[86]}:ByteArray) t (by show 1+t.size<=_;omega)
 refine Qb Tryz.func127 rfl Tryz.call127 Tryz.ntmps127 Tryz.results127 (by simp) ?_
 with_reducible repeat first|(first|refine Qa fun K E hK hE=>?_|refine FunW.QuW H ?_);simp only[Qh,Qe,Qk,OpW,Q7,aop,undef,AS.ev,Qg,Qu,QI,Qr,QG,QvW,↓reduceIte,Nat.reduceLT,Nat.reduceEqDiff,aBin,QvP,QvQ,QvR,QvU,QvS,Qv4,Qv8,Q5,Xw,Qwm,QvX,QvT,m0,m1,hsa]|refine Qf fun K hK=>?_|refine Qp ?_|refine Qw ?_|refine Qd ?_|refine hK _ ?_;clear hK|refine Qi rfl ?_;simp only[↓reduceIte,QvT]
 simp only[QS,Qq,Qz,upd,↓reduceIte,QvV,QvZ];first|refine Qc (htake _ _) (.keep (.v _)) ⟨rfl,rfl⟩|refine Qc QwH (.keep (.v _)) ⟨rfl,rfl⟩
end Go.Proofs.YtenheconhibonaaGreatDoor.Ab
namespace Go.Proofs.YtenheconhibonaaGreatDoor.Ab
open Go.ChangeShapes Go.WideShapes Go.ChangeAt Go.RowKit
def base0(W:World):Cx:=⟨fun _=>none,[],W⟩
theorem QmP{W:World}{B o:Nat}(h:B<W.heap.size):(base0 W).prot B o:=⟨h,fun id b hb=>by simp[base0]at hb⟩
theorem QbY{H:Type}{enc:TypeId×Value->H}{P:Program}(hl:laidOutB P=true){W W':World}(hb:Go.RowKit.Below W.heap.size W W'){sp:Nat->Bool} :
  ∀(ts:List TypeId) (vs:List Value) (ds:List (DataW H)) (ps:List MemPlace),(∀t∈ts,P.readableRec t=true/\t<P.types.size)->DataW.TrodAll enc P W 0 (fun _=>true) true ts vs ds ps ->
   (∀x∈ps,x.block<W.heap.size/\sp x.block=true)->DataW.TrodAll enc P W' 0 sp true ts vs ds ps
 |[],vs,ds,ps,_,h,_=>by
  obtain⟨rfl,rfl,rfl⟩:=trodAll_nil h
  exact trodAll_mk0
 |t::ts,vs,ds,ps,hp,h,hlt=>by
  obtain⟨v,vs',d,ds',p,q,rfl,rfl,rfl,h1,h2⟩:=trodAll_cons h
  obtain⟨h3,h4⟩:=hp t (by simp)
  exact trodAll_cons_mk (WideElems.Trod_stays hl h3 h4 h1 (fun x hx=>hb.same (hlt x (by simp[hx])).1) (fun x hx=>(hlt x (by simp[hx])).2))
   (QbY hl hb ts vs' ds' q (fun t ht=>hp t (by simp[ht])) h2 (fun x hx=>hlt x (by simp[hx])))
theorem QeD{H:Type}{enc:TypeId×Value->H}{P:Program}{W:World}{base:Nat}{sp:Nat->Bool}{held:Bool} :
  ∀{ts:List TypeId} {vs:List Value} {ds:List (DataW H)} {ps:List MemPlace} {ts':List TypeId} {vs':List Value} {ds':List (DataW H)} {ps':List MemPlace},
   DataW.TrodAll enc P W base sp held ts vs ds ps->DataW.TrodAll enc P W base sp held ts' vs' ds' ps'->DataW.TrodAll enc P W base sp held (ts++ts') (vs++vs') (ds++ds') (ps++ps')
 |[],_,_,_,_,_,_,_,h,h'=>by
  obtain⟨rfl,rfl,rfl⟩:=trodAll_nil h
  exact h'
 |t::ts,_,_,_,_,_,_,_,h,h'=>by
  obtain⟨v,vs',d,ds',p,q,rfl,rfl,rfl,h1,h2⟩:=trodAll_cons h
  have:=trodAll_cons_mk h1 (QeD h2 h')
  simpa [QwM]using this
theorem QmN{H:Type}{enc:TypeId×Value->H}{P:Program}{fn:Func}{s:ChangeSpec}{apart fresh handsOn again:Bool}{W W':World}{args:Array Value}{ds gs:List (DataW H)}{before:List MemPlace}{tb:TypeId}
  (hl:laidOutB P=true) (hvars:s.vars=[]) (hr:fn.resultTypes=#[tb]) (hb:P.underlying tb=some .bool) (hp:∀t∈fn.params.toList,P.readableRec t=true/\t<P.types.size)
  (hW:DataW.Whole enc P fn.params.toList s.vars apart W args.toList ds gs before) (hs:s.fn H (ds++gs)={results:=[.lit (.bool true)],args:=ds}) (hbel:Go.RowKit.Below W.heap.size W W') :
  s.post enc P fn apart fresh handsOn again W args (.bool true) W':=by
 have hlt:∀x∈before,x.block<W.heap.size:=fun x hx=>by simpa using hW.lt x hx
 have hW0:=hW
 obtain⟨p,q,hA,hV,rfl,hfz,hnd⟩:=hW
 rw[hvars]at hV
 have hV0:=hV
 obtain⟨rfl,rfl⟩:=trodVars_none hV
 simp only[Qwi]at hlt hfz hnd hW0 hs
 have hres:∀(b:Nat) (sp:Nat->Bool) (hd:Bool),DataW.TrodAll enc P W' b sp hd fn.resultTypes.toList ((Value.bool true).resultList fn.resultTypes.size) [.lit (.bool true)] []:=fun b sp hd=>by
  rw[hr]
  exact trodAll_mk1 (shut_bool hb true)
 have hvs:∀sp:Nat->Bool,DataW.TrodVars enc P W' sp s.vars [] []:=fun sp=>by rw[hvars];rfl
 refine⟨ds,[],p,[],p,[],by simpa using hW0,?_,?_,?_,?_,fun _=>⟨?_,?_⟩⟩
 ·rw[Qwi,hs];exact hres _ _ _
 ·rw[Qwi,hs]
  exact QbY hl hbel _ _ _ _ hp hA fun x hx=>⟨hlt x hx,by simpa using hlt x hx⟩
 ·rw[Qwi,hs];exact hvs _
 ·exact hbel.frame _
 ·intro j t r hj hv
  rw[hr]at hj hv
  match j,hj,hv with
  |0,hj,hv =>
   simp only[QvS,QvP,QvV]at hj
   have hv':r = .bool true:=by
    have:(some (Value.bool true))=some r:=hv
    cases this;rfl
   subst hj;subst hv'
   exact okWide_bool_mk hb true
  |j+1,hj,hv=>simp at hj
 ·have hA':=QbY (sp:=fun _=>true) hl hbel _ _ _ _ hp hA fun x hx=>⟨hlt x hx,rfl⟩
  refine⟨_,[],[]++p,⟨[]++p,[],QeD (hres 0 _ true) hA',hvs _,by simp,?_,?_⟩,?_⟩
  ·intro b off hm
   have hm':MemPlace.cell b off∈p:=by simpa using hm
   exact(hbel.frozen (p:=⟨b,off,none⟩) (hlt _ hm')).trans (hfz b off hm')
  ·intro ha
   simpa using hnd ha
  ·intro x hx _
   simpa using hx
theorem Qkc{P:Program}{w:World}{r:Reach}{b:Nat}{t e:TypeId}{v:Value}(ht:P.underlying t=some (.slice e))(hv:Value.okWide P w r b t v):v.cells.toList=[v]:=by
 cases v with
 |agg cs=>simp[Value.okWide,ht,Cell.okWide,Cell.ok]at hv
 |_=>rfl
def Reads(W:World)(a:AV)(cs:List Value):Prop:=cs.length=a.cells.length/\∀(j:Nat) x u,a.cells[j]? = some x->cs[j]? = some u->Rel (base0 W) x u/\u.oneCell'=true
theorem QiI{w:World}{a:Addr}{u:Value}(h:w.cell? a=some u):a.block<w.heap.size/\a.spot=none:=by
 unfold World.cell? at h
 cases hb:w.heap[a.block]? with
 |none=>simp[hb]at h
 |some o =>
  rw[hb]at h
  refine⟨(QwX.1 hb).1,?_⟩
  cases o with
  |cells c _ _ =>
   simp only at h
   split at h
   ·cases h
   ·rename_i hs
    cases hsp:a.spot with
    |none=>rfl
    |some q=>rw[hsp]at hs;simp at hs
  |_=>cases h
theorem Qed{H:Type}{enc:TypeId×Value->H}{P:Program}{W:World}{t e:TypeId}{s fuel:Nat}{cs:List Value}{y:DataW H×List MemPlace}{X:Type}{val:X->AV}{Good:X->Prop}
  (ht:P.underlying t=some (.slice e)) (hs:P.cellsOf e=s) (hpos:0<s) (hval:∀x,(val x).cells.length=s)
  (rd:∀n cs y,n<fuel->DataW.trod enc P W 0 (fun _=>true) true n e cs=some y->∃x:X,Good x/\Reads W (val x) cs)
  (h:DataW.trod enc P W 0 (fun _=>true) true fuel t cs=some y):∃(xs:List X) (u:Value),(∀x∈xs,Good x)/\cs=[u]/\u.oneCell'=true/\Rel (base0 W) (.sl s (xs.map val) none) u:=by
 rcases DataW.trod_slice ht h with⟨rfl,_⟩|⟨a,len,cap,elems,rest,n,rfl,rfl,_,_,hlc,hcm,hlen,hel,hsp,_⟩
 ·exact⟨[],_,(by simp),rfl,rfl,.slnil s none fun b hb=>by cases hb⟩
 ·have each:∀i,i<len->∃x:X,Good x/\∃cs,W.cells? 0 (a.add (i * s)) s=some cs/\Reads W (val x) cs:=by
   intro i hi
   have h1:=hel i hi
   rw[QwK (by omega),hs,Option.bind_eq_some_iff]at h1
   obtain⟨cs,h2,h3⟩:=h1
   obtain⟨x,hx1,hx2⟩:=rd n cs _ (QyB n) h3
   exact⟨x,hx1,cs,h2,hx2⟩
  obtain⟨xs,hxl,hxs⟩:∃xs:List X,xs.length=len/\∀i (hi:i<xs.length),Good xs[i]/\∃cs,W.cells? 0 (a.add (i * s)) s=some cs/\Reads W (val xs[i]) cs:=by
   have:∀m,m<=len->∃xs:List X,xs.length=m/\∀i (hi:i<xs.length),Good xs[i]/\∃cs,W.cells? 0 (a.add (i * s)) s=some cs/\Reads W (val xs[i]) cs:=by
    intro m
    induction m with
    |zero=>exact fun _=>⟨[],rfl,fun i hi=>by simp at hi⟩
    |succ m ih =>
     intro hm
     obtain⟨xs,hl,hx⟩:=ih (by omega)
     obtain⟨x,hg,hr⟩:=each m (by omega)
     refine⟨xs++[x],by simp[hl],fun i hi=>?_⟩
     by_cases hi':i<xs.length
     ·rw[List.getElem_append_left hi'];exact hx i hi'
     ·have e:i=m:=by simp at hi;omega
      subst e
      have hxe:(xs++[x])[i]=x:=by simp[<-hl]
      rw[hxe]
      exact⟨hg,hr⟩
   exact this len (QwP _)
  have hgood:∀x∈xs,Good x:=fun x hx=>by
   obtain⟨i,hi,rfl⟩:=List.getElem_of_mem hx
   exact(hxs i hi).1
  by_cases hcap:cap=0
  ·have hl0:len=0:=by omega
   subst hcap;subst hl0
   have:xs=[]:=List.length_eq_zero_iff.1 hxl
   subst this
   exact⟨[],_,(by simp),rfl,rfl,.slzero s none a fun b hb=>by cases hb⟩
  ·have hspot:a.spot=none:=by
    have key:W.cells? 0 (a.add (0 * s)) s≠none->a.spot=none:=by
     intro hk
     cases hc:W.cells? 0 (a.add (0 * s)) s with
     |none=>exact absurd hc hk
     |some cs =>
      obtain⟨_,hl,hcell⟩:=World.cells?_some hc
      have:=hcell 0 hpos
      rw[QwK (by omega)]at this
      have:=(QiI this).2
      simpa [Addr.add]using this
    by_cases hl:0<len
    ·refine key fun hn=>?_
     have:=hel 0 hl
     rw[hs,hn,QwK (by omega)]at this
     simp at this
    ·obtain⟨hrl,hr⟩:=hsp rfl
     refine key fun hn=>?_
     have:=hr 0 (by omega)
     rw[show len+0=0 by omega,hs,hn,QwK (by omega)]at this
     simp at this
   have ha:a=⟨a.block,a.off,none⟩:=by cases a;simp only at hspot;subst hspot;rfl
   have hvs:∀x∈xs.map val,x.cells.length=s:=fun x hx=>by
    obtain⟨z,_,rfl⟩:=Qxa.1 hx
    exact hval z
   have hflat:∀(j:Nat) (v:AV),(flat (xs.map val))[j]? = some v->∃(i:Nat) (hi:i<xs.length) (k:Nat),k<s/\j=i * s+k/\(val xs[i]).cells[k]? = some v:=by
    intro j v hj
    have hlt:=Qv hj
    rw[flat_length hvs,Qxj]at hlt
    have hi:j / s<xs.length:=by rw[Nat.div_lt_iff_lt_mul hpos];exact hlt
    have hdm:=Nat.div_add_mod j s
    have hml:=Nat.mod_lt j hpos
    refine⟨j / s,hi,j % s,hml,by rw[Nat.mul_comm];exact hdm.symm,?_⟩
    obtain⟨v',hv'⟩:∃v',(val (xs[j / s]'hi)).cells[j % s]? = some v':=⟨_,QwK (by rw[hval];exact hml)⟩
    have:=flat_get hvs (k:=j / s) (x:=val (xs[j / s]'hi)) (by rw[Qxd,QwK hi];rfl) hv'
    rw[show j / s * s+j % s=j by rw[Nat.mul_comm];exact hdm,hj]at this
    rw[hv',this]
   have hcell:∀(j:Nat) (v:AV),(flat (xs.map val))[j]? = some v->∃u,W.cell? ⟨a.block,a.off+j,none⟩=some u/\Rel (base0 W) v u/\u.oneCell'=true:=by
    intro j v hj
    obtain⟨i,hi,k,hk,rfl,hv⟩:=hflat j v hj
    obtain⟨_,cs,hcs,hrd⟩:=hxs i hi
    obtain⟨_,hl,hc⟩:=World.cells?_some hcs
    obtain⟨u,hu⟩:∃u,cs[k]? = some u:=⟨_,QwK (by omega)⟩
    have h1:=hc k hk
    rw[hu]at h1
    obtain⟨h2,h3⟩:=hrd.2 k v u hv hu
    refine⟨u,?_,h2,h3⟩
    have e:(a.add (i * s)).add k=⟨a.block,a.off+(i * s+k),none⟩:=by
     rw[ha,addr_add,addr_add,Qx2]
    rw[<-e]
    exact h1
   refine⟨xs,_,hgood,rfl,rfl,?_⟩
   have hsl:=Rel.sl (c:=base0 W) s (xs.map val) none a.block a.off cap (fun j=>(W.cell? ⟨a.block,a.off+j,none⟩).getD undef) hvs (by rw[Qxj];omega) hcm
    (fun j v hj=>by
     obtain⟨u,h1,h2,h3⟩:=hcell j v hj
     rw[h1]
     exact⟨⟨h1,QmP (QiI h1).1⟩,h3⟩)
    (fun j v hj=>by
     obtain⟨u,h1,h2,h3⟩:=hcell j v hj
     rw[h1]
     exact h2)
    (fun b hb=>by cases hb)
   rw[Qxj,hxl,<-ha]at hsl
   exact hsl
theorem Qqx(c:Cx):RelL c [] #[]:=⟨rfl,fun j a u h=>by simp at h⟩
theorem Qo5{c:Cx}{a:AV}{asx:List AV}{u:Value}{us:List Value}(h:Rel c a u)(hs:RelL c asx us.toArray):RelL c (a::asx) (u::us).toArray:=by
 refine⟨by have:=hs.1;simp at this ⊢;exact this,fun j x v hx hv=>?_⟩
 cases j with
 |zero=>simp at hx hv;subst hx;subst hv;exact h
 |succ j=>exact hs.2 j x v (by simpa using hx) (by simpa using hv)
theorem QoI{H:Type}{enc:TypeId×Value->H}{P:Program}{W:World}{r:Reach}{b0:Nat}{t e:TypeId}{s:Nat}{v:Value}{d:DataW H}{ps:List MemPlace}{X:Type}{val:X->AV}{Good:X->Prop}
  (ht:P.underlying t=some (.slice e)) (hs:P.cellsOf e=s) (hpos:0<s) (hval:∀x,(val x).cells.length=s) (hv:Value.okWide P W r b0 t v) (hd:DataW.Trod enc P W 0 (fun _=>true) true t v d ps)
  (rd:∀fuel cs y,DataW.trod enc P W 0 (fun _=>true) true fuel e cs=some y->∃x:X,Good x/\Reads W (val x) cs):∃xs:List X,(∀x∈xs,Good x)/\Rel (base0 W) (.sl s (xs.map val) none) v:=by
 obtain⟨fuel,hf⟩:=hd
 rw[Qkc ht hv]at hf
 obtain⟨xs,u,h1,h2,_,h3⟩:=Qed ht hs hpos hval (fun n cs y _ h=>rd n cs y h) hf
 cases h2
 exact⟨xs,h1,h3⟩
theorem Y7{α:Type}{n:Nat}:∀{l:List α},l.length=n+1->∃a l',l=a::l'/\l'.length=n
 |a::l,h=>⟨a,l,rfl,by simpa using h⟩
theorem len_nil{α:Type}{l:List α}(h:l.length=0):l=[]:=List.length_eq_zero_iff.1 h
end Go.Proofs.YtenheconhibonaaGreatDoor.Ab
namespace Go.Proofs.YtenheconhibonaaGreatDoor.Ab
open Go.RowKit
def HasG(h:AH)(g:Nat)(cs:Array Value):Prop:=∃(i:Nat) (ty:TypeId) (fr:Nat×Nat),h[i]? = some (.glob g cs ty fr)
theorem HasG.app{h:AH}{g:Nat}{cs:Array Value}(H:HasG h g cs)(l:AH):HasG (h++l) g cs:=let ⟨i,ty,fr,e⟩:=H;⟨i,ty,fr,hext e l⟩
theorem HasG.world{c:Cx}(hst:St c){g:Nat}{cs:Array Value}(H:HasG c.h g cs):∃ty fr,c.w.heap[g]? = some (.cells cs ty fr) :=
 let ⟨i,ty,fr,e⟩:=H;⟨ty,fr,(hst.blocks i _ e).2⟩
theorem HasG.var{P:Program}{c:Cx}(hst:St c){g:Nat}{cs:Array Value}(H:HasG c.h g cs){nm:String}(hn:P.globalNamed nm=some g):c.w.var? P nm=some cs:=by
 obtain⟨ty,fr,e⟩:=H.world hst
 simp only[World.var?,hn,QvU,e]
theorem HasG.kin{c c':Cx}(hev:Ev c c'){g:Nat}{cs:Array Value}(H:HasG c.h g cs):HasG c'.h g cs:=by
 obtain⟨i,ty,fr,e⟩:=H
 obtain⟨b',hb,hk⟩:=hev.kin i _ e
 simp only[Kin]at hk
 obtain⟨rfl,_⟩:=hk
 exact⟨i,ty,fr,hb⟩
structure GV where
 g:Nat
 cs:Array Value
 ty:TypeId
 fr:Nat×Nat
def GV.blk(x:GV):AB:=.glob x.g x.cs x.ty x.fr
def Qfk(W:World)(gs:List GV):Cx:=⟨fun id=>(gs[id]?).map (·.g),gs.map GV.blk,W⟩
theorem Qb7{W:World}{gs:List GV}{id:Nat}{b:AB}(h:(Qfk W gs).h[id]? = some b):∃x,gs[id]? = some x/\b=x.blk/\(Qfk W gs).ρ id=some x.g:=by
 simp only[Qfk,Qxd,QwT]at h ⊢
 obtain⟨x,hx,rfl⟩:=h
 exact⟨x,hx,rfl,x,hx,rfl⟩
theorem Qoz{l:List Nat}(hn:l.Nodup){i j a:Nat}(hi:l[i]? = some a)(hj:l[j]? = some a):i=j:=by
 have hp:=List.pairwise_iff_getElem.1 hn
 obtain⟨li,ei⟩:=List.getElem?_eq_some_iff.1 hi
 obtain⟨lj,ej⟩:=List.getElem?_eq_some_iff.1 hj
 rcases Nat.lt_trichotomy i j with h|h|h
 ·exact absurd (ei.trans ej.symm) (hp i j li lj h)
 ·exact h
 ·exact absurd (ej.trans ei.symm) (hp j i lj li h)
theorem QqH{W:World}{gs:List GV}(hw:∀x∈gs,W.heap[x.g]? = some (.cells x.cs x.ty x.fr))(hn:(gs.map (·.g)).Nodup):St (Qfk W gs):=by
 refine⟨fun id b h=>?_,fun i j a b B hi hj _ _ hρi hρj=>?_⟩
 ·obtain⟨x,hx,rfl,hρ⟩:=Qb7 h
  exact⟨hρ,hw x (QwV hx)⟩
 ·obtain⟨x,hx,rfl,hρ⟩:=Qb7 hi
  obtain⟨y,hy,rfl,hρ'⟩:=Qb7 hj
  have e:x.g=y.g:=(Qyb (hρ.symm.trans hρi)).trans (Qyb (hρ'.symm.trans hρj)).symm
  have e1:(gs.map (·.g))[i]? = some x.g:=by rw[Qxd,hx];rfl
  have e2:(gs.map (·.g))[j]? = some x.g:=by rw[Qxd,hy,e];rfl
  exact Qoz hn e1 e2
theorem QiE{W:World}{gs:List GV}{c:Cx}(hw:∀x∈gs,W.heap[x.g]? = some (.cells x.cs x.ty x.fr))(hst:St c)(h:Ev (Qfk W gs) c):Go.RowKit.Below W.heap.size W c.w:=by
 refine⟨h.os,h.tape,h.output,h.size,fun k hk=>?_⟩
 by_cases ho:(Qfk W gs).owns k
 ·obtain⟨id,b,hb,_,hρ⟩:=ho
  obtain⟨x,hx,rfl,hρ'⟩:=Qb7 hb
  obtain rfl:=Qyb (hρ.symm.trans hρ')
  obtain⟨b',hb',hk'⟩:=h.kin id _ hb
  simp only[GV.blk,Kin]at hk'
  obtain⟨rfl,_⟩:=hk'
  rw[(hst.blocks id _ hb').2,hw x (QwV hx)]
 ·exact h.frame k hk ho
theorem Qo6{W:World}{gs:List GV}{a:AV}{u:Value}(h:Rel (base0 W) a u):Rel (Qfk W gs) a u:=by
 have hp:∀{B o:Nat} {u:Value},(base0 W).cellP B o u->(Qfk W gs).cellP B o u:=fun{B o u} h=>⟨h.1,h.2.1,fun id b hb hl hρ=>.inr (by
  obtain⟨x,_,rfl,_⟩:=Qb7 hb
  exact⟨_,_,_,_,rfl⟩)⟩
 induction h with
 |v x=>exact .v x
 |junk x=>exact .junk x
 |agg l cs hl h ih=>exact .agg l cs hl ih
 |tup l cs hl h ih=>exact .tup l cs hl ih
 |slnil s own ht=>exact .slnil s own fun b hb=>absurd (ht b hb).1 (by simp[base0])
 |slzero s own ba ht=>exact .slzero s own ba fun b hb=>absurd (ht b hb).1 (by simp[base0])
 |sl s xs own B o cap f hs hcap hmax hc hr ht ih=>exact .sl s xs own B o cap f hs hcap hmax (fun j a hj=>⟨hp (hc j a hj).1,(hc j a hj).2⟩) ih fun b hb=>absurd (ht b hb).1.1 (by simp[base0])
 |pin s xs k off B o f hs hc hr ih=>exact .pin s xs k off B o f hs (fun j a hj=>⟨hp (hc j a hj).1,(hc j a hj).2⟩) ih
 |ptr id k off x hid=>exact absurd hid (by simp[base0])
 |arr id lo len x hid=>exact absurd hid (by simp[base0])
 |row id lo len cap x hid=>exact absurd hid (by simp[base0])
 |mp id x hid=>exact absurd hid (by simp[base0])
 |fn f first cap vs ws h1 h2 hv hw ihv ihw=>exact .fn f first cap vs ws h1 h2 ihv ihw
 |ifc t a u h ih=>exact .ifc t a u ih
 |spt s xs own p n k h ih=>exact .spt s xs own p n k ih
theorem QmR{W:World}{gs:List GV}{asx:List AV}{args:Array Value}(h:RelL (base0 W) asx args):RelL (Qfk W gs) asx args:=⟨h.1,fun j a u e1 e2=>Qo6 (h.2 j a u e1 e2)⟩
theorem QmA{P:Program}{f:FuncId}{asx:List AV}{W:World}{args:Array Value}{gs:List GV}(hw:∀x∈gs,W.heap[x.g]? = some (.cells x.cs x.ty x.fr))(hn:(gs.map (·.g)).Nodup)
  (hc:QT P f asx (gs.map GV.blk) fun o h'=>o = .ret (.v (.bool true))/\h'=gs.map GV.blk) (hr:RelL (Qfk W gs) asx args) :
  Calls P f args W fun e W'=>e = .returned (.bool true)/\Go.RowKit.Below W.heap.size W W':=by
 refine callsIn_wide.1 ((hc.2 Fence.wide 0 (Qfk W gs) args WF.wide (QqH hw hn) rfl hr).mono ?_)
 rintro e w' ⟨o,c',⟨rfl,hh⟩,hev,hst,rfl,hend⟩
 obtain⟨x,rfl,hx⟩:=hend
 cases hx
 exact⟨rfl,QiE hw hst hev⟩
theorem Qlx{P:Program}{W:World}{l:List (String×DataW Unit)}(h:laidMetH P l W){x:String×DataW Unit}(hf:((l.filter fun x=>x.2.handleName?.isNone).filter fun y=>y.1==x.1)=[x]):laidMet P [x] W:=by
 have:=(laidMetH_iff.1 h).1.filter fun y=>y.1==x.1
 rwa [hf]at this
theorem QjR{P:Program}{W:World}{nm:String}{g:Nat}{cs:Array Value}(hn:P.globalNamed nm=some g)(h:W.var? P nm=some cs):∃ty fr,W.heap[g]? = some (.cells cs ty fr):=by
 simp only[World.var?,hn,QvU]at h
 split at h
 ·rename_i cs' ty fr e
  cases h
  exact⟨ty,fr,e⟩
 ·cases h
theorem Qqb{P:Program}{W:World}{nm:String}{k:IntKind}{zs:List Int}{g:Nat}{t e:TypeId}{n:Nat}
  (hg:P.globalNamed nm=some g) (hty:(P.globals[g]?).map (·.type)=some t) (ht:P.underlying t=some (.array n e)) (he:P.underlying e=some (.int k)) (hce:P.cellsOf e=1) (hct:P.cellsOf t=n)
  (h:laidMet P [(nm,Lib.tabData k zs)] W):∃ty fr,W.heap[g]? = some (.cells (zs.map fun z=>Value.int k z).toArray ty fr) :=
 QjR hg (Lib.tabIs_of_head hg hty ht he hce hct h)
end Go.Proofs.YtenheconhibonaaGreatDoor.Ab
namespace Go.Proofs.YtenheconhibonaaGreatDoor.Ab
open Go.Lib
def decN(n:Nat):ByteArray:=⟨(decDigits n).toArray⟩
theorem Qfv(n:Nat):(decN n).size=nDigits n:=by
 show(decDigits n).toArray.size=_
 rw[Qxt,decDigits_length]
theorem QaB(n:Nat):(decN n).data.toList=decDigits n:=rfl
theorem Qbg:∀(k n:Nat),n<10 ^ (k+1)->nDigits n<=k+1
 |0,n,h=>by rw[nDigits_small (by simpa using h)];exact QwP _
 |k+1,n,h=>by
  by_cases hn:n<10
  ·rw[nDigits_small hn];omega
  ·rw[nDigits_big hn]
   have:=Qbg k (n / 10) (by rw[Nat.pow_succ]at h;omega)
   omega
theorem Qfu{n:Nat}(h:n<=9223372036854775808):(decN n).size<=19:=by
 rw[Qfv]
 exact Qbg 18 n (by omega)
theorem QhD{n:Nat}(h:n<=1048576):(decN n).size<=7:=by
 rw[Qfv]
 exact Qbg 6 n (by omega)
theorem QpR(n:Nat):1<=(decN n).size:=by rw[Qfv];exact nDigits_pos n
theorem Qlc{a b:ByteArray}(h:a.data.toList=b.data.toList):a=b:=by
 obtain⟨a⟩:=a;obtain⟨b⟩:=b
 congr 1
 exact Array.toList_inj.1 h
theorem XT(a b:ByteArray):(a++b).data.toList=a.data.toList++b.data.toList:=by
 rw[ByteArray.data_append,Array.toList_append]
theorem QgU{n:Nat}(h:n<10):decN n=strOfNums [((48+n:Nat):Int)]:=by
 refine Qlc ?_
 rw[QaB,decDigits_one h,strOfNums_data]
 rfl
theorem Qlf{n:Nat}(h:¬n<10):decN n=decN (n / 10)++strOfNums [((48+n % 10:Nat):Int)]:=by
 refine Qlc ?_
 rw[XT,QaB,QaB,decDigits,dif_neg h,strOfNums_data]
 rfl
theorem QcW:∀(l m:List UInt8) (a:Nat),decFrom a (l++m)=(decFrom a l).bind fun b=>decFrom b m
 |[],m,a=>rfl
 |c::l,m,a=>by
  rw[Qwh]
  simp only[decFrom]
  cases digitVal c with
  |none=>rfl
  |some d=>exact QcW l m _
theorem Qeq{d:Nat}(h:d<10):digitVal (UInt8.ofNat (48+d))=some d:=by
 have e:(UInt8.ofNat (48+d)).toNat=48+d:=by
  rw[UInt8.toNat_ofNat'];omega
 unfold digitVal
 rw[e,QwN (by omega)]
 congr 1;omega
theorem Qft(n:Nat):decFrom 0 (decDigits n)=some n:=by
 induction n using Nat.strongRecOn with
 |_ n ih =>
  rw[decDigits]
  split
  ·rename_i h
   simp only[decFrom,Qeq h]
   congr 1;omega
  ·rename_i h
   rw[QcW,ih (n / 10) (by omega),Option.bind_some]
   simp only[decFrom,Qeq (show n % 10<10 by omega)]
   congr 1;omega
end Go.Proofs.YtenheconhibonaaGreatDoor.Ab
namespace Go.Proofs.YtenheconhibonaaGreatDoor.Ab
open Go.Proofs Go.RowKit
def tabC:Array Value:=(Lib.pow10Tab.map fun z=>Value.int .u64 z).toArray
def XE(h:AH):Prop:=HasG h 0 tabC
open Go.Sort in
theorem Qdl(w:World)(q:Nat)(os:Array Obj):Go.RowKit.Below w.heap.size w (grow (w.drewN q) os) :=
 ⟨rfl,rfl,rfl,by simp[grow],fun i hi=>by
  show((w.drewN q).heap++os)[i]? = _
  rw[Qxz (by show i<w.heap.size;omega)]
  rfl⟩
theorem Qoc(n:Nat)(hn:n<=9223372036854775807)(h:AH)(hG:XE h):QT Tryz.prog 58 [.i n] h fun o h'=>o = .ret (.v (.string (decN n)))/\h'=h :=
 Qfm (vs:=[.int .i64 n]) Tryz.call58 fun c hst hh=>by
  have hv:c.w.var? Tryz.prog "internal/strconv.uint64pow10" = some tabC:=HasG.var hst (hh▸hG) (by kernel_rfl)
  refine(Tryz.strconv_Itoa n (by omega) (by omega) c.w hv).mono ?_
  rintro e w' ⟨rfl,k,os,rfl⟩
  refine⟨_,rfl,?_,fun c'=>by rw[Lib.itoa_nonneg];exact .v _⟩
  exact Qdl c.w k os
theorem Qol(n:Nat)(h1:n<=1048576)(h:AH)(hG:XE h):QT Tryz.prog 127 [.i n] h fun o h'=>o = .ret (.v (.string (vOf (decN n))))/\h'=h :=
 Qqa n (by omega) (by omega) _ (by have:=QhD h1;omega) h (Qoc n (by omega) h hG)
theorem QtW(x:Int)(h0:0<=x)(h1:x<256):pv Tryz.prog (convert 3 5 (.int .i64 x))=some (.int .u8 x):=by
 rw[QoU Tryz.prog 3 5 (ts:=.int .i64) (kd:=.u8) (by kernel_rfl) (by kernel_rfl)]
 have:IntKind.u8.wrap x=x:=by simp[IntKind.wrap,IntKind.bits,IntKind.signed];omega
 rw[this]
theorem QiP(n:Nat):n<=9223372036854775807->Pure Tryz.prog 59 [.i n] (.v (.string (decN n))):=by
 induction n using Nat.strongRecOn with
 |_ n ih =>
  intro hn h
  have m0:¬(n:Int)<0:=by omega
  have hr:=fun xo yo=>Qte Tryz.prog 3 xo yo .i64 (n:Int) 10 (by decide)
  have hq:=fun xo yo=>Qtd Tryz.prog 3 xo yo .i64 (n:Int) 10 (by decide)
  have er:(n:Int).tmod 10=((n % 10:Nat):Int):=rfl
  have eq:IntKind.i64.wrap ((n:Int).tdiv 10)=((n / 10:Nat):Int):=by
   rw[show(n:Int).tdiv 10=((n / 10:Nat):Int)from rfl,Yg (by omega)]
  have ew:IntKind.i64.wrap (48+((n % 10:Nat):Int))=((48+n % 10:Nat):Int):=by rw[Yg (by omega)];omega
  have hc:=QtW ((48+n % 10:Nat):Int) (by omega) (by omega)
  have hby:Qj9 Tryz.prog 72 9=true:=by kernel_rfl
  by_cases hs:n<10
  ·have m1:(n:Int)<10:=by omega
   have e0:n % 10=n:=Nat.mod_eq_of_lt hs
   rw[e0]at er ew hc
   refine Qb Tryz.func59 rfl Tryz.call59 Tryz.ntmps59 Tryz.results59 (by simp) ?_
   with_reducible repeat first|refine Qa fun K E hK hE=>?_;simp only[Qh,Qe,Qk,OpW,aop,undef,AS.ev,Qg,Qu,QI,Qr,QG,QvW,AV.QuX,Q6,Qv9,Qwa,QE,Qwb,↓reduceIte,Qv2,Qv3,Nat.reduceLT,Nat.reduceLeDiff,Nat.reduceEqDiff,Nat.reduceMul,Qv1,Qwn,aBin,QW,Zj,QvR,Qv4,Qv8,Q5,Yc,Qwl,Qwm,QvX,rng1,Xg,Nat.reducePow,zi5,ei72,m0,m1,hr,er,ew,hc,Qem,hby,intsOf]|refine Qf fun K hK=>?_|refine Qp ?_|refine Qw ?_|refine Qd ?_|refine QB ?_|refine hK _ ?_;clear hK|refine Qi rfl ?_;simp only[↓reduceIte,QvT]
   simp only[QS,Qq,Qz,upd,↓reduceIte,QvV,QvZ];first|refine Qc (htake _ _) (.keep (.v _)) ⟨by rw[QgU hs],rfl⟩|refine Qc QwH (.keep (.v _)) ⟨by rw[QgU hs],rfl⟩
  ·have m1:¬(n:Int)<10:=by omega
   have c:=ih (n / 10) (by omega) (by omega)
   have hsz:(decN (n / 10)).size<=19:=Qfu (by omega)
   have hsa:=fun xo yo=>QaL Tryz.prog 9 xo yo (decN (n / 10)) (strOfNums [((48+n % 10:Nat):Int)]) (by rw[strOfNums_size];simp;omega)
   refine Qb Tryz.func59 rfl Tryz.call59 Tryz.ntmps59 Tryz.results59 (by simp) ?_
   with_reducible repeat first|(first|refine Qa fun K E hK hE=>?_|refine Qy c ?_);simp only[Qh,Qe,Qk,OpW,Q7,aop,undef,AS.ev,Qg,Qu,QI,Qr,QG,QvW,AV.QuX,Q6,Qv9,Qwa,QE,Qwb,↓reduceIte,Qv2,Qv3,Nat.reduceLT,Nat.reduceLeDiff,Nat.reduceEqDiff,Nat.reduceMul,Qv1,Qwn,aBin,QW,Zj,QvR,Qv4,Qv8,Q5,Yc,Qwm,QvX,rng1,Xg,Nat.reducePow,zi5,ei72,m0,m1,hr,hq,er,eq,ew,hc,Qem,hby,intsOf,hsa]|refine Qf fun K hK=>?_|refine Qp ?_|refine Qw ?_|refine Qd ?_|refine hK _ ?_;clear hK|refine Qi rfl ?_;simp only[↓reduceIte,QvT]
   simp only[QS,Qq,Qz,upd,↓reduceIte,QvV,QvZ];first|refine Qc (htake _ _) (.keep (.v _)) ⟨by rw[Qlf hs],rfl⟩|refine Qc QwH (.keep (.v _)) ⟨by rw[Qlf hs],rfl⟩
theorem Qh9(n:Nat)(h1:n<=1048576):Pure Tryz.prog 26 [.i n] (.v (.string (vOf (decN n)))):=by
 intro h
 have m0:¬(n:Int)<0:=by omega
 have m1:¬(n:Int)>1048576:=by omega
 have c:=QiP n (by omega)
 have hsz:=QhD h1
 have hsa:=fun xo yo=>QaL Tryz.prog 9 xo yo ({data:=#[86]}:ByteArray) (decN n) (by show 1+_<=_;omega)
 refine Qb Tryz.func26 rfl Tryz.call26 Tryz.ntmps26 Tryz.results26 (by simp) ?_
 with_reducible repeat first|(first|refine Qa fun K E hK hE=>?_|refine Qy c ?_);simp only[Qh,Qe,Qk,OpW,Q7,aop,undef,AS.ev,Qg,Qu,QI,Qr,QG,QvW,↓reduceIte,Nat.reduceLT,Nat.reduceEqDiff,aBin,QvP,QvQ,QvR,QvU,QvS,Qv4,Qv8,Q5,Xw,Qwm,QvX,QvT,m0,m1,hsa]|refine Qf fun K hK=>?_|refine Qp ?_|refine Qw ?_|refine Qd ?_|refine hK _ ?_;clear hK|refine Qi rfl ?_;simp only[↓reduceIte,QvT]
 simp only[QS,Qq,Qz,upd,↓reduceIte,QvV,QvZ];first|refine Qc (htake _ _) (.keep (.v _)) ⟨rfl,rfl⟩|refine Qc QwH (.keep (.v _)) ⟨rfl,rfl⟩
end Go.Proofs.YtenheconhibonaaGreatDoor.Ab

