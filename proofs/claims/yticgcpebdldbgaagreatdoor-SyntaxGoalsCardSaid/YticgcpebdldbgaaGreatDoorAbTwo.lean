/-
  An abstract program logic, contracts of functions, and laws of terms and rules (part 2).
-/
import Derived.Test.YticgcpebdldbgaaGreatDoorAbOne
import Derived.DefersIn
import Derived.RangeFuncLeaves
import Derived.RangeFuncStops
import Derived.IntWalk
import Derived.RangeFuncNested
import Derived.Laws.Externs
import Derived.Attr
import Derived.Test.YticgcpebdldbgaaGreatDoorProg
import Derived.KernelRfl
import Derived.Below
import Derived.Lib.Strings
import Derived.Shelf.Strings.Search1
import Derived.Shelf.Strings.Search2
import Derived.Shelf.Strings.Search3
import Derived.Shelf.LaysM
import Derived.Shelf.Strings.Shaped
import Derived.Lib.ConvBytes
import Derived.Lib.AtoiErrMem
set_option linter.unusedVariables false
set_option linter.unusedSimpArgs false
set_option maxHeartbeats 4000000
set_option maxRecDepth 4000
namespace Go.Proofs.YticgcpebdldbgaaGreatDoor.Ab
inductive Below (n:Nat):AV->Prop
 |v (x:Value):Below n (.v x)
 |junk:Below n .junk
 |agg (l:List AV) (h:∀a∈l,Below n a):Below n (.agg l)
 |tup (l:List AV) (h:∀a∈l,Below n a):Below n (.tup l)
 |sl (s:Nat) (xs:List AV) (own:Option Nat) (h:∀a∈flat xs,Below n a) (hb:∀b,own=some b->b<n):Below n (.sl s xs own)
 |pin (s:Nat) (xs:List AV) (k off:Nat) (h:∀a∈flat xs,Below n a):Below n (.pin s xs k off)
 |ptr (id k off:Nat) (h:id<n):Below n (.ptr id k off)
 |arr (id lo len:Nat) (h:id<n):Below n (.arr id lo len)
 |row (id lo len cap:Nat) (h:id<n):Below n (.row id lo len cap)
 |mp (id:Nat) (h:id<n):Below n (.mp id)
 |fn (f:Fn) (first cap:List AV) (h1:∀a∈first,Below n a) (h2:∀a∈cap,Below n a):Below n (.fn f first cap)
 |ifc (t:TypeId) (x:AV) (h:Below n x):Below n (.ifc t x)
 |spt (s:Nat) (xs:List AV) (own:Option Nat) (h:Below n (.sl s xs own)):Below n (.spt s xs own)
theorem Qaa{α:Type}{l:List α}{a:α}(h:a∈l):∃j:Nat,l[j]? = some a:=by
 obtain⟨j,hj,rfl⟩:=List.getElem_of_mem h
 exact⟨j,QuC hj⟩
theorem QbJ{vs:Array Value}{n j:Nat}(h:vs.size=n)(hj:j<n):∃u,vs[j]? = some u:=⟨_,QuV (by omega)⟩
theorem Rel.ids{c:Cx}{a:AV}{x:Value}(h:Rel c a x):Below c.h.length a:=by
 induction h with
 |v x=>exact .v x
 |junk x=>exact .junk
 |agg l cs hl _ ih =>
  refine .agg l fun a ha=>?_
  obtain⟨j,hj⟩:=Qaa ha
  obtain⟨u,hu⟩:=QbJ hl (Qf hj)
  exact ih j a u hj hu
 |tup l cs hl _ ih =>
  refine .tup l fun a ha=>?_
  obtain⟨j,hj⟩:=Qaa ha
  obtain⟨u,hu⟩:=QbJ hl (Qf hj)
  exact ih j a u hj hu
 |slnil s own ht=>exact .sl s [] own (by simp[flat]) fun b hb=>(ht b hb).1
 |slzero s own ba ht=>exact .sl s [] own (by simp[flat]) fun b hb=>(ht b hb).1
 |sl s xs own B o cap f hs hcap hmax hc _ ht ih =>
  refine .sl s xs own (fun a ha=>?_) fun b hb=>(ht b hb).1.1
  obtain⟨j,hj⟩:=Qaa ha
  exact ih j a hj
 |pin s xs k off B o f hs hc _ ih =>
  refine .pin s xs k off fun a ha=>?_
  obtain⟨j,hj⟩:=Qaa ha
  exact ih j a hj
 |ptr id k off x hid ho h1=>exact .ptr id k off hid
 |arr id lo len x hid ho h1=>exact .arr id lo len hid
 |row id lo len cap x hid ho h1=>exact .row id lo len cap hid
 |mp id x hid ho h1=>exact .mp id hid
 |fn f first cap vs ws e1 e2 _ _ ih1 ih2 =>
  refine .fn f first cap (fun a ha=>?_) fun a ha=>?_
  ·obtain⟨j,hj⟩:=Qaa ha
   obtain⟨u,hu⟩:=QbJ e1 (Qf hj)
   exact ih1 j a u hj hu
  ·obtain⟨j,hj⟩:=Qaa ha
   obtain⟨u,hu⟩:=QbJ e2 (Qf hj)
   exact ih2 j a u hj hu
 |ifc t a u _ ih=>exact .ifc t a ih
 |spt s xs own p n k _ ih=>exact .spt s xs own ih
def Cx.cut(c:Cx)(m:Nat):Cx:={c with h:=c.h.take m}
theorem Z2{c:Cx}{m id:Nat}{b:AB}(h:(c.cut m).h[id]? = some b):id<m/\c.h[id]? = some b:=by
 have hlt:=Qf h
 simp only[Cx.cut,QuY]at hlt h
 rw[QuW (by omega)]at h
 exact⟨by omega,h⟩
theorem QmH{c:Cx}{m id:Nat}{b:AB}(hm:id<m)(h:c.h[id]? = some b):(c.cut m).h[id]? = some b:=by
 simp only[Cx.cut];rw[QuW hm];exact h
theorem QeN{c:Cx}{m B o:Nat}(h:c.prot B o):(c.cut m).prot B o :=
 ⟨h.1,fun id b hb hl hρ=>h.2 id b (Z2 hb).2 hl hρ⟩
theorem Rel.cut{c:Cx}{m:Nat}(hm:m<=c.h.length){a:AV}{x:Value}(h:Rel c a x)(hb:Below m a):Rel (c.cut m) a x:=by
 have hlen:(c.cut m).h.length=m:=by simp[Cx.cut];omega
 induction h with
 |v x=>exact .v x
 |junk x=>exact .junk x
 |agg l cs hl _ ih=>cases hb with|agg _ h=>exact .agg l cs hl fun j a u h1 h2=>ih j a u h1 h2 (h a (QuK h1))
 |tup l cs hl _ ih=>cases hb with|tup _ h=>exact .tup l cs hl fun j a u h1 h2=>ih j a u h1 h2 (h a (QuK h1))
 |slnil s own ht =>
  cases hb with
  |sl _ _ _ h hown =>
   refine .slnil s own fun b hb=>⟨by rw[hlen];exact hown b hb,fun e s' n hg=>(ht b hb).2 e s' n (Z2 hg).2⟩
 |slzero s own ba ht =>
  cases hb with
  |sl _ _ _ h hown =>
   refine .slzero s own ba fun b hb=>⟨by rw[hlen];exact hown b hb,fun e s' n hg=>(ht b hb).2 e s' n (Z2 hg).2⟩
 |sl s xs own B o cap f hs hcap hmax hc _ ht ih =>
  cases hb with
  |sl _ _ _ h hown =>
   exact .sl s xs own B o cap f hs hcap hmax (fun j a hj=>⟨⟨(hc j a hj).1.1,QeN (hc j a hj).1.2⟩,(hc j a hj).2⟩) (fun j a hj=>ih j a hj (h a (QuK hj)))
    fun b hb=>⟨⟨by rw[hlen];exact hown b hb,let ⟨x,g1,g2⟩:=(ht b hb).1.2;⟨x,QmH (hown b hb) g1,g2⟩⟩,fun e s' n hg=>(ht b hb).2 e s' n (Z2 hg).2⟩
 |pin s xs k off B o f hs hc _ ih =>
  cases hb with
  |pin _ _ _ _ h =>
   exact .pin s xs k off B o f hs (fun j a hj=>⟨⟨(hc j a hj).1.1,QeN (hc j a hj).1.2⟩,(hc j a hj).2⟩) (fun j a hj=>ih j a hj (h a (QuK hj)))
 |ptr id k off x hid ho h1=>cases hb with|ptr _ _ _ h=>exact .ptr id k off x (by rw[hlen];exact h) ho fun ty s xs hg=>h1 ty s xs (Z2 hg).2
 |arr id lo len x hid ho h1=>cases hb with|arr _ _ _ h=>exact .arr id lo len x (by rw[hlen];exact h) ho fun ty s xs hg=>h1 ty s xs (Z2 hg).2
 |row id lo len cap x hid ho h1=>cases hb with|row _ _ _ _ h=>exact .row id lo len cap x (by rw[hlen];exact h) ho fun ty s xs hg=>h1 ty s xs (Z2 hg).2
 |mp id x hid ho h1=>cases hb with|mp _ h=>exact .mp id x (by rw[hlen];exact h) ho ⟨fun es hg=>h1.1 es (Z2 hg).2,fun i hg=>h1.2.1 i (Z2 hg).2,fun s p hg=>h1.2.2 s p (Z2 hg).2⟩
 |fn f first cap vs ws e1 e2 _ _ ih1 ih2 =>
  cases hb with
  |fn _ _ _ h1 h2=>exact .fn f first cap vs ws e1 e2 (fun j a u h3 h4=>ih1 j a u h3 h4 (h1 a (QuK h3))) (fun j a u h3 h4=>ih2 j a u h3 h4 (h2 a (QuK h3)))
 |ifc t a u _ ih=>cases hb with|ifc _ _ h=>exact .ifc t a u (ih h)
 |spt s xs own p n k _ ih=>cases hb with|spt _ _ _ h=>exact .spt s xs own p n k (ih h)
def AB.Below(n:Nat):AB->Prop
 | .cells _ _ xs=>∀a∈flat xs,Ab.Below n a
 | .grow _ _ _=>True
 | .map es=>∀kv∈es,Ab.Below n kv.2
 | .loop i=>∀t,Ab.Below n (i.tm t)
 | .iter _ _=>True
 | .glob _ _ _ _=>True
 | .dead=>True
 | .gone=>True
theorem Below.mono{n m:Nat}(hnm:n<=m){a:AV}(h:Ab.Below n a):Ab.Below m a:=by
 induction h with
 |v x=>exact .v x
 |junk=>exact .junk
 |agg l _ ih=>exact .agg l ih
 |tup l _ ih=>exact .tup l ih
 |sl s xs own _ ho ih=>exact .sl s xs own ih fun b hb=>Qu5 (ho b hb) hnm
 |pin s xs k off _ ih=>exact .pin s xs k off ih
 |ptr id k off h=>exact .ptr id k off (Qu5 h hnm)
 |arr id lo len h=>exact .arr id lo len (Qu5 h hnm)
 |row id lo len cap h=>exact .row id lo len cap (Qu5 h hnm)
 |mp id h=>exact .mp id (Qu5 h hnm)
 |fn f a b _ _ ih1 ih2=>exact .fn f a b ih1 ih2
 |ifc t a _ ih=>exact .ifc t _ ih
 |spt s xs own _ ih=>exact .spt s xs own ih
theorem AB.Below.mono{n m:Nat}{b:AB}(h:b.Below n)(hnm:n<=m):b.Below m:=by
 cases b with
 |cells t s xs=>exact fun a ha=>Ab.Below.mono hnm (h a ha)
 |grow=>trivial
 |map es=>exact fun kv hkv=>Ab.Below.mono hnm (h kv hkv)
 |loop i=>exact fun t=>Ab.Below.mono hnm (h t)
 |iter=>trivial
 |glob=>trivial
 |dead=>trivial
 |gone=>trivial
theorem St.below{c:Cx}(hs:St c){id:Nat}{b:AB}(hb:c.h[id]? = some b):b.Below c.h.length:=by
 have:=hs.blocks id b hb
 cases b with
 |cells ty s xs =>
  obtain⟨B,cur,h1,h2,h3,h4⟩:=this
  intro a ha
  obtain⟨j,hj⟩:=Qaa ha
  obtain⟨u,_,_,hr⟩:=h4 j a hj
  exact hr.ids
 |grow=>trivial
 |map es =>
  obtain⟨B,ents,clock,h1,h2,h3,h4⟩:=this
  intro kv hkv
  obtain⟨j,hj⟩:=Qaa hkv
  have hlt:j<ents.size:=by rw[h3];exact Qf hj
  exact(h4 j kv ents[j] hj (QuV hlt)).2.ids
 |loop i =>
  obtain⟨B,r,h1,h2,h3,h4⟩:=this
  exact fun t=>(h4 t).ids
 |iter=>trivial
 |glob=>trivial
 |dead=>trivial
 |gone=>trivial
theorem St.cut{c:Cx}(hs:St c){m:Nat}(hm:m<=c.h.length)(hb:∀b∈c.h.take m,b.Below m):St (c.cut m):=by
 refine⟨fun id b hg=>?_,fun i j a b B hi hj hla hlb hρi hρj=>hs.inj i j a b B (Z2 hi).2 (Z2 hj).2 hla hlb hρi hρj⟩
 have hbl:b.Below m:=hb b (QuK hg)
 have h0:=hs.blocks id b (Z2 hg).2
 cases b with
 |cells ty s xs =>
  obtain⟨B,cur,h1,h2,h3,h4⟩:=h0
  exact⟨B,cur,h1,h2,h3,fun j a hj=>let ⟨u,h5,h6,h7⟩:=h4 j a hj;⟨u,h5,h6,h7.cut hm (hbl a (QuK hj))⟩⟩
 |grow e s n=>exact h0
 |map es =>
  obtain⟨B,ents,clock,h1,h2,h3,h4⟩:=h0
  exact⟨B,ents,clock,h1,h2,h3,fun j kv e hj he=>⟨(h4 j kv e hj he).1,(h4 j kv e hj he).2.cut hm (hbl kv (QuK hj))⟩⟩
 |loop i =>
  obtain⟨B,r,h1,h2,h3,h4⟩:=h0
  exact⟨B,r,h1,h2,h3,fun t=>(h4 t).cut hm (hbl t)⟩
 |iter s p=>exact h0
 |glob g cs ty fr=>exact h0
 |dead=>trivial
 |gone=>trivial
theorem Ev.cut{c c':Cx}(h:Ev c c'){m:Nat}(h1:c.h.length<=m)(h2:m<=c'.h.length):Ev c (c'.cut m):=by
 refine⟨h.os,h.tape,h.output,h.size,by simp[Cx.cut];omega,h.frame,fun id b hb=>?_,fun id B b h3 h4 hl hρ=>(h.fresh id B b h3 (Z2 h4).2 hl hρ).imp (fun e=>e) fun⟨i,ty,s,xs,a1,a2,a3⟩=>⟨i,ty,s,xs,a1,a2,by
  have:=Qf a1
  simp only[Cx.cut,Qv9];rw[QuH (by omega)];exact a3⟩⟩
 obtain⟨b',hb',hk⟩:=h.kin id b hb
 have hlt:=Qf hb
 exact⟨b',QmH (by omega) hb',hk⟩
inductive Frz (h:AH) (m:Nat):AV->AV->Prop
 |nil (s:Nat):Frz h m (.v (.slice none 0 0)) (.sl s [] none)
 |keep {a:AV} (hb:Below m a):Frz h m a a
 |tok {s:Nat} {xs:List AV} {own:Option Nat} (hb:∀a∈flat xs,Below m a):Frz h m (.sl s xs own) (.sl s xs none)
 |arr {id lo len s:Nat} {ty:TypeId} {xs:List AV} (hi:m<=id) (hg:h[id]? = some (.cells ty s xs)) (hl:lo+len<=xs.length) (hb:∀a∈flat xs,Below m a) :
   Frz h m (.arr id lo len) (.sl s ((xs.drop lo).take len) none)
 |row {id lo len cap s:Nat} {ty:TypeId} {xs:List AV} (hi:m<=id) (hg:h[id]? = some (.cells ty s xs)) (hl:lo+len<=xs.length) (hb:∀a∈flat xs,Below m a) :
   Frz h m (.row id lo len cap) (.sl s ((xs.drop lo).take len) none)
 |ptr {id k off s:Nat} {ty:TypeId} {xs:List AV} (hi:m<=id) (hg:h[id]? = some (.cells ty s xs)) (hb:∀a∈flat xs,Below m a):Frz h m (.ptr id k off) (.pin s xs k off)
 |agg {l l':List AV} (hl:l'.length=l.length) (hp:∀(j:Nat) a a',l[j]? = some a->l'[j]? = some a'->Frz h m a a'):Frz h m (.agg l) (.agg l')
 |tup {l l':List AV} (hl:l'.length=l.length) (hp:∀(j:Nat) a a',l[j]? = some a->l'[j]? = some a'->Frz h m a a'):Frz h m (.tup l) (.tup l')
 |fn {f:Fn} {a a' b b':List AV} (hl:a'.length=a.length) (hl':b'.length=b.length) (hp:∀(j:Nat) x x',a[j]? = some x->a'[j]? = some x'->Frz h m x x')
   (hq:∀(j:Nat) x x',b[j]? = some x->b'[j]? = some x'->Frz h m x x'):Frz h m (.fn f a b) (.fn f a' b')
theorem Qc3{c:Cx}(hs:St c){m:Nat}(hm:m<=c.h.length){id B ty s:Nat}{xs:List AV}(hi:m<=id)(hg:c.h[id]? = some (.cells ty s xs))(hρ:c.ρ id=some B)(hb:∀a∈flat xs,Below m a) :
  (∀x∈xs,x.cells.length=s)/\∃f:Nat->Value,∀(j:Nat) a,(flat xs)[j]? = some a->((c.cut m).cellP B (0+j) (f j)/\(f j).oneCell'=true)/\Rel (c.cut m) a (f j):=by
 obtain⟨B',cur,h1,h2,h3,h4⟩:=hs.blocks id _ hg
 rw[hρ]at h1;cases h1
 refine⟨h3,fun j=>cur.getD j undef,fun j a hj=>?_⟩
 obtain⟨u,h5,h6,h7⟩:=h4 j a hj
 have e:cur.getD j undef=u:=by rw[QuO,h5];rfl
 show((c.cut m).cellP B (0+j) (cur.getD j undef)/\(cur.getD j undef).oneCell'=true)/\Rel (c.cut m) a (cur.getD j undef)
 rw[e]
 refine⟨⟨⟨by show c.w.cell? _=_;rw[QtR,Ys h2];exact h5,?_⟩,h6⟩,h7.cut hm (hb a (QuK hj))⟩
 refine⟨hs.lt hg rfl hρ,fun id' b' hb' hl' hρ'=>?_⟩
 obtain⟨hlt,hb''⟩:=Z2 hb'
 have:=hs.inj id' id b' _ B hb'' hg hl' rfl hρ' hρ
 omega
theorem Frz.rel{c:Cx}(hs:St c){m:Nat}(hm:m<=c.h.length){a a':AV}(h:Frz c.h m a a'):∀{x:Value},Rel c a x->Rel (c.cut m) a' x:=by
 induction h with
 |nil s=>intro x hr;cases hr;exact .slnil s none fun b hb=>by cases hb
 |keep hb=>exact fun hr=>hr.cut hm hb
 |@tok s xs own hb =>
  intro x hr
  cases hr with
  |slnil _ _ ht=>exact .slnil s none fun b hb=>by cases hb
  |slzero _ _ ba ht=>exact .slzero s none ba fun b hb=>by cases hb
  |sl _ _ _ B o cap f hs' hcap hmax hc hr ht =>
   exact .sl s xs none B o cap f hs' hcap hmax (fun j a hj=>⟨⟨(hc j a hj).1.1,QeN (hc j a hj).1.2⟩,(hc j a hj).2⟩) (fun j a hj=>(hr j a hj).cut hm (hb a (QuK hj))) fun b hb=>by cases hb
 |@arr id lo len s ty xs hi hg hl hb =>
  intro x hr
  cases hr with
  |arr _ _ _ x hid ho h1 =>
   obtain⟨B,cap,hρ,rfl,h2,h3,_⟩:=h1 _ _ _ hg
   obtain⟨h4,f,h5⟩:=Qc3 hs hm hi hg hρ hb
   have hlen:((xs.drop lo).take len).length=len:=by simp;omega
   have hdrop:∀y∈xs.drop lo,y.cells.length=s:=fun y hy=>h4 y (Qvn hy)
   have hget:∀(j:Nat) a,(flat ((xs.drop lo).take len))[j]? = some a->(flat xs)[lo * s+j]? = some a:=by
    intro j a hj
    rw[Z3 hdrop (by simp;omega)]at hj
    have hlt:=Qf hj
    rw[QuY]at hlt
    rw[QuW (by omega),Qax h4 (by omega),Qu7]at hj
    exact hj
   have:=Rel.sl (c:=c.cut m) s ((xs.drop lo).take len) none B (lo * s) cap (fun j=>f (lo * s+j)) (fun y hy=>hdrop y (QvA hy)) (by omega) h3
    (fun j a hj=>by have:=(h5 _ a (hget j a hj)).1;rwa [QtR]at this) (fun j a hj=>(h5 _ a (hget j a hj)).2) (fun b hb=>by cases hb)
   rwa [hlen]at this
 |@row id lo len cap s ty xs hi hg hl hb =>
  intro x hr
  cases hr with
  |row _ _ _ _ x hid ho h1 =>
   obtain⟨B,cur,hρ,rfl,h2,h3,_⟩:=h1 _ _ _ hg
   obtain⟨h4,f,h5⟩:=Qc3 hs hm hi hg hρ hb
   have hlen:((xs.drop lo).take len).length=len:=by simp;omega
   have hdrop:∀y∈xs.drop lo,y.cells.length=s:=fun y hy=>h4 y (Qvn hy)
   have hget:∀(j:Nat) a,(flat ((xs.drop lo).take len))[j]? = some a->(flat xs)[lo * s+j]? = some a:=by
    intro j a hj
    rw[Z3 hdrop (by simp;omega)]at hj
    have hlt:=Qf hj
    rw[QuY]at hlt
    rw[QuW (by omega),Qax h4 (by omega),Qu7]at hj
    exact hj
   have:=Rel.sl (c:=c.cut m) s ((xs.drop lo).take len) none B (lo * s) cap (fun j=>f (lo * s+j)) (fun y hy=>hdrop y (QvA hy)) (by omega) h3
    (fun j a hj=>by have:=(h5 _ a (hget j a hj)).1;rwa [QtR]at this) (fun j a hj=>(h5 _ a (hget j a hj)).2) (fun b hb=>by cases hb)
   rwa [hlen]at this
 |@ptr id k off s ty xs hi hg hb =>
  intro x hr
  cases hr with
  |ptr _ _ _ x hid ho h1 =>
   obtain⟨B,hρ,rfl⟩:=h1 _ _ _ hg
   obtain⟨h4,f,h5⟩:=Qc3 hs hm hi hg hρ hb
   have:=Rel.pin (c:=c.cut m) s xs k off B 0 f h4 (fun j a hj=>(h5 j a hj).1) (fun j a hj=>(h5 j a hj).2)
   rwa [QtR]at this
 |@agg l l' hl _ ih =>
  intro x hr
  cases hr with
  |agg _ cs hl' hr =>
   refine .agg _ cs (by omega) fun j a' u ha' hu=>?_
   obtain⟨a,ha⟩:∃a,l[j]? = some a:=⟨_,QuC (by rw[<-hl];exact Qf ha')⟩
   exact ih j a a' ha ha' (hr j a u ha hu)
 |@tup l l' hl _ ih =>
  intro x hr
  cases hr with
  |tup _ cs hl' hr =>
   refine .tup _ cs (by omega) fun j a' u ha' hu=>?_
   obtain⟨a,ha⟩:∃a,l[j]? = some a:=⟨_,QuC (by rw[<-hl];exact Qf ha')⟩
   exact ih j a a' ha ha' (hr j a u ha hu)
 |@fn f p p' q q' hl hl' _ _ ih1 ih2 =>
  intro x hr
  cases hr with
  |fn _ _ _ vs ws e1 e2 h1 h2 =>
   refine .fn _ _ _ vs ws (by omega) (by omega) (fun j a' u ha' hu=>?_) (fun j a' u ha' hu=>?_)
   ·obtain⟨a,ha⟩:∃a,p[j]? = some a:=⟨_,QuC (by rw[<-hl];exact Qf ha')⟩
    exact ih1 j a a' ha ha' (h1 j a u ha hu)
   ·obtain⟨a,ha⟩:∃a,q[j]? = some a:=⟨_,QuC (by rw[<-hl'];exact Qf ha')⟩
    exact ih2 j a a' ha ha' (h2 j a u ha hu)
def Zm(P:Program)(s:AS):ResultVar->Option AV
 | .tmp t=>some (s.tm t)
 | .cell a t=>Zl P t (s.tm a) s.h
def Zr(P:Program)(s:AS)(rs:List ResultVar):Option AV :=
 match rs with
 |[r]=>Zm P s r
 |rs=>(rs.mapM (Zm P s)).map .tup
def resF(tmps:Array Value):ResultVar->Sem Value
 | .tmp t=>pure (tmps.getD t undef)
 | .cell p t=>do loadVar t (<-asAddr (tmps.getD p undef))
theorem QlO(fn:Func)(tmps:Array Value):results fn tmps=(do let vs<-fn.results.mapM (resF tmps);pure (if h:vs.size=1 then vs[0]else .tuple vs)):=by
 unfold results
 congr 1
theorem Qeu{P:Program}{N:Nat}{base:Bs×Fence}{c:Cx}(hst:St c){s:AS}{a:Act}(hr:SR N base c s a){rv:ResultVar}{r:AV}(h:Zm P s rv=some r) :
  ∃x,(resF a.tmps rv).run P c.w = .ok x c.w/\Rel c r x:=by
 cases rv with
 |tmp t=>simp only[Zm]at h;cases h;exact⟨_,rfl,hr.tm t⟩
 |cell p t =>
  simp only[Zm]at h
  rw[<-hr.h]at h
  obtain⟨x,hrun,hx⟩:=QeV hst h (hr.tm p)
  refine⟨x,?_,hx⟩
  rw[<-hrun]
  simp only[Instr.loadAt,resF]
  generalize a.tmps.getD p undef=u at hrun
  cases u with
  |pointer o =>
   cases o with
   |some ad=>rfl
   |none=>simp[Instr.loadAt,Instr.sureAddr]at hrun
  |_=>simp[Instr.loadAt,Instr.sureAddr]at hrun
theorem Qel{P:Program}{N:Nat}{base:Bs×Fence}{c:Cx}(hst:St c){s:AS}{a:Act}(hr:SR N base c s a):∀{rs:List ResultVar} {l:List AV},rs.mapM (Zm P s)=some l ->
  ∃xs:List Value,(rs.mapM (resF a.tmps)).run P c.w = .ok xs c.w/\RelL c l xs.toArray
 |[],l,h=>by simp at h;subst h;exact⟨[],rfl,rfl,fun j a u h=>by simp at h⟩
 |rv::rs,l,h=>by
  simp only[QvO]at h
  cases h1:Zm P s rv with
  |none=>simp[h1]at h
  |some r =>
   cases h2:rs.mapM (Zm P s)with
   |none=>simp[h1,h2]at h
   |some l' =>
    simp[h1,h2]at h
    subst h
    obtain⟨x,h3,h4⟩:=Qeu hst hr h1
    obtain⟨xs,h5,h6⟩:=Qel hst hr h2
    refine⟨x::xs,by simp only[QvO,Sem.run_bind,h3,Result.andThen_ok,h5,Sem.run_pure],by have:=h6.1;simpa using this,fun j a u ha hu=>?_⟩
    cases j with
    |zero=>simp at ha hu;subst ha;subst hu;exact h4
    |succ j=>exact h6.2 j a u (by simpa using ha) (by simpa using hu)
theorem QbW{P:Program}{N:Nat}{base:Bs×Fence}{c:Cx}(hst:St c){s:AS}{a:Act}(hr:SR N base c s a){fn:Func}{r:AV}(h:Zr P s fn.results.toList=some r):∃x,(results fn a.tmps).run P c.w = .ok x c.w/\Rel c r x:=by
 have hrun:∀xs:List Value,(fn.results.toList.mapM (resF a.tmps)).run P c.w = .ok xs c.w ->
   (results fn a.tmps).run P c.w = .ok (if h:xs.toArray.size=1 then xs.toArray[0]else .tuple xs.toArray) c.w:=by
  intro xs hx
  rw[QlO,Array.mapM_eq_mapM_toList]
  simp only[Sem.run_bind,Sem.run_map]
  rw[hx]
  rfl
 unfold Zr at h
 split at h
 ·rename_i rv hrs
  obtain⟨x,h1,h2⟩:=Qeu hst hr h
  refine⟨x,?_,h2⟩
  rw[hrun [x] (by rw[hrs];simp only[QvO,List.mapM_nil,Sem.run_bind,h1,Result.andThen_ok,Sem.run_pure])]
  rfl
 ·rename_i rs hne
  simp only[QuJ]at h
  obtain⟨l,hl,rfl⟩:=h
  obtain⟨xs,h1,h2⟩:=Qel hst hr hl
  refine⟨.tuple xs.toArray,?_,.tup l _ h2.1 h2.2⟩
  rw[hrun xs h1]
  have hne1:¬xs.toArray.size=1:=by
   intro he
   have h3:l.length=1:=by have:=h2.1;omega
   have h4:fn.results.toList.length=l.length:=by
    clear h1 h2 hrun hne
    generalize fn.results.toList=rs at hl
    induction rs generalizing l with
    |nil=>simp at hl;subst hl;rfl
    |cons rv rs ih =>
     simp only[QvO]at hl
     cases h5:Zm P s rv with
     |none=>simp[h5]at hl
     |some r =>
      cases h6:rs.mapM (Zm P s)with
      |none=>simp[h5,h6]at hl
      |some l' =>
       simp[h5,h6]at hl
       subst hl
       simp only[QtS]
       cases l' with
       |nil=>cases rs with
        |nil=>rfl
        |cons z zs =>
         simp only[QvO]at h6
         cases h7:Zm P s z with
         |none=>simp[h7]at h6
         |some q=>cases h8:zs.mapM (Zm P s)with
          |none=>simp[h7,h8]at h6
          |some q'=>simp[h7,h8]at h6
       |cons z zs=>simp at h3
   rw[h3]at h4
   match hq:fn.results.toList with
   |[rv]=>exact hne rv hq
   |[]=>rw[hq]at h4;simp at h4
   |_::_::_=>rw[hq]at h4;simp at h4
  rw[dif_neg hne1]
def XJ(args:List AV):Nat->AV:=fun t=>args.getD t (.v undef)
def Leaves(h h':AH)(r:AV)(Q:AV->AH->Prop):Prop :=
 (∃m r',h.length<=m/\m<=h'.length/\(h'.take m=h\/∀(i:Nat) b,(h'.take m)[i]? = some b->h[i]? = some b\/b.Below m)/\Frz h' m r r'/\Q r' (h'.take m))\/Q r h'
def Qbm(P:Program)(rs:List ResultVar)(h:AH)(Q:AOut->AH->Prop):AExit->AS->Prop
 | .normal,s | .ret,s=>∃r,Zr P s rs=some r/\Leaves h s.h r fun r h'=>Q (.ret r) h'
 | .panic x,s=>Leaves h s.h x fun r h'=>Q (.panic r) h'
 | .exit _,_=>False
theorem QaR{c c':Cx}{r:AV}{x:Value}{Q:AV->AH->Prop}(hs:St c)(hs':St c')(hev:Ev c c')(hr:Rel c' r x)(hl:Leaves c.h c'.h r Q) :
  ∃c2 r',Q r' c2.h/\Ev c c2/\St c2/\c2.w=c'.w/\Rel c2 r' x:=by
 rcases hl with⟨m,r',h1,h2,h3,h4,h5⟩|h5
 case inr=>exact⟨c',r,h5,hev,hs',rfl,hr⟩
 refine⟨c'.cut m,r',h5,hev.cut h1 h2,hs'.cut h2 ?_,rfl,h4.rel hs' h2 hr⟩
 rcases h3 with h3|h3
 ·intro b hb
  have hb':=hb
  rw[h3]at hb'
  obtain⟨j,hj⟩:=Qaa hb'
  have hm:m=c.h.length:=by
   have:=Qvq List.length h3
   rw[QuY]at this;omega
  rw[hm]
  exact hs.below hj
 ·intro b hb
  obtain⟨i,hi⟩:=Qaa hb
  rcases h3 i b hi with h6|h6
  ·exact AB.Below.mono (hs.below h6) h1
  ·exact h6
theorem QaE{P:Program}{w:World}{r:Nat}(h:w.heap[r]? = some (.deferred (some []))):(Instr.takeDeferred r).run P w = .ok [] {w with heap:=w.heap.setIfInBounds r (.deferred none)}:=by
 simp[Instr.takeDeferred,getObj,setObj,Sem.run,h]
theorem Qcn{P:Program}{F:Fence}{n:Nat}{fn:Func}{tmps:Array Value}{R:Ending->World->Prop}{u:FrameMode}(hu:u ≠ .run){c:Cx}(hs:St c){base:Nat}:∀(Ds:List Nat) (w:World),
  Ds.Nodup->(∀D∈Ds,base<=D/\w.heap[D]? = some (.deferred (some []))) ->
  (∀w',w'.os=w.os->w'.tape=w.tape->w'.output=w.output->w'.heap.size=w.heap.size->(∀k,k∉Ds->w'.heap[k]? = w.heap[k]?)->LeavesInM F n P fn tmps R [] u w') ->
  LeavesInM F n P fn tmps R (Ds.map Qkz) u w
 |[],w,_,_,h=>h w rfl rfl rfl rfl fun _ _=>rfl
 |D::Ds,w,hn,hd,h=>by
  have hD:=(hd D (by simp)).2
  have hlt:=(QuP.1 hD).1
  simp only[QtU,LeavesInM]
  refine⟨hu,.inl ⟨D,_,rfl,QaE hD,?_⟩⟩
  have hnd:=Qwt.1 hn
  have hold:∀k,k≠D->({w with heap:=w.heap.setIfInBounds D (.deferred none)}:World).heap[k]? = w.heap[k]? := fun k hk=>by
   show(w.heap.setIfInBounds D _)[k]? = _
   rw[Qvp (fun e=>hk e.symm)]
  refine Qcn hu hs (base:=base) Ds _ hnd.2 (fun D' hD'=>⟨(hd D' (by simp[hD'])).1,?_⟩) fun w' h1 h2 h3 h4 h5=>h w' h1 h2 h3 (by simpa using h4) fun k hk=>?_
  ·have hne:D'≠D:=fun e=>hnd.1 (e▸hD')
   exact(hold D' hne).trans (hd D' (by simp[hD'])).2
  ·simp only[QuL,not_or]at hk
   exact(h5 k hk.2).trans (hold k hk.1)
theorem Ev.idle{c0 c:Cx}(hs:St c)(hev:Ev c0 c){w:World}(h1:w.os=c.w.os)(h2:w.tape=c.w.tape)(h3:w.output=c.w.output)(h4:w.heap.size=c.w.heap.size)
  (h5:∀k,w.heap[k]? = c.w.heap[k]? \/ (c0.w.heap.size<=k/\¬c.owns k/\∃o,c.w.heap[k]? = some (.deferred o))):Ev c0 (c.to w):=by
 refine⟨h1.trans hev.os,h2.trans hev.tape,h3.trans hev.output,by show _<=w.heap.size;rw[h4];exact hev.size,hev.len,fun B hB ho=>?_,fun id b hb=>?_,hev.fresh⟩
 ·rcases h5 B with h|⟨h,_⟩
  ·exact h.trans (hev.frame B hB ho)
  ·omega
 ·obtain⟨b',hb',hk⟩:=hev.kin id b hb
  refine⟨b',hb',?_⟩
  cases b with
  |cells ty s xs =>
   rcases hk with e0|⟨xs',e1,e2,e3⟩
   ·exact .inl e0
   refine .inr ⟨xs',e1,e2,fun B cur hρ hc=>?_⟩
   obtain⟨cur',h6,h7⟩:=e3 B cur hρ hc
   refine⟨cur',?_,h7⟩
   rcases h5 B with h|⟨_,_,o,h⟩
   ·exact h.trans h6
   ·rw[h6]at h;cases h
  |grow e s n =>
   rcases hk with⟨e1,e5⟩|⟨n',e1,e2,e3,e4,e5⟩
   ·refine .inl ⟨e1,fun B cur hρ hc=>?_⟩
    obtain⟨cur',fr,h6,h7⟩:=e5 B cur hρ hc
    refine⟨cur',fr,?_,h7⟩
    rcases h5 B with h|⟨_,_,o,h⟩
    ·exact h.trans h6
    ·rw[h6]at h;cases h
   refine .inr ⟨n',e1,e2,e3,e4,fun B cur hρ hc=>?_⟩
   obtain⟨cur',h6,h7⟩:=e5 B cur hρ hc
   refine⟨cur',?_,h7⟩
   rcases h5 B with h|⟨_,_,o,h⟩
   ·exact h.trans h6
   ·rw[h6]at h;cases h
  |map es=>exact hk
  |loop i=>exact hk
  |iter s p=>exact hk
  |glob g cs ty fr =>
   simp only[Kin]at hk ⊢
   refine⟨hk.1,hk.2.1,fun B hρ=>?_⟩
   rcases h5 B with h|⟨_,hno,_⟩
   ·exact h.trans (hk.2.2 B hρ)
   ·exact absurd ⟨id,b',hb',by rw[hk.1];rfl,hk.2.1.trans hρ⟩ hno
  |dead=>exact hk
  |gone=>exact hk
theorem Rel.idle{c:Cx}{w:World}(hsz:w.heap.size=c.w.heap.size)(h5:∀(k:Nat) cs t fr,c.w.heap[k]? = some (Obj.cells cs t fr)->w.heap[k]? = c.w.heap[k]?){a:AV}{x:Value}(h:Rel c a x):Rel (c.to w) a x:=by
 have hcell:∀{B o:Nat} {u:Value},c.cellP B o u->(c.to w).cellP B o u:=by
  intro B o u hc
  refine⟨?_,by show B<w.heap.size;rw[hsz];exact hc.2.1,hc.2.2⟩
  have h1:=hc.1
  cases hb:c.w.heap[B]? with
  |none=>simp[World.cell?,hb]at h1
  |some o' =>
   cases o' with
   |cells cs t fr=>exact(World.cell?_of_block (w:=c.w) (a:=⟨B,o,none⟩) (h5 B cs t fr hb)).trans h1
   |_=>simp[World.cell?,hb]at h1
 induction h with
 |v x=>exact .v x
 |junk x=>exact .junk x
 |agg l cs hl _ ih=>exact .agg l cs hl ih
 |tup l cs hl _ ih=>exact .tup l cs hl ih
 |slnil s own ht=>exact .slnil s own ht
 |slzero s own ba ht=>exact .slzero s own ba ht
 |sl s xs own B o cap f hs' hcap hmax hc _ ht ih =>
  refine .sl s xs own B o cap f hs' hcap hmax (fun j a hj=>⟨hcell (hc j a hj).1,(hc j a hj).2⟩) ih fun b hb=>⟨(ht b hb).1,fun e s' n hg=>?_⟩
  obtain⟨h1,h2,h3⟩:=(ht b hb).2 e s' n hg
  refine⟨h1,h2,fun he=>?_⟩
  obtain⟨h6,h7,h8,h9,cur,h10,h11⟩:=h3 he
  exact⟨h6,h7,h8,h9,cur,(h5 B _ _ _ h10).trans h10,h11⟩
 |pin s xs k off B o f hs' hc _ ih=>exact .pin s xs k off B o f hs' (fun j a hj=>⟨hcell (hc j a hj).1,(hc j a hj).2⟩) ih
 |ptr id k off x hid ho h1=>exact .ptr id k off x hid ho h1
 |arr id lo len x hid ho h1 =>
  refine .arr id lo len x hid ho fun ty s xs hb=>?_
  obtain⟨B,cap,h2,h3,h4,h6,cur,h7,h8⟩:=h1 ty s xs hb
  exact⟨B,cap,h2,h3,h4,h6,cur,(h5 B _ _ _ h7).trans h7,h8⟩
 |row id lo len cap x hid ho h1 =>
  refine .row id lo len cap x hid ho fun ty s xs hb=>?_
  obtain⟨B,cur,h2,h3,h4,h6,h7,h8⟩:=h1 ty s xs hb
  exact⟨B,cur,h2,h3,h4,h6,(h5 B _ _ _ h7).trans h7,h8⟩
 |mp id x hid ho h1=>exact .mp id x hid ho h1
 |fn f first cap vs ws e1 e2 _ _ ih1 ih2=>exact .fn f first cap vs ws e1 e2 ih1 ih2
 |ifc t a u _ ih=>exact .ifc t a u ih
 |spt s xs own p n k _ ih=>exact .spt s xs own p n k ih
theorem St.idle{c:Cx}(hs:St c){w:World}(hsz:w.heap.size=c.w.heap.size)(h5:∀(k:Nat) (o:Obj),c.w.heap[k]? = some o->(w.heap[k]? = some o\/∃d,o=Obj.deferred d)):St (c.to w):=by
 have hc:∀(k:Nat) cs t fr,c.w.heap[k]? = some (Obj.cells cs t fr)->w.heap[k]? = c.w.heap[k]? := fun k cs t fr h=>by
  rcases h5 k _ h with h'|⟨d,h'⟩
  ·rw[h,h']
  ·cases h'
 have hm:∀(k:Nat) es n,c.w.heap[k]? = some (Obj.map es n)->w.heap[k]? = c.w.heap[k]? := fun k es n h=>by
  rcases h5 k _ h with h'|⟨d,h'⟩
  ·rw[h,h']
  ·cases h'
 refine⟨fun id b hb=>?_,hs.inj⟩
 have h0:=hs.blocks id b hb
 cases b with
 |cells ty s xs =>
  obtain⟨B,cur,h1,h2,h3,h4⟩:=h0
  exact⟨B,cur,h1,(hc B _ _ _ h2).trans h2,h3,fun j a hj=>let ⟨u,h6,h7,h8⟩:=h4 j a hj;⟨u,h6,h7,h8.idle hsz hc⟩⟩
 |grow e s n=>exact fun B hB=>let ⟨cur,h1,h2⟩:=h0 B hB;⟨cur,(hc B _ _ _ h1).trans h1,h2⟩
 |map es =>
  obtain⟨B,ents,clock,h1,h2,h3,h4⟩:=h0
  exact⟨B,ents,clock,h1,(hm B _ _ h2).trans h2,h3,fun j kv e hj he=>⟨(h4 j kv e hj he).1,(h4 j kv e hj he).2.idle hsz hc⟩⟩
 |loop i =>
  obtain⟨B,r,h1,h2,h3,h4⟩:=h0
  have hl:w.heap[B]? = c.w.heap[B]? := by
   rcases h5 B _ h2 with h'|⟨d,h'⟩
   ·rw[h2,h']
   ·cases h'
  exact⟨B,r,h1,hl.trans h2,h3,fun t=>(h4 t).idle hsz hc⟩
 |iter s p =>
  obtain⟨B,h1,h2⟩:=h0
  refine⟨B,h1,?_⟩
  rcases h5 B _ h2 with h'|⟨d,h'⟩
  ·exact h'
  ·cases h'
 |glob g cs ty fr =>
  obtain⟨h1,h2⟩:=h0
  exact⟨h1,(hc g _ _ _ h2).trans h2⟩
 |dead=>trivial
 |gone=>trivial
theorem QbI{F:Fence}{n:Nat}{P:Program}{f:FuncId}{args:Array Value}{w:World}{R:Ending->World->Prop}(h:CallsIn F.plain n P f args w R):CallsIn F n P f args w R:=h
theorem Qhg{P:Program}{f:FuncId}{fn:Func}{code:Code}{args:List AV}{h:AH}{Q:AOut->AH->Prop}(hf:P.funcs[f]? = some fn)(hb:fn.body=some code)
  (hcall:∀vals w,(callFunc f vals).run P w = .ok (.enter f vals) w) {N:Nat} (hN:fn.ntmps=N) {rs:List ResultVar} (hrs:fn.results.toList=rs) (hn:args.length<=N) (H:Yr P N code (Qbm P rs h Q) ⟨XJ args,h⟩):QA P f args h Q:=by
 subst hN
 subst hrs
 refine⟨hcall,fun F n c vals hF hs hh hvals=>QbI ?_⟩
 subst hh
 refine callsIn_of_wp_marks hf hb (hF.plain.fn f) ?_
 have hsr:SR fn.ntmps (⟨c.w.heap.size,[]⟩,F.plain) c ⟨XJ args,c.h⟩ {tmps:=vals++Array.replicate (fn.ntmps - vals.size) undef,defers:=[]}:=by
  refine⟨rfl,by have:=hvals.1;simp;omega,QuD _,⟨[],rfl,Qwk,fun D h=>by cases h⟩,(fun l hl=>by cases hl),fun t=>?_⟩
  simp only[XJ]
  rw[QuO,Qwn,Qu8]
  have hsz:=hvals.1
  by_cases ht:t<vals.size
  ·rw[QuH ht]
   obtain⟨u,hu⟩:∃u,vals[t]? = some u:=⟨_,QuV ht⟩
   obtain⟨a,ha⟩:∃a,args[t]? = some a:=⟨_,QuC (by omega)⟩
   rw[hu,ha]
   exact hvals.2 t a u ha hu
  ·rw[QuE ht,Qvf (by omega),QvS]
   split
   ·exact .v _
   ·exact .v _
 refine H F.plain n ⟨c.w.heap.size,[]⟩ c _ hF.plain hs hsr _ ?_
 intro e s' c' a' e' hQ hev hst hr hex
 -- the end, whichever way
 have fin:∀(u:FrameMode),u ≠ .run->(∀(c2:Cx),Ev c c2->St c2->c2.h=c'.h->(∀a x,Rel c' a x->Rel c2 a x)->SR fn.ntmps (⟨0,[]⟩,F.plain) c2 s' {a' with defers:=[]} ->
   LeavesInM F.plain n P fn a'.tmps (fun e w'=>∃o c',Q o c'.h/\Ev c c'/\St c'/\c'.w=w'/\EndC c' o e) [] u c2.w) ->
   LeavesInM F.plain n P fn a'.tmps (fun e w'=>∃o c',Q o c'.h/\Ev c c'/\St c'/\c'.w=w'/\EndC c' o e) a'.defers u c'.w:=by
  intro u hu hfin
  obtain⟨Ds,e1,hnd,hall⟩:=hr.defers
  rw[e1,Qt8]
  refine Qcn hu hst (base:=c.w.heap.size) Ds c'.w hnd (fun D hD=>⟨(hall D hD).1,(hall D hD).2.1⟩) ?_
  intro w' h1 h2 h3 h4 h5
  have hidle:∀k,w'.heap[k]? = c'.w.heap[k]? \/ (c.w.heap.size<=k/\¬c'.owns k/\∃o,c'.w.heap[k]? = some (.deferred o)):=by
   intro k
   by_cases hk:k∈Ds
   ·exact .inr ⟨(hall k hk).1,(hall k hk).2.2,_,(hall k hk).2.1⟩
   ·exact .inl (h5 k hk)
  have hcells:∀(k:Nat) cs t fr,c'.w.heap[k]? = some (Obj.cells cs t fr)->w'.heap[k]? = c'.w.heap[k]? := fun k cs t fr hk=>by
   rcases hidle k with h|⟨_,_,o,h⟩
   ·exact h
   ·rw[hk]at h;cases h
  have hst2:St (c'.to w'):=hst.idle h4 fun k o hk=>by
   rcases hidle k with h|⟨_,_,d,h⟩
   ·exact .inl (h.trans hk)
   ·rw[hk]at h;cases h;exact .inr ⟨d,rfl⟩
  have hrel:∀a x,Rel c' a x->Rel (c'.to w') a x:=fun a x hax=>hax.idle h4 hcells
  exact hfin (c'.to w') (Ev.idle hst hev h1 h2 h3 h4 hidle) hst2 rfl hrel ⟨hr.h,hr.size,QuG _,⟨[],rfl,Qwk,fun D h=>by cases h⟩,(fun l hl=>by cases hl),fun t=>hrel _ _ (hr.tm t)⟩
 cases e with
 |normal =>
  cases hex
  obtain⟨r,hres,hl⟩:=hQ
  refine fin .returning (by simp) fun c2 hev2 hst2 hh2 hrel2 hsr2=>?_
  obtain⟨x,hrun,hx⟩:=QbW hst2 hsr2 hres
  rw[<-hr.h,<-hh2]at hl
  obtain⟨c3,r',h1,h2,h3,h4,h5⟩:=QaR hs hst2 hev2 hx hl
  exact⟨x,hrun,.ret r',c3,h1,h2,h3,h4,x,rfl,h5⟩
 |ret =>
  cases hex
  obtain⟨r,hres,hl⟩:=hQ
  refine fin .returning (by simp) fun c2 hev2 hst2 hh2 hrel2 hsr2=>?_
  obtain⟨x,hrun,hx⟩:=QbW hst2 hsr2 hres
  rw[<-hr.h,<-hh2]at hl
  obtain⟨c3,r',h1,h2,h3,h4,h5⟩:=QaR hs hst2 hev2 hx hl
  exact⟨x,hrun,.ret r',c3,h1,h2,h3,h4,x,rfl,h5⟩
 |panic av =>
  obtain⟨x,rfl,hx⟩:=hex
  refine fin (.panicking [{v:=x,recovered:=false}]) (by simp) fun c2 hev2 hst2 hh2 hrel2 hsr2=>?_
  have hl:Leaves c.h s'.h av fun r h'=>Q (.panic r) h':=hQ
  rw[<-hr.h,<-hh2]at hl
  obtain⟨c3,r',h1,h2,h3,h4,h5⟩:=QaR hs hst2 hev2 (hrel2 _ _ hx) hl
  exact⟨.panic r',c3,h1,h2,h3,h4,x,rfl,h5⟩
 |exit id=>exact hQ.elim
theorem Qa{P:Program}{f:FuncId}{fn:Func}{code:Code}{args:List AV}{h:AH}{Q:AOut->AH->Prop}(hf:P.funcs[f]? = some fn)(hb:fn.body=some code)(hcall:∀vals w,(callFunc f vals).run P w = .ok (.enter f vals) w){N:Nat}(hN:fn.ntmps=N){ra:Array ResultVar}(hrs:fn.results=ra)(hn:args.length<=N)(H:Yr P N code (Qbm P ra.toList h Q) ⟨XJ args,h⟩):QA P f args h Q:=Qhg hf hb hcall hN (Qvq Array.toList hrs) hn H
end Go.Proofs.YticgcpebdldbgaaGreatDoor.Ab
namespace Go.Proofs.YticgcpebdldbgaaGreatDoor.Ab
theorem hget(h l:AH)(k:Nat):(h++l)[h.length+k]? = l[k]? := by
 rw[QuB (by omega)];congr 1;omega
theorem X8(h l:AH):(h++l)[h.length]? = l[0]? := hget h l 0
theorem hset(h l:AH)(k:Nat)(b:AB):(h++l).set (h.length+k) b=h++l.set k b:=by
 rw[Qva _ _ (by omega)];congr 2;omega
theorem Yh(h l:AH)(b:AB):(h++l).set h.length b=h++l.set 0 b:=hset h l 0 b
theorem hext{h:AH}{i:Nat}{b:AB}(hb:h[i]? = some b)(l:AH):(h++l)[i]? = some b:=by
 rw[Qux (Qf hb)];exact hb
theorem hlen(h l:AH):(h++l).length=h.length+l.length:=Quw
theorem happ(h l m:AH):(h++l)++m=h++(l++m):=Quz h l m
theorem htake(h l:AH):(h++l).take h.length=h:=List.take_left
theorem QC(l:List AV):(AV.agg l).cells=l:=rfl
theorem Xs(x:Value):(AV.v x).cells=[.v x]:=rfl
theorem Xe(s:Nat)(xs:List AV)(o:Option Nat):(AV.sl s xs o).cells=[.sl s xs o]:=rfl
theorem Q1(s:Nat)(xs:List AV)(k o:Nat):(AV.pin s xs k o).cells=[.pin s xs k o]:=rfl
theorem Q2(i k o:Nat):(AV.ptr i k o).cells=[.ptr i k o]:=rfl
theorem QY(i k o:Nat):(AV.arr i k o).cells=[.arr i k o]:=rfl
theorem Xi(i:Nat):(AV.mp i).cells=[.mp i]:=rfl
theorem Xo(f:Fn)(a b:List AV):(AV.fn f a b).cells=[.fn f a b]:=rfl
theorem QZ(t:TypeId)(x:AV):(AV.ifc t x).cells=[.ifc t x]:=rfl
theorem QI(l:List AV):(AV.agg l).isAgg=true:=rfl
theorem Xz(x:Value):(AV.v x).isAgg=false:=rfl
theorem Xf(s:Nat)(xs:List AV)(o:Option Nat):(AV.sl s xs o).isAgg=false:=rfl
theorem Q5(s:Nat)(xs:List AV)(k o:Nat):(AV.pin s xs k o).isAgg=false:=rfl
theorem Q6(i k o:Nat):(AV.ptr i k o).isAgg=false:=rfl
theorem Q3(i k o:Nat):(AV.arr i k o).isAgg=false:=rfl
theorem Xj(i:Nat):(AV.mp i).isAgg=false:=rfl
theorem Xr(f:Fn)(a b:List AV):(AV.fn f a b).isAgg=false:=rfl
theorem Q4(t:TypeId)(x:AV):(AV.ifc t x).isAgg=false:=rfl
theorem QL(k:IntKind)(n:Int):(AV.v (.int k n)).cell1=true:=rfl
theorem QH(b:Bool):(AV.v (.bool b)).cell1=true:=rfl
theorem QM(b:ByteArray):(AV.v (.string b)).cell1=true:=rfl
theorem Qw(a:Option Addr)(m n:Nat):(AV.v (.slice a m n)).cell1=true:=rfl
theorem QV(a:Option Nat):(AV.v (.map a)).cell1=true:=rfl
theorem Qp(a:Option Addr):(AV.v (.pointer a)).cell1=true:=rfl
theorem Qo:(AV.v .nilFunc).cell1=true:=rfl
theorem Qk:(AV.v .nilIface).cell1=true:=rfl
theorem Xc(s:Nat)(xs:List AV)(o:Option Nat):(AV.sl s xs o).cell1=true:=rfl
theorem QW(s:Nat)(xs:List AV)(k o:Nat):(AV.pin s xs k o).cell1=true:=rfl
theorem QX(i k o:Nat):(AV.ptr i k o).cell1=true:=rfl
theorem QT(i k o:Nat):(AV.arr i k o).cell1=true:=rfl
theorem Xh(i:Nat):(AV.mp i).cell1=true:=rfl
theorem Xn(f:Fn)(a b:List AV):(AV.fn f a b).cell1=true:=rfl
theorem QU(t:TypeId)(x:AV):(AV.ifc t x).cell1=true:=rfl
theorem Xu(k:IntKind)(n:Int):AV.ofV (.int k n) = .v (.int k n):=rfl
theorem Xk(b:Bool):AV.ofV (.bool b) = .v (.bool b):=rfl
theorem XC(b:ByteArray):AV.ofV (.string b) = .v (.string b):=rfl
theorem QR(a:Option Addr)(m n:Nat):AV.ofV (.slice a m n) = .v (.slice a m n):=rfl
theorem XA(a:Option Nat):AV.ofV (.map a) = .v (.map a):=rfl
theorem Qz(a:Option Addr):AV.ofV (.pointer a) = .v (.pointer a):=rfl
theorem Qy:AV.ofV .nilFunc = .v .nilFunc:=rfl
theorem Qt:AV.ofV .nilIface = .v .nilIface:=rfl
theorem XE(cs:Array Value):AV.ofV (.agg cs) = .agg (cs.toList.map .v):=rfl
section
variable(P:Program)(t:TypeId)(xo yo:Operand)(k:IntKind)(a b:Int)
theorem ZG:pv P (do eqGuard .eql t xo yo (.int k a) (.int k b);binOp .eql t (.int k a) (.int k b))=some (.bool (a==b)):=by cases k <;> rfl
theorem YX:pv P (do eqGuard .neq t xo yo (.int k a) (.int k b);binOp .neq t (.int k a) (.int k b))=some (.bool (a != b)):=by cases k <;> rfl
theorem YC:pv P (do eqGuard .lss t xo yo (.int k a) (.int k b);binOp .lss t (.int k a) (.int k b))=some (.bool (a<b)):=by cases k <;> rfl
theorem QiT:pv P (do eqGuard .leq t xo yo (.int k a) (.int k b);binOp .leq t (.int k a) (.int k b))=some (.bool (a<=b)):=by cases k <;> rfl
theorem Zk:pv P (do eqGuard .gtr t xo yo (.int k a) (.int k b);binOp .gtr t (.int k a) (.int k b))=some (.bool (a>b)):=by cases k <;> rfl
theorem Qrr:pv P (do eqGuard .geq t xo yo (.int k a) (.int k b);binOp .geq t (.int k a) (.int k b))=some (.bool (a>=b)):=by cases k <;> rfl
theorem YK:pv P (do eqGuard .add t xo yo (.int k a) (.int k b);binOp .add t (.int k a) (.int k b))=some (.int k (k.wrap (a+b))):=by cases k <;> rfl
theorem QiU:pv P (do eqGuard .sub t xo yo (.int k a) (.int k b);binOp .sub t (.int k a) (.int k b))=some (.int k (k.wrap (a - b))):=by cases k <;> rfl
theorem Qru:pv P (do eqGuard .mul t xo yo (.int k a) (.int k b);binOp .mul t (.int k a) (.int k b))=some (.int k (k.wrap (a * b))):=by cases k <;> rfl
theorem Y9(x:Bool):pv P (Op.unary .not (.bool x))=some (.bool !x):=rfl
theorem Qrv:pv P (Op.unary .neg (.int k a))=some (.int k (k.wrap (0 - a))):=by cases k <;> rfl
theorem Qrs(ty:TypeId)(ts:Array TypeId):pv P (Builtin.max_ ts ty #[.int k a,.int k b])=some (.int k (if b>a then b else a)):=by cases k <;> rfl
theorem Qrt(ty:TypeId)(ts:Array TypeId):pv P (Builtin.min_ ts ty #[.int k a,.int k b])=some (.int k (if b<a then b else a)):=by cases k <;> rfl
end
theorem Qac{α β:Type}(P:Program):∀(x:Sem α) (f:α->Sem β),pv P (x >>= f)=(pv P x).bind fun a=>pv P (f a)
 | .pure a,f=>rfl
 | .program k,f=>Qac P (k P) f
 | .mark m k,f=>Qac P k f
 | .load _ _ _,f | .store _ _ _ _,f | .new _ _,f | .shape _ _,f | .freeze _ _ _,f | .frozen _ _,f | .getObj _ _,f | .setObj _ _ _,f | .choose _ _,f | .sys _ _,f | .halt _,f=>rfl
theorem QhF(P:Program)(t:TypeId)(ht:P.underlying t=some .bool)(a b:Bool):pv P (Op.equal t (.bool a) (.bool b))=some (a==b):=by
 have h:∀n,pv P (Op.equalIn (n+1) t (.bool a) (.bool b))=some (a==b):=by
  intro n
  simp only[Op.equalIn,underlying]
  rw[Qac,Qac]
  simp only[program,pv,QtK,ht]
  rfl
 exact h 9999
theorem Qqt(P:Program)(t:TypeId)(xo yo:Operand)(ht:P.underlying t=some .bool)(a b:Bool):pv P (do eqGuard .eql t xo yo (.bool a) (.bool b);binOp .eql t (.bool a) (.bool b))=some (.bool (a==b)):=by
 have h1:pv P (binOp .eql t (.bool a) (.bool b))=some (.bool (a==b)):=by
  show pv P (do let r<-Op.equal t (.bool a) (.bool b);pure (Value.bool r))=_
  rw[Qac,QhF P t ht];rfl
 rw[Qac]
 show(some ()).bind _=_
 exact h1
theorem Yx(P:Program)(t:TypeId)(xo yo:Operand)(a b:ByteArray):pv P (do eqGuard .eql t xo yo (.string a) (.string b);binOp .eql t (.string a) (.string b))=some (.bool (a.toList==b.toList)):=rfl
theorem YF(P:Program)(t:TypeId)(xo yo:Operand)(a b:ByteArray):pv P (do eqGuard .neq t xo yo (.string a) (.string b);binOp .neq t (.string a) (.string b))=some (.bool !(a.toList==b.toList)):=rfl
theorem YE(P:Program)(t:TypeId)(xo yo:Operand)(a b:ByteArray):pv P (do eqGuard .lss t xo yo (.string a) (.string b);binOp .lss t (.string a) (.string b))=some (.bool (Op.bytesLess a.toList b.toList)):=rfl
theorem YN(P:Program)(t:TypeId)(xo yo:Operand)(a b:ByteArray):pv P (do eqGuard .gtr t xo yo (.string a) (.string b);binOp .gtr t (.string a) (.string b))=some (.bool !(Op.bytesLess a.toList b.toList||a.toList==b.toList)):=rfl
theorem Y5(P:Program)(t ty:TypeId)(ht:P.underlying t=some .string)(s:ByteArray):pv P (Builtin.len_ #[t] ty #[.string s])=some (goInt s.size):=by
 simp only[Builtin.len_,QtI,QtF,underlying,program,Bind.bind,Sem.bind,pv,ht]
 rfl
theorem Qdn(P:Program)(t ty e:TypeId)(ht:P.underlying t=some (.slice e)):pv P (Builtin.len_ #[t] ty #[.slice none 0 0])=some (goInt 0):=by
 simp only[Builtin.len_,QtI,QtF,underlying,program,Bind.bind,Sem.bind,pv,ht]
 rfl
theorem Ql(K:AS->Prop)(Q:AExit->AS->Prop)(s:AS):AExit.then K Q .normal s=K s:=rfl
theorem QbZ(K:AS->Prop)(Q:AExit->AS->Prop)(s:AS):AExit.then K Q .ret s=Q .ret s:=rfl
theorem Qr(i:Nat)(Q:AExit->AS->Prop)(s:AS):AExit.inBlock i Q .normal s=Q .normal s:=rfl
theorem Qba(i:Nat)(Q:AExit->AS->Prop)(s:AS):AExit.inBlock i Q .ret s=Q .ret s:=rfl
theorem Qgr(i j:Nat)(Q:AExit->AS->Prop)(s:AS):AExit.inBlock i Q (.exit j) s=if j=i then Q .normal s else Q (.exit j) s:=rfl
end Go.Proofs.YticgcpebdldbgaaGreatDoor.Ab
namespace Go.Proofs.YticgcpebdldbgaaGreatDoor.Ab
theorem QO(N:Nat)(tm:Nat->AV)(h:AH)(d:Nat)(x:AV)(hd:d<N):AS.put N ⟨tm,h⟩ (some d) x=⟨upd tm d x,h⟩:=QuH hd
theorem QQ(P:Program)(N:Nat)(ops:Array Oper)(K:AS->Prop)(E:AV->AS->Prop)(tm:Nat->AV)(h:AH):OpsW P N ops [] K E ⟨tm,h⟩=K ⟨tm,h⟩:=rfl
theorem QB(P:Program)(N:Nat)(ops:Array Oper)(o:Oper)(l:List Oper)(K:AS->Prop)(E:AV->AS->Prop)(tm:Nat->AV)(h:AH):OpsW P N ops (o::l) K E ⟨tm,h⟩=(match QN ops tm o with|some true=>OpW P N o ⟨tm,h⟩ (OpsW P N ops l K E) E|some false=>OpsW P N ops l K E (AS.put N ⟨tm,h⟩ o.dst (.v undef))|none=>False):=rfl
theorem Q9(N:Nat)(tm:Nat->AV)(h:AH)(x:AV):AS.put N ⟨tm,h⟩ none x=⟨tm,h⟩:=rfl
theorem XL(f:Nat->AV)(d t:Nat)(x:AV):upd f d x t=if t=d then x else f t:=rfl
theorem X3(tm:Nat->AV)(h:AH)(t:Nat):AS.ev ⟨tm,h⟩ (.tmp t)=tm t:=rfl
theorem Xq(tm:Nat->AV)(h:AH)(v:Value):AS.ev ⟨tm,h⟩ (.const v)=AV.ofV v:=rfl
theorem XD(tm:Nat->AV)(h:AH)(f:FuncId):AS.ev ⟨tm,h⟩ (.func f) = .fn (.func f) [] []:=rfl
end Go.Proofs.YticgcpebdldbgaaGreatDoor.Ab
namespace Go.Proofs.YticgcpebdldbgaaGreatDoor.Ab
theorem Qj{P:Program}{N:Nat}{Q:AExit->AS->Prop}{s:AS}{id:Nat}{ops:Array Oper}
  (H:∀(K:AS->Prop) (E:AV->AS->Prop),(∀s,Q .normal s->K s)->(∀r s,Q (.panic r) s->E r s)->OpsW P N ops ops.toList K E s):Yr P N (.region id ops false) Q s :=
 Qao (H _ _ (fun _ h=>h) (fun _ _ h=>h))
theorem Qd{P:Program}{N:Nat}{Q:AExit->AS->Prop}{s:AS}{id:Nat}{ops:Array Oper}{y:Code}
  (H:∀(K:AS->Prop) (E:AV->AS->Prop),(∀s,Yr P N y Q s->K s)->(∀r s,Q (.panic r) s->E r s)->OpsW P N ops ops.toList K E s):Yr P N (.seq (.region id ops false) y) Q s :=
 Qav (Qao (H _ _ (fun _ h=>h) (fun _ _ h=>h)))
theorem Qg{K:AS->Prop}{Q:AExit->AS->Prop}{s:AS}(h:K s):AExit.then K Q .normal s:=h
theorem Xm{K:AS->Prop}{Q:AExit->AS->Prop}{s:AS}(h:Q .ret s):AExit.then K Q .ret s:=h
theorem QK{K:AS->Prop}{Q:AExit->AS->Prop}{s:AS}{i:Nat}(h:Q (.exit i) s):AExit.then K Q (.exit i) s:=h
theorem QhY{K:AS->Prop}{Q:AExit->AS->Prop}{s:AS}{x:AV}(h:Q (.panic x) s):AExit.then K Q (.panic x) s:=h
theorem Qn{i:Nat}{Q:AExit->AS->Prop}{s:AS}(h:Q .normal s):AExit.inBlock i Q .normal s:=h
theorem Q8{i:Nat}{Q:AExit->AS->Prop}{s:AS}(h:Q .ret s):AExit.inBlock i Q .ret s:=h
theorem QJ{i:Nat}{Q:AExit->AS->Prop}{s:AS}(h:Q .normal s):AExit.inBlock i Q (.exit i) s:=by
 rw[Qgr,QuH rfl];exact h
theorem QP{i j:Nat}{Q:AExit->AS->Prop}{s:AS}(hj:(j==i)=false)(h:Q (.exit j) s):AExit.inBlock i Q (.exit j) s:=by
 rw[Qgr,QuE (by simpa using hj)];exact h
end Go.Proofs.YticgcpebdldbgaaGreatDoor.Ab
set_option linter.unusedSectionVars false
namespace Go.Proofs.YticgcpebdldbgaaGreatDoor.Ab
def Keep (h h' : AH) : Prop := ∀ (id : Nat) (b : AB), h[id]? = some b -> (∀ e s n, b ≠ .grow e s n) -> h'[id]? = some b
theorem Keep.refl (h : AH) : Keep h h := fun _ _ h _ => h
theorem Keep.trans {a b c : AH} (h : Keep a b) (k : Keep b c) : Keep a c := fun id x hx hn => k id x (h id x hx hn) hn
theorem Keep.nil (h : AH) : Keep [] h := fun id b hb => by simp at hb
theorem Keep.app (h l : AH) : Keep h (h ++ l) := fun id b hb _ => hext hb l
theorem Keep.Qty {h : AH} {i : Nat} {e s n : Nat} (hi : h[i]? = some (.grow e s n)) (b : AB) : Keep h (h.set i b) := fun id x hx hn => by
  have hne : i ≠ id := fun e' => by subst e'; rw [hi] at hx; cases hx; exact hn _ _ _ rfl
  rw [Quy hne]; exact hx
def Qcp : Op -> Bool
  | .move _ | .assign _ | .pick .. | .build .. | .load .. | .binOp .. | .unOp .. | .convert .. | .makeFunc .. | .makeInterface .. | .fieldAddr .. | .field .. | .indexAddr .. | .index .. | .lookup .. | .extract .. | .nilCheck _ | .typeAssert .. => true
  | .buildSlice _ n _ => n != 0
  | .slice _ _ _ _ m => m.isNone
  | .call c => match c.callee with
    | .builtin .len | .builtin .min | .builtin .max | .builtin .unsafeSliceData => true
    | _ => false
  | _ => false
def Qc9 : Op -> Bool
  | .alloc _ | .box .. | .buildSlice .. | .makeMap .. | .makeSlice .. => true
  | .slice _ _ _ _ m => m.isSome
  | .call c => match c.callee with
    | .builtin .append => true
    | _ => false
  | _ => false
theorem ZZ {α : Type} {x : Option α} {h h1 : AH} {r : α} (e : x.map (·, h) = some (r, h1)) : x = some r /\ h1 = h := by
  cases x <;> simp at e
  exact ⟨by rw [e.1], e.2.symm⟩
theorem ZL {h h' : AH} (k : Keep h h') {id : Nat} {t s : Nat} {xs : List AV} (e : h[id]? = some (.cells t s xs)) : h'[id]? = some (.cells t s xs) := k id _ e (fun _ _ _ h => by cases h)
theorem get_map {h h' : AH} (k : Keep h h') {id : Nat} {es : List (Value × AV)} (e : h[id]? = some (.map es)) : h'[id]? = some (.map es) := k id _ e (fun _ _ _ h => by cases h)
section
variable {P : Program} {h h' : AH} (k : Keep h h')
include k
theorem Qk2 {t : TypeId} {x r : AV} (e : Zl P t x h = some r) : Zl P t x h' = some r := by
  unfold Zl at e ⊢
  cases x <;> simp only at e ⊢ <;> try exact e
  split at e
  · rename_i hb; rw [ZL k hb]; exact e
  · cases e
theorem QeT {t : TypeId} {x r : AV} {i : Nat} (e : Xg P t x i h = some r) : Xg P t x i h' = some r := by
  unfold Xg at e ⊢
  cases hf : fieldInfo P t i with
  | none => simp [hf] at e
  | some p =>
    simp only [hf] at e ⊢
    cases x <;> simp only at e ⊢ <;> try exact e
    split at e
    · rename_i hb; rw [ZL k hb]; exact e
    · cases e
theorem QeU {t : TypeId} {x i r : AV} (e : Xa P t x i h = some r) : Xa P t x i h' = some r := by
  unfold Xa at e ⊢
  cases hf : XW P t with
  | none => simp [hf] at e
  | some p =>
    simp only [hf] at e ⊢
    split at e
    · cases x <;> simp only at e ⊢ <;> try exact e
      split at e
      · rename_i hb; rw [ZL k hb]; exact e
      · cases e
    · cases e
theorem Qmf {t ty : TypeId} {x r : AV} (e : aLen P t ty x h = some r) : aLen P t ty x h' = some r := by
  unfold aLen at e ⊢
  cases x <;> simp only at e ⊢ <;> try exact e
  · split at e
    · rename_i hu hb; rw [hu, ZL k hb]; exact e
    · cases e
  · split at e
    · rename_i hu hb; rw [hu, ZL k hb]; exact e
    · cases e
  · split at e
    · rename_i hu hb; rw [hu, get_map k hb]; exact e
    · cases e
theorem QlY {n : Nat} {x : AV} {ys : List AV} (e : Y6 n h x = some ys) : Y6 n h' x = some ys := by
  unfold Y6 at e ⊢
  split at e <;> try exact e
  · split at e
    · rename_i hb; rw [ZL k hb]; exact e
    · cases e
  · split at e
    · rename_i hb; rw [ZL k hb]; exact e
    · cases e
theorem Qji {s d : TypeId} {x r : AV} (e : Qgn P s d x h = some r) : Qgn P s d x h' = some r := by
  unfold Qgn at e ⊢
  split at e
  · rename_i hb hs
    rw [hb, QlY k hs]
    exact e
  · cases e
theorem Qjk {t : TypeId} {x r : AV} {lo hi : Option AV} (e : YS P t x lo hi h = some r) : YS P t x lo hi h' = some r := by
  unfold YS at e ⊢
  cases hf : XW P t with
  | none => simp only [hf] at e ⊢; exact e
  | some p =>
    simp only [hf] at e ⊢
    split at e <;> try exact e
    · split at e
      · rename_i hb; rw [ZL k hb]; exact e
      · cases e
    · split at e
      · rename_i hb; rw [ZL k hb]; exact e
      · cases e
theorem QfB {t : TypeId} {x : AV} {b : Value} (e : notNil P t h x b = true) : notNil P t h' x b = true := by
  unfold notNil at e ⊢
  split at e <;> first
    | exact e
    | (split at e
       · rename_i hu hb
         first
           | rw [hu, ZL k hb]
           | rw [hu, get_map k hb]
       · cases e)
    | cases e
theorem Qjj {op : BinOp} {t : TypeId} {x y r : AV} (e : Qgo P op t x y h = some r) : Qgo P op t x y h' = some r := by
  unfold Qgo at e ⊢
  split at e
  · split at e
    · rename_i hu hb
      rw [hu, ZL k hb]
      exact e
    · cases e
  · cases e
theorem Qh6 {s d : TypeId} {id kk off : Nat} {r : AV} (e : QdH P s d id kk off h = some r) : QdH P s d id kk off h' = some r := by
  unfold QdH at e ⊢
  split at e
  · rename_i hb
    rw [ZL k hb]
    exact e
  · cases e
theorem Qg9 {x : AV} (e : QS h x = true) : QS h' x = true := by
  cases x <;> simp only [QS] at e ⊢ <;> try exact e
  split at e
  · rename_i hb; rw [ZL k hb]
  · cases e
theorem Qme {op : BinOp} {t : TypeId} {xo yo : Operand} {x y r : AV} (e : aBin P op t xo yo x y h = some r) : aBin P op t xo yo x y h' = some r := by
  unfold aBin at e ⊢
  split at e
  · exact e
  · rename_i b hnv
    split at e
    · split at e
      · rename_i hn; rw [QfB k hn]; simpa using e
      · cases e
    · split at e
      · rename_i hn; rw [QfB k hn]; simpa using e
      · cases e
    · cases e
  · exact Qjj k e
  · exact e
  · cases e
theorem Qh4 {t : TypeId} {x y r : AV} {ok : Bool} (e : Qa9 P t x y ok h = some r) : Qa9 P t x y ok h' = some r := by
  unfold Qa9 at e ⊢
  cases hf : QbP P t with
  | none => simp [hf] at e
  | some p =>
    simp only [hf] at e ⊢
    cases y with
    | v kv =>
      simp only at e ⊢
      cases x with
      | mp id =>
        simp only at e ⊢
        cases hb : h[id]? with
        | none => simp [hb] at e
        | some b =>
          cases b with
          | map es => rw [get_map k hb]; rw [hb] at e; exact e
          | _ => simp [hb] at e
      | v x => cases x with
        | map r => cases r <;> exact e
        | _ => exact e
      | _ => exact e
    | _ => exact e
theorem QeC {t : TypeId} {n : Nat} (hn : (n != 0) = true) {parts : List (Nat × AV)} {r : AV} {h1 : AH} (e : QF P t n parts h = some (r, h1)) : h1 = h /\ QF P t n parts h' = some (r, h') := by
  unfold QF at e ⊢
  have hn' : n ≠ 0 := by simpa using hn
  cases hf : XW P t with
  | none => simp [hf] at e
  | some p =>
    simp only [hf, QuE hn'] at e ⊢
    split at e
    · rename_i hc; rw [QuH hc]; cases e; exact ⟨rfl, rfl⟩
    · cases e
theorem Qhb {ev : Operand -> AV} {ty : TypeId} {op : Op} (hl : Qcp op = true) {r : AV} {h1 : AH} (e : aop P ev ty h op = some (r, h1)) : h1 = h /\ aop P ev ty h' op = some (r, h') := by
  cases op with
  | move x => simp only [aop] at e ⊢; cases e; exact ⟨rfl, rfl⟩
  | assign x => simp only [aop] at e ⊢; cases e; exact ⟨rfl, rfl⟩
  | pick c a b =>
    simp only [aop] at e ⊢
    split at e
    · cases e; exact ⟨rfl, rfl⟩
    · cases e
  | build t parts => simp only [aop] at e ⊢; obtain ⟨e1, e2⟩ := ZZ e; rw [e1]; exact ⟨e2, rfl⟩
  | buildSlice t n parts => simp only [aop] at e ⊢; exact QeC k hl e
  | load t a => simp only [aop] at e ⊢; obtain ⟨e1, e2⟩ := ZZ e; rw [Qk2 k e1]; exact ⟨e2, rfl⟩
  | binOp b t x y t2 => simp only [aop] at e ⊢; obtain ⟨e1, e2⟩ := ZZ e; rw [Qme k e1]; exact ⟨e2, rfl⟩
  | unOp b t x =>
    simp only [aop] at e ⊢
    split at e
    · obtain ⟨z, e1, e2⟩ := QuJ.1 e; cases e2; rw [e1]; exact ⟨rfl, rfl⟩
    · cases e
  | convert s d x =>
    simp only [aop] at e ⊢
    split at e
    · obtain ⟨z, e1, e2⟩ := QuJ.1 e; cases e2; rw [e1]; exact ⟨rfl, rfl⟩
    · obtain ⟨e1, e2⟩ := ZZ e; rw [Qh6 k e1]; exact ⟨e2, rfl⟩
    · obtain ⟨e1, e2⟩ := ZZ e; rw [Qji k e1]; exact ⟨e2, rfl⟩
  | nilCheck x =>
    simp only [aop] at e ⊢
    split at e
    · rename_i hn; rw [Qg9 k hn]; cases e; exact ⟨rfl, rfl⟩
    · cases e
  | typeAssert x xt t ok => simp only [aop] at e ⊢; obtain ⟨e1, e2⟩ := ZZ e; rw [e1]; exact ⟨e2, rfl⟩
  | makeFunc f a b => simp only [aop] at e ⊢; cases e; exact ⟨rfl, rfl⟩
  | makeInterface t x =>
    simp only [aop] at e ⊢
    split at e
    · cases e
    · cases e; exact ⟨rfl, rfl⟩
    · cases e
  | slice t x lo hi mx =>
    simp only [aop] at e ⊢
    cases mx with
    | none => simp only at e ⊢; obtain ⟨e1, e2⟩ := ZZ e; rw [Qjk k e1]; exact ⟨e2, rfl⟩
    | some m => simp [Qcp] at hl
  | fieldAddr t x i => simp only [aop] at e ⊢; obtain ⟨e1, e2⟩ := ZZ e; rw [QeT k e1]; exact ⟨e2, rfl⟩
  | field t x i => simp only [aop] at e ⊢; obtain ⟨e1, e2⟩ := ZZ e; rw [e1]; exact ⟨e2, rfl⟩
  | indexAddr t x i => simp only [aop] at e ⊢; obtain ⟨e1, e2⟩ := ZZ e; rw [QeU k e1]; exact ⟨e2, rfl⟩
  | index t x i =>
    simp only [aop] at e ⊢
    split at e
    · obtain ⟨z, e1, e2⟩ := QuJ.1 e; cases e2; rw [e1]; exact ⟨rfl, rfl⟩
    · cases e
  | lookup t x y ok => simp only [aop] at e ⊢; obtain ⟨e1, e2⟩ := ZZ e; rw [Qh4 k e1]; exact ⟨e2, rfl⟩
  | extract t i => simp only [aop] at e ⊢; obtain ⟨e1, e2⟩ := ZZ e; rw [e1]; exact ⟨e2, rfl⟩
  | call c =>
    obtain ⟨cal, args, tys⟩ := c
    cases cal with
    | builtin b =>
      cases b with
      | len =>
        simp only [aop] at e ⊢
        split at e
        · obtain ⟨e1, e2⟩ := ZZ e; rw [Qmf k e1]; exact ⟨e2, rfl⟩
        · cases e
      | min =>
        simp only [aop] at e ⊢
        split at e
        · obtain ⟨z, e1, e2⟩ := QuJ.1 e; cases e2; rw [e1]; exact ⟨rfl, rfl⟩
        · cases e
      | max =>
        simp only [aop] at e ⊢
        split at e
        · obtain ⟨z, e1, e2⟩ := QuJ.1 e; cases e2; rw [e1]; exact ⟨rfl, rfl⟩
        · cases e
      | unsafeSliceData =>
        simp only [aop] at e ⊢
        split at e
        · obtain ⟨e1, e2⟩ := ZZ e; rw [e1]; exact ⟨e2, rfl⟩
        · cases e
      | _ => simp [Qcp] at hl
    | _ => simp [Qcp] at hl
  | _ => simp [Qcp] at hl
end
theorem Qog {P : Program} {h : AH} {ev : Operand -> AV} {ty : TypeId} {op : Op} (hl : Qc9 op = true) {r : AV} {h1 : AH} (e : aop P ev ty h op = some (r, h1)) : Keep h h1 := by
  cases op with
  | alloc t =>
    simp only [aop] at e
    split at e
    · split at e
      · cases e; exact Keep.app _ _
      · cases e
    · cases e
  | box t x =>
    simp only [aop] at e
    split at e
    · cases e; exact Keep.app _ _
    · cases e
  | buildSlice t n parts =>
    simp only [aop, QF] at e
    split at e
    · split at e
      · split at e
        · cases e; exact Keep.app _ _
        · cases e; exact Keep.refl _
      · cases e
    · cases e
  | slice t x lo hi mx =>
    cases mx with
    | none => simp [Qc9] at hl
    | some m =>
      simp only [aop, Qha] at e
      split at e
      · split at e
        · cases e; exact Keep.app _ _
        · cases e
      · cases e
  | makeSlice t l n =>
    simp only [aop] at e
    split at e
    · rename_i x hm
      cases e
      unfold Qof at hm
      repeat' split at hm
      all_goals first
        | (cases hm; exact Keep.app _ _)
        | cases hm
    · unfold Qj8 at e
      repeat' split at e
      all_goals first
        | (cases e; exact Keep.app _ _)
        | cases e
  | makeMap t r =>
    simp only [aop] at e
    split at e
    · cases e; exact Keep.app _ _
    · split at e
      · cases e; exact Keep.app _ _
      · cases e
    · cases e
  | call c =>
    obtain ⟨cal, args, tys⟩ := c
    cases cal with
    | builtin b =>
      cases b with
      | append =>
        simp only [aop] at e
        split at e
        · unfold Yo at e
          split at e
          · split at e
            · split at e
              · split at e
                · cases e; exact Keep.app _ _
                · cases e
              · split at e
                · rename_i hb
                  split at e
                  · cases e; exact Keep.Qty hb _
                  · cases e
                · split at e
                  · split at e
                    · cases e; exact Keep.refl _
                    · cases e; exact Keep.app _ _
                  · cases e
                · cases e
              · cases e
            · cases e
          · cases e
        · cases e
      | _ => simp [Qc9] at hl
    | _ => simp [Qc9] at hl
  | _ => simp [Qc9] at hl
def Qh2 : Op -> Bool
  | .store .. | .mapUpdate .. | .insert .. => true
  | .call c => match c.callee with
    | .builtin .copy | .builtin .unsafeString => true
    | _ => false
  | _ => false
theorem Qmj {P : Program} {h : AH} {ev ev' : Operand -> AV} {ty : TypeId} {op : Op} (he : ∀ x ∈ op.operands, ev x = ev' x) (hl : (Qcp op || Qc9 op || Qh2 op) = true) : aop P ev ty h op = aop P ev' ty h op := by
  have hp : ∀ {α : Type} (parts : Array (α × Operand)), (∀ x ∈ parts.map (·.2), ev x = ev' x) -> (parts.toList.map fun p => (p.1, ev p.2)) = (parts.toList.map fun p => (p.1, ev' p.2)) := fun parts hh => by
    refine QvP fun p hp => ?_
    rw [hh p.2 (QwD.2 ⟨p, QvT.2 hp, rfl⟩)]
  have ha : ∀ (l : Array Operand), (∀ x ∈ l, ev x = ev' x) -> l.toList.map ev = l.toList.map ev' := fun l hh => QvP fun p hp => hh p (QvT.2 hp)
  have ho : ∀ (l : Option Operand), (∀ x, l = some x -> ev x = ev' x) -> l.map ev = l.map ev' := fun l hh => by
    cases l with
    | none => rfl
    | some x => simp [hh x rfl]
  cases op with
  | build t parts => simp only [aop]; rw [hp parts (fun x hx => he x (by simpa [Op.operands] using hx))]
  | buildSlice t n parts => simp only [aop]; rw [hp parts (fun x hx => he x (by simpa [Op.operands] using hx))]
  | makeFunc f a b =>
    simp only [aop]
    rw [ha a (fun x hx => he x (by simp [Op.operands, hx])), ha b (fun x hx => he x (by simp [Op.operands, hx]))]
  | makeMap t r => simp only [aop]; rw [ho r (fun x hx => he x (by simp [Op.operands, hx]))]
  | slice t x l hh m =>
    simp only [aop]
    rw [ho l (fun x hx => he x (by simp [Op.operands, hx])), ho hh (fun x hx => he x (by simp [Op.operands, hx])), he x (by simp [Op.operands])]
    cases m with
    | none => rfl
    | some m => simp only; rw [he m (by simp [Op.operands])]
  | call c =>
    obtain ⟨cal, args, tys⟩ := c
    cases cal with
    | builtin b =>
      have hargs := ha args (fun x hx => he x (by simp [Op.operands, Call.operands, hx]))
      have hone : ∀ x, args.toList = [x] -> ev x = ev' x := fun x hx => he x (by simp [Op.operands, Call.operands, QvT, hx])
      have htwo : ∀ x y, args.toList = [x, y] -> ev x = ev' x /\ ev y = ev' y := fun x y hx => ⟨he x (by simp [Op.operands, Call.operands, QvT, hx]), he y (by simp [Op.operands, Call.operands, QvT, hx])⟩
      cases b with
      | len =>
        simp only [aop]
        split
        · rename_i h1 h2; rw [hone _ h1]
        · rfl
      | append =>
        simp only [aop]
        split
        · rename_i h1 h2; rw [(htwo _ _ h1).1, (htwo _ _ h1).2]
        · rfl
      | min => simp only [aop]; rw [hargs]
      | max => simp only [aop]; rw [hargs]
      | cap =>
        simp only [aop]
        split
        · rename_i h1 h2; rw [hone _ h1]
        · rfl
      | copy =>
        simp only [aop]
        split
        · rename_i h1 h2; rw [(htwo _ _ h1).1, (htwo _ _ h1).2]
        · rfl
      | unsafeString =>
        simp only [aop]
        split
        · rename_i h1 h2; rw [(htwo _ _ h1).1, (htwo _ _ h1).2]
        · rfl
      | unsafeSliceData =>
        simp only [aop]
        split
        · rename_i h1; rw [hone _ h1]
        · rfl
      | clear =>
        simp only [aop]
        split
        · rename_i h1 h2; rw [hone _ h1]
        · rfl
      | _ => rfl
    | _ => simp [Qcp, Qc9, Qh2] at hl
  | _ =>
    first
      | (simp [Qcp, Qc9, Qh2] at hl; done)
      | (simp [Op.operands] at he; simp only [aop, he]; done)
      | (simp only [aop]; done)
end Go.Proofs.YticgcpebdldbgaaGreatDoor.Ab
namespace Go.Proofs.YticgcpebdldbgaaGreatDoor.Ab
theorem Qf5{P:Program}{c:Cx}(hst:St c){t e:TypeId}{n len:Nat}{parts:List (Nat×AV)}{vals:Array (Nat×Value)}{r:AV}{h':AH}(he:XW P t=some (e,n))(ha:QF P t len parts c.h=some (r,h'))
  (hi:parts.map (·.1)=vals.toList.map (·.1)) (hv:RelL c (parts.map (·.2)) (vals.toList.map (·.2)).toArray) :
  ∃y c',(Instr.buildSlice t len vals).run P c.w = .ok y c'.w/\Ev c c'/\St c'/\c'.h=c.h++[.grow e n (parts.map (·.2)).length]/\Rel c' (.sl n (parts.map (·.2)) (some c.h.length)) y:=by
 unfold QF at ha
 ·obtain⟨hu,hsz⟩:=YQ he
  simp only[he]at ha
  split at ha
  ·rename_i hh
   obtain⟨h1,h2,h3,h4,h5⟩:=hh
   cases hz:Yl P e with
   |none=>simp[hz]at h5
   |some z =>
    obtain⟨v,hrun,rfl⟩:=Qat hz
    simp only[hz,Option.any_some,QuR,Qvx]at h5
    obtain⟨hrl0,hone0⟩:=QaA (QaY c v) h5.1
    have hvn:v.cells.size=n:=by rw[hrl0.1];exact h5.2
    have hlen:parts.length=len:=by have:=Qvq List.length h1;simpa using this
    have hall:∀x∈parts.map (·.2),x.QsU=true/\x.cells.length=n:=by
     intro x hx
     simp only[QuZ]at hx
     obtain⟨p,hp,rfl⟩:=hx
     simp only[Qvg,QuR,Qvx]at h2
     exact h2 p hp
    -- the zero cells
    let zs:Array Value:=(Array.range (len * n)).map (v.cells[· % v.cells.size]!)
    have hzs:zs.size=len * n:=by simp[zs]
    have hzone:∀x∈zs.toList,x.oneCell'=true:=by
     intro x hx
     simp only[zs,Qve,QwD]at hx
     obtain⟨i,_,rfl⟩:=hx
     have hlt:i % v.cells.size<v.cells.size:=Nat.mod_lt _ (by omega)
     rw[getElem!_pos v.cells _ hlt]
     exact hone0 _ (by rw[Qve];exact Qwd hlt)
    have hjunk:RelL c (List.replicate (len * n) AV.junk) zs:=by
     refine⟨by simp[hzs],fun j a u ha hu=>?_⟩
     rw[Qv4]at ha
     split at ha
     ·cases ha;exact .junk u
     ·cases ha
    have hfill:ZI (fun i=>some (i * n,n)) (List.replicate (len * n) AV.junk) parts=some (flat (parts.map (·.2))):=by
     have:=Qc8 (n:=n) (parts.map (·.2)) 0 (List.replicate (len * n) AV.junk) hall (by simp[hlen])
     have e:(List.range' 0 (parts.map (·.2)).length).zip (parts.map (·.2))=parts:=by
      rw[Qu6,hlen,<-QvW,<-h1]
      exact Qbl parts
     rw[e]at this
     rw[this]
     simp[hlen]
    obtain⟨cs',hf,hrl,_,hone⟩:=Qa8 hi hv hfill hjunk hzone
    have hfl:(flat (parts.map (·.2))).length=len * n:=by
     rw[flat_length (fun x hx=>(hall x hx).2)];simp[hlen]
    have hrun':(Instr.buildSlice t len vals).run P c.w = .ok (.slice (some ⟨c.w.heap.size,0,none⟩) len len) (c.w.alloc (.cells cs' e)):=by
     have h3':¬len * n>2 ^ 24:=by omega
     simp only[Instr.buildSlice,Sem.run_bind,underlying,run_program,Result.andThen_ok,hu,Sem.run_pure,hsz,h3',Qvy]
     by_cases h0:len * n=0
     ·have hz0:zs=(Array.range (len * n)).map ((#[]:Array Value)[· % (#[]:Array Value).size]!):=by
       apply Array.ext
       ·simp[hzs]
       ·intro i h1 h2;simp[hzs,h0]at h1
      rw[QuH h0]
      simp only[Sem.run_bind,Sem.run_pure,Result.andThen_ok]
      rw[<-hz0,hf]
      rfl
     ·rw[QuE h0]
      simp only[Sem.run_bind,hrun,Result.andThen_ok,Sem.run_pure]
      rw[hf]
      rfl
    have hmaxl:len<=maxLen:=by
     have:len * 1<=len * n:=Nat.mul_le_mul_left _ h4
     have h24:(2:Nat) ^ 24=16777216:=by decide
     simp only[maxLen];omega
    have hl':(parts.map (·.2)).length=len:=by simp[hlen]
    have hg:=Grows.alloc c.w (.cells cs' e)
    have ho:∀B,some c.w.heap.size=some B->c.w.heap.size<=B:=fun B h=>by cases h;exact QuD _
    have hev:=Ev.add hst hg (.grow e n (parts.map (·.2)).length) (some c.w.heap.size) ho
    have hρ:(c.add (c.w.alloc (.cells cs' e)) (.grow e n (parts.map (·.2)).length) (some c.w.heap.size)).ρ c.h.length=some c.w.heap.size:=by simp[Cx.add]
    have hcs:cs'.size=(parts.map (·.2)).length * n:=by rw[hrl.1,hfl,hl']
    have hst':St (c.add (c.w.alloc (.cells cs' e)) (.grow e n (parts.map (·.2)).length) (some c.w.heap.size)):=by
     refine St.add hst hg _ _ ho ?_
     intro B hB
     rw[hρ]at hB;cases hB
     exact⟨cs',XG _ _,by omega⟩
    refine⟨_,c.add (c.w.alloc (.cells cs' e)) (.grow e n (parts.map (·.2)).length) (some c.w.heap.size),hrun',hev,hst',rfl,?_⟩
    have:=Qar (c:=c.add (c.w.alloc (.cells cs' e)) (.grow e n (parts.map (·.2)).length) (some c.w.heap.size)) hst' (b:=c.h.length) (B:=c.w.heap.size) (s:=n) (cap:=(parts.map (·.2)).length) (e:=e) (xs:=parts.map (·.2)) (cur:=cs') (by simp[Cx.add]) hρ (XG _ _) hcs (QuD _) (by rw[hl'];exact hmaxl) (fun x hx=>(hall x hx).2) (fun j a ha=>by
     have hlt:j<cs'.size:=by rw[hrl.1];exact Qf ha
     exact⟨cs'[j],QuV hlt,hone _ (by rw[Qve];exact Qwd hlt),(hrl.2 j a _ ha (QuV hlt)).ev hst hev⟩)
    exact(show Value.slice (some ⟨c.w.heap.size,0,none⟩) (parts.map (·.2)).length (parts.map (·.2)).length=Value.slice (some ⟨c.w.heap.size,0,none⟩) len len by rw[hl'])▸this
  ·cases ha
theorem Qf4{P:Program}{c:Cx}(hst:St c){t e:TypeId}{n len:Nat}{parts:List (Nat×AV)}{vals:Array (Nat×Value)}{r:AV}{h':AH}(he:XW P t=some (e,n))(ha:QF P t len parts c.h=some (r,h'))
  (hi:parts.map (·.1)=vals.toList.map (·.1)) (hv:RelL c (parts.map (·.2)) (vals.toList.map (·.2)).toArray) :
  ∃y c',(Instr.buildSlice t len vals).run P c.w = .ok y c'.w/\Ev c c'/\St c'/\c'.h=c.h++[.cells e n (parts.map (·.2))]/\Rel c' (.arr c.h.length 0 len) y:=by
 unfold QF at ha
 ·obtain⟨hu,hsz⟩:=YQ he
  simp only[he]at ha
  split at ha
  ·rename_i hh
   obtain⟨h1,h2,h3,h4,h5⟩:=hh
   cases hz:Yl P e with
   |none=>simp[hz]at h5
   |some z =>
    obtain⟨v,hrun,rfl⟩:=Qat hz
    simp only[hz,Option.any_some,QuR,Qvx]at h5
    obtain⟨hrl0,hone0⟩:=QaA (QaY c v) h5.1
    have hvn:v.cells.size=n:=by rw[hrl0.1];exact h5.2
    have hlen:parts.length=len:=by have:=Qvq List.length h1;simpa using this
    have hall:∀x∈parts.map (·.2),x.QsU=true/\x.cells.length=n:=by
     intro x hx
     simp only[QuZ]at hx
     obtain⟨p,hp,rfl⟩:=hx
     simp only[Qvg,QuR,Qvx]at h2
     exact h2 p hp
    -- the zero cells
    let zs:Array Value:=(Array.range (len * n)).map (v.cells[· % v.cells.size]!)
    have hzs:zs.size=len * n:=by simp[zs]
    have hzone:∀x∈zs.toList,x.oneCell'=true:=by
     intro x hx
     simp only[zs,Qve,QwD]at hx
     obtain⟨i,_,rfl⟩:=hx
     have hlt:i % v.cells.size<v.cells.size:=Nat.mod_lt _ (by omega)
     rw[getElem!_pos v.cells _ hlt]
     exact hone0 _ (by rw[Qve];exact Qwd hlt)
    have hjunk:RelL c (List.replicate (len * n) AV.junk) zs:=by
     refine⟨by simp[hzs],fun j a u ha hu=>?_⟩
     rw[Qv4]at ha
     split at ha
     ·cases ha;exact .junk u
     ·cases ha
    have hfill:ZI (fun i=>some (i * n,n)) (List.replicate (len * n) AV.junk) parts=some (flat (parts.map (·.2))):=by
     have:=Qc8 (n:=n) (parts.map (·.2)) 0 (List.replicate (len * n) AV.junk) hall (by simp[hlen])
     have e:(List.range' 0 (parts.map (·.2)).length).zip (parts.map (·.2))=parts:=by
      rw[Qu6,hlen,<-QvW,<-h1]
      exact Qbl parts
     rw[e]at this
     rw[this]
     simp[hlen]
    obtain⟨cs',hf,hrl,_,hone⟩:=Qa8 hi hv hfill hjunk hzone
    have hfl:(flat (parts.map (·.2))).length=len * n:=by
     rw[flat_length (fun x hx=>(hall x hx).2)];simp[hlen]
    have hrun':(Instr.buildSlice t len vals).run P c.w = .ok (.slice (some ⟨c.w.heap.size,0,none⟩) len len) (c.w.alloc (.cells cs' e)):=by
     have h3':¬len * n>2 ^ 24:=by omega
     simp only[Instr.buildSlice,Sem.run_bind,underlying,run_program,Result.andThen_ok,hu,Sem.run_pure,hsz,h3',Qvy]
     by_cases h0:len * n=0
     ·have hz0:zs=(Array.range (len * n)).map ((#[]:Array Value)[· % (#[]:Array Value).size]!):=by
       apply Array.ext
       ·simp[hzs]
       ·intro i h1 h2;simp[hzs,h0]at h1
      rw[QuH h0]
      simp only[Sem.run_bind,Sem.run_pure,Result.andThen_ok]
      rw[<-hz0,hf]
      rfl
     ·rw[QuE h0]
      simp only[Sem.run_bind,hrun,Result.andThen_ok,Sem.run_pure]
      rw[hf]
      rfl
    have hmaxl:len<=maxLen:=by
     have:len * 1<=len * n:=Nat.mul_le_mul_left _ h4
     have h24:(2:Nat) ^ 24=16777216:=by decide
     simp only[maxLen];omega
    have hl':(parts.map (·.2)).length=len:=by simp[hlen]
    have hg:=Grows.alloc c.w (.cells cs' e)
    have ho:∀B,some c.w.heap.size=some B->c.w.heap.size<=B:=fun B h=>by cases h;exact QuD _
    have hev:=Ev.add hst hg (.cells e n (parts.map (·.2))) (some c.w.heap.size) ho
    have hρ:(c.add (c.w.alloc (.cells cs' e)) (.cells e n (parts.map (·.2))) (some c.w.heap.size)).ρ c.h.length=some c.w.heap.size:=by simp[Cx.add]
    have hst':St (c.add (c.w.alloc (.cells cs' e)) (.cells e n (parts.map (·.2))) (some c.w.heap.size)):=by
     refine St.add hst hg _ _ ho ?_
     exact⟨c.w.heap.size,cs',hρ,XG _ _,fun x hx=>(hall x hx).2,fun j a ha=>by
      have hlt:j<cs'.size:=by rw[hrl.1];exact Qf ha
      exact⟨cs'[j],QuV hlt,hone _ (by rw[Qve];exact Qwd hlt),(hrl.2 j a _ ha (QuV hlt)).ev hst hev⟩⟩
    refine⟨_,c.add (c.w.alloc (.cells cs' e)) (.cells e n (parts.map (·.2))) (some c.w.heap.size),hrun',hev,hst',rfl,?_⟩
    refine Rel.arr _ 0 len _ (by simp[Cx.add]) rfl fun ty s xs hb=>?_
    have hb':some (AB.cells e n (parts.map (·.2)))=some (.cells ty s xs):=by rw[<-hb];simp[Cx.add]
    cases hb'
    exact⟨c.w.heap.size,len,hρ,by rw[QuT],QuD _,hmaxl,cs',XG _ _,by rw[hrl.1,hfl,QtR];exact QuD _⟩
  ·cases ha
theorem Qgp{P:Program}{N:Nat}{base:Bs×Fence}{o:Oper}{s:AS}{t:TypeId}{len:Nat}{ps:Array (Nat×Operand)}{e:TypeId}{m:Nat}(hop:o.op = .buildSlice t len ps)(he:XW P t=some (e,m)){K:AS->Prop}
  (ha:(QF P t len (ps.toList.map fun p=>(p.1,s.ev p.2)) s.h).isSome=true)
  (H:K (AS.put N {s with h:=s.h++[.cells e m (ps.toList.map fun p=>s.ev p.2)]} o.dst (.arr s.h.length 0 len))) {F:Fence} {n:Nat} {c:Cx} {a:Act} (hF:WF F) (hst:St c) (hr:SR N base c s a)
  {next:Act->World->Prop} {Qx:Exit->Act->World->Prop} (hK:∀s' c' a',K s'->Ev c c'->St c'->SR N base c' s' a'->next a' c'.w):o.wpIn F n P a c.w next Qx:=by
 have hev:∀x,Rel c (s.ev x) (a.eval x):=hr.eval
 refine⟨fun f _=>hF.fn f,?_⟩
 rw[Oper.semAt_eq _ _ _ (fun q=>by rw[hop];intro h;cases h)]
 obtain⟨⟨r,h'⟩,ha⟩:=Qwe.1 ha
 rw[<-hr.h]at ha
 obtain⟨h1,h2⟩:=QcI hev ps
 obtain⟨y,c',hrun,h3,h4,h5,h6⟩:=Qf4 hst he ha h1 h2
 have hrun':(execOp a.eval o).run P c.w = .ok (.value y) c'.w:=by
  simp only[execOp,hop,Sem.run_bind,hrun,Result.andThen_ok,Sem.run_pure]
 rw[hrun']
 have e1:(ps.toList.map fun p=>(p.1,s.ev p.2)).map (·.2)=ps.toList.map fun p=>s.ev p.2:=by rw[Qv7];rfl
 rw[e1]at h5
 have hp:=hr.put hst h3 o.dst h6
 rw[h5,hr.h]at hp
 exact hK _ c' _ H h3 h4 hp
theorem Ql4{P:Program}{N:Nat}{base:Bs×Fence}{o:Oper}{s:AS}{t:TypeId}{len:Nat}{ps:Array (Nat×Operand)}{e:TypeId}{m:Nat}(hop:o.op = .buildSlice t len ps)(he:XW P t=some (e,m)){K:AS->Prop}
  (ha:(QF P t len (ps.toList.map fun p=>(p.1,s.ev p.2)) s.h).isSome=true)
  (H:K (AS.put N {s with h:=s.h++[.grow e m (ps.toList.map fun p=>s.ev p.2).length]} o.dst (.sl m (ps.toList.map fun p=>s.ev p.2) (some s.h.length)))) {F:Fence} {n:Nat} {c:Cx} {a:Act} (hF:WF F) (hst:St c) (hr:SR N base c s a)
  {next:Act->World->Prop} {Qx:Exit->Act->World->Prop} (hK:∀s' c' a',K s'->Ev c c'->St c'->SR N base c' s' a'->next a' c'.w):o.wpIn F n P a c.w next Qx:=by
 have hev:∀x,Rel c (s.ev x) (a.eval x):=hr.eval
 refine⟨fun f _=>hF.fn f,?_⟩
 rw[Oper.semAt_eq _ _ _ (fun q=>by rw[hop];intro h;cases h)]
 obtain⟨⟨r,h'⟩,ha⟩:=Qwe.1 ha
 rw[<-hr.h]at ha
 obtain⟨h1,h2⟩:=QcI hev ps
 obtain⟨y,c',hrun,h3,h4,h5,h6⟩:=Qf5 hst he ha h1 h2
 have hrun':(execOp a.eval o).run P c.w = .ok (.value y) c'.w:=by
  simp only[execOp,hop,Sem.run_bind,hrun,Result.andThen_ok,Sem.run_pure]
 rw[hrun']
 have e1:(ps.toList.map fun p=>(p.1,s.ev p.2)).map (·.2)=ps.toList.map fun p=>s.ev p.2:=by rw[Qv7];rfl
 rw[e1]at h5 h6
 have hp:=hr.put hst h3 o.dst h6
 rw[h5,hr.h]at hp
 exact hK _ c' _ H h3 h4 hp
def tokA(c:Nat)(P:Program)(ev:Operand->AV)(h:AH)(op:Op):Option (AV×AH):=match op with
 | .buildSlice t len ps=>(match XW P t with
  |some (e,n)=>if (QF P t len (ps.toList.map fun p=>(p.1,ev p.2)) h).isSome=true then(if c=5 then some (.sl n (ps.toList.map fun p=>ev p.2) (some h.length),h++[.grow e n (ps.toList.map fun p=>ev p.2).length])else some (.arr h.length 0 len,h++[.cells e n (ps.toList.map fun p=>ev p.2)]))else none
  |none=>none)
 |_=>none
theorem QnV{c:Nat}{P:Program}{ev:Operand->AV}{h h':AH}{op:Op}{r:AV}(e:tokA c P ev h op=some (r,h')):Keep h h':=by
 unfold tokA at e
 split at e
 ·split at e
  ·split at e
   ·split at e
    ·cases e;exact Keep.app _ _
    ·cases e;exact Keep.app _ _
   ·cases e
  ·cases e
 ·cases e
theorem Ql3{c:Nat}{P:Program}{h:AH}{ev ev':Operand->AV}{op:Op}(he:∀x∈op.operands,ev x=ev' x):tokA c P ev h op=tokA c P ev' h op:=by
 cases op with
 |buildSlice t len ps =>
  have h1:∀p∈ps.toList,ev p.2=ev' p.2:=fun p hp=>he p.2 (by simp only[Op.operands,List.mem_toArray,QuZ];exact⟨p,hp,rfl⟩)
  have e1:(ps.toList.map fun p=>(p.1,ev p.2))=ps.toList.map fun p=>(p.1,ev' p.2):=QvP fun p hp=>by rw[h1 p hp]
  have e2:(ps.toList.map fun p=>ev p.2)=ps.toList.map fun p=>ev' p.2:=QvP fun p hp=>h1 p hp
  simp only[tokA,e1,e2]
 |_=>rfl
theorem Qg1{k:Nat}{P:Program}{N:Nat}{base:Bs×Fence}{o:Oper}{s:AS}{r:AV}{h':AH}(ha:tokA k P s.ev s.h o.op=some (r,h')){K:AS->Prop}(H:K (AS.put N {s with h:=h'} o.dst r)){F:Fence}{n:Nat}{c:Cx}{a:Act}(hF:WF F)(hst:St c)(hr:SR N base c s a)
  {next:Act->World->Prop} {Qx:Exit->Act->World->Prop} (hK:∀s' c' a',K s'->Ev c c'->St c'->SR N base c' s' a'->next a' c'.w):o.wpIn F n P a c.w next Qx:=by
 unfold tokA at ha
 split at ha
 ·rename_i t len ps hop
  split at ha
  ·rename_i e m he
   split at ha
   ·rename_i hs
    split at ha
    ·cases ha
     exact Ql4 hop he hs H hF hst hr hK
    ·cases ha
     exact Qgp hop he hs H hF hst hr hK
   ·cases ha
  ·cases ha
 ·cases ha
end Go.Proofs.YticgcpebdldbgaaGreatDoor.Ab
namespace Go.Proofs.YticgcpebdldbgaaGreatDoor.Ab
inductive Anc (ops:Array Oper):Nat->Nat->Prop
 |edge (j:Nat) (o:Oper) (e:Edge) (ho:ops[j]? = some o) (he:e∈o.after) (hb:Region.binds .any e=true):Anc ops e.on j
 |trans {i j k:Nat}:Anc ops i j->Anc ops j k->Anc ops i k
def QpG(acc:List Nat)(o:Oper):Nat:=o.after.toList.foldl (fun s e=>if Region.binds .any e then s ||| 2 ^ e.on ||| acc.getD e.on 0 else s) 0
def masks:List Oper->List Nat->List Nat
 |[],acc=>acc
 |o::l,acc=>masks l (acc++[QpG acc o])
theorem QjF{ops:Array Oper}{acc:List Nat}{o:Oper}{j:Nat}(ho:ops[j]? = some o)(hacc:∀(k i:Nat),(acc.getD k 0).testBit i=true->Anc ops i k){i:Nat}(h:(QpG acc o).testBit i=true):Anc ops i j:=by
 have go:∀(l:List Edge) (s:Nat),(∀e∈l,e∈o.after)->(∀i,s.testBit i=true->Anc ops i j)->∀i,(l.foldl (fun s e=>if Region.binds .any e then s ||| 2 ^ e.on ||| acc.getD e.on 0 else s) s).testBit i=true->Anc ops i j:=by
  intro l
  induction l with
  |nil=>intro s _ hs i hi;exact hs i hi
  |cons e l ih =>
   intro s hl hs i hi
   refine ih _ (fun e he=>hl e (by simp[he])) ?_ i hi
   intro i hi
   dsimp only at hi
   split at hi
   ·rename_i hb
    have hedge:=Anc.edge j o e ho (hl e (by simp)) hb
    simp only[Nat.testBit_or,QvC]at hi
    rcases hi with(hi|hi)|hi
    ·exact hs i hi
    ·rw[Nat.testBit_two_pow]at hi
     have:e.on=i:=by simpa using hi
     exact this▸hedge
    ·exact(hacc _ _ hi).trans hedge
   ·exact hs i hi
 exact go _ 0 (fun e he=>QvT.2 he) (fun i hi=>by simp at hi) i h
theorem Qbx{ops:Array Oper}:∀(l:List Oper) (acc:List Nat),(∀(j:Nat) o,l[j]? = some o->ops[acc.length+j]? = some o)->(∀(k i:Nat),(acc.getD k 0).testBit i=true->Anc ops i k) ->
  ∀(k i:Nat),((masks l acc).getD k 0).testBit i=true->Anc ops i k
 |[],acc,_,h=>h
 |o::l,acc,hl,h=>by
  refine Qbx l _ (fun j o' hj=>?_) ?_
  ·have:=hl (j+1) o' (by simpa using hj)
   simpa [Qv3,QwA 1 j]using this
  ·intro k i hk
   simp only[Qu8]at hk
   by_cases hlt:k<acc.length
   ·rw[Qux hlt,<-Qu8]at hk;exact h k i hk
   ·by_cases heq:k=acc.length
    ·subst heq
     rw[QuB (QuD _)]at hk
     simp only[Qu9,QtF,Qwh]at hk
     exact QjF (by simpa using hl 0 o (by simp)) h hk
    ·rw[Qvf (by simp;omega)]at hk
     simp at hk
def Down(ops:Array Oper)(S:Nat->Bool):Prop:=∀(j:Nat) o,ops[j]? = some o->S j=true->∀e∈o.after,Region.binds .any e=true->S e.on=true
theorem Down.anc{ops:Array Oper}{S:Nat->Bool}(h:Down ops S){i j:Nat}(ha:Anc ops i j):S j=true->S i=true:=by
 induction ha with
 |edge j o e ho he hb=>exact fun hj=>h j o ho hj e he hb
 |trans _ _ ih1 ih2=>exact fun hk=>ih1 (ih2 hk)
def tmpsOf(l:List Operand):List Nat:=l.filterMap fun | .tmp t=>some t|_=>none
def readsOf(ops:Array Oper)(o:Oper):List Nat:=tmpsOf o.op.operands.toList++match o.guard with
 |some (j,_)=>((ops[j]?).bind (·.dst)).toList
 |none=>[]
def clash(ops:Array Oper)(a b:Oper)(ca cb:Nat):Bool :=
 (match a.dst with|some d=>(readsOf ops b).contains d||b.dst==some d|none=>false)||(match b.dst with|some d=>(readsOf ops a).contains d|none=>false) ||
 (decide (2<=ca)&&cb != 1)||(ca != 1&&decide (2<=cb)&&!((Qc9 b.op&&cb != 4)||cb==3))
def QfH(ops:Array Oper)(ms:List Nat):List (Nat×Nat)->Bool
 |[]=>true
 |(i,ci)::l=>(l.all fun p=>match ops[i]?,ops[p.1]? with
   |some a,some b=>!clash ops a b ci p.2||(ms.getD p.1 0).testBit i
   |_,_=>false)&&QfH ops ms l
def topo(ops:Array Oper):List Nat->List (Nat×Nat)->Bool
 |_,[]=>true
 |pre,(i,_)::l=>(match ops[i]? with
  |some o=>o.after.toList.all fun e=>!Region.binds .any e||pre.contains e.on
  |none=>false)&&topo ops (i::pre) l
def QcR(o:Oper):Bool:=match o.op with
 | .call c=>match c.callee with | .value _=>true|_=>false
 |_=>false
def kindOk(o:Oper)(c:Nat):Bool :=
 QcR o||(Qcp o.op&&decide (c<2))||((c==2||c==4||c==5||c==6)&&(Qc9 o.op||Qh2 o.op))
def QlC:List Nat->Bool
 |[]=>true
 |x::l=>!l.contains x&&QlC l
def Qp0(ops:Array Oper)(π:List (Nat×Nat)):Bool :=
 π.length==ops.size&&QfH ops (masks ops.toList []) π&&topo ops [] π&&QlC (π.map (·.1))&&((List.range ops.size).all fun i=>(π.map (·.1)).contains i) &&
 π.all fun p=>match ops[p.1]? with|some o=>kindOk o p.2|none=>false
def StepA(P:Program)(ops:Array Oper)(tm:Nat->AV)(h:AH)(c:Nat)(o:Oper)(r:AV)(h':AH):Prop :=
 match QN ops tm o with
 |some false=>r = .v undef/\h'=h
 |some true =>
  match o.op with
  | .call ⟨.value f,args,tys⟩=>if 2<=c then FunW P (AS.ev ⟨tm,[]⟩ f) (args.toList.map (AS.ev ⟨tm,[]⟩)) h (fun out h''=>out = .ret r/\h''=h')/\(c=3->Keep h h')else(∀hx,(c=0->Keep h hx)->FunW P (AS.ev ⟨tm,[]⟩ f) (args.toList.map (AS.ev ⟨tm,[]⟩)) hx fun out h''=>out = .ret r/\h''=hx)/\h'=h
  |op=>if c=1 then(∃h1,aop P (AS.ev ⟨tm,[]⟩) o.type [] op=some (r,h1))/\h'=h else aop P (AS.ev ⟨tm,[]⟩) o.type h op=some (r,h')\/(c=4/\aop P (AS.ev ⟨tm,[]⟩) o.type h op=none/\aopR P (AS.ev ⟨tm,[]⟩) h op=some (r,h'))\/(5<=c/\tokA c P (AS.ev ⟨tm,[]⟩) h op=some (r,h'))
 |none=>False
theorem Qk4{P:Program}{h:AH}{ev ev':Operand->AV}{op:Op}(he:∀x∈op.operands,ev x=ev' x):aopR P ev h op=aopR P ev' h op:=by
 cases op with
 |call c =>
  obtain⟨cal,args,tys⟩:=c
  cases cal with
  |builtin b =>
   have htwo:∀x y,args.toList=[x,y]->ev x=ev' x/\ev y=ev' y:=fun x y hx=>⟨he x (by simp[Op.operands,Call.operands,QvT,hx]),he y (by simp[Op.operands,Call.operands,QvT,hx])⟩
   cases b with
   |append =>
    simp only[aopR]
    split
    ·rename_i h1 h2;rw[(htwo _ _ h1).1,(htwo _ _ h1).2]
    ·rfl
   |_=>rfl
  |_=>rfl
 |_=>rfl
theorem Qmi{P:Program}{h:AH}{ev:Operand->AV}{op:Op}{x:AV×AH}(e:aopR P ev h op=some x):∃args tys,op = .call ⟨.builtin .append,args,tys⟩:=by
 cases op with
 |call c =>
  obtain⟨cal,args,tys⟩:=c
  cases cal with
  |builtin b =>
   cases b with
   |append=>exact⟨args,tys,rfl⟩
   |_=>simp[aopR]at e
  |_=>simp[aopR]at e
 |_=>simp[aopR]at e
theorem Qb3(tm:Nat->AV)(h h':AH)(x:Operand):AS.ev ⟨tm,h⟩ x=AS.ev ⟨tm,h'⟩ x:=by cases x <;> rfl
theorem Qdd{ops:Array Oper}{tm tm':Nat->AV}{o:Oper}(h:∀t∈readsOf ops o,tm t=tm' t):QN ops tm o=QN ops tm' o:=by
 unfold QN
 cases hg:o.guard with
 |none=>rfl
 |some jw =>
  obtain⟨j,want⟩:=jw
  simp only
  cases hd:(ops[j]?).bind (·.dst)with
  |none=>rfl
  |some d =>
   have:tm d=tm' d:=h d (by unfold readsOf;rw[hg];simp[hd])
   simp only[this]
theorem Qdg{ops:Array Oper}{tm tm':Nat->AV}{o:Oper}(h:∀t∈readsOf ops o,tm t=tm' t):∀x∈o.op.operands,AS.ev ⟨tm,[]⟩ x=AS.ev ⟨tm',[]⟩ x:=by
 intro x hx
 cases x with
 |tmp t=>exact h t (by unfold readsOf tmpsOf;exact QvH _ (List.mem_filterMap.2 ⟨.tmp t,QvT.1 hx,rfl⟩))
 |_=>rfl
theorem Qc0{o:Oper}(h:QcR o=true):∃f args tys,o.op = .call ⟨.value f,args,tys⟩:=by
 unfold QcR at h
 cases ho:o.op with
 |call c =>
  obtain⟨cal,args,tys⟩:=c
  cases cal with
  |value f=>exact⟨f,args,tys,rfl⟩
  |_=>simp[ho]at h
 |_=>simp[ho]at h
theorem StepA.turn{P:Program}{ops:Array Oper}{tm tm':Nat->AV}{h h2 h':AH}{c:Nat}{o:Oper}{r:AV}(hs:StepA P ops tm h c o r h')(hk:kindOk o c=true)(ht:∀t∈readsOf ops o,tm' t=tm t)
  (hh:(2<=c/\h2=h)\/(c<2/\(c=1\/Keep h h2))) (N:Nat) :
  (QN ops tm' o=some false/\r = .v undef/\(if 2<=c then h' else h2)=h2) \/
  (QN ops tm' o=some true/\((∀(K:AS->Prop) (E:AV->AS->Prop),K (AS.put N ⟨tm',if 2<=c then h' else h2⟩ o.dst r)->OpW P N o ⟨tm',h2⟩ K E)\/tokA c P (AS.ev ⟨tm',h2⟩) h2 o.op=some (r,if 2<=c then h' else h2))):=by
 unfold StepA at hs
 rw[Qdd ht]
 split at hs
 ·rename_i hw
  obtain⟨rfl,rfl⟩:=hs
  refine .inl ⟨hw,rfl,?_⟩
  rcases hh with⟨_,rfl⟩|⟨hc,_⟩
  ·simp
  ·rw[QuE (by omega)]
 ·rename_i hw
  refine .inr ⟨hw,?_⟩
  split at hs
  ·rename_i f args tys hop
   refine .inl fun K E hK=>?_
   unfold OpW
   simp only[hop]
   have hev:=Qdg ht
   rw[hop]at hev
   have h1:AS.ev ⟨tm',h2⟩ f=AS.ev ⟨tm,[]⟩ f:=(Qb3 _ _ _ _).trans (hev f (by simp[Op.operands,Call.operands]))
   have h2':args.toList.map (AS.ev ⟨tm',h2⟩)=args.toList.map (AS.ev ⟨tm,[]⟩):=QvP fun x hx=>(Qb3 _ _ _ _).trans (hev x (by simp[Op.operands,Call.operands,QvT,hx]))
   rw[h1,h2']
   by_cases hc:2<=c
   ·rw[QuH hc]at hs hK
    rcases hh with⟨_,rfl⟩|⟨hc',_⟩
    ·exact hs.1.mono fun out h'' ⟨e1,e2⟩=>by subst e1;subst e2;exact hK
    ·omega
   ·rw[QuE hc]at hs hK
    refine(hs.1 h2 fun h0=>?_).mono fun out h'' ⟨e1,e2⟩=>by subst e1;subst e2;exact hK
    rcases hh with⟨hc',_⟩|⟨_,h1|h1⟩
    ·omega
    ·omega
    ·exact h1
  ·rename_i op hnc
   have hcall:QcR o=false:=by
    cases hc:QcR o with
    |false=>rfl
    |true=>obtain⟨f,args,tys,e⟩:=Qc0 hc;exact(hnc _ _ _ e).elim
   simp only[kindOk,hcall,QwE,QvC,QuR]at hk
   have hcongr:∀hx,aop P (AS.ev ⟨tm',h2⟩) o.type hx o.op=aop P (AS.ev ⟨tm,[]⟩) o.type hx o.op:=fun hx=>by
    refine Qmj (fun x hx=>(Qb3 _ _ _ _).trans (Qdg ht x hx)) ?_
    rcases hk with⟨h1,_⟩|⟨_,h1|h1⟩
    ·simp[h1]
    ·simp[h1]
    ·simp[h1]
   by_cases hT:5<=c/\tokA c P (AS.ev ⟨tm,[]⟩) h o.op=some (r,h')
   ·obtain⟨h5,hT⟩:=hT
    rcases hh with⟨_,rfl⟩|⟨hc',_⟩
    ·refine .inr ?_
     rw[QuH (by omega)]
     exact(Ql3 (fun x hx=>(Qb3 _ _ _ _).trans (Qdg ht x hx))).trans hT
    ·omega
   refine .inl fun K E hK=>?_
   by_cases hR:c=4/\aop P (AS.ev ⟨tm,[]⟩) o.type h o.op=none/\aopR P (AS.ev ⟨tm,[]⟩) h o.op=some (r,h')
   ·obtain⟨rfl,hn,hR⟩:=hR
    rcases hh with⟨_,rfl⟩|⟨hc',_⟩
    ·obtain⟨args,tys,hop⟩:=Qmi hR
     have hR':aopR P (AS.ev ⟨tm',h2⟩) h2 o.op=some (r,h'):=(Qk4 (fun x hx=>(Qb3 _ _ _ _).trans (Qdg ht x hx))).trans hR
     have hn':aop P (AS.ev ⟨tm',h2⟩) o.type h2 o.op=none:=(hcongr h2).trans hn
     rw[QuH (by omega)]at hK
     unfold OpW
     rw[hop]at hR' hn' ⊢
     simp only[hR',hn']
     exact hK
    ·omega
   replace hs:if c=1 then(∃h1,aop P (AS.ev ⟨tm,[]⟩) o.type [] o.op=some (r,h1))/\h'=h else aop P (AS.ev ⟨tm,[]⟩) o.type h o.op=some (r,h'):=by
    by_cases hc1:c=1
    ·rw[QuH hc1]at hs ⊢;exact hs
    ·rw[QuE hc1]at hs ⊢
     exact hs.resolve_right fun q=>q.elim hR hT
   -- what it is over the heap at hand
   have key:aop P (AS.ev ⟨tm',h2⟩) o.type h2 o.op=some (r,if 2<=c then h' else h2):=by
    rw[hcongr]
    rcases hh with⟨hc,rfl⟩|⟨hc,hh⟩
    ·rw[QuE (by omega)]at hs
     rw[QuH hc];exact hs
    ·have hl:Qcp o.op=true:=by
      rcases hk with⟨h1,_⟩|⟨h1,_⟩
      ·exact h1
      ·simp at h1;omega
     rw[QuE (by omega)]
     by_cases hc1:c=1
     ·rw[QuH hc1]at hs
      obtain⟨⟨h1,hs⟩,_⟩:=hs
      exact(Qhb (Keep.nil h2) hl hs).2
     ·rw[QuE hc1]at hs
      rcases hh with hh|hh
      ·exact(hc1 hh).elim
      ·exact(Qhb hh hl hs).2
   unfold OpW
   split
   ·rename_i t ps hop
    rw[hop]at key
    simp only[aop]at key
    have key0:=key
    unfold QF at key
    cases he:XW P t with
    |none=>simp[he]at key
    |some en =>
     obtain⟨e,n⟩:=en
     simp only[he,QvB]at key
     split at key
     ·rename_i hcond
      have hps:ps.toList=[]:=by
       have:=Qvq List.length hcond.1
       simpa using this
      simp only[QtL,Qv8]at key
      obtain⟨e1,e2⟩:=key
      simp only[hps,QtY]at key0 ⊢
      rw[<-e2]at hK key0
      rw[<-e1]at hK key0
      exact⟨key0,.inl hK⟩
     ·cases key
   ·rename_i q hop
    obtain⟨cal,args,tys⟩:=q
    cases cal with
    |value f=>simp[QcR,hop]at hcall
    |_=>simp only[key];exact hK
   ·rename_i x hop
    rw[hop]at key;simp[aop]at key
   ·rw[key];exact hK
 ·exact hs.elim
structure Tr where
 i:Nat
 c:Nat
 o:Oper
 r:AV
 h':AH
def putT(N:Nat)(tm:Nat->AV)(d:Option Tmp)(r:AV):Nat->AV:=match d with
 |some d=>if d<N then upd tm d r else tm
 |none=>tm
theorem put_eq(N:Nat)(tm:Nat->AV)(h:AH)(d:Option Tmp)(r:AV):AS.put N ⟨tm,h⟩ d r=⟨putT N tm d r,h⟩:=by
 cases d with
 |none=>rfl
 |some d=>simp only[AS.put,putT];split <;> rfl
theorem Qd2{N:Nat}{tm:Nat->AV}{d:Option Tmp}{r:AV}{x:Nat}(h:d≠some x):putT N tm d r x=tm x:=by
 cases d with
 |none=>rfl
 |some d =>
  simp only[putT]
  split
  ·rw[upd_ne];intro e;exact h (by rw[e])
  ·rfl
theorem Qd1{N:Nat}{tm tm':Nat->AV}{d:Option Tmp}{r:AV}{x:Nat}(h:d≠some x->tm x=tm' x)(h':tm x=tm' x\/x<N):putT N tm d r x=putT N tm' d r x:=by
 cases d with
 |none=>exact h (by simp)
 |some d =>
  simp only[putT]
  by_cases hx:x=d
  ·subst hx
   split
   ·simp
   ·rename_i hn
    rcases h' with h'|h'
    ·exact h'
    ·exact(hn h').elim
  ·have:=h (by intro e;cases e;exact hx rfl)
   split
   ·rw[upd_ne _ _ hx,upd_ne _ _ hx];exact this
   ·exact this
def tmS(N:Nat)(S:Nat->Bool):List Tr->(Nat->AV)->(Nat->AV)
 |[],f=>f
 |t::l,f=>tmS N S l (if S t.i then putT N f t.o.dst t.r else f)
def hS(S:Nat->Bool):List Tr->AH->AH
 |[],h=>h
 |t::l,h=>hS S l (if S t.i&&decide (2<=t.c)then t.h' else h)
theorem Qbj(N:Nat)(S:Nat->Bool):∀(l m:List Tr) (f:Nat->AV),tmS N S (l++m) f=tmS N S m (tmS N S l f)
 |[],m,f=>rfl
 |t::l,m,f=>Qbj N S l m _
theorem Qbv(S:Nat->Bool):∀(l m:List Tr) (f:AH),hS S (l++m) f=hS S m (hS S l f)
 |[],m,f=>rfl
 |t::l,m,f=>Qbv S l m _
theorem Qak{N:Nat}{S:Nat->Bool}{x:Nat}:∀{l:List Tr} {f:Nat->AV},(∀t∈l,S t.i=true->t.o.dst≠some x)->tmS N S l f x=f x
 |[],f,h=>rfl
 |t::l,f,h=>by
  simp only[tmS]
  rw[Qak (fun t ht=>h t (by simp[ht]))]
  split
  ·rename_i hs;exact Qd2 (h t (by simp) hs)
  ·rfl
theorem QaM{N:Nat}{S S':Nat->Bool}{x:Nat}:∀{l:List Tr} {f f':Nat->AV},f x=f' x->(∀t∈l,t.o.dst=some x->S t.i=S' t.i)->tmS N S l f x=tmS N S' l f' x
 |[],f,f',hf,h=>hf
 |t::l,f,f',hf,h=>by
  simp only[tmS]
  refine QaM ?_ (fun t ht=>h t (by simp[ht]))
  by_cases hd:t.o.dst=some x
  ·rw[h t (by simp) hd]
   split
   ·exact Qd1 (fun _=>hf) (.inl hf)
   ·exact hf
  ·have e1:∀(b:Bool) (g:Nat->AV),(if b=true then putT N g t.o.dst t.r else g) x=g x:=fun b g=>by
    split
    ·exact Qd2 hd
    ·rfl
   rw[e1,e1];exact hf
theorem Qbu{S S':Nat->Bool}:∀{l:List Tr} {f:AH},(∀t∈l,2<=t.c->S t.i=S' t.i)->hS S l f=hS S' l f
 |[],f,h=>rfl
 |t::l,f,h=>by
  simp only[hS]
  by_cases hc:2<=t.c
  ·rw[h t (by simp) hc];exact Qbu fun t ht=>h t (by simp[ht])
  ·have:(decide (2<=t.c))=false:=by simpa using hc
   rw[this,Qv6,Qv6];exact Qbu fun t ht=>h t (by simp[ht])
theorem Qbd{S:Nat->Bool}:∀{l:List Tr} {f:AH},(∀t∈l,2<=t.c->S t.i=false)->hS S l f=f
 |[],f,h=>rfl
 |t::l,f,h=>by
  simp only[hS]
  have:(S t.i&&decide (2<=t.c))=false:=by
   by_cases hc:2<=t.c
   ·rw[h t (by simp) hc];rfl
   ·have:(decide (2<=t.c))=false:=by simpa using hc
    rw[this,Qv6]
  rw[this]
  exact Qbd fun t ht=>h t (by simp[ht])
inductive Runs (P:Program) (N:Nat) (ops:Array Oper):List Tr->(Nat->AV)->AH->Prop
 |nil (tm:Nat->AV) (h:AH):Runs P N ops [] tm h
 |cons (t:Tr) (l:List Tr) (tm:Nat->AV) (h:AH) (ho:ops[t.i]? = some t.o) (hk:kindOk t.o t.c=true) (hs:StepA P ops tm h t.c t.o t.r t.h') (hl:Runs P N ops l (putT N tm t.o.dst t.r) (if 2<=t.c then t.h' else h)):Runs P N ops (t::l) tm h
theorem Runs.split{P:Program}{N:Nat}{ops:Array Oper}:∀{l m:List Tr} {tm:Nat->AV} {h:AH},Runs P N ops (l++m) tm h->Runs P N ops m (tmS N (fun _=>true) l tm) (hS (fun _=>true) l h)
 |[],m,tm,h,H=>H
 |t::l,m,tm,h,H=>by
  cases H with
  |cons t l tm h ho hk hs hl =>
   have:=Runs.split hl
   simp only[tmS,hS,QvB,Qup,Qvi]
   exact this
theorem Runs.keep{P:Program}{N:Nat}{ops:Array Oper}{S:Nat->Bool}:∀{l:List Tr} {tm:Nat->AV} {h:AH},Runs P N ops l tm h->(∀t∈l,2<=t.c->S t.i=true->((Qc9 t.o.op&&t.c != 4)||t.c==3)=true) ->
  l.Pairwise (fun a b=>2<=a.c->2<=b.c->S b.i=true->S a.i=true)->Keep h (hS S l h)
 |[],tm,h,H,_,_=>Keep.refl h
 |t::l,tm,h,H,ha,hp=>by
  cases H with
  |cons t l tm h ho hk hs hl =>
   simp only[hS]
   obtain⟨hp1,hp2⟩:=Qwa.1 hp
   by_cases hc:2<=t.c
   ·cases hS':S t.i with
    |true =>
     simp only[hc,Qub,Qt1,QvB]
     rw[QuH hc]at hl
     refine Keep.trans ?_ (Runs.keep hl (fun t ht=>ha t (by simp[ht])) hp2)
     have hadd:=ha t (by simp) hc hS'
     unfold StepA at hs
     split at hs
     ·rw[hs.2];exact Keep.refl _
     ·split at hs
      ·rename_i f args tys hop
       rw[QuH hc]at hs
       refine hs.2 ?_
       rw[hop]at hadd
       simpa [Qc9]using hadd
      ·rename_i op hnc
       rw[QuE (by omega)]at hs
       have hcall:QcR t.o=false:=by
        cases hc:QcR t.o with
        |false=>rfl
        |true=>obtain⟨f,args,tys,e⟩:=Qc0 hc;exact(hnc _ _ _ e).elim
       simp only[kindOk,hcall,QwE,QvC,QuR,Qvi,Qvx]at hk
       have h3:t.c≠3:=by
        rcases hk with⟨_,h⟩|⟨h,_⟩
        ·omega
        ·omega
       simp only[QvC,QuR,bne_iff_ne,ne_eq,Qvx]at hadd
       rcases hadd with⟨hadd,h4⟩|hadd
       ·rcases hs with hs|⟨hs,_⟩|⟨_,hs⟩
        ·exact Qog hadd hs
        ·exact(h4 hs).elim
        ·exact QnV hs
       ·exact(h3 hadd).elim
     ·exact hs.elim
    |false =>
     simp only[Qwl,QtJ,Qvy]
     rw[Qbd (fun t' ht' hc'=>?_)]
     ·exact Keep.refl _
     ·cases hb:S t'.i with
      |false=>rfl
      |true=>have:=hp1 t' ht' hc hc' hb;rw[hS']at this;cases this
   ·have:(decide (2<=t.c))=false:=by simpa using hc
    rw[QuE hc]at hl
    rw[this,Qv6]
    exact Runs.keep hl (fun t ht=>ha t (by simp[ht])) hp2
def QpU(P:Program)(N:Nat)(fv:AV)(args:List AV)(s:AS)(d:Option Tmp)(K:AS->Prop):Prop :=
 ∃r,(∀hx,FunW P fv args hx fun out h''=>out = .ret r/\h''=hx)/\K (AS.put N s d r)
def QpW(P:Program)(N:Nat)(fv:AV)(args:List AV)(s:AS)(d:Option Tmp)(K:AS->Prop):Prop :=
 ∃r,(∀hx,Keep s.h hx->FunW P fv args hx fun out h''=>out = .ret r/\h''=hx)/\K (AS.put N s d r)
def QpV(P:Program)(N c:Nat)(fv:AV)(args:List AV)(s:AS)(d:Option Tmp)(K:AS->Prop):Prop :=
 ∃r h',FunW P fv args s.h (fun out h''=>out = .ret r/\h''=h')/\(c=3->Keep s.h h')/\K (AS.put N {s with h:=h'} d r)
def AnyO(P:Program)(N:Nat)(ops:Array Oper)(c:Nat)(o:Oper)(s:AS)(K:AS->Prop):Prop :=
 match QN ops s.tm o with
 |some false=>K (AS.put N s o.dst (.v undef))
 |some true =>
  match o.op with
  | .call ⟨.value f,args,tys⟩=>if 2<=c then QpV P N c (s.ev f) (args.toList.map s.ev) s o.dst K else if c=0 then QpW P N (s.ev f) (args.toList.map s.ev) s o.dst K else QpU P N (s.ev f) (args.toList.map s.ev) s o.dst K
  |op=>if 5<=c then(match tokA c P s.ev s.h op with
    |some (r,h')=>K (AS.put N {s with h:=h'} o.dst r)
    |none=>False)else match aop P s.ev o.type (if c=1 then[]else s.h) op with
   |some (r,h')=>K (AS.put N {s with h:=if c=1 then s.h else h'} o.dst r)
   |none=>c=4/\match aopR P s.ev s.h op with
    |some (r,h')=>K (AS.put N {s with h:=h'} o.dst r)
    |none=>False
 |none=>False
def AnyW(P:Program)(N:Nat)(ops:Array Oper):List (Nat×Nat)->(AS->Prop)->AS->Prop
 |[],K,s=>K s
 |(i,c)::l,K,s=>match ops[i]? with
  |some o=>AnyO P N ops c o s (AnyW P N ops l K)
  |none=>False
theorem Qb7{P:Program}{N:Nat}{ops:Array Oper}{K:AS->Prop}:∀{π:List (Nat×Nat)} {tm:Nat->AV} {h:AH},AnyW P N ops π K ⟨tm,h⟩->(π.all fun p=>match ops[p.1]? with|some o=>kindOk o p.2|none=>false)=true ->
  ∃tr:List Tr,tr.map (fun t=>(t.i,t.c))=π/\Runs P N ops tr tm h/\K ⟨tmS N (fun _=>true) tr tm,hS (fun _=>true) tr h⟩
 |[],tm,h,H,_=>⟨[],rfl,.nil _ _,H⟩
 |(i,c)::π,tm,h,H,hk=>by
  simp only[QtZ,QuR]at hk
  obtain⟨hk1,hk2⟩:=hk
  simp only[AnyW]at H
  cases ho:ops[i]? with
  |none=>simp[ho]at H
  |some o =>
   simp only[ho]at H hk1
   -- a step, and the rest
   have fin:∀(r:AV) (h':AH),StepA P ops tm h c o r h'->AnyW P N ops π K ⟨putT N tm o.dst r,if 2<=c then h' else h⟩ ->
     ∃tr:List Tr,tr.map (fun t=>(t.i,t.c))=(i,c)::π/\Runs P N ops tr tm h/\K ⟨tmS N (fun _=>true) tr tm,hS (fun _=>true) tr h⟩:=by
    intro r h' hs hw
    obtain⟨tr,h1,h2,h3⟩:=Qb7 hw hk2
    refine⟨⟨i,c,o,r,h'⟩::tr,by simp[h1],.cons ⟨i,c,o,r,h'⟩ tr tm h ho hk1 hs h2,?_⟩
    simp only[tmS,hS,QvB,Qup,Qvi]
    exact h3
   unfold AnyO at H
   simp only at H
   split at H
   ·rename_i hw
    rw[put_eq]at H
    refine fin (.v undef) h (by unfold StepA;simp only[hw,Qud]) ?_
    simpa using H
   ·rename_i hw
    split at H
    ·rename_i f args tys hop
     have h1:AS.ev ⟨tm,[]⟩ f=AS.ev ⟨tm,h⟩ f:=Qb3 _ _ _ _
     have h2:args.toList.map (AS.ev ⟨tm,[]⟩)=args.toList.map (AS.ev ⟨tm,h⟩):=QvP fun x _=>Qb3 _ _ _ _
     by_cases hc:2<=c
     ·rw[QuH hc]at H
      obtain⟨r,h',hf,hkp,H⟩:=H
      rw[put_eq]at H
      refine fin r h' ?_ (by rw[QuH hc];exact H)
      unfold StepA
      simp only[hw,hop,QuH hc]
      rw[h1,h2]
      exact⟨hf,hkp⟩
     ·rw[QuE hc]at H
      by_cases h0:c=0
      ·rw[QuH h0]at H
       obtain⟨r,hf,H⟩:=H
       rw[put_eq]at H
       refine fin r h ?_ (by simpa using H)
       unfold StepA
       simp only[hw,hop,QuE hc,Quf]
       intro hx hkp
       rw[h1,h2]
       exact hf hx (hkp h0)
      ·rw[QuE h0]at H
       obtain⟨r,hf,H⟩:=H
       rw[put_eq]at H
       refine fin r h ?_ (by simpa using H)
       unfold StepA
       simp only[hw,hop,QuE hc,Quf]
       intro hx _
       rw[h1,h2]
       exact hf hx
    ·rename_i op hnc
     have hev:AS.ev ⟨tm,h⟩=AS.ev ⟨tm,[]⟩:=funext fun x=>Qb3 _ _ _ _
     have hstep:∀r h',(if c=1 then(∃h1,aop P (AS.ev ⟨tm,[]⟩) o.type [] o.op=some (r,h1))/\h'=h else aop P (AS.ev ⟨tm,[]⟩) o.type h o.op=some (r,h')\/(c=4/\aop P (AS.ev ⟨tm,[]⟩) o.type h o.op=none/\aopR P (AS.ev ⟨tm,[]⟩) h o.op=some (r,h'))\/(5<=c/\tokA c P (AS.ev ⟨tm,[]⟩) h o.op=some (r,h')))->StepA P ops tm h c o r h':=by
      intro r h' hh
      unfold StepA
      rw[hw]
      cases hop:o.op with
      |call q =>
       obtain⟨cal,args,tys⟩:=q
       cases cal with
       |value f=>exact(hnc _ _ _ hop).elim
       |_=>rw[hop]at hh;exact hh
      |_=>rw[hop]at hh;exact hh
     by_cases hc5:5<=c
     ·rw[QuH hc5]at H
      split at H
      ·rename_i r h' hT
       rw[put_eq]at H
       rw[hev]at hT
       refine fin r h' (hstep r h' (by rw[QuE (by omega)];exact .inr (.inr ⟨hc5,hT⟩))) ?_
       rw[QuH (by omega)];exact H
      ·exact H.elim
     rw[QuE hc5]at H
     split at H
     ·rename_i r h' ha
      rw[put_eq]at H
      rw[hev]at ha
      by_cases hc1:c=1
      ·subst hc1
       simp only[QvB]at ha
       refine fin r h (hstep r h ?_) ?_
       ·rw[QuH rfl];exact⟨⟨_,ha⟩,rfl⟩
       ·simpa using H
      ·simp only[QuE hc1]at ha H
       refine fin r h' (hstep r h' (by rw[QuE hc1];exact .inl ha)) ?_
       by_cases hc2:2<=c
       ·rw[QuH hc2];exact H
       ·rw[QuE hc2]
        have hl:Qcp o.op=true:=by
         have hcall:QcR o=false:=by
          cases hc:QcR o with
          |false=>rfl
          |true=>obtain⟨f,args,tys,e⟩:=Qc0 hc;exact(hnc _ _ _ e).elim
         simp only[kindOk,hcall,QwE,QvC,QuR]at hk1
         rcases hk1 with⟨h1,_⟩|⟨h1,_⟩
         ·exact h1
         ·simp at h1;exact(hc2 (by omega)).elim
        have:=(Qhb (Keep.refl h) hl ha).1
        rw[<-this];exact H
     ·rename_i ha
      obtain⟨rfl,H⟩:=H
      rw[hev]at ha H
      simp only[show ¬(4=1) by decide,Qvy]at ha
      split at H
      ·rename_i r h' hR
       rw[put_eq]at H
       refine fin r h' (hstep r h' (by rw[QuE (by decide)];exact .inr (.inl ⟨rfl,ha,hR⟩))) ?_
       rw[QuH (by omega)];exact H
      ·exact H.elim
   ·exact H.elim
theorem QdZ{ops:Array Oper}{ms:List Nat}(hm:∀(k i:Nat),(ms.getD k 0).testBit i=true->Anc ops i k):∀(tr:List Tr),QfH ops ms (tr.map fun t=>(t.i,t.c))=true->(∀t∈tr,ops[t.i]? = some t.o) ->
  tr.Pairwise (fun a b=>clash ops a.o b.o a.c b.c=true->Anc ops a.i b.i)
 |[],_,_=>.nil
 |t::l,h,ho=>by
  simp only[QtU,QfH,QuR,Qvg]at h
  refine Qwa.2 ⟨fun b hb hc=>?_,QdZ hm l h.2 fun t ht=>ho t (by simp[ht])⟩
  have:=h.1 (b.i,b.c) (QuZ.2 ⟨b,hb,rfl⟩)
  simp only[ho t (by simp),ho b (by simp[hb]),hc,Qt2,QwE]at this
  exact hm _ _ this
theorem QcF:∀{l:List Nat},QlC l=true->l.Nodup
 |[],_=>Qwk
 |x::l,h=>by
  simp only[QlC,QuR,Qwx]at h
  exact Qwt.2 ⟨by simpa using h.1,QcF h.2⟩
theorem QcK{P:Program}{N:Nat}{ops:Array Oper}:∀{tr:List Tr} {tm:Nat->AV} {h:AH},Runs P N ops tr tm h->∀t∈tr,ops[t.i]? = some t.o
 |[],_,_,_,t,ht=>by cases ht
 |t::l,tm,h,H,t',ht'=>by
  cases H with
  |cons t l tm h ho hk hs hl =>
   rcases QuL.1 ht' with rfl|h'
   ·exact ho
   ·exact QcK hl t' h'
theorem QdC{ops:Array Oper}{listed:Array Bool}(hsz:listed.size=ops.size)(hr:Region.ready .any ops listed=[]):∀(l:List (Nat×Nat)) (pre:List Nat),topo ops pre l=true->(∀i∈pre,listed.getD i false=true)->∀p∈l,listed.getD p.1 false=true
 |[],_,_,_,p,hp=>by cases hp
 |(i,c)::l,pre,h,hpre,p,hp=>by
  simp only[topo,QuR]at h
  have hi:listed.getD i false=true:=by
   cases ho:ops[i]? with
   |none=>simp[ho]at h
   |some o =>
    have hlt:i<ops.size:=(QuP.1 ho).1
    cases hb:listed.getD i false with
    |true=>rfl
    |false =>
     have:i∈Region.ready .any ops listed:=mem_ready.2 ⟨by
      rw[QuO,QuV (by omega)]at hb ⊢
      simpa using hb,o,ho,fun e he hbd=>by
       simp only[ho,Qvg]at h
       have:=h.1 e (QvT.1 he)
       rw[hbd]at this
       exact hpre _ (by simpa using this)⟩
     rw[hr]at this;cases this
  rcases QuL.1 hp with rfl|hp'
  ·exact hi
  ·exact QdC hsz hr l (i::pre) h.2 (fun j hj=>by
    rcases QuL.1 hj with rfl|hj
    ·exact hi
    ·exact hpre j hj) p hp'
theorem QaJ{listed:Array Bool}{i j:Nat}(hi:i<listed.size):(listed.setIfInBounds i true).getD j false=(decide (j=i)||listed.getD j false):=by
 rw[QuO,QuO]
 by_cases h:j=i
 ·subst h;rw[Qvv hi];simp
 ·rw[Qvp (fun e=>h e.symm)];simp[h]
theorem Qpq{P:Program}{N:Nat}{base:Bs×Fence}{ops:Array Oper}{F:Fence}{n:Nat}(hF:WF F){Qx:Exit->Act->World->Prop}{tr:List Tr}{tm0:Nat->AV}{h0:AH}(hruns:Runs P N ops tr tm0 h0)
  (hpw:tr.Pairwise (fun a b=>clash ops a.o b.o a.c b.c=true->Anc ops a.i b.i)) (htopo:topo ops [] (tr.map fun t=>(t.i,t.c))=true) (hnd:(tr.map (·.i)).Nodup) (hall:∀i,i<ops.size->∃t∈tr,t.i=i) (hkind:∀t∈tr,kindOk t.o t.c=true) :
  ∀(fuel:Nat) (listed:Array Bool) (c:Cx) (a:Act),listed.size=ops.size->Down ops (fun i=>listed.getD i false)->St c->SR N base c ⟨tmS N (fun i=>listed.getD i false) tr tm0,hS (fun i=>listed.getD i false) tr h0⟩ a ->
   tr.countP (fun t=>!listed.getD t.i false)<=fuel ->
   (∀c' a',Ev c c'->St c'->SR N base c' ⟨tmS N (fun _=>true) tr tm0,hS (fun _=>true) tr h0⟩ a'->Qx .normal a' c'.w)->wpAnyIn F n P .any ops Qx fuel listed a c.w:=by
 -- the end
 have done:∀(listed:Array Bool) (c:Cx) (a:Act),listed.size=ops.size->St c->SR N base c ⟨tmS N (fun i=>listed.getD i false) tr tm0,hS (fun i=>listed.getD i false) tr h0⟩ a ->
   (∀c' a',Ev c c'->St c'->SR N base c' ⟨tmS N (fun _=>true) tr tm0,hS (fun _=>true) tr h0⟩ a'->Qx .normal a' c'.w)->(∀t∈tr,listed.getD t.i false=true)->Qx .normal a c.w:=by
  intro listed c a hsz hst hr hQ hl
  refine hQ c a (Ev.refl c) hst ?_
  have e1:tmS N (fun i=>listed.getD i false) tr tm0=tmS N (fun _=>true) tr tm0:=funext fun x=>QaM rfl fun t ht _=>hl t ht
  have e2:hS (fun i=>listed.getD i false) tr h0=hS (fun _=>true) tr h0:=Qbu fun t ht _=>hl t ht
  rw[e1,e2]at hr
  exact hr
 have ready0:∀(listed:Array Bool),listed.size=ops.size->Region.ready .any ops listed=[]->∀t∈tr,listed.getD t.i false=true:=fun listed hsz h t ht =>
  QdC hsz h _ [] htopo (fun i hi=>by cases hi) (t.i,t.c) (QuZ.2 ⟨t,ht,rfl⟩)
 intro fuel
 induction fuel with
 |zero =>
  intro listed c a hsz hd hst hr hc hQ
  have hl:∀t∈tr,listed.getD t.i false=true:=fun t ht=>by
   have:=List.countP_eq_zero.1 (Nat.le_zero.1 hc) t ht
   simpa using this
  refine⟨?_,done listed c a hsz hst hr hQ hl⟩
  cases hrd:Region.ready .any ops listed with
  |nil=>rfl
  |cons i l =>
   have hi:i∈Region.ready .any ops listed:=by rw[hrd];simp
   obtain⟨h1,o,ho,_⟩:=mem_ready.1 hi
   have hlt:i<ops.size:=(QuP.1 ho).1
   obtain⟨t,ht,rfl⟩:=hall i hlt
   have:=hl t ht
   rw[QuO,QuV (by omega)]at this h1
   simp only[Qwh]at this h1
   rw[this]at h1;cases h1
 |succ fuel ih =>
  intro listed c a hsz hd hst hr hc hQ
  refine⟨fun h=>done listed c a hsz hst hr hQ (ready0 listed hsz h),fun i hi=>?_⟩
  obtain⟨h1,o,ho,hedge⟩:=mem_ready.1 hi
  have hlt:i<ops.size:=(QuP.1 ho).1
  have hSi:listed.getD i false=false:=by
   rw[QuO,QuV (by omega)]at h1 ⊢
   simpa using h1
  obtain⟨t,ht,rfl⟩:=hall i hlt
  obtain⟨pre,post,htr⟩:=List.append_of_mem ht
  have hto:t.o=o:=by
   have:=QcK hruns t ht
   rw[ho]at this;cases this;rfl
  subst hto
  -- the set with it
  have hS':∀j,(listed.setIfInBounds t.i true).getD j false=(decide (j=t.i)||listed.getD j false):=fun j=>QaJ (by omega)
  have hd':Down ops (fun j=>(listed.setIfInBounds t.i true).getD j false):=by
   intro j oj hoj hj e he hb
   dsimp only at hj ⊢
   rw[hS']at hj ⊢
   by_cases hji:j=t.i
   ·subst hji
    rw[ho]at hoj;cases hoj
    rw[hedge e he hb];simp
   ·have:listed.getD j false=true:=by simpa [hji]using hj
    have h2:listed.getD e.on false=true:=hd j oj hoj this e he hb
    rw[h2];simp
  have hanc:∀j,Anc ops j t.i->j≠t.i->listed.getD j false=true:=fun j hj hne=>by
   have:=hd'.anc hj (by show _=true;rw[hS'];simp)
   have h2:(listed.setIfInBounds t.i true).getD j false=true:=this
   rw[hS']at h2
   simpa [hne]using h2
  have hnot:∀j,Anc ops t.i j->listed.getD j false=false:=fun j hj=>by
   cases hb:listed.getD j false with
   |false=>rfl
   |true=>have:=hd.anc hj hb;rw[hSi]at this;cases this
  -- the others
  have hne:∀b,b∈pre\/b∈post->b.i≠t.i:=by
   rw[htr]at hnd
   simp only[Qvr,QtU]at hnd
   obtain⟨n1,n2,n3⟩:=List.nodup_append.1 hnd
   intro b hb e
   rcases hb with hb|hb
   ·exact n3 b.i (QuZ.2 ⟨b,hb,rfl⟩) t.i (by simp) e
   ·exact(Qwt.1 n2).1 (QuZ.2 ⟨b,hb,e⟩)
  rw[htr]at hpw
  obtain⟨p1,p2,p3⟩:=List.pairwise_append.1 hpw
  obtain⟨p4,p5⟩:=Qwa.1 p2
  have hpre:∀b∈pre,clash ops b.o t.o b.c t.c=true->listed.getD b.i false=true:=fun b hb hcl=>hanc _ (p3 b hb t (by simp) hcl) (hne b (.inl hb))
  have hpost:∀b∈post,clash ops t.o b.o t.c b.c=true->listed.getD b.i false=false:=fun b hb hcl=>hnot _ (p4 b hb hcl)
  have hsame:∀b,b∈pre\/b∈post->(listed.setIfInBounds t.i true).getD b.i false=listed.getD b.i false:=fun b hb=>by
   rw[hS'];simp[hne b hb]
  -- what it looks at
  have hsplit:=hruns
  rw[htr]at hsplit
  have hs2:=Runs.split hsplit
  have hstep:StepA P ops (tmS N (fun _=>true) pre tm0) (hS (fun _=>true) pre h0) t.c t.o t.r t.h':=by cases hs2 with|cons _ _ _ _ _ _ hs _=>exact hs
  have hk:kindOk t.o t.c=true:=hkind t ht
  have hreads:∀x∈readsOf ops t.o,tmS N (fun i=>listed.getD i false) tr tm0 x=tmS N (fun _=>true) pre tm0 x:=by
   intro x hx
   rw[htr,Qbj,Qak]
   ·refine QaM rfl fun b hb hbd=>hpre b hb ?_
    unfold clash;rw[hbd];simp[hx]
   ·intro b hb hbS hbd
    rcases QuL.1 hb with rfl|hb
    ·rw[hSi]at hbS;cases hbS
    ·rw[hpost b hb (by unfold clash;rw[hbd];simp[hx])]at hbS;cases hbS
  have hclash2:∀b∈pre,2<=b.c->t.c≠1->listed.getD b.i false=true:=fun b hb h2 ht1=>hpre b hb (by unfold clash;simp[h2,ht1])
  have hheapPre:t.c≠1->hS (fun i=>listed.getD i false) pre h0=hS (fun _=>true) pre h0:=fun ht1=>Qbu fun b hb h2=>hclash2 b hb h2 ht1
  have hh:(2<=t.c/\hS (fun i=>listed.getD i false) tr h0=hS (fun _=>true) pre h0)\/(t.c<2/\(t.c=1\/Keep (hS (fun _=>true) pre h0) (hS (fun i=>listed.getD i false) tr h0))):=by
   by_cases hc2:2<=t.c
   ·refine .inl ⟨hc2,?_⟩
    rw[htr,Qbv,Qbd,hheapPre (by omega)]
    intro b hb hbc
    rcases QuL.1 hb with rfl|hb
    ·exact hSi
    ·have h1:b.c≠1:=by omega
     exact hpost b hb (by unfold clash;simp[hc2,h1])
   ·refine .inr ⟨by omega,?_⟩
    by_cases hc1:t.c=1
    ·exact .inl hc1
    ·refine .inr ?_
     rw[htr,Qbv,hheapPre hc1]
     refine Runs.keep hs2 ?_ ?_
     ·intro b hb hbc hbS
      rcases QuL.1 hb with rfl|hb
      ·exact(hc2 hbc).elim
      ·cases hadd:((Qc9 b.o.op&&b.c != 4)||b.c==3)with
       |true=>rfl
       |false =>
        rw[hpost b hb (by unfold clash;rw[hadd];simp[hc1,hc2,hbc])]at hbS;cases hbS
     ·refine p2.imp ?_
      intro x y hxy hx hy hyS
      have h1:y.c≠1:=by omega
      exact hd.anc (hxy (by unfold clash;simp[hx,h1])) hyS
  -- the state behind it
  have hpreS:tmS N (fun i=>(listed.setIfInBounds t.i true).getD i false) pre tm0=tmS N (fun i=>listed.getD i false) pre tm0:=funext fun x=>QaM rfl fun b hb _=>hsame b (.inl hb)
  have hpreH:hS (fun i=>(listed.setIfInBounds t.i true).getD i false) pre h0=hS (fun i=>listed.getD i false) pre h0:=Qbu fun b hb _=>hsame b (.inl hb)
  have hSt:(listed.setIfInBounds t.i true).getD t.i false=true:=by rw[hS'];simp
  have hstm:tmS N (fun i=>(listed.setIfInBounds t.i true).getD i false) tr tm0=putT N (tmS N (fun i=>listed.getD i false) tr tm0) t.o.dst t.r:=by
   funext x
   rw[htr,Qbj,Qbj,hpreS]
   simp only[tmS,hSt,hSi,QvB,QtJ,Qvy]
   by_cases hdx:t.o.dst=some x
   ·have hskip:∀b∈post,b.o.dst=some x->listed.getD b.i false=false:=fun b hb hbd=>hpost b hb (by unfold clash;rw[hdx,hbd];simp)
    rw[Qak (fun b hb hbS hbd=>by rw[hsame b (.inr hb),hskip b hb hbd]at hbS;cases hbS)]
    have e:=Qak (N:=N) (S:=fun i=>listed.getD i false) (x:=x) (l:=post) (f:=tmS N (fun i=>listed.getD i false) pre tm0) (fun b hb hbS hbd=>by rw[hskip b hb hbd]at hbS;cases hbS)
    exact Qd1 (fun _=>e.symm) (.inl e.symm)
   ·rw[Qd2 hdx]
    exact QaM (Qd2 hdx) fun b hb _=>hsame b (.inr hb)
  have hshp:hS (fun i=>(listed.setIfInBounds t.i true).getD i false) tr h0=if 2<=t.c then t.h' else hS (fun i=>listed.getD i false) tr h0:=by
   rw[htr,Qbv,Qbv,hpreH]
   simp only[hS,hSt,hSi,Qup,Qwl,QtJ,Qvy,Qvi]
   by_cases hc2:2<=t.c
   ·rw[QuH hc2,QuH hc2]
    refine Qbd fun b hb hbc=>?_
    rw[hsame b (.inr hb)]
    have h1:b.c≠1:=by omega
    exact hpost b hb (by unfold clash;simp[hc2,h1])
   ·rw[QuE hc2,QuE hc2]
    exact Qbu fun b hb _=>hsame b (.inr hb)
  have hcount:tr.countP (fun u=>!(listed.setIfInBounds t.i true).getD u.i false)<=fuel:=by
   rw[htr]at hc ⊢
   simp only[List.countP_append,List.countP_cons,hSt,hSi,Qt2,Qt3,QtJ,Qvy,QvB]at hc ⊢
   have c1:pre.countP (fun u=>!(listed.setIfInBounds t.i true).getD u.i false)=pre.countP (fun u=>!listed.getD u.i false):=List.countP_congr fun b hb=>by rw[hsame b (.inl hb)]
   have c2:post.countP (fun u=>!(listed.setIfInBounds t.i true).getD u.i false)=post.countP (fun u=>!listed.getD u.i false):=List.countP_congr fun b hb=>by rw[hsame b (.inr hb)]
   rw[c1,c2];omega
  have next:∀c' a',Ev c c'->St c'->SR N base c' (AS.put N ⟨tmS N (fun i=>listed.getD i false) tr tm0,if 2<=t.c then t.h' else hS (fun i=>listed.getD i false) tr h0⟩ t.o.dst t.r) a' ->
    wpAnyIn F n P .any ops Qx fuel (listed.setIfInBounds t.i true) a' c'.w:=by
   intro c' a' hev hst' hr'
   rw[put_eq,<-hstm,<-hshp]at hr'
   exact ih _ c' a' (by simpa using hsz) hd' hst' hr' hcount fun c2 a2 e2 s2 r2=>hQ c2 a2 (Ev.trans hst hev e2) s2 r2
  unfold wpOpIn
  simp only[ho]
  rcases hstep.turn hk hreads hh N with⟨hw,hru,hhe⟩|⟨hw,hop|hop⟩
  ·rw[XY hr hw]
   simp only[QtJ,Qvy]
   refine⟨fun f _=>hF.fn f,?_⟩
   have hr':=hr.put hst (Ev.refl c) t.o.dst (.v undef)
   rw[hr.h]at hr'
   refine next c _ (Ev.refl c) hst ?_
   rw[hhe,hru]
   exact hr'
  ·rw[XY hr hw]
   simp only[QvB]
   refine Qcr (hop (fun s'=>s'=AS.put N ⟨tmS N (fun i=>listed.getD i false) tr tm0,if 2<=t.c then t.h' else hS (fun i=>listed.getD i false) tr h0⟩ t.o.dst t.r) (fun _ _=>False) rfl) hF hst hr ?_ ?_
   ·intro s' c' a' hs hev hst' hr'
    subst hs
    exact next c' a' hev hst' hr'
   ·intro r s' c' x hf
    exact hf.elim
  ·rw[XY hr hw]
   simp only[QvB]
   refine Qg1 (K:=fun s'=>s'=AS.put N ⟨tmS N (fun i=>listed.getD i false) tr tm0,if 2<=t.c then t.h' else hS (fun i=>listed.getD i false) tr h0⟩ t.o.dst t.r) hop rfl hF hst hr ?_
   intro s' c' a' hs hev hst' hr'
   subst hs
   exact next c' a' hev hst' hr'
theorem Qh{P:Program}{N:Nat}{Q:AExit->AS->Prop}{s:AS}{id:Nat}{ops:Array Oper}(π:List (Nat×Nat))(hm:P.follows .mixedOrders=true)(hok:Qp0 ops π=true)
  (H:∀(K:AS->Prop),(∀s,Q .normal s->K s)->AnyW P N ops π K s):Yr P N (.region id ops true) Q s:=by
 intro F n base c a hF hst hr R hR
 refine wpIn_region_any hm ?_
 obtain⟨tm,hp⟩:=s
 simp only[Qp0,QuR]at hok
 obtain⟨⟨⟨⟨⟨hp0,hp1⟩,hp2⟩,hp3⟩,hp4⟩,hp5⟩:=hok
 obtain⟨tr,rfl,hruns,hK⟩:=Qb7 (H _ (fun s h=>h)) hp5
 have hev:Ev c (c.to {c.w with drawn:=c.w.drawn+1}):=Ev.idle hst (Ev.refl c) rfl rfl rfl rfl fun k=>.inl rfl
 have hst':St (c.to {c.w with drawn:=c.w.drawn+1}):=hst.idle rfl fun k o hk=>.inl hk
 have hr':SR N (base,F) (c.to {c.w with drawn:=c.w.drawn+1}) ⟨tm,hp⟩ a:=⟨hr.h,hr.size,Qu1 hr.above hev.size,hr.defers.ev hev,RoundOk.ev hev hr.round,fun t=>(hr.tm t).ev hst hev⟩
 have hops:=QcK hruns
 have hnone:∀j,(Array.replicate ops.size false).getD j false=false:=fun j=>by
  rw[QuO,QvS]
  split <;> rfl
 refine Qpq (base:=(base,F)) hF hruns (QdZ (Qbx ops.toList [] (fun j o h=>by simpa using h) (fun k i h=>by simp at h)) tr hp1 hops) hp2 ?_ ?_ ?_ _ _ (c.to {c.w with drawn:=c.w.drawn+1}) a (by simp) ?_ hst' ?_ ?_ ?_
 ·have:=QcF hp3
  rw[Qv7]at this
  exact this
 ·intro i hi
  have:=Qvg.1 hp4 i (List.mem_range.2 hi)
  have:i∈(tr.map fun t=>(t.i,t.c)).map (·.1):=by simpa using this
  rw[Qv7]at this
  obtain⟨t,ht,rfl⟩:=QuZ.1 this
  exact⟨t,ht,rfl⟩
 ·intro t ht
  have:=Qvg.1 hp5 (t.i,t.c) (QuZ.2 ⟨t,ht,rfl⟩)
  simpa [hops t ht]using this
 ·intro j o ho hj
  simp only at hj
  rw[hnone]at hj;cases hj
 ·have e1:tmS N (fun i=>(Array.replicate ops.size false).getD i false) tr tm=tm:=funext fun x=>Qak fun t _ h=>by rw[hnone]at h;cases h
  have e2:hS (fun i=>(Array.replicate ops.size false).getD i false) tr hp=hp:=Qbd fun t _ _=>hnone _
  rw[e1,e2];exact hr'
 ·-- asx many asx there are
  have:tr.length<=ops.size:=by
   have:=Qvx.1 hp0
   simp only[Qu6]at this;omega
  exact Qu1 List.countP_le_length this
 ·intro c' a' h1 h2 h3
  exact hR _ _ c' a' _ hK (Ev.trans hst hev h1) h2 h3 rfl
theorem Qi{P:Program}{N:Nat}{Q:AExit->AS->Prop}{s:AS}{id:Nat}{ops:Array Oper}{y:Code}(π:List (Nat×Nat))(hm:P.follows .mixedOrders=true)(hok:Qp0 ops π=true)
  (H:∀(K:AS->Prop),(∀s,Yr P N y Q s->K s)->AnyW P N ops π K s):Yr P N (.seq (.region id ops true) y) Q s :=
 Qav (Qh π hm hok fun K hK=>H K hK)
section
variable(P:Program)(N:Nat)(ops:Array Oper)(tm:Nat->AV)(h:AH)(K:AS->Prop)
theorem XT:AnyW P N ops [] K ⟨tm,h⟩=K ⟨tm,h⟩:=rfl
theorem XF(i c:Nat)(l:List (Nat×Nat)):AnyW P N ops ((i,c)::l) K ⟨tm,h⟩=(match ops[i]? with|some o=>AnyO P N ops c o ⟨tm,h⟩ (AnyW P N ops l K)|none=>False):=rfl
theorem Yj(c:Nat)(o:Oper):AnyO P N ops c o ⟨tm,h⟩ K=(match QN ops tm o with
 |some false=>K (AS.put N ⟨tm,h⟩ o.dst (.v undef))
 |some true =>
  match o.op with
  | .call ⟨.value f,args,tys⟩=>if 2<=c then QpV P N c (AS.ev ⟨tm,h⟩ f) (args.toList.map (AS.ev ⟨tm,h⟩)) ⟨tm,h⟩ o.dst K else if c=0 then QpW P N (AS.ev ⟨tm,h⟩ f) (args.toList.map (AS.ev ⟨tm,h⟩)) ⟨tm,h⟩ o.dst K else QpU P N (AS.ev ⟨tm,h⟩ f) (args.toList.map (AS.ev ⟨tm,h⟩)) ⟨tm,h⟩ o.dst K
  |op=>if 5<=c then(match tokA c P (AS.ev ⟨tm,h⟩) h op with
    |some (r,h')=>K (AS.put N ⟨tm,h'⟩ o.dst r)
    |none=>False)else match aop P (AS.ev ⟨tm,h⟩) o.type (if c=1 then[]else h) op with
   |some (r,h')=>K (AS.put N ⟨tm,if c=1 then h else h'⟩ o.dst r)
   |none=>c=4/\match aopR P (AS.ev ⟨tm,h⟩) h op with
    |some (r,h')=>K (AS.put N ⟨tm,h'⟩ o.dst r)
    |none=>False
 |none=>False):=rfl
end
end Go.Proofs.YticgcpebdldbgaaGreatDoor.Ab
namespace Go.Proofs.YticgcpebdldbgaaGreatDoor.Ab
theorem Qg2{c:Cx}(e s:Nat):∀b,some c.h.length=some b->(c.add c.w (.grow e s 0) none).tokNil b s:=by
 intro b hb
 cases hb
 refine⟨by simp[Cx.add],fun e2 s2 n2 hg2=>?_⟩
 simp[Cx.add]at hg2
 exact⟨hg2.2.1.symm,fun _=>by simp[Cx.add]⟩
theorem Zu{P:Program}{N:Nat}{code:Code}{Q:AExit->AS->Prop}{tm:Nat->AV}{h:AH}(d e s:Nat)(hd:tm d = .v (.slice none 0 0))
  (H:Yr P N code Q ⟨upd tm d (.sl s [] (some h.length)),h++[.grow e s 0]⟩):Yr P N code Q ⟨tm,h⟩:=by
 intro F n base c a hF hst hr R hR
 have hh:c.h=h:=hr.h
 subst hh
 have hg:=Grows.refl c.w
 have ho:∀B,(none:Option Nat)=some B->c.w.heap.size<=B:=fun B h=>by cases h
 have hev:=Ev.add hst hg (.grow e s 0) none ho
 have hρ:(c.add c.w (.grow e s 0) none).ρ c.h.length=none:=by simp[Cx.add]
 have hst':St (c.add c.w (.grow e s 0) none):=St.add hst hg _ _ ho (fun B hB=>by rw[hρ]at hB;cases hB)
 refine H F n base (c.add c.w (.grow e s 0) none) a hF hst' ⟨rfl,hr.size,hr.above,hr.defers.ev hev,RoundOk.ev hev hr.round,fun t=>?_⟩ R fun e' s' c' a' ex hq h1 h2 h3 h4=>hR e' s' c' a' ex hq (Ev.trans hst hev h1) h2 h3 h4
 simp only[upd]
 split
 ·rename_i ht
  subst ht
  have h1:=hr.tm t
  simp only[hd]at h1
  generalize hu:a.tmps.getD t undef=u at h1
  cases h1
  exact .slnil _ _ (Qg2 e s)
 ·exact(hr.tm t).ev hst hev
inductive T where
 |mk (kind int:Int) (name:ByteArray) (args:List T)
 deriving Inhabited
def T.kind:T->Int | .mk k _ _ _=>k
def T.int:T->Int | .mk _ i _ _=>i
def T.name:T->ByteArray | .mk _ _ n _=>n
def T.args:T->List T | .mk _ _ _ l=>l
mutual
def T.av:T->AV
 | .mk k i n l=>.agg [.v (.int .i64 k),.v (.int .i64 i),.v (.string n),.sl 4 (avs l) none]
def avs:List T->List AV
 |[]=>[]
 |t::l=>t.av::avs l
end
theorem QeY:∀l:List T,avs l=l.map T.av
 |[]=>rfl
 |t::l=>by simp only[avs,QtU,QeY l]
theorem QeZ:avs []=[]:=rfl
theorem QG(l:List T):(avs l).length=l.length:=by rw[QeY,Qu6]
theorem QdI(l m:List T):avs (l++m)=avs l++avs m:=by simp only[QeY,Qvr]
theorem QaW{l:List T}{k:Nat}(h:k<l.length):(avs l)[k]? = some (l[k]).av:=by
 rw[QeY,Qu2,QuC h];rfl
theorem T.QsS(t:T):t.av.cells=[.v (.int .i64 t.kind),.v (.int .i64 t.int),.v (.string t.name),.sl 4 (avs t.args) none]:=by cases t;rfl
theorem T.QsT(t:T):t.av.isAgg=true:=by cases t;rfl
mutual
theorem T.Qs2(n:Nat):∀t:T,Below n t.av
 | .mk k i nm l=>by
  simp only[T.av]
  refine .agg _ fun a ha=>?_
  simp only[QuL,QuS,Qvz]at ha
  rcases ha with rfl|rfl|rfl|rfl
  ·exact .v _
  ·exact .v _
  ·exact .v _
  ·exact .sl 4 _ none (Qdc n l) (fun b hb=>by cases hb)
theorem Qdc(n:Nat):∀l:List T,∀a∈flat (avs l),Below n a
 |[],a,ha=>by simp[avs,flat]at ha
 |t::l,a,ha=>by
  simp only[avs,XK,Qvh]at ha
  rcases ha with ha|ha
  ·have h1:=T.Qs2 n t
   cases t with
   |mk k i nm l' =>
    simp only[T.av]at h1
    cases h1 with
    |agg _ h=>exact h a (by simpa only[T.av,AV.cells]using ha)
  ·exact Qdc n l a ha
end
theorem Qca(n:Nat)(l:List T):Below n (.sl 4 (avs l) none):=.sl 4 _ none (Qdc n l) (fun b hb=>by cases hb)
def ints(l:List Int):List AV:=l.map fun n=>.v (.int .i64 n)
theorem Qs(l:List Int):(ints l).length=l.length:=Qu6 _
theorem QoB:ints []=[]:=rfl
theorem Qks(n:Int):ints [n]=[.v (.int .i64 n)]:=rfl
theorem Qfn(l m:List Int):ints (l++m)=ints l++ints m:=Qvr
theorem QbM{l:List Int}{k:Nat}(h:k<l.length):(ints l)[k]? = some (.v (.int .i64 l[k])):=by
 rw[ints,Qu2,QuC h];rfl
theorem Qcl(n:Nat)(l:List Int):∀a∈flat (ints l),Below n a:=by
 intro a ha
 simp only[flat,ints,Qv1,QuZ]at ha
 obtain⟨x,⟨y,_,rfl⟩,hx⟩:=ha
 simp only[AV.cells,Qvt]at hx
 subst hx
 exact .v _
theorem rng0:List.range 0=[]:=rfl
theorem rng1:List.range 1=[0]:=rfl
theorem rng2:List.range 2=[0,1]:=rfl
theorem rng3:List.range 3=[0,1,2]:=rfl
theorem rng4:List.range 4=[0,1,2,3]:=rfl
theorem rng5:List.range 5=[0,1,2,3,4]:=rfl
theorem rng6:List.range 6=[0,1,2,3,4,5]:=rfl
theorem rng7:List.range 7=[0,1,2,3,4,5,6]:=rfl
theorem rng8:List.range 8=[0,1,2,3,4,5,6,7]:=rfl
theorem XQ{α:Type}(p:α->Bool)(x:α):Option.any p (some x)=p x:=rfl
def Pure(P:Program)(f:FuncId)(args:List AV)(r:AV):Prop:=∀h,QA P f args h fun o h'=>o = .ret r/\h'=h
theorem Qe{P:Program}{f:FuncId}{args:List AV}{r:AV}{h:AH}{C:AOut->AH->Prop}(H:Pure P f args r)(k:C (.ret r) h):FunW P (.fn (.func f) [] []) args h C:=by
 refine FunW.fn ?_
 rw[Qt6,Qt8]
 exact(H h).mono (by rintro _ _ ⟨rfl,rfl⟩;exact k)
theorem ZJ{P:Program}{N:Nat}{f:FuncId}{args:List AV}{r:AV}{s:AS}{d:Option Tmp}{K:AS->Prop}(H:Pure P f args r)(k:K (AS.put N s d r)):QpU P N (.fn (.func f) [] []) args s d K :=
 ⟨r,fun hx=>Qe H ⟨rfl,rfl⟩,k⟩
theorem Qc{h h':AH}{r r':AV}{Q:AV->AH->Prop}(ht:h'.take h.length=h)(hf:Frz h' h.length r r')(hq:Q r' h):Leaves h h' r Q:=by
 refine .inl ⟨h.length,r',QuD _,?_,.inl ht,hf,by rw[ht];exact hq⟩
 have:=Qvq List.length ht
 rw[QuY]at this
 omega
theorem QmS(h:AH):h.take h.length=h:=QuA
theorem Ya{n:Int}(h : -9223372036854775808<=n/\n<=9223372036854775807):IntKind.i64.wrap n=n:=IntWalk.i64_in n h
theorem XM{n:Nat}(h:n<=9223372036854775806):IntKind.i64.wrap ((n:Int)+1)=((n+1:Nat):Int):=by
 rw[Ya (by omega)];omega
def T.uses(t:T):List T:=if t.kind=2 then t.args else[]
mutual
def T.size:T->Nat
 | .mk k _ _ l=>1+(if k=2 then sizes l else 0)
def sizes:List T->Nat
 |[]=>0
 |t::l=>t.size+sizes l
end
theorem T.size_eq(t:T):t.size=1+sizes t.uses:=by
 cases t with|mk k i n l=>simp only[T.size,T.uses,T.kind,T.args];by_cases hk:k=2 <;> simp[hk,sizes]
theorem Qey(l m:List T):sizes (l++m)=sizes l+sizes m:=by
 induction l with
 |nil=>simp[sizes]
 |cons t l ih=>simp only[Qt7,sizes,ih];omega
theorem Qcx{l:List T}{k:Nat}(h:k<l.length):sizes (l.take (k+1))=sizes (l.take k)+(l[k]).size:=by
 rw[Qu4 h,Qey];simp[sizes]
theorem Qdx(l:List T)(k:Nat):sizes (l.take k)<=sizes l:=by
 have:=Qey (l.take k) (l.drop k)
 rw[Qvl]at this
 omega
theorem size_pos(t:T):1<=t.size:=by rw[T.size_eq];omega
theorem Qco(l:List T):l.length<=sizes l:=by
 induction l with
 |nil=>simp
 |cons t l ih=>have:=size_pos t;simp only[QtS,sizes];omega
def LoopA.at(i:LoopA)(st:LoopState)(pend:Option Code):LoopA:={i with st:=st,pend:=pend}
theorem Qmg{c:Cx}(hs:St c)(e s:Nat):Ev c (c.add c.w (.grow e s 0) none)/\St (c.add c.w (.grow e s 0) none):=by
 have hg:=Grows.refl c.w
 have ho:∀B,(none:Option Nat)=some B->c.w.heap.size<=B:=fun B h=>by cases h
 have hρ:(c.add c.w (.grow e s 0) none).ρ c.h.length=none:=by simp[Cx.add]
 exact⟨Ev.add hs hg (.grow e s 0) none ho,St.add hs hg _ _ ho (fun B hB=>by rw[hρ]at hB;cases hB)⟩
theorem Qjw{P:Program}{fv:AV}{args:List AV}{h:AH}{Q:AOut->AH->Prop}(e s:Nat)(H:FunW P fv (.sl s [] (some h.length)::args) (h++[.grow e s 0]) Q):FunW P fv (.v (.slice none 0 0)::args) h Q:=by
 intro F n c v vals hF hs hh hv hvs o a next Qx h1 h2
 subst hh
 obtain⟨hev,hst1⟩:=Qmg hs e s
 refine H F n (c.add c.w (.grow e s 0) none) v vals hF hst1 rfl (hv.ev hs hev) ⟨hvs.1,fun j a u hj hu=>?_⟩ o a next Qx (fun r c' x hQ he=>h1 r c' x hQ (Ev.trans hs hev he)) (fun r c' x hQ he=>h2 r c' x hQ (Ev.trans hs hev he))
 cases j with
 |zero =>
  simp only[QtF,QtL]at hj
  subst hj
  have:=hvs.2 0 _ u rfl hu
  cases this
  exact .slnil _ _ (Qg2 e s)
 |succ j=>exact(hvs.2 (j+1) a u (by simpa using hj) hu).ev hs hev
theorem Qfg{h:AH}{m:Nat}{x y:AV}(hf:Frz h m x y):∀(j:Nat) (a a':AV),[x][j]? = some a->[y][j]? = some a'->Frz h m a a'
 |0,a,a',h1,h2=>by simp at h1 h2;subst h1;subst h2;exact hf
 |j+1,a,a',h1,_=>by simp at h1
theorem Qbo{h:AH}{m:Nat}{x y:AV}{l l':List AV}(hf:Frz h m x y)(hl:∀(j:Nat) (a a':AV),l[j]? = some a->l'[j]? = some a'->Frz h m a a'):∀(j:Nat) (a a':AV),(x::l)[j]? = some a->(y::l')[j]? = some a'->Frz h m a a'
 |0,a,a',h1,h2=>by simp at h1 h2;subst h1;subst h2;exact hf
 |j+1,a,a',h1,h2=>hl j a a' (by simpa using h1) (by simpa using h2)
def ikey(n:Int):Value:=.int .i64 n
def imap(l:List (Int×AV)):List (Value×AV):=l.map fun p=>(ikey p.1,p.2)
def Qhr(k:Int):List (Int×AV)->Option AV
 |[]=>none
 |p::l=>if k=p.1 then some p.2 else Qhr k l
theorem Qpi(a b:Int):Instr.sameNow (.int .i64) (ikey a) (ikey b)=some (a==b):=rfl
theorem Qfe(k:Int):∀l:List (Int×AV),Qhl (.int .i64) (.int .i64 k) (imap l)=some (Qhr k l)
 |[]=>rfl
 |p::l=>by
  have h:=Qpi k p.1
  have e:imap (p::l)=(ikey p.1,p.2)::imap l:=rfl
  rw[e]
  simp only[Qhl,Qhr]
  rw[show Instr.sameNow (.int .i64) (.int .i64 k) (ikey p.1)=some (k==p.1)from rfl]
  by_cases hk:k=p.1
  ·rw[QuH hk,show(k==p.1)=true by simpa using hk]
  ·rw[QuE hk,show(k==p.1)=false by simpa using hk]
   exact Qfe k l
theorem QkX(k:Int)(v:AV):∀l:List (Int×AV),Qhr k l=none->updA (.int .i64) (.int .i64 k) v (imap l)=some (imap (l++[(k,v)]))
 |[],_=>rfl
 |p::l,hn=>by
  have e:imap (p::l)=(ikey p.1,p.2)::imap l:=rfl
  rw[e]
  simp only[Qhr]at hn
  split at hn
  ·cases hn
  ·rename_i hk
   simp only[updA]
   rw[show Instr.sameNow (.int .i64) (.int .i64 k) (ikey p.1)=some (k==p.1)from rfl,show(k==p.1)=false by simpa using hk,QkX k v l hn]
   rfl
theorem Qqv(P:Program)(s d:TypeId){ts:TypeDesc}{kd:IntKind}(hs:P.underlying s=some ts)(hd:P.underlying d=some (.int kd))(k:IntKind)(a:Int):pv P (convert s d (.int k a))=some (.int kd (kd.wrap a)):=by
 have hp:∀{α:Type} (x:α),pv P (pure x)=some x:=fun _=>rfl
 simp only[convert,underlying]
 rw[Qac,Qac]
 simp only[program,pv,QtK,hs,hp]
 rw[Qac,Qac]
 simp only[program,pv,QtK,hd,hp]
 rfl
theorem QjM{P:Program}{N:Nat}{ops:Array Oper}{E:AV->AS->Prop}:∀(l1 l2:List Oper) (K K':AS->Prop) (s:AS),(∀s,OpsW P N ops l2 K E s->K' s)->OpsW P N ops l2 K E=K'->OpsW P N ops l1 K' E s->OpsW P N ops (l1++l2) K E s
 |[],l2,K,K',s,_,e,h=>by subst e;exact h
 |o::l1,l2,K,K',s,hK,e,h=>by
  subst e
  have ih:OpsW P N ops (l1++l2) K E=OpsW P N ops l1 (OpsW P N ops l2 K E) E:=by
   clear h hK s o
   funext s
   apply propext
   induction l1 generalizing s with
   |nil=>exact Iff.rfl
   |cons o l1 ih =>
    have ih':OpsW P N ops (l1++l2) K E=OpsW P N ops l1 (OpsW P N ops l2 K E) E:=funext fun s=>propext (ih s)
    show(match QN ops s.tm o with|some true=>OpW P N o s (OpsW P N ops (l1++l2) K E) E|some false=>OpsW P N ops (l1++l2) K E (AS.put N s o.dst (.v undef))|none=>False)↔(match QN ops s.tm o with|some true=>OpW P N o s (OpsW P N ops l1 (OpsW P N ops l2 K E) E) E|some false=>OpsW P N ops l1 (OpsW P N ops l2 K E) E (AS.put N s o.dst (.v undef))|none=>False)
    rw[ih']
  show(match QN ops s.tm o with|some true=>OpW P N o s (OpsW P N ops (l1++l2) K E) E|some false=>OpsW P N ops (l1++l2) K E (AS.put N s o.dst (.v undef))|none=>False)
  rw[ih]
  exact h
theorem ZN{P:Program}{N:Nat}{ops:Array Oper}{E:AV->AS->Prop}{l:List Oper}{K:AS->Prop}{s:AS}(k:Nat)(h:∀K':AS->Prop,(∀s,OpsW P N ops (l.drop k) K E s->K' s)->OpsW P N ops (l.take k) K' E s):OpsW P N ops l K E s:=by
 have:=QjM (l.take k) (l.drop k) K _ s (fun s hs=>hs) rfl (h _ fun s hs=>hs)
 rwa [Qvl]at this
theorem DefOk.cut{c:Cx}{base:Bs}{m:Nat}{ds:List Deferred}(h:DefOk c base ds):DefOk (c.cut m) base ds:=by
 obtain⟨Ds,e,hn,hall⟩:=h
 refine⟨Ds,e,hn,fun D hD=>?_⟩
 obtain⟨h1,h2,h3⟩:=hall D hD
 exact⟨h1,h2,fun⟨id,b,g1,g2,g3⟩=>h3 ⟨id,b,(Z2 g1).2,g2,g3⟩⟩
theorem YO{P:Program}{b:Frame}{a:Act}{k:List Item}{cs:List Frame}{w:World}{c:Code} :
  step P (lone (b.atR a (.code (.scope c)::k)) cs w) = .next (lone (b.atR a (.code c :: .inScope c::k)) cs w) :=
 step_lone_go (by simp[stepG,stepG.exec,Frame.atR])
theorem QbY{P:Program}{b:Frame}{a:Act}{k:List Item}{cs:List Frame}{w:World}{c:Code} :
  step P (lone (b.atR a (.inScope c::k)) cs w) = .next (lone (b.atR a k) cs w) :=
 step_lone_go (by simp[stepG,stepG.exec,Frame.atR])
def Qqk(Q:Exit->Act->World->Prop):Exit->Act->World->Prop
 | .goto _,_,_=>False
 |e,a,w=>Q e a w
theorem Qmb{F:Fence}{n:Nat}{P:Program}{Q:Exit->Act->World->Prop}{a:Act}{w:World}{c:Code}(h:c.wpIn F n P (Qqk Q) a w):(Code.scope c).wpIn F n P Q a w:=by
 intro b k cs hro hb hr
 have h0:(lone (b.atR a (.code (.scope c)::k)) cs w).fenced P F:=fenced_calm hb hr rfl
 obtain⟨e,a₁,w₁,hq,harr⟩:=h b (.inScope c::k) cs hro hb hr
 cases e with
 |normal=>exact⟨.normal,a₁,w₁,hq,.head h0 YO (StepsIn.trans harr (.one (fenced_calm hb hr rfl) QbY))⟩
 |exit id' =>
  have hx:exitTo id' (.inScope c::k)=exitTo id' k:=by simp[exitTo]
  exact⟨.exit id',a₁,w₁,hq,fun k' hk=>.head h0 YO (harr.1 k' (by rw[hx];exact hk)),
   fun hr' hk=>let ⟨k₁,h1,h2⟩:=harr.2 hr' (by rw[hx];exact hk);⟨k₁,h1,.head h0 YO h2⟩⟩
 |goto l=>exact hq.elim
 |ret=>exact⟨_,a₁,w₁,hq,.of_steps (.one h0 YO) harr⟩
 |panic ch=>exact⟨_,a₁,w₁,hq,.of_steps (.one h0 YO) harr⟩
 |outgrown=>exact⟨_,a₁,w₁,hq,.of_steps (.one h0 YO) harr⟩
theorem Xp{P:Program}{N:Nat}{x:Code}{Q:AExit->AS->Prop}{s:AS}(h:Yr P N x Q s):Yr P N (.scope x) Q s:=by
 intro F n base c a hF hs hr R hR
 refine Qmb (h F n base c a hF hs hr _ fun e s' c' a' e' hQ hev hst hsr hex=>?_)
 cases e with
 |normal=>cases hex;exact hR _ s' c' a' _ hQ hev hst hsr rfl
 |exit i=>cases hex;exact hR _ s' c' a' _ hQ hev hst hsr rfl
 |ret=>cases hex;exact hR _ s' c' a' _ hQ hev hst hsr rfl
 |panic av=>obtain⟨x,rfl,hx⟩:=hex;exact hR _ s' c' a' _ hQ hev hst hsr ⟨x,rfl,hx⟩
inductive Kill (h:AH) (id:Nat):AV->AV->Prop
 |keep (a:AV):Kill h id a a
 |arr {lo len s:Nat} {ty:TypeId} {xs:List AV} (hg:h[id]? = some (.cells ty s xs)) (hl:lo+len<=xs.length):Kill h id (.arr id lo len) (.sl s ((xs.drop lo).take len) none)
 |row {lo len cap s:Nat} {ty:TypeId} {xs:List AV} (hg:h[id]? = some (.cells ty s xs)) (hl:lo+len<=xs.length):Kill h id (.row id lo len cap) (.sl s ((xs.drop lo).take len) none)
theorem Qet{c:Cx}(hs:St c){id B ty s:Nat}{xs:List AV}(hg:c.h[id]? = some (.cells ty s xs))(hρ:c.ρ id=some B) :
  (∀x∈xs,x.cells.length=s)/\∃f:Nat->Value,∀(j:Nat) a,(flat xs)[j]? = some a->((c.kill id).cellP B (0+j) (f j)/\(f j).oneCell'=true)/\Rel (c.kill id) a (f j):=by
 obtain⟨B',cur,h1,h2,h3,h4⟩:=hs.blocks id _ hg
 rw[hρ]at h1;cases h1
 refine⟨h3,fun j=>cur.getD j undef,fun j a hj=>?_⟩
 obtain⟨u,h5,h6,h7⟩:=h4 j a hj
 have e:cur.getD j undef=u:=by rw[QuO,h5];rfl
 show((c.kill id).cellP B (0+j) (cur.getD j undef)/\(cur.getD j undef).oneCell'=true)/\Rel (c.kill id) a (cur.getD j undef)
 rw[e]
 refine⟨⟨⟨by show c.w.cell? _=_;rw[QtR,Ys h2];exact h5,?_⟩,h6⟩,h7.ev hs (Ev.kill hg)⟩
 refine⟨hs.lt hg rfl hρ,fun id' b' hb' hl' hρ'=>?_⟩
 rcases QeL hb' with⟨rfl,rfl⟩|⟨hne,hb''⟩
 ·cases hl'
 ·exact absurd (hs.inj id' id b' _ B hb'' hg hl' rfl hρ' hρ) hne
theorem QcU{c:Cx}(hs:St c){id B ty s lo len cap:Nat}{xs:List AV}(hg:c.h[id]? = some (.cells ty s xs))(hρ:c.ρ id=some B)(hl:lo+len<=xs.length)(h2:len<=cap)(h3:cap<=maxLen) :
  Rel (c.kill id) (.sl s ((xs.drop lo).take len) none) (.slice (some ⟨B,lo * s,none⟩) len cap):=by
 obtain⟨h4,f,h5⟩:=Qet hs hg hρ
 have hlen:((xs.drop lo).take len).length=len:=by simp;omega
 have hdrop:∀y∈xs.drop lo,y.cells.length=s:=fun y hy=>h4 y (Qvn hy)
 have hget:∀(j:Nat) a,(flat ((xs.drop lo).take len))[j]? = some a->(flat xs)[lo * s+j]? = some a:=by
  intro j a hj
  rw[Z3 hdrop (by simp;omega)]at hj
  have hlt:=Qf hj
  rw[QuY]at hlt
  rw[QuW (by omega),Qax h4 (by omega),Qu7]at hj
  exact hj
 have:=Rel.sl (c:=c.kill id) s ((xs.drop lo).take len) none B (lo * s) cap (fun j=>f (lo * s+j)) (fun y hy=>hdrop y (QvA hy)) (by omega) h3
  (fun j a hj=>by have:=(h5 _ a (hget j a hj)).1;rwa [QtR]at this) (fun j a hj=>(h5 _ a (hget j a hj)).2) (fun b hb=>by cases hb)
 rwa [hlen]at this
theorem Kill.rel{c:Cx}(hs:St c){id ty s:Nat}{xs:List AV}(hb:c.h[id]? = some (.cells ty s xs)){a a':AV}(h:Kill c.h id a a'){x:Value}(hr:Rel c a x):Rel (c.kill id) a' x:=by
 cases h with
 |keep=>exact hr.ev hs (Ev.kill hb)
 |arr hg hl =>
  cases hr with
  |arr _ _ _ x hid ho h1 =>
   obtain⟨B,cap,hρ,rfl,h2,h3,_⟩:=h1 _ _ _ hg
   exact QcU hs hg hρ hl h2 h3
 |row hg hl =>
  cases hr with
  |row _ _ _ _ x hid ho h1 =>
   obtain⟨B,cur,hρ,rfl,h2,h3,_⟩:=h1 _ _ _ hg
   exact QcU hs hg hρ hl h2 h3
theorem Qik{P:Program}{N:Nat}{code:Code}{Q:AExit->AS->Prop}{tm:Nat->AV}{h:AH}(d s:Nat)(hd:tm d = .v (.slice none 0 0))
  (H:Yr P N code Q ⟨upd tm d (.sl s [] (some h.length)),h++[.dead]⟩):Yr P N code Q ⟨tm,h⟩:=by
 intro F n base c a hF hst hr R hR
 have hh:c.h=h:=hr.h
 subst hh
 have hg:=Grows.refl c.w
 have ho:∀B,(none:Option Nat)=some B->c.w.heap.size<=B:=fun B h=>by cases h
 have hev:=Ev.add hst hg .dead none ho
 have hst':St (c.add c.w .dead none):=St.add hst hg _ _ ho trivial
 refine H F n base (c.add c.w .dead none) a hF hst' ⟨rfl,hr.size,hr.above,hr.defers.ev hev,RoundOk.ev hev hr.round,fun t=>?_⟩ R fun e' s' c' a' ex hq h1 h2 h3 h4=>hR e' s' c' a' ex hq (Ev.trans hst hev h1) h2 h3 h4
 simp only[upd]
 split
 ·rename_i ht
  subst ht
  have h1:=hr.tm t
  simp only[hd]at h1
  generalize hu:a.tmps.getD t undef=u at h1
  cases h1
  refine .slnil _ _ fun b hb=>?_
  cases hb
  exact⟨by simp[Cx.add],fun e s' n hg=>by simp[Cx.add]at hg⟩
 ·exact(hr.tm t).ev hst hev
theorem Qdb{P:Program}{N:Nat}{base:Bs×Fence}{ops:Array Oper}{F:Fence}{n:Nat}(hF:WF F){Qx:Exit->Act->World->Prop}{KK:Act->World->Prop}{tr:List Tr}{tm0:Nat->AV}{h0:AH}{A:Nat->Nat->Prop}(hruns:Runs P N ops tr tm0 h0)
  (hpw:tr.Pairwise (fun a b=>clash ops a.o b.o a.c b.c=true->A a.i b.i)) (hnd:(tr.map (·.i)).Nodup) (hkind:∀t∈tr,kindOk t.o t.c=true)
  {listed:Array Bool} {c:Cx} {a:Act} {i:Nat} {t:Tr} (hi:i∈Region.ready .any ops listed) (ht:t∈tr) (hti:t.i=i) (hsz:listed.size=ops.size)
  (hA:∀i j,A i j->listed.getD j false=true->listed.getD i false=true) (hA':∀i' j,A i' j->(listed.setIfInBounds i true).getD j false=true->(listed.setIfInBounds i true).getD i' false=true)
  (hst:St c) (hr:SR N base c ⟨tmS N (fun i=>listed.getD i false) tr tm0,hS (fun i=>listed.getD i false) tr h0⟩ a)
  (hnext:∀c' a',Ev c c'->St c'->SR N base c' ⟨tmS N (fun j=>(listed.setIfInBounds i true).getD j false) tr tm0,hS (fun j=>(listed.setIfInBounds i true).getD j false) tr h0⟩ a'->KK a' c'.w) :
  wpOpIn F n P ops Qx i KK a c.w:=by
 obtain⟨h1,o,ho,hedge⟩:=mem_ready.1 hi
 have hlt:i<ops.size:=(QuP.1 ho).1
 have hSi:listed.getD i false=false:=by
  rw[QuO,QuV (by omega)]at h1 ⊢
  simpa using h1
 subst hti
 obtain⟨pre,post,htr⟩:=List.append_of_mem ht
 have hto:t.o=o:=by
  have:=QcK hruns t ht
  rw[ho]at this;cases this;rfl
 subst hto
 -- the set with it
 have hS':∀j,(listed.setIfInBounds t.i true).getD j false=(decide (j=t.i)||listed.getD j false):=fun j=>QaJ (by omega)
 have hanc:∀j,A j t.i->j≠t.i->listed.getD j false=true:=fun j hj hne=>by
  have h2:(listed.setIfInBounds t.i true).getD j false=true:=hA' _ _ hj (by rw[hS'];simp)
  rw[hS']at h2
  simpa [hne]using h2
 have hnot:∀j,A t.i j->listed.getD j false=false:=fun j hj=>by
  cases hb:listed.getD j false with
  |false=>rfl
  |true=>have:=hA _ _ hj hb;rw[hSi]at this;cases this
 -- the others
 have hne:∀b,b∈pre\/b∈post->b.i≠t.i:=by
  rw[htr]at hnd
  simp only[Qvr,QtU]at hnd
  obtain⟨n1,n2,n3⟩:=List.nodup_append.1 hnd
  intro b hb e
  rcases hb with hb|hb
  ·exact n3 b.i (QuZ.2 ⟨b,hb,rfl⟩) t.i (by simp) e
  ·exact(Qwt.1 n2).1 (QuZ.2 ⟨b,hb,e⟩)
 rw[htr]at hpw
 obtain⟨p1,p2,p3⟩:=List.pairwise_append.1 hpw
 obtain⟨p4,p5⟩:=Qwa.1 p2
 have hpre:∀b∈pre,clash ops b.o t.o b.c t.c=true->listed.getD b.i false=true:=fun b hb hcl=>hanc _ (p3 b hb t (by simp) hcl) (hne b (.inl hb))
 have hpost:∀b∈post,clash ops t.o b.o t.c b.c=true->listed.getD b.i false=false:=fun b hb hcl=>hnot _ (p4 b hb hcl)
 have hsame:∀b,b∈pre\/b∈post->(listed.setIfInBounds t.i true).getD b.i false=listed.getD b.i false:=fun b hb=>by
  rw[hS'];simp[hne b hb]
 -- what it looks at
 have hsplit:=hruns
 rw[htr]at hsplit
 have hs2:=Runs.split hsplit
 have hstep:StepA P ops (tmS N (fun _=>true) pre tm0) (hS (fun _=>true) pre h0) t.c t.o t.r t.h':=by cases hs2 with|cons _ _ _ _ _ _ hs _=>exact hs
 have hk:kindOk t.o t.c=true:=hkind t ht
 have hreads:∀x∈readsOf ops t.o,tmS N (fun i=>listed.getD i false) tr tm0 x=tmS N (fun _=>true) pre tm0 x:=by
  intro x hx
  rw[htr,Qbj,Qak]
  ·refine QaM rfl fun b hb hbd=>hpre b hb ?_
   unfold clash;rw[hbd];simp[hx]
  ·intro b hb hbS hbd
   rcases QuL.1 hb with rfl|hb
   ·rw[hSi]at hbS;cases hbS
   ·rw[hpost b hb (by unfold clash;rw[hbd];simp[hx])]at hbS;cases hbS
 have hclash2:∀b∈pre,2<=b.c->t.c≠1->listed.getD b.i false=true:=fun b hb h2 ht1=>hpre b hb (by unfold clash;simp[h2,ht1])
 have hheapPre:t.c≠1->hS (fun i=>listed.getD i false) pre h0=hS (fun _=>true) pre h0:=fun ht1=>Qbu fun b hb h2=>hclash2 b hb h2 ht1
 have hh:(2<=t.c/\hS (fun i=>listed.getD i false) tr h0=hS (fun _=>true) pre h0)\/(t.c<2/\(t.c=1\/Keep (hS (fun _=>true) pre h0) (hS (fun i=>listed.getD i false) tr h0))):=by
  by_cases hc2:2<=t.c
  ·refine .inl ⟨hc2,?_⟩
   rw[htr,Qbv,Qbd,hheapPre (by omega)]
   intro b hb hbc
   rcases QuL.1 hb with rfl|hb
   ·exact hSi
   ·have h1:b.c≠1:=by omega
    exact hpost b hb (by unfold clash;simp[hc2,h1])
  ·refine .inr ⟨by omega,?_⟩
   by_cases hc1:t.c=1
   ·exact .inl hc1
   ·refine .inr ?_
    rw[htr,Qbv,hheapPre hc1]
    refine Runs.keep hs2 ?_ ?_
    ·intro b hb hbc hbS
     rcases QuL.1 hb with rfl|hb
     ·exact(hc2 hbc).elim
     ·cases hadd:((Qc9 b.o.op&&b.c != 4)||b.c==3)with
      |true=>rfl
      |false =>
       rw[hpost b hb (by unfold clash;rw[hadd];simp[hc1,hc2,hbc])]at hbS;cases hbS
    ·refine p2.imp ?_
     intro x y hxy hx hy hyS
     have h1:y.c≠1:=by omega
     exact hA _ _ (hxy (by unfold clash;simp[hx,h1])) hyS
 -- the state behind it
 have hpreS:tmS N (fun i=>(listed.setIfInBounds t.i true).getD i false) pre tm0=tmS N (fun i=>listed.getD i false) pre tm0:=funext fun x=>QaM rfl fun b hb _=>hsame b (.inl hb)
 have hpreH:hS (fun i=>(listed.setIfInBounds t.i true).getD i false) pre h0=hS (fun i=>listed.getD i false) pre h0:=Qbu fun b hb _=>hsame b (.inl hb)
 have hSt:(listed.setIfInBounds t.i true).getD t.i false=true:=by rw[hS'];simp
 have hstm:tmS N (fun i=>(listed.setIfInBounds t.i true).getD i false) tr tm0=putT N (tmS N (fun i=>listed.getD i false) tr tm0) t.o.dst t.r:=by
  funext x
  rw[htr,Qbj,Qbj,hpreS]
  simp only[tmS,hSt,hSi,QvB,QtJ,Qvy]
  by_cases hdx:t.o.dst=some x
  ·have hskip:∀b∈post,b.o.dst=some x->listed.getD b.i false=false:=fun b hb hbd=>hpost b hb (by unfold clash;rw[hdx,hbd];simp)
   rw[Qak (fun b hb hbS hbd=>by rw[hsame b (.inr hb),hskip b hb hbd]at hbS;cases hbS)]
   have e:=Qak (N:=N) (S:=fun i=>listed.getD i false) (x:=x) (l:=post) (f:=tmS N (fun i=>listed.getD i false) pre tm0) (fun b hb hbS hbd=>by rw[hskip b hb hbd]at hbS;cases hbS)
   exact Qd1 (fun _=>e.symm) (.inl e.symm)
  ·rw[Qd2 hdx]
   exact QaM (Qd2 hdx) fun b hb _=>hsame b (.inr hb)
 have hshp:hS (fun i=>(listed.setIfInBounds t.i true).getD i false) tr h0=if 2<=t.c then t.h' else hS (fun i=>listed.getD i false) tr h0:=by
  rw[htr,Qbv,Qbv,hpreH]
  simp only[hS,hSt,hSi,Qup,Qwl,QtJ,Qvy,Qvi]
  by_cases hc2:2<=t.c
  ·rw[QuH hc2,QuH hc2]
   refine Qbd fun b hb hbc=>?_
   rw[hsame b (.inr hb)]
   have h1:b.c≠1:=by omega
   exact hpost b hb (by unfold clash;simp[hc2,h1])
  ·rw[QuE hc2,QuE hc2]
   exact Qbu fun b hb _=>hsame b (.inr hb)
 have next:∀c' a',Ev c c'->St c'->SR N base c' (AS.put N ⟨tmS N (fun i=>listed.getD i false) tr tm0,if 2<=t.c then t.h' else hS (fun i=>listed.getD i false) tr h0⟩ t.o.dst t.r) a' ->
   KK a' c'.w:=by
  intro c' a' hev hst' hr'
  rw[put_eq,<-hstm,<-hshp]at hr'
  exact hnext c' a' hev hst' hr'
 unfold wpOpIn
 simp only[ho]
 rcases hstep.turn hk hreads hh N with⟨hw,hru,hhe⟩|⟨hw,hop|hop⟩
 ·rw[XY hr hw]
  simp only[QtJ,Qvy]
  refine⟨fun f _=>hF.fn f,?_⟩
  have hr':=hr.put hst (Ev.refl c) t.o.dst (.v undef)
  rw[hr.h]at hr'
  refine next c _ (Ev.refl c) hst ?_
  rw[hhe,hru]
  exact hr'
 ·rw[XY hr hw]
  simp only[QvB]
  refine Qcr (hop (fun s'=>s'=AS.put N ⟨tmS N (fun i=>listed.getD i false) tr tm0,if 2<=t.c then t.h' else hS (fun i=>listed.getD i false) tr h0⟩ t.o.dst t.r) (fun _ _=>False) rfl) hF hst hr ?_ ?_
  ·intro s' c' a' hs hev hst' hr'
   subst hs
   exact next c' a' hev hst' hr'
  ·intro r s' c' x hf
   exact hf.elim
 ·rw[XY hr hw]
  simp only[QvB]
  refine Qg1 (K:=fun s'=>s'=AS.put N ⟨tmS N (fun i=>listed.getD i false) tr tm0,if 2<=t.c then t.h' else hS (fun i=>listed.getD i false) tr h0⟩ t.o.dst t.r) hop rfl hF hst hr ?_
  intro s' c' a' hs hev hst' hr'
  subst hs
  exact next c' a' hev hst' hr'
def AncX(ops:Array Oper)(x y i j:Nat):Prop:=Anc ops i j\/((i=x\/Anc ops i x)/\(j=y\/Anc ops y j))
theorem AncX.good{ops:Array Oper}{x y:Nat}{S:Nat->Bool}(hd:Down ops S)(hxy:S y=true->S x=true){i j:Nat}(h:AncX ops x y i j)(hj:S j=true):S i=true:=by
 rcases h with h|⟨h1,h2⟩
 ·exact hd.anc h hj
 ·have hy:S y=true:=by
   rcases h2 with rfl|h2
   ·exact hj
   ·exact hd.anc h2 hj
  rcases h1 with rfl|h1
  ·exact hxy hy
  ·exact hd.anc h1 (hxy hy)
structure FitX (ops:Array Oper) (x y:Nat) (tr:List Tr):Prop where
 len:tr.length=ops.size
 pairs:tr.Pairwise (fun a b=>clash ops a.o b.o a.c b.c=true->AncX ops x y a.i b.i)
 topo:topo ops [] (tr.map fun t=>(t.i,t.c))=true
 nodup:(tr.map (·.i)).Nodup
 all:∀i,i<ops.size->∃t∈tr,t.i=i
 kind:∀t∈tr,kindOk t.o t.c=true
theorem Qfa{ops:Array Oper}{listed:Array Bool}{i:Nat}(hsz:listed.size=ops.size)(hd:Down ops (fun j=>listed.getD j false))(hi:i∈Region.ready .any ops listed):Down ops (fun j=>(listed.setIfInBounds i true).getD j false):=by
 obtain⟨h1,o,ho,hedge⟩:=mem_ready.1 hi
 have hlt:i<ops.size:=(QuP.1 ho).1
 have hS':∀j,(listed.setIfInBounds i true).getD j false=(decide (j=i)||listed.getD j false):=fun j=>QaJ (by omega)
 intro j oj hoj hj e he hb
 dsimp only at hj ⊢
 rw[hS']at hj ⊢
 by_cases hji:j=i
 ·subst hji
  rw[ho]at hoj;cases hoj
  rw[hedge e he hb];simp
 ·have:listed.getD j false=true:=by simpa [hji]using hj
  have h2:listed.getD e.on false=true:=hd j oj hoj this e he hb
  rw[h2];simp
theorem QdO{ops:Array Oper}{listed:Array Bool}{i fuel:Nat}{tr:List Tr}(hsz:listed.size=ops.size)(hall:∃t∈tr,t.i=i)(hi:i∈Region.ready .any ops listed)(hc:tr.countP (fun t=>!listed.getD t.i false)<=fuel+1) :
  tr.countP (fun u=>!(listed.setIfInBounds i true).getD u.i false)<=fuel:=by
 obtain⟨h1,o,ho,_⟩:=mem_ready.1 hi
 have hlt:i<ops.size:=(QuP.1 ho).1
 have hS':∀j,(listed.setIfInBounds i true).getD j false=(decide (j=i)||listed.getD j false):=fun j=>QaJ (by omega)
 have hSi:listed.getD i false=false:=by
  rw[QuO,QuV (by omega)]at h1 ⊢
  simpa using h1
 obtain⟨t,ht,rfl⟩:=hall
 obtain⟨pre,post,rfl⟩:=List.append_of_mem ht
 have le:∀l:List Tr,l.countP (fun u=>!(listed.setIfInBounds t.i true).getD u.i false)<=l.countP (fun u=>!listed.getD u.i false):=fun l =>
  List.countP_mono_left fun u _ hu=>by rw[hS']at hu;revert hu;cases listed.getD u.i false <;> simp
 have l1:=le pre
 have l2:=le post
 simp only[List.countP_append,List.countP_cons,hS' t.i,hSi,Qub,QvL,Qt2,Qt3,QtJ,Qvy,QvB]at hc ⊢
 omega
theorem QeJ{N:Nat}{base:Bs×Fence}{Qx:Exit->Act->World->Prop}{tr:List Tr}{tm0:Nat->AV}{h0:AH}{listed:Array Bool}{c:Cx}{a:Act}(hst:St c)
  (hr:SR N base c ⟨tmS N (fun i=>listed.getD i false) tr tm0,hS (fun i=>listed.getD i false) tr h0⟩ a)
  (hQ:∀c' a',Ev c c'->St c'->SR N base c' ⟨tmS N (fun _=>true) tr tm0,hS (fun _=>true) tr h0⟩ a'->Qx .normal a' c'.w) (hl:∀t∈tr,listed.getD t.i false=true):Qx .normal a c.w:=by
 refine hQ c a (Ev.refl c) hst ?_
 have e1:tmS N (fun i=>listed.getD i false) tr tm0=tmS N (fun _=>true) tr tm0:=funext fun x=>QaM rfl fun t ht _=>hl t ht
 have e2:hS (fun i=>listed.getD i false) tr h0=hS (fun _=>true) tr h0:=Qbu fun t ht _=>hl t ht
 rw[e1,e2]at hr
 exact hr
theorem any_zero{ops:Array Oper}{listed:Array Bool}{tr:List Tr}(hsz:listed.size=ops.size)(hall:∀i,i<ops.size->∃t∈tr,t.i=i)(hl:∀t∈tr,listed.getD t.i false=true):Region.ready .any ops listed=[]:=by
 cases hrd:Region.ready .any ops listed with
 |nil=>rfl
 |cons i l =>
  have hi:i∈Region.ready .any ops listed:=by rw[hrd];simp
  obtain⟨h1,o,ho,_⟩:=mem_ready.1 hi
  have hlt:i<ops.size:=(QuP.1 ho).1
  obtain⟨t,ht,rfl⟩:=hall i hlt
  have:=hl t ht
  rw[QuO,QuV (by omega)]at this h1
  simp only[Qwh]at this h1
  rw[this]at h1;cases h1
theorem Runs.append{P:Program}{N:Nat}{ops:Array Oper}:∀{l m:List Tr} {tm:Nat->AV} {h:AH},Runs P N ops l tm h->Runs P N ops m (tmS N (fun _=>true) l tm) (hS (fun _=>true) l h)->Runs P N ops (l++m) tm h
 |[],m,tm,h,_,H=>H
 |t::l,m,tm,h,H,H2=>by
  cases H with
  |cons t l tm h ho hk hs hl =>
   refine .cons t (l++m) tm h ho hk hs (Runs.append hl ?_)
   simpa only[tmS,hS,QvB,Qup,Qvi]using H2
def behind(ops:Array Oper)(x y i:Nat):Bool:=i==x||i==y||((masks ops.toList []).getD i 0).testBit x||((masks ops.toList []).getD i 0).testBit y
def QmX(ops:Array Oper)(π:List (Nat×Nat)):Bool:=π.all fun p=>match ops[p.1]? with|some o=>kindOk o p.2|none=>false
end Go.Proofs.YticgcpebdldbgaaGreatDoor.Ab
namespace Go.Proofs.YticgcpebdldbgaaGreatDoor.Ab
inductive Alt where
 |done
 |stop
 |alt (i c:Nat) (sub more:Alt)
section
variable(P:Program)(N:Nat)(ops:Array Oper)(K:AS->Prop)(s:AS)
end
theorem QeW{P:Program}{N:Nat}{ops:Array Oper}{K:AS->Prop}:∀(l1 l2:List (Nat×Nat)),AnyW P N ops (l1++l2) K=AnyW P N ops l1 (AnyW P N ops l2 K)
 |[],l2=>funext fun s=>rfl
 |p::l1,l2=>by
  funext s
  show(match ops[p.1]? with|some o=>AnyO P N ops p.2 o s (AnyW P N ops (l1++l2) K)|none=>False)=(match ops[p.1]? with|some o=>AnyO P N ops p.2 o s (AnyW P N ops l1 (AnyW P N ops l2 K))|none=>False)
  rw[QeW l1 l2]
theorem Qda{P:Program}{N:Nat}{ops:Array Oper}{l:List (Nat×Nat)}{K:AS->Prop}{s:AS}(k:Nat)(h:∀K':AS->Prop,(∀s,AnyW P N ops (l.drop k) K s->K' s)->AnyW P N ops (l.take k) K' s):AnyW P N ops l K s:=by
 have:=h (AnyW P N ops (l.drop k) K) fun s hs=>hs
 rw[<-QeW,Qvl]at this
 exact this
theorem Qaw{P:Program}{N:Nat}{x y:Code}{Q:AExit->AS->Prop}{s:AS}(J:AS->Prop)(h1:∀s,J s->Yr P N y Q s)(h2:Yr P N x (AExit.then J Q) s):Yr P N (.seq x y) Q s:=by
 refine Qav (h2.mono fun e s' hq=>?_)
 cases e with
 |normal=>exact h1 s' hq
 |_=>exact hq
end Go.Proofs.YticgcpebdldbgaaGreatDoor.Ab
namespace Go.Proofs.YticgcpebdldbgaaGreatDoor.Ab
class CT where
 c:Code
 q:AExit->AS->Prop
def KW(P:Program)(N:Nat)[t:CT](s:AS):Prop:=match t with|⟨c,q⟩=>Yr P N c q s
def Qc7(P:Program)(N:Nat)[t:CT]:AExit->AS->Prop:=match t with|⟨c,q⟩=>AExit.then (Yr P N c q) q
class PT where
 q:AExit->AS->Prop
def PanE[t:PT](r:AV)(s:AS):Prop:=match t with|⟨q⟩=>q (.panic r) s
def NorE[t:PT](s:AS):Prop:=match t with|⟨q⟩=>q .normal s
class LT where
 h:AH
 q:AOut->AH->Prop
def Qjg[t:LT](h':AH)(r:AV):Prop:=match t with|⟨h,q⟩=>Leaves h h' r fun r h'=>q (.ret r) h'
def QpX[t:LT](h':AH)(r:AV):Prop:=match t with|⟨h,q⟩=>Leaves h h' r fun r h'=>q (.panic r) h'
def NW(P:Program)(N:Nat):Code->(AExit->AS->Prop)->AS->Prop
 | .seq (.region _ ops false) y,Q,s=>OpsW P N ops ops.toList (@KW P N ⟨y,Q⟩) (@PanE ⟨Q⟩) s
 | .seq x y,Q,s=>@KW P N ⟨x,@Qc7 P N ⟨y,Q⟩⟩ s
 | .region _ ops false,Q,s=>OpsW P N ops ops.toList (@NorE ⟨Q⟩) (@PanE ⟨Q⟩) s
 | .block iD x,Q,s=>@KW P N ⟨x,(AExit.inBlock iD Q)⟩ s
 | .scope x,Q,s=>@KW P N ⟨x,Q⟩ s
 | .skip,Q,s=>Q .normal s
 | .label _,Q,s=>Q .normal s
 | .exit iD,Q,s=>Q (.exit iD) s
 | .ret,Q,s=>Q .ret s
 | .cond o x y,Q,s=>∃t,s.ev o = .v (.bool t)/\@KW P N ⟨(if t then x else y),Q⟩ s
 |c,Q,s=>Yr P N c Q s
theorem Qb{P:Program}{N:Nat}{c:Code}{Q:AExit->AS->Prop}{s:AS}(h:NW P N c Q s):Yr P N c Q s:=by
 unfold NW at h
 split at h
 ·exact Qav (Qao h)
 ·exact Qav h
 ·exact Qao h
 ·exact Qu h
 ·exact Xp h
 ·exact QE h
 ·exact Xl h
 ·exact Xb h
 ·exact Xy h
 ·obtain⟨t,h1,h2⟩:=h;exact Qm h1 h2
 ·exact h
section
variable(P:Program)(N:Nat)(Q:AExit->AS->Prop)(s:AS)(x y:Code)(iD:Nat)(ops:Array Oper)
@[go_sem ↓] theorem QsQ:NW P N (.seq (.region iD ops false) y) Q s=OpsW P N ops ops.toList (@KW P N ⟨y,Q⟩) (@PanE ⟨Q⟩) s:=id rfl
@[go_sem ↓] theorem QsF (a b:Code):NW P N (.seq (.seq a b) y) Q s=@KW P N ⟨(.seq a b),@Qc7 P N ⟨y,Q⟩⟩ s:=id rfl
@[go_sem ↓] theorem QsG  : NW P N (.seq (.block iD x) y) Q s=@KW P N ⟨(.block iD x),@Qc7 P N ⟨y,Q⟩⟩ s:=id rfl
@[go_sem ↓] theorem QsH (o:Operand) (a b:Code):NW P N (.seq (.cond o a b) y) Q s=@KW P N ⟨(.cond o a b),@Qc7 P N ⟨y,Q⟩⟩ s:=id rfl
@[go_sem ↓] theorem QsI  : NW P N (.seq (.loop x) y) Q s=@KW P N ⟨(.loop x),@Qc7 P N ⟨y,Q⟩⟩ s:=id rfl
@[go_sem ↓] theorem QsJ  : NW P N (.seq (.scope x) y) Q s=@KW P N ⟨(.scope x),@Qc7 P N ⟨y,Q⟩⟩ s:=id rfl
@[go_sem ↓] theorem QsK  : NW P N (.seq .skip y) Q s=@KW P N ⟨.skip,@Qc7 P N ⟨y,Q⟩⟩ s:=id rfl
@[go_sem ↓] theorem QsL (l:Nat):NW P N (.seq (.label l) y) Q s=@KW P N ⟨(.label l),@Qc7 P N ⟨y,Q⟩⟩ s:=id rfl
@[go_sem ↓] theorem QsM (f:Operand) (ps:Array Tmp) (a b:Code):NW P N (.seq (.rangeFunc f ps a b) y) Q s=@KW P N ⟨(.rangeFunc f ps a b),@Qc7 P N ⟨y,Q⟩⟩ s:=id rfl
@[go_sem ↓] theorem QsN  : NW P N (.seq (.region iD ops true) y) Q s=@KW P N ⟨(.region iD ops true),@Qc7 P N ⟨y,Q⟩⟩ s:=id rfl
@[go_sem ↓] theorem Qsh:@Qc7 P N ⟨y,Q⟩ .normal s=@KW P N ⟨y,Q⟩ s:=id rfl
@[go_sem ↓] theorem Qsj:@Qc7 P N ⟨y,Q⟩ .ret s=Q .ret s:=id rfl
@[go_sem ↓] theorem Qsg:@Qc7 P N ⟨y,Q⟩ (.exit iD) s=Q (.exit iD) s:=id rfl
@[go_sem ↓] theorem Qsi (r:AV):@Qc7 P N ⟨y,Q⟩ (.panic r) s=Q (.panic r) s:=id rfl
@[go_sem ↓] theorem Qsz (r:AV):@PanE ⟨Q⟩ r s=Q (.panic r) s:=id rfl
@[go_sem ↓] theorem Qsy:@NorE ⟨Q⟩ s=Q .normal s:=id rfl
@[go_sem ↓] theorem nw_r:NW P N (.region iD ops false) Q s=OpsW P N ops ops.toList (@NorE ⟨Q⟩) (@PanE ⟨Q⟩) s:=id rfl
@[go_sem ↓] theorem nw_b:NW P N (.block iD x) Q s=@KW P N ⟨x,(AExit.inBlock iD Q)⟩ s:=id rfl
@[go_sem ↓] theorem QsO:NW P N (.scope x) Q s=@KW P N ⟨x,Q⟩ s:=id rfl
@[go_sem ↓] theorem QsP:NW P N .skip Q s=Q .normal s:=id rfl
@[go_sem ↓] theorem QsD (l:Nat):NW P N (.label l) Q s=Q .normal s:=id rfl
@[go_sem ↓] theorem QsC:NW P N (.exit iD) Q s=Q (.exit iD) s:=id rfl
@[go_sem ↓] theorem QsE:NW P N .ret Q s=Q .ret s:=id rfl
@[go_sem ↓] theorem QsB {o:Operand} (h:s.ev o = .v (.bool true)):NW P N (.cond o x y) Q s=@KW P N ⟨x,Q⟩ s:=by
 simp only[NW,h];exact propext ⟨fun⟨_,e,k⟩=>by cases e;exact k,fun k=>⟨true,rfl,k⟩⟩
@[go_sem ↓] theorem QsA {o:Operand} (h:s.ev o = .v (.bool false)):NW P N (.cond o x y) Q s=@KW P N ⟨y,Q⟩ s:=by
 simp only[NW,h];exact propext ⟨fun⟨_,e,k⟩=>by cases e;exact k,fun k=>⟨false,rfl,k⟩⟩
end
section
variable(P:Program)(rs:List ResultVar)(h:AH)(Q:AOut->AH->Prop)(s:AS)
@[go_sem ↓] theorem Qsv:Qbm P rs h Q .normal s=∃r,Zr P s rs=some r/\@Qjg ⟨h,Q⟩ s.h r:=id rfl
@[go_sem ↓] theorem Qsx:Qbm P rs h Q .ret s=∃r,Zr P s rs=some r/\@Qjg ⟨h,Q⟩ s.h r:=id rfl
@[go_sem ↓] theorem Qsw (x:AV):Qbm P rs h Q (.panic x) s=@QpX ⟨h,Q⟩ s.h x:=id rfl
end
class OCt where
 ops:Array Oper
 l:List Oper
 k:AS->Prop
 e:AV->AS->Prop
def OW(P:Program)(N:Nat)[t:OCt](s:AS):Prop:=match t with|⟨ops,l,k,e⟩=>OpsW P N ops l k e s
section
variable{P:Program}{N:Nat}{Q:AExit->AS->Prop}{s:AS}{y:Code}{iD:Nat}{ops:Array Oper}{l:List Oper}{K0:AS->Prop}{E:AV->AS->Prop}
theorem owN(h:K0 s):@OW P N ⟨ops,[],K0,E⟩ s:=h
theorem owK(h:∀K:AS->Prop,(∀s,@OW P N ⟨ops,List.drop 6 l,K0,E⟩ s->K s)->OpsW P N ops (List.take 6 l) K E s):@OW P N ⟨ops,l,K0,E⟩ s :=
 ZN 6 h
theorem nwcS(h:∀K:AS->Prop,(∀s,@OW P N ⟨ops,List.drop 6 ops.toList,@KW P N ⟨y,Q⟩,@PanE ⟨Q⟩⟩ s->K s)->OpsW P N ops (List.take 6 ops.toList) K (@PanE ⟨Q⟩) s):Yr P N (.seq (.region iD ops false) y) Q s :=
 Qav (Qao (ZN 6 h))
theorem nwcR(h:∀K:AS->Prop,(∀s,@OW P N ⟨ops,List.drop 6 ops.toList,@NorE ⟨Q⟩,@PanE ⟨Q⟩⟩ s->K s)->OpsW P N ops (List.take 6 ops.toList) K (@PanE ⟨Q⟩) s):Yr P N (.region iD ops false) Q s :=
 Qao (ZN 6 h)
end
class JT where
 j:AS->Prop
def Hold[t:JT](s:AS):Prop:=match t with|⟨j⟩=>j s
theorem Yb{P:Program}{N:Nat}{x y:Code}{Q:AExit->AS->Prop}{s:AS}(J:AS->Prop)(h1:∀s,J s->Yr P N y Q s)(h2:Yr P N x (AExit.then (@Hold ⟨J⟩) Q) s):Yr P N (.seq x y) Q s:=Qaw J h1 h2
section
variable(K:AS->Prop)(Q:AExit->AS->Prop)(s:AS)(i:Nat)(x:AV)
@[go_sem ↓] theorem Qsl:AExit.then K Q .normal s=K s:=id rfl
@[go_sem ↓] theorem Qsn:AExit.then K Q .ret s=Q .ret s:=id rfl
@[go_sem ↓] theorem Qsk:AExit.then K Q (.exit i) s=Q (.exit i) s:=id rfl
@[go_sem ↓] theorem Qsm:AExit.then K Q (.panic x) s=Q (.panic x) s:=id rfl
@[go_sem ↓] theorem QrG:AExit.inBlock i Q .normal s=Q .normal s:=id rfl
@[go_sem ↓] theorem QrI:AExit.inBlock i Q .ret s=Q .ret s:=id rfl
@[go_sem ↓] theorem QrH:AExit.inBlock i Q (.panic x) s=Q (.panic x) s:=id rfl
end
@[go_sem ↓] theorem QqM (i:Nat) (Q:AExit->AS->Prop) (s:AS):AExit.inBlock i Q (.exit i) s=Q .normal s:=QuH rfl
@[go_sem ↓] theorem QqG {i j:Nat} (Q:AExit->AS->Prop) (s:AS) (h:(j==i)=false):AExit.inBlock i Q (.exit j) s=Q (.exit j) s:=QuE (by simpa using h)
attribute [go_sem ↓] QuH QuE ZG YX YC QiT Zk Qrr YK QiU Qru Y9 Qrv Qrs Qrt Yx YF YE YN
attribute [go_sem] XT XF Yj QQ QB Qul Qum X3 Xq XD QO Q9 Xu Xk XC QR XA Qz Qy Qt XE XL List.getD_cons_zero List.getD_cons_succ QC Xs Xe Q1 Q2 QY Xi Xo QZ QI Xz Xf Q5 Q6 Q3 Xj Xr Q4 List.all_cons List.all_nil QL QH QM Qw QV Qp Qo Qk Xc QW QX QT Xh Xn QU Bool.and_self Bool.and_true Qup Bool.not_true Bool.not_false QtS QtT QtR Qt4 true_and and_true and_self X8 hget Yh hset hlen happ QtF QtG List.getElem?_nil List.set_cons_zero List.set_cons_succ Option.map_some Option.map_none Option.bind_some Option.bind_none Option.some.injEq List.toList_toArray List.getElem?_toArray List.map_cons List.map_nil Qt7 Qt6 Qt8 List.take_succ_cons List.take_zero List.drop_succ_cons QtW decide_true decide_false beq_self_eq_true bne_self_eq_false Int.toNat_natCast Int.toNat_zero Int.toNat_one Int.natCast_nonneg Int.ofNat_lt Int.ofNat_le Int.natCast_zero Bool.false_eq_true Bool.true_eq_false beq_true beq_false rng0 rng1 rng2 rng3 rng4 rng5 rng6 rng7 rng8 XQ QuG QuT T.QsS T.QsT QG Qs QN OpW YH aop undef XU AS.ev XJ AV.QsU Xg Zl Zq YI XR Xa aBin Zd Q7 Zc ZI QF aLen Yo Y6 goInt QS YG Zr Zm List.drop_nil List.take_nil exists_eq_left' QvO List.mapM_nil Option.pure_def Option.bind_eq_bind Int.sub_zero Int.le_refl Qa9 Qan
end Go.Proofs.YticgcpebdldbgaaGreatDoor.Ab
namespace Go.Proofs.YticgcpebdldbgaaGreatDoor.Ab
open Go.Proofs
theorem ti0:XX Tryz.prog 0=some (false,1):=by kernel_rfl
theorem zi0:Yl Tryz.prog 0=some (.v (.tuple #[])):=by kernel_rfl
theorem ti1:XX Tryz.prog 1=some (false,1):=by kernel_rfl
theorem zi1:Yl Tryz.prog 1=some (.v .nilFunc):=by kernel_rfl
theorem ti3:XX Tryz.prog 3=some (false,1):=by kernel_rfl
theorem zi3:Yl Tryz.prog 3=some (.v (.int .i64 0)):=by kernel_rfl
theorem un3:Program.underlying Tryz.prog 3=some (.int .i64):=by kernel_rfl
theorem ti4:XX Tryz.prog 4=some (false,1):=by kernel_rfl
theorem zi4:Yl Tryz.prog 4=some (.v (.bool false)):=by kernel_rfl
theorem un4:Program.underlying Tryz.prog 4=some .bool:=by kernel_rfl
theorem ti5:XX Tryz.prog 5=some (false,1):=by kernel_rfl
theorem zi5:Yl Tryz.prog 5=some (.v (.int .u8 0)):=by kernel_rfl
theorem un5:Program.underlying Tryz.prog 5=some (.int .u8):=by kernel_rfl
theorem ti9:XX Tryz.prog 9=some (false,1):=by kernel_rfl
theorem ei9:XW Tryz.prog 9=none:=by kernel_rfl
theorem zi9:Yl Tryz.prog 9=some (.v (.string ⟨#[]⟩)):=by kernel_rfl
theorem un9:Program.underlying Tryz.prog 9=some .string:=by kernel_rfl
theorem ti23:XX Tryz.prog 23=some (false,1):=by kernel_rfl
theorem ei23:XW Tryz.prog 23=some (75,2):=by kernel_rfl
theorem ai23:appInfo Tryz.prog 23 23=some ⟨75,2,24⟩:=by kernel_rfl
theorem zi23:Yl Tryz.prog 23=some (.v (.slice none 0 0)):=by kernel_rfl
theorem un23:Program.underlying Tryz.prog 23=some (.slice 75):=by kernel_rfl
theorem ti24:XX Tryz.prog 24=some (false,1):=by kernel_rfl
theorem ei24:XW Tryz.prog 24=some (40,6):=by kernel_rfl
theorem ai24:appInfo Tryz.prog 24 24=some ⟨40,6,120⟩:=by kernel_rfl
theorem zi24:Yl Tryz.prog 24=some (.v (.slice none 0 0)):=by kernel_rfl
theorem un24:Program.underlying Tryz.prog 24=some (.slice 40):=by kernel_rfl
theorem ti26:XX Tryz.prog 26=some (true,2):=by kernel_rfl
theorem QqT:fieldInfo Tryz.prog 26 0=some (0,23):=by kernel_rfl
theorem QqU:fieldInfo Tryz.prog 26 1=some (1,24):=by kernel_rfl
theorem zi26:Yl Tryz.prog 26=some (.agg [.v (.slice none 0 0),.v (.slice none 0 0)]):=by kernel_rfl
theorem sp26:Yf Tryz.prog 26=some [(0,1),(1,1)]:=by kernel_rfl
theorem ti27:XX Tryz.prog 27=some (false,1):=by kernel_rfl
theorem zi27:Yl Tryz.prog 27=some (.v (.int .i64 0)):=by kernel_rfl
theorem un27:Program.underlying Tryz.prog 27=some (.int .i64):=by kernel_rfl
theorem ti32:XX Tryz.prog 32=some (false,1):=by kernel_rfl
theorem ei32:XW Tryz.prog 32=some (46,3):=by kernel_rfl
theorem ai32:appInfo Tryz.prog 32 32=some ⟨46,3,48⟩:=by kernel_rfl
theorem zi32:Yl Tryz.prog 32=some (.v (.slice none 0 0)):=by kernel_rfl
theorem un32:Program.underlying Tryz.prog 32=some (.slice 46):=by kernel_rfl
theorem ti33:XX Tryz.prog 33=some (false,1):=by kernel_rfl
theorem ei33:XW Tryz.prog 33=some (9,1):=by kernel_rfl
theorem ai33:appInfo Tryz.prog 33 33=some ⟨9,1,16⟩:=by kernel_rfl
theorem zi33:Yl Tryz.prog 33=some (.v (.slice none 0 0)):=by kernel_rfl
theorem un33:Program.underlying Tryz.prog 33=some (.slice 9):=by kernel_rfl
theorem ti34:XX Tryz.prog 34=some (false,1):=by kernel_rfl
theorem ti38:XX Tryz.prog 38=some (false,1):=by kernel_rfl
theorem ei38:XW Tryz.prog 38=some (105,2):=by kernel_rfl
theorem ai38:appInfo Tryz.prog 38 38=some ⟨105,2,40⟩:=by kernel_rfl
theorem zi38:Yl Tryz.prog 38=some (.v (.slice none 0 0)):=by kernel_rfl
theorem un38:Program.underlying Tryz.prog 38=some (.slice 105):=by kernel_rfl
theorem ti40:XX Tryz.prog 40=some (true,6):=by kernel_rfl
theorem QqV:fieldInfo Tryz.prog 40 0=some (0,9):=by kernel_rfl
theorem QqW:fieldInfo Tryz.prog 40 1=some (1,38):=by kernel_rfl
theorem QqX:fieldInfo Tryz.prog 40 2=some (2,38):=by kernel_rfl
theorem QqY:fieldInfo Tryz.prog 40 3=some (3,32):=by kernel_rfl
theorem QqZ:fieldInfo Tryz.prog 40 4=some (4,32):=by kernel_rfl
theorem Qq0:fieldInfo Tryz.prog 40 5=some (5,3):=by kernel_rfl
theorem zi40:Yl Tryz.prog 40=some (.agg [.v (.string ⟨#[]⟩),.v (.slice none 0 0),.v (.slice none 0 0),.v (.slice none 0 0),.v (.slice none 0 0),.v (.int .i64 0)]):=by kernel_rfl
theorem sp40:Yf Tryz.prog 40=some [(0,1),(1,1),(2,1),(3,1),(4,1),(5,1)]:=by kernel_rfl
theorem ti44:XX Tryz.prog 44=some (false,1):=by kernel_rfl
theorem ei44:XW Tryz.prog 44=some (48,4):=by kernel_rfl
theorem ai44:appInfo Tryz.prog 44 44=some ⟨48,4,56⟩:=by kernel_rfl
theorem zi44:Yl Tryz.prog 44=some (.v (.slice none 0 0)):=by kernel_rfl
theorem un44:Program.underlying Tryz.prog 44=some (.slice 48):=by kernel_rfl
theorem ti46:XX Tryz.prog 46=some (true,3):=by kernel_rfl
theorem X4:fieldInfo Tryz.prog 46 0=some (0,3):=by kernel_rfl
theorem X5:fieldInfo Tryz.prog 46 1=some (1,9):=by kernel_rfl
theorem X6:fieldInfo Tryz.prog 46 2=some (2,44):=by kernel_rfl
theorem zi46:Yl Tryz.prog 46=some (.agg [.v (.int .i64 0),.v (.string ⟨#[]⟩),.v (.slice none 0 0)]):=by kernel_rfl
theorem sp46:Yf Tryz.prog 46=some [(0,1),(1,1),(2,1)]:=by kernel_rfl
theorem ti48:XX Tryz.prog 48=some (true,4):=by kernel_rfl
theorem YU:fieldInfo Tryz.prog 48 0=some (0,3):=by kernel_rfl
theorem Y7:fieldInfo Tryz.prog 48 1=some (1,3):=by kernel_rfl
theorem Zs:fieldInfo Tryz.prog 48 2=some (2,9):=by kernel_rfl
theorem Zj:fieldInfo Tryz.prog 48 3=some (3,44):=by kernel_rfl
theorem zi48:Yl Tryz.prog 48=some (.agg [.v (.int .i64 0),.v (.int .i64 0),.v (.string ⟨#[]⟩),.v (.slice none 0 0)]):=by kernel_rfl
theorem sp48:Yf Tryz.prog 48=some [(0,1),(1,1),(2,1),(3,1)]:=by kernel_rfl
theorem ti51:XX Tryz.prog 51=some (false,1):=by kernel_rfl
theorem zi51:Yl Tryz.prog 51=some (.v (.pointer none)):=by kernel_rfl
theorem un51:Program.underlying Tryz.prog 51=some (.pointer 61):=by kernel_rfl
theorem ti54:XX Tryz.prog 54=some (true,3):=by kernel_rfl
theorem Zy:fieldInfo Tryz.prog 54 0=some (0,3):=by kernel_rfl
theorem Zz:fieldInfo Tryz.prog 54 1=some (1,3):=by kernel_rfl
theorem ZA:fieldInfo Tryz.prog 54 2=some (2,9):=by kernel_rfl
theorem zi54:Yl Tryz.prog 54=some (.agg [.v (.int .i64 0),.v (.int .i64 0),.v (.string ⟨#[]⟩)]):=by kernel_rfl
theorem sp54:Yf Tryz.prog 54=some [(0,1),(1,1),(2,1)]:=by kernel_rfl
theorem ti56:XX Tryz.prog 56=some (false,1):=by kernel_rfl
theorem ei56:XW Tryz.prog 56=some (54,3):=by kernel_rfl
theorem ai56:appInfo Tryz.prog 56 56=some ⟨54,3,32⟩:=by kernel_rfl
theorem zi56:Yl Tryz.prog 56=some (.v (.slice none 0 0)):=by kernel_rfl
theorem un56:Program.underlying Tryz.prog 56=some (.slice 54):=by kernel_rfl
theorem ti58:XX Tryz.prog 58=some (true,2):=by kernel_rfl
theorem Qq1:fieldInfo Tryz.prog 58 0=some (0,56):=by kernel_rfl
theorem Qq2:fieldInfo Tryz.prog 58 1=some (1,3):=by kernel_rfl
theorem zi58:Yl Tryz.prog 58=some (.agg [.v (.slice none 0 0),.v (.int .i64 0)]):=by kernel_rfl
theorem sp58:Yf Tryz.prog 58=some [(0,1),(1,1)]:=by kernel_rfl
theorem ti59:XX Tryz.prog 59=some (false,1):=by kernel_rfl
theorem mi59:QbP Tryz.prog 59=some (.string,3):=by kernel_rfl
theorem un59:Program.underlying Tryz.prog 59=some (.map 9 3):=by kernel_rfl
theorem ti61:XX Tryz.prog 61=some (true,4):=by kernel_rfl
theorem Qq3:fieldInfo Tryz.prog 61 0=some (0,58):=by kernel_rfl
theorem Qpw:fieldInfo Tryz.prog 61 1=some (2,33):=by kernel_rfl
theorem Qpx:fieldInfo Tryz.prog 61 2=some (3,59):=by kernel_rfl
theorem zi61:Yl Tryz.prog 61=some (.agg [.v (.slice none 0 0),.v (.int .i64 0),.v (.slice none 0 0),.v (.map none)]):=by kernel_rfl
theorem sp61:Yf Tryz.prog 61=some [(0,2),(2,1),(3,1)]:=by kernel_rfl
theorem ti64:XX Tryz.prog 64=some (false,1):=by kernel_rfl
theorem zi64:Yl Tryz.prog 64=some (.v .nilFunc):=by kernel_rfl
theorem ti65:XX Tryz.prog 65=some (false,1):=by kernel_rfl
theorem ti67:XX Tryz.prog 67=some (false,1):=by kernel_rfl
theorem zi67:Yl Tryz.prog 67=some (.v (.pointer none)):=by kernel_rfl
theorem un67:Program.underlying Tryz.prog 67=some (.pointer 69):=by kernel_rfl
theorem ti69:XX Tryz.prog 69=some (true,5):=by kernel_rfl
theorem ZB:fieldInfo Tryz.prog 69 0=some (0,56):=by kernel_rfl
theorem ZC:fieldInfo Tryz.prog 69 1=some (1,3):=by kernel_rfl
theorem ZD:fieldInfo Tryz.prog 69 2=some (2,33):=by kernel_rfl
theorem ZE:fieldInfo Tryz.prog 69 3=some (3,3):=by kernel_rfl
theorem ZF:fieldInfo Tryz.prog 69 4=some (4,27):=by kernel_rfl
theorem zi69:Yl Tryz.prog 69=some (.agg [.v (.slice none 0 0),.v (.int .i64 0),.v (.slice none 0 0),.v (.int .i64 0),.v (.int .i64 0)]):=by kernel_rfl
theorem sp69:Yf Tryz.prog 69=some [(0,1),(1,1),(2,1),(3,1),(4,1)]:=by kernel_rfl
theorem ti70:XX Tryz.prog 70=some (false,1):=by kernel_rfl
theorem ti72:XX Tryz.prog 72=some (false,1):=by kernel_rfl
theorem ti75:XX Tryz.prog 75=some (true,2):=by kernel_rfl
theorem Qq4:fieldInfo Tryz.prog 75 0=some (0,9):=by kernel_rfl
theorem Qq5:fieldInfo Tryz.prog 75 1=some (1,3):=by kernel_rfl
theorem zi75:Yl Tryz.prog 75=some (.agg [.v (.string ⟨#[]⟩),.v (.int .i64 0)]):=by kernel_rfl
theorem sp75:Yf Tryz.prog 75=some [(0,1),(1,1)]:=by kernel_rfl
theorem ti77:XX Tryz.prog 77=some (false,1):=by kernel_rfl
theorem zi77:Yl Tryz.prog 77=some (.v (.map none)):=by kernel_rfl
theorem mi77:QbP Tryz.prog 77=some ((.int .i64),3):=by kernel_rfl
theorem un77:Program.underlying Tryz.prog 77=some (.map 3 3):=by kernel_rfl
theorem ti78:XX Tryz.prog 78=some (false,1):=by kernel_rfl
theorem ei78:XW Tryz.prog 78=some (3,1):=by kernel_rfl
theorem ai78:appInfo Tryz.prog 78 78=some ⟨3,1,8⟩:=by kernel_rfl
theorem zi78:Yl Tryz.prog 78=some (.v (.slice none 0 0)):=by kernel_rfl
theorem un78:Program.underlying Tryz.prog 78=some (.slice 3):=by kernel_rfl
theorem ti80:XX Tryz.prog 80=some (true,2):=by kernel_rfl
theorem Qin:fieldInfo Tryz.prog 80 0=some (0,77):=by kernel_rfl
theorem Qkg:fieldInfo Tryz.prog 80 1=some (1,78):=by kernel_rfl
theorem zi80:Yl Tryz.prog 80=some (.agg [.v (.map none),.v (.slice none 0 0)]):=by kernel_rfl
theorem sp80:Yf Tryz.prog 80=some [(0,1),(1,1)]:=by kernel_rfl
theorem ti82:XX Tryz.prog 82=some (false,1):=by kernel_rfl
theorem ti90:XX Tryz.prog 90=some (true,2):=by kernel_rfl
theorem Qq6:fieldInfo Tryz.prog 90 0=some (0,3):=by kernel_rfl
theorem Qq7:fieldInfo Tryz.prog 90 1=some (1,27):=by kernel_rfl
theorem zi90:Yl Tryz.prog 90=some (.agg [.v (.int .i64 0),.v (.int .i64 0)]):=by kernel_rfl
theorem sp90:Yf Tryz.prog 90=some [(0,1),(1,1)]:=by kernel_rfl
theorem Qso:XX Tryz.prog 102=some (false,1):=by kernel_rfl
theorem Qsp:XX Tryz.prog 105=some (true,2):=by kernel_rfl
theorem Qp8:fieldInfo Tryz.prog 105 0=some (0,9):=by kernel_rfl
theorem Qp9:fieldInfo Tryz.prog 105 1=some (1,44):=by kernel_rfl
theorem Qst:Yl Tryz.prog 105=some (.agg [.v (.string ⟨#[]⟩),.v (.slice none 0 0)]):=by kernel_rfl
theorem Qsd:Yf Tryz.prog 105=some [(0,1),(1,1)]:=by kernel_rfl
theorem QrA:XX Tryz.prog 108=some (false,1):=by kernel_rfl
theorem QrF:Yl Tryz.prog 108=some (.v (.pointer none)):=by kernel_rfl
theorem QrD:Program.underlying Tryz.prog 108=some (.pointer 80):=by kernel_rfl
theorem Qqa:fieldInfo Tryz.prog 127 0=some (0,3):=by kernel_rfl
theorem Qsu:Yl Tryz.prog 127=some (.agg [.v (.int .i64 0)]):=by kernel_rfl
theorem Qse:Yf Tryz.prog 127=some [(0,1)]:=by kernel_rfl
theorem QrB:XX Tryz.prog 129=some (false,1):=by kernel_rfl
theorem Qsq:XX Tryz.prog 130=some (false,1):=by kernel_rfl
theorem Qsr:XX Tryz.prog 158=some (true,23):=by kernel_rfl
theorem mixed:Tryz.prog.follows .mixedOrders=true:=by kernel_rfl
end Go.Proofs.YticgcpebdldbgaaGreatDoor.Ab
namespace Go.Proofs.YticgcpebdldbgaaGreatDoor.Ab
attribute [go_sem] ai23 ai24 ai32 ai33 ai38 ai44 ai56 ai78 ei23 ei24 ei32 ei33 ei38 ei44 ei56 ei78 ei9 Qp8 Qp9 Qqa QqT QqU QqV QqW QqX QqY QqZ Qq0 X4 X5 X6 YU Y7 Zs Zj Zy Zz ZA Qq1 Qq2 Qq3 Qpw Qpx ZB ZC ZD ZE ZF Qq4 Qq5 Qin Qkg Qq6 Qq7 mi59 mi77 Qsd Qse sp26 sp40 sp46 sp48 sp54 sp58 sp61 sp69 sp75 sp80 sp90 ti0 ti1 Qso Qsp QrA QrB Qsq Qsr ti23 ti24 ti26 ti27 ti3 ti32 ti33 ti38 ti4 ti40 ti44 ti46 ti48 ti5 ti51 ti54 ti56 ti58 ti59 ti61 ti64 ti65 ti67 ti69 ti70 ti72 ti75 ti77 ti78 ti80 ti9 ti90 QrD un23 un24 un27 un3 un32 un33 un38 un4 un44 un5 un51 un56 un59 un67 un77 un78 un9 zi0 zi1 Qst QrF Qsu zi23 zi24 zi26 zi27 zi3 zi32 zi33 zi38 zi4 zi40 zi44 zi46 zi48 zi5 zi51 zi54 zi56 zi58 zi61 zi64 zi67 zi69 zi75 zi77 zi78 zi80 zi9 zi90
end Go.Proofs.YticgcpebdldbgaaGreatDoor.Ab
namespace Go.Proofs.YticgcpebdldbgaaGreatDoor.Ab
open Go.Proofs
abbrev AV.i(n:Int):AV:=.v (.int .i64 n)
abbrev AV.b(n:Bool):AV:=.v (.bool n)
abbrev AV.s(n:ByteArray):AV:=.v (.string n)
mutual
def T.nds:T->Nat
 | .mk _ _ _ l=>1+ndsL l
def ndsL:List T->Nat
 |[]=>0
 |t::l=>t.nds+ndsL l
end
theorem T.Qs4(t:T):t.nds=1+ndsL t.args:=by cases t;simp only[T.nds,T.args]
theorem QaL:∀{l:List T} {k:Nat} (h:k<l.length),(l[k]).nds<=ndsL l
 |t::l,0,_=>by simp only[List.getElem_cons_zero,ndsL];omega
 |t::l,k+1,h=>by
  have:=QaL (l:=l) (k:=k) (by simpa using h)
  simp only[List.getElem_cons_succ,ndsL];omega
theorem YZ:∀l:List T,l.length<=ndsL l
 |[]=>QuD _
 |t::l=>by
  have:=YZ l
  have:=T.Qs4 t
  simp only[QtS,ndsL];omega
theorem QlM{c:Cx}{x:Value}(s:Nat)(h:Rel c (.v (.slice none 0 0)) x):Rel c (.sl s [] none) x:=by
 cases h
 exact .slnil s none fun b hb=>by cases hb
def Wk(a b:AV):Prop:=∀c x,Rel c a x->Rel c b x
def WkL(l l':List AV):Prop:=l.length=l'.length/\∀(j:Nat) a b,l[j]? = some a->l'[j]? = some b->Wk a b
theorem Wk.refl(a:AV):Wk a a:=fun _ _ h=>h
theorem Wk.trans{a b d:AV}(h:Wk a b)(k:Wk b d):Wk a d:=fun c x r=>k c x (h c x r)
theorem Wk.nilS(s:Nat):Wk (.v (.slice none 0 0)) (.sl s [] none):=fun c x h=>QlM s h
theorem WkL.nil:WkL [] []:=⟨rfl,fun j a b h=>by simp at h⟩
theorem WkL.refl(l:List AV):WkL l l:=⟨rfl,fun j a b h k=>by rw[h]at k;cases k;exact .refl a⟩
theorem WkL.cons{a b:AV}{l m:List AV}(h:Wk a b)(k:WkL l m):WkL (a::l) (b::m):=by
 refine⟨by simp[k.1],fun j x y hx hy=>?_⟩
 cases j with
 |zero=>simp at hx hy;subst hx;subst hy;exact h
 |succ j=>exact k.2 j x y (by simpa using hx) (by simpa using hy)
theorem WkL.append{l1 l2 m1 m2:List AV}(h:WkL l1 m1)(k:WkL l2 m2):WkL (l1++l2) (m1++m2):=by
 refine⟨by simp[h.1,k.1],fun j x y hx hy=>?_⟩
 rcases Qv5 j l1.length with hj|hj
 ·rw[Qux hj]at hx
  rw[Qux (by rw[<-h.1];exact hj)]at hy
  exact h.2 j x y hx hy
 ·rw[QuB hj]at hx
  rw[QuB (by rw[<-h.1];exact hj),<-h.1]at hy
  exact k.2 _ x y hx hy
theorem Wk.agg{l m:List AV}(h:WkL l m):Wk (.agg l) (.agg m):=by
 intro c x r
 cases r with
 |agg _ cs hl hr =>
  refine .agg m cs (hl.trans h.1) fun j a u ha hu=>?_
  obtain⟨b,hb⟩:∃b,l[j]? = some b:=⟨_,QuC (by rw[h.1];exact Qf ha)⟩
  exact h.2 j b a hb ha c u (hr j b u hb hu)
theorem Wk.sl{s:Nat}{xs ys:List AV}{own:Option Nat}(hl:xs.length=ys.length)(hs:∀y∈ys,y.cells.length=s)(h:WkL (flat xs) (flat ys)):Wk (.sl s xs own) (.sl s ys none):=by
 intro c x r
 cases r with
 |slnil _ _ ht =>
  cases ys with
  |nil=>exact .slnil s none fun b hb=>by cases hb
  |cons y ys=>simp at hl
 |slzero _ _ ba ht =>
  cases ys with
  |nil=>exact .slzero s none ba fun b hb=>by cases hb
  |cons y ys=>simp at hl
 |sl _ _ _ B o cap f hs' hcap hmax hc hr ht =>
  rw[hl]
  rw[hl]at hcap
  have old:∀(j:Nat) a,(flat ys)[j]? = some a->∃b,(flat xs)[j]? = some b:=fun j a ha=>⟨_,QuC (by rw[h.1];exact Qf ha)⟩
  refine .sl s ys none B o cap f hs hcap hmax (fun j a ha=>?_) (fun j a ha=>?_) fun b hb=>by cases hb
  ·obtain⟨b,hb⟩:=old j a ha
   exact hc j b hb
  ·obtain⟨b,hb⟩:=old j a ha
   exact h.2 j b a hb ha c _ (hr j b hb)
theorem RelL.weak{c:Cx}{args args':List AV}{vals:Array Value}(hw:WkL args args')(h:RelL c args vals):RelL c args' vals:=by
 refine⟨h.1.trans hw.1,fun j a u ha hu=>?_⟩
 obtain⟨b,hb⟩:∃b,args[j]? = some b:=⟨_,QuC (by rw[hw.1];exact Qf ha)⟩
 exact hw.2 j b a hb ha c u (h.2 j b u hb hu)
theorem Qlc{P:Program}{f:FuncId}{args args':List AV}{h:AH}{Q:AOut->AH->Prop}(hw:WkL args args')(H:QA P f args' h Q):QA P f args h Q :=
 ⟨H.1,fun F n c vals hF hst hh hvals=>H.2 F n c vals hF hst hh (hvals.weak hw)⟩
theorem QiS{P:Program}{f:FuncId}{args args':List AV}{r:AV}(hw:WkL args args')(H:Pure P f args' r):Pure P f args r:=fun h=>Qlc hw (H h)
theorem Qcs{P:Program}{N:Nat}{base:Bs×Fence}{ops:Array Oper}{Q:AS->Prop}{E:AV->AS->Prop}{F:Fence}{n:Nat}(hF:WF F){Qx:Exit->Act->World->Prop}{tail:List Nat}:∀(l:List Oper) (k:Nat) (s:AS) (c:Cx) (a:Act),(∀j,j<l.length->l[j]? = ops[k+j]?) ->
  OpsW P N ops l Q E s->St c->SR N base c s a->(∀s' c' a',Q s'->Ev c c'->St c'->SR N base c' s' a'->wpOpsIn F n P ops Qx tail a' c'.w) ->
  (∀r s' c' a' x,E r s'->Ev c c'->St c'->SR N base c' s' a'->Rel c' r x->Qx (.panic [{v:=x,recovered:=false}]) a' c'.w)->wpOpsIn F n P ops Qx (List.range' k l.length++tail) a c.w
 |[],k,s,c,a,hl,H,hst,hr,hQ,hE=>by
  simp only[QtT,List.range'_zero,Qt6]
  exact hQ s c a H (Ev.refl c) hst hr
 |o::l,k,s,c,a,hl,H,hst,hr,hQ,hE=>by
  have h0:ops[k]? = some o:=by simpa using(hl 0 (by simp)).symm
  have hl':∀j,j<l.length->l[j]? = ops[k+1+j]? := fun j hj=>by have:=hl (j+1) (by simp;omega);simpa [Qv3,QwA 1 j]using this
  simp only[QtS,List.range'_succ,Qt7,wpOpsIn,h0]
  simp only[OpsW]at H
  split at H
  ·rename_i hw
   rw[XY hr hw]
   simp only[QvB]
   refine Qcr H hF hst hr ?_ ?_
   ·intro s' c' a' hK h1 h2 h3
    exact Qcs hF l (k+1) s' c' a' hl' hK h2 h3 (fun s2 c2 a2 q e2 t2 r2=>hQ s2 c2 a2 q (Ev.trans hst h1 e2) t2 r2) (fun r s2 c2 a2 x q e2 t2 r2=>hE r s2 c2 a2 x q (Ev.trans hst h1 e2) t2 r2)
   ·intro r s' c' x he h1 h2 h3 hx
    exact hE r s' c' a x he h1 h2 h3 hx
  ·rename_i hw
   rw[XY hr hw]
   simp only[QtJ,Qvy]
   refine⟨fun f _=>hF.fn f,?_⟩
   have hr':=hr.put hst (Ev.refl c) o.dst (.v undef)
   rw[hr.h]at hr'
   exact Qcs hF l (k+1) _ c _ hl' H hst hr' hQ hE
  ·exact H.elim
end Go.Proofs.YticgcpebdldbgaaGreatDoor.Ab
namespace Go.Proofs.YticgcpebdldbgaaGreatDoor.Ab
open Go.RowKit
theorem WF.Qtk{F:Fence}(h:WF F):F.plain=Fence.wide:=by
 obtain⟨fn,depth,alive,round⟩:=F
 obtain⟨h1,h2,h3⟩:=h
 have h1':∀f,fn f:=h1
 have h2':depth=none:=h2
 have h3':alive=false:=h3
 subst h2' h3'
 have:fn=fun _=>True:=funext fun f=>by simpa using h1' f
 subst this
 rfl
theorem QeE{F:Fence}(hF:WF F){n:Nat}{P:Program}{f:FuncId}{args:Array Value}{w:World}{R:Ending->World->Prop}(h:Calls P f args w R):CallsIn F n P f args w R :=
 QbI (by rw[hF.Qtk];exact callsIn_wide.2 h)
theorem Grows.of_below{w w':World}(h:Go.RowKit.Below w.heap.size w w'):Grows w w':=⟨h.os,h.tape,h.output,h.size,h.block⟩
theorem Qqw{c:Cx}{vs:List Value}{vals:Array Value}(h:RelL c (vs.map AV.v) vals):vals=vs.toArray:=by
 apply Array.ext'
 apply Qvs
 intro j
 rcases Qv5 j vs.length with hj|hj
 ·have h1:(vs.map AV.v)[j]? = some (.v vs[j]):=by rw[Qu2,QuC hj];rfl
  have hs:vals.size=vs.length:=by rw[h.1,Qu6]
  have h2:vals[j]? = some vals[j]:=QuV (by omega)
  have:=h.2 j _ _ h1 h2
  rw[QvF,h2,List.toList_toArray,QuC hj]
  generalize vals[j]=u at this
  cases this
  rfl
 ·have hs:vals.size=vs.length:=by rw[h.1,Qu6]
  rw[QvF,Array.getElem?_eq_none (by omega),List.toList_toArray,Qvf hj]
theorem Qmt{P:Program}{f:FuncId}{vs:List Value}{h:AH}{a:AV}(hcall:∀vals w,(callFunc f vals).run P w = .ok (.enter f vals) w)
  (H:∀c:Cx,St c->c.h=h->Calls P f vs.toArray c.w fun e w'=>∃u,e = .returned u/\Go.RowKit.Below c.w.heap.size c.w w'/\∀c',Rel c' a u):QA P f (vs.map AV.v) h fun o h'=>o = .ret a/\h'=h:=by
 refine⟨hcall,fun F n c vals hF hst hh hvals=>QeE hF ?_⟩
 rw[Qqw hvals]
 refine(H c hst hh).mono ?_
 rintro e w' ⟨u,rfl,hb,hu⟩
 have hg:=Grows.of_below hb
 exact⟨.ret a,c.to w',⟨rfl,hh⟩,Ev.grows hst hg,hst.grows hg,rfl,⟨u,rfl,hu _⟩⟩
theorem Qo0{P:Program}{f:FuncId}{vs:List Value}{a:AV}(hcall:∀vals w,(callFunc f vals).run P w = .ok (.enter f vals) w)
  (H:∀w,Calls P f vs.toArray w fun e w'=>∃u,e = .returned u/\Go.RowKit.Below w.heap.size w w'/\∀c',Rel c' a u):Pure P f (vs.map AV.v) a :=
 fun h=>Qmt hcall fun c _ _=>H c.w
end Go.Proofs.YticgcpebdldbgaaGreatDoor.Ab
namespace Go.Proofs.YticgcpebdldbgaaGreatDoor.Ab
def byteAt(s:ByteArray)(i:Nat):Int:=((s.data.toList.getD i 0).toNat:Nat)
theorem Qla(s:ByteArray)(i:Nat):0<=byteAt s i/\byteAt s i<256:=by
 have:=(s.data.toList.getD i 0).toNat_lt
 unfold byteAt
 omega
theorem Qlo(s:ByteArray)(i:Nat)(h:i<s.size):s[i]? = some (s.data.toList.getD i 0):=by
 have h':i<s.data.size:=h
 rw[getElem?_pos s i h]
 congr 1
 show s.data[i]=_
 rw[Qu8,QuC (by simpa using h')]
 simp
theorem Yv(P:Program)(t:TypeId)(ht:P.underlying t=some .string)(s:ByteArray)(i:Nat)(h:i<s.size):pv P (Instr.index t (.string s) (.int .i64 (i:Int)))=some (.int .u8 (byteAt s i)):=by
 have hi:(0:Int)<=(i:Int):=by omega
 simp only[Instr.index,asIntOf,Bind.bind,Sem.bind,Pure.pure,pv,underlying,program,ht]
 rw[QuH hi,Int.toNat_natCast,Qlo s i h]
 rfl
theorem QgW(P:Program)(t:TypeId)(ht:P.underlying t=some .string)(s:ByteArray)(h:0<s.size):pv P (Instr.index t (.string s) (.int .i64 0))=some (.int .u8 (byteAt s 0)):=Yv P t ht s 0 h
theorem QeO(P:Program)(q:IntKind)(i:Int)(y:Nat)(code:BoundsCode)(h:0<=i/\i<=(y:Int)):pv P (Instr.sliceBound (.int q i) y code)=some i.toNat:=by
 show pv P (if 0<=i/\i<=(y:Int)then pure i.toNat else boundsPanic q i y code)=_
 rw[QuH h];rfl
theorem QhG{α:Type}(P:Program)(a:α):pv P (pure a:Sem α)=some a:=rfl
theorem QhH(P:Program){t:TypeId}{d:TypeDesc}(ht:P.underlying t=some d):pv P (underlying t)=some d:=by
 simp only[underlying,program,Bind.bind,Sem.bind,pv,ht];rfl
theorem Qny(P:Program)(len cap:Nat)(lo hi:Option (IntKind×Int))(l k:Nat)(hk:match hi with|some (_,i)=>0<=i/\i<=(cap:Int)/\i.toNat=k|none=>len=k)(hl:match lo with|some (_,i)=>0<=i/\i<=(k:Int)/\i.toNat=l|none=>l=0) :
  pv P (Instr.sliceBounds false len cap (lo.map fun x=>.int x.1 x.2) (hi.map fun x=>.int x.1 x.2) none)=some (l,k,cap):=by
 unfold Instr.sliceBounds
 cases hi with
 |none =>
  subst hk
  cases lo with
  |none=>subst hl;rfl
  |some x =>
   obtain⟨q,i⟩:=x
   obtain⟨h1,h2,h3⟩:=hl
   simp only[Quk,QtH,Qac,QhG,QtK,Qwv,QtJ,↓reduceIte,QeO P q i len .sliceB ⟨h1,h2⟩,h3]
 |some x =>
  obtain⟨q,i⟩:=x
  obtain⟨h1,h2,h3⟩:=hk
  cases lo with
  |none =>
   subst hl
   simp only[Quk,QtH,Qac,QhG,QtK,Qwv,QtJ,↓reduceIte,QeO P q i cap .sliceAlen ⟨h1,h2⟩,h3]
  |some x =>
   obtain⟨q',i'⟩:=x
   obtain⟨h4,h5,h6⟩:=hl
   simp only[Quk,QtH,Qac,QhG,QtK,Qwv,QtJ,↓reduceIte,QeO P q i cap .sliceAlen ⟨h1,h2⟩,h3,QeO P q' i' k .sliceB ⟨h4,h5⟩,h6]
theorem Qai(P:Program)(t:TypeId)(ht:P.underlying t=some .string)(s:ByteArray)(lo hi:Option (IntKind×Int))(l k:Nat)(hk:match hi with|some (_,i)=>0<=i/\i<=(s.size:Int)/\i.toNat=k|none=>s.size=k)(hl:match lo with|some (_,i)=>0<=i/\i<=(k:Int)/\i.toNat=l|none=>l=0) :
  pv P (Instr.sliceAt t (.string s) (lo.map fun x=>.int x.1 x.2) (hi.map fun x=>.int x.1 x.2) none)=some (.string (s.extract l k)):=by
 have hu:pv P (underlying t)=some .string:=QhH P ht
 have:=Qny P s.size s.size lo hi l k hk hl
 unfold Instr.sliceAt
 rw[Qac,hu]
 show pv P (Instr.slice t (.string s) _ _ none)=_
 unfold Instr.slice
 rw[Qac,hu]
 simp only[QtK,Qwv,QtJ,↓reduceIte,Qac,QhG,this]
theorem Qo1(P:Program)(t:TypeId)(ht:P.underlying t=some .string)(s:ByteArray)(i:Nat)(h:i<=s.size):pv P (Instr.sliceAt t (.string s) (some (.int .i64 (i:Int))) none none)=some (.string (s.extract i s.size)) :=
 Qai P t ht s (some (.i64,i)) none i s.size rfl ⟨by omega,by omega,by omega⟩
section
variable(P:Program)(t:TypeId)(xo yo:Operand)(k:IntKind)(a b:Int)
end
theorem Qkj(s:ByteArray)(i:Nat):((s.get! i).toNat:Int)=byteAt s i:=by
 unfold byteAt
 congr 2
 show s.data[i]! = _
 rw[Qu8]
 by_cases h:i<s.data.size
 ·rw[getElem!_pos s.data i h,QuC (by simpa using h)]
  simp
 ·rw[getElem!_neg s.data i h,Qvf (by simpa using h)]
  rfl
theorem decode_ascii{s:ByteArray}{i:Nat}(h:byteAt s i<128):((Utf8.decode s i).1:Int)=byteAt s i/\(Utf8.decode s i).2=1:=by
 rw[<-Qkj]at h ⊢
 unfold Utf8.decode
 simp only[Qt4]
 rw[QuH (by omega)]
 exact⟨rfl,rfl⟩
theorem Qlj{s:ByteArray}{i:Nat}(h:128<=byteAt s i):128<=(Utf8.decode s i).1:=by
 rw[<-Qkj]at h
 unfold Utf8.decode
 simp only[Qt4]
 rw[QuE (by omega)]
 have hr:(128:Nat)<=Utf8.runeError:=by decide
 repeat' split
 all_goals first|exact hr|(rename_i h;simp at h;omega)|(simp_all;omega)
end Go.Proofs.YticgcpebdldbgaaGreatDoor.Ab
namespace Go.Proofs.YticgcpebdldbgaaGreatDoor.Ab
open Go.Proofs
theorem FunW.call{P:Program}{f:FuncId}{args:List AV}{h:AH}{Q:AOut->AH->Prop}(H:QA P f args h Q):FunW P (.fn (.func f) [] []) args h Q:=FunW.fn (by rw[Qt6,Qt8];exact H)
theorem FunW.ret{P:Program}{fv:AV}{args:List AV}{h h':AH}{r:AV}{Q:AOut->AH->Prop}(H:FunW P fv args h fun o h2=>o = .ret r/\h2=h')(k:Q (.ret r) h'):FunW P fv args h Q:=H.mono (by rintro _ _ ⟨rfl,rfl⟩;exact k)
def ofN(c:Int):Int:=if 97<=c/\c<=122 then 1 else if (65<=c/\c<=90)\/c=95 then 2 else if 48<=c/\c<=57 then 4 else 0
theorem Qnn(c:Int)(hc:0<=c/\c<256):Pure Tryz.prog 119 [.v (.int .u8 c)] (.v (.int .u8 (ofN c))):=by
 intro h
 have hcs:c<48\/48<=c/\c<=57\/58<=c/\c<=64\/65<=c/\c<=90\/91<=c/\c<=94\/c=95\/c=96\/97<=c/\c<=122\/122<c:=by omega
 rcases hcs with hc1|hc1|hc1|hc1|hc1|hc1|hc1|hc1|hc1
 ·-- c<48
  have e0:ofN c=0:=by simp only[ofN];repeat' (first|rw[QuH (by omega)]|rw[QuE (by omega)])
  have a1:¬97<=c:=by omega
  have a2:c<=122:=by omega
  have a3:¬65<=c:=by omega
  have a4:c<=90:=by omega
  have a5:¬48<=c:=by omega
  have a6:c<=57:=by omega
  have a7:(c==95)=false:=by simp;omega
  refine Qa Tryz.func119 rfl Tryz.call119 Tryz.ntmps119 Tryz.results119 (by simp) ?_
  repeat refine Qb ?_;simp only[go_sem,seval,a1,a3,a5,a7]
  (refine Qc QuA (.keep (.v _)) ⟨by rw[e0],rfl⟩)
 ·-- 48<=c/\c<=57
  have e0:ofN c=4:=by simp only[ofN];repeat' (first|rw[QuH (by omega)]|rw[QuE (by omega)])
  have a1:¬97<=c:=by omega
  have a2:c<=122:=by omega
  have a3:¬65<=c:=by omega
  have a4:c<=90:=by omega
  have a5:48<=c:=by omega
  have a6:c<=57:=by omega
  have a7:(c==95)=false:=by simp;omega
  refine Qa Tryz.func119 rfl Tryz.call119 Tryz.ntmps119 Tryz.results119 (by simp) ?_
  repeat refine Qb ?_;simp only[go_sem,seval,a1,a3,a5,a6,a7]
  (refine Qc QuA (.keep (.v _)) ⟨by rw[e0],rfl⟩)
 ·-- 58<=c/\c<=64
  have e0:ofN c=0:=by simp only[ofN];repeat' (first|rw[QuH (by omega)]|rw[QuE (by omega)])
  have a1:¬97<=c:=by omega
  have a2:c<=122:=by omega
  have a3:¬65<=c:=by omega
  have a4:c<=90:=by omega
  have a5:48<=c:=by omega
  have a6:¬c<=57:=by omega
  have a7:(c==95)=false:=by simp;omega
  refine Qa Tryz.func119 rfl Tryz.call119 Tryz.ntmps119 Tryz.results119 (by simp) ?_
  repeat refine Qb ?_;simp only[go_sem,seval,a1,a3,a5,a6,a7]
  (refine Qc QuA (.keep (.v _)) ⟨by rw[e0],rfl⟩)
 ·-- 65<=c/\c<=90
  have e0:ofN c=2:=by simp only[ofN];repeat' (first|rw[QuH (by omega)]|rw[QuE (by omega)])
  have a1:¬97<=c:=by omega
  have a2:c<=122:=by omega
  have a3:65<=c:=by omega
  have a4:c<=90:=by omega
  have a5:48<=c:=by omega
  have a6:¬c<=57:=by omega
  have a7:(c==95)=false:=by simp;omega
  refine Qa Tryz.func119 rfl Tryz.call119 Tryz.ntmps119 Tryz.results119 (by simp) ?_
  repeat refine Qb ?_;simp only[go_sem,seval,a1,a3,a4]
  (refine Qc QuA (.keep (.v _)) ⟨by rw[e0],rfl⟩)
 ·-- 91<=c/\c<=94
  have e0:ofN c=0:=by simp only[ofN];repeat' (first|rw[QuH (by omega)]|rw[QuE (by omega)])
  have a1:¬97<=c:=by omega
  have a2:c<=122:=by omega
  have a3:65<=c:=by omega
  have a4:¬c<=90:=by omega
  have a5:48<=c:=by omega
  have a6:¬c<=57:=by omega
  have a7:(c==95)=false:=by simp;omega
  refine Qa Tryz.func119 rfl Tryz.call119 Tryz.ntmps119 Tryz.results119 (by simp) ?_
  repeat refine Qb ?_;simp only[go_sem,seval,a1,a3,a4,a5,a6,a7]
  (refine Qc QuA (.keep (.v _)) ⟨by rw[e0],rfl⟩)
 ·-- c=95
  have e0:ofN c=2:=by simp only[ofN];repeat' (first|rw[QuH (by omega)]|rw[QuE (by omega)])
  have a1:¬97<=c:=by omega
  have a2:c<=122:=by omega
  have a3:65<=c:=by omega
  have a4:¬c<=90:=by omega
  have a5:48<=c:=by omega
  have a6:¬c<=57:=by omega
  have a7:(c==95)=true:=by simp;omega
  refine Qa Tryz.func119 rfl Tryz.call119 Tryz.ntmps119 Tryz.results119 (by simp) ?_
  repeat refine Qb ?_;simp only[go_sem,seval,a1,a3,a4,a7]
  (refine Qc QuA (.keep (.v _)) ⟨by rw[e0],rfl⟩)
 ·-- c=96
  have e0:ofN c=0:=by simp only[ofN];repeat' (first|rw[QuH (by omega)]|rw[QuE (by omega)])
  have a1:¬97<=c:=by omega
  have a2:c<=122:=by omega
  have a3:65<=c:=by omega
  have a4:¬c<=90:=by omega
  have a5:48<=c:=by omega
  have a6:¬c<=57:=by omega
  have a7:(c==95)=false:=by simp;omega
  refine Qa Tryz.func119 rfl Tryz.call119 Tryz.ntmps119 Tryz.results119 (by simp) ?_
  repeat refine Qb ?_;simp only[go_sem,seval,a1,a3,a4,a5,a6,a7]
  (refine Qc QuA (.keep (.v _)) ⟨by rw[e0],rfl⟩)
 ·-- 97<=c/\c<=122
  have e0:ofN c=1:=by simp only[ofN];repeat' (first|rw[QuH (by omega)]|rw[QuE (by omega)])
  have a1:97<=c:=by omega
  have a2:c<=122:=by omega
  have a3:65<=c:=by omega
  have a4:¬c<=90:=by omega
  have a5:48<=c:=by omega
  have a6:¬c<=57:=by omega
  have a7:(c==95)=false:=by simp;omega
  refine Qa Tryz.func119 rfl Tryz.call119 Tryz.ntmps119 Tryz.results119 (by simp) ?_
  repeat refine Qb ?_;simp only[go_sem,seval,a1,a2]
  (refine Qc QuA (.keep (.v _)) ⟨by rw[e0],rfl⟩)
 ·-- 122<c
  have e0:ofN c=0:=by simp only[ofN];repeat' (first|rw[QuH (by omega)]|rw[QuE (by omega)])
  have a1:97<=c:=by omega
  have a2:¬c<=122:=by omega
  have a3:65<=c:=by omega
  have a4:¬c<=90:=by omega
  have a5:48<=c:=by omega
  have a6:¬c<=57:=by omega
  have a7:(c==95)=false:=by simp;omega
  refine Qa Tryz.func119 rfl Tryz.call119 Tryz.ntmps119 Tryz.results119 (by simp) ?_
  repeat refine Qb ?_;simp only[go_sem,seval,a1,a2,a3,a4,a5,a6,a7]
  (refine Qc QuA (.keep (.v _)) ⟨by rw[e0],rfl⟩)
theorem Qdp(c:Int):Pure Tryz.prog 113 [.v (.int .u8 c)] (.b (decide (97<=c/\c<=122))):=by
 intro h
 by_cases a1:c>=97
 ·by_cases a2:c<=122
  ·refine Qa Tryz.func113 rfl Tryz.call113 Tryz.ntmps113 Tryz.results113 (by simp) ?_
   repeat refine Qb ?_;simp only[go_sem,seval,a1,a2]
   (refine Qc QuA (.keep (.v _)) ⟨by rw[QuU ⟨a1,a2⟩],rfl⟩)
  ·refine Qa Tryz.func113 rfl Tryz.call113 Tryz.ntmps113 Tryz.results113 (by simp) ?_
   repeat refine Qb ?_;simp only[go_sem,seval,a1,a2]
   (refine Qc QuA (.keep (.v _)) ⟨by rw[QuM (fun h=>a2 h.2)],rfl⟩)
 ·refine Qa Tryz.func113 rfl Tryz.call113 Tryz.ntmps113 Tryz.results113 (by simp) ?_
  repeat refine Qb ?_;simp only[go_sem,seval,a1]
  (refine Qc QuA (.keep (.v _)) ⟨by rw[QuM (fun h=>a1 h.1)],rfl⟩)
theorem QhJ(c:Int):Pure Tryz.prog 126 [.v (.int .u8 c)] (.b (decide (65<=c/\c<=90))):=by
 intro h
 by_cases a1:c>=65
 ·by_cases a2:c<=90
  ·refine Qa Tryz.func126 rfl Tryz.call126 Tryz.ntmps126 Tryz.results126 (by simp) ?_
   repeat refine Qb ?_;simp only[go_sem,seval,a1,a2]
   (refine Qc QuA (.keep (.v _)) ⟨by rw[QuU ⟨a1,a2⟩],rfl⟩)
  ·refine Qa Tryz.func126 rfl Tryz.call126 Tryz.ntmps126 Tryz.results126 (by simp) ?_
   repeat refine Qb ?_;simp only[go_sem,seval,a1,a2]
   (refine Qc QuA (.keep (.v _)) ⟨by rw[QuM (fun h=>a2 h.2)],rfl⟩)
 ·refine Qa Tryz.func126 rfl Tryz.call126 Tryz.ntmps126 Tryz.results126 (by simp) ?_
  repeat refine Qb ?_;simp only[go_sem,seval,a1]
  (refine Qc QuA (.keep (.v _)) ⟨by rw[QuM (fun h=>a1 h.1)],rfl⟩)
def resB(s:ByteArray):Bool:=(s.toList==({data:=#[99,111,110,115,116,114,97,105,110,116]}:ByteArray).toList)||(s.toList==({data:=#[116,114,117,101]}:ByteArray).toList)||(s.toList==({data:=#[102,97,105,108]}:ByteArray).toList)||(s.toList==({data:=#[105,115]}:ByteArray).toList)||(s.toList==({data:=#[105,110,116]}:ByteArray).toList)||(s.toList==({data:=#[103,114,111,117,110,100]}:ByteArray).toList)
theorem Qdt(s:ByteArray):Pure Tryz.prog 67 [.v (.string s)] (.b (resB s)):=by
 intro h
 cases d0:(s.toList==({data:=#[99,111,110,115,116,114,97,105,110,116]}:ByteArray).toList)with
 |true =>
  refine Qa Tryz.func67 rfl Tryz.call67 Tryz.ntmps67 Tryz.results67 (by simp) ?_
  repeat refine Qb ?_;simp only[go_sem,seval,d0]
  (refine Qc QuA (.keep (.v _)) ⟨by simp only[resB,d0,QvL],rfl⟩)
 |false =>
  cases d1:(s.toList==({data:=#[116,114,117,101]}:ByteArray).toList)with
  |true =>
   refine Qa Tryz.func67 rfl Tryz.call67 Tryz.ntmps67 Tryz.results67 (by simp) ?_
   repeat refine Qb ?_;simp only[go_sem,seval,d0,d1]
   (refine Qc QuA (.keep (.v _)) ⟨by simp only[resB,d0,d1,QvN,QvL],rfl⟩)
  |false =>
   cases d2:(s.toList==({data:=#[102,97,105,108]}:ByteArray).toList)with
   |true =>
    refine Qa Tryz.func67 rfl Tryz.call67 Tryz.ntmps67 Tryz.results67 (by simp) ?_
    repeat refine Qb ?_;simp only[go_sem,seval,d0,d1,d2]
    (refine Qc QuA (.keep (.v _)) ⟨by simp only[resB,d0,d1,d2,QvJ,QvN,QvL],rfl⟩)
   |false =>
    cases d3:(s.toList==({data:=#[105,115]}:ByteArray).toList)with
    |true =>
     refine Qa Tryz.func67 rfl Tryz.call67 Tryz.ntmps67 Tryz.results67 (by simp) ?_
     repeat refine Qb ?_;simp only[go_sem,seval,d0,d1,d2,d3]
     (refine Qc QuA (.keep (.v _)) ⟨by simp only[resB,d0,d1,d2,d3,QvJ,QvN,QvL],rfl⟩)
    |false =>
     cases d4:(s.toList==({data:=#[105,110,116]}:ByteArray).toList)with
     |true =>
      refine Qa Tryz.func67 rfl Tryz.call67 Tryz.ntmps67 Tryz.results67 (by simp) ?_
      repeat refine Qb ?_;simp only[go_sem,seval,d0,d1,d2,d3,d4]
      (refine Qc QuA (.keep (.v _)) ⟨by simp only[resB,d0,d1,d2,d3,d4,QvJ,QvN,QvL],rfl⟩)
     |false =>
      cases d5:(s.toList==({data:=#[103,114,111,117,110,100]}:ByteArray).toList)with
      |true =>
       refine Qa Tryz.func67 rfl Tryz.call67 Tryz.ntmps67 Tryz.results67 (by simp) ?_
       repeat refine Qb ?_;simp only[go_sem,seval,d0,d1,d2,d3,d4,d5]
       (refine Qc QuA (.keep (.v _)) ⟨by simp only[resB,d0,d1,d2,d3,d4,d5,QvJ,QvN],rfl⟩)
      |false =>
       refine Qa Tryz.func67 rfl Tryz.call67 Tryz.ntmps67 Tryz.results67 (by simp) ?_
       repeat refine Qb ?_;simp only[go_sem,seval,d0,d1,d2,d3,d4,d5]
       (refine Qc QuA (.keep (.v _)) ⟨by simp only[resB,d0,d1,d2,d3,d4,d5,QvJ],rfl⟩)
theorem QaX(s:ByteArray):Pure Tryz.prog 77 [.v (.string s)] (.b (resB s)):=by
 intro h
 cases d0:(s.toList==({data:=#[99,111,110,115,116,114,97,105,110,116]}:ByteArray).toList)with
 |true =>
  refine Qa Tryz.func77 rfl Tryz.call77 Tryz.ntmps77 Tryz.results77 (by simp) ?_
  repeat first|refine owN ?_|(first|refine owK fun K hK=>?_|refine nwcS fun K hK=>?_|refine nwcR fun K hK=>?_|refine Qb ?_);simp only[go_sem,seval,d0]|refine hK _ ?_;clear hK
  (refine Qc QuA (.keep (.v _)) ⟨by simp only[resB,d0,QvL],rfl⟩)
 |false =>
  cases d1:(s.toList==({data:=#[116,114,117,101]}:ByteArray).toList)with
  |true =>
   refine Qa Tryz.func77 rfl Tryz.call77 Tryz.ntmps77 Tryz.results77 (by simp) ?_
   repeat first|refine owN ?_|(first|refine owK fun K hK=>?_|refine nwcS fun K hK=>?_|refine nwcR fun K hK=>?_|refine Qb ?_);simp only[go_sem,seval,d0,d1]|refine hK _ ?_;clear hK
   (refine Qc QuA (.keep (.v _)) ⟨by simp only[resB,d0,d1,QvN,QvL],rfl⟩)
  |false =>
   cases d2:(s.toList==({data:=#[102,97,105,108]}:ByteArray).toList)with
   |true =>
    refine Qa Tryz.func77 rfl Tryz.call77 Tryz.ntmps77 Tryz.results77 (by simp) ?_
    repeat first|refine owN ?_|(first|refine owK fun K hK=>?_|refine nwcS fun K hK=>?_|refine nwcR fun K hK=>?_|refine Qb ?_);simp only[go_sem,seval,d0,d1,d2]|refine hK _ ?_;clear hK
    (refine Qc QuA (.keep (.v _)) ⟨by simp only[resB,d0,d1,d2,QvJ,QvN,QvL],rfl⟩)
   |false =>
    cases d3:(s.toList==({data:=#[105,115]}:ByteArray).toList)with
    |true =>
     refine Qa Tryz.func77 rfl Tryz.call77 Tryz.ntmps77 Tryz.results77 (by simp) ?_
     repeat first|refine owN ?_|(first|refine owK fun K hK=>?_|refine nwcS fun K hK=>?_|refine nwcR fun K hK=>?_|refine Qb ?_);simp only[go_sem,seval,d0,d1,d2,d3]|refine hK _ ?_;clear hK
     (refine Qc QuA (.keep (.v _)) ⟨by simp only[resB,d0,d1,d2,d3,QvJ,QvN,QvL],rfl⟩)
    |false =>
     cases d4:(s.toList==({data:=#[105,110,116]}:ByteArray).toList)with
     |true =>
      refine Qa Tryz.func77 rfl Tryz.call77 Tryz.ntmps77 Tryz.results77 (by simp) ?_
      repeat first|refine owN ?_|(first|refine owK fun K hK=>?_|refine nwcS fun K hK=>?_|refine nwcR fun K hK=>?_|refine Qb ?_);simp only[go_sem,seval,d0,d1,d2,d3,d4]|refine hK _ ?_;clear hK
      (refine Qc QuA (.keep (.v _)) ⟨by simp only[resB,d0,d1,d2,d3,d4,QvJ,QvN,QvL],rfl⟩)
     |false =>
      cases d5:(s.toList==({data:=#[103,114,111,117,110,100]}:ByteArray).toList)with
      |true =>
       refine Qa Tryz.func77 rfl Tryz.call77 Tryz.ntmps77 Tryz.results77 (by simp) ?_
       repeat first|refine owN ?_|(first|refine owK fun K hK=>?_|refine nwcS fun K hK=>?_|refine nwcR fun K hK=>?_|refine Qb ?_);simp only[go_sem,seval,d0,d1,d2,d3,d4,d5]|refine hK _ ?_;clear hK
       (refine Qc QuA (.keep (.v _)) ⟨by simp only[resB,d0,d1,d2,d3,d4,d5,QvJ,QvN],rfl⟩)
      |false =>
       refine Qa Tryz.func77 rfl Tryz.call77 Tryz.ntmps77 Tryz.results77 (by simp) ?_
       repeat first|refine owN ?_|(first|refine owK fun K hK=>?_|refine nwcS fun K hK=>?_|refine nwcR fun K hK=>?_|refine Qb ?_);simp only[go_sem,seval,d0,d1,d2,d3,d4,d5]|refine hK _ ?_;clear hK
       (refine Qc QuA (.keep (.v _)) ⟨by simp only[resB,d0,d1,d2,d3,d4,d5,QvJ],rfl⟩)
theorem FunW.QsR{P:Program}{f:FuncId}{args:List AV}{h h':AH}{r:AV}{Q:AOut->AH->Prop}(H:QA P f args h fun o h2=>o = .ret r/\h2=h')(k:Q (.ret r) h'):FunW P (.fn (.func f) [] []) args h Q:=FunW.ret (FunW.call H) k
theorem Qjo(s:ByteArray)(k:Nat):byteAt (s.extract 1 s.size) k=byteAt s (k+1):=by
 unfold byteAt
 rw[Lib.extract_data,QvY (by rw[QuX,<-Lib.size_eq];omega),Qu8,Qu8,Qu7,QwA 1 k]
theorem Qi7(s:ByteArray):(s.extract 1 s.size).size=s.size - 1:=by
 rw[Lib.size_eq,Lib.extract_data,QuY,QuX,<-Lib.size_eq];omega
def fol(c:Int):Prop:=ofN c≠0
instance (c:Int):Decidable (fol c):=by unfold fol;infer_instance
theorem Qcg(c:Int):fol c↔(97<=c/\c<=122)\/(65<=c/\c<=90)\/c=95\/(48<=c/\c<=57):=by
 unfold fol ofN
 split
 ·constructor
  ·intro _;omega
  ·intro _;decide
 ·split
  ·constructor
   ·intro _;omega
   ·intro _;decide
  ·split
   ·constructor
    ·intro _;omega
    ·intro _;decide
   ·constructor
    ·intro h;exact absurd rfl h
    ·intro _;omega
def Fol(s:ByteArray):Prop:=∀k,k<s.size->fol (byteAt s k)
instance (s:ByteArray):Decidable (Fol s):=by unfold Fol;infer_instance
theorem QiM(c:Int):ofN c=0\/ofN c=1\/ofN c=2\/ofN c=4:=by
 unfold ofN
 repeat' split
 all_goals simp
theorem QnS(r:Int)(hr:0<=r/\r<2147483648):Pure Tryz.prog 121 [.v (.int .i32 r)] (.b (decide (122<r\/¬fol r))):=by
 intro h
 by_cases h1:r>122
 ·refine Qa Tryz.func121 rfl Tryz.call121 Tryz.ntmps121 Tryz.results121 (by simp) ?_
  repeat refine Qb ?_;simp only[go_sem,seval,h1]
  (refine Qc QuA (.keep (.v _)) ⟨by rw[QuU (.inl h1)],rfl⟩)
 ·have hcv:=Qqv Tryz.prog 21 5 (ts:=.int .i32) (kd:=.u8) (by kernel_rfl) (by kernel_rfl) .i32
  have w0:IntKind.u8.wrap r=r:=by simp[IntKind.wrap,IntKind.bits,IntKind.signed];omega
  have c:=Qnn r (by omega)
  have hf:decide (122<r\/¬fol r)=(ofN r==0):=by
   by_cases h0:ofN r=0
   ·rw[h0,QuU (.inr fun h=>h h0)];rfl
   ·rw[QuM (by rintro(h|h);exact h1 h;exact h h0)];simp[h0]
  have ha:∀xo yo a,a=0\/a=1\/a=2\/a=4->pv Tryz.prog (do eqGuard .and 147 xo yo (.int .u8 a) (.int .u8 7);binOp .and 147 (.int .u8 a) (.int .u8 7))=some (.int .u8 a):=by
   rintro xo yo a (rfl|rfl|rfl|rfl) <;> rfl
  have ha':=fun xo yo=>ha xo yo (ofN r) (QiM r)
  refine Qa Tryz.func121 rfl Tryz.call121 Tryz.ntmps121 Tryz.results121 (by simp) ?_
  repeat (first|refine Qe c ?_|refine Qb ?_);simp only[go_sem,seval,h1,hcv,w0,↓ha']
  (refine Qc QuA (.keep (.v _)) ⟨by rw[hf],rfl⟩)
def ixR(s:ByteArray):Nat->Nat->Int
 |_,0 => -1
 |p,n+1=>if fol (byteAt s p)then ixR s (p+1) n else p
theorem QmW(s:ByteArray):∀(n p:Nat),ixR s p n<0↔∀k,p<=k->k<p+n->fol (byteAt s k)
 |0,p=>by simp only[ixR];exact⟨fun _ k h1 h2=>by omega,fun _=>by omega⟩
 |n+1,p=>by
  simp only[ixR]
  split
  ·rename_i h
   rw[QmW s n (p+1)]
   constructor
   ·intro h' k h1 h2
    by_cases hk:k=p
    ·rw[hk];exact h
    ·exact h' k (by omega) (by omega)
   ·intro h' k h1 h2;exact h' k (by omega) (by omega)
  ·rename_i h
   constructor
   ·intro h';omega
   ·intro h';exact absurd (h' p (QuD _) (by omega)) h
theorem QmD(s:ByteArray)(i:Nat):(Utf8.decode s i).1<2147483648:=by
 unfold Utf8.decode
 have hr:Utf8.runeError<2147483648:=by decide
 have hb:∀k,(s.get! k).toNat<256:=fun k=>(s.get! k).toNat_lt
 have b0:=hb (i+0)
 have b1:=hb (i+1)
 have b2:=hb (i+2)
 have b3:=hb (i+3)
 simp only
 repeat' split
 all_goals first|exact hr|(simp only;omega)
theorem Qga(b:ByteArray)(hs:b.size<=maxLen):Pure Tryz.prog 128 [.v (.string b),.fn (.func 121) [] [],.b true] (.i (ixR b 0 b.size)):=by
 intro h
 have hbe:=fun xo yo a b=>Qqt Tryz.prog 4 xo yo (by kernel_rfl) a b
 refine Qa Tryz.func128 rfl Tryz.call128 Tryz.ntmps128 Tryz.results128 (by simp) ?_
 repeat refine Qb ?_;simp only[go_sem,seval]
 obtain⟨I,hI⟩:∃I:Nat->AS->Prop,I=fun m' s=>∃(p:Nat),m'=b.size - p/\p<=b.size/\ixR b 0 b.size=ixR b p (b.size - p)/\s.tm 1 = .fn (.func 121) [] []/\s.tm 2 = .b true/\s.tm 10 = .mp h.length/\s.h=h++[.iter b p]:=⟨_,rfl⟩;refine QD I ?_ (m:=b.size) ?_
 ·intro m' s hs;rw[hI]at hs;obtain⟨tm,hp⟩:=s;dsimp only at hs;obtain⟨p,rfl,hp',he,t1,t2,t10,rfl⟩:=hs
  by_cases hlt:p<b.size
  ·have c:=QnS ((Utf8.decode b p).1:Int) ⟨by omega,by have:=QmD b p;omega⟩
   obtain⟨n,hn⟩:∃n,b.size - p=n+1:=⟨b.size - p - 1,by omega⟩
   rw[hn,ixR]at he
   by_cases hf:fol (byteAt b p)
   ·rw[QuH hf]at he
    have hb:byteAt b p<128:=by have:=(Qcg _).1 hf;omega
    obtain⟨d1,d2⟩:=decode_ascii hb
    have hc:decide (122<((Utf8.decode b p).1:Int)\/¬fol ((Utf8.decode b p).1:Int))=false:=by
     rw[d1]
     refine QuM ?_
     rintro(h1|h1)
     ·have:=(Qcg _).1 hf;omega
     ·exact h1 hf
    rw[hc]at c
    repeat (first|refine Qe c ?_|refine Qb ?_);simp only[go_sem,seval,t1,t2,t10,hlt,d2,hbe]
    refine XB.mk (m':=b.size - (p+1)) (by omega) ?_
    rw[hI]
    exact⟨p+1,rfl,hlt,by rw[he,show n=b.size - (p+1) by omega],t1,t2,t10,rfl⟩
   ·rw[QuE hf]at he
    have hc:decide (122<((Utf8.decode b p).1:Int)\/¬fol ((Utf8.decode b p).1:Int))=true:=by
     refine QuU ?_
     by_cases hb:byteAt b p<128
     ·right;rw[(decode_ascii hb).1];exact hf
     ·left;have:=Qlj (s:=b) (i:=p) (by omega);omega
    rw[hc]at c
    repeat (first|refine Qe c ?_|refine Qb ?_);simp only[go_sem,seval,t1,t2,t10,hlt,hbe]
    (refine Qc (htake _ _) (.keep (.v _)) ⟨by rw[he],rfl⟩)
  ·rw[show b.size - p=0 by omega,ixR]at he
   repeat refine Qb ?_;simp only[go_sem,seval,t10,hlt]
   (refine Qc (htake _ _) (.keep (.v _)) ⟨by rw[he],rfl⟩)
 ·rw[hI]
  exact⟨0,by omega,QuG _,rfl,rfl,rfl,rfl,rfl⟩
theorem QdT(b:ByteArray)(hs:b.size<=maxLen):Pure Tryz.prog 120 [.v (.string b),.fn (.func 121) [] []] (.i (ixR b 0 b.size)):=by
 intro h
 have c:=Qga b hs
 refine Qa Tryz.func120 rfl Tryz.call120 Tryz.ntmps120 Tryz.results120 (by simp) ?_
 repeat (first|refine Qe c ?_|refine Qb ?_);simp only[go_sem,seval]
 (refine Qc QuA (.keep (.v _)) ⟨rfl,rfl⟩)
def Qec(first:Int)(s:ByteArray):Prop:=1<=s.size/\s.size<=40/\ofN (byteAt s 0)=first/\Fol s
instance (first:Int) (s:ByteArray):Decidable (Qec first s):=by unfold Qec;infer_instance
theorem QgD(s:ByteArray):(s.toList==({data:=#[]}:ByteArray).toList)=decide (s.size=0):=by
 rw[Lib.toList_data,Lib.toList_data,Lib.size_eq]
 cases s.data.toList <;> simp
theorem Qoa(first:Int)(hf:first=1\/first=2)(s:ByteArray):Pure Tryz.prog 107 [.v (.string s),.v (.int .u8 first)] (.b (decide (Qec first s))):=by
 intro h
 have hsl:=fun b=>Y5 Tryz.prog 9 3 (by kernel_rfl) b
 by_cases n0:s.size=0
 ·have d0:(s.toList==({data:=#[]}:ByteArray).toList)=true:=by rw[QgD,QuU n0]
  refine Qa Tryz.func107 rfl Tryz.call107 Tryz.ntmps107 Tryz.results107 (by simp) ?_
  repeat refine Qb ?_;simp only[go_sem,seval,d0]
  (refine Qc QuA (.keep (.v _)) ⟨by rw[QuM (fun h=>by have:=h.1;omega)],rfl⟩)
 ·have d0:(s.toList==({data:=#[]}:ByteArray).toList)=false:=by rw[QgD,QuM n0]
  by_cases n1:s.size<=40
  ·have m1:¬((s.size:Int)>40):=by omega
   have hix:=QgW Tryz.prog 9 (by kernel_rfl) s (by omega)
   have hr:=Qla s 0
   have c:=Qnn (byteAt s 0) hr
   have ha:∀xo yo a,a=0\/a=1\/a=2\/a=4->pv Tryz.prog (do eqGuard .and 147 xo yo (.int .u8 a) (.int .u8 first);binOp .and 147 (.int .u8 a) (.int .u8 first))=some (.int .u8 (if a=first then first else 0)):=by
    rcases hf with rfl|rfl <;> rintro xo yo a (rfl|rfl|rfl|rfl) <;> rfl
   have ha':=fun xo yo=>ha xo yo (ofN (byteAt s 0)) (QiM _)
   by_cases hc:ofN (byteAt s 0)=first
   ·have f0:(first==0)=false:=by simp;omega
    have hsf:=Qo1 Tryz.prog 9 (by kernel_rfl) s 1 (by omega)
    have hsf':pv Tryz.prog (Instr.sliceAt 9 (.string s) (some (.int .i64 1)) none none)=some (.string (s.extract 1 s.size)):=hsf
    have ci:=QdT (s.extract 1 s.size) (by rw[Qi7];simp only[maxLen];omega)
    have hi:decide (ixR (s.extract 1 s.size) 0 (s.extract 1 s.size).size<0)=decide (Qec first s):=by
     rw[Qws,QmW]
     simp only[Qi7,Qjo,QtR]
     constructor
     ·intro h1
      refine⟨by omega,n1,hc,fun k hk=>?_⟩
      cases k with
      |zero=>show ofN _≠0;rw[hc];omega
      |succ k=>exact h1 k (QuG _) (by omega)
     ·rintro⟨_,_,_,h4⟩ k _ hk
      exact h4 (k+1) (by omega)
    rw[QuH hc]at ha'
    refine Qa Tryz.func107 rfl Tryz.call107 Tryz.ntmps107 Tryz.results107 (by simp) ?_
    repeat (first|refine Qe c ?_|refine Qe ci ?_|refine Qb ?_);simp only[go_sem,seval,YS,d0,hsl,m1,hix,↓ha',f0,hsf']
    (refine Qc QuA (.keep (.v _)) ⟨by rw[hi],rfl⟩)
   ·rw[QuE hc]at ha'
    refine Qa Tryz.func107 rfl Tryz.call107 Tryz.ntmps107 Tryz.results107 (by simp) ?_
    repeat (first|refine Qe c ?_|refine Qb ?_);simp only[go_sem,seval,d0,hsl,m1,hix,↓ha']
    (refine Qc QuA (.keep (.v _)) ⟨by rw[QuM (fun h=>hc h.2.2.1)],rfl⟩)
  ·have m1:((s.size:Int)>40):=by omega
   refine Qa Tryz.func107 rfl Tryz.call107 Tryz.ntmps107 Tryz.results107 (by simp) ?_
   repeat refine Qb ?_;simp only[go_sem,seval,d0,hsl,m1]
   (refine Qc QuA (.keep (.v _)) ⟨by rw[QuM (fun h=>by have:=h.2.1;omega)],rfl⟩)
end Go.Proofs.YticgcpebdldbgaaGreatDoor.Ab
namespace Go.Proofs
open Go.Shelf
def Tryz.Qte:Go.Shelf.Ren:=⟨fun|144=>97|143=>110|219=>124|217=>130|225=>131|224=>132|267=>133|266=>134|314=>135|n=>n,fun|9=>9|4=>4|3=>3|5=>5|46=>161|146=>163|51=>162|n=>n,fun|1=>1|n=>n⟩
theorem Tryz.lays144:Go.Proofs.Lays.n144 Tryz.prog Tryz.Qte:={
 mixed:=by kernel_rfl
 f143:=Tryz.func110.trans (congrArg some (by kernel_rfl))
 f144:=Tryz.func97.trans (congrArg some (by kernel_rfl))
 f217:=Tryz.func130.trans (congrArg some (by kernel_rfl))
 f219:=Tryz.func124.trans (congrArg some (by kernel_rfl))
 f224:=Tryz.func132.trans (congrArg some (by kernel_rfl))
 f225:=Tryz.func131.trans (congrArg some (by kernel_rfl))
 f266:=Tryz.func134.trans (congrArg some (by kernel_rfl))
 f267:=Tryz.func133.trans (congrArg some (by kernel_rfl))
 f314:=Tryz.func135.trans (congrArg some (by kernel_rfl))
 t3:=Tryz.underlying3
 a3:=Tryz.isAgg3
 z3:=Tryz.sizeOf3
 v3:=Tryz.zeroValue3
 t4:=Tryz.underlying4
 a4:=Tryz.isAgg4
 z4:=Tryz.sizeOf4
 v4:=Tryz.zeroValue4
 t5:=Tryz.underlying5
 a5:=Tryz.isAgg5
 z5:=Tryz.sizeOf5
 v5:=Tryz.zeroValue5
 t9:=Tryz.underlying9
 a9:=Tryz.isAgg9
 z9:=Tryz.sizeOf9
 v9:=Tryz.zeroValue9
 t46:=Tryz.underlying161
 a46:=Tryz.isAgg161
 z46:=Tryz.sizeOf161
 v46:=Tryz.zeroValue161
 t51:=Tryz.underlying162
 a51:=Tryz.isAgg162
 z51:=Tryz.sizeOf162
 v51:=Tryz.zeroValue162
 t146:=Tryz.underlying163
 a146:=Tryz.isAgg163
 z146:=Tryz.sizeOf163
 v146:=Tryz.zeroValue163
 g1:=by kernel_rfl}
theorem Tryz.strings_Contains_one(s:ByteArray)(c:UInt8)(w:World) :
  Calls Tryz.prog 97 #[.string s,.string ⟨#[c]⟩] w fun e w'=>e = .returned (.bool (decide (0<=Lib.indexByte s.data.toList c)))/\w'=w:=Any.strings_Contains_one Tryz.lays144 s c w
end Go.Proofs
namespace Go.Proofs.YticgcpebdldbgaaGreatDoor.Ab
open Go.Proofs
theorem Qg0(s:ByteArray):Pure Tryz.prog 91 [.v (.string s)] (.b (decide (Qec 1 s)&&!resB s)):=by
 intro h
 have c:=Qoa 1 (.inl rfl) s
 have cr:=Qdt s
 cases hw:decide (Qec 1 s)with
 |false =>
  rw[hw]at c
  refine Qa Tryz.func91 rfl Tryz.call91 Tryz.ntmps91 Tryz.results91 (by simp) ?_
  repeat (first|refine Qe c ?_|refine Qb ?_);simp only[go_sem,seval]
  (refine Qc QuA (.keep (.v _)) ⟨rfl,rfl⟩)
 |true =>
  rw[hw]at c
  refine Qa Tryz.func91 rfl Tryz.call91 Tryz.ntmps91 Tryz.results91 (by simp) ?_
  repeat (first|refine Qe c ?_|refine Qe cr ?_|refine Qb ?_);simp only[go_sem,seval]
  (refine Qc QuA (.keep (.v _)) ⟨rfl,rfl⟩)
theorem Qnm(c:Int):ofN c=1↔97<=c/\c<=122:=by
 unfold ofN
 repeat' split
 all_goals (constructor <;> intro _ <;> first|omega|assumption|trivial|contradiction)
def Qbq(s:ByteArray):Prop:=1<=s.size/\s.size<=40/\Fol s
instance (s:ByteArray):Decidable (Qbq s):=by unfold Qbq;infer_instance
theorem QiY(b:ByteArray)(hb:b.size<=maxLen):Pure Tryz.prog 112 [.v (.string b)] (.b (decide (Qbq b))):=by
 intro h
 have hsl:=fun b=>Y5 Tryz.prog 9 3 (by kernel_rfl) b
 have hbm:b.size<=9223372036854775807:=hb
 refine Qa Tryz.func112 rfl Tryz.call112 Tryz.ntmps112 Tryz.results112 (by simp) ?_
 repeat first|refine Qb ?_;simp only[go_sem,seval]|refine hK _ ?_;clear hK
 obtain⟨I,hI⟩:∃I:Nat->AS->Prop,I=fun m' s=>∃(p:Nat),m'=b.size - p/\p<=b.size/\(∀k,k<p->fol (byteAt b k))/\s.tm 0 = .v (.string b)/\s.tm 3 = .i p/\s.h=h:=⟨_,rfl⟩;refine QD I ?_ (m:=b.size) ?_
 ·intro m' s hs;rw[hI]at hs;obtain⟨tm,hp⟩:=s;dsimp only at hs;obtain⟨p,rfl,hp',he,t0,t3,rfl⟩:=hs
  by_cases hlt:p<b.size
  ·have hix:=Yv Tryz.prog 9 (by kernel_rfl) b p hlt
   have c1:=Qdp (byteAt b p)
   have c2:=QhJ (byteAt b p)
   have onw:fol (byteAt b p)->∀k,k<p+1->fol (byteAt b k):=fun hf k hk=>by
    rcases Qv5 k p with h'|h'
    ·exact he k h'
    ·have:k=p:=by omega
     rw[this];exact hf
   have stop:¬fol (byteAt b p)->decide (Qbq b)=false:=fun hf=>QuM fun h=>hf (h.2.2 p hlt)
   iterate 9 (try (first|(((with_reducible refine Qd fun K E hK hE=>?_));simp only[go_sem,seval,t0,t3,hsl,hlt])|(with_reducible (first|refine Qq fun K hK=>?_|refine Qu ?_|refine QE ?_|refine Qg ?_))|((with_reducible refine hK _ ?_);clear hK)|(refine Qm rfl ?_;simp only[↓reduceIte])))
   refine Yb (fun s=>s.tm 39 = .b (decide (¬fol (byteAt b p)))/\s.tm 0 = .v (.string b)/\s.tm 3 = .i p/\s.h=hp) ?_ ?_
   ·rintro⟨tm,hq⟩ ⟨t39,t0,t3,rfl⟩
    dsimp only at t39 t0 t3
    by_cases hf:fol (byteAt b p)
    ·rw[QuM (fun h=>h hf)]at t39
     refine Qm (by exact t39) ?_
     simp only[↓reduceIte,QtJ]
     repeat first|refine Qb ?_;simp only[go_sem,seval,t3]|refine hK _ ?_;clear hK
     refine XB.mk (m':=b.size - (p+1)) (by omega) ?_
     rw[hI]
     refine⟨p+1,rfl,hlt,onw hf,t0,?_,rfl⟩
     simp only[upd,↓reduceIte]
     rw[XM (by omega)]
    ·rw[QuU hf]at t39
     refine Qm (by exact t39) ?_
     simp only[↓reduceIte]
     repeat first|refine Qb ?_;simp only[go_sem,seval]|refine hK _ ?_;clear hK
     exact Qc QuA (.keep (.v _)) ⟨by rw[stop hf],rfl⟩
   ·skip
    by_cases hl:97<=byteAt b p/\byteAt b p<=122
    ·rw[QuU hl]at c1
     have hv:decide (¬fol (byteAt b p))=false:=QuM fun h=>h ((Qcg _).2 (.inl hl))
     repeat first|refine owN ?_|(first|refine Qe c1 ?_|refine owK fun K hK=>?_|refine nwcS fun K hK=>?_|refine nwcR fun K hK=>?_|refine Qb ?_);simp only[go_sem,seval,t0,t3,hix]|refine hK _ ?_;clear hK
     exact⟨by rw[hv];rfl,t0,t3,rfl⟩
    ·rw[QuM hl]at c1
     by_cases hu:65<=byteAt b p/\byteAt b p<=90
     ·rw[QuU hu]at c2
      have hv:decide (¬fol (byteAt b p))=false:=QuM fun h=>h ((Qcg _).2 (.inr (.inl hu)))
      repeat first|refine owN ?_|(first|refine Qe c1 ?_|refine Qe c2 ?_|refine owK fun K hK=>?_|refine nwcS fun K hK=>?_|refine nwcR fun K hK=>?_|refine Qb ?_);simp only[go_sem,seval,t0,t3,hix]|refine hK _ ?_;clear hK
      exact⟨by rw[hv];rfl,t0,t3,rfl⟩
     ·rw[QuM hu]at c2
      by_cases d1:byteAt b p<48
      ·have q':(byteAt b p != 95)=true:=by simp;omega
       have hv:decide (¬fol (byteAt b p))=true:=QuU fun hf=>by have:=(Qcg _).1 hf;omega
       repeat first|refine owN ?_|(first|refine Qe c1 ?_|refine Qe c2 ?_|refine owK fun K hK=>?_|refine nwcS fun K hK=>?_|refine nwcR fun K hK=>?_|refine Qb ?_);simp only[go_sem,seval,t0,t3,hix,d1,q']|refine hK _ ?_;clear hK
       exact⟨by rw[hv];rfl,t0,t3,rfl⟩
      ·by_cases d2:byteAt b p>57
       ·by_cases q:byteAt b p=95
        ·have q':(byteAt b p != 95)=false:=by simp[q]
         have hv:decide (¬fol (byteAt b p))=false:=QuM fun h=>h ((Qcg _).2 (.inr (.inr (.inl q))))
         repeat first|refine owN ?_|(first|refine Qe c1 ?_|refine Qe c2 ?_|refine owK fun K hK=>?_|refine nwcS fun K hK=>?_|refine nwcR fun K hK=>?_|refine Qb ?_);simp only[go_sem,seval,t0,t3,hix,d1,d2,q']|refine hK _ ?_;clear hK
         exact⟨by rw[hv];rfl,t0,t3,rfl⟩
        ·have q':(byteAt b p != 95)=true:=by simp[q]
         have hv:decide (¬fol (byteAt b p))=true:=QuU fun hf=>by have:=(Qcg _).1 hf;omega
         repeat first|refine owN ?_|(first|refine Qe c1 ?_|refine Qe c2 ?_|refine owK fun K hK=>?_|refine nwcS fun K hK=>?_|refine nwcR fun K hK=>?_|refine Qb ?_);simp only[go_sem,seval,t0,t3,hix,d1,d2,q']|refine hK _ ?_;clear hK
         exact⟨by rw[hv];rfl,t0,t3,rfl⟩
       ·skip
        have hv:decide (¬fol (byteAt b p))=false:=QuM fun h=>h ((Qcg _).2 (.inr (.inr (.inr ⟨by omega,by omega⟩))))
        repeat first|refine owN ?_|(first|refine Qe c1 ?_|refine Qe c2 ?_|refine owK fun K hK=>?_|refine nwcS fun K hK=>?_|refine nwcR fun K hK=>?_|refine Qb ?_);simp only[go_sem,seval,t0,t3,hix,d1,d2]|refine hK _ ?_;clear hK
        exact⟨by rw[hv];rfl,t0,t3,rfl⟩
  ·have hpz:p=b.size:=by omega
   rw[hpz]at he
   by_cases g1:(b.size:Int)>=1
   ·by_cases g2:(b.size:Int)<=40
    ·repeat first|refine Qb ?_;simp only[go_sem,seval,t0,t3,hsl,hlt,g1,g2]|refine hK _ ?_;clear hK|clear hK;refine hK _ ?_;clear hK
     exact Qc QuA (.keep (.v _)) ⟨by rw[QuU (show Qbq b from⟨by omega,by omega,he⟩)],rfl⟩
    ·repeat first|refine Qb ?_;simp only[go_sem,seval,t0,t3,hsl,hlt,g1,g2]|refine hK _ ?_;clear hK|clear hK;refine hK _ ?_;clear hK
     exact Qc QuA (.keep (.v _)) ⟨by rw[QuM (fun h:Qbq b=>by have:=h.2.1;omega)],rfl⟩
   ·repeat first|refine Qb ?_;simp only[go_sem,seval,t0,t3,hsl,hlt,g1]|refine hK _ ?_;clear hK|clear hK;refine hK _ ?_;clear hK
    exact Qc QuA (.keep (.v _)) ⟨by rw[QuM (fun h:Qbq b=>by have:=h.1;omega)],rfl⟩
 ·rw[hI]
  exact⟨0,by omega,QuG _,fun k hk=>by omega,rfl,rfl,rfl⟩
theorem Qdq(s:ByteArray)(hb:s.size<=maxLen):Pure Tryz.prog 100 [.v (.string s)] (.b (decide (Qec 1 s)&&!resB s)):=by
 intro h
 have c:=QiY s hb
 have cr:=QaX s
 have cl:=Qdp (byteAt s 0)
 by_cases hw:Qbq s
 ·rw[QuU hw]at c
  have hix:=QgW Tryz.prog 9 (by kernel_rfl) s (by have:=hw.1;omega)
  by_cases hl:97<=byteAt s 0/\byteAt s 0<=122
  ·rw[QuU hl]at cl
   have e:decide (Qec 1 s)=true:=QuU ⟨hw.1,hw.2.1,(Qnm _).2 hl,hw.2.2⟩
   refine Qa Tryz.func100 rfl Tryz.call100 Tryz.ntmps100 Tryz.results100 (by simp) ?_
   repeat (first|refine Qe c ?_|refine Qe cl ?_|refine Qe cr ?_|refine Qb ?_);simp only[go_sem,seval,hix]
   (refine Qc QuA (.keep (.v _)) ⟨by rw[e,Qup],rfl⟩)
  ·rw[QuM hl]at cl
   have e:decide (Qec 1 s)=false:=QuM fun h=>hl ((Qnm _).1 h.2.2.1)
   refine Qa Tryz.func100 rfl Tryz.call100 Tryz.ntmps100 Tryz.results100 (by simp) ?_
   repeat (first|refine Qe c ?_|refine Qe cl ?_|refine Qb ?_);simp only[go_sem,seval,hix]
   (refine Qc QuA (.keep (.v _)) ⟨by rw[e];rfl,rfl⟩)
 ·rw[QuM hw]at c
  have e:decide (Qec 1 s)=false:=QuM fun h=>hw ⟨h.1,h.2.1,h.2.2.2⟩
  refine Qa Tryz.func100 rfl Tryz.call100 Tryz.ntmps100 Tryz.results100 (by simp) ?_
  repeat (first|refine Qe c ?_|refine Qb ?_);simp only[go_sem,seval]
  (refine Qc QuA (.keep (.v _)) ⟨by rw[e];rfl,rfl⟩)
end Go.Proofs.YticgcpebdldbgaaGreatDoor.Ab
namespace Go.Proofs.YticgcpebdldbgaaGreatDoor.Ab
open Go.Proofs Go.RowKit
def opB(s:ByteArray):Bool:=(s.toList==({data:=#[43]}:ByteArray).toList)||(s.toList==({data:=#[45]}:ByteArray).toList)||(s.toList==({data:=#[42]}:ByteArray).toList)||(s.toList==({data:=#[47]}:ByteArray).toList)||(s.toList==({data:=#[37]}:ByteArray).toList)
theorem QeG(s:ByteArray):Pure Tryz.prog 127 [.v (.string s)] (.b (opB s)):=by
 intro h
 cases d0:(s.toList==({data:=#[43]}:ByteArray).toList)with
 |true =>
  refine Qa Tryz.func127 rfl Tryz.call127 Tryz.ntmps127 Tryz.results127 (by simp) ?_
  repeat first|refine owN ?_|(first|refine owK fun K hK=>?_|refine nwcS fun K hK=>?_|refine nwcR fun K hK=>?_|refine Qb ?_);simp only[go_sem,seval,d0]|refine hK _ ?_;clear hK
  (refine Qc QuA (.keep (.v _)) ⟨by simp only[opB,d0,QvL],rfl⟩)
 |false =>
  cases d1:(s.toList==({data:=#[45]}:ByteArray).toList)with
  |true =>
   refine Qa Tryz.func127 rfl Tryz.call127 Tryz.ntmps127 Tryz.results127 (by simp) ?_
   repeat first|refine owN ?_|(first|refine owK fun K hK=>?_|refine nwcS fun K hK=>?_|refine nwcR fun K hK=>?_|refine Qb ?_);simp only[go_sem,seval,d0,d1]|refine hK _ ?_;clear hK
   (refine Qc QuA (.keep (.v _)) ⟨by simp only[opB,d0,d1,QvN,QvL],rfl⟩)
  |false =>
   cases d2:(s.toList==({data:=#[42]}:ByteArray).toList)with
   |true =>
    refine Qa Tryz.func127 rfl Tryz.call127 Tryz.ntmps127 Tryz.results127 (by simp) ?_
    repeat first|refine owN ?_|(first|refine owK fun K hK=>?_|refine nwcS fun K hK=>?_|refine nwcR fun K hK=>?_|refine Qb ?_);simp only[go_sem,seval,d0,d1,d2]|refine hK _ ?_;clear hK
    (refine Qc QuA (.keep (.v _)) ⟨by simp only[opB,d0,d1,d2,QvJ,QvN,QvL],rfl⟩)
   |false =>
    cases d3:(s.toList==({data:=#[47]}:ByteArray).toList)with
    |true =>
     refine Qa Tryz.func127 rfl Tryz.call127 Tryz.ntmps127 Tryz.results127 (by simp) ?_
     repeat first|refine owN ?_|(first|refine owK fun K hK=>?_|refine nwcS fun K hK=>?_|refine nwcR fun K hK=>?_|refine Qb ?_);simp only[go_sem,seval,d0,d1,d2,d3]|refine hK _ ?_;clear hK
     (refine Qc QuA (.keep (.v _)) ⟨by simp only[opB,d0,d1,d2,d3,QvJ,QvN,QvL],rfl⟩)
    |false =>
     cases d4:(s.toList==({data:=#[37]}:ByteArray).toList)with
     |true =>
      refine Qa Tryz.func127 rfl Tryz.call127 Tryz.ntmps127 Tryz.results127 (by simp) ?_
      repeat first|refine owN ?_|(first|refine owK fun K hK=>?_|refine nwcS fun K hK=>?_|refine nwcR fun K hK=>?_|refine Qb ?_);simp only[go_sem,seval,d0,d1,d2,d3,d4]|refine hK _ ?_;clear hK
      (refine Qc QuA (.keep (.v _)) ⟨by simp only[opB,d0,d1,d2,d3,d4,QvJ,QvN],rfl⟩)
     |false =>
      refine Qa Tryz.func127 rfl Tryz.call127 Tryz.ntmps127 Tryz.results127 (by simp) ?_
      repeat first|refine owN ?_|(first|refine owK fun K hK=>?_|refine nwcS fun K hK=>?_|refine nwcR fun K hK=>?_|refine Qb ?_);simp only[go_sem,seval,d0,d1,d2,d3,d4]|refine hK _ ?_;clear hK
      (refine Qc QuA (.keep (.v _)) ⟨by simp only[opB,d0,d1,d2,d3,d4,QvJ],rfl⟩)
theorem Qql:∀n:Fin 256,decide (0<=Lib.indexByte [43,45,42,47,37] (UInt8.ofNat n.val))=(([UInt8.ofNat n.val]==[43])||([UInt8.ofNat n.val]==[45])||([UInt8.ofNat n.val]==[42])||([UInt8.ofNat n.val]==[47])||([UInt8.ofNat n.val]==[37])):=by decide +kernel
theorem Qrk(c:UInt8):decide (0<=Lib.indexByte [43,45,42,47,37] c)=opB {data:=#[c]}:=by
 have:=Qql ⟨c.toNat,c.toNat_lt⟩
 simp only[UInt8.ofNat_toNat]at this
 rw[this,opB]
 simp only[Lib.toList_data]
theorem Qhj(c:UInt8):Pure Tryz.prog 97 [.v (.string {data:=#[43,45,42,47,37]}),.v (.string {data:=#[c]})] (.b (opB {data:=#[c]})):=by
 rw[<-Qrk]
 exact Qo0 (vs:=[.string {data:=#[43,45,42,47,37]},.string {data:=#[c]}]) Tryz.call97 fun w=>(Tryz.strings_Contains_one _ c w).mono (by rintro e w' ⟨rfl,rfl⟩;exact⟨_,rfl,Go.RowKit.Below.refl _ _,fun _=>.v _⟩)
theorem one_byte{s:ByteArray}(h:s.size=1):∃c,s={data:=#[c]}:=by
 obtain⟨⟨l⟩⟩:=s
 match l,h with
 |[c],_=>exact⟨c,rfl⟩
theorem QoR{s:ByteArray}(h:s.size≠1):opB s=false:=by
 have:∀c:UInt8,(s.toList==[c])=false:=fun c=>by
  rw[Lib.toList_data,QvQ]
  intro e
  exact h (by rw[Lib.size_eq,e];rfl)
 have t:∀c:UInt8,({data:=#[c]}:ByteArray).toList=[c]:=fun c=>Lib.toList_data _
 simp only[opB,t,this,QvJ]
theorem Qdm(s:ByteArray):Pure Tryz.prog 82 [.v (.string s)] (.b (opB s)):=by
 intro h
 have hsl:=fun b=>Y5 Tryz.prog 9 3 (by kernel_rfl) b
 by_cases n1:s.size=1
 ·have m1:((s.size:Int)==1)=true:=by simp[n1]
  obtain⟨c,rfl⟩:=one_byte n1
  have cc:=Qhj c
  refine Qa Tryz.func82 rfl Tryz.call82 Tryz.ntmps82 Tryz.results82 (by simp) ?_
  repeat (first|refine Qe cc ?_|refine Qb ?_);simp only[go_sem,seval,hsl,m1]
  (refine Qc QuA (.keep (.v _)) ⟨rfl,rfl⟩)
 ·have m1:((s.size:Int)==1)=false:=by simp;omega
  refine Qa Tryz.func82 rfl Tryz.call82 Tryz.ntmps82 Tryz.results82 (by simp) ?_
  repeat refine Qb ?_;simp only[go_sem,seval,hsl,m1]
  (refine Qc QuA (.keep (.v _)) ⟨by rw[QoR n1],rfl⟩)
end Go.Proofs.YticgcpebdldbgaaGreatDoor.Ab
namespace Go.Proofs.YticgcpebdldbgaaGreatDoor.Ab
def hs(h:AH)(i:Nat)(x:AB):AH:=h.set i x
section
variable{h:AH}{i:Nat}(hi:i<h.length)
theorem Qb4(h:AH)(i:Nat)(x:AB):(hs h i x).length=h.length:=by simp[hs]
include hi
theorem QpA(x:AB):(hs h i x)[i]? = some x:=by simp[hs,hi]
theorem QjA(x:AB)(L:AH):(hs h i x++L)[i]? = some x:=by rw[Qux (by rw[Qb4];exact hi)];exact QpA hi x
theorem QmQ(x y:AB):(hs h i x).set i y=hs h i y:=by have _u:=hi;simp[hs]
theorem QmR(x y:AB)(L:AH):(hs h i x++L).set i y=hs h i y++L:=by rw[QuN _ _ (by rw[Qb4];exact hi),QmQ hi]
theorem Qkp(x:AB)(L:AH):hs (h++L) i x=hs h i x++L:=by simp only[hs];rw[QuN _ _ hi]
omit hi
theorem Qhq(x:AB)(L:AH):(hs h i x++L)[h.length]? = L[0]? := by rw[<-Qb4 h i x];exact X8 _ _
theorem Qkq(x y:AB)(L:AH):(hs h i x++L).set h.length y=hs h i x++L.set 0 y:=by rw[<-Qb4 h i x];exact Yh _ _ _
theorem Qqf{x:AB}(hx:h[i]? = some x):hs h i x=h:=by
 apply Qvs
 intro j
 simp only[hs,Qwq]
 split
 ·rename_i hj;subst hj;rw[hx];simp[Qf hx]
 ·rfl
end
def Chg(P:Program)(f:FuncId)(args:List AV)(i:Nat)(x:AB)(r:AV)(y:AB):Prop :=
 ∀h:AH,i<h.length->QA P f args (hs h i x) fun o h'=>o = .ret r/\h'=hs h i y
theorem Chg.app{P:Program}{f:FuncId}{args:List AV}{i:Nat}{x y:AB}{r:AV}(H:Chg P f args i x r y){h:AH}(hi:i<h.length)(L:AH) :
  QA P f args (hs h i x++L) fun o h'=>o = .ret r/\h'=hs h i y++L:=by
 have:=H (h++L) (by rw[Quw];omega)
 rwa [Qkp hi,Qkp hi]at this
theorem Yi{h:AH}{i:Nat}{x y:AB}{L:AH}{r r':AV}{Q:AV->AH->Prop}(hy:y.Below h.length)(hf:Frz (hs h i y++L) h.length r r')(hq:Q r' (hs h i y)):Leaves (hs h i x) (hs h i y++L) r Q:=by
 have ht:(hs h i y++L).take h.length=hs h i y:=by rw[<-Qb4 h i y];exact htake _ _
 refine .inl ⟨h.length,r',by rw[Qb4];exact QuD _,by rw[Quw,Qb4];omega,.inr fun k b hb=>?_,hf,by rw[ht];exact hq⟩
 rw[ht]at hb
 simp only[hs,Qwq]at hb ⊢
 by_cases hk:i=k
 ·subst hk
  simp only[QvB]at hb ⊢
  split at hb
  ·cases hb;exact .inr hy
  ·cases hb
 ·rw[QuE hk]at hb ⊢
  exact .inl hb
def hs2(h:AH)(i:Nat)(x:AB)(j:Nat)(y:AB):AH:=(h.set i x).set j y
section
variable{h:AH}{i j:Nat}(hi:i<h.length)(hj:j<h.length)(hij:i≠j)
theorem Qay(h:AH)(i:Nat)(x:AB)(j:Nat)(y:AB):(hs2 h i x j y).length=h.length:=by simp[hs2]
theorem Qko(x y:AB)(L:AH):(hs2 h i x j y++L)[h.length]? = L[0]? := by rw[<-Qay h i x j y];exact X8 _ _
theorem Qqe(x y:AB)(L:AH)(k:Nat):(hs2 h i x j y++L)[h.length+k]? = L[k]? := by rw[<-Qay h i x j y];exact hget _ _ _
theorem Qiy(x y z:AB)(L:AH):(hs2 h i x j y++L).set h.length z=hs2 h i x j y++L.set 0 z:=by rw[<-Qay h i x j y];exact Yh _ _ _
theorem Qoz(x y z:AB)(L:AH)(k:Nat):(hs2 h i x j y++L).set (h.length+k) z=hs2 h i x j y++L.set k z:=by rw[<-Qay h i x j y];exact hset _ _ _ _
include hj in
theorem Qhp(x y:AB):(hs2 h i x j y)[j]? = some y:=by simp[hs2,hj]
include hj in
theorem Qix(x y:AB)(L:AH):(hs2 h i x j y++L)[j]? = some y:=by rw[Qux (by rw[Qay];exact hj)];exact Qhp hj x y
include hi hij in
theorem Qho(x y:AB):(hs2 h i x j y)[i]? = some x:=by
 simp only[hs2]
 rw[Quy (fun e=>hij e.symm)]
 simp[hi]
include hi hij in
theorem Qiw(x y:AB)(L:AH):(hs2 h i x j y++L)[i]? = some x:=by rw[Qux (by rw[Qay];exact hi)];exact Qho hi hij x y
theorem Qoy(x y z:AB):(hs2 h i x j y).set j z=hs2 h i x j z:=by simp[hs2]
include hj in
theorem QmP(x y z:AB)(L:AH):(hs2 h i x j y++L).set j z=hs2 h i x j z++L:=by rw[QuN _ _ (by rw[Qay];exact hj),Qoy]
include hij in
theorem Qox(x y z:AB):(hs2 h i x j y).set i z=hs2 h i z j y:=by
 simp only[hs2]
 rw[Qwp _ _ (fun e=>hij e.symm),Qwf]
include hi hij in
theorem QmO(x y z:AB)(L:AH):(hs2 h i x j y++L).set i z=hs2 h i z j y++L:=by rw[QuN _ _ (by rw[Qay];exact hi),Qox hij]
include hi hj in
theorem Qjz(x y:AB)(L:AH):hs2 (h++L) i x j y=hs2 h i x j y++L:=by
 simp only[hs2]
 rw[QuN _ _ hi,QuN _ _ (by simpa using hj)]
theorem Qfl(x y:AB){k:Nat}(h1:i≠k)(h2:j≠k):(hs2 h i x j y)[k]? = h[k]? := by
 simp only[hs2]
 rw[Quy h2,Quy h1]
end
theorem QdU{h:AH}{i j:Nat}{x y x' y':AB}{L:AH}{r r':AV}{Q:AV->AH->Prop}(hij:i≠j)(hx:x'.Below h.length)(hy:y'.Below h.length)(hf:Frz (hs2 h i x' j y'++L) h.length r r')(hq:Q r' (hs2 h i x' j y')) :
  Leaves (hs2 h i x j y) (hs2 h i x' j y'++L) r Q:=by
 have ht:(hs2 h i x' j y'++L).take h.length=hs2 h i x' j y':=by rw[<-Qay h i x' j y'];exact htake _ _
 refine .inl ⟨h.length,r',by rw[Qay];exact QuD _,by rw[Quw,Qay];omega,.inr fun k b hb=>?_,hf,by rw[ht];exact hq⟩
 rw[ht]at hb
 have hlt:=Qf hb
 rw[Qay]at hlt
 by_cases hk:j=k
 ·subst hk
  rw[Qhp hlt]at hb
  cases hb;exact .inr hy
 ·by_cases hk':i=k
  ·subst hk'
   rw[Qho hlt hij]at hb
   cases hb;exact .inr hx
  ·rw[Qfl _ _ hk' hk]at hb ⊢
   exact .inl hb
def Chg2(P:Program)(f:FuncId)(args:List AV)(i:Nat)(x:AB)(j:Nat)(y:AB)(r:AV)(x' y':AB):Prop :=
 ∀h:AH,i<h.length->j<h.length->QA P f args (hs2 h i x j y) fun o h'=>o = .ret r/\h'=hs2 h i x' j y'
theorem Chg2.app{P:Program}{f:FuncId}{args:List AV}{i j:Nat}{x y x' y':AB}{r:AV}(H:Chg2 P f args i x j y r x' y'){h:AH}(hi:i<h.length)(hj:j<h.length)(L:AH) :
  QA P f args (hs2 h i x j y++L) fun o h'=>o = .ret r/\h'=hs2 h i x' j y'++L:=by
 have:=H (h++L) (by rw[Quw];omega) (by rw[Quw];omega)
 rwa [Qjz hi hj,Qjz hi hj]at this
end Go.Proofs.YticgcpebdldbgaaGreatDoor.Ab
namespace Go.Proofs.YticgcpebdldbgaaGreatDoor.Ab
open Go.Proofs
def Qbf(s:ByteArray):Bool:=decide (Qec 1 s)&&!resB s
def QaQ(s:ByteArray):Bool:=s.toList==({data:=#[]}:ByteArray).toList
mutual
def T.run:T->Int->Int->Bool×Int
 | .mk k i n l,b,d =>
  if b - 1<0\/d<1 then(false,b - 1)else
  if k=0 then(decide (-2147483648<=i/\i<=2147483648)&&QaQ n&&l.isEmpty,b - 1)else
  if k=1 then(decide (0<=i/\i<=1048576)&&QaQ n&&l.isEmpty,b - 1)else
  if k=2 then(if i≠0\/6<l.length then(false,b - 1)else if (!Qbf n&&!(opB n&&decide (l.length=2)))=true then(false,b - 1)else runL l (b - 1) (d - 1))else(false,b - 1)
def runL:List T->Int->Int->Bool×Int
 |[],b,d=>(true,b)
 |t::l,b,d=>if (t.run b d).1=true then runL l (t.run b d).2 d else(false,(t.run b d).2)
end
theorem T.run_eq(t:T)(b d:Int):t.run b d=if b - 1<0\/d<1 then(false,b - 1)else
  if t.kind=0 then(decide (-2147483648<=t.int/\t.int<=2147483648)&&QaQ t.name&&t.args.isEmpty,b - 1)else
  if t.kind=1 then(decide (0<=t.int/\t.int<=1048576)&&QaQ t.name&&t.args.isEmpty,b - 1)else
  if t.kind=2 then(if t.int≠0\/6<t.args.length then(false,b - 1)else if (!Qbf t.name&&!(opB t.name&&decide (t.args.length=2)))=true then(false,b - 1)else runL t.args (b - 1) (d - 1))else(false,b - 1):=by
 cases t;rw[T.run];rfl
theorem QnR{l:List T}{k:Nat}(h:k<l.length)(b d:Int):runL (l.drop k) b d=if ((l[k]).run b d).1=true then runL (l.drop (k+1)) ((l[k]).run b d).2 d else(false,((l[k]).run b d).2):=by
 rw[QuQ h];simp only[runL]
def bud(b:Int):AB:=.cells 127 1 [.agg [.i b]]
theorem Qmh(d:Int)(ih:∀(t:T) (b:Int) (i:Nat),-1<=b->b<=1000->Chg Tryz.prog 98 [.ptr i 0 0,t.av,.i d] i (bud b) (.b (t.run b d).1) (bud (t.run b d).2))
  (l:List T) (hl:l.length<=1000) (b:Int) (i:Nat) (hb : -1<=b/\b<=1000) (hr:∀(t:T) (b:Int),-1<=b/\b<=1000->(t.run b d).1=true -> -1<=(t.run b d).2/\(t.run b d).2<=1000) :
  Chg Tryz.prog 83 [.ptr i 0 0,.sl 4 (avs l) none,.i d] i (bud b) (.b (runL l b d).1) (bud (runL l b d).2):=by
 intro h hi
 have f1:=fun x=>Qb4 h i x
 refine Qa Tryz.func83 rfl Tryz.call83 Tryz.ntmps83 Tryz.results83 (by simp) ?_
 repeat refine Qb ?_;simp only[go_sem,seval]
 obtain⟨I,hI⟩:∃I:Nat->AS->Prop,I=fun m' s=>∃(k:Nat) (b':Int),m'=l.length - k/\k<=l.length/\(-1<=b'/\b'<=1000)/\runL l b d=runL (l.drop k) b' d/\s.tm 0 = .ptr i 0 0/\s.tm 1 = .sl 4 (avs l) none/\s.tm 2 = .i d/\s.tm 9 = .i l.length/\s.tm 10 = .i k/\s.h=hs h i (bud b'):=⟨_,rfl⟩;refine QD I ?_ (m:=l.length) ?_
 ·intro m' s hs;rw[hI]at hs;obtain⟨tm,hp⟩:=s;dsimp only at hs;obtain⟨k,b',rfl,hk,hb',he,t0,t1,t2,t9,t10,rfl⟩:=hs
  by_cases hlt:k<l.length
  ·have hg:=QaW hlt
   have c:=ih l[k] b' i hb'.1 hb'.2 h hi
   rw[QnR hlt]at he
   cases hr1:((l[k]).run b' d).1 with
   |true =>
    rw[hr1]at c he
    repeat (first|refine FunW.QsR c ?_|refine Qb ?_);simp only[go_sem,seval,t0,t1,t2,t9,t10,hlt,hg]
    refine XB.mk (m':=l.length - (k+1)) (by omega) ?_
    rw[hI]
    refine⟨k+1,_,rfl,hlt,hr _ _ hb' hr1,by rw[he,QuH rfl],t0,t1,t2,t9,?_,rfl⟩
    simp only[upd,↓reduceIte]
    rw[XM (by omega)]
   |false =>
    rw[hr1]at c he
    rw[QuE (by simp)]at he
    repeat (first|refine FunW.QsR c ?_|refine Qb ?_);simp only[go_sem,seval,t0,t1,t2,t9,t10,hlt,hg]
    rw[he]
    exact .inr ⟨rfl,rfl⟩
  ·have hkn:k=l.length:=by omega
   subst hkn
   rw[Qvb]at he
   repeat refine Qb ?_;simp only[go_sem,seval,t9,t10,hlt]
   rw[he]
   exact .inr ⟨rfl,rfl⟩
 ·rw[hI]
  exact⟨0,b,rfl,by omega,hb,rfl,rfl,rfl,rfl,rfl,rfl,rfl⟩
mutual
theorem T.Qtg:∀(t:T) (b d:Int),-1<=b/\b<=1000->(t.run b d).1=true -> -1<=(t.run b d).2/\(t.run b d).2<=1000
 | .mk k i n l,b,d,hb,h=>by
  rw[T.run]at h ⊢
  split at h
  ·cases h
  rename_i hn
  rw[QuE hn]
  split at h
  ·rename_i hk;rw[QuH hk];exact⟨by simp only;omega,by simp only;omega⟩
  rename_i hk;rw[QuE hk]
  split at h
  ·rename_i hk;rw[QuH hk];exact⟨by simp only;omega,by simp only;omega⟩
  rename_i hk;rw[QuE hk]
  split at h
  ·rename_i hk2
   rw[QuH hk2]
   split at h
   ·cases h
   rename_i hk;rw[QuE hk]
   split at h
   ·cases h
   rename_i hk;rw[QuE hk]
   exact QkN l _ _ (by omega) h
  ·cases h
theorem QkN:∀(l:List T) (b d:Int),-1<=b/\b<=1000->(runL l b d).1=true -> -1<=(runL l b d).2/\(runL l b d).2<=1000
 |[],b,d,hb,h=>by simpa only[runL]using hb
 |t::l,b,d,hb,h=>by
  rw[runL]at h ⊢
  split at h
  ·rename_i ht
   rw[QuH ht]
   exact QkN l _ _ (T.Qtg t b d hb ht) h
  ·cases h
end
theorem Yy(n:Nat)(b:Int):(bud b).Below n:=fun a ha=>by
 simp[flat,AV.cells]at ha
 subst ha;exact .v _
theorem Qn4:∀(dn:Nat) (t:T) (b:Int) (i:Nat),dn<=1000 -> -1<=b->b<=1000->Chg Tryz.prog 98 [.ptr i 0 0,t.av,.i (dn:Int)] i (bud b) (.b (t.run b dn).1) (bud (t.run b dn).2):=by
 intro dn
 induction dn with
 |zero =>
  intro t b i hdn hb0 hb1 h hi
  have w1:IntKind.i64.wrap (b - 1)=b - 1:=Ya (by omega)
  have f1:=fun x L=>QjA hi x L
  have f2:=fun x y L=>QmR hi x y L
  have f3:=fun x L=>Qhq (h:=h) (i:=i) x L
  have f4:=fun x=>Qb4 h i x
  have fb:∀b,bud b = .cells 127 1 [.agg [.i b]]:=fun _=>rfl
  by_cases m0:b - 1<0
  ·have hn:(b - 1<0\/((0:Nat):Int)<1):=.inl m0
   have R:t.run b ((0:Nat):Int)=(false,b - 1):=by
    rw[T.run_eq,QuH hn]
   rw[R]
   refine Qa Tryz.func98 rfl Tryz.call98 Tryz.ntmps98 Tryz.results98 (by simp) ?_
   repeat refine Qb ?_;simp only[go_sem,seval,w1,f1,f2,f4,fb,m0]
   exact Yi (Yy _ _) (.keep (.v _)) ⟨rfl,rfl⟩
  ·have hn:(b - 1<0\/((0:Nat):Int)<1):=.inr (by omega)
   have d0:(0:Int)<1:=by omega
   have R:t.run b ((0:Nat):Int)=(false,b - 1):=by
    rw[T.run_eq,QuH hn]
   rw[R]
   refine Qa Tryz.func98 rfl Tryz.call98 Tryz.ntmps98 Tryz.results98 (by simp) ?_
   repeat refine Qb ?_;simp only[go_sem,seval,w1,f1,f2,f4,fb,m0,d0]
   exact Yi (Yy _ _) (.keep (.v _)) ⟨rfl,rfl⟩
 |succ dn ih =>
  intro t b i hdn hb0 hb1 h hi
  have w1:IntKind.i64.wrap (b - 1)=b - 1:=Ya (by omega)
  have f1:=fun x L=>QjA hi x L
  have f2:=fun x y L=>QmR hi x y L
  have f3:=fun x L=>Qhq (h:=h) (i:=i) x L
  have f4:=fun x=>Qb4 h i x
  have fb:∀b,bud b = .cells 127 1 [.agg [.i b]]:=fun _=>rfl
  have wd:IntKind.i64.wrap (((dn+1:Nat):Int) - 1)=(dn:Int):=by rw[Ya (by omega)];omega
  by_cases m0:b - 1<0
  ·have hn:(b - 1<0\/((dn+1:Nat):Int)<1):=.inl m0
   have R:t.run b ((dn+1:Nat):Int)=(false,b - 1):=by
    rw[T.run_eq,QuH hn]
   rw[R]
   refine Qa Tryz.func98 rfl Tryz.call98 Tryz.ntmps98 Tryz.results98 (by simp) ?_
   repeat refine Qb ?_;simp only[go_sem,seval,w1,f1,f2,f4,fb,m0]
   exact Yi (Yy _ _) (.keep (.v _)) ⟨rfl,rfl⟩
  have d0:¬((dn+1:Nat):Int)<1:=by omega
  have hn:¬(b - 1<0\/((dn+1:Nat):Int)<1):=by omega
  by_cases k0:t.kind=0
  ·have z0:(t.kind==0)=true:=by simp[k0]
   by_cases c1:t.int >= -2147483648
   rotate_left
   ·have e1:¬-2147483648<=t.int:=by omega
    have R:t.run b ((dn+1:Nat):Int)=(false,b - 1):=by
     rw[T.run_eq,QuE hn,QuH k0];simp[e1]
    rw[R]
    refine Qa Tryz.func98 rfl Tryz.call98 Tryz.ntmps98 Tryz.results98 (by simp) ?_
    repeat refine Qb ?_;simp only[go_sem,seval,w1,f1,f2,f3,f4,fb,m0,d0,z0,c1]
    exact Yi (Yy _ _) (.keep (.v _)) ⟨rfl,rfl⟩
   have e1 : -2147483648<=t.int:=by omega
   by_cases c2:t.int<=2147483648
   rotate_left
   ·skip
    have R:t.run b ((dn+1:Nat):Int)=(false,b - 1):=by
     rw[T.run_eq,QuE hn,QuH k0];simp[e1,c2]
    rw[R]
    refine Qa Tryz.func98 rfl Tryz.call98 Tryz.ntmps98 Tryz.results98 (by simp) ?_
    repeat refine Qb ?_;simp only[go_sem,seval,w1,f1,f2,f3,f4,fb,m0,d0,z0,c1,c2]
    exact Yi (Yy _ _) (.keep (.v _)) ⟨rfl,rfl⟩
   cases c3:QaQ t.name with
   |false =>
    have c3':(t.name.toList==({data:=#[]}:ByteArray).toList)=false:=c3
    have R:t.run b ((dn+1:Nat):Int)=(false,b - 1):=by
     rw[T.run_eq,QuE hn,QuH k0];simp[e1,c2,c3]
    rw[R]
    refine Qa Tryz.func98 rfl Tryz.call98 Tryz.ntmps98 Tryz.results98 (by simp) ?_
    repeat refine Qb ?_;simp only[go_sem,seval,w1,f1,f2,f3,f4,fb,m0,d0,z0,c1,c2,c3']
    exact Yi (Yy _ _) (.keep (.v _)) ⟨rfl,rfl⟩
   |true =>
    have c3':(t.name.toList==({data:=#[]}:ByteArray).toList)=true:=c3
    cases hl:t.args with
    |nil =>
     have c4:((0:Int)==0)=true:=rfl
     have R:t.run b ((dn+1:Nat):Int)=(true,b - 1):=by
      rw[T.run_eq,QuE hn,QuH k0];simp[e1,c2,c3,hl]
     rw[R]
     refine Qa Tryz.func98 rfl Tryz.call98 Tryz.ntmps98 Tryz.results98 (by simp) ?_
     repeat refine Qb ?_;simp only[go_sem,seval,w1,f1,f2,f3,f4,fb,m0,d0,z0,c1,c2,c3',hl,QeZ]
     exact Yi (Yy _ _) (.keep (.v _)) ⟨rfl,rfl⟩
    |cons a l =>
     have c4:(((l.length+1:Nat):Int)==0)=false:=by simp;omega
     have R:t.run b ((dn+1:Nat):Int)=(false,b - 1):=by
      rw[T.run_eq,QuE hn,QuH k0];simp[e1,c2,c3,hl]
     rw[R]
     refine Qa Tryz.func98 rfl Tryz.call98 Tryz.ntmps98 Tryz.results98 (by simp) ?_
     repeat refine Qb ?_;simp only[go_sem,seval,w1,f1,f2,f3,f4,fb,m0,d0,z0,c1,c2,c3',hl,c4]
     exact Yi (Yy _ _) (.keep (.v _)) ⟨rfl,rfl⟩
  have z0:(t.kind==0)=false:=by simp[k0]
  by_cases k1:t.kind=1
  ·have z1:(t.kind==1)=true:=by simp[k1]
   by_cases c1:t.int>=0
   rotate_left
   ·have e1:¬0<=t.int:=by omega
    have R:t.run b ((dn+1:Nat):Int)=(false,b - 1):=by
     rw[T.run_eq,QuE hn,QuE k0,QuH k1];simp[e1]
    rw[R]
    refine Qa Tryz.func98 rfl Tryz.call98 Tryz.ntmps98 Tryz.results98 (by simp) ?_
    repeat refine Qb ?_;simp only[go_sem,seval,w1,f1,f2,f3,f4,fb,m0,d0,z0,z1,c1]
    exact Yi (Yy _ _) (.keep (.v _)) ⟨rfl,rfl⟩
   have e1:0<=t.int:=by omega
   by_cases c2:t.int<=1048576
   rotate_left
   ·skip
    have R:t.run b ((dn+1:Nat):Int)=(false,b - 1):=by
     rw[T.run_eq,QuE hn,QuE k0,QuH k1];simp[e1,c2]
    rw[R]
    refine Qa Tryz.func98 rfl Tryz.call98 Tryz.ntmps98 Tryz.results98 (by simp) ?_
    repeat refine Qb ?_;simp only[go_sem,seval,w1,f1,f2,f3,f4,fb,m0,d0,z0,z1,c1,c2]
    exact Yi (Yy _ _) (.keep (.v _)) ⟨rfl,rfl⟩
   cases c3:QaQ t.name with
   |false =>
    have c3':(t.name.toList==({data:=#[]}:ByteArray).toList)=false:=c3
    have R:t.run b ((dn+1:Nat):Int)=(false,b - 1):=by
     rw[T.run_eq,QuE hn,QuE k0,QuH k1];simp[e1,c2,c3]
    rw[R]
    refine Qa Tryz.func98 rfl Tryz.call98 Tryz.ntmps98 Tryz.results98 (by simp) ?_
    repeat refine Qb ?_;simp only[go_sem,seval,w1,f1,f2,f3,f4,fb,m0,d0,z0,z1,c1,c2,c3']
    exact Yi (Yy _ _) (.keep (.v _)) ⟨rfl,rfl⟩
   |true =>
    have c3':(t.name.toList==({data:=#[]}:ByteArray).toList)=true:=c3
    cases hl:t.args with
    |nil =>
     have c4:((0:Int)==0)=true:=rfl
     have R:t.run b ((dn+1:Nat):Int)=(true,b - 1):=by
      rw[T.run_eq,QuE hn,QuE k0,QuH k1];simp[e1,c2,c3,hl]
     rw[R]
     refine Qa Tryz.func98 rfl Tryz.call98 Tryz.ntmps98 Tryz.results98 (by simp) ?_
     repeat refine Qb ?_;simp only[go_sem,seval,w1,f1,f2,f3,f4,fb,m0,d0,z0,z1,c1,c2,c3',hl,QeZ]
     exact Yi (Yy _ _) (.keep (.v _)) ⟨rfl,rfl⟩
    |cons a l =>
     have c4:(((l.length+1:Nat):Int)==0)=false:=by simp;omega
     have R:t.run b ((dn+1:Nat):Int)=(false,b - 1):=by
      rw[T.run_eq,QuE hn,QuE k0,QuH k1];simp[e1,c2,c3,hl]
     rw[R]
     refine Qa Tryz.func98 rfl Tryz.call98 Tryz.ntmps98 Tryz.results98 (by simp) ?_
     repeat refine Qb ?_;simp only[go_sem,seval,w1,f1,f2,f3,f4,fb,m0,d0,z0,z1,c1,c2,c3',hl,c4]
     exact Yi (Yy _ _) (.keep (.v _)) ⟨rfl,rfl⟩
  have z1:(t.kind==1)=false:=by simp[k1]
  by_cases k2:t.kind=2
  rotate_left
  ·have z2:(t.kind==2)=false:=by simp[k2]
   have R:t.run b ((dn+1:Nat):Int)=(false,b - 1):=by
    rw[T.run_eq,QuE hn,QuE k0,QuE k1,QuE k2]
   rw[R]
   refine Qa Tryz.func98 rfl Tryz.call98 Tryz.ntmps98 Tryz.results98 (by simp) ?_
   repeat refine Qb ?_;simp only[go_sem,seval,w1,f1,f2,f3,f4,fb,m0,d0,z0,z1,z2]
   exact Yi (Yy _ _) (.keep (.v _)) ⟨rfl,rfl⟩
  have z2:(t.kind==2)=true:=by simp[k2]
  by_cases i0:t.int=0
  rotate_left
  ·have y0:(t.int != 0)=true:=by simp[i0]
   have R:t.run b ((dn+1:Nat):Int)=(false,b - 1):=by
    rw[T.run_eq,QuE hn,QuE k0,QuE k1,QuH k2,QuH (.inl i0)]
   rw[R]
   refine Qa Tryz.func98 rfl Tryz.call98 Tryz.ntmps98 Tryz.results98 (by simp) ?_
   repeat refine Qb ?_;simp only[go_sem,seval,w1,f1,f2,f3,f4,fb,m0,d0,z0,z1,z2,y0]
   exact Yi (Yy _ _) (.keep (.v _)) ⟨rfl,rfl⟩
  have y0:(t.int != 0)=false:=by simp[i0]
  by_cases a6:t.args.length>6
  ·have y6:(t.args.length:Int)>6:=by omega
   have R:t.run b ((dn+1:Nat):Int)=(false,b - 1):=by
    rw[T.run_eq,QuE hn,QuE k0,QuE k1,QuH k2,QuH (.inr a6)]
   rw[R]
   refine Qa Tryz.func98 rfl Tryz.call98 Tryz.ntmps98 Tryz.results98 (by simp) ?_
   repeat refine Qb ?_;simp only[go_sem,seval,w1,f1,f2,f3,f4,fb,m0,d0,z0,z1,z2,y0,y6]
   exact Yi (Yy _ _) (.keep (.v _)) ⟨rfl,rfl⟩
  have y6:¬(t.args.length:Int)>6:=by omega
  have a6':¬6<t.args.length:=a6
  have cr:=Qg0 t.name
  have co:=Qdm t.name
  have er:(decide (Qec 1 t.name)&&!resB t.name)=Qbf t.name:=rfl
  rw[er]at cr
  have hind:=fun b2 hb=>Qmh dn (fun t b i h0 h1=>ih t b i (by omega) h0 h1) t.args (by omega) b2 i hb (fun t b hb h=>T.Qtg t b dn hb h)
  have ca:=(hind (b - 1) (by omega)).app hi [.cells 48 4 [t.av]]
  rw[fb,fb]at ca
  cases hr:Qbf t.name with
  |true =>
   rw[hr]at cr
   have R:t.run b ((dn+1:Nat):Int)=runL t.args (b - 1) (dn:Int):=by
    rw[T.run_eq,QuE hn,QuE k0,QuE k1,QuH k2,QuE (show ¬(t.int≠0\/6<t.args.length) by omega),hr,QuE (by simp)];rw[show(((dn+1:Nat):Int) - 1)=(dn:Int) by omega]
   rw[R]
   refine Qa Tryz.func98 rfl Tryz.call98 Tryz.ntmps98 Tryz.results98 (by simp) ?_
   repeat (first|refine Qe cr ?_|refine FunW.QsR ca ?_|refine Qb ?_);simp only[go_sem,seval,w1,f1,f2,f3,f4,fb,m0,d0,z0,z1,z2,y0,y6,wd]
   exact Yi (Yy _ _) (.keep (.v _)) ⟨rfl,rfl⟩
  |false =>
   rw[hr]at cr
   cases ho:opB t.name with
   |false =>
    rw[ho]at co
    have R:t.run b ((dn+1:Nat):Int)=(false,b - 1):=by
     rw[T.run_eq,QuE hn,QuE k0,QuE k1,QuH k2,QuE (show ¬(t.int≠0\/6<t.args.length) by omega),hr,ho,QuH (by simp)]
    rw[R]
    refine Qa Tryz.func98 rfl Tryz.call98 Tryz.ntmps98 Tryz.results98 (by simp) ?_
    repeat (first|refine Qe cr ?_|refine Qe co ?_|refine Qb ?_);simp only[go_sem,seval,w1,f1,f2,f3,f4,fb,m0,d0,z0,z1,z2,y0,y6]
    exact Yi (Yy _ _) (.keep (.v _)) ⟨rfl,rfl⟩
   |true =>
    rw[ho]at co
    by_cases l2:t.args.length=2
    ·have z3:((t.args.length:Int)==2)=true:=by simp[l2]
     have R:t.run b ((dn+1:Nat):Int)=runL t.args (b - 1) (dn:Int):=by
      rw[T.run_eq,QuE hn,QuE k0,QuE k1,QuH k2,QuE (show ¬(t.int≠0\/6<t.args.length) by omega),hr,ho,QuE (by simp[l2])];rw[show(((dn+1:Nat):Int) - 1)=(dn:Int) by omega]
     rw[R]
     refine Qa Tryz.func98 rfl Tryz.call98 Tryz.ntmps98 Tryz.results98 (by simp) ?_
     repeat (first|refine Qe cr ?_|refine Qe co ?_|refine FunW.QsR ca ?_|refine Qb ?_);simp only[go_sem,seval,w1,f1,f2,f3,f4,fb,m0,d0,z0,z1,z2,y0,y6,z3,wd]
     exact Yi (Yy _ _) (.keep (.v _)) ⟨rfl,rfl⟩
    ·have z3:((t.args.length:Int)==2)=false:=by simp;omega
     have R:t.run b ((dn+1:Nat):Int)=(false,b - 1):=by
      rw[T.run_eq,QuE hn,QuE k0,QuE k1,QuH k2,QuE (show ¬(t.int≠0\/6<t.args.length) by omega),hr,ho,QuH (by simp[l2])]
     rw[R]
     refine Qa Tryz.func98 rfl Tryz.call98 Tryz.ntmps98 Tryz.results98 (by simp) ?_
     repeat (first|refine Qe cr ?_|refine Qe co ?_|refine Qb ?_);simp only[go_sem,seval,w1,f1,f2,f3,f4,fb,m0,d0,z0,z1,z2,y0,y6,z3]
     exact Yi (Yy _ _) (.keep (.v _)) ⟨rfl,rfl⟩
end Go.Proofs.YticgcpebdldbgaaGreatDoor.Ab
namespace Go.Proofs.YticgcpebdldbgaaGreatDoor.Ab
theorem Yt{P:Program}{N c:Nat}{fv:AV}{args:List AV}{s:AS}{d:Option Tmp}{K:AS->Prop}{r:AV}{h':AH}(H:FunW P fv args s.h fun o h2=>o = .ret r/\h2=h')(hk:c=3->Keep s.h h')(k:K (AS.put N {s with h:=h'} d r)):QpV P N c fv args s d K:=⟨r,h',H,hk,k⟩
def vs{X:Type}(f:X->AV)(l:List X):List AV:=l.map f
section
variable{X:Type}(f:X->AV)
theorem Z5(l:List X):(vs f l).length=l.length:=Qu6 _
theorem QpT{l:List X}{k:Nat}(h:k<l.length):(vs f l)[k]? = some (f l[k]):=by
 rw[vs,Qu2,QuC h];rfl
theorem QdF(l m:List X):vs f (l++m)=vs f l++vs f m:=Qvr
theorem QqD(x:X)(l:List X):vs f (x::l)=f x::vs f l:=rfl
theorem Qn6(n:Nat)(hf:∀x,∀a∈(f x).cells,Below n a)(l:List X):∀a∈flat (vs f l),Below n a:=by
 intro a ha
 simp only[flat,vs,Qv1,QuZ]at ha
 obtain⟨x,⟨b,_,rfl⟩,hx⟩:=ha
 exact hf b a hx
theorem QcN(n s:Nat)(hf:∀x,∀a∈(f x).cells,Below n a)(l:List X):Below n (.sl s (vs f l) none):=.sl s _ none (Qn6 f n hf l) (fun b hb=>by cases hb)
end
structure G where
 op:Int
 name:ByteArray
 args:List T
def G.atom(g:G):AV:=.agg [.v (.string g.name),.sl 4 (avs g.args) none]
def G.goal(g:G):AV:=.agg [.v (.int .i64 g.op),.v (.string g.name),.sl 4 (avs g.args) none]
theorem QaF(g:G):g.atom.cells=[.v (.string g.name),.sl 4 (avs g.args) none]:=rfl
theorem Yk(g:G):g.goal.cells=[.v (.int .i64 g.op),.v (.string g.name),.sl 4 (avs g.args) none]:=rfl
theorem Qka(n:Nat)(g:G):∀a∈g.atom.cells,Below n a:=by
 intro a ha
 rw[QaF]at ha
 simp only[QuL,QuS,Qvz]at ha
 rcases ha with rfl|rfl
 ·exact .v _
 ·exact Qca _ _
theorem Qkk(n:Nat)(g:G):∀a∈g.goal.cells,Below n a:=by
 intro a ha
 rw[Yk]at ha
 simp only[QuL,QuS,Qvz]at ha
 rcases ha with rfl|rfl|rfl
 ·exact .v _
 ·exact .v _
 ·exact Qca _ _
structure Rl where
 name:ByteArray
 keep:List G
 remove:List G
 guard:List G
 body:List G
 vars:Int
def Rl.av(r:Rl):AV:=.agg [.v (.string r.name),.sl 2 (vs G.atom r.keep) none,.sl 2 (vs G.atom r.remove) none,.sl 3 (vs G.goal r.guard) none,.sl 3 (vs G.goal r.body) none,.v (.int .i64 r.vars)]
theorem Rl.cells(r:Rl):r.av.cells=[.v (.string r.name),.sl 2 (vs G.atom r.keep) none,.sl 2 (vs G.atom r.remove) none,.sl 3 (vs G.goal r.guard) none,.sl 3 (vs G.goal r.body) none,.v (.int .i64 r.vars)]:=rfl
theorem Rl.isAgg(r:Rl):r.av.isAgg=true:=rfl
structure Ky where
 name:ByteArray
 arity:Int
 pos:List Int
def Ky.av(k:Ky):AV:=.agg [.v (.string k.name),.v (.int .i64 k.arity),.sl 1 (ints k.pos) none]
theorem Ky.cells(k:Ky):k.av.cells=[.v (.string k.name),.v (.int .i64 k.arity),.sl 1 (ints k.pos) none]:=rfl
theorem Ky.isAgg(k:Ky):k.av.isAgg=true:=rfl
theorem QoA(n:Nat)(l:List Int):Below n (.sl 1 (ints l) none):=.sl 1 _ none (Qcl n l) (fun b hb=>by cases hb)
theorem Ky.bel(n:Nat)(k:Ky):∀a∈k.av.cells,Below n a:=by
 intro a ha
 rw[Ky.cells]at ha
 simp only[QuL,QuS,Qvz]at ha
 rcases ha with rfl|rfl|rfl
 ·exact .v _
 ·exact .v _
 ·exact QoA _ _
theorem Ky.below(n:Nat)(k:Ky):Below n k.av:=.agg _ (Ky.bel n k)
structure It where
 id:Int
 atom:G
def It.av(x:It):AV:=.agg [.v (.int .i64 x.id),.v (.string x.atom.name),.sl 4 (avs x.atom.args) none]
theorem It.cells(x:It):x.av.cells=[.v (.int .i64 x.id),.v (.string x.atom.name),.sl 4 (avs x.atom.args) none]:=rfl
theorem It.isAgg(x:It):x.av.isAgg=true:=rfl
theorem Rl.bel(n:Nat)(r:Rl):∀a∈r.av.cells,Below n a:=by
 intro a ha
 rw[Rl.cells]at ha
 simp only[QuL,QuS,Qvz]at ha
 rcases ha with rfl|rfl|rfl|rfl|rfl|rfl
 ·exact .v _
 ·exact QcN _ _ _ (Qka _) _
 ·exact QcN _ _ _ (Qka _) _
 ·exact QcN _ _ _ (Qkk _) _
 ·exact QcN _ _ _ (Qkk _) _
 ·exact .v _
structure Dc where
 name:ByteArray
 arity:Int
def Dc.av(d:Dc):AV:=.agg [.v (.string d.name),.v (.int .i64 d.arity)]
theorem Dc.cells(d:Dc):d.av.cells=[.v (.string d.name),.v (.int .i64 d.arity)]:=rfl
theorem Dc.isAgg(d:Dc):d.av.isAgg=true:=rfl
theorem Dc.bel(n:Nat)(d:Dc):∀a∈d.av.cells,Below n a:=by
 intro a ha
 rw[Dc.cells]at ha
 simp only[QuL,QuS,Qvz]at ha
 rcases ha with rfl|rfl <;> exact .v _
structure Pg where
 decls:List Dc
 rules:List Rl
def Pg.av(p:Pg):AV:=.agg [.sl 2 (vs Dc.av p.decls) none,.sl 6 (vs Rl.av p.rules) none]
theorem Pg.cells(p:Pg):p.av.cells=[.sl 2 (vs Dc.av p.decls) none,.sl 6 (vs Rl.av p.rules) none]:=rfl
theorem Pg.isAgg(p:Pg):p.av.isAgg=true:=rfl
end Go.Proofs.YticgcpebdldbgaaGreatDoor.Ab
namespace Go.Proofs.YticgcpebdldbgaaGreatDoor.Ab
open Go.Proofs
theorem Chg.at{P:Program}{f:FuncId}{args:List AV}{i:Nat}{x y:AB}{r:AV}(H:Chg P f args i x r y){h:AH}(hx:h[i]? = some x):QA P f args h fun o h'=>o = .ret r/\h'=h.set i y:=by
 have:=H h (Qf hx)
 rwa [Qqf hx]at this
theorem Qps(l:List T)(hl:l.length<=1000)(h:AH)(i:Nat)(hx:h[i]? = some (.cells 127 1 [.agg [.i 200]])):QA Tryz.prog 83 [.ptr i 0 0,.sl 4 (avs l) none,.i 20] h
  fun o h'=>o = .ret (.b (runL l 200 20).1)/\h'=h.set i (.cells 127 1 [.agg [.i (runL l 200 20).2]]) :=
 (Qmh 20 (fun t b i h0 h1=>Qn4 20 t b i (by omega) h0 h1) l hl 200 i (by omega) (fun t b hb h=>T.Qtg t b 20 hb h)).at hx
def Ye(g:G):Bool:=Qbf g.name&&(decide (g.args.length<=6)&&(runL g.args 200 20).1)
theorem QcS(g:G):Pure Tryz.prog 70 [g.atom] (.b (Ye g)):=by
 intro h
 have cr:=Qg0 g.name
 have er:(decide (Qec 1 g.name)&&!resB g.name)=Qbf g.name:=rfl
 rw[er]at cr
 cases hr:Qbf g.name with
 |false =>
  rw[hr]at cr
  refine Qa Tryz.func70 rfl Tryz.call70 Tryz.ntmps70 Tryz.results70 (by simp) ?_
  repeat (first|refine Qe cr ?_|refine Qb ?_);simp only[go_sem,seval,QaF]
  (refine Qc (htake _ _) (.keep (.v _)) ⟨by rw[Ye,hr];rfl,rfl⟩)
 |true =>
  rw[hr]at cr
  by_cases hl:(g.args.length:Int)<=6
  ·have hl':decide (g.args.length<=6)=true:=QuU (by omega)
   have ca:=Qps g.args (by omega) (h++[.cells 105 2 [g.atom],.cells 127 1 [.agg [.i 200]]]) (h.length+1) (by rw[hget];rfl)
   rw[hset]at ca
   refine Qa Tryz.func70 rfl Tryz.call70 Tryz.ntmps70 Tryz.results70 (by simp) ?_
   repeat (first|refine Qe cr ?_|refine FunW.QsR ca ?_|refine Qb ?_);simp only[go_sem,seval,QaF,hl]
   (refine Qc (htake _ _) (.keep (.v _)) ⟨by rw[Ye,hr,hl'];rfl,rfl⟩)
  ·have hl':decide (g.args.length<=6)=false:=QuM (by omega)
   refine Qa Tryz.func70 rfl Tryz.call70 Tryz.ntmps70 Tryz.results70 (by simp) ?_
   repeat (first|refine Qe cr ?_|refine Qb ?_);simp only[go_sem,seval,QaF,hl]
   (refine Qc (htake _ _) (.keep (.v _)) ⟨by rw[Ye,hr,hl'];rfl,rfl⟩)
def QbK(op:Int):Int:=if op=1\/op=2 then 0 else if op=11\/op=12 then 1 else 2
def XI(g:G):Bool:=if g.op=0 then Ye ⟨0,g.name,g.args⟩else
 decide (0<g.op/\g.op<=12)&&(QaQ g.name&&(decide ((g.args.length:Int)=QbK g.op)&&(runL g.args 200 20).1))
mutual
/-- the occurrences of variables -/
def T.vars:T->List Int
 | .mk k i _ l=>if k=1 then[i]else if k=2 then Yd l else[]
def Yd:List T->List Int
 |[]=>[]
 |t::l=>t.vars++Yd l
end
theorem QeA:∀l r:List T,Yd (l++r)=Yd l++Yd r
 |[],r=>rfl
 |t::l,r=>by simp only[Qt7,Yd,QeA l r,Quz]
def ins(s:List Int)(n:Int):List Int:=if n∈s then s else s++[n]
def ded:List Int->List Int->List Int
 |s,[]=>s
 |s,n::l=>ded (ins s n) l
theorem Zo:∀s l r:List Int,ded s (l++r)=ded (ded s l) r
 |s,[],r=>rfl
 |s,n::l,r=>by simp only[Qt7,ded,Zo]
theorem Qqh(s:List Int)(n:Int):∃r,ins s n=s++r:=by
 unfold ins
 split
 ·exact⟨[],by simp⟩
 ·exact⟨[n],rfl⟩
theorem QdP:∀s l:List Int,∃r,ded s l=s++r
 |s,[]=>⟨[],by simp[ded]⟩
 |s,n::l=>by
  obtain⟨r,h⟩:=Qqh s n
  obtain⟨r',h'⟩:=QdP (ins s n) l
  exact⟨r++r',by rw[ded,h',h,Quz]⟩
theorem Qm9{s:List Int}{n v:Int}:v∈ins s n↔v∈s\/v=n:=by
 unfold ins
 split
 ·rename_i h
  exact⟨.inl,fun h'=>h'.elim id (fun e=>e▸h)⟩
 ·simp
theorem Qfz:∀{s l:List Int} {v:Int},v∈ded s l↔v∈s\/v∈l
 |s,[],v=>by simp[ded]
 |s,n::l,v=>by
  simp only[ded,Qfz (l:=l),Qm9,QuL,or_assoc]
theorem Qlr(s:List Int)(n:Int):(ins s n).length<=s.length+1:=by
 unfold ins
 split
 ·omega
 ·simp
theorem Z7:∀s l:List Int,(ded s l).length<=s.length+l.length
 |s,[]=>by simp[ded]
 |s,n::l=>by
  have h1:=Z7 (ins s n) l
  have h2:=Qlr s n
  simp only[ded,QtS]
  omega
def plc:List Int->Int->Nat
 |[],_=>0
 |a::l,n=>if a=n then 0 else plc l n+1
theorem QgV{n:Int}:∀{s:List Int} (r:List Int),n∈s->plc (s++r) n=plc s n
 |a::s,r,h=>by
  simp only[Qt7,plc]
  split
  ·rfl
  ·rename_i hne
   rw[QgV r (by rcases QuL.1 h with h|h;exact absurd h.symm hne;exact h)]
theorem Qgd{n:Int}{s:List Int}(r:List Int)(h:n∉s):plc (s++n::r) n=s.length:=by
 induction s with
 |nil=>simp[plc]
 |cons a s ih =>
  simp only[QuL,not_or]at h
  simp only[Qt7,plc,QuE (fun e:a=n=>h.1 e.symm),ih h.2,QtS]
mutual
def T.dep:T->Nat
 | .mk k _ _ l=>1+(if k=2 then deps l else 0)
def deps:List T->Nat
 |[]=>0
 |t::l=>max t.dep (deps l)
end
theorem T.Qtt(t:T):t.dep=1+deps t.uses:=by
 cases t with|mk k i n l =>
 show T.dep (.mk k i n l)=1+deps (if k=2 then l else[])
 simp only[T.dep]
 by_cases h:k=2
 ·simp[h]
 ·simp[h,deps]
theorem Qe9:∀l r:List T,deps (l++r)=max (deps l) (deps r)
 |[],r=>by simp[deps]
 |t::l,r=>by simp only[Qt7,deps,Qe9 l r];omega
theorem Qf9{l:List T}{k:Nat}(h:k<l.length):deps (l.take (k+1))=max (deps (l.take k)) (l[k]).dep:=by
 rw[Qu4 h,Qe9];simp[deps]
mutual
theorem T.Qth:∀t:T,t.dep<=t.size
 | .mk k i n l=>by
  simp only[T.dep,T.size]
  have:=QgC l
  split <;> omega
theorem QgC:∀l:List T,deps l<=sizes l
 |[]=>QuD _
 |t::l=>by
  simp only[deps,sizes]
  have:=T.Qth t
  have:=QgC l
  omega
end
theorem Qcu(t:T):Pure Tryz.prog 104 [t.av] (.sl 4 (avs t.uses) none):=by
 intro h
 refine Qa Tryz.func104 rfl Tryz.call104 Tryz.ntmps104 Tryz.results104 (by simp) ?_
 by_cases hk:t.kind=2
 ·have hb:(t.kind==2)=true:=by simpa using hk
  repeat refine Qb ?_;simp only[go_sem,seval,hb]
  refine Qc (htake _ _) (.keep (Qca _ _)) ⟨by rw[T.uses,QuH hk],rfl⟩
 ·have hb:(t.kind==2)=false:=by simpa using hk
  repeat refine Qb ?_;simp only[go_sem,seval,hb]
  refine Qc (htake _ _) (.nil 4) ⟨by rw[T.uses,QuE hk];rfl,rfl⟩
theorem Qn2{t:T}{k:Nat}(h:k<t.uses.length):(t.uses[k]).size<t.size:=by
 have h1:=Qcx h
 have h2:=Qdx t.uses (k+1)
 have h3:=T.size_eq t
 omega
theorem Qes(n:Nat):∀t:T,t.size<=n->n<=1000000->Pure Tryz.prog 102 [t.av] (.i (t.size:Nat)):=by
 induction n with
 |zero=>intro t h;have:=size_pos t;omega
 |succ n ih =>
  intro t hn hb h
  have hsz:=T.size_eq t
  have hll:=Qco t.uses
  have c0:=Qcu t
  refine Qa Tryz.func102 rfl Tryz.call102 Tryz.ntmps102 Tryz.results102 (by simp) ?_
  repeat (first|refine Qe c0 ?_|refine Qb ?_);simp only[go_sem,seval]
  obtain⟨I,hI⟩:∃I:Nat->AS->Prop,I=fun m' s=>∃(k:Nat) (L:AH),m'=t.uses.length - k/\k<=t.uses.length/\s.tm 3 = .i ((1+sizes (t.uses.take k):Nat):Int)/\s.tm 4 = .sl 4 (avs t.uses) none/\s.tm 5 = .i k/\s.h=h++L:=⟨_,rfl⟩;refine QD I ?_ (m:=t.uses.length) ?_
  ·intro m' s hs;rw[hI]at hs;obtain⟨tm,hp⟩:=s;dsimp only at hs;obtain⟨k,L,rfl,hk,t3,t4,t5,rfl⟩:=hs
   by_cases hlt:k<t.uses.length
   ·have hts:=Qcx hlt
    have htl:=Qdx t.uses (k+1)
    have c:=ih t.uses[k] (by have:=Qn2 hlt;omega) (by omega)
    repeat (first|refine Qe c ?_|refine Qb ?_);simp only[go_sem,seval,hlt,t3,t4,t5,QaW hlt]
    refine XB.mk (m':=t.uses.length - (k+1)) (by omega) ?_
    rw[hI]
    refine⟨k+1,_,rfl,hlt,?_,t4,?_,rfl⟩
    ·simp only[upd,↓reduceIte,Nat.reduceEqDiff]
     rw[Ya (by omega)]
     congr 2;omega
    ·simp only[upd,↓reduceIte]
     rw[XM (by omega)]
   ·have hkl:k=t.uses.length:=by omega
    repeat refine Qb ?_;simp only[go_sem,seval,hlt,t3,t4,t5]
    refine Qc (htake _ _) (.keep (.v _)) ⟨?_,rfl⟩
    rw[hkl,QuA,hsz]
  ·rw[hI]
   exact⟨0,[.cells 48 4 [t.av]],by omega,QuG _,rfl,rfl,rfl,rfl⟩
theorem QhI(n:Nat):∀t:T,t.size<=n->n<=1000000->Pure Tryz.prog 115 [t.av] (.i (t.dep:Nat)):=by
 induction n with
 |zero=>intro t h;have:=size_pos t;omega
 |succ n ih =>
  intro t hn hb h
  have hsz:=T.size_eq t
  have hll:=Qco t.uses
  have hde:=T.Qtt t
  have hds:=T.Qth t
  have c0:=Qcu t
  refine Qa Tryz.func115 rfl Tryz.call115 Tryz.ntmps115 Tryz.results115 (by simp) ?_
  repeat (first|refine Qe c0 ?_|refine Qb ?_);simp only[go_sem,seval]
  obtain⟨I,hI⟩:∃I:Nat->AS->Prop,I=fun m' s=>∃(k:Nat) (L:AH),m'=t.uses.length - k/\k<=t.uses.length/\s.tm 3 = .i ((deps (t.uses.take k):Nat):Int)/\s.tm 4 = .sl 4 (avs t.uses) none/\s.tm 5 = .i k/\s.h=h++L:=⟨_,rfl⟩;refine QD I ?_ (m:=t.uses.length) ?_
  ·intro m' s hs;rw[hI]at hs;obtain⟨tm,hp⟩:=s;dsimp only at hs;obtain⟨k,L,rfl,hk,t3,t4,t5,rfl⟩:=hs
   by_cases hlt:k<t.uses.length
   ·have hts:=Qf9 hlt
    have c:=ih t.uses[k] (by have:=Qn2 hlt;omega) (by omega)
    repeat (first|refine Qe c ?_|refine Qb ?_);simp only[go_sem,seval,hlt,t3,t4,t5,QaW hlt]
    refine XB.mk (m':=t.uses.length - (k+1)) (by omega) ?_
    rw[hI]
    refine⟨k+1,_,rfl,hlt,?_,t4,?_,rfl⟩
    ·simp only[upd,↓reduceIte,Nat.reduceEqDiff]
     rw[hts]
     congr 2
     split <;> omega
    ·simp only[upd,↓reduceIte]
     rw[XM (by omega)]
   ·have hkl:k=t.uses.length:=by omega
    have hd2:deps (t.uses.take k)=deps t.uses:=by rw[hkl,QuA]
    rw[hd2]at t3
    repeat refine Qb ?_;simp only[go_sem,seval,hlt,t3,t4,t5]
    refine Qc (htake _ _) (.keep (.v _)) ⟨?_,rfl⟩
    rw[XM (by omega),hde,QwA]
  ·rw[hI]
   exact⟨0,[.cells 48 4 [t.av]],by omega,QuG _,rfl,rfl,rfl,rfl⟩
mutual
def T.map(g:Int->Int):T->T
 | .mk k i n l=>if k=1 then .mk k (g i) n l else if k=2 then .mk k i n (maps g l)else .mk k i n l
def maps(g:Int->Int):List T->List T
 |[]=>[]
 |t::l=>t.map g::maps g l
end
mutual
def T.mapS{σ:Type}(g:σ->Int->Int×σ):σ->T->T×σ
 |s,.mk k i n l=>if k=1 then(.mk k (g s i).1 n l,(g s i).2)else if k=2 then(.mk k i n (Yw g s l).1,(Yw g s l).2)else(.mk k i n l,s)
def Yw{σ:Type}(g:σ->Int->Int×σ):σ->List T->List T×σ
 |s,[]=>([],s)
 |s,t::l=>((T.mapS g s t).1::(Yw g (T.mapS g s t).2 l).1,(Yw g (T.mapS g s t).2 l).2)
end
theorem T.Qtm{σ:Type}(g:σ->Int->Int×σ)(s:σ)(t:T):T.mapS g s t=if t.kind=1 then(.mk t.kind (g s t.int).1 t.name t.args,(g s t.int).2)else if t.kind=2 then(.mk t.kind t.int t.name (Yw g s t.args).1,(Yw g s t.args).2)else(t,s):=by
 cases t;simp only[T.mapS,T.kind,T.int,T.name,T.args];rfl
theorem Qem{σ:Type}(g:σ->Int->Int×σ):∀(s:σ) (l r:List T),Yw g s (l++r)=((Yw g s l).1++(Yw g (Yw g s l).2 r).1,(Yw g (Yw g s l).2 r).2)
 |s,[],r=>by simp[Yw]
 |s,t::l,r=>by simp only[Qt7,Yw,Qem g _ l r]
theorem QaS{σ:Type}(g:σ->Int->Int×σ):∀(s:σ) (l:List T),(Yw g s l).1.length=l.length
 |s,[]=>by simp[Yw]
 |s,t::l=>by simp only[Yw,QtS,QaS g _ l]
theorem Qlw{σ:Type}(g:σ->Int->Int×σ)(s:σ){l:List T}{k:Nat}(h:k<l.length) :
  (Yw g s (l.take (k+1))).1=(Yw g s (l.take k)).1++[(T.mapS g (Yw g s (l.take k)).2 l[k]).1]/\(Yw g s (l.take (k+1))).2=(T.mapS g (Yw g s (l.take k)).2 l[k]).2:=by
 rw[Qu4 h,Qem]
 exact⟨by simp[Yw],by simp[Yw]⟩
def gNum:List Int->Int->Int×List Int:=fun s n=>((plc (ins s n) n:Nat),ins s n)
mutual
theorem T.Qtn:∀(s:List Int) (t:T) (r:List Int),T.mapS gNum s t=(t.map fun n=>((plc (ded s t.vars++r) n:Nat):Int),ded s t.vars)
 |s,.mk k i n l,r=>by
  simp only[T.mapS,T.map,T.vars]
  split
  ·rename_i h
   simp only[gNum,ded]
   rw[QgV r (Qm9.2 (.inr rfl))]
  ·split
   ·rw[QdX s l r]
   ·rfl
theorem QdX:∀(s:List Int) (l:List T) (r:List Int),Yw gNum s l=(maps (fun n=>((plc (ded s (Yd l)++r) n:Nat):Int)) l,ded s (Yd l))
 |s,[],r=>rfl
 |s,t::l,r=>by
  obtain⟨q,hq⟩:=QdP (ded s t.vars) (Yd l)
  simp only[Yw,maps,Yd]
  rw[T.Qtn s t (q++r)]
  simp only
  rw[QdX _ l r]
  simp only[Zo,hq,Quz]
end
def Qby(s:List Int):List (Int×AV):=s.zipIdx.map fun p=>(p.1,AV.v (.int .i64 ((p.2:Nat):Int)))
theorem QjI(s:List Int)(n:Int):Qby (s++[n])=Qby s++[(n,.v (.int .i64 s.length))]:=by
 simp[Qby,List.zipIdx_append]
theorem Qnl(n:Int):∀(s:List Int),Qhr n (Qby s)=if n∈s then some (.v (.int .i64 (plc s n:Nat)))else none:=by
 have gen:∀(s:List Int) (k:Nat),Qhr n ((s.zipIdx k).map fun p=>(p.1,AV.v (.int .i64 ((p.2:Nat):Int))))=if n∈s then some (.v (.int .i64 ((k+plc s n:Nat):Int)))else none:=by
  intro s
  induction s with
  |nil=>intro k;rfl
  |cons a s ih =>
   intro k
   simp only[List.zipIdx_cons,QtU,Qhr,ih]
   by_cases h:n=a
   ·subst h;simp[plc]
   ·rw[QuE h]
    simp only[QuL,h,false_or,plc,QuE (fun e:a=n=>h e.symm)]
    split
    ·congr 3;omega
    ·rfl
 intro s
 have:=gen s 0
 simpa [Qby]using this
def Ym{X σ:Type}(g:σ->X->X×σ):σ->List X->List X×σ
 |s,[]=>([],s)
 |s,x::l=>((g s x).1::(Ym g (g s x).2 l).1,(Ym g (g s x).2 l).2)
def mapB(s:List Int):AB:=.map (imap (Qby s))
theorem Qej{X σ:Type}(g:σ->X->X×σ):∀(s:σ) (l r:List X),Ym g s (l++r)=((Ym g s l).1++(Ym g (Ym g s l).2 r).1,(Ym g (Ym g s l).2 r).2)
 |s,[],r=>by simp[Ym]
 |s,x::l,r=>by simp only[Qt7,Ym,Qej g _ l r]
mutual
theorem T.map_map(f g:Int->Int):∀t:T,(t.map f).map g=t.map fun n=>g (f n)
 | .mk k i n l=>by
  simp only[T.map]
  by_cases h1:k=1
  ·simp[h1,T.map]
  ·by_cases h2:k=2
   ·simp only[QuE h1,QuH h2,T.map];rw[QiF f g l]
   ·simp[h1,h2,T.map]
theorem QiF(f g:Int->Int):∀l:List T,maps g (maps f l)=maps (fun n=>g (f n)) l
 |[]=>rfl
 |t::l=>by rw[maps,maps,maps,T.map_map f g t,QiF f g l]
end
def mkB(l:List UInt8):ByteArray:=⟨l.toArray⟩
def isD(c:UInt8):Bool:=decide (48<=c.toNat/\c.toNat<=57)
def isL(c:UInt8):Bool:=decide (97<=c.toNat/\c.toNat<=122\/65<=c.toNat/\c.toNat<=90\/c.toNat=95)
def isW(c:UInt8):Bool:=isL c||isD c
def numVal(l:List UInt8):Nat:=l.foldl (fun n c=>10 * n+(c.toNat - 48)) 0
def eB:ByteArray:={data:=#[]}
structure Tk where
  kind : Int
  pos : Int
  text : ByteArray
structure PS where
  toks : List Tk
  names : List ByteArray
inductive PR (α : Type) where
  | ok (a : α) (s : PS)
  | err (pos e : Int)
def PR.bind {α β : Type} (x : PR α) (f : α -> PS -> PR β) : PR β := match x with
  | .ok a s => f a s
  | .err p e => .err p e
def PS.tk (s : PS) : Tk := s.toks.headD ⟨0, 0, eB⟩
def PS.nx (s : PS) : PS := ⟨match s.toks with | _ :: u :: r => u :: r | l => l, s.names⟩
def PS.is (s : PS) (b : List UInt8) : Bool := (s.tk.kind == 4) && (s.tk.text.toList == b)
def PS.oneOf (s : PS) (l : List (List UInt8)) : Bool := l.any s.is
def YM (b : List UInt8) (s : PS) : PR Unit := if s.is b then .ok () s.nx else .err s.tk.pos 16
def QaC (s : PS) : PR ByteArray := if s.tk.kind ≠ 1 then .err s.tk.pos 16 else if resB s.tk.text then .err s.tk.pos 7 else .ok s.tk.text s.nx
def nameAt (l : List ByteArray) (x : ByteArray) : Nat := l.findIdx fun y => y.toList == x.toList
def pVari (x : ByteArray) (s : PS) : T × PS :=
  if nameAt s.names x < s.names.length /\ x.toList ≠ [95] then (.mk 1 (nameAt s.names x : Nat) eB [], s) else (.mk 1 (s.names.length : Nat) eB [], ⟨s.toks, s.names ++ [x]⟩)
def valT (x : ByteArray) : Int := (numVal x.toList : Nat)
def sAt : List UInt8 := [64]
def Zt : List UInt8 := [44]
def sDot : List UInt8 := [46]
def sLp : List UInt8 := [40]
def sRp : List UInt8 := [41]
def sBar : List UInt8 := [124]
def QfP : List UInt8 := [47]
def Qgk : List UInt8 := [92]
def QcT : List UInt8 := [45]
def QbD : List UInt8 := [60, 61, 62]
def Qgm : List UInt8 := [61, 61, 62]
def YJ : List (List UInt8) := [[42], [47], [37]]
def ZY : List (List UInt8) := [[43], [45]]
def Z1 (ex : PS -> PR T) : Nat -> List T -> PS -> PR (List T)
  | 0, _, s => .err s.tk.pos 16
  | m + 1, l, s => (ex s).bind fun t s => if s.is Zt then Z1 ex m (l ++ [t]) s.nx else (YM sRp s).bind fun _ s => .ok (l ++ [t]) s
def ZU (ex : PS -> PR T) (s : PS) : PR G := (QaC s).bind fun x s => if s.is sLp then (Z1 ex s.toks.length [] s.nx).bind fun l s => .ok ⟨0, x, l⟩ s else .ok ⟨0, x, []⟩ s
def pOpT (ex : PS -> PR T) (s : PS) : PR T :=
  if s.tk.kind = 3 then .ok (.mk 0 (valT s.tk.text) eB []) s.nx else
  if s.tk.kind = 2 then .ok (pVari s.tk.text s.nx).1 (pVari s.tk.text s.nx).2 else
  if s.tk.kind = 1 then (ZU ex s).bind fun a s => .ok (.mk 2 0 a.name a.args) s else
  if s.is QcT then (if s.nx.tk.kind ≠ 3 \/ s.nx.tk.pos ≠ s.tk.pos + 1 then .err s.nx.tk.pos 16 else .ok (.mk 0 (-valT s.nx.tk.text) eB []) s.nx.nx) else
  if s.is sLp then (ex s.nx).bind fun t s => (YM sRp s).bind fun _ s => .ok t s else .err s.tk.pos 16
def YA (op : PS -> PR T) (ops : List (List UInt8)) : Nat -> T -> PS -> PR T
  | 0, t, s => .ok t s
  | m + 1, t, s => if s.oneOf ops then (op s.nx).bind fun u s2 => YA op ops m (.mk 2 0 s.tk.text [t, u]) s2 else .ok t s
def YV (op : PS -> PR T) (ops : List (List UInt8)) (s : PS) : PR T := (op s).bind fun t s => YA op ops s.toks.length t s
def Zf : Nat -> PS -> PR T
  | 0, s => .err s.tk.pos 16
  | n + 1, s => YV (YV (pOpT (Zf n)) YJ) ZY s
def YP (s : PS) : PR T := Zf (s.toks.length + 1) s
def QaP (s : PS) : Option (Int × Bool) :=
  if s.tk.kind = 1 then (if s.tk.text.toList = [105, 115] then some (4, false) else none) else
  if s.tk.kind ≠ 4 then none else
  if s.tk.text.toList = [61] then some (3, false) else if s.tk.text.toList = [61, 61] then some (5, false) else if s.tk.text.toList = [92, 61] then some (6, false) else
  if s.tk.text.toList = [60] then some (7, false) else if s.tk.text.toList = [61, 60] then some (8, false) else if s.tk.text.toList = [62] then some (7, true) else
  if s.tk.text.toList = [62, 61] then some (8, true) else if s.tk.text.toList = [61, 58, 61] then some (9, false) else if s.tk.text.toList = [61, 92, 61] then some (10, false) else none
def Qb6 (op : Int) (s : PS) : PR G := (YM sLp s).bind fun _ s => (YP s).bind fun t s => (YM sRp s).bind fun _ s => .ok ⟨op, eB, [t]⟩ s
def QaD (s : PS) : PR G :=
  if s.tk.kind = 1 /\ resB s.tk.text = true then
    (if s.tk.text.toList = [116, 114, 117, 101] then .ok ⟨1, eB, []⟩ s.nx else if s.tk.text.toList = [102, 97, 105, 108] then .ok ⟨2, eB, []⟩ s.nx else
     if s.tk.text.toList = [105, 110, 116] then Qb6 11 s.nx else if s.tk.text.toList = [103, 114, 111, 117, 110, 100] then Qb6 12 s.nx else .err s.tk.pos 7)
  else (YP s).bind fun t s2 => match QaP s2 with
    | some (op, turn) => (YP s2.nx).bind fun u s3 => .ok ⟨op, eB, if turn then [u, t] else [t, u]⟩ s3
    | none => if s.tk.kind = 1 /\ t.name.toList = s.tk.text.toList then .ok ⟨0, t.name, t.args⟩ s2 else .err s2.tk.pos 16
def Zg (most : Nat) : Nat -> List G -> PS -> PR (List G)
  | 0, _, s => .err s.tk.pos 16
  | m + 1, l, s => if most <= l.length then .err s.tk.pos 6 else (QaD s).bind fun g s2 =>
      if XI g = false then .err s.tk.pos 6 else if s2.is Zt then Zg most m (l ++ [g]) s2.nx else .ok (l ++ [g]) s2
def Y8 (most : Nat) (s : PS) : PR (List G) := Zg most (s.toks.length + 1) [] s
def Qab (pre : Nat) : Nat -> List G -> PS -> PR (List G)
  | 0, _, s => .err s.tk.pos 16
  | m + 1, l, s => if 4 <= pre + l.length then .err s.tk.pos 6 else (ZU YP s).bind fun g s2 =>
      if Ye g = false then .err s.tk.pos 6 else if s2.is Zt then Qab pre m (l ++ [g]) s2.nx else .ok (l ++ [g]) s2
def ZO (pre : Nat) (s : PS) : PR (List G) := Qab pre (s.toks.length + 1) [] s
def QaI (name : ByteArray) (keep remove : List G) (s : PS) : PR Rl := (Y8 12 s).bind fun b s =>
  let fin (g b : List G) (s : PS) : PR Rl := (YM sDot s).bind fun _ s => .ok ⟨name, keep, remove, g, match b with | [x] => if x.op = 1 then [] else b | _ => b, 0⟩ s
  if s.is sBar then (Y8 12 s.nx).bind fun b2 s => fin b b2 s else fin [] b s
def QaH (s : PS) : PR Rl :=
  let body (name : ByteArray) (s : PS) : PR Rl := (ZO 0 s).bind fun first s =>
    if s.is QbD then QaI name [] first s.nx else if s.is Qgm then QaI name first [] s.nx else
    if s.is Qgk then (ZO first.length s.nx).bind fun rem s => (YM QbD s).bind fun _ s => QaI name first rem s else .err s.tk.pos 16
  if s.tk.kind = 1 /\ s.nx.is sAt = true then (QaC s).bind fun x s => body x s.nx else body eB s
def Rl.allV (r : Rl) : List Int := (r.keep ++ r.remove ++ r.guard ++ r.body).flatMap fun g => Yd g.args
def Rl.numd (r : Rl) : Rl :=
  let f := fun v => ((plc (ded [] r.allV) v : Nat) : Int)
  let m := List.map fun g : G => (⟨g.op, g.name, maps f g.args⟩ : G)
  ⟨r.name, m r.keep, m r.remove, m r.guard, m r.body, (ded [] r.allV).length⟩
def QbA (s : PS) : PR Rl := (QaH ⟨s.toks, []⟩).bind fun r s => .ok r.numd s
def Qb5 : Nat -> List Dc -> PS -> PR (List Dc)
  | 0, _, s => .err s.tk.pos 16
  | m + 1, l, s => if 30 <= l.length then .err s.tk.pos 6 else (QaC s).bind fun x s => (YM QfP s).bind fun _ s =>
      if s.tk.kind ≠ 3 then .err s.tk.pos 16 else if valT s.tk.text > 6 then .err s.tk.pos 6 else
      if s.nx.is Zt then Qb5 m (l ++ [⟨x, valT s.tk.text⟩]) s.nx.nx else (YM sDot s.nx).bind fun _ s2 => .ok (l ++ [⟨x, valT s.tk.text⟩]) s2
def Qol : List UInt8 := [99, 111, 110, 115, 116, 114, 97, 105, 110, 116]
def Qa0 : Nat -> List Dc -> PS -> PR (List Dc)
  | 0, l, s => .ok l s
  | m + 1, l, s => if s.tk.kind = 1 /\ s.tk.text.toList = Qol then (Qb5 (s.toks.length + 1) l s.nx).bind fun l s => Qa0 m l s else .ok l s
def QbB : Nat -> List Rl -> PS -> PR (List Rl)
  | 0, l, s => .ok l s
  | m + 1, l, s => if s.tk.kind = 0 then .ok l s else if 40 <= l.length then .err s.tk.pos 6 else (QbA s).bind fun r s => QbB m (l ++ [r]) s
def QjN (s : PS) : PR Pg := (Qa0 (s.toks.length + 1) [] s).bind fun d s => (QbB (s.toks.length + 1) [] s).bind fun r s => .ok ⟨d, r⟩ s
def pEnd (s : PS) : PR Unit := if s.tk.kind = 0 then .ok () s else .err s.tk.pos 16
def XN (l : List G) : List Int := l.flatMap fun g => Yd g.args
def Qeo (s : PS) : PR (List G × List ByteArray) := (Y8 40 s).bind fun l s => (pEnd s).bind fun _ s =>
  .ok (l.map fun g => ⟨g.op, g.name, maps (fun v => ((plc (ded [] (XN l)) v : Nat) : Int) ) g.args⟩, (ded [] (XN l)).map fun v => s.names.getD v.toNat eB) s
structure RR (α : Type) where
  v : α
  s : PS
  pos : Int
  e : Int
def RR.is {α : Type} (r : RR α) (p : PR α) : Prop := match p with
  | .ok a s => r = ⟨a, s, 0, 0⟩
  | .err x c => r.pos = x /\ r.e = c /\ c ≠ 0
def zTm : T := .mk 0 0 eB []
def zGl : G := ⟨0, eB, []⟩
def Qal (b : List UInt8) (s : PS) : RR Unit := if s.is b then ⟨(), s.nx, 0, 0⟩ else ⟨(), s, s.tk.pos, 16⟩
def QaT (s : PS) : RR ByteArray := if s.tk.kind ≠ 1 then ⟨eB, s, s.tk.pos, 16⟩ else if resB s.tk.text then ⟨eB, s, s.tk.pos, 7⟩ else ⟨s.tk.text, s.nx, 0, 0⟩
def QjR (ex : PS -> RR T) (x : ByteArray) : Nat -> List T -> PS -> RR G
  | 0, _, s => ⟨zGl, s, s.tk.pos, 16⟩
  | m + 1, l, s => if (ex s).e ≠ 0 then ⟨zGl, (ex s).s, (ex s).pos, (ex s).e⟩ else
    if (ex s).s.is Zt then QjR ex x m (l ++ [(ex s).v]) (ex s).s.nx else
    ⟨⟨0, x, l ++ [(ex s).v]⟩, (Qal sRp (ex s).s).s, (Qal sRp (ex s).s).pos, (Qal sRp (ex s).s).e⟩
def Qdo (ex : PS -> RR T) (s : PS) : RR G := if (QaT s).e ≠ 0 then ⟨zGl, (QaT s).s, (QaT s).pos, (QaT s).e⟩ else
  if (QaT s).s.is sLp then QjR ex (QaT s).v (QaT s).s.toks.length [] (QaT s).s.nx else ⟨⟨0, (QaT s).v, []⟩, (QaT s).s, 0, 0⟩
def qOp (ex : PS -> RR T) (s : PS) : RR T :=
  if s.tk.kind = 3 then ⟨.mk 0 (valT s.tk.text) eB [], s.nx, 0, 0⟩ else
  if s.tk.kind = 2 then ⟨(pVari s.tk.text s.nx).1, (pVari s.tk.text s.nx).2, 0, 0⟩ else
  if s.tk.kind = 1 then ⟨.mk 2 0 (Qdo ex s).v.name (Qdo ex s).v.args, (Qdo ex s).s, (Qdo ex s).pos, (Qdo ex s).e⟩ else
  if s.is QcT then (if s.nx.tk.kind ≠ 3 \/ s.nx.tk.pos ≠ s.tk.pos + 1 then ⟨zTm, s.nx, s.nx.tk.pos, 16⟩ else ⟨.mk 0 (-valT s.nx.tk.text) eB [], s.nx.nx, 0, 0⟩) else
  if s.is sLp then (if (ex s.nx).e ≠ 0 then ex s.nx else ⟨(ex s.nx).v, (Qal sRp (ex s.nx).s).s, (Qal sRp (ex s.nx).s).pos, (Qal sRp (ex s.nx).s).e⟩) else ⟨zTm, s, s.tk.pos, 16⟩
def Qad (op : PS -> RR T) (ops : List (List UInt8)) : Nat -> RR T -> RR T
  | 0, r => r
  | m + 1, r => if r.e ≠ 0 then r else if r.s.oneOf ops then Qad op ops m ⟨.mk 2 0 r.s.tk.text [r.v, (op r.s.nx).v], (op r.s.nx).s, (op r.s.nx).pos, (op r.s.nx).e⟩ else r
def Qer (op : PS -> RR T) (ops : List (List UInt8)) (s : PS) : RR T := Qad op ops (op s).s.toks.length (op s)
def Qo3 : Nat -> PS -> RR T
  | 0, s => ⟨zTm, s, s.tk.pos, 16⟩
  | n + 1, s => Qer (Qer (qOp (Qo3 n)) YJ) ZY s
def Qae (s : PS) : RR T := Qo3 (s.toks.length + 1) s
def qOne (op : Int) (s : PS) : RR G := if (Qal sLp s).e ≠ 0 then ⟨zGl, (Qal sLp s).s, (Qal sLp s).pos, (Qal sLp s).e⟩ else
  let r := Qae (Qal sLp s).s
  if r.e ≠ 0 then ⟨⟨op, eB, [r.v]⟩, r.s, r.pos, r.e⟩ else ⟨⟨op, eB, [r.v]⟩, (Qal sRp r.s).s, (Qal sRp r.s).pos, (Qal sRp r.s).e⟩
def Qge (s : PS) : RR G :=
  if s.tk.kind = 1 /\ resB s.tk.text = true then
    (if s.tk.text.toList = [116, 114, 117, 101] then ⟨⟨1, eB, []⟩, s.nx, 0, 0⟩ else if s.tk.text.toList = [102, 97, 105, 108] then ⟨⟨2, eB, []⟩, s.nx, 0, 0⟩ else
     if s.tk.text.toList = [105, 110, 116] then qOne 11 s.nx else if s.tk.text.toList = [103, 114, 111, 117, 110, 100] then qOne 12 s.nx else ⟨zGl, s, s.tk.pos, 7⟩)
  else if (Qae s).e ≠ 0 then ⟨zGl, (Qae s).s, (Qae s).pos, (Qae s).e⟩ else match QaP (Qae s).s with
    | some (op, turn) => ⟨⟨op, eB, if turn then [(Qae (Qae s).s.nx).v, (Qae s).v] else [(Qae s).v, (Qae (Qae s).s.nx).v]⟩, (Qae (Qae s).s.nx).s, (Qae (Qae s).s.nx).pos, (Qae (Qae s).s.nx).e⟩
    | none => if s.tk.kind = 1 /\ (Qae s).v.name.toList = s.tk.text.toList then ⟨⟨0, (Qae s).v.name, (Qae s).v.args⟩, (Qae s).s, 0, 0⟩ else ⟨zGl, (Qae s).s, (Qae s).s.tk.pos, 16⟩
theorem RR.okE {α : Type} {r : RR α} {a : α} {s : PS} (h : r.is (.ok a s)) : r = ⟨a, s, 0, 0⟩ := h
theorem Qf1 (b : List UInt8) (s : PS) : (Qal b s).is (YM b s) := by
  unfold Qal YM
  split
  · rfl
  · exact ⟨rfl, rfl, by decide⟩
theorem Qnd (s : PS) : (QaT s).is (QaC s) := by
  unfold QaT QaC
  split
  · exact ⟨rfl, rfl, by decide⟩
  · split
    · exact ⟨rfl, rfl, by decide⟩
    · rfl
def IsF {α : Type} (q : PS -> RR α) (p : PS -> PR α) : Prop := ∀ s, (q s).is (p s)
theorem Qml {qx : PS -> RR T} {px : PS -> PR T} (H : IsF qx px) (x : ByteArray) : ∀ (m : Nat) (l : List T) (s : PS), (QjR qx x m l s).is ((Z1 px m l s).bind fun l s => .ok ⟨0, x, l⟩ s)
  | 0, _, s => ⟨rfl, rfl, by decide⟩
  | m + 1, l, s => by
    rw [QjR, Z1]
    have h := H s
    cases hp : px s with
    | err p c =>
      rw [hp] at h
      obtain ⟨h1, h2, h3⟩ := h
      rw [QuH (by rw [h2]; exact h3)]
      exact ⟨h1, h2, h3⟩
    | ok t s2 =>
      rw [hp] at h
      rw [RR.okE h]
      rw [QuE (by simp)]
      show RR.is (if _ then _ else _) (PR.bind (PR.bind (.ok t s2) _) _)
      simp only [PR.bind]
      by_cases hc : s2.is Zt = true
      · rw [QuH hc, QuH hc]
        exact Qml H x m _ _
      · rw [QuE hc, QuE hc]
        have hw := Qf1 sRp s2
        cases hq : YM sRp s2 with
        | err p c => rw [hq] at hw; exact hw
        | ok u s3 =>
          rw [hq] at hw
          rw [RR.okE hw]; rfl
theorem Qp2 {qx : PS -> RR T} {px : PS -> PR T} (H : IsF qx px) : IsF (Qdo qx) (ZU px) := fun s => by
  unfold Qdo ZU
  have h := Qnd s
  cases hp : QaC s with
  | err p c =>
    rw [hp] at h
    obtain ⟨h1, h2, h3⟩ := h
    rw [QuH (by rw [h2]; exact h3)]
    exact ⟨h1, h2, h3⟩
  | ok x s2 =>
    rw [hp] at h
    rw [RR.okE h]
    rw [QuE (by simp)]
    simp only [PR.bind]
    by_cases hc : s2.is sLp = true
    · rw [QuH hc, QuH hc]
      exact Qml H x _ _ _
    · rw [QuE hc, QuE hc]; rfl
theorem Qqm {qx : PS -> RR T} {px : PS -> PR T} (H : IsF qx px) : IsF (qOp qx) (pOpT px) := fun s => by
  unfold qOp pOpT
  split
  · rfl
  · split
    · rfl
    · split
      · have h := Qp2 H s
        cases hp : ZU px s with
        | err p c => rw [hp] at h; exact h
        | ok x s2 => rw [hp] at h; rw [RR.okE h]; rfl
      · split
        · split
          · exact ⟨rfl, rfl, by decide⟩
          · rfl
        · split
          · have h := H s.nx
            cases hp : px s.nx with
            | err p c =>
              rw [hp] at h
              rw [QuH (by rw [h.2.1]; exact h.2.2)]
              exact h
            | ok x s2 =>
              rw [hp] at h
              rw [RR.okE h]
              rw [QuE (by simp)]
              simp only [PR.bind]
              have hw := Qf1 sRp s2
              cases hq : YM sRp s2 with
              | err p c => rw [hq] at hw; exact hw
              | ok u s3 =>
                rw [hq] at hw
                rw [RR.okE hw]; rfl
          · exact ⟨rfl, rfl, by decide⟩
theorem Qih {qo : PS -> RR T} {po : PS -> PR T} (H : IsF qo po) (ops : List (List UInt8)) : ∀ (m : Nat) (t : T) (s : PS), (Qad qo ops m ⟨t, s, 0, 0⟩).is (YA po ops m t s)
  | 0, t, s => rfl
  | m + 1, t, s => by
    rw [Qad, YA]
    rw [QuE (by simp)]
    simp only
    by_cases hc : s.oneOf ops = true
    · rw [QuH hc, QuH hc]
      have h := H s.nx
      cases hp : po s.nx with
      | err p c =>
        rw [hp] at h
        obtain ⟨h1, h2, h3⟩ := h
        have : ∀ (m : Nat) (r : RR T), r.e ≠ 0 -> Qad qo ops m r = r := fun m r hr => by
          cases m with
          | zero => rfl
          | succ m => rw [Qad, QuH hr]
        rw [this _ _ (by rw [h2]; exact h3)]
        exact ⟨h1, h2, h3⟩
      | ok u s2 =>
        rw [hp] at h
        rw [RR.okE h]
        exact Qih H ops m _ _
    · rw [QuE hc, QuE hc]; rfl
theorem QdL (qo : PS -> RR T) (ops : List (List UInt8)) (m : Nat) {r : RR T} (hr : r.e ≠ 0) : Qad qo ops m r = r := by
  cases m with
  | zero => rfl
  | succ m => rw [Qad, QuH hr]
theorem Qhi {qo : PS -> RR T} {po : PS -> PR T} (H : IsF qo po) (ops : List (List UInt8)) : IsF (Qer qo ops) (YV po ops) := fun s => by
  unfold Qer YV
  have h := H s
  cases hp : po s with
  | err p c =>
    rw [hp] at h
    rw [QdL _ _ _ (by rw [h.2.1]; exact h.2.2)]
    exact h
  | ok t s2 =>
    rw [hp] at h
    rw [RR.okE h]
    exact Qih H ops _ t s2
theorem Qfb : ∀ n, IsF (Qo3 n) (Zf n)
  | 0 => fun s => ⟨rfl, rfl, by decide⟩
  | n + 1 => Qhi (Qhi (Qqm (Qfb n)) YJ) ZY
theorem QhW : IsF Qae YP := fun s => Qfb _ s
theorem QpJ (op : Int) : IsF (qOne op) (Qb6 op) := fun s => by
  unfold qOne Qb6
  have h := Qf1 sLp s
  cases hp : YM sLp s with
  | err p c =>
    rw [hp] at h
    rw [QuH (by rw [h.2.1]; exact h.2.2)]
    exact h
  | ok u s1 =>
    rw [hp] at h
    rw [RR.okE h]
    rw [QuE (by simp)]
    simp only [PR.bind]
    have h := QhW s1
    cases hp : YP s1 with
    | err p c =>
      rw [hp] at h
      rw [QuH (by rw [h.2.1]; exact h.2.2)]
      exact h
    | ok t s2 =>
      rw [hp] at h
      rw [RR.okE h]
      rw [QuE (by simp)]
      simp only
      have hw := Qf1 sRp s2
      cases hq : YM sRp s2 with
      | err p c => rw [hq] at hw; exact hw
      | ok u s3 =>
        rw [hq] at hw
        rw [RR.okE hw]; rfl
theorem Qqb : IsF Qge QaD := fun s => by
  unfold Qge QaD
  split
  · split
    · rfl
    · split
      · rfl
      · split
        · exact QpJ 11 _
        · split
          · exact QpJ 12 _
          · exact ⟨rfl, rfl, by decide⟩
  · have h := QhW s
    cases hp : YP s with
    | err p c =>
      rw [hp] at h
      rw [QuH (by rw [h.2.1]; exact h.2.2)]
      exact h
    | ok t s2 =>
      rw [hp] at h
      rw [RR.okE h]
      rw [QuE (by simp)]
      simp only [PR.bind]
      cases hc : QaP s2 with
      | none =>
        simp only
        split
        · rfl
        · exact ⟨rfl, rfl, by decide⟩
      | some q =>
        obtain ⟨op, turn⟩ := q
        simp only
        have h := QhW s2.nx
        cases hq : YP s2.nx with
        | err p c => rw [hq] at h; exact h
        | ok u s3 => rw [hq] at h; rw [RR.okE h]; rfl
def isSp(c:UInt8):Bool:=decide (c.toNat=32\/c.toNat=9\/c.toNat=10\/c.toNat=13)
def XS:Bool->List UInt8->List UInt8
 |_,[]=>[]
 |true,c::r=>if c.toNat=10 then XS false r else XS true r
 |false,c::r=>if isSp c then XS false r else if c.toNat=35 then XS true r else c::r
def Yn:List (List UInt8):=[[61,58,61],[61,92,61],[60,61,62],[61,61,62],[61,61],[92,61],[61,60],[62,61],[64],[44],[46],[40],[41],[124],[47],[92],[43],[45],[42],[37],[61],[60],[62]]
def QeH(l:List UInt8):Option (List UInt8):=Yn.find? fun x=>x.isPrefixOf l
def Zn(l:List UInt8):Int×List UInt8 ⊕ Int:=match l with
 |[]=>.inl (0,[])
 |c::r =>
  if isL c then(if 40<((c::r).takeWhile isW).length then .inr 7 else .inl (if 97<=c.toNat then 1 else 2,(c::r).takeWhile isW))else
  if isD c then(if 2147483648<numVal ((c::r).takeWhile isD)then .inr 5 else .inl (3,(c::r).takeWhile isD))else
  match QeH (c::r)with
  |some x=>.inl (4,x)
  |none=>.inr 16
def QaZ(tot:Nat):Nat->List UInt8->List Tk ⊕ (Int×Int)
 |0,_=>.inl []
 |m+1,l=>match Zn (XS false l)with
  | .inr e=>.inr (((tot - (XS false l).length:Nat):Int),e)
  | .inl (k,x)=>if k=0 then .inl [⟨0,((tot - (XS false l).length:Nat):Int),eB⟩]else
   match QaZ tot m ((XS false l).drop x.length)with
   | .inl ts=>.inl (⟨k,((tot - (XS false l).length:Nat):Int),mkB x⟩::ts)
   | .inr e=>.inr e
def Zx(l:List UInt8):List Tk ⊕ (Int×Int):=if 16384<l.length then .inr (0,6)else QaZ l.length (l.length+1) l
theorem QcL:∀(b:Bool) (l:List UInt8),(XS b l).length<=l.length
 |_,[]=>by rw[XS];exact QuD _
 |true,c::r=>by
  rw[XS,QtS]
  split
  ·exact Qwy (QcL false r)
  ·exact Qwy (QcL true r)
 |false,c::r=>by
  rw[XS]
  split
  ·exact Qwy (QcL false r)
  ·split
   ·exact Qwy (QcL true r)
   ·exact QuD _
theorem QfV{l x:List UInt8}(h:QeH l=some x):0<x.length/\x.length<=3/\x.isPrefixOf l=true:=by
 have h1:=List.mem_of_find?_eq_some h
 have h2:=List.find?_some h
 refine⟨?_,?_,h2⟩
 ·have:∀x∈Yn,0<x.length:=by decide
  exact this x h1
 ·have:∀x∈Yn,x.length<=3:=by decide
  exact this x h1
end Go.Proofs.YticgcpebdldbgaaGreatDoor.Ab

