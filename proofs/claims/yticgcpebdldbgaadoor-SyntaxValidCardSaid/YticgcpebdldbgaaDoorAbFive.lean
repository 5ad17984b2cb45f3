/-
  An abstract program logic, contracts of functions, and laws of terms and rules (part 5).
-/
import Derived.Test.YticgcpebdldbgaaDoorAbFour
import Derived.Test.YticgcpebdldbgaaDoorAbThree
import Derived.Test.YticgcpebdldbgaaDoorAbTwo
set_option linter.unusedVariables false
set_option linter.unusedSimpArgs false
set_option maxHeartbeats 4000000
set_option maxRecDepth 4000
namespace Go.Proofs.YticgcpebdldbgaaDoor.Ab
open Go.Proofs
theorem FunW.retE {P:Program} {α:Type} {fv:AV} {args:List AV} {h:AH} {h':α→AH} {r:AV} {Q:AOut→AH→Prop} (H:FunW P fv args h fun o h2=>o = .ret r∧∃ x,h2=h' x) (k:∀ x,Q (.ret r) (h' x)):FunW P fv args h Q:=H.mono (by rintro _ _ ⟨rfl,x,rfl⟩;exact k x)
theorem Qoh (s:List Int) (v:Int):(ins s v).length≤s.length+1:=by
 unfold ins
 split
 ·omega
 ·simp
mutual
theorem T.QqO:∀ (s:List Int) (t:T),(T.mapS gNum s t).2.length≤s.length+t.nds
 |s,.mk k i n l=>by
  simp only [T.mapS,T.nds]
  split
  ·have:=Qoh s i
   show (ins s i).length≤_
   omega
  ·split
   ·have:=Qcg s l
    show (Xt gNum s l).2.length≤_
    omega
   ·show s.length≤_;omega
theorem Qcg:∀ (s:List Int) (l:List T),(Xt gNum s l).2.length≤s.length+ndsL l
 |s,[]=>by simp [Xt]
 |s,t::l=>by
  simp only [Xt,ndsL]
  have h1:=T.QqO s t
  have h2:=Qcg (T.mapS gNum s t).2 l
  omega
end
theorem Qlx {s:List Int} {u:T} (hp:u.ps) (hk:u.kind≠1):T.mapS gNum s u=(.mk u.kind u.int u.name (Xt gNum s u.args).1,(Xt gNum s u.args).2):=by
 obtain ⟨h1,h2,_⟩:=T.QqV hp
 rw [T.QqB,if_neg hk]
 by_cases h3:u.kind=2
 ·rw [if_pos h3]
 ·rw [if_neg h3,h2 h3]
  cases u
  simp only [T.args,T.kind] at h2 h3
  rw [h2 h3];rfl
theorem QbM:∀ a b:List T,ndsL (a++b)=ndsL a+ndsL b
 |[],b=>by simp [ndsL]
 |t::a,b=>by rw [List.cons_append,ndsL,ndsL,QbM a b];omega
theorem QjX (l:List T) {j:Nat} (h:j<l.length):ndsL (l.take j)+l[j].nds≤ndsL l:=by
 have:=congrArg ndsL (List.take_append_drop j l)
 rw [QbM,List.drop_eq_getElem_cons h,ndsL] at this
 omega
theorem QlD (l:List T) (j:Nat):ndsL (l.take j)≤ndsL l:=by
 have:=congrArg ndsL (List.take_append_drop j l)
 rw [QbM] at this
 omega
theorem QoQ {X:AH} {tt:TypeId} {n:Nat} {r:AB} {l m:List T} {u:T} (h:At X n (lays tt n r (l++u::m))):At X (n+szs l) (u.lay tt (n+szs l)):=by
 rw [QaE,lays] at h
 exact (h.right (m:=n+szs l) (by rw [YS])).left
def Cur (ord:List Int) (bs:List T) (j:Nat):List T:=(Xt gNum ord (bs.take j)).1++bs.drop j
theorem QgX (ord:List Int) {bs:List T} {j:Nat} (hj:j<bs.length):Cur ord bs j=(Xt gNum ord (bs.take j)).1++bs[j]::bs.drop (j+1) ∧
  Cur ord bs (j+1)=(Xt gNum ord (bs.take j)).1++(T.mapS gNum (Xt gNum ord (bs.take j)).2 bs[j]).1::bs.drop (j+1)∧(Xt gNum ord (bs.take (j+1))).2=(T.mapS gNum (Xt gNum ord (bs.take j)).2 bs[j]).2:=by
 obtain ⟨h1,h2⟩:=QjU gNum ord hj
 refine ⟨by rw [Cur,List.drop_eq_getElem_cons hj],?_,h2⟩
 rw [Cur,h1,List.append_assoc];rfl
theorem Qh3 (ord:List Int) (bs:List T) (j:Nat):szs (Cur ord bs j)=szs bs:=by
 rw [Cur,YA,Yy,← YA,List.take_append_drop]
theorem NSt.set {X:AH} {q:Nat} {ord:List Int} (h:NSt X q ord) {k:Nat} (hk:k<q) (y:AB):NSt (X.set k y) q ord:=by
 obtain ⟨toV,h1,h2,h3⟩:=h
 refine ⟨toV,by rw [List.getElem?_set_ne (by omega)];exact h1,by rw [List.getElem?_set_ne (by omega)];exact h2,h3.imp id ?_⟩
 rintro ⟨m,e,h4,h5⟩
 exact ⟨m,e,h4,by rw [List.getElem?_set_ne (by omega)];exact h5⟩
theorem NumP.set {X Y:AH} {q n w:Nat} (h:NumP X Y q n w) {k:Nat} (hk:n≤k∧k<n+w) (y:AB):NumP X (Y.set k y) q n w :=
 ⟨by rw [List.length_set];exact h.long,fun j hj hn=>by rw [List.getElem?_set_ne (by omega)];exact h.out j hj hn⟩
theorem NumP.setA {X Y:AH} {q n w:Nat} (h:NumP X Y q n w) {k:Nat} (hk:q≤k) (y:AB):NumP X (Y.set k y) q n w :=
 ⟨by rw [List.length_set];exact h.long,fun j hj hn=>by rw [List.getElem?_set_ne (by omega)];exact h.out j hj hn⟩
theorem NumP.app {X Y:AH} {q n w:Nat} (h:NumP X Y q n w) (L:AH) (hq:q≤Y.length):NumP X (Y++L) q n w :=
 ⟨by rw [List.length_append];exact Nat.le_trans h.long (by omega),fun j hj hn=>by rw [List.getElem?_append_left (by omega)];exact h.out j hj hn⟩
theorem At.QqF {h:AH} {n:Nat} {L:AH} (H:At h n L) {k:Nat} {x:AB} (hk:n+L.length≤k):At (h.set k x) n L:=H.set fun b hb _=>by
 have:=Qt hb
 omega
theorem Qin {X0 Z:AH} {q n:Nat} {ord:List Int} {bs:List T} {j rid:Nat} (hlt:j<bs.length) (hrid:rid=n+szs bs - 1) (hq:n+szs bs≤q) (hP:NumP X0 Z q n (szs bs)) (hS:NSt Z q (Xt gNum ord (bs.take (j+1))).2)
  (hA:At Z n (lays 54 n .dead (Cur ord bs j))) {c1:List T} (hc1:(Xt gNum ord (bs.take j)).1=c1) (hr:rid<Z.length) {v:Int} (ec':Cur ord bs (j+1)=c1++T.mk bs[j].kind v bs[j].name bs[j].args::bs.drop (j+1)) :
  NumP X0 (Z.set rid (.cells 54 4 ((lvs n (Cur ord bs j)).set j (.agg [.v (.int .i64 bs[j].kind),.v (.int .i64 v),.v (.string bs[j].name),lsl (n+szs c1) bs[j].args])))) q n (szs bs) ∧
  NSt (Z.set rid (.cells 54 4 ((lvs n (Cur ord bs j)).set j (.agg [.v (.int .i64 bs[j].kind),.v (.int .i64 v),.v (.string bs[j].name),lsl (n+szs c1) bs[j].args])))) q (Xt gNum ord (bs.take (j+1))).2 ∧
  At (Z.set rid (.cells 54 4 ((lvs n (Cur ord bs j)).set j (.agg [.v (.int .i64 bs[j].kind),.v (.int .i64 v),.v (.string bs[j].name),lsl (n+szs c1) bs[j].args])))) n (lays 54 n .dead (Cur ord bs (j+1))) ∧
  (Z.set rid (.cells 54 4 ((lvs n (Cur ord bs j)).set j (.agg [.v (.int .i64 bs[j].kind),.v (.int .i64 v),.v (.string bs[j].name),lsl (n+szs c1) bs[j].args]))))[rid]? = some (.cells 54 4 (lvs n (Cur ord bs (j+1)))):=by
 have hne:bs≠[]:=by rintro rfl;simp at hlt
 have hp:=QbR hne
 obtain ⟨ec,_,_⟩:=QgX ord hlt
 rw [hc1] at ec
 have hc1l:c1.length=j:=by rw [← hc1,ZI,List.length_take];omega
 have hcs:=Qh3 ord bs j
 refine ⟨hP.set (by omega) _,hS.set (by omega) _,?_,?_⟩
 ·rw [ec',Qlt (u:=bs[j]) (u':=T.mk bs[j].kind v bs[j].name bs[j].args) rfl,← ec]
  refine hA.set fun b hb hn=>?_
  have hne2:Cur ord bs j≠[]:=by rw [ec];exact List.append_ne_nil_of_right_ne_nil _ (List.cons_ne_nil _ _)
  have h1:=(Qa8 54 n .dead _ hne2).1
  rw [hcs,show szs bs - 1=rid - n by omega,hb] at h1
  cases h1;rfl
 ·rw [List.getElem?_set_self hr,ec',← Qlw (u:=bs[j]) (u':=T.mk bs[j].kind v bs[j].name bs[j].args) (by rw [T.Qqo,T.Qqo];rfl),← ec,hc1l,T.Qqu]
  rfl
theorem Qi9 {X0 X:AH} {q n a w:Nat} {M:AH} (hM:M.length≤w) (hq:n+w≤q) (hqx:q≤X.length) (hP:NumP X0 X q n w) (hA:At X n M) (ha:q≤a) (A G C:AB) (L:AH) :
  NumP X0 ((((X.set a A).set (q+1) G).set q C)++L) q n w∧At ((((X.set a A).set (q+1) G).set q C)++L) n M:=by
 refine ⟨NumP.app (((hP.setA ha A).setA (by omega) G).setA (Nat.le_refl _) C) L (by simp only [List.length_set];exact hqx),?_⟩
 exact (((hA.QqF (by omega)).QqF (by omega)).QqF (by omega)).app L
theorem Qpb {X:AH} {q a:Nat} (A G C:AB) (L:AH) (h:q+1<X.length):((((X.set a A).set (q+1) G).set q C)++L)[q]? = some C∧((((X.set a A).set (q+1) G).set q C)++L)[q+1]? = some G ∧
  (q+1<a→a<X.length→((((X.set a A).set (q+1) G).set q C)++L)[a]? = some A):=by
 refine ⟨?_,?_,fun h1 h2=>?_⟩
 ·rw [List.getElem?_append_left (by simp only [List.length_set];omega),List.getElem?_set_self (by simp only [List.length_set];omega)]
 ·rw [List.getElem?_append_left (by simp only [List.length_set];omega),List.getElem?_set_ne (by omega),List.getElem?_set_self (by simp only [List.length_set];omega)]
 ·rw [List.getElem?_append_left (by simp only [List.length_set];omega),List.getElem?_set_ne (by omega),List.getElem?_set_ne (by omega),List.getElem?_set_self h2]
theorem Qli (l:List Int) (v:Int):ints (l++[v])=ints l++[.i v]:=by simp [ints]
theorem QlG {X:AH} {q:Nat} (A c:AB) (v:Int) (h:q+1<X.length):NSt ((((X.set q A).set (q+1) (.grow 3 1 1)).set q (.cells 84 2 [.agg [.mp (X.length+1),.sl 1 (ints []++[.v (.int .i64 v)]) (some (q+1))]]))++[c,.map [(.int .i64 v,.v (.int .i64 0))]]) q ([]++[v]):=by
 obtain ⟨b1,b2,_⟩:=Qpb (X:=X) (q:=q) (a:=q) A (.grow 3 1 1) (.cells 84 2 [.agg [.mp (X.length+1),.sl 1 (ints []++[.v (.int .i64 v)]) (some (q+1))]]) [c,.map [(.int .i64 v,.v (.int .i64 0))]] h
 refine ⟨_,b1,b2,.inr ⟨X.length+1,rfl,by omega,?_⟩⟩
 rw [List.getElem?_append_right (by simp only [List.length_set];omega)]
 simp only [List.length_set,Nat.add_sub_cancel_left]
 rfl
theorem Qnb {X:AH} {q m:Nat} {ord:List Int} (c:AB) (v:Int) (h:q+1<X.length) (hm:q+1<m) (hmX:m<X.length):NSt ((((X.set m (.map (imap (Qao ord++[(v,.v (.int .i64 ord.length))])))).set (q+1) (.grow 3 1 (ord.length+1))).set q (.cells 84 2 [.agg [.mp m,.sl 1 (ints ord++[.v (.int .i64 v)]) (some (q+1))]]))++[c]) q (ord++[v]):=by
 obtain ⟨b1,b2,b3⟩:=Qpb (X:=X) (q:=q) (a:=m) (.map (imap (Qao ord++[(v,.v (.int .i64 ord.length))]))) (.grow 3 1 (ord.length+1)) (.cells 84 2 [.agg [.mp m,.sl 1 (ints ord++[.v (.int .i64 v)]) (some (q+1))]]) [c] h
 refine ⟨.mp m,?_,?_,.inr ⟨m,rfl,hm,?_⟩⟩
 ·rw [b1,Qli]
 ·rw [b2,List.length_append];rfl
 ·rw [b3 hm hmX,mapB,Qim]
def TmQ (X:AH) (q n:Nat) (ord:List Int) (bs:List T) (o:AOut) (h':AH):Prop:=o = .ret (.tup [])∧NumP X h' q n (szs bs)∧NSt h' q (Xt gNum ord bs).2∧At h' n (layA 54 n (Xt gNum ord bs).1)
theorem Qme (X:AH) (q n:Nat) (ord:List Int) (hS:NSt X q ord):QJ Tryd.prog 57 [.ptr q 0 0,.v (.slice none 0 0)] X (TmQ X q n ord []):=by
 have hn:=fun t'=>Qck Tryd.prog 50 t' 54 (by kernel_rfl)
 refine Qe Tryd.func57 rfl Tryd.call57 Tryd.ntmps57 (congrArg Array.toList Tryd.results57) (by simp) ?_
 repeat (first|(((with_reducible refine Qa fun K E hK hE=>?_));simp -implicitDefEqProofs only [Qc,Qd,OpW,aop,undef,AS.ev,Qq,↓reduceIte,Nat.reduceLT,aLen,goInt,hn])|(with_reducible refine Qj ?_)|((with_reducible refine hK _ ?_);clear hK))
 obtain ⟨I,hI⟩:∃ I:Nat→AS→Prop,I=fun m' s=>s.tm 9 = .i 0∧s.tm 10 = .i 0∧s.h=X:=⟨_,rfl⟩;refine QO I ?_ (m:=0) ?_
 ·intro m' s hs;rw [hI] at hs;obtain ⟨tm,hp⟩:=s;dsimp only at hs;obtain ⟨t9,t10,rfl⟩:=hs
  have z:¬ ((0:Int)<0):=by omega
  repeat (first|(((with_reducible refine Qa fun K E hK hE=>?_));simp -implicitDefEqProofs only [Qc,Qd,OpW,aop,AS.ev,Nat.reduceLT,aBin,t9,t10,z])|(with_reducible (first|refine Qf fun K hK=>?_|refine QG ?_|refine QD ?_|refine QC ?_))|((with_reducible refine hK _ ?_);clear hK)|(refine Qh rfl ?_;simp only [↓reduceIte,Qq3]))
  simp -implicitDefEqProofs only [Qq1,Qq5,List.mapM_nil,Option.pure_def,Qq1,QF,Qn,Qq9]
  exact .inr ⟨rfl,NumP.refl _ _ _ _,by simpa [Xt] using hS,by simp only [Xt];exact Qfy _ _⟩
 ·rw [hI]
  exact ⟨rfl,rfl,rfl⟩
section
variable {Nn:Nat} (IH:∀ (bs:List T),szs bs<Nn→pss bs→∀ (X:AH) (q n:Nat) (ord:List Int),ord.length+ndsL bs≤1000000000→n+szs bs≤q→q+1<X.length→NSt X q ord→At X n (layA 54 n bs)→QJ Tryd.prog 57 [.ptr q 0 0,lsl n bs] X (TmQ X q n ord bs))
include IH
theorem Qkj (bs:List T) (hsz:szs bs<Nn+1) (hps:pss bs) (X0:AH) (q n:Nat) (ord:List Int) (hb:ord.length+ndsL bs≤1000000000) (hq:n+szs bs≤q) (hqx:q+1<X0.length) (hS0:NSt X0 q ord) (hA0:At X0 n (layA 54 n bs)) :
  QJ Tryd.prog 57 [.ptr q 0 0,lsl n bs] X0 (TmQ X0 q n ord bs):=by
 by_cases hne:bs=[]
 ·subst hne;exact Qme X0 q n ord hS0
 obtain ⟨hA1,hrow0⟩:=QoP hA0 hne rfl
 have hsp:=QbR hne
 obtain ⟨rid,hrid⟩:∃ rid,rid=n+szs bs - 1:=⟨_,rfl⟩
 have hbl:bs.length≤1000000000:=by
  have:bs.length≤ndsL bs:=YT bs
  omega
 have hl0:lsl n bs = .arr rid 0 bs.length:=by rw [lsl,if_neg (by simpa using hne),hrid]
 rw [hl0]
 rw [← hrid] at hrow0
 have hg0:∀ L:AH,(X0++L)[rid]? = some (.cells 54 4 (lvs n bs)):=fun L=>hext hrow0 L
 have hlv:=Za n bs
 refine Qe Tryd.func57 rfl Tryd.call57 Tryd.ntmps57 (congrArg Array.toList Tryd.results57) (by simp) ?_
 repeat (first|(((with_reducible refine Qa fun K E hK hE=>?_));simp -implicitDefEqProofs only [Qc,Qd,OpW,aop,undef,AS.ev,Qq,↓reduceIte,Nat.reduceLT,aLen,goInt,un50,hrow0])|(with_reducible refine Qj ?_)|((with_reducible refine hK _ ?_);clear hK))
 obtain ⟨I,hI⟩:∃ I:Nat→AS→Prop,I=fun m' s=>∃ (j:Nat),m'=bs.length - j∧j≤bs.length∧NumP X0 s.h q n (szs bs)∧NSt s.h q (Xt gNum ord (bs.take j)).2∧At s.h n (lays 54 n .dead (Cur ord bs j))∧s.h[rid]? = some (.cells 54 4 (lvs n (Cur ord bs j))) ∧
  s.tm 0 = .ptr q 0 0∧s.tm 1 = .arr rid 0 bs.length∧s.tm 8 = .arr rid 0 bs.length∧s.tm 9 = .i bs.length∧s.tm 10 = .i j:=⟨_,rfl⟩;refine QO I ?_ (m:=bs.length) ?_
 ·intro m' s hs;rw [hI] at hs;obtain ⟨tm,hp⟩:=s;dsimp only at hs;obtain ⟨j,rfl,hj,hP,hS,hA,hrow,t0,t1,t8,t9,t10⟩:=hs
  by_cases hlt:j<bs.length
  ·have z1:(((j:Nat):Int)<((bs.length:Nat):Int)):=by omega
   obtain ⟨ec,ec',eo⟩:=QgX ord hlt
   have hup:=QlX hlt hps
   have hpl:=hP.long
   generalize hX:hp=X at *
   have hXl:q+1<X.length:=by omega
   generalize hc1:(Xt gNum ord (bs.take j)).1=c1 at *
   have hc1l:c1.length=j:=by rw [← hc1,ZI,List.length_take];omega
   have hc1s:szs c1=szs (bs.take j):=by rw [← hc1,Yy]
   generalize hord:(Xt gNum ord (bs.take j)).2=ordj at *
   have hol:ordj.length≤1000000000:=by
    have h1:=Qcg ord (bs.take j)
    have h2:ndsL (bs.take j)≤ndsL bs:=QlD bs j
    rw [hord] at h1;omega
   have hszu:szs (bs.take j)+(bs[j].sz+1+szs (bs.drop (j+1)))=szs bs:=by
    have:=congrArg szs (List.take_append_drop j bs)
    rw [YA,List.drop_eq_getElem_cons hlt,szs] at this
    exact this
   have hu1:bs[j].sz=szs bs[j].args:=T.Qqo _
   have hndu:bs[j].nds≤ndsL bs:=Z7 hlt
   have hcl:(lvs n (Cur ord bs j)).length=bs.length:=by rw [Za,ec,List.length_append,List.length_cons,List.length_drop,hc1l];omega
   have hat:(lvs n (Cur ord bs j))[j]? = some (bs[j].lv (n+szs c1)):=by
    have:=Qo9 n c1 (bs.drop (j+1)) bs[j]
    rw [hc1l] at this
    rw [ec];exact this
   have e1:=T.Qqd (n+szs c1) bs[j]
   have e2:=T.Qqf (n+szs c1) bs[j]
   have hrL:∀ L:AH,(X++L)[rid]? = some (.cells 54 4 (lvs n (Cur ord bs j))):=fun L=>hext hrow L
   have wj:IntKind.i64.wrap (((j:Nat):Int)+1)=((j+1:Nat):Int):=Xk (by omega)
   by_cases hk:bs[j].kind=1
   ·have z2:(bs[j].kind != 1)=false:=by simp [hk]
    have hmv:T.mapS gNum ordj bs[j]=(.mk bs[j].kind (plc (ins ordj bs[j].int) bs[j].int:Nat) bs[j].name bs[j].args,ins ordj bs[j].int):=by rw [T.QqB,if_pos hk];rfl
    rw [hmv] at ec' eo
    obtain ⟨toV,s1,s2,s3⟩:=hS
    have g1:∀ L:AH,(X++L)[q]? = _:=fun L=>hext s1 L
    have g2:∀ L:AH,(X++L)[q+1]? = _:=fun L=>hext s2 L
    by_cases hf:bs[j].int∈ordj
    ·rcases s3 with ⟨_,rfl⟩|⟨m,rfl,hm,s3⟩
     ·cases hf
     have hmX:=Qt s3
     have g3:∀ L:AH,(X++L)[m]? = _:=fun L=>hext s3 L
     have hget1:=QlI bs[j].int ordj
     rw [if_pos hf] at hget1
     have hfind:=QdZ bs[j].int (Qao ordj)
     rw [hget1] at hfind
     repeat (first|((first|(with_reducible (first|refine Qa fun K E hK hE=>?_|refine Qk fun K E hK hE=>?_))|(refine Xj (id:=5) [(0,0),(1,0),(2,0),(3,0),(4,0),(5,0),(6,0),(7,0),(8,0),(9,0),(10,0),(11,0)] mixed (by kernel_rfl) fun K hK=>?_));simp -implicitDefEqProofs only [Qc,Qd,OpW,aop,undef,AS.ev,AV.Qp8,↓reduceIte,Qg,Qw,Qv,QB,Qp,QK,aBin,QY,Zw,ti3,ei50,ti54,Xy,Xz,zi54,ti81,mi81,Qfm,Qs,t0,t1,t8,t9,t10,z1,z2,hrow,hrL,hat,e1,e2,QR,g1,g3,hfind,mapB,seval])|(with_reducible (first|refine Qf fun K hK=>?_|refine Qj ?_|refine Qm ?_|refine Qb ?_|refine Qo ?_))|((with_reducible refine hK _ ?_);clear hK)|(refine Qh rfl ?_;simp only [↓reduceIte,Qq3]))
     refine Xi.mk (m':=bs.length - (j+1)) (by omega) ?_
     rw [hI]
     have hins:ins ordj bs[j].int=ordj:=by unfold ins;rw [if_pos hf]
     rw [hins] at ec' eo
     obtain ⟨r1,r2,r3,r4⟩:=Qin (Z:=X++[.cells 54 4 [T.lv (n+szs c1) bs[j]]]) hlt hrid hq (hP.app _ (by omega)) (by rw [eo];exact NSt.app ⟨_,s1,s2,.inr ⟨m,rfl,hm,s3⟩⟩ _) (hA.app _) hc1 (Qt (hrL _)) ec'
     exact ⟨j+1,rfl,by omega,r1,r2,r3,r4,t0,t1,t8,t9,by rw [wj];rfl⟩
    ·have hfl:Qgb bs[j].int (Qao ordj)=none:=by rw [QlI,if_neg hf]
     have hfind:=QdZ bs[j].int (Qao ordj)
     rw [hfl] at hfind
     have hins:ins ordj bs[j].int=ordj++[bs[j].int]:=by unfold ins;rw [if_neg hf]
     have hplc:plc (ordj++[bs[j].int]) bs[j].int=ordj.length:=QbB [] hf
     rw [hins,hplc] at ec' eo
     have hrq:rid<q:=by omega
     have hqX0:q<X.length:=by omega
     have ml1:1≤maxLen:=by decide
     have ml2:ordj.length+1≤maxLen:=by unfold maxLen;omega
     have ml3:(ordj.length+1) * 8≤140737488355328:=by omega
     have nM:pv Tryd.prog (do eqGuard .eql 81 (Operand.tmp 37) (Operand.const (Value.map none)) (.map none) (.map none);binOp .eql 81 (.map none) (.map none))=some (.bool true):=by kernel_rfl
     rcases s3 with ⟨rfl,e0⟩|⟨m,rfl,hm,s3⟩
     ·subst e0
      have hupd:∀ v,updA (.int .i64) (.int .i64 bs[j].int) v []=some [(.int .i64 bs[j].int,v)]:=fun _=>rfl
      have a_q:∀ (Y L:AH),Y.length=X.length→(Y++L)[q]? = Y[q]? := fun Y L hY=>List.getElem?_append_left (by omega)
      have s_q:∀ (Y L:AH) (y:AB),Y.length=X.length→(Y++L).set q y=Y.set q y++L:=fun Y L y hY=>List.set_append_left _ _ (by omega)
      have i_q:∀ (Y:AH) (y:AB),Y.length=X.length→(Y.set q y)[q]? = some y:=fun Y y hY=>List.getElem?_set_self (by omega)
      have n_q_p:∀ (Y:AH) (y:AB),(Y.set q y)[(q+1)]? = Y[(q+1)]? := fun Y y=>List.getElem?_set_ne (by omega)
      have n_q_r:∀ (Y:AH) (y:AB),(Y.set q y)[rid]? = Y[rid]? := fun Y y=>List.getElem?_set_ne (by omega)
      have a_p:∀ (Y L:AH),Y.length=X.length→(Y++L)[(q+1)]? = Y[(q+1)]? := fun Y L hY=>List.getElem?_append_left (by omega)
      have s_p:∀ (Y L:AH) (y:AB),Y.length=X.length→(Y++L).set (q+1) y=Y.set (q+1) y++L:=fun Y L y hY=>List.set_append_left _ _ (by omega)
      have i_p:∀ (Y:AH) (y:AB),Y.length=X.length→(Y.set (q+1) y)[(q+1)]? = some y:=fun Y y hY=>List.getElem?_set_self (by omega)
      have n_p_q:∀ (Y:AH) (y:AB),(Y.set (q+1) y)[q]? = Y[q]? := fun Y y=>List.getElem?_set_ne (by omega)
      have n_p_r:∀ (Y:AH) (y:AB),(Y.set (q+1) y)[rid]? = Y[rid]? := fun Y y=>List.getElem?_set_ne (by omega)
      have a_r:∀ (Y L:AH),Y.length=X.length→(Y++L)[rid]? = Y[rid]? := fun Y L hY=>List.getElem?_append_left (by omega)
      have s_r:∀ (Y L:AH) (y:AB),Y.length=X.length→(Y++L).set rid y=Y.set rid y++L:=fun Y L y hY=>List.set_append_left _ _ (by omega)
      have i_r:∀ (Y:AH) (y:AB),Y.length=X.length→(Y.set rid y)[rid]? = some y:=fun Y y hY=>List.getElem?_set_self (by omega)
      have n_r_q:∀ (Y:AH) (y:AB),(Y.set rid y)[q]? = Y[q]? := fun Y y=>List.getElem?_set_ne (by omega)
      have n_r_p:∀ (Y:AH) (y:AB),(Y.set rid y)[(q+1)]? = Y[(q+1)]? := fun Y y=>List.getElem?_set_ne (by omega)
      have t_0:∀ (Y L:AH),Y.length=X.length→(Y++L)[X.length]? = L[0]? := fun Y L hY=>by rw [← hY];exact Z4 _ _
      have t_k:∀ (Y L:AH) (k:Nat),Y.length=X.length→(Y++L)[X.length+k]? = L[k]? := fun Y L k hY=>by rw [← hY];exact hget _ _ _
      have u_0:∀ (Y L:AH) (y:AB),Y.length=X.length→(Y++L).set X.length y=Y++L.set 0 y:=fun Y L y hY=>by rw [← hY];exact QbK _ _ _
      have u_k:∀ (Y L:AH) (k:Nat) (y:AB),Y.length=X.length→(Y++L).set (X.length+k) y=Y++L.set k y:=fun Y L k y hY=>by rw [← hY];exact hset _ _ _ _
      repeat (first|((first|(with_reducible (first|refine Qa fun K E hK hE=>?_|refine Qk fun K E hK hE=>?_))|(refine Xj (id:=5) [(0,0),(1,0),(2,0),(3,0),(4,0),(5,0),(6,0),(7,0),(8,0),(9,0),(10,0),(11,0)] mixed (by kernel_rfl) fun K hK=>?_)|(refine Xj (id:=10) [(0,0),(1,0),(2,0),(3,0),(4,0),(5,0),(6,0),(7,2)] mixed (by kernel_rfl) fun K hK=>?_)|(refine XP (id:=11) [(0,0),(1,0),(2,0),(3,0),(4,0),(5,0),(6,0),(7,0),(8,2),(9,0),(10,0),(11,2)] mixed (by kernel_rfl) fun K hK=>?_));simp -implicitDefEqProofs only [Qc,Qd,OpW,aop,undef,AS.ev,AV.Qp8,↓reduceIte,Qg,Qw,Qv,QB,Qp,QK,aBin,QY,QH,aLen,XD,Yb,Zw,YM,goInt,ti3,zi3,ei50,ti54,Xy,Xz,zi54,ti81,mi81,ti82,ei82,ai82,un82,Qfm,QdW,Qs,t0,t1,t8,t9,t10,z1,z2,hrow,hat,e1,e2,QR,s2,g1,nM,hupd,List.length_set,ml1,a_q,s_q,i_q,n_q_p,n_q_r,a_p,s_p,n_p_q,n_p_r,a_r,s_r,t_0,t_k,u_0,u_k,seval])|(with_reducible (first|refine Qf fun K hK=>?_|refine Qj ?_|refine Qm ?_|refine Qb ?_|refine Qo ?_))|((with_reducible refine hK _ ?_);clear hK)|(refine Qh rfl ?_;simp only [↓reduceIte,Qq3]))
      refine Xi.mk (m':=bs.length - (j+1)) (by omega) ?_
      rw [hI]
      rw [← List.set_append_left _ _ (by simp only [List.length_set];omega)]
      have hML:(lays 54 n .dead (Cur ord bs j)).length≤szs bs:=by rw [YS,Qh3];exact Nat.le_refl _
      obtain ⟨b1,b2⟩:=Qi9 (a:=q) hML hq (by omega) hP hA (by omega) (.cells 84 2 [.agg [.mp (X.length+1),.sl 1 (ints []) (some (q+1))]]) (.grow 3 1 1) (.cells 84 2 [.agg [.mp (X.length+1),.sl 1 (ints []++[.v (.int .i64 bs[j].int)]) (some (q+1))]]) [.cells 54 4 [T.lv (n+szs c1) bs[j]],.map [(.int .i64 bs[j].int,.v (.int .i64 0))]]
      obtain ⟨r1,r2,r3,r4⟩:=Qin hlt hrid hq b1 (by rw [eo];exact QlG (.cells 84 2 [.agg [.mp (X.length+1),.sl 1 (ints []) (some (q+1))]]) (.cells 54 4 [T.lv (n+szs c1) bs[j]]) _ (by omega)) b2 hc1 (by simp only [QrQ,List.length_set];omega) ec'
      exact ⟨j+1,rfl,by omega,r1,r2,r3,r4,t0,t1,t8,t9,by rw [wj];rfl⟩
     ·have hmX:=Qt s3
      have g3:∀ L:AH,(X++L)[m]? = _:=fun L=>hext s3 L
      have hupd:=fun v=>Qjp bs[j].int v (Qao ordj) hfl
      have nn:∀ L:AH,notNil Tryd.prog 81 (X++L) (.mp m) (.map none)=true:=fun L=>by
       have hu:Tryd.prog.underlying 81=some (.map 3 3):=by kernel_rfl
       simp only [notNil,hu,g3 L,mapB]
      have a_q:∀ (Y L:AH),Y.length=X.length→(Y++L)[q]? = Y[q]? := fun Y L hY=>List.getElem?_append_left (by omega)
      have s_q:∀ (Y L:AH) (y:AB),Y.length=X.length→(Y++L).set q y=Y.set q y++L:=fun Y L y hY=>List.set_append_left _ _ (by omega)
      have i_q:∀ (Y:AH) (y:AB),Y.length=X.length→(Y.set q y)[q]? = some y:=fun Y y hY=>List.getElem?_set_self (by omega)
      have n_q_p:∀ (Y:AH) (y:AB),(Y.set q y)[(q+1)]? = Y[(q+1)]? := fun Y y=>List.getElem?_set_ne (by omega)
      have n_q_m:∀ (Y:AH) (y:AB),(Y.set q y)[m]? = Y[m]? := fun Y y=>List.getElem?_set_ne (by omega)
      have n_q_r:∀ (Y:AH) (y:AB),(Y.set q y)[rid]? = Y[rid]? := fun Y y=>List.getElem?_set_ne (by omega)
      have a_p:∀ (Y L:AH),Y.length=X.length→(Y++L)[(q+1)]? = Y[(q+1)]? := fun Y L hY=>List.getElem?_append_left (by omega)
      have s_p:∀ (Y L:AH) (y:AB),Y.length=X.length→(Y++L).set (q+1) y=Y.set (q+1) y++L:=fun Y L y hY=>List.set_append_left _ _ (by omega)
      have i_p:∀ (Y:AH) (y:AB),Y.length=X.length→(Y.set (q+1) y)[(q+1)]? = some y:=fun Y y hY=>List.getElem?_set_self (by omega)
      have n_p_q:∀ (Y:AH) (y:AB),(Y.set (q+1) y)[q]? = Y[q]? := fun Y y=>List.getElem?_set_ne (by omega)
      have n_p_m:∀ (Y:AH) (y:AB),(Y.set (q+1) y)[m]? = Y[m]? := fun Y y=>List.getElem?_set_ne (by omega)
      have n_p_r:∀ (Y:AH) (y:AB),(Y.set (q+1) y)[rid]? = Y[rid]? := fun Y y=>List.getElem?_set_ne (by omega)
      have a_m:∀ (Y L:AH),Y.length=X.length→(Y++L)[m]? = Y[m]? := fun Y L hY=>List.getElem?_append_left (by omega)
      have s_m:∀ (Y L:AH) (y:AB),Y.length=X.length→(Y++L).set m y=Y.set m y++L:=fun Y L y hY=>List.set_append_left _ _ (by omega)
      have i_m:∀ (Y:AH) (y:AB),Y.length=X.length→(Y.set m y)[m]? = some y:=fun Y y hY=>List.getElem?_set_self (by omega)
      have n_m_q:∀ (Y:AH) (y:AB),(Y.set m y)[q]? = Y[q]? := fun Y y=>List.getElem?_set_ne (by omega)
      have n_m_p:∀ (Y:AH) (y:AB),(Y.set m y)[(q+1)]? = Y[(q+1)]? := fun Y y=>List.getElem?_set_ne (by omega)
      have n_m_r:∀ (Y:AH) (y:AB),(Y.set m y)[rid]? = Y[rid]? := fun Y y=>List.getElem?_set_ne (by omega)
      have a_r:∀ (Y L:AH),Y.length=X.length→(Y++L)[rid]? = Y[rid]? := fun Y L hY=>List.getElem?_append_left (by omega)
      have s_r:∀ (Y L:AH) (y:AB),Y.length=X.length→(Y++L).set rid y=Y.set rid y++L:=fun Y L y hY=>List.set_append_left _ _ (by omega)
      have i_r:∀ (Y:AH) (y:AB),Y.length=X.length→(Y.set rid y)[rid]? = some y:=fun Y y hY=>List.getElem?_set_self (by omega)
      have n_r_q:∀ (Y:AH) (y:AB),(Y.set rid y)[q]? = Y[q]? := fun Y y=>List.getElem?_set_ne (by omega)
      have n_r_p:∀ (Y:AH) (y:AB),(Y.set rid y)[(q+1)]? = Y[(q+1)]? := fun Y y=>List.getElem?_set_ne (by omega)
      have n_r_m:∀ (Y:AH) (y:AB),(Y.set rid y)[m]? = Y[m]? := fun Y y=>List.getElem?_set_ne (by omega)
      have t_0:∀ (Y L:AH),Y.length=X.length→(Y++L)[X.length]? = L[0]? := fun Y L hY=>by rw [← hY];exact Z4 _ _
      have t_k:∀ (Y L:AH) (k:Nat),Y.length=X.length→(Y++L)[X.length+k]? = L[k]? := fun Y L k hY=>by rw [← hY];exact hget _ _ _
      have u_0:∀ (Y L:AH) (y:AB),Y.length=X.length→(Y++L).set X.length y=Y++L.set 0 y:=fun Y L y hY=>by rw [← hY];exact QbK _ _ _
      have u_k:∀ (Y L:AH) (k:Nat) (y:AB),Y.length=X.length→(Y++L).set (X.length+k) y=Y++L.set k y:=fun Y L k y hY=>by rw [← hY];exact hset _ _ _ _
      repeat (first|((first|(with_reducible (first|refine Qa fun K E hK hE=>?_|refine Qk fun K E hK hE=>?_))|(refine Xj (id:=5) [(0,0),(1,0),(2,0),(3,0),(4,0),(5,0),(6,0),(7,0),(8,0),(9,0),(10,0),(11,0)] mixed (by kernel_rfl) fun K hK=>?_)|(refine Xj (id:=10) [(0,0),(1,0),(2,0),(3,0),(4,0),(5,0),(6,0),(7,2)] mixed (by kernel_rfl) fun K hK=>?_)|(refine XP (id:=11) [(0,0),(1,0),(2,0),(3,0),(4,0),(5,0),(6,0),(7,0),(8,2),(9,0),(10,0),(11,2)] mixed (by kernel_rfl) fun K hK=>?_));simp -implicitDefEqProofs only [Qc,Qd,OpW,aop,undef,AS.ev,AV.Qp8,↓reduceIte,Qg,Qw,Qv,QB,Qp,QK,aBin,QY,QH,aLen,XD,Yb,Zw,YM,goInt,ti3,zi3,ei50,ti54,Xy,Xz,zi54,ti81,mi81,ti82,ei82,ai82,un82,Qfm,QdW,Qs,t0,t1,t8,t9,t10,z1,z2,hrow,hat,e1,e2,QR,s1,s2,g1,g3,hfind,mapB,hupd,nn,List.length_set,ml2,ml3,a_q,s_q,n_q_r,a_p,s_p,n_p_q,n_p_r,s_m,n_m_q,n_m_p,n_m_r,a_r,s_r,t_0,u_0,seval])|(with_reducible (first|refine Qf fun K hK=>?_|refine Qj ?_|refine Qm ?_|refine Qb ?_|refine Qo ?_))|((with_reducible refine hK _ ?_);clear hK)|(refine Qh rfl ?_;simp only [↓reduceIte,Qq3]))
      refine Xi.mk (m':=bs.length - (j+1)) (by omega) ?_
      rw [hI]
      rw [← List.set_append_left _ _ (by simp only [List.length_set];omega)]
      have hML:(lays 54 n .dead (Cur ord bs j)).length≤szs bs:=by rw [YS,Qh3];exact Nat.le_refl _
      obtain ⟨b1,b2⟩:=Qi9 (a:=m) hML hq (by omega) hP hA (by omega) (.map (imap (Qao ordj++[(bs[j].int,.v (.int .i64 ordj.length))]))) (.grow 3 1 (ordj.length+1)) (.cells 84 2 [.agg [.mp m,.sl 1 (ints ordj++[.v (.int .i64 bs[j].int)]) (some (q+1))]]) [.cells 54 4 [T.lv (n+szs c1) bs[j]]]
      obtain ⟨r1,r2,r3,r4⟩:=Qin hlt hrid hq b1 (by rw [eo];exact Qnb (.cells 54 4 [T.lv (n+szs c1) bs[j]]) _ (by omega) hm hmX) b2 hc1 (by simp only [QrQ,List.length_set];omega) ec'
      exact ⟨j+1,rfl,by omega,r1,r2,r3,r4,t0,t1,t8,t9,by rw [wj];rfl⟩
   ·have z2:(bs[j].kind != 1)=true:=by simpa using hk
    have hm:=Qlx (s:=ordj) hup hk
    rw [hm] at ec' eo
    have hsub:At X (n+szs c1) (layA 54 (n+szs c1) bs[j].args):=by
     have:=QoQ (by rw [ec] at hA;exact hA)
     rwa [T.Qqk] at this
    have cI:∀ c:AB,QJ Tryd.prog 57 [.ptr q 0 0,lsl (n+szs c1) bs[j].args] (X++[c]) fun o h'=>o = .ret (.tup [])∧∃ Y:{Y:AH // TmQ (X++[c]) q (n+szs c1) ordj bs[j].args (.ret (.tup [])) Y},h'=Y.1:=fun c =>
     (IH bs[j].args (by omega) (T.QqV hup).2.2 (X++[c]) q (n+szs c1) ordj (by
      have:=T.Qqp bs[j]
      have h1:=Qcg ord (bs.take j)
      have h2:=QjX bs hlt
      rw [hord] at h1
      omega) (by omega) (by rw [List.length_append];omega) (hS.app _) (hsub.app _)).mono fun o h' q=>by
       obtain ⟨rfl,q2⟩:=q
       exact ⟨rfl,⟨h',rfl,q2⟩,rfl⟩
    repeat (first|((first|(with_reducible (first|refine Qa fun K E hK hE=>?_|refine Qk fun K E hK hE=>?_|refine FunW.retE (FunW.call (cI _)) fun Y=>?_)));simp -implicitDefEqProofs only [Qc,Qd,OpW,QE,aop,undef,AS.ev,AV.Qp8,↓reduceIte,Qg,Qw,Qv,QB,Qp,QK,aBin,ti3,ti50,ei50,ti54,Xy,Yk,zi54,t0,t8,t9,t10,z1,z2,hrow,hat,e1,e2,QR,seval])|(with_reducible (first|refine Qf fun K hK=>?_|refine Qj ?_|refine Qm ?_|refine QG ?_|refine Qb ?_|refine QD ?_|refine QC ?_))|((with_reducible refine hK _ ?_);clear hK)|(clear hK;(with_reducible refine hK _ ?_);clear hK)|(refine Qh rfl ?_;simp only [↓reduceIte]))
    obtain ⟨Y,hY⟩:=Y
    obtain ⟨_,y1,y2,y3⟩:=hY
    repeat ((((with_reducible refine Qa fun K E hK hE=>?_));simp -implicitDefEqProofs only [Qc,Qd,OpW,QE,aop,undef,XL,AS.ev,Qq,AV.Qp8,↓reduceIte,Qg,Qw,Qv,QB,Qp,QK,aBin,QY,Xu,QH,aLen,XD,Yb,Zw,YM,goInt,ti0,zi0,ti3,zi3,un3,ti4,zi4,un4,ti50,ei50,ai50,zi50,un50,ti54,Xy,Xz,Yj,Yk,zi54,sp54,ti81,zi81,mi81,un81,ti82,ei82,ai82,zi82,un82,ti84,Qfm,QdW,zi84,sp84,QoF,QoN,QoI,Qp4,QrM,Int.sub_zero,Zg,Qs,t10,wj,seval]))
    have hP2:NumP X Y q (n+szs c1) (szs bs[j].args):=⟨by have:=y1.long;rw [List.length_append] at this;omega,fun i hi hn=>by rw [y1.out i hi hn,List.getElem?_append_left (by omega)]⟩
    refine Xi.mk (m':=bs.length - (j+1)) (by omega) ?_
    rw [hI]
    refine ⟨j+1,rfl,by omega,hP.trans hP2 (by omega) (by omega),by rw [eo];exact y2,?_,?_,t0,t1,t8,t9,by rw [wj];rfl⟩
    ·rw [ec']
     refine Qn6 (u:=bs[j]) (by rw [← ec];exact hA) ?_ (by rw [T.Qqk];exact y3) fun i h1 h2 h3=>hP2.out i ?_ (by rw [← hu1];exact h3)
     ·rw [T.Qqo,T.Qqo bs[j]];exact Yy _ _ _
     ·rw [YA,szs] at h2;omega
    ·rw [ec',Qm7 (u:=bs[j]) (fun k=>by rw [T.Qqu,T.Qqu];exact congrArg _ (by simp only [T.args,T.kind,T.int,T.name,Qeb])) (by rw [T.Qqo,T.Qqo bs[j]];exact Yy _ _ _),← ec,← hrow]
     exact hP2.out rid (by omega) (by omega)
  ·have hjl:j=bs.length:=by omega
   have z1:¬ (((j:Nat):Int)<((bs.length:Nat):Int)):=by omega
   repeat (first|(((with_reducible refine Qa fun K E hK hE=>?_));simp -implicitDefEqProofs only [Qc,Qd,OpW,aop,AS.ev,Nat.reduceLT,aBin,t9,t10,z1])|(with_reducible (first|refine Qf fun K hK=>?_|refine QG ?_|refine QD ?_|refine QC ?_))|((with_reducible refine hK _ ?_);clear hK)|(refine Qh rfl ?_;simp only [↓reduceIte,Qq3]))
   simp -implicitDefEqProofs only [Qq1,Qq5,List.mapM_nil,Option.pure_def,Qq1,QF,Qn,Qq9]
   subst hjl
   have hcur:Cur ord bs bs.length=(Xt gNum ord bs).1:=by rw [Cur,List.take_length,List.drop_length,List.append_nil]
   rw [List.take_length] at hS
   rw [hcur] at hA hrow
   refine .inr ⟨rfl,hP,hS,?_⟩
   have hne2:(Xt gNum ord bs).1≠[]:=fun e=>hne (List.eq_nil_of_length_eq_zero (by rw [← ZI gNum ord bs,e];rfl))
   exact Qpx hA hne2 (by rw [Yy,← hrid];exact hrow)
 ·rw [hI]
  have hcur:Cur ord bs 0=bs:=by simp [Cur,Xt]
  exact ⟨0,rfl,Nat.zero_le _,NumP.refl _ _ _ _,by simpa [Xt] using hS0,by rw [hcur];exact hA1,by rw [hcur];exact hrow0,rfl,rfl,rfl,rfl,rfl⟩
end
theorem QcW:∀ (N:Nat) (bs:List T),szs bs<N→pss bs→∀ (X:AH) (q n:Nat) (ord:List Int),ord.length+ndsL bs≤1000000000→n+szs bs≤q→q+1<X.length→NSt X q ord→At X n (layA 54 n bs)→QJ Tryd.prog 57 [.ptr q 0 0,lsl n bs] X (TmQ X q n ord bs)
 |0,bs,h=>(Nat.not_lt_zero _ h).elim
 |N+1,bs,h=>fun hp X q n ord h1 h2 h3 h4 h5=>Qkj (QcW N) bs h hp X q n ord h1 h2 h3 h4 h5
end Go.Proofs.YticgcpebdldbgaaDoor.Ab
set_option maxRecDepth 4000
namespace Go.Proofs.YticgcpebdldbgaaDoor.Ab
open Go.Proofs
theorem QjS {X σ:Type} (g:σ→X→X×σ) (s:σ) {l:List X} {k:Nat} (h:k<l.length) :
  (Xl g s (l.take (k+1))).1=(Xl g s (l.take k)).1++[(g (Xl g s (l.take k)).2 l[k]).1]∧(Xl g s (l.take (k+1))).2=(g (Xl g s (l.take k)).2 l[k]).2:=by
 rw [List.take_succ_eq_append_getElem h,Qc6]
 exact ⟨by simp [Xl],by simp [Xl]⟩
def gG (s:List Int) (g:G):G×List Int:=(⟨g.op,g.name,(Xt gNum s g.args).1⟩,(Xt gNum s g.args).2)
def ndG:List G→Nat
 |[]=>0
 |g::l=>ndsL g.args+ndG l
theorem Qfx:∀ a b:List G,ndG (a++b)=ndG a+ndG b
 |[],b=>by simp [ndG]
 |t::a,b=>by rw [List.cons_append,ndG,ndG,Qfx a b];omega
theorem Qhi (l:List G) {j:Nat} (h:j<l.length):ndG (l.take j)+ndsL l[j].args≤ndG l:=by
 have:=congrArg ndG (List.take_append_drop j l)
 rw [Qfx,List.drop_eq_getElem_cons h,ndG] at this
 omega
theorem QaH:∀ (s:List Int) (l:List G),(Xl gG s l).2.length≤s.length+ndG l
 |s,[]=>by simp [Xl]
 |s,g::l=>by
  have h1:=Qcg s g.args
  have h2:=QaH (gG s g).2 l
  simp only [Xl,ndG]
  show _≤_
  have h3:(gG s g).2=(Xt gNum s g.args).2:=rfl
  rw [h3] at h2 ⊢
  omega
theorem Ye:∀ (s:List Int) (l:List G),gsz (Xl gG s l).1=gsz l
 |s,[]=>rfl
 |s,g::l=>by
  simp only [Xl,gsz,Ye _ l]
  rw [show (gG s g).1.args=(Xt gNum s g.args).1 from rfl,Yy]
def CurG (ord:List Int) (bs:List G) (j:Nat):List G:=(Xl gG ord (bs.take j)).1++bs.drop j
theorem Qff (ord:List Int) {bs:List G} {j:Nat} (hj:j<bs.length):CurG ord bs j=(Xl gG ord (bs.take j)).1++bs[j]::bs.drop (j+1) ∧
  CurG ord bs (j+1)=(Xl gG ord (bs.take j)).1++(gG (Xl gG ord (bs.take j)).2 bs[j]).1::bs.drop (j+1)∧(Xl gG ord (bs.take (j+1))).2=(gG (Xl gG ord (bs.take j)).2 bs[j]).2:=by
 obtain ⟨h1,h2⟩:=QjS gG ord hj
 refine ⟨by rw [CurG,List.drop_eq_getElem_cons hj],?_,h2⟩
 rw [CurG,h1,List.append_assoc];rfl
theorem Qgc (tt:TypeId):∀ (n:Nat) (l:List G) (g:G) (m:List G),layG tt n (l++g::m)=layG tt n l++(.dead::(layA tt (n+gsz l+1) g.args++(.dead::layG tt (n+gsz l+szs g.args+2) m)))
 |n,[],g,m=>by simp [layG,gsz]
 |n,a::l,g,m=>by
  rw [List.cons_append,layG,layG,Qgc tt _ l g m,gsz]
  rw [show n+szs a.args+2+gsz l=n+(szs a.args+2+gsz l) by omega]
  simp only [Qrr,List.append_assoc]
theorem Qlv (vw:Nat→G→AV):∀ (n:Nat) (l:List G) {j:Nat} (h:j<l.length),(lvG vw n l)[j]? = some (vw (n+gsz (l.take j)+1) l[j])
 |n,g::l,0,h=>by simp [lvG,gsz]
 |n,g::l,j+1,h=>by
  rw [lvG,List.getElem?_cons_succ,Qlv vw _ l (by simpa using h),List.take_succ_cons,gsz,List.getElem_cons_succ]
  rw [show n+szs g.args+2+gsz (l.take j)=n+(szs g.args+2+gsz (l.take j)) by omega]
theorem At.keep {X Y:AH} {n:Nat} {L:AH} (h:At X n L) (hk:∀ i,n≤i→i<n+L.length→Y[i]? = X[i]?):At Y n L:=fun j b hb hl=>by
 rw [hk _ (by omega) (by have:=Qt hb;omega)];exact h j b hb hl
theorem at_g {X:AH} {tt:TypeId} {n:Nat} {l m:List G} {g:G} (h:At X n (layG tt n (l++g::m))):At X (n+gsz l+1) (layA tt (n+gsz l+1) g.args):=by
 rw [Qgc] at h
 have h1:=h.right (m:=n+gsz l) (by rw [QN])
 exact (At.right (L:=[.dead]) h1 rfl).left
theorem QkG {X Y:AH} {tt:TypeId} {n:Nat} {l m:List G} {g g':G} (h:At X n (layG tt n (l++g::m))) (hs:szs g'.args=szs g.args) (hg:At Y (n+gsz l+1) (layA tt (n+gsz l+1) g'.args))
  (hout:∀ i,n≤i→i<n+gsz (l++g::m)→¬ (n+gsz l+1≤i∧i<n+gsz l+1+szs g.args)→Y[i]? = X[i]?):At Y n (layG tt n (l++g'::m)):=by
 have hz:gsz (l++g::m)=gsz l+(szs g.args+2+gsz m):=by rw [Y9,gsz]
 rw [Qgc] at h ⊢
 have h1:=h.right (m:=n+gsz l) (by rw [QN])
 have h0:At X (n+gsz l+1) (layA tt (n+gsz l+1) g.args++(.dead::layG tt (n+gsz l+szs g.args+2) m)):=At.right (L:=[.dead]) h1 rfl
 have h2:=h0.right (m:=n+gsz l+1+szs g.args) (by rw [XZ])
 have h3:At X (n+gsz l+1+szs g.args+1) (layG tt (n+gsz l+szs g.args+2) m):=At.right (L:=[.dead]) (M:=layG tt (n+gsz l+szs g.args+2) m) h2 rfl
 refine At.both (h.left.keep fun i h1 h2=>hout i h1 (by rw [QN] at h2;omega) (by rw [QN] at h2;omega)) ?_
 rw [QN]
 refine At.cons (fun e=>by cases e) (At.both hg ?_)
 rw [XZ,hs]
 refine At.cons (fun e=>by cases e) (h3.keep fun i h1 h2=>hout i (by omega) (by rw [QN] at h2;omega) (by omega))
def GnQ (X:AH) (q n:Nat) (ord:List Int) (l:List G) (o:AOut) (h':AH):Prop:=o = .ret (.tup [])∧NumP X h' q n (gsz l)∧NSt h' q (Xl gG ord l).2∧At h' n (layG 54 n (Xl gG ord l).1)
theorem QeQ (l:List G) (own:Option Nat) (hps:∀ g∈l,pss g.args) (X0:AH) (q n:Nat) (ord:List Int) (hbl:l.length≤1000000000) (hb:ord.length+ndG l≤1000000000) (hq:n+gsz l≤q) (hqx:q+1<X0.length) (hS0:NSt X0 q ord) (hA0:At X0 n (layG 54 n l)) :
  QJ Tryd.prog 30 [.ptr q 0 0,.sl 3 (lvG gv n l) own] X0 (GnQ X0 q n ord l):=by
 have hlv:=Yn gv n l
 refine Qe Tryd.func30 rfl Tryd.call30 Tryd.ntmps30 (congrArg Array.toList Tryd.results30) (by simp) ?_
 repeat (first|(((with_reducible refine Qa fun K E hK hE=>?_));simp -implicitDefEqProofs only [Qc,Qd,OpW,aop,undef,AS.ev,Qq,↓reduceIte,Nat.reduceLT,aLen,goInt,un32,hlv])|(with_reducible refine Qj ?_)|((with_reducible refine hK _ ?_);clear hK))
 obtain ⟨I,hI⟩:∃ I:Nat→AS→Prop,I=fun m' s=>∃ (j:Nat),m'=l.length - j∧j≤l.length∧NumP X0 s.h q n (gsz l)∧NSt s.h q (Xl gG ord (l.take j)).2∧At s.h n (layG 54 n (CurG ord l j)) ∧
  s.tm 0 = .ptr q 0 0∧s.tm 6 = .sl 3 (lvG gv n l) own∧s.tm 7 = .i l.length∧s.tm 8 = .i j:=⟨_,rfl⟩;refine QO I ?_ (m:=l.length) ?_
 ·intro m' s hs;rw [hI] at hs;obtain ⟨tm,hp⟩:=s;dsimp only at hs;obtain ⟨j,rfl,hj,hP,hS,hA,t0,t6,t7,t8⟩:=hs
  by_cases hlt:j<l.length
  ·have z1:(((j:Nat):Int)<((l.length:Nat):Int)):=by omega
   obtain ⟨ec,ec',eo⟩:=Qff ord hlt
   have hpl:=hP.long
   generalize hX:hp=X at *
   generalize hc1:(Xl gG ord (l.take j)).1=c1 at *
   have hc1s:gsz c1=gsz (l.take j):=by rw [← hc1,Ye]
   generalize hord:(Xl gG ord (l.take j)).2=ordj at *
   have hol:ordj.length+ndsL l[j].args≤1000000000:=by
    have h1:=QaH ord (l.take j)
    have h2:=Qhi l hlt
    rw [hord] at h1;omega
   have hszu:gsz (l.take j)+(szs l[j].args+2+gsz (l.drop (j+1)))=gsz l:=by
    have:=congrArg gsz (List.take_append_drop j l)
    rw [Y9,List.drop_eq_getElem_cons hlt,gsz] at this
    exact this
   have hat:(lvG gv n l)[j]? = some (gv (n+gsz c1+1) l[j]):=by rw [Qlv _ _ _ hlt,hc1s]
   have e1:(gv (n+gsz c1+1) l[j]).cells=[.i l[j].op,.v (.string l[j].name),lsl (n+gsz c1+1) l[j].args]:=rfl
   have e2:(gv (n+gsz c1+1) l[j]).isAgg=true:=rfl
   have wj:IntKind.i64.wrap (((j:Nat):Int)+1)=((j+1:Nat):Int):=Xk (by omega)
   have hsub:At X (n+gsz c1+1) (layA 54 (n+gsz c1+1) l[j].args):=at_g (by rw [← ec];exact hA)
   have cI:∀ c:AB,QJ Tryd.prog 57 [.ptr q 0 0,lsl (n+gsz c1+1) l[j].args] (X++[c]) fun o h'=>o = .ret (.tup [])∧∃ Y:{Y:AH // TmQ (X++[c]) q (n+gsz c1+1) ordj l[j].args (.ret (.tup [])) Y},h'=Y.1:=fun c =>
    (QcW (szs l[j].args+1) l[j].args (by omega) (hps _ (List.getElem_mem hlt)) (X++[c]) q (n+gsz c1+1) ordj hol (by omega) (by rw [List.length_append];omega) (hS.app _) (hsub.app _)).mono fun o h' q=>by
      obtain ⟨rfl,q2⟩:=q
      exact ⟨rfl,⟨h',rfl,q2⟩,rfl⟩
   repeat (first|((first|(with_reducible (first|refine Qa fun K E hK hE=>?_|refine Qk fun K E hK hE=>?_|refine FunW.retE (FunW.call (cI _)) fun Y=>?_)));simp -implicitDefEqProofs only [Qc,Qd,OpW,QE,aop,undef,AS.ev,AV.Qp8,↓reduceIte,Qg,Qw,Qv,QB,Qp,QK,aBin,ei32,ti50,ti52,ZG,zi52,t0,t6,t7,t8,z1,hat,hlv,e1,e2,QR,seval])|(with_reducible (first|refine Qf fun K hK=>?_|refine Qj ?_|refine Qm ?_|refine Qb ?_|refine Qo ?_))|((with_reducible refine hK _ ?_);clear hK)|(refine Qh rfl ?_;simp only [↓reduceIte]))
   obtain ⟨Y,hY⟩:=Y
   obtain ⟨_,y1,y2,y3⟩:=hY
   repeat ((((with_reducible refine Qa fun K E hK hE=>?_));simp -implicitDefEqProofs only [Qc,Qd,OpW,QE,aop,undef,XL,AS.ev,Qq,AV.Qp8,↓reduceIte,Qg,Qw,Qv,QB,Qp,QK,aBin,aLen,goInt,ti0,zi0,ti3,zi3,un3,ti32,ei32,ai32,zi32,un32,ti50,ei50,ai50,zi50,un50,ti52,X4,Qb8,ZG,zi52,sp52,ti54,Xy,Xz,Yj,Yk,zi54,sp54,ti84,Qfm,QdW,zi84,sp84,QoF,QoN,QoI,QrM,Int.sub_zero,Zg,Qs,t8,wj,seval]))
   have hP2:NumP X Y q (n+gsz c1+1) (szs l[j].args):=⟨by have:=y1.long;rw [List.length_append] at this;omega,fun i hi hn=>by rw [y1.out i hi hn,List.getElem?_append_left (by omega)]⟩
   refine Xi.mk (m':=l.length - (j+1)) (by omega) ?_
   rw [hI]
   refine ⟨j+1,rfl,by omega,hP.trans hP2 (by omega) (by omega),by rw [eo];exact y2,?_,t0,t6,t7,by rw [wj];rfl⟩
   rw [ec']
   refine QkG (g:=l[j]) (by rw [← ec];exact hA) (Yy _ _ _) y3 fun i h1 h2 h3=>hP2.out i ?_ h3
   rw [Y9,gsz] at h2;omega
  ·have hjl:j=l.length:=by omega
   have z1:¬ (((j:Nat):Int)<((l.length:Nat):Int)):=by omega
   repeat (first|(((with_reducible refine Qa fun K E hK hE=>?_));simp -implicitDefEqProofs only [Qc,Qd,OpW,aop,AS.ev,Nat.reduceLT,aBin,t7,t8,z1])|(with_reducible (first|refine Qf fun K hK=>?_|refine QG ?_|refine QD ?_|refine QC ?_))|((with_reducible refine hK _ ?_);clear hK)|(refine Qh rfl ?_;simp only [↓reduceIte,Qq3]))
   simp -implicitDefEqProofs only [Qq1,Qq5,List.mapM_nil,Option.pure_def,Qq1,QF,Qn,Qq9]
   subst hjl
   have hcur:CurG ord l l.length=(Xl gG ord l).1:=by rw [CurG,List.take_length,List.drop_length,List.append_nil]
   rw [List.take_length] at hS
   rw [hcur] at hA
   exact .inr ⟨rfl,hP,hS,hA⟩
 ·rw [hI]
  have hcur:CurG ord l 0=l:=by simp [CurG,Xl]
  exact ⟨0,rfl,Nat.zero_le _,NumP.refl _ _ _ _,by simpa [Xl] using hS0,by rw [hcur];exact hA0,rfl,rfl,rfl,rfl⟩
theorem QeP (l:List G) (own:Option Nat) (hps:∀ g∈l,pss g.args) (X0:AH) (q n:Nat) (ord:List Int) (hbl:l.length≤1000000000) (hb:ord.length+ndG l≤1000000000) (hq:n+gsz l≤q) (hqx:q+1<X0.length) (hS0:NSt X0 q ord) (hA0:At X0 n (layG 54 n l)) :
  QJ Tryd.prog 42 [.ptr q 0 0,.sl 2 (lvG av n l) own] X0 (GnQ X0 q n ord l):=by
 have hlv:=Yn av n l
 refine Qe Tryd.func42 rfl Tryd.call42 Tryd.ntmps42 (congrArg Array.toList Tryd.results42) (by simp) ?_
 repeat (first|(((with_reducible refine Qa fun K E hK hE=>?_));simp -implicitDefEqProofs only [Qc,Qd,OpW,aop,undef,AS.ev,Qq,↓reduceIte,Nat.reduceLT,aLen,goInt,un31,hlv])|(with_reducible refine Qj ?_)|((with_reducible refine hK _ ?_);clear hK))
 obtain ⟨I,hI⟩:∃ I:Nat→AS→Prop,I=fun m' s=>∃ (j:Nat),m'=l.length - j∧j≤l.length∧NumP X0 s.h q n (gsz l)∧NSt s.h q (Xl gG ord (l.take j)).2∧At s.h n (layG 54 n (CurG ord l j)) ∧
  s.tm 0 = .ptr q 0 0∧s.tm 6 = .sl 2 (lvG av n l) own∧s.tm 7 = .i l.length∧s.tm 8 = .i j:=⟨_,rfl⟩;refine QO I ?_ (m:=l.length) ?_
 ·intro m' s hs;rw [hI] at hs;obtain ⟨tm,hp⟩:=s;dsimp only at hs;obtain ⟨j,rfl,hj,hP,hS,hA,t0,t6,t7,t8⟩:=hs
  by_cases hlt:j<l.length
  ·have z1:(((j:Nat):Int)<((l.length:Nat):Int)):=by omega
   obtain ⟨ec,ec',eo⟩:=Qff ord hlt
   have hpl:=hP.long
   generalize hX:hp=X at *
   generalize hc1:(Xl gG ord (l.take j)).1=c1 at *
   have hc1s:gsz c1=gsz (l.take j):=by rw [← hc1,Ye]
   generalize hord:(Xl gG ord (l.take j)).2=ordj at *
   have hol:ordj.length+ndsL l[j].args≤1000000000:=by
    have h1:=QaH ord (l.take j)
    have h2:=Qhi l hlt
    rw [hord] at h1;omega
   have hszu:gsz (l.take j)+(szs l[j].args+2+gsz (l.drop (j+1)))=gsz l:=by
    have:=congrArg gsz (List.take_append_drop j l)
    rw [Y9,List.drop_eq_getElem_cons hlt,gsz] at this
    exact this
   have hat:(lvG av n l)[j]? = some (av (n+gsz c1+1) l[j]):=by rw [Qlv _ _ _ hlt,hc1s]
   have e1:(av (n+gsz c1+1) l[j]).cells=[.v (.string l[j].name),lsl (n+gsz c1+1) l[j].args]:=rfl
   have e2:(av (n+gsz c1+1) l[j]).isAgg=true:=rfl
   have wj:IntKind.i64.wrap (((j:Nat):Int)+1)=((j+1:Nat):Int):=Xk (by omega)
   have hsub:At X (n+gsz c1+1) (layA 54 (n+gsz c1+1) l[j].args):=at_g (by rw [← ec];exact hA)
   have cI:∀ c:AB,QJ Tryd.prog 57 [.ptr q 0 0,lsl (n+gsz c1+1) l[j].args] (X++[c]) fun o h'=>o = .ret (.tup [])∧∃ Y:{Y:AH // TmQ (X++[c]) q (n+gsz c1+1) ordj l[j].args (.ret (.tup [])) Y},h'=Y.1:=fun c =>
    (QcW (szs l[j].args+1) l[j].args (by omega) (hps _ (List.getElem_mem hlt)) (X++[c]) q (n+gsz c1+1) ordj hol (by omega) (by rw [List.length_append];omega) (hS.app _) (hsub.app _)).mono fun o h' q=>by
      obtain ⟨rfl,q2⟩:=q
      exact ⟨rfl,⟨h',rfl,q2⟩,rfl⟩
   repeat (first|((first|(with_reducible (first|refine Qa fun K E hK hE=>?_|refine Qk fun K E hK hE=>?_|refine FunW.retE (FunW.call (cI _)) fun Y=>?_)));simp -implicitDefEqProofs only [Qc,Qd,OpW,QE,aop,undef,AS.ev,AV.Qp8,↓reduceIte,Qg,Qw,Qv,QB,Qp,QK,aBin,ei31,ti50,ti72,Zs,zi72,t0,t6,t7,t8,z1,hat,hlv,e1,e2,QR,seval])|(with_reducible (first|refine Qf fun K hK=>?_|refine Qj ?_|refine Qm ?_|refine Qb ?_|refine Qo ?_))|((with_reducible refine hK _ ?_);clear hK)|(refine Qh rfl ?_;simp only [↓reduceIte]))
   obtain ⟨Y,hY⟩:=Y
   obtain ⟨_,y1,y2,y3⟩:=hY
   repeat ((((with_reducible refine Qa fun K E hK hE=>?_));simp -implicitDefEqProofs only [Qc,Qd,OpW,QE,aop,undef,XL,AS.ev,Qq,AV.Qp8,↓reduceIte,Qg,Qw,Qv,QB,Qp,QK,aBin,aLen,goInt,ti0,zi0,ti3,zi3,un3,ti31,ei31,ai31,zi31,un31,ti50,ei50,ai50,zi50,un50,ti54,Xy,Xz,Yj,Yk,zi54,sp54,ti72,Qc2,Zs,zi72,sp72,ti84,Qfm,QdW,zi84,sp84,QoF,QoN,QoI,QrM,Int.sub_zero,Zg,Qs,t8,wj,seval]))
   have hP2:NumP X Y q (n+gsz c1+1) (szs l[j].args):=⟨by have:=y1.long;rw [List.length_append] at this;omega,fun i hi hn=>by rw [y1.out i hi hn,List.getElem?_append_left (by omega)]⟩
   refine Xi.mk (m':=l.length - (j+1)) (by omega) ?_
   rw [hI]
   refine ⟨j+1,rfl,by omega,hP.trans hP2 (by omega) (by omega),by rw [eo];exact y2,?_,t0,t6,t7,by rw [wj];rfl⟩
   rw [ec']
   refine QkG (g:=l[j]) (by rw [← ec];exact hA) (Yy _ _ _) y3 fun i h1 h2 h3=>hP2.out i ?_ h3
   rw [Y9,gsz] at h2;omega
  ·have hjl:j=l.length:=by omega
   have z1:¬ (((j:Nat):Int)<((l.length:Nat):Int)):=by omega
   repeat (first|(((with_reducible refine Qa fun K E hK hE=>?_));simp -implicitDefEqProofs only [Qc,Qd,OpW,aop,AS.ev,Nat.reduceLT,aBin,t7,t8,z1])|(with_reducible (first|refine Qf fun K hK=>?_|refine QG ?_|refine QD ?_|refine QC ?_))|((with_reducible refine hK _ ?_);clear hK)|(refine Qh rfl ?_;simp only [↓reduceIte,Qq3]))
   simp -implicitDefEqProofs only [Qq1,Qq5,List.mapM_nil,Option.pure_def,Qq1,QF,Qn,Qq9]
   subst hjl
   have hcur:CurG ord l l.length=(Xl gG ord l).1:=by rw [CurG,List.take_length,List.drop_length,List.append_nil]
   rw [List.take_length] at hS
   rw [hcur] at hA
   exact .inr ⟨rfl,hP,hS,hA⟩
 ·rw [hI]
  have hcur:CurG ord l 0=l:=by simp [CurG,Xl]
  exact ⟨0,rfl,Nat.zero_le _,NumP.refl _ _ _ _,by simpa [Xl] using hS0,by rw [hcur];exact hA0,rfl,rfl,rfl,rfl⟩
theorem QpA {c:Cx} (hst:St c) {id ty n:Nat} {xs xs':List AV} {j:Nat} {v w:AV} (hb:c.h[id]? = some (.cells ty n xs)) (hj:(flat xs)[j]? = some v) (hf:flat xs'=(flat xs).set j w) (hw:Wk v w) (hc:∀ x∈xs',x.cells.length=n) :
  ∃ c2,Ev c c2∧St c2∧c2.h=c.h.set id (AB.cells ty n xs')∧c2.w=c.w:=by
 obtain ⟨B,cur,hρ,hcur,h3,h4⟩:=hst.blocks id _ hb
 have hev2:=Ev.turn (b':=.cells ty n xs') hst hb rfl hρ (w:=c.w) rfl rfl rfl rfl (fun _ _=>rfl) (.inr ⟨_,rfl,rfl,fun _ cur _ h=>⟨cur,h,rfl⟩⟩)
 have hst2:=St.turn (b':=.cells ty n xs') hst hb rfl hρ (w:=c.w) (fun _ _=>rfl) hev2 ⟨B,cur,hρ,hcur,hc,by
  intro i a' hi
  rw [hf] at hi
  by_cases e:j=i
  ·subst e
   rw [List.getElem?_set_self (Qt hj)] at hi
   cases hi
   obtain ⟨u,g1,g2,g3⟩:=h4 j _ hj
   exact ⟨_,g1,g2,(hw _ _ g3).ev hst hev2⟩
  ·rw [List.getElem?_set_ne e] at hi
   obtain ⟨u,g1,g2,g3⟩:=h4 i _ hi
   exact ⟨u,g1,g2,g3.ev hst hev2⟩⟩
 exact ⟨_,hev2,hst2,rfl,rfl⟩
theorem QaZ {P:Program} {N:Nat} {code:Code} {Q:AExit→AS→Prop} {tm:Nat→AV} {h:AH} (id ty n:Nat) (xs xs':List AV) (j:Nat) {v w:AV} (hw:Wk v w) (hb:h[id]? = some (.cells ty n xs))
  (hj:(flat xs)[j]? = some v) (hf:flat xs'=(flat xs).set j w) (hc:∀ x∈xs',x.cells.length=n)
  (H:XF P N code Q ⟨tm,h.set id (AB.cells ty n xs')⟩):XF P N code Q ⟨tm,h⟩:=by
 intro F m base c a hF hst hr R hR
 have hh:c.h=h:=hr.h
 subst hh
 obtain ⟨c2,hev,hst2,hh2,hw2⟩:=QpA hst hb hj hf hw hc
 rw [← hw2]
 exact H F m base c2 a hF hst2 ⟨hh2,hr.size,Nat.le_trans hr.above hev.size,hr.defers.ev hev,RoundOk.ev hev hr.round,fun t=>(hr.tm t).ev hst hev⟩ R fun e' s' c' a' ex hq h1 h2 h3 h4=>hR e' s' c' a' ex hq (Ev.trans hst hev h1) h2 h3 h4
def Pz.to (P:Pz) (n:Nat):Pz:=⟨P.all,P.i,P.j,n⟩
def pN (P:Pz) (s:PS) (own:Option Nat):AB:=.cells 66 4 [.agg [.sl 3 (tks P.all) none,.i ((P.all.length - s.toks.length:Nat):Int),.sl 1 (strs s.names) own,.mp P.j]]
structure PIn (P:Pz) (X:AH) (s:PS) (own:Option Nat) (m:List (ByteArray×AV)):Prop where
 i:X[P.i]? = some (pN P s own)
 j:X[P.j]? = some (.map (smap m))
theorem PIn.ok {P:Pz} {X:AH} {s:PS} {own:Option Nat} {m:List (ByteArray×AV)} (H:PIn P X s own m) (L:AH) (x:AB):(P.to X.length).ok (X++(x::L)):=by
 have h1:=Qt H.i
 have h2:=Qt H.j
 refine ⟨by rw [List.length_append];simp only [Pz.to];omega,by rw [List.length_append];simp only [Pz.to];omega,by rw [List.length_append,List.length_cons];simp only [Pz.to];omega,?_,?_,?_⟩
 ·intro e
  simp only [Pz.to] at e
  have h3:=H.i
  rw [e,H.j] at h3
  cases h3
 ·simp only [Pz.to];omega
 ·simp only [Pz.to];omega
theorem QjD {X:AH} {P:Pz} {s:PS} {own:Option Nat} {m:List (ByteArray×AV)} (H:PIn P X s own m):QJ Tryd.prog 33 [.ptr P.i 0 0] X fun o h'=>o = .ret (.tup [])∧h'=ph (X++[.dead]) (P.to X.length) ⟨s.toks,[]⟩:=by
 have hi:=H.i
 have hj:=H.j
 have h1:=Qt hi
 have h2:=Qt hj
 have h3:P.i≠P.j:=(H.ok [] .dead).ij
 rw [pN] at hi
 have a1:∀ (y:AB),(X.set P.i y)[P.i]? = some y:=fun y=>List.getElem?_set_self (by omega)
 refine Qe Tryd.func33 rfl Tryd.call33 Tryd.ntmps33 (congrArg Array.toList Tryd.results33) (by simp) ?_
 iterate 3 (try (first|(((with_reducible refine Qa fun K E hK hE=>?_));simp -implicitDefEqProofs only [Qc,Qd,OpW,aop,undef,AS.ev,Qq,AV.Qp8,↓reduceIte,Qg,QB,Qp,ti46,YG,Qs,hi,seval])|(with_reducible refine Qf fun K hK=>?_)|((with_reducible refine hK _ ?_);clear hK)))
 refine Yr P.i 66 4 1 (.grow 9 1 0) (.inr ⟨_,rfl⟩) [.agg [.sl 3 (tks P.all) none,.i ((P.all.length - s.toks.length:Nat):Int),.v (.slice none 0 0),.mp P.j]] [.agg [.sl 3 (tks P.all) none,.i ((P.all.length - s.toks.length:Nat):Int),.sl 1 [] (some X.length),.mp P.j]] 2 (a1 _) rfl (by simp [flat,AV.cells]) (by simp [AV.cells]) ?_
 rw [List.set_append_left _ _ (by rw [List.length_set];omega),List.set_set]
 generalize hB:AB.cells 66 4 [.agg [.sl 3 (tks P.all) none,.i ((P.all.length - s.toks.length:Nat):Int),.sl 1 [] (some X.length),.mp P.j]]=B at *
 have b1:(X.set P.i B++[.grow 9 1 0])[P.i]? = some (AB.cells 66 4 [.agg [.sl 3 (tks P.all) none,.i ((P.all.length - s.toks.length:Nat):Int),.sl 1 [] (some X.length),.mp P.j]]):=by rw [List.getElem?_append_left (by rw [List.length_set];omega),a1,hB]
 have b2:(X.set P.i B++[.grow 9 1 0])[P.j]? = some (.map (smap m)):=by rw [List.getElem?_append_left (by rw [List.length_set];omega),List.getElem?_set_ne h3];exact hj
 have nn:notNil Tryd.prog 64 (X.set P.i B++[.grow 9 1 0]) (.mp P.j) (.map none)=true:=by
  have hu:Tryd.prog.underlying 64=some (.map 9 3):=by kernel_rfl
  simp only [notNil,hu,b2]
 repeat (first|((first|(with_reducible (first|refine Qa fun K E hK hE=>?_|refine Qk fun K E hK hE=>?_)));simp -implicitDefEqProofs only [Qc,Qd,OpW,aop,undef,AS.ev,Qq,↓reduceIte,Qg,Qw,Qv,aBin,ti64,un64,YH,QgF,Qs,b1,b2,nn,seval])|(with_reducible (first|refine Qm ?_|refine Qb ?_))|((with_reducible refine hK _ ?_);clear hK)|(refine Qh rfl ?_;simp only [↓reduceIte,Qq3]))
 simp -implicitDefEqProofs only [Qq1,Qq5,List.mapM_nil,Option.pure_def,Qq1,QF,Qn,Qq9]
 refine .inr ⟨rfl,?_⟩
 rw [List.set_append_left _ _ (by rw [List.length_set];omega)]
 unfold ph
 rw [List.set_append_left _ _ (by simp only [Pz.to];omega),List.set_append_left _ _ (by simp only [Pz.to,List.length_set];omega),List.set_append_right _ _ (by simp only [Pz.to,List.length_set];omega),← hB]
 simp only [Pz.to,List.length_set,Nat.sub_self]
 rfl
theorem Qh0 {X:AH} {P:Pz} {s:PS} (hi:X[P.i]? = some (.cells 66 4 [.agg [.sl 3 (tks P.all) none,.i ((P.all.length - s.toks.length:Nat):Int),.v (.slice none 0 0),.v (.map none)]])) (hj:P.j=X.length+1) :
  QJ Tryd.prog 33 [.ptr P.i 0 0] X fun o h'=>o = .ret (.tup [])∧h'=ph (X++[.dead,.dead]) (P.to X.length) ⟨s.toks,[]⟩:=by
 have h1:=Qt hi
 have a1:∀ (y:AB),(X.set P.i y)[P.i]? = some y:=fun y=>List.getElem?_set_self (by omega)
 have nM:pv Tryd.prog (do eqGuard .eql 64 (Operand.tmp 8) (Operand.const (Value.map none)) (.map none) (.map none);binOp .eql 64 (.map none) (.map none))=some (.bool true):=by kernel_rfl
 refine Qe Tryd.func33 rfl Tryd.call33 Tryd.ntmps33 (congrArg Array.toList Tryd.results33) (by simp) ?_
 iterate 3 (try (first|(((with_reducible refine Qa fun K E hK hE=>?_));simp -implicitDefEqProofs only [Qc,Qd,OpW,aop,undef,AS.ev,Qq,AV.Qp8,↓reduceIte,Qg,QB,Qp,ti46,YG,Qs,hi,seval])|(with_reducible refine Qf fun K hK=>?_)|((with_reducible refine hK _ ?_);clear hK)))
 refine Yr P.i 66 4 1 (.grow 9 1 0) (.inr ⟨_,rfl⟩) [.agg [.sl 3 (tks P.all) none,.i ((P.all.length - s.toks.length:Nat):Int),.v (.slice none 0 0),.v (.map none)]] [.agg [.sl 3 (tks P.all) none,.i ((P.all.length - s.toks.length:Nat):Int),.sl 1 [] (some X.length),.v (.map none)]] 2 (a1 _) rfl (by simp [flat,AV.cells]) (by simp [AV.cells]) ?_
 rw [List.set_append_left _ _ (by rw [List.length_set];omega),List.set_set]
 have b1:∀ (B:AB) (L:AH),(X.set P.i B++L)[P.i]? = some B:=fun B L=>by rw [List.getElem?_append_left (by rw [List.length_set];omega),a1]
 have b2:∀ (B C:AB) (L:AH),(X.set P.i B++L).set P.i C=X.set P.i C++L:=fun B C L=>by rw [List.set_append_left _ _ (by rw [List.length_set];omega),List.set_set]
 have b3:∀ (B:AB) (L:AH) (k:Nat),(X.set P.i B++L)[X.length+k]? = L[k]? := fun B L k=>by rw [List.getElem?_append_right (by rw [List.length_set];omega),List.length_set];congr 1;omega
 have b4:∀ (B C:AB) (L:AH) (k:Nat),(X.set P.i B++L).set (X.length+k) C=X.set P.i B++L.set k C:=fun B C L k=>by rw [List.set_append_right _ _ (by rw [List.length_set];omega),List.length_set];congr 2;omega
 repeat (first|((first|(with_reducible (first|refine Qa fun K E hK hE=>?_|refine Qk fun K E hK hE=>?_)));simp -implicitDefEqProofs only [Qc,Qd,OpW,aop,undef,AS.ev,Qq,AV.Qp8,↓reduceIte,Qg,Qw,Qv,QB,Qp,aBin,ti64,un64,YH,QgF,Qs,b1,b2,b3,b4,nM,List.length_set,QrQ,seval])|(with_reducible refine Qb ?_)|((with_reducible refine hK _ ?_);clear hK)|(refine Qh rfl ?_;simp only [↓reduceIte]))
 simp -implicitDefEqProofs only [Qq1,Qq5,List.mapM_nil,Option.pure_def,Qq1,QF,Qn,Qq9]
 refine .inr ⟨rfl,?_⟩
 unfold ph
 rw [List.set_append_left _ _ (by simp only [Pz.to];omega),List.set_append_right _ _ (by simp only [Pz.to,List.length_set];omega),List.set_append_right _ _ (by simp only [Pz.to,List.length_set];omega)]
 simp only [Pz.to,List.length_set,Nat.sub_self,hj,Nat.add_sub_cancel_left]
 rfl
end Go.Proofs.YticgcpebdldbgaaDoor.Ab
set_option maxRecDepth 4000
namespace Go.Proofs.YticgcpebdldbgaaDoor.Ab
open Go.Proofs
section
variable {P:Pz} {s:PS} {own:Option Nat} (hW:Wst P.all s) {X:AH} (hX:X[P.i]? = some (pN P s own))
include hW hX
theorem QnT (L:AH):(X++L)[P.i]? = some (pN P s own):=by have _u:=hW;rw [List.getElem?_append_left (Qt hX)];exact hX
theorem QjY:QJ Tryd.prog 18 [.ptr P.i 0 0] X fun o h'=>o = .ret s.tk.av∧h'=X:=by
 obtain ⟨h1,h2⟩:=Qmf hW
 have hi:=QnT hW hX
 have hi0:=hX
 rw [pN] at hi0
 simp only [pN] at hi
 have e1:=Tk.Qp9 s.tk
 have e2:=Tk.Qqa s.tk
 generalize P.all.length - s.toks.length=k at *
 refine Qe Tryd.func18 rfl Tryd.call18 Tryd.ntmps18 (congrArg Array.toList Tryd.results18) (by simp) ?_
 repeat (first|((first|(with_reducible refine Qa fun K E hK hE=>?_)|(refine Xj (id:=1) [(0,0),(1,0),(2,0),(3,0),(4,0),(5,0),(6,0),(7,0),(8,0),(9,0),(10,2)] mixed (by kernel_rfl) fun K hK=>?_));simp -implicitDefEqProofs only [Qc,Qd,OpW,aop,undef,AS.ev,Qq,AV.Qp8,↓reduceIte,Qg,Qw,Qv,QB,Qp,QK,ti3,ti37,ei37,ti60,zi60,QgY,Qfl,Qs,hi,h1,h2,Qbu,e1,e2,seval])|(with_reducible refine Ql ?_)|((with_reducible refine hK _ ?_);clear hK))
 simp -implicitDefEqProofs only [Qc,↓reduceIte,Qw,Qv,ti60,Qw,Qv,e1,e2,QF,Qn,Qr,Qq9,seval]
 exact Qi (htake _ _) (.keep (Qcx _ _)) ⟨rfl,rfl⟩
theorem QmO (hk:s.tk.kind=0):QJ Tryd.prog 27 [.ptr P.i 0 0] X fun o h'=>o = .ret (.tup [])∧h'=X:=by
 have cn:=QjY hW hX
 have hi0:=hX
 rw [pN] at hi0
 have e1:=Tk.Qp9 s.tk
 have e2:=Tk.Qqa s.tk
 have z1:(s.tk.kind != 0)=false:=by simpa using hk
 refine Qe Tryd.func27 rfl Tryd.call27 Tryd.ntmps27 (congrArg Array.toList Tryd.results27) (by simp) ?_
 repeat (first|((first|(with_reducible (first|refine Qa fun K E hK hE=>?_|refine FunW.ret (FunW.call cn) ?_)));simp -implicitDefEqProofs only [Qc,Qd,OpW,QE,aop,undef,AS.ev,Qq,AV.Qp8,↓reduceIte,Qg,Qw,Qv,QB,Qp,aBin,ti3,ti60,QQ,zi60,e1,e2,z1,seval])|(with_reducible refine Qm ?_)|((with_reducible refine hK _ ?_);clear hK)|(refine Qh rfl ?_;simp only [↓reduceIte,Qq3]))
 simp -implicitDefEqProofs only [Qq1,Qq5,List.mapM_nil,Option.pure_def,Qq1,QF,Qn,Qq9]
 exact Qi (htake _ _) (.keep (.tup _ (by simp))) ⟨rfl,rfl⟩
theorem Qob (hk:s.tk.kind≠0):QJ Tryd.prog 27 [.ptr P.i 0 0] X fun o h'=>o = .panic (Fl s.tk.pos 16)∧h'=X:=by
 have cn:=QjY hW hX
 have hi0:=hX
 rw [pN] at hi0
 have e1:=Tk.Qp9 s.tk
 have e2:=Tk.Qqa s.tk
 have z1:(s.tk.kind != 0)=true:=by simpa using hk
 have cf:=Yw s.tk 16
 refine Qe Tryd.func27 rfl Tryd.call27 Tryd.ntmps27 (congrArg Array.toList Tryd.results27) (by simp) ?_
 repeat (first|((first|(with_reducible (first|refine Qa fun K E hK hE=>?_|refine Qk fun K E hK hE=>?_|refine FunW.ret (FunW.call cn) ?_|refine FunW.pan (FunW.call (cf _ _)) ?_)));simp -implicitDefEqProofs only [Qc,Qd,OpW,QE,aop,undef,AS.ev,Qq,AV.Qp8,↓reduceIte,Qg,Qw,Qv,QB,Qp,aBin,ti3,ti60,QQ,zi60,e1,e2,z1,seval])|((with_reducible refine hK _ ?_);clear hK)|(refine Qh rfl ?_;simp only [↓reduceIte])|(with_reducible refine hE _ _ ?_))
 exact Qi (htake _ _) (.keep (Qbm _ _ _)) ⟨rfl,rfl⟩
theorem Ql8 (n m:Int) (hm:¬ m≤n):QJ Tryd.prog 19 [.ptr P.i 0 0,.i n,.i m] X fun o h'=>o = .ret (.tup [])∧h'=X:=by
 have _hu:=hW
 have _u:=hX
 have z1:¬ n≥m:=hm
 refine Qe Tryd.func19 rfl Tryd.call19 Tryd.ntmps19 (congrArg Array.toList Tryd.results19) (by simp) ?_
 repeat (first|(((with_reducible refine Qa fun K E hK hE=>?_));simp -implicitDefEqProofs only [Qc,Qd,OpW,aop,undef,AS.ev,Qq,↓reduceIte,aBin,hm,seval])|(with_reducible refine Qm ?_)|((with_reducible refine hK _ ?_);clear hK)|(refine Qh rfl ?_;simp only [↓reduceIte,Qq3]))
 simp -implicitDefEqProofs only [Qq1,Qq5,List.mapM_nil,Option.pure_def,Qq1,QF,Qn,Qq9]
 exact .inr ⟨rfl,rfl⟩
theorem Qns (n m:Int) (hm:m≤n):QJ Tryd.prog 19 [.ptr P.i 0 0,.i n,.i m] X fun o h'=>o = .panic (Fl s.tk.pos 6)∧h'=X:=by
 have z1:n≥m:=hm
 have hi0:=hX
 rw [pN] at hi0
 have cn:=QjY hW hX
 have cf:=Yw s.tk 6
 refine Qe Tryd.func19 rfl Tryd.call19 Tryd.ntmps19 (congrArg Array.toList Tryd.results19) (by simp) ?_
 repeat (first|((first|(with_reducible (first|refine Qa fun K E hK hE=>?_|refine Qk fun K E hK hE=>?_|refine FunW.ret (FunW.call cn) ?_|refine FunW.pan (FunW.call (cf _ _)) ?_)));simp -implicitDefEqProofs only [Qc,Qd,OpW,QE,aop,undef,AS.ev,Qq,↓reduceIte,aBin,hm,seval])|((with_reducible refine hK _ ?_);clear hK)|(refine Qh rfl ?_;simp only [↓reduceIte])|(with_reducible refine hE _ _ ?_))
 exact .inr ⟨rfl,rfl⟩
end
theorem Qgk (X:AH) (q n:Nat) (ord:List Int) (hS:NSt X q ord):QJ Tryd.prog 30 [.ptr q 0 0,.v (.slice none 0 0)] X (GnQ X q n ord []):=by
 have hn:=fun t'=>Qck Tryd.prog 32 t' 52 (by kernel_rfl)
 refine Qe Tryd.func30 rfl Tryd.call30 Tryd.ntmps30 (congrArg Array.toList Tryd.results30) (by simp) ?_
 repeat (first|(((with_reducible refine Qa fun K E hK hE=>?_));simp -implicitDefEqProofs only [Qc,Qd,OpW,aop,undef,AS.ev,Qq,↓reduceIte,Nat.reduceLT,aLen,goInt,hn])|(with_reducible refine Qj ?_)|((with_reducible refine hK _ ?_);clear hK))
 obtain ⟨I,hI⟩:∃ I:Nat→AS→Prop,I=fun m' s=>s.tm 7 = .i 0∧s.tm 8 = .i 0∧s.h=X:=⟨_,rfl⟩;refine QO I ?_ (m:=0) ?_
 ·intro m' s hs;rw [hI] at hs;obtain ⟨tm,hp⟩:=s;dsimp only at hs;obtain ⟨t9,t10,rfl⟩:=hs
  have z:¬ ((0:Int)<0):=by omega
  repeat (first|(((with_reducible refine Qa fun K E hK hE=>?_));simp -implicitDefEqProofs only [Qc,Qd,OpW,aop,AS.ev,Nat.reduceLT,aBin,t9,t10,z])|(with_reducible (first|refine Qf fun K hK=>?_|refine QG ?_|refine QD ?_|refine QC ?_))|((with_reducible refine hK _ ?_);clear hK)|(refine Qh rfl ?_;simp only [↓reduceIte,Qq3]))
  simp -implicitDefEqProofs only [Qq1,Qq5,List.mapM_nil,Option.pure_def,Qq1,QF,Qn,Qq9]
  exact .inr ⟨rfl,NumP.refl _ _ _ _,hS,At.nil _ _⟩
 ·rw [hI]
  exact ⟨rfl,rfl,rfl⟩
theorem Qgj (X:AH) (q n:Nat) (ord:List Int) (hS:NSt X q ord):QJ Tryd.prog 42 [.ptr q 0 0,.v (.slice none 0 0)] X (GnQ X q n ord []):=by
 have hn:=fun t'=>Qck Tryd.prog 31 t' 72 (by kernel_rfl)
 refine Qe Tryd.func42 rfl Tryd.call42 Tryd.ntmps42 (congrArg Array.toList Tryd.results42) (by simp) ?_
 repeat (first|(((with_reducible refine Qa fun K E hK hE=>?_));simp -implicitDefEqProofs only [Qc,Qd,OpW,aop,undef,AS.ev,Qq,↓reduceIte,Nat.reduceLT,aLen,goInt,hn])|(with_reducible refine Qj ?_)|((with_reducible refine hK _ ?_);clear hK))
 obtain ⟨I,hI⟩:∃ I:Nat→AS→Prop,I=fun m' s=>s.tm 7 = .i 0∧s.tm 8 = .i 0∧s.h=X:=⟨_,rfl⟩;refine QO I ?_ (m:=0) ?_
 ·intro m' s hs;rw [hI] at hs;obtain ⟨tm,hp⟩:=s;dsimp only at hs;obtain ⟨t9,t10,rfl⟩:=hs
  have z:¬ ((0:Int)<0):=by omega
  repeat (first|(((with_reducible refine Qa fun K E hK hE=>?_));simp -implicitDefEqProofs only [Qc,Qd,OpW,aop,AS.ev,Nat.reduceLT,aBin,t9,t10,z])|(with_reducible (first|refine Qf fun K hK=>?_|refine QG ?_|refine QD ?_|refine QC ?_))|((with_reducible refine hK _ ?_);clear hK)|(refine Qh rfl ?_;simp only [↓reduceIte,Qq3]))
  simp -implicitDefEqProofs only [Qq1,Qq5,List.mapM_nil,Option.pure_def,Qq1,QF,Qn,Qq9]
  exact .inr ⟨rfl,NumP.refl _ _ _ _,hS,At.nil _ _⟩
 ·rw [hI]
  exact ⟨rfl,rfl,rfl⟩
def sG (vw:Nat→G→AV) (w n:Nat) (l:List G):AV:=if l.isEmpty then .v (.slice none 0 0) else .sl w (lvG vw n l) none
theorem Qcu (vw:Nat→G→AV) (w n:Nat) (l:List G):(sG vw w n l).cell1=true:=by unfold sG;split <;> rfl
theorem QdE (vw:Nat→G→AV) (w n:Nat) (l:List G):(sG vw w n l).cells=[sG vw w n l]:=by unfold sG;split <;> rfl
theorem QdF (vw:Nat→G→AV) (w n:Nat) (l:List G):(sG vw w n l).isAgg=false:=by unfold sG;split <;> rfl
theorem QeY (vw:Nat→G→AV) (w n:Nat) {l:List G} (h:l≠[]):sG vw w n l = .sl w (lvG vw n l) none:=by unfold sG;rw [if_neg (by simpa using h)]
theorem Qpy (vw:Nat→G→AV) (w n:Nat):sG vw w n [] = .v (.slice none 0 0):=rfl
theorem Qd1 (l:List G) (hps:∀ g∈l,pss g.args) (X0:AH) (q n:Nat) (ord:List Int) (hbl:l.length≤1000000000) (hb:ord.length+ndG l≤1000000000) (hq:n+gsz l≤q) (hqx:q+1<X0.length) (hS0:NSt X0 q ord) (hA0:At X0 n (layG 54 n l)) :
  QJ Tryd.prog 30 [.ptr q 0 0,sG gv 3 n l] X0 (GnQ X0 q n ord l):=by
 by_cases e:l=[]
 ·subst e;exact Qgk X0 q n ord hS0
 ·rw [QeY _ _ _ e];exact QeQ l none hps X0 q n ord hbl hb hq hqx hS0 hA0
theorem QgK (l:List G) (hps:∀ g∈l,pss g.args) (X0:AH) (q n:Nat) (ord:List Int) (hbl:l.length≤1000000000) (hb:ord.length+ndG l≤1000000000) (hq:n+gsz l≤q) (hqx:q+1<X0.length) (hS0:NSt X0 q ord) (hA0:At X0 n (layG 54 n l)) :
  QJ Tryd.prog 42 [.ptr q 0 0,sG av 2 n l] X0 (GnQ X0 q n ord l):=by
 by_cases e:l=[]
 ·subst e;exact Qgj X0 q n ord hS0
 ·rw [QeY _ _ _ e];exact QeP l none hps X0 q n ord hbl hb hq hqx hS0 hA0
end Go.Proofs.YticgcpebdldbgaaDoor.Ab
set_option maxRecDepth 4000
namespace Go.Proofs.YticgcpebdldbgaaDoor.Ab
open Go.Proofs
def goalsOk (l:List G):Prop:=∀ g∈l,QU g=true
def atomsOk (l:List G):Prop:=∀ g∈l,QP g=true
theorem QbJ (most:Nat):∀ (m:Nat) (l:List G) (s:PS) (a:List G) (s2:PS),goalsOk l→YB most m l s = .ok a s2→goalsOk a∧a.length≤most∧l.length<a.length
 |0,_,_,_,_,_,h=>by cases h
 |m+1,l,s,a,s2,hl,h=>by
  rw [YB] at h
  split at h
  ·cases h
  ·rename_i hm
   obtain ⟨g,s1,h1,h⟩:=bind_ok h
   split at h
   ·cases h
   ·rename_i hg
    have hl2:goalsOk (l++[g]):=fun x hx=>by
     rcases List.mem_append.1 hx with hx|hx
     ·exact hl x hx
     ·rw [List.mem_singleton.1 hx];simpa using hg
    split at h
    ·obtain ⟨a1,a2,a3⟩:=QbJ most m _ _ a s2 hl2 h
     rw [List.length_append,List.length_singleton] at a3
     exact ⟨a1,a2,by omega⟩
    ·cases h
     refine ⟨hl2,?_,?_⟩ <;> rw [List.length_append,List.length_singleton] <;> omega
theorem Qbo {most:Nat} {s:PS} {a:List G} {s2:PS} (h:Yo most s = .ok a s2):goalsOk a∧a.length≤most:=by
 obtain ⟨h1,h2,_⟩:=QbJ most _ [] s a s2 (fun _ h=>(List.not_mem_nil h).elim) h
 exact ⟨h1,h2⟩
theorem Qd3 (pre:Nat):∀ (m:Nat) (l:List G) (s:PS) (a:List G) (s2:PS),atomsOk l→YW pre m l s = .ok a s2→atomsOk a∧pre+a.length≤4∧l.length<a.length
 |0,_,_,_,_,_,h=>by cases h
 |m+1,l,s,a,s2,hl,h=>by
  rw [YW] at h
  split at h
  ·cases h
  ·rename_i hm
   obtain ⟨g,s1,h1,h⟩:=bind_ok h
   split at h
   ·cases h
   ·rename_i hg
    have hl2:atomsOk (l++[g]):=fun x hx=>by
     rcases List.mem_append.1 hx with hx|hx
     ·exact hl x hx
     ·rw [List.mem_singleton.1 hx];simpa using hg
    split at h
    ·obtain ⟨a1,a2,a3⟩:=Qd3 pre m _ _ a s2 hl2 h
     rw [List.length_append,List.length_singleton] at a3
     exact ⟨a1,a2,by omega⟩
    ·cases h
     refine ⟨hl2,?_,?_⟩ <;> rw [List.length_append,List.length_singleton] <;> omega
theorem QcK {pre:Nat} {s:PS} {a:List G} {s2:PS} (h:Yp pre s = .ok a s2):atomsOk a∧pre+a.length≤4∧0<a.length:=Qd3 pre _ [] s a s2 (fun _ h=>(List.not_mem_nil h).elim) h
theorem QnI {l:List T} (h:l.isEmpty=true):l=[]:=by cases l with|nil=>rfl|cons=>cases h
mutual
theorem T.QqW:∀ (t:T) (b d:Int),(t.run b d).1=true→t.ps∧(t.nds:Int)≤b - (t.run b d).2∧0≤(t.run b d).2
 | .mk k i n l,b,d,h=>by
  rw [T.run] at h ⊢
  rw [T.ps,T.nds]
  split at h
  ·cases h
  ·rename_i h0
   rw [if_neg h0]
   split at h
   ·rename_i h1
    rw [if_pos h1]
    have hl:l=[]:=QnI (by simp only [Bool.and_eq_true] at h;exact h.2)
    subst hl
    refine ⟨⟨.inl h1,fun _=>rfl,trivial⟩,?_,?_⟩
    ·simp only [ndsL];omega
    ·show 0≤b - 1;omega
   ·rename_i h1
    rw [if_neg h1]
    split at h
    ·rename_i h2
     rw [if_pos h2]
     have hl:l=[]:=QnI (by simp only [Bool.and_eq_true] at h;exact h.2)
     subst hl
     refine ⟨⟨.inr (.inl h2),fun _=>rfl,trivial⟩,?_,?_⟩
     ·simp only [ndsL];omega
     ·show 0≤b - 1;omega
    ·rename_i h2
     rw [if_neg h2]
     split at h
     ·rename_i h3
      rw [if_pos h3]
      split at h
      ·cases h
      ·rename_i h4
       rw [if_neg h4]
       split at h
       ·cases h
       ·rename_i h5
        rw [if_neg h5]
        obtain ⟨q1,q2,q3⟩:=QiD l (b - 1) (d - 1) (by omega) h
        refine ⟨⟨.inr (.inr h3),fun e=>absurd h3 e,q1⟩,?_,q3⟩
        push_cast
        omega
     ·cases h
theorem QiD:∀ (l:List T) (b d:Int),0≤b→(runL l b d).1=true→pss l∧(ndsL l:Int)≤b - (runL l b d).2∧0≤(runL l b d).2
 |[],b,d,hb,h=>by simp only [runL,pss,ndsL];exact ⟨trivial,by omega,hb⟩
 |t::l,b,d,hb,h=>by
  rw [runL] at h ⊢
  split at h
  ·rename_i h1
   rw [if_pos h1]
   obtain ⟨q1,q2,q3⟩:=T.QqW t b d h1
   obtain ⟨r1,r2,r3⟩:=QiD l (t.run b d).2 d q3 h
   rw [pss,ndsL]
   exact ⟨⟨q1,r1⟩,by push_cast;omega,r3⟩
  ·cases h
end
theorem QiC {l:List T} (h:(runL l 200 20).1=true):pss l∧ndsL l≤200:=by
 obtain ⟨h1,h2,h3⟩:=QiD l 200 20 (by omega) h
 exact ⟨h1,by omega⟩
theorem Qdu {g:G} (h:QU g=true):pss g.args∧ndsL g.args≤200:=by
 unfold QU at h
 split at h
 ·unfold QP at h
  simp only [Bool.and_eq_true] at h
  exact QiC h.2.2
 ·simp only [Bool.and_eq_true] at h
  exact QiC h.2.2.2
theorem QfX {g:G} (h:QP g=true):pss g.args∧ndsL g.args≤200:=by
 unfold QP at h
 simp only [Bool.and_eq_true] at h
 exact QiC h.2.2
def SmG (l:List G):Prop:=(∀ g∈l,pss g.args)∧ndG l≤2400∧l.length≤12
theorem QnW {l:List G} (h:∀ g∈l,pss g.args∧ndsL g.args≤200) (hl:l.length≤12):SmG l:=by
 refine ⟨fun g hg=>(h g hg).1,?_,hl⟩
 have:∀ m:List G,(∀ g∈m,pss g.args∧ndsL g.args≤200)→ndG m≤200 * m.length:=fun m=>by
  induction m with
  |nil=>intro _;exact Nat.le_refl _
  |cons g m ih =>
   intro hm
   have h1:=(hm g (by simp)).2
   have h2:=ih fun x hx=>hm x (by simp [hx])
   rw [ndG,List.length_cons];omega
 have:=this l h
 omega
theorem QhE {most:Nat} {s s2:PS} {l:List G} (hm:most≤12) (h:Yo most s = .ok l s2):SmG l:=by
 obtain ⟨h1,h2⟩:=Qbo h
 exact QnW (fun g hg=>Qdu (h1 g hg)) (by omega)
theorem QhF {pre:Nat} {s s2:PS} {l:List G} (h:Yp pre s = .ok l s2):SmG l∧pre+l.length≤4∧0<l.length:=by
 obtain ⟨h1,h2,h3⟩:=QcK h
 exact ⟨QnW (fun g hg=>QfX (h1 g hg)) (by omega),h2,h3⟩
theorem QcV:SmG []:=⟨fun _ h=>by simp at h,Nat.zero_le _,Nat.zero_le _⟩
def mG (f:Int→Int) (l:List G):List G:=l.map fun g:G=>(⟨g.op,g.name,maps f g.args⟩:G)
theorem Qbp:∀ (s:List Int) (l:List G) (r:List Int),Xl gG s l=(mG (fun v=>((plc (ded s (QL l)++r) v:Nat):Int)) l,ded s (QL l))
 |s,[],r=>rfl
 |s,g::l,r=>by
  have e:QL (g::l)=Q4 g.args++QL l:=by simp [QL]
  obtain ⟨q,hq⟩:=Qa0 (ded s (Q4 g.args)) (QL l)
  rw [Xl,gG,QcO s g.args (q++r)]
  simp only
  rw [Qbp _ l r,e,Yh,hq]
  simp only [mG,Qre,List.append_assoc]
theorem Qj0 (r:Rl):r.numd=⟨r.name,(Xl gG [] r.keep).1,(Xl gG (Xl gG [] r.keep).2 r.remove).1,(Xl gG (Xl gG (Xl gG [] r.keep).2 r.remove).2 r.guard).1,
  (Xl gG (Xl gG (Xl gG (Xl gG [] r.keep).2 r.remove).2 r.guard).2 r.body).1,((Xl gG (Xl gG (Xl gG (Xl gG [] r.keep).2 r.remove).2 r.guard).2 r.body).2.length:Nat)⟩:=by
 have e:r.allV=QL r.keep++QL r.remove++QL r.guard++QL r.body:=by simp [Rl.allV,QL]
 obtain ⟨q1,h1⟩:=Qa0 (ded [] (QL r.keep)) (QL r.remove)
 obtain ⟨q2,h2⟩:=Qa0 (ded (ded [] (QL r.keep)) (QL r.remove)) (QL r.guard)
 obtain ⟨q3,h3⟩:=Qa0 (ded (ded (ded [] (QL r.keep)) (QL r.remove)) (QL r.guard)) (QL r.body)
 have ea:ded [] r.allV=ded (ded (ded (ded [] (QL r.keep)) (QL r.remove)) (QL r.guard)) (QL r.body):=by rw [e,Yh,Yh,Yh]
 have hB:ded (ded (ded (ded [] (QL r.keep)) (QL r.remove)) (QL r.guard)) (QL r.body)=ded (ded [] (QL r.keep)) (QL r.remove)++(q2++q3):=by rw [h3,h2,List.append_assoc]
 have hA:ded (ded (ded (ded [] (QL r.keep)) (QL r.remove)) (QL r.guard)) (QL r.body)=ded [] (QL r.keep)++(q1++q2++q3):=by rw [h3,h2,h1,List.append_assoc,List.append_assoc,List.append_assoc]
 rw [Rl.numd,ea]
 rw [Qbp [] r.keep (q1++q2++q3)]
 simp only
 rw [Qbp _ r.remove (q2++q3)]
 simp only
 rw [Qbp _ r.guard q3]
 simp only
 rw [Qbp _ r.body []]
 simp only [mG,← hA,← hB,← h3,Qrs]
end Go.Proofs.YticgcpebdldbgaaDoor.Ab
set_option maxRecDepth 4000
namespace Go.Proofs.YticgcpebdldbgaaDoor.Ab
open Go.Proofs
section
variable {P:Pz} {s:PS} {own:Option Nat} (hW:Wst P.all s) {X:AH} (hX:X[P.i]? = some (pN P s own)) (hN:P.all.length≤1000000)
include hW hX hN
theorem Qjv:QJ Tryd.prog 40 [.ptr P.i 0 0] X fun o h'=>o = .ret s.nx.tk.av∧h'=X:=by
 have hi:=QnT hW hX
 have hi0:=hX
 rw [pN] at hi0
 simp only [pN] at hi
 have e1:=Tk.Qp9 s.nx.tk
 have e2:=Tk.Qqa s.nx.tk
 obtain ⟨h1,h2⟩:=Qmf hW
 obtain ⟨k,hk⟩:∃ k,k=P.all.length - s.toks.length:=⟨_,rfl⟩
 obtain ⟨j,hj,hjl,hat⟩:∃ j:Nat,((if (P.all.length:Int) - 1<(k:Int)+1 then (P.all.length:Int) - 1 else (k:Int)+1)=j)∧j<P.all.length∧(tks P.all)[j]? = some s.nx.tk.av:=by
  obtain ⟨pre,hp⟩:=hW.suf
  cases ht:s.toks with
  |nil=>exact absurd ht (QnA hW.wf)
  |cons t r =>
   rw [ht] at hp
   have hkl:k=pre.length:=by rw [hk,ht,← hp,List.length_append];omega
   have hal:P.all.length=pre.length+(r.length+1):=by rw [← hp,List.length_append,List.length_cons]
   cases r with
   |nil =>
    refine ⟨pre.length,by rw [hkl,hal];simp only [Qrd];rw [if_pos (by omega)];omega,by omega,?_⟩
    rw [← hp,tks,List.getElem?_map,List.getElem?_append_right (Nat.le_refl _),Nat.sub_self]
    simp [PS.nx,PS.tk,ht]
   |cons u r =>
    refine ⟨pre.length+1,by rw [hkl,hal];simp only [Qrc];rw [if_neg (by omega)];omega,by rw [hal,List.length_cons];omega,?_⟩
    rw [← hp,tks,List.getElem?_map,List.getElem?_append_right (by omega),Nat.add_sub_cancel_left]
    simp [PS.nx,PS.tk,ht]
 rw [← hk] at hi hi0
 have w1:IntKind.i64.wrap ((k:Int)+1)=(k:Int)+1:=XR ⟨by omega,by omega⟩
 have w2:IntKind.i64.wrap ((P.all.length:Int) - 1)=(P.all.length:Int) - 1:=XR ⟨by omega,by omega⟩
 refine Qe Tryd.func40 rfl Tryd.call40 Tryd.ntmps40 (congrArg Array.toList Tryd.results40) (by simp) ?_
 repeat (first|(((with_reducible refine Qa fun K E hK hE=>?_));simp -implicitDefEqProofs only [Qc,Qd,OpW,aop,AV.Qp8,↓reduceIte,zi60,seval])|(with_reducible refine Qf fun K hK=>?_)|((with_reducible refine hK _ ?_);clear hK))
 first|refine Xj (id:=1) [(0,0),(1,0),(2,0),(3,0),(4,0),(5,0),(6,0),(7,0),(8,0),(9,0),(10,0),(11,0),(12,0),(13,0),(14,0),(15,0),(16,0),(17,0),(18,2)] mixed (by kernel_rfl) fun K hK=>?_|refine XP (id:=1) [(0,0),(1,0),(2,0),(3,0),(4,0),(5,0),(6,0),(7,0),(8,0),(9,0),(10,0),(11,0),(12,0),(13,0),(14,0),(15,0),(16,0),(17,0),(18,2)] mixed (by kernel_rfl) fun K hK=>?_
 (try simp only [Qq8,Qrg]);refine QkA 9 (fun K1 hK1=>?_);simp -implicitDefEqProofs only [Qc,Qd,aop,undef,AS.ev,Qq,↓reduceIte,Qg,Qw,Qv,aBin,ti3,ti37,QgY,Qfl,Qs,hi,w1,seval];refine hK1 _ ?_;clear hK1
 (try simp only [Qq8,Qrg])
 simp -implicitDefEqProofs only [Qc,Qd,aop,undef,AS.ev,Qq,AV.Qp8,↓reduceIte,Qg,Qw,Qv,QB,Qp,QK,aBin,aLen,goInt,ti37,ei37,un37,ti60,QgY,Qs,hi,hat,hjl,Qbu,e1,e2,w2,hj,seval]
 repeat (first|(with_reducible (first|refine Ql ?_|refine Qb ?_))|((with_reducible refine hK _ ?_);clear hK))
 simp -implicitDefEqProofs only [Qc,↓reduceIte,Qw,Qv,ti60,Qw,Qv,e1,e2,QF,Qn,Qr,Qq9,seval]
 exact Qi (htake _ _) (.keep (Qcx _ _)) ⟨rfl,rfl⟩
end
end Go.Proofs.YticgcpebdldbgaaDoor.Ab
namespace Go.Proofs.YticgcpebdldbgaaDoor.Ab
def AncE (ops:Array Oper) (E:List (Nat×Nat)) (i j:Nat):Prop:=Anc ops i j∨∃ p∈E,(i=p.1∨Anc ops i p.1)∧(j=p.2∨Anc ops p.2 j)
theorem AncE.good {ops:Array Oper} {E:List (Nat×Nat)} {S:Nat→Bool} (hd:Down ops S) (hE:∀ p∈E,S p.2=true→S p.1=true) {i j:Nat} (h:AncE ops E i j) (hj:S j=true):S i=true:=by
 rcases h with h|⟨p,hp,h1,h2⟩
 ·exact hd.anc h hj
 ·have hy:S p.2=true:=by
   rcases h2 with rfl|h2
   ·exact hj
   ·exact hd.anc h2 hj
  rcases h1 with rfl|h1
  ·exact hE p hp hy
  ·exact hd.anc h1 (hE p hp hy)
def QkH (ms:List Nat) (E:List (Nat×Nat)) (i j:Nat):Bool:=(ms.getD j 0).testBit i||E.any fun p=>(i==p.1||(ms.getD p.1 0).testBit i)&&(j==p.2||(ms.getD j 0).testBit p.2)
def Qjd (ops:Array Oper) (ms:List Nat) (E:List (Nat×Nat)):List (Nat×Nat)→Bool
 |[]=>true
 |(i,ci)::l=>(l.all fun p=>match ops[i]?,ops[p.1]? with
   |some a,some b=>!clash ops a b ci p.2||QkH ms E i p.1
   |_,_=>false)&&Qjd ops ms E l
theorem Qei {ops:Array Oper} {ms:List Nat} {E:List (Nat×Nat)} (hm:∀ (k i:Nat),(ms.getD k 0).testBit i=true→Anc ops i k):∀ (tr:List Tr),Qjd ops ms E (tr.map fun t=>(t.i,t.c))=true→(∀ t∈tr,ops[t.i]? = some t.o) →
  tr.Pairwise (fun a b=>clash ops a.o b.o a.c b.c=true→AncE ops E a.i b.i)
 |[],_,_=>.nil
 |t::l,h,ho=>by
  simp only [Qre,Qjd,Bool.and_eq_true,List.all_eq_true] at h
  refine List.pairwise_cons.2 ⟨fun b hb hc=>?_,Qei hm l h.2 fun t ht=>ho t (by simp [ht])⟩
  have:=h.1 (b.i,b.c) (List.mem_map.2 ⟨b,hb,rfl⟩)
  simp only [ho t (by simp),ho b (by simp [hb]),hc,Qrm,Bool.false_or,QkH,Bool.or_eq_true,List.any_eq_true,Bool.and_eq_true,beq_iff_eq] at this
  rcases this with h1|⟨p,hp,h1,h2⟩
  ·exact .inl (hm _ _ h1)
  ·exact .inr ⟨p,hp,h1.imp id (hm _ _),h2.imp id (hm _ _)⟩
def okE (ops:Array Oper) (E:List (Nat×Nat)) (π:List (Nat×Nat)):Bool :=
 π.length==ops.size&&Qjd ops (masks ops.toList []) E π&&topo ops [] π&&Qhl (π.map (·.1))&&((List.range ops.size).all fun i=>(π.map (·.1)).contains i) &&
 π.all fun p=>match ops[p.1]? with|some o=>kindOk o p.2|none=>false
structure FitE (ops:Array Oper) (E:List (Nat×Nat)) (tr:List Tr):Prop where
 len:tr.length=ops.size
 pairs:tr.Pairwise (fun a b=>clash ops a.o b.o a.c b.c=true→AncE ops E a.i b.i)
 topo:topo ops [] (tr.map fun t=>(t.i,t.c))=true
 nodup:(tr.map (·.i)).Nodup
 all:∀ i,i<ops.size→∃ t∈tr,t.i=i
 kind:∀ t∈tr,kindOk t.o t.c=true
theorem Qnc {P:Program} {N:Nat} {ops:Array Oper} {E:List (Nat×Nat)} {tr:List Tr} {tm:Nat→AV} {h:AH} (hruns:Runs P N ops tr tm h) (hok:okE ops E (tr.map fun t=>(t.i,t.c))=true):FitE ops E tr:=by
 simp only [okE,Bool.and_eq_true] at hok
 obtain ⟨⟨⟨⟨⟨hp0,hp1⟩,hp2⟩,hp3⟩,hp4⟩,hp5⟩:=hok
 have hops:=Qab hruns
 refine ⟨by have:=beq_iff_eq.1 hp0;simpa using this,Qei (YU ops.toList [] (fun j o h=>by simpa using h) (fun k i h=>by simp at h)) tr hp1 hops,hp2,?_,?_,?_⟩
 ·have:=ZT hp3
  rw [List.map_map] at this
  exact this
 ·intro i hi
  have:=List.all_eq_true.1 hp4 i (List.mem_range.2 hi)
  have:i∈(tr.map fun t=>(t.i,t.c)).map (·.1):=by simpa using this
  rw [List.map_map] at this
  obtain ⟨t,ht,rfl⟩:=List.mem_map.1 this
  exact ⟨t,ht,rfl⟩
 ·intro t ht
  have:=List.all_eq_true.1 hp5 (t.i,t.c) (List.mem_map.2 ⟨t,ht,rfl⟩)
  simpa [hops t ht] using this
inductive TT where
 |leaf (t:List Tr)
 |node (ρ:List Tr) (y u:Nat) (A B:TT)
def TT.first:TT→List Tr
 | .leaf t=>t
 | .node ρ _ _ A _=>ρ++A.first
def TT.e1:TT→List (Nat×Nat)→List (Nat×Nat)
 | .leaf _,E=>E
 | .node _ y u A _,E=>A.e1 ((y,u)::E)
def TT.all:TT→List Nat
 | .leaf t=>t.map (·.i)
 | .node ρ _ _ A B=>ρ.map (·.i)++(A.all++B.all)
def TT.ends:TT→List Nat
 | .leaf _=>[]
 | .node _ y u A B=>y::u::(A.ends++B.ends)
def TT.root:TT→List Nat
 | .leaf _=>[]
 | .node _ y u _ _=>[y,u]
def Beh (ops:Array Oper) (y u i:Nat):Prop:=∀ S:Nat→Bool,Down ops S→S y=false→S u=false→S i=false
def FitT (ops:Array Oper):TT→List Tr→List (Nat×Nat)→Prop
 | .leaf t,π,E=>FitE ops E (π++t)
 | .node ρ y u A B,π,E=>y≠u∧y∉A.ends∧u∉B.ends∧(∀ i∈A.all++B.all,Beh ops y u i)∧(∀ i∈A.ends++B.ends,Beh ops y u i)∧FitT ops A (π++ρ) ((y,u)::E)∧FitT ops B (π++ρ) ((u,y)::E)
def AllL (R:List Tr→Prop):TT→List Tr→Prop
 | .leaf t,π=>R (π++t)
 | .node ρ _ _ A B,π=>AllL R A (π++ρ)∧AllL R B (π++ρ)
theorem AllL.mono {R R':List Tr→Prop} (h:∀ l,R l→R' l):∀ {T:TT} {π:List Tr},AllL R T π→AllL R' T π
 | .leaf t,π,H=>h _ H
 | .node ρ y u A B,π,H=>⟨AllL.mono h H.1,AllL.mono h H.2⟩
theorem AllL.first {R:List Tr→Prop}:∀ {T:TT} {π:List Tr},AllL R T π→R (π++T.first)
 | .leaf t,π,H=>H
 | .node ρ y u A B,π,H=>by
  have:=AllL.first H.1
  rw [List.append_assoc] at this
  exact this
theorem FitT.first {ops:Array Oper}:∀ {T:TT} {π:List Tr} {E:List (Nat×Nat)},FitT ops T π E→FitE ops (T.e1 E) (π++T.first)
 | .leaf t,π,E,H=>H
 | .node ρ y u A B,π,E,H=>by
  have:=FitT.first H.2.2.2.2.2.1
  rw [List.append_assoc] at this
  exact this
theorem FitT.all {ops:Array Oper}:∀ {T:TT} {π:List Tr} {E:List (Nat×Nat)},FitT ops T π E→AllL (fun l=>∀ i,i<ops.size→∃ t∈l,t.i=i) T π
 | .leaf t,π,E,H=>FitE.all H
 | .node ρ y u A B,π,E,H=>⟨FitT.all H.2.2.2.2.2.1,FitT.all H.2.2.2.2.2.2⟩
theorem AllL.and {R R':List Tr→Prop}:∀ {T:TT} {π:List Tr},AllL R T π→AllL R' T π→AllL (fun l=>R l∧R' l) T π
 | .leaf t,π,H,H'=>⟨H,H'⟩
 | .node ρ y u A B,π,H,H'=>⟨AllL.and H.1 H'.1,AllL.and H.2 H'.2⟩
theorem TT.Qqn:∀ (T:TT) (E:List (Nat×Nat)),∀ p∈T.e1 E,p∈E∨p.2∈T.ends
 | .leaf t,E,p,h=>.inl h
 | .node ρ y u A B,E,p,h=>by
  rcases TT.Qqn A _ p h with h|h
  ·rcases List.mem_cons.1 h with rfl|h
   ·exact .inr (by simp [TT.ends])
   ·exact .inl h
  ·exact .inr (by simp [TT.ends,h])
theorem TT.Qqj (T:TT):∀ i∈T.root,i∈T.ends:=by
 cases T with
 |leaf t=>intro i h;cases h
 |node ρ y u A B=>intro i h;simp only [TT.root,List.mem_cons,List.not_mem_nil,or_false] at h;simp only [TT.ends,List.mem_cons];rcases h with rfl|rfl <;> simp
theorem TT.Qqs (T:TT):∀ t∈T.first,t.i∈T.all:=by
 induction T with
 |leaf t=>intro x h;exact List.mem_map.2 ⟨x,h,rfl⟩
 |node ρ y u A B ihA ihB =>
  intro x h
  rcases List.mem_append.1 h with h|h
  ·exact List.mem_append_left _ (List.mem_map.2 ⟨x,h,rfl⟩)
  ·exact List.mem_append_right _ (List.mem_append_left _ (ihA x h))
section
variable {P:Program} {N:Nat} {base:Bs×Fence} {ops:Array Oper} {F:Fence} {n:Nat} (hF:WF F) {Qx:Exit→Act→World→Prop} {tm0:Nat→AV} {h0:AH}
include hF
theorem Qkr:∀ (T:TT) (π:List Tr) (E:List (Nat×Nat)),FitT ops T π E→AllL (fun l=>Runs P N ops l tm0 h0) T π →
  ∀ (fuel:Nat) (listed:Array Bool) (c:Cx) (a:Act),listed.size=ops.size→Down ops (fun i=>listed.getD i false)→(∀ p∈E,listed.getD p.1 false=true)→(∀ i∈T.root,listed.getD i false=false)→St c →
   SR N base c ⟨tmS N (fun i=>listed.getD i false) (π++T.first) tm0,hS (fun i=>listed.getD i false) (π++T.first) h0⟩ a→AllL (fun l=>l.countP (fun t=>!listed.getD t.i false)≤fuel) T π →
   AllL (fun l=>∀ c' a',Ev c c'→St c'→SR N base c' ⟨tmS N (fun _=>true) l tm0,hS (fun _=>true) l h0⟩ a'→Qx .normal a' c'.w) T π→wpAnyIn F n P .any ops Qx fuel listed a c.w:=by
 intro T
 induction T with
 |leaf t =>
  intro π E hfit hruns fuel
  have hfit:FitE ops E (π++t):=hfit
  have hruns:Runs P N ops (π++t) tm0 h0:=hruns
  induction fuel with
  |zero =>
   intro listed c a hsz hd hE hx hst hr hc hQ
   have hl:∀ u∈π++t,listed.getD u.i false=true:=fun u hu=>by
    have:=List.countP_eq_zero.1 (Nat.le_zero.1 hc) u hu
    simpa using this
   exact ⟨any_zero hsz hfit.all hl,YC hst hr hQ hl⟩
  |succ fuel ih =>
   intro listed c a hsz hd hE hx hst hr hc hQ
   refine ⟨fun h=>YC hst hr hQ fun u hu=>ZD hsz h _ [] hfit.topo (fun i hi=>by cases hi) (u.i,u.c) (List.mem_map.2 ⟨u,hu,rfl⟩),fun i hi=>?_⟩
   have hi':=hi
   obtain ⟨h1,o,ho,_⟩:=mem_ready.1 hi'
   have hlt:i<ops.size:=(Array.getElem?_eq_some_iff.1 ho).1
   obtain ⟨u,hu,hui⟩:=hfit.all i hlt
   have hd':=ZF hsz hd hi
   have hE':∀ p∈E,(listed.setIfInBounds i true).getD p.1 false=true:=fun p hp=>by rw [Yd (by omega),hE p hp];simp
   exact YN hF hruns hfit.pairs hfit.nodup hfit.kind hi hu hui hsz (fun i j h hj=>AncE.good hd (fun p hp _=>hE p hp) h hj) (fun i j h hj=>AncE.good hd' (fun p hp _=>hE' p hp) h hj) hst hr fun c' a' hev hst' hr' =>
    ih _ c' a' (by simpa using hsz) hd' hE' (fun i hi=>by cases hi) hst' hr' (Xo hsz ⟨u,hu,hui⟩ hi hc) fun c2 a2 e2 s2 r2=>hQ c2 a2 (Ev.trans hst hev e2) s2 r2
 |node ρ y u A B ihA ihB =>
  intro π E hfit hruns fuel
  obtain ⟨hyu,hyA,huB,hbeh,hends,hfA,hfB⟩:=hfit
  obtain ⟨hrA,hrB⟩:=hruns
  have hf1:=hfA.first
  have hr1:=hrA.first
  induction fuel with
  |zero =>
   intro listed c a hsz hd hE hx hst hr0 hc hQ
   have hr9:SR N base c ⟨tmS N (fun i=>listed.getD i false) (π++ρ++A.first) tm0,hS (fun i=>listed.getD i false) (π++ρ++A.first) h0⟩ a:=by rw [List.append_assoc];exact hr0
   have hl:∀ t∈(π++ρ)++A.first,listed.getD t.i false=true:=fun t ht=>by
    have:=List.countP_eq_zero.1 (Nat.le_zero.1 hc.1.first) t ht
    simpa using this
   exact ⟨any_zero hsz hf1.all hl,YC hst hr9 hQ.1.first hl⟩
  |succ fuel ih =>
   intro listed c a hsz hd hE hx hst hr0 hc hQ
   have hr9:SR N base c ⟨tmS N (fun i=>listed.getD i false) (π++ρ++A.first) tm0,hS (fun i=>listed.getD i false) (π++ρ++A.first) h0⟩ a:=by rw [List.append_assoc];exact hr0
   refine ⟨fun h=>YC hst hr9 hQ.1.first fun t ht=>ZD hsz h _ [] hf1.topo (fun i hi=>by cases hi) (t.i,t.c) (List.mem_map.2 ⟨t,ht,rfl⟩),fun i hi=>?_⟩
   have hi':=hi
   obtain ⟨h1,o,ho,_⟩:=mem_ready.1 hi'
   have hlt:i<ops.size:=(Array.getElem?_eq_some_iff.1 ho).1
   have hd':=ZF hsz hd hi
   have hset:∀ j,(listed.setIfInBounds i true).getD j false=(decide (j=i)||listed.getD j false):=fun j=>Yd (by omega)
   have hy:listed.getD y false=false:=hx y (by simp [TT.root])
   have hu:listed.getD u false=false:=hx u (by simp [TT.root])
   have hE':∀ p∈E,(listed.setIfInBounds i true).getD p.1 false=true:=fun p hp=>by rw [hset,hE p hp];simp
   have hnA:∀ t∈A.first,listed.getD t.i false=false:=fun t ht=>hbeh _ (List.mem_append_left _ (A.Qqs t ht)) _ hd hy hu
   have hnB:∀ t∈B.first,listed.getD t.i false=false:=fun t ht=>hbeh _ (List.mem_append_right _ (B.Qqs t ht)) _ hd hy hu
   have hcn:∀ {T:TT},AllL (fun l=>∀ i,i<ops.size→∃ t∈l,t.i=i) T (π++ρ)→AllL (fun l=>l.countP (fun t=>!listed.getD t.i false)≤fuel+1) T (π++ρ)→AllL (fun l=>l.countP (fun t=>!(listed.setIfInBounds i true).getD t.i false)≤fuel) T (π++ρ) :=
    fun h1 h2=>(h1.and h2).mono fun l h=>Xo hsz (h.1 i hlt) hi h.2
   by_cases hiy:i=y
   ·subst hiy
    obtain ⟨t,ht,hti⟩:=hf1.all i hlt
    have hy':(listed.setIfInBounds i true).getD i false=true:=by rw [hset];simp
    have g1:∀ p∈A.e1 ((i,u)::E),listed.getD p.2 false=true→listed.getD p.1 false=true:=fun p hp h2=>by
     rcases A.Qqn _ p hp with hp|hp
     ·rcases List.mem_cons.1 hp with rfl|hp
      ·rw [hu] at h2;cases h2
      ·exact hE p hp
     ·have h3:listed.getD p.2 false=false:=hends _ (List.mem_append_left _ hp) _ hd hy hu
      rw [h3] at h2;cases h2
    have g2:∀ p∈A.e1 ((i,u)::E),(listed.setIfInBounds i true).getD p.2 false=true→(listed.setIfInBounds i true).getD p.1 false=true:=fun p hp h2=>by
     rcases A.Qqn _ p hp with hp|hp
     ·rcases List.mem_cons.1 hp with rfl|hp
      ·exact hy'
      ·exact hE' p hp
     ·have h3:listed.getD p.2 false=false:=hends _ (List.mem_append_left _ hp) _ hd hy hu
      have:p.2≠i:=fun e=>hyA (e▸hp)
      rw [hset,h3] at h2
      simp [this] at h2
    refine YN hF hr1 hf1.pairs hf1.nodup hf1.kind hi ht hti hsz (fun j k h hk=>AncE.good hd g1 h hk) (fun j k h hk=>AncE.good hd' g2 h hk) hst hr9 fun c' a' hev hst' hr'=>?_
    refine ihA (π++ρ) ((i,u)::E) hfA hrA fuel _ c' a' (by simpa using hsz) hd' ?_ ?_ hst' hr' (hcn hfA.all hc.1) (hQ.1.mono fun l h c2 a2 e2 s2 r2=>h c2 a2 (Ev.trans hst hev e2) s2 r2)
    ·intro p hp
     rcases List.mem_cons.1 hp with rfl|hp
     ·exact hy'
     ·exact hE' p hp
    ·intro j hj
     have h3:listed.getD j false=false:=hends _ (List.mem_append_left _ (A.Qqj j hj)) _ hd hy hu
     rw [hset,h3]
     have:j≠i:=fun e=>hyA (e▸A.Qqj j hj)
     simp [this]
   ·by_cases hiu:i=u
    ·subst hiu
     have hf2:=hfB.first
     have hr2:=hrB.first
     obtain ⟨t,ht,hti⟩:=hf2.all i hlt
     have skip1:tmS N (fun i=>listed.getD i false) (π++ρ++A.first) tm0=tmS N (fun i=>listed.getD i false) (π++ρ++B.first) tm0:=by
      funext z
      have k1:∀ t∈A.first,listed.getD t.i false=true→t.o.dst≠some z:=fun t ht hs _=>by rw [hnA t ht] at hs;cases hs
      have k2:∀ t∈B.first,listed.getD t.i false=true→t.o.dst≠some z:=fun t ht hs _=>by rw [hnB t ht] at hs;cases hs
      rw [XQ N _ (π++ρ) A.first,XQ N _ (π++ρ) B.first,XO (S:=fun i=>listed.getD i false) k1,XO (S:=fun i=>listed.getD i false) k2]
     have skip2:hS (fun i=>listed.getD i false) (π++ρ++A.first) h0=hS (fun i=>listed.getD i false) (π++ρ++B.first) h0:=by
      rw [Ym _ (π++ρ) A.first,Ym _ (π++ρ) B.first,Ys (S:=fun i=>listed.getD i false) fun t ht _=>hnA t ht,Ys (S:=fun i=>listed.getD i false) fun t ht _=>hnB t ht]
     rw [skip1,skip2] at hr9
     have hu':(listed.setIfInBounds i true).getD i false=true:=by rw [hset];simp
     have g1:∀ p∈B.e1 ((i,y)::E),listed.getD p.2 false=true→listed.getD p.1 false=true:=fun p hp h2=>by
      rcases B.Qqn _ p hp with hp|hp
      ·rcases List.mem_cons.1 hp with rfl|hp
       ·rw [hy] at h2;cases h2
       ·exact hE p hp
      ·have h3:listed.getD p.2 false=false:=hends _ (List.mem_append_right _ hp) _ hd hy hu
       rw [h3] at h2;cases h2
     have g2:∀ p∈B.e1 ((i,y)::E),(listed.setIfInBounds i true).getD p.2 false=true→(listed.setIfInBounds i true).getD p.1 false=true:=fun p hp h2=>by
      rcases B.Qqn _ p hp with hp|hp
      ·rcases List.mem_cons.1 hp with rfl|hp
       ·exact hu'
       ·exact hE' p hp
      ·have h3:listed.getD p.2 false=false:=hends _ (List.mem_append_right _ hp) _ hd hy hu
       have:p.2≠i:=fun e=>huB (e▸hp)
       rw [hset,h3] at h2
       simp [this] at h2
     refine YN hF hr2 hf2.pairs hf2.nodup hf2.kind hi ht hti hsz (fun j k h hk=>AncE.good hd g1 h hk) (fun j k h hk=>AncE.good hd' g2 h hk) hst hr9 fun c' a' hev hst' hr'=>?_
     refine ihB (π++ρ) ((i,y)::E) hfB hrB fuel _ c' a' (by simpa using hsz) hd' ?_ ?_ hst' hr' (hcn hfB.all hc.2) (hQ.2.mono fun l h c2 a2 e2 s2 r2=>h c2 a2 (Ev.trans hst hev e2) s2 r2)
     ·intro p hp
      rcases List.mem_cons.1 hp with rfl|hp
      ·exact hu'
      ·exact hE' p hp
     ·intro j hj
      have h3:listed.getD j false=false:=hends _ (List.mem_append_right _ (B.Qqj j hj)) _ hd hy hu
      rw [hset,h3]
      have:j≠i:=fun e=>huB (e▸B.Qqj j hj)
      simp [this]
    ·obtain ⟨t,ht,hti⟩:=hf1.all i hlt
     have hy':(listed.setIfInBounds i true).getD y false=false:=by rw [hset,hy];simp;exact fun h=>hiy h.symm
     have hu':(listed.setIfInBounds i true).getD u false=false:=by rw [hset,hu];simp;exact fun h=>hiu h.symm
     have g1:∀ p∈A.e1 ((y,u)::E),listed.getD p.2 false=true→listed.getD p.1 false=true:=fun p hp h2=>by
      rcases A.Qqn _ p hp with hp|hp
      ·rcases List.mem_cons.1 hp with rfl|hp
       ·rw [hu] at h2;cases h2
       ·exact hE p hp
      ·have h3:listed.getD p.2 false=false:=hends _ (List.mem_append_left _ hp) _ hd hy hu
       rw [h3] at h2;cases h2
     have g2:∀ p∈A.e1 ((y,u)::E),(listed.setIfInBounds i true).getD p.2 false=true→(listed.setIfInBounds i true).getD p.1 false=true:=fun p hp h2=>by
      rcases A.Qqn _ p hp with hp|hp
      ·rcases List.mem_cons.1 hp with rfl|hp
       ·rw [hu'] at h2;cases h2
       ·exact hE' p hp
      ·have h3:(listed.setIfInBounds i true).getD p.2 false=false:=hends _ (List.mem_append_left _ hp) _ hd' hy' hu'
       rw [h3] at h2;cases h2
     refine YN hF hr1 hf1.pairs hf1.nodup hf1.kind hi ht hti hsz (fun j k h hk=>AncE.good hd g1 h hk) (fun j k h hk=>AncE.good hd' g2 h hk) hst hr9 fun c' a' hev hst' hr'=>?_
     refine ih _ c' a' (by simpa using hsz) hd' hE' ?_ hst' (by have h9:=hr';rw [List.append_assoc] at h9;exact h9) ⟨hcn hfA.all hc.1,hcn hfB.all hc.2⟩ (hQ.mono fun l h c2 a2 e2 s2 r2=>h c2 a2 (Ev.trans hst hev e2) s2 r2)
     intro j hj
     simp only [TT.root,List.mem_cons,List.not_mem_nil,or_false] at hj
     rcases hj with rfl|rfl
     ·exact hy'
     ·exact hu'
end
inductive OT where
 |leaf (σ:List (Nat×Nat))
 |node (ρ:List (Nat×Nat)) (y u:Nat) (A B:OT)
def OT.walk (P:Program) (N:Nat) (ops:Array Oper) (K:AS→Prop):OT→AS→Prop
 | .leaf σ,s=>AnyW P N ops σ K s
 | .node ρ _ _ A B,s=>AnyW P N ops ρ (fun s=>OT.walk P N ops K A s∧OT.walk P N ops K B s) s
def OT.all:OT→List Nat
 | .leaf σ=>σ.map (·.1)
 | .node ρ _ _ A B=>ρ.map (·.1)++(A.all++B.all)
def OT.ends:OT→List Nat
 | .leaf _=>[]
 | .node _ y u A B=>y::u::(A.ends++B.ends)
def OT.ok (ops:Array Oper):OT→List (Nat×Nat)→List (Nat×Nat)→Bool
 | .leaf σ,π,E=>okE ops E (π++σ)&&Qah ops σ
 | .node ρ y u A B,π,E=>(y != u&&!A.ends.contains y&&!B.ends.contains u&&(A.all++B.all).all (behind ops y u)&&(A.ends++B.ends).all (behind ops y u)&&Qah ops ρ)&&(OT.ok ops A (π++ρ) ((y,u)::E)&&OT.ok ops B (π++ρ) ((u,y)::E))
theorem Qe5 {ops:Array Oper} {x y i:Nat} (hi:behind ops x y i=true):Beh ops x y i:=by
 intro S hd hx hy
 have hm':∀ (k i:Nat),((masks ops.toList []).getD k 0).testBit i=true→Anc ops i k:=YU ops.toList [] (fun j o h=>by simpa using h) (fun k i h=>by simp at h)
 cases hS:S i with
 |false=>rfl
 |true =>
  exfalso
  simp only [behind,Bool.or_eq_true,beq_iff_eq] at hi
  rcases hi with ((rfl|rfl)|h)|h
  ·rw [hx] at hS;cases hS
  ·rw [hy] at hS;cases hS
  ·have:=hd.anc (hm' _ _ h) hS;rw [hx] at this;cases this
  ·have:=hd.anc (hm' _ _ h) hS;rw [hy] at this;cases this
theorem QeB {P:Program} {N:Nat} {ops:Array Oper} {K:AS→Prop} {tm0:Nat→AV} {h0:AH}:∀ (O:OT) (π:List Tr) (E:List (Nat×Nat)),Runs P N ops π tm0 h0→OT.walk P N ops K O ⟨tmS N (fun _=>true) π tm0,hS (fun _=>true) π h0⟩→OT.ok ops O (π.map fun t=>(t.i,t.c)) E=true →
  ∃ T:TT,T.all=O.all∧T.ends=O.ends∧FitT ops T π E∧AllL (fun l=>Runs P N ops l tm0 h0) T π∧AllL (fun l=>K ⟨tmS N (fun _=>true) l tm0,hS (fun _=>true) l h0⟩) T π
 | .leaf σ,π,E,hr,H,hok=>by
  simp only [OT.ok,Bool.and_eq_true] at hok
  obtain ⟨t,rfl,hρ,hK⟩:=Yg H hok.2
  have hrr:=hr.append hρ
  have h1:=hok.1
  rw [← List.map_append] at h1
  refine ⟨.leaf t,by simp [TT.all,OT.all],rfl,Qnc hrr h1,hrr,?_⟩
  show K _
  rw [XQ,Ym]
  exact hK
 | .node ρ y u A B,π,E,hr,H,hok=>by
  simp only [OT.ok,Bool.and_eq_true,bne_iff_ne,ne_eq,Bool.not_eq_true',List.all_eq_true] at hok
  obtain ⟨⟨⟨⟨⟨⟨h1,h2⟩,h3⟩,h4⟩,h5⟩,h6⟩,hA,hB⟩:=hok
  obtain ⟨t,rfl,hρ,hK⟩:=Yg H h6
  have hrr:=hr.append hρ
  have e:(⟨tmS N (fun _=>true) t (tmS N (fun _=>true) π tm0),hS (fun _=>true) t (hS (fun _=>true) π h0)⟩:AS)=⟨tmS N (fun _=>true) (π++t) tm0,hS (fun _=>true) (π++t) h0⟩:=by rw [XQ,Ym]
  rw [e] at hK
  rw [← List.map_append] at hA hB
  obtain ⟨TA,a1,a2,a3,a4,a5⟩:=QeB A (π++t) ((y,u)::E) hrr hK.1 hA
  obtain ⟨TB,b1,b2,b3,b4,b5⟩:=QeB B (π++t) ((u,y)::E) hrr hK.2 hB
  refine ⟨.node t y u TA TB,by simp [TT.all,OT.all,a1,b1],by simp [TT.ends,OT.ends,a2,b2],⟨h1,?_,?_,?_,?_,a3,b3⟩,⟨a4,b4⟩,⟨a5,b5⟩⟩
  ·rw [a2];simpa using h2
  ·rw [b2];simpa using h3
  ·rw [a1,b1];exact fun i hi=>Qe5 (h4 i hi)
  ·rw [a2,b2];exact fun i hi=>Qe5 (h5 i hi)
theorem QcH {P:Program} {N:Nat} {Q:AExit→AS→Prop} {s:AS} {id:Nat} {ops:Array Oper} (O:OT) (hm:P.follows .mixedOrders=true) (hok:OT.ok ops O [] []=true)
  (H:∀ (K:AS→Prop),(∀ s,Q .normal s→K s)→OT.walk P N ops K O s):XF P N (.region id ops true) Q s:=by
 intro F n base c a hF hst hr R hR
 refine wpIn_region_any hm ?_
 obtain ⟨tm,hp⟩:=s
 obtain ⟨T,_,_,hfit,hruns,hQ⟩:=QeB (tm0:=tm) (h0:=hp) O [] [] (.nil _ _) (H (fun s=>Q .normal s) (fun s h=>h)) hok
 have hev:Ev c (c.to {c.w with drawn:=c.w.drawn+1}):=Ev.idle hst (Ev.refl c) rfl rfl rfl rfl fun k=>.inl rfl
 have hst':St (c.to {c.w with drawn:=c.w.drawn+1}):=hst.idle rfl fun k o hk=>.inl hk
 have hr':SR N (base,F) (c.to {c.w with drawn:=c.w.drawn+1}) ⟨tm,hp⟩ a:=⟨hr.h,hr.size,Nat.le_trans hr.above hev.size,hr.defers.ev hev,RoundOk.ev hev hr.round,fun t=>(hr.tm t).ev hst hev⟩
 have hnone:∀ j,(Array.replicate ops.size false).getD j false=false:=fun j=>by
  rw [Array.getD_eq_getD_getElem?,Array.getElem?_replicate]
  split <;> rfl
 have hlen:AllL (fun l=>l.length=ops.size) T []:=by
  have:∀ (T:TT) (π:List Tr) (E:List (Nat×Nat)),FitT ops T π E→AllL (fun l=>l.length=ops.size) T π:=by
   intro T
   induction T with
   |leaf t=>exact fun π E h=>FitE.len h
   |node ρ y u A B ihA ihB=>exact fun π E h=>⟨ihA _ _ h.2.2.2.2.2.1,ihB _ _ h.2.2.2.2.2.2⟩
  exact this T [] [] hfit
 refine Qkr (base:=(base,F)) hF T [] [] hfit hruns _ _ (c.to {c.w with drawn:=c.w.drawn+1}) a (by simp) ?_ (fun p hp=>by cases hp) (fun i _=>hnone i) hst' ?_ (hlen.mono fun l h=>Nat.le_trans List.countP_le_length (Nat.le_of_eq h)) (hQ.mono fun l h c' a' h1 h2 h3=>hR .normal _ c' a' .normal h (Ev.trans hst hev h1) h2 h3 rfl)
 ·intro j o ho hj
  simp only at hj
  rw [hnone] at hj;cases hj
 ·have e1:tmS N (fun i=>(Array.replicate ops.size false).getD i false) ([]++T.first) tm=tm:=funext fun x=>XO fun t _ h=>by rw [hnone] at h;cases h
  have e2:hS (fun i=>(Array.replicate ops.size false).getD i false) ([]++T.first) hp=hp:=Ys fun t _ _=>hnone _
  rw [e1,e2];exact hr'
end Go.Proofs.YticgcpebdldbgaaDoor.Ab
set_option maxRecDepth 4000
namespace Go.Proofs.YticgcpebdldbgaaDoor.Ab
open Go.Proofs
theorem Qdv {most:Nat} {s s2:PS} {l:List G} (h:Yo most s = .ok l s2):l≠[]:=by
 obtain ⟨_,_,h3⟩:=QbJ most _ [] s l s2 (fun _ h=>(List.not_mem_nil h).elim) h
 rintro rfl
 simp at h3
def bodyT (name:ByteArray) (s:PS):PR Rl:=(Yp 0 s).bind fun first s =>
  if s.is Qat then Zm name [] first s.nx else if s.is QeZ then Zm name first [] s.nx else
  if s.is QeX then (Yp first.length s.nx).bind fun rem s=>(XU Qat s).bind fun _ s=>Zm name first rem s else .err s.tk.pos 16
theorem QfA (s:PS):Zl s=if s.tk.kind=1∧s.nx.is sAt=true then (ZY s).bind fun x s=>bodyT x s.nx else bodyT eB s:=rfl
structure ErrY (X:AH) (P:Pz) (Y:AH):Prop where
 long:X.length≤Y.length
 out:∀ i,i<X.length→i≠P.i→i≠P.j→Y[i]? = X[i]?
def RuQ (X:AH) (P:Pz):PR Rl→AOut→AH→Prop
 | .ok r s,o,h'=>o = .ret r.av∧h'=(X.set P.i (pN P s none)).set P.j (kB s)
 | .err p e,o,h'=>o = .panic (Fl p e)∧∃ Y:{Y:AH // ErrY X P Y},h'=Y.1
def RuR (X:AH) (P:Pz) (r:Rl) (s:PS) (o:AOut) (h':AH):Prop:=∃ nk nr ng nb,o = .ret (.agg [.v (.string r.name),sG av 2 nk r.keep,sG av 2 nr r.remove,sG gv 3 ng r.guard,sG gv 3 nb r.body,.i r.vars])∧X.length≤nk∧X.length≤nr∧X.length≤ng∧X.length≤nb ∧
 At h' nk (layG 54 nk r.keep)∧At h' nr (layG 54 nr r.remove)∧At h' ng (layG 54 ng r.guard)∧At h' nb (layG 54 nb r.body)∧X.length≤h'.length∧h'.take X.length=(X.set P.i (pN P s none)).set P.j (kB s)
abbrev nilV:AV:=.v (.slice none 0 0)
def rB (name:ByteArray) (k r g b:AV):AB:=.cells 34 6 [.agg [.v (.string name),k,r,g,b,.i 0]]
theorem ZM {B:AH} {P2:Pz} {s s':PS} {a b a' b':AB} {M N L:AH} {n:Nat} (h:At (ph B P2 s++(a::b::M)) n L) (h1:B.length+2≤n) (h2:n+L.length≤B.length+2+M.length):At (ph B P2 s'++(a'::b'::(M++N))) n L:=by
 refine h.keep fun i i1 i2=>?_
 rw [List.getElem?_append_right (by rw [QS];omega),List.getElem?_append_right (by rw [QS];omega),QS,QS]
 obtain ⟨k,hk⟩:∃ k,i - B.length=k+1+1:=⟨i - B.length - 2,by omega⟩
 rw [hk]
 simp only [Qq0]
 rw [List.getElem?_append_left (by omega)]
def RH (B:AH) (P2:Pz) (X:AH) (s:PS) (r:Rl) (st:AS):Prop:=st.tm 0 = .ptr P2.i 0 0∧st.tm 2 = .ptr X.length 0 0∧st.tm 3 = .ptr B.length 0 0∧Wst P2.all s∧SmG r.keep∧SmG r.remove∧SmG r.guard∧SmG r.body∧∃ nk nr ng nb x4 M,
 st.h=ph B P2 s++(rB r.name (sG av 2 nk r.keep) (sG av 2 nr r.remove) (sG gv 3 ng r.guard) (sG gv 3 nb r.body)::x4::M)∧At st.h nk (layG 54 nk r.keep)∧At st.h nr (layG 54 nr r.remove)∧At st.h ng (layG 54 ng r.guard)∧At st.h nb (layG 54 nb r.body) ∧
 B.length+2≤nk∧nk+gsz r.keep≤nr∧nr+gsz r.remove≤ng∧ng+gsz r.guard≤nb∧nb+gsz r.body≤B.length+2+M.length
def QjK (b:List G):List G:=match b with|[x]=>if x.op=1 then [] else b|_=>b
def finT (name:ByteArray) (keep remove g b:List G) (s:PS):PR Rl:=(XU sDot s).bind fun _ s=>.ok ⟨name,keep,remove,g,QjK b,0⟩ s
theorem Qjb (name:ByteArray) (keep remove:List G) (s:PS):Zm name keep remove s=(Yo 12 s).bind fun b s=>if s.is sBar then (Yo 12 s.nx).bind fun b2 s=>finT name keep remove b b2 s else finT name keep remove [] b s:=rfl
theorem retQ {f:FuncId} {args:List AV} {X:AH} {q n:Nat} {ord:List Int} {l:List G} (H:QJ Tryd.prog f args X (GnQ X q n ord l)):QJ Tryd.prog f args X fun o h'=>o = .ret (.tup [])∧∃ Y:{Y:AH // GnQ X q n ord l (.ret (.tup [])) Y},h'=Y.1 :=
 H.mono fun o h' k=>by
  obtain ⟨rfl,k2⟩:=k
  exact ⟨rfl,⟨h',rfl,k2⟩,rfl⟩
theorem QnN {s:PS} {a b:List UInt8} (h:s.is a=true) (hab:(a==b)=false):s.is b=false:=by
 simp only [PS.is,Bool.and_eq_true,beq_iff_eq] at h
 simp only [PS.is,h.1,h.2,hab,Bool.and_false]
section
variable {P:Pz} {s:PS} (hW:Wst P.all s) {h:AH} (H:P.ok h) (hN:P.all.length≤1000000) (hD:TkOk P.all) (L:AH)
include hW H hN hD
theorem Qfr {pre:Nat} (hpre:pre≤100) {p e:Int} (hr:Yp pre s = .err p e):QJ Tryd.prog 41 [.ptr P.i 0 0,.i (pre:Nat)] (ph h P s++L) fun o h'=>o = .panic (Fl p e)∧∃ s1:PS,h'=ph h P s1++L:=by
 have:=Qft hW (H.app L) hN hD pre hpre
 rw [hr] at this
 rw [Q1 H] at this
 exact this.mono fun o h' q=>by simpa only [GsQ,Q1 H] using q
theorem Qg7 {pre:Nat} (hpre:pre≤100) {l:List G} {s2:PS} (hr:Yp pre s = .ok l s2) {k:Nat} (hk:k=h.length+L.length):QJ Tryd.prog 41 [.ptr P.i 0 0,.i (pre:Nat)] (ph h P s++L) fun o h'=>o = .ret (.sl 2 (lvG av k l) none)∧h'=ph h P s2++(L++layG 54 k l):=by
 have:=Qft hW (H.app L) hN hD pre hpre
 rw [hr] at this
 subst hk
 rw [Q1 H] at this
 exact this.mono fun o h' q=>by simpa only [GsQ,Q1 H,QrQ,List.append_assoc] using q
theorem Qfn {most:Nat} (hm:most≤100) {p e:Int} (hr:Yo most s = .err p e):QJ Tryd.prog 29 [.ptr P.i 0 0,.i (most:Nat)] (ph h P s++L) fun o h'=>o = .panic (Fl p e)∧∃ s1:PS,h'=ph h P s1++L:=by
 have:=QcJ hW (H.app L) hN hD most hm
 rw [hr] at this
 rw [Q1 H] at this
 exact this.mono fun o h' q=>by simpa only [GsQ,Q1 H] using q
theorem Qg3 {most:Nat} (hm:most≤100) {l:List G} {s2:PS} (hr:Yo most s = .ok l s2) {k:Nat} (hk:k=h.length+L.length):QJ Tryd.prog 29 [.ptr P.i 0 0,.i (most:Nat)] (ph h P s++L) fun o h'=>o = .ret (.sl 3 (lvG gv k l) none)∧h'=ph h P s2++(L++layG 54 k l):=by
 have:=QcJ hW (H.app L) hN hD most hm
 rw [hr] at this
 subst hk
 rw [Q1 H] at this
 exact this.mono fun o h' q=>by simpa only [GsQ,Q1 H,QrQ,List.append_assoc] using q
end
theorem Qge {tt:TypeId} {h:AH} {m w:Nat} {vw:Nat→G→AV} {vA:G→AV} (hv:∀ n g,(vw n g).cells.length=w) (hA:∀ g,(vA g).cells.length=w)
  (hp:∀ n g,m≤n→At h n (layA tt n g.args)→∀ (j:Nat) a a',(vw n g).cells[j]? = some a→(vA g).cells[j]? = some a'→Melt h m a a'):∀ (n:Nat) (l:List G),m≤n→At h n (layG tt n l) →
  (flat (vs vA l)).length=(flat (lvG vw n l)).length∧∀ (j:Nat) a a',(flat (lvG vw n l))[j]? = some a→(flat (vs vA l))[j]? = some a'→Melt h m a a'
 |n,[],_,_=>⟨rfl,fun j a a' h1=>by simp [lvG,flat] at h1⟩
 |n,g::l,hm,H=>by
  rw [layG] at H
  have h1:At h (n+1) (layA tt (n+1) g.args++(.dead::layG tt (n+szs g.args+2) l)):=At.right (L:=[.dead]) H rfl
  have h2:=h1.right (m:=n+1+szs g.args) (by rw [XZ])
  have h3:At h (n+szs g.args+2) (layG tt (n+szs g.args+2) l):=by
   have:=At.right (L:=[.dead]) (m:=n+1+szs g.args+1) h2 rfl
   rwa [show n+1+szs g.args+1=n+szs g.args+2 by omega] at this
  obtain ⟨h4,h5⟩:=Qge hv hA hp (n+szs g.args+2) l (by omega) h3
  rw [QoK,lvG]
  refine ⟨by rw [Q2,Q2,List.length_append,List.length_append,h4,hv,hA],fun j a a' ha hb=>?_⟩
  rw [Q2,List.getElem?_append,hv] at ha
  rw [Q2,List.getElem?_append,hA] at hb
  split at ha
  ·rename_i hj;rw [if_pos hj] at hb;exact hp _ g (by omega) h1.left j a a' ha hb
  ·rename_i hj;rw [if_neg hj] at hb;exact h5 _ a a' ha hb
theorem QlB {tt:TypeId} {h:AH} {m w n:Nat} {vw:Nat→G→AV} {vA:G→AV} (hv:∀ n g,(vw n g).cells.length=w) (hA:∀ g,(vA g).cells.length=w)
  (hp:∀ n g,m≤n→At h n (layA tt n g.args)→∀ (j:Nat) a a',(vw n g).cells[j]? = some a→(vA g).cells[j]? = some a'→Melt h m a a') (l:List G) (hm:m≤n) (H:At h n (layG tt n l)):Melt h m (sG vw w n l) (.sl w (vs vA l) none):=by
 cases l with
 |nil=>exact .nil w
 |cons g l =>
  obtain ⟨h1,h2⟩:=Qge hv hA hp n (g::l) hm H
  rw [QeY vw w n (by simp)]
  refine .sl (by rw [Y5,Yn]) (fun y hy=>?_) h1 h2
  obtain ⟨x,_,rfl⟩:=List.mem_map.1 hy
  exact hA x
theorem Qlz {tt:TypeId} {h:AH} {m n:Nat} (l:List G) (hm:m≤n) (H:At h n (layG tt n l)):Melt h m (sG av 2 n l) (.sl 2 (vs G.atom l) none) :=
 QlB (vw:=av) (vA:=G.atom) (fun _ _=>rfl) (fun _=>rfl) (fun n g hm hA j a a' h1 h3=>by
  match j,h1,h3 with
  |0,h1,h3=>cases h1;cases h3;exact .keep (.v _)
  |1,h1,h3=>cases h1;cases h3;exact Qec hm hA
  |j+2,h1,h3=>simp [av,AV.cells] at h1) l hm H
theorem QlA {tt:TypeId} {h:AH} {m n:Nat} (l:List G) (hm:m≤n) (H:At h n (layG tt n l)):Melt h m (sG gv 3 n l) (.sl 3 (vs G.goal l) none) :=
 QlB (vw:=gv) (vA:=G.goal) (fun _ _=>rfl) (fun _=>rfl) (fun n g hm hA j a a' h1 h3=>by
  match j,h1,h3 with
  |0,h1,h3=>cases h1;cases h3;exact .keep (.v _)
  |1,h1,h3=>cases h1;cases h3;exact .keep (.v _)
  |2,h1,h3=>cases h1;cases h3;exact Qec hm hA
  |j+3,h1,h3=>simp [gv,AV.cells] at h1) l hm H
theorem Qie {vw:Nat→G→AV} (hv:∀ n s g,vw n (gG s g).1=vw n g):∀ (n:Nat) (s:List Int) (l:List G),lvG vw n (Xl gG s l).1=lvG vw n l
 |n,s,[]=>rfl
 |n,s,g::l=>by
  simp only [Xl,lvG]
  rw [hv,Qie hv _ _ l,show (gG s g).1.args=(Xt gNum s g.args).1 from rfl,Yy]
theorem QnV {vw:Nat→G→AV} (hv:∀ n s g,vw n (gG s g).1=vw n g) (w n:Nat) (s:List Int) (l:List G):sG vw w n (Xl gG s l).1=sG vw w n l:=by
 cases l with
 |nil=>rfl
 |cons g l =>
  rw [QeY vw w n (l:=g::l) (by simp),QeY vw w n (l:=(Xl gG s (g::l)).1) (by simp [Xl]),Qie hv]
theorem QoR (n:Nat) (s:List Int) (g:G):av n (gG s g).1=av n g:=by simp only [av,gG,Qeb]
theorem QnK (n:Nat) (s:List Int) (g:G):gv n (gG s g).1=gv n g:=by simp only [gv,gG,Qeb]
section
variable {P:Pz} {s:PS} {own:Option Nat} {m:List (ByteArray×AV)} {X:AH} (HP:PIn P X s own m) (hW:Wst P.all ⟨s.toks,[]⟩) (hN:P.all.length≤1000000) (hD:TkOk P.all)
include HP hW hN hD
theorem Qnv (Q:AOut→AH→Prop) (hQe:∀ p e h',ZZ s = .err p e→ErrY X P h'→Q (.panic (Fl p e)) h') (hQo:∀ r s6 o h',ZZ s = .ok r s6→RuR X P r s6 o h'→Q o h'):QJ Tryd.prog 20 [.ptr P.i 0 0] X Q:=by
 have hz:∀ z,PIn P (X++[z]) s own m:=fun z=>⟨by rw [List.getElem?_append_left (Qt HP.i)];exact HP.i,by rw [List.getElem?_append_left (Qt HP.j)];exact HP.j⟩
 obtain ⟨Z,hZ⟩:∃ Z,Z=rB {data:=#[]} nilV nilV nilV nilV:=⟨_,rfl⟩
 have cc:=QjD (hz Z)
 have HB:=(hz Z).ok [] .dead
 obtain ⟨B,hB⟩:∃ B,B=X++[Z]++[AB.dead]:=⟨_,rfl⟩
 have hBl:B.length=X.length+2:=by rw [hB];simp
 obtain ⟨P2,hP2⟩:∃ P2,P2=P.to (X++[Z]).length:=⟨_,rfl⟩
 rw [← hB,← hP2] at HB cc
 have ei:P2.i=P.i:=by rw [hP2];rfl
 have eall:P2.all=P.all:=by rw [hP2];rfl
 rw [← ei]
 rw [← eall] at hW hN hD
 rw [← ei] at cc
 have f1:=QS B P2
 have f3:=Xr B P2
 have f4:=XY B P2
 have f5:=Xe B P2
 have f6:=XC B P2
 generalize hs0:(⟨s.toks,[]⟩:PS)=s0 at *
 have hEY:∀ s' L,ErrY X P (ph B P2 s'++L):=fun s' L=>by
  have bg:P2.g=X.length+1:=by rw [hP2];simp [Pz.to]
  have ej:P2.j=P.j:=by rw [hP2];rfl
  refine ⟨by rw [List.length_append,QS];omega,fun i h1 h2 h3=>?_⟩
  rw [List.getElem?_append_left (by rw [QS];omega),Zn HB (by rw [ei];exact h2) (by rw [ej];exact h3) (by omega),hB,List.append_assoc,List.getElem?_append_left h1]
 have hErr:∀ p e s' L,Zl s0 = .err p e→Q (.panic (Fl p e)) (ph B P2 s'++L):=fun p e s' L hh=>hQe p e _ (by rw [ZZ,hs0,hh];rfl) (hEY s' L)
 have hX0:∀ L,(ph B P2 s0++L)[P2.i]? = some (pN P2 s0 (some P2.g)):=fun L=>ph_i HB s0 L
 have ca:=fun L=>Qjv hW (hX0 L) hN
 have cn:=fun L=>QjY hW (hX0 L)
 have hi:=ph_i HB s0
 simp only [pB] at hi
 have e1:=Tk.Qp9 s0.tk
 have e2:=Tk.Qqa s0.tk
 have e3:=Tk.Qp9 s0.nx.tk
 have e4:=Tk.Qqa s0.nx.tk
 rw [rB] at hZ
 subst hZ
 refine Qe Tryd.func20 rfl Tryd.call20 Tryd.ntmps20 (congrArg Array.toList Tryd.results20) (by simp) ?_
 iterate 7 (try (first|((first|(with_reducible (first|refine Qa fun K E hK hE=>?_|refine FunW.ret (FunW.call cc) ?_)));simp -implicitDefEqProofs only [Qc,Qd,OpW,QE,aop,undef,AS.ev,Qq,AV.Qp8,↓reduceIte,zi34,f1,seval])|((with_reducible refine hK _ ?_);clear hK)))
 have hAt:s0.nx.is sAt=(s0.nx.tk.kind==4&&(s0.nx.tk.text.toList==sAt)):=rfl
 refine QX (fun st=>∃ name s1,Zl s0=bodyT name s1∧Wst P2.all s1∧st.tm 0 = .ptr P2.i 0 0∧st.tm 2 = .ptr X.length 0 0∧st.tm 3 = .ptr B.length 0 0∧∃ x4,st.h=ph B P2 s1++[rB name nilV nilV nilV nilV,x4]) ?_ ?_
 ·rintro ⟨tm,hp⟩ ⟨name,s1,hpart,hW1,t0,t2,t3,x4,rfl⟩
  simp only at t0 t2 t3
  have hErr2:∀ p e s' L,bodyT name s1 = .err p e→Q (.panic (Fl p e)) (ph B P2 s'++L):=fun p e s' L hh=>hErr p e s' L (by rw [hpart,hh])
  clear hErr
  refine QX (fun st=>st.tm 0 = .ptr P2.i 0 0∧st.tm 2 = .ptr X.length 0 0∧st.tm 3 = .ptr B.length 0 0∧∃ l s2,Yp 0 s1 = .ok l s2∧st.tm 5 = .sl 2 (lvG av (B.length+2) l) none∧st.h=ph B P2 s2++(rB name nilV nilV nilV nilV::x4::layG 54 (B.length+2) l)) ?_ ?_
  ·rintro ⟨tm,hp⟩ ⟨t0,t2,t3,l,s2,hr,t5,rfl⟩
   simp only at t0 t2 t3 t5
   obtain ⟨hS1,hl4,hl0⟩:=QhF hr
   have hW2:Wst P2.all s2:=Kp.Ps.ok (n:=wdOf P2.all) (Kp.heads_ps trivial 0) hW1 hr
   have hB1:bodyT name s1=if s2.is Qat then Zm name [] l s2.nx else if s2.is QeZ then Zm name l [] s2.nx else
     if s2.is QeX then (Yp l.length s2.nx).bind fun rem s=>(XU Qat s).bind fun _ s=>Zm name l rem s else .err s2.tk.pos 16:=by rw [bodyT,hr];rfl
   have hl1:l≠[]:=by rintro rfl;simp at hl0
   have hsl:=QeY av 2 (B.length+2) hl1
   have hAl:∀ (x y:AB) (M:AH) (s:PS),At (ph B P2 s++(x::y::(layG 54 (B.length+2) l++M))) (B.length+2) (layG 54 (B.length+2) l):=fun x y M s=>At.base (At.mid [x,y] _ M rfl) (QS B P2 s)
   have hlvl:=Yn av (B.length+2) l
   have bSimp:({data:=#[60,61,62]}:ByteArray).toList=Qat:=tl Qat
   have bProp:({data:=#[61,61,62]}:ByteArray).toList=QeZ:=tl QeZ
   have bBack:({data:=#[92]}:ByteArray).toList=QeX:=tl QeX
   have hi2:=ph_i HB s2
   simp only [pB] at hi2
   refine QX (fun st=>∃ keep remove s3 nk nr x4 M,bodyT name s1=Zm name keep remove s3∧Wst P2.all s3∧SmG keep∧SmG remove∧st.tm 0 = .ptr P2.i 0 0∧st.tm 2 = .ptr X.length 0 0∧st.tm 3 = .ptr B.length 0 0 ∧
    st.h=ph B P2 s3++(rB name (sG av 2 nk keep) (sG av 2 nr remove) nilV nilV::x4::M)∧At st.h nk (layG 54 nk keep)∧At st.h nr (layG 54 nr remove)∧B.length+2≤nk∧nk+gsz keep≤nr∧nr+gsz remove≤B.length+2+M.length) ?_ ?_
   ·rintro ⟨tm,hp⟩ ⟨keep,remove,s3,nk,nr,x5,M,hb3,hW3,hSk,hSr,t0,t2,t3,hh,hAk,hAr,o1,o2,o3⟩
    simp only at t0 t2 t3 hh hAk hAr
    subst hh
    have hErr3:∀ p e s' L,Zm name keep remove s3 = .err p e→Q (.panic (Fl p e)) (ph B P2 s'++L):=fun p e s' L hh=>hErr2 p e s' L (by rw [hb3,hh])
    refine QX (fun st=>∃ b s4,Yo 12 s3 = .ok b s4∧RH B P2 X s4 ⟨name,keep,remove,[],b,0⟩ st) ?_ ?_
    ·rintro ⟨tm,hp⟩ ⟨b,s4,hr3,t0,t2,t3,hW4,hSk,hSr,_,hSb,nk,nr,ng,nb,x5,M,hh,hAk,hAr,hAg,hAb,o1,o2,o3,o4,o5⟩
     simp only at t0 t2 t3 hh hAk hAr hAg hAb o2 o3 o4 o5 hSk hSr hSb
     subst hh
     have hb0:=Qdv hr3
     have hT:Zm name keep remove s3=if s4.is sBar then (Yo 12 s4.nx).bind fun b2 s=>finT name keep remove b b2 s else finT name keep remove [] b s4:=by rw [Qjb,hr3];rfl
     have bBar:({data:=#[124]}:ByteArray).toList=sBar:=tl sBar
     have hi4:=ph_i HB s4
     simp only [pB] at hi4
     have hz0:gsz []=0:=rfl
     refine QX (fun st=>∃ g b2 s5,Zm name keep remove s3=finT name keep remove g b2 s5∧RH B P2 X s5 ⟨name,keep,remove,g,b2,0⟩ st) ?_ ?_
     ·rintro ⟨tm,hp⟩ ⟨g,b2,s5,hT2,t0,t2,t3,hW5,hSk,hSr,hSg,hSb2,nk,nr,ng,nb,x6,M,hh,hAk,hAr,hAg,hAb,o1,o2,o3,o4,o5⟩
      simp only at t0 t2 t3 hh hAk hAr hAg hAb o2 o3 o4 o5 hSk hSr hSg hSb2
      subst hh
      have bDot:({data:=#[46]}:ByteArray).toList=sDot:=tl sDot
      have hi5:=ph_i HB s5
      simp only [pB] at hi5
      refine QX (fun st=>s5.is sDot=true∧RH B P2 X s5.nx ⟨name,keep,remove,g,b2,0⟩ st) ?_ ?_
      ·rintro ⟨tm,hp⟩ ⟨hdot,t0,t2,t3,hW6,hSk,hSr,hSg,hSb2,nk,nr,ng,nb,x6,M,hh,hAk,hAr,hAg,hAb,o1,o2,o3,o4,o5⟩
       simp only at t0 t2 t3 hh hAk hAr hAg hAb o2 o3 o4 o5 hSk hSr hSg hSb2
       subst hh
       have hT3:Zm name keep remove s3 = .ok ⟨name,keep,remove,g,QjK b2,0⟩ s5.nx:=by rw [hT2,finT,XU,if_pos hdot];rfl
       refine QX (fun st=>∃ r s6,Zm name keep remove s3 = .ok r s6∧r.vars=0∧RH B P2 X s6 r st) ?_ ?_
       ·rintro ⟨tm,hp⟩ ⟨⟨name2,keep2,remove2,g2,b4,vars2⟩,s6,hT4,hv0,t0,t2,t3,hW7,hSk2,hSr2,hSg2,hSb4,nk,nr,ng,nb,x7,M,hh,hAk,hAr,hAg,hAb,o1,o2,o3,o4,o5⟩
        simp only at t0 t2 t3 hh hAk hAr hAg hAb o2 o3 o4 o5 hSk2 hSr2 hSg2 hSb4 hv0
        subst hv0
        have bi:P2.i<X.length:=by rw [ei];exact Qt HP.i
        have bj:P2.j<X.length:=by rw [hP2];exact Qt HP.j
        have bij:P2.i≠P2.j:=HB.ij
        have bg:P2.g=X.length+1:=by rw [hP2];simp [Pz.to]
        have hi6:=ph_i HB s6
        refine QaZ P2.i 66 4 [.agg [.sl 3 (tks P2.all) none,.i ((P2.all.length - s6.toks.length:Nat):Int),.sl 1 (strs s6.names) (some P2.g),.mp P2.j]] [.agg [.sl 3 (tks P2.all) none,.i ((P2.all.length - s6.toks.length:Nat):Int),.sl 1 (strs s6.names) none,.mp P2.j]] 2
         (Wk.sl rfl (fun y hy=>by obtain ⟨x,_,rfl⟩:=List.mem_map.1 hy;rfl) (WkL.refl _)) (by rw [hh];exact hi6 _) rfl rfl (fun x hx=>by rw [List.mem_singleton] at hx;subst hx;rfl) ?_
        have hq0:hp.length=B.length+2+M.length:=by rw [hh,List.length_append,QS];simp only [Qrc];omega
        generalize hX9:hp.set P2.i _=X9 at *
        have hq:X9.length=B.length+2+M.length:=by rw [← hX9,List.length_set,hq0]
        have hXo:∀ i,i≠P2.i→X9[i]? = hp[i]? := fun i h=>by rw [← hX9,List.getElem?_set_ne (Ne.symm h)]
        have hXi:X9[P2.i]? = some (pN P2 s6 none):=by rw [← hX9,List.getElem?_set_self (by omega)];rfl
        have hr0:X9[B.length]? = some (.cells 34 6 [.agg [.v (.string name2),sG av 2 nk keep2,sG av 2 nr remove2,sG gv 3 ng g2,sG gv 3 nb b4,.i 0]]):=by rw [hXo _ (by omega),hh,f3];rfl
        replace hAk:=hAk.keep (Y:=X9) fun i i1 i2=>hXo i (by omega)
        replace hAr:=hAr.keep (Y:=X9) fun i i1 i2=>hXo i (by omega)
        replace hAg:=hAg.keep (Y:=X9) fun i i1 i2=>hXo i (by omega)
        replace hAb:=hAb.keep (Y:=X9) fun i i1 i2=>hXo i (by omega)
        have hlow:∀ i,i<X.length→X9[i]? = ((X.set P.i (pN P s6 none)).set P.j (kB s6))[i]? := fun i i1=>by
         have ej:P2.j=P.j:=by rw [hP2];rfl
         have ePN:pN P2 s6 none=pN P s6 none:=by rw [hP2];rfl
         rw [← ei,← ej,← ePN]
         by_cases c1:i=P2.i
         ·subst c1
          rw [hXi,List.getElem?_set_ne (Ne.symm bij),List.getElem?_set_self bi]
         ·rw [hXo i c1,hh,List.getElem?_append_left (by rw [QS];omega)]
          by_cases c2:i=P2.j
          ·subst c2
           rw [Qot HB,List.getElem?_set_self (by rw [List.length_set];exact bj)]
          ·rw [Zn HB c1 c2 (by omega),List.getElem?_set_ne (Ne.symm c2),List.getElem?_set_ne (Ne.symm c1),hB,List.append_assoc,List.getElem?_append_left i1]
        have hresX:X9[X.length]? = some (.cells 34 6 [.agg [.v (.string {data:=#[]}),nilV,nilV,nilV,nilV,.i 0]]):=by
         rw [hXo _ (by omega),hh,List.getElem?_append_left (by rw [QS];omega),Zn HB (by omega) (by omega) (by omega),hB,List.append_assoc,Z4];rfl
        obtain ⟨q,hqq⟩:∃ q,q=X9.length:=⟨_,rfl⟩
        have hrL:∀ L:AH,(X9++L)[B.length]? = _:=fun L=>hext hr0 L
        iterate 2 (try (first|(((with_reducible refine Qa fun K E hK hE=>?_));simp -implicitDefEqProofs only [Qc,Qd,OpW,aop,AV.Qp8,↓reduceIte,zi84,seval])|((with_reducible refine hK _ ?_);clear hK)))
        refine Yr X9.length 84 2 1 (.grow 3 1 0) (.inr ⟨_,rfl⟩) [.agg [.v (.map none),.v (.slice none 0 0)]] [.agg [.v (.map none),.sl 1 [] (some (X9.length+1))]] 1 (by rw [List.getElem?_append_right (Nat.le_refl _),Nat.sub_self];rfl) rfl (by rw [List.length_append];rfl) (by simp [AV.cells]) ?_
        have hZ:((X9++[AB.cells 84 2 [.agg [.v (.map none),.v (.slice none 0 0)]]])++[AB.grow 3 1 0]).set X9.length (AB.cells 84 2 [.agg [.v (.map none),.sl 1 [] (some (X9.length+1))]])=X9++[AB.cells 84 2 [.agg [.v (.map none),.sl 1 [] (some (X9.length+1))]],AB.grow 3 1 0]:=by
         rw [List.append_assoc,List.set_append_right _ _ (Nat.le_refl _),Nat.sub_self];rfl
        have hN0:NSt (X9++[AB.cells 84 2 [.agg [.v (.map none),.sl 1 [] (some (X9.length+1))]],.grow 3 1 0]) X9.length []:=⟨.v (.map none),by rw [List.getElem?_append_right (Nat.le_refl _),Nat.sub_self];rfl,by rw [List.getElem?_append_right (by omega),Nat.add_sub_cancel_left];rfl,.inl ⟨rfl,rfl⟩⟩
        rw [hZ]
        obtain ⟨Z0,hZ0⟩:∃ Z0,Z0=X9++[AB.cells 84 2 [.agg [.v (.map none),.sl 1 [] (some (X9.length+1))]],AB.grow 3 1 0]:=⟨_,rfl⟩
        have hl0:X9.length+1<Z0.length:=by rw [hZ0,List.length_append];simp
        have hr1:Z0[B.length]? = some (.cells 34 6 [.agg [.v (.string name2),sG av 2 nk keep2,sG av 2 nr remove2,sG gv 3 ng g2,sG gv 3 nb b4,.i 0]]):=by rw [hZ0];exact hrL _
        have hA1:At Z0 nk (layG 54 nk keep2):=by rw [hZ0];exact hAk.app _
        have hA2:At Z0 nr (layG 54 nr remove2):=by rw [hZ0];exact hAr.app _
        have hA3:At Z0 ng (layG 54 ng g2):=by rw [hZ0];exact hAg.app _
        have hA4:At Z0 nb (layG 54 nb b4):=by rw [hZ0];exact hAb.app _
        rw [← hZ0] at hN0
        rw [← hZ0]
        have c1:=retQ (QgK keep2 hSk2.1 Z0 X9.length nk [] (by have:=hSk2.2.2;omega) (by have:=hSk2.2.1;simp only [Qrd];omega) (by omega) hl0 hN0 hA1)
        have hlk:=QaH [] keep2
        have hlr:=QaH (Xl gG [] keep2).2 remove2
        have hlg:=QaH (Xl gG (Xl gG [] keep2).2 remove2).2 g2
        have hnd1:=hSk2.2.1
        have hnd2:=hSr2.2.1
        have hnd3:=hSg2.2.1
        have hnd4:=hSb4.2.1
        simp only [Qrd] at hlk
        repeat (first|((first|(with_reducible (first|refine Qa fun K E hK hE=>?_|refine FunW.retE (FunW.call c1) fun Y=>?_)));simp -implicitDefEqProofs only [Qc,Qd,OpW,QE,aop,XL,AS.ev,↓reduceIte,Qg,Qw,Qv,ti31,Qby,Qb7,t3,hr1,seval])|((with_reducible refine hK _ ?_);clear hK))
        have hY:=Y.2
        generalize Y.1=Y1 at *
        obtain ⟨_,p1,n1,a1⟩:=hY
        have l1:X9.length+1<Y1.length:=by have:=p1.long;omega
        have r1:Y1[B.length]? = some (.cells 34 6 [.agg [.v (.string name2),sG av 2 nk keep2,sG av 2 nr remove2,sG gv 3 ng g2,sG gv 3 nb b4,.i 0]]):=by rw [p1.out _ (by omega) (by omega)];exact hr1
        have b2:At Y1 nr (layG 54 nr remove2):=hA2.keep fun i i1 i2=>p1.out i (by rw [QN] at i2;omega) (by rw [QN] at i2;omega)
        have b3:At Y1 ng (layG 54 ng g2):=hA3.keep fun i i1 i2=>p1.out i (by rw [QN] at i2;omega) (by rw [QN] at i2;omega)
        have b5:At Y1 nb (layG 54 nb b4):=hA4.keep fun i i1 i2=>p1.out i (by rw [QN] at i2;omega) (by rw [QN] at i2;omega)
        have c2:=retQ (QgK remove2 hSr2.1 Y1 X9.length nr _ (by have:=hSr2.2.2;omega) (by omega) (by omega) l1 n1 b2)
        simp -implicitDefEqProofs only [QbZ,QqZ,Qq0,Qq1,r1]
        repeat (first|((first|(with_reducible (first|refine Qa fun K E hK hE=>?_|refine FunW.retE (FunW.call c2) fun Y=>?_)));simp -implicitDefEqProofs only [Qc,Qd,OpW,QE,aop,XL,AS.ev,↓reduceIte,Qg,Qw,Qv,ti32,Qa2,t3,seval])|((with_reducible refine hK _ ?_);clear hK))
        have hY:=Y.2
        generalize Y.1=Y2 at *
        obtain ⟨_,p2,n2,a2⟩:=hY
        have l2:X9.length+1<Y2.length:=by have:=p2.long;omega
        have r2:Y2[B.length]? = some (.cells 34 6 [.agg [.v (.string name2),sG av 2 nk keep2,sG av 2 nr remove2,sG gv 3 ng g2,sG gv 3 nb b4,.i 0]]):=by rw [p2.out _ (by omega) (by omega)];exact r1
        have d1:At Y2 nk (layG 54 nk (Xl gG [] keep2).1):=a1.keep fun i i1 i2=>p2.out i (by rw [QN,Ye] at i2;omega) (by rw [QN,Ye] at i2;omega)
        have d3:At Y2 ng (layG 54 ng g2):=b3.keep fun i i1 i2=>p2.out i (by rw [QN] at i2;omega) (by rw [QN] at i2;omega)
        have d4:At Y2 nb (layG 54 nb b4):=b5.keep fun i i1 i2=>p2.out i (by rw [QN] at i2;omega) (by rw [QN] at i2;omega)
        have c3:=retQ (Qd1 g2 hSg2.1 Y2 X9.length ng _ (by have:=hSg2.2.2;omega) (by omega) (by omega) l2 n2 d3)
        simp -implicitDefEqProofs only [QbZ,QqZ,Qq0,Qq1,r2]
        repeat (first|((first|(with_reducible (first|refine Qa fun K E hK hE=>?_|refine FunW.retE (FunW.call c3) fun Y=>?_)));simp -implicitDefEqProofs only [Qc,Qd,OpW,QE,aop,XL,AS.ev,↓reduceIte,Qg,Qw,Qv,ti32,ZQ,t3,seval])|((with_reducible refine hK _ ?_);clear hK))
        have hY:=Y.2
        generalize Y.1=Y3 at *
        obtain ⟨_,p3,n3,a3⟩:=hY
        have l3:X9.length+1<Y3.length:=by have:=p3.long;omega
        have r3:Y3[B.length]? = some (.cells 34 6 [.agg [.v (.string name2),sG av 2 nk keep2,sG av 2 nr remove2,sG gv 3 ng g2,sG gv 3 nb b4,.i 0]]):=by rw [p3.out _ (by omega) (by omega)];exact r2
        have m1:At Y3 nk (layG 54 nk (Xl gG [] keep2).1):=d1.keep fun i i1 i2=>p3.out i (by rw [QN,Ye] at i2;omega) (by rw [QN,Ye] at i2;omega)
        have m2:=a2.keep (Y:=Y3) fun i i1 i2=>p3.out i (by rw [QN,Ye] at i2;omega) (by rw [QN,Ye] at i2;omega)
        have m4:At Y3 nb (layG 54 nb b4):=d4.keep fun i i1 i2=>p3.out i (by rw [QN] at i2;omega) (by rw [QN] at i2;omega)
        have c4:=retQ (Qd1 b4 hSb4.1 Y3 X9.length nb _ (by have:=hSb4.2.2;omega) (by omega) (by omega) l3 n3 m4)
        simp -implicitDefEqProofs only [QbZ,QqZ,Qq0,Qq1,r3]
        repeat (first|((first|(with_reducible (first|refine Qa fun K E hK hE=>?_|refine FunW.retE (FunW.call c4) fun Y=>?_)));simp -implicitDefEqProofs only [Qc,Qd,OpW,QE,aop,undef,XL,AS.ev,AV.Qp8,↓reduceIte,Qg,Qw,Qv,QB,Qp,aLen,goInt,ti3,Qk6,ti82,un82,QdW,t3,seval])|((with_reducible refine hK _ ?_);clear hK))
        have hY:=Y.2
        generalize Y.1=Y4 at *
        obtain ⟨_,p4,n4,a4⟩:=hY
        have hb4l:=QaH (Xl gG (Xl gG (Xl gG [] keep2).2 remove2).2 g2).2 b4
        have w1:=m1.keep (Y:=Y4) fun i i1 i2=>p4.out i (by rw [QN,Ye] at i2;omega) (by rw [QN,Ye] at i2;omega)
        have w2:=m2.keep (Y:=Y4) fun i i1 i2=>p4.out i (by rw [QN,Ye] at i2;omega) (by rw [QN,Ye] at i2;omega)
        have w3:=a3.keep (Y:=Y4) fun i i1 i2=>p4.out i (by rw [QN,Ye] at i2;omega) (by rw [QN,Ye] at i2;omega)
        have r4:Y4[B.length]? = some (.cells 34 6 [.agg [.v (.string name2),sG av 2 nk keep2,sG av 2 nr remove2,sG gv 3 ng g2,sG gv 3 nb b4,.i 0]]):=by rw [p4.out _ (by omega) (by omega)];exact r3
        have rlow:∀ i,i<B.length→Y4[i]? = X9[i]? := fun i i1=>by
         rw [p4.out i (by omega) (by omega),p3.out i (by omega) (by omega),p2.out i (by omega) (by omega),p1.out i (by omega) (by omega),hZ0,List.getElem?_append_left (by omega)]
        have rX:Y4[X.length]? = some (.cells 34 6 [.agg [.v (.string {data:=#[]}),nilV,nilV,nilV,nilV,.i 0]]):=by rw [rlow _ (by omega)];exact hresX
        obtain ⟨toV,z1,z2,z3⟩:=n4
        have l4:B.length+2≤Y4.length:=by have:=Qt z1;omega
        have u1:∀ y,(Y4.set B.length y)[B.length]? = some y:=fun y=>List.getElem?_set_self (by omega)
        have u2:∀ y,(Y4.set B.length y)[X.length]? = some (.cells 34 6 [.agg [.v (.string {data:=#[]}),nilV,nilV,nilV,nilV,.i 0]]):=fun y=>by rw [List.getElem?_set_ne (by omega)];exact rX
        have u3:∀ y z,((Y4.set B.length y).set X.length z)[X.length]? = some z:=fun y z=>List.getElem?_set_self (by rw [List.length_set];omega)
        simp -implicitDefEqProofs only [Qc,↓reduceIte,r4,z1,seval]
        repeat (first|(((with_reducible refine Qa fun K E hK hE=>?_));simp -implicitDefEqProofs only [Qc,Qd,OpW,aop,undef,AS.ev,AV.Qp8,↓reduceIte,Qw,Qv,QB,Qp,ti34,t2,t3,u1,u2,Qcu,seval])|(with_reducible refine Ql ?_)|((with_reducible refine hK _ ?_);clear hK))
        simp -implicitDefEqProofs only [Qc,↓reduceIte,Qw,Qv,ti34,t2,Qw,Qv,u3,QF,Qn,Qr,Qq9,seval]
        have nl:=Qj0 ⟨name2,keep2,remove2,g2,b4,0⟩
        have hsx:∀ (y z:AB) (i:Nat),i≠B.length→i≠X.length→((Y4.set B.length y).set X.length z)[i]? = Y4[i]? := fun y z i i1 i2=>by rw [List.getElem?_set_ne (Ne.symm i2),List.getElem?_set_ne (Ne.symm i1)]
        refine .inr (hQo _ s6 _ _ (by rw [ZZ,hs0,hpart,hb3,hT4];rfl) ?_)
        rw [nl]
        exact ⟨nk,nr,ng,nb,by simp only [QnV QoR,QnV QnK],by omega,by omega,by omega,by omega,w1.keep fun i i1 i2=>hsx _ _ i (by omega) (by omega),w2.keep fun i i1 i2=>hsx _ _ i (by omega) (by omega),w3.keep fun i i1 i2=>hsx _ _ i (by omega) (by omega),a4.keep fun i i1 i2=>hsx _ _ i (by omega) (by omega),by simp only [List.length_set];omega,List.ext_getElem? fun i=>by
         by_cases i1:i<X.length
         ·rw [List.getElem?_take_of_lt i1,hsx _ _ i (by omega) (by omega),rlow i (by omega),hlow i i1]
         ·rw [List.getElem?_take_eq_none (by omega),List.getElem?_eq_none (by simp only [List.length_set];omega)]⟩
       ·have hnl:=fun t'=>Qck Tryd.prog 32 t' 52 (by kernel_rfl)
        rcases b2 with _|⟨x,_|⟨y,l⟩⟩
        ·simp only [Qpy]
         have z0:((0:Int)==1)=false:=rfl
         repeat (first|(((with_reducible refine Qa fun K E hK hE=>?_));simp -implicitDefEqProofs only [Qc,Qd,OpW,aop,undef,AS.ev,↓reduceIte,Qg,Qw,Qv,aBin,aLen,goInt,ti32,ZQ,t3,rB,f3,hnl,z0,seval])|(with_reducible (first|refine Qm ?_|refine Qb ?_))|((with_reducible refine hK _ ?_);clear hK)|(refine Qh rfl ?_;simp only [↓reduceIte,Qq3]))
         exact ⟨_,_,hT3,rfl,t0,t2,t3,hW6,hSk,hSr,hSg,QcV,nk,nr,ng,nb,x6,M,rfl,hAk,hAr,hAg,At.nil _ _,o1,o2,o3,o4,o5⟩
        ·have hv:sG gv 3 nb [x] = .sl 3 [gv (nb+1) x] none:=rfl
         have e7:(gv (nb+1) x).cells=[.i x.op,.v (.string x.name),lsl (nb+1) x.args]:=rfl
         have e8:(gv (nb+1) x).isAgg=true:=rfl
         have u1:((((1:Nat):Int))==1)=true:=rfl
         have u2:(0:Int)<((1:Nat):Int):=by decide
         by_cases hx1:x.op=1
         ·have z1:(x.op==1)=true:=by simpa using hx1
          repeat (first|((first|(with_reducible (first|refine Qa fun K E hK hE=>?_|refine Qk fun K E hK hE=>?_)));simp -implicitDefEqProofs only [Qc,Qd,OpW,aop,undef,AS.ev,AV.Qp8,↓reduceIte,Qg,Qw,Qv,QB,Qp,QK,aBin,aLen,goInt,ti3,ti32,ei32,un32,ZQ,X4,QrM,t3,rB,f3,f5,hv,e7,z1,u1,u2,seval])|(with_reducible refine Qb ?_)|((with_reducible refine hK _ ?_);clear hK)|(refine Qh rfl ?_;simp only [↓reduceIte]))
          have hd:QjK [x]=[]:=by simp [QjK,hx1]
          rw [hd] at hT3
          have q1:nk+(layG 54 nk keep).length≤B.length+2+M.length:=by rw [QN];omega
          have q2:nr+(layG 54 nr remove).length≤B.length+2+M.length:=by rw [QN];omega
          have q3:ng+(layG 54 ng g).length≤B.length+2+M.length:=by rw [QN];omega
          have q5:B.length+2≤nr:=by omega
          have q6:B.length+2≤ng:=by omega
          have q7:nb+gsz []≤B.length+2+M.length:=by rw [hz0];omega
          have k1:=fun x y=>ZM (s':=s5.nx) (a':=x) (b':=y) (N:=[]) hAk o1 q1
          have k2:=fun x y=>ZM (s':=s5.nx) (a':=x) (b':=y) (N:=[]) hAr q5 q2
          have k3:=fun x y=>ZM (s':=s5.nx) (a':=x) (b':=y) (N:=[]) hAg q6 q3
          rw [List.append_nil] at k1 k2 k3
          exact ⟨_,_,hT3,rfl,t0,t2,t3,hW6,hSk,hSr,hSg,QcV,nk,nr,ng,nb,x6,M,rfl,k1 _ _,k2 _ _,k3 _ _,At.nil _ _,o1,o2,o3,o4,q7⟩
         ·have z1:(x.op==1)=false:=by simpa using hx1
          repeat (first|(((with_reducible refine Qa fun K E hK hE=>?_));simp -implicitDefEqProofs only [Qc,Qd,OpW,aop,AS.ev,↓reduceIte,Qg,Qw,Qv,QK,aBin,aLen,goInt,ti3,ti32,ei32,un32,ZQ,X4,QrM,t3,rB,f3,hv,e7,z1,u1,u2,seval])|(with_reducible (first|refine Qm ?_|refine Qb ?_))|((with_reducible refine hK _ ?_);clear hK)|(refine Qh rfl ?_;simp only [↓reduceIte,Qq3]))
          have hd:QjK [x]=[x]:=by simp [QjK,hx1]
          rw [hd] at hT3
          exact ⟨_,_,hT3,rfl,t0,t2,t3,hW6,hSk,hSr,hSg,hSb2,nk,nr,ng,nb,x6,M,rfl,hAk,hAr,hAg,hAb,o1,o2,o3,o4,o5⟩
        ·have hv:sG gv 3 nb (x::y::l) = .sl 3 (lvG gv nb (x::y::l)) none:=rfl
         have hvl:=Yn gv nb (x::y::l)
         have z1:(((l.length+1+1:Nat):Int)==1)=false:=beq_eq_false_iff_ne.2 (by omega)
         have u2:(0:Int)<((l.length+1+1:Nat):Int):=by omega
         repeat (first|(((with_reducible refine Qa fun K E hK hE=>?_));simp -implicitDefEqProofs only [Qc,Qd,OpW,aop,undef,AS.ev,↓reduceIte,Qg,Qw,Qv,aBin,aLen,goInt,ti32,un32,ZQ,t3,rB,f3,hv,hvl,z1,seval])|(with_reducible (first|refine Qm ?_|refine Qb ?_))|((with_reducible refine hK _ ?_);clear hK)|(refine Qh rfl ?_;simp only [↓reduceIte,Qq3]))
         exact ⟨_,_,hT3,rfl,t0,t2,t3,hW6,hSk,hSr,hSg,hSb2,nk,nr,ng,nb,x6,M,rfl,hAk,hAr,hAg,hAb,o1,o2,o3,o4,o5⟩
      ·cases p1:s5.is sDot with
       |true =>
        have cx:=fun L=>XH hW5 HB hN L {data:=#[46]} (by rw [bDot];exact p1)
        repeat (first|((first|(with_reducible (first|refine Qk fun K E hK hE=>?_|refine FunW.ret (FunW.call (cx _)) ?_)));simp -implicitDefEqProofs only [Qc,Qd,OpW,QE,aop,AS.ev,↓reduceIte,Nat.reduceLT,Qg,QI,Qs,t0,rB,hi5])|(with_reducible refine Qb ?_)|((with_reducible refine hK _ ?_);clear hK))
        have q1:nk+(layG 54 nk keep).length≤B.length+2+M.length:=by rw [QN];omega
        have q2:nr+(layG 54 nr remove).length≤B.length+2+M.length:=by rw [QN];omega
        have q3:ng+(layG 54 ng g).length≤B.length+2+M.length:=by rw [QN];omega
        have q4:nb+(layG 54 nb b2).length≤B.length+2+M.length:=by rw [QN];omega
        have q5:B.length+2≤nr:=by omega
        have q6:B.length+2≤ng:=by omega
        have q7:B.length+2≤nb:=by omega
        have k1:=fun x y=>ZM (s':=s5.nx) (a':=x) (b':=y) (N:=[]) hAk o1 q1
        have k2:=fun x y=>ZM (s':=s5.nx) (a':=x) (b':=y) (N:=[]) hAr q5 q2
        have k3:=fun x y=>ZM (s':=s5.nx) (a':=x) (b':=y) (N:=[]) hAg q6 q3
        have k4:=fun x y=>ZM (s':=s5.nx) (a':=x) (b':=y) (N:=[]) hAb q7 q4
        rw [List.append_nil] at k1 k2 k3 k4
        exact ⟨rfl,t0,t2,t3,hW5.nx,hSk,hSr,hSg,hSb2,nk,nr,ng,nb,x6,M,rfl,k1 _ _,k2 _ _,k3 _ _,k4 _ _,o1,o2,o3,o4,o5⟩
       |false =>
        have cx:=fun L=>X3 hW5 HB hN L {data:=#[46]} (by rw [bDot];exact p1)
        repeat (first|((first|(with_reducible (first|refine Qk fun K E hK hE=>?_|refine FunW.pan (FunW.call (cx _)) ?_)));simp -implicitDefEqProofs only [Qc,Qd,OpW,QE,aop,AS.ev,↓reduceIte,Nat.reduceLT,Qg,QI,Qs,t0,rB,hi5])|(with_reducible (first|refine hE _ _ ?_|refine QM ?_)))
        exact .inr (hErr3 _ _ _ _ (by rw [hT2,finT,XU,if_neg (by rw [p1];decide)];rfl))
     ·cases p1:s4.is sBar with
      |false =>
       rw [p1] at hT
       have cs:=fun L=>ZS hW4 HB hN L {data:=#[124]} (by rw [bBar];exact p1)
       repeat (first|((first|(with_reducible (first|refine Qa fun K E hK hE=>?_|refine FunW.ret (FunW.call (cs _)) ?_)));simp -implicitDefEqProofs only [Qc,Qd,OpW,QE,aop,AS.ev,↓reduceIte,Nat.reduceLT,Qg,QI,Qs,t0,rB,hi4])|(with_reducible (first|refine Qm ?_|refine Qb ?_))|((with_reducible refine hK _ ?_);clear hK)|(refine Qh rfl ?_;simp only [↓reduceIte,Qq3]))
       exact ⟨[],b,s4,by rw [hT];rfl,t0,t2,t3,hW4,hSk,hSr,QcV,hSb,nk,nr,ng,nb,x5,M,rfl,hAk,hAr,hAg,hAb,o1,o2,o3,o4,o5⟩
      |true =>
       rw [p1] at hT
       have cs:=fun L=>Zq hW4 HB hN L {data:=#[124]} (by rw [bBar];exact p1)
       have hi5:=ph_i HB s4.nx
       simp only [pB] at hi5
       cases hr4:Yo 12 s4.nx with
       |err p e =>
        have cg:=fun L=>Qfn hW4.nx HB hN hD L (most:=12) (by omega) hr4
        simp only [show ((12:Nat):Int)=12 from rfl] at cg
        repeat (first|((first|(with_reducible (first|refine Qa fun K E hK hE=>?_|refine FunW.ret (FunW.call (cs _)) ?_)));simp -implicitDefEqProofs only [Qc,Qd,OpW,QE,aop,AS.ev,↓reduceIte,Nat.reduceLT,Qg,QI,Qs,t0,rB,hi4])|((with_reducible refine hK _ ?_);clear hK)|(refine Qh rfl ?_;simp only [↓reduceIte]))
        refine Q9 3 [(0,0),(1,0),(2,0),(4,0)] mixed rfl rfl rfl (by kernel_rfl) (fun v h'=>v=Fl p e∧∃ s' L,h'=ph B P2 s'++L) ?_ ?_
        ·rintro tm v h' ⟨rfl,s',L,rfl⟩
         exact .inr (hErr3 _ _ _ _ (by rw [hT];show (Yo 12 s4.nx).bind _=_;rw [hr4];rfl))
        ·simp -implicitDefEqProofs only [Qc,Qd,aop,AS.ev,↓reduceIte,Qg,Qw,Qv,ti32,Qa2,ZQ,t0,t3,f3,seval]
         exact fun _=>(FunW.call (cg _)).mono (by rintro _ _ ⟨rfl,x,rfl⟩;exact ⟨_,rfl,rfl,_,_,rfl⟩)
       |ok b2 s5 =>
        have hW5:Wst P2.all s5:=Kp.Ps.ok (n:=wdOf P2.all) (Kp.goals_ps trivial 12) hW4.nx hr4
        have cg:=fun c d=>Qg3 hW4.nx HB hN hD (c::d::M) (most:=12) (by omega) hr4 (k:=B.length+2+M.length) (by simp only [Qrc];omega)
        simp only [show ((12:Nat):Int)=12 from rfl,Qrr] at cg
        repeat (first|((first|(with_reducible (first|refine Qa fun K E hK hE=>?_|refine FunW.ret (FunW.call (cs _)) ?_)));simp -implicitDefEqProofs only [Qc,Qd,OpW,QE,aop,AS.ev,↓reduceIte,Nat.reduceLT,Qg,QI,Qs,t0,rB,hi4])|((with_reducible refine hK _ ?_);clear hK)|(refine Qh rfl ?_;simp only [↓reduceIte]))
        have q1:nk+(layG 54 nk keep).length≤B.length+2+M.length:=by rw [QN];omega
        have q2:nr+(layG 54 nr remove).length≤B.length+2+M.length:=by rw [QN];omega
        have q3:nb+(layG 54 nb b).length≤B.length+2+M.length:=by rw [QN];omega
        have q4:B.length+2+M.length+gsz b2≤B.length+2+(M++layG 54 (B.length+2+M.length) b2).length:=by rw [List.length_append,QN];omega
        have hb20:=Qdv hr4
        have q5:B.length+2≤nr:=by omega
        have q6:B.length+2≤nb:=by omega
        have q7:nr+gsz remove≤nb:=by omega
        have q8:nb+gsz b≤B.length+2+M.length:=o5
        have hAb2:∀ (x y:AB),At (ph B P2 s5++(x::y::(M++layG 54 (B.length+2+M.length) b2))) (B.length+2+M.length) (layG 54 (B.length+2+M.length) b2):=fun x y=>by
         have:=At.base (At.mid (x::y::M) (layG 54 (B.length+2+M.length) b2) [] (n:=2+M.length) (by simp only [Qrc];omega)) (QS B P2 s5)
         rw [show B.length+(2+M.length)=B.length+2+M.length by omega,List.append_nil] at this
         exact this
        have fin:∀ tm':Nat→AV,tm' 0 = .ptr P2.i 0 0→tm' 2 = .ptr X.length 0 0→tm' 3 = .ptr B.length 0 0→∃ g b6 s6,Zm name keep remove s3=finT name keep remove g b6 s6∧RH B P2 X s6 ⟨name,keep,remove,g,b6,0⟩ ⟨tm',ph B P2 s5++(AB.cells 34 6 [.agg [.v (.string name),sG av 2 nk keep,sG av 2 nr remove,sG gv 3 nb b,.sl 3 (lvG gv (B.length+2+M.length) b2) none,.i 0]]::x5::(M++layG 54 (B.length+2+M.length) b2))⟩:=fun tm' k0 k2 k3 =>
         ⟨b,b2,s5,by rw [hT];show (Yo 12 s4.nx).bind _=_;rw [hr4];rfl,k0,k2,k3,hW5,hSk,hSr,hSb,QhE (Nat.le_refl _) hr4,nk,nr,nb,B.length+2+M.length,x5,M++layG 54 (B.length+2+M.length) b2,
          by rw [QeY gv 3 _ hb20];rfl,ZM hAk o1 q1,ZM hAr q5 q2,ZM hAb q6 q3,hAb2 _ _,o1,o2,q7,q8,q4⟩
        refine QcH (.node [(2,0)] 3 0 (.leaf [(3,2),(0,0),(1,0),(4,0),(5,2),(6,0),(7,2)]) (.node [(0,0)] 3 1 (.leaf [(3,2),(1,0),(4,0),(5,2),(6,0),(7,2)]) (.node [(1,0)] 3 4 (.leaf [(3,2),(4,0),(5,2),(6,0),(7,2)]) (.leaf [(4,0),(3,2),(5,2),(6,0),(7,2)])))) mixed (by kernel_rfl) (fun K2 hK2=>?_)
        simp only [OT.walk]
        simp -implicitDefEqProofs only [Qc,Qd,aop,AS.ev,↓reduceIte,Qg,Qw,Qv,ti32,Qa2,ZQ,t0,t3,f3,seval]
        refine ⟨?_,?_,?_,?_⟩
        ·refine XG (FunW.call (cg _ _)) Zv ?_
         simp -implicitDefEqProofs only [Qc,Qd,aop,undef,AS.ev,AV.Qp8,↓reduceIte,Qg,Qw,Qv,QB,Qp,ti32,Qa2,ZQ,t3,f3,f5,QdE,QdF,Qcu,seval]
         refine hK2 _ (fin _ ?_ ?_ ?_) <;> assumption
        ·refine XG (FunW.call (cg _ _)) Zv ?_
         simp -implicitDefEqProofs only [Qc,Qd,aop,undef,AS.ev,AV.Qp8,↓reduceIte,Qg,Qw,Qv,QB,Qp,ti32,Qa2,ZQ,t3,f3,f5,QdE,QdF,Qcu,seval]
         refine hK2 _ (fin _ ?_ ?_ ?_) <;> assumption
        ·refine XG (FunW.call (cg _ _)) Zv ?_
         simp -implicitDefEqProofs only [Qc,Qd,aop,undef,AS.ev,AV.Qp8,↓reduceIte,Qg,QB,Qp,ti32,Qa2,ZQ,t3,f3,f5,QdE,QdF,Qcu,seval]
         refine hK2 _ (fin _ ?_ ?_ ?_) <;> assumption
        ·refine XG (FunW.call (cg _ _)) Zv ?_
         simp -implicitDefEqProofs only [Qc,Qd,aop,undef,AS.ev,AV.Qp8,↓reduceIte,Qg,QB,Qp,ti32,ZQ,t3,f3,f5,QdE,QdF,Qcu,seval]
         refine hK2 _ (fin _ ?_ ?_ ?_) <;> assumption
    ·cases hr3:Yo 12 s3 with
     |err p e =>
      have cg:=fun L=>Qfn hW3 HB hN hD L (most:=12) (by omega) hr3
      simp only [show ((12:Nat):Int)=12 from rfl] at cg
      repeat (first|((first|(with_reducible (first|refine Qk fun K E hK hE=>?_|refine FunW.panE (FunW.call (cg _)) fun r=>?_)));simp -implicitDefEqProofs only [Qc,Qd,OpW,QE,aop,AS.ev,↓reduceIte,Nat.reduceLT,t0,rB])|(with_reducible (first|refine hE _ _ ?_|refine QM ?_)))
      exact .inr (hErr3 _ _ _ _ (by rw [Qjb,hr3];rfl))
     |ok b s4 =>
      obtain ⟨hSb,hb0⟩:SmG b∧b≠[]:=⟨QhE (Nat.le_refl _) hr3,Qdv hr3⟩
      have hW4:Wst P2.all s4:=Kp.Ps.ok (n:=wdOf P2.all) (Kp.goals_ps trivial 12) hW3 hr3
      have cg:=fun c d=>Qg3 hW3 HB hN hD (c::d::M) (most:=12) (by omega) hr3 (k:=B.length+2+M.length) (by simp only [Qrc];omega)
      simp only [show ((12:Nat):Int)=12 from rfl,Qrr] at cg
      repeat (first|((first|(with_reducible (first|refine Qk fun K E hK hE=>?_|refine FunW.ret (FunW.call (cg _ _)) ?_)));simp -implicitDefEqProofs only [Qc,Qd,OpW,QE,aop,undef,AS.ev,AV.Qp8,↓reduceIte,Qg,QB,Qp,ti32,ZQ,t0,t3,rB,f3,f5,seval])|(with_reducible refine Qb ?_)|((with_reducible refine hK _ ?_);clear hK))
      have hAb:∀ (x y:AB),At (ph B P2 s4++(x::y::(M++layG 54 (B.length+2+M.length) b))) (B.length+2+M.length) (layG 54 (B.length+2+M.length) b):=fun x y=>by
       have:=At.base (At.mid (x::y::M) (layG 54 (B.length+2+M.length) b) [] (n:=2+M.length) (by simp only [Qrc];omega)) (QS B P2 s4)
       rw [show B.length+(2+M.length)=B.length+2+M.length by omega,List.append_nil] at this
       exact this
      have q1:nk+(layG 54 nk keep).length≤B.length+2+M.length:=by rw [QN];omega
      have q2:nr+(layG 54 nr remove).length≤B.length+2+M.length:=by rw [QN];omega
      have q3:B.length+2+M.length+gsz b≤B.length+2+(M++layG 54 (B.length+2+M.length) b).length:=by rw [List.length_append,QN];omega
      refine ⟨b,s4,rfl,t0,t2,t3,hW4,hSk,hSr,QcV,hSb,nk,nr,B.length+2+M.length,B.length+2+M.length,x5,M++layG 54 (B.length+2+M.length) b,?_,ZM hAk o1 q1,ZM hAr (by omega) q2,At.nil _ _,hAb _ _,o1,o2,o3,Nat.le_refl _,q3⟩
      show _=ph B P2 s4++(rB name _ _ _ (sG gv 3 _ b)::_)
      rw [QeY gv 3 _ hb0];rfl
   ·cases p1:s2.is QeZ with
    |true =>
     have p3:s2.is Qat=false:=QnN p1 (by decide)
     rw [p3,p1] at hB1
     have cs:=fun L=>Zq hW2 HB hN L {data:=#[61,61,62]} (by rw [bProp];exact p1)
     have hi3:=ph_i HB s2.nx
     simp only [pB] at hi3
     repeat (first|((first|(with_reducible (first|refine Qa fun K E hK hE=>?_|refine Qk fun K E hK hE=>?_|refine FunW.ret (FunW.call (cs _)) ?_)));simp -implicitDefEqProofs only [Qc,Qd,OpW,QE,aop,undef,AS.ev,AV.Qp8,↓reduceIte,Qg,QB,Qp,ti31,Qby,QI,Qs,t0,t3,t5,rB,f3,f5,hi2,seval])|(with_reducible (first|refine Qj ?_|refine Qb ?_|refine Qo ?_))|((with_reducible refine hK _ ?_);clear hK)|(refine Qh rfl ?_;simp only [↓reduceIte]))
     exact ⟨l,[],s2.nx,B.length+2,B.length+2+gsz l,x4,layG 54 (B.length+2) l,by rw [hB1];rfl,hW2.nx,hS1,QcV,t0,t2,t3,by rw [hsl];rfl,by have:=hAl (rB name (.sl 2 (lvG av (B.length+2) l) none) nilV nilV nilV) x4 [] s2.nx;rw [List.append_nil] at this;exact this,At.nil _ _,Nat.le_refl _,Nat.le_refl _,by rw [QN];exact Nat.le_refl _⟩
    |false =>
     have cs:=fun L=>ZS hW2 HB hN L {data:=#[61,61,62]} (by rw [bProp];exact p1)
     cases p2:s2.is QeX with
     |true =>
      have p3:s2.is Qat=false:=QnN p2 (by decide)
      rw [p3,p1,p2] at hB1
      have cs2:=fun L=>Zq hW2 HB hN L {data:=#[92]} (by rw [bBack];exact p2)
      have hi3:=ph_i HB s2.nx
      simp only [pB] at hi3
      cases hr2:Yp l.length s2.nx with
      |err p e =>
       have ch:=fun L=>Qfr hW2.nx HB hN hD L (by omega) hr2
       repeat (first|((first|(with_reducible (first|refine Qa fun K E hK hE=>?_|refine FunW.ret (FunW.call (cs _)) ?_|refine FunW.ret (FunW.call (cs2 _)) ?_|refine FunW.panE (FunW.call (ch _)) fun r=>?_)));simp -implicitDefEqProofs only [Qc,Qd,OpW,QE,aop,AS.ev,↓reduceIte,Qg,aLen,goInt,un31,QI,Qs,t0,t5,rB,hi2,hlvl,seval])|(with_reducible refine Qj ?_)|((with_reducible refine hK _ ?_);clear hK)|(refine Qh rfl ?_;simp only [↓reduceIte,Qq3])|(with_reducible (first|refine hE _ _ ?_|refine QM ?_|refine Q6 ?_)))
       exact .inr (hErr2 _ _ _ _ (by rw [hB1];show (Yp l.length s2.nx).bind _=_;rw [hr2];rfl))
      |ok rem s4 =>
       have ch:=fun c d=>Qg7 hW2.nx HB hN hD (c::d::layG 54 (B.length+2) l) (by omega) hr2 (k:=B.length+2+gsz l) (by rw [List.length_cons,List.length_cons,QN];omega)
       simp only [Qrr] at ch
       have hW4:Wst P2.all s4:=Kp.Ps.ok (n:=wdOf P2.all) (Kp.heads_ps trivial l.length) hW2.nx hr2
       have hi4:=ph_i HB s4
       simp only [pB] at hi4
       cases p5:s4.is Qat with
       |true =>
        have cx:=fun L=>XH hW4 HB hN L {data:=#[60,61,62]} (by rw [bSimp];exact p5)
        repeat (first|((first|(with_reducible (first|refine Qa fun K E hK hE=>?_|refine Qk fun K E hK hE=>?_|refine FunW.ret (FunW.call (cs _)) ?_|refine FunW.ret (FunW.call (cs2 _)) ?_|refine FunW.ret (FunW.call (ch _ _)) ?_|refine FunW.ret (FunW.call (cx _)) ?_)));simp -implicitDefEqProofs only [Qc,Qd,OpW,QE,aop,undef,AS.ev,AV.Qp8,↓reduceIte,Qg,QB,Qp,aLen,goInt,ti31,un31,Qby,Qb7,QI,Qs,t0,t3,t5,rB,f3,f5,hi2,hi4,hlvl,seval])|(with_reducible (first|refine Qj ?_|refine Qb ?_|refine Qo ?_))|((with_reducible refine hK _ ?_);clear hK)|(refine Qh rfl ?_;simp only [↓reduceIte,Qq3]))
        obtain ⟨hS2,hm4,hm0⟩:=QhF hr2
        have hsl2:=QeY av 2 (B.length+2+gsz l) (l:=rem) (by rintro rfl;simp at hm0)
        refine ⟨l,rem,s4.nx,B.length+2,B.length+2+gsz l,x4,layG 54 (B.length+2) l++layG 54 (B.length+2+gsz l) rem,?_,hW4.nx,hS1,hS2,t0,t2,t3,by rw [hsl,hsl2];rfl,hAl (rB name (.sl 2 (lvG av (B.length+2) l) none) (.sl 2 (lvG av (B.length+2+gsz l) rem) none) nilV nilV) x4 _ s4.nx,?_,Nat.le_refl _,Nat.le_refl _,by rw [List.length_append,QN,QN];omega⟩
        ·rw [hB1];show (Yp l.length s2.nx).bind _=_;rw [hr2];show (XU Qat s4).bind _=_;rw [XU,if_pos p5];rfl
        ·have:=At.base (At.mid (rB name (.sl 2 (lvG av (B.length+2) l) none) (.sl 2 (lvG av (B.length+2+gsz l) rem) none) nilV nilV::x4::layG 54 (B.length+2) l) (layG 54 (B.length+2+gsz l) rem) [] (n:=2+gsz l) (by rw [List.length_cons,List.length_cons,QN];omega)) (QS B P2 s4.nx)
         rw [show B.length+(2+gsz l)=B.length+2+gsz l by omega,List.append_nil] at this
         exact this
       |false =>
        have cx:=fun L=>X3 hW4 HB hN L {data:=#[60,61,62]} (by rw [bSimp];exact p5)
        repeat (first|((first|(with_reducible (first|refine Qa fun K E hK hE=>?_|refine Qk fun K E hK hE=>?_|refine FunW.ret (FunW.call (cs _)) ?_|refine FunW.ret (FunW.call (cs2 _)) ?_|refine FunW.ret (FunW.call (ch _ _)) ?_|refine FunW.pan (FunW.call (cx _)) ?_)));simp -implicitDefEqProofs only [Qc,Qd,OpW,QE,aop,undef,AS.ev,AV.Qp8,↓reduceIte,Qg,QB,Qp,aLen,goInt,ti31,un31,Qby,Qb7,QI,Qs,t0,t3,t5,rB,f3,f5,hi2,hi4,hlvl,seval])|(with_reducible refine Qj ?_)|((with_reducible refine hK _ ?_);clear hK)|(refine Qh rfl ?_;simp only [↓reduceIte,Qq3])|(with_reducible (first|refine hE _ _ ?_|refine QM ?_|refine Q6 ?_)))
        exact .inr (hErr2 _ _ _ _ (by rw [hB1];show (Yp l.length s2.nx).bind _=_;rw [hr2];show (XU Qat s4).bind _=_;rw [XU,if_neg (by rw [p5];decide)];rfl))
     |false =>
      have cs2:=fun L=>ZS hW2 HB hN L {data:=#[92]} (by rw [bBack];exact p2)
      rw [p1,p2] at hB1
      cases p3:s2.is Qat with
      |true =>
       rw [p3] at hB1
       have cx:=fun L=>XH hW2 HB hN L {data:=#[60,61,62]} (by rw [bSimp];exact p3)
       have hi3:=ph_i HB s2.nx
       simp only [pB] at hi3
       repeat (first|((first|(with_reducible (first|refine Qa fun K E hK hE=>?_|refine Qk fun K E hK hE=>?_|refine FunW.ret (FunW.call (cs _)) ?_|refine FunW.ret (FunW.call (cs2 _)) ?_|refine FunW.ret (FunW.call (cx _)) ?_)));simp -implicitDefEqProofs only [Qc,Qd,OpW,QE,aop,undef,AS.ev,AV.Qp8,↓reduceIte,Qg,QB,Qp,ti31,Qb7,QI,Qs,t0,t3,t5,rB,f3,f5,hi2,seval])|(with_reducible (first|refine Qj ?_|refine Qb ?_|refine Qo ?_))|((with_reducible refine hK _ ?_);clear hK)|(refine Qh rfl ?_;simp only [↓reduceIte,Qq3]))
       exact ⟨[],l,s2.nx,B.length+2,B.length+2,x4,layG 54 (B.length+2) l,by rw [hB1];rfl,hW2.nx,QcV,hS1,t0,t2,t3,by rw [hsl];rfl,At.nil _ _,by have:=hAl (rB name nilV (.sl 2 (lvG av (B.length+2) l) none) nilV nilV) x4 [] s2.nx;rw [List.append_nil] at this;exact this,Nat.le_refl _,Nat.le_refl _,by rw [QN];exact Nat.le_refl _⟩
      |false =>
       rw [p3] at hB1
       have cx:=fun L=>X3 hW2 HB hN L {data:=#[60,61,62]} (by rw [bSimp];exact p3)
       repeat (first|((first|(with_reducible (first|refine Qa fun K E hK hE=>?_|refine FunW.ret (FunW.call (cs _)) ?_|refine FunW.ret (FunW.call (cs2 _)) ?_|refine FunW.pan (FunW.call (cx _)) ?_)));simp -implicitDefEqProofs only [Qc,Qd,OpW,QE,aop,AS.ev,↓reduceIte,Qg,QI,Qs,t0,rB,hi2,seval])|(with_reducible refine Qj ?_)|((with_reducible refine hK _ ?_);clear hK)|(refine Qh rfl ?_;simp only [↓reduceIte,Qq3])|(with_reducible (first|refine hE _ _ ?_|refine QM ?_|refine Q6 ?_)))
       exact .inr (hErr2 _ _ _ _ (by rw [hB1];rfl))
  ·cases hr:Yp 0 s1 with
   |err p e =>
    have ch:=fun L=>Qfr hW1 HB hN hD L (by omega) hr
    repeat (first|((first|(with_reducible (first|refine Qk fun K E hK hE=>?_|refine FunW.panE (FunW.call (ch _)) fun r=>?_)));simp -implicitDefEqProofs only [Qc,Qd,OpW,QE,aop,AS.ev,↓reduceIte,Nat.reduceLT,t0])|(with_reducible (first|refine hE _ _ ?_|refine QM ?_)))
    exact .inr (hErr2 _ _ _ _ (by rw [bodyT,hr];rfl))
   |ok l s2 =>
    have ch:=fun c=>Qg7 hW1 HB hN hD [rB name nilV nilV nilV nilV,c] (by omega) hr (k:=B.length+2) rfl
    simp only [Qrr,Qrq] at ch
    repeat (first|((first|(with_reducible (first|refine Qk fun K E hK hE=>?_|refine FunW.ret (FunW.call (ch _)) ?_)));simp -implicitDefEqProofs only [Qc,Qd,OpW,QE,aop,AS.ev,↓reduceIte,Nat.reduceLT,t0])|(with_reducible refine Qb ?_)|((with_reducible refine hK _ ?_);clear hK))
    exact ⟨t0,t2,t3,l,s2,rfl,rfl,rfl⟩
 ·iterate 3 (try (first|((first|(with_reducible (first|refine Qa fun K E hK hE=>?_|refine FunW.ret (FunW.call (ca _)) ?_)));simp -implicitDefEqProofs only [Qc,Qd,OpW,QE,aop,undef,AS.ev,Qq,AV.Qp8,↓reduceIte,Qg,QB,Qp,ti60,zi60,QI,Qs,hi,f1,f4,f6,e3,e4,seval])|((with_reducible refine hK _ ?_);clear hK)))
  refine QX (fun st=>st.tm 0 = .ptr P2.i 0 0∧st.tm 2 = .ptr X.length 0 0∧st.tm 3 = .ptr B.length 0 0∧st.tm 28 = .b (s0.tk.kind==1&&s0.nx.is sAt)∧∃ x4,st.h=ph B P2 s0++[rB {data:=#[]} nilV nilV nilV nilV,x4]) ?_ ?_
  ·rintro ⟨tm,hp⟩ ⟨t0,t2,t3,t28,x4,rfl⟩
   simp only at t0 t2 t3 t28
   cases hc:(s0.tk.kind==1&&s0.nx.is sAt) with
   |false =>
    rw [hc] at t28
    have hpart:Zl s0=bodyT eB s0:=by
     rw [QfA,if_neg]
     rintro ⟨h1,h2⟩
     rw [h1,h2] at hc
     exact absurd hc (by decide)
    refine Qh (t:=false) t28 ?_
    simp only [Qq3,if_false]
    repeat (first|(with_reducible (first|refine Qm ?_|refine Qb ?_)))
    exact ⟨_,s0,hpart,hW,t0,t2,t3,_,rfl⟩
   |true =>
    rw [hc] at t28
    simp only [Bool.and_eq_true,beq_iff_eq] at hc
    have hpart:Zl s0=(ZY s0).bind fun x s=>bodyT x s.nx:=by rw [QfA,if_pos hc]
    cases hn:ZY s0 with
    |err p e =>
     have cm:=fun L=>Qgh hW HB hN L hn
     refine Qh (t:=true) t28 ?_
     simp only [if_true]
     repeat (first|((first|(with_reducible (first|refine Qa fun K E hK hE=>?_|refine FunW.panE (FunW.call (cm _)) fun r=>?_)));simp -implicitDefEqProofs only [Qc,Qd,OpW,QE,aop,AS.ev,↓reduceIte,Nat.reduceLT,Qg,QI,Qs,t0,rB,hi])|(with_reducible (first|refine hE _ _ ?_|refine QM ?_)))
     exact .inr (hErr _ _ _ _ (by rw [hpart,hn];rfl))
    |ok x s1 =>
     have cm:=fun L=>Qik hW HB hN L hn
     have hi1:=ph_i HB s1
     simp only [pB] at hi1
     have hs1:s1=s0.nx:=by
      unfold ZY at hn
      split at hn
      ·cases hn
      ·split at hn
       ·cases hn
       ·cases hn;rfl
     subst hs1
     have cx:=fun L=>XH hW.nx HB hN L {data:=#[64]} (by rw [show ({data:=#[64]}:ByteArray).toList=sAt from tl sAt];exact hc.2)
     refine Qh (t:=true) t28 ?_
     simp only [if_true]
     repeat (first|((first|(with_reducible (first|refine Qa fun K E hK hE=>?_|refine Qk fun K E hK hE=>?_|refine FunW.ret (FunW.call (cm _)) ?_|refine FunW.ret (FunW.call (cx _)) ?_)));simp -implicitDefEqProofs only [Qc,Qd,OpW,QE,aop,undef,AS.ev,AV.Qp8,↓reduceIte,Qg,QB,Qp,ti9,QnJ,QI,Qs,t0,t3,rB,f3,f5,hi,hi1,seval])|(with_reducible refine Qb ?_)|((with_reducible refine hK _ ?_);clear hK))
     exact ⟨x,s0.nx.nx,by rw [hpart,hn];rfl,hW.nx.nx,t0,t2,t3,_,rfl⟩
  ·by_cases k1:s0.tk.kind=1
   ·have z1:(s0.tk.kind==1)=true:=by simpa using k1
    by_cases k2:s0.nx.tk.kind=4
    ·have z2:(s0.nx.tk.kind==4)=true:=by simpa using k2
     repeat (first|((first|(with_reducible (first|refine Qk fun K E hK hE=>?_|refine FunW.ret (FunW.call (cn _)) ?_)));simp -implicitDefEqProofs only [Qc,Qd,OpW,QE,aop,undef,AS.ev,Qq,↓reduceIte,Qg,Qw,Qv,aBin,Zh,ti3,ti9,QQ,Xc,QI,Qs,hi,f4,e1,e2,e3,z1,z2,seval])|(with_reducible refine Qb ?_)|((with_reducible refine hK _ ?_);clear hK))
     exact ⟨rfl,rfl,rfl,by rw [hAt,z1,z2,← tl sAt];rfl,_,rfl⟩
    ·have z2:(s0.nx.tk.kind==4)=false:=by simpa using k2
     repeat (first|((first|(with_reducible (first|refine Qk fun K E hK hE=>?_|refine FunW.ret (FunW.call (cn _)) ?_)));simp -implicitDefEqProofs only [Qc,Qd,OpW,QE,aop,undef,AS.ev,Qq,↓reduceIte,Qg,Qw,Qv,aBin,Zh,ti3,QQ,QI,Qs,hi,f4,e1,e2,e3,z1,z2,seval])|(with_reducible refine Qb ?_)|((with_reducible refine hK _ ?_);clear hK))
     exact ⟨rfl,rfl,rfl,by rw [hAt,z1,z2];rfl,_,rfl⟩
   ·have z1:(s0.tk.kind==1)=false:=by simpa using k1
    repeat (first|((first|(with_reducible (first|refine Qk fun K E hK hE=>?_|refine FunW.ret (FunW.call (cn _)) ?_)));simp -implicitDefEqProofs only [Qc,Qd,OpW,QE,aop,undef,AS.ev,Qq,↓reduceIte,Qg,Qv,aBin,Zh,ti3,QQ,QI,Qs,hi,e1,e2,z1,seval])|(with_reducible refine Qb ?_)|((with_reducible refine hK _ ?_);clear hK))
    exact ⟨rfl,rfl,rfl,by rw [z1,Bool.false_and];rfl,_,rfl⟩
theorem Ql9:QJ Tryd.prog 20 [.ptr P.i 0 0] X (RuQ X P (ZZ s)):=by
 refine QjB (Q0:=fun o h'=>(∃ p e,ZZ s = .err p e∧ErrY X P h'∧o = .panic (Fl p e))∨∃ r s6,ZZ s = .ok r s6∧RuR X P r s6 o h') (Qnv HP hW hN hD _ (fun p e h' h k=>.inl ⟨p,e,h,k,rfl⟩) fun r s6 o h' h k=>.inr ⟨r,s6,h,k⟩) fun hbel o h' h=>?_
 rcases h with ⟨p,e,h,hy,rfl⟩|⟨r,s6,h,nk,nr,ng,nb,rfl,e1,e2,e3,e4,a1,a2,a3,a4,hl,ht⟩
 ·rw [h];exact .inl ⟨rfl,⟨h',hy⟩,rfl⟩
 ·rw [h]
  refine .inr ⟨_,r.av,rfl,hl,fun b hb=>?_,?_,rfl,ht⟩
  ·rw [ht] at hb
   obtain ⟨k,hk⟩:=List.mem_iff_getElem?.1 hb
   have hj:=Qt HP.j
   have hi:=Qt HP.i
   by_cases c1:k=P.j
   ·subst c1
    rw [List.getElem?_set_self (by rw [List.length_set];exact hj)] at hk
    cases hk
    exact Qi2 (HP.ok [] .dead) s6 _
   ·rw [List.getElem?_set_ne (Ne.symm c1)] at hk
    by_cases c2:k=P.i
    ·subst c2
     rw [List.getElem?_set_self hi] at hk
     cases hk
     intro a ha
     simp only [flat,List.flatMap_cons,List.flatMap_nil,Qrs,AV.cells,List.mem_cons,List.not_mem_nil,or_false] at ha
     rcases ha with rfl|rfl|rfl|rfl
     ·exact .sl 3 _ none (Qcy _ _) (fun b hb=>by cases hb)
     ·exact .v _
     ·exact .sl 1 _ _ (Qey _ _) (fun b hb=>by cases hb)
     ·exact .mp _ hj
    ·rw [List.getElem?_set_ne (Ne.symm c2)] at hk
     exact hbel k b hk
  ·refine .agg rfl fun j a a' h1 h2=>?_
   match j,h1,h2 with
   |0,h1,h2=>cases h1;cases h2;exact .keep (.v _)
   |1,h1,h2=>cases h1;cases h2;exact Qlz _ e1 a1
   |2,h1,h2=>cases h1;cases h2;exact Qlz _ e2 a2
   |3,h1,h2=>cases h1;cases h2;exact QlA _ e3 a3
   |4,h1,h2=>cases h1;cases h2;exact QlA _ e4 a4
   |5,h1,h2=>cases h1;cases h2;exact .keep (.v _)
   |j+6,h1,h2=>simp at h1
end
end Go.Proofs.YticgcpebdldbgaaDoor.Ab
set_option maxRecDepth 4000
namespace Go.Proofs.YticgcpebdldbgaaDoor.Ab
open Go.Proofs
def DcQ (h:AH) (P:Pz):PR (List Dc)→AOut→AH→Prop
 | .ok l s,o,h'=>o = .ret (.sl 2 (vs Dc.av l) none)∧h'=ph h P s
 | .err p e,o,h'=>o = .panic (Fl p e)∧∃ s,h'=ph h P s
theorem Qk3 (n:Nat) (l:List Dc):∀ a∈flat (vs Dc.av l),Below n a:=Qmr Dc.av n (fun d=>Dc.bel n d) l
section
variable {P:Pz} {s:PS} (hW:Wst P.all s) {h:AH} (H:P.ok h) (hN:P.all.length≤1000000) (hD:TkOk P.all)
include hW H hN hD
theorem QjI:QJ Tryd.prog 17 [.ptr P.i 0 0] (ph h P s) (DcQ h P (Zt (s.toks.length+1) [] s)):=by
 have f1:=QS h P
 have f3:=Xr h P
 have f4:=XY h P
 have f5:=Xe h P
 have f6:=XC h P
 have hi0:=XS H s
 have hi:=ph_i H s
 simp only [pB] at hi hi0
 have cn0:=fun L=>nextL hW (XS H s) L
 have g1:=Tk.Qp9 s.tk
 have g2:=Tk.Qqa s.tk
 have bSl:({data:=#[47]}:ByteArray).toList=Qet:=tl Qet
 have bCo:({data:=#[44]}:ByteArray).toList=YV:=tl YV
 have bDo:({data:=#[46]}:ByteArray).toList=sDot:=tl sDot
 generalize hR:Zt (s.toks.length+1) [] s=R
 refine Qe Tryd.func17 rfl Tryd.call17 Tryd.ntmps17 (congrArg Array.toList Tryd.results17) (by simp) ?_
 iterate 4 (try (first|(((with_reducible refine Qa fun K E hK hE=>?_));simp -implicitDefEqProofs only [Xb,Xh,Qd,OpW,aop,AS.ev,Q8,Qch,Nat.reduceLT])|((with_reducible refine hK _ ?_);clear hK)))
 refine ZX 3 78 2 rfl ?_
 repeat (first|((first|(with_reducible (first|refine Qa fun K E hK hE=>?_|refine FunW.ret (FunW.call (cn0 _)) ?_)));simp -implicitDefEqProofs only [Qc,Qd,OpW,QE,aop,undef,AS.ev,Qq,AV.Qp8,↓reduceIte,Qg,QB,Qp,ti60,zi60,QI,Qs,f1,f4,f6,hi,g1,g2,seval])|(with_reducible (first|refine Qf fun K hK=>?_|refine Qj ?_))|((with_reducible refine hK _ ?_);clear hK))
 obtain ⟨I,hI⟩:∃ I:Nat→AS→Prop,I=fun m' s=>∃ (l:List Dc) (s2:PS) (X:AH) (id:Nat),m'=s2.toks.length∧Wst P.all s2∧l.length≤30∧(∃ k,s2.toks.length+1≤k∧Zt k l s2=R)∧X[id]? = some (.cells 60 3 [s2.tk.av])∧s.tm 0 = .ptr P.i 0 0∧s.tm 3 = .sl 2 (vs Dc.av l) (some h.length)∧s.tm 4 = .ptr (h.length+(id+1)) 0 0 ∧
  s.h=ph h P s2++(.grow 78 2 l.length::X):=⟨_,rfl⟩;refine QO I ?_ (m:=s.toks.length) ?_
 ·intro m' s hs;rw [hI] at hs;obtain ⟨tm,hp⟩:=s;dsimp only at hs;obtain ⟨l,s2,X,id,rfl,hW2,hl30,⟨k,hk,hR2⟩,hX,t0,t3,t4,rfl⟩:=hs
  have hk1:k=k - 1+1:=by omega
  have e1:=Tk.Qp9 s2.tk
  have e2:=Tk.Qqa s2.tk
  have hXa:=fun Y=>hext hX Y
  have hi2:=ph_i H s2
  simp only [pB] at hi2
  rw [hk1,Zt] at hR2
  by_cases hc:s2.tk.kind=1∧s2.tk.text.toList=QmE
  ·rw [if_pos hc] at hR2
   have z1:(s2.tk.kind==1)=true:=by simpa using hc.1
   have z2:(s2.tk.text.toList==({data:=#[99,111,110,115,116,114,97,105,110,116]}:ByteArray).toList)=true:=by rw [hc.2,Lib.toList_data];rfl
   have ct:=fun L=>Xm hW2 (H.app L) hN
   simp only [Q1 H] at ct
   have hI0:=hI
   have hln:=XJ hW2.wf (by rw [hc.1];decide)
   generalize hRi:Z8 (s2.toks.length+1) l s2.nx=Ri at *
   repeat (first|((first|(with_reducible (first|refine Qa fun K E hK hE=>?_|refine FunW.ret (FunW.call (ct _)) ?_)));simp -implicitDefEqProofs only [Qc,Qd,OpW,QE,aop,AS.ev,↓reduceIte,Qg,Qw,Qv,aBin,ti3,ti9,QQ,Xc,QI,Qs,t0,t4,f4,hX,hi2,e1,z1,z2,seval])|(with_reducible (first|refine Qf fun K hK=>?_|refine Qj ?_|refine Qm ?_|refine Qb ?_))|((with_reducible refine hK _ ?_);clear hK)|(refine Qh rfl ?_;simp only [↓reduceIte]))
   obtain ⟨I,hI⟩:∃ I:Nat→AS→Prop,I=fun m' s=>∃ (l3:List Dc) (s3:PS) (G:AH),m'=s3.toks.length∧Wst P.all s3∧l3.length≤30∧(∃ k,s3.toks.length+1≤k∧Z8 k l3 s3=Ri)∧s3.toks.length+1≤s2.toks.length∧G[id]? = some (.cells 60 3 [s2.tk.av])∧s.tm 0 = .ptr P.i 0 0∧s.tm 3 = .sl 2 (vs Dc.av l3) (some h.length)∧s.tm 4 = .ptr (h.length+(id+1)) 0 0 ∧
    s.h=ph h P s3++(.grow 78 2 l3.length::G):=⟨_,rfl⟩;refine QO I ?_ (m:=s2.nx.toks.length) ?_
   ·intro m' s hs;rw [hI] at hs;obtain ⟨tm,hp⟩:=s;dsimp only at hs;obtain ⟨l3,s3,G,rfl,hW3,hl3,⟨k3,hk3,hR3⟩,hlt3,hG,u0,u3,u4,rfl⟩:=hs
    have hk4:k3=k3 - 1+1:=by omega
    rw [hk4,Z8] at hR3
    have hi3:=ph_i H s3
    have hi4:=ph_i H s3.nx
    have hi5:=ph_i H s3.nx.nx
    have hi6:=ph_i H s3.nx.nx.nx
    simp only [pB] at hi3 hi4 hi5 hi6
    have hG0:=fun Y=>hext hG Y
    have ev:(vs Dc.av l3).length=l3.length:=Y5 _ _
    have e3:=Tk.Qp9 s3.nx.nx.tk
    have e4:=Tk.Qqa s3.nx.nx.tk
    have e5:=Tk.Qp9 s2.tk
    have e6:=Tk.Qqa s2.tk
    have x1:∀ (Y:AH),(G++Y)[G.length]? = Y[0]? := fun Y=>Z4 _ _
    have x2:∀ (Y:AH) k,(G++Y)[G.length+k]? = Y[k]? := fun Y k=>hget _ _ _
    have x3:∀ (Y:AH) y,(G++Y).set G.length y=G++Y.set 0 y:=fun Y y=>QbK _ _ _
    have x4:∀ (Y:AH) k y,(G++Y).set (G.length+k) y=G++Y.set k y:=fun Y k y=>hset _ _ _ _
    by_cases hm:30≤l3.length
    ·rw [if_pos hm] at hR3
     have cr:=fun L=>Qgy hW3 H hN L ((l3.length:Nat):Int) 30 (by omega)
     repeat (first|((first|(with_reducible (first|refine Qa fun K E hK hE=>?_|refine FunW.pan (FunW.call (cr _)) ?_)));simp -implicitDefEqProofs only [Qc,Qd,OpW,QE,aop,AS.ev,↓reduceIte,Qg,aLen,goInt,un23,QI,Qs,u0,u3,ev,hi3,seval])|(with_reducible (first|refine Qj ?_|refine hE _ _ ?_|refine QM ?_|refine Q6 ?_)))
     subst hR3
     subst hR2
     exact QT H s s3 _ _ _ ⟨rfl,_,rfl⟩
    ·have cr:=fun L=>Qep hW3 H hN L ((l3.length:Nat):Int) 30 (by omega)
     rw [if_neg hm] at hR3
     cases hn:ZY s3 with
     |err p e =>
      rw [hn] at hR3
      have hR4:PR.err p e=Ri:=hR3
      have cm:=fun L=>Qgh hW3 H hN L hn
      repeat (first|((first|(with_reducible (first|refine Qa fun K E hK hE=>?_|refine FunW.ret (FunW.call (cr _)) ?_|refine FunW.panE (FunW.call (cm _)) fun r=>?_)));simp -implicitDefEqProofs only [Qc,Qd,OpW,QE,aop,AS.ev,↓reduceIte,Qg,aLen,goInt,un23,QI,Qs,u0,u3,ev,hi3,seval])|(with_reducible refine Qj ?_)|((with_reducible refine hK _ ?_);clear hK)|(with_reducible (first|refine hE _ _ ?_|refine QM ?_|refine Q6 ?_)))
      subst hR4
      subst hR2
      exact QT H s r _ _ _ ⟨rfl,_,rfl⟩
     |ok x s4 =>
      have cm:=fun L=>Qik hW3 H hN L hn
      rw [hn] at hR3
      have hk1s:s3.tk.kind=1∧s4=s3.nx:=by
       unfold ZY at hn
       split at hn
       ·cases hn
       ·rename_i h1
        split at hn
        ·cases hn
        ·cases hn;exact ⟨by simpa using h1,rfl⟩
      obtain ⟨hk1s,rfl⟩:=hk1s
      have hl1:=XJ hW3.wf (by rw [hk1s];decide)
      have hW4:=hW3.nx
      cases hsl:s3.nx.is Qet with
      |false =>
       have hR4:PR.err s3.nx.tk.pos 16=Ri:=by rw [← hR3];show _=(XU Qet s3.nx).bind _;rw [XU,if_neg (by rw [hsl];decide)];rfl
       have cx:=fun L=>X3 hW4 H hN L {data:=#[47]} (by rw [bSl];exact hsl)
       repeat (first|((first|(with_reducible (first|refine Qa fun K E hK hE=>?_|refine FunW.ret (FunW.call (cr _)) ?_|refine FunW.ret (FunW.call (cm _)) ?_|refine FunW.pan (FunW.call (cx _)) ?_)));simp -implicitDefEqProofs only [Qc,Qd,OpW,QE,aop,undef,AS.ev,AV.Qp8,↓reduceIte,Qg,QB,Qp,Xf,Xu,aLen,goInt,un23,QI,ti78,zi78,sp78,Qs,u0,u3,f1,f4,f6,x1,x3,ev,hi3,hi4,List.append_assoc,seval])|(with_reducible refine Qj ?_)|((with_reducible refine hK _ ?_);clear hK)|(with_reducible (first|refine hE _ _ ?_|refine QM ?_|refine Q6 ?_)))
       subst hR4
       subst hR2
       exact QT H s s3.nx _ _ _ ⟨rfl,_,rfl⟩
      |true =>
       have hl2:=XJ hW4.wf (PS.Qqb hsl)
       have hW5:=hW4.nx
       have cx:=fun L=>XH hW4 H hN L {data:=#[47]} (by rw [bSl];exact hsl)
       have ct3:=fun L=>Xm hW5 (H.app L) hN
       simp only [Q1 H] at ct3
       have hR4:(if s3.nx.nx.tk.kind≠3 then PR.err s3.nx.nx.tk.pos 16 else if valT s3.nx.nx.tk.text>6 then .err s3.nx.nx.tk.pos 6 else
         if s3.nx.nx.nx.is YV then Z8 (k3 - 1) (l3++[⟨x,valT s3.nx.nx.tk.text⟩]) s3.nx.nx.nx.nx else (XU sDot s3.nx.nx.nx).bind fun _ s2=>.ok (l3++[⟨x,valT s3.nx.nx.tk.text⟩]) s2)=Ri:=by
        have hw:XU Qet s3.nx = .ok () s3.nx.nx:=by rw [XU,if_pos hsl]
        rw [← hR3];show _=(XU Qet s3.nx).bind _;rw [hw];rfl
       clear hR3
       by_cases h3:s3.nx.nx.tk.kind=3
       ·rw [if_neg (by simpa using h3)] at hR4
        have y1:(s3.nx.nx.tk.kind != 3)=false:=by simpa using h3
        have hl5:=XJ hW5.wf (by rw [h3];decide)
        obtain ⟨cv,v0,v1⟩:=Qia hD hW5 h3
        have hW6:=hW5.nx
        by_cases h6:valT s3.nx.nx.tk.text>6
        ·rw [if_pos h6] at hR4
         have y2:(6:Int)<valT s3.nx.nx.tk.text:=h6
         have cf:=Yw s3.nx.nx.tk 6
         repeat (first|((first|(with_reducible (first|refine Qa fun K E hK hE=>?_|refine FunW.ret (FunW.call (cr _)) ?_|refine FunW.ret (FunW.call (cm _)) ?_|refine FunW.ret (FunW.call (cx _)) ?_|refine FunW.ret (FunW.call (ct3 _)) ?_|refine Qz cv ?_)));simp -implicitDefEqProofs only [Qc,Qd,OpW,QE,aop,undef,AS.ev,AV.Qp8,↓reduceIte,Qg,Qw,Qv,QB,Qp,aBin,Xf,Xu,aLen,goInt,ti3,ti9,un23,ti60,QQ,Xc,zi60,QI,ti78,QiT,zi78,sp78,Qs,u0,u3,f1,f4,f6,x1,x2,x3,x4,ev,hi3,hi4,hi5,e3,e4,List.append_assoc,y1,y2,seval])|(with_reducible (first|refine Qf fun K hK=>?_|refine Qj ?_|refine Qm ?_|refine Qb ?_))|((with_reducible refine hK _ ?_);clear hK)|(refine Qh rfl ?_;simp only [↓reduceIte,Qq3]))
         subst hR4
         subst hR2
         refine Q9 4 [(0,0),(1,0),(2,0),(3,0)] mixed rfl rfl rfl (by kernel_rfl) (fun v h'=>v=Fl s3.nx.nx.tk.pos 6∧∃ L,h'=ph h P s3.nx.nx.nx++L) ?_ ?_
         ·rintro tm v h' ⟨rfl,L,rfl⟩
          exact QT H s s3.nx.nx.nx _ _ _ ⟨rfl,_,rfl⟩
         ·simp -implicitDefEqProofs only [Qc,Qd,aop,AS.ev,↓reduceIte,Qg,Qw,Qv,ti60,QI,Qs,u0,f4,x2,hi6,e3,e4,seval]
          exact fun _=>(FunW.call (cf _ _)).mono (by rintro _ _ ⟨rfl,rfl⟩;exact ⟨_,rfl,rfl,_,rfl⟩)
        ·rw [if_neg h6] at hR4
         have y2:¬ (6:Int)<valT s3.nx.nx.tk.text:=h6
         have hm1:(l3.length+1) * 24≤140737488355328:=by omega
         have hm2:l3.length+1≤maxLen:=by simp only [maxLen];omega
         have evs:vs Dc.av (l3++[⟨x,valT s3.nx.nx.tk.text⟩])=vs Dc.av l3++[.agg [.v (.string x),.i (valT s3.nx.nx.tk.text)]]:=by rw [QhN];rfl
         cases hco:s3.nx.nx.nx.is YV with
         |true =>
          rw [hco,if_pos rfl] at hR4
          have hl6:=XJ hW6.wf (PS.Qqb hco)
          have cs:=fun L=>Zq hW6 H hN L {data:=#[44]} (by rw [bCo];exact hco)
          repeat (first|((first|(with_reducible (first|refine Qa fun K E hK hE=>?_|refine FunW.ret (FunW.call (cr _)) ?_|refine FunW.ret (FunW.call (cm _)) ?_|refine FunW.ret (FunW.call (cx _)) ?_|refine FunW.ret (FunW.call (ct3 _)) ?_|refine Qz cv ?_|refine FunW.ret (FunW.call (cs _)) ?_)));simp -implicitDefEqProofs only [Qc,Qd,OpW,QE,aop,undef,AS.ev,AV.Qp8,↓reduceIte,Qg,Qw,Qv,QB,Qp,aBin,Xf,Xu,QH,aLen,XD,Yb,goInt,ti3,ti9,ei23,ai23,un23,ti60,QQ,Xc,zi60,QI,ti78,QiT,zi78,sp78,Qs,u0,u3,f1,f3,f4,f5,f6,x1,x2,x3,x4,ev,hi3,hi4,hi5,hi6,e3,e4,List.append_assoc,y1,y2,hm1,hm2,seval])|(with_reducible (first|refine Qf fun K hK=>?_|refine Qj ?_|refine Qm ?_|refine Qb ?_|refine Qo ?_))|((with_reducible refine hK _ ?_);clear hK)|(refine Qh rfl ?_;simp only [↓reduceIte,Qq3]))
          refine Xi.mk (m':=s3.nx.nx.nx.nx.toks.length) (by omega) ?_
          rw [hI]
          refine ⟨l3++[⟨x,valT s3.nx.nx.tk.text⟩],s3.nx.nx.nx.nx,G++[.cells 78 2 [.agg [.v (.string x),.i (valT s3.nx.nx.tk.text)]],.cells 60 3 [s3.nx.nx.tk.av]],rfl,hW6.nx,by simp;omega,⟨k3 - 1,by omega,hR4⟩,by omega,hG0 _,u0,?_,u4,?_⟩
          ·rw [evs];rfl
          ·rw [List.length_append];rfl
         |false =>
          rw [hco,if_neg (by decide)] at hR4
          have cs:=fun L=>ZS hW6 H hN L {data:=#[44]} (by rw [bCo];exact hco)
          cases hdo:s3.nx.nx.nx.is sDot with
          |false =>
           have hR5:PR.err s3.nx.nx.nx.tk.pos 16=Ri:=by rw [← hR4,XU,if_neg (by rw [hdo];decide)];rfl
           have cd:=fun L=>X3 hW6 H hN L {data:=#[46]} (by rw [bDo];exact hdo)
           repeat (first|((first|(with_reducible (first|refine Qa fun K E hK hE=>?_|refine Qk fun K E hK hE=>?_|refine FunW.ret (FunW.call (cr _)) ?_|refine FunW.ret (FunW.call (cm _)) ?_|refine FunW.ret (FunW.call (cx _)) ?_|refine FunW.ret (FunW.call (ct3 _)) ?_|refine Qz cv ?_|refine FunW.ret (FunW.call (cs _)) ?_|refine FunW.pan (FunW.call (cd _)) ?_)));simp -implicitDefEqProofs only [Qc,Qd,OpW,QE,aop,undef,AS.ev,AV.Qp8,↓reduceIte,Qg,Qw,Qv,QB,Qp,aBin,Xf,Xu,QH,aLen,XD,Yb,goInt,ti3,ti9,ei23,ai23,un23,ti60,QQ,Xc,zi60,QI,ti78,QiT,zi78,sp78,Qs,u0,u3,f1,f3,f4,f5,f6,x1,x2,x3,x4,ev,hi3,hi4,hi5,hi6,e3,e4,List.append_assoc,y1,y2,hm1,hm2,seval])|(with_reducible (first|refine Qf fun K hK=>?_|refine Qj ?_|refine Qm ?_|refine QG ?_|refine Qb ?_|refine QD ?_|refine QC ?_|refine QW rfl ?_))|((with_reducible refine hK _ ?_);clear hK)|(refine Qh rfl ?_;simp only [↓reduceIte,Qq3])|(with_reducible (first|refine hE _ _ ?_|refine QM ?_|refine Q6 ?_)))
           subst hR5
           subst hR2
           exact QT H s s3.nx.nx.nx _ _ _ ⟨rfl,_,rfl⟩
          |true =>
           have hR5:PR.ok (l3++[⟨x,valT s3.nx.nx.tk.text⟩]) s3.nx.nx.nx.nx=Ri:=by rw [← hR4,XU,if_pos hdo];rfl
           subst hR5
           have hR6:Zt (k - 1) (l3++[⟨x,valT s3.nx.nx.tk.text⟩]) s3.nx.nx.nx.nx=R:=hR2
           have hl6:=XJ hW6.wf (PS.Qqb hdo)
           have cd:=fun L=>XH hW6 H hN L {data:=#[46]} (by rw [bDo];exact hdo)
           have hi7:=ph_i H s3.nx.nx.nx.nx
           simp only [pB] at hi7
           have e7:=Tk.Qp9 s3.nx.nx.nx.nx.tk
           have e8:=Tk.Qqa s3.nx.nx.nx.nx.tk
           have cn7:=fun L=>nextL hW6.nx (XS H s3.nx.nx.nx.nx) L
           repeat (first|((first|(with_reducible (first|refine Qa fun K E hK hE=>?_|refine Qk fun K E hK hE=>?_|refine FunW.ret (FunW.call (cr _)) ?_|refine FunW.ret (FunW.call (cm _)) ?_|refine FunW.ret (FunW.call (cx _)) ?_|refine FunW.ret (FunW.call (ct3 _)) ?_|refine Qz cv ?_|refine FunW.ret (FunW.call (cs _)) ?_|refine FunW.ret (FunW.call (cd _)) ?_|refine FunW.ret (FunW.call (cn7 _)) ?_)));simp -implicitDefEqProofs only [Qc,Qd,OpW,QE,aop,undef,AS.ev,AV.Qp8,↓reduceIte,Qg,Qw,Qv,QB,Qp,aBin,Xf,Xu,QH,aLen,XD,Yb,goInt,ti3,ti9,ei23,ai23,un23,ti60,QQ,Xc,zi60,QI,ti78,QiT,zi78,sp78,Qs,u0,u3,u4,f1,f3,f4,f5,f6,x1,x2,x3,x4,ev,hG0,hi3,hi4,hi5,hi6,e3,e4,e5,e6,List.append_assoc,y1,y2,hm1,hm2,hi7,e7,e8,seval])|(with_reducible (first|refine Qf fun K hK=>?_|refine Qj ?_|refine Qm ?_|refine QG ?_|refine Qb ?_|refine QD ?_|refine Qo ?_|refine QC ?_|refine QW rfl ?_))|((with_reducible refine hK _ ?_);clear hK)|(refine Qh rfl ?_;simp only [↓reduceIte,Qq3]))
           refine Xi.mk (m':=s3.nx.nx.nx.nx.toks.length) (by omega) ?_
           rw [hI0]
           refine ⟨l3++[⟨x,valT s3.nx.nx.tk.text⟩],s3.nx.nx.nx.nx,G++[.cells 78 2 [.agg [.v (.string x),.i (valT s3.nx.nx.tk.text)]],.cells 60 3 [s3.nx.nx.tk.av],.cells 60 3 [s3.nx.nx.nx.nx.tk.av]],G.length+2,rfl,hW6.nx,by simp;omega,⟨k - 1,by omega,hR6⟩,hget _ _ _,u0,?_,?_,?_⟩
           ·rw [evs];rfl
           ·rfl
           ·rw [List.length_append];rfl
       ·rw [if_pos h3] at hR4
        have y1:(s3.nx.nx.tk.kind != 3)=true:=by simpa using h3
        have cf:=Yw s3.nx.nx.tk 16
        repeat (first|((first|(with_reducible (first|refine Qa fun K E hK hE=>?_|refine FunW.ret (FunW.call (cr _)) ?_|refine FunW.ret (FunW.call (cm _)) ?_|refine FunW.ret (FunW.call (cx _)) ?_|refine FunW.ret (FunW.call (ct3 _)) ?_)));simp -implicitDefEqProofs only [Qc,Qd,OpW,QE,aop,undef,AS.ev,AV.Qp8,↓reduceIte,Qg,Qw,Qv,QB,Qp,aBin,Xf,Xu,aLen,goInt,ti3,un23,ti60,QQ,zi60,QI,ti78,zi78,sp78,Qs,u0,u3,f1,f4,f6,x1,x2,x3,x4,ev,hi3,hi4,hi5,e3,e4,List.append_assoc,y1,seval])|(with_reducible (first|refine Qf fun K hK=>?_|refine Qj ?_))|((with_reducible refine hK _ ?_);clear hK)|(refine Qh rfl ?_;simp only [↓reduceIte]))
        subst hR4
        subst hR2
        refine Q9 4 [(0,0),(1,0),(2,0),(3,0)] mixed rfl rfl rfl (by kernel_rfl) (fun v h'=>v=Fl s3.nx.nx.tk.pos 16∧∃ L,h'=ph h P s3.nx.nx.nx++L) ?_ ?_
        ·rintro tm v h' ⟨rfl,L,rfl⟩
         exact QT H s s3.nx.nx.nx _ _ _ ⟨rfl,_,rfl⟩
        ·simp -implicitDefEqProofs only [Qc,Qd,aop,AS.ev,↓reduceIte,Qg,Qw,Qv,ti60,QI,Qs,u0,f4,x2,hi6,e3,e4,seval]
         exact fun _=>(FunW.call (cf _ _)).mono (by rintro _ _ ⟨rfl,rfl⟩;exact ⟨_,rfl,rfl,_,rfl⟩)
   ·rw [hI]
    exact ⟨l,s2.nx,X,rfl,hW2.nx,hl30,⟨s2.toks.length+1,by omega,hRi⟩,by omega,hX,t0,t3,t4,rfl⟩
  ·rw [if_neg hc] at hR2
   subst hR2
   by_cases hk1:s2.tk.kind=1
   ·have z1:(s2.tk.kind==1)=true:=by simpa using hk1
    have z2:(s2.tk.text.toList==({data:=#[99,111,110,115,116,114,97,105,110,116]}:ByteArray).toList)=false:=by
     rw [Lib.toList_data ({data:=#[99,111,110,115,116,114,97,105,110,116]}:ByteArray)]
     exact beq_eq_false_iff_ne.2 fun q=>hc ⟨hk1,q⟩
    repeat (first|(((with_reducible refine Qa fun K E hK hE=>?_));simp -implicitDefEqProofs only [Qc,Qd,OpW,aop,AS.ev,↓reduceIte,Qg,Qw,Qv,aBin,ti3,ti9,QQ,Xc,t3,t4,f4,hX,e1,z1,z2,seval])|(with_reducible (first|refine Qf fun K hK=>?_|refine Ql ?_|refine QG ?_|refine Qb ?_|refine QD ?_|refine QC ?_))|((with_reducible refine hK _ ?_);clear hK)|(clear hK;(with_reducible refine hK _ ?_);clear hK)|(refine Qh rfl ?_;simp only [↓reduceIte,Qq3]))
    simp only [QF,Qn,Qr,upd,↓reduceIte,Qq5,Qq9]
    exact Xg H (s:=s) (s':=s2) (Frz.tok (Qk3 _ _)) ⟨rfl,rfl⟩
   ·have z1:(s2.tk.kind==1)=false:=by simpa using hk1
    repeat (first|(((with_reducible refine Qa fun K E hK hE=>?_));simp -implicitDefEqProofs only [Qc,Qd,OpW,aop,undef,AS.ev,↓reduceIte,Qg,Qw,Qv,aBin,ti3,QQ,t3,t4,f4,hX,e1,z1,seval])|(with_reducible (first|refine Qf fun K hK=>?_|refine Ql ?_|refine QG ?_|refine Qb ?_|refine QD ?_|refine QC ?_))|((with_reducible refine hK _ ?_);clear hK)|(clear hK;(with_reducible refine hK _ ?_);clear hK)|(refine Qh rfl ?_;simp only [↓reduceIte,Qq3]))
    simp only [QF,Qn,Qr,upd,↓reduceIte,Qq5,Qq9]
    exact Xg H (s:=s) (s':=s2) (Frz.tok (Qk3 _ _)) ⟨rfl,rfl⟩
 ·rw [hI]
  exact ⟨[],s,[.cells 60 3 [s.tk.av]],0,rfl,hW,Nat.zero_le _,⟨_,Nat.le_refl _,hR⟩,rfl,rfl,rfl,rfl,rfl⟩
end
end Go.Proofs.YticgcpebdldbgaaDoor.Ab
set_option maxRecDepth 4000
namespace Go.Proofs.YticgcpebdldbgaaDoor.Ab
open Go.Proofs
structure KpO (h:AH) (P:Pz) (o:Nat) (Y:AH):Prop where
 long:h.length≤Y.length
 out:∀ i,i<h.length→i≠o→i≠P.i→i≠P.j→i≠P.g→Y[i]? = h[i]?
abbrev pgB (d r:AV):AB:=.cells 26 2 [.agg [d,r]]
def PgQ (h:AH) (P:Pz) (o:Nat):PR Pg→AOut→AH→Prop
 | .ok pg _,x,h'=>x = .ret (.tup [])∧∃ Y:{Y:AH // KpO h P o Y∧Y[o]? = some (pgB (.sl 2 (vs Dc.av pg.decls) none) (.sl 6 (vs Rl.av pg.rules) none))},h'=Y.1
 | .err p e,x,h'=>x = .panic (Fl p e)∧∃ Y:{Y:AH // KpO h P o Y},h'=Y.1
section
variable {P:Pz} {s:PS} (hW:Wst P.all s) {h:AH} (H:P.ok h) (hN:P.all.length≤1000000) (hD:TkOk P.all) {o:Nat} (hol:o<h.length) (hoi:o≠P.i) (hoj:o≠P.j) (hog:o≠P.g)
include hW H hN hD hol hoi hoj hog
omit hW hN hD hol hoi hoj hog in
theorem Qo7 (s':PS) (L:AH):KpO h P o (ph h P s'++L):=⟨by rw [List.length_append,QS];omega,fun i h1 h2 h3 h4 h5=>by rw [List.getElem?_append_left (by rw [QS];exact h1),Zn H h3 h4 h5]⟩
theorem Qj7 (hob:h[o]? = some (pgB nilV nilV)):QJ Tryd.prog 16 [.ptr P.i 0 0,.ptr o 0 0] (ph h P s) (PgQ h P o (Qeh s)):=by
 have cd:=QjI hW H hN hD
 rw [Qeh]
 cases hd:Zt (s.toks.length+1) [] s with
 |err p e =>
  rw [hd] at cd
  have cd2:QJ Tryd.prog 17 [.ptr P.i 0 0] (ph h P s) fun x h'=>x = .panic (Fl p e)∧∃ s1:PS,h'=ph h P s1:=cd
  refine Qe Tryd.func16 rfl Tryd.call16 Tryd.ntmps16 (congrArg Array.toList Tryd.results16) (by simp) ?_
  repeat (first|((first|(with_reducible (first|refine Qa fun K E hK hE=>?_|refine FunW.panE (FunW.call cd2) fun r=>?_)));simp -implicitDefEqProofs only [Qc,Qd,OpW,QE,aop,undef,AS.ev,Qq,↓reduceIte,Nat.reduceLT])|(with_reducible refine hE _ _ ?_))
  have:=Qo7 (o:=o) H r []
  rw [List.append_nil] at this
  exact .inr ⟨rfl,⟨_,this⟩,rfl⟩
 |ok d s1 =>
  rw [hd] at cd
  have cd2:QJ Tryd.prog 17 [.ptr P.i 0 0] (ph h P s) fun x h'=>x = .ret (.sl 2 (vs Dc.av d) none)∧h'=ph h P s1:=cd
  have hW1:Wst P.all s1:=Kp.Ps.ok (n:=wdOf P.all) (Kp.decls_ps trivial _ _) hW hd
  have ho1:(ph h P s1)[o]? = some (pgB nilV nilV):=by rw [Zn H hoi hoj hog];exact hob
  generalize hRr:((PR.ok d s1).bind fun d s=>(Z1 (s.toks.length+1) [] s).bind fun r s=>PR.ok (⟨d,r⟩:Pg) s)=R
  have hR0:((Z1 (s1.toks.length+1) [] s1).bind fun r s=>PR.ok (⟨d,r⟩:Pg) s)=R:=hRr
  clear hRr
  refine Qe Tryd.func16 rfl Tryd.call16 Tryd.ntmps16 (congrArg Array.toList Tryd.results16) (by simp) ?_
  iterate 3 (try (first|((first|(with_reducible (first|refine Qa fun K E hK hE=>?_|refine FunW.ret (FunW.call cd2) ?_)));simp -implicitDefEqProofs only [Qc,Qd,OpW,QE,aop,undef,AS.ev,Qq,AV.Qp8,↓reduceIte,Qg,QB,Qp,ti23,QiS,ho1,seval])|((with_reducible refine hK _ ?_);clear hK)))
  refine Yr o 26 2 6 (.grow 34 6 0) (.inr ⟨_,rfl⟩) [.agg [.sl 2 (vs Dc.av d) none,nilV]] [.agg [.sl 2 (vs Dc.av d) none,.sl 6 [] (some h.length)]] 1 (List.getElem?_set_self (by rw [QS];exact hol)) rfl (by simp [flat,AV.cells,QS]) (by simp [AV.cells]) ?_
  iterate 1 (try ((with_reducible refine Qj ?_)))
  obtain ⟨I,hI⟩:∃ I:Nat→AS→Prop,I=fun m' s=>∃ (rs:List Rl) (s2:PS) (own:Option Nat) (m:List (ByteArray×AV)),m'=s2.toks.length∧Wst P.all s2∧rs.length≤40∧(∃ k,s2.toks.length+1≤k∧((Z1 k rs s2).bind fun r s=>PR.ok (⟨d,r⟩:Pg) s)=R)∧KpO h P o s.h∧PIn P s.h s2 own m∧s.h[o]? = some (pgB (.sl 2 (vs Dc.av d) none) (.sl 6 (vs Rl.av rs) (some h.length)))∧s.h[h.length]? = some (.grow 34 6 rs.length)∧s.tm 0 = .ptr P.i 0 0∧s.tm 1 = .ptr o 0 0:=⟨_,rfl⟩;refine QO I ?_ (m:=s1.toks.length) ?_
  ·intro m' s hs;rw [hI] at hs;obtain ⟨tm,hp⟩:=s;dsimp only at hs;obtain ⟨rs,s2,own,m,rfl,hW2,hl40,⟨k,hk,hR2⟩,hkp,hpin,hob2,htk,t0,t1⟩:=hs
   have hk1:k=k - 1+1:=by omega
   have hpl:=Qt htk
   have hWc:Wst P.all ⟨s2.toks,[]⟩:=⟨hW2.wf,hW2.suf,by have:=hW2.nms;simp only [Qrd];omega⟩
   have hoh:o≠h.length:=by omega
   rw [hk1,Z1] at hR2
   have e1:=Tk.Qp9 s2.tk
   have e2:=Tk.Qqa s2.tk
   have hi2:=hpin.i
   rw [pN] at hi2
   by_cases h0:s2.tk.kind=0
   ·rw [if_pos h0] at hR2
    subst hR2
    refine QaZ o 26 2 [.agg [.sl 2 (vs Dc.av d) none,.sl 6 (vs Rl.av rs) (some h.length)]] [.agg [.sl 2 (vs Dc.av d) none,.sl 6 (vs Rl.av rs) none]] 1
     (Wk.sl rfl (fun y hy=>by obtain ⟨x,_,rfl⟩:=List.mem_map.1 hy;rfl) (WkL.refl _)) hob2 rfl rfl (fun x hx=>by rw [List.mem_singleton] at hx;subst hx;rfl) ?_
    have hX2:(hp.set o (pgB (.sl 2 (vs Dc.av d) none) (.sl 6 (vs Rl.av rs) none)))[P.i]? = some (pN P s2 own):=by rw [List.getElem?_set_ne hoi];exact hpin.i
    have cn:=QjY hW2 hX2
    have hi3:=hX2
    rw [pN] at hi3
    have z1:(s2.tk.kind != 0)=false:=by simpa using h0
    repeat (first|((first|(with_reducible (first|refine Qa fun K E hK hE=>?_|refine FunW.ret (FunW.call cn) ?_)));simp -implicitDefEqProofs only [Qc,Qd,OpW,QE,aop,AS.ev,↓reduceIte,Nat.reduceLT,Qg,Qv,aBin,Zh,ti3,QQ,QI,Qs,t0,hi3,e1,e2,z1])|(with_reducible (first|refine Qf fun K hK=>?_|refine QG ?_|refine QD ?_|refine QC ?_))|((with_reducible refine hK _ ?_);clear hK)|(refine Qh rfl ?_;simp only [↓reduceIte,Qq3]))
    simp -implicitDefEqProofs only [Qq1,Qq5,List.mapM_nil,Option.pure_def,Qq1,QF,Qn,Qq9]
    exact .inr ⟨rfl,⟨_,⟨by rw [List.length_set];exact hkp.long,fun i h1 h2 h3 h4 h5=>by rw [List.getElem?_set_ne (Ne.symm h2)];exact hkp.out i h1 h2 h3 h4 h5⟩,List.getElem?_set_self (by omega)⟩,rfl⟩
   ·rw [if_neg h0] at hR2
    have z1:(s2.tk.kind != 0)=true:=by simpa using h0
    have cn:=QjY hW2 hpin.i
    have ev:(vs Rl.av rs).length=rs.length:=Y5 _ _
    by_cases hm:40≤rs.length
    ·rw [if_pos hm] at hR2
     subst hR2
     have cr:=Qns hW2 hpin.i ((rs.length:Nat):Int) 40 (by omega)
     repeat (first|((first|(with_reducible (first|refine Qa fun K E hK hE=>?_|refine FunW.ret (FunW.call cn) ?_)));simp -implicitDefEqProofs only [Qc,Qd,OpW,QE,aop,AS.ev,↓reduceIte,Nat.reduceLT,Qg,Qv,aBin,Zh,ti3,QQ,QI,Qs,t0,hi2,e1,e2,z1])|(with_reducible (first|refine Qf fun K hK=>?_|refine Qj ?_|refine Qm ?_|refine Qb ?_))|((with_reducible refine hK _ ?_);clear hK)|(refine Qh rfl ?_;simp only [↓reduceIte]))
     refine Q9 6 [(0,0),(1,0),(2,0),(3,0),(4,0),(5,0)] mixed rfl rfl rfl (by kernel_rfl) (fun v h'=>v=Fl s2.tk.pos 6∧h'=hp) ?_ ?_
     ·rintro tm v h' ⟨rfl,rfl⟩
      exact .inr ⟨rfl,⟨_,hkp⟩,rfl⟩
     ·simp -implicitDefEqProofs only [Qc,Qd,aop,AS.ev,↓reduceIte,Qg,Qw,Qv,aLen,goInt,ti24,un24,QaS,QI,Qs,t0,t1,hi2,hob2,ev,seval]
      exact fun _=>(FunW.call cr).mono (by rintro _ _ ⟨rfl,rfl⟩;exact ⟨_,rfl,rfl,rfl⟩)
    ·rw [if_neg hm] at hR2
     have cr:=Ql8 hW2 hpin.i ((rs.length:Nat):Int) 40 (by omega)
     have cR:=Ql9 hpin hWc hN hD
     repeat (first|((first|(with_reducible (first|refine Qa fun K E hK hE=>?_|refine FunW.ret (FunW.call cn) ?_)));simp -implicitDefEqProofs only [Qc,Qd,OpW,QE,aop,AS.ev,↓reduceIte,Nat.reduceLT,Qg,Qv,aBin,Zh,ti3,QQ,QI,Qs,t0,hi2,e1,e2,z1])|(with_reducible (first|refine Qf fun K hK=>?_|refine Qj ?_|refine Qm ?_|refine Qb ?_))|((with_reducible refine hK _ ?_);clear hK)|(refine Qh rfl ?_;simp only [↓reduceIte]))
     first|refine Xj (id:=2) [(0,0),(1,0),(2,0),(3,0),(4,0),(5,0),(6,2)] mixed (by kernel_rfl) fun K hK=>?_|refine XP (id:=2) [(0,0),(1,0),(2,0),(3,0),(4,0),(5,0),(6,2)] mixed (by kernel_rfl) fun K hK=>?_
     simp -implicitDefEqProofs only [Qc,Qd,aop,AS.ev,↓reduceIte,Qg,Qw,Qv,aLen,goInt,ti24,un24,QaS,QI,Qs,t0,t1,hi2,hob2,ev,seval]
     refine XG (FunW.call cr) Zv ?_
     simp -implicitDefEqProofs only [Qdq,Q8,Nat.reduceLT]
     cases hr:ZZ s2 with
     |err p e =>
      rw [hr] at cR hR2
      have hR3:PR.err p e=R:=hR2
      subst hR3
      have cR2:QJ Tryd.prog 20 [.ptr P.i 0 0] hp fun o h'=>o = .panic (Fl p e)∧∃ Y:{Y:AH // ErrY hp P Y},h'=Y.1:=cR
      refine hK _ ?_
      clear hK
      repeat (first|(with_reducible refine Qb ?_)|((with_reducible refine hK _ ?_);clear hK))
      refine Q9 3 [(0,0),(1,0),(2,0)] mixed rfl rfl rfl (by kernel_rfl) (fun v h'=>v=Fl p e∧∃ Y:{Y:AH // ErrY hp P Y},h'=Y.1) ?_ ?_
      ·rintro tm v h' ⟨rfl,⟨Y,hY⟩,rfl⟩
       exact .inr ⟨rfl,⟨h',Nat.le_trans hkp.long hY.long,fun i h1 h2 h3 h4 h5=>by rw [hY.out i (by have:=hkp.long;omega) h3 h4];exact hkp.out i h1 h2 h3 h4 h5⟩,rfl⟩
      ·simp -implicitDefEqProofs only [Qc,Qd,aop,AS.ev,↓reduceIte,Qg,Qw,Qv,ti24,QaS,t0,t1,hob2,seval]
       exact fun _=>(FunW.call cR2).mono (by rintro _ _ ⟨rfl,x,rfl⟩;exact ⟨_,rfl,rfl,x,rfl⟩)
     |ok r s6 =>
      rw [hr] at cR hR2
      have hR3:((Z1 (k - 1) (rs++[r]) s6).bind fun r s=>PR.ok (⟨d,r⟩:Pg) s)=R:=hR2
      have hW6:Wst P.all s6:=Kp.Ps.ok (n:=wdOf P.all) (Kp.rule_ps trivial) hW2 hr
      have hl6:=(Qnu s2 hW2.wf r s6 hr).2
      have cR2:QJ Tryd.prog 20 [.ptr P.i 0 0] hp fun o h'=>o = .ret r.av∧h'=(hp.set P.i (pN P s6 none)).set P.j (kB s6):=cR
      have pil:=Qt hpin.i
      have pjl:=Qt hpin.j
      have pij:P.i≠P.j:=H.ij
      generalize hX:(hp.set P.i (pN P s6 none)).set P.j (kB s6)=X at *
      have hXo:X[o]? = some (pgB (.sl 2 (vs Dc.av d) none) (.sl 6 (vs Rl.av rs) (some h.length))):=by rw [← hX,List.getElem?_set_ne (Ne.symm hoj),List.getElem?_set_ne (Ne.symm hoi)];exact hob2
      have hXt:X[h.length]? = some (.grow 34 6 rs.length):=by rw [← hX,List.getElem?_set_ne (by have:=H.j;omega),List.getElem?_set_ne (by have:=H.i;omega)];exact htk
      have hXs:∀ y,(X.set h.length y)[o]? = some (pgB (.sl 2 (vs Dc.av d) none) (.sl 6 (vs Rl.av rs) (some h.length))):=fun y=>by rw [List.getElem?_set_ne (Ne.symm hoh)];exact hXo
      have hXl:X.length=hp.length:=by rw [← hX,List.length_set,List.length_set]
      have rc:=Rl.cells r
      have ri:=Rl.isAgg r
      have hm1:(rs.length+1) * 120≤140737488355328:=by omega
      have hm2:rs.length+1≤maxLen:=by simp only [maxLen];omega
      have evs:vs Rl.av (rs++[r])=vs Rl.av rs++[r.av]:=by rw [QhN];rfl
      have fin:∀ tm':Nat→AV,tm' 0 = .ptr P.i 0 0→tm' 1 = .ptr o 0 0→Xi I s2.toks.length ⟨tm',(X.set h.length (.grow 34 6 (rs.length+1))).set o (pgB (.sl 2 (vs Dc.av d) none) (.sl 6 (vs Rl.av rs++[r.av]) (some h.length)))⟩:=fun tm' k0 k1=>by
       have hYi:((X.set h.length (.grow 34 6 (rs.length+1))).set o (pgB (.sl 2 (vs Dc.av d) none) (.sl 6 (vs Rl.av rs++[r.av]) (some h.length))))[P.i]? = some (pN P s6 none):=by
        rw [List.getElem?_set_ne hoi,List.getElem?_set_ne (by have:=H.i;omega),← hX,List.getElem?_set_ne (Ne.symm pij),List.getElem?_set_self pil]
       have hYj:((X.set h.length (.grow 34 6 (rs.length+1))).set o (pgB (.sl 2 (vs Dc.av d) none) (.sl 6 (vs Rl.av rs++[r.av]) (some h.length))))[P.j]? = some (kB s6):=by
        rw [List.getElem?_set_ne hoj,List.getElem?_set_ne (by have:=H.j;omega),← hX,List.getElem?_set_self (by rw [List.length_set];exact pjl)]
       refine Xi.mk (m':=s6.toks.length) (by omega) ?_
       rw [hI]
       refine ⟨rs++[r],s6,none,kn s6.names,rfl,hW6,by simp;omega,⟨k - 1,by omega,hR3⟩,⟨by simp only [List.length_set,hXl];exact hkp.long,fun i h1 h2 h3 h4 h5=>?_⟩,⟨hYi,hYj⟩,?_,?_,k0,k1⟩
       ·rw [List.getElem?_set_ne (Ne.symm h2),List.getElem?_set_ne (by omega),← hX,List.getElem?_set_ne (Ne.symm h4),List.getElem?_set_ne (Ne.symm h3)];exact hkp.out i h1 h2 h3 h4 h5
       ·rw [evs];exact List.getElem?_set_self (by simp only [List.length_set,hXl];omega)
       ·rw [List.length_append,List.getElem?_set_ne hoh,List.getElem?_set_self (by rw [hXl];exact hpl)];rfl
      refine hK _ ?_
      clear hK
      repeat (first|(with_reducible refine Qb ?_)|((with_reducible refine hK _ ?_);clear hK))
      refine Zi 0 1 3 [(2,0)] [(3,2),(0,0),(1,0),(4,0),(5,2),(6,0),(7,2)] [(0,0)] [(3,2),(1,0),(4,0),(5,2),(6,0),(7,2)] [(1,0),(3,2),(4,0),(5,2),(6,0),(7,2)] mixed (by kernel_rfl) (by kernel_rfl) (by kernel_rfl) (by kernel_rfl) (by kernel_rfl) (by kernel_rfl) (by kernel_rfl) (by kernel_rfl) (by kernel_rfl) (by kernel_rfl) (by kernel_rfl) (by kernel_rfl) (fun K2 hK2=>?_)
      simp -implicitDefEqProofs only [Qc,Qd,aop,AS.ev,↓reduceIte,Qg,Qw,Qv,ti24,QaS,t0,t1,hob2,seval]
      refine ⟨?_,?_⟩
      ·refine XG (FunW.call cR2) Zv ?_
       simp -implicitDefEqProofs only [Qc,Qd,aop,undef,AS.ev,AV.Qp8,↓reduceIte,Qg,Qw,Qv,QB,Qp,QH,XD,Yb,ti24,ei24,ai24,QaS,zi34,t1,hXo,hXt,hXs,rc,hm1,hm2,ev,seval]
       refine hK2 _ (fin _ ?_ ?_) <;> assumption
      ·refine ⟨?_,?_⟩
       ·refine XG (FunW.call cR2) Zv ?_
        simp -implicitDefEqProofs only [Qc,Qd,aop,undef,AS.ev,AV.Qp8,↓reduceIte,Qg,Qw,Qv,QB,Qp,QH,XD,Yb,ti24,ei24,ai24,QaS,zi34,t1,hXo,hXt,hXs,rc,hm1,hm2,ev,seval]
        refine hK2 _ (fin _ ?_ ?_) <;> assumption
       ·refine XG (FunW.call cR2) Zv ?_
        simp -implicitDefEqProofs only [Qc,Qd,aop,undef,AS.ev,AV.Qp8,↓reduceIte,Qg,QB,Qp,QH,XD,Yb,ti24,ei24,ai24,QaS,zi34,t1,hXt,hXs,rc,hm1,hm2,ev,seval]
        refine hK2 _ (fin _ ?_ ?_) <;> assumption
  ·rw [hI]
   have hg:∀ i (y z:AB),i≠o→i<h.length→(((ph h P s1).set o y++[AB.grow 34 6 0]).set o z)[i]? = (ph h P s1)[i]? := fun i y z h1 h2=>by
    rw [List.getElem?_set_ne (Ne.symm h1),List.getElem?_append_left (by rw [List.length_set,QS];exact h2),List.getElem?_set_ne (Ne.symm h1)]
   refine ⟨[],s1,some P.g,kn s1.names,rfl,hW1,Nat.zero_le _,⟨_,Nat.le_refl _,hR0⟩,⟨by simp only [List.length_set,QrQ,QS];omega,fun i h1 h2 h3 h4 h5=>?_⟩,⟨?_,?_⟩,?_,?_,rfl,rfl⟩
   ·rw [hg i _ _ h2 h1,Zn H h3 h4 h5]
   ·rw [hg _ _ _ (Ne.symm hoi) H.i,XS H];rfl
   ·rw [hg _ _ _ (Ne.symm hoj) H.j,Qot H];rfl
   ·exact List.getElem?_set_self (by simp only [List.length_set,QrQ,QS];omega)
   ·rw [List.getElem?_set_ne (by omega)]
    have e:((ph h P s1).set o (AB.cells 26 2 [.agg [.sl 2 (vs Dc.av d) none,nilV]])).length=h.length:=by rw [List.length_set,QS]
    rw [← e,List.getElem?_append_right (Nat.le_refl _),Nat.sub_self];rfl
end
end Go.Proofs.YticgcpebdldbgaaDoor.Ab
set_option maxRecDepth 4000
namespace Go.Proofs.YticgcpebdldbgaaDoor.Ab
open Go.Proofs
section
variable {P:Pz} {s:PS} (hW:Wst P.all s) {h:AH} (H:P.ok h) (hN:P.all.length≤1000000) (hD:TkOk P.all) {o:Nat} (hol:o<h.length) (hoi:o≠P.i) (hoj:o≠P.j) (hog:o≠P.g)
include hW H hN hD hol hoi hoj hog
end
end Go.Proofs.YticgcpebdldbgaaDoor.Ab
namespace Go.Proofs.YticgcpebdldbgaaDoor.Ab
theorem QgV {P:Program} {N:Nat} {x:Code} {Q:AExit→AS→Prop} {tm:Nat→AV} {h:AH} (id d k off:Nat) {ty s:Nat} {xs:List AV} (hb:h[id]? = some (.cells ty s xs)) (hd:tm d = .ptr id k off)
  (H:XF P N x Q ⟨upd tm d (.pin s xs k off),h.set id .dead⟩):XF P N x Q ⟨tm,h⟩:=by
 intro F n base c a hF hst hr R hR
 have hh:c.h=h:=hr.h
 subst hh
 have hev:=Ev.kill hb
 have hst2:=hst.kill hb
 refine H F n base (c.kill id) a hF hst2 ⟨rfl,hr.size,hr.above,hr.defers.ev hev,RoundOk.ev hev hr.round,fun t=>?_⟩ R fun e' s' c' a' ex hq h1 h2 h3 h4=>hR e' s' c' a' ex hq (Ev.trans hst hev h1) h2 h3 h4
 show Rel (c.kill id) (if t=d then .pin s xs k off else tm t) _
 split
 ·rename_i ht
  subst ht
  have h0:=hr.tm t
  rw [show (AS.mk tm c.h).tm t=tm t from rfl,hd] at h0
  generalize a.tmps.getD t undef=u at h0
  cases h0 with
  |ptr _ _ _ x hid ho h1 =>
   obtain ⟨B,hρ,rfl⟩:=h1 _ _ _ hb
   obtain ⟨h4,f,h5⟩:=Qdc hst hb hρ
   have:=Rel.pin (c:=c.kill id) s xs k off B 0 f h4 (fun j a hj=>(h5 j a hj).1) (fun j a hj=>(h5 j a hj).2)
   rwa [Nat.zero_add] at this
 ·exact (hr.tm t).ev hst hev
set_option maxRecDepth 4000
open Go.Proofs
theorem QaQ.mono {P:Program} {f:FuncId} {args:List AV} {h:AH} {m:AMode} {Q Q':AMode→AH→Prop} (H:QaQ P f args h m Q) (hq:∀ m' h',Q m' h'→Q' m' h'):QaQ P f args h m Q' :=
 ⟨H.1,fun F n c vals u hF hro hs hh hvals hm=>(H.2 F n c vals u hF hro hs hh hvals hm).mono fun e u' w' ⟨x,m',c',h1,h2,h3⟩=>⟨x,m',c',h1,hq _ _ h2,h3⟩⟩
abbrev iC (n:Int):AB:=.cells 3 1 [.i n]
abbrev eC (n:Int):AB:=.cells 27 1 [.i n]
theorem Ql3 {h:AH} {k:Nat}:QaQ Tryd.prog 31 [.ptr k 0 0,.ptr (k+1) 0 0] h .ret fun m' h'=>m' = .ret∧h'=h:=by
 refine QaQ.mono (Qbx (Q:=fun h'=>h'=h) Tryd.func31 rfl Tryd.call31 Tryd.ntmps31 (congrArg Array.toList Tryd.results31) (by simp) (by decide) (by decide) .ret ?_) (fun m' h' q=>q)
 have hn2:∀ xo yo,pv Tryd.prog (do eqGuard .neq 20 xo yo .nilIface .nilIface;binOp .neq 20 .nilIface .nilIface)=some (.bool false):=fun xo yo=>by
  cases xo <;> cases yo <;> kernel_rfl
 repeat (first|(((with_reducible refine Qa fun K E hK hE=>?_));simp -implicitDefEqProofs only [Qc,Qd,OpW,aop,AS.ev,↓reduceIte,Nat.reduceLT,aBin,recV,hn2])|(with_reducible refine Qm ?_)|((with_reducible refine hK _ ?_);clear hK)|(refine Qh rfl ?_;simp only [↓reduceIte,Qq3]))
 simp -implicitDefEqProofs only [Qq1,Qq5,List.mapM_nil,Option.pure_def,Qq1,QF,Qn,Qq9]
 exact .inr ⟨⟨_,rfl⟩,rfl⟩
theorem Ql2 {h:AH} {k:Nat} {a0 e0:Int} (hk:h[k]? = some (iC a0)) (hk1:h[k+1]? = some (eC e0)) (p e:Int):QaQ Tryd.prog 31 [.ptr k 0 0,.ptr (k+1) 0 0] h (.pan (Fl p e) false) fun m' h'=>m' = .pan (Fl p e) true∧∃ L,h'=(h.set k (iC p)).set (k+1) (eC e)++L:=by
 refine QaQ.mono (Qbx (Q:=fun h'=>∃ L,h'=(h.set k (iC p)).set (k+1) (eC e)++L) Tryd.func31 rfl Tryd.call31 Tryd.ntmps31 (congrArg Array.toList Tryd.results31) (by simp) (by decide) (by decide) (.pan (Fl p e) false) ?_) (fun m' h' q=>q)
 have hn:∀ H,notNil Tryd.prog 20 H (.ifc 87 (.agg [.i p,.i e])) .nilIface=true:=fun H=>by kernel_rfl
 have ha:QfQ Tryd.prog (.ifc 87 (.agg [.i p,.i e])) 20 87 true=some (.tup [.agg [.i p,.i e],.v (.bool true)]):=by kernel_rfl
 have l1:=Qt hk
 have l2:=Qt hk1
 have g1:∀ L,(h++L)[k]? = some (iC a0):=fun L=>hext hk L
 have g2:∀ L y,((h++L).set k y)[k+1]? = some (eC e0):=fun L y=>by rw [List.getElem?_set_ne (by omega)];exact hext hk1 L
 repeat (first|(((with_reducible refine Qa fun K E hK hE=>?_));simp -implicitDefEqProofs only [Qc,Qd,OpW,aop,undef,AS.ev,AV.Qp8,↓reduceIte,QB,Qp,aBin,QY,ti87,zi87,recV,Fl,hn,ha,seval])|(with_reducible (first|refine Qf fun K hK=>?_|refine Qm ?_|refine Qb ?_))|((with_reducible refine hK _ ?_);clear hK)|(refine Qh rfl ?_;simp only [↓reduceIte,Qq3]))
 refine QgV h.length 3 0 0 (ty:=87) (s:=2) (xs:=[.agg [.i p,.i e]]) (by rw [List.getElem?_append_right (Nat.le_refl _),Nat.sub_self];rfl) rfl ?_
 have g3:(h++[AB.cells 87 2 [.agg [.i p,.i e]]]).set h.length .dead=h++[.dead]:=by rw [List.set_append_right _ _ (Nat.le_refl _),Nat.sub_self];rfl
 rw [g3]
 repeat (first|(((refine XP (id:=5) [(0,1),(1,1),(2,1),(3,1),(4,2),(5,2)] mixed (by kernel_rfl) fun K hK=>?_));simp -implicitDefEqProofs only [Qc,Qd,aop,undef,AS.ev,Qq,AV.Qp8,↓reduceIte,Qg,Qw,Qv,QB,Qp,ti3,ti27,Qo0,Qo1,g1,g2,seval])|((with_reducible refine hK _ ?_);clear hK))
 simp -implicitDefEqProofs only [Qq1,Qq5,List.mapM_nil,Option.pure_def,Qq1,QF,Qn,Qq9]
 refine .inr ⟨⟨_,rfl⟩,[.dead],?_⟩
 rw [List.set_append_left _ _ l1,List.set_append_left _ _ (by rw [List.length_set];exact l2)]
def symC:Array Value:=(XB.map fun x=>Value.string (mkB x)).toArray
def ZP (h:AH):Prop:=HasG h 0 symC
theorem Qno (j:Nat) (h:j<XB.length):pv Tryd.prog (Instr.index 141 (.agg symC) (.int .i64 (j:Int)))=some (.string (mkB XB[j])):=by
 have h23:j<23:=h
 have key:∀ m:Fin 23,pv Tryd.prog (Instr.index 141 (.agg symC) (.int .i64 ((m:Nat):Int)))=some (.string (mkB (XB[(m:Nat)]'m.isLt))):=by
  have hx:∀ (m:Fin 23),(match pv Tryd.prog (Instr.index 141 (.agg symC) (.int .i64 ((m:Nat):Int))) with|some (.string b)=>b.data.toList==XB[(m:Nat)]'m.isLt|_=>false)=true:=by decide +kernel
  intro m
  have:=hx m
  split at this
  ·rename_i b hb
   rw [hb]
   rw [show b=mkB (XB[(m:Nat)]'m.isLt) from by rw [← beq_iff_eq.1 this];exact (Qgf b).symm]
  ·cases this
 exact key ⟨j,h23⟩
theorem Qgp (x l:List UInt8):x.isPrefixOf l=(l.take x.length==x):=by
 rw [Bool.eq_iff_iff,List.isPrefixOf_iff_prefix,beq_iff_eq,List.prefix_iff_eq_take]
 exact eq_comm
theorem Qfk (l:List UInt8) (k n:Nat) (h:k+n≤l.length):((mkB l).extract k (k+n)).toList=(l.drop k).take n:=by
 rw [Lib.toList_data,ByteArray.data_extract,mkB]
 simp only [Array.toList_extract,List.extract_eq_take_drop]
 rw [Nat.add_sub_cancel_left]
theorem QbI (l:List UInt8) (k n:Nat) (h:k+n≤l.length):(mkB l).extract k (k+n)=mkB ((l.drop k).take n):=by
 apply toList_inj
 rw [Qfk l k n h,Qfw]
theorem QiG (l:List UInt8) (hl:l.length≤16384) (k:Nat) (hk:k≤l.length) (h:AH) (hG:ZP h) :
  QJ Tryd.prog 98 [.v (.string (mkB l)),.i k] h fun o h'=>o = .ret (.v (.string (mkB ((Qkh (l.drop k)).getD []))))∧h'=h:=by
 have hsl:=fun b=>Zz Tryd.prog 9 3 (by kernel_rfl) b
 have z1:¬ ((k:Nat):Int)<0:=by omega
 have z2:¬ ((l.length:Nat):Int)<((k:Nat):Int):=by omega
 have z3:¬ ((k:Nat):Int)>((l.length:Nat):Int):=by omega
 refine Qe Tryd.func98 rfl Tryd.call98 Tryd.ntmps98 (congrArg Array.toList Tryd.results98) (by simp) ?_
 iterate 10 (try (first|(((with_reducible refine Qa fun K E hK hE=>?_));simp -implicitDefEqProofs only [Qc,Qd,OpW,aop,undef,AS.ev,Qq,↓reduceIte,aBin,aLen,goInt,hsl,Q3,z1,z2,seval])|(with_reducible (first|refine Qf fun K hK=>?_|refine Qm ?_|refine Qb ?_))|((with_reducible refine hK _ ?_);clear hK)|(refine Qh rfl ?_;simp only [↓reduceIte,Qq3])))
 refine QeM 0 rfl fun K E hK hE=>?_
 simp -implicitDefEqProofs only [Qc,Qd,OpW,aop,AS.ev,Nat.reduceLT,Qp5,QmA]
 refine ⟨_,symC,rfl,hG,rfl,rfl,?_⟩
 refine hK _ ?_
 clear hK hE
 iterate 1 (try ((with_reducible refine Qj ?_)))
 obtain ⟨I,hI⟩:∃ I:Nat→AS→Prop,I=fun m' s=>∃ j:Nat,m'=XB.length - j∧j≤XB.length∧(XB.drop j).find? (fun x=>x.isPrefixOf (l.drop k))=Qkh (l.drop k)∧s.tm 0 = .v (.string (mkB l))∧s.tm 1 = .i k∧s.tm 15 = .v (.agg symC)∧s.tm 16 = .i j∧s.h=h:=⟨_,rfl⟩;refine QO I ?_ (m:=XB.length) ?_
 ·intro m' s hs;rw [hI] at hs;obtain ⟨tm,hp⟩:=s;dsimp only at hs;obtain ⟨j,rfl,hj,he,t0,t1,t15,t16,rfl⟩:=hs
  by_cases hlt:j<XB.length
  ·have y1:((j:Nat):Int)<23:=by have:XB.length=23:=rfl;omega
   have hix:=Qno j hlt
   have hx3:XB[j].length≤3:=by have:∀ x∈XB,x.length≤3:=(by decide);exact this _ (List.getElem_mem hlt)
   rw [List.drop_eq_getElem_cons hlt,List.find?_cons] at he
   generalize hx:XB[j]=x at *
   have w1:IntKind.i64.wrap (((l.length:Nat):Int) - ((k:Nat):Int))=((l.length - k:Nat):Int):=by rw [XR (by omega)];omega
   have w2:IntKind.i64.wrap (((k:Nat):Int)+((x.length:Nat):Int))=((k+x.length:Nat):Int):=by rw [XR (by omega)];omega
   have w3:IntKind.i64.wrap (((j:Nat):Int)+1)=((j+1:Nat):Int):=Xk (by omega)
   by_cases hle:x.length≤l.length - k
   ·have y2:((x.length:Nat):Int)≤((l.length - k:Nat):Int):=by omega
    have y3:((l.length - k:Nat):Int)≥((x.length:Nat):Int):=by omega
    have hsp:=Qcl Tryd.prog 9 (by kernel_rfl) (mkB l) (some (.i64,(k:Nat))) (some (.i64,(k+x.length:Nat))) k (k+x.length) ⟨by omega,by rw [Q3];omega,by omega⟩ ⟨by omega,by omega,by omega⟩
    simp only [Qq1] at hsp
    have hq:(((mkB l).extract k (k+x.length)).toList==(mkB x).toList)=x.isPrefixOf (l.drop k):=by rw [Qfk l k _ (by omega),Qfw,Qgp]
    cases hc:x.isPrefixOf (l.drop k) with
    |true =>
     rw [hc] at hq he
     repeat (first|(((with_reducible refine Qa fun K E hK hE=>?_));simp -implicitDefEqProofs only [Qc,Qd,OpW,aop,AS.ev,↓reduceIte,aBin,Qaj,aLen,goInt,ei9,t0,t1,t15,t16,hsl,Q3,y1,y2,hix,w1,w2,hsp,hq,seval])|(with_reducible (first|refine Qf fun K hK=>?_|refine Qj ?_|refine Ql ?_|refine Qm ?_|refine Qb ?_|refine Qu ?_|refine Qy ?_))|((with_reducible refine hK _ ?_);clear hK)|(refine Qh rfl ?_;simp only [↓reduceIte]))
     simp only [QF,Qn,Qr,upd,↓reduceIte,Qq5,Qq9]
     exact Qi List.take_length (.keep (.v _)) ⟨by rw [← he];rfl,rfl⟩
    |false =>
     rw [hc] at hq he
     repeat (first|((first|(with_reducible (first|refine Qa fun K E hK hE=>?_|refine Qk fun K E hK hE=>?_)));simp -implicitDefEqProofs only [Qc,Qd,OpW,aop,AS.ev,↓reduceIte,aBin,Qaj,aLen,goInt,ei9,t0,t1,t15,t16,hsl,Q3,y1,y2,hix,w1,w2,w3,hsp,hq,seval])|(with_reducible (first|refine Qf fun K hK=>?_|refine Qj ?_|refine Qm ?_|refine Qb ?_|refine Qo ?_))|((with_reducible refine hK _ ?_);clear hK)|(refine Qh rfl ?_;simp only [↓reduceIte,Qq3]))
     refine Xi.mk (m':=XB.length - (j+1)) (by omega) ?_
     rw [hI]
     exact ⟨j+1,rfl,by omega,he,t0,t1,t15,rfl,rfl⟩
   ·have y2:¬ ((x.length:Nat):Int)≤((l.length - k:Nat):Int):=by omega
    have y3:¬ ((l.length - k:Nat):Int)≥((x.length:Nat):Int):=by omega
    have hc:x.isPrefixOf (l.drop k)=false:=by
     rw [Qgp,beq_eq_false_iff_ne]
     intro e
     have:=congrArg List.length e
     rw [List.length_take,List.length_drop] at this
     omega
    rw [hc] at he
    repeat (first|((first|(with_reducible (first|refine Qa fun K E hK hE=>?_|refine Qk fun K E hK hE=>?_)));simp -implicitDefEqProofs only [Qc,Qd,OpW,aop,undef,AS.ev,↓reduceIte,aBin,aLen,goInt,t0,t1,t15,t16,hsl,Q3,y1,y2,hix,w1,w3,seval])|(with_reducible (first|refine Qf fun K hK=>?_|refine Qj ?_|refine Qm ?_|refine Qb ?_|refine Qo ?_))|((with_reducible refine hK _ ?_);clear hK)|(refine Qh rfl ?_;simp only [↓reduceIte,Qq3]))
    refine Xi.mk (m':=XB.length - (j+1)) (by omega) ?_
    rw [hI]
    exact ⟨j+1,rfl,by omega,he,t0,t1,t15,rfl,rfl⟩
  ·have hjl:j=XB.length:=by omega
   have y1:¬ ((j:Nat):Int)<23:=by have:XB.length=23:=rfl;omega
   rw [hjl,List.drop_length,List.find?_nil] at he
   repeat (first|(((with_reducible refine Qa fun K E hK hE=>?_));simp -implicitDefEqProofs only [Qc,Qd,OpW,aop,AS.ev,Nat.reduceLT,aBin,t16,y1])|(with_reducible (first|refine Qf fun K hK=>?_|refine Ql ?_|refine QG ?_|refine Qb ?_|refine QD ?_|refine QC ?_))|((with_reducible refine hK _ ?_);clear hK)|(clear hK;(with_reducible refine hK _ ?_);clear hK)|(refine Qh rfl ?_;simp only [↓reduceIte,Qq3]))
   simp only [QF,Qn,Qr,upd,↓reduceIte,Qq5,Qq9]
   exact Qi List.take_length (.keep (.v _)) ⟨by rw [← he];rfl,rfl⟩
 ·rw [hI]
  exact ⟨0,rfl,Nat.zero_le _,rfl,rfl,rfl,rfl,rfl,rfl⟩
end Go.Proofs.YticgcpebdldbgaaDoor.Ab
set_option maxRecDepth 4000
namespace Go.Proofs.YticgcpebdldbgaaDoor.Ab
open Go.Proofs
def tkv (k i:Int) (x:List UInt8):AV:=.agg [.i k,.i i,.v (.string (mkB x))]
def zTok:AV:=.agg [.i 0,.i 0,.v (.string {data:=#[]})]
theorem QeA (n:Nat) (k i:Int) (x:List UInt8):Below n (tkv k i x):=.agg _ fun a ha=>by
 simp only [List.mem_cons,List.not_mem_nil,or_false] at ha
 rcases ha with rfl|rfl|rfl <;> exact .v _
theorem Qav {n:Nat} {t:AV} (ht:Below n t) (a b:Int):Below n (.tup [t,.i a,.i b]):=.tup _ fun x hx=>by
 simp only [List.mem_cons,List.not_mem_nil,or_false] at hx
 rcases hx with rfl|rfl|rfl
 ·exact ht
 ·exact .v _
 ·exact .v _
def rdT (k:Nat):Int×List UInt8 ⊕ Int→AV
 | .inl (kd,x)=>.tup [tkv kd k x,.i ((k+x.length:Nat):Int),.i 0]
 | .inr e=>.tup [zTok,.i k,.i e]
theorem QoM:zTok=tkv 0 0 []:=rfl
theorem Y0 (n k:Nat) (r:Int×List UInt8 ⊕ Int):Below n (rdT k r):=by
 cases r with
 |inl p=>exact Qav (QeA n _ _ _) _ _
 |inr e=>exact Qav (QoM▸QeA n _ _ _) _ _
theorem QiP (c:UInt8):(clsN (c.toNat:Nat)=2∧isL c=true∧97≤c.toNat)∨(clsN (c.toNat:Nat)=3∧isL c=true∧¬ 97≤c.toNat)∨(clsN (c.toNat:Nat)=4∧isL c=false∧isD c=true)∨((clsN (c.toNat:Nat)=0∨clsN (c.toNat:Nat)=1)∧isL c=false∧isD c=false):=by
 have hc:=c.toNat_lt
 unfold clsN isL isD
 simp only [decide_eq_true_eq,decide_eq_false_iff_not]
 repeat' split
 all_goals omega
section
variable (l:List UInt8) (hl:l.length≤16384) (k:Nat) (h:AH)
include hl
theorem Qmk (hk:k=l.length):QJ Tryd.prog 89 [.v (.string (mkB l)),.i k] h fun o h'=>o = .ret (rdT k (ZL (l.drop k)))∧h'=h:=by
 have _hu:=hl
 have hsl:=fun b=>Zz Tryd.prog 9 3 (by kernel_rfl) b
 have z1:(((k:Nat):Int)==((l.length:Nat):Int))=true:=by rw [hk];simp
 have e:rdT k (ZL (l.drop k)) = .tup [tkv 0 k [],.i k,.i 0]:=by rw [hk,List.drop_length];rfl
 rw [e]
 refine Qe Tryd.func89 rfl Tryd.call89 Tryd.ntmps89 (congrArg Array.toList Tryd.results89) (by simp) ?_
 repeat (first|(((with_reducible refine Qa fun K E hK hE=>?_));simp -implicitDefEqProofs only [Qc,Qd,OpW,aop,undef,AS.ev,Qq,AV.Qp8,↓reduceIte,Qg,Qw,Qv,QB,Qp,aBin,aLen,goInt,ti3,ti60,Yc,zi60,hsl,Q3,z1,seval])|(with_reducible (first|refine Qf fun K hK=>?_|refine Ql ?_|refine Qu ?_))|((with_reducible refine hK _ ?_);clear hK)|(refine Qh rfl ?_;simp only [↓reduceIte]))
 simp -implicitDefEqProofs only [Qc,↓reduceIte,Qw,Qv,ti60,List.mapM_cons,List.mapM_nil,Option.pure_def,Option.bind_eq_bind,Qw,Qv,QF,Qn,Qr,Qq9,seval]
 exact Qi (htake _ _) (.keep (Qav (QeA _ _ _ _) _ _)) ⟨rfl,rfl⟩
theorem Qkn (hk:k<l.length) (hL:isL l[k]=true):QJ Tryd.prog 89 [.v (.string (mkB l)),.i k] h fun o h'=>o = .ret (rdT k (ZL (l.drop k)))∧h'=h:=by
 have hsl:=fun b=>Zz Tryd.prog 9 3 (by kernel_rfl) b
 have z1:(((k:Nat):Int)==((l.length:Nat):Int))=false:=by simp;omega
 have hix:=Zo Tryd.prog 9 (by kernel_rfl) (mkB l) k (by rw [Q3];exact hk)
 rw [Z6 l k hk] at hix
 have cp:=Qb1 (((l[k]).toNat:Nat):Int)
 have cr:=Qhv l hl isW 2 QoT k (by omega)
 have hd:=drop_cons hk
 have hn:((l.drop k).takeWhile isW).length≤l.length - k:=by rw [← List.length_drop];exact (List.takeWhile_prefix _).length_le
 obtain ⟨w,hw⟩:∃ w,w=(l.drop k).takeWhile isW:=⟨_,rfl⟩
 rw [← hw] at cr hn
 have ht:ZL (l.drop k)=if 40<w.length then .inr 7 else .inl (if 97≤l[k].toNat then 1 else 2,w):=by rw [hw,hd,ZL,if_pos hL]
 have w1:IntKind.i64.wrap (((k+w.length:Nat):Int) - ((k:Nat):Int))=((w.length:Nat):Int):=by rw [XR (by omega)];omega
 have hsp:=Qcl Tryd.prog 9 (by kernel_rfl) (mkB l) (some (.i64,(k:Nat))) (some (.i64,(k+w.length:Nat))) k (k+w.length) ⟨by omega,by rw [Q3];omega,by omega⟩ ⟨by omega,by omega,by omega⟩
 simp only [Qq1] at hsp
 have hwt:(l.drop k).take w.length=w:=by rw [hw];exact (List.prefix_iff_eq_take.1 (List.takeWhile_prefix isW)).symm
 rw [QbI l k _ (by omega),hwt] at hsp
 have hcl:=QiP l[k]
 have q23:((2:Int)==3)=false:=rfl
 have q32:((3:Int)==2)=false:=rfl
 rw [ht]
 by_cases h40:40<w.length
 ·have y1:((w.length:Nat):Int)>40:=by omega
  have y2:(40:Int)<((w.length:Nat):Int):=by omega
  rw [if_pos h40]
  by_cases h97:97≤l[k].toNat
  ·have c2:clsN (((l[k]).toNat:Nat):Int)=2:=by rcases hcl with ⟨a,b,c⟩|⟨a,b,c⟩|⟨a,b,c⟩|⟨a,b,c⟩ <;> first|exact a|omega|exact absurd (b.symm.trans hL) (by decide)
   rw [c2] at cp
   refine Qe Tryd.func89 rfl Tryd.call89 Tryd.ntmps89 (congrArg Array.toList Tryd.results89) (by simp) ?_
   repeat (first|((first|(with_reducible (first|refine Qa fun K E hK hE=>?_|refine Qz cp ?_|refine Qz cr ?_)));simp -implicitDefEqProofs only [Qc,Qd,OpW,QE,aop,undef,AS.ev,Qq,AV.Qp8,↓reduceIte,Qg,QB,Qp,aBin,Xf,Xu,aLen,goInt,ti3,ti60,QQ,Yc,zi60,sp60,hsl,Q3,z1,hix,w1,y1,q23,seval])|(with_reducible (first|refine Qf fun K hK=>?_|refine Qj ?_|refine Ql ?_|refine Qm ?_|refine Qb ?_|refine Qu ?_|refine Qy ?_))|((with_reducible refine hK _ ?_);clear hK)|(refine Qh rfl ?_;simp only [↓reduceIte,Qq3]))
   simp -implicitDefEqProofs only [Qc,↓reduceIte,Qw,Qv,ti60,List.mapM_cons,List.mapM_nil,Option.pure_def,Option.bind_eq_bind,Qw,Qv,QF,Qn,Qr,Qq9,seval]
   exact Qi (htake _ _) (.keep (Y0 _ _ (.inr 7))) ⟨rfl,rfl⟩
  ·have c2:clsN (((l[k]).toNat:Nat):Int)=3:=by rcases hcl with ⟨a,b,c⟩|⟨a,b,c⟩|⟨a,b,c⟩|⟨a,b,c⟩ <;> first|exact a|omega|exact absurd (b.symm.trans hL) (by decide)
   rw [c2] at cp
   refine Qe Tryd.func89 rfl Tryd.call89 Tryd.ntmps89 (congrArg Array.toList Tryd.results89) (by simp) ?_
   repeat (first|((first|(with_reducible (first|refine Qa fun K E hK hE=>?_|refine Qk fun K E hK hE=>?_|refine Qz cp ?_|refine Qz cr ?_)));simp -implicitDefEqProofs only [Qc,Qd,OpW,QE,aop,undef,AS.ev,Qq,AV.Qp8,↓reduceIte,Qg,QB,Qp,aBin,Xf,Xu,aLen,goInt,ti3,ti60,QQ,Yc,zi60,sp60,hsl,Q3,z1,hix,w1,y1,q32,seval])|(with_reducible (first|refine Qf fun K hK=>?_|refine Qj ?_|refine Ql ?_|refine Qm ?_|refine Qb ?_|refine Qu ?_|refine Qy ?_))|((with_reducible refine hK _ ?_);clear hK)|(refine Qh rfl ?_;simp only [↓reduceIte,Qq3]))
   simp -implicitDefEqProofs only [Qc,↓reduceIte,Qw,Qv,ti60,List.mapM_cons,List.mapM_nil,Option.pure_def,Option.bind_eq_bind,Qw,Qv,QF,Qn,Qr,Qq9,seval]
   exact Qi (htake _ _) (.keep (Y0 _ _ (.inr 7))) ⟨rfl,rfl⟩
 ·have y1:¬ ((w.length:Nat):Int)>40:=by omega
  have y2:¬ (40:Int)<((w.length:Nat):Int):=by omega
  rw [if_neg h40]
  by_cases h97:97≤l[k].toNat
  ·have c2:clsN (((l[k]).toNat:Nat):Int)=2:=by rcases hcl with ⟨a,b,c⟩|⟨a,b,c⟩|⟨a,b,c⟩|⟨a,b,c⟩ <;> first|exact a|omega|exact absurd (b.symm.trans hL) (by decide)
   rw [c2] at cp
   rw [if_pos h97]
   refine Qe Tryd.func89 rfl Tryd.call89 Tryd.ntmps89 (congrArg Array.toList Tryd.results89) (by simp) ?_
   repeat (first|((first|(with_reducible (first|refine Qa fun K E hK hE=>?_|refine Qz cp ?_|refine Qz cr ?_)));simp -implicitDefEqProofs only [Qc,Qd,OpW,QE,aop,undef,AS.ev,Qq,AV.Qp8,↓reduceIte,Qg,Qw,Qv,QB,Qp,aBin,Qaj,aLen,goInt,ti3,ti9,ei9,ti60,QQ,Yc,Xc,zi60,hsl,Q3,z1,hix,w1,y1,hsp,q23,seval])|(with_reducible (first|refine Qf fun K hK=>?_|refine Qj ?_|refine Ql ?_|refine Qm ?_|refine Qb ?_|refine Qo ?_))|((with_reducible refine hK _ ?_);clear hK)|(refine Qh rfl ?_;simp only [↓reduceIte,Qq3]))
   simp -implicitDefEqProofs only [Qc,↓reduceIte,Qw,Qv,ti60,List.mapM_cons,List.mapM_nil,Option.pure_def,Option.bind_eq_bind,Qw,Qv,QF,Qn,Qr,Qq9,seval]
   exact Qi (htake _ _) (.keep (Y0 _ k (.inl (1,w)))) ⟨rfl,rfl⟩
  ·have c2:clsN (((l[k]).toNat:Nat):Int)=3:=by rcases hcl with ⟨a,b,c⟩|⟨a,b,c⟩|⟨a,b,c⟩|⟨a,b,c⟩ <;> first|exact a|omega|exact absurd (b.symm.trans hL) (by decide)
   rw [c2] at cp
   rw [if_neg h97]
   refine Qe Tryd.func89 rfl Tryd.call89 Tryd.ntmps89 (congrArg Array.toList Tryd.results89) (by simp) ?_
   repeat (first|((first|(with_reducible (first|refine Qa fun K E hK hE=>?_|refine Qk fun K E hK hE=>?_|refine Qz cp ?_|refine Qz cr ?_)));simp -implicitDefEqProofs only [Qc,Qd,OpW,QE,aop,undef,AS.ev,Qq,AV.Qp8,↓reduceIte,Qg,Qw,Qv,QB,Qp,aBin,Qaj,aLen,goInt,ti3,ti9,ei9,ti60,QQ,Yc,Xc,zi60,hsl,Q3,z1,hix,w1,y1,hsp,q32,seval])|(with_reducible (first|refine Qf fun K hK=>?_|refine Qj ?_|refine Ql ?_|refine Qm ?_|refine Qb ?_|refine Qo ?_))|((with_reducible refine hK _ ?_);clear hK)|(refine Qh rfl ?_;simp only [↓reduceIte,Qq3]))
   simp -implicitDefEqProofs only [Qc,↓reduceIte,Qw,Qv,ti60,List.mapM_cons,List.mapM_nil,Option.pure_def,Option.bind_eq_bind,Qw,Qv,QF,Qn,Qr,Qq9,seval]
   exact Qi (htake _ _) (.keep (Y0 _ k (.inl (2,w)))) ⟨rfl,rfl⟩
theorem Qmm (hk:k<l.length) (hL:isL l[k]=false) (hD:isD l[k]=false) (hG:ZP h):QJ Tryd.prog 89 [.v (.string (mkB l)),.i k] h fun o h'=>o = .ret (rdT k (ZL (l.drop k)))∧h'=h:=by
 have hsl:=fun b=>Zz Tryd.prog 9 3 (by kernel_rfl) b
 have z1:(((k:Nat):Int)==((l.length:Nat):Int))=false:=by simp;omega
 have hix:=Zo Tryd.prog 9 (by kernel_rfl) (mkB l) k (by rw [Q3];exact hk)
 rw [Z6 l k hk] at hix
 have cp:=Qb1 (((l[k]).toNat:Nat):Int)
 have hd:=drop_cons hk
 have cs:=fun b=>QiG l hl k (by omega) (h++[b]) (hG.app [b])
 have ht:ZL (l.drop k)=match Qkh (l.drop k) with|some x=>.inl (4,x)|none=>.inr 16:=by rw [hd,ZL,if_neg (by rw [hL];decide),if_neg (by rw [hD];decide)];rfl
 have hcl:=QiP l[k]
 have c0:clsN (((l[k]).toNat:Nat):Int)=0∨clsN (((l[k]).toNat:Nat):Int)=1:=by rcases hcl with ⟨a,b,c⟩|⟨a,b,c⟩|⟨a,b,c⟩|⟨a,b,c⟩ <;> first|exact a|exact absurd (b.symm.trans hL) (by decide)|exact absurd (c.symm.trans hD) (by decide)
 generalize hcn:clsN (((l[k]).toNat:Nat):Int)=cn at *
 clear hcl
 have u2:(cn==2)=false:=by simp;omega
 have u3:(cn==3)=false:=by simp;omega
 have u4:(cn==4)=false:=by simp;omega
 rw [ht]
 cases hs:Qkh (l.drop k) with
 |none =>
  rw [hs] at cs
  have hq:((mkB []).toList==({data:=#[]}:ByteArray).toList)=true:=by rw [Qfw,Lib.toList_data];rfl
  simp only [Option.getD_none] at cs
  refine Qe Tryd.func89 rfl Tryd.call89 Tryd.ntmps89 (congrArg Array.toList Tryd.results89) (by simp) ?_
  repeat (first|((first|(with_reducible (first|refine Qa fun K E hK hE=>?_|refine Qk fun K E hK hE=>?_|refine Qz cp ?_|refine FunW.ret (FunW.call (cs _)) ?_)));simp -implicitDefEqProofs only [Qc,Qd,OpW,QE,aop,undef,AS.ev,Qq,AV.Qp8,↓reduceIte,Qg,QB,Qp,aBin,Xf,Xu,aLen,goInt,ti3,ti60,Yc,zi60,sp60,hsl,Q3,z1,hix,u2,u3,u4,hq,seval])|(with_reducible (first|refine Qf fun K hK=>?_|refine Qj ?_|refine Ql ?_|refine Qm ?_|refine Qb ?_|refine Qu ?_|refine Qy ?_))|((with_reducible refine hK _ ?_);clear hK)|(refine Qh rfl ?_;simp only [↓reduceIte,Qq3]))
  simp -implicitDefEqProofs only [Qc,↓reduceIte,Qw,Qv,ti60,List.mapM_cons,List.mapM_nil,Option.pure_def,Option.bind_eq_bind,Qw,Qv,QF,Qn,Qr,Qq9,seval]
  exact Qi (htake _ _) (.keep (Y0 _ _ (.inr 16))) ⟨rfl,rfl⟩
 |some x =>
  rw [hs] at cs
  obtain ⟨x1,x3,xp⟩:=QhJ hs
  rw [Qgp,beq_iff_eq] at xp
  have xl:x.length≤l.length - k:=by have:=congrArg List.length xp;rw [List.length_take,List.length_drop] at this;omega
  have hq:((mkB x).toList==({data:=#[]}:ByteArray).toList)=false:=by
   rw [Qfw,beq_eq_false_iff_ne]
   intro e
   have:=congrArg List.length e
   rw [Lib.toList_data,show ({data:=#[]}:ByteArray).data.toList.length=0 from rfl] at this
   omega
  simp only [Option.getD_some] at cs
  have w1:IntKind.i64.wrap (((k:Nat):Int)+((x.length:Nat):Int))=((k+x.length:Nat):Int):=by rw [XR (by omega)];omega
  have hsp:=Qcl Tryd.prog 9 (by kernel_rfl) (mkB l) (some (.i64,(k:Nat))) (some (.i64,(k+x.length:Nat))) k (k+x.length) ⟨by omega,by rw [Q3];omega,by omega⟩ ⟨by omega,by omega,by omega⟩
  simp only [Qq1] at hsp
  rw [QbI l k _ (by omega),xp] at hsp
  refine Qe Tryd.func89 rfl Tryd.call89 Tryd.ntmps89 (congrArg Array.toList Tryd.results89) (by simp) ?_
  repeat (first|((first|(with_reducible (first|refine Qa fun K E hK hE=>?_|refine Qk fun K E hK hE=>?_|refine Qz cp ?_|refine FunW.ret (FunW.call (cs _)) ?_)));simp -implicitDefEqProofs only [Qc,Qd,OpW,QE,aop,undef,AS.ev,Qq,AV.Qp8,↓reduceIte,Qg,Qw,Qv,QB,Qp,aBin,Qaj,aLen,goInt,ti3,ti9,ei9,ti60,QQ,Yc,Xc,zi60,hsl,Q3,z1,hix,u2,u3,u4,hq,w1,hsp,seval])|(with_reducible (first|refine Qf fun K hK=>?_|refine Qj ?_|refine Ql ?_|refine Qm ?_|refine Qb ?_|refine Qo ?_))|((with_reducible refine hK _ ?_);clear hK)|(refine Qh rfl ?_;simp only [↓reduceIte,Qq3]))
  simp -implicitDefEqProofs only [Qc,↓reduceIte,Qw,Qv,ti60,List.mapM_cons,List.mapM_nil,Option.pure_def,Option.bind_eq_bind,Qw,Qv,QF,Qn,Qr,Qq9,seval]
  exact Qi (htake _ _) (.keep (Y0 _ _ (.inl (4,x)))) ⟨rfl,rfl⟩
end
end Go.Proofs.YticgcpebdldbgaaDoor.Ab
set_option maxRecDepth 4000
namespace Go.Proofs.YticgcpebdldbgaaDoor.Ab
open Go.Proofs
theorem Qp7 {n : Int} (h : 0 ≤ n ∧ n ≤ 255) : IntKind.u8.wrap n = n := IntWalk.u8_in n h
theorem Qp3 (n : Int) (hn : 0 ≤ n ∧ n < 256) : pv Tryd.prog (convert 5 3 (.int .u8 n)) = some (.int .i64 n) := by
  have : pv Tryd.prog (convert 5 3 (.int .u8 n)) = some (.int .i64 (IntKind.i64.wrap n)) := by kernel_rfl
  rw [this, XR (by omega)]
theorem QhC (q : List UInt8) : ∃ j, j ≤ q.length ∧ Xw false q = q.drop j := by
  have : ∀ (b : Bool) (q : List UInt8), ∃ j, j ≤ q.length ∧ Xw b q = q.drop j := fun b q => by
    induction q generalizing b with
    | nil => exact ⟨0, Nat.le_refl _, by cases b <;> rfl⟩
    | cons c r ih =>
      cases b with
      | true =>
        rw [Xw]
        split
        · obtain ⟨j, h1, h2⟩ := ih false; exact ⟨j + 1, by simp; omega, by rw [h2]; rfl⟩
        · obtain ⟨j, h1, h2⟩ := ih true; exact ⟨j + 1, by simp; omega, by rw [h2]; rfl⟩
      | false =>
        rw [Xw]
        split
        · obtain ⟨j, h1, h2⟩ := ih false; exact ⟨j + 1, by simp; omega, by rw [h2]; rfl⟩
        · split
          · obtain ⟨j, h1, h2⟩ := ih true; exact ⟨j + 1, by simp; omega, by rw [h2]; rfl⟩
          · exact ⟨0, Nat.zero_le _, rfl⟩
  exact this false q
section
variable (l : List UInt8) (hl : l.length ≤ 16384) (k : Nat) (h : AH)
include hl
theorem Qml (hk : k < l.length) (hD : isD l[k] = true) : QJ Tryd.prog 89 [.v (.string (mkB l)), .i k] h fun o h' => o = .ret (rdT k (ZL (l.drop k))) ∧ h' = h := by
  have hsl := fun b => Zz Tryd.prog 9 3 (by kernel_rfl) b
  have z1 : (((k : Nat) : Int) == ((l.length : Nat) : Int)) = false := by simp; omega
  have hix := Zo Tryd.prog 9 (by kernel_rfl) (mkB l) k (by rw [Q3]; exact hk)
  rw [Z6 l k hk] at hix
  have cp := Qb1 (((l[k]).toNat : Nat) : Int)
  have cr := Qhv l hl isD 4 QkZ k (by omega)
  have hd := drop_cons hk
  have hn : ((l.drop k).takeWhile isD).length ≤ l.length - k := by rw [← List.length_drop]; exact (List.takeWhile_prefix _).length_le
  obtain ⟨w, hw⟩ : ∃ w, w = (l.drop k).takeWhile isD := ⟨_, rfl⟩
  rw [← hw] at cr hn
  have hL : isL l[k] = false := by rcases QiP l[k] with ⟨a, b, c⟩ | ⟨a, b, c⟩ | ⟨a, b, c⟩ | ⟨a, b, c⟩
                                   · exact absurd ((QkZ l[k]).2 hD) (by omega)
                                   · exact absurd ((QkZ l[k]).2 hD) (by omega)
                                   · exact b
                                   · exact b
  have c4 : clsN (((l[k]).toNat : Nat) : Int) = 4 := by rcases QiP l[k] with ⟨a, b, c⟩ | ⟨a, b, c⟩ | ⟨a, b, c⟩ | ⟨a, b, c⟩ <;> first | exact a | exact absurd (b.symm.trans hL) (by decide) | exact absurd (c.symm.trans hD) (by decide)
  rw [c4] at cp
  have ht : ZL (l.drop k) = if 2147483648 < numVal w then .inr 5 else .inl (3, w) := by rw [hw, hd, ZL, if_neg (by rw [hL]; decide), if_pos hD]
  have hsp := Qcl Tryd.prog 9 (by kernel_rfl) (mkB l) (some (.i64, (k : Nat))) (some (.i64, (k + w.length : Nat))) k (k + w.length) ⟨by omega, by rw [Q3]; omega, by omega⟩ ⟨by omega, by omega, by omega⟩
  simp only [Qq1] at hsp
  have hwt : (l.drop k).take w.length = w := by rw [hw]; exact (List.prefix_iff_eq_take.1 (List.takeWhile_prefix isD)).symm
  rw [QbI l k _ (by omega), hwt] at hsp
  have q42 : ((4 : Int) == 2) = false := rfl
  have q43 : ((4 : Int) == 3) = false := rfl
  have hwd : ∀ (j : Nat) (hj : j < w.length), l[k + j]'(by omega) = w[j] ∧ isD w[j] = true := fun j hj => by
    constructor
    · have : (l.drop k)[j]? = w[j]? := by
        conv => rhs; rw [← hwt, List.getElem?_take, if_pos hj]
      rw [List.getElem?_drop, List.getElem?_eq_getElem (by omega), List.getElem?_eq_getElem hj] at this
      exact Option.some.inj this
    · have : ∀ c ∈ w, isD c = true := fun c hc => by
        rw [hw] at hc
        exact List.all_eq_true.1 List.all_takeWhile c hc
      exact this _ (List.getElem_mem hj)
  rw [ht]
  refine Qe Tryd.func89 rfl Tryd.call89 Tryd.ntmps89 (congrArg Array.toList Tryd.results89) (by simp) ?_
  repeat (first | ((first | (with_reducible (first | refine Qa fun K E hK hE => ?_ | refine Qk fun K E hK hE => ?_ | refine Qz cp ?_ | refine Qz cr ?_))); simp -implicitDefEqProofs only [Qc, Qd, OpW, QE, aop, undef, AS.ev, Qq, AV.Qp8, ↓reduceIte, Qg, QB, Qp, aBin, aLen, goInt, ti3, QQ, Yc, zi60, hsl, Q3, z1, hix, q42, q43, seval]) | (with_reducible (first | refine Qf fun K hK => ?_ | refine Qj ?_ | refine Qm ?_ | refine Qb ?_)) | ((with_reducible refine hK _ ?_); clear hK) | (refine Qh rfl ?_; simp only [↓reduceIte, Qq3]))
  obtain ⟨I, hI⟩ : ∃ I : Nat → AS → Prop, I = fun m' s => ∃ j : Nat, m' = w.length - j ∧ j ≤ w.length ∧ numVal (w.take j) ≤ 2147483648 ∧ s.tm 0 = .v (.string (mkB l)) ∧ s.tm 1 = .i k ∧ s.tm 4 = .ptr h.length 0 0 ∧ s.tm 5 = .i ((k + w.length : Nat) : Int) ∧ s.tm 7 = .i (numVal (w.take j) : Nat) ∧ s.tm 8 = .i ((k + j : Nat) : Int) ∧ s.h = h ++ [.cells 60 3 [.agg [.i 3, .i k, .v (.string { data := #[] })]]] := ⟨_, rfl⟩; refine QO I ?_ (m := w.length) ?_
  · intro m' s hs; rw [hI] at hs; obtain ⟨tm, hp⟩ := s; dsimp only at hs; obtain ⟨j, rfl, hj, hv, t0, t1, t4, t5, t7, t8, rfl⟩ := hs
    by_cases hlt : j < w.length
    · have y1 : (((k + j : Nat) : Int) < ((k + w.length : Nat) : Int)) := by omega
      obtain ⟨d1, d2⟩ := hwd j hlt
      have hix2 := Zo Tryd.prog 9 (by kernel_rfl) (mkB l) (k + j) (by rw [Q3]; omega)
      rw [Z6 l (k + j) (by omega), d1] at hix2
      have hcd : 48 ≤ (w[j]).toNat ∧ (w[j]).toNat ≤ 57 := by unfold isD at d2; simpa using d2
      obtain ⟨n1, n2⟩ := Qef hlt
      generalize hnv : numVal (w.take j) = v at *
      have w1 : IntKind.i64.wrap (10 * ((v : Nat) : Int)) = ((10 * v : Nat) : Int) := by rw [XR (by omega)]; omega
      have w2 : IntKind.u8.wrap ((((w[j]).toNat : Nat) : Int) - 48) = (((w[j]).toNat - 48 : Nat) : Int) := by rw [Qp7 (by omega)]; omega
      have w3 := Qp3 (((w[j]).toNat - 48 : Nat) : Int) (by omega)
      have w4 : IntKind.i64.wrap (((10 * v : Nat) : Int) + (((w[j]).toNat - 48 : Nat) : Int)) = ((numVal (w.take (j + 1)) : Nat) : Int) := by rw [XR (by omega)]; omega
      have w5 : IntKind.i64.wrap (((k + j : Nat) : Int) + 1) = ((k + (j + 1) : Nat) : Int) := by rw [XR (by omega)]; omega
      by_cases hb : 2147483648 < numVal (w.take (j + 1))
      · have y2 : ((numVal (w.take (j + 1)) : Nat) : Int) > 2147483648 := by omega
        have y3 : (2147483648 : Int) < ((numVal (w.take (j + 1)) : Nat) : Int) := by omega
        rw [show (if 2147483648 < numVal w then (Sum.inr 5 : Int × List UInt8 ⊕ Int) else .inl (3, w)) = .inr 5 from if_pos (by omega)]
        repeat (first | (((with_reducible refine Qa fun K E hK hE => ?_)); simp -implicitDefEqProofs only [Qc, Qd, OpW, aop, undef, AS.ev, AV.Qp8, ↓reduceIte, QB, Qp, aBin, Xf, Xu, ti60, zi60, sp60, t0, t1, t4, t5, t7, t8, y1, hix2, w1, w2, w3, w4, y2, seval]) | (with_reducible (first | refine Qf fun K hK => ?_ | refine Qj ?_ | refine Ql ?_ | refine Qm ?_ | refine Qb ?_ | refine Qu ?_ | refine Qy ?_)) | ((with_reducible refine hK _ ?_); clear hK) | (refine Qh rfl ?_; simp only [↓reduceIte]))
        simp -implicitDefEqProofs only [Qc, ↓reduceIte, Qw, Qv, ti60, List.mapM_cons, List.mapM_nil, Option.pure_def, Option.bind_eq_bind, t4, Qw, Qv, QF, Qn, Qr, Qq9, seval]
        exact Qi (htake _ _) (.keep (Y0 _ k (.inr 5))) ⟨rfl, rfl⟩
      · have y2 : ¬ ((numVal (w.take (j + 1)) : Nat) : Int) > 2147483648 := by omega
        have y3 : ¬ (2147483648 : Int) < ((numVal (w.take (j + 1)) : Nat) : Int) := by omega
        repeat (first | ((first | (with_reducible (first | refine Qa fun K E hK hE => ?_ | refine Qk fun K E hK hE => ?_))); simp -implicitDefEqProofs only [Qc, Qd, OpW, aop, AS.ev, ↓reduceIte, aBin, t0, t5, t7, t8, y1, hix2, w1, w2, w3, w4, y2, w5, seval]) | (with_reducible (first | refine Qf fun K hK => ?_ | refine Qj ?_ | refine Qm ?_ | refine Qb ?_ | refine Qo ?_)) | ((with_reducible refine hK _ ?_); clear hK) | (refine Qh rfl ?_; simp only [↓reduceIte, Qq3]))
        refine Xi.mk (m' := w.length - (j + 1)) (by omega) ?_
        rw [hI]
        exact ⟨j + 1, rfl, hlt, by omega, t0, t1, t4, t5, rfl, rfl, rfl⟩
    · have hjl : j = w.length := by omega
      have y1 : ¬ (((k + j : Nat) : Int) < ((k + w.length : Nat) : Int)) := by omega
      rw [hjl, List.take_length] at hv
      repeat (first | (((with_reducible refine Qa fun K E hK hE => ?_)); simp -implicitDefEqProofs only [Qc, Qd, OpW, aop, undef, AS.ev, AV.Qp8, ↓reduceIte, Qg, Qw, Qv, QB, Qp, aBin, Qaj, ti9, ei9, ti60, Xc, t0, t1, t4, t5, t8, y1, hsp, seval]) | (with_reducible (first | refine Qf fun K hK => ?_ | refine Ql ?_ | refine QG ?_ | refine Qb ?_ | refine QD ?_ | refine Qo ?_ | refine QC ?_)) | ((with_reducible refine hK _ ?_); clear hK) | (clear hK; (with_reducible refine hK _ ?_); clear hK) | (refine Qh rfl ?_; simp only [↓reduceIte, Qq3]))
      simp -implicitDefEqProofs only [Qc, ↓reduceIte, Qw, Qv, ti60, List.mapM_cons, List.mapM_nil, Option.pure_def, Option.bind_eq_bind, t4, Qw, Qv, QF, Qn, Qr, Qq9, seval]
      exact Qi (htake _ _) (.keep (Y0 _ k (.inl (3, w)))) ⟨by rw [show (if 2147483648 < numVal w then (Sum.inr 5 : Int × List UInt8 ⊕ Int) else .inl (3, w)) = .inl (3, w) from if_neg (by omega)]; rfl, rfl⟩
  · rw [hI]
    refine ⟨0, rfl, Nat.zero_le _, by simp [numVal], rfl, rfl, rfl, rfl, rfl, rfl, rfl⟩
theorem Qkm (hk : k ≤ l.length) (hG : ZP h) : QJ Tryd.prog 89 [.v (.string (mkB l)), .i k] h fun o h' => o = .ret (rdT k (ZL (l.drop k))) ∧ h' = h := by
  by_cases e : k = l.length
  · exact Qmk l hl k h e
  · have hlt : k < l.length := by omega
    by_cases hL : isL l[k] = true
    · exact Qkn l hl k h hlt hL
    · by_cases hD : isD l[k] = true
      · exact Qml l hl k h hlt hD
      · exact Qmm l hl k h hlt (by simpa using hL) (by simpa using hD) hG
def Qil (tot : Nat) (q : List UInt8) : AV := rdT (tot - (Xw false q).length) (ZL (Xw false q))
theorem Qna (hk : k ≤ l.length) (hG : ZP h) : QJ Tryd.prog 77 [.v (.string (mkB l)), .i k] h fun o h' => o = .ret (Qil l.length (l.drop k)) ∧ h' = h := by
  have hsl := fun b => Zz Tryd.prog 9 3 (by kernel_rfl) b
  have z1 : ¬ ((k : Nat) : Int) < 0 := by omega
  have z2 : ¬ ((l.length : Nat) : Int) < ((k : Nat) : Int) := by omega
  have z3 : ¬ ((k : Nat) : Int) > ((l.length : Nat) : Int) := by omega
  have z4 : ¬ ((l.length : Nat) : Int) > 16384 := by omega
  have z5 : ¬ (16384 : Int) < ((l.length : Nat) : Int) := by omega
  have cs := Qkc l hl k hk
  obtain ⟨j, j1, j2⟩ := QhC (l.drop k)
  have e1 : Xw false (l.drop k) = l.drop (l.length - (Xw false (l.drop k)).length) := by
    rw [List.length_drop] at j1
    rw [j2, List.drop_drop, List.length_drop]
    congr 1; omega
  have cr := fun b => Qkm l hl (l.length - (Xw false (l.drop k)).length) (h ++ [b]) (by omega) (hG.app [b])
  rw [← e1] at cr
  have fin : ∀ n, Below n (Qil l.length (l.drop k)) := fun n => Y0 _ _ _
  cases hr : ZL (Xw false (l.drop k)) with
  | inl p =>
    obtain ⟨kd, x⟩ := p
    have e2 : Qil l.length (l.drop k) = rdT (l.length - (Xw false (l.drop k)).length) (.inl (kd, x)) := by rw [Qil, hr]
    rw [e2] at fin ⊢
    rw [hr] at cr
    generalize l.length - (Xw false (l.drop k)).length = i at *
    refine Qe Tryd.func77 rfl Tryd.call77 Tryd.ntmps77 (congrArg Array.toList Tryd.results77) (by simp) ?_
    repeat (first | ((first | (with_reducible (first | refine Qa fun K E hK hE => ?_ | refine Qz cs ?_ | refine FunW.ret (FunW.call (cr _)) ?_))); simp -implicitDefEqProofs only [Qc, Qd, OpW, QE, aop, undef, AS.ev, Qq, AV.Qp8, ↓reduceIte, QB, Qp, aBin, QY, aLen, goInt, ti60, zi60, hsl, Q3, z1, z2, z4, rdT, tkv, seval]) | (with_reducible (first | refine Qf fun K hK => ?_ | refine Ql ?_ | refine Qm ?_ | refine Qb ?_)) | ((with_reducible refine hK _ ?_); clear hK) | (refine Qh rfl ?_; simp only [↓reduceIte, Qq3]))
    simp -implicitDefEqProofs only [Qc, ↓reduceIte, ti60, List.mapM_cons, List.mapM_nil, Option.pure_def, Option.bind_eq_bind, Qw, Qv, QF, Qn, Qr, Qq9, seval]
    exact Qi (htake _ _) (.keep (fin _)) ⟨rfl, rfl⟩
  | inr e =>
    have e2 : Qil l.length (l.drop k) = rdT (l.length - (Xw false (l.drop k)).length) (.inr e) := by rw [Qil, hr]
    rw [e2] at fin ⊢
    rw [hr] at cr
    generalize l.length - (Xw false (l.drop k)).length = i at *
    refine Qe Tryd.func77 rfl Tryd.call77 Tryd.ntmps77 (congrArg Array.toList Tryd.results77) (by simp) ?_
    repeat (first | ((first | (with_reducible (first | refine Qa fun K E hK hE => ?_ | refine Qz cs ?_ | refine FunW.ret (FunW.call (cr _)) ?_))); simp -implicitDefEqProofs only [Qc, Qd, OpW, QE, aop, undef, AS.ev, Qq, AV.Qp8, ↓reduceIte, QB, Qp, aBin, QY, aLen, goInt, ti60, zi60, hsl, Q3, z1, z2, z4, rdT, zTok, seval]) | (with_reducible (first | refine Qf fun K hK => ?_ | refine Ql ?_ | refine Qm ?_ | refine Qb ?_)) | ((with_reducible refine hK _ ?_); clear hK) | (refine Qh rfl ?_; simp only [↓reduceIte, Qq3]))
    simp -implicitDefEqProofs only [Qc, ↓reduceIte, ti60, List.mapM_cons, List.mapM_nil, Option.pure_def, Option.bind_eq_bind, Qw, Qv, QF, Qn, Qr, Qq9, seval]
    exact Qi (htake _ _) (.keep (fin _)) ⟨rfl, rfl⟩
end
end Go.Proofs.YticgcpebdldbgaaDoor.Ab
set_option maxRecDepth 4000
namespace Go.Proofs.YticgcpebdldbgaaDoor.Ab
open Go.Proofs
def scR:List Tk ⊕ (Int×Int)→AV
 | .inl ts=>.tup [.sl 3 (tks ts) none,.i 0,.i 0]
 | .inr p=>.tup [.v (.slice none 0 0),.i p.1,.i p.2]
def scJ (ts:List Tk):List Tk ⊕ (Int×Int)→List Tk ⊕ (Int×Int)
 | .inl us=>.inl (ts++us)
 | .inr p=>.inr p
theorem Qhx (n:Nat) (r:List Tk ⊕ (Int×Int)):Below n (scR r):=by
 cases r with
 |inl ts =>
  refine .tup _ fun x hx=>?_
  simp only [List.mem_cons,List.not_mem_nil,or_false] at hx
  rcases hx with rfl|rfl|rfl
  ·exact .sl 3 _ none (Qcy _ _) (fun b hb=>by cases hb)
  ·exact .v _
  ·exact .v _
 |inr p =>
  refine .tup _ fun x hx=>?_
  simp only [List.mem_cons,List.not_mem_nil,or_false] at hx
  rcases hx with rfl|rfl|rfl <;> exact .v _
theorem QlE (l:List UInt8) (hl:16384<l.length) (h:AH):QJ Tryd.prog 77 [.v (.string (mkB l)),.i 0] h fun o h'=>o = .ret (.tup [zTok,.i 0,.i 6])∧h'=h:=by
 have hsl:=fun b=>Zz Tryd.prog 9 3 (by kernel_rfl) b
 have z1:¬ (0:Int)<0:=by omega
 have z2:¬ ((l.length:Nat):Int)<0:=by omega
 have z3:¬ (0:Int)>((l.length:Nat):Int):=by omega
 have z4:((l.length:Nat):Int)>16384:=by omega
 have z5:(16384:Int)<((l.length:Nat):Int):=by omega
 refine Qe Tryd.func77 rfl Tryd.call77 Tryd.ntmps77 (congrArg Array.toList Tryd.results77) (by simp) ?_
 repeat (first|(((with_reducible refine Qa fun K E hK hE=>?_));simp -implicitDefEqProofs only [Qc,Qd,OpW,aop,undef,AS.ev,Qq,AV.Qp8,↓reduceIte,QB,Qp,aBin,Xf,Xu,aLen,goInt,ti60,zi60,sp60,hsl,Q3,z1,z2,z4,seval])|(with_reducible (first|refine Qf fun K hK=>?_|refine Ql ?_|refine Qm ?_|refine Qb ?_|refine Qu ?_))|((with_reducible refine hK _ ?_);clear hK)|(refine Qh rfl ?_;simp only [↓reduceIte,Qq3]))
 simp -implicitDefEqProofs only [Qc,↓reduceIte,ti60,List.mapM_cons,List.mapM_nil,Option.pure_def,Option.bind_eq_bind,Qw,Qv,QF,Qn,Qr,Qq9,seval]
 exact Qi (htake _ _) (.keep (Y0 _ 0 (.inr 6))) ⟨rfl,rfl⟩
theorem Qjo {q:List UInt8} {e:Int} (h:ZL q = .inr e):e≠0:=by
 cases q with
 |nil=>cases h
 |cons c r =>
  rw [ZL] at h
  split at h
  ·split at h
   ·cases h;decide
   ·cases h
  ·split at h
   ·split at h
    ·cases h;decide
    ·cases h
   ·split at h
    ·cases h
    ·cases h;decide
theorem Qhy (l:List UInt8) (h:AH) (hG:ZP h):QJ Tryd.prog 58 [.v (.string (mkB l))] h fun o h'=>o = .ret (scR (Ya l))∧h'=h:=by
 by_cases hl:16384<l.length
 ·have cn:=fun L=>QlE l hl (h++L)
  rw [Ya,if_pos hl]
  have e2:((6:Int) != 0)=true:=rfl
  refine Qe Tryd.func58 rfl Tryd.call58 Tryd.ntmps58 (congrArg Array.toList Tryd.results58) (by simp) ?_
  iterate 6 (try (first|(((with_reducible refine Qa fun K E hK hE=>?_));simp -implicitDefEqProofs only [Qc,Qd,OpW,aop,AS.ev,Nat.reduceLT])|((with_reducible refine hK _ ?_);clear hK)))
  refine ZX 5 60 3 rfl ?_
  iterate 4 (try ((with_reducible refine Qj ?_)))
  obtain ⟨I,hI⟩:∃ I:Nat→AS→Prop,I=fun m' s=>m'=0∧s.tm 0 = .v (.string (mkB l))∧s.tm 6 = .i 0∧s.h=h++[.grow 60 3 0]:=⟨_,rfl⟩;refine QO I ?_ (m:=0) ?_
  ·intro m' s hs;rw [hI] at hs;obtain ⟨tm,hp⟩:=s;dsimp only at hs;obtain ⟨rfl,t0,t6,rfl⟩:=hs
   repeat (first|((first|(with_reducible (first|refine Qa fun K E hK hE=>?_|refine FunW.ret (FunW.call (cn _)) ?_)));simp -implicitDefEqProofs only [Qc,Qd,OpW,QE,aop,undef,AS.ev,AV.Qp8,↓reduceIte,QB,Qp,aBin,QY,ti60,zi60,t0,t6,zTok,e2,seval])|(with_reducible (first|refine Qf fun K hK=>?_|refine Qj ?_|refine Ql ?_|refine Qu ?_|refine Qy ?_))|((with_reducible refine hK _ ?_);clear hK)|(refine Qh rfl ?_;simp only [↓reduceIte]))
   simp -implicitDefEqProofs only [Yq,↓reduceIte,Nat.reduceEqDiff,Qq1,Qq4,Qq5,List.mapM_cons,List.mapM_nil,Option.pure_def,Option.bind_eq_bind,QF,Qn,Qr,Qq9]
   exact Qi (htake _ _) (.keep (Qhx _ (.inr (0,6)))) ⟨rfl,rfl⟩
  ·rw [hI]
   exact ⟨rfl,rfl,rfl,rfl⟩
 ·have hl2:l.length≤16384:=by omega
  rw [Ya,if_neg hl]
  generalize hR:QaM l.length (l.length+1) l=R
  refine Qe Tryd.func58 rfl Tryd.call58 Tryd.ntmps58 (congrArg Array.toList Tryd.results58) (by simp) ?_
  iterate 6 (try (first|(((with_reducible refine Qa fun K E hK hE=>?_));simp -implicitDefEqProofs only [Qc,Qd,OpW,aop,AS.ev,Nat.reduceLT])|((with_reducible refine hK _ ?_);clear hK)))
  refine ZX 5 60 3 rfl ?_
  iterate 4 (try ((with_reducible refine Qj ?_)))
  obtain ⟨I,hI⟩:∃ I:Nat→AS→Prop,I=fun m' s=>∃ (ts:List Tk) (k:Nat) (G:AH),m'=l.length - k∧k≤l.length∧ts.length≤k∧(∃ m,l.length - k<m∧scJ ts (QaM l.length m (l.drop k))=R)∧s.tm 0 = .v (.string (mkB l))∧s.tm 5 = .sl 3 (tks ts) (some h.length)∧s.tm 6 = .i k∧s.h=h++(.grow 60 3 ts.length::G):=⟨_,rfl⟩;refine QO I ?_ (m:=l.length) ?_
  ·intro m' s hs;rw [hI] at hs;obtain ⟨tm,hp⟩:=s;dsimp only at hs;obtain ⟨ts,k,G,rfl,hk,htl,⟨m,hm,hR2⟩,t0,t5,t6,rfl⟩:=hs
   have hm1:m=m - 1+1:=by omega
   rw [hm1,QaM] at hR2
   have cn:=fun L=>Qna l hl2 k (h++L) hk (hG.app L)
   obtain ⟨j,j1,j2⟩:=QhC (l.drop k)
   have hsl:(Xw false (l.drop k)).length≤l.length - k:=by rw [j2,List.length_drop,List.length_drop];omega
   have e1:Xw false (l.drop k)=l.drop (l.length - (Xw false (l.drop k)).length):=by
    rw [List.length_drop] at j1
    rw [j2,List.drop_drop,List.length_drop]
    congr 1;omega
   rw [Qil] at cn
   have x1:∀ (Y:AH),(G++Y)[G.length]? = Y[0]? := fun Y=>Z4 _ _
   have x2:∀ (Y:AH) k,(G++Y)[G.length+k]? = Y[k]? := fun Y k=>hget _ _ _
   have x3:∀ (Y:AH) y,(G++Y).set G.length y=G++Y.set 0 y:=fun Y y=>QbK _ _ _
   have ev:(tks ts).length=ts.length:=Qbu _
   cases ht:ZL (Xw false (l.drop k)) with
   |inr e =>
    rw [ht] at hR2 cn
    have hR3:Sum.inr (((l.length - (Xw false (l.drop k)).length:Nat):Int),e)=R:=hR2
    subst hR3
    have he:(e != 0)=true:=by
     have:=Qjo ht
     simpa using this
    repeat (first|((first|(with_reducible (first|refine Qa fun K E hK hE=>?_|refine FunW.ret (FunW.call (cn _)) ?_)));simp -implicitDefEqProofs only [Qc,Qd,OpW,QE,aop,undef,AS.ev,AV.Qp8,↓reduceIte,QB,Qp,aBin,QY,ti60,zi60,t0,t6,rdT,zTok,he,seval])|(with_reducible (first|refine Qf fun K hK=>?_|refine Qj ?_|refine Ql ?_|refine Qu ?_|refine Qy ?_))|((with_reducible refine hK _ ?_);clear hK)|(refine Qh rfl ?_;simp only [↓reduceIte]))
    simp -implicitDefEqProofs only [Yq,↓reduceIte,Nat.reduceEqDiff,Qq1,Qq4,Qq5,List.mapM_cons,List.mapM_nil,Option.pure_def,Option.bind_eq_bind,QF,Qn,Qr,Qq9]
    exact Qi (htake _ _) (.keep (Qhx _ (.inr (_,e)))) ⟨rfl,rfl⟩
   |inl p =>
    obtain ⟨kd,x⟩:=p
    rw [ht] at hR2 cn
    have hm2:(ts.length+1) * 32≤140737488355328:=by omega
    have hm3:ts.length+1≤maxLen:=by simp only [maxLen];omega
    have e0:((0:Int) != 0)=false:=rfl
    rcases Qmj ht with ⟨k0,hx1,hx2⟩|⟨k0,hx1,r,hx2⟩
    ·subst k0
     subst hx2
     have hR3:Sum.inl (ts++[⟨0,((l.length - (Xw false (l.drop k)).length:Nat):Int),eB⟩])=R:=hR2
     subst hR3
     have z1:((0:Int)==0)=true:=rfl
     generalize l.length - (Xw false (l.drop k)).length=i at *
     have evs:tks (ts++[⟨0,((i:Nat):Int),eB⟩])=tks ts++[.agg [.i 0,.i i,.v (.string (mkB []))]]:=by rw [tks,List.map_append];rfl
     repeat (first|((first|(with_reducible (first|refine Qa fun K E hK hE=>?_|refine FunW.ret (FunW.call (cn _)) ?_)));simp -implicitDefEqProofs only [Qc,Qd,OpW,QE,aop,undef,AS.ev,AV.Qp8,↓reduceIte,Qg,Qw,Qv,QB,Qp,aBin,QY,QH,XD,Yb,ti3,ei37,ai37,ti60,QQ,zi60,t0,t5,t6,rdT,tkv,x1,x3,ev,hm2,hm3,List.append_assoc,seval])|(with_reducible (first|refine Qf fun K hK=>?_|refine Qj ?_|refine Ql ?_|refine Qm ?_|refine Qb ?_|refine Qu ?_|refine Qy ?_))|((with_reducible refine hK _ ?_);clear hK)|(refine Qh rfl ?_;simp only [↓reduceIte,Qq3]))
     simp -implicitDefEqProofs only [Yq,↓reduceIte,Nat.reduceEqDiff,Qq1,Qq4,Qq5,List.mapM_cons,List.mapM_nil,Option.pure_def,Option.bind_eq_bind,QF,Qn,Qr,Qq9]
     refine Qi (htake _ _) (r':=.tup [.sl 3 (tks ts++[.agg [.i 0,.i i,.v (.string (mkB []))]]) none,.i 0,.i 0]) (Frz.tup rfl fun j a a' h1 h2=>?_) ⟨by rw [scR,evs],rfl⟩
     match j,h1,h2 with
     |0,h1,h2=>cases h1;cases h2;exact .tok (by rw [← evs];exact Qcy _ _)
     |1,h1,h2=>cases h1;cases h2;exact .keep (.v _)
     |2,h1,h2=>cases h1;cases h2;exact .keep (.v _)
     |j+3,h1,h2=>simp at h1
    ·have hR3:scJ (ts++[⟨kd,((l.length - (Xw false (l.drop k)).length:Nat):Int),mkB x⟩]) (QaM l.length (m - 1) ((Xw false (l.drop k)).drop x.length))=R:=by
      rw [← hR2]
      show _=scJ ts (if kd=0 then _ else match QaM l.length (m - 1) ((Xw false (l.drop k)).drop x.length) with | .inl ts=>_ | .inr e=>_)
      rw [if_neg k0]
      cases QaM l.length (m - 1) ((Xw false (l.drop k)).drop x.length) with
      |inl us=>simp [scJ]
      |inr e=>rfl
     have hxl:0<x.length:=List.length_pos_iff.2 hx1
     have hxr:x.length≤(Xw false (l.drop k)).length:=by rw [hx2,List.length_append];omega
     have e9:(Xw false (l.drop k)).drop x.length=l.drop (l.length - (Xw false (l.drop k)).length+x.length):=by
      conv=>lhs;rw [e1]
      rw [List.drop_drop]
     rw [e9] at hR3
     generalize (Xw false (l.drop k)).length=u at *
     have z1:(kd==0)=false:=by simpa using k0
     have evs:tks (ts++[⟨kd,((l.length - u:Nat):Int),mkB x⟩])=tks ts++[.agg [.i kd,.i ((l.length - u:Nat):Int),.v (.string (mkB x))]]:=by rw [tks,List.map_append];rfl
     repeat (first|((first|(with_reducible (first|refine Qa fun K E hK hE=>?_|refine Qk fun K E hK hE=>?_|refine FunW.ret (FunW.call (cn _)) ?_)));simp -implicitDefEqProofs only [Qc,Qd,OpW,QE,aop,undef,AS.ev,AV.Qp8,↓reduceIte,Qg,Qw,Qv,QB,Qp,aBin,QY,QH,XD,Yb,ti3,ei37,ai37,ti60,QQ,zi60,t0,t5,t6,rdT,tkv,z1,x1,x3,ev,hm2,hm3,List.append_assoc,seval])|(with_reducible (first|refine Qf fun K hK=>?_|refine Qj ?_|refine Qm ?_|refine Qb ?_|refine Qo ?_))|((with_reducible refine hK _ ?_);clear hK)|(refine Qh rfl ?_;simp only [↓reduceIte,Qq3]))
     refine Xi.mk (m':=l.length - (l.length - u+x.length)) (by omega) ?_
     rw [hI]
     refine ⟨ts++[⟨kd,((l.length - u:Nat):Int),mkB x⟩],l.length - u+x.length,G++[.cells 60 3 [tkv kd ((l.length - u:Nat):Int) x]],rfl,by omega,by simp;omega,⟨m - 1,by omega,hR3⟩,t0,?_,rfl,?_⟩
     ·rw [evs];rfl
     ·rw [List.length_append];rfl
  ·rw [hI]
   exact ⟨[],0,[],rfl,Nat.zero_le _,Nat.le_refl _,⟨l.length+1,by omega,by rw [← hR];cases h0:QaM l.length (l.length+1) l <;> simp [scJ,h0]⟩,rfl,rfl,rfl,rfl⟩
structure OneTk (tot:Nat) (t:Tk):Prop where
 int:t.kind=3→(∀ c∈t.text.toList,isD c=true)∧numVal t.text.toList≤2147483648
 pos:0≤t.pos∧t.pos≤tot
 nam:t.kind=1→opB t.text=false
theorem Qnf {x:ByteArray} (h:opB x=true):∃ c,x.toList=[c]∧isL c=false:=by
 rcases Qgm.1 h with h|h
 ·simp only [YE,List.mem_cons,List.not_mem_nil,or_false] at h
  rcases h with h|h|h <;> exact ⟨_,h,by decide⟩
 ·simp only [ZW,List.mem_cons,List.not_mem_nil,or_false] at h
  rcases h with h|h <;> exact ⟨_,h,by decide⟩
theorem QoG {q x:List UInt8} {k:Int} (h:ZL q = .inl (k,x)):(k=3→(∀ c∈x,isD c=true)∧numVal x≤2147483648)∧(k=1→opB (mkB x)=false):=by
 cases q with
 |nil=>cases h;exact ⟨fun e=>absurd e (by decide),fun e=>absurd e (by decide)⟩
 |cons c r =>
  rw [ZL] at h
  split at h
  ·rename_i hL
   split at h
   ·cases h
   ·cases h
    refine ⟨fun e=>by split at e <;> exact absurd e (by decide),fun _=>?_⟩
    cases ho:opB (mkB ((c::r).takeWhile isW)) with
    |false=>rfl
    |true =>
     obtain ⟨d,h1,h2⟩:=Qnf ho
     have hw:isW c=true:=by unfold isW;rw [hL];rfl
     rw [Qfw,List.takeWhile_cons,if_pos hw,List.cons.injEq] at h1
     rw [h1.1] at hL
     rw [hL] at h2;cases h2
  ·split at h
   ·split at h
    ·cases h
    ·rename_i hb
     cases h
     exact ⟨fun _=>⟨fun d hd=>List.all_eq_true.1 List.all_takeWhile d hd,by omega⟩,fun e=>absurd e (by decide)⟩
   ·split at h
    ·cases h;exact ⟨fun e=>absurd e (by decide),fun e=>absurd e (by decide)⟩
    ·cases h
theorem Qjm (tot:Nat):∀ (m:Nat) (q:List UInt8) (ts:List Tk),QaM tot m q = .inl ts→q.length<m→(∀ t∈ts,OneTk tot t)∧(∃ a e,ts=a++[e]∧e.kind=0∧∀ t∈a,t.kind≠0)∧ts.length≤q.length+1
 |0,_,_,_,h=>by omega
 |m+1,q,ts,h,hm=>by
  rw [QaM] at h
  have hsk:=Qcw false q
  cases ht:ZL (Xw false q) with
  |inr e=>rw [ht] at h;cases h
  |inl p =>
   obtain ⟨k,x⟩:=p
   rw [ht] at h
   simp only at h
   obtain ⟨h1,h2⟩:=QoG ht
   split at h
   ·rename_i k0
    cases h
    refine ⟨fun t hm=>?_,⟨[],_,rfl,rfl,fun t h=>(List.not_mem_nil h).elim⟩,by simp⟩
    rw [List.mem_singleton] at hm
    subst hm
    exact ⟨fun e=>absurd (show (0:Int)=3 from e) (by decide),⟨by show (0:Int)≤((tot - _:Nat):Int);omega,by show ((tot - _:Nat):Int)≤_;omega⟩,fun e=>absurd (show (0:Int)=1 from e) (by decide)⟩
   ·rename_i k0
    rcases Qmj ht with ⟨k1,_,_⟩|⟨k1,hx1,r,hx2⟩
    ·exact absurd k1 k0
    ·have hxl:0<x.length:=List.length_pos_iff.2 hx1
     have hxr:x.length≤(Xw false q).length:=by rw [hx2,List.length_append];omega
     cases hs:QaM tot m ((Xw false q).drop x.length) with
     |inr e=>rw [hs] at h;cases h
     |inl us =>
      rw [hs] at h
      cases h
      obtain ⟨a1,⟨a,e,a2,a3,a4⟩,a5⟩:=Qjm tot m _ us hs (by rw [List.length_drop];omega)
      rw [List.length_drop] at a5
      refine ⟨fun t hm=>?_,⟨⟨k,_,mkB x⟩::a,e,by rw [a2];rfl,a3,fun t hm=>?_⟩,by simp only [Qrc];omega⟩
      ·rw [List.mem_cons] at hm
       rcases hm with rfl|hm
       ·exact ⟨fun e=>by rw [Qfw];exact h1 e,⟨by show (0:Int)≤((tot - _:Nat):Int);omega,by show ((tot - _:Nat):Int)≤_;omega⟩,h2⟩
       ·exact a1 t hm
      ·rw [List.mem_cons] at hm
       rcases hm with rfl|hm
       ·exact k1
       ·exact a4 t hm
theorem QcU {l:List UInt8} {ts:List Tk} (h:Ya l = .inl ts):TkOk ts∧Wst ts ⟨ts,[]⟩∧ts.length≤1000000∧l.length≤16384:=by
 rw [Ya] at h
 split at h
 ·cases h
 ·rename_i hl
  obtain ⟨h1,⟨a,e,h2,h3,h4⟩,h5⟩:=Qjm l.length (l.length+1) l ts h (by omega)
  exact ⟨⟨fun t ht=>(h1 t ht).int,fun t ht=>⟨(h1 t ht).pos.1,by have:=(h1 t ht).pos.2;omega⟩,fun t ht=>(h1 t ht).nam⟩,⟨⟨a,e,h2,h3,h4⟩,List.suffix_refl _,by simp⟩,by omega,by omega⟩
end Go.Proofs.YticgcpebdldbgaaDoor.Ab
set_option maxRecDepth 4000
namespace Go.Proofs.YticgcpebdldbgaaDoor.Ab
open Go.Proofs
theorem Qhz (tot:Nat):∀ (m:Nat) (q:List UInt8) (p:Int×Int),QaM tot m q = .inr p→p.2≠0
 |0,_,_,h=>by cases h
 |m+1,q,p,h=>by
  rw [QaM] at h
  cases ht:ZL (Xw false q) with
  |inr e=>rw [ht] at h;cases h;exact Qjo ht
  |inl y =>
   obtain ⟨k,x⟩:=y
   rw [ht] at h
   simp only at h
   split at h
   ·cases h
   ·cases hs:QaM tot m ((Xw false q).drop x.length) with
    |inr e=>rw [hs] at h;cases h;exact Qhz tot m _ _ hs
    |inl us=>rw [hs] at h;cases h
theorem Qac {l:List UInt8} {p:Int×Int} (h:Ya l = .inr p):p.2≠0:=by
 rw [Ya] at h
 split at h
 ·cases h;decide
 ·exact Qhz _ _ _ _ h
theorem QhI {l:List UInt8} {ts:List Tk} (hs:Ya l = .inl ts) (h:AH) (hG:ZP h):QJ Tryd.prog 32 [.v (.string (mkB l))] h fun o h'=>o = .ret (.agg [.sl 3 (tks ts) none,.i 0])∧h'=h:=by
 have cs:=fun L=>Qhy l (h++L) (hG.app L)
 rw [hs,scR] at cs
 have e0:((0:Int) != 0)=false:=rfl
 refine Qe Tryd.func32 rfl Tryd.call32 Tryd.ntmps32 (congrArg Array.toList Tryd.results32) (by simp) ?_
 repeat (first|((first|(with_reducible (first|refine Qa fun K E hK hE=>?_|refine FunW.ret (FunW.call (cs _)) ?_)));simp -implicitDefEqProofs only [Qc,Qd,OpW,QE,aop,undef,AS.ev,Qq,AV.Qp8,↓reduceIte,QB,Qp,aBin,QY,Xf,Xu,ti63,zi63,sp63,seval])|(with_reducible (first|refine Qf fun K hK=>?_|refine Ql ?_|refine Qm ?_|refine Qb ?_))|((with_reducible refine hK _ ?_);clear hK)|(refine Qh rfl ?_;simp only [↓reduceIte,Qq3]))
 simp -implicitDefEqProofs only [Qc,↓reduceIte,ti63,Qw,Qv,QF,Qn,Qr,Qq9,seval]
 refine Qi (htake _ _) (.keep (.agg _ fun a ha=>?_)) ⟨rfl,rfl⟩
 simp only [List.mem_cons,List.not_mem_nil,or_false] at ha
 rcases ha with rfl|rfl
 ·exact .sl 3 _ none (Qcy _ _) (fun b hb=>by cases hb)
 ·exact .v _
theorem Qkg {l:List UInt8} {p e:Int} (hs:Ya l = .inr (p,e)) (h:AH) (hG:ZP h):QJ Tryd.prog 32 [.v (.string (mkB l))] h fun o h'=>o = .panic (Fl p e)∧h'=h:=by
 have cs:=fun L=>Qhy l (h++L) (hG.app L)
 rw [hs,scR] at cs
 have e0:(e != 0)=true:=by simpa using Qac hs
 have hu:=Tryd.underlying87
 refine Qe Tryd.func32 rfl Tryd.call32 Tryd.ntmps32 (congrArg Array.toList Tryd.results32) (by simp) ?_
 repeat (first|((first|(with_reducible (first|refine Qa fun K E hK hE=>?_|refine Qk fun K E hK hE=>?_|refine FunW.ret (FunW.call (cs _)) ?_)));simp -implicitDefEqProofs only [Qc,Qd,OpW,QE,aop,undef,AS.ev,Qq,AV.Qp8,↓reduceIte,aBin,QY,Xf,Xu,zi63,zi87,sp87,e0,hu,seval])|(with_reducible refine Qf fun K hK=>?_)|((with_reducible refine hK _ ?_);clear hK)|(refine Qh rfl ?_;simp only [↓reduceIte])|(with_reducible (first|refine hE _ _ ?_|refine QM ?_)))
 exact Qi (htake _ _) (.keep (Qbm _ _ _)) ⟨rfl,rfl⟩
def P0 (h:AH) (ts:List Tk):Pz:=⟨ts,h.length+2,h.length+4,h.length+3⟩
def hp0 (h:AH) (ts:List Tk):AH:=ph (h++[iC 0,eC 0,.cells 66 4 [.agg [.sl 3 (tks ts) none,.i 0,.v (.slice none 0 0),.v (.map none)]]]++[.dead,.dead]) (P0 h ts) ⟨ts,[]⟩
theorem QoO (h:AH) (ts:List Tk) (x:AB):(P0 h ts).ok (h++[iC 0,eC 0,x]++[.dead,.dead]):=by
 refine ⟨?_,?_,?_,?_,?_,?_⟩ <;> simp only [P0,QrQ,Qrc,Qrd] <;> omega
theorem QnH (h:AH) (ts:List Tk):QJ Tryd.prog 33 [.ptr (h.length+2) 0 0] (h++[iC 0,eC 0,.cells 66 4 [.agg [.sl 3 (tks ts) none,.i 0,.v (.slice none 0 0),.v (.map none)]]]) fun o h'=>o = .ret (.tup [])∧h'=hp0 h ts:=by
 have:=Qh0 (X:=h++[iC 0,eC 0,.cells 66 4 [.agg [.sl 3 (tks ts) none,.i 0,.v (.slice none 0 0),.v (.map none)]]]) (P:=P0 h ts) (s:=⟨ts,[]⟩) (by
  show (h++_)[h.length+2]? = _
  rw [hget]
  simp only [P0,Nat.sub_self];rfl) (by simp [P0])
 refine this.mono ?_
 rintro o h' ⟨rfl,rfl⟩
 refine ⟨rfl,?_⟩
 rw [hp0]
 congr 1
 simp [P0,Pz.to]
theorem panQ {P:Program} {rs:List ResultVar} {h H:AH} {Q:AOut→AH→Prop} {tm:Nat→AV} {p e a0 e0:Int} {k:Nat} (hP:P=Tryd.prog) (hk:H[k]? = some (iC a0)) (hk1:H[k+1]? = some (eC e0)) (hq:∀ L,QF P rs h Q .ret ⟨tm,(H.set k (iC p)).set (k+1) (eC e)++L⟩) :
  QfN P rs h Q [(31,[.ptr k 0 0,.ptr (k+1) 0 0])] (.pan (Fl p e) false) ⟨tm,H⟩:=by
 subst hP
 simp only [QfN]
 refine QaQ.mono (Ql2 hk hk1 p e) ?_
 rintro m' h' ⟨rfl,L,rfl⟩
 exact hq L
theorem rtQ {P:Program} {rs:List ResultVar} {h H:AH} {Q:AOut→AH→Prop} {tm:Nat→AV} {k:Nat} (hP:P=Tryd.prog) (hq:QF P rs h Q .ret ⟨tm,H⟩) :
  QfN P rs h Q [(31,[.ptr k 0 0,.ptr (k+1) 0 0])] .ret ⟨tm,H⟩:=by
 subst hP
 simp only [QfN]
 refine QaQ.mono Ql3 ?_
 rintro m' h' ⟨rfl,rfl⟩
 exact hq
theorem Qko (n:Nat) (a b:Int):Below n (.tup [.i a,.i b]):=.tup _ fun x hx=>by
 simp only [List.mem_cons,List.not_mem_nil,or_false] at hx
 rcases hx with rfl|rfl <;> exact .v _
theorem Qhs {l:List UInt8} {p e:Int} (hs:Ya l = .inr (p,e)) (fv:AV) (h:AH) (hG:ZP h):QJ Tryd.prog 15 [.v (.string (mkB l)),fv] h fun o h'=>o = .ret (.tup [.i p,.i e])∧h'=h:=by
 have cs:=fun L=>Qkg hs (h++L) (hG.app L)
 refine Qaf Tryd.func15 rfl Tryd.call15 Tryd.ntmps15 (congrArg Array.toList Tryd.results15) (by simp) ?_
 refine YR (Yv ?_)
 repeat (first|(((with_reducible refine Qk fun K E hK hE=>?_));simp -implicitDefEqProofs only [Qc,Qd,OpW,aop,AV.Qp8,↓reduceIte,Nat.reduceLT,zi3,zi27])|((with_reducible refine hK _ ?_);clear hK))
 show DefW _ _ _ _ _ _
 refine YR (QbH 1 rfl rfl rfl ?_)
 simp -implicitDefEqProofs only [Qc,Qd,OpW,aop,undef,AS.ev,↓reduceIte,seval]
 refine ⟨_,_,_,rfl,?_⟩
 show DefW _ _ _ _ _ _
 refine YR (Yv ?_)
 repeat (first|((first|(with_reducible (first|refine Qk fun K E hK hE=>?_|refine FunW.pan (FunW.call (cs _)) ?_)));simp -implicitDefEqProofs only [Qc,Qd,OpW,QE,aop,undef,AS.ev,Qq,↓reduceIte,seval])|(with_reducible refine hE _ _ ?_))
 simp only [AExit.QqS,Qku]
 refine panQ (a0:=0) (e0:=0) rfl (by rw [Z4];rfl) (by rw [hget];rfl) fun L=>?_
 rw [QbK,hset]
 simp -implicitDefEqProofs only [Qc,↓reduceIte,Nat.reduceEqDiff,ti3,ti27,List.mapM_cons,List.mapM_nil,Option.pure_def,Option.bind_eq_bind,Qw,Qv,List.append_assoc,QF,Qn,Qr,Qq9]
 exact Qi (htake _ _) (.keep (Qko _ _ _)) ⟨rfl,rfl⟩
section
variable {l:List UInt8} {ts:List Tk} (hs:Ya l = .inl ts) (fv:AV) (h:AH) (hG:ZP h) (Ok:AH→Prop) (hOk:∀ Y a b L,h.length+1<Y.length→Ok Y→Ok ((Y.set h.length a).set (h.length+1) b++L))
include hs hG hOk
theorem Ql4 (HF:FunW Tryd.prog fv [.ptr (h.length+2) 0 0] (hp0 h ts) fun o h'=>o = .ret (.tup [])∧∃ Y:{Y:AH // Y[h.length]? = some (iC 0)∧Y[h.length+1]? = some (eC 0)∧Ok Y},h'=Y.1) :
  QJ Tryd.prog 15 [.v (.string (mkB l)),fv] h fun o h'=>o = .ret (.tup [.i 0,.i 0])∧∃ Y:{Y:AH // Ok Y},h'=Y.1:=by
 have cs:=fun L=>QhI hs (h++L) (hG.app L)
 have cc:=QnH h ts
 refine Qaf Tryd.func15 rfl Tryd.call15 Tryd.ntmps15 (congrArg Array.toList Tryd.results15) (by simp) ?_
 refine YR (Yv ?_)
 repeat (first|(((with_reducible refine Qk fun K E hK hE=>?_));simp -implicitDefEqProofs only [Qc,Qd,OpW,aop,AV.Qp8,↓reduceIte,Nat.reduceLT,zi3,zi27])|((with_reducible refine hK _ ?_);clear hK))
 show DefW _ _ _ _ _ _
 refine YR (QbH 1 rfl rfl rfl ?_)
 simp -implicitDefEqProofs only [Qc,Qd,OpW,aop,undef,AS.ev,↓reduceIte,seval]
 refine ⟨_,_,_,rfl,?_⟩
 show DefW _ _ _ _ _ _
 refine YR (Yv ?_)
 repeat (first|((first|(with_reducible (first|refine Qk fun K E hK hE=>?_|refine FunW.ret (FunW.call (cs _)) ?_)));simp -implicitDefEqProofs only [Qc,Qd,OpW,QE,aop,undef,AS.ev,Qq,AV.Qp8,↓reduceIte,Xf,Xu,zi66,sp66,seval])|((with_reducible refine hK _ ?_);clear hK))
 show DefW _ _ _ _ _ _
 refine YR (Yv ?_)
 repeat (first|((first|(with_reducible (first|refine Qk fun K E hK hE=>?_|refine FunW.ret (FunW.call cc) ?_)));simp -implicitDefEqProofs only [Qc,Qd,OpW,QE,aop,AS.ev,↓reduceIte,Nat.reduceLT])|((with_reducible refine hK _ ?_);clear hK))
 show DefW _ _ _ _ _ _
 refine YR (Yv ?_)
 repeat (first|((first|(with_reducible (first|refine Qk fun K E hK hE=>?_|refine FunW.retE HF fun Y=>?_)));simp -implicitDefEqProofs only [Qc,Qd,OpW,QE,aop,undef,AS.ev,Qq,↓reduceIte,seval])|((with_reducible refine hK _ ?_);clear hK))
 have hY:=Y.2
 generalize Y.1=Y1 at *
 obtain ⟨y1,y2,y3⟩:=hY
 have l1:=Qt y1
 have l2:=Qt y2
 repeat ((((with_reducible refine Qa fun K E hK hE=>?_));simp -implicitDefEqProofs only [Qc,Qd,OpW,QE,aop,undef,XL,AS.ev,Qq,AV.Qp8,↓reduceIte,QB,Qp,aBin,Xf,Xu,goInt,ti0,zi0,ti1,zi1,ti3,zi3,un3,ti9,ei9,zi9,un9,ti27,zi27,un27,ti57,zi57,un57,ti63,QgY,Qfl,zi63,sp63,ti66,QI,YG,YH,zi66,sp66,ti69,zi69,QrM,Int.sub_zero,Zg,Qs,seval]))
 show DefW _ _ _ _ _ _
 refine Yv ?_
 have u1:∀ y,(Y1.set h.length y)[h.length+1]? = some (eC 0):=fun y=>by rw [List.getElem?_set_ne (by omega)];exact y2
 have u2:∀ y z,((Y1.set h.length y).set (h.length+1) z)[h.length]? = some y:=fun y z=>by rw [List.getElem?_set_ne (by omega),List.getElem?_set_self l1]
 have u3:∀ y z,((Y1.set h.length y).set (h.length+1) z)[h.length+1]? = some z:=fun y z=>List.getElem?_set_self (by rw [List.length_set];exact l2)
 repeat (first|(((with_reducible refine Qa fun K E hK hE=>?_));simp -implicitDefEqProofs only [Qc,Qd,OpW,aop,undef,AS.ev,AV.Qp8,↓reduceIte,Nat.reduceEqDiff,QB,Qp,ti3,ti27,y1,u1])|(with_reducible refine Ql ?_)|((with_reducible refine hK _ ?_);clear hK))
 simp only [Qku]
 refine rtQ rfl ?_
 simp -implicitDefEqProofs only [Qc,↓reduceIte,Nat.reduceEqDiff,ti3,ti27,List.mapM_cons,List.mapM_nil,Option.pure_def,Option.bind_eq_bind,Qw,Qv,u2,u3,QF,Qn,Qr,Qq9]
 have:=hOk Y1 (iC 0) (eC 0) [] l2 y3
 rw [List.append_nil] at this
 exact .inr ⟨rfl,⟨_,this⟩,rfl⟩
theorem Qji {p e:Int} (HF:FunW Tryd.prog fv [.ptr (h.length+2) 0 0] (hp0 h ts) fun o h'=>o = .panic (Fl p e)∧∃ Y:{Y:AH // Y[h.length]? = some (iC 0)∧Y[h.length+1]? = some (eC 0)∧Ok Y},h'=Y.1) :
  QJ Tryd.prog 15 [.v (.string (mkB l)),fv] h fun o h'=>o = .ret (.tup [.i p,.i e])∧∃ Y:{Y:AH // Ok Y},h'=Y.1:=by
 have cs:=fun L=>QhI hs (h++L) (hG.app L)
 have cc:=QnH h ts
 refine Qaf Tryd.func15 rfl Tryd.call15 Tryd.ntmps15 (congrArg Array.toList Tryd.results15) (by simp) ?_
 refine YR (Yv ?_)
 repeat (first|(((with_reducible refine Qk fun K E hK hE=>?_));simp -implicitDefEqProofs only [Qc,Qd,OpW,aop,AV.Qp8,↓reduceIte,Nat.reduceLT,zi3,zi27])|((with_reducible refine hK _ ?_);clear hK))
 show DefW _ _ _ _ _ _
 refine YR (QbH 1 rfl rfl rfl ?_)
 simp -implicitDefEqProofs only [Qc,Qd,OpW,aop,undef,AS.ev,↓reduceIte,seval]
 refine ⟨_,_,_,rfl,?_⟩
 show DefW _ _ _ _ _ _
 refine YR (Yv ?_)
 repeat (first|((first|(with_reducible (first|refine Qk fun K E hK hE=>?_|refine FunW.ret (FunW.call (cs _)) ?_)));simp -implicitDefEqProofs only [Qc,Qd,OpW,QE,aop,undef,AS.ev,Qq,AV.Qp8,↓reduceIte,Xf,Xu,zi66,sp66,seval])|((with_reducible refine hK _ ?_);clear hK))
 show DefW _ _ _ _ _ _
 refine YR (Yv ?_)
 repeat (first|((first|(with_reducible (first|refine Qk fun K E hK hE=>?_|refine FunW.ret (FunW.call cc) ?_)));simp -implicitDefEqProofs only [Qc,Qd,OpW,QE,aop,AS.ev,↓reduceIte,Nat.reduceLT])|((with_reducible refine hK _ ?_);clear hK))
 show DefW _ _ _ _ _ _
 refine YR (Yv ?_)
 repeat (first|((first|(with_reducible (first|refine Qk fun K E hK hE=>?_|refine FunW.panE HF fun Y=>?_)));simp -implicitDefEqProofs only [Qc,Qd,OpW,QE,aop,undef,AS.ev,Qq,↓reduceIte,seval])|(with_reducible refine hE _ _ ?_))
 have hY:=Y.2
 generalize Y.1=Y1 at *
 obtain ⟨y1,y2,y3⟩:=hY
 have l1:=Qt y1
 have l2:=Qt y2
 simp only [AExit.QqS,Qku]
 refine panQ rfl y1 y2 fun L=>?_
 have u2:∀ y z,((Y1.set h.length y).set (h.length+1) z++L)[h.length]? = some y:=fun y z=>by rw [List.getElem?_append_left (by simp only [List.length_set];exact l1),List.getElem?_set_ne (by omega),List.getElem?_set_self l1]
 have u3:∀ y z,((Y1.set h.length y).set (h.length+1) z++L)[h.length+1]? = some z:=fun y z=>by rw [List.getElem?_append_left (by simp only [List.length_set];exact l2)];exact List.getElem?_set_self (by rw [List.length_set];exact l2)
 simp -implicitDefEqProofs only [Qc,↓reduceIte,Nat.reduceEqDiff,ti3,ti27,List.mapM_cons,List.mapM_nil,Option.pure_def,Option.bind_eq_bind,Qw,Qv,u2,u3,QF,Qn,Qr,Qq9]
 exact .inr ⟨rfl,⟨_,hOk Y1 (iC p) (eC e) L l2 y3⟩,rfl⟩
end
end Go.Proofs.YticgcpebdldbgaaDoor.Ab
set_option maxRecDepth 4000
namespace Go.Proofs.YticgcpebdldbgaaDoor.Ab
open Go.Proofs
theorem FunW.cl {P:Program} {f:FuncId} {args cap:List AV} {h:AH} {Q:AOut→AH→Prop} (H:QJ P f (args++cap) h Q):FunW P (.fn (.func f) [] cap) args h Q:=FunW.fn (by rw [List.nil_append];exact H)
def psR:Pg ⊕ (Int×Int)→AV
 | .inl p=>.tup [p.av,.i 0,.i 0]
 | .inr e=>.tup [(⟨[],[]⟩:Pg).av,.i e.1,.i e.2]
theorem QnU (n:Nat) (p:Pg):Below n p.av:=.agg _ fun a ha=>by
 simp only [List.mem_cons,List.not_mem_nil,or_false] at ha
 rcases ha with rfl|rfl
 ·exact Qbv Dc.av n 2 (fun d=>Dc.bel n d) _
 ·exact Qbv Rl.av n 6 (fun r=>Rl.bel n r) _
theorem QlV (n:Nat) (r:Pg ⊕ (Int×Int)):Below n (psR r):=by
 cases r with
 |inl p=>exact Qav (QnU n p) _ _
 |inr e=>exact Qav (QnU n _) _ _
theorem QlW {H:AH} {m:Nat} (p e:Int):Frz H m (.tup [.agg [.v (.slice none 0 0),.v (.slice none 0 0)],.i p,.i e]) (psR (.inr (p,e))):=by
 refine .tup rfl fun j a a' h1 h2=>?_
 match j,h1,h2 with
 |0,h1,h2 =>
  cases h1;cases h2
  refine .agg rfl fun j a a' h1 h2=>?_
  match j,h1,h2 with
  |0,h1,h2=>cases h1;cases h2;exact .nil 2
  |1,h1,h2=>cases h1;cases h2;exact .nil 6
  |j+2,h1,h2=>simp at h1
 |1,h1,h2=>cases h1;cases h2;exact .keep (.v _)
 |2,h1,h2=>cases h1;cases h2;exact .keep (.v _)
 |j+3,h1,h2=>simp at h1
theorem QfB {all:List Tk} {s:PS} (hW:Wst all s) {p e:Int} (h:Qeh s = .err p e):e≠0:=Kp.Ps.err (n:=wdOf all) (Kp.prog_ps trivial) hW h
section
variable (l:List UInt8) (h:AH) (hG:ZP h)
include hG
theorem Qbq:QJ Tryd.prog 7 [.v (.string (mkB l))] h fun o h'=>o = .ret (psR (QaT l))∧h'=h:=by
 rw [QaT]
 cases hs:Ya l with
 |inr q =>
  obtain ⟨p,e⟩:=q
  have cr:=fun fv L=>Qhs hs fv (h++L) (hG.app L)
  have e0:(e != 0)=true:=by simpa using Qac hs
  refine Qe Tryd.func7 rfl Tryd.call7 Tryd.ntmps7 (congrArg Array.toList Tryd.results7) (by simp) ?_
  repeat (first|((first|(with_reducible (first|refine Qa fun K E hK hE=>?_|refine FunW.ret (FunW.call (cr _ _)) ?_)));simp -implicitDefEqProofs only [Qc,Qd,OpW,QE,aop,undef,AS.ev,Qq,AV.Qp8,↓reduceIte,QB,Qp,aBin,QY,Xf,Xu,ti26,zi26,sp26,e0,seval])|(with_reducible (first|refine Qf fun K hK=>?_|refine Ql ?_|refine Qu ?_))|((with_reducible refine hK _ ?_);clear hK)|(refine Qh rfl ?_;simp only [↓reduceIte]))
  simp -implicitDefEqProofs only [Qc,↓reduceIte,Qw,Qv,ti26,List.mapM_cons,List.mapM_nil,Option.pure_def,Option.bind_eq_bind,Qw,Qv,QF,Qn,Qr,Qq9,seval]
  exact Qi (htake _ _) (QlW _ _) ⟨rfl,rfl⟩
 |inl ts =>
  obtain ⟨hD,hW,hN,hl⟩:=QcU hs
  obtain ⟨H,hH⟩:∃ H,H=h++[pgB nilV nilV,pgB nilV nilV]:=⟨_,rfl⟩
  have hHl:H.length=h.length+2:=by rw [hH];simp
  have hHG:ZP H:=by rw [hH];exact hG.app _
  have hPo:=QoO H ts (.cells 66 4 [.agg [.sl 3 (tks ts) none,.i 0,.v (.slice none 0 0),.v (.map none)]])
  have hout:∀ i,i<h.length→(H++[iC 0,eC 0,.cells 66 4 [.agg [.sl 3 (tks ts) none,.i 0,.v (.slice none 0 0),.v (.map none)]]]++[.dead,.dead])[i]? = h[i]? := fun i hi=>by
   rw [List.append_assoc,List.getElem?_append_left (by omega),hH,List.getElem?_append_left hi]
  have hlen:(H++[iC 0,eC 0,.cells 66 4 [.agg [.sl 3 (tks ts) none,.i 0,.v (.slice none 0 0),.v (.map none)]]]++[AB.dead,.dead]).length=h.length+7:=by simp only [QrQ,Qrc,Qrd,hHl]
  have cf:=Qj7 (P:=P0 H ts) (s:=⟨ts,[]⟩) hW hPo hN hD (o:=h.length+1) (by omega) (by simp only [P0];omega) (by simp only [P0];omega) (by simp only [P0];omega)
   (by rw [List.append_assoc,List.getElem?_append_left (by omega),hH,hget];rfl)
  have hst:∀ (K:AH→Prop) (Y:AH) a b L,H.length+1<Y.length→(∀ i,i<h.length→Y[i]? = h[i]?)→∀ i,i<h.length→((Y.set H.length a).set (H.length+1) b++L)[i]? = h[i]? := fun K Y a b L hl hy i hi=>by
   rw [List.getElem?_append_left (by simp only [List.length_set];omega),List.getElem?_set_ne (by omega),List.getElem?_set_ne (by omega)];exact hy i hi
  have hc0:∀ Y,KpO (H++[iC 0,eC 0,.cells 66 4 [.agg [.sl 3 (tks ts) none,.i 0,.v (.slice none 0 0),.v (.map none)]]]++[AB.dead,.dead]) (P0 H ts) (h.length+1) Y→Y[H.length]? = some (iC 0)∧Y[H.length+1]? = some (eC 0)∧h.length+7≤Y.length∧(∀ i,i<h.length→Y[i]? = h[i]?)∧Y[h.length]? = some (pgB nilV nilV):=fun Y hY=>by
   refine ⟨?_,?_,by have:=hY.long;omega,fun i hi=>?_,?_⟩
   ·rw [hY.out H.length (by omega) (by omega) (by simp only [P0];omega) (by simp only [P0];omega) (by simp only [P0];omega),List.append_assoc,Z4];rfl
   ·rw [hY.out (H.length+1) (by omega) (by omega) (by simp only [P0];omega) (by simp only [P0];omega) (by simp only [P0];omega),List.append_assoc,hget];rfl
   ·rw [hY.out i (by omega) (by omega) (by simp only [P0];omega) (by simp only [P0];omega) (by simp only [P0];omega)];exact hout i hi
   ·rw [hY.out h.length (by omega) (by omega) (by simp only [P0];omega) (by simp only [P0];omega) (by simp only [P0];omega),List.append_assoc,List.getElem?_append_left (by omega),hH,Z4];rfl
  cases hp:Qeh ⟨ts,[]⟩ with
  |err p e =>
   rw [hp] at cf
   have e0:(e != 0)=true:=by simpa using QfB hW hp
   have cr:=Qji hs (.fn (.func 16) [] [.ptr (h.length+1) 0 0]) H hHG (fun Y=>h.length+2≤Y.length∧(∀ i,i<h.length→Y[i]? = h[i]?)∧Y[h.length]? = some (pgB nilV nilV))
    (fun Y a b L hl hy=>⟨by simp only [QrQ,List.length_set];omega,hst (fun _=>True) Y a b L hl hy.2.1,by rw [List.getElem?_append_left (by simp only [List.length_set];omega),List.getElem?_set_ne (by omega),List.getElem?_set_ne (by omega)];exact hy.2.2⟩) (p:=p) (e:=e)
    (FunW.cl (cf.mono fun o h' q=>by
     obtain ⟨q1,⟨Y,hY⟩,q2⟩:=q
     obtain ⟨y1,y2,y3,y4,y5⟩:=hc0 Y hY
     exact ⟨q1,⟨Y,y1,y2,by omega,y4,y5⟩,q2⟩))
   rw [hH] at cr
   refine Qe Tryd.func7 rfl Tryd.call7 Tryd.ntmps7 (congrArg Array.toList Tryd.results7) (by simp) ?_
   repeat (first|((first|(with_reducible (first|refine Qa fun K E hK hE=>?_|refine FunW.retE (FunW.call cr) fun Y=>?_)));simp -implicitDefEqProofs only [Qc,Qd,OpW,QE,aop,undef,XL,AS.ev,Qq,AV.Qp8,↓reduceIte,QB,Qp,aBin,QY,Xf,Xu,ti26,zi26,sp26,e0,QrQ,seval])|(with_reducible refine Qf fun K hK=>?_)|((with_reducible refine hK _ ?_);clear hK)|(refine Qh rfl ?_;simp only [↓reduceIte]))
   have hY:=Y.2
   generalize Y.1=Y1 at *
   obtain ⟨y0,y1,y2⟩:=hY
   have u1:∀ y,(Y1.set h.length y)[h.length]? = some y:=fun y=>List.getElem?_set_self (by omega)
   have ht:∀ y,(Y1.set h.length y).take h.length=h:=fun y=>List.ext_getElem? fun i=>by
    by_cases hi:i<h.length
    ·rw [List.getElem?_take_of_lt hi,List.getElem?_set_ne (by omega)];exact y1 i hi
    ·rw [List.getElem?_take_eq_none (by omega),List.getElem?_eq_none (by omega)]
   simp -implicitDefEqProofs only [Qc,↓reduceIte,Nat.reduceAdd,y2]
   repeat (first|(with_reducible (first|refine Ql ?_|refine Qu ?_))|((with_reducible refine hK _ ?_);clear hK))
   simp -implicitDefEqProofs only [Qc,↓reduceIte,Qw,Qv,ti26,List.mapM_cons,List.mapM_nil,Option.pure_def,Option.bind_eq_bind,Qw,Qv,u1,QF,Qn,Qr,Qq9,seval]
   exact Qi (ht _) (QlW _ _) ⟨by rw [hp],rfl⟩
  |ok pg s2 =>
   rw [hp] at cf
   have e0:((0:Int) != 0)=false:=rfl
   obtain ⟨D,hDe⟩:∃ D,D=pgB (.sl 2 (vs Dc.av pg.decls) none) (.sl 6 (vs Rl.av pg.rules) none):=⟨_,rfl⟩
   have cr:=Ql4 hs (.fn (.func 16) [] [.ptr (h.length+1) 0 0]) H hHG (fun Y=>h.length+2≤Y.length∧(∀ i,i<h.length→Y[i]? = h[i]?)∧Y[h.length]? = some (pgB nilV nilV)∧Y[h.length+1]? = some D)
    (fun Y a b L hl hy=>⟨by simp only [QrQ,List.length_set];omega,hst (fun _=>True) Y a b L hl hy.2.1,by rw [List.getElem?_append_left (by simp only [List.length_set];omega),List.getElem?_set_ne (by omega),List.getElem?_set_ne (by omega)];exact hy.2.2.1,by rw [List.getElem?_append_left (by simp only [List.length_set];omega),List.getElem?_set_ne (by omega),List.getElem?_set_ne (by omega)];exact hy.2.2.2⟩)
    (FunW.cl (cf.mono fun o h' q=>by
     obtain ⟨q1,⟨Y,hY,hY2⟩,q2⟩:=q
     obtain ⟨y1,y2,y3,y4,y5⟩:=hc0 Y hY
     exact ⟨q1,⟨Y,y1,y2,by omega,y4,y5,by rw [hDe];exact hY2⟩,q2⟩))
   rw [hH] at cr
   refine Qe Tryd.func7 rfl Tryd.call7 Tryd.ntmps7 (congrArg Array.toList Tryd.results7) (by simp) ?_
   repeat (first|((first|(with_reducible (first|refine Qa fun K E hK hE=>?_|refine FunW.retE (FunW.call cr) fun Y=>?_)));simp -implicitDefEqProofs only [Qc,Qd,OpW,QE,aop,undef,XL,AS.ev,Qq,AV.Qp8,↓reduceIte,Qw,Qv,QB,Qp,aBin,QY,ti26,zi26,QrQ,seval])|(with_reducible (first|refine Qf fun K hK=>?_|refine Qm ?_|refine Qb ?_))|((with_reducible refine hK _ ?_);clear hK)|(refine Qh rfl ?_;simp only [↓reduceIte,Qq3]))
   have hY:=Y.2
   generalize Y.1=Y1 at *
   obtain ⟨y0,y1,y2,y3⟩:=hY
   rw [hDe] at y3
   have u1:∀ y,(Y1.set h.length y)[h.length]? = some y:=fun y=>List.getElem?_set_self (by omega)
   have ht:∀ y,(Y1.set h.length y).take h.length=h:=fun y=>List.ext_getElem? fun i=>by
    by_cases hi:i<h.length
    ·rw [List.getElem?_take_of_lt hi,List.getElem?_set_ne (by omega)];exact y1 i hi
    ·rw [List.getElem?_take_eq_none (by omega),List.getElem?_eq_none (by omega)]
   simp -implicitDefEqProofs only [Qc,↓reduceIte,Nat.reduceAdd,y2,y3]
   repeat (first|(with_reducible refine Ql ?_)|((with_reducible refine hK _ ?_);clear hK))
   simp -implicitDefEqProofs only [Qc,↓reduceIte,Qw,Qv,ti26,List.mapM_cons,List.mapM_nil,Option.pure_def,Option.bind_eq_bind,Qw,Qv,u1,QF,Qn,Qr,Qq9,seval]
   exact Qi (ht _) (.keep (QlV _ (.inl pg))) ⟨by rw [hp];rfl,rfl⟩
end
end Go.Proofs.YticgcpebdldbgaaDoor.Ab
set_option maxRecDepth 4000
namespace Go.Proofs.YticgcpebdldbgaaDoor.Ab
open Go.Proofs
def tvB (n:Nat) (l:List Int):Prop:=∀ v∈l,0≤v∧v<n
theorem tvB.mono {n m:Nat} {l:List Int} (h:tvB n l) (hn:n≤m):tvB m l:=fun v hv=>by have:=h v hv;omega
theorem tvB.app {n:Nat} {l m:List Int} (h:tvB n l) (k:tvB n m):tvB n (l++m):=fun v hv=>(List.mem_append.1 hv).elim (h v) (k v)
theorem Z2 (n:Nat):tvB n []:=fun v hv=>(List.not_mem_nil hv).elim
def VbT (f:PS→PR T):Prop:=∀ s t s2,f s = .ok t s2→s.names.length≤s2.names.length∧tvB s2.names.length t.vars∧tvB s2.names.length (Q4 t.args)
theorem Qbw {b:List UInt8} {s s2:PS} {u:Unit} (h:XU b s = .ok u s2):s2.names=s.names:=by
 unfold XU at h
 split at h
 ·cases h;rfl
 ·cases h
theorem QjW {s s2:PS} {x:ByteArray} (h:ZY s = .ok x s2):s2.names=s.names:=by
 unfold ZY at h
 split at h
 ·cases h
 ·split at h
  ·cases h
  ·cases h;rfl
theorem Qjs (t:T):Q4 [t]=t.vars:=by simp [Q4]
section
variable {ex:PS→PR T} (H:VbT ex)
include H
theorem QkF:∀ (m:Nat) (l:List T) (s:PS) (a:List T) (s2:PS),tvB s.names.length (Q4 l)→Zb ex m l s = .ok a s2→s.names.length≤s2.names.length∧tvB s2.names.length (Q4 a)
 |0,_,_,_,_,_,h=>by cases h
 |m+1,l,s,a,s2,hl,h=>by
  rw [Zb] at h
  obtain ⟨t,s1,h1,h⟩:=bind_ok h
  obtain ⟨a1,a2,_⟩:=H s t s1 h1
  have hl2:tvB s1.names.length (Q4 (l++[t])):=by rw [Qae,Qjs];exact (hl.mono a1).app a2
  split at h
  ·obtain ⟨b1,b2⟩:=QkF m (l++[t]) s1.nx a s2 hl2 h
   exact ⟨Nat.le_trans a1 b1,b2⟩
  ·obtain ⟨u,s3,h3,h⟩:=bind_ok h
   have e:=Qbw h3
   cases h
   rw [e];exact ⟨a1,hl2⟩
theorem Qn8 {s s2:PS} {g:G} (h:Zc ex s = .ok g s2):s.names.length≤s2.names.length∧tvB s2.names.length (Q4 g.args):=by
 rw [Zc] at h
 obtain ⟨x,s1,h1,h⟩:=bind_ok h
 have e:=QjW h1
 split at h
 ·obtain ⟨l,s3,h3,h⟩:=bind_ok h
  obtain ⟨b1,b2⟩:=QkF H _ [] s1.nx l s3 (by rw [Q4];exact Z2 _) h3
  cases h
  exact ⟨by rw [← e];exact b1,b2⟩
 ·cases h
  exact ⟨by rw [e];exact Nat.le_refl _,by show tvB _ (Q4 []);rw [Q4];exact Z2 _⟩
theorem Qpc:VbT (pOpT ex):=fun s t s2 h=>by
 unfold pOpT at h
 split at h
 ·cases h;exact ⟨Nat.le_refl _,by simp only [T.vars];exact Z2 _,Z2 _⟩
 ·split at h
  ·unfold pVari at h
   split at h
   ·rename_i hv
    cases h
    refine ⟨Nat.le_refl _,?_,Z2 _⟩
    show tvB s.nx.names.length [_]
    intro v hm
    rw [List.mem_singleton] at hm
    subst hm
    omega
   ·cases h
    refine ⟨by show s.names.length≤(s.nx.names++[_]).length;rw [List.length_append];exact Nat.le_add_right _ _,?_,Z2 _⟩
    show tvB (s.nx.names++[_]).length [_]
    intro v hm
    rw [List.mem_singleton] at hm
    subst hm
    rw [List.length_append,List.length_singleton]
    omega
  ·split at h
   ·obtain ⟨a,s1,h1,h⟩:=bind_ok h
    obtain ⟨b1,b2⟩:=Qn8 H h1
    cases h
    refine ⟨b1,?_,b2⟩
    simp only [T.vars]
    exact b2
   ·split at h
    ·split at h
     ·cases h
     ·cases h;exact ⟨Nat.le_refl _,by simp only [T.vars];exact Z2 _,Z2 _⟩
    ·split at h
     ·obtain ⟨t1,s1,h1,h⟩:=bind_ok h
      obtain ⟨u,s3,h3,h⟩:=bind_ok h
      obtain ⟨a1,a2⟩:=H _ _ _ h1
      have e:=Qbw h3
      cases h
      rw [e];exact ⟨a1,a2⟩
     ·cases h
end
theorem QgU {op:PS→PR T} (H:VbT op) (ops:List (List UInt8)):∀ (m:Nat) (t:T) (s:PS) (a:T) (s2:PS),tvB s.names.length t.vars→tvB s.names.length (Q4 t.args)→XM op ops m t s = .ok a s2→s.names.length≤s2.names.length∧tvB s2.names.length a.vars∧tvB s2.names.length (Q4 a.args)
 |0,t,s,a,s2,ht,hk,h=>by cases h;exact ⟨Nat.le_refl _,ht,hk⟩
 |m+1,t,s,a,s2,ht,hk,h=>by
  rw [XM] at h
  split at h
  ·obtain ⟨u,s3,h3,h⟩:=bind_ok h
   obtain ⟨a1,a2,_⟩:=H _ _ _ h3
   have a1':s.names.length≤s3.names.length:=a1
   have hv:tvB s3.names.length (Q4 [t,u]):=by simp only [Q4,Qrs];exact (ht.mono a1').app a2
   obtain ⟨b1,b2⟩:=QgU H ops m (.mk 2 0 s.tk.text [t,u]) s3 a s2 (by simp only [T.vars];exact hv) hv h
   exact ⟨Nat.le_trans a1' b1,b2⟩
  ·cases h;exact ⟨Nat.le_refl _,ht,hk⟩
theorem QiO {op:PS→PR T} (H:VbT op) (ops:List (List UInt8)):VbT (X5 op ops):=fun s t s2 h=>by
 rw [X5] at h
 obtain ⟨u,s1,h1,h⟩:=bind_ok h
 obtain ⟨a1,a2,a3⟩:=H _ _ _ h1
 obtain ⟨b1,b2⟩:=QgU H ops _ u s1 t s2 a2 a3 h
 exact ⟨Nat.le_trans a1 b1,b2⟩
theorem QiQ:∀ n:Nat,VbT (X6 n)
 |0=>fun s t s2 h=>by cases h
 |n+1=>QiO (QiO (Qpc (QiQ n)) YE) ZW
theorem QgB:VbT X1:=fun s t s2 h=>QiQ _ s t s2 h
theorem QlL {op:Int} {s s2:PS} {g:G} (h:Qcj op s = .ok g s2):s.names.length≤s2.names.length∧tvB s2.names.length (Q4 g.args):=by
 rw [Qcj] at h
 obtain ⟨u,s1,h1,h⟩:=bind_ok h
 obtain ⟨t,s3,h3,h⟩:=bind_ok h
 obtain ⟨w,s4,h4,h⟩:=bind_ok h
 obtain ⟨a1,a2,_⟩:=QgB _ _ _ h3
 have e1:=Qbw h1
 have e4:=Qbw h4
 cases h
 rw [e4]
 exact ⟨by rw [← e1];exact a1,by show tvB _ (Q4 [t]);rw [Qjs];exact a2⟩
theorem QmU {s s2:PS} {g:G} (h:Qap s = .ok g s2):s.names.length≤s2.names.length∧tvB s2.names.length (Q4 g.args):=by
 have e0:Q4 []=[]:=rfl
 unfold Qap at h
 split at h
 ·split at h
  ·cases h;exact ⟨Nat.le_refl _,by show tvB _ (Q4 []);rw [e0];exact Z2 _⟩
  ·split at h
   ·cases h;exact ⟨Nat.le_refl _,by show tvB _ (Q4 []);rw [e0];exact Z2 _⟩
   ·split at h
    ·exact QlL (s:=s.nx) h
    ·split at h
     ·exact QlL (s:=s.nx) h
     ·cases h
 ·obtain ⟨t,s1,h1,h⟩:=bind_ok h
  obtain ⟨a1,a2,a3⟩:=QgB _ _ _ h1
  split at h
  ·rename_i op turn hc
   obtain ⟨u,s3,h3,h⟩:=bind_ok h
   obtain ⟨b1,b2,_⟩:=QgB _ _ _ h3
   have b1':s1.names.length≤s3.names.length:=b1
   cases h
   refine ⟨Nat.le_trans a1 b1',?_⟩
   show tvB s2.names.length (Q4 (if turn=true then [u,t] else [t,u]))
   split
   ·simp only [Q4,Qrs];exact b2.app (a2.mono b1')
   ·simp only [Q4,Qrs];exact (a2.mono b1').app b2
  ·split at h
   ·cases h
    exact ⟨a1,a3⟩
   ·cases h
theorem Qh9 (l:List G) (g:G):QL (l++[g])=QL l++Q4 g.args:=by simp [QL]
theorem Qg4 (most:Nat):∀ (m:Nat) (l:List G) (s:PS) (a:List G) (s2:PS),tvB s.names.length (QL l)→YB most m l s = .ok a s2→s.names.length≤s2.names.length∧tvB s2.names.length (QL a)
 |0,_,_,_,_,_,h=>by cases h
 |m+1,l,s,a,s2,hl,h=>by
  rw [YB] at h
  split at h
  ·cases h
  ·obtain ⟨g,s1,h1,h⟩:=bind_ok h
   obtain ⟨a1,a2⟩:=QmU h1
   have hl2:tvB s1.names.length (QL (l++[g])):=by rw [Qh9];exact (hl.mono a1).app a2
   split at h
   ·cases h
   ·split at h
    ·obtain ⟨b1,b2⟩:=Qg4 most m _ s1.nx a s2 hl2 h
     exact ⟨Nat.le_trans a1 b1,b2⟩
    ·cases h;exact ⟨a1,hl2⟩
theorem QmW {most:Nat} {s s2:PS} {a:List G} (h:Yo most s = .ok a s2):tvB s2.names.length (QL a):=(Qg4 most _ [] s a s2 (Z2 _) h).2
end Go.Proofs.YticgcpebdldbgaaDoor.Ab

