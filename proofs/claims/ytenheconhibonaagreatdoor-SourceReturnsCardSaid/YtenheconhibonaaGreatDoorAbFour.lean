/-
  An abstract program logic, contracts of functions, and laws of terms and rules (part 4).
-/
import Derived.Test.YtenheconhibonaaGreatDoorAbTwo
import Derived.Test.YtenheconhibonaaGreatDoorAbThree
set_option linter.unusedVariables false
set_option linter.unusedSimpArgs false
set_option maxHeartbeats 4000000
set_option maxRecDepth 4000
namespace Go.Proofs.YtenheconhibonaaGreatDoor.Ab
open Go.Proofs
abbrev Qjp{a:List AV}{h:AH}{Q:AOut->AH->Prop}:=@Qc Tryz.prog 52 _ _ a h Q Tryz.func52 rfl Tryz.call52 _ Tryz.ntmps52 _ Tryz.results52
def i64(n:Int):Prop := -9223372036854775808<=n/\n<=9223372036854775807
mutual
def T.ok:T->Prop
 | .mk k i n l=>i64 k/\i64 i/\n.size<=9223372036854775807/\oks l
def oks:List T->Prop
 |[]=>True
 |t::l=>t.ok/\oks l
end
theorem T.ok_eq(t:T):t.ok↔i64 t.kind/\i64 t.int/\t.name.size<=9223372036854775807/\oks t.args:=by cases t;simp only[T.ok,T.kind,T.int,T.name,T.args]
theorem QqU:∀{l:List T} {k:Nat} (h:k<l.length),oks l->(l[k]).ok
 |t::l,0,_,h=>h.1
 |t::l,k+1,h,ho=>QqU (l:=l) (by simpa using h) ho.2
theorem Qad(P:Program)(t:TypeId)(xo yo:Operand)(a:Int):pv P (do eqGuard .quo t xo yo (.int .i64 a) (.int .i64 8);binOp .quo t (.int .i64 a) (.int .i64 8))=some (.int .i64 (IntKind.i64.wrap (a.tdiv 8))):=rfl
def weighs(w:List T->Int->Int):List T->Int->Int
 |[],n=>n
 |t::l,n=>if n<0 then n else weighs w l (w t.args (n - 1 - (t.name.size / 8:Nat)))
def weigh:Nat->List T->Int->Int
 |0,_,_ => -1
 |d+1,l,n=>if (l.length:Int)>n then -1 else weighs (weigh d) l n
theorem QfL(w:List T->Int->Int)(hw:∀l n,-1<=w l n/\(w l n<=n\/w l n = -1)):∀(l:List T) (n:Int),-1<=n -> -1<=weighs w l n/\weighs w l n<=n
 |[],n,h=>⟨h,Int.le_refl _⟩
 |t::l,n,h=>by
  simp only[weighs]
  split
  ·exact⟨h,Int.le_refl _⟩
  ·obtain⟨h1,h2⟩:=hw t.args (n - 1 - (t.name.size / 8:Nat))
   obtain⟨h3,h4⟩:=QfL w hw l _ h1
   refine⟨h3,?_⟩
   omega
theorem QaO:∀(d:Nat) (l:List T) (n:Int),-1<=weigh d l n/\(weigh d l n<=n\/weigh d l n = -1)
 |0,l,n=>⟨Int.le_refl _,.inr rfl⟩
 |d+1,l,n=>by
  simp only[weigh]
  split
  ·exact⟨Int.le_refl _,.inr rfl⟩
  ·obtain⟨h1,h2⟩:=QfL (weigh d) (QaO d) l n (by omega)
   exact⟨h1,.inl h2⟩
theorem Qi2(w:List T->Int->Int)(hb:∀l n,-1<=w l n)(hw:∀l n,0<=w l n->(ndsL l:Int)+w l n<=n):∀(l:List T) (n:Int),0<=weighs w l n->(ndsL l:Int)+weighs w l n<=n
 |[],n,h=>by simp[weighs,ndsL]
 |t::l,n,h=>by
  simp only[weighs]at h ⊢
  split at h
  ·omega
  ·rename_i hn
   rw[Qzf hn]
   have h1:=Qi2 w hb hw l _ h
   have h2:=hw t.args (n - 1 - (t.name.size / 8:Nat)) (by
    rcases Int.lt_or_le (w t.args (n - 1 - (t.name.size / 8:Nat))) 0 with h0|h0
    ·exfalso
     have:weighs w l (w t.args (n - 1 - (t.name.size / 8:Nat)))=w t.args (n - 1 - (t.name.size / 8:Nat)):=by
      cases l with
      |nil=>rfl
      |cons a l=>simp only[weighs,Qzh h0]
     omega
    ·exact h0)
   have h3:=T.QxK t
   simp only[ndsL]
   omega
theorem QlX:∀(d:Nat) (l:List T) (n:Int),0<=weigh d l n->(ndsL l:Int)+weigh d l n<=n
 |0,l,n,h=>by simp only[weigh]at h;omega
 |d+1,l,n,h=>by
  simp only[weigh]at h ⊢
  split at h
  ·omega
  ·rename_i hn
   rw[Qzf hn]
   exact Qi2 (weigh d) (fun l n=>(QaO d l n).1) (QlX d) l n h
theorem QmU(w:List T->Int->Int){r:List T}{n:Int}(h:n<0):weighs w r n=n:=by
 cases r with
 |nil=>rfl
 |cons a r=>simp only[weighs,Qzh h]
theorem Qfp:∀(d:Nat),d<=64->∀(l:List T) (n:Int),oks l -> -2305843009213693952<=n->n<=1000000->Pure Tryz.prog 52 [.sl 4 (avs l) none,.i n,.i d] (.i (weigh d l n))
 |0,_,l,n,ho,hn1,hn2=>by
  intro h
  refine Qjp (by simp) ?_
  repeat refine Qa ?_;simp only[go_sem,seval]
  first|refine Qb (htake _ _) (.keep (.v _)) ⟨rfl,rfl⟩|refine Qb Qzb (.keep (.v _)) ⟨rfl,rfl⟩
 |d+1,hd,l,n,ho,hn1,hn2=>by
  intro h
  have hd0:(((d+1:Nat):Int)==0)=false:=by rw[QAi];omega
  have hwd:IntKind.i64.wrap (((d+1:Nat):Int) - 1)=(d:Int):=by rw[Xk (by omega)];omega
  by_cases hc:(l.length:Int)>n
  ·refine Qjp (by simp) ?_
   repeat refine Qa ?_;simp only[go_sem,seval,hd0,hc]
   first|refine Qb (htake _ _) (.keep (.v _)) ⟨by simp only[weigh,Qzh hc],rfl⟩|refine Qb Qzb (.keep (.v _)) ⟨by simp only[weigh,Qzh hc],rfl⟩
  ·have hw:weigh (d+1) l n=weighs (weigh d) l n:=by simp only[weigh,Qzf hc]
   refine Qjp (by simp) ?_
   repeat refine Qa ?_;simp only[go_sem,seval,hd0,hc]
   obtain⟨I,hI⟩:∃I:Nat->AS->Prop,I=fun m' s=>∃(j:Nat) (a:Int),m'=l.length - j/\j<=l.length /\ -1<=a/\a<=n/\weighs (weigh d) l n=weighs (weigh d) (l.drop j) a/\s.tm 0 = .sl 4 (avs l) none/\s.tm 1 = .i a/\s.tm 2 = .i ((d+1:Nat):Int)/\s.tm 7 = .i j/\s.h=h:=⟨_,rfl⟩;refine Qv I ?_ (m:=l.length) ?_
   ·intro m' s hs;rw[hI]at hs;obtain⟨tm,hp⟩:=s;dsimp only at hs;obtain⟨j,a,rfl,hj,ha1,ha2,he,t0,t1,t2,t7,rfl⟩:=hs
    by_cases hlt:j<l.length
    ·rw[Qzq hlt]at he
     by_cases ha:a>=0
     ·obtain⟨o1,o2,o3,o4⟩:=(T.ok_eq _).1 (QqU hlt ho)
      simp only[weighs,Qzf (show ¬a<0 by omega)]at he
      have hq:((l[j].name.size:Int)).tdiv 8=((l[j].name.size / 8:Nat):Int):=by
       rw[Int.tdiv_eq_ediv_of_nonneg (by omega)];omega
      have hw1:IntKind.i64.wrap (a - 1)=a - 1:=Xk (by omega)
      have hw2:IntKind.i64.wrap (((l[j].name.size / 8:Nat):Int))=((l[j].name.size / 8:Nat):Int):=Xk (by omega)
      have hw3:IntKind.i64.wrap (a - 1 - ((l[j].name.size / 8:Nat):Int))=a - 1 - ((l[j].name.size / 8:Nat):Int):=Xk (by omega)
      have hr:=Qfp d (by omega) l[j].args (a - 1 - ((l[j].name.size / 8:Nat):Int)) o4 (by omega) (by omega)
      have hrb:=QaO d l[j].args (a - 1 - ((l[j].name.size / 8:Nat):Int))
      have hsl:=fun s=>ZB Tryz.prog 9 3 (by kernel_rfl) s
      repeat first|(first|refine Qq hr ?_|refine Q1 (id:=6) [(0,0),(1,0),(2,0),(3,0),(4,0),(5,0),(6,0),(7,0),(8,0),(9,0),(10,0),(11,0),(12,0),(13,0),(14,0),(15,0),(16,0),(17,1),(18,0)] mixed (by kernel_rfl) fun K hK=>?_|refine Qa ?_);simp only[go_sem,seval,t0,t1,t2,t7,hlt,ha,Qcd hlt,↓hsl,↓Qad,↓hq,hw1,hw2,hw3,hwd]|refine hK _ ?_;clear hK
      refine QZ.mk (m':=l.length - (j+1)) (by omega) ?_
      rw[hI]
      refine⟨j+1,_,rfl,hlt,?_,?_,he,t0,rfl,t2,?_,rfl⟩
      ·exact hrb.1
      ·omega
      ·simp only[upd,↓reduceIte]
       rw[QY (by omega)]
     ·have he2:weigh (d+1) l n=a:=by rw[hw,he,QmU _ (by omega)]
      repeat refine Qa ?_;simp only[go_sem,seval,t0,t1,t7,hlt,ha]
      exact Qb Qzb (.keep (.v _)) ⟨by rw[he2],rfl⟩
    ·have hjl:j=l.length:=by omega
     have he2:weigh (d+1) l n=a:=by rw[hw,he,hjl,QzG];rfl
     repeat refine Qa ?_;simp only[go_sem,seval,t0,t1,t7,hlt]
     exact Qb Qzb (.keep (.v _)) ⟨by rw[he2],rfl⟩
   ·rw[hI]
    exact⟨0,n,by omega,Qzy _,by omega,Int.le_refl _,by rw[QyA],rfl,rfl,rfl,rfl,rfl⟩
def G.ok(g:G):Prop:=i64 g.op/\g.name.size<=9223372036854775807/\oks g.args
def X5:List G->Int->Int
 |[],n=>n
 |g::l,n=>if n<0 then n else X5 l (weigh 64 g.args (n - 1 - (g.name.size / 8:Nat)))
def ndsG:List G->Nat
 |[]=>0
 |g::l=>ndsL g.args+ndsG l
theorem QlW:∀(l:List G) (n:Int),0<=X5 l n->(ndsG l:Int)<=n
 |[],n,h=>by simpa [X5,ndsG]using h
 |g::l,n,h=>by
  simp only[X5]at h
  split at h
  ·omega
  ·have h1:=QlW l _ h
   have h2:=QlX 64 g.args (n - 1 - (g.name.size / 8:Nat)) (by omega)
   simp only[ndsG]
   omega
theorem QhV{l:List G}{n:Int}(h:n<0):X5 l n=n:=by
 cases l with
 |nil=>rfl
 |cons g l=>simp only[X5,Qzh h]
theorem QcO(l:List G)(n:Int)(ho:∀g∈l,g.ok)(hb:l.length<=9223372036854775807)(hn1 : -1<=n)(hn2:n<=1000000):Pure Tryz.prog 78 [.sl 2 (vs G.atom l) none,.i n] (.b (decide (X5 l n<0))):=by
 intro h
 refine Qc Tryz.func78 rfl Tryz.call78 Tryz.ntmps78 Tryz.results78 (by simp) ?_
 repeat refine Qa ?_;simp only[go_sem,seval]
 obtain⟨I,hI⟩:∃I:Nat->AS->Prop,I=fun m' s=>∃(j:Nat) (a:Int),m'=l.length - j/\j<=l.length /\ -1<=a/\a<=n/\X5 l n=X5 (l.drop j) a/\s.tm 0 = .sl 2 (vs G.atom l) none/\s.tm 1 = .i a/\s.tm 5 = .i j/\s.h=h:=⟨_,rfl⟩;refine Qv I ?_ (m:=l.length) ?_
 ·intro m' s hs;rw[hI]at hs;obtain⟨tm,hp⟩:=s;dsimp only at hs;obtain⟨j,a,rfl,hj,ha1,ha2,he,t0,t1,t5,rfl⟩:=hs
  by_cases hlt:j<l.length
  ·rw[Qzq hlt]at he
   by_cases ha:a>=0
   ·obtain⟨_,o3,o4⟩:=ho _ (QzF hlt)
    simp only[X5,Qzf (show ¬a<0 by omega)]at he
    have hq:((l[j].name.size:Int)).tdiv 8=((l[j].name.size / 8:Nat):Int):=by
     rw[Int.tdiv_eq_ediv_of_nonneg (by omega)];omega
    have hw1:IntKind.i64.wrap (a - 1)=a - 1:=Xk (by omega)
    have hw2:IntKind.i64.wrap (((l[j].name.size / 8:Nat):Int))=((l[j].name.size / 8:Nat):Int):=Xk (by omega)
    have hw3:IntKind.i64.wrap (a - 1 - ((l[j].name.size / 8:Nat):Int))=a - 1 - ((l[j].name.size / 8:Nat):Int):=Xk (by omega)
    have hr:=Qfp 64 (by omega) l[j].args (a - 1 - ((l[j].name.size / 8:Nat):Int)) o4 (by omega) (by omega)
    have hrb:=QaO 64 l[j].args (a - 1 - ((l[j].name.size / 8:Nat):Int))
    have hsl:=fun s=>ZB Tryz.prog 9 3 (by kernel_rfl) s
    have h64:((64:Nat):Int)=64:=rfl
    rw[h64]at hr
    repeat first|(first|refine Qq hr ?_|refine Q1 (id:=4) [(0,0),(1,0),(2,0),(3,0),(4,0),(5,0),(6,0),(7,0),(8,0),(9,0),(10,0),(11,0),(12,0),(13,0),(14,0),(15,1),(16,0)] mixed (by kernel_rfl) fun K hK=>?_|refine Qa ?_);simp only[go_sem,seval,t0,t1,t5,hlt,ha,Qh,Z2 G.atom hlt,G.atom,↓hsl,↓Qad,↓hq,hw1,hw2,hw3]|refine hK _ ?_;clear hK
    refine QZ.mk (m':=l.length - (j+1)) (by omega) ?_
    rw[hI]
    refine⟨j+1,_,rfl,hlt,?_,?_,he,t0,rfl,?_,rfl⟩
    ·exact hrb.1
    ·omega
    ·simp only[upd,↓reduceIte]
     rw[QY (by omega)]
   ·have he2:X5 l n=a:=by rw[he,QhV (by omega)]
    repeat refine Qa ?_;simp only[go_sem,seval,t0,t1,t5,hlt,ha,Qh]
    exact Qb Qzb (.keep (.v _)) ⟨by rw[he2],rfl⟩
  ·have hjl:l.drop j=[]:=QAt (by omega)
   have he2:X5 l n=a:=by rw[he,hjl];rfl
   repeat refine Qa ?_;simp only[go_sem,seval,t0,t1,t5,hlt,Qh]
   exact Qb Qzb (.keep (.v _)) ⟨by rw[he2],rfl⟩
 ·rw[hI]
  exact⟨0,n,by omega,Qzy _,hn1,Int.le_refl _,by rw[QyA],rfl,rfl,rfl,rfl⟩
theorem QcP(l:List G)(n:Int)(ho:∀g∈l,g.ok)(hb:l.length<=9223372036854775807)(hn1 : -1<=n)(hn2:n<=1000000):Pure Tryz.prog 15 [.sl 3 (vs G.goal l) none,.i n] (.b (decide (X5 l n<0))):=by
 intro h
 refine Qc Tryz.func15 rfl Tryz.call15 Tryz.ntmps15 Tryz.results15 (by simp) ?_
 repeat refine Qa ?_;simp only[go_sem,seval]
 obtain⟨I,hI⟩:∃I:Nat->AS->Prop,I=fun m' s=>∃(j:Nat) (a:Int),m'=l.length - j/\j<=l.length /\ -1<=a/\a<=n/\X5 l n=X5 (l.drop j) a/\s.tm 0 = .sl 3 (vs G.goal l) none/\s.tm 1 = .i a/\s.tm 5 = .i j/\s.h=h:=⟨_,rfl⟩;refine Qv I ?_ (m:=l.length) ?_
 ·intro m' s hs;rw[hI]at hs;obtain⟨tm,hp⟩:=s;dsimp only at hs;obtain⟨j,a,rfl,hj,ha1,ha2,he,t0,t1,t5,rfl⟩:=hs
  by_cases hlt:j<l.length
  ·rw[Qzq hlt]at he
   by_cases ha:a>=0
   ·obtain⟨_,o3,o4⟩:=ho _ (QzF hlt)
    simp only[X5,Qzf (show ¬a<0 by omega)]at he
    have hq:((l[j].name.size:Int)).tdiv 8=((l[j].name.size / 8:Nat):Int):=by
     rw[Int.tdiv_eq_ediv_of_nonneg (by omega)];omega
    have hw1:IntKind.i64.wrap (a - 1)=a - 1:=Xk (by omega)
    have hw2:IntKind.i64.wrap (((l[j].name.size / 8:Nat):Int))=((l[j].name.size / 8:Nat):Int):=Xk (by omega)
    have hw3:IntKind.i64.wrap (a - 1 - ((l[j].name.size / 8:Nat):Int))=a - 1 - ((l[j].name.size / 8:Nat):Int):=Xk (by omega)
    have hr:=Qfp 64 (by omega) l[j].args (a - 1 - ((l[j].name.size / 8:Nat):Int)) o4 (by omega) (by omega)
    have hrb:=QaO 64 l[j].args (a - 1 - ((l[j].name.size / 8:Nat):Int))
    have hsl:=fun s=>ZB Tryz.prog 9 3 (by kernel_rfl) s
    have h64:((64:Nat):Int)=64:=rfl
    rw[h64]at hr
    repeat first|(first|refine Qq hr ?_|refine Q1 (id:=4) [(0,0),(1,0),(2,0),(3,0),(4,0),(5,0),(6,0),(7,0),(8,0),(9,0),(10,0),(11,0),(12,0),(13,0),(14,0),(15,1),(16,0)] mixed (by kernel_rfl) fun K hK=>?_|refine Qa ?_);simp only[go_sem,seval,t0,t1,t5,hlt,ha,Qh,Z2 G.goal hlt,G.goal,↓hsl,↓Qad,↓hq,hw1,hw2,hw3]|refine hK _ ?_;clear hK
    refine QZ.mk (m':=l.length - (j+1)) (by omega) ?_
    rw[hI]
    refine⟨j+1,_,rfl,hlt,?_,?_,he,t0,rfl,?_,rfl⟩
    ·exact hrb.1
    ·omega
    ·simp only[upd,↓reduceIte]
     rw[QY (by omega)]
   ·have he2:X5 l n=a:=by rw[he,QhV (by omega)]
    repeat refine Qa ?_;simp only[go_sem,seval,t0,t1,t5,hlt,ha,Qh]
    exact Qb Qzb (.keep (.v _)) ⟨by rw[he2],rfl⟩
  ·have hjl:l.drop j=[]:=QAt (by omega)
   have he2:X5 l n=a:=by rw[he,hjl];rfl
   repeat refine Qa ?_;simp only[go_sem,seval,t0,t1,t5,hlt,Qh]
   exact Qb Qzb (.keep (.v _)) ⟨by rw[he2],rfl⟩
 ·rw[hI]
  exact⟨0,n,by omega,Qzy _,hn1,Int.le_refl _,by rw[QyA],rfl,rfl,rfl,rfl⟩
def Rl.ok(r:Rl):Prop:=r.name.size<=9223372036854775807/\r.keep.length<=9223372036854775807/\r.remove.length<=9223372036854775807/\r.guard.length<=9223372036854775807/\r.body.length<=9223372036854775807 /\
 (∀g∈r.keep,g.ok)/\(∀g∈r.remove,g.ok)/\(∀g∈r.guard,g.ok)/\(∀g∈r.body,g.ok)
def QaB(r:Rl):Bool:=decide (300<r.name.size / 8+r.keep.length+r.remove.length)||(decide (X5 r.keep 300<0)||(decide (X5 r.remove 300<0)||(decide (X5 r.guard 300<0)||decide (X5 r.body 300<0))))
theorem Qdy:∀(l:List G) (n:Int),0<=X5 l n->(l.length:Int)<=n
 |[],n,h=>by simpa [X5]using h
 |g::l,n,h=>by
  simp only[X5]at h
  split at h
  ·omega
  ·have h1:=Qdy l _ h
   have h2:=(QaO 64 g.args (n - 1 - (g.name.size / 8:Nat))).2
   simp only[Qyw]
   omega
theorem Qqf{r:Rl}(o1:r.name.size<=9223372036854775807)(o2:r.keep.length<=9223372036854775807)(o3:r.remove.length<=9223372036854775807) :
  (IntKind.i64.wrap (IntKind.i64.wrap (((r.name.size / 8:Nat):Int)+r.keep.length)+r.remove.length)>300->QaB r=true) /\
  (¬IntKind.i64.wrap (IntKind.i64.wrap (((r.name.size / 8:Nat):Int)+r.keep.length)+r.remove.length)>300->QaB r=(decide (X5 r.keep 300<0)||(decide (X5 r.remove 300<0)||(decide (X5 r.guard 300<0)||decide (X5 r.body 300<0))))):=by
 by_cases hn:300<r.name.size / 8+r.keep.length+r.remove.length
 ·have R:QaB r=true:=by rw[QaB,QzA hn];rfl
  refine⟨fun _=>R,fun hz=>?_⟩
  have hbig:300<r.keep.length\/300<r.remove.length:=by
   apply Classical.byContradiction
   intro hc
   rw[Xk (n:=((r.name.size / 8:Nat):Int)+r.keep.length) (by omega),Xk (by omega)]at hz
   omega
  rw[R]
  rcases hbig with hb|hb
  ·have:X5 r.keep 300<0:=by
    apply Classical.byContradiction
    intro hc
    have:=Qdy r.keep 300 (by omega)
    omega
   rw[QzA this];rfl
  ·have:X5 r.remove 300<0:=by
    apply Classical.byContradiction
    intro hc
    have:=Qdy r.remove 300 (by omega)
    omega
   rw[QzA this];simp
 ·rw[Xk (n:=((r.name.size / 8:Nat):Int)+r.keep.length) (by omega),Xk (by omega)]
  exact⟨fun hz=>by omega,fun _=>by rw[QaB,Qzt hn,QAM]⟩
theorem Qg6(l:List Rl)(hl:l.length<=45)(ho:∀r∈l,r.ok):Pure Tryz.prog 30 [.sl 6 (vs Rl.av l) none,.i 300] (.b (l.any QaB)):=by
 intro h
 have w0:¬(l.length:Int)>300:=by omega
 have hsl:=fun s=>ZB Tryz.prog 9 3 QsZ s
 refine Qc Tryz.func30 rfl Tryz.call30 Tryz.ntmps30 Tryz.results30 (by simp) ?_
 with_reducible repeat first|refine Qd fun K E hK hE=>?_;simp only[Qr,Qi,Qn,OpW,aop,AS.ev,Ql,Xc,Q5,Nat.reduceLT]|refine QN fun K hK=>?_|refine QA ?_|refine hK _ ?_;clear hK
 obtain⟨I,hI⟩:∃I:Nat->AS->Prop,I=fun m' s=>∃(k:Nat),m'=l.length - k/\k<=l.length/\l.any QaB=(l.drop k).any QaB/\s.tm 0 = .sl 6 (vs Rl.av l) none/\s.tm 1 = .i 300/\s.tm 5 = .i k/\(∃L,s.h=h++L):=⟨_,rfl⟩;refine Qv I ?_ (m:=l.length) ?_
 ·intro m' s hs;rw[hI]at hs;obtain⟨tm,hp⟩:=s;dsimp only at hs;obtain⟨k,rfl,hk,he,t0,t1,t5,L,rfl⟩:=hs
  by_cases hlt:k<l.length
  ·have hg:=Z2 Rl.av hlt
   have z1:(k:Int)<l.length:=by omega
   rw[Qzq hlt,List.any_cons]at he
   obtain⟨r,er⟩:∃r,r=l[k]:=⟨_,rfl⟩
   obtain⟨o1,o2,o3,o4,o5,p1,p2,p3,p4⟩:=ho l[k] (QzF hlt)
   rw[<-er]at hg he o1 o2 o3 o4 o5 p1 p2 p3 p4
   have c1:=QcO r.keep 300 p1 (by omega) (by omega) (by omega)
   have c2:=QcO r.remove 300 p2 (by omega) (by omega) (by omega)
   have c3:=QcP r.guard 300 p3 (by omega) (by omega) (by omega)
   have c4:=QcP r.body 300 p4 (by omega) (by omega) (by omega)
   have hq:((r.name.size:Int)).tdiv 8=((r.name.size / 8:Nat):Int):=by rw[Int.tdiv_eq_ediv_of_nonneg (by omega)];omega
   have hw2:IntKind.i64.wrap (((r.name.size / 8:Nat):Int))=((r.name.size / 8:Nat):Int):=Xk (by omega)
   obtain⟨key1,key2⟩:=Qqf o1 o2 o3
   obtain⟨a3,hw3⟩:∃a,IntKind.i64.wrap (((r.name.size / 8:Nat):Int)+r.keep.length)=a:=⟨_,rfl⟩
   rw[hw3]at key1 key2
   obtain⟨a4,hw4⟩:∃a,IntKind.i64.wrap (a3+r.remove.length)=a:=⟨_,rfl⟩
   rw[hw4]at key1 key2
   iterate 11 (try (first|(((with_reducible refine Qd fun K E hK hE=>?_));simp only[Qr,Qi,Qn,OpW,aop,undef,AS.ev,Ql,XZ,Qz,AV.Qxu,QD,QK,QyD,QyE,QU,QX,Xh,Xb,QyF,↓reduceIte,Qyw,Qyx,Nat.reduceAdd,Nat.reduceLT,Nat.reduceEqDiff,Qyv,QyR,Xt,Xv,Zt,XS,QM,aBin,aLen,XP,hget,Qaa,hset,hlen,happ,Qyj,QyN,Qyl,Qbq,goInt,QyP,QyW,QyV,ti25,zi25,ei27,un27,t0,t5,z1,hg,Qh,Rl.cells,Rl.isAgg])|(with_reducible (first|refine QN fun K hK=>?_|refine QA ?_|refine Xu ?_|refine Qk ?_))|((with_reducible refine hK _ ?_);clear hK)|(refine Qw rfl ?_;simp only[↓reduceIte])))
   refine Qeg (fun s=>s.tm 60 = .b (QaB r)/\s.tm 0 = .sl 6 (vs Rl.av l) none/\s.tm 1 = .i 300/\s.tm 5 = .i k/\(∃L,s.h=h++L)) ?_ ?_
   ·rintro⟨tm,hp⟩ ⟨t60,t0,t1,t5,L,hh⟩
    dsimp only at t60 t0 t1 t5 hh
    subst hh
    cases hgr:QaB r with
    |true =>
     rw[hgr]at t60 he
     refine Qw (by exact t60) ?_
     simp only[↓reduceIte]
     with_reducible repeat first|refine Qd fun K E hK hE=>?_;simp only[Qr,Qi,Qn,OpW,aop,AS.ev,Ql,Q5,Nat.reduceLT]|refine YH ?_|refine Qd5 ?_|refine QfJ ?_|refine hK _ ?_;clear hK
     simp only[Zr,Xf,YE,upd,↓reduceIte,Qyp,Qyt];first|refine Qb (htake _ _) (.keep (.v _)) ⟨by rw[he];rfl,rfl⟩|refine Qb Qzb (.keep (.v _)) ⟨by rw[he];rfl,rfl⟩
    |false =>
     rw[hgr]at t60 he
     refine Qw (by exact t60) ?_
     simp only[Qyn,↓reduceIte]
     with_reducible repeat first|refine Qs fun K E hK hE=>?_;simp only[Qr,Qi,Qn,OpW,aop,AS.ev,Ql,Xc,Qz,↓reduceIte,Nat.reduceLT,aBin,Qyl,Zf,t5]|refine Xu ?_|refine Qk ?_|refine QI ?_|refine hK _ ?_;clear hK
     refine QZ.mk (m':=l.length - (k+1)) (by omega) ?_
     rw[hI]
     refine⟨k+1,rfl,hlt,by rw[he];rfl,t0,t1,?_,_,rfl⟩
     simp only[upd,↓reduceIte]
     rw[QY (by omega)]
   ·by_cases d0':a4>300
    ·have R:QaB r=true:=key1 d0'
     (with_reducible refine Qs fun K E hK hE=>?_)
     (try simp only[QyU]);refine Qy 5 (fun K1 hK1=>?_);simp only[Qr,Qi,Qn,OpW,aop,AS.ev,Ql,Qz,↓reduceIte,Nat.reduceLT,Nat.reduceEqDiff,aBin,aLen,Qyl,Qyu,QyB,QaC,goInt,QyQ,un27,t0,t1,w0,Qh];refine hK1 _ ?_;clear hK1
     (try simp only[Qys,QyA]);refine Qy 8 (fun K1 hK1=>?_);simp only[Qr,Qi,Qn,OpW,aop,AS.ev,Ql,Xc,Qz,↓reduceIte,Nat.reduceLT,Nat.reduceEqDiff,Qyv,QyI,Qm,Xt,Xv,aBin,aLen,XP,hget,Qyj,Qyk,Qyl,Qyo,Qym,Qyu,QyB,Zf,goInt,Qyr,ti9,ti22,un22,QbZ,QaH,Qh,Rl.cells,hsl,Qad,hq,hw2,hw3];refine hK1 _ ?_;clear hK1
     (try simp only[Qys,QyA]);refine Qy 8 (fun K1 hK1=>?_);simp only[Qr,Qi,Qn,OpW,aop,AS.ev,Ql,Qz,↓reduceIte,Nat.reduceLT,Nat.reduceEqDiff,Qyv,Qm,Xt,Xv,aBin,aLen,XP,hget,Qyj,Qyk,Qyl,Qyo,Qym,Qyu,QyB,QaC,Zf,goInt,QyP,Qyr,Qyn,ti22,un22,QaY,t1,Qh,Rl.cells,hw4,d0'];refine hK1 _ ?_;clear hK1
     (try simp only[Qys,QyA]);refine Qy 6 (fun K1 hK1=>?_);simp only[Qr,Qi,Qn,OpW,aop,undef,AS.ev,Ql,Q5,Qz,QyG,↓reduceIte,Nat.reduceLT,Nat.reduceEqDiff,Qyj,Qyk,Qyo,Qym,Qyu,QyB,beq_false];(repeat ((((with_reducible refine Qd fun K E hK hE=>?_));simp only[Qr,Qi,Qn,OpW,Yx,aop,undef,Qa2,QyZ,Qy0,QcA,Z5,Qa9,AS.ev,Ql,XZ,Xc,Q5,Ye,YN,Qac,XV,Yd,XA,Qba,Qz,Xm,Qyq,QyJ,AV.Qxu,QD,Zk,YB,Y7,Xe,Y5,Zn,Z4,Y6,QK,Zz,YD,Zd,YM,Zb,Zo,Z7,Zc,QyD,QyE,QU,Yv,QX,Xh,YZ,XH,XG,Xp,Xb,Y0,Xd,YX,Zm,Z3,YY,QyF,Qy2,Qy3,QyG,QyH,↓reduceIte,Qyw,Qyx,Nat.reduceAdd,Nat.reduceLT,Nat.reduceLeDiff,Nat.reduceEqDiff,Nat.reduceSub,Nat.reduceMul,Qyv,QyI,QyS,QyT,QyR,XJ,XY,Qm,Xt,Xv,Zt,XS,QM,aBin,aLen,XP,hget,Qaa,hset,hlen,happ,Qyj,Qyk,Qy9,QyN,QyO,Qyl,QyY,Qyo,QyX,Qyp,QyU,Qym,Qyy,QyC,QyL,QyK,QyM,Qyu,QyB,Qys,QyA,Qbq,QaC,Zf,Qc0,Qd0,goInt,QyP,QyQ,Qyr,Qy4,QyW,Int.toNat_zero,Int.toNat_one,QyV,Qy7,Qy8,Qy5,Qyn,Qy1,beq_true,beq_false,rng0,rng1,rng2,rng3,rng4,rng5,rng6,rng7,rng8,Ym,Nat.reducePow,Qzy,QAs,T.Qxs,T.Qxt,Yj,Xx,ti0,zi0,ti3,zi3,un3,ti4,zi4,un4,ti9,ei9,zi9,un9,ti22,ei22,ai22,zi22,un22,ti23,ei23,ai23,zi23,un23,ti25,QbZ,QaH,QaY,QdG,Qel,QgS,zi25,sp25,ti27,ei27,ai27,zi27,un27,ti53,QdH,Qem,QdI,zi53,sp53,ti66,QgT,QgU,zi66,sp66,Qy6,Int.sub_zero,QdR,QR,t0,t1,t5,w0,Qh,Rl.cells,Rl.isAgg,hsl,Qad,hq,hw2,hw3,hw4,d0'])));refine hK1 _ ?_;clear hK1
     (try simp only[Qys,QyA]);refine Qy 6 (fun K1 hK1=>?_);simp only[Qr,Qi,Qn,OpW,aop,undef,AS.ev,Ql,Q5,Qz,QyG,↓reduceIte,Nat.reduceLT,Nat.reduceEqDiff,Qyj,Qyk,Qyo,Qym,Qyu,QyB,beq_false];(repeat ((((with_reducible refine Qd fun K E hK hE=>?_));simp only[Qr,Qi,Qn,OpW,Yx,aop,undef,Qa2,QyZ,Qy0,QcA,Z5,Qa9,AS.ev,Ql,XZ,Xc,Q5,Ye,YN,Qac,XV,Yd,XA,Qba,Qz,Xm,Qyq,QyJ,AV.Qxu,QD,Zk,YB,Y7,Xe,Y5,Zn,Z4,Y6,QK,Zz,YD,Zd,YM,Zb,Zo,Z7,Zc,QyD,QyE,QU,Yv,QX,Xh,YZ,XH,XG,Xp,Xb,Y0,Xd,YX,Zm,Z3,YY,QyF,Qy2,Qy3,QyG,QyH,↓reduceIte,Qyw,Qyx,Nat.reduceAdd,Nat.reduceLT,Nat.reduceLeDiff,Nat.reduceEqDiff,Nat.reduceSub,Nat.reduceMul,Qyv,QyI,QyS,QyT,QyR,XJ,XY,Qm,Xt,Xv,Zt,XS,QM,aBin,aLen,XP,hget,Qaa,hset,hlen,happ,Qyj,Qyk,Qy9,QyN,QyO,Qyl,QyY,Qyo,QyX,Qyp,QyU,Qym,Qyy,QyC,QyL,QyK,QyM,Qyu,QyB,Qys,QyA,Qbq,QaC,Zf,Qc0,Qd0,goInt,QyP,QyQ,Qyr,Qy4,QyW,Int.toNat_zero,Int.toNat_one,QyV,Qy7,Qy8,Qy5,Qyn,Qy1,beq_true,beq_false,rng0,rng1,rng2,rng3,rng4,rng5,rng6,rng7,rng8,Ym,Nat.reducePow,Qzy,QAs,T.Qxs,T.Qxt,Yj,Xx,ti0,zi0,ti3,zi3,un3,ti4,zi4,un4,ti9,ei9,zi9,un9,ti22,ei22,ai22,zi22,un22,ti23,ei23,ai23,zi23,un23,ti25,QbZ,QaH,QaY,QdG,Qel,QgS,zi25,sp25,ti27,ei27,ai27,zi27,un27,ti53,QdH,Qem,QdI,zi53,sp53,ti66,QgT,QgU,zi66,sp66,Qy6,Int.sub_zero,QdR,QR,t0,t1,t5,w0,Qh,Rl.cells,Rl.isAgg,hsl,Qad,hq,hw2,hw3,hw4,d0'])));refine hK1 _ ?_;clear hK1
     (try simp only[Qys,QyA]);refine Qy 6 (fun K1 hK1=>?_);simp only[Qr,Qi,Qn,OpW,aop,undef,AS.ev,Ql,Q5,Qz,QyG,↓reduceIte,Nat.reduceLT,Nat.reduceEqDiff,Qyj,Qyk,Qyo,Qym,Qyu,QyB,beq_false];(repeat ((((with_reducible refine Qd fun K E hK hE=>?_));simp only[Qr,Qi,Qn,OpW,Yx,aop,undef,Qa2,QyZ,Qy0,QcA,Z5,Qa9,AS.ev,Ql,XZ,Xc,Q5,Ye,YN,Qac,XV,Yd,XA,Qba,Qz,Xm,Qyq,QyJ,AV.Qxu,QD,Zk,YB,Y7,Xe,Y5,Zn,Z4,Y6,QK,Zz,YD,Zd,YM,Zb,Zo,Z7,Zc,QyD,QyE,QU,Yv,QX,Xh,YZ,XH,XG,Xp,Xb,Y0,Xd,YX,Zm,Z3,YY,QyF,Qy2,Qy3,QyG,QyH,↓reduceIte,Qyw,Qyx,Nat.reduceAdd,Nat.reduceLT,Nat.reduceLeDiff,Nat.reduceEqDiff,Nat.reduceSub,Nat.reduceMul,Qyv,QyI,QyS,QyT,QyR,XJ,XY,Qm,Xt,Xv,Zt,XS,QM,aBin,aLen,XP,hget,Qaa,hset,hlen,happ,Qyj,Qyk,Qy9,QyN,QyO,Qyl,QyY,Qyo,QyX,Qyp,QyU,Qym,Qyy,QyC,QyL,QyK,QyM,Qyu,QyB,Qys,QyA,Qbq,QaC,Zf,Qc0,Qd0,goInt,QyP,QyQ,Qyr,Qy4,QyW,Int.toNat_zero,Int.toNat_one,QyV,Qy7,Qy8,Qy5,Qyn,Qy1,beq_true,beq_false,rng0,rng1,rng2,rng3,rng4,rng5,rng6,rng7,rng8,Ym,Nat.reducePow,Qzy,QAs,T.Qxs,T.Qxt,Yj,Xx,ti0,zi0,ti3,zi3,un3,ti4,zi4,un4,ti9,ei9,zi9,un9,ti22,ei22,ai22,zi22,un22,ti23,ei23,ai23,zi23,un23,ti25,QbZ,QaH,QaY,QdG,Qel,QgS,zi25,sp25,ti27,ei27,ai27,zi27,un27,ti53,QdH,Qem,QdI,zi53,sp53,ti66,QgT,QgU,zi66,sp66,Qy6,Int.sub_zero,QdR,QR,t0,t1,t5,w0,Qh,Rl.cells,Rl.isAgg,hsl,Qad,hq,hw2,hw3,hw4,d0'])));refine hK1 _ ?_;clear hK1
     (try simp only[Qys,QyA])
     simp only[Qr,Qi,Qn,OpW,aop,undef,AS.ev,Ql,Q5,Qz,QyG,↓reduceIte,Nat.reduceLT,Nat.reduceEqDiff,Qyj,Qyk,Qyo,Qym,beq_false]
     with_reducible repeat first|refine Qk ?_|refine hK _ ?_;clear hK
     rw[R]
     exact⟨rfl,t0,t1,t5,_,rfl⟩
    obtain⟨b1,w1⟩:∃b,b=decide (X5 r.keep 300<0):=⟨_,rfl⟩
    rw[<-w1]at c1
    cases b1
    rotate_left
    ·have R:QaB r=true:=by rw[key2 d0',<-w1];rfl
     (with_reducible refine Qs fun K E hK hE=>?_)
     (try simp only[QyU]);refine Qy 5 (fun K1 hK1=>?_);simp only[Qr,Qi,Qn,OpW,aop,AS.ev,Ql,Qz,↓reduceIte,Nat.reduceLT,Nat.reduceEqDiff,aBin,aLen,Qyl,Qyu,QyB,QaC,goInt,QyQ,un27,t0,t1,w0,Qh];refine hK1 _ ?_;clear hK1
     (try simp only[Qys,QyA]);refine Qy 8 (fun K1 hK1=>?_);simp only[Qr,Qi,Qn,OpW,aop,AS.ev,Ql,Xc,Qz,↓reduceIte,Nat.reduceLT,Nat.reduceEqDiff,Qyv,QyI,Qm,Xt,Xv,aBin,aLen,XP,hget,Qyj,Qyk,Qyl,Qyo,Qym,Qyu,QyB,Zf,goInt,Qyr,ti9,ti22,un22,QbZ,QaH,Qh,Rl.cells,hsl,Qad,hq,hw2,hw3];refine hK1 _ ?_;clear hK1
     (try simp only[Qys,QyA]);refine Qy 8 (fun K1 hK1=>?_);simp only[Qr,Qi,Qn,OpW,aop,AS.ev,Ql,Qz,↓reduceIte,Nat.reduceLT,Nat.reduceEqDiff,Qyv,Qm,Xt,Xv,aBin,aLen,XP,hget,Qyj,Qyk,Qyl,Qyo,Qym,Qyu,QyB,QaC,Zf,goInt,QyQ,Qyr,Qyn,ti22,un22,QaY,t1,Qh,Rl.cells,hw4,d0'];refine hK1 _ ?_;clear hK1
     (try simp only[Qys,QyA]);refine Qy 6 (fun K1 hK1=>?_);simp only[Qi,Qn,OpW,aop,AS.ev,Ql,Qz,↓reduceIte,Nat.reduceLT,Nat.reduceEqDiff,Qyv,Qm,Xt,Xv,XP,hget,Qyj,Qyk,Qyl,Qyo,Qym,Qyy,QyC,Qyu,QyB,Qyr,ti22,QaH,t1,Rl.cells];(repeat ((((with_reducible refine Qe c1 ?_));simp only[Qr,Qi,Qn,OpW,Yx,aop,AS.ev,Ql,Qz,↓reduceIte,Nat.reduceLT,Nat.reduceEqDiff,Qyn])));refine hK1 _ ?_;clear hK1
     (try simp only[Qys,QyA]);refine Qy 6 (fun K1 hK1=>?_);simp only[Qr,Qi,Qn,OpW,aop,undef,AS.ev,Ql,Q5,Qz,QyG,↓reduceIte,Nat.reduceLT,Nat.reduceEqDiff,Qyj,Qyk,Qyo,Qym,Qyu,QyB,beq_false];(repeat ((((with_reducible refine Qd fun K E hK hE=>?_));simp only[Qr,Qi,Qn,OpW,Yx,aop,undef,Qa2,QyZ,Qy0,QcA,Z5,Qa9,AS.ev,Ql,XZ,Xc,Q5,Ye,YN,Qac,XV,Yd,XA,Qba,Qz,Xm,Qyq,QyJ,AV.Qxu,QD,Zk,YB,Y7,Xe,Y5,Zn,Z4,Y6,QK,Zz,YD,Zd,YM,Zb,Zo,Z7,Zc,QyD,QyE,QU,Yv,QX,Xh,YZ,XH,XG,Xp,Xb,Y0,Xd,YX,Zm,Z3,YY,QyF,Qy2,Qy3,QyG,QyH,↓reduceIte,Qyw,Qyx,Nat.reduceAdd,Nat.reduceLT,Nat.reduceLeDiff,Nat.reduceEqDiff,Nat.reduceSub,Nat.reduceMul,Qyv,QyI,QyS,QyT,QyR,XJ,XY,Qm,Xt,Xv,Zt,XS,QM,aBin,aLen,XP,hget,Qaa,hset,hlen,happ,Qyj,Qyk,Qy9,QyN,QyO,Qyl,QyY,Qyo,QyX,Qyp,QyU,Qym,Qyy,QyC,QyL,QyK,QyM,Qyu,QyB,Qys,QyA,Qbq,QaC,Zf,Qc0,Qd0,goInt,QyP,QyQ,Qyr,Qy4,QyW,Int.toNat_zero,Int.toNat_one,QyV,Qy7,Qy8,Qy5,Qyn,Qy1,beq_true,beq_false,rng0,rng1,rng2,rng3,rng4,rng5,rng6,rng7,rng8,Ym,Nat.reducePow,Qzy,QAs,T.Qxs,T.Qxt,Yj,Xx,ti0,zi0,ti3,zi3,un3,ti4,zi4,un4,ti9,ei9,zi9,un9,ti22,ei22,ai22,zi22,un22,ti23,ei23,ai23,zi23,un23,ti25,QbZ,QaH,QaY,QdG,Qel,QgS,zi25,sp25,ti27,ei27,ai27,zi27,un27,ti53,QdH,Qem,QdI,zi53,sp53,ti66,QgT,QgU,zi66,sp66,Qy6,Int.sub_zero,QdR,QR,t0,t1,t5,w0,Qh,Rl.cells,Rl.isAgg,hsl,Qad,hq,hw2,hw3,hw4,d0'])));refine hK1 _ ?_;clear hK1
     (try simp only[Qys,QyA]);refine Qy 6 (fun K1 hK1=>?_);simp only[Qr,Qi,Qn,OpW,aop,undef,AS.ev,Ql,Q5,Qz,QyG,↓reduceIte,Nat.reduceLT,Nat.reduceEqDiff,Qyj,Qyk,Qyo,Qym,Qyu,QyB,beq_false];(repeat ((((with_reducible refine Qd fun K E hK hE=>?_));simp only[Qr,Qi,Qn,OpW,Yx,aop,undef,Qa2,QyZ,Qy0,QcA,Z5,Qa9,AS.ev,Ql,XZ,Xc,Q5,Ye,YN,Qac,XV,Yd,XA,Qba,Qz,Xm,Qyq,QyJ,AV.Qxu,QD,Zk,YB,Y7,Xe,Y5,Zn,Z4,Y6,QK,Zz,YD,Zd,YM,Zb,Zo,Z7,Zc,QyD,QyE,QU,Yv,QX,Xh,YZ,XH,XG,Xp,Xb,Y0,Xd,YX,Zm,Z3,YY,QyF,Qy2,Qy3,QyG,QyH,↓reduceIte,Qyw,Qyx,Nat.reduceAdd,Nat.reduceLT,Nat.reduceLeDiff,Nat.reduceEqDiff,Nat.reduceSub,Nat.reduceMul,Qyv,QyI,QyS,QyT,QyR,XJ,XY,Qm,Xt,Xv,Zt,XS,QM,aBin,aLen,XP,hget,Qaa,hset,hlen,happ,Qyj,Qyk,Qy9,QyN,QyO,Qyl,QyY,Qyo,QyX,Qyp,QyU,Qym,Qyy,QyC,QyL,QyK,QyM,Qyu,QyB,Qys,QyA,Qbq,QaC,Zf,Qc0,Qd0,goInt,QyP,QyQ,Qyr,Qy4,QyW,Int.toNat_zero,Int.toNat_one,QyV,Qy7,Qy8,Qy5,Qyn,Qy1,beq_true,beq_false,rng0,rng1,rng2,rng3,rng4,rng5,rng6,rng7,rng8,Ym,Nat.reducePow,Qzy,QAs,T.Qxs,T.Qxt,Yj,Xx,ti0,zi0,ti3,zi3,un3,ti4,zi4,un4,ti9,ei9,zi9,un9,ti22,ei22,ai22,zi22,un22,ti23,ei23,ai23,zi23,un23,ti25,QbZ,QaH,QaY,QdG,Qel,QgS,zi25,sp25,ti27,ei27,ai27,zi27,un27,ti53,QdH,Qem,QdI,zi53,sp53,ti66,QgT,QgU,zi66,sp66,Qy6,Int.sub_zero,QdR,QR,t0,t1,t5,w0,Qh,Rl.cells,Rl.isAgg,hsl,Qad,hq,hw2,hw3,hw4,d0'])));refine hK1 _ ?_;clear hK1
     (try simp only[Qys,QyA])
     simp only[Qr,Qi,Qn,OpW,aop,undef,AS.ev,Ql,Q5,Qz,QyG,↓reduceIte,Nat.reduceLT,Nat.reduceEqDiff,Qyj,Qyk,Qyo,Qym,beq_false]
     with_reducible repeat first|refine Qk ?_|refine hK _ ?_;clear hK
     rw[R]
     exact⟨rfl,t0,t1,t5,_,rfl⟩
    obtain⟨b2,w2⟩:∃b,b=decide (X5 r.remove 300<0):=⟨_,rfl⟩
    rw[<-w2]at c2
    cases b2
    rotate_left
    ·have R:QaB r=true:=by rw[key2 d0',<-w1,<-w2];rfl
     (with_reducible refine Qs fun K E hK hE=>?_)
     (try simp only[QyU]);refine Qy 5 (fun K1 hK1=>?_);simp only[Qr,Qi,Qn,OpW,aop,AS.ev,Ql,Qz,↓reduceIte,Nat.reduceLT,Nat.reduceEqDiff,aBin,aLen,Qyl,Qyu,QyB,QaC,goInt,QyQ,un27,t0,t1,w0,Qh];refine hK1 _ ?_;clear hK1
     (try simp only[Qys,QyA]);refine Qy 8 (fun K1 hK1=>?_);simp only[Qr,Qi,Qn,OpW,aop,AS.ev,Ql,Xc,Qz,↓reduceIte,Nat.reduceLT,Nat.reduceEqDiff,Qyv,QyI,Qm,Xt,Xv,aBin,aLen,XP,hget,Qyj,Qyk,Qyl,Qyo,Qym,Qyu,QyB,Zf,goInt,Qyr,ti9,ti22,un22,QbZ,QaH,Qh,Rl.cells,hsl,Qad,hq,hw2,hw3];refine hK1 _ ?_;clear hK1
     (try simp only[Qys,QyA]);refine Qy 8 (fun K1 hK1=>?_);simp only[Qr,Qi,Qn,OpW,aop,AS.ev,Ql,Qz,↓reduceIte,Nat.reduceLT,Nat.reduceEqDiff,Qyv,Qm,Xt,Xv,aBin,aLen,XP,hget,Qyj,Qyk,Qyl,Qyo,Qym,Qyu,QyB,QaC,Zf,goInt,QyQ,Qyr,Qyn,ti22,un22,QaY,t1,Qh,Rl.cells,hw4,d0'];refine hK1 _ ?_;clear hK1
     (try simp only[Qys,QyA]);refine Qy 6 (fun K1 hK1=>?_);simp only[Qi,Qn,OpW,aop,AS.ev,Ql,Qz,↓reduceIte,Nat.reduceLT,Nat.reduceEqDiff,Qyv,Qm,Xt,Xv,XP,hget,Qyj,Qyk,Qyl,Qyo,Qym,Qyy,QyC,Qyu,QyB,Qyr,ti22,QaH,t1,Rl.cells];(repeat ((((with_reducible refine Qe c1 ?_));simp only[Qr,Qi,Qn,OpW,Yx,aop,AS.ev,Ql,Qz,↓reduceIte,Nat.reduceLT,Nat.reduceEqDiff,Qyn])));refine hK1 _ ?_;clear hK1
     (try simp only[Qys,QyA]);refine Qy 6 (fun K1 hK1=>?_);simp only[Qi,Qn,OpW,aop,AS.ev,Ql,Qz,↓reduceIte,Nat.reduceLT,Nat.reduceEqDiff,Qyv,Qm,Xt,Xv,XP,hget,Qyj,Qyk,Qyl,Qyo,Qym,Qyy,QyC,Qyu,QyB,Qyr,ti22,QaY,t1,Rl.cells];(repeat ((((with_reducible refine Qe c2 ?_));simp only[Qr,Qi,Qn,OpW,Yx,aop,AS.ev,Ql,Qz,↓reduceIte,Nat.reduceLT,Nat.reduceEqDiff,Qyn])));refine hK1 _ ?_;clear hK1
     (try simp only[Qys,QyA]);refine Qy 6 (fun K1 hK1=>?_);simp only[Qr,Qi,Qn,OpW,aop,undef,AS.ev,Ql,Q5,Qz,QyG,↓reduceIte,Nat.reduceLT,Nat.reduceEqDiff,Qyj,Qyk,Qyo,Qym,Qyu,QyB,beq_false];(repeat ((((with_reducible refine Qd fun K E hK hE=>?_));simp only[Qr,Qi,Qn,OpW,Yx,aop,undef,Qa2,QyZ,Qy0,QcA,Z5,Qa9,AS.ev,Ql,XZ,Xc,Q5,Ye,YN,Qac,XV,Yd,XA,Qba,Qz,Xm,Qyq,QyJ,AV.Qxu,QD,Zk,YB,Y7,Xe,Y5,Zn,Z4,Y6,QK,Zz,YD,Zd,YM,Zb,Zo,Z7,Zc,QyD,QyE,QU,Yv,QX,Xh,YZ,XH,XG,Xp,Xb,Y0,Xd,YX,Zm,Z3,YY,QyF,Qy2,Qy3,QyG,QyH,↓reduceIte,Qyw,Qyx,Nat.reduceAdd,Nat.reduceLT,Nat.reduceLeDiff,Nat.reduceEqDiff,Nat.reduceSub,Nat.reduceMul,Qyv,QyI,QyS,QyT,QyR,XJ,XY,Qm,Xt,Xv,Zt,XS,QM,aBin,aLen,XP,hget,Qaa,hset,hlen,happ,Qyj,Qyk,Qy9,QyN,QyO,Qyl,QyY,Qyo,QyX,Qyp,QyU,Qym,Qyy,QyC,QyL,QyK,QyM,Qyu,QyB,Qys,QyA,Qbq,QaC,Zf,Qc0,Qd0,goInt,QyP,QyQ,Qyr,Qy4,QyW,Int.toNat_zero,Int.toNat_one,QyV,Qy7,Qy8,Qy5,Qyn,Qy1,beq_true,beq_false,rng0,rng1,rng2,rng3,rng4,rng5,rng6,rng7,rng8,Ym,Nat.reducePow,Qzy,QAs,T.Qxs,T.Qxt,Yj,Xx,ti0,zi0,ti3,zi3,un3,ti4,zi4,un4,ti9,ei9,zi9,un9,ti22,ei22,ai22,zi22,un22,ti23,ei23,ai23,zi23,un23,ti25,QbZ,QaH,QaY,QdG,Qel,QgS,zi25,sp25,ti27,ei27,ai27,zi27,un27,ti53,QdH,Qem,QdI,zi53,sp53,ti66,QgT,QgU,zi66,sp66,Qy6,Int.sub_zero,QdR,QR,t0,t1,t5,w0,Qh,Rl.cells,Rl.isAgg,hsl,Qad,hq,hw2,hw3,hw4,d0'])));refine hK1 _ ?_;clear hK1
     (try simp only[Qys,QyA])
     simp only[Qr,Qi,Qn,OpW,aop,undef,AS.ev,Ql,Q5,Qz,QyG,↓reduceIte,Nat.reduceLT,Nat.reduceEqDiff,Qyj,Qyk,Qyo,Qym,beq_false]
     with_reducible repeat first|refine Qk ?_|refine hK _ ?_;clear hK
     rw[R]
     exact⟨rfl,t0,t1,t5,_,rfl⟩
    obtain⟨b3,w3⟩:∃b,b=decide (X5 r.guard 300<0):=⟨_,rfl⟩
    rw[<-w3]at c3
    cases b3
    rotate_left
    ·have R:QaB r=true:=by rw[key2 d0',<-w1,<-w2,<-w3];rfl
     (with_reducible refine Qs fun K E hK hE=>?_)
     (try simp only[QyU]);refine Qy 5 (fun K1 hK1=>?_);simp only[Qr,Qi,Qn,OpW,aop,AS.ev,Ql,Qz,↓reduceIte,Nat.reduceLT,Nat.reduceEqDiff,aBin,aLen,Qyl,Qyu,QyB,QaC,goInt,QyQ,un27,t0,t1,w0,Qh];refine hK1 _ ?_;clear hK1
     (try simp only[Qys,QyA]);refine Qy 8 (fun K1 hK1=>?_);simp only[Qr,Qi,Qn,OpW,aop,AS.ev,Ql,Xc,Qz,↓reduceIte,Nat.reduceLT,Nat.reduceEqDiff,Qyv,QyI,Qm,Xt,Xv,aBin,aLen,XP,hget,Qyj,Qyk,Qyl,Qyo,Qym,Qyu,QyB,Zf,goInt,Qyr,ti9,ti22,un22,QbZ,QaH,Qh,Rl.cells,hsl,Qad,hq,hw2,hw3];refine hK1 _ ?_;clear hK1
     (try simp only[Qys,QyA]);refine Qy 8 (fun K1 hK1=>?_);simp only[Qr,Qi,Qn,OpW,aop,AS.ev,Ql,Qz,↓reduceIte,Nat.reduceLT,Nat.reduceEqDiff,Qyv,Qm,Xt,Xv,aBin,aLen,XP,hget,Qyj,Qyk,Qyl,Qyo,Qym,Qyu,QyB,QaC,Zf,goInt,QyQ,Qyr,Qyn,ti22,un22,QaY,t1,Qh,Rl.cells,hw4,d0'];refine hK1 _ ?_;clear hK1
     (try simp only[Qys,QyA]);refine Qy 6 (fun K1 hK1=>?_);simp only[Qi,Qn,OpW,aop,AS.ev,Ql,Qz,↓reduceIte,Nat.reduceLT,Nat.reduceEqDiff,Qyv,Qm,Xt,Xv,XP,hget,Qyj,Qyk,Qyl,Qyo,Qym,Qyy,QyC,Qyu,QyB,Qyr,ti22,QaH,t1,Rl.cells];(repeat ((((with_reducible refine Qe c1 ?_));simp only[Qr,Qi,Qn,OpW,Yx,aop,AS.ev,Ql,Qz,↓reduceIte,Nat.reduceLT,Nat.reduceEqDiff,Qyn])));refine hK1 _ ?_;clear hK1
     (try simp only[Qys,QyA]);refine Qy 6 (fun K1 hK1=>?_);simp only[Qi,Qn,OpW,aop,AS.ev,Ql,Qz,↓reduceIte,Nat.reduceLT,Nat.reduceEqDiff,Qyv,Qm,Xt,Xv,XP,hget,Qyj,Qyk,Qyl,Qyo,Qym,Qyy,QyC,Qyu,QyB,Qyr,ti22,QaY,t1,Rl.cells];(repeat ((((with_reducible refine Qe c2 ?_));simp only[Qr,Qi,Qn,OpW,Yx,aop,AS.ev,Ql,Qz,↓reduceIte,Nat.reduceLT,Nat.reduceEqDiff,Qyn])));refine hK1 _ ?_;clear hK1
     (try simp only[Qys,QyA]);refine Qy 6 (fun K1 hK1=>?_);simp only[Qi,Qn,OpW,aop,AS.ev,Ql,Qz,↓reduceIte,Nat.reduceLT,Nat.reduceEqDiff,Qyv,Qm,Xt,Xv,XP,hget,Qyj,Qyk,Qyl,Qyo,Qym,Qyy,QyC,Qyu,QyB,Qyr,ti23,QdG,t1,Rl.cells];(repeat ((((with_reducible refine Qe c3 ?_));simp only[Qr,Qi,Qn,OpW,Yx,aop,AS.ev,Ql,Qz,↓reduceIte,Nat.reduceLT,Nat.reduceEqDiff,Qyn])));refine hK1 _ ?_;clear hK1
     (try simp only[Qys,QyA])
     simp only[Qr,Qi,Qn,OpW,aop,undef,AS.ev,Ql,Q5,Qz,QyG,↓reduceIte,Nat.reduceLT,Nat.reduceEqDiff,Qyj,Qyk,Qyo,Qym,beq_false]
     with_reducible repeat first|refine Qk ?_|refine hK _ ?_;clear hK
     rw[R]
     exact⟨rfl,t0,t1,t5,_,rfl⟩
    obtain⟨b4,w4⟩:∃b,b=decide (X5 r.body 300<0):=⟨_,rfl⟩
    rw[<-w4]at c4
    cases b4
    rotate_left
    ·have R:QaB r=true:=by rw[key2 d0',<-w1,<-w2,<-w3,<-w4];rfl
     (with_reducible refine Qs fun K E hK hE=>?_)
     (try simp only[QyU]);refine Qy 5 (fun K1 hK1=>?_);simp only[Qr,Qi,Qn,OpW,aop,AS.ev,Ql,Qz,↓reduceIte,Nat.reduceLT,Nat.reduceEqDiff,aBin,aLen,Qyl,Qyu,QyB,QaC,goInt,QyQ,un27,t0,t1,w0,Qh];refine hK1 _ ?_;clear hK1
     (try simp only[Qys,QyA]);refine Qy 8 (fun K1 hK1=>?_);simp only[Qr,Qi,Qn,OpW,aop,AS.ev,Ql,Xc,Qz,↓reduceIte,Nat.reduceLT,Nat.reduceEqDiff,Qyv,QyI,Qm,Xt,Xv,aBin,aLen,XP,hget,Qyj,Qyk,Qyl,Qyo,Qym,Qyu,QyB,Zf,goInt,Qyr,ti9,ti22,un22,QbZ,QaH,Qh,Rl.cells,hsl,Qad,hq,hw2,hw3];refine hK1 _ ?_;clear hK1
     (try simp only[Qys,QyA]);refine Qy 8 (fun K1 hK1=>?_);simp only[Qr,Qi,Qn,OpW,aop,AS.ev,Ql,Qz,↓reduceIte,Nat.reduceLT,Nat.reduceEqDiff,Qyv,Qm,Xt,Xv,aBin,aLen,XP,hget,Qyj,Qyk,Qyl,Qyo,Qym,Qyu,QyB,QaC,Zf,goInt,QyQ,Qyr,Qyn,ti22,un22,QaY,t1,Qh,Rl.cells,hw4,d0'];refine hK1 _ ?_;clear hK1
     (try simp only[Qys,QyA]);refine Qy 6 (fun K1 hK1=>?_);simp only[Qi,Qn,OpW,aop,AS.ev,Ql,Qz,↓reduceIte,Nat.reduceLT,Nat.reduceEqDiff,Qyv,Qm,Xt,Xv,XP,hget,Qyj,Qyk,Qyl,Qyo,Qym,Qyy,QyC,Qyu,QyB,Qyr,ti22,QaH,t1,Rl.cells];(repeat ((((with_reducible refine Qe c1 ?_));simp only[Qr,Qi,Qn,OpW,Yx,aop,AS.ev,Ql,Qz,↓reduceIte,Nat.reduceLT,Nat.reduceEqDiff,Qyn])));refine hK1 _ ?_;clear hK1
     (try simp only[Qys,QyA]);refine Qy 6 (fun K1 hK1=>?_);simp only[Qi,Qn,OpW,aop,AS.ev,Ql,Qz,↓reduceIte,Nat.reduceLT,Nat.reduceEqDiff,Qyv,Qm,Xt,Xv,XP,hget,Qyj,Qyk,Qyl,Qyo,Qym,Qyy,QyC,Qyu,QyB,Qyr,ti22,QaY,t1,Rl.cells];(repeat ((((with_reducible refine Qe c2 ?_));simp only[Qr,Qi,Qn,OpW,Yx,aop,AS.ev,Ql,Qz,↓reduceIte,Nat.reduceLT,Nat.reduceEqDiff,Qyn])));refine hK1 _ ?_;clear hK1
     (try simp only[Qys,QyA]);refine Qy 6 (fun K1 hK1=>?_);simp only[Qi,Qn,OpW,aop,AS.ev,Ql,Qz,↓reduceIte,Nat.reduceLT,Nat.reduceEqDiff,Qyv,Qm,Xt,Xv,XP,hget,Qyj,Qyk,Qyl,Qyo,Qym,Qyy,QyC,Qyu,QyB,Qyr,ti23,QdG,t1,Rl.cells];(repeat ((((with_reducible refine Qe c3 ?_));simp only[Qr,Qi,Qn,OpW,Yx,aop,AS.ev,Ql,Qz,↓reduceIte,Nat.reduceLT,Nat.reduceEqDiff,Qyn])));refine hK1 _ ?_;clear hK1
     (try simp only[Qys,QyA])
     simp only[Qi,Qn,OpW,aop,AS.ev,Ql,Qz,↓reduceIte,Nat.reduceLT,Nat.reduceEqDiff,Qyv,Qm,Xt,Xv,XP,hget,Qyj,Qyk,Qyl,Qyo,Qym,Qyy,QyC,Qyr,ti23,Qel,t1,Rl.cells]
     with_reducible repeat first|refine Qe c4 ?_;simp only[Qr,Qi,Qn,OpW,Yx,aop,AS.ev,Ql,Qz,↓reduceIte,Nat.reduceLT,Nat.reduceEqDiff,Qyn]|refine Qk ?_|refine hK _ ?_;clear hK
     rw[R]
     exact⟨rfl,t0,t1,t5,_,rfl⟩
    have R:QaB r=false:=by rw[key2 d0',<-w1,<-w2,<-w3,<-w4];rfl
    (with_reducible refine Qs fun K E hK hE=>?_)
    (try simp only[QyU]);refine Qy 5 (fun K1 hK1=>?_);simp only[Qr,Qi,Qn,OpW,aop,AS.ev,Ql,Qz,↓reduceIte,Nat.reduceLT,Nat.reduceEqDiff,aBin,aLen,Qyl,Qyu,QyB,QaC,goInt,QyQ,un27,t0,t1,w0,Qh];refine hK1 _ ?_;clear hK1
    (try simp only[Qys,QyA]);refine Qy 8 (fun K1 hK1=>?_);simp only[Qr,Qi,Qn,OpW,aop,AS.ev,Ql,Xc,Qz,↓reduceIte,Nat.reduceLT,Nat.reduceEqDiff,Qyv,QyI,Qm,Xt,Xv,aBin,aLen,XP,hget,Qyj,Qyk,Qyl,Qyo,Qym,Qyu,QyB,Zf,goInt,Qyr,ti9,ti22,un22,QbZ,QaH,Qh,Rl.cells,hsl,Qad,hq,hw2,hw3];refine hK1 _ ?_;clear hK1
    (try simp only[Qys,QyA]);refine Qy 8 (fun K1 hK1=>?_);simp only[Qr,Qi,Qn,OpW,aop,AS.ev,Ql,Qz,↓reduceIte,Nat.reduceLT,Nat.reduceEqDiff,Qyv,Qm,Xt,Xv,aBin,aLen,XP,hget,Qyj,Qyk,Qyl,Qyo,Qym,Qyu,QyB,QaC,Zf,goInt,QyQ,Qyr,Qyn,ti22,un22,QaY,t1,Qh,Rl.cells,hw4,d0'];refine hK1 _ ?_;clear hK1
    (try simp only[Qys,QyA]);refine Qy 6 (fun K1 hK1=>?_);simp only[Qi,Qn,OpW,aop,AS.ev,Ql,Qz,↓reduceIte,Nat.reduceLT,Nat.reduceEqDiff,Qyv,Qm,Xt,Xv,XP,hget,Qyj,Qyk,Qyl,Qyo,Qym,Qyy,QyC,Qyu,QyB,Qyr,ti22,QaH,t1,Rl.cells];(repeat ((((with_reducible refine Qe c1 ?_));simp only[Qr,Qi,Qn,OpW,Yx,aop,AS.ev,Ql,Qz,↓reduceIte,Nat.reduceLT,Nat.reduceEqDiff,Qyn])));refine hK1 _ ?_;clear hK1
    (try simp only[Qys,QyA]);refine Qy 6 (fun K1 hK1=>?_);simp only[Qi,Qn,OpW,aop,AS.ev,Ql,Qz,↓reduceIte,Nat.reduceLT,Nat.reduceEqDiff,Qyv,Qm,Xt,Xv,XP,hget,Qyj,Qyk,Qyl,Qyo,Qym,Qyy,QyC,Qyu,QyB,Qyr,ti22,QaY,t1,Rl.cells];(repeat ((((with_reducible refine Qe c2 ?_));simp only[Qr,Qi,Qn,OpW,Yx,aop,AS.ev,Ql,Qz,↓reduceIte,Nat.reduceLT,Nat.reduceEqDiff,Qyn])));refine hK1 _ ?_;clear hK1
    (try simp only[Qys,QyA]);refine Qy 6 (fun K1 hK1=>?_);simp only[Qi,Qn,OpW,aop,AS.ev,Ql,Qz,↓reduceIte,Nat.reduceLT,Nat.reduceEqDiff,Qyv,Qm,Xt,Xv,XP,hget,Qyj,Qyk,Qyl,Qyo,Qym,Qyy,QyC,Qyu,QyB,Qyr,ti23,QdG,t1,Rl.cells];(repeat ((((with_reducible refine Qe c3 ?_));simp only[Qr,Qi,Qn,OpW,Yx,aop,AS.ev,Ql,Qz,↓reduceIte,Nat.reduceLT,Nat.reduceEqDiff,Qyn])));refine hK1 _ ?_;clear hK1
    (try simp only[Qys,QyA])
    simp only[Qi,Qn,OpW,aop,AS.ev,Ql,Qz,↓reduceIte,Nat.reduceLT,Nat.reduceEqDiff,Qyv,Qm,Xt,Xv,XP,hget,Qyj,Qyk,Qyl,Qyo,Qym,Qyy,QyC,Qyr,ti23,Qel,t1,Rl.cells]
    with_reducible repeat first|refine Qe c4 ?_;simp only[Qr,Qi,Qn,OpW,Yx,aop,AS.ev,Ql,Qz,↓reduceIte,Nat.reduceLT,Nat.reduceEqDiff,Qyn]|refine Qk ?_|refine hK _ ?_;clear hK
    rw[R]
    exact⟨rfl,t0,t1,t5,_,rfl⟩
  ·have hkn:k=l.length:=by omega
   subst hkn
   have z1:¬((l.length:Nat):Int)<l.length:=by omega
   rw[QzG]at he
   with_reducible repeat first|refine Qd fun K E hK hE=>?_;simp only[Qr,Qi,Qn,OpW,aop,AS.ev,Ql,Q5,Qz,↓reduceIte,Nat.reduceLT,Nat.reduceEqDiff,aBin,aLen,Qyl,Qbq,goInt,QyQ,un27,t0,t5,z1,Qh]|refine QN fun K hK=>?_|refine YH ?_|refine Qah ?_|refine Qk ?_|refine ZE ?_|refine ZD ?_|refine hK _ ?_;clear hK|clear hK;refine hK _ ?_;clear hK|refine Qw rfl ?_;simp only[↓reduceIte,Qyn]
   simp only[Zr,Xf,YE,upd,↓reduceIte,Qyp,Qyt];first|refine Qb (htake _ _) (.keep (.v _)) ⟨by rw[he];rfl,rfl⟩|refine Qb Qzb (.keep (.v _)) ⟨by rw[he];rfl,rfl⟩
 ·rw[hI]
  exact⟨0,rfl,by omega,rfl,rfl,rfl,rfl,[],(QyM _).symm⟩
def Qhe(l:List Rl):Bool:=decide (45<l.length)||l.any QaB
theorem Qmy(l:List Rl)(ho:∀r∈l,r.ok)(hl:l.length<=9223372036854775807):Pure Tryz.prog 8 [.sl 6 (vs Rl.av l) none] (.b (Qhe l)):=by
 intro h
 by_cases q:45<l.length
 ·have z:(l.length:Int)>45:=by omega
  refine Qc Tryz.func8 rfl Tryz.call8 Tryz.ntmps8 Tryz.results8 (by simp) ?_
  repeat refine Qa ?_;simp only[go_sem,seval,z,Qh]
  first|refine Qb (htake _ _) (.keep (.v _)) ⟨by rw[Qhe,QzA q];rfl,rfl⟩|refine Qb Qzb (.keep (.v _)) ⟨by rw[Qhe,QzA q];rfl,rfl⟩
 ·have z:¬(l.length:Int)>45:=by omega
  have c:=Qg6 l (by omega) ho
  refine Qc Tryz.func8 rfl Tryz.call8 Tryz.ntmps8 Tryz.results8 (by simp) ?_
  repeat (first|refine Qe c ?_|refine Qa ?_);simp only[go_sem,seval,z,Qh]
  first|refine Qb (htake _ _) (.keep (.v _)) ⟨by rw[Qhe,Qzt q,QAM],rfl⟩|refine Qb Qzb (.keep (.v _)) ⟨by rw[Qhe,Qzt q,QAM],rfl⟩
theorem QkK(n:Int):cmpI n n=0:=by simp[cmpI]
theorem QdD:∀l:List UInt8,Op.bytesLess l l=false
 |[]=>rfl
 |a::l=>by simp[Op.bytesLess,QdD l]
theorem QkL(s:ByteArray):cmpS s s=0:=by simp[cmpS,QdD]
mutual
theorem QpQ:∀t:T,cmpT t t=0
 | .mk k i n l=>by
  have h0:((0:Int) != 0)=false:=rfl
  simp only[cmpT,QkK,QkL,Qef l,h0,Qyn,↓reduceIte,or3,orL,ite_self]
theorem Qef:∀l:List T,cmpL l l=0
 |[]=>by simp[cmpL]
 |t::l=>by simp[cmpL,QpQ t,Qef l]
end
def gN:List G->Nat
 |[]=>0
 |p::l=>1+ndsL p.args+gN l
theorem Qp6:∀{l:List G} {k:Nat} (h:k<l.length),ndsL (l[k]).args<=gN l
 |p::l,0,_=>by simp only[List.getElem_cons_zero,gN];omega
 |p::l,k+1,h=>by
  have:=Qp6 (l:=l) (k:=k) (by simpa using h)
  simp only[QAY,gN];omega
theorem Qg1:∀l:List G,l.length<=gN l
 |[]=>by simp[gN]
 |p::l=>by
  have:=Qg1 l
  simp only[gN,Qyw];omega
theorem QfT(p:G)(hn:ndsL p.args<=1000000):Pure Tryz.prog 134 [p.atom,p.atom] (.i 0):=by
 intro h
 have hl:=Yy p.args
 have c1:=QnK p.name p.name
 rw[QkL]at c1
 have c2:=Qfg p.args.length p.args.length
 rw[QkK]at c2
 have c3:=Qe7 1000000 (Qbr 1000000 (Qzl _)) p.args p.args hn (by omega)
 rw[Qef]at c3
 have z0:((0:Int)==0)=true:=rfl
 refine Qc Tryz.func134 rfl Tryz.call134 Tryz.ntmps134 Tryz.results134 (by simp) ?_
 repeat (first|refine Qe c1 ?_|refine Qe c2 ?_|refine Qe c3 ?_|refine Qa ?_);simp only[go_sem,seval,Yc]
 first|refine Qb (htake _ _) (.keep (.v _)) ⟨rfl,rfl⟩|refine Qb Qzb (.keep (.v _)) ⟨rfl,rfl⟩
theorem Qj5(p:G)(hn:ndsL p.args<=1000000):Pure Tryz.prog 95 [p.atom,p.atom] (.b true):=by
 intro h
 have c:=QfT p hn
 have z0:((0:Int)==0)=true:=rfl
 refine Qc Tryz.func95 rfl Tryz.call95 Tryz.ntmps95 Tryz.results95 (by simp) ?_
 repeat (first|refine Qe c ?_|refine Qa ?_);simp only[go_sem,seval,Yc,QbR]
 first|refine Qb (htake _ _) (.keep (.v _)) ⟨rfl,rfl⟩|refine Qb Qzb (.keep (.v _)) ⟨rfl,rfl⟩
theorem Qj6(p:G)(hn:ndsL p.args<=1000000):Pure Tryz.prog 70 [p.goal,p.goal] (.b true):=by
 intro h
 have c1:=Qib p.args p.args hn
 rw[Qef]at c1
 have z0:((0:Int)==0)=true:=rfl
 simp only[z0]at c1
 have z1:(p.op==p.op)=true:=by simp
 have z2:(p.name.toList==p.name.toList)=true:=by simp
 have z3:((p.args.length:Int)==(p.args.length:Int))=true:=by simp
 refine Qc Tryz.func70 rfl Tryz.call70 Tryz.ntmps70 Tryz.results70 (by simp) ?_
 (with_reducible refine Qd fun K E hK hE=>?_)
 simp only[go_sem,seval,QJ]
 (with_reducible refine hK _ ?_)
 clear hK
 (with_reducible refine Qd fun K E hK hE=>?_)
 (try simp only[QyU]);refine Qy 6 (fun K1 hK1=>?_);simp only[go_sem,seval,QJ];(repeat ((((with_reducible refine Qd fun K E hK hE=>?_));simp only[go_sem,seval,QJ,Qak,z1,z2,z3])));refine hK1 _ ?_;clear hK1
 (try simp only[Qys,QyA]);refine Qy 6 (fun K1 hK1=>?_);simp only[go_sem,seval,QJ];(repeat ((((with_reducible refine Qd fun K E hK hE=>?_));simp only[go_sem,seval,QJ,Qak,z1,z2,z3])));refine hK1 _ ?_;clear hK1
 (try simp only[Qys,QyA]);refine Qy 6 (fun K1 hK1=>?_);simp only[go_sem,seval,QJ];(repeat ((((with_reducible refine Qd fun K E hK hE=>?_));simp only[go_sem,seval,QJ,Qak,z1,z2,z3])));refine hK1 _ ?_;clear hK1
 (try simp only[Qys,QyA]);refine Qy 6 (fun K1 hK1=>?_);simp only[go_sem,seval,QJ];(repeat ((((with_reducible refine Qd fun K E hK hE=>?_));simp only[go_sem,seval,QJ,Qak,z1,z2,z3])));refine hK1 _ ?_;clear hK1
 simp only[Qys,QyA]
 simp only[go_sem,seval,QJ]
 with_reducible repeat first|refine Qe c1 ?_;simp only[go_sem,seval]|refine YH ?_|refine hK _ ?_;clear hK
 simp only[go_sem,upd];first|refine Qb (htake _ _) (.keep (.v _)) ⟨rfl,rfl⟩|refine Qb Qzb (.keep (.v _)) ⟨rfl,rfl⟩
theorem QdL(l:List G)(hn:gN l<=1000000):Pure Tryz.prog 46 [.sl 2 (vs G.atom l) none,.sl 2 (vs G.atom l) none] (.b true):=by
 intro h
 have hll:=Qg1 l
 have hb:((l.length:Int) != (l.length:Int))=false:=by simp
 refine Qc Tryz.func46 rfl Tryz.call46 Tryz.ntmps46 Tryz.results46 (by simp) ?_
 repeat refine Qa ?_;simp only[go_sem,seval,Qh]
 obtain⟨I,hI⟩:∃I:Nat->AS->Prop,I=fun m' s=>∃j:Nat,m'=l.length - j/\j<=l.length/\s.tm 0 = .sl 2 (vs G.atom l) none/\s.tm 1 = .sl 2 (vs G.atom l) none/\s.tm 5 = .i j/\s.h=h:=⟨_,rfl⟩;refine Qv I ?_ (m:=l.length) ?_
 ·intro m' s hs;rw[hI]at hs;obtain⟨tm,hp⟩:=s;dsimp only at hs;obtain⟨j,rfl,hj,t0,t1,t5,rfl⟩:=hs
  by_cases hlt:j<l.length
  ·have hc:=Qj5 l[j] (QzL (Qp6 hlt) hn)
   repeat first|(first|refine Qq hc ?_|refine Qj (id:=6) [(0,0),(1,0),(2,0),(3,0),(4,0),(5,0),(6,0),(7,0),(8,1),(9,0)] mixed (by kernel_rfl) fun K hK=>?_|refine Qa ?_);simp only[go_sem,seval,t0,t1,t5,hlt,Qh,Z2 G.atom hlt,Yc,QbR]|refine hK _ ?_;clear hK
   refine QZ.mk (m':=l.length - (j+1)) (by omega) ?_
   rw[hI]
   refine⟨j+1,rfl,hlt,t0,t1,?_,rfl⟩
   simp only[upd,↓reduceIte]
   rw[QY (by omega)]
  ·repeat refine Qa ?_;simp only[go_sem,seval,t0,t5,hlt,Qh]
   first|refine Qb (htake _ _) (.keep (.v _)) ⟨rfl,rfl⟩|refine Qb Qzb (.keep (.v _)) ⟨rfl,rfl⟩
 ·rw[hI]
  exact⟨0,by omega,Qzy _,rfl,rfl,rfl,rfl⟩
theorem QdM(l:List G)(hn:gN l<=1000000):Pure Tryz.prog 24 [.sl 3 (vs G.goal l) none,.sl 3 (vs G.goal l) none] (.b true):=by
 intro h
 have hll:=Qg1 l
 have hb:((l.length:Int) != (l.length:Int))=false:=by simp
 refine Qc Tryz.func24 rfl Tryz.call24 Tryz.ntmps24 Tryz.results24 (by simp) ?_
 repeat refine Qa ?_;simp only[go_sem,seval,Qh]
 obtain⟨I,hI⟩:∃I:Nat->AS->Prop,I=fun m' s=>∃j:Nat,m'=l.length - j/\j<=l.length/\s.tm 0 = .sl 3 (vs G.goal l) none/\s.tm 1 = .sl 3 (vs G.goal l) none/\s.tm 5 = .i j/\s.h=h:=⟨_,rfl⟩;refine Qv I ?_ (m:=l.length) ?_
 ·intro m' s hs;rw[hI]at hs;obtain⟨tm,hp⟩:=s;dsimp only at hs;obtain⟨j,rfl,hj,t0,t1,t5,rfl⟩:=hs
  by_cases hlt:j<l.length
  ·have hc:=Qj6 l[j] (QzL (Qp6 hlt) hn)
   repeat first|(first|refine Qq hc ?_|refine Qj (id:=6) [(0,0),(1,0),(2,0),(3,0),(4,0),(5,0),(6,0),(7,0),(8,1),(9,0)] mixed (by kernel_rfl) fun K hK=>?_|refine Qa ?_);simp only[go_sem,seval,t0,t1,t5,hlt,Qh,Z2 G.goal hlt,QJ,Qak]|refine hK _ ?_;clear hK
   refine QZ.mk (m':=l.length - (j+1)) (by omega) ?_
   rw[hI]
   refine⟨j+1,rfl,hlt,t0,t1,?_,rfl⟩
   simp only[upd,↓reduceIte]
   rw[QY (by omega)]
  ·repeat refine Qa ?_;simp only[go_sem,seval,t0,t5,hlt,Qh]
   first|refine Qb (htake _ _) (.keep (.v _)) ⟨rfl,rfl⟩|refine Qb Qzb (.keep (.v _)) ⟨rfl,rfl⟩
 ·rw[hI]
  exact⟨0,by omega,Qzy _,rfl,rfl,rfl,rfl⟩
theorem QeO(r:Rl)(hs:gN r.keep<=1000000/\gN r.remove<=1000000/\gN r.guard<=1000000/\gN r.body<=1000000):Pure Tryz.prog 12 [r.av,r.av] (.b true):=by
 intro h
 obtain⟨s1,s2,s3,s4⟩:=hs
 have c1:=QdL r.keep s1
 have c2:=QdL r.remove s2
 have c3:=QdM r.guard s3
 have c4:=QdM r.body s4
 have z1:(r.vars==r.vars)=true:=by simp
 have z2:(r.name.toList==r.name.toList)=true:=by simp
 refine Qc Tryz.func12 rfl Tryz.call12 Tryz.ntmps12 Tryz.results12 (by simp) ?_
 (with_reducible refine Qd fun K E hK hE=>?_)
 simp only[go_sem,seval,Rl.cells]
 (with_reducible refine hK _ ?_)
 clear hK
 (with_reducible refine Qd fun K E hK hE=>?_)
 (try simp only[QyU]);refine Qy 6 (fun K1 hK1=>?_);simp only[go_sem,seval,Rl.cells];(repeat ((((with_reducible refine Qd fun K E hK hE=>?_));simp only[go_sem,seval,Rl.cells,Rl.isAgg,z1,z2])));refine hK1 _ ?_;clear hK1
 (try simp only[Qys,QyA]);refine Qy 6 (fun K1 hK1=>?_);simp only[go_sem,seval,Rl.cells];(repeat ((((with_reducible refine Qd fun K E hK hE=>?_));simp only[go_sem,seval,Rl.cells,Rl.isAgg,z1,z2])));refine hK1 _ ?_;clear hK1
 (try simp only[Qys,QyA]);refine Qy 6 (fun K1 hK1=>?_);simp only[go_sem,seval,Rl.cells];(repeat ((((with_reducible refine Qe c1 ?_));simp only[go_sem,seval])));refine hK1 _ ?_;clear hK1
 (try simp only[Qys,QyA]);refine Qy 6 (fun K1 hK1=>?_);simp only[go_sem,seval,Rl.cells];(repeat ((((with_reducible refine Qd fun K E hK hE=>?_));simp only[go_sem,seval,Rl.cells,Rl.isAgg,z1,z2])));refine hK1 _ ?_;clear hK1
 (try simp only[Qys,QyA]);refine Qy 6 (fun K1 hK1=>?_);simp only[go_sem,seval];(repeat ((((with_reducible refine Qe c2 ?_));simp only[go_sem,seval,Rl.cells])));refine hK1 _ ?_;clear hK1
 (try simp only[Qys,QyA]);refine Qy 6 (fun K1 hK1=>?_);simp only[go_sem,seval,Rl.cells];(repeat ((((with_reducible refine Qe c3 ?_));simp only[go_sem,seval,Rl.cells])));refine hK1 _ ?_;clear hK1
 simp only[Qys,QyA]
 simp only[go_sem,seval,Rl.cells]
 with_reducible repeat first|refine Qe c4 ?_;simp only[go_sem,seval]|refine YH ?_|refine hK _ ?_;clear hK
 simp only[go_sem,upd];first|refine Qb (htake _ _) (.keep (.v _)) ⟨rfl,rfl⟩|refine Qb Qzb (.keep (.v _)) ⟨rfl,rfl⟩
mutual
def T.dep:T->Nat
 | .mk k _ _ l=>1+(if k=2 then deps l else 0)
def deps:List T->Nat
 |[]=>0
 |t::l=>max t.dep (deps l)
end
theorem T.Qye(t:T):t.dep=1+deps t.uses:=by
 cases t with|mk k i n l =>
 show T.dep (.mk k i n l)=1+deps (if k=2 then l else[])
 simp only[T.dep]
 by_cases h:k=2
 ·simp[h]
 ·simp[h,deps]
structure TokGr (H:Nat->AH) (m k e s:Nat):Prop where
 len:∀n,(H n).length=m
 lt:k<m
 get:∀n,(H n)[k]? = some (.grow e s n)
 set:∀n n',(H n).set k (.grow e s n')=H n'
theorem TokGr.old{H:Nat->AH}{m k e s:Nat}(V:TokGr H m k e s):∀n n' (i:Nat) b,(H n')[i]? = some b->(H n)[i]? = some b\/b.Below m:=by
 intro n n' i b hb
 rw[<-V.set n n']at hb
 by_cases hi:k=i
 ·subst hi
  rw[Qzj (by rw[V.len];exact V.lt)]at hb
  cases hb
  exact .inr trivial
 ·rw[Qzd hi]at hb
  exact .inl hb
def QaG(l:List G):List T:=l.flatMap G.args
def QdP(r:Rl):List T:=QaG r.keep++(QaG r.remove++(QaG r.guard++QaG r.body))
theorem Qew(g:Int->Int):∀l:List T,maps g l=l.map (T.map g)
 |[]=>rfl
 |t::l=>by simp only[maps,Qyy,Qew g l]
def G.mapV(f:Int->Int)(g:G):G:={g with args:=maps f g.args}
def Rl.mapV(f:Int->Int)(r:Rl):Rl:=⟨r.name,r.keep.map (G.mapV f),r.remove.map (G.mapV f),r.guard.map (G.mapV f),r.body.map (G.mapV f),r.vars⟩
theorem Qag(g:G)(l:List G):QaG (g::l)=g.args++QaG l:=rfl
theorem Qvp(s:List Int)(g:G)(r:List Int):nG s g=(g.mapV fun n=>((plc (ded s (Xz g.args)++r) n:Nat):Int),ded s (Xz g.args)):=by
 rw[nG,Qbi s g.args r];rfl
theorem Qet:∀(s:List Int) (l:List G) (r:List Int),Qu nG s l=(l.map (G.mapV fun n=>((plc (ded s (Xz (QaG l))++r) n:Nat):Int)),ded s (Xz (QaG l)))
 |s,[],r=>rfl
 |s,g::l,r=>by
  obtain⟨q,hq⟩:=QbJ (ded s (Xz g.args)) (Xz (QaG l))
  rw[Qu,Qvp s g (q++r)]
  simp only
  rw[Qet _ l r]
  simp only[Qag,YQ,Qaj,hq,Qze,Qyy]
def Rl.seen(r:Rl):List Int:=ded [] (Xz (QdP r))
theorem Qhr(r:Rl):numR r={(r.mapV fun n=>((plc r.seen n:Nat):Int))with vars:=(r.seen.length:Nat)}:=by
 have e:r.seen=ded (ded (ded (ded [] (Xz (QaG r.keep))) (Xz (QaG r.remove))) (Xz (QaG r.guard))) (Xz (QaG r.body)):=by
  rw[Rl.seen,QdP];simp only[YQ,Qaj]
 obtain⟨s1,e1⟩:∃s,s=ded [] (Xz (QaG r.keep)):=⟨_,rfl⟩
 obtain⟨s2,e2⟩:∃s,s=ded s1 (Xz (QaG r.remove)):=⟨_,rfl⟩
 obtain⟨s3,e3⟩:∃s,s=ded s2 (Xz (QaG r.guard)):=⟨_,rfl⟩
 obtain⟨s4,e4⟩:∃s,s=ded s3 (Xz (QaG r.body)):=⟨_,rfl⟩
 rw[<-e1,<-e2,<-e3,<-e4]at e
 obtain⟨q2,h2⟩:=QbJ s1 (Xz (QaG r.remove))
 obtain⟨q3,h3⟩:=QbJ s2 (Xz (QaG r.guard))
 obtain⟨q4,h4⟩:=QbJ s3 (Xz (QaG r.body))
 rw[<-e2]at h2
 rw[<-e3]at h3
 rw[<-e4]at h4
 have a1:=Qet [] r.keep (q2++(q3++q4))
 have a2:=Qet s1 r.remove (q3++q4)
 have a3:=Qet s2 r.guard q4
 have a4:=Qet s3 r.body []
 rw[<-e1]at a1
 rw[<-e2]at a2
 rw[<-e3]at a3
 rw[<-e4,QyM]at a4
 have f1:s1++(q2++(q3++q4))=s4:=by rw[h4,h3,h2];simp only[Qze]
 have f2:s2++(q3++q4)=s4:=by rw[h4,h3];simp only[Qze]
 have f3:s3++q4=s4:=h4.symm
 rw[f1]at a1
 rw[f2]at a2
 rw[<-h4]at a3
 rw[numR,a1]
 simp only
 rw[a2]
 simp only
 rw[a3]
 simp only
 rw[a4,e]
 rfl
theorem Qkz(f:Int->Int):∀l:List G,QaG (l.map (G.mapV f))=maps f (QaG l)
 |[]=>rfl
 |g::l=>by rw[List.map_cons,Qag,Qag,Qkz f l];simp only[G.mapV,Qew,Qz3]
theorem QmA(f:Int->Int)(l m:List T):maps f (l++m)=maps f l++maps f m:=by rw[Qew,Qew,Qew,Qz3]
theorem Qo7(f:Int->Int)(r:Rl):QdP (r.mapV f)=maps f (QdP r):=by
 simp only[QdP,Rl.mapV,Qkz,QmA]
def QrX(f:Int->Int)(l:List Int):Prop:=∀a∈l,∀b∈l,f a=f b->a=b
theorem Qt4{f:Int->Int}{s:List Int}{n:Int}(h:∀a∈s,f a=f n->a=n):ins (s.map f) (f n)=(ins s n).map f:=by
 unfold ins
 by_cases hn:n∈s
 ·rw[Qzh hn,Qzh (List.mem_map_of_mem hn)]
 ·rw[Qzf hn,Qzf,Qz3]
  ·rfl
  ·intro hm
   obtain⟨a,ha,e⟩:=QzD.1 hm
   exact hn (h a ha e▸ha)
theorem QpX{f:Int->Int}:∀{l s:List Int},QrX f (s++l)->ded (s.map f) (l.map f)=(ded s l).map f
 |[],s,h=>rfl
 |n::l,s,h=>by
  rw[List.map_cons,ded,ded,Qt4 fun a ha e=>h a (by simp[ha]) n (by simp) e]
  refine QpX fun a ha b hb e=>h a ?_ b ?_ e
  ·simp only[QzH,Qhn,Qzn]at ha ⊢;rcases ha with(h|h)|h <;> simp[h]
  ·simp only[QzH,Qhn,Qzn]at hb ⊢;rcases hb with(h|h)|h <;> simp[h]
theorem Qq4{f:Int->Int}{n:Int}:∀{s:List Int},(∀a∈s,f a=f n->a=n)->plc (s.map f) (f n)=plc s n
 |[],h=>rfl
 |a::s,h=>by
  rw[List.map_cons,plc,plc]
  by_cases e:a=n
  ·rw[Qzh e,Qzh (by rw[e])]
  ·rw[Qzf e,Qzf (fun e'=>e (h a (by simp) e')),Qq4 fun b hb=>h b (by simp[hb])]
theorem Qj8{r:Rl}{v:Int}:v∈r.seen↔v∈Xz (QdP r):=by rw[Rl.seen,QjK];simp
theorem QsS{f:Int->Int}{r:Rl}(h:QrX f r.seen):(r.mapV f).seen=r.seen.map f:=by
 rw[Rl.seen,Qo7,Qfo]
 exact QpX (s:=[]) fun a ha b hb=>h a (Qj8.2 ha) b (Qj8.2 hb)
theorem G.QxJ(f g:Int->Int)(x:G):(x.mapV f).mapV g=x.mapV fun n=>g (f n):=by simp only[G.mapV,Qhm]
theorem Qb5{f g:Int->Int}:∀{l:List G},(∀v∈Xz (QaG l),f v=g v)->l.map (G.mapV f)=l.map (G.mapV g)
 |[],_=>rfl
 |x::l,h=>by
  rw[List.map_cons,List.map_cons,Qb5 fun v hv=>h v (by rw[Qag,YQ];exact QzH.2 (.inr hv))]
  rw[G.mapV,G.mapV,Qe9 x.args fun v hv=>h v (by rw[Qag,YQ];exact QzH.2 (.inl hv))]
theorem QoB{f g:Int->Int}{r:Rl}(h:∀v∈Xz (QdP r),f v=g v):r.mapV f=r.mapV g:=by
 rw[QdP]at h
 simp only[YQ,QzH]at h
 rw[Rl.mapV,Rl.mapV,Qb5 fun v hv=>h v (.inl hv),Qb5 fun v hv=>h v (.inr (.inl hv)),Qb5 fun v hv=>h v (.inr (.inr (.inl hv))),Qb5 fun v hv=>h v (.inr (.inr (.inr hv)))]
theorem QxJ(f g:Int->Int)(r:Rl):(r.mapV f).mapV g=r.mapV fun n=>g (f n):=by
 simp only[Rl.mapV,QAu]
 congr 1 <;> (apply QAh;intro x _;exact G.QxJ f g x)
theorem Qss{f:Int->Int}{r:Rl}(h:QrX f r.seen):numR (r.mapV f)=numR r:=by
 rw[Qhr,Qhr,QsS h,QxJ,QzJ]
 rw[QoB (g:=fun n=>((plc r.seen n:Nat):Int)) fun v hv=>by rw[Qq4 fun a ha e=>h a ha v (Qj8.2 hv) e]]
theorem Quo(s:List Int):QrX (fun n=>((plc s n:Nat):Int)) s:=by
 intro a ha b hb e
 have e':plc s a=plc s b:=Int.ofNat.inj e
 have h1:=Qq5 ha
 have h2:=Qq5 hb
 rw[<-h1,<-h2]
 congr 1
theorem QiP(r:Rl):numR (numR r)=numR r:=by
 have e:numR (numR r)=numR (r.mapV fun n=>((plc r.seen n:Nat):Int)):=by rw[Qhr r];rfl
 rw[e];exact Qss (Quo _)
mutual
theorem T.Qx7{g:Int->Int}:∀(t:T),(t.map g).nds=t.nds
 | .mk k i n l=>by
  simp only[T.map]
  split
  ·simp only[T.nds]
  ·split
   ·simp only[T.nds,QjI l]
   ·rfl
theorem QjI{g:Int->Int}:∀(l:List T),ndsL (maps g l)=ndsL l
 |[]=>rfl
 |t::l=>by simp only[maps,ndsL,T.Qx7 t,QjI l]
end
theorem Qp7:∀l:List G,gN l=l.length+ndsG l
 |[]=>rfl
 |g::l=>by rw[gN,Qp7 l,Qyw,ndsG];omega
theorem QrN:∀l:List G,wG l=ndsG l
 |[]=>rfl
 |g::l=>by have:=QrN l;simp only[wG,Qyy,List.sum_cons,ndsG]at this ⊢;rw[this];rfl
theorem Qnz(f:Int->Int):∀l:List G,ndsG (l.map (G.mapV f))=ndsG l
 |[]=>rfl
 |g::l=>by rw[List.map_cons,ndsG,ndsG,Qnz f l,G.mapV,QjI]
def Rl.small(r:Rl):Prop:=(r.keep.length<=300/\r.remove.length<=300/\r.guard.length<=300/\r.body.length<=300)/\ndsG r.keep<=300/\ndsG r.remove<=300/\ndsG r.guard<=300/\ndsG r.body<=300
theorem YR{l:List G}(h:decide (X5 l 300<0)=false):l.length<=300/\ndsG l<=300:=by
 have h:=of_decide_eq_false h
 have h1:=Qdy l 300 (by omega)
 have h2:=QlW l 300 (by omega)
 omega
theorem QsU{r:Rl}(h:QaB r=false):r.small:=by
 simp only[QaB,Bool.or_eq_false_iff]at h
 obtain⟨_,h1,h2,h3,h4⟩:=h
 exact⟨⟨(YR h1).1,(YR h2).1,(YR h3).1,(YR h4).1⟩,(YR h1).2,(YR h2).2,(YR h3).2,(YR h4).2⟩
theorem Qrs{r:Rl}(h:r.small)(f:Int->Int):(r.mapV f).small:=by
 simp only[Rl.small,Rl.mapV,QzJ,Qnz]at h ⊢;exact h
theorem QhI{r:Rl}(h:r.small):(numR r).small:=by
 have:=Qrs h fun n=>((plc r.seen n:Nat):Int)
 rw[Qhr];exact this
theorem Rl.small.fits{r:Rl}(h:r.small):r.fits:=by
 obtain⟨⟨a,b,c,d⟩,e,f,g,i⟩:=h
 refine⟨by omega,by omega,by omega,by omega,?_⟩
 simp only[QrN];omega
theorem Rl.small.gNs{r:Rl}(h:r.small):gN r.keep<=1000000/\gN r.remove<=1000000/\gN r.guard<=1000000/\gN r.body<=1000000:=by
 obtain⟨⟨a,b,c,d⟩,e,f,g,i⟩:=h
 simp only[Qp7];omega
def Dc.ok(d:Dc):Prop:=d.name.size<=9223372036854775807/\i64 d.arity
def Pg.ok(p:Pg):Prop:=p.decls.length<=9223372036854775807/\p.rules.length<=9223372036854775807/\(∀d∈p.decls,d.ok)/\(∀r∈p.rules,r.ok)
theorem Qnj{n:Int}(h:(Lit.int .i64 n).wf=true):i64 n:=by
 simpa [Lit.wf,IntKind.min,IntKind.max,IntKind.signed,IntKind.bits,i64]using h
theorem QnB:∀(l:List T),(∀t∈l,t.ok)->oks l
 |[],_=>trivial
 |t::l,h=>⟨h t (by simp),QnB l fun x hx=>h x (by simp[hx])⟩
theorem QlN{n:Nat}(h:n<=maxLen):n<=9223372036854775807:=by simp only[maxLen]at h;omega
theorem QoU{c:Cx}{s:Nat}{xs:List AV}{own:Option Nat}{u:Value}(h:Rel c (.sl s xs own) u):xs.length<=9223372036854775807:=by
 cases h with
 |slnil=>exact Qzy _
 |slzero=>exact Qzy _
 |sl _ _ _ B o cap f hs hcap hmax hc hr ht=>simp only[maxLen]at hmax;omega
theorem ZM{X:Type}{f:X->AV}{c:Cx}{s:Nat}{xs:List X}{own:Option Nat}{u:Value}(h:Rel c (.sl s (xs.map f) own) u):xs.length<=9223372036854775807:=by
 have:=QoU h;rwa [QzJ]at this
theorem Qlz{H:Type}(enc:TypeId×Value->H)(W:World):∀(fuel:Nat) (cs:List Value) (y:DataW H×List MemPlace),DataW.trod enc Tryz.prog W 0 (fun _=>true) true fuel 69 cs=some y->∃p:T,T.ok p/\Reads W (T.av p) cs:=by
 intro fuel
 induction fuel using Nat.strongRecOn with
 |_ fuel ih =>
 intro cs y h
 obtain⟨xs,fu,hfu,_,hl,hlen,hf⟩:=DataW.trod_struct Tryz.underlying69 h
 have hC:Tryz.prog.cellsOf 69=4:=by kernel_rfl
 rw[hC]at hl
 have hlenN:xs.length=4:=hlen
 obtain⟨y0,l1,rfl,k1⟩:=QV hlenN
 obtain⟨y1,l2,rfl,k2⟩:=QV k1
 obtain⟨y2,l3,rfl,k3⟩:=QV k2
 obtain⟨y3,l4,rfl,k4⟩:=QV k3
 obtain rfl:=len_nil k4
 obtain⟨c0,l1,rfl,k1⟩:=QV hl
 obtain⟨c1,l2,rfl,k2⟩:=QV k1
 obtain⟨c2,l3,rfl,k3⟩:=QV k2
 obtain⟨c3,l4,rfl,k4⟩:=QV k3
 obtain rfl:=len_nil k4
 have g0:DataW.trod enc Tryz.prog W 0 (fun _=>true) true fu 3 (([c0,c1,c2,c3].drop 0).take (Tryz.prog.cellsOf 3))=some y0:=hf 0 _ rfl
 rw[show Tryz.prog.cellsOf 3=1 by kernel_rfl]at g0
 have g1:DataW.trod enc Tryz.prog W 0 (fun _=>true) true fu 3 (([c0,c1,c2,c3].drop 1).take (Tryz.prog.cellsOf 3))=some y1:=hf 1 _ rfl
 rw[show Tryz.prog.cellsOf 3=1 by kernel_rfl]at g1
 have g2:DataW.trod enc Tryz.prog W 0 (fun _=>true) true fu 9 (([c0,c1,c2,c3].drop 2).take (Tryz.prog.cellsOf 9))=some y2:=hf 2 _ rfl
 rw[show Tryz.prog.cellsOf 9=1 by kernel_rfl]at g2
 have g3:DataW.trod enc Tryz.prog W 0 (fun _=>true) true fu 44 (([c0,c1,c2,c3].drop 3).take (Tryz.prog.cellsOf 44))=some y3:=hf 3 _ rfl
 rw[show Tryz.prog.cellsOf 44=1 by kernel_rfl]at g3
 clear hf
 simp only[QyA,Qys,Qyu,QyB]at g0 g1 g2 g3
 obtain⟨f0,e0,_,w0⟩:=DataW.trod_int Tryz.underlying3 g0
 obtain⟨f1,e1,_,w1⟩:=DataW.trod_int Tryz.underlying3 g1
 obtain⟨f2,e2,_,w2⟩:=DataW.trod_string Tryz.underlying9 g2
 obtain⟨f3,u3,q3,e3,hu3,hr3⟩:=ZL (X:=T) (val:=T.av) (Good:=T.ok) (s:=4) Tryz.underlying44 (by kernel_rfl) (by omega) (fun t=>by rw[T.Qxs];rfl) (fun m cs y hm hy=>ih m (by omega) cs y hy) g3
 have n3:=ZM hr3
 rw[<-QcE]at hr3
 cases e0
 cases e1
 cases e2
 cases e3
 refine⟨.mk f0 f1 f2 f3,by simp only[T.ok];exact⟨Qnj w0,Qnj w1,QlN w2,QnB _ q3⟩,rfl,fun j x v hx hv=>?_⟩
 rw[T.Qxs]at hx
 simp only[T.kind,T.int,T.name,T.args]at hx
 match j,hx,hv with
 |0,hx,hv=>simp at hx hv;subst hx;subst hv;exact⟨.v _,rfl⟩
 |1,hx,hv=>simp at hx hv;subst hx;subst hv;exact⟨.v _,rfl⟩
 |2,hx,hv=>simp at hx hv;subst hx;subst hv;exact⟨.v _,rfl⟩
 |3,hx,hv=>simp at hx hv;subst hx;subst hv;exact⟨hr3,hu3⟩
 |j+4,hx,hv=>simp at hx
theorem Qlw{H:Type}(enc:TypeId×Value->H)(W:World)(fuel:Nat)(cs:List Value)(y:DataW H×List MemPlace)(h:DataW.trod enc Tryz.prog W 0 (fun _=>true) true fuel 66 cs=some y):∃p:G,G.ok p/\Reads W (G.atom p) cs:=by
 obtain⟨xs,fu,hfu,_,hl,hlen,hf⟩:=DataW.trod_struct Tryz.underlying66 h
 have hC:Tryz.prog.cellsOf 66=2:=by kernel_rfl
 rw[hC]at hl
 have hlenN:xs.length=2:=hlen
 obtain⟨y0,l1,rfl,k1⟩:=QV hlenN
 obtain⟨y1,l2,rfl,k2⟩:=QV k1
 obtain rfl:=len_nil k2
 obtain⟨c0,l1,rfl,k1⟩:=QV hl
 obtain⟨c1,l2,rfl,k2⟩:=QV k1
 obtain rfl:=len_nil k2
 have g0:DataW.trod enc Tryz.prog W 0 (fun _=>true) true fu 9 (([c0,c1].drop 0).take (Tryz.prog.cellsOf 9))=some y0:=hf 0 _ rfl
 rw[show Tryz.prog.cellsOf 9=1 by kernel_rfl]at g0
 have g1:DataW.trod enc Tryz.prog W 0 (fun _=>true) true fu 44 (([c0,c1].drop 1).take (Tryz.prog.cellsOf 44))=some y1:=hf 1 _ rfl
 rw[show Tryz.prog.cellsOf 44=1 by kernel_rfl]at g1
 clear hf
 simp only[QyA,Qys,Qyu,QyB]at g0 g1
 obtain⟨f0,e0,_,w0⟩:=DataW.trod_string Tryz.underlying9 g0
 obtain⟨f1,u1,q1,e1,hu1,hr1⟩:=ZL (X:=T) (val:=T.av) (Good:=T.ok) (s:=4) Tryz.underlying44 (by kernel_rfl) (by omega) (fun t=>by rw[T.Qxs];rfl) (fun m cs y _ hy=>Qlz enc W m cs y hy) g1
 have n1:=ZM hr1
 rw[<-QcE]at hr1
 cases e0
 cases e1
 refine⟨⟨0,f0,f1⟩,⟨by show i64 0;unfold i64;omega,QlN w0,QnB _ q1⟩,rfl,fun j x v hx hv=>?_⟩
 rw[Yc]at hx
 match j,hx,hv with
 |0,hx,hv=>simp at hx hv;subst hx;subst hv;exact⟨.v _,rfl⟩
 |1,hx,hv=>simp at hx hv;subst hx;subst hv;exact⟨hr1,hu1⟩
 |j+2,hx,hv=>simp at hx
theorem Qlx{H:Type}(enc:TypeId×Value->H)(W:World)(fuel:Nat)(cs:List Value)(y:DataW H×List MemPlace)(h:DataW.trod enc Tryz.prog W 0 (fun _=>true) true fuel 53 cs=some y):∃p:G,G.ok p/\Reads W (G.goal p) cs:=by
 obtain⟨xs,fu,hfu,_,hl,hlen,hf⟩:=DataW.trod_struct Tryz.underlying53 h
 have hC:Tryz.prog.cellsOf 53=3:=by kernel_rfl
 rw[hC]at hl
 have hlenN:xs.length=3:=hlen
 obtain⟨y0,l1,rfl,k1⟩:=QV hlenN
 obtain⟨y1,l2,rfl,k2⟩:=QV k1
 obtain⟨y2,l3,rfl,k3⟩:=QV k2
 obtain rfl:=len_nil k3
 obtain⟨c0,l1,rfl,k1⟩:=QV hl
 obtain⟨c1,l2,rfl,k2⟩:=QV k1
 obtain⟨c2,l3,rfl,k3⟩:=QV k2
 obtain rfl:=len_nil k3
 have g0:DataW.trod enc Tryz.prog W 0 (fun _=>true) true fu 3 (([c0,c1,c2].drop 0).take (Tryz.prog.cellsOf 3))=some y0:=hf 0 _ rfl
 rw[show Tryz.prog.cellsOf 3=1 by kernel_rfl]at g0
 have g1:DataW.trod enc Tryz.prog W 0 (fun _=>true) true fu 9 (([c0,c1,c2].drop 1).take (Tryz.prog.cellsOf 9))=some y1:=hf 1 _ rfl
 rw[show Tryz.prog.cellsOf 9=1 by kernel_rfl]at g1
 have g2:DataW.trod enc Tryz.prog W 0 (fun _=>true) true fu 44 (([c0,c1,c2].drop 2).take (Tryz.prog.cellsOf 44))=some y2:=hf 2 _ rfl
 rw[show Tryz.prog.cellsOf 44=1 by kernel_rfl]at g2
 clear hf
 simp only[QyA,Qys,Qyu,QyB]at g0 g1 g2
 obtain⟨f0,e0,_,w0⟩:=DataW.trod_int Tryz.underlying3 g0
 obtain⟨f1,e1,_,w1⟩:=DataW.trod_string Tryz.underlying9 g1
 obtain⟨f2,u2,q2,e2,hu2,hr2⟩:=ZL (X:=T) (val:=T.av) (Good:=T.ok) (s:=4) Tryz.underlying44 (by kernel_rfl) (by omega) (fun t=>by rw[T.Qxs];rfl) (fun m cs y _ hy=>Qlz enc W m cs y hy) g2
 have n2:=ZM hr2
 rw[<-QcE]at hr2
 cases e0
 cases e1
 cases e2
 refine⟨⟨f0,f1,f2⟩,⟨Qnj w0,QlN w1,QnB _ q2⟩,rfl,fun j x v hx hv=>?_⟩
 rw[QJ]at hx
 match j,hx,hv with
 |0,hx,hv=>simp at hx hv;subst hx;subst hv;exact⟨.v _,rfl⟩
 |1,hx,hv=>simp at hx hv;subst hx;subst hv;exact⟨.v _,rfl⟩
 |2,hx,hv=>simp at hx hv;subst hx;subst hv;exact⟨hr2,hu2⟩
 |j+3,hx,hv=>simp at hx
theorem Qrh{H:Type}(enc:TypeId×Value->H)(W:World)(fuel:Nat)(cs:List Value)(y:DataW H×List MemPlace)(h:DataW.trod enc Tryz.prog W 0 (fun _=>true) true fuel 25 cs=some y):∃p:Rl,Rl.ok p/\Reads W (Rl.av p) cs:=by
 obtain⟨xs,fu,hfu,_,hl,hlen,hf⟩:=DataW.trod_struct Tryz.underlying25 h
 have hC:Tryz.prog.cellsOf 25=6:=by kernel_rfl
 rw[hC]at hl
 have hlenN:xs.length=6:=hlen
 obtain⟨y0,l1,rfl,k1⟩:=QV hlenN
 obtain⟨y1,l2,rfl,k2⟩:=QV k1
 obtain⟨y2,l3,rfl,k3⟩:=QV k2
 obtain⟨y3,l4,rfl,k4⟩:=QV k3
 obtain⟨y4,l5,rfl,k5⟩:=QV k4
 obtain⟨y5,l6,rfl,k6⟩:=QV k5
 obtain rfl:=len_nil k6
 obtain⟨c0,l1,rfl,k1⟩:=QV hl
 obtain⟨c1,l2,rfl,k2⟩:=QV k1
 obtain⟨c2,l3,rfl,k3⟩:=QV k2
 obtain⟨c3,l4,rfl,k4⟩:=QV k3
 obtain⟨c4,l5,rfl,k5⟩:=QV k4
 obtain⟨c5,l6,rfl,k6⟩:=QV k5
 obtain rfl:=len_nil k6
 have g0:DataW.trod enc Tryz.prog W 0 (fun _=>true) true fu 9 (([c0,c1,c2,c3,c4,c5].drop 0).take (Tryz.prog.cellsOf 9))=some y0:=hf 0 _ rfl
 rw[show Tryz.prog.cellsOf 9=1 by kernel_rfl]at g0
 have g1:DataW.trod enc Tryz.prog W 0 (fun _=>true) true fu 22 (([c0,c1,c2,c3,c4,c5].drop 1).take (Tryz.prog.cellsOf 22))=some y1:=hf 1 _ rfl
 rw[show Tryz.prog.cellsOf 22=1 by kernel_rfl]at g1
 have g2:DataW.trod enc Tryz.prog W 0 (fun _=>true) true fu 22 (([c0,c1,c2,c3,c4,c5].drop 2).take (Tryz.prog.cellsOf 22))=some y2:=hf 2 _ rfl
 rw[show Tryz.prog.cellsOf 22=1 by kernel_rfl]at g2
 have g3:DataW.trod enc Tryz.prog W 0 (fun _=>true) true fu 23 (([c0,c1,c2,c3,c4,c5].drop 3).take (Tryz.prog.cellsOf 23))=some y3:=hf 3 _ rfl
 rw[show Tryz.prog.cellsOf 23=1 by kernel_rfl]at g3
 have g4:DataW.trod enc Tryz.prog W 0 (fun _=>true) true fu 23 (([c0,c1,c2,c3,c4,c5].drop 4).take (Tryz.prog.cellsOf 23))=some y4:=hf 4 _ rfl
 rw[show Tryz.prog.cellsOf 23=1 by kernel_rfl]at g4
 have g5:DataW.trod enc Tryz.prog W 0 (fun _=>true) true fu 3 (([c0,c1,c2,c3,c4,c5].drop 5).take (Tryz.prog.cellsOf 3))=some y5:=hf 5 _ rfl
 rw[show Tryz.prog.cellsOf 3=1 by kernel_rfl]at g5
 clear hf
 simp only[QyA,Qys,Qyu,QyB]at g0 g1 g2 g3 g4 g5
 obtain⟨f0,e0,_,w0⟩:=DataW.trod_string Tryz.underlying9 g0
 obtain⟨f1,u1,q1,e1,hu1,hr1⟩:=ZL (X:=G) (val:=G.atom) (Good:=G.ok) (s:=2) Tryz.underlying22 (by kernel_rfl) (by omega) (fun t=>by rw[Yc];rfl) (fun m cs y _ hy=>Qlw enc W m cs y hy) g1
 have n1:=ZM hr1
 obtain⟨f2,u2,q2,e2,hu2,hr2⟩:=ZL (X:=G) (val:=G.atom) (Good:=G.ok) (s:=2) Tryz.underlying22 (by kernel_rfl) (by omega) (fun t=>by rw[Yc];rfl) (fun m cs y _ hy=>Qlw enc W m cs y hy) g2
 have n2:=ZM hr2
 obtain⟨f3,u3,q3,e3,hu3,hr3⟩:=ZL (X:=G) (val:=G.goal) (Good:=G.ok) (s:=3) Tryz.underlying23 (by kernel_rfl) (by omega) (fun t=>by rw[QJ];rfl) (fun m cs y _ hy=>Qlx enc W m cs y hy) g3
 have n3:=ZM hr3
 obtain⟨f4,u4,q4,e4,hu4,hr4⟩:=ZL (X:=G) (val:=G.goal) (Good:=G.ok) (s:=3) Tryz.underlying23 (by kernel_rfl) (by omega) (fun t=>by rw[QJ];rfl) (fun m cs y _ hy=>Qlx enc W m cs y hy) g4
 have n4:=ZM hr4
 obtain⟨f5,e5,_,w5⟩:=DataW.trod_int Tryz.underlying3 g5
 cases e0
 cases e1
 cases e2
 cases e3
 cases e4
 cases e5
 refine⟨⟨f0,f1,f2,f3,f4,f5⟩,⟨QlN w0,n1,n2,n3,n4,q1,q2,q3,q4⟩,rfl,fun j x v hx hv=>?_⟩
 rw[Rl.cells]at hx
 match j,hx,hv with
 |0,hx,hv=>simp at hx hv;subst hx;subst hv;exact⟨.v _,rfl⟩
 |1,hx,hv=>simp at hx hv;subst hx;subst hv;exact⟨hr1,hu1⟩
 |2,hx,hv=>simp at hx hv;subst hx;subst hv;exact⟨hr2,hu2⟩
 |3,hx,hv=>simp at hx hv;subst hx;subst hv;exact⟨hr3,hu3⟩
 |4,hx,hv=>simp at hx hv;subst hx;subst hv;exact⟨hr4,hu4⟩
 |5,hx,hv=>simp at hx hv;subst hx;subst hv;exact⟨.v _,rfl⟩
 |j+6,hx,hv=>simp at hx
theorem Qrg{H:Type}(enc:TypeId×Value->H)(W:World)(fuel:Nat)(cs:List Value)(y:DataW H×List MemPlace)(h:DataW.trod enc Tryz.prog W 0 (fun _=>true) true fuel 38 cs=some y):∃p:Dc,Dc.ok p/\Reads W (Dc.av p) cs:=by
 obtain⟨xs,fu,hfu,_,hl,hlen,hf⟩:=DataW.trod_struct Tryz.underlying38 h
 have hC:Tryz.prog.cellsOf 38=2:=by kernel_rfl
 rw[hC]at hl
 have hlenN:xs.length=2:=hlen
 obtain⟨y0,l1,rfl,k1⟩:=QV hlenN
 obtain⟨y1,l2,rfl,k2⟩:=QV k1
 obtain rfl:=len_nil k2
 obtain⟨c0,l1,rfl,k1⟩:=QV hl
 obtain⟨c1,l2,rfl,k2⟩:=QV k1
 obtain rfl:=len_nil k2
 have g0:DataW.trod enc Tryz.prog W 0 (fun _=>true) true fu 9 (([c0,c1].drop 0).take (Tryz.prog.cellsOf 9))=some y0:=hf 0 _ rfl
 rw[show Tryz.prog.cellsOf 9=1 by kernel_rfl]at g0
 have g1:DataW.trod enc Tryz.prog W 0 (fun _=>true) true fu 3 (([c0,c1].drop 1).take (Tryz.prog.cellsOf 3))=some y1:=hf 1 _ rfl
 rw[show Tryz.prog.cellsOf 3=1 by kernel_rfl]at g1
 clear hf
 simp only[QyA,Qys,Qyu,QyB]at g0 g1
 obtain⟨f0,e0,_,w0⟩:=DataW.trod_string Tryz.underlying9 g0
 obtain⟨f1,e1,_,w1⟩:=DataW.trod_int Tryz.underlying3 g1
 cases e0
 cases e1
 refine⟨⟨f0,f1⟩,⟨QlN w0,Qnj w1⟩,rfl,fun j x v hx hv=>?_⟩
 rw[Dc.cells]at hx
 match j,hx,hv with
 |0,hx,hv=>simp at hx hv;subst hx;subst hv;exact⟨.v _,rfl⟩
 |1,hx,hv=>simp at hx hv;subst hx;subst hv;exact⟨.v _,rfl⟩
 |j+2,hx,hv=>simp at hx
theorem Qly{H:Type}(enc:TypeId×Value->H)(W:World)(fuel:Nat)(cs:List Value)(y:DataW H×List MemPlace)(h:DataW.trod enc Tryz.prog W 0 (fun _=>true) true fuel 35 cs=some y):∃p:Pg,Pg.ok p/\Reads W (Pg.av p) cs:=by
 obtain⟨xs,fu,hfu,_,hl,hlen,hf⟩:=DataW.trod_struct Tryz.underlying35 h
 have hC:Tryz.prog.cellsOf 35=2:=by kernel_rfl
 rw[hC]at hl
 have hlenN:xs.length=2:=hlen
 obtain⟨y0,l1,rfl,k1⟩:=QV hlenN
 obtain⟨y1,l2,rfl,k2⟩:=QV k1
 obtain rfl:=len_nil k2
 obtain⟨c0,l1,rfl,k1⟩:=QV hl
 obtain⟨c1,l2,rfl,k2⟩:=QV k1
 obtain rfl:=len_nil k2
 have g0:DataW.trod enc Tryz.prog W 0 (fun _=>true) true fu 33 (([c0,c1].drop 0).take (Tryz.prog.cellsOf 33))=some y0:=hf 0 _ rfl
 rw[show Tryz.prog.cellsOf 33=1 by kernel_rfl]at g0
 have g1:DataW.trod enc Tryz.prog W 0 (fun _=>true) true fu 27 (([c0,c1].drop 1).take (Tryz.prog.cellsOf 27))=some y1:=hf 1 _ rfl
 rw[show Tryz.prog.cellsOf 27=1 by kernel_rfl]at g1
 clear hf
 simp only[QyA,Qys,Qyu,QyB]at g0 g1
 obtain⟨f0,u0,q0,e0,hu0,hr0⟩:=ZL (X:=Dc) (val:=Dc.av) (Good:=Dc.ok) (s:=2) Tryz.underlying33 (by kernel_rfl) (by omega) (fun t=>by rw[Dc.cells];rfl) (fun m cs y _ hy=>Qrg enc W m cs y hy) g0
 have n0:=ZM hr0
 obtain⟨f1,u1,q1,e1,hu1,hr1⟩:=ZL (X:=Rl) (val:=Rl.av) (Good:=Rl.ok) (s:=6) Tryz.underlying27 (by kernel_rfl) (by omega) (fun t=>by rw[Rl.cells];rfl) (fun m cs y _ hy=>Qrh enc W m cs y hy) g1
 have n1:=ZM hr1
 cases e0
 cases e1
 refine⟨⟨f0,f1⟩,⟨n0,n1,q0,q1⟩,rfl,fun j x v hx hv=>?_⟩
 rw[Pg.cells]at hx
 match j,hx,hv with
 |0,hx,hv=>simp at hx hv;subst hx;subst hv;exact⟨hr0,hu0⟩
 |1,hx,hv=>simp at hx hv;subst hx;subst hv;exact⟨hr1,hu1⟩
 |j+2,hx,hv=>simp at hx
mutual
def T.Qxz:T->Bool
 | .mk k i n l =>
  if k=0 then decide (-2147483648<=i/\i<=2147483648)&&XN n&&l.isEmpty else
  if k=1 then decide (0<=i/\i<=1048576)&&XN n&&l.isEmpty else
  if k=2 then(if i≠0\/6<l.length then false else if (!X2 n&&!(opB n&&decide (l.length=2)))=true then false else Qbz l)else false
def Qbz:List T->Bool
 |[]=>true
 |t::l=>t.Qxz&&Qbz l
end
theorem T.QxM(t:T):t.Qxz=if t.kind=0 then decide (-2147483648<=t.int/\t.int<=2147483648)&&XN t.name&&t.args.isEmpty else
  if t.kind=1 then decide (0<=t.int/\t.int<=1048576)&&XN t.name&&t.args.isEmpty else
  if t.kind=2 then(if t.int≠0\/6<t.args.length then false else if (!X2 t.name&&!(opB t.name&&decide (t.args.length=2)))=true then false else Qbz t.args)else false:=by
 cases t;rw[T.Qxz];rfl
mutual
theorem T.Qx3:∀(t:T) (b d:Int),(t.run b d).1=(t.Qxz&&decide ((t.size:Int)<=b/\(t.dep:Int)<=d))/\((t.run b d).1=true->(t.run b d).2=b - t.size)
 | .mk k i n l,b,d=>by
  have hs:=size_pos (.mk k i n l)
  have hd:1<=(T.mk k i n l).dep:=by rw[T.Qye];omega
  rw[T.run,T.Qxz]
  by_cases h1:b - 1<0\/d<1
  ·rw[Qzh h1,Qzt (show ¬(((T.mk k i n l).size:Int)<=b/\((T.mk k i n l).dep:Int)<=d) by omega),QAX]
   exact⟨rfl,fun h=>by cases h⟩
  rw[Qzf h1]
  have one:k≠2->(T.mk k i n l).size=1/\(T.mk k i n l).dep=1:=fun h=>by simp only[T.size,T.dep,Qzf h];exact⟨trivial,trivial⟩
  by_cases k0:k=0
  ·obtain⟨e1,e2⟩:=one (by omega)
   rw[Qzh k0,Qzh k0,e1,e2,QzA (show((1:Nat):Int)<=b/\((1:Nat):Int)<=d by omega),Bool.and_true]
   exact⟨rfl,fun _=>rfl⟩
  rw[Qzf k0,Qzf k0]
  by_cases k1:k=1
  ·obtain⟨e1,e2⟩:=one (by omega)
   rw[Qzh k1,Qzh k1,e1,e2,QzA (show((1:Nat):Int)<=b/\((1:Nat):Int)<=d by omega),Bool.and_true]
   exact⟨rfl,fun _=>rfl⟩
  rw[Qzf k1,Qzf k1]
  by_cases k2:k=2
  ·rw[Qzh k2,Qzh k2]
   by_cases h2:i≠0\/6<l.length
   ·rw[Qzh h2,Qzh h2];exact⟨rfl,fun h=>by cases h⟩
   rw[Qzf h2,Qzf h2]
   by_cases h3:(!X2 n&&!(opB n&&decide (l.length=2)))=true
   ·rw[Qzh h3,Qzh h3];exact⟨rfl,fun h=>by cases h⟩
   rw[Qzf h3,Qzf h3]
   have e1:(T.mk k i n l).size=1+sizes l:=by simp only[T.size,Qzh k2]
   have e2:(T.mk k i n l).dep=1+deps l:=by simp only[T.dep,Qzh k2]
   obtain⟨r1,r2⟩:=Qc2 l (b - 1) (d - 1) (by omega) (by omega)
   rw[e1,e2]
   refine⟨?_,fun h=>by rw[r2 h];omega⟩
   rw[r1]
   congr 1
   exact decide_eq_decide.2 (by omega)
  ·rw[Qzf k2,Qzf k2];exact⟨rfl,fun h=>by cases h⟩
theorem Qc2:∀(l:List T) (b d:Int),0<=b->0<=d->(runL l b d).1=(Qbz l&&decide ((sizes l:Int)<=b/\(deps l:Int)<=d))/\((runL l b d).1=true->(runL l b d).2=b - sizes l)
 |[],b,d,hb,hd=>by
  rw[runL,Qbz,sizes,deps,QzA (show((0:Nat):Int)<=b/\((0:Nat):Int)<=d by omega)]
  exact⟨rfl,fun _=>by omega⟩
 |t::l,b,d,hb,hd=>by
  obtain⟨r1,r2⟩:=T.Qx3 t b d
  rw[runL,Qbz,sizes,deps]
  by_cases h:(t.run b d).1=true
  ·rw[Qzh h]
   have e:=r2 h
   rw[r1,Qzk,Qzu]at h
   obtain⟨hf,h1,h2⟩:=h
   obtain⟨q1,q2⟩:=Qc2 l (t.run b d).2 d (by omega) hd
   rw[hf,Qy3]
   refine⟨?_,fun h=>by rw[q2 h];omega⟩
   rw[q1]
   congr 1
   exact decide_eq_decide.2 (by omega)
  ·rw[Qzf h]
   refine⟨?_,fun h=>by cases h⟩
   rw[r1]at h
   cases hf:t.Qxz with
   |false=>rfl
   |true =>
    rw[hf,Qy3,Qzu]at h
    rw[Qzt (by omega),QAX]
end
theorem Qm6:∀(l:List UInt8) (a n:Nat),Lib.decFrom a l=some n->(∀c∈l,isD c=true)/\l.foldl (fun n c=>10 * n+(c.toNat - 48)) a=n
 |[],a,n,h=>by
  rw[Lib.decFrom]at h;cases h;exact⟨fun c hc=>(by cases hc),rfl⟩
 |c::l,a,n,h=>by
  rw[Lib.decFrom]at h
  cases hd:Lib.digitVal c with
  |none=>rw[hd]at h;cases h
  |some d =>
   rw[hd]at h
   have ih:=Qm6 l _ n h
   rw[Lib.digitVal]at hd
   split at hd
   ·rename_i hc
    cases hd
    refine⟨fun x hx=>?_,?_⟩
    ·rcases Qzn.1 hx with rfl|hx
     ·rw[isD,Qzu];exact hc
     ·exact ih.1 x hx
    ·rw[List.foldl_cons,<-ih.2];congr 1;omega
   ·cases hd
theorem QhN{p:UInt8->Bool}{l r:List UInt8}(h:∀c∈l,p c=true)(hr:∀c q,r=c::q->p c=false):(l++r).takeWhile p=l/\(l++r).dropWhile p=r:=by
 induction l with
 |nil =>
  cases r with
  |nil=>exact⟨rfl,rfl⟩
  |cons c q =>
   have:=hr c q rfl
   simp[QAU,List.dropWhile_cons,this]
 |cons c l ih =>
  have hc:=h c (by simp)
  have ih:=ih fun x hx=>h x (by simp[hx])
  rw[QyL,QAU,List.dropWhile_cons,Qzh hc,Qzh hc,ih.1,ih.2]
  exact⟨rfl,rfl⟩
theorem QbW(n:Nat):(∀c∈Lib.decDigits n,isD c=true)/\numVal (Lib.decDigits n)=n:=Qm6 _ _ _ (QgF n)
theorem Qjj(n:Nat):∃d r,Lib.decDigits n=d::r/\isD d=true/\(0<n->d.toNat≠48):=by
 induction n using Nat.strongRecOn with
 |_ n ih =>
  have hd:=(QbW n).1
  by_cases hn:n<10
  ·have e:Lib.decDigits n=[UInt8.ofNat (48+n)]:=by rw[Lib.decDigits,dif_pos hn]
   rw[e]at hd
   refine⟨_,_,e,hd _ (by simp),fun h=>?_⟩
   have:(UInt8.ofNat (48+n)).toNat=48+n:=by simp[UInt8.toNat_ofNat'];omega
   omega
  ·have e:Lib.decDigits n=Lib.decDigits (n / 10)++[UInt8.ofNat (48+n % 10)]:=by rw[Lib.decDigits,dif_neg hn]
   obtain⟨d,r,e2,h1,h2⟩:=ih (n / 10) (by omega)
   exact⟨d,r++[UInt8.ofNat (48+n % 10)],by rw[e,e2];rfl,h1,fun _=>h2 (by omega)⟩
theorem QqJ(s:ByteArray):mkB s.data.toList=s:=by cases s;rfl
theorem QnX(k:Nat)(hk:k<=1048576):varV (vOf (decN k))=some k:=by
 have e:(vOf (decN k)).data.toList=86::(decN k).data.toList:=QC _ _
 rw[varV,e,List.drop_succ_cons,QyA,QbV,QgF]
 simp only
 rw[Qzh ⟨hk,by rw[e,QbV]⟩]
theorem Qvs{s:ByteArray}(h:opB s=false):ofB s=0:=by
 simp only[opB,Bool.or_eq_false_iff]at h
 obtain⟨⟨⟨⟨h1,h2⟩,h3⟩,h4⟩,h5⟩:=h
 rw[ofB,h1,h2,h3,h4,h5];rfl
theorem Quh{s:ByteArray}(h:opB s=true):ofB s=if ((s.toList==({data:=#[43]}:ByteArray).toList)||(s.toList==({data:=#[45]}:ByteArray).toList))=true then 1 else 2:=by
 rw[ofB]
 cases h1:(s.toList==({data:=#[43]}:ByteArray).toList)||(s.toList==({data:=#[45]}:ByteArray).toList)with
 |true=>rfl
 |false =>
  simp only[opB,h1,QAM]at h
  rw[Qzf (by simp),Qzh h,Qzf (by simp)]
theorem T.QxI{t:T}(hf:t.Qxz=true)(k2:t.kind=2):t.int=0/\t.args.length<=6/\(X2 t.name=true\/opB t.name=true/\t.args.length=2)/\Qbz t.args=true:=by
 rw[T.QxM,Qzf (by omega),Qzf (by omega),Qzh k2]at hf
 split at hf
 ·cases hf
 rename_i h1
 split at hf
 ·cases hf
 rename_i h2
 refine⟨by omega,by omega,?_,hf⟩
 cases hr:X2 t.name with
 |true=>exact .inl rfl
 |false =>
  refine .inr ?_
  rw[hr]at h2
  cases ho:opB t.name with
  |false=>rw[ho]at h2;exact absurd rfl h2
  |true =>
   rw[ho]at h2
   refine⟨rfl,?_⟩
   apply Classical.byContradiction
   intro hc
   rw[Qzt hc]at h2
   exact h2 rfl
theorem T.Qx2(t:T):t.oper=0\/t.oper=1\/t.oper=2:=by
 rw[T.oper];split
 ·exact .inl rfl
 ·rw[ofB];split
  ·exact .inr (.inl rfl)
  ·split
   ·exact .inr (.inr rfl)
   ·exact .inl rfl
theorem Zh:∀{l:List T},Qbz l=true->∀t∈l,t.Qxz=true
 |x::l,h,t,ht=>by
  simp only[Qbz,Qzk]at h
  rcases Qzn.1 ht with rfl|ht
  ·exact h.1
  ·exact Zh h.2 t ht
theorem Qcr{s:ByteArray}(h:X2 s=true):∃c q,s.data.toList=c::q/\(97<=c.toNat/\c.toNat<=122)/\∀x∈s.data.toList,isW x=true:=by
 rw[X2,Qzk,Qzu]at h
 obtain⟨⟨h1,h2,h3,h4⟩,_⟩:=h
 have hl:0<s.data.toList.length:=by rw[<-Lib.size_eq];omega
 obtain⟨c,q,e⟩:∃c q,s.data.toList=c::q:=by
  cases hh:s.data.toList with
  |nil=>rw[hh]at hl;cases hl
  |cons c q=>exact⟨c,q,rfl⟩
 refine⟨c,q,e,?_,fun x hx=>?_⟩
 ·have hb:byteAt s 0=(c.toNat:Nat):=by rw[byteAt,e];rfl
  rw[hb]at h3
  unfold ofN at h3
  split at h3
  ·omega
  ·split at h3
   ·cases h3
   ·split at h3 <;> cases h3
 ·obtain⟨k,hk,ek⟩:=List.getElem_of_mem hx
  have:=h4 k (by rw[Lib.size_eq];exact hk)
  have hb:byteAt s k=(x.toNat:Nat):=by rw[byteAt,QzQ,Qzg hk,ek];rfl
  rw[hb,Qmi]at this
  rw[isW,isL,isD,QzW,Qzu,Qzu]
  omega
def C(op:List UInt8->Res T)(st:Int)(t:T)(r:List UInt8):Res T:=QpL op st (r.length+1) t r
structure After (r:List UInt8):Prop where
 word:∀c q,r=c::q->isW c=false
 par:∀c q,skipSp r=c::q->c.toNat≠40
abbrev O(s:Bool)(n:Nat):List UInt8->Res T:=Qvw s (Qvu s n)
def tlT(t:T):List UInt8:=t.txt.data.toList
def Sc(tot:Nat)(w:List UInt8)(ts:List Tk):Prop:=∀m,w.length<m->Qbt tot m w = .inl ts
theorem Sc.nil(tot:Nat):Sc tot [] [⟨0,((tot:Nat):Int),eB⟩]:=by
 intro m hm
 obtain⟨m,rfl⟩:∃k,m=k+1:=⟨m - 1,by simp at hm;omega⟩
 rfl
theorem Sc.sp{tot:Nat}{w:List UInt8}{ts:List Tk}{c:UInt8}(hc:isSp c=true)(h:Sc tot w ts):Sc tot (c::w) ts:=by
 intro m hm
 obtain⟨m,rfl⟩:∃k,m=k+1:=⟨m - 1,by simp at hm;omega⟩
 have e:Xy false (c::w)=Xy false w:=by rw[Xy,Qzh hc]
 have:=h (m+1) (by simp only[Qyw]at hm;omega)
 rw[Qbt]at this ⊢
 rw[e];exact this
theorem QiY{x w:List UInt8}{k:Int}(hx:ZO (x++w) = .inl (k,x))(hk:k≠0):x≠[]/\Xy false (x++w)=x++w:=by
 rcases Qkh hx with⟨h,_⟩|⟨_,h1,_⟩
 ·exact absurd h hk
 refine⟨h1,?_⟩
 cases x with
 |nil=>exact absurd rfl h1
 |cons c r =>
  rw[QyL,Xy,Qzf,Qzf]
  ·intro h
   rw[QyL,QrD _ (.inr h)]at hx;cases hx
  ·intro h
   rw[QyL,QrD _ (.inl h)]at hx;cases hx
theorem Sc.tok{tot:Nat}{w:List UInt8}{ts:List Tk}{k:Int}{x:List UInt8}(hx:ZO (x++w) = .inl (k,x))(hk:k≠0)(h:Sc tot w ts):Sc tot (x++w) (⟨k,((tot - (x++w).length:Nat):Int),mkB x⟩::ts):=by
 intro m hm
 obtain⟨m,rfl⟩:∃k,m=k+1:=⟨m - 1,by omega⟩
 obtain⟨h1,h2⟩:=QiY hx hk
 have hl:0<x.length:=QAq.2 h1
 rw[Qbt,h2,hx]
 simp only
 rw[Qzf hk,List.drop_left,h m (by rw[Qza]at hm;omega)]
theorem Sc.ne{tot:Nat}{w:List UInt8}{ts:List Tk}(h:Sc tot w ts):ts≠[]:=by
 have:=h (w.length+1) (QAV _)
 rw[Qbt]at this
 intro e
 subst e
 split at this
 ·cases this
 ·split at this
  ·cases this
  ·split at this <;> cases this
theorem knx{t:Tk}{ts:List Tk}(h:ts≠[])(N:List ByteArray):PS.nx ⟨t::ts,N⟩=⟨ts,N⟩:=by
 cases ts with
 |nil=>exact absurd rfl h
 |cons u r=>rfl
theorem QuD(t:Tk)(ts:List Tk)(N:List ByteArray):PS.tk ⟨t::ts,N⟩=t:=rfl
def symT(tot:Nat)(x w:List UInt8):Tk:=⟨4,((tot - (x++w).length:Nat):Int),mkB x⟩
theorem Sc.sym{tot:Nat}{w:List UInt8}{ts:List Tk}(x:List UInt8)(h0:∀c r,x=c::r->isL c=false/\isD c=false)(hne:x≠[])(hx:QhL (x++w)=some x)(h:Sc tot w ts):Sc tot (x++w) (symT tot x w::ts):=by
 refine Sc.tok ?_ (by decide) h
 cases x with
 |nil=>exact absurd rfl hne
 |cons c r =>
  obtain⟨h1,h2⟩:=h0 c r rfl
  rw[QyL]at hx ⊢
  rw[ZO,Qzf (by rw[h1];decide),Qzf (by rw[h2];decide),hx]
theorem Xj(tot:Nat)(x w:List UInt8)(ts:List Tk)(N:List ByteArray)(b:List UInt8):PS.is ⟨symT tot x w::ts,N⟩ b=(x==b):=by
 show(((4:Int)==4)&&((mkB x).toList==b))=_
 rw[ZK];rfl
theorem Qdw(tot:Nat)(x w:List UInt8)(ts:List Tk)(N:List ByteArray)(ops:List (List UInt8)):PS.oneOf ⟨symT tot x w::ts,N⟩ ops=ops.any fun b=>x==b:=by
 unfold PS.oneOf
 congr 1
 funext b
 exact Xj tot x w ts N b
theorem Sc.word{tot:Nat}{w:List UInt8}{ts:List Tk}{c:UInt8}{q:List UInt8}(hc:isL c=true)(hw:∀x∈c::q,isW x=true)(hl:(c::q).length<=40)(ha:∀d r,w=d::r->isW d=false)(h:Sc tot w ts) :
  Sc tot ((c::q)++w) (⟨if 97<=c.toNat then 1 else 2,((tot - ((c::q)++w).length:Nat):Int),mkB (c::q)⟩::ts):=by
 refine Sc.tok ?_ (by split <;> decide) h
 have e:=(QhN (r:=w) hw ha).1
 rw[QyL]at e ⊢
 rw[ZO,Qzh hc,e,Qzf (by omega)]
theorem Sc.digits{tot:Nat}{w:List UInt8}{ts:List Tk}{c:UInt8}{q:List UInt8}(hw:∀x∈c::q,isD x=true)(hl:numVal (c::q)<=2147483648)(ha:∀d r,w=d::r->isD d=false)(h:Sc tot w ts) :
  Sc tot ((c::q)++w) (⟨3,((tot - ((c::q)++w).length:Nat):Int),mkB (c::q)⟩::ts):=by
 refine Sc.tok ?_ (by decide) h
 have e:=(QhN (r:=w) hw ha).1
 have hd:isD c=true:=hw c (by simp)
 have hL:isL c=false:=by
  rw[isD,Qzu]at hd
  rw[isL,decide_eq_false_iff_not];omega
 rw[QyL]at e ⊢
 rw[ZO,Qzf (by rw[hL];decide),Qzh hd,e,Qzf (by omega)]
theorem Sc.wf{tot:Nat}{w:List UInt8}{ts:List Tk}(h:Sc tot w ts)(N:List ByteArray):PS.wf ⟨ts,N⟩:=by
 have:∀(m:Nat) (w:List UInt8) (ts:List Tk),w.length<m->Qbt tot m w = .inl ts->PS.wf ⟨ts,N⟩:=by
  intro m
  induction m with
  |zero=>intro w ts hm;omega
  |succ m ih =>
   intro w ts hm hs
   rw[Qbt]at hs
   have hsk:=Qdu false w
   cases ht:ZO (Xy false w)with
   |inr e=>rw[ht]at hs;cases hs
   |inl p =>
    obtain⟨k,x⟩:=p
    rw[ht]at hs
    simp only at hs
    split at hs
    ·cases hs
     exact⟨[],_,rfl,rfl,fun t ht=>by cases ht⟩
    ·rename_i k0
     rcases Qkh ht with⟨k1,_,_⟩|⟨k1,hx1,r,hx2⟩
     ·exact absurd k1 k0
     ·have hpos:0<x.length:=QAq.2 hx1
      have hlen:x.length<=(Xy false w).length:=by rw[hx2,Qza];omega
      cases h2:Qbt tot m ((Xy false w).drop x.length)with
      |inr e=>rw[h2]at hs;cases hs
      |inl us =>
       rw[h2]at hs
       cases hs
       obtain⟨l,e,h3,h4,h5⟩:=ih _ us (by rw[QzM];omega) h2
       refine⟨_::l,e,by rw[show us=l++[e]from h3];rfl,h4,fun t ht=>?_⟩
       rcases Qzn.1 ht with rfl|ht
       ·exact k0
       ·exact h5 t ht
 exact this (w.length+1) w ts (QAV _) (h _ (QAV _))
theorem Qmc{ex ex':PS->PR T}(hE:Eat 0 ex){N:Nat}(hx:∀s,s.wf->s.toks.length<=N->ex s=ex' s){s:PS}(hs:s.wf)(h:s.toks.length<=N+1):XB (XB (pOpT ex) Xq) Yr s=XB (XB (pOpT ex') Xq) Yr s:=by
 have hop:∀s,s.wf->s.toks.length<=N+1->pOpT ex s=pOpT ex' s:=fun s hs h=>by
  rw[pOpT,pOpT]
  split
  ·rfl
  split
  ·rfl
  split
  ·rename_i hk
   congr 1
   rw[Zq,Zq]
   refine bind_congr fun x s1 h1=>?_
   obtain⟨w1,l1⟩:=Qex s hs x s1 h1
   split
   ·rename_i hc
    have hl:=XX w1 (by rw[Qxv hc];decide)
    rw[Qgt hE (ex':=ex') (N:=N) hx s1.toks.length s1.toks.length [] s1.nx (Qae w1) (by omega) (by omega) (by omega)]
   ·rfl
  split
  ·rfl
  split
  ·rename_i hc
   have hl:=XX hs (by rw[Qxv hc];decide)
   rw[hx s.nx (Qae hs) (by omega)]
  ·rfl
 have hO:=(Qhx hE).less (Qzy 1)
 have hmul:∀s,s.wf->s.toks.length<=N+1->XB (pOpT ex) Xq s=XB (pOpT ex') Xq s:=fun s hs h=>by
  rw[XB,XB,<-hop s hs h]
  refine bind_congr fun t s1 h1=>?_
  obtain⟨w1,l1⟩:=hO s hs t s1 h1
  exact QaK hO Xq hop _ _ t s1 w1 (by omega) (by omega) (by omega)
 have hM:=QbU hO Xq
 show(XB (pOpT ex) Xq s).bind (fun t s=>XW (XB (pOpT ex) Xq) Yr s.toks.length t s)=(XB (pOpT ex') Xq s).bind (fun t s=>XW (XB (pOpT ex') Xq) Yr s.toks.length t s)
 rw[<-hmul s hs h]
 refine bind_congr fun t s1 h1=>?_
 obtain⟨w1,l1⟩:=hM s hs t s1 h1
 exact QaK hM Yr hmul _ _ t s1 w1 (by omega) (by omega) (by omega)
abbrev OKt:PS->PR T:=pOpT XD
abbrev MKt:PS->PR T:=XB OKt Xq
def CC(op:PS->PR T)(ops:List (List UInt8))(t:T)(s:PS):PR T:=XW op ops s.toks.length t s
theorem Qpl:Eat 0 OKt:=(Qhx (QaF.less (Qzy 1))).less (Qzy 1)
theorem QtD:Eat 0 MKt:=QbU Qpl Xq
theorem Qkc{s:PS}(hs:s.wf):XD s=(MKt s).bind fun t s=>CC MKt Yr t s:=by
 have h1:XD s=Ys (s.toks.length+2) s:=(Qfl hs (by omega)).symm
 rw[h1]
 show XB (XB (pOpT (Ys (s.toks.length+1))) Xq) Yr s=XB (XB (pOpT XD) Xq) Yr s
 exact Qmc ((QcK _).less (Qzy 1)) (N:=s.toks.length) (fun s' hs' hl=>Qfl hs' (by omega)) hs (by omega)
theorem Qkq(s:PS):MKt s=(OKt s).bind fun t s=>CC OKt Xq t s:=rfl
theorem QdQ{op:PS->PR T}{ops:List (List UInt8)}{t:T}{s:PS}(h:s.oneOf ops=false):CC op ops t s = .ok t s:=by
 unfold CC
 cases s.toks.length with
 |zero=>rfl
 |succ m=>rw[XW,Qzf (by rw[h];decide)]
theorem Qpi{op:PS->PR T}(H:Eat 0 op){ops:List (List UInt8)}{t u:T}{s s2:PS}(hs:s.wf)(h:s.oneOf ops=true)(ho:op s.nx = .ok u s2):CC op ops t s=CC op ops (.mk 2 0 s.tk.text [t,u]) s2:=by
 have hl:=XX hs (by rw[Qfb h];decide)
 obtain⟨w2,l2⟩:=H s.nx (Qae hs) u s2 ho
 unfold CC
 rw[<-hl,XW,Qzh h,ho]
 exact QaK H ops (N:=s.nx.toks.length) (fun _ _ _=>rfl) _ _ _ s2 w2 (by omega) (by omega) (Qzl _)
def labB(v:Int):ByteArray:=vOf (decN v.toNat)
def labs(u:List Int):List ByteArray:=u.map labB
def okV(u:List Int):Prop:=∀v∈u,0<=v/\v<=1048576
theorem okV.ins{u:List Int}(h:okV u){v:Int}(hv:0<=v/\v<=1048576):okV (ins u v):=fun w hw=>by
 rcases Qhn.1 hw with h1|rfl
 ·exact h w h1
 ·exact hv
theorem Qno(v:Int):(labB v).toList=86::(decN v.toNat).data.toList:=by rw[Lib.toList_data];exact QC _ _
theorem Que{v w:Int}(hv:0<=v/\v<=1048576)(hw:0<=w/\w<=1048576)(h:(labB v).toList=(labB w).toList):v=w:=by
 rw[Lib.toList_data,Lib.toList_data]at h
 have e:labB v=labB w:=by
  cases hx:labB v with|mk a =>
  cases hy:labB w with|mk b =>
  rw[hx,hy]at h
  have:a=b:=Array.toList_inj.1 h
  rw[this]
 have h1:=QnX v.toNat (by omega)
 have h2:=QnX w.toNat (by omega)
 rw[show vOf (decN v.toNat)=labB v from rfl,e]at h1
 rw[show vOf (decN w.toNat)=labB w from rfl]at h2
 rw[h1]at h2
 have:=QAH h2
 omega
theorem Qho{v:Int}(hv:0<=v/\v<=1048576):∀{u:List Int},okV u->nameAt (labs u) (labB v)=plc u v
 |[],_=>rfl
 |a::u,h=>by
  have ha:=h a (by simp)
  have ih:=Qho hv (u:=u) fun w hw=>h w (by simp[hw])
  show List.findIdx _ (labB a::labs u)=_
  rw[List.findIdx_cons,plc]
  by_cases e:a=v
  ·subst e
   rw[Qzh rfl,beq_self_eq_true];rfl
  ·have:((labB a).toList==(labB v).toList)=false:=by
    rw[QAi]
    exact fun q=>e (Que ha hv q)
   rw[Qzf e,this]
   show nameAt (labs u) (labB v)+1=_
   rw[ih]
theorem Qsk(u:List Int):(labs u).length=u.length:=QzJ _
theorem Qs1{v:Int}(hv:0<=v/\v<=1048576){u:List Int}(hu:okV u)(ts:List Tk):pVari (labB v) ⟨ts,labs u⟩=(.mk 1 (gNum u v).1 eB [],⟨ts,labs (gNum u v).2⟩):=by
 have h95:(labB v).toList≠[95]:=by rw[Qno];intro h;cases h
 unfold pVari
 simp only[gNum]
 rw[Qho hv hu,Qsk]
 by_cases hm:v∈u
 ·rw[Qzh ⟨QnI hm,h95⟩]
  rw[show ins u v=u from Qzh hm]
 ·rw[Qzf (by rw[Qq6 hm];omega)]
  rw[show ins u v=u++[v]from Qzf hm,QbM [] hm]
  simp only[labs,Qz3,Qyy,QyC]
def tails:List T->List UInt8
 |[]=>[]
 |t::l=>44::32::(tlT t++tails l)
theorem QiZ:∀l:List T,(Xw false (txts l)).data.toList=tails l
 |[]=>rfl
 |t::l=>by
  rw[txts,Xw,QC,QiZ l,Qzf (by simp),QC]
  rfl
theorem QqW{t:T}(hf:t.Qxz=true)(h0:t.oper≠0):∃(c:UInt8) (x y:T),t = .mk 2 0 (mkB [c]) [x,y]/\ofB (mkB [c])=t.oper/\x.Qxz=true/\y.Qxz=true /\
  tlT t=(encB ((x.oper==1)&&(t.oper==2)) x.txt).data.toList++32::c::32::(encB ((y.oper != 0)&&((y.oper==1)||(t.oper==2))) y.txt).data.toList:=by
 have k2:t.kind=2:=by
  apply Classical.byContradiction;intro h;exact h0 (by rw[T.oper,Qzh (.inl h)])
 have hl:t.args.length=2:=by
  apply Classical.byContradiction;intro h;exact h0 (by rw[T.oper,Qzh (.inr h)])
 have er:t.oper=ofB t.name:=by rw[T.oper,Qzf (by omega)]
 obtain⟨hi,_,_,hfs⟩:=T.QxI hf k2
 obtain⟨x,y,hxy⟩:∃x y,t.args=[x,y]:=by
  match hh:t.args,hl with
  |[x,y],_=>exact⟨x,y,rfl⟩
 have hop:opB t.name=true:=by
  cases h:opB t.name with
  |true=>rfl
  |false=>exact absurd (by rw[er,Qvs h]) h0
 obtain⟨c,ec⟩:∃c,t.name=mkB [c]:=by
  simp only[opB,QzW,QAb,Lib.toList_data]at hop
  rcases hop with(((h|h)|h)|h)|h
  all_goals exact⟨_,by rw[<-QqJ t.name,h]⟩
 rw[hxy]at hfs
 refine⟨c,x,y,?_,?_,Zh hfs x (by simp),Zh hfs y (by simp),?_⟩
 ·cases t with|mk k i nm l=>simp only[T.kind,T.int,T.name,T.args]at k2 hi ec hxy;rw[k2,hi,ec,hxy]
 ·rw[er,ec]
 ·have:t.txt=binT (ofB t.name) t.name x.oper y.oper x.txt y.txt:=by
   cases t with|mk k i nm l =>
   simp only[T.args]at hxy
   subst hxy
   rw[T.txt,Qzh h0];rfl
  rw[tlT,this,binT,<-er,ec]
  simp only[QC]
  show _++([32]++[c]++[32])++_=_
  simp
theorem Qci(b:Bool)(x:ByteArray):(encB b x).data.toList=if b=true then 40::(x.data.toList++[41])else x.data.toList:=by
 rw[encB];split
 ·rw[QC,QC];rfl
 ·rfl
abbrev nX(u:List Int)(t:T):T×List Int:=T.mapS gNum u t
abbrev nXs(u:List Int)(l:List T):List T×List Int:=Xn gNum u l
def KWd(w:List UInt8):Prop:=∀c q,w=c::q->isW c=false
structure Aft (w:List UInt8) (ts:List Tk):Prop where
 word:KWd w
 par:∀N,PS.is ⟨ts,N⟩ sLp=false
def NoS(ts:List Tk):Prop:=∀N,PS.oneOf ⟨ts,N⟩ Xq=false
def NoA(ts:List Tk):Prop:=∀N,PS.oneOf ⟨ts,N⟩ Yr=false
theorem KWd.dig{w:List UInt8}(h:KWd w):∀c q,w=c::q->isD c=false:=fun c q e=>by
 have:=h c q e
 rw[isW,Bool.or_eq_false_iff]at this
 exact this.2
theorem KWd.sp(w:List UInt8):KWd (32::w):=fun c q e=>by cases e;decide
def KO(t:T):Prop:=t.oper=0->∀(tot:Nat) (w:List UInt8) (ts:List Tk) (u:List Int),Sc tot w ts->Aft w ts->okV u->(tlT t).length+w.length<=tot ->
 ∃ts',Sc tot (tlT t++w) ts'/\okV (nX u t).2/\OKt ⟨ts',labs u⟩ = .ok (nX u t).1 ⟨ts,labs (nX u t).2⟩
def KP(t:T):Prop:=t.oper≠1->∀(tot:Nat) (w:List UInt8) (ts:List Tk) (u:List Int),Sc tot w ts->Aft w ts->okV u->(tlT t).length+w.length<=tot ->
 ∃ts',Sc tot (tlT t++w) ts'/\okV (nX u t).2/\MKt ⟨ts',labs u⟩=CC OKt Xq (nX u t).1 ⟨ts,labs (nX u t).2⟩
def KE(t:T):Prop:=∀(tot:Nat) (w:List UInt8) (ts:List Tk) (u:List Int),Sc tot w ts->Aft w ts->NoS ts->okV u->(tlT t).length+w.length<=tot ->
 ∃ts',Sc tot (tlT t++w) ts'/\okV (nX u t).2/\XD ⟨ts',labs u⟩=CC MKt Yr (nX u t).1 ⟨ts,labs (nX u t).2⟩
theorem QmR{tot:Nat}{w:List UInt8}{ts:List Tk}{c:UInt8}{x:List UInt8}(hc:isW c=false)(h1:((c::x)==sLp)=false)(h2:Xq.any (fun b=>(c::x)==b)=false)(h3:Yr.any (fun b=>(c::x)==b)=false) :
  Aft ((c::x)++w) (symT tot (c::x) w::ts)/\NoS (symT tot (c::x) w::ts)/\NoA (symT tot (c::x) w::ts):=by
 refine⟨⟨fun d q e=>by cases e;exact hc,fun N=>by rw[Xj];exact h1⟩,fun N=>?_,fun N=>?_⟩
 ·rw[Qdw];exact h2
 ·rw[Qdw];exact h3
theorem QsR{tot:Nat}{w:List UInt8}{ts:List Tk}(h:Sc tot w ts):Sc tot (41::w) (symT tot [41] w::ts):=Sc.sym [41] (fun c r e=>by cases e;decide) (by simp) rfl h
theorem Quv{tot:Nat}{w:List UInt8}{ts:List Tk}(h:Sc tot w ts):Sc tot (40::w) (symT tot [40] w::ts):=Sc.sym [40] (fun c r e=>by cases e;decide) (by simp) rfl h
theorem Qgf{tot:Nat}{w:List UInt8}{ts:List Tk}(h:Sc tot w ts):Sc tot (44::w) (symT tot [44] w::ts):=Sc.sym [44] (fun c r e=>by cases e;decide) (by simp) rfl h
theorem Qep{t:T}(H:KE t){c:UInt8}(hc:c=41\/c=44){tot:Nat}{w:List UInt8}{ts:List Tk}{u:List Int}(h:Sc tot (c::w) (symT tot [c] w::ts))(hu:okV u)(hl:(tlT t).length+w.length+1<=tot) :
  ∃ts',Sc tot (tlT t++c::w) ts'/\okV (nX u t).2/\XD ⟨ts',labs u⟩ = .ok (nX u t).1 ⟨symT tot [c] w::ts,labs (nX u t).2⟩:=by
 have ha:Aft (c::w) (symT tot [c] w::ts)/\NoS (symT tot [c] w::ts)/\NoA (symT tot [c] w::ts):=by
  rcases hc with rfl|rfl
  ·exact QmR (x:=[]) (by decide) (by decide) (by decide) (by decide)
  ·exact QmR (x:=[]) (by decide) (by decide) (by decide) (by decide)
 obtain⟨ts',h1,h2,h3⟩:=H tot (c::w) _ u h ha.1 ha.2.1 hu (by rw[Qyw];omega)
 exact⟨ts',h1,h2,by rw[h3,QdQ (ha.2.2 _)]⟩
theorem Qqv{t:T}(H:KE t){tot:Nat}{w:List UInt8}{ts:List Tk}{u:List Int}(h:Sc tot w ts)(hu:okV u)(hl:(tlT t).length+w.length+2<=tot) :
  ∃ts',Sc tot (40::(tlT t++41::w)) ts'/\okV (nX u t).2/\OKt ⟨ts',labs u⟩ = .ok (nX u t).1 ⟨ts,labs (nX u t).2⟩:=by
 obtain⟨ts1,h1,h2,h3⟩:=Qep H (.inl rfl) (QsR h) hu (by omega)
 refine⟨_,Quv h1,h2,?_⟩
 have k1:=Xj tot [40] (tlT t++41::w) ts1 (labs u)
 have k2:=Xj tot [41] w ts (labs (nX u t).2)
 rw[OKt,pOpT,Qzf (by show(4:Int)≠3;decide),Qzf (by show(4:Int)≠2;decide),Qzf (by show(4:Int)≠1;decide),Qzf (by rw[k1];decide),Qzh (by rw[k1];decide),knx h1.ne,h3]
 show(XE sRp _).bind _=_
 rw[XE,Qzh (by rw[k2];decide),knx h.ne];rfl
theorem QiH:∀(l:List T) (t:T) (acc:List T) (tot:Nat) (w:List UInt8) (ts:List Tk) (u:List Int),(∀x∈t::l,KE x)->Sc tot w ts->okV u->(tlT t).length+(tails l).length+w.length+1<=tot ->
  ∃ts',Sc tot (tlT t++(tails l++41::w)) ts'/\okV (nXs u (t::l)).2/\∀m,ts'.length<m->ZV XD m acc ⟨ts',labs u⟩ = .ok (acc++(nXs u (t::l)).1) ⟨ts,labs (nXs u (t::l)).2⟩
 |[],t,acc,tot,w,ts,u,H,h,hu,hl=>by
  obtain⟨ts1,h1,h2,h3⟩:=Qep (H t (by simp)) (.inl rfl) (QsR h) hu (by simp only[tails,Qyx]at hl;omega)
  refine⟨ts1,h1,h2,fun m hm=>?_⟩
  obtain⟨m,rfl⟩:∃k,m=k+1:=⟨m - 1,by omega⟩
  have k2:=Xj tot [41] w ts (labs (nX u t).2)
  rw[ZV,h3]
  show(if PS.is ⟨_,_⟩ Yb=true then _ else _)=_
  rw[Qzf (by rw[k2];decide)]
  show(XE sRp _).bind _=_
  rw[XE,Qzh (by rw[k2];decide),knx h.ne];rfl
 |x::l,t,acc,tot,w,ts,u,H,h,hu,hl=>by
  have hlen:(tails (x::l)).length=2+(tlT x).length+(tails l).length:=by simp[tails];omega
  have e:∀r,tails (x::l)++r=44::32::(tlT x++(tails l++r)):=fun r=>by simp[tails]
  -- what is behind the first
  have hu1:okV (nX u t).2:=by
   obtain⟨_,_,h2,_⟩:=Qep (H t (by simp)) (.inl rfl) (QsR (Sc.nil tot)) hu (by simp only[Qyx];omega)
   exact h2
  obtain⟨ts1,h1,h2,h3⟩:=QiH l x (acc++[(nX u t).1]) tot w ts (nX u t).2 (fun y hy=>H y (QzV _ hy)) h hu1 (by omega)
  have hsc:=Qgf (Sc.sp (c:=32) (by decide) h1)
  have hw1:(tlT x++(tails l++41::w)).length=(tlT x).length+(tails l).length+w.length+1:=by simp only[Qza,Qyw];omega
  obtain⟨ts2,h4,_,h5⟩:=Qep (H t (by simp)) (.inr rfl) hsc hu (by rw[Qyw,hw1];omega)
  refine⟨ts2,by rw[e];exact h4,h2,fun m hm=>?_⟩
  obtain⟨m,rfl⟩:∃k,m=k+1:=⟨m - 1,by omega⟩
  have k2:=Xj tot [44] (32::(tlT x++(tails l++41::w))) ts1 (labs (nX u t).2)
  have hl2:=(QaF _ (h4.wf (labs u)) _ _ h5).2
  simp only[Qyw]at hl2
  rw[ZV,h5]
  show(if PS.is ⟨_,_⟩ Yb=true then _ else _)=_
  rw[Qzh (by rw[k2];decide),knx h1.ne,h3 m (by omega),Qze]
  rfl
theorem Qdk(name:ByteArray)(t:T)(l:List T):(funT name (txts (t::l))).data.toList=name.data.toList++40::(tlT t++(tails l++[41])):=by
 rw[funT,encB,Qzh (by simp[txts]),QC,QC,QC,txts,Xw,Qzh rfl,QC,QiZ]
 show _++(40::_++[41])=_
 simp[tlT]
theorem QiI(name:ByteArray):(funT name (txts [])).data.toList=name.data.toList:=by
 rw[funT,encB,Qzf (by simp[txts]),txts,Xw,QC];simp
theorem Qc1{s:ByteArray}(h:X2 s=true):resB s=false/\s.data.toList.length<=40:=by
 rw[X2,Qzk,Qzu]at h
 obtain⟨⟨h1,h2,h3,h4⟩,h5⟩:=h
 refine⟨by simpa using h5,?_⟩
 rw[<-Lib.size_eq];omega
theorem Qdj(name:ByteArray)(hr:X2 name=true)(l:List T)(H:∀t∈l,KE t){tot:Nat}{w:List UInt8}{ts:List Tk}{u:List Int}(h:Sc tot w ts)(ha:Aft w ts)(hu:okV u)(hl:(funT name (txts l)).data.toList.length+w.length<=tot) :
  ∃ts',Sc tot ((funT name (txts l)).data.toList++w) ts'/\okV (nXs u l).2/\(∃p r,ts'=⟨1,p,name⟩::r/\r≠[]/\((∀N,PS.is ⟨ts,N⟩ sAt=false)->∀N,PS.is ⟨r,N⟩ sAt=false))/\Zq XD ⟨ts',labs u⟩ = .ok ⟨0,name,(nXs u l).1⟩ ⟨ts,labs (nXs u l).2⟩:=by
 obtain⟨c,q,e,hc,hall⟩:=Qcr hr
 obtain⟨hres,h40⟩:=Qc1 hr
 have hL:isL c=true:=by rw[isL,Qzu];omega
 have hk:(if 97<=c.toNat then(1:Int)else 2)=1:=Qzh hc.1
 have hname:mkB (c::q)=name:=by rw[<-e];cases name;rfl
 rw[e]at hall h40
 cases l with
 |nil =>
  have hs:=Sc.word hL hall h40 ha.word h
  rw[hk,hname]at hs
  refine⟨_,by rw[QiI,e];exact hs,hu,⟨_,_,rfl,h.ne,fun q=>q⟩,?_⟩
  rw[Zq,QaM,Qzf (by show ¬((1:Int)≠1);decide),Qzf (by show ¬resB name=true;rw[hres];decide),knx h.ne]
  show(if PS.is ⟨ts,_⟩ sLp=true then _ else _)=_
  rw[Qzf (by rw[ha.par];decide)];rfl
 |cons t l =>
  rw[Qdk]at hl
  simp only[Qza,Qyw,Qyx]at hl
  obtain⟨ts1,h1,h2,h3⟩:=QiH l t [] tot w ts u H h hu (by omega)
  have hs1:=Quv h1
  have hs:=Sc.word hL hall h40 (fun d r e=>by cases e;decide) hs1
  rw[hk,hname]at hs
  refine⟨_,by rw[Qdk,e];simpa using hs,h2,⟨_,_,rfl,by simp,fun _ N=>by rw[Xj];decide⟩,?_⟩
  have k1:=Xj tot [40] (tlT t++(tails l++41::w)) ts1 (labs u)
  rw[Zq,QaM,Qzf (by show ¬((1:Int)≠1);decide),Qzf (by show ¬resB name=true;rw[hres];decide),knx (by simp)]
  show(if PS.is ⟨_,_⟩ sLp=true then _ else _)=_
  rw[Qzh (by rw[k1];decide),knx h1.ne,h3 _ (by simp)];rfl
theorem QtM{n:Nat}(h:n<10000000000):(Lib.decDigits n).length<=10:=by
 rw[Lib.decDigits_length]
 exact QbC 9 n (QzI h (by decide))
theorem Qud{t:T}(hf:t.Qxz=true)(H:∀a∈t.args,KE a):KO t:=by
 intro h0 tot w ts u hS ha hu hl
 have et:∀(e:t.oper=0),t.txt=if t.kind=0 then decZ t.int else if t.kind=1 then vOf (decN t.int.toNat)else funT t.name (txts t.args):=fun e=>by
  cases t with|mk k i nm l=>rw[T.txt,Qzf (by rw[e];simp)];rfl
 have hfe:=hf
 rw[T.QxM]at hfe
 have simple:∀{k:Int},t.kind=k->(XN t.name&&t.args.isEmpty)=true->t = .mk k t.int eB []:=fun hk he=>by
  rw[Qzk]at he
  have e1:t.name=eB:=by
   have:=QaL he.1
   cases hh:t.name with|mk d =>
   rw[hh]at this
   have:d.size=0:=this
   have:d=#[]:=Array.eq_empty_of_size_eq_zero this
   rw[this];rfl
  have e2:t.args=[]:=by simpa using he.2
  cases t with|mk k' i nm l=>simp only[T.kind,T.name,T.args,T.int]at hk e1 e2 ⊢;rw[hk,e1,e2]
 by_cases k0:t.kind=0
 ·rw[Qzh k0]at hfe
  simp only[Bool.and_assoc,Qzk,Qzu]at hfe
  have es:=simple k0 (by rw[Qzk];exact hfe.2)
  have e2:tlT t=(decZ t.int).data.toList:=by rw[tlT,et h0,Qzh k0]
  have hn:nX u t=(t,u):=by rw[nX,T.QxB,Qzf (by omega),Qzf (by omega)]
  rw[hn]
  by_cases hi:t.int<0
  ·obtain⟨d,q,ed,hd,_⟩:=Qjj t.int.natAbs
   obtain⟨hall,hv⟩:=QbW t.int.natAbs
   have e3:tlT t=45::(d::q):=by rw[e2,decZ,Qzh hi,QC,QbV,ed];rfl
   rw[ed]at hall hv
   have h1:=Sc.digits hall (by rw[hv];omega) ha.word.dig hS
   have h2:Sc tot ([45]++((d::q)++w)) (symT tot [45] ((d::q)++w)::_):=Sc.sym [45] (fun c r e=>by cases e;decide) (by simp) rfl h1
   refine⟨_,by rw[e3];exact h2,hu,?_⟩
   have k1:=Xj tot [45] ((d::q)++w) (⟨3,((tot - ((d::q)++w).length:Nat):Int),mkB (d::q)⟩::ts) (labs u)
   rw[e3]at hl
   simp only[Qyw]at hl
   have hpos:((tot - ((d::q)++w).length:Nat):Int)=((tot - ([45]++((d::q)++w)).length:Nat):Int)+1:=by
    simp only[Qza,Qyw,Qyx];omega
   rw[OKt,pOpT,Qzf (by show(4:Int)≠3;decide),Qzf (by show(4:Int)≠2;decide),Qzf (by show(4:Int)≠1;decide),Qzh (by rw[k1];decide),knx (by simp),Qzf (by
    rintro(h|h)
    ·exact h rfl
    ·exact h hpos),knx hS.ne]
   show PR.ok (T.mk 0 (-valT (mkB (d::q))) eB []) _=_
   have:t = .mk 0 (-valT (mkB (d::q))) eB []:=by
    rw[es,valT,ZK,hv];congr 1;show t.int=_;omega
   rw[<-this]
  ·obtain⟨d,q,ed,hd,_⟩:=Qjj t.int.toNat
   obtain⟨hall,hv⟩:=QbW t.int.toNat
   have e3:tlT t=d::q:=by rw[e2,decZ,Qzf hi,QbV,ed]
   rw[ed]at hall hv
   have h1:=Sc.digits hall (by rw[hv];omega) ha.word.dig hS
   refine⟨_,by rw[e3];exact h1,hu,?_⟩
   rw[OKt,pOpT,Qzh (by rfl),knx hS.ne]
   show PR.ok (T.mk 0 (valT (mkB (d::q))) eB []) _=_
   have:t = .mk 0 (valT (mkB (d::q))) eB []:=by
    rw[es,valT,ZK,hv];congr 1;show t.int=_;omega
   rw[<-this]
 by_cases k1:t.kind=1
 ·rw[Qzf k0,Qzh k1]at hfe
  simp only[Bool.and_assoc,Qzk,Qzu]at hfe
  have es:=simple k1 (by rw[Qzk];exact hfe.2)
  have e2:tlT t=(labB t.int).data.toList:=by rw[tlT,et h0,Qzf k0,Qzh k1];rfl
  have hr:0<=t.int/\t.int<=1048576:=hfe.1
  have hn:nX u t=(.mk 1 (gNum u t.int).1 eB [],(gNum u t.int).2):=by
   rw[nX,T.QxB,Qzh k1,k1]
   have h1:t.name=eB:=QzP T.name es
   have h2:t.args=[]:=QzP T.args es
   rw[h1,h2]
  rw[hn]
  have e3:tlT t=86::Lib.decDigits t.int.toNat:=by rw[e2,<-Lib.toList_data,Qno,QbV]
  have hall:∀c∈(86:UInt8)::Lib.decDigits t.int.toNat,isW c=true:=by
   intro c hc
   rcases Qzn.1 hc with rfl|hc
   ·decide
   ·rw[isW,(QbW t.int.toNat).1 c hc,QAl]
  have hlen:=QtM (n:=t.int.toNat) (by omega)
  have h1:=Sc.word (by decide) hall (by rw[Qyw];omega) ha.word hS
  have hlab:mkB (86::Lib.decDigits t.int.toNat)=labB t.int:=by
   rw[<-e3,e2];cases labB t.int;rfl
  rw[hlab]at h1
  refine⟨_,by rw[e3];exact h1,hu.ins hr,?_⟩
  rw[OKt,pOpT,Qzf (by show ¬(2:Int)=3;decide),Qzh (by rfl),knx hS.ne]
  show PR.ok (pVari (labB t.int) ⟨ts,labs u⟩).1 (pVari (labB t.int) ⟨ts,labs u⟩).2=_
  rw[Qs1 hr hu ts]
 have k2:t.kind=2:=by
  apply Classical.byContradiction
  intro k2
  rw[Qzf k0,Qzf k1,Qzf k2]at hfe
  cases hfe
 obtain⟨hi,_,hnm,_⟩:=T.QxI hf k2
 have hr:X2 t.name=true:=by
  rcases hnm with h|⟨h,hl⟩
  ·exact h
  ·exfalso
   rw[T.oper,Qzf (by omega),Quh h]at h0
   split at h0 <;> cases h0
 have e2:tlT t=(funT t.name (txts t.args)).data.toList:=by rw[tlT,et h0,Qzf k0,Qzf k1]
 rw[e2]at hl ⊢
 obtain⟨ts',h1,h2,⟨p,r,rfl,_,_⟩,h4⟩:=Qdj t.name hr t.args H hS ha hu hl
 have hn:nX u t=(.mk 2 0 t.name (nXs u t.args).1,(nXs u t.args).2):=by
  rw[nX,T.QxB,Qzf k1,Qzh k2,k2,hi]
 rw[hn]
 refine⟨_,h1,h2,?_⟩
 rw[OKt,pOpT,Qzf (by show ¬(1:Int)=3;decide),Qzf (by show ¬(1:Int)=2;decide),Qzh (by rfl),h4];rfl
theorem Qgg{tot:Nat}{w:List UInt8}{ts:List Tk}{x:List UInt8}(h0:∀c r,x=c::r->isL c=false/\isD c=false)(hne:x≠[])(hx:QhL x=some x)(h:Sc tot w ts):Sc tot (x++32::w) (symT tot x (32::w)::ts) :=
 Sc.sym x h0 hne (by rw[Quy (by decide)];exact hx) (Sc.sp (by decide) h)
theorem Qww{c:UInt8}{st:Int}(h:ofB (mkB [c])=st)(h0:st≠0):(c=43\/c=45\/c=42\/c=47\/c=37)/\(st=1->c=43\/c=45)/\(st=2->c=42\/c=47\/c=37):=by
 have hc:c=43\/c=45\/c=42\/c=47\/c=37:=by
  apply Classical.byContradiction
  intro hn
  have e:∀d:UInt8,c≠d->(((mkB [c]).toList==({data:=#[d]}:ByteArray).toList)=false):=fun d h1=>by
   rw[Lib.toList_data,Lib.toList_data,QAi]
   intro hh
   have:c=d:=by simpa [mkB]using hh
   exact h1 this
  rw[ofB,e 43 (fun q=>hn (.inl q)),e 45 (fun q=>hn (.inr (.inl q))),e 42 (fun q=>hn (.inr (.inr (.inl q)))),e 47 (fun q=>hn (.inr (.inr (.inr (.inl q))))),e 37 (fun q=>hn (.inr (.inr (.inr (.inr q)))))]at h
  exact h0 h.symm
 refine⟨hc,fun h1=>?_,fun h2=>?_⟩
 ·rcases hc with rfl|rfl|rfl|rfl|rfl
  ·exact .inl rfl
  ·exact .inr rfl
  all_goals (exfalso;rw[<-h]at h1;revert h1;decide +kernel)
 ·rcases hc with rfl|rfl|rfl|rfl|rfl
  ·exfalso;rw[<-h]at h2;revert h2;decide +kernel
  ·exfalso;rw[<-h]at h2;revert h2;decide +kernel
  ·exact .inl rfl
  ·exact .inr (.inl rfl)
  ·exact .inr (.inr rfl)
theorem QsQ{tot:Nat}{w:List UInt8}{ts:List Tk}{c:UInt8}{st:Int}(hc:ofB (mkB [c])=st)(h0:st≠0)(h:Sc tot w ts) :
  Sc tot (32::c::32::w) (symT tot [c] (32::w)::ts)/\Aft (32::c::32::w) (symT tot [c] (32::w)::ts)/\(∀N,PS.oneOf ⟨symT tot [c] (32::w)::ts,N⟩ Xq=decide (st=2))/\(∀N,PS.oneOf ⟨symT tot [c] (32::w)::ts,N⟩ Yr=decide (st=1)):=by
 obtain⟨h1,h2,h3⟩:=Qww hc h0
 have hst:st=1\/st=2:=by
  rw[<-hc,ofB]
  rw[<-hc,ofB]at h0
  split
  ·exact .inl rfl
  ·rename_i q
   rw[Qzf q]at h0
   split
   ·exact .inr rfl
   ·rename_i q2
    rw[Qzf q2]at h0
    exact absurd rfl h0
 refine⟨?_,⟨KWd.sp _,fun N=>?_⟩,fun N=>?_,fun N=>?_⟩
 ·refine Sc.sp (by decide) (Qgg (x:=[c]) (fun d r e=>?_) (by simp) ?_ h)
  ·cases e;rcases h1 with rfl|rfl|rfl|rfl|rfl <;> exact⟨by decide,by decide⟩
  ·rcases h1 with rfl|rfl|rfl|rfl|rfl <;> rfl
 ·rw[Xj];rcases h1 with rfl|rfl|rfl|rfl|rfl <;> decide
 ·rw[Qdw]
  rcases hst with rfl|rfl
  ·rcases h2 rfl with rfl|rfl <;> decide
  ·rcases h3 rfl with rfl|rfl|rfl <;> decide
 ·rw[Qdw]
  rcases hst with rfl|rfl
  ·rcases h2 rfl with rfl|rfl <;> decide
  ·rcases h3 rfl with rfl|rfl|rfl <;> decide
theorem Qvq(u:List Int)(n:ByteArray)(x y:T):nX u (.mk 2 0 n [x,y])=(.mk 2 0 n [(nX u x).1,(nX (nX u x).2 y).1],(nX (nX u x).2 y).2):=by
 rw[nX,T.QxB,Qzf (by show ¬(2:Int)=1;decide),Qzh (by rfl)];rfl
theorem Qqw:∀(k:Nat) (t:T),t.nds<=k->t.Qxz=true->KO t/\KP t/\KE t:=by
 intro k
 induction k with
 |zero=>intro t hn;have:=T.QxK t;omega
 |succ k ih =>
  intro t hn hf
  have hnd:=T.QxK t
  have sub:∀a∈t.args,a.Qxz=true->KO a/\KP a/\KE a:=fun a ha hfa=>by
   obtain⟨j,hj,e⟩:=List.getElem_of_mem ha
   have:=Qf7 hj
   rw[e]at this
   exact ih a (by omega) hfa
  have hro:KO t:=by
   refine Qud hf fun a ha=>(sub a ha ?_).2.2
   by_cases k2:t.kind=2
   ·exact Zh (T.QxI hf k2).2.2.2 a ha
   ·exfalso
    rw[T.QxM]at hf
    by_cases k0:t.kind=0
    ·rw[Qzh k0]at hf
     simp only[Qzk]at hf
     have:t.args=[]:=by simpa using hf.2
     rw[this]at ha;cases ha
    ·rw[Qzf k0]at hf
     by_cases k1:t.kind=1
     ·rw[Qzh k1]at hf
      simp only[Qzk]at hf
      have:t.args=[]:=by simpa using hf.2
      rw[this]at ha;cases ha
     ·rw[Qzf k1,Qzf k2]at hf;cases hf
  have hrp:KP t:=by
   intro h1 tot w ts u hS ha hu hl
   by_cases h0:t.oper=0
   ·obtain⟨ts',e1,e2,e3⟩:=hro h0 tot w ts u hS ha hu hl
    exact⟨ts',e1,e2,by rw[Qkq,e3];rfl⟩
   have h2:t.oper=2:=by have:=T.Qx2 t;omega
   obtain⟨c,x,y,et,eo,hfx,hfy,etl⟩:=QqW hf h0
   have hx:=sub x (by rw[et];simp[T.args]) hfx
   have hy:=sub y (by rw[et];simp[T.args]) hfy
   rw[h2]at eo etl
   obtain⟨YL,eYL⟩:∃YL,YL=(encB ((y.oper != 0)&&((y.oper==1)||((2:Int)==2))) y.txt).data.toList:=⟨_,rfl⟩
   obtain⟨XL,eXL⟩:∃XL,XL=(encB ((x.oper==1)&&((2:Int)==2)) x.txt).data.toList:=⟨_,rfl⟩
   rw[<-eYL,<-eXL]at etl
   have hlen:=QzP List.length etl
   simp only[Qza,Qyw]at hlen
   -- the right operand
   have ry:∀v,okV v->∃ts',Sc tot (YL++w) ts'/\okV (nX v y).2/\OKt ⟨ts',labs v⟩ = .ok (nX v y).1 ⟨ts,labs (nX v y).2⟩:=fun v hv=>by
    by_cases hy0:y.oper=0
    ·have eY:YL=tlT y:=by rw[eYL,Qci,Qzf (by rw[hy0];simp)];rfl
     rw[eY]at hlen ⊢
     exact hy.1 hy0 tot w ts v hS ha hv (by omega)
    ·have eY:YL=40::(tlT y++[41]):=by rw[eYL,Qci,Qzh (by simp[hy0])];rfl
     rw[eY]at hlen ⊢
     simp only[Qza,Qyw,Qyx]at hlen
     have:=Qqv hy.2.2 hS hv (by omega)
     simpa using this
   -- the left one
   have rx:∀ts2,Sc tot (32::c::32::(YL++w)) ts2->Aft (32::c::32::(YL++w)) ts2->∃ts',Sc tot (XL++32::c::32::(YL++w)) ts'/\okV (nX u x).2/\MKt ⟨ts',labs u⟩=CC OKt Xq (nX u x).1 ⟨ts2,labs (nX u x).2⟩:=fun ts2 h2 ha2=>by
    by_cases hx1:x.oper=1
    ·have eX:XL=40::(tlT x++[41]):=by rw[eXL,Qci,Qzh (by rw[hx1];rfl)];rfl
     rw[eX]at hlen ⊢
     simp only[Qza,Qyw,Qyx]at hlen
     obtain⟨ts',e1,e2,e3⟩:=Qqv hx.2.2 h2 hu (by simp only[Qza,Qyw];omega)
     exact⟨ts',by simpa using e1,e2,by rw[Qkq,e3];rfl⟩
    ·have eX:XL=tlT x:=by rw[eXL,Qci,Qzf (by simp[hx1])];rfl
     rw[eX]at hlen ⊢
     exact hx.2.1 hx1 tot _ ts2 u h2 ha2 hu (by simp only[Qza,Qyw];omega)
   obtain⟨_,b1,_⟩:=ry [] (fun v hv=>by cases hv)
   obtain⟨o1,o2,_⟩:=QsQ eo (by decide) b1
   obtain⟨_,_,hux,_⟩:=rx _ o1 o2
   obtain⟨ty,c1,c2,c3⟩:=ry (nX u x).2 hux
   obtain⟨o3,o4,o5,_⟩:=QsQ eo (by decide) c1
   obtain⟨tx,d1,_,d3⟩:=rx _ o3 o4
   have e4:=o3.wf (labs (nX u x).2)
   rw[etl,Qze,QyL,QyL,QyL]
   rw[et,Qvq]
   refine⟨tx,d1,c2,?_⟩
   rw[d3,Qpi Qpl e4 (by rw[o5];rfl) (by rw[knx c1.ne];exact c3)];rfl
  refine⟨hro,hrp,?_⟩
  intro tot w ts u hS ha hns hu hl
  by_cases h1:t.oper=1
  ·obtain⟨c,x,y,et,eo,hfx,hfy,etl⟩:=QqW hf (by omega)
   have hx:=sub x (by rw[et];simp[T.args]) hfx
   have hy:=sub y (by rw[et];simp[T.args]) hfy
   rw[h1]at eo etl
   obtain⟨YL,eYL⟩:∃YL,YL=(encB ((y.oper != 0)&&((y.oper==1)||((1:Int)==2))) y.txt).data.toList:=⟨_,rfl⟩
   have eX:(encB ((x.oper==1)&&((1:Int)==2)) x.txt).data.toList=tlT x:=by rw[Qci,Qzf (by simp)];rfl
   rw[<-eYL,eX]at etl
   have hlen:=QzP List.length etl
   simp only[Qza,Qyw]at hlen
   have ry:∀v,okV v->∃ts',Sc tot (YL++w) ts'/\okV (nX v y).2/\MKt ⟨ts',labs v⟩ = .ok (nX v y).1 ⟨ts,labs (nX v y).2⟩:=fun v hv=>by
    by_cases hy1:y.oper=1
    ·have eY:YL=40::(tlT y++[41]):=by rw[eYL,Qci,Qzh (by rw[hy1];rfl)];rfl
     rw[eY]at hlen ⊢
     simp only[Qza,Qyw,Qyx]at hlen
     obtain⟨ts',e1,e2,e3⟩:=Qqv hy.2.2 hS hv (by omega)
     refine⟨ts',by simpa using e1,e2,?_⟩
     rw[Qkq,e3]
     exact QdQ (hns _)
    ·have eY:YL=tlT y:=by rw[eYL,Qci,Qzf (by simp[hy1])];rfl
     rw[eY]at hlen ⊢
     obtain⟨ts',e1,e2,e3⟩:=hy.2.1 hy1 tot w ts v hS ha hv (by omega)
     exact⟨ts',e1,e2,by rw[e3];exact QdQ (hns _)⟩
   have rx:∀ts2,Sc tot (32::c::32::(YL++w)) ts2->Aft (32::c::32::(YL++w)) ts2->NoS ts2->∃ts',Sc tot (tlT x++32::c::32::(YL++w)) ts'/\okV (nX u x).2/\XD ⟨ts',labs u⟩=CC MKt Yr (nX u x).1 ⟨ts2,labs (nX u x).2⟩:=fun ts2 h2 ha2 hn2 =>
    hx.2.2 tot _ ts2 u h2 ha2 hn2 hu (by simp only[Qza,Qyw];omega)
   obtain⟨_,b1,_⟩:=ry [] (fun v hv=>by cases hv)
   obtain⟨o1,o2,o5,_⟩:=QsQ eo (by decide) b1
   obtain⟨_,_,hux,_⟩:=rx _ o1 o2 (fun N=>by rw[o5];rfl)
   obtain⟨ty,c1,c2,c3⟩:=ry (nX u x).2 hux
   obtain⟨o3,o4,o6,o7⟩:=QsQ eo (by decide) c1
   obtain⟨tx,d1,_,d3⟩:=rx _ o3 o4 (fun N=>by rw[o6];rfl)
   have e4:=o3.wf (labs (nX u x).2)
   rw[etl,Qze,QyL,QyL,QyL]
   rw[et,Qvq]
   refine⟨tx,d1,c2,?_⟩
   rw[d3,Qpi QtD e4 (by rw[o7];rfl) (by rw[knx c1.ne];exact c3)];rfl
  ·obtain⟨ts',e1,e2,e3⟩:=hrp h1 tot w ts u hS ha hu hl
   refine⟨ts',e1,e2,?_⟩
   rw[Qkc (e1.wf _),e3,QdQ (hns _)];rfl
theorem Qb3{t:T}(hf:t.Qxz=true):KE t:=(Qqw t.nds t (Qzl _) hf).2.2
mutual
/-- a valid term stays one when its variables are renamed -/
theorem T.run_map{f:Int->Int}:∀(t:T) (b d:Int),(∀v∈t.vars,0<=f v/\f v<=1048576)->(t.run b d).1=true->(t.map f).run b d=t.run b d
 | .mk k i n l,b,d,hf,h=>by
  rw[T.run]at h
  rw[T.map]
  rw[T.vars]at hf
  by_cases k1:k=1
  ·rw[Qzh k1]at hf ⊢
   have hi:=hf i (by simp)
   rw[T.run,T.run]
   split at h
   ·cases h
   ·rename_i hb
    rw[Qzf hb,Qzf hb]
    have k0:¬k=0:=by omega
    rw[Qzf k0,Qzf k0,Qzh k1,Qzh k1]
    simp only[Qzf k0]at h
    simp only[Qzk,Qzu]at h
    rw[h.1.2,h.2,QzA hi,QzA h.1.1]
  ·by_cases k2:k=2
   ·rw[Qzf k1,Qzh k2]at hf ⊢
    rw[T.run,T.run]
    split at h
    ·cases h
    ·rename_i hb
     rw[Qzf hb,Qzf hb]
     have k0:¬k=0:=by omega
     simp only[Qzf k0]at h
     rw[Qzf k0,Qzf k0,Qzf k1,Qzf k1,Qzh k2,Qzh k2,Qev]
     split at h
     ·cases h
     ·rename_i h6
      rw[Qzf h6,Qzf h6]
      split at h
      ·cases h
      ·rename_i hn
       rw[Qzf hn,Qzf hn]
       exact Qga l _ _ hf h
   ·rw[Qzf k1,Qzf k2]
theorem Qga{f:Int->Int}:∀(l:List T) (b d:Int),(∀v∈Xz l,0<=f v/\f v<=1048576)->(runL l b d).1=true->runL (maps f l) b d=runL l b d
 |[],_,_,_,_=>rfl
 |t::l,b,d,hf,h=>by
  rw[Xz]at hf
  rw[runL]at h
  split at h
  ·rename_i ht
   rw[maps,runL,runL,T.run_map t b d (fun v hv=>hf v (QzH.2 (.inl hv))) ht,Qzh ht,Qzh ht]
   exact Qga l _ _ (fun v hv=>hf v (QzH.2 (.inr hv))) h
  ·cases h
theorem Qev{f:Int->Int}:∀l:List T,(maps f l).length=l.length
 |[]=>rfl
 |t::l=>by rw[maps,Qyw,Qyw,Qev l]
end
def kG(u:List Int)(g:G):G×List Int:=(⟨g.op,g.name,(nXs u g.args).1⟩,(nXs u g.args).2)
theorem Qlh(u:List Int)(l:List T):nXs u l=(maps (fun n=>((plc (ded u (Xz l)) n:Nat):Int)) l,ded u (Xz l)):=by
 have:=Qbi u l []
 rwa [QyM]at this
theorem Qk7(u:List Int)(g:G):(kG u g).2.length<=u.length+ndsL g.args:=by
 rw[kG,Qlh]
 have h1:=Qdd u (Xz g.args)
 have h2:(Xz g.args).length<=ndsL g.args:=by
  have:∀l:List T,(Xz l).length<=ndsL l:=fun l=>by
   induction l with
   |nil=>exact Qzl _
   |cons t l ih=>rw[Xz,ndsL,Qza];have:=T.QxC t;omega
  exact this _
 show(ded u (Xz g.args)).length<=_
 omega
theorem Qnm{u:List Int}{g:G}(hb:u.length+ndsL g.args<=1000000):∀v∈Xz g.args,0<=((plc (ded u (Xz g.args)) v:Nat):Int)/\((plc (ded u (Xz g.args)) v:Nat):Int)<=1048576:=fun v hv=>by
 have h1:=QnI (s:=ded u (Xz g.args)) (QjK.2 (.inr hv))
 have h2:=Qk7 u g
 rw[kG,Qlh]at h2
 have h3:(ded u (Xz g.args)).length<=u.length+ndsL g.args:=h2
 omega
theorem Qqr{u:List Int}{g:G}(hb:u.length+ndsL g.args<=1000000)(h:Qt g=true):Qt (kG u g).1=true:=by
 rw[Qt,Qzk,Qzk]at h ⊢
 obtain⟨h1,h2,h3⟩:=h
 rw[kG,Qlh]
 refine⟨h1,?_,?_⟩
 ·show decide ((maps _ g.args).length<=6)=true
  rw[Qev];exact h2
 ·show(runL (maps _ g.args) 200 20).1=true
  rw[Qga _ _ _ (Qnm hb) h3];exact h3
theorem Qqs{u:List Int}{g:G}(hb:u.length+ndsL g.args<=1000000)(h:Qo g=true):Qo (kG u g).1=true:=by
 by_cases k0:g.op=0
 ·rw[Qo,Qzh k0]at h
  have:=Qqr (u:=u) (g:=⟨0,g.name,g.args⟩) hb h
  rw[Qo,Qzh (by exact k0)];exact this
 ·rw[Qo,Qzf k0]at h
  rw[Qo,Qzf (by exact k0)]
  simp only[Qzk]at h ⊢
  obtain⟨h1,h2,h3,h4⟩:=h
  rw[kG,Qlh]
  refine⟨h1,h2,?_,?_⟩
  ·show decide (((maps _ g.args).length:Int)=_)=true
   rw[Qev];exact h3
  ·show(runL (maps _ g.args) 200 20).1=true
   rw[Qga _ _ _ (Qnm hb) h4];exact h4
theorem Qop{g:G}(h:Qo g=true):Qbz g.args=true/\g.args.length<=6/\(g.op=0->X2 g.name=true)/\(g.op≠0->g.name=eB/\0<g.op/\g.op<=12/\(g.args.length:Int)=Qbo g.op):=by
 by_cases k0:g.op=0
 ·rw[Qo,Qzh k0,Qt,Qzk,Qzk,Qzu]at h
  obtain⟨h1,h2,h3⟩:=h
  have h5:=(Qc2 g.args 200 20 (by decide) (by decide)).1
  rw[h5,Qzk]at h3
  exact⟨h3.1,h2,fun _=>h1,fun q=>absurd k0 q⟩
 ·rw[Qo,Qzf k0]at h
  simp only[Qzk,Qzu]at h
  obtain⟨h1,h2,h3,h4⟩:=h
  have h5:=(Qc2 g.args 200 20 (by decide) (by decide)).1
  rw[h5,Qzk]at h4
  have hnm:g.name=eB:=by
   have:=QaL h2
   cases hh:g.name with|mk d =>
   rw[hh]at this
   have:d.size=0:=this
   have:d=#[]:=Array.eq_empty_of_size_eq_zero this
   rw[this];rfl
  have hn:Qbo g.op<=6:=by
   have:g.op=1\/g.op=2\/g.op=3\/g.op=4\/g.op=5\/g.op=6\/g.op=7\/g.op=8\/g.op=9\/g.op=10\/g.op=11\/g.op=12:=by omega
   rcases this with h|h|h|h|h|h|h|h|h|h|h|h <;> rw[h] <;> decide
  exact⟨h4.1,by omega,fun q=>absurd q k0,fun _=>⟨hnm,h1.1,h1.2,h3⟩⟩
structure GA (w:List UInt8) (ts:List Tk):Prop where
 a:Aft w ts
 s:NoS ts
 p:NoA ts
 c:∀N,cmpOp ⟨ts,N⟩=none
theorem QlR{s s2:PS}{t:T}(hs:s.wf)(h:XD s = .ok t s2):¬(s.tk.kind=1/\resB s.tk.text=true):=by
 rintro⟨h1,h2⟩
 have e:OKt s = .err s.tk.pos 7:=by
  rw[OKt,pOpT,Qzf (by omega),Qzf (by omega),Qzh h1,Zq,QaM,Qzf (by omega),Qzh h2];rfl
 rw[Qkc hs,Qkq,e]at h
 cases h
theorem Qhd{t:T}(hf:t.Qxz=true){tot:Nat}{w:List UInt8}{ts:List Tk}{u:List Int}(h:Sc tot w ts)(ha:Aft w ts)(hs:NoS ts)(hp:NoA ts)(hu:okV u)(hl:(tlT t).length+w.length<=tot) :
  ∃ts',Sc tot (tlT t++w) ts'/\okV (nX u t).2/\XD ⟨ts',labs u⟩ = .ok (nX u t).1 ⟨ts,labs (nX u t).2⟩:=by
 obtain⟨ts',h1,h2,h3⟩:=Qb3 hf tot w ts u h ha hs hu hl
 exact⟨ts',h1,h2,by rw[h3,QdQ (hp _)]⟩
def tG(g:G):List UInt8:=(Qat g).data.toList
theorem QiW{tot:Nat}{w:List UInt8}{ts:List Tk}{c:UInt8}{q:List UInt8}(hc:isL c=true)(h97:97<=c.toNat)(hw:∀x∈c::q,isW x=true)(hl:(c::q).length<=40)(ha:KWd w)(h:Sc tot w ts) :
  Sc tot ((c::q)++w) (⟨1,((tot - ((c::q)++w).length:Nat):Int),mkB (c::q)⟩::ts):=by
 have:=Sc.word hc hw hl ha h
 rwa [Qzh h97]at this
theorem QtZ(n:ByteArray)(x:T):(funT n (txts [x])).data.toList=n.data.toList++40::(tlT x++[41]):=by
 rw[Qdk];simp[tails]
theorem Qsv{x:T}(hf:x.Qxz=true)(op:Int){tot:Nat}{w:List UInt8}{ts:List Tk}{u:List Int}(h:Sc tot w ts)(hu:okV u)(hl:(tlT x).length+w.length+2<=tot) :
  ∃ts',Sc tot (40::(tlT x++41::w)) ts'/\okV (nX u x).2/\QdZ op ⟨ts',labs u⟩ = .ok ⟨op,eB,[(nX u x).1]⟩ ⟨ts,labs (nX u x).2⟩:=by
 obtain⟨ts1,h1,h2,h3⟩:=Qep (Qb3 hf) (.inl rfl) (QsR h) hu (by omega)
 have k1:=Xj tot [40] (tlT x++41::w) ts1 (labs u)
 have k2:=Xj tot [41] w ts (labs (nX u x).2)
 refine⟨_,Quv h1,h2,?_⟩
 rw[QdZ,XE,Qzh (by rw[k1];decide),knx h1.ne]
 show(XD _).bind _=_
 rw[h3]
 show(XE sRp _).bind _=_
 rw[XE,Qzh (by rw[k2];decide),knx h.ne];rfl
theorem Qts{tot:Nat}{w:List UInt8}{ts:List Tk}{op:Int}(h3:3<=op)(h10:op<=10)(h:Sc tot w ts) :
  ∃t0,Sc tot (32::((QfP op).data.toList++32::w)) (t0::ts)/\Aft (32::((QfP op).data.toList++32::w)) (t0::ts)/\NoS (t0::ts)/\NoA (t0::ts)/\∀N,cmpOp ⟨t0::ts,N⟩=some (op,false):=by
 have hs:Sc tot (32::w) ts:=Sc.sp (by decide) h
 have sy:∀(c:UInt8) (r:List UInt8),(isL c=false/\isD c=false)->QhL (c::r)=some (c::r)->((c::r)==sLp)=false->Xq.any (fun b=>(c::r)==b)=false->Yr.any (fun b=>(c::r)==b)=false ->
   (∀N,cmpOp ⟨symT tot (c::r) (32::w)::ts,N⟩=some (op,false))->∃t0,Sc tot (32::((c::r)++32::w)) (t0::ts)/\Aft (32::((c::r)++32::w)) (t0::ts)/\NoS (t0::ts)/\NoA (t0::ts)/\∀N,cmpOp ⟨t0::ts,N⟩=some (op,false):=fun c r h1 h2 h3 h4 h5 h6 =>
  ⟨_,Sc.sp (by decide) (Qgg (fun d q e=>by cases e;exact h1) (by simp) h2 h),⟨KWd.sp _,fun N=>by rw[Xj];exact h3⟩,fun N=>by rw[Qdw];exact h4,fun N=>by rw[Qdw];exact h5,h6⟩
 have cm:∀(x:List UInt8) N,cmpOp ⟨symT tot x (32::w)::ts,N⟩=if x=[61]then some (3,false)else if x=[61,61]then some (5,false)else if x=[92,61]then some (6,false)else if x=[60]then some (7,false)else if x=[61,60]then some (8,false)else if x=[62]then some (7,true)else
   if x=[62,61]then some (8,true)else if x=[61,58,61]then some (9,false)else if x=[61,92,61]then some (10,false)else none:=fun x N=>by
  have e:(PS.tk ⟨symT tot x (32::w)::ts,N⟩).text.toList=x:=by show(mkB x).toList=x;rw[ZK]
  rw[cmpOp,Qzf (by show ¬(4:Int)=1;decide),Qzf (by show ¬(4:Int)≠4;decide),e]
 have:op=3\/op=4\/op=5\/op=6\/op=7\/op=8\/op=9\/op=10:=by omega
 rcases this with rfl|rfl|rfl|rfl|rfl|rfl|rfl|rfl
 ·exact sy 61 [] ⟨by decide,by decide⟩ rfl (by decide) (by decide) (by decide) (fun N=>by rw[cm];rfl)
 ·have h1:=QiW (tot:=tot) (c:=105) (q:=[115]) (by decide) (by decide) (by decide) (by decide) (KWd.sp w) hs
  refine⟨_,Sc.sp (by decide) h1,⟨KWd.sp _,fun N=>rfl⟩,fun N=>rfl,fun N=>rfl,fun N=>?_⟩
  rw[cmpOp,Qzh (by rfl),Qzh (by show(mkB [105,115]).toList=_;rw[ZK])]
 ·exact sy 61 [61] ⟨by decide,by decide⟩ rfl (by decide) (by decide) (by decide) (fun N=>by rw[cm];rfl)
 ·exact sy 92 [61] ⟨by decide,by decide⟩ rfl (by decide) (by decide) (by decide) (fun N=>by rw[cm];rfl)
 ·exact sy 60 [] ⟨by decide,by decide⟩ rfl (by decide) (by decide) (by decide) (fun N=>by rw[cm];rfl)
 ·exact sy 61 [60] ⟨by decide,by decide⟩ rfl (by decide) (by decide) (by decide) (fun N=>by rw[cm];rfl)
 ·exact sy 61 [58,61] ⟨by decide,by decide⟩ rfl (by decide) (by decide) (by decide) (fun N=>by rw[cm];rfl)
 ·exact sy 61 [92,61] ⟨by decide,by decide⟩ rfl (by decide) (by decide) (by decide) (fun N=>by rw[cm];rfl)
theorem QqL(u:List Int)(x y:T):nXs u [x,y]=([(nX u x).1,(nX (nX u x).2 y).1],(nX (nX u x).2 y).2):=rfl
theorem Qe5{g:G}(hr:Qo g=true){tot:Nat}{w:List UInt8}{ts:List Tk}{u:List Int}(h:Sc tot w ts)(ha:GA w ts)(hu:okV u)(hl:(tG g).length+w.length<=tot) :
  ∃ts',Sc tot (tG g++w) ts'/\okV (nXs u g.args).2/\ZQ ⟨ts',labs u⟩ = .ok (kG u g).1 ⟨ts,labs (kG u g).2⟩:=by
 obtain⟨hfs,h6,hn0,hn1⟩:=Qop hr
 by_cases k0:g.op=0
 ·have hnm:=hn0 k0
  have et:tG g=(funT g.name (txts g.args)).data.toList:=by rw[tG,Qat,Qzh k0]
  rw[et]at hl ⊢
  obtain⟨ts',h1,h2,⟨p,r,rfl,_,_⟩,h4⟩:=Qdj g.name hnm g.args (fun t ht=>Qb3 (Zh hfs t ht)) h ha.a hu hl
  have hop:OKt ⟨⟨1,p,g.name⟩::r,labs u⟩ = .ok (.mk 2 0 g.name (nXs u g.args).1) ⟨ts,labs (nXs u g.args).2⟩:=by
   rw[OKt,pOpT,Qzf (by show ¬(1:Int)=3;decide),Qzf (by show ¬(1:Int)=2;decide),Qzh (by rfl),h4];rfl
  refine⟨_,h1,h2,?_⟩
  have ht:XD ⟨⟨1,p,g.name⟩::r,labs u⟩ = .ok (.mk 2 0 g.name (nXs u g.args).1) ⟨ts,labs (nXs u g.args).2⟩:=by
   rw[Qkc (h1.wf _),Qkq,hop]
   show(CC OKt Xq _ _).bind _=_
   rw[QdQ (ha.s _)]
   show CC MKt Yr _ _=_
   rw[QdQ (ha.p _)]
  rw[ZQ,Qzf (QlR (h1.wf _) ht),ht]
  show(match cmpOp ⟨ts,_⟩with|some (op,turn)=>_|none=>_)=_
  rw[ha.c]
  show(if (1:Int)=1/\g.name.toList=g.name.toList then PR.ok (⟨0,g.name,(nXs u g.args).1⟩:G) _ else _)=_
  rw[Qzh ⟨rfl,rfl⟩,kG,k0]
 obtain⟨enm,hp0,hp12,hgn⟩:=hn1 k0
 have word0:∀(c:UInt8) (q:List UInt8) (op:Int),isL c=true->97<=c.toNat->(∀x∈c::q,isW x=true)->(c::q).length<=40->resB (mkB (c::q))=true->g.args=[]->tG g=c::q->g.op=op ->
   (∀s:PS,s.tk.kind=1->s.tk.text=mkB (c::q)->ZQ s = .ok ⟨op,eB,[]⟩ s.nx)->∃ts',Sc tot (tG g++w) ts'/\okV (nXs u g.args).2/\ZQ ⟨ts',labs u⟩ = .ok (kG u g).1 ⟨ts,labs (kG u g).2⟩:=fun c q op q1 q2 q3 q4 q5 q6 q7 q8 q9=>by
  have h1:=QiW (tot:=tot) q1 q2 q3 q4 ha.a.word h
  refine⟨_,by rw[q7];exact h1,by rw[q6];exact hu,?_⟩
  rw[q9 _ rfl rfl,knx h.ne,kG,q6,q8,enm];rfl
 by_cases k1:g.op=1
 ·have ea:g.args=[]:=by
   have:(g.args.length:Int)=0:=by rw[hgn,k1];rfl
   exact List.length_eq_zero_iff.1 (by omega)
  exact word0 116 [114,117,101] 1 (by decide) (by decide) (by decide) (by decide) (by decide +kernel) ea (by rw[tG,Qat,Qzf k0,Qzh k1]) k1 (fun s e1 e2=>by
   rw[ZQ,Qzh ⟨e1,by rw[e2];decide +kernel⟩,e2,Qzh (by rw[ZK])])
 by_cases k2:g.op=2
 ·have ea:g.args=[]:=by
   have:(g.args.length:Int)=0:=by rw[hgn,k2];rfl
   exact List.length_eq_zero_iff.1 (by omega)
  exact word0 102 [97,105,108] 2 (by decide) (by decide) (by decide) (by decide) (by decide +kernel) ea (by rw[tG,Qat,Qzf k0,Qzf k1,Qzh k2]) k2 (fun s e1 e2=>by
   rw[ZQ,Qzh ⟨e1,by rw[e2];decide +kernel⟩,e2,ZK,Qzf (by decide),Qzh rfl])
 have word1:∀(c:UInt8) (q:List UInt8) (op:Int),isL c=true->97<=c.toNat->(∀x∈c::q,isW x=true)->(c::q).length<=40->(g.args.length:Int)=1->tG g=(funT (mkB (c::q)) (txts g.args)).data.toList->g.op=op ->
   (∀s:PS,s.tk.kind=1->s.tk.text=mkB (c::q)->ZQ s=QdZ op s.nx)->∃ts',Sc tot (tG g++w) ts'/\okV (nXs u g.args).2/\ZQ ⟨ts',labs u⟩ = .ok (kG u g).1 ⟨ts,labs (kG u g).2⟩:=fun c q op q1 q2 q3 q4 q6 q7 q8 q9=>by
  obtain⟨x,ex⟩:=List.length_eq_one_iff.1 (show g.args.length=1 by omega)
  have hfx:=Zh hfs x (by rw[ex];simp)
  rw[ex,QtZ]at q7
  have q7':tG g++w=(c::q)++(40::(tlT x++41::w)):=by rw[q7];show(((mkB (c::q)).data.toList++_)++w)=_;simp[mkB]
  have hlen:=QzP List.length q7'
  simp only[Qza,Qyw]at hlen
  obtain⟨ts1,h1,h2,h3⟩:=Qsv hfx op h hu (by omega)
  have h4:=QiW (tot:=tot) q1 q2 q3 q4 (fun d r e=>by cases e;decide) h1
  refine⟨_,by rw[q7'];exact h4,by rw[ex];exact h2,?_⟩
  rw[q9 _ rfl rfl,knx h1.ne,h3,kG,ex,q8,enm];rfl
 by_cases k11:g.op=11
 ·exact word1 105 [110,116] 11 (by decide) (by decide) (by decide) (by decide) (by rw[hgn,k11];rfl) (by rw[tG,Qat,Qzf k0,Qzf k1,Qzf k2,Qzh k11];rfl) k11 (fun s e1 e2=>by
   rw[ZQ,Qzh ⟨e1,by rw[e2];decide +kernel⟩,e2,ZK,Qzf (by decide),Qzf (by decide),Qzh rfl])
 by_cases k12:g.op=12
 ·exact word1 103 [114,111,117,110,100] 12 (by decide) (by decide) (by decide) (by decide) (by rw[hgn,k12];rfl) (by rw[tG,Qat,Qzf k0,Qzf k1,Qzf k2,Qzf k11,Qzh k12];rfl) k12 (fun s e1 e2=>by
   rw[ZQ,Qzh ⟨e1,by rw[e2];decide +kernel⟩,e2,ZK,Qzf (by decide),Qzf (by decide),Qzf (by decide),Qzh rfl])
 have h3:3<=g.op:=by omega
 have h10:g.op<=10:=by omega
 have hg2:(g.args.length:Int)=2:=by
  rw[hgn]
  have:g.op=3\/g.op=4\/g.op=5\/g.op=6\/g.op=7\/g.op=8\/g.op=9\/g.op=10:=by omega
  rcases this with h|h|h|h|h|h|h|h <;> rw[h] <;> rfl
 obtain⟨x,y,exy⟩:∃x y,g.args=[x,y]:=by
  match hh:g.args,hg2 with
  |[x,y],_=>exact⟨x,y,rfl⟩
  |[],h=>exact absurd h (by decide)
  |[_],h=>exact absurd h (by simp)
  |_::_::_::_,h=>simp only[Qyw]at h;omega
 have hfx:=Zh hfs x (by rw[exy];simp)
 have hfy:=Zh hfs y (by rw[exy];simp)
 have et:tG g++w=tlT x++32::((QfP g.op).data.toList++32::(tlT y++w)):=by
  rw[tG,Qat,Qzf k0,Qzf k1,Qzf k2,Qzf k11,Qzf k12,exy]
  show((x.txt++(({data:=#[32]}:ByteArray)++QfP g.op++{data:=#[32]}))++y.txt).data.toList++w=_
  rw[QC,QC,QC,QC]
  show((tlT x++(([32]++_)++[32]))++tlT y)++w=_
  simp
 have hlen:=QzP List.length et
 simp only[Qza,Qyw]at hlen
 have ry:=fun v (hv:okV v)=>Qhd hfy h ha.a ha.s ha.p hv (by omega)
 obtain⟨_,b1,_⟩:=ry [] (fun v hv=>by cases hv)
 obtain⟨t0,o1,o2,o3,o4,_⟩:=Qts h3 h10 b1
 obtain⟨_,_,hux,_⟩:=Qhd hfx o1 o2 o3 o4 hu (by simp only[Qza,Qyw];omega)
 obtain⟨ty,c1,c2,c3⟩:=ry (nX u x).2 hux
 obtain⟨t1,p1,p2,p3,p4,p5⟩:=Qts h3 h10 c1
 obtain⟨tx,d1,_,d3⟩:=Qhd hfx p1 p2 p3 p4 hu (by simp only[Qza,Qyw];omega)
 refine⟨tx,by rw[et];exact d1,by rw[exy,QqL];exact c2,?_⟩
 rw[ZQ,Qzf (QlR (d1.wf _) d3),d3]
 show(match cmpOp ⟨t1::ty,_⟩with|some (op,turn)=>_|none=>_)=_
 rw[p5]
 show(XD (PS.nx ⟨t1::ty,_⟩)).bind _=_
 rw[knx c1.ne,c3,kG,exy,QqL,enm];rfl
end Go.Proofs.YtenheconhibonaaGreatDoor.Ab
namespace Go.Proofs.YtenheconhibonaaGreatDoor.Ab
def AncE(ops:Array Oper)(E:List (Nat×Nat))(i j:Nat):Prop:=Anc ops i j\/∃p∈E,(i=p.1\/Anc ops i p.1)/\(j=p.2\/Anc ops p.2 j)
theorem AncE.good{ops:Array Oper}{E:List (Nat×Nat)}{S:Nat->Bool}(hd:Down ops S)(hE:∀p∈E,S p.2=true->S p.1=true){i j:Nat}(h:AncE ops E i j)(hj:S j=true):S i=true:=by
 rcases h with h|⟨p,hp,h1,h2⟩
 ·exact hd.anc h hj
 ·have hy:S p.2=true:=by
   rcases h2 with rfl|h2
   ·exact hj
   ·exact hd.anc h2 hj
  rcases h1 with rfl|h1
  ·exact hE p hp hy
  ·exact hd.anc h1 (hE p hp hy)
def Qpy(ms:List Nat)(E:List (Nat×Nat))(i j:Nat):Bool:=(ms.getD j 0).testBit i||E.any fun p=>(i==p.1||(ms.getD p.1 0).testBit i)&&(j==p.2||(ms.getD j 0).testBit p.2)
def QnF(ops:Array Oper)(ms:List Nat)(E:List (Nat×Nat)):List (Nat×Nat)->Bool
 |[]=>true
 |(i,ci)::l=>(l.all fun p=>match ops[i]?,ops[p.1]? with
   |some a,some b=>!clash ops a b ci p.2||Qpy ms E i p.1
   |_,_=>false)&&QnF ops ms E l
theorem Qhy{ops:Array Oper}{ms:List Nat}{E:List (Nat×Nat)}(hm:∀(k i:Nat),(ms.getD k 0).testBit i=true->Anc ops i k):∀(tr:List Tr),QnF ops ms E (tr.map fun t=>(t.i,t.c))=true->(∀t∈tr,ops[t.i]? = some t.o) ->
  tr.Pairwise (fun a b=>clash ops a.o b.o a.c b.c=true->AncE ops E a.i b.i)
 |[],_,_=>.nil
 |t::l,h,ho=>by
  simp only[Qyy,QnF,Qzk,QzB]at h
  refine QAZ.2 ⟨fun b hb hc=>?_,Qhy hm l h.2 fun t ht=>ho t (by simp[ht])⟩
  have:=h.1 (b.i,b.c) (QzD.2 ⟨b,hb,rfl⟩)
  simp only[ho t (by simp),ho b (by simp[hb]),hc,QyG,QAM,Qpy,QzW,QBf,Qzk,QAb]at this
  rcases this with h1|⟨p,hp,h1,h2⟩
  ·exact .inl (hm _ _ h1)
  ·exact .inr ⟨p,hp,h1.imp id (hm _ _),h2.imp id (hm _ _)⟩
def okE(ops:Array Oper)(E:List (Nat×Nat))(π:List (Nat×Nat)):Bool :=
 π.length==ops.size&&QnF ops (masks ops.toList []) E π&&topo ops [] π&&QoH (π.map (·.1))&&((List.range ops.size).all fun i=>(π.map (·.1)).contains i) &&
 π.all fun p=>match ops[p.1]? with|some o=>kindOk o p.2|none=>false
structure FitE (ops:Array Oper) (E:List (Nat×Nat)) (tr:List Tr):Prop where
 len:tr.length=ops.size
 pairs:tr.Pairwise (fun a b=>clash ops a.o b.o a.c b.c=true->AncE ops E a.i b.i)
 topo:topo ops [] (tr.map fun t=>(t.i,t.c))=true
 nodup:(tr.map (·.i)).Nodup
 all:∀i,i<ops.size->∃t∈tr,t.i=i
 kind:∀t∈tr,kindOk t.o t.c=true
theorem Qsu{P:Program}{N:Nat}{ops:Array Oper}{E:List (Nat×Nat)}{tr:List Tr}{tm:Nat->AV}{h:AH}(hruns:Runs P N ops tr tm h)(hok:okE ops E (tr.map fun t=>(t.i,t.c))=true):FitE ops E tr:=by
 simp only[okE,Qzk]at hok
 obtain⟨⟨⟨⟨⟨hp0,hp1⟩,hp2⟩,hp3⟩,hp4⟩,hp5⟩:=hok
 have hops:=Qds hruns
 refine⟨by have:=QAb.1 hp0;simpa using this,Qhy (Qb6 ops.toList [] (fun j o h=>by simpa using h) (fun k i h=>by simp at h)) tr hp1 hops,hp2,?_,?_,?_⟩
 ·have:=Qdm hp3
  rw[QAu]at this
  exact this
 ·intro i hi
  have:=QzB.1 hp4 i (List.mem_range.2 hi)
  have:i∈(tr.map fun t=>(t.i,t.c)).map (·.1):=by simpa using this
  rw[QAu]at this
  obtain⟨t,ht,rfl⟩:=QzD.1 this
  exact⟨t,ht,rfl⟩
 ·intro t ht
  have:=QzB.1 hp5 (t.i,t.c) (QzD.2 ⟨t,ht,rfl⟩)
  simpa [hops t ht]using this
inductive TT where
 |leaf (t:List Tr)
 |node (ρ:List Tr) (y u:Nat) (A B:TT)
def TT.first:TT->List Tr
 | .leaf t=>t
 | .node ρ _ _ A _=>ρ++A.first
def TT.e1:TT->List (Nat×Nat)->List (Nat×Nat)
 | .leaf _,E=>E
 | .node _ y u A _,E=>A.e1 ((y,u)::E)
def TT.all:TT->List Nat
 | .leaf t=>t.map (·.i)
 | .node ρ _ _ A B=>ρ.map (·.i)++(A.all++B.all)
def TT.ends:TT->List Nat
 | .leaf _=>[]
 | .node _ y u A B=>y::u::(A.ends++B.ends)
def TT.root:TT->List Nat
 | .leaf _=>[]
 | .node _ y u _ _=>[y,u]
def Beh(ops:Array Oper)(y u i:Nat):Prop:=∀S:Nat->Bool,Down ops S->S y=false->S u=false->S i=false
def FitT(ops:Array Oper):TT->List Tr->List (Nat×Nat)->Prop
 | .leaf t,π,E=>FitE ops E (π++t)
 | .node ρ y u A B,π,E=>y≠u/\y∉A.ends/\u∉B.ends/\(∀i∈A.all++B.all,Beh ops y u i)/\(∀i∈A.ends++B.ends,Beh ops y u i)/\FitT ops A (π++ρ) ((y,u)::E)/\FitT ops B (π++ρ) ((u,y)::E)
def AllL(R:List Tr->Prop):TT->List Tr->Prop
 | .leaf t,π=>R (π++t)
 | .node ρ _ _ A B,π=>AllL R A (π++ρ)/\AllL R B (π++ρ)
theorem AllL.mono{R R':List Tr->Prop}(h:∀l,R l->R' l):∀{T:TT} {π:List Tr},AllL R T π->AllL R' T π
 | .leaf t,π,H=>h _ H
 | .node ρ y u A B,π,H=>⟨AllL.mono h H.1,AllL.mono h H.2⟩
theorem AllL.first{R:List Tr->Prop}:∀{T:TT} {π:List Tr},AllL R T π->R (π++T.first)
 | .leaf t,π,H=>H
 | .node ρ y u A B,π,H=>by
  have:=AllL.first H.1
  rw[Qze]at this
  exact this
theorem FitT.first{ops:Array Oper}:∀{T:TT} {π:List Tr} {E:List (Nat×Nat)},FitT ops T π E->FitE ops (T.e1 E) (π++T.first)
 | .leaf t,π,E,H=>H
 | .node ρ y u A B,π,E,H=>by
  have:=FitT.first H.2.2.2.2.2.1
  rw[Qze]at this
  exact this
theorem FitT.all{ops:Array Oper}:∀{T:TT} {π:List Tr} {E:List (Nat×Nat)},FitT ops T π E->AllL (fun l=>∀i,i<ops.size->∃t∈l,t.i=i) T π
 | .leaf t,π,E,H=>FitE.all H
 | .node ρ y u A B,π,E,H=>⟨FitT.all H.2.2.2.2.2.1,FitT.all H.2.2.2.2.2.2⟩
theorem AllL.and{R R':List Tr->Prop}:∀{T:TT} {π:List Tr},AllL R T π->AllL R' T π->AllL (fun l=>R l/\R' l) T π
 | .leaf t,π,H,H'=>⟨H,H'⟩
 | .node ρ y u A B,π,H,H'=>⟨AllL.and H.1 H'.1,AllL.and H.2 H'.2⟩
theorem TT.QxH:∀(T:TT) (E:List (Nat×Nat)),∀p∈T.e1 E,p∈E\/p.2∈T.ends
 | .leaf t,E,p,h=>.inl h
 | .node ρ y u A B,E,p,h=>by
  rcases TT.QxH A _ p h with h|h
  ·rcases Qzn.1 h with rfl|h
   ·exact .inr (by simp[TT.ends])
   ·exact .inl h
  ·exact .inr (by simp[TT.ends,h])
theorem TT.QxE(T:TT):∀i∈T.root,i∈T.ends:=by
 cases T with
 |leaf t=>intro i h;cases h
 |node ρ y u A B=>intro i h;simp only[TT.root,Qzn,Qzz,QAf]at h;simp only[TT.ends,Qzn];rcases h with rfl|rfl <;> simp
theorem TT.QxP(T:TT):∀t∈T.first,t.i∈T.all:=by
 induction T with
 |leaf t=>intro x h;exact QzD.2 ⟨x,h,rfl⟩
 |node ρ y u A B ihA ihB =>
  intro x h
  rcases QzH.1 h with h|h
  ·exact QAk _ (QzD.2 ⟨x,h,rfl⟩)
  ·exact QAC _ (QAk _ (ihA x h))
section
variable{P:Program}{N:Nat}{base:Bs×Fence}{ops:Array Oper}{F:Fence}{n:Nat}(hF:WF F){Qx:Exit->Act->World->Prop}{tm0:Nat->AV}{h0:AH}
include hF
theorem Qpg:∀(T:TT) (π:List Tr) (E:List (Nat×Nat)),FitT ops T π E->AllL (fun l=>Runs P N ops l tm0 h0) T π ->
  ∀(fuel:Nat) (listed:Array Bool) (c:Cx) (a:Act),listed.size=ops.size->Down ops (fun i=>listed.getD i false)->(∀p∈E,listed.getD p.1 false=true)->(∀i∈T.root,listed.getD i false=false)->St c ->
   SR N base c ⟨tmS N (fun i=>listed.getD i false) (π++T.first) tm0,hS (fun i=>listed.getD i false) (π++T.first) h0⟩ a->AllL (fun l=>l.countP (fun t=>!listed.getD t.i false)<=fuel) T π ->
   AllL (fun l=>∀c' a',Ev c c'->St c'->SR N base c' ⟨tmS N (fun _=>true) l tm0,hS (fun _=>true) l h0⟩ a'->Qx .normal a' c'.w) T π->wpAnyIn F n P .any ops Qx fuel listed a c.w:=by
 intro T
 induction T with
 |leaf t =>
  intro π E hfit hruns fuel
  have hfit:FitE ops E (π++t):=hfit
  have hruns:Runs P N ops (π++t) tm0 h0:=hruns
  induction fuel with
  |zero =>
   intro listed c a hsz hd hE hx hst hr hc hQ
   have hl:∀u∈π++t,listed.getD u.i false=true:=fun u hu=>by
    have:=List.countP_eq_zero.1 (Nat.le_zero.1 hc) u hu
    simpa using this
   exact⟨any_zero hsz hfit.all hl,QfW hst hr hQ hl⟩
  |succ fuel ih =>
   intro listed c a hsz hd hE hx hst hr hc hQ
   refine⟨fun h=>QfW hst hr hQ fun u hu=>QeU hsz h _ [] hfit.topo (fun i hi=>by cases hi) (u.i,u.c) (QzD.2 ⟨u,hu,rfl⟩),fun i hi=>?_⟩
   have hi':=hi
   obtain⟨h1,o,ho,_⟩:=mem_ready.1 hi'
   have hlt:i<ops.size:=(Qzs.1 ho).1
   obtain⟨u,hu,hui⟩:=hfit.all i hlt
   have hd':=QgJ hsz hd hi
   have hE':∀p∈E,(listed.setIfInBounds i true).getD p.1 false=true:=fun p hp=>by rw[QaQ (by omega),hE p hp];simp
   exact Qea hF hruns hfit.pairs hfit.nodup hfit.kind hi hu hui hsz (fun i j h hj=>AncE.good hd (fun p hp _=>hE p hp) h hj) (fun i j h hj=>AncE.good hd' (fun p hp _=>hE' p hp) h hj) hst hr fun c' a' hev hst' hr' =>
    ih _ c' a' (by simpa using hsz) hd' hE' (fun i hi=>by cases hi) hst' hr' (QeZ hsz ⟨u,hu,hui⟩ hi hc) fun c2 a2 e2 s2 r2=>hQ c2 a2 (Ev.trans hst hev e2) s2 r2
 |node ρ y u A B ihA ihB =>
  intro π E hfit hruns fuel
  obtain⟨hyu,hyA,huB,hbeh,hends,hfA,hfB⟩:=hfit
  obtain⟨hrA,hrB⟩:=hruns
  have hf1:=hfA.first
  have hr1:=hrA.first
  induction fuel with
  |zero =>
   intro listed c a hsz hd hE hx hst hr0 hc hQ
   have hr9:SR N base c ⟨tmS N (fun i=>listed.getD i false) (π++ρ++A.first) tm0,hS (fun i=>listed.getD i false) (π++ρ++A.first) h0⟩ a:=by rw[Qze];exact hr0
   have hl:∀t∈(π++ρ)++A.first,listed.getD t.i false=true:=fun t ht=>by
    have:=List.countP_eq_zero.1 (Nat.le_zero.1 hc.1.first) t ht
    simpa using this
   exact⟨any_zero hsz hf1.all hl,QfW hst hr9 hQ.1.first hl⟩
  |succ fuel ih =>
   intro listed c a hsz hd hE hx hst hr0 hc hQ
   have hr9:SR N base c ⟨tmS N (fun i=>listed.getD i false) (π++ρ++A.first) tm0,hS (fun i=>listed.getD i false) (π++ρ++A.first) h0⟩ a:=by rw[Qze];exact hr0
   refine⟨fun h=>QfW hst hr9 hQ.1.first fun t ht=>QeU hsz h _ [] hf1.topo (fun i hi=>by cases hi) (t.i,t.c) (QzD.2 ⟨t,ht,rfl⟩),fun i hi=>?_⟩
   have hi':=hi
   obtain⟨h1,o,ho,_⟩:=mem_ready.1 hi'
   have hlt:i<ops.size:=(Qzs.1 ho).1
   have hd':=QgJ hsz hd hi
   have hset:∀j,(listed.setIfInBounds i true).getD j false=(decide (j=i)||listed.getD j false):=fun j=>QaQ (by omega)
   have hy:listed.getD y false=false:=hx y (by simp[TT.root])
   have hu:listed.getD u false=false:=hx u (by simp[TT.root])
   have hE':∀p∈E,(listed.setIfInBounds i true).getD p.1 false=true:=fun p hp=>by rw[hset,hE p hp];simp
   have hnA:∀t∈A.first,listed.getD t.i false=false:=fun t ht=>hbeh _ (QAk _ (A.QxP t ht)) _ hd hy hu
   have hnB:∀t∈B.first,listed.getD t.i false=false:=fun t ht=>hbeh _ (QAC _ (B.QxP t ht)) _ hd hy hu
   have hcn:∀{T:TT},AllL (fun l=>∀i,i<ops.size->∃t∈l,t.i=i) T (π++ρ)->AllL (fun l=>l.countP (fun t=>!listed.getD t.i false)<=fuel+1) T (π++ρ)->AllL (fun l=>l.countP (fun t=>!(listed.setIfInBounds i true).getD t.i false)<=fuel) T (π++ρ) :=
    fun h1 h2=>(h1.and h2).mono fun l h=>QeZ hsz (h.1 i hlt) hi h.2
   by_cases hiy:i=y
   ·subst hiy
    obtain⟨t,ht,hti⟩:=hf1.all i hlt
    have hy':(listed.setIfInBounds i true).getD i false=true:=by rw[hset];simp
    have g1:∀p∈A.e1 ((i,u)::E),listed.getD p.2 false=true->listed.getD p.1 false=true:=fun p hp h2=>by
     rcases A.QxH _ p hp with hp|hp
     ·rcases Qzn.1 hp with rfl|hp
      ·rw[hu]at h2;cases h2
      ·exact hE p hp
     ·have h3:listed.getD p.2 false=false:=hends _ (QAk _ hp) _ hd hy hu
      rw[h3]at h2;cases h2
    have g2:∀p∈A.e1 ((i,u)::E),(listed.setIfInBounds i true).getD p.2 false=true->(listed.setIfInBounds i true).getD p.1 false=true:=fun p hp h2=>by
     rcases A.QxH _ p hp with hp|hp
     ·rcases Qzn.1 hp with rfl|hp
      ·exact hy'
      ·exact hE' p hp
     ·have h3:listed.getD p.2 false=false:=hends _ (QAk _ hp) _ hd hy hu
      have:p.2≠i:=fun e=>hyA (e▸hp)
      rw[hset,h3]at h2
      simp[this]at h2
    refine Qea hF hr1 hf1.pairs hf1.nodup hf1.kind hi ht hti hsz (fun j k h hk=>AncE.good hd g1 h hk) (fun j k h hk=>AncE.good hd' g2 h hk) hst hr9 fun c' a' hev hst' hr'=>?_
    refine ihA (π++ρ) ((i,u)::E) hfA hrA fuel _ c' a' (by simpa using hsz) hd' ?_ ?_ hst' hr' (hcn hfA.all hc.1) (hQ.1.mono fun l h c2 a2 e2 s2 r2=>h c2 a2 (Ev.trans hst hev e2) s2 r2)
    ·intro p hp
     rcases Qzn.1 hp with rfl|hp
     ·exact hy'
     ·exact hE' p hp
    ·intro j hj
     have h3:listed.getD j false=false:=hends _ (QAk _ (A.QxE j hj)) _ hd hy hu
     rw[hset,h3]
     have:j≠i:=fun e=>hyA (e▸A.QxE j hj)
     simp[this]
   ·by_cases hiu:i=u
    ·subst hiu
     have hf2:=hfB.first
     have hr2:=hrB.first
     obtain⟨t,ht,hti⟩:=hf2.all i hlt
     have skip1:tmS N (fun i=>listed.getD i false) (π++ρ++A.first) tm0=tmS N (fun i=>listed.getD i false) (π++ρ++B.first) tm0:=by
      funext z
      have k1:∀t∈A.first,listed.getD t.i false=true->t.o.dst≠some z:=fun t ht hs _=>by rw[hnA t ht]at hs;cases hs
      have k2:∀t∈B.first,listed.getD t.i false=true->t.o.dst≠some z:=fun t ht hs _=>by rw[hnB t ht]at hs;cases hs
      rw[Qbu N _ (π++ρ) A.first,Qbu N _ (π++ρ) B.first,Z9 (S:=fun i=>listed.getD i false) k1,Z9 (S:=fun i=>listed.getD i false) k2]
     have skip2:hS (fun i=>listed.getD i false) (π++ρ++A.first) h0=hS (fun i=>listed.getD i false) (π++ρ++B.first) h0:=by
      rw[Qb0 _ (π++ρ) A.first,Qb0 _ (π++ρ) B.first,Qbp (S:=fun i=>listed.getD i false) fun t ht _=>hnA t ht,Qbp (S:=fun i=>listed.getD i false) fun t ht _=>hnB t ht]
     rw[skip1,skip2]at hr9
     have hu':(listed.setIfInBounds i true).getD i false=true:=by rw[hset];simp
     have g1:∀p∈B.e1 ((i,y)::E),listed.getD p.2 false=true->listed.getD p.1 false=true:=fun p hp h2=>by
      rcases B.QxH _ p hp with hp|hp
      ·rcases Qzn.1 hp with rfl|hp
       ·rw[hy]at h2;cases h2
       ·exact hE p hp
      ·have h3:listed.getD p.2 false=false:=hends _ (QAC _ hp) _ hd hy hu
       rw[h3]at h2;cases h2
     have g2:∀p∈B.e1 ((i,y)::E),(listed.setIfInBounds i true).getD p.2 false=true->(listed.setIfInBounds i true).getD p.1 false=true:=fun p hp h2=>by
      rcases B.QxH _ p hp with hp|hp
      ·rcases Qzn.1 hp with rfl|hp
       ·exact hu'
       ·exact hE' p hp
      ·have h3:listed.getD p.2 false=false:=hends _ (QAC _ hp) _ hd hy hu
       have:p.2≠i:=fun e=>huB (e▸hp)
       rw[hset,h3]at h2
       simp[this]at h2
     refine Qea hF hr2 hf2.pairs hf2.nodup hf2.kind hi ht hti hsz (fun j k h hk=>AncE.good hd g1 h hk) (fun j k h hk=>AncE.good hd' g2 h hk) hst hr9 fun c' a' hev hst' hr'=>?_
     refine ihB (π++ρ) ((i,y)::E) hfB hrB fuel _ c' a' (by simpa using hsz) hd' ?_ ?_ hst' hr' (hcn hfB.all hc.2) (hQ.2.mono fun l h c2 a2 e2 s2 r2=>h c2 a2 (Ev.trans hst hev e2) s2 r2)
     ·intro p hp
      rcases Qzn.1 hp with rfl|hp
      ·exact hu'
      ·exact hE' p hp
     ·intro j hj
      have h3:listed.getD j false=false:=hends _ (QAC _ (B.QxE j hj)) _ hd hy hu
      rw[hset,h3]
      have:j≠i:=fun e=>huB (e▸B.QxE j hj)
      simp[this]
    ·obtain⟨t,ht,hti⟩:=hf1.all i hlt
     have hy':(listed.setIfInBounds i true).getD y false=false:=by rw[hset,hy];simp;exact fun h=>hiy h.symm
     have hu':(listed.setIfInBounds i true).getD u false=false:=by rw[hset,hu];simp;exact fun h=>hiu h.symm
     have g1:∀p∈A.e1 ((y,u)::E),listed.getD p.2 false=true->listed.getD p.1 false=true:=fun p hp h2=>by
      rcases A.QxH _ p hp with hp|hp
      ·rcases Qzn.1 hp with rfl|hp
       ·rw[hu]at h2;cases h2
       ·exact hE p hp
      ·have h3:listed.getD p.2 false=false:=hends _ (QAk _ hp) _ hd hy hu
       rw[h3]at h2;cases h2
     have g2:∀p∈A.e1 ((y,u)::E),(listed.setIfInBounds i true).getD p.2 false=true->(listed.setIfInBounds i true).getD p.1 false=true:=fun p hp h2=>by
      rcases A.QxH _ p hp with hp|hp
      ·rcases Qzn.1 hp with rfl|hp
       ·rw[hu']at h2;cases h2
       ·exact hE' p hp
      ·have h3:(listed.setIfInBounds i true).getD p.2 false=false:=hends _ (QAk _ hp) _ hd' hy' hu'
       rw[h3]at h2;cases h2
     refine Qea hF hr1 hf1.pairs hf1.nodup hf1.kind hi ht hti hsz (fun j k h hk=>AncE.good hd g1 h hk) (fun j k h hk=>AncE.good hd' g2 h hk) hst hr9 fun c' a' hev hst' hr'=>?_
     refine ih _ c' a' (by simpa using hsz) hd' hE' ?_ hst' (by have h9:=hr';rw[Qze]at h9;exact h9) ⟨hcn hfA.all hc.1,hcn hfB.all hc.2⟩ (hQ.mono fun l h c2 a2 e2 s2 r2=>h c2 a2 (Ev.trans hst hev e2) s2 r2)
     intro j hj
     simp only[TT.root,Qzn,Qzz,QAf]at hj
     rcases hj with rfl|rfl
     ·exact hy'
     ·exact hu'
end
inductive OT where
 |leaf (σ:List (Nat×Nat))
 |node (ρ:List (Nat×Nat)) (y u:Nat) (A B:OT)
def OT.walk(P:Program)(N:Nat)(ops:Array Oper)(K:AS->Prop):OT->AS->Prop
 | .leaf σ,s=>AnyW P N ops σ K s
 | .node ρ _ _ A B,s=>AnyW P N ops ρ (fun s=>OT.walk P N ops K A s/\OT.walk P N ops K B s) s
def OT.all:OT->List Nat
 | .leaf σ=>σ.map (·.1)
 | .node ρ _ _ A B=>ρ.map (·.1)++(A.all++B.all)
def OT.ends:OT->List Nat
 | .leaf _=>[]
 | .node _ y u A B=>y::u::(A.ends++B.ends)
def OT.ok(ops:Array Oper):OT->List (Nat×Nat)->List (Nat×Nat)->Bool
 | .leaf σ,π,E=>okE ops E (π++σ)&&Qqt ops σ
 | .node ρ y u A B,π,E=>(y != u&&!A.ends.contains y&&!B.ends.contains u&&(A.all++B.all).all (behind ops y u)&&(A.ends++B.ends).all (behind ops y u)&&Qqt ops ρ)&&(OT.ok ops A (π++ρ) ((y,u)::E)&&OT.ok ops B (π++ρ) ((u,y)::E))
theorem Qij{ops:Array Oper}{x y i:Nat}(hi:behind ops x y i=true):Beh ops x y i:=by
 intro S hd hx hy
 have hm':∀(k i:Nat),((masks ops.toList []).getD k 0).testBit i=true->Anc ops i k:=Qb6 ops.toList [] (fun j o h=>by simpa using h) (fun k i h=>by simp at h)
 cases hS:S i with
 |false=>rfl
 |true =>
  exfalso
  simp only[behind,QzW,QAb]at hi
  rcases hi with((rfl|rfl)|h)|h
  ·rw[hx]at hS;cases hS
  ·rw[hy]at hS;cases hS
  ·have:=hd.anc (hm' _ _ h) hS;rw[hx]at this;cases this
  ·have:=hd.anc (hm' _ _ h) hS;rw[hy]at this;cases this
theorem QhP{P:Program}{N:Nat}{ops:Array Oper}{K:AS->Prop}{tm0:Nat->AV}{h0:AH}:∀(O:OT) (π:List Tr) (E:List (Nat×Nat)),Runs P N ops π tm0 h0->OT.walk P N ops K O ⟨tmS N (fun _=>true) π tm0,hS (fun _=>true) π h0⟩->OT.ok ops O (π.map fun t=>(t.i,t.c)) E=true ->
  ∃T:TT,T.all=O.all/\T.ends=O.ends/\FitT ops T π E/\AllL (fun l=>Runs P N ops l tm0 h0) T π/\AllL (fun l=>K ⟨tmS N (fun _=>true) l tm0,hS (fun _=>true) l h0⟩) T π
 | .leaf σ,π,E,hr,H,hok=>by
  simp only[OT.ok,Qzk]at hok
  obtain⟨t,rfl,hρ,hK⟩:=QcB H hok.2
  have hrr:=hr.append hρ
  have h1:=hok.1
  rw[<-Qz3]at h1
  refine⟨.leaf t,by simp[TT.all,OT.all],rfl,Qsu hrr h1,hrr,?_⟩
  show K _
  rw[Qbu,Qb0]
  exact hK
 | .node ρ y u A B,π,E,hr,H,hok=>by
  simp only[OT.ok,Qzk,bne_iff_ne,ne_eq,QAG,QzB]at hok
  obtain⟨⟨⟨⟨⟨⟨h1,h2⟩,h3⟩,h4⟩,h5⟩,h6⟩,hA,hB⟩:=hok
  obtain⟨t,rfl,hρ,hK⟩:=QcB H h6
  have hrr:=hr.append hρ
  have e:(⟨tmS N (fun _=>true) t (tmS N (fun _=>true) π tm0),hS (fun _=>true) t (hS (fun _=>true) π h0)⟩:AS)=⟨tmS N (fun _=>true) (π++t) tm0,hS (fun _=>true) (π++t) h0⟩:=by rw[Qbu,Qb0]
  rw[e]at hK
  rw[<-Qz3]at hA hB
  obtain⟨TA,a1,a2,a3,a4,a5⟩:=QhP A (π++t) ((y,u)::E) hrr hK.1 hA
  obtain⟨TB,b1,b2,b3,b4,b5⟩:=QhP B (π++t) ((u,y)::E) hrr hK.2 hB
  refine⟨.node t y u TA TB,by simp[TT.all,OT.all,a1,b1],by simp[TT.ends,OT.ends,a2,b2],⟨h1,?_,?_,?_,?_,a3,b3⟩,⟨a4,b4⟩,⟨a5,b5⟩⟩
  ·rw[a2];simpa using h2
  ·rw[b2];simpa using h3
  ·rw[a1,b1];exact fun i hi=>Qij (h4 i hi)
  ·rw[a2,b2];exact fun i hi=>Qij (h5 i hi)
theorem YG{P:Program}{N:Nat}{Q:AExit->AS->Prop}{s:AS}{id:Nat}{ops:Array Oper}(O:OT)(hm:P.follows .mixedOrders=true)(hok:OT.ok ops O [] []=true)
  (H:∀(K:AS->Prop),(∀s,Q .normal s->K s)->OT.walk P N ops K O s):Xs P N (.region id ops true) Q s:=by
 intro F n base c a hF hst hr R hR
 refine wpIn_region_any hm ?_
 obtain⟨tm,hp⟩:=s
 obtain⟨T,_,_,hfit,hruns,hQ⟩:=QhP (tm0:=tm) (h0:=hp) O [] [] (.nil _ _) (H (fun s=>Q .normal s) (fun s h=>h)) hok
 have hev:Ev c (c.to {c.w with drawn:=c.w.drawn+1}):=Ev.idle hst (Ev.refl c) rfl rfl rfl rfl fun k=>.inl rfl
 have hst':St (c.to {c.w with drawn:=c.w.drawn+1}):=hst.idle rfl fun k o hk=>.inl hk
 have hr':SR N (base,F) (c.to {c.w with drawn:=c.w.drawn+1}) ⟨tm,hp⟩ a:=⟨hr.h,hr.size,QzL hr.above hev.size,hr.defers.ev hev,RoundOk.ev hev hr.round,fun t=>(hr.tm t).ev hst hev⟩
 have hnone:∀j,(Array.replicate ops.size false).getD j false=false:=fun j=>by
  rw[Qzr,QAo]
  split <;> rfl
 have hlen:AllL (fun l=>l.length=ops.size) T []:=by
  have:∀(T:TT) (π:List Tr) (E:List (Nat×Nat)),FitT ops T π E->AllL (fun l=>l.length=ops.size) T π:=by
   intro T
   induction T with
   |leaf t=>exact fun π E h=>FitE.len h
   |node ρ y u A B ihA ihB=>exact fun π E h=>⟨ihA _ _ h.2.2.2.2.2.1,ihB _ _ h.2.2.2.2.2.2⟩
  exact this T [] [] hfit
 refine Qpg (base:=(base,F)) hF T [] [] hfit hruns _ _ (c.to {c.w with drawn:=c.w.drawn+1}) a (by simp) ?_ (fun p hp=>by cases hp) (fun i _=>hnone i) hst' ?_ (hlen.mono fun l h=>QzL List.countP_le_length (QAT h)) (hQ.mono fun l h c' a' h1 h2 h3=>hR .normal _ c' a' .normal h (Ev.trans hst hev h1) h2 h3 rfl)
 ·intro j o ho hj
  simp only at hj
  rw[hnone]at hj;cases hj
 ·have e1:tmS N (fun i=>(Array.replicate ops.size false).getD i false) ([]++T.first) tm=tm:=funext fun x=>Z9 fun t _ h=>by rw[hnone]at h;cases h
  have e2:hS (fun i=>(Array.replicate ops.size false).getD i false) ([]++T.first) hp=hp:=Qbp fun t _ _=>hnone _
  rw[e1,e2];exact hr'
end Go.Proofs.YtenheconhibonaaGreatDoor.Ab
set_option linter.unusedSectionVars false
namespace Go.Proofs.YtenheconhibonaaGreatDoor.Ab
open Go.Proofs
def In(n:Int)(p:Int):Prop:=0<=p/\p<=n
def PS.inn(n:Int)(s:PS):Prop:=∀t∈s.toks,In n t.pos
def PsOk{α:Type}(n:Int)(x:PR α):Prop:=match x with
 | .ok _ s2=>s2.inn n
 | .err p _=>In n p
def Ps{α:Type}(n:Int)(f:PS->PR α):Prop:=∀s,s.inn n->PsOk n (f s)
theorem Qb1{n:Int}{s:PS}(h:s.inn n):s.nx.inn n:=by
 unfold PS.nx
 split
 ·rename_i t u r e
  intro x hx
  exact h x (by rw[e];exact QzV _ hx)
 ·exact h
theorem Qfx{n:Int}(hn:0<=n){s:PS}(h:s.inn n):In n s.tk.pos:=by
 unfold PS.tk
 cases e:s.toks with
 |nil=>exact⟨Int.le_refl _,hn⟩
 |cons t l=>exact h t (by rw[e];simp)
theorem Yh{α:Type}{n:Int}(f:PS->α):Ps n fun s=>.ok (f s) s:=fun s h=>h
theorem Ya{α:Type}{n:Int}(hn:0<=n)(e:Int):Ps n fun s=>(.err s.tk.pos e:PR α):=fun s h=>Qfx hn h
theorem Qcp{α β:Type}{n:Int}{F:PS->PR α}{f:PS->α->PS->PR β}(hF:Ps n F)(hf:∀s0,s0.inn n->∀a,Ps n (f s0 a)):Ps n fun s=>(F s).bind (f s):=fun s h=>by
 have h1:=hF s h
 show PsOk n ((F s).bind (f s))
 cases e:F s with
 |ok a s2=>rw[e]at h1;exact hf s h a s2 h1
 |err p c=>rw[e]at h1;exact h1
theorem QH{α β:Type}{n:Int}{F:PS->PR α}{f:PS->α->PS->PR β}(hF:Ps n F)(hf:∀s0 a,Ps n (f s0 a)):Ps n fun s=>(F s).bind (f s):=Qcp hF fun s0 _=>hf s0
theorem QhA{α:Type}{n p:Int}(h:In n p)(e:Int):Ps n fun _=>(.err p e:PR α):=fun _ _=>h
theorem QS{α:Type}{n:Int}{c:PS->Prop}[∀s,Decidable (c s)]{f g:PS->PR α}(hf:Ps n f)(hg:Ps n g):Ps n fun s=>if c s then f s else g s:=fun s h=>by
 show PsOk n (if c s then f s else g s)
 split
 ·exact hf s h
 ·exact hg s h
theorem Yz{α:Type}{n:Int}{f:PS->PR α}(hf:Ps n f):Ps n fun s=>f s.nx:=fun s h=>hf s.nx (Qb1 h)
theorem ZX{α:Type}{n:Int}{f:PS->PS->PR α}(hf:∀s0,Ps n (f s0)):Ps n fun s=>f s s:=fun s h=>hf s s h
variable{n:Int}(hn:0<=n)
include hn
theorem YW(b:List UInt8):Ps n (XE b):=QS (c:=fun s=>s.is b=true) (Yz (Yh fun _=>())) (Ya hn 16)
theorem name_ps:Ps n QaM:=QS (c:=fun s=>s.tk.kind≠1) (Ya hn 16) (QS (c:=fun s=>resB s.tk.text=true) (Ya hn 7) fun s h=>Qb1 h)
theorem Qgu{ex:PS->PR T}(H:Ps n ex):∀(m:Nat) (l:List T),Ps n (ZV ex m l)
 |0,_=>Ya hn 16
 |m+1,l=>QH H fun _ t=>QS (c:=fun s=>s.is Yb=true) (Yz (Qgu H m _)) (QH (YW hn _) fun _ _=>Yh _)
theorem atom_ps{ex:PS->PR T}(H:Ps n ex):Ps n (Zq ex):=QH (name_ps hn) fun _ x=>QS (c:=fun s=>s.is sLp=true) (ZX (f:=fun s0 s=>(ZV ex s0.toks.length [] s.nx).bind fun l s=>.ok (⟨0,x,l⟩:G) s) fun s0=>QH (Yz (Qgu hn H _ _)) fun _ _=>Yh fun _=>_) (Yh _)
theorem opT_ps{ex:PS->PR T}(H:Ps n ex):Ps n (pOpT ex) :=
 QS (c:=fun s=>s.tk.kind=3) (fun s h=>Qb1 h) (QS (c:=fun s=>s.tk.kind=2) (fun s h=>by
  show(pVari s.tk.text s.nx).2.inn n
  intro t ht
  rw[QhS]at ht
  exact Qb1 h t ht) (QS (c:=fun s=>s.tk.kind=1) (QH (atom_ps hn H) fun _ _=>Yh _)
  (QS (c:=fun s=>s.is QhF=true) (QS (c:=fun s=>s.nx.tk.kind≠3\/s.nx.tk.pos≠s.tk.pos+1) (fun s h=>Qfx hn (Qb1 h)) fun s h=>Qb1 (Qb1 h))
  (QS (c:=fun s=>s.is sLp=true) (QH (Yz H) fun _ t=>QH (YW hn _) fun _ _=>Yh _) (Ya hn 16)))))
theorem QcH{op:PS->PR T}(H:Ps n op)(ops:List (List UInt8)):∀(m:Nat) (t:T),Ps n (XW op ops m t)
 |0,t=>Yh fun _=>t
 |m+1,t=>QS (c:=fun s=>s.oneOf ops=true) (QH (f:=fun s u s2=>XW op ops m (.mk 2 0 s.tk.text [t,u]) s2) (Yz H) fun _ _=>QcH H ops m _) (Yh fun _=>t)
theorem chain_ps{op:PS->PR T}(H:Ps n op)(ops:List (List UInt8)):Ps n (XB op ops):=QH H fun _ t=>ZX (f:=fun s0 s=>XW op ops s0.toks.length t s) fun s0=>QcH hn H ops _ t
theorem exprT_ps:∀m,Ps n (Ys m)
 |0=>Ya hn 16
 |m+1=>chain_ps hn (chain_ps hn (opT_ps hn (exprT_ps m)) Xq) Yr
theorem termT_ps:Ps n XD:=ZX (f:=fun s0 s=>Ys (s0.toks.length+1) s) fun s0=>exprT_ps hn _
theorem Qhv(op:Int):Ps n (QdZ op):=QH (YW hn _) fun _ _=>QH (termT_ps hn) fun _ _=>QH (YW hn _) fun _ _=>Yh _
theorem goalT_ps:Ps n ZQ:=QS (c:=fun s=>s.tk.kind=1/\resB s.tk.text=true)
 (QS (c:=fun s=>s.tk.text.toList=[116,114,117,101]) (Yz (Yh fun _=>_)) (QS (c:=fun s=>s.tk.text.toList=[102,97,105,108]) (Yz (Yh fun _=>_))
  (QS (c:=fun s=>s.tk.text.toList=[105,110,116]) (Yz (Qhv hn _)) (QS (c:=fun s=>s.tk.text.toList=[103,114,111,117,110,100]) (Yz (Qhv hn _)) (Ya hn 7)))))
 (QH (termT_ps hn) fun s t s2 h=>by
  cases hc:cmpOp s2 with
  |some x =>
   obtain⟨op,turn⟩:=x
   simp only
   exact(QH (f:=fun _ u s3=>.ok (⟨op,eB,if turn then[u,t]else[t,u]⟩:G) s3) (Yz (termT_ps hn)) fun _ _=>Yh fun _=>_) s2 h
  |none =>
   simp only
   by_cases hc:s.tk.kind=1/\t.name.toList=s.tk.text.toList
   ·rw[Qzh hc];exact h
   ·rw[Qzf hc];exact Qfx hn h)
theorem QcN(most:Nat):∀(m:Nat) (l:List G),Ps n (YU most m l)
 |0,_=>Ya hn 16
 |m+1,l=>QS (c:=fun _=>most<=l.length) (Ya hn 6) (Qcp (goalT_ps hn) fun s0 h0 g=>QS (c:=fun _=>Qo g=false) (QhA (Qfx hn h0) 6) (QS (c:=fun s=>s.is Yb=true) (Yz (QcN most m _)) (Yh _)))
theorem goals_ps(most:Nat):Ps n (YP most):=ZX (f:=fun s0 s=>YU most (s0.toks.length+1) [] s) fun s0=>QcN hn most _ _
theorem QcQ(pre:Nat):∀(m:Nat) (l:List G),Ps n (YO pre m l)
 |0,_=>Ya hn 16
 |m+1,l=>QS (c:=fun _=>4<=pre+l.length) (Ya hn 6) (Qcp (atom_ps hn (termT_ps hn)) fun s0 h0 g=>QS (c:=fun _=>Qt g=false) (QhA (Qfx hn h0) 6) (QS (c:=fun s=>s.is Yb=true) (Yz (QcQ pre m _)) (Yh _)))
theorem heads_ps(pre:Nat):Ps n (Yt pre):=ZX (f:=fun s0 s=>YO pre (s0.toks.length+1) [] s) fun s0=>QcQ hn pre _ _
theorem Qd4(name:ByteArray)(keep remove:List G):Ps n (ZW name keep remove) :=
 QH (goals_ps hn 12) fun _ b=>QS (c:=fun s=>s.is sBar=true) (QH (Yz (goals_ps hn 12)) fun _ b2=>QH (YW hn _) fun _ _=>Yh _) (QH (YW hn _) fun _ _=>Yh _)
theorem QmL(name:ByteArray)(first:List G):Ps n (Quk name first) :=
 QS (c:=fun s=>s.is ZN=true) (Yz (Qd4 hn _ _ _)) (QS (c:=fun s=>s.is Qc4=true) (Yz (Qd4 hn _ _ _)) (QS (c:=fun s=>s.is QdC=true) (QH (Yz (heads_ps hn _)) fun _ _=>QH (YW hn _) fun _ _=>Qd4 hn _ _ _) (Ya hn 16)))
theorem Qgx(name:ByteArray):Ps n (QsA name):=QH (heads_ps hn 0) fun _ f=>QmL hn name f
theorem QjV:Ps n ZS:=fun s h=>by
 rw[Qlt]
 exact(QS (c:=fun s=>s.tk.kind=1/\s.nx.is sAt=true) (QH (name_ps hn) fun _ x=>Yz (Qgx hn x)) (Qgx hn eB)) s h
theorem rule_ps:Ps n Qa4:=fun s h=>(QH (F:=fun s=>ZS ⟨s.toks,[]⟩) (f:=fun _ r s=>.ok r.numd s) (fun s h=>QjV hn ⟨s.toks,[]⟩ h) fun _ _=>Yh fun _=>_) s h
theorem Qeh:∀(m:Nat) (l:List Dc),Ps n (Qa3 m l)
 |0,_=>Ya hn 16
 |m+1,l=>QS (c:=fun _=>30<=l.length) (Ya hn 6) (QH (name_ps hn) fun _ x=>QH (YW hn _) fun _ _ =>
   QS (c:=fun s=>s.tk.kind≠3) (Ya hn 16) (QS (c:=fun s=>valT s.tk.text>6) (Ya hn 6)
   (QS (c:=fun s=>s.nx.is Yb=true) (ZX (f:=fun s0 s=>Qa3 m (l++[⟨x,valT s0.tk.text⟩]) s.nx.nx) fun s0=>Yz (Yz (Qeh m _)))
    (ZX (f:=fun s0 s=>(XE sDot s.nx).bind fun _ s2=>.ok (l++[⟨x,valT s0.tk.text⟩]) s2) fun s0=>QH (Yz (YW hn _)) fun _ _=>Yh fun _=>_))))
theorem decls_ps:∀(m:Nat) (l:List Dc),Ps n (ZP m l)
 |0,l=>Yh fun _=>l
 |m+1,l=>QS (c:=fun s=>s.tk.kind=1/\s.tk.text.toList=QkG) (ZX (f:=fun s0 s=>(Qa3 (s0.toks.length+1) l s.nx).bind fun l s=>ZP m l s) fun s0=>QH (Yz (Qeh hn _ l)) fun _ d=>decls_ps m d) (Yh fun _=>l)
theorem QeK:∀(m:Nat) (l:List Rl),Ps n (QaI m l)
 |0,l=>Yh fun _=>l
 |m+1,l=>QS (c:=fun s=>s.tk.kind=0) (Yh fun _=>l) (QS (c:=fun _=>40<=l.length) (Ya hn 6) (QH (rule_ps hn) fun _ r=>QeK m _))
theorem prog_ps:Ps n QjU:=QH (F:=fun s=>ZP (s.toks.length+1) [] s) (ZX (f:=fun s0 s=>ZP (s0.toks.length+1) [] s) fun s0=>decls_ps hn _ _) fun _ d =>
 QH (F:=fun s=>QaI (s.toks.length+1) [] s) (ZX (f:=fun s0 s=>QaI (s0.toks.length+1) [] s) fun s0=>QeK hn _ _) fun _ r=>Yh fun _=>_
end Go.Proofs.YtenheconhibonaaGreatDoor.Ab
set_option linter.unusedSectionVars false
namespace Go.Proofs.YtenheconhibonaaGreatDoor.Ab
open Go.Proofs
structure Wd where
 W:PS->Prop
 nx:∀s,W s->W s.nx
 vr:∀s,W s->s.tk.kind=2->W (pVari s.tk.text s.nx).2
 cl:∀s,W s->W ⟨s.toks,[]⟩
namespace Kp
def In(n:Wd)(p:Int):Prop:=True
def inn(n:Wd)(s:PS):Prop:=n.W s
def PsOk{α:Type}(n:Wd)(x:PR α):Prop:=match x with
 | .ok _ s2=>n.W s2
 | .err _ e=>e≠0
def Ps{α:Type}(n:Wd)(f:PS->PR α):Prop:=∀s,n.W s->PsOk n (f s)
theorem Ps.ok{α:Type}{n:Wd}{f:PS->PR α}(H:Ps n f){s:PS}(h:n.W s){a:α}{s2:PS}(e:f s = .ok a s2):n.W s2:=by
 have:=H s h
 rw[e]at this
 exact this
theorem Ps.err{α:Type}{n:Wd}{f:PS->PR α}(H:Ps n f){s:PS}(h:n.W s){p c:Int}(e:f s = .err p c):c≠0:=by
 have:=H s h
 rw[e]at this
 exact this
theorem Qb1{n:Wd}{s:PS}(h:n.W s):n.W s.nx:=n.nx s h
theorem Qfx{n:Wd}(hn:True){s:PS}(h:n.W s):In n s.tk.pos:=trivial
theorem Yh{α:Type}{n:Wd}(f:PS->α):Ps n fun s=>.ok (f s) s:=fun s h=>h
theorem Ya{α:Type}{n:Wd}(hn:True)(e:Int)(he:e≠0:=by decide):Ps n fun s=>(.err s.tk.pos e:PR α):=fun s h=>he
theorem Qcp{α β:Type}{n:Wd}{F:PS->PR α}{f:PS->α->PS->PR β}(hF:Ps n F)(hf:∀s0,n.W s0->∀a,Ps n (f s0 a)):Ps n fun s=>(F s).bind (f s):=fun s h=>by
 have h1:=hF s h
 show PsOk n ((F s).bind (f s))
 cases e:F s with
 |ok a s2=>rw[e]at h1;exact hf s h a s2 h1
 |err p c=>rw[e]at h1;exact h1
theorem QH{α β:Type}{n:Wd}{F:PS->PR α}{f:PS->α->PS->PR β}(hF:Ps n F)(hf:∀s0 a,Ps n (f s0 a)):Ps n fun s=>(F s).bind (f s):=Qcp hF fun s0 _=>hf s0
theorem QhA{α:Type}{n:Wd}{p:Int}(h:In n p)(e:Int)(he:e≠0:=by decide):Ps n fun _=>(.err p e:PR α):=fun _ _=>he
theorem QS{α:Type}{n:Wd}{c:PS->Prop}[∀s,Decidable (c s)]{f g:PS->PR α}(hf:Ps n f)(hg:Ps n g):Ps n fun s=>if c s then f s else g s:=fun s h=>by
 show PsOk n (if c s then f s else g s)
 split
 ·exact hf s h
 ·exact hg s h
theorem Yz{α:Type}{n:Wd}{f:PS->PR α}(hf:Ps n f):Ps n fun s=>f s.nx:=fun s h=>hf s.nx (Qb1 h)
theorem ZX{α:Type}{n:Wd}{f:PS->PS->PR α}(hf:∀s0,Ps n (f s0)):Ps n fun s=>f s s:=fun s h=>hf s s h
variable{n:Wd}(hn:True)
include hn
theorem YW(b:List UInt8):Ps n (XE b):=QS (c:=fun s=>s.is b=true) (Yz (Yh fun _=>())) (Ya hn 16)
theorem name_ps:Ps n QaM:=QS (c:=fun s=>s.tk.kind≠1) (Ya hn 16) (QS (c:=fun s=>resB s.tk.text=true) (Ya hn 7) fun s h=>Qb1 h)
theorem Qgu{ex:PS->PR T}(H:Ps n ex):∀(m:Nat) (l:List T),Ps n (ZV ex m l)
 |0,_=>Ya hn 16
 |m+1,l=>QH H fun _ t=>QS (c:=fun s=>s.is Yb=true) (Yz (Qgu H m _)) (QH (YW hn _) fun _ _=>Yh _)
theorem atom_ps{ex:PS->PR T}(H:Ps n ex):Ps n (Zq ex):=QH (name_ps hn) fun _ x=>QS (c:=fun s=>s.is sLp=true) (ZX (f:=fun s0 s=>(ZV ex s0.toks.length [] s.nx).bind fun l s=>.ok (⟨0,x,l⟩:G) s) fun s0=>QH (Yz (Qgu hn H _ _)) fun _ _=>Yh fun _=>_) (Yh _)
theorem Qvo:Ps n fun s=>if s.nx.tk.kind≠3\/s.nx.tk.pos≠s.tk.pos+1 then(.err s.nx.tk.pos 16:PR T)else .ok (.mk 0 (-valT s.nx.tk.text) eB []) s.nx.nx:=fun s h=>by
 have _u:=hn
 show PsOk n (if s.nx.tk.kind≠3\/s.nx.tk.pos≠s.tk.pos+1 then _ else _)
 split
 ·show(16:Int)≠0;decide
 ·exact Qb1 (Qb1 h)
theorem opT_ps{ex:PS->PR T}(H:Ps n ex):Ps n (pOpT ex) :=
 QS (c:=fun s=>s.tk.kind=3) (fun s h=>Qb1 h) (fun s h=>by
  show PsOk n (if s.tk.kind=2 then _ else _)
  by_cases hk:s.tk.kind=2
  ·rw[if_pos hk];exact n.vr s h hk
  ·rw[if_neg hk]
   by_cases h1:s.tk.kind=1
   ·rw[if_pos h1]
    exact(QH (F:=Zq ex) (f:=fun _ a s=>(.ok (.mk 2 0 a.name a.args) s:PR T)) (atom_ps hn H) fun _ _=>Yh fun _=>_) s h
   ·rw[if_neg h1]
    by_cases h2:s.is QhF=true
    ·rw[if_pos h2];exact Qvo hn s h
    ·rw[if_neg h2]
     by_cases h3:s.is sLp=true
     ·rw[if_pos h3]
      exact(QH (F:=fun s=>ex s.nx) (f:=fun _ t s=>(XE sRp s).bind fun _ s=>(.ok t s:PR T)) (Yz H) fun _ t=>QH (F:=XE sRp) (f:=fun _ _ s=>(.ok t s:PR T)) (YW hn _) fun _ _=>Yh fun _=>t) s h
     ·rw[if_neg h3];show(16:Int)≠0;decide)
theorem QcH{op:PS->PR T}(H:Ps n op)(ops:List (List UInt8)):∀(m:Nat) (t:T),Ps n (XW op ops m t)
 |0,t=>Yh fun _=>t
 |m+1,t=>QS (c:=fun s=>s.oneOf ops=true) (QH (f:=fun s u s2=>XW op ops m (.mk 2 0 s.tk.text [t,u]) s2) (Yz H) fun _ _=>QcH H ops m _) (Yh fun _=>t)
theorem chain_ps{op:PS->PR T}(H:Ps n op)(ops:List (List UInt8)):Ps n (XB op ops):=QH H fun _ t=>ZX (f:=fun s0 s=>XW op ops s0.toks.length t s) fun s0=>QcH hn H ops _ t
theorem exprT_ps:∀m,Ps n (Ys m)
 |0=>Ya hn 16
 |m+1=>chain_ps hn (chain_ps hn (opT_ps hn (exprT_ps m)) Xq) Yr
theorem termT_ps:Ps n XD:=ZX (f:=fun s0 s=>Ys (s0.toks.length+1) s) fun s0=>exprT_ps hn _
theorem Qhv(op:Int):Ps n (QdZ op):=QH (YW hn _) fun _ _=>QH (termT_ps hn) fun _ _=>QH (YW hn _) fun _ _=>Yh _
theorem goalT_ps:Ps n ZQ:=QS (c:=fun s=>s.tk.kind=1/\resB s.tk.text=true)
 (QS (c:=fun s=>s.tk.text.toList=[116,114,117,101]) (Yz (Yh fun _=>_)) (QS (c:=fun s=>s.tk.text.toList=[102,97,105,108]) (Yz (Yh fun _=>_))
  (QS (c:=fun s=>s.tk.text.toList=[105,110,116]) (Yz (Qhv hn _)) (QS (c:=fun s=>s.tk.text.toList=[103,114,111,117,110,100]) (Yz (Qhv hn _)) (Ya hn 7)))))
 (QH (termT_ps hn) fun s t s2 h=>by
  cases hc:cmpOp s2 with
  |some x =>
   obtain⟨op,turn⟩:=x
   simp only
   exact(QH (f:=fun _ u s3=>.ok (⟨op,eB,if turn then[u,t]else[t,u]⟩:G) s3) (Yz (termT_ps hn)) fun _ _=>Yh fun _=>_) s2 h
  |none =>
   simp only
   by_cases hc:s.tk.kind=1/\t.name.toList=s.tk.text.toList
   ·rw[if_pos hc];exact h
   ·rw[if_neg hc];exact(by decide:(16:Int)≠0))
theorem QcN(most:Nat):∀(m:Nat) (l:List G),Ps n (YU most m l)
 |0,_=>Ya hn 16
 |m+1,l=>QS (c:=fun _=>most<=l.length) (Ya hn 6) (Qcp (goalT_ps hn) fun s0 h0 g=>QS (c:=fun _=>Qo g=false) (QhA (Qfx hn h0) 6) (QS (c:=fun s=>s.is Yb=true) (Yz (QcN most m _)) (Yh _)))
theorem goals_ps(most:Nat):Ps n (YP most):=ZX (f:=fun s0 s=>YU most (s0.toks.length+1) [] s) fun s0=>QcN hn most _ _
theorem QcQ(pre:Nat):∀(m:Nat) (l:List G),Ps n (YO pre m l)
 |0,_=>Ya hn 16
 |m+1,l=>QS (c:=fun _=>4<=pre+l.length) (Ya hn 6) (Qcp (atom_ps hn (termT_ps hn)) fun s0 h0 g=>QS (c:=fun _=>Qt g=false) (QhA (Qfx hn h0) 6) (QS (c:=fun s=>s.is Yb=true) (Yz (QcQ pre m _)) (Yh _)))
theorem heads_ps(pre:Nat):Ps n (Yt pre):=ZX (f:=fun s0 s=>YO pre (s0.toks.length+1) [] s) fun s0=>QcQ hn pre _ _
theorem Qd4(name:ByteArray)(keep remove:List G):Ps n (ZW name keep remove) :=
 QH (goals_ps hn 12) fun _ b=>QS (c:=fun s=>s.is sBar=true) (QH (Yz (goals_ps hn 12)) fun _ b2=>QH (YW hn _) fun _ _=>Yh _) (QH (YW hn _) fun _ _=>Yh _)
theorem QmL(name:ByteArray)(first:List G):Ps n (Quk name first) :=
 QS (c:=fun s=>s.is ZN=true) (Yz (Qd4 hn _ _ _)) (QS (c:=fun s=>s.is Qc4=true) (Yz (Qd4 hn _ _ _)) (QS (c:=fun s=>s.is QdC=true) (QH (Yz (heads_ps hn _)) fun _ _=>QH (YW hn _) fun _ _=>Qd4 hn _ _ _) (Ya hn 16)))
theorem Qgx(name:ByteArray):Ps n (QsA name):=QH (heads_ps hn 0) fun _ f=>QmL hn name f
theorem QjV:Ps n ZS:=fun s h=>by
 rw[Qlt]
 exact(QS (c:=fun s=>s.tk.kind=1/\s.nx.is sAt=true) (QH (name_ps hn) fun _ x=>Yz (Qgx hn x)) (Qgx hn eB)) s h
theorem rule_ps:Ps n Qa4:=fun s h=>(QH (F:=fun s=>ZS ⟨s.toks,[]⟩) (f:=fun _ r s=>.ok r.numd s) (fun s h=>QjV hn ⟨s.toks,[]⟩ (n.cl s h)) fun _ _=>Yh fun _=>_) s h
theorem Qeh:∀(m:Nat) (l:List Dc),Ps n (Qa3 m l)
 |0,_=>Ya hn 16
 |m+1,l=>QS (c:=fun _=>30<=l.length) (Ya hn 6) (QH (name_ps hn) fun _ x=>QH (YW hn _) fun _ _ =>
   QS (c:=fun s=>s.tk.kind≠3) (Ya hn 16) (QS (c:=fun s=>valT s.tk.text>6) (Ya hn 6)
   (QS (c:=fun s=>s.nx.is Yb=true) (ZX (f:=fun s0 s=>Qa3 m (l++[⟨x,valT s0.tk.text⟩]) s.nx.nx) fun s0=>Yz (Yz (Qeh m _)))
    (ZX (f:=fun s0 s=>(XE sDot s.nx).bind fun _ s2=>.ok (l++[⟨x,valT s0.tk.text⟩]) s2) fun s0=>QH (Yz (YW hn _)) fun _ _=>Yh fun _=>_))))
theorem decls_ps:∀(m:Nat) (l:List Dc),Ps n (ZP m l)
 |0,l=>Yh fun _=>l
 |m+1,l=>QS (c:=fun s=>s.tk.kind=1/\s.tk.text.toList=QkG) (ZX (f:=fun s0 s=>(Qa3 (s0.toks.length+1) l s.nx).bind fun l s=>ZP m l s) fun s0=>QH (Yz (Qeh hn _ l)) fun _ d=>decls_ps m d) (Yh fun _=>l)
theorem QeK:∀(m:Nat) (l:List Rl),Ps n (QaI m l)
 |0,l=>Yh fun _=>l
 |m+1,l=>QS (c:=fun s=>s.tk.kind=0) (Yh fun _=>l) (QS (c:=fun _=>40<=l.length) (Ya hn 6) (QH (rule_ps hn) fun _ r=>QeK m _))
theorem prog_ps:Ps n QjU:=QH (F:=fun s=>ZP (s.toks.length+1) [] s) (ZX (f:=fun s0 s=>ZP (s0.toks.length+1) [] s) fun s0=>decls_ps hn _ _) fun _ d =>
 QH (F:=fun s=>QaI (s.toks.length+1) [] s) (ZX (f:=fun s0 s=>QaI (s0.toks.length+1) [] s) fun s0=>QeK hn _ _) fun _ r=>Yh fun _=>_
theorem Qu5:Ps n pEnd:=QS (c:=fun s=>s.tk.kind=0) (Yh fun _=>()) (Ya hn 16)
theorem one_ps:Ps n QbD:=QH (rule_ps hn) fun _ r=>QH (Qu5 hn) fun _ _=>Yh fun _=>_
end Kp
theorem Qtu(s:PS):s.nx.toks <:+ s.toks:=by
 unfold PS.nx
 split
 ·rename_i t u r e;rw[e];exact List.suffix_cons _ _
 ·exact List.suffix_refl _
theorem Qpf(x:ByteArray)(s:PS):(pVari x s).2.names.length<=s.names.length+1:=by
 unfold pVari
 split
 ·exact Nat.le_succ _
 ·simp
theorem QrO{s s':PS}(e:s.toks=s'.toks)(h:s.wf):s'.wf:=by
 obtain⟨l,x,h1,h2,h3⟩:=h
 exact⟨l,x,e▸h1,h2,h3⟩
structure Wst (all:List Tk) (s:PS):Prop where
 wf:s.wf
 suf:s.toks <:+ all
 nms:s.names.length+s.toks.length<=all.length
theorem Wst.nx{all:List Tk}{s:PS}(h:Wst all s):Wst all s.nx :=
 ⟨Qae h.wf,(Qtu s).trans h.suf,by have:=QuM h.wf;have:=h.nms;show s.names.length+_<=_;omega⟩
theorem Wst.vr{all:List Tk}{s:PS}(h:Wst all s)(hk:s.tk.kind≠0):Wst all (pVari s.tk.text s.nx).2:=by
 have e:=QhS s.tk.text s.nx
 refine⟨QrO e.symm (Qae h.wf),by rw[e];exact(Qtu s).trans h.suf,?_⟩
 have h1:=Qpf s.tk.text s.nx
 have h2:=XX h.wf hk
 have h3:=h.nms
 have h4:s.nx.names=s.names:=rfl
 rw[e];rw[h4]at h1;omega
def wdOf(all:List Tk):Wd:=⟨Wst all,fun s h=>h.nx,fun s h hk=>h.vr (by rw[hk];decide),fun s h=>⟨QrO rfl h.wf,h.suf,by have:=h.suf.length_le;simpa using this⟩⟩
end Go.Proofs.YtenheconhibonaaGreatDoor.Ab
namespace Go.Proofs.YtenheconhibonaaGreatDoor.Ab
theorem QtF{c:Cx}(hs:St c){s:Nat}{k:AB}(hk:k = .dead\/∃e,k = .grow e s 0):Ev c (c.add c.w k none)/\St (c.add c.w k none):=by
 have hg:=Grows.refl c.w
 have ho:∀B,(none:Option Nat)=some B->c.w.heap.size<=B:=fun B h=>by cases h
 have hρ:(c.add c.w k none).ρ c.h.length=none:=by simp[Cx.add]
 refine⟨Ev.add hs hg k none ho,St.add hs hg _ _ ho ?_⟩
 rcases hk with rfl|⟨e,rfl⟩
 ·trivial
 ·exact fun B hB=>by rw[hρ]at hB;cases hB
theorem QuF{c:Cx}(hst:St c){id ty n s:Nat}{k:AB}(hk:k = .dead\/∃e,k = .grow e s 0){xs xs':List AV}{j:Nat}(hb:c.h[id]? = some (.cells ty n xs))(hj:(flat xs)[j]? = some (.v (.slice none 0 0)))
  (hf:flat xs'=(flat xs).set j (.sl s [] (some c.h.length))) (hc:∀x∈xs',x.cells.length=n) :
  ∃c2,Ev c c2/\St c2/\c2.h=(c.h++[k]).set id (AB.cells ty n xs')/\c2.w=c.w:=by
 obtain⟨hev,hst1⟩:=QtF hst hk
 have hlt:=Qf hb
 have hb1:(c.add c.w k none).h[id]? = some (.cells ty n xs):=by
  simp only[Cx.add];rw[Qzc hlt];exact hb
 obtain⟨B,cur,hρ,hcur,h3,h4⟩:=hst1.blocks id _ hb1
 have hev2:=Ev.turn (b':=.cells ty n xs') hst1 hb1 rfl hρ (w:=c.w) rfl rfl rfl rfl (fun _ _=>rfl) (.inr ⟨_,rfl,rfl,fun _ cur _ h=>⟨cur,h,rfl⟩⟩)
 have htok:((c.add c.w k none).turn c.w id (.cells ty n xs')).tokNil c.h.length s:=by
  refine⟨by simp[Cx.turn,Cx.add],fun e2 s2 n2 hg2=>?_⟩
  simp only[Cx.turn,Cx.add]at hg2
  rw[Qzd (by omega),Qzi (Qzl _),Qz0]at hg2
  rcases hk with rfl|⟨e,rfl⟩
  ·simp at hg2
  ·simp at hg2
   exact⟨hg2.2.1.symm,fun _=>by simp[Cx.turn,Cx.add]⟩
 have hst2:=St.turn (b':=.cells ty n xs') hst1 hb1 rfl hρ (w:=c.w) (fun _ _=>rfl) hev2 ⟨B,cur,hρ,hcur,hc,by
  intro i a' hi
  rw[hf]at hi
  by_cases e:j=i
  ·subst e
   rw[Qzj (Qf hj)]at hi
   cases hi
   obtain⟨u,g1,g2,g3⟩:=h4 j _ hj
   cases g3
   exact⟨_,g1,g2,.slnil _ _ fun b hb=>by cases hb;exact htok⟩
  ·rw[Qzd e]at hi
   obtain⟨u,g1,g2,g3⟩:=h4 i _ hi
   exact⟨u,g1,g2,g3.ev hst1 hev2⟩⟩
 exact⟨_,Ev.trans hst hev hev2,hst2,rfl,rfl⟩
theorem ZH{P:Program}{N:Nat}{code:Code}{Q:AExit->AS->Prop}{tm:Nat->AV}{h:AH}(id ty n s:Nat)(k:AB)(hk:k = .dead\/∃e,k = .grow e s 0)(xs xs':List AV)(j:Nat)(hb:h[id]? = some (.cells ty n xs))
  (hj:(flat xs)[j]? = some (.v (.slice none 0 0))) (hf:flat xs'=(flat xs).set j (.sl s [] (some h.length))) (hc:∀x∈xs',x.cells.length=n)
  (H:Xs P N code Q ⟨tm,(h++[k]).set id (AB.cells ty n xs')⟩):Xs P N code Q ⟨tm,h⟩:=by
 intro F m base c a hF hst hr R hR
 have hh:c.h=h:=hr.h
 subst hh
 obtain⟨c2,hev,hst2,hh2,hw⟩:=QuF hst hk hb hj hf hc
 rw[<-hw]
 exact H F m base c2 a hF hst2 ⟨hh2,hr.size,QzL hr.above hev.size,hr.defers.ev hev,RoundOk.ev hev hr.round,fun t=>(hr.tm t).ev hst hev⟩ R fun e' s' c' a' ex hq h1 h2 h3 h4=>hR e' s' c' a' ex hq (Ev.trans hst hev h1) h2 h3 h4
def ArrW(P:Program)(N:Nat)(ops:Array Oper)(o:Oper)(K:AS->Prop)(s:AS):Prop :=
 match Qn ops s.tm o with
 |some true=>(match o.op with
  | .buildSlice t len ps=>(match Q3 P t with
   |some (e,n)=>(QT P t len (ps.toList.map fun p=>(p.1,s.ev p.2)) s.h).isSome=true/\K (AS.put N {s with h:=s.h++[.cells e n (ps.toList.map fun p=>s.ev p.2)]} o.dst (.arr s.h.length 0 len))
   |none=>False)
  |_=>False)
 |some false=>K (AS.put N s o.dst (.v undef))
 |none=>False
theorem QfS{P:Program}{N:Nat}{Q:AExit->AS->Prop}{s:AS}{id:Nat}{ops:Array Oper}(i:Nat){o:Oper}(ho:ops.toList[i]? = some o)
  (H:∀(K:AS->Prop) (E:AV->AS->Prop),(∀s,Q .normal s->K s)->(∀r s,Q (.panic r) s->E r s)->OpsW P N ops (ops.toList.take i) (ArrW P N ops o (OpsW P N ops (ops.toList.drop (i+1)) K E)) E s):Xs P N (.region id ops false) Q s:=by
 intro F n base c a hF hst hr R hR
 refine wpIn_region ?_
 have hlt:=Qf ho
 have hH:=H (fun s'=>Q .normal s') (fun r s'=>Q (.panic r) s') (fun _ h=>h) (fun _ _ h=>h)
 have hi:(ops.toList.take i).length=i:=by rw[QzE];omega
 have hrange:List.range ops.size=List.range' 0 (ops.toList.take i).length++(i::(List.range' (i+1) (ops.toList.drop (i+1)).length++[])):=by
  rw[hi,QyM,QzM,QAy,<-QzS]
  have:ops.toList.length=i+(1+(ops.toList.length - (i+1))):=by omega
  conv=>lhs;rw[this]
  rw[<-QAD,Qyv,<-QAD]
  rfl
 have hget:∀j,(ops.toList.drop (i+1))[j]? = ops[i+1+j]? := fun j=>by rw[QzO];simp
 rw[hrange]
 refine QcZ hF (ops.toList.take i) 0 s c a (fun j hj=>by rw[QAK,Qzh (by omega)];simp) hH hst hr ?_ ?_
 ·intro s1 c1 a1 h1 h2 h3 h4
  have h0:ops[i]? = some o:=by rw[<-ho];simp
  have hrest:∀s2 c2 a2,OpsW P N ops (ops.toList.drop (i+1)) (fun s'=>Q .normal s') (fun r s'=>Q (.panic r) s') s2->Ev c c2->St c2->SR N (base,F) c2 s2 a2->wpOpsIn F n P ops R (List.range' (i+1) (ops.toList.drop (i+1)).length++[]) a2 c2.w:=by
   intro s2 c2 a2 hq he2 hst2 hr2
   refine QcZ hF _ (i+1) s2 c2 a2 (fun j _=>hget j) hq hst2 hr2 ?_ ?_
   ·intro s' c' a' hQ k1 k2 k3
    simp only[wpOpsIn]
    exact hR _ s' c' a' _ hQ (Ev.trans hst he2 k1) k2 k3 rfl
   ·intro r s' c' a' x hQ k1 k2 k3 hx
    exact hR _ s' c' a' _ hQ (Ev.trans hst he2 k1) k2 k3 ⟨x,rfl,hx⟩
  simp only[wpOpsIn,h0]
  unfold ArrW at h1
  split at h1
  ·rename_i hw
   rw[Q7 h4 hw]
   simp only[QAj]
   split at h1
   ·rename_i t len ps hop
    split at h1
    ·rename_i e m he
     exact Qih hop he h1.1 h1.2 hF h3 h4 fun s' c' a' hK k1 k2 k3=>hrest s' c' a' hK (Ev.trans hst h2 k1) k2 k3
    ·exact h1.elim
   ·exact h1.elim
  ·rename_i hw
   rw[Q7 h4 hw]
   simp only[Qyn,Qz5]
   refine⟨fun f _=>hF.fn f,?_⟩
   have hr':=h4.put h3 (Ev.refl c1) o.dst (.v undef)
   rw[h4.h]at hr'
   exact hrest _ c1 _ h1 h2 h3 hr'
  ·exact h1.elim
 ·intro r s' c' a' x hQ h1 h2 h3 hx
  exact hR _ s' c' a' _ hQ h1 h2 h3 ⟨x,rfl,hx⟩
theorem ZG{P:Program}{N:Nat}{Q:AExit->AS->Prop}{s:AS}{id:Nat}{ops:Array Oper}{y:Code}(i:Nat){o:Oper}(ho:ops.toList[i]? = some o)
  (H:∀(K:AS->Prop) (E:AV->AS->Prop),(∀s,Xs P N y Q s->K s)->(∀r s,Q (.panic r) s->E r s)->OpsW P N ops (ops.toList.take i) (ArrW P N ops o (OpsW P N ops (ops.toList.drop (i+1)) K E)) E s):Xs P N (.seq (.region id ops false) y) Q s :=
 Qav (QfS i ho (fun K E hK hE=>H K E hK hE))
theorem Ev.QxV{c c':Cx}(hev:Ev (c.cut 0) c'){B:Nat}(h:B<c.w.heap.size):c'.w.heap[B]? = c.w.heap[B]? :=
 hev.frame B h fun⟨id,b,hb,_⟩=>by simp[Cx.cut]at hb
inductive Melt (h:AH) (m:Nat):AV->AV->Prop
 |keep {a:AV} (hb:Below m a):Melt h m a a
 |nil (s:Nat):Melt h m (.v (.slice none 0 0)) (.sl s [] none)
 |agg {l l':List AV} (hl:l'.length=l.length) (hp:∀(j:Nat) a a',l[j]? = some a->l'[j]? = some a'->Melt h m a a'):Melt h m (.agg l) (.agg l')
 |sl {s:Nat} {xs ys:List AV} {own:Option Nat} (hl:ys.length=xs.length) (hs:∀y∈ys,y.cells.length=s) (hf:(flat ys).length=(flat xs).length)
   (hp:∀(j:Nat) a a',(flat xs)[j]? = some a->(flat ys)[j]? = some a'->Melt h m a a'):Melt h m (.sl s xs own) (.sl s ys none)
 |arr {id len s:Nat} {ty:TypeId} {xs ys:List AV} (hi:m<=id) (hg:h[id]? = some (.cells ty s xs)) (hl:ys.length=len) (hs:∀y∈ys,y.cells.length=s) (hf:(flat ys).length<=(flat xs).length)
   (hp:∀(j:Nat) a a',(flat xs)[j]? = some a->(flat ys)[j]? = some a'->Melt h m a a'):Melt h m (.arr id 0 len) (.sl s ys none)
theorem Melt.rel{c:Cx}(hs:St c){m:Nat}(hm:m<=c.h.length){a a':AV}(h:Melt c.h m a a'):∀{x:Value},Rel c a x->Rel (c.cut m) a' x:=by
 induction h with
 |keep hb=>exact fun hr=>hr.cut hm hb
 |nil s=>intro x hr;cases hr;exact .slnil s none fun b hb=>by cases hb
 |@agg l l' hl _ ih =>
  intro x hr
  cases hr with
  |agg _ cs hl' hr =>
   refine .agg _ cs (by omega) fun j a' u ha' hu=>?_
   obtain⟨a,ha⟩:∃a,l[j]? = some a:=⟨_,Qzg (by rw[<-hl];exact Qf ha')⟩
   exact ih j a a' ha ha' (hr j a u ha hu)
 |@sl s xs ys own hl hs' hf _ ih =>
  intro x hr
  have old:∀(j:Nat) a',(flat ys)[j]? = some a'->∃a,(flat xs)[j]? = some a:=fun j a' ha=>⟨_,Qzg (by rw[<-hf];exact Qf ha)⟩
  cases hr with
  |slnil _ _ ht =>
   cases ys with
   |nil=>exact .slnil s none fun b hb=>by cases hb
   |cons y ys=>simp at hl
  |slzero _ _ ba ht =>
   cases ys with
   |nil=>exact .slzero s none ba fun b hb=>by cases hb
   |cons y ys=>simp at hl
  |sl _ _ _ B o cap f hs0 hcap hmax hc hr ht =>
   rw[<-hl]at hcap ⊢
   refine .sl s ys none B o cap f hs' hcap hmax (fun j a' ha=>?_) (fun j a' ha=>?_) fun b hb=>by cases hb
   ·obtain⟨a,h1⟩:=old j a' ha
    exact⟨⟨(hc j a h1).1.1,Qf8 (hc j a h1).1.2⟩,(hc j a h1).2⟩
   ·obtain⟨a,h1⟩:=old j a' ha
    exact ih j a a' h1 ha (hr j a h1)
 |@arr id len s ty xs ys hi hg hl hs' hf _ ih =>
  intro x hr
  have old:∀(j:Nat) a',(flat ys)[j]? = some a'->∃a,(flat xs)[j]? = some a:=fun j a' ha=>⟨_,Qzg (QzI (Qf ha) hf)⟩
  cases hr with
  |arr _ _ _ x hid ho h1 =>
   obtain⟨B,cap,hρ,rfl,h2,h3,_⟩:=h1 _ _ _ hg
   obtain⟨B',cur,g1,g2,g3,g4⟩:=hs.blocks id _ hg
   rw[hρ]at g1;cases g1
   subst hl
   rw[QAs]
   refine .sl s ys none B 0 cap (fun j=>cur.getD j undef) hs' h2 h3 (fun j a' ha=>?_) (fun j a' ha=>?_) fun b hb=>by cases hb
   ·obtain⟨a,h4⟩:=old j a' ha
    obtain⟨u,h5,h6,h7⟩:=g4 j a h4
    have e:cur.getD j undef=u:=by rw[Qzr,h5];rfl
    show(c.cut m).cellP B (0+j) (cur.getD j undef)/\(cur.getD j undef).oneCell'=true
    rw[e]
    refine⟨⟨by show c.w.cell? _=_;rw[Qyv,XC g2];exact h5,hs.lt hg rfl hρ,fun id' b' hb' hl' hρ'=>?_⟩,h6⟩
    obtain⟨hlt,hb2⟩:=Zv hb'
    have:=hs.inj id' id b' _ B hb2 hg hl' rfl hρ' hρ
    omega
   ·obtain⟨a,h4⟩:=old j a' ha
    obtain⟨u,h5,h6,h7⟩:=g4 j a h4
    have e:cur.getD j undef=u:=by rw[Qzr,h5];rfl
    show Rel (c.cut m) a' (cur.getD j undef)
    rw[e]
    exact ih j a a' h4 ha h7
theorem Qio{P:Program}{f:FuncId}{args args':List AV}{h:AH}{v:Value}(hl:args'.length=args.length)(hm:∀(j:Nat) a a',args[j]? = some a->args'[j]? = some a'->Melt h 0 a a')
  (H:Qp P f args' [] fun o h'=>o = .ret (.v v)/\h'=[]):Qp P f args h fun o h'=>o = .ret (.v v)/\h'=h:=by
 refine⟨H.1,fun F n c vals hF hs hh hvs=>?_⟩
 subst hh
 have hst0:St (c.cut 0):=hs.cut (Qzy _) (by simp)
 have hargs:RelL (c.cut 0) args' vals:=by
  refine⟨hvs.1.trans hl.symm,fun j a' u h1 h2=>?_⟩
  obtain⟨a,ha⟩:∃a,args[j]? = some a:=⟨_,Qzg (by rw[<-hl];exact Qf h1)⟩
  exact(hm j a a' ha h1).rel hs (Qzy _) (hvs.2 j a u ha h2)
 refine(H.2 F n (c.cut 0) vals hF hst0 (by simp[Cx.cut]) hargs).mono ?_
 rintro e w' ⟨o,c',⟨rfl,hh'⟩,hev,hst,hw,hex⟩
 obtain⟨x,rfl,hr⟩:=hex
 cases hr
 have hmem:∀{B:Nat},B<c.w.heap.size->c'.w.heap[B]? = c.w.heap[B]? := fun h=>hev.QxV h
 let c2:Cx:={ρ:=c.ρ,h:=c.h,w:=c'.w}
 have hlt0:∀{i B0:Nat} {b:AB},c.h[i]? = some b->b.live=true->c.ρ i=some B0->B0<c.w.heap.size:=fun h1 h2 h3=>hs.lt h1 h2 h3
 have hm:∀{B0:Nat} {o:Obj},c.w.heap[B0]? = some o->c2.w.heap[B0]? = some o:=fun{B0 o} h=>(hmem (Qzs.1 h).1).trans h
 have hev2:Ev c c2:=by
  refine⟨hev.os,hev.tape,hev.output,hev.size,Qzl _,fun B0 h1 _=>hmem h1,fun id b hb=>⟨b,hb,?_⟩,fun id B0 b h1 h2 hl h3=>?_⟩
  ·cases b with
   |cells ty s xs=>exact .inr ⟨xs,rfl,rfl,fun B cur hρ hc=>⟨cur,hm hc,rfl⟩⟩
   |grow e s n=>exact .inr ⟨n,rfl,Qzl _,fun _=>rfl,fun B hB=>.inl hB,fun B cur hρ hc=>⟨cur,hm hc,rfl,fun _ _=>rfl⟩⟩
   |map es=>exact⟨es,rfl,rfl⟩
   |loop i=>exact⟨i,rfl,rfl⟩
   |iter s p=>exact⟨p,rfl,rfl⟩
   |glob g cs ty fr=>exact⟨rfl,rfl,fun B hρ=>hmem (hlt0 hb rfl hρ)⟩
   |dead=>rfl
   |gone=>rfl
  ·have:=Qf h2
   simp only[c2]at this
   omega
 have hst2:St c2:=⟨fun id b hb=>(hs.blocks id b hb).ev hs hev2 rfl fun B0 hl hρ=>hmem (hlt0 hb hl hρ),hs.inj⟩
 exact⟨.ret (.v v),c2,⟨rfl,rfl⟩,hev2,hst2,hw,_,rfl,.v _⟩
theorem Qn8{P:Program}{f:FuncId}{args:List AV}{h:AH}{Q Q0:AOut->AH->Prop}(H:Qp P f args h Q0)
  (hp:(∀(i:Nat) b,h[i]? = some b->b.Below h.length)->∀o h',Q0 o h'->Q o h'\/∃r r',o = .ret r/\h.length<=h'.length/\(∀b∈h'.take h.length,b.Below h.length)/\Melt h' h.length r r'/\Q (.ret r') (h'.take h.length)):Qp P f args h Q:=by
 refine⟨H.1,fun F n c vals hF hs hh hvs=>(H.2 F n c vals hF hs hh hvs).mono ?_⟩
 rintro e w' ⟨o,c',hQ,hev,hst,hw,hex⟩
 rcases hp (fun i b hb=>by subst hh;exact hs.below hb) o c'.h hQ with hq|⟨r,r',rfl,h1,h2,h3,h4⟩
 ·exact⟨o,c',hq,hev,hst,hw,hex⟩
 ·obtain⟨x,rfl,hr⟩:=hex
  exact⟨.ret r',c'.cut h.length,h4,hev.cut (by rw[hh];exact Qzl _) h1,hst.cut h1 h2,hw,x,rfl,h3.rel hst h1 hr⟩
end Go.Proofs.YtenheconhibonaaGreatDoor.Ab
namespace Go.Proofs.YtenheconhibonaaGreatDoor.Ab
inductive Pk (n:Nat) (τ:Nat->Nat) (h2:AH):AV->AV->Prop
 |keep {a:AV} (hb:Below n a):Pk n τ h2 a a
 |agg {l l':List AV} (hl:l'.length=l.length) (hp:∀(j:Nat) a a',l[j]? = some a->l'[j]? = some a'->Pk n τ h2 a a'):Pk n τ h2 (.agg l) (.agg l')
 |tup {l l':List AV} (hl:l'.length=l.length) (hp:∀(j:Nat) a a',l[j]? = some a->l'[j]? = some a'->Pk n τ h2 a a'):Pk n τ h2 (.tup l) (.tup l')
 |sl {s:Nat} {xs ys:List AV} {own:Option Nat} (hl:ys.length=xs.length) (hs:∀y∈ys,y.cells.length=s) (hf:(flat ys).length=(flat xs).length)
   (hp:∀(j:Nat) a a',(flat xs)[j]? = some a->(flat ys)[j]? = some a'->Pk n τ h2 a a'):Pk n τ h2 (.sl s xs own) (.sl s ys none)
 |arr {id old lo len:Nat} (ho:old=τ id) (hi:n<=id) (hl:id<h2.length):Pk n τ h2 (.arr old lo len) (.arr id lo len)
structure Pack (n:Nat) (τ:Nat->Nat) (h h2:AH):Prop where
 len:n<=h2.length
 len':n<=h.length
 id:∀i,i<n->τ i=i
 old:∀i,i<n->h2[i]? = h[i]?
 below:∀(i:Nat) b,i<n->h[i]? = some b->b.Below n
 lo:∀i,n<=i->i<h2.length->n<=τ i
 inj:∀i j,n<=i->i<h2.length->n<=j->j<h2.length->τ i=τ j->i=j
 new:∀(i:Nat) b,n<=i->h2[i]? = some b->b = .dead\/∃ty s xs ys,b = .cells ty s ys/\h[τ i]? = some (.cells ty s xs)/\(∀y∈ys,y.cells.length=s)/\(flat ys).length<=(flat xs).length /\
  ∀(j:Nat) a a',(flat xs)[j]? = some a->(flat ys)[j]? = some a'->Pk n τ h2 a a'
def Cx.pack(c:Cx)(τ:Nat->Nat)(h2:AH):Cx:={ρ:=fun i=>c.ρ (τ i),h:=h2,w:=c.w}
section
variable{c:Cx}{n:Nat}{τ:Nat->Nat}{h2:AH}(K:Pack n τ c.h h2)
include K
theorem Pack.get{i:Nat}{b:AB}(hb:h2[i]? = some b):(i<n/\c.h[i]? = some b/\τ i=i/\b.Below n)\/(n<=i/\(b = .dead\/∃ty s xs ys,b = .cells ty s ys/\c.h[τ i]? = some (.cells ty s xs)/\(∀y∈ys,y.cells.length=s)/\(flat ys).length<=(flat xs).length /\
  ∀(j:Nat) a a',(flat xs)[j]? = some a->(flat ys)[j]? = some a'->Pk n τ h2 a a')):=by
 rcases QAR i n with h|h
 ·have:=K.old i h
  rw[hb]at this
  exact .inl ⟨h,this.symm,K.id i h,K.below i b h this.symm⟩
 ·exact .inr ⟨h,K.new i b h hb⟩
theorem Pack.low{i:Nat}{b:AB}(hi:i<n)(hb:c.h[i]? = some b):h2[i]? = some b:=(K.old i hi).trans hb
theorem Pack.live{i:Nat}{b:AB}(hb:h2[i]? = some b)(hl:b.live=true):∃b',c.h[τ i]? = some b'/\b'.live=true/\(b'=b\/∃ty s xs,b' = .cells ty s xs):=by
 rcases K.get hb with⟨_,h1,h3,_⟩|⟨_,rfl|⟨ty,s,xs,ys,rfl,h1,_⟩⟩
 ·exact⟨b,by rw[h3];exact h1,hl,.inl rfl⟩
 ·cases hl
 ·exact⟨_,h1,rfl,.inr ⟨_,_,_,rfl⟩⟩
theorem Pack.prot{B o:Nat}(h:c.prot B o):(c.pack τ h2).prot B o:=by
 refine⟨h.1,fun id b hb hl hρ=>?_⟩
 obtain⟨b',h1,h3,h4⟩:=K.live hb hl
 have h5:=h.2 (τ id) b' h1 h3 hρ
 rcases h4 with rfl|⟨ty,s,xs,rfl⟩
 ·exact h5
 ·rcases h5 with⟨_,_,_,h5,_⟩|⟨_,_,_,_,h5⟩ <;> cases h5
theorem Pack.ρ{i:Nat}(hi:i<n):(c.pack τ h2).ρ i=c.ρ i:=by show c.ρ (τ i)=c.ρ i;rw[K.id i hi]
theorem Pack.back{i:Nat}{b:AB}(hi:i<n)(hb:(c.pack τ h2).h[i]? = some b):c.h[i]? = some b:=(K.old i hi).symm.trans hb
theorem Pack.keep{a:AV}{x:Value}(h:Rel c a x)(hb:Below n a):Rel (c.pack τ h2) a x:=by
 have hlt:∀{i:Nat},i<n->i<(c.pack τ h2).h.length:=fun h=>QzI h K.len
 induction h with
 |v x=>exact .v x
 |junk x=>exact .junk x
 |agg l cs hl _ ih=>cases hb with|agg _ h=>exact .agg l cs hl fun j a u h1 h2=>ih j a u h1 h2 (h a (Qzp h1))
 |tup l cs hl _ ih=>cases hb with|tup _ h=>exact .tup l cs hl fun j a u h1 h2=>ih j a u h1 h2 (h a (Qzp h1))
 |slnil s own ht =>
  cases hb with
  |sl _ _ _ h hown =>
   refine .slnil s own fun b hb=>⟨hlt (hown b hb),fun e s' m hg=>?_⟩
   rw[K.ρ (hown b hb)]
   exact(ht b hb).2 e s' m (K.back (hown b hb) hg)
 |slzero s own ba ht =>
  cases hb with
  |sl _ _ _ h hown =>
   refine .slzero s own ba fun b hb=>⟨hlt (hown b hb),fun e s' m hg=>?_⟩
   rw[K.ρ (hown b hb)]
   exact(ht b hb).2 e s' m (K.back (hown b hb) hg)
 |sl s xs own B o cap f hs hcap hmax hc _ ht ih =>
  cases hb with
  |sl _ _ _ h hown =>
   refine .sl s xs own B o cap f hs hcap hmax (fun j a hj=>⟨⟨(hc j a hj).1.1,K.prot (hc j a hj).1.2⟩,(hc j a hj).2⟩) (fun j a hj=>ih j a hj (h a (Qzp hj)))
    fun b hb=>⟨⟨hlt (hown b hb),let ⟨x,g1,g2⟩:=(ht b hb).1.2;⟨x,K.low (hown b hb) g1,g2⟩⟩,fun e s' m hg=>?_⟩
   rw[K.ρ (hown b hb)]
   exact(ht b hb).2 e s' m (K.back (hown b hb) hg)
 |pin s xs k off B o f hs hc _ ih =>
  cases hb with
  |pin _ _ _ _ h =>
   exact .pin s xs k off B o f hs (fun j a hj=>⟨⟨(hc j a hj).1.1,K.prot (hc j a hj).1.2⟩,(hc j a hj).2⟩) (fun j a hj=>ih j a hj (h a (Qzp hj)))
 |ptr id k off x hid ho h1 =>
  cases hb with
  |ptr _ _ _ h=>exact .ptr id k off x (hlt h) ho fun ty s xs hg=>by rw[K.ρ h];exact h1 ty s xs (K.back h hg)
 |arr id lo len x hid ho h1 =>
  cases hb with
  |arr _ _ _ h=>exact .arr id lo len x (hlt h) ho fun ty s xs hg=>by rw[K.ρ h];exact h1 ty s xs (K.back h hg)
 |row id lo len cap x hid ho h1 =>
  cases hb with
  |row _ _ _ _ h=>exact .row id lo len cap x (hlt h) ho fun ty s xs hg=>by rw[K.ρ h];exact h1 ty s xs (K.back h hg)
 |mp id x hid ho h1 =>
  cases hb with
  |mp _ h=>exact .mp id x (hlt h) ho ⟨fun es hg=>by rw[K.ρ h];exact h1.1 es (K.back h hg),fun i hg=>by rw[K.ρ h];exact h1.2.1 i (K.back h hg),fun s p hg=>by rw[K.ρ h];exact h1.2.2 s p (K.back h hg)⟩
 |fn f first cap vs ws e1 e2 _ _ ih1 ih2 =>
  cases hb with
  |fn _ _ _ h1 h2=>exact .fn f first cap vs ws e1 e2 (fun j a u h3 h4=>ih1 j a u h3 h4 (h1 a (Qzp h3))) (fun j a u h3 h4=>ih2 j a u h3 h4 (h2 a (Qzp h3)))
 |ifc t a u _ ih=>cases hb with|ifc _ _ h=>exact .ifc t a u (ih h)
 |spt s xs own p n k _ ih=>cases hb with|spt _ _ _ h=>exact .spt s xs own p n k (ih h)
theorem Pack.rel{a a':AV}(h:Pk n τ h2 a a'):∀{x:Value},Rel c a x->Rel (c.pack τ h2) a' x:=by
 induction h with
 |keep hb=>exact fun hr=>K.keep hr hb
 |@agg l l' hl _ ih =>
  intro x hr
  cases hr with
  |agg _ cs hl' hr =>
   refine .agg _ cs (by omega) fun j a' u ha' hu=>?_
   obtain⟨a,ha⟩:∃a,l[j]? = some a:=⟨_,Qzg (by rw[<-hl];exact Qf ha')⟩
   exact ih j a a' ha ha' (hr j a u ha hu)
 |@tup l l' hl _ ih =>
  intro x hr
  cases hr with
  |tup _ cs hl' hr =>
   refine .tup _ cs (by omega) fun j a' u ha' hu=>?_
   obtain⟨a,ha⟩:∃a,l[j]? = some a:=⟨_,Qzg (by rw[<-hl];exact Qf ha')⟩
   exact ih j a a' ha ha' (hr j a u ha hu)
 |@sl s xs ys own hl hs' hf _ ih =>
  intro x hr
  have old:∀(j:Nat) a',(flat ys)[j]? = some a'->∃a,(flat xs)[j]? = some a:=fun j a' ha=>⟨_,Qzg (by rw[<-hf];exact Qf ha)⟩
  cases hr with
  |slnil _ _ ht =>
   cases ys with
   |nil=>exact .slnil s none fun b hb=>by cases hb
   |cons y ys=>simp at hl
  |slzero _ _ ba ht =>
   cases ys with
   |nil=>exact .slzero s none ba fun b hb=>by cases hb
   |cons y ys=>simp at hl
  |sl _ _ _ B o cap f hs0 hcap hmax hc hr ht =>
   rw[<-hl]at hcap ⊢
   refine .sl s ys none B o cap f hs' hcap hmax (fun j a' ha=>?_) (fun j a' ha=>?_) fun b hb=>by cases hb
   ·obtain⟨a,h1⟩:=old j a' ha
    exact⟨⟨(hc j a h1).1.1,K.prot (hc j a h1).1.2⟩,(hc j a h1).2⟩
   ·obtain⟨a,h1⟩:=old j a' ha
    exact ih j a a' h1 ha (hr j a h1)
 |@arr id old lo len ho hi hl =>
  intro x hr
  subst ho
  cases hr with
  |arr _ _ _ x hid ho h1 =>
   refine .arr id lo len x hl ho fun ty s ys hg=>?_
   rcases K.get hg with⟨h,_⟩|⟨_,e|⟨ty',s',xs,ys',e,h3,_⟩⟩
   ·omega
   ·cases e
   ·cases e
    exact h1 _ _ _ h3
theorem Pack.st(hs:St c):St (c.pack τ h2):=by
 refine⟨fun id b hb=>?_,fun i j a b B hi hj hla hlb hρi hρj=>?_⟩
 ·rcases K.get hb with⟨h1,h3,h4,hbl⟩|⟨h1,rfl|⟨ty,s,xs,ys,rfl,h3,h4,h5,h6⟩⟩
  ·have h0:=hs.blocks id b h3
   have hρ:=K.ρ h1
   cases b with
   |cells ty s xs =>
    obtain⟨B,cur,g1,g2,g3,g4⟩:=h0
    exact⟨B,cur,hρ.trans g1,g2,g3,fun j a hj=>let ⟨u,h5,h6,h7⟩:=g4 j a hj;⟨u,h5,h6,K.keep h7 (hbl a (Qzp hj))⟩⟩
   |grow e s m=>exact fun B hB=>h0 B (hρ.symm.trans hB)
   |map es =>
    obtain⟨B,ents,clock,g1,g2,g3,g4⟩:=h0
    exact⟨B,ents,clock,hρ.trans g1,g2,g3,fun j kv e hj he=>⟨(g4 j kv e hj he).1,K.keep (g4 j kv e hj he).2 (hbl kv (Qzp hj))⟩⟩
   |loop i =>
    obtain⟨B,r,g1,g2,g3,g4⟩:=h0
    exact⟨B,r,hρ.trans g1,g2,g3,fun t=>K.keep (g4 t) (hbl t)⟩
   |iter s p =>
    obtain⟨B,g1,g2⟩:=h0
    exact⟨B,hρ.trans g1,g2⟩
   |glob g cs ty fr=>exact⟨hρ.trans h0.1,h0.2⟩
   |dead=>trivial
   |gone=>trivial
  ·trivial
  ·obtain⟨B,cur,g1,g2,g3,g4⟩:=hs.blocks _ _ h3
   refine⟨B,cur,g1,g2,h4,fun j a' hj=>?_⟩
   obtain⟨a,ha⟩:∃a,(flat xs)[j]? = some a:=⟨_,Qzg (QzI (Qf hj) h5)⟩
   obtain⟨u,k1,k2,k3⟩:=g4 j a ha
   exact⟨u,k1,k2,K.rel (h6 j a a' ha hj) k3⟩
 ·obtain⟨a',h1,h3,_⟩:=K.live hi hla
  obtain⟨b',h4,h5,_⟩:=K.live hj hlb
  have h6:=hs.inj (τ i) (τ j) a' b' B h1 h4 h3 h5 hρi hρj
  rcases K.get hi with⟨g1,_,g2,_⟩|⟨g1,_⟩
  ·rcases K.get hj with⟨g3,_,g4,_⟩|⟨g3,_⟩
   ·omega
   ·have:=K.lo j g3 (Qf hj);omega
  ·rcases K.get hj with⟨g3,_,g4,_⟩|⟨g3,_⟩
   ·have:=K.lo i g1 (Qf hi);omega
   ·exact K.inj i j g1 (Qf hi) g3 (Qf hj) h6
theorem Pack.ev{c0:Cx}(hn:c0.h.length=n)(hev:Ev c0 c):Ev c0 (c.pack τ h2):=by
 subst hn
 refine⟨hev.os,hev.tape,hev.output,hev.size,K.len,hev.frame,fun id b hb=>?_,fun id B b h1 h3 hl hρ=>?_⟩
 ·obtain⟨b',hb',hk⟩:=hev.kin id b hb
  have hi:=Qf hb
  have hρ:=K.ρ hi
  refine⟨b',K.low hi hb',?_⟩
  cases b <;> simp only[Kin,hρ]at hk ⊢ <;> exact hk
 ·obtain⟨b',h4,h5,_⟩:=K.live h3 hl
  rcases hev.fresh (τ id) B b' (K.lo id h1 (Qf h3)) h4 h5 hρ with h6|⟨i,ty,s,xs,a1,a2,a3⟩
  ·exact .inl h6
  ·exact .inr ⟨i,ty,s,xs,a1,a2,K.low (Qf a1) a3⟩
end
theorem QbT{P:Program}{f:FuncId}{args:List AV}{h:AH}{Q Q0:AOut->AH->Prop}(H:Qp P f args h Q0)
  (hp:(∀(i:Nat) b,h[i]? = some b->b.Below h.length)->∀o h',Q0 o h'->Q o h'\/∃r r2 τ h2,o = .ret r/\Pack h.length τ h' h2/\Pk h.length τ h2 r r2/\Q (.ret r2) h2):Qp P f args h Q:=by
 refine⟨H.1,fun F n c vals hF hs hh hvs=>(H.2 F n c vals hF hs hh hvs).mono ?_⟩
 rintro e w' ⟨o,c',hQ,hev,hst,hw,hex⟩
 rcases hp (fun i b hb=>by subst hh;exact hs.below hb) o c'.h hQ with hq|⟨r,r2,τ,h2,rfl,K,hk,hq⟩
 ·exact⟨o,c',hq,hev,hst,hw,hex⟩
 ·obtain⟨x,rfl,hr⟩:=hex
  exact⟨.ret r2,c'.pack τ h2,hq,K.ev (by rw[hh]) hev,K.st hst,hw,x,rfl,K.rel hk hr⟩
end Go.Proofs.YtenheconhibonaaGreatDoor.Ab
namespace Go.Proofs.YtenheconhibonaaGreatDoor.Ab
mutual
def T.sz:T->Nat
 | .mk _ _ _ bs=>szs bs
def szs:List T->Nat
 |[]=>0
 |t::l=>t.sz+1+szs l
end
def T.lv(n:Nat):T->AV
 | .mk k i s bs=>.agg [.v (.int .i64 k),.v (.int .i64 i),.v (.string s),if bs.isEmpty then .v (.slice none 0 0)else .arr (n+szs bs - 1) 0 bs.length]
def lvs(n:Nat):List T->List AV
 |[]=>[]
 |t::l=>t.lv n::lvs (n+t.sz+1) l
def lsl(n:Nat)(bs:List T):AV:=if bs.isEmpty then .v (.slice none 0 0)else .arr (n+szs bs - 1) 0 bs.length
mutual
/-- the blocks of a term from n on: behind the blocks of each argument one that is dead,behind the last the row of the arguments -/
def T.lay(tt:TypeId)(n:Nat):T->AH
 | .mk _ _ _ bs=>lays tt n (.cells tt 4 (lvs n bs)) bs
def lays(tt:TypeId)(n:Nat)(r:AB):List T->AH
 |[]=>[]
 |t::l=>t.lay tt n++(if l.isEmpty then r else .dead)::lays tt (n+t.sz+1) r l
end
def layA(tt:TypeId)(n:Nat)(bs:List T):AH:=lays tt n (.cells tt 4 (lvs n bs)) bs
theorem T.QxT(n:Nat)(t:T):t.lv n = .agg [.v (.int .i64 t.kind),.v (.int .i64 t.int),.v (.string t.name),lsl n t.args]:=by cases t;rfl
theorem T.QxF(tt:TypeId)(n:Nat)(t:T):t.lay tt n=layA tt n t.args:=by cases t;rw[T.lay];rfl
theorem T.QxL(t:T):t.sz=szs t.args:=by cases t;rw[T.sz];rfl
theorem T.Qxx(n:Nat)(t:T):(t.lv n).cells=[.v (.int .i64 t.kind),.v (.int .i64 t.int),.v (.string t.name),lsl n t.args]:=by rw[T.QxT];rfl
theorem T.Qxy(n:Nat)(t:T):(t.lv n).isAgg=true:=by rw[T.QxT];rfl
theorem QF(n:Nat)(bs:List T):(lsl n bs).cell1=true:=by unfold lsl;split <;> rfl
theorem Qhi(n:Nat)(bs:List T):(lsl n bs).cells=[lsl n bs]:=by unfold lsl;split <;> rfl
theorem Qhj(n:Nat)(bs:List T):(lsl n bs).isAgg=false:=by unfold lsl;split <;> rfl
theorem T.QxA(n:Nat)(t:T):(t.lv n).cells.length=4:=by rw[T.Qxx];rfl
theorem Qao:∀(n:Nat) (l:List T),(lvs n l).length=l.length
 |_,[]=>rfl
 |n,t::l=>by rw[lvs,Qyw,Qao];rfl
theorem Qnu:∀(n:Nat) (l:List T),∀y∈lvs n l,y.cells.length=4
 |_,[],y,h=>by simp[lvs]at h
 |n,t::l,y,h=>by
  rw[lvs,Qzn]at h
  rcases h with rfl|h
  ·exact T.QxA _ _
  ·exact Qnu _ l y h
theorem Zj:∀(l m:List T),szs (l++m)=szs l+szs m
 |[],m=>by simp[szs]
 |t::l,m=>by rw[QyL,szs,szs,Zj l m];omega
theorem Quz(t:T):szs [t]=t.sz+1:=by simp[szs]
theorem Qe8:∀(n:Nat) (l m:List T),lvs n (l++m)=lvs n l++lvs (n+szs l) m
 |n,[],m=>by simp[lvs,szs]
 |n,t::l,m=>by
  rw[QyL,lvs,lvs,Qe8 _ l m,szs]
  simp only[QyL]
  rw[show n+t.sz+1+szs l=n+(t.sz+1+szs l) by omega]
mutual
theorem T.Qxw(tt:TypeId):∀(n:Nat) (t:T),(t.lay tt n).length=t.sz
 |n,.mk _ _ _ bs=>by rw[T.lay,T.sz];exact ZI tt n _ bs
theorem ZI(tt:TypeId):∀(n:Nat) (r:AB) (l:List T),(lays tt n r l).length=szs l
 |n,r,[]=>by rw[lays,szs];rfl
 |n,r,t::l=>by rw[lays,szs,Qza,Qyw,T.Qxw tt n t,ZI tt _ r l];omega
end
theorem Yq(tt:TypeId)(n:Nat)(l:List T):(layA tt n l).length=szs l:=ZI tt n _ l
theorem Qeq(tt:TypeId):∀(n:Nat) (r:AB) (l:List T) (u:T),lays tt n r (l++[u])=lays tt n .dead l++(u.lay tt (n+szs l)++[r])
 |n,r,[],u=>by simp[lays,szs]
 |n,r,t::l,u=>by
  have e:(l++[u]).isEmpty=false:=by cases l <;> rfl
  rw[QyL,lays,lays,Qeq tt _ r l u,e,szs]
  simp only[Qyn,Qz5,ite_self,Qze,QyL]
  rw[show n+t.sz+1+szs l=n+(t.sz+1+szs l) by omega]
theorem Qck(tt:TypeId):∀(n:Nat) (r:AB) (l:List T) (u:T) (m:List T),lays tt n r (l++u::m)=lays tt n .dead l++lays tt (n+szs l) r (u::m)
 |n,r,[],u,m=>by simp[lays,szs]
 |n,r,t::l,u,m=>by
  have e:(l++u::m).isEmpty=false:=by cases l <;> rfl
  rw[QyL,lays,Qck tt _ r l u m,e]
  conv=>rhs;rw[lays]
  rw[szs]
  simp only[Qyn,Qz5,ite_self,Qze,QyL]
  rw[show n+t.sz+1+szs l=n+(t.sz+1+szs l) by omega]
theorem Qd3{l:List T}(h:l≠[]):0<szs l:=by
 cases l with
 |nil=>exact(h rfl).elim
 |cons t l=>rw[szs];omega
theorem Qla(tt:TypeId)(n:Nat)(l:List T)(u:T):layA tt n (l++[u])=lays tt n .dead l++(u.lay tt (n+szs l)++[.cells tt 4 (lvs n l++[u.lv (n+szs l)])]):=by
 rw[layA,Qeq,Qe8];rfl
theorem QcS(tt:TypeId)(n:Nat)(r:AB)(l:List T)(h:l≠[]):(lays tt n r l)[szs l - 1]? = some r/\(lays tt n r l).set (szs l - 1) .dead=lays tt n .dead l:=by
 obtain⟨l,u,rfl⟩:∃l' u,l=l'++[u]:=⟨_,_,(List.dropLast_concat_getLast h).symm⟩
 rw[Qeq,Qeq,<-Qze,<-Qze,Zj,Quz]
 have e:szs l+(u.sz+1) - 1=(lays tt n .dead l++u.lay tt (n+szs l)).length:=by rw[Qza,ZI,T.Qxw];omega
 rw[e]
 constructor
 ·rw[Qzi (Qzl _),Qz0];rfl
 ·rw[Qz7 _ _ (Qzl _),Qz0];rfl
theorem Qk9(tt:TypeId)(n:Nat)(l:List T)(h:l≠[]):(layA tt n l)[szs l - 1]? = some (.cells tt 4 (lvs n l))/\(layA tt n l).set (szs l - 1) .dead=lays tt n .dead l:=QcS tt n _ l h
theorem Qp4{R:AV->AV->Prop}:∀{xs ys:List AV},xs.length=ys.length->(∀(j:Nat) x y,xs[j]? = some x->ys[j]? = some y->x.cells.length=y.cells.length/\∀(i:Nat) a b,x.cells[i]? = some a->y.cells[i]? = some b->R a b) ->
  (flat ys).length=(flat xs).length/\∀(j:Nat) a b,(flat xs)[j]? = some a->(flat ys)[j]? = some b->R a b
 |[],[],_,_=>⟨rfl,fun j a b h=>by simp[flat]at h⟩
 |[],y::ys,h,_=>by simp at h
 |x::xs,[],h,_=>by simp at h
 |x::xs,y::ys,h,hp=>by
  obtain⟨h1,h2⟩:=hp 0 x y rfl rfl
  obtain⟨h3,h4⟩:=Qp4 (xs:=xs) (ys:=ys) (by simpa using h) fun j x y hx hy=>hp (j+1) x y (by simpa using hx) (by simpa using hy)
  refine⟨by rw[QQ,QQ,Qza,Qza,h1,h3],fun j a b ha hb=>?_⟩
  rw[QQ,QzC]at ha hb
  rw[<-h1]at hb
  split at ha
  ·rename_i hj;rw[Qzh hj]at hb;exact h2 j a b ha hb
  ·rename_i hj;rw[Qzf hj]at hb;exact h4 _ a b ha hb
def At(h:AH)(n:Nat)(L:AH):Prop:=∀(j:Nat) b,L[j]? = some b->b.live=true->h[n+j]? = some b
theorem At.mid(A L B:AH){n:Nat}(hn:A.length=n):At (A++(L++B)) n L:=fun j b hb _=>by
 subst hn
 rw[Qzi (by omega),QAe,Qzc (Qf hb)];exact hb
theorem At.left{h:AH}{n:Nat}{L M:AH}(H:At h n (L++M)):At h n L:=fun j b hb hl=>H j b (by rw[Qzc (Qf hb)];exact hb) hl
theorem At.right{h:AH}{n:Nat}{L M:AH}(H:At h n (L++M)){m:Nat}(hm:m=n+L.length):At h m M:=fun j b hb hl=>by
 have:=H (L.length+j) b (by rw[Qzi (by omega),QAe];exact hb) hl
 subst hm
 rw[QAA];exact this
theorem At.both{h:AH}{n:Nat}{L M:AH}(H1:At h n L)(H2:At h (n+L.length) M):At h n (L++M):=fun j b hb hl=>by
 rw[QzC]at hb
 split at hb
 ·exact H1 j b hb hl
 ·rename_i hj
  have:=H2 _ b hb hl
  rw[show n+L.length+(j - L.length)=n+j by omega]at this
  exact this
theorem At.cons{h:AH}{n:Nat}{x:AB}{M:AH}(H1:x.live=true->h[n]? = some x)(H2:At h (n+1) M):At h n (x::M):=fun j b hb hl=>by
 cases j with
 |zero=>cases hb;exact H1 hl
 |succ j =>
  have:=H2 j b hb hl
  rw[show n+1+j=n+(j+1) by omega]at this
  exact this
theorem At.nil(h:AH)(n:Nat):At h n []:=fun j b hb=>by simp at hb
theorem At.app{h:AH}{n:Nat}{L:AH}(H:At h n L)(M:AH):At (h++M) n L:=fun j b hb hl=>by
 have:=H j b hb hl
 rw[Qzc (Qf this)];exact this
theorem At.get{h:AH}{n:Nat}{L:AH}(H:At h n L){j:Nat}{b:AB}(hb:L[j]? = some b)(hl:b.live=true){k:Nat}(hk:k=n+j):h[k]? = some b:=by subst hk;exact H j b hb hl
theorem At.all(L:AH):At L 0 L:=fun j b hb _=>by rw[Qyv];exact hb
theorem At.tail{x:AB}{L M:AH}{k:Nat}(H:At L k M):At (x::L) (k+1) M:=fun j b hb hl=>by
 have:=H j b hb hl
 rw[show k+1+j=(k+j)+1 by omega,Qyk];exact this
theorem At.off{A L M:AH}{n k:Nat}(H:At L k M)(hA:n=A.length+k)(B:AH):At (A++(L++B)) n M:=fun j b hb hl=>by
 have h1:=H j b hb hl
 have:=Qf h1
 rw[Qzi (by omega),Qzc (by omega),show n+j - A.length=k+j by omega];exact h1
theorem At.set{h:AH}{n:Nat}{L:AH}(H:At h n L){k:Nat}{x:AB}(hk:∀b,L[k - n]? = some b->n<=k->b.live=false):At (h.set k x) n L:=fun j b hb hl=>by
 have h1:=H j b hb hl
 rw[Qzd]
 ·exact h1
 ·intro e
  have:=hk b (by rw[show k - n=j by omega];exact hb) (by omega)
  rw[this]at hl;cases hl
theorem Qnw{tt:TypeId}{h:AH}{m:Nat}(n:Nat)(bs:List T)(hm:m<=n)(H:At h n (lays tt n (.cells tt 4 (lvs n bs)) bs))
  (hpt:(flat (avs bs)).length=(flat (lvs n bs)).length/\∀(j:Nat) a a',(flat (lvs n bs))[j]? = some a->(flat (avs bs))[j]? = some a'->Melt h m a a'):Melt h m (lsl n bs) (.sl 4 (avs bs) none):=by
 cases bs with
 |nil=>exact .nil 4
 |cons t bs =>
  have hne:t::bs≠[]:=by simp
  have hl:=(QcS tt n (.cells tt 4 (lvs n (t::bs))) (t::bs) hne).1
  have hp:=Qd3 hne
  show Melt h m (.arr (n+szs (t::bs) - 1) 0 (t::bs).length) _
  refine .arr (by omega) (H.get hl rfl (by omega)) (Yj _) (fun y hy=>?_) (QAT hpt.1) hpt.2
  rw[QcE]at hy
  obtain⟨u,_,rfl⟩:=QzD.1 hy
  rw[T.Qxs];rfl
section
variable{tt:TypeId}{h:AH}{m:Nat}
mutual
theorem T.Qyi:∀(t:T) (n:Nat),m<=n->At h n (t.lay tt n)->∀(j:Nat) a a',(t.lv n).cells[j]? = some a->t.av.cells[j]? = some a'->Melt h m a a'
 | .mk k i s bs,n,hm,H,j,a,a',h1,h2=>by
  rw[T.lay]at H
  have h3:=Qnw n bs hm H (QmC bs n _ hm H)
  rw[T.Qxx]at h1
  rw[T.Qxs]at h2
  match j,h1,h2 with
  |0,h1,h2=>cases h1;cases h2;exact .keep (.v _)
  |1,h1,h2=>cases h1;cases h2;exact .keep (.v _)
  |2,h1,h2=>cases h1;cases h2;exact .keep (.v _)
  |3,h1,h2=>cases h1;cases h2;exact h3
  |j+4,h1,h2=>simp at h1
theorem QmC:∀(bs:List T) (n:Nat) (r:AB),m<=n->At h n (lays tt n r bs)->(flat (avs bs)).length=(flat (lvs n bs)).length/\∀(j:Nat) a a',(flat (lvs n bs))[j]? = some a->(flat (avs bs))[j]? = some a'->Melt h m a a'
 |[],n,r,hm,H=>⟨rfl,fun j a a' h1=>by simp[lvs,flat]at h1⟩
 |t::bs,n,r,hm,H=>by
  rw[lays]at H
  have h1:=T.Qyi t n hm H.left
  have h2:At h (n+t.sz+1) (lays tt (n+t.sz+1) r bs):=by
   have:=H.right (m:=n+t.sz) (by rw[T.Qxw])
   exact At.right (L:=[if bs.isEmpty then r else .dead]) this rfl
  obtain⟨h3,h4⟩:=QmC bs (n+t.sz+1) r (QzL hm (by omega)) h2
  have hc:t.av.cells.length=(t.lv n).cells.length:=by rw[T.Qxs,T.Qxx];rfl
  refine⟨by rw[avs,lvs,QQ,QQ,Qza,Qza,h3,hc],fun j a a' ha hb=>?_⟩
  rw[lvs,QQ,QzC]at ha
  rw[avs,QQ,QzC,hc]at hb
  split at ha
  ·rename_i hj
   rw[Qzh hj]at hb
   exact h1 j a a' ha hb
  ·rename_i hj
   rw[Qzf hj]at hb
   exact h4 _ a a' ha hb
end
theorem QjJ{n:Nat}{bs:List T}(hm:m<=n)(H:At h n (layA tt n bs)):Melt h m (lsl n bs) (.sl 4 (avs bs) none):=Qnw n bs hm H (QmC bs n _ hm H)
end
def PkB(n:Nat)(τ:Nat->Nat)(h2:AH)(b b':AB):Prop:=b' = .dead\/∃ty s xs ys,b' = .cells ty s ys/\b = .cells ty s xs/\(∀y∈ys,y.cells.length=s)/\(flat ys).length<=(flat xs).length /\
  ∀(j:Nat) a a',(flat xs)[j]? = some a->(flat ys)[j]? = some a'->Pk n τ h2 a a'
def Sh(n:Nat)(τ:Nat->Nat)(h2:AH)(m m' len:Nat):Prop:=n<=m'/\m'+len<=h2.length/\∀j,j<len->τ (m'+j)=m+j
theorem Sh.sub{n:Nat}{τ:Nat->Nat}{h2:AH}{m m' len:Nat}(H:Sh n τ h2 m m' len){k l:Nat}(hl:k+l<=len){a b:Nat}(ha:a=m+k)(hb:b=m'+k):Sh n τ h2 a b l:=by
 subst ha;subst hb
 obtain⟨h1,h3,h4⟩:=H
 exact⟨by omega,by omega,fun j hj=>by rw[QAA,h4 _ (by omega),QAA]⟩
theorem QnH{n:Nat}{τ:Nat->Nat}{h2:AH}{m m':Nat}{bs:List T}(H:Sh n τ h2 m m' (szs bs)):Pk n τ h2 (lsl m bs) (lsl m' bs):=by
 unfold lsl
 cases bs with
 |nil=>exact .keep (.v _)
 |cons t bs =>
  have hp:0<szs (t::bs):=Qd3 (by simp)
  obtain⟨h1,h3,h4⟩:=H
  refine .arr ?_ (by omega) (by omega)
  have:=h4 (szs (t::bs) - 1) (by omega)
  rw[show m'+szs (t::bs) - 1=m'+(szs (t::bs) - 1) by omega,this];omega
theorem T.QxG{n:Nat}{τ:Nat->Nat}{h2:AH}{m m':Nat}{t:T}(H:Sh n τ h2 m m' t.sz):∀(j:Nat) a a',(t.lv m).cells[j]? = some a->(t.lv m').cells[j]? = some a'->Pk n τ h2 a a':=by
 intro j a a' h1 h3
 rw[T.Qxx]at h1 h3
 match j,h1,h3 with
 |0,h1,h3=>cases h1;cases h3;exact .keep (.v _)
 |1,h1,h3=>cases h1;cases h3;exact .keep (.v _)
 |2,h1,h3=>cases h1;cases h3;exact .keep (.v _)
 |3,h1,h3=>cases h1;cases h3;exact QnH (by rw[<-T.QxL];exact H)
 |j+4,h1,h3=>simp at h1
theorem T.pk{n:Nat}{τ:Nat->Nat}{h2:AH}{m m':Nat}{t:T}(H:Sh n τ h2 m m' t.sz):Pk n τ h2 (t.lv m) (t.lv m'):=by
 have:=T.QxG H
 rw[T.Qxx,T.Qxx]at this
 rw[T.QxT,T.QxT]
 exact .agg rfl this
theorem Qq2{n:Nat}{τ:Nat->Nat}{h2:AH}:∀{m m':Nat} {bs:List T},Sh n τ h2 m m' (szs bs)->(flat (lvs m' bs)).length=(flat (lvs m bs)).length/\∀(j:Nat) a a',(flat (lvs m bs))[j]? = some a->(flat (lvs m' bs))[j]? = some a'->Pk n τ h2 a a'
 |m,m',[],H=>⟨rfl,fun j a a' h1=>by simp[lvs,flat]at h1⟩
 |m,m',t::bs,H=>by
  rw[szs]at H
  have h1:=T.QxG (H.sub (k:=0) (l:=t.sz) (by omega) rfl rfl)
  obtain⟨h3,h4⟩:=Qq2 (bs:=bs) (H.sub (k:=t.sz+1) (l:=szs bs) (a:=m+t.sz+1) (b:=m'+t.sz+1) (by omega) (by omega) (by omega))
  have hc:(t.lv m').cells.length=(t.lv m).cells.length:=by rw[T.QxA,T.QxA]
  refine⟨by rw[lvs,lvs,QQ,QQ,Qza,Qza,h3,hc],fun j a a' ha hb=>?_⟩
  rw[lvs,QQ,QzC]at ha hb
  rw[hc]at hb
  split at ha
  ·rename_i hj
   rw[Qzh hj]at hb
   exact h1 j a a' ha hb
  ·rename_i hj
   rw[Qzf hj]at hb
   exact h4 _ a a' ha hb
theorem QmI{n:Nat}{τ:Nat->Nat}{h2:AH}{tt:TypeId}{m m':Nat}{bs:List T}(H:Sh n τ h2 m m' (szs bs)):PkB n τ h2 (.cells tt 4 (lvs m bs)) (.cells tt 4 (lvs m' bs)) :=
 .inr ⟨tt,4,_,_,rfl,rfl,Qnu _ _,QAT (Qq2 H).1,(Qq2 H).2⟩
mutual
theorem T.pkB{n:Nat}{τ:Nat->Nat}{h2:AH}{tt:TypeId}:∀{m m':Nat} (t:T),Sh n τ h2 m m' t.sz->∀(j:Nat) b b',(t.lay tt m)[j]? = some b->(t.lay tt m')[j]? = some b'->PkB n τ h2 b b'
 |m,m',.mk k i s bs,H,j,b,b',h1,h3=>by
  rw[T.sz]at H
  rw[T.lay]at h1 h3
  exact Qf6 bs (QmI H) H j b b' h1 h3
theorem Qf6{n:Nat}{τ:Nat->Nat}{h2:AH}{tt:TypeId}{r r':AB}:∀{m m':Nat} (bs:List T),PkB n τ h2 r r'->Sh n τ h2 m m' (szs bs)->∀(j:Nat) b b',(lays tt m r bs)[j]? = some b->(lays tt m' r' bs)[j]? = some b'->PkB n τ h2 b b'
 |m,m',[],hr,H,j,b,b',h1,h3=>by simp[lays]at h1
 |m,m',t::bs,hr,H,j,b,b',h1,h3=>by
  rw[szs]at H
  rw[lays,QzC,T.Qxw]at h1 h3
  split at h1
  ·rename_i hj
   rw[Qzh hj]at h3
   exact T.pkB t (H.sub (k:=0) (l:=t.sz) (by omega) rfl rfl) j b b' h1 h3
  ·rename_i hj
   rw[Qzf hj]at h3
   cases hk:j - t.sz with
   |zero =>
    rw[hk,Qyj]at h1 h3
    cases h1;cases h3
    split
    ·exact hr
    ·exact .inl rfl
   |succ k =>
    rw[hk,Qyk]at h1 h3
    exact Qf6 bs hr (H.sub (k:=t.sz+1) (l:=szs bs) (a:=m+t.sz+1) (b:=m'+t.sz+1) (by omega) (by omega) (by omega)) k b b' h1 h3
end
theorem QnE{A N L':AH}{n:Nat}{τ:Nat->Nat}(hn:A.length=n)(hb:∀b∈A,b.Below n)(hid:∀i,i<n->τ i=i)(hlo:∀i,n<=i->i<n+L'.length->n<=τ i)
  (hin:∀i j,n<=i->i<n+L'.length->n<=j->j<n+L'.length->τ i=τ j->i=j)
  (hB:∀(j:Nat) b',L'[j]? = some b'->b' = .dead\/∃b,(A++N)[τ (n+j)]? = some b/\PkB n τ (A++L') b b'):Pack n τ (A++N) (A++L'):=by
 have hl:(A++L').length=n+L'.length:=by rw[Qza,hn]
 refine⟨by omega,by rw[Qza];omega,hid,fun i hi=>?_,fun i b hi hg=>?_,fun i h1 h3=>hlo i h1 (by omega),fun i j h1 h2 h3 h4 he=>hin i j h1 (by omega) h3 (by omega) he,fun i b h1 hg=>?_⟩
 ·rw[Qzc (by omega),Qzc (by omega)]
 ·rw[Qzc (by omega)]at hg
  exact hb b (Qzp hg)
 ·rw[Qzi (by omega),hn]at hg
  rcases hB (i - n) b hg with h3|⟨b0,h3,h4⟩
  ·exact .inl h3
  ·rw[show n+(i - n)=i by omega]at h3
   rcases h4 with h4|⟨ty,s,xs,ys,rfl,rfl,h5,h6,h7⟩
   ·exact .inl h4
   ·exact .inr ⟨ty,s,xs,ys,rfl,h3,h5,h6,h7⟩
def tauG(n g:Nat):Nat->Nat:=fun i=>if i<n then i else i+g
theorem shG{A L':AH}{n:Nat}(hn:A.length=n)(g:Nat):Sh n (tauG n g) (A++L') (n+g) n L'.length :=
 ⟨Qzl _,by rw[Qza];omega,fun j hj=>by unfold tauG;rw[Qzf (by omega)];omega⟩
theorem QiR{A N C L':AH}{n g:Nat}(hn:A.length=n)(hb:∀b∈A,b.Below n)(hC:C.length=L'.length)(hN:At N g C)
  (hP:Sh n (tauG n g) (A++L') (n+g) n L'.length->∀(j:Nat) b b',C[j]? = some b->L'[j]? = some b'->PkB n (tauG n g) (A++L') b b') (hlive:∀(j:Nat) b b',C[j]? = some b->L'[j]? = some b'->b.live=false->b' = .dead):Pack n (tauG n g) (A++N) (A++L'):=by
 refine QnE hn hb (fun i hi=>by unfold tauG;rw[Qzh hi]) (fun i h1 _=>by unfold tauG;rw[Qzf (by omega)];omega) (fun i j h1 _ h3 _ he=>?_) fun j b' hj=>?_
 ·unfold tauG at he
  rw[Qzf (by omega),Qzf (by omega)]at he
  omega
 ·obtain⟨b,hb1⟩:∃b,C[j]? = some b:=⟨_,Qzg (by have:=Qf hj;omega)⟩
  cases hl:b.live with
  |false=>exact .inl (hlive j b b' hb1 hj hl)
  |true =>
   refine .inr ⟨b,?_,hP (shG hn g) j b b' hb1 hj⟩
   have:=hN j b hb1 hl
   unfold tauG
   rw[Qzf (by omega),Qzi (by omega),show n+j+g - A.length=g+j by omega];exact this
mutual
theorem T.QxN{tt:TypeId}:∀{m m':Nat} (t:T) (j:Nat) (b b':AB),(t.lay tt m)[j]? = some b->(t.lay tt m')[j]? = some b'->b.live=false->b' = .dead
 |m,m',.mk k i s bs,j,b,b',h1,h2,hl=>by
  rw[T.lay]at h1 h2
  exact Qhg bs (fun h=>by cases h) j b b' h1 h2 hl
theorem Qhg{tt:TypeId}{r r':AB}:∀{m m':Nat} (bs:List T),(r.live=false->r' = .dead)->∀(j:Nat) (b b':AB),(lays tt m r bs)[j]? = some b->(lays tt m' r' bs)[j]? = some b'->b.live=false->b' = .dead
 |m,m',[],hr,j,b,b',h1,h2,hl=>by simp[lays]at h1
 |m,m',t::bs,hr,j,b,b',h1,h2,hl=>by
  rw[lays,QzC,T.Qxw]at h1 h2
  split at h1
  ·rename_i hj
   rw[Qzh hj]at h2
   exact T.QxN t j b b' h1 h2 hl
  ·rename_i hj
   rw[Qzf hj]at h2
   cases hk:j - t.sz with
   |zero =>
    rw[hk,Qyj]at h1 h2
    cases h1;cases h2
    split
    ·rename_i he
     rw[Qzh he]at hl
     exact hr hl
    ·rfl
   |succ k =>
    rw[hk,Qyk]at h1 h2
    exact Qhg bs hr k b b' h1 h2 hl
end
theorem Qk8{tt:TypeId}{m m':Nat}(bs:List T)(j:Nat)(b b':AB)(h1:(layA tt m bs)[j]? = some b)(h2:(layA tt m' bs)[j]? = some b')(hl:b.live=false):b' = .dead:=Qhg bs (fun h=>by cases h) j b b' h1 h2 hl
theorem QsB{tt:TypeId}{A N:AH}{n:Nat}(hn:A.length=n)(hb:∀b∈A,b.Below n)(g:Nat)(bs:List T)(hN:At N g (layA tt (n+g) bs)) :
  Pack n (tauG n g) (A++N) (A++layA tt n bs)/\Pk n (tauG n g) (A++layA tt n bs) (lsl (n+g) bs) (lsl n bs):=by
 have hsh:=shG (L':=layA tt n bs) hn g
 rw[Yq]at hsh
 refine⟨QiR hn hb (by rw[Yq,Yq]) hN (fun h j b b' h1 h2=>Qf6 bs (QmI hsh) hsh j b b' h1 h2) (fun j b b' h1 h2 hl=>Qk8 bs j b b' h1 h2 hl),QnH hsh⟩
theorem QwA{tt:TypeId}{A N:AH}{n:Nat}(hn:A.length=n)(hb:∀b∈A,b.Below n)(g:Nat)(t:T)(hN:At N g (t.lay tt (n+g))) :
  Pack n (tauG n g) (A++N) (A++t.lay tt n)/\Pk n (tauG n g) (A++t.lay tt n) (t.lv (n+g)) (t.lv n):=by
 have hsh:=shG (L':=t.lay tt n) hn g
 rw[T.Qxw]at hsh
 rw[T.QxF]at hN
 have:=QsB (tt:=tt) hn hb g t.args hN
 rw[<-T.QxF]at this
 exact⟨this.1,T.pk hsh⟩
end Go.Proofs.YtenheconhibonaaGreatDoor.Ab
namespace Go.Proofs.YtenheconhibonaaGreatDoor.Ab
def smap(l:List (ByteArray×AV)):List (Value×AV):=l.map fun p=>(.string p.1,p.2)
def sget(x:ByteArray):List (ByteArray×AV)->Option AV
 |[]=>none
 |p::l=>if x=p.1 then some p.2 else sget x l
def supd(x:ByteArray)(v:AV):List (ByteArray×AV)->List (ByteArray×AV)
 |[]=>[(x,v)]
 |p::l=>if x=p.1 then(x,v)::l else p::supd x v l
theorem QuY(a b:ByteArray):(a==b)=decide (a=b):=by
 have h:(a==b)=true↔a=b:=by
  obtain⟨x⟩:=a
  obtain⟨y⟩:=b
  constructor
  ·intro h
   have e:x=y:=by simpa using(show(x==y)=true from h)
   rw[e]
  ·intro h
   cases h
   show(x==x)=true
   simp
 by_cases e:a=b
 ·rw[QzA e];exact h.2 e
 ·rw[Qzt e]
  cases hb:a==b with
  |false=>rfl
  |true=>exact(e (h.1 hb)).elim
theorem QnO(a b:ByteArray):Instr.sameNow .string (.string a) (.string b)=some (decide (a=b)):=by
 rw[<-QuY];rfl
theorem QkS(x:ByteArray):∀l:List (ByteArray×AV),QgY .string (.string x) (smap l)=some (sget x l)
 |[]=>rfl
 |p::l=>by
  have e:smap (p::l)=(.string p.1,p.2)::smap l:=rfl
  rw[e]
  simp only[QgY,sget,QnO]
  by_cases hk:x=p.1
  ·simp only[hk,QyP,QAj]
  ·simp only[hk,QyQ,Qz5];exact QkS x l
theorem QnW(x:ByteArray)(v:AV):∀l:List (ByteArray×AV),updA .string (.string x) v (smap l)=some (smap (supd x v l))
 |[]=>rfl
 |p::l=>by
  have e:smap (p::l)=(.string p.1,p.2)::smap l:=rfl
  rw[e]
  simp only[updA,supd,QnO]
  by_cases hk:x=p.1
  ·simp only[hk,QyP,QAj];rfl
  ·simp only[hk,QyQ,Qz5,QnW x v l];rfl
theorem QlG(x y:ByteArray)(v:AV):∀l:List (ByteArray×AV),sget y (supd x v l)=if y=x then some v else sget y l
 |[]=>rfl
 |p::l=>by
  simp only[supd]
  split
  ·rename_i h
   subst h
   simp only[sget]
   split <;> rfl
  ·rename_i h
   simp only[sget,QlG x y v l]
   by_cases hy:y=p.1
   ·rw[Qzh hy,Qzh hy,Qzf (by rintro rfl;exact h hy)]
   ·rw[Qzf hy,Qzf hy]
theorem Qo2(l:List (ByteArray×AV))(n:Nat)(h:∀p∈l,Below n p.2):(AB.map (smap l)).Below n:=by
 intro kv hkv
 simp only[smap,QzD]at hkv
 obtain⟨p,hp,rfl⟩:=hkv
 exact h p hp
end Go.Proofs.YtenheconhibonaaGreatDoor.Ab
namespace Go.Proofs.YtenheconhibonaaGreatDoor.Ab
def Qvb(l:Nat)(J:Act->World->Prop)(Q:Exit->Act->World->Prop):Exit->Act->World->Prop
 | .goto l',a,w=>l'=l/\J a w
 |e,a,w=>Q e a w
theorem QfU{F:Fence}{n:Nat}{P:Program}{Q:Exit->Act->World->Prop}{a:Act}{w:World}{c rest:Code}(l:Nat)(J:Nat->Act->World->Prop)(hf:findLabel c l=some rest)
  (first:c.wpIn F n P (Qvb l (fun a w=>∃m,J m a w) Q) a w) (pass:∀m a w,J m a w->rest.wpIn F n P (Qvb l (fun a w=>∃m',m'<m/\J m' a w) Q) a w):(Code.scope c).wpIn F n P Q a w:=by
 intro b k cs hro hb hr
 have h0:(lone (b.atR a (.code (.scope c)::k)) cs w).fenced P F:=fenced_calm hb hr rfl
 have hg:gotoIn l (.inScope c::k)=some (.code rest :: .inScope c::k):=by simp[gotoIn,hf]
 have hx:∀id,exitTo id (.inScope c::k)=exitTo id k:=fun id=>by simp[exitTo]
 have key:∀(M m:Nat) a w,m<M->J m a w->∃e a' w',Q e a' w'/\ArrivesIn (fun x=>x.fenced P F) P (lone (b.atR a (.code rest :: .inScope c::k)) cs w) b k cs e a' w':=by
  intro M
  induction M with
  |zero=>intro m a w hm;omega
  |succ M ih =>
   intro m a w hm hJ
   obtain⟨e,a₁,w₁,hq,harr⟩:=pass m a w hJ b (.inScope c::k) cs hro hb hr
   cases e with
   |normal=>exact⟨.normal,a₁,w₁,hq,StepsIn.trans harr (.one (fenced_calm hb hr rfl) Qcs)⟩
   |exit id=>exact⟨.exit id,a₁,w₁,hq,fun k' hk=>harr.1 k' (by rw[hx];exact hk),fun hr' hk=>harr.2 hr' (by rw[hx];exact hk)⟩
   |goto l' =>
    obtain⟨rfl,m',hlt,hJ'⟩:=hq
    obtain⟨e₂,a₂,w₂,hq₂,harr₂⟩:=ih m' a₁ w₁ (by omega) hJ'
    exact⟨e₂,a₂,w₂,hq₂,.of_steps (harr.1 _ hg) harr₂⟩
   |ret=>exact⟨_,a₁,w₁,hq,harr⟩
   |panic ch=>exact⟨_,a₁,w₁,hq,harr⟩
   |outgrown=>exact⟨_,a₁,w₁,hq,harr⟩
 obtain⟨e,a₁,w₁,hq,harr⟩:=first b (.inScope c::k) cs hro hb hr
 cases e with
 |normal=>exact⟨.normal,a₁,w₁,hq,.head h0 X4 (StepsIn.trans harr (.one (fenced_calm hb hr rfl) Qcs))⟩
 |exit id =>
  exact⟨.exit id,a₁,w₁,hq,fun k' hk=>.head h0 X4 (harr.1 k' (by rw[hx];exact hk)),
   fun hr' hk=>let ⟨k₁,h1,h2⟩:=harr.2 hr' (by rw[hx];exact hk);⟨k₁,h1,.head h0 X4 h2⟩⟩
 |goto l' =>
  obtain⟨rfl,m,hJ'⟩:=hq
  obtain⟨e₂,a₂,w₂,hq₂,harr₂⟩:=key (m+1) m a₁ w₁ (by omega) hJ'
  exact⟨e₂,a₂,w₂,hq₂,.of_steps (.head h0 X4 (harr.1 _ hg)) harr₂⟩
 |ret=>exact⟨_,a₁,w₁,hq,.of_steps (.one h0 X4) harr⟩
 |panic ch=>exact⟨_,a₁,w₁,hq,.of_steps (.one h0 X4) harr⟩
 |outgrown=>exact⟨_,a₁,w₁,hq,.of_steps (.one h0 X4) harr⟩
def Qbf(P:Program)(N l:Nat)(J:AS->Prop)(code:Code)(Q:AExit->AS->Prop)(s:AS):Prop :=
 ∀(F:Fence) (n:Nat) (base:Bs) (c:Cx) (a:Act),WF F->St c->SR N (base,F) c s a ->
  ∀R:Exit->Act->World->Prop,(∀e s' c' a' e',Q e s'->Ev c c'->St c'->SR N (base,F) c' s' a'->ExC c' e e'->R e' a' c'.w) ->
   (∀s' c' a',J s'->Ev c c'->St c'->SR N (base,F) c' s' a'->R (.goto l) a' c'.w)->code.wpIn F n P R a c.w
section
variable{P:Program}{N l:Nat}{J:AS->Prop}{Q:AExit->AS->Prop}{s:AS}
theorem QeX{x:Code}(h:Xs P N x Q s):Qbf P N l J x Q s:=fun F n base c a hF hs hr R hR _=>h F n base c a hF hs hr R hR
theorem Qoc(h:J s):Qbf P N l J (.goto l) Q s:=fun F n base c a hF hs hr R _ hJ=>wpIn_goto (hJ s c a h (Ev.refl c) hs hr)
theorem Y8{x y:Code}(h:Xs P N x (AExit.then (Qbf P N l J y Q) Q) s):Qbf P N l J (.seq x y) Q s:=by
 intro F n base c a hF hs hr R hR hJ
 refine wpIn_seq (h F n base c a hF hs hr _ ?_)
 intro e s' c' a' e' hQ hev hst hsr hex
 cases e with
 |normal =>
  cases hex
  exact hQ F n base c' a' hF hst hsr R (fun e s2 c2 a2 e2 hQ2 hev2 hst2 hsr2 hex2=>hR e s2 c2 a2 e2 hQ2 (Ev.trans hs hev hev2) hst2 hsr2 hex2) fun s2 c2 a2 h2 hev2 hst2 hsr2=>hJ s2 c2 a2 h2 (Ev.trans hs hev hev2) hst2 hsr2
 |exit id=>cases hex;exact hR _ s' c' a' _ hQ hev hst hsr rfl
 |ret=>cases hex;exact hR _ s' c' a' _ hQ hev hst hsr rfl
 |panic av=>obtain⟨x,rfl,hx⟩:=hex;exact hR _ s' c' a' _ hQ hev hst hsr ⟨x,rfl,hx⟩
theorem Qiv{x y:Code}(h:Qbf P N l J x (AExit.then (Qbf P N l J y Q) Q) s):Qbf P N l J (.seq x y) Q s:=by
 intro F n base c a hF hs hr R hR hJ
 refine wpIn_seq (h F n base c a hF hs hr _ ?_ ?_)
 ·intro e s' c' a' e' hQ hev hst hsr hex
  cases e with
  |normal =>
   cases hex
   exact hQ F n base c' a' hF hst hsr R (fun e s2 c2 a2 e2 hQ2 hev2 hst2 hsr2 hex2=>hR e s2 c2 a2 e2 hQ2 (Ev.trans hs hev hev2) hst2 hsr2 hex2) fun s2 c2 a2 h2 hev2 hst2 hsr2=>hJ s2 c2 a2 h2 (Ev.trans hs hev hev2) hst2 hsr2
  |exit id=>cases hex;exact hR _ s' c' a' _ hQ hev hst hsr rfl
  |ret=>cases hex;exact hR _ s' c' a' _ hQ hev hst hsr rfl
  |panic av=>obtain⟨x,rfl,hx⟩:=hex;exact hR _ s' c' a' _ hQ hev hst hsr ⟨x,rfl,hx⟩
 ·intro s' c' a' h1 hev hst hsr
  exact hJ s' c' a' h1 hev hst hsr
theorem Qiu{o:Operand}{x y:Code}{t:Bool}(ho:s.ev o = .v (.bool t))(h:Qbf P N l J (if t then x else y) Q s):Qbf P N l J (.cond o x y) Q s:=by
 intro F n base c a hF hs hr R hR hJ
 have he:=hr.eval o
 rw[ho]at he
 have hx:a.eval o = .bool t:=by
  generalize a.eval o=u at he
  cases he;rfl
 exact wpIn_cond hx (h F n base c a hF hs hr R hR hJ)
theorem QgB{id:Nat}{x:Code}(h:Qbf P N l J x (AExit.inBlock id Q) s):Qbf P N l J (.block id x) Q s:=by
 intro F n base c a hF hs hr R hR hJ
 refine wpIn_block (h F n base c a hF hs hr _ ?_ ?_)
 ·intro e s' c' a' e' hQ hev hst hsr hex
  cases e with
  |normal=>cases hex;exact hR _ s' c' a' _ hQ hev hst hsr rfl
  |exit i =>
   cases hex
   simp only[Exit.inBlock]
   simp only[AExit.inBlock]at hQ
   split
   ·rename_i hi;rw[Qzh hi]at hQ;exact hR _ s' c' a' _ hQ hev hst hsr rfl
   ·rename_i hi;rw[Qzf hi]at hQ;exact hR _ s' c' a' _ hQ hev hst hsr rfl
  |ret=>cases hex;exact hR _ s' c' a' _ hQ hev hst hsr rfl
  |panic av=>obtain⟨x,rfl,hx⟩:=hex;exact hR _ s' c' a' _ hQ hev hst hsr ⟨x,rfl,hx⟩
 ·intro s' c' a' h1 hev hst hsr
  exact hJ s' c' a' h1 hev hst hsr
theorem Qod{x:Code}(I:Nat->AS->Prop)(h:∀m s,I m s->Qbf P N l J x (AExit.then (QZ I m) Q) s){m:Nat}(h0:I m s):Qbf P N l J (.loop x) Q s:=by
 intro F n base c a hF hs hr R hR hJ
 have key:∀(k m:Nat) (s:AS) (c:Cx) (a:Act),m<k->I m s->St c->SR N (base,F) c s a ->
   (∀e s' c' a' e',Q e s'->Ev c c'->St c'->SR N (base,F) c' s' a'->ExC c' e e'->R e' a' c'.w)->(∀s' c' a',J s'->Ev c c'->St c'->SR N (base,F) c' s' a'->R (.goto l) a' c'.w)->Code.roundsIn F n P x R k a c.w:=by
  intro k
  induction k with
  |zero=>intro m _ _ _ hm;omega
  |succ k ih =>
   intro m s c a hm hI hs hr hR hJ
   rw[roundsIn_succ]
   refine h m s hI F n base c a hF hs hr _ ?_ ?_
   ·intro e s' c' a' e' hQ hev hst hsr hex
    cases e with
    |normal =>
     cases hex
     obtain⟨m',hlt,hI'⟩:=hQ
     exact ih m' s' c' a' (by omega) hI' hst hsr (fun e s2 c2 a2 e2 hQ2 hev2 hst2 hsr2 hex2=>hR e s2 c2 a2 e2 hQ2 (Ev.trans hs hev hev2) hst2 hsr2 hex2) fun s2 c2 a2 h2 hev2 hst2 hsr2=>hJ s2 c2 a2 h2 (Ev.trans hs hev hev2) hst2 hsr2
    |exit id=>cases hex;exact hR _ s' c' a' _ hQ hev hst hsr rfl
    |ret=>cases hex;exact hR _ s' c' a' _ hQ hev hst hsr rfl
    |panic av=>obtain⟨x,rfl,hx⟩:=hex;exact hR _ s' c' a' _ hQ hev hst hsr ⟨x,rfl,hx⟩
   ·intro s' c' a' h1 hev hst hsr
    exact hJ s' c' a' h1 hev hst hsr
 exact wpIn_loop_rounds (m+1) (key (m+1) m s c a (by omega) h0 hs hr hR hJ)
end
theorem Qbf.mono{P:Program}{N l:Nat}{J J':AS->Prop}{x:Code}{Q:AExit->AS->Prop}{s:AS}(H:Qbf P N l J x Q s)(h:∀s,J s->J' s):Qbf P N l J' x Q s :=
 fun F n base c a hF hs hr R hR hJ=>H F n base c a hF hs hr R hR fun s' c' a' h1=>hJ s' c' a' (h s' h1)
theorem Qob{P:Program}{N l:Nat}{J:AS->Prop}{x:Code}{Q:AExit->AS->Prop}{tm:Nat->AV}{h:AH}(H:Qbf P N l J x Q ⟨tm,h++[.dead]⟩):Qbf P N l J x Q ⟨tm,h⟩:=by
 intro F n base c a hF hst hr R hR hJ
 have hh:c.h=h:=hr.h
 subst hh
 have hg:=Grows.refl c.w
 have hev:=Ev.add hst hg .dead none (fun B h=>by cases h)
 have hst2:St (c.add c.w .dead none):=St.add hst hg .dead none (fun B h=>by cases h) trivial
 refine H F n base (c.add c.w .dead none) a hF hst2 ⟨rfl,hr.size,hr.above,hr.defers.ev hev,RoundOk.ev hev hr.round,fun t=>(hr.tm t).ev hst hev⟩ R (fun e' s' c' a' ex hq h1 h2 h3 h4=>hR e' s' c' a' ex hq (Ev.trans hst hev h1) h2 h3 h4) fun s' c' a' hq h1 h2 h3=>hJ s' c' a' hq (Ev.trans hst hev h1) h2 h3
theorem QgC{P:Program}{N:Nat}{c rest:Code}{Q:AExit->AS->Prop}{s:AS}(l:Nat)(I:Nat->AS->Prop)(hf:findLabel c l=some rest)(first:Qbf P N l (fun s=>∃m,I m s) c Q s)
  (pass:∀m s,I m s->Qbf P N l (QZ I m) rest Q s):Xs P N (.scope c) Q s:=by
 intro F n base c0 a hF hs hr R hR
 refine QfU l (fun m a w=>∃s' c',c'.w=w/\I m s'/\Ev c0 c'/\St c'/\SR N (base,F) c' s' a) hf (first F n base c0 a hF hs hr _ ?_ ?_) ?_
 ·intro e s' c' a' e' hQ hev hst hsr hex
  cases e with
  |normal=>cases hex;exact hR _ s' c' a' _ hQ hev hst hsr rfl
  |exit id=>cases hex;exact hR _ s' c' a' _ hQ hev hst hsr rfl
  |ret=>cases hex;exact hR _ s' c' a' _ hQ hev hst hsr rfl
  |panic av=>obtain⟨x,rfl,hx⟩:=hex;exact hR _ s' c' a' _ hQ hev hst hsr ⟨x,rfl,hx⟩
 ·rintro s' c' a' ⟨m,hI⟩ hev hst hsr
  exact⟨rfl,m,s',c',rfl,hI,hev,hst,hsr⟩
 ·rintro m a1 w1 ⟨s1,c1,rfl,hI,hev1,hst1,hsr1⟩
  refine pass m s1 hI F n base c1 a1 hF hst1 hsr1 _ ?_ ?_
  ·intro e s' c' a' e' hQ hev hst hsr hex
   have hev':=Ev.trans hs hev1 hev
   cases e with
   |normal=>cases hex;exact hR _ s' c' a' _ hQ hev' hst hsr rfl
   |exit id=>cases hex;exact hR _ s' c' a' _ hQ hev' hst hsr rfl
   |ret=>cases hex;exact hR _ s' c' a' _ hQ hev' hst hsr rfl
   |panic av=>obtain⟨x,rfl,hx⟩:=hex;exact hR _ s' c' a' _ hQ hev' hst hsr ⟨x,rfl,hx⟩
  ·rintro s' c' a' ⟨m',hlt,hI'⟩ hev hst hsr
   exact⟨rfl,m',hlt,s',c',rfl,hI',Ev.trans hs hev1 hev,hst,hsr⟩
theorem QkN{P:Program}{N:Nat}{c x:Code}{Q:AExit->AS->Prop}{s:AS}(l:Nat)(I:Nat->AS->Prop)(hf:findLabel c l=some (.seq .skip x))
  (first:(∀s,(∃m,I m s)->Qbf P N l (fun s=>∃m,I m s) x Q s)->Qbf P N l (fun s=>∃m,I m s) c Q s)
  (pass:∀m s,I m s->Qbf P N l (QZ I m) x Q s):Xs P N (.scope c) Q s :=
 QgC l I hf (first fun s ⟨m,h⟩=>(pass m s h).mono fun _ ⟨m',_,h'⟩=>⟨m',h'⟩) fun m s h=>Y8 (Xu (pass m s h))
end Go.Proofs.YtenheconhibonaaGreatDoor.Ab
namespace Go.Proofs.YtenheconhibonaaGreatDoor.Ab
theorem Qqa{P:Program}{c:Cx}(hst:St c){g:Nat}{cs:Array Value}(hg:HasG c.h g cs){t:TypeId}(ht:Xa P t=some (true,cs.size))(h1:cs.toList.all Value.oneCell'=true) :
  (Instr.loadAt t (.pointer (some ⟨g,0,none⟩))).run P c.w = .ok (.agg cs) c.w:=by
 obtain⟨ty,fr,hc⟩:=hg.world hst
 obtain⟨hagg,hsize⟩:=Qbj ht c.w
 have hcell:∀j,j<cs.size->c.w.cell? ((⟨g,0,none⟩:Addr).add j)=some (cs.getD j undef):=fun j hj=>by
  rw[addr_add,Qyv,XC hc,Qzr,Qzv hj];rfl
 have hr:=run_loadCells (P:=P) c.w ⟨g,0,none⟩ cs.size (fun j=>cs.getD j undef) hcell
 simp only[Instr.loadAt,Instr.sureAddr,loadVar,Sem.run_bind,Sem.run_pure,Result.andThen_ok,hagg,hsize,Sem.run_ite,QAj,hr]
 congr 2
 apply Array.ext
 ·simp
 ·intro i h2 h3
  simp[Qzr,Qzv h3]
def QrV(P:Program)(N:Nat)(ops:Array Oper)(o:Oper)(K:AS->Prop)(s:AS):Prop :=
 match Qn ops s.tm o with
 |some true=>(match o.op with
  | .load t x=>∃g cs,s.ev x = .v (.pointer (some ⟨g,0,none⟩))/\HasG s.h g cs/\Xa P t=some (true,cs.size)/\cs.toList.all Value.oneCell'=true/\K (AS.put N s o.dst (.v (.agg cs)))
  |_=>False)
 |some false=>K (AS.put N s o.dst (.v undef))
 |none=>False
theorem Qmm{P:Program}{N:Nat}{base:Bs×Fence}{o:Oper}{s:AS}{t:TypeId}{x:Operand}{g:Nat}{cs:Array Value}(hop:o.op = .load t x)(hx:s.ev x = .v (.pointer (some ⟨g,0,none⟩)))(hg:HasG s.h g cs)(ht:Xa P t=some (true,cs.size))(h1:cs.toList.all Value.oneCell'=true){K:AS->Prop}
  (H:K (AS.put N s o.dst (.v (.agg cs)))) {F:Fence} {n:Nat} {c:Cx} {a:Act} (hF:WF F) (hst:St c) (hr:SR N base c s a)
  {next:Act->World->Prop} {Qx:Exit->Act->World->Prop} (hK:∀s' c' a',K s'->Ev c c'->St c'->SR N base c' s' a'->next a' c'.w):o.wpIn F n P a c.w next Qx:=by
 refine⟨fun f _=>hF.fn f,?_⟩
 rw[Oper.semAt_eq _ _ _ (fun q=>by rw[hop];intro h;cases h)]
 have he:=hr.eval x
 rw[hx]at he
 have hu:a.eval x = .pointer (some ⟨g,0,none⟩):=by
  generalize a.eval x=u at he
  cases he;rfl
 have hl:=Qqa (P:=P) hst (by rw[hr.h];exact hg) ht h1
 have hrun':(execOp a.eval o).run P c.w = .ok (.value (.agg cs)) c.w:=by
  simp only[execOp,hop,hu,Sem.run_bind,hl,Result.andThen_ok,Sem.run_pure]
 rw[hrun']
 have hp:=hr.put hst (Ev.refl c) o.dst (.v (.agg cs))
 rw[hr.h]at hp
 exact hK _ c _ H (Ev.refl c) hst hp
theorem QeY{P:Program}{N:Nat}{Q:AExit->AS->Prop}{s:AS}{id:Nat}{ops:Array Oper}(i:Nat){o:Oper}(ho:ops.toList[i]? = some o)
  (H:∀(K:AS->Prop) (E:AV->AS->Prop),(∀s,Q .normal s->K s)->(∀r s,Q (.panic r) s->E r s)->OpsW P N ops (ops.toList.take i) (QrV P N ops o (OpsW P N ops (ops.toList.drop (i+1)) K E)) E s):Xs P N (.region id ops false) Q s:=by
 intro F n base c a hF hst hr R hR
 refine wpIn_region ?_
 have hlt:=Qf ho
 have hH:=H (fun s'=>Q .normal s') (fun r s'=>Q (.panic r) s') (fun _ h=>h) (fun _ _ h=>h)
 have hi:(ops.toList.take i).length=i:=by rw[QzE];omega
 have hrange:List.range ops.size=List.range' 0 (ops.toList.take i).length++(i::(List.range' (i+1) (ops.toList.drop (i+1)).length++[])):=by
  rw[hi,QyM,QzM,QAy,<-QzS]
  have:ops.toList.length=i+(1+(ops.toList.length - (i+1))):=by omega
  conv=>lhs;rw[this]
  rw[<-QAD,Qyv,<-QAD]
  rfl
 have hget:∀j,(ops.toList.drop (i+1))[j]? = ops[i+1+j]? := fun j=>by rw[QzO];simp
 rw[hrange]
 refine QcZ hF (ops.toList.take i) 0 s c a (fun j hj=>by rw[QAK,Qzh (by omega)];simp) hH hst hr ?_ ?_
 ·intro s1 c1 a1 h1 h2 h3 h4
  have h0:ops[i]? = some o:=by rw[<-ho];simp
  have hrest:∀s2 c2 a2,OpsW P N ops (ops.toList.drop (i+1)) (fun s'=>Q .normal s') (fun r s'=>Q (.panic r) s') s2->Ev c c2->St c2->SR N (base,F) c2 s2 a2->wpOpsIn F n P ops R (List.range' (i+1) (ops.toList.drop (i+1)).length++[]) a2 c2.w:=by
   intro s2 c2 a2 hq he2 hst2 hr2
   refine QcZ hF _ (i+1) s2 c2 a2 (fun j _=>hget j) hq hst2 hr2 ?_ ?_
   ·intro s' c' a' hQ k1 k2 k3
    simp only[wpOpsIn]
    exact hR _ s' c' a' _ hQ (Ev.trans hst he2 k1) k2 k3 rfl
   ·intro r s' c' a' x hQ k1 k2 k3 hx
    exact hR _ s' c' a' _ hQ (Ev.trans hst he2 k1) k2 k3 ⟨x,rfl,hx⟩
  simp only[wpOpsIn,h0]
  unfold QrV at h1
  split at h1
  ·rename_i hw
   rw[Q7 h4 hw]
   simp only[QAj]
   split at h1
   ·rename_i t x hop
    obtain⟨g,cs,g1,g2,g3,g4,g5⟩:=h1
    exact Qmm hop g1 g2 g3 g4 g5 hF h3 h4 fun s' c' a' hK k1 k2 k3=>hrest s' c' a' hK (Ev.trans hst h2 k1) k2 k3
   ·exact h1.elim
  ·rename_i hw
   rw[Q7 h4 hw]
   simp only[Qyn,Qz5]
   refine⟨fun f _=>hF.fn f,?_⟩
   have hr':=h4.put h3 (Ev.refl c1) o.dst (.v undef)
   rw[h4.h]at hr'
   exact hrest _ c1 _ h1 h2 h3 hr'
  ·exact h1.elim
 ·intro r s' c' a' x hQ h1 h2 h3 hx
  exact hR _ s' c' a' _ hQ h1 h2 h3 ⟨x,rfl,hx⟩
theorem Qh2{P:Program}{N:Nat}{Q:AExit->AS->Prop}{s:AS}{id:Nat}{ops:Array Oper}{y:Code}(i:Nat){o:Oper}(ho:ops.toList[i]? = some o)
  (H:∀(K:AS->Prop) (E:AV->AS->Prop),(∀s,Xs P N y Q s->K s)->(∀r s,Q (.panic r) s->E r s)->OpsW P N ops (ops.toList.take i) (QrV P N ops o (OpsW P N ops (ops.toList.drop (i+1)) K E)) E s):Xs P N (.seq (.region id ops false) y) Q s :=
 Qav (QeY i ho (fun K E hK hE=>H K E hK hE))
end Go.Proofs.YtenheconhibonaaGreatDoor.Ab
namespace Go.Proofs.YtenheconhibonaaGreatDoor.Ab
open Go.Proofs
structure Pz where
 all:List Tk
 i:Nat
 j:Nat
 g:Nat
def Tk.av(t:Tk):AV:=.agg [.i t.kind,.i t.pos,.v (.string t.text)]
def tks(l:List Tk):List AV:=l.map Tk.av
def strs(l:List ByteArray):List AV:=l.map fun s=>.v (.string s)
theorem Qcu(l:List ByteArray):(strs l).length=l.length:=QzJ _
theorem QhK(l m:List ByteArray):strs (l++m)=strs l++strs m:=Qz3
theorem Qdx(l:List Tk):(tks l).length=l.length:=QzJ _
theorem QlP(n:Nat)(l:List ByteArray):∀a∈flat (strs l),Below n a:=by
 intro a ha
 simp only[flat,strs,QA5,QzD]at ha
 obtain⟨x,⟨y,_,rfl⟩,hx⟩:=ha
 simp only[AV.cells,Qz8]at hx
 subst hx
 exact .v _
theorem QeS(n:Nat)(l:List Tk):∀a∈flat (tks l),Below n a:=by
 intro a ha
 simp only[flat,tks,QA5,QzD]at ha
 obtain⟨x,⟨y,_,rfl⟩,hx⟩:=ha
 simp only[Tk.av,AV.cells,Qzn,Qzz,QAf]at hx
 rcases hx with rfl|rfl|rfl <;> exact .v _
theorem Tk.Qxs(t:Tk):t.av.cells=[.i t.kind,.i t.pos,.v (.string t.text)]:=rfl
theorem Tk.Qxt(t:Tk):t.av.isAgg=true:=rfl
def QiJ(m:List (ByteArray×AV))(p:ByteArray×Nat):List (ByteArray×AV):=if p.1.toList≠[95]/\(sget p.1 m).isSome=true then m else supd p.1 (.i (p.2:Nat)) m
def kn(names:List ByteArray):List (ByteArray×AV):=names.zipIdx.foldl QiJ []
theorem Qqu(names:List ByteArray)(x:ByteArray):kn (names++[x])=QiJ (kn names) (x,names.length):=by
 rw[kn,List.zipIdx_append,List.foldl_append,Qyv];rfl
theorem QjL(l m:List ByteArray)(x:ByteArray):nameAt (l++m) x=if nameAt l x<l.length then nameAt l x else l.length+nameAt m x:=by
 unfold nameAt
 rw[List.findIdx_append]
 split
 ·rfl
 ·omega
theorem toList_inj{x y:ByteArray}(h:x.toList=y.toList):x=y:=by
 rw[Lib.toList_data,Lib.toList_data]at h
 exact Qs8 h
theorem Qnn(x:ByteArray)(hx:x.toList≠[95]):∀(n:Nat) (names:List ByteArray),names.length=n->sget x (kn names)=if nameAt names x<names.length then some (.i (nameAt names x:Nat))else none
 |0,names,h=>by
  obtain rfl:=QAW h
  rfl
 |n+1,names,h=>by
  have hne:names≠[]:=by rintro rfl;cases h
  obtain⟨l,y,rfl⟩:∃l' u,names=l'++[u]:=⟨_,_,(List.dropLast_concat_getLast hne).symm⟩
  have hl:l.length=n:=by simpa using h
  have ih:=Qnn x hx n l hl
  rw[Qqu,QjL,Qza,QAI]
  have h1:nameAt [y] x=if y=x then 0 else 1:=by
   unfold nameAt
   rw[List.findIdx_cons,List.findIdx_nil]
   by_cases e:y=x
   ·subst e;simp
   ·rw[Qzf e,show(y.toList==x.toList)=false by simpa using fun q=>e (toList_inj q)];rfl
  unfold QiJ
  by_cases hc:y.toList≠[95]/\(sget y (kn l)).isSome=true
  ·rw[Qzh hc,ih]
   by_cases hf:nameAt l x<l.length
   ·simp only[Qzh hf];rw[Qzh (by omega)]
   ·simp only[Qzf hf,h1]
    by_cases e:y=x
    ·subst e
     rw[ih,Qzf hf]at hc
     exact absurd hc.2 (by simp)
    ·rw[Qzf e,Qzf (by omega)]
  ·rw[Qzf hc,QlG,ih]
   by_cases hf:nameAt l x<l.length
   ·simp only[Qzh hf]
    rw[Qzh (show nameAt l x<l.length+1 by omega)]
    by_cases e:x=y
    ·subst e
     exact absurd ⟨hx,by rw[ih,Qzh hf];rfl⟩ hc
    ·rw[Qzf e]
   ·simp only[Qzf hf,h1]
    by_cases e:x=y
    ·subst e;simp only[QAj];rw[Qzh (by omega)];rfl
    ·have e2:¬y=x:=fun q=>e q.symm
     simp only[Qzf e,Qzf e2]
     rw[Qzf (by omega)]
theorem Quc(names:List ByteArray):∀p∈kn names,∃k:Nat,p.2 = .i k:=by
 have hsup:∀(x:ByteArray) (k:Nat) (m:List (ByteArray×AV)),(∀p∈m,∃k:Nat,p.2 = .i k)->∀p∈supd x (.i k) m,∃k:Nat,p.2 = .i k:=by
  intro x k m
  induction m with
  |nil=>intro _ p hp;simp only[supd,Qz8]at hp;subst hp;exact⟨k,rfl⟩
  |cons q m ih =>
   intro hm p hp
   simp only[supd]at hp
   split at hp
   ·rcases Qzn.1 hp with rfl|hp
    ·exact⟨k,rfl⟩
    ·exact hm p (QzV _ hp)
   ·rcases Qzn.1 hp with rfl|hp
    ·exact hm p (List.mem_cons_self ..)
    ·exact ih (fun p hp=>hm p (QzV _ hp)) p hp
 have key:∀(l:List (ByteArray×Nat)) (m:List (ByteArray×AV)),(∀p∈m,∃k:Nat,p.2 = .i k)->∀p∈l.foldl QiJ m,∃k:Nat,p.2 = .i k:=by
  intro l
  induction l with
  |nil=>intro m hm;exact hm
  |cons q l ih =>
   intro m hm
   rw[List.foldl_cons]
   refine ih _ ?_
   unfold QiJ
   split
   ·exact hm
   ·exact hsup _ _ _ hm
 exact key _ [] (by simp)
def pB(P:Pz)(s:PS):AB:=.cells 117 4 [.agg [.sl 3 (tks P.all) none,.i ((P.all.length - s.toks.length:Nat):Int),.sl 1 (strs s.names) (some P.g),.mp P.j]]
def kB(s:PS):AB:=.map (smap (kn s.names))
def gB(s:PS):AB:=.grow 9 1 s.names.length
def ph(h:AH)(P:Pz)(s:PS):AH:=((h.set P.i (pB P s)).set P.j (kB s)).set P.g (gB s)
structure Pz.ok (P:Pz) (h:AH):Prop where
 i:P.i<h.length
 j:P.j<h.length
 g:P.g<h.length
 ij:P.i≠P.j
 ig:P.i≠P.g
 jg:P.j≠P.g
theorem Pz.ok.app{P:Pz}{h:AH}(H:P.ok h)(L:AH):P.ok (h++L):=⟨by rw[Qza];have:=H.i;omega,by rw[Qza];have:=H.j;omega,by rw[Qza];have:=H.g;omega,H.ij,H.ig,H.jg⟩
theorem QE(h:AH)(P:Pz)(s:PS):(ph h P s).length=h.length:=by simp[ph]
section
variable{h:AH}{P:Pz}(H:P.ok h)
include H
theorem QP(s:PS)(L:AH):ph (h++L) P s=ph h P s++L:=by
 unfold ph
 rw[Qzw _ _ H.i,Qzw _ _ (by simpa using H.j),Qzw _ _ (by simpa using H.g)]
theorem Yg(s:PS):(ph h P s)[P.i]? = some (pB P s):=by
 unfold ph
 rw[Qzd (QAg H.ig),Qzd (QAg H.ij),Qzj H.i]
theorem QsC(s:PS):(ph h P s)[P.j]? = some (kB s):=by
 unfold ph
 rw[Qzd (QAg H.jg),Qzj (by simpa using H.j)]
theorem QwB(s:PS):(ph h P s)[P.g]? = some (gB s):=by
 unfold ph
 rw[Qzj (by simpa using H.g)]
theorem ph_i(s:PS)(L:AH):(ph h P s++L)[P.i]? = some (pB P s):=by rw[Qzc (by rw[QE];exact H.i)];exact Yg H s
theorem Qum{s s':PS}(hn:s'.names=s.names):(ph h P s).set P.i (pB P s')=ph h P s':=by
 unfold ph
 rw[QA8 _ _ (QAg H.ig),QA8 _ _ (QAg H.ij),QAS]
 simp only[kB,gB,hn]
theorem Qvy{s s':PS}(hn:s'.names=s.names)(L:AH):(ph h P s++L).set P.i (pB P s')=ph h P s'++L:=by
 rw[Qzw _ _ (by rw[QE];exact H.i),Qum H hn]
theorem QaS{s:PS}{k:Nat}(h1:k≠P.i)(h2:k≠P.j)(h3:k≠P.g):(ph h P s)[k]? = h[k]? := by
 have _u:=H
 unfold ph
 rw[Qzd (QAg h3),Qzd (QAg h2),Qzd (QAg h1)]
theorem Qsz(s:PS):(pB P s).Below h.length:=by
 intro a ha
 simp only[flat,QBc,List.flatMap_nil,QyM,AV.cells,Qzn,Qzz,QAf]at ha
 rcases ha with rfl|rfl|rfl|rfl
 ·exact .sl 3 _ none (QeS _ _) (fun b hb=>by cases hb)
 ·exact .v _
 ·exact .sl 1 _ _ (QlP _ _) (fun b hb=>by cases hb;exact H.g)
 ·exact .mp _ H.j
theorem Qnl(s:PS)(n:Nat):(kB s).Below n:=Qo2 _ _ fun p hp=>by
 have _u:=H
 obtain⟨k,e⟩:=Quc s.names p hp
 rw[e];exact .v _
theorem Qdp{s:PS}{s0:PS}{k:Nat}{b:AB}(hb:(ph h P s)[k]? = some b):(ph h P s0)[k]? = some b\/b.Below h.length:=by
 by_cases h1:k=P.i
 ·subst h1;rw[Yg H]at hb;cases hb;exact .inr (Qsz H s)
 ·by_cases h2:k=P.j
  ·subst h2;rw[QsC H]at hb;cases hb;exact .inr (Qnl H s _)
  ·by_cases h3:k=P.g
   ·subst h3;rw[QwB H]at hb;cases hb;exact .inr trivial
   ·rw[QaS H h1 h2 h3]at hb ⊢;exact .inl hb
theorem Q9{s s':PS}{L:AH}{r r':AV}{Q:AV->AH->Prop}(hf:Frz (ph h P s'++L) h.length r r')(hq:Q r' (ph h P s')):Leaves (ph h P s) (ph h P s'++L) r Q:=by
 have e:(ph h P s'++L).take h.length=ph h P s':=by rw[<-QE h P s',List.take_left]
 refine .inl ⟨h.length,r',by rw[QE];exact Qzl _,by rw[Qza,QE];omega,.inr fun k b hk=>?_,hf,by rw[e];exact hq⟩
 rw[e]at hk
 exact Qdp H hk
end
theorem XF(h:AH)(P:Pz)(s:PS)(L:AH):(ph h P s++L)[h.length]? = L[0]? := by rw[<-QE h P s];exact XP _ _
theorem Yp(h:AH)(P:Pz)(s:PS)(L:AH)(k:Nat):(ph h P s++L)[h.length+k]? = L[k]? := by rw[<-QE h P s];exact hget _ _ _
theorem Q8(h:AH)(P:Pz)(s:PS)(y:AB)(L:AH):(ph h P s++L).set h.length y=ph h P s++L.set 0 y:=by rw[<-QE h P s];exact Qaa _ _ _
theorem XR(h:AH)(P:Pz)(s:PS)(y:AB)(L:AH)(k:Nat):(ph h P s++L).set (h.length+k) y=ph h P s++L.set k y:=by rw[<-QE h P s];exact hset _ _ _ _
end Go.Proofs.YtenheconhibonaaGreatDoor.Ab
namespace Go.Proofs.YtenheconhibonaaGreatDoor.Ab
open Go.Proofs
theorem QeR(n:Nat)(t:Tk):Below n t.av:=.agg _ fun a ha=>by
 simp only[Qzn,Qzz,QAf]at ha
 rcases ha with rfl|rfl|rfl <;> exact .v _
theorem Qs2{s:PS}(h:s.wf):s.toks≠[]:=by
 obtain⟨l,e,hl,_⟩:=h
 rw[hl];simp
theorem QrA{all:List Tk}{s:PS}(hW:Wst all s):all.length - s.toks.length<all.length/\(tks all)[all.length - s.toks.length]? = some s.tk.av:=by
 obtain⟨pre,hp⟩:=hW.suf
 cases ht:s.toks with
 |nil=>exact absurd ht (Qs2 hW.wf)
 |cons t r =>
  rw[ht]at hp
  have e:s.tk=t:=by unfold PS.tk;rw[ht];rfl
  subst hp
  have hl:(pre++t::r).length - (t::r).length=pre.length:=by rw[Qza];omega
  rw[hl,e]
  refine⟨by rw[Qza,Qyw];omega,?_⟩
  rw[tks,QzN,Qzi (Qzl _),Qz0];rfl
section
variable{P:Pz}{s:PS}(hW:Wst P.all s){X:AH}(hX:X[P.i]? = some (pB P s))
include hW hX
theorem Qtm(L:AH):(X++L)[P.i]? = some (pB P s):=by have _u:=hW;rw[Qzc (Qf hX)];exact hX
theorem XU:Qp Tryz.prog 76 [.ptr P.i 0 0] X fun o h'=>o = .ret s.tk.av/\h'=X:=by
 obtain⟨h1,h2⟩:=QrA hW
 have hi:=Qtm hW hX
 have hi0:=hX
 rw[pB]at hi0
 simp only[pB]at hi
 have e1:=Tk.Qxs s.tk
 have e2:=Tk.Qxt s.tk
 generalize P.all.length - s.toks.length=k at *
 refine Qc Tryz.func76 rfl Tryz.call76 Tryz.ntmps76 Tryz.results76 (by simp) ?_
 repeat first|(first|refine Qj (id:=1) [(0,0),(1,0),(2,0),(3,0),(4,0),(5,0),(6,0),(7,0),(8,0),(9,0),(10,2)] mixed (by kernel_rfl) fun K hK=>?_|refine Qa ?_);simp only[go_sem,seval,hi,h1,h2,Qdx,e1,e2]|refine hK _ ?_;clear hK
 exact Qb (htake _ _) (.keep (QeR _ _)) ⟨rfl,rfl⟩
end
def Fl(p e:Int):AV:=.ifc 155 (.agg [.i p,.i e])
theorem Qdf(n:Nat)(p e:Int):Below n (Fl p e):=.ifc _ _ (.agg _ fun a ha=>by
 simp only[Qzn,Qzz,QAf]at ha
 rcases ha with rfl|rfl <;> exact .v _)
theorem Za(t:Tk)(e:Int)(a:AV)(X:AH):Qp Tryz.prog 109 [a,t.av,.i e] X fun o h'=>o = .panic (Fl t.pos e)/\h'=X:=by
 have e1:=Tk.Qxs t
 have e2:=Tk.Qxt t
 have hu:=Tryz.underlying155
 refine Qc Tryz.func109 rfl Tryz.call109 Tryz.ntmps109 Tryz.results109 (by simp) ?_
 repeat refine Qa ?_;simp only[go_sem,seval,e1,hu]
 exact Qb (htake _ _) (.keep (Qdf _ _ _)) ⟨rfl,rfl⟩
section
variable{P:Pz}{s:PS}(hW:Wst P.all s){X:AH}(hX:X[P.i]? = some (pB P s))
include hW hX
theorem nextL(L:AH):Qp Tryz.prog 76 [.ptr P.i 0 0] (X++L) fun o h'=>o = .ret s.tk.av/\h'=X++L:=XU hW (Qtm hW hX L)
theorem Qql(b:ByteArray):Qp Tryz.prog 146 [.ptr P.i 0 0,.v (.string b)] X fun o h'=>o = .ret (.b (s.is b.toList))/\h'=X:=by
 have cn:=XU hW hX
 have cl:=nextL hW hX
 have e1:=Tk.Qxs s.tk
 have e2:=Tk.Qxt s.tk
 refine Qc Tryz.func146 rfl Tryz.call146 Tryz.ntmps146 Tryz.results146 (by simp) ?_
 by_cases hk:s.tk.kind=4
 ·have z1:(s.tk.kind==4)=true:=by simpa using hk
  repeat (first|refine FunW.Qxr cn ?_|refine Qa ?_);simp only[go_sem,seval,e1,e2,z1]
  exact Qb (htake _ _) (.keep (.v _)) ⟨by rw[PS.is,z1,Qy3],rfl⟩
 ·have z1:(s.tk.kind==4)=false:=by simpa using hk
  repeat (first|refine FunW.Qxr cn ?_|refine Qa ?_);simp only[go_sem,seval,e1,e2,z1]
  exact Qb (htake _ _) (.keep (.v _)) ⟨by rw[PS.is,z1,QAv],rfl⟩
end
end Go.Proofs.YtenheconhibonaaGreatDoor.Ab
namespace Go.Proofs.YtenheconhibonaaGreatDoor.Ab
open Go.Proofs
theorem FunW.pan{P:Program}{fv:AV}{args:List AV}{h h':AH}{r:AV}{Q:AOut->AH->Prop}(H:FunW P fv args h fun o h2=>o = .panic r/\h2=h')(k:Q (.panic r) h'):FunW P fv args h Q:=H.mono (by rintro _ _ ⟨rfl,rfl⟩;exact k)
theorem FunW.panE{P:Program}{α:Type}{fv:AV}{args:List AV}{h:AH}{h':α->AH}{r:AV}{Q:AOut->AH->Prop}(H:FunW P fv args h fun o h2=>o = .panic r/\∃x,h2=h' x)(k:∀x,Q (.panic r) (h' x)):FunW P fv args h Q:=H.mono (by rintro _ _ ⟨rfl,x,rfl⟩;exact k x)
theorem PS.Qxv{s:PS}{b:List UInt8}(h:s.is b=true):s.tk.kind≠0:=by
 simp only[PS.is,Qzk,QAb]at h;rw[h.1];decide
section
variable{P:Pz}{s:PS}(hW:Wst P.all s){h:AH}(H:P.ok h)(hN:P.all.length<=1000000)
include hW H hN
theorem Qvi(hk:s.tk.kind≠0):IntKind.i64.wrap (((P.all.length - s.toks.length:Nat):Int)+1)=((P.all.length - s.nx.toks.length:Nat):Int):=by
 have h1:=XX hW.wf hk
 have h2:=hW.suf.length_le
 have _u:=H
 rw[QY (by omega)]
 congr 1;omega
theorem QqX(hk:s.tk.kind≠0)(L:AH):(ph h P s++L).set P.i (.cells 117 4 [.agg [.sl 3 (tks P.all) none,.v (.int .i64 (IntKind.i64.wrap (((P.all.length - s.toks.length:Nat):Int)+1))),.sl 1 (strs s.names) (some P.g),.mp P.j]])=ph h P s.nx++L:=by
 rw[Qvi hW H hN hk]
 exact Qvy H (s:=s) (s':=s.nx) rfl L
theorem Xo:Qp Tryz.prog 119 [.ptr P.i 0 0] (ph h P s) fun o h'=>o = .ret s.tk.av/\h'=ph h P s.nx:=by
 have hX:=Yg H s
 have hi:=ph_i H s
 have hp:=fun hk=>QqX hW H hN hk
 simp only[pB]at hi
 have cl:=nextL hW hX
 have e1:=Tk.Qxs s.tk
 have e2:=Tk.Qxt s.tk
 have f1:=QE h P s
 have f2:=QE h P s.nx
 have f3:=XF h P
 have f4:=Yp h P
 have f5:=Q8 h P
 have f6:=XR h P
 by_cases hk:s.tk.kind=0
 ·have z1:(s.tk.kind != 0)=false:=by simpa using hk
  have en:s.nx.toks=s.toks:=by
   obtain⟨l,e,hl,he,ha⟩:=hW.wf
   cases l with
   |nil=>simp only[PS.nx,hl,QyK]
   |cons t l =>
    have:s.tk=t:=by simp only[PS.tk,hl,QyL,Qz4]
    exact absurd (this▸hk) (ha t (by simp))
  have es:s.nx=s:=by
   show PS.mk _ s.names=s
   have:s=⟨s.toks,s.names⟩:=rfl
   rw[this];exact QzP (fun x=>PS.mk x s.names) en
  rw[es]
  refine Qc Tryz.func119 rfl Tryz.call119 Tryz.ntmps119 Tryz.results119 (by simp) ?_
  repeat (first|refine FunW.Qxr (cl _) ?_|refine Qa ?_);simp only[go_sem,seval,f1,f3,f4,f5,f6,e1,e2,z1]
  have:=Q9 H (s:=s) (s':=s) (L:=[.cells 127 3 [s.tk.av],.cells 127 3 [s.tk.av]]) (r:=s.tk.av) (r':=s.tk.av) (Q:=fun r h'=>AOut.ret r = .ret s.tk.av/\h'=ph h P s) (.keep (QeR _ _)) ⟨rfl,rfl⟩
  exact this
 ·have z1:(s.tk.kind != 0)=true:=by simpa using hk
  have hp':=hp hk
  refine Qc Tryz.func119 rfl Tryz.call119 Tryz.ntmps119 Tryz.results119 (by simp) ?_
  repeat (first|refine FunW.Qxr (cl _) ?_|refine Qa ?_);simp only[go_sem,seval,f1,f3,f4,f5,f6,e1,e2,z1,hi,hp']
  exact Q9 H (s:=s) (s':=s.nx) (.keep (QeR _ _)) ⟨rfl,rfl⟩
end
end Go.Proofs.YtenheconhibonaaGreatDoor.Ab
namespace Go.Proofs.YtenheconhibonaaGreatDoor.Ab
theorem QcG{P:Program}{F:Fence}{n:Nat}{f:FuncId}{fn:Func}{c:Code}{args:Array Value}{u:FrameMode}{w:World}{R:Ending->World->Prop}{u2:FrameMode}
  (hf:P.funcs[f]? = some fn) (hb:fn.body=some c) (hF:F.fn f)
  (h:∀(c₀:Frame) (cs:List Frame),c₀.mode=u->c.wpSIn F n P (fun e a' cs' w'=>cs'={c₀ with mode:=u2}::cs/\bodyPostM F n P fn R e a' w') {tmps:=args++Array.replicate (fn.ntmps - args.size) undef,defers:=[]} (c₀::cs) w) (hro:F.round=none) :
  CallsDIn F n P f args u w fun e u' w'=>u'=u2/\R e w':=by
 refine⟨hF,fun c₀ cs hu hr=>?_⟩
 let b:Frame:={(default:Frame)with fn:=f,kind:=.deferred,roundOf:=none}
 have henter:Frame.enter P f args .deferred =
   b.atR {tmps:=args++Array.replicate (fn.ntmps - args.size) undef,defers:=[]} [.code c]:=by
  simp[Frame.enter,Frame.atR,hf,hb,b]
 obtain⟨e,a',cs',w',hlen,⟨rfl,hq⟩,harr⟩:=h c₀ cs hu b [] rfl rfl hF hr
 have hr':F.room (({c₀ with mode:=u2}::cs).length+1+n):=hr
 rw[<-henter]at harr
 cases e with
 |normal =>
  obtain⟨e',w'',fr',hR,hs,hfn,hk,hl⟩:=Qal a'.defers .returning w' {b.atR a' []with mode:=.returning} ({c₀ with mode:=u2}::cs) rfl rfl rfl hf rfl hF hr' hq
  exact⟨e',u2,w'',fr',⟨rfl,hR⟩,ComesIn.of_steps (StepsIn.trans harr (.one (fenced_calm (fr:=b.atR a' []) hF hr' rfl) (stepR_end rfl))) hs,hk,hfn,hl⟩
 |ret =>
  obtain⟨todo,hs₀⟩:=harr.1 rfl
  obtain⟨e',w'',fr',hR,hs,hfn,hk,hl⟩:=Qal a'.defers .returning w' {b.atR a' todo with mode:=.returning} ({c₀ with mode:=u2}::cs) rfl rfl rfl hf rfl hF hr' hq
  exact⟨e',u2,w'',fr',⟨rfl,hR⟩,ComesIn.of_steps hs₀ hs,hk,hfn,hl⟩
 |panic chain =>
  obtain⟨todo,hs₀⟩:=harr
  obtain⟨e',w'',fr',hR,hs,hfn,hk,hl⟩:=Qal a'.defers (.panicking chain) w' {b.atR a' todo with mode:=.panicking chain} ({c₀ with mode:=u2}::cs) rfl rfl rfl hf rfl hF hr' hq
  exact⟨e',u2,w'',fr',⟨rfl,hR⟩,ComesIn.of_steps hs₀ hs,hk,hfn,hl⟩
 |exit id=>exact hq.elim
 |goto l=>exact hq.elim
 |outgrown=>exact⟨.outgrown,u2,w',b,⟨rfl,hq⟩,harr.resolve_left (by simp[b]),rfl,rfl,trivial⟩
def recV:AMode->AV
 | .pan v false=>v
 |_=>.v .nilIface
def recM:AMode->AMode
 | .pan v false=>.pan v true
 |m=>m
theorem QdE{P:Program}{f:FuncId}{fn:Func}{id x y:Nat}{t1 t2:TypeId}{p1 p2:String}{a1 a2:Array Edge}{rest:Code}{args:List AV}{h:AH}{Q:AH->Prop}(hf:P.funcs[f]? = some fn)
  (hb:fn.body=some (.seq (.region id #[{dst:=some x,op:=.call ⟨.builtin .recover,#[],#[]⟩,type:=t1,pos:=p1,after:=a1,guard:=none},{dst:=some y,op:=.assign (.tmp x),type:=t2,pos:=p2,after:=a2,guard:=none}] false) rest))
  (hcall:∀vals w,(callFunc f vals).run P w = .ok (.enter f vals) w) {N:Nat} (hN:fn.ntmps=N) {rs:List ResultVar} (hrs:fn.results.toList=rs) (hn:args.length<=N) (hx:x<N) (hy:y<N) (m:AMode)
  (H:Xs P N rest (Zr P rs h fun o h'=>(∃r,o = .ret r)/\Q h') ⟨upd (upd (Xm args) x (recV m)) y (recV m),h⟩):Qau P f args h m fun m' h'=>m'=recM m/\Q h':=by
 subst hN
 refine⟨hcall,fun F n c vals u hF hro hs hh hvals hm=>?_⟩
 subst hh
 have hsr0:SRd fn.ntmps c.w.heap.size c ⟨Xm args,c.h⟩ {tmps:=vals++Array.replicate (fn.ntmps - vals.size) undef,defers:=[]} []:=by
  refine⟨rfl,by have:=hvals.1;simp;omega,Qzl _,⟨[],rfl,rfl,QAN,fun e h=>by cases h⟩,fun t=>?_⟩
  simp only[Xm]
  rw[Qzr,QAL,QzQ]
  have hsz:=hvals.1
  by_cases ht:t<vals.size
  ·rw[Qzh ht]
   obtain⟨u,hu⟩:∃u,vals[t]? = some u:=⟨_,Qzv ht⟩
   obtain⟨a,ha⟩:∃a,args[t]? = some a:=⟨_,Qzg (by omega)⟩
   rw[hu,ha]
   exact hvals.2 t a u ha hu
  ·rw[Qzf ht,QzR (by omega),QAo]
   split
   ·exact .v _
   ·exact .v _
 -- what recover does to the frame below
 obtain⟨rv,u2,hrel,hm2,hrec⟩:∃(rv:Value) (u2:FrameMode),Rel c (recV m) rv/\MdC c (recM m) u2/\∀(c₀:Frame) (cs:List Frame),c₀.mode=u ->
   (recoverD (c₀::cs)=some (rv,{c₀ with mode:=u2}::cs))\/(recoverD (c₀::cs)=none/\rv = .nilIface/\({c₀ with mode:=u2}:Frame)=c₀):=by
  cases m with
  |ret =>
   obtain rfl:u = .returning:=hm
   refine⟨.nilIface,.returning,.v _,rfl,fun c₀ cs hu=>.inr ⟨?_,rfl,by rw[<-hu]⟩⟩
   simp only[recoverD,hu]
  |pan v b =>
   obtain⟨xv,rfl,hv⟩:=hm
   cases b with
   |false =>
    refine⟨xv,_,hv,⟨xv,rfl,hv⟩,fun c₀ cs hu=>.inl ?_⟩
    simp only[recoverD,hu]
   |true =>
    refine⟨.nilIface,_,.v _,⟨xv,rfl,hv⟩,fun c₀ cs hu=>.inr ⟨?_,rfl,by rw[<-hu]⟩⟩
    simp only[recoverD,hu]
 have hsr:SRd fn.ntmps c.w.heap.size c ⟨upd (upd (Xm args) x (recV m)) y (recV m),c.h⟩ (((⟨vals++Array.replicate (fn.ntmps - vals.size) undef,[]⟩:Act).put (some x) rv).put (some y) rv) []:=by
  have s1:=(hsr0.sr hro).put hs (Ev.refl c) (some x) hrel
  have s2:=s1.put hs (Ev.refl c) (some y) hrel
  have s3:=hsr0.QxW hs (Ev.refl c) s2
  simp only[AS.put,Qzh hx,Qzh hy]at s3
  exact s3
 refine(QcG (u2:=u2) (R:=fun e w'=>∃(o:AOut) (c':Cx),((∃r,o=AOut.ret r)/\Q c'.h)/\Ev c c'/\St c'/\c'.w=w'/\EndC c' o e) hf hb (hF.fn f) (fun c₀ cs hu=>?_) hro).mono ?_
 ·apply wpSIn_seq
  apply wpSIn_region
  have hput:∀cs',cs'=({c₀ with mode:=u2}:Frame)::cs->rest.wpSIn F n P (fun e a' cs'' w'=>cs''={c₀ with mode:=u2}::cs/\bodyPostM F n P fn (fun e w'=>∃(o:AOut) (c':Cx),((∃r,o=AOut.ret r)/\Q c'.h)/\Ev c c'/\St c'/\c'.w=w'/\EndC c' o e) e a' w')
    (((⟨vals++Array.replicate (fn.ntmps - vals.size) undef,[]⟩:Act).put (some x) rv).put (some y) rv) cs' c.w:=by
   rintro cs' rfl
   refine wpSIn_of_wpIn hro ?_
   refine Yf (H.mono fun e s hq=>(by cases e <;> exact hq:QlY P rs c.h (fun o h'=>(∃r,o=AOut.ret r)/\Q h') e s [])) F n c.w.heap.size c _ hF hro hs hsr _ ?_
   intro e s' ds' c' a' e' hQ hev hst hr hex
   obtain⟨es,e1,e2,e3,e4⟩:=hr.defs
   subst e2
   have hout:Out fn.ntmps c' s' a'.tmps:=⟨hr.h,hr.size,hr.tm⟩
   have key:=fun(m:AMode) (u:FrameMode) (hm:MdC c' m u) (hnr:∀v,m ≠ .pan v true) H=>e1▸QbX (P:=P) hF hro (n:=n) (fn:=fn) (tmps:=a'.tmps) hrs (Q:=fun o h'=>(∃r,o=AOut.ret r)/\Q h') hs es c' s' m u hev hst hout e3 e4 hm hnr H
   refine⟨rfl,?_⟩
   cases e with
   |normal=>cases hex;exact key .ret .returning rfl (fun v h=>by cases h) hQ
   |ret=>cases hex;exact key .ret .returning rfl (fun v h=>by cases h) hQ
   |panic av =>
    obtain⟨x,rfl,hx⟩:=hex
    exact key (.pan av false) _ ⟨x,rfl,hx⟩ (fun v h=>by cases h) hQ
   |exit id=>exact hQ.elim
  have r2:((⟨vals++Array.replicate (fn.ntmps - vals.size) undef,[]⟩:Act).put (some x) rv).eval (.tmp x)=rv:=by
   have hlt:x<(vals++Array.replicate (fn.ntmps - vals.size) undef).size:=by have:=hsr0.size;simp only at this;omega
   simp only[QAc,Array.size_replicate]at hlt
   simp[Act.put,Act.eval]
   intro h;omega
  have hlt2:x<vals.size+(fn.ntmps - vals.size):=by omega
  show wpOpsSIn F n P _ _ [0,1] _ _ _
  rcases hrec c₀ cs hu with hr|⟨hr,rfl,hc⟩
  ·simp[wpOpsSIn,Region.wanted,execOp,go_sem,resolve,invoke,hr,hF.fn,Exit.thenS,hlt2]
   exact hput _ rfl
  ·simp[wpOpsSIn,Region.wanted,execOp,go_sem,resolve,invoke,hr,hF.fn,Exit.thenS,hlt2]
   exact hput _ (by rw[hc])
 ·rintro e u' w' ⟨rfl,o,c',⟨⟨r,rfl⟩,hQ⟩,hev,hst',rfl,xx,rfl,hx'⟩
  exact⟨xx,recM m,c',rfl,⟨rfl,hQ⟩,hev,hst',rfl,hm2.ev hs hev⟩
end Go.Proofs.YtenheconhibonaaGreatDoor.Ab
namespace Go.Proofs.YtenheconhibonaaGreatDoor.Ab
open Go.Proofs
abbrev QgK{a:List AV}{h:AH}{Q:AOut->AH->Prop}:=@Qc Tryz.prog 115 _ _ a h Q Tryz.func115 rfl Tryz.call115 _ Tryz.ntmps115 _ Tryz.results115
abbrev Qf0{a:List AV}{h:AH}{Q:AOut->AH->Prop}:=@Qc Tryz.prog 77 _ _ a h Q Tryz.func77 rfl Tryz.call77 _ Tryz.ntmps77 _ Tryz.results77
abbrev Qm8{a:List AV}{h:AH}{Q:AOut->AH->Prop}:=@Qc Tryz.prog 68 _ _ a h Q Tryz.func68 rfl Tryz.call68 _ Tryz.ntmps68 _ Tryz.results68
section
variable{P:Pz}{s:PS}(hW:Wst P.all s){h:AH}(H:P.ok h)(hN:P.all.length<=1000000)
include hW H hN
theorem Qj9(b:ByteArray)(hb:s.is b.toList=true):Qp Tryz.prog 110 [.ptr P.i 0 0,.v (.string b)] (ph h P s) fun o h'=>o = .ret (.b true)/\h'=ph h P s.nx:=by
 have hX:=Yg H s
 have hi:=ph_i H s
 have hp':=QqX hW H hN (PS.Qxv hb)
 have hp0:=hp' []
 have hi0:=hX
 rw[pB]at hi0
 simp only[pB]at hi
 simp only[QyM]at hp0
 have ci:=Qql hW hX b
 rw[hb]at ci
 refine Qc Tryz.func110 rfl Tryz.call110 Tryz.ntmps110 Tryz.results110 (by simp) ?_
 repeat (first|refine FunW.Qxr ci ?_|refine Qa ?_);simp only[go_sem,seval,hi0,hp0]
 exact .inr ⟨rfl,rfl⟩
theorem QmP(b:ByteArray)(hb:s.is b.toList=false):Qp Tryz.prog 110 [.ptr P.i 0 0,.v (.string b)] (ph h P s) fun o h'=>o = .ret (.b false)/\h'=ph h P s:=by
 have _u:=hN
 have hX:=Yg H s
 have ci:=Qql hW hX b
 rw[hb]at ci
 refine Qc Tryz.func110 rfl Tryz.call110 Tryz.ntmps110 Tryz.results110 (by simp) ?_
 repeat (first|refine FunW.Qxr ci ?_|refine Qa ?_);simp only[go_sem,seval]
 exact .inr ⟨rfl,rfl⟩
theorem Qoi(b:ByteArray)(hb:s.is b.toList=true):Qp Tryz.prog 116 [.ptr P.i 0 0,.v (.string b)] (ph h P s) fun o h'=>o = .ret (.tup [])/\h'=ph h P s.nx:=by
 have cs:=Qj9 hW H hN b hb
 refine Qc Tryz.func116 rfl Tryz.call116 Tryz.ntmps116 Tryz.results116 (by simp) ?_
 repeat (first|refine FunW.Qxr cs ?_|refine Qa ?_);simp only[go_sem,seval]
 exact .inr ⟨rfl,rfl⟩
theorem Qp1(b:ByteArray)(hb:s.is b.toList=false):Qp Tryz.prog 116 [.ptr P.i 0 0,.v (.string b)] (ph h P s) fun o h'=>o = .panic (Fl s.tk.pos 16)/\h'=ph h P s:=by
 have cs:=QmP hW H hN b hb
 have cn:=XU hW (Yg H s)
 have cf:=Za s.tk 16
 refine Qc Tryz.func116 rfl Tryz.call116 Tryz.ntmps116 Tryz.results116 (by simp) ?_
 repeat (first|refine FunW.Qxr cs ?_|refine FunW.Qxr cn ?_|refine FunW.pan (FunW.call (cf _ _)) ?_|refine Qa ?_);simp only[go_sem,seval]
 exact .inr ⟨rfl,rfl⟩
theorem QsN(n m:Int)(hm:¬m<=n):Qp Tryz.prog 77 [.ptr P.i 0 0,.i n,.i m] (ph h P s) fun o h'=>o = .ret (.tup [])/\h'=ph h P s:=by
 have _u:=hN
 have _v:=hW
 have _w:=H
 have z1:¬n>=m:=hm
 refine Qf0 (by simp) ?_
 repeat refine Qa ?_;simp only[go_sem,seval,hm]
 exact .inr ⟨rfl,rfl⟩
theorem Qut(n m:Int)(hm:m<=n):Qp Tryz.prog 77 [.ptr P.i 0 0,.i n,.i m] (ph h P s) fun o h'=>o = .panic (Fl s.tk.pos 6)/\h'=ph h P s:=by
 have _u:=hN
 have z1:n>=m:=hm
 have cn:=XU hW (Yg H s)
 have cf:=Za s.tk 6
 refine Qf0 (by simp) ?_
 repeat (first|refine FunW.Qxr cn ?_|refine FunW.pan (FunW.call (cf _ _)) ?_|refine Qa ?_);simp only[go_sem,seval,hm]
 exact .inr ⟨rfl,rfl⟩
theorem Qli:Qp Tryz.prog 115 [.ptr P.i 0 0] (ph h P s) fun o h'=>match QaM s with
  | .ok x s2=>o = .ret (.v (.string x))/\h'=ph h P s2
  | .err p e=>o = .panic (Fl p e)/\∃s2,h'=ph h P s2:=by
 have ct:=Xo hW H hN
 have e1:=Tk.Qxs s.tk
 have e2:=Tk.Qxt s.tk
 have f1:=QE h P s.nx
 have f3:=XF h P
 have f4:=Yp h P
 have f5:=Q8 h P
 have f6:=XR h P
 unfold QaM
 by_cases h1:s.tk.kind=1
 ·rw[Qzf (by simpa using h1)]
  have z1:(s.tk.kind != 1)=false:=by simpa using h1
  have cr:=QeI s.tk.text
  cases hr:resB s.tk.text with
  |true =>
   rw[Qzh rfl]
   rw[hr]at cr
   have cf:=Za s.tk 7
   refine QgK (by simp) ?_
   repeat (first|refine FunW.Qxr ct ?_|refine Qe cr ?_|refine FunW.pan (FunW.call (cf _ _)) ?_|refine Qa ?_);simp only[go_sem,seval,e1,e2,f1,f3,f5,z1]
   exact Q9 H (s:=s) (s':=s.nx) (.keep (Qdf _ _ _)) ⟨rfl,_,rfl⟩
  |false =>
   rw[Qzf (by simp)]
   rw[hr]at cr
   refine QgK (by simp) ?_
   repeat (first|refine FunW.Qxr ct ?_|refine Qe cr ?_|refine Qa ?_);simp only[go_sem,seval,e1,e2,f1,f3,f5,z1]
   exact Q9 H (s:=s) (s':=s.nx) (.keep (.v _)) ⟨rfl,rfl⟩
 ·rw[Qzh h1]
  have z1:(s.tk.kind != 1)=true:=by simpa using h1
  have cf:=Za s.tk 16
  refine QgK (by simp) ?_
  repeat (first|refine FunW.Qxr ct ?_|refine FunW.pan (FunW.call (cf _ _)) ?_|refine Qa ?_);simp only[go_sem,seval,e1,e2,f1,f3,f5,z1]
  exact Q9 H (s:=s) (s':=s.nx) (.keep (Qdf _ _ _)) ⟨rfl,_,rfl⟩
end
end Go.Proofs.YtenheconhibonaaGreatDoor.Ab
namespace Go.Proofs.YtenheconhibonaaGreatDoor.Ab
open Go.Proofs
abbrev YJ{a:List AV}{h:AH}{Q:AOut->AH->Prop}:=@Qc Tryz.prog 185 _ _ a h Q Tryz.func185 rfl Tryz.call185 _ Tryz.ntmps185 _ Tryz.results185
def clsN(c:Int):Int:=if c=32\/c=9\/c=13\/c=10 then 1 else if 97<=c/\c<=122 then 2 else if (65<=c/\c<=90)\/c=95 then 3 else if 48<=c/\c<=57 then 4 else 0
theorem Qv6(c:Int)(hc:c=32):Pure Tryz.prog 185 [.v (.int .u8 c)] (.i (clsN c)):=by
 intro h
 have e0:clsN c=1:=by simp only[clsN];repeat' (first|rw[Qzh (by omega)]|rw[Qzf (by omega)])
 have b32:(c==32)=true:=by simp;omega
 have b9:(c==9)=false:=by simp;omega
 have b13:(c==13)=false:=by simp;omega
 have b10:(c==10)=false:=by simp;omega
 have b95:(c==95)=false:=by simp;omega
 have g97:¬97<=c:=by omega
 have l122:c<=122:=by omega
 have g65:¬65<=c:=by omega
 have l90:c<=90:=by omega
 have g48:¬48<=c:=by omega
 have l57:c<=57:=by omega
 refine YJ (by simp) ?_
 repeat refine Qa ?_;simp only[go_sem,seval,b32]
 (refine Qb Qzb (.keep (.v _)) ⟨by rw[e0],rfl⟩)
theorem Qv7(c:Int)(hc:c=9):Pure Tryz.prog 185 [.v (.int .u8 c)] (.i (clsN c)):=by
 intro h
 have e0:clsN c=1:=by simp only[clsN];repeat' (first|rw[Qzh (by omega)]|rw[Qzf (by omega)])
 have b32:(c==32)=false:=by simp;omega
 have b9:(c==9)=true:=by simp;omega
 have b13:(c==13)=false:=by simp;omega
 have b10:(c==10)=false:=by simp;omega
 have b95:(c==95)=false:=by simp;omega
 have g97:¬97<=c:=by omega
 have l122:c<=122:=by omega
 have g65:¬65<=c:=by omega
 have l90:c<=90:=by omega
 have g48:¬48<=c:=by omega
 have l57:c<=57:=by omega
 refine YJ (by simp) ?_
 repeat refine Qa ?_;simp only[go_sem,seval,b32,b9]
 (refine Qb Qzb (.keep (.v _)) ⟨by rw[e0],rfl⟩)
theorem Qv8(c:Int)(hc:c=13):Pure Tryz.prog 185 [.v (.int .u8 c)] (.i (clsN c)):=by
 intro h
 have e0:clsN c=1:=by simp only[clsN];repeat' (first|rw[Qzh (by omega)]|rw[Qzf (by omega)])
 have b32:(c==32)=false:=by simp;omega
 have b9:(c==9)=false:=by simp;omega
 have b13:(c==13)=true:=by simp;omega
 have b10:(c==10)=false:=by simp;omega
 have b95:(c==95)=false:=by simp;omega
 have g97:¬97<=c:=by omega
 have l122:c<=122:=by omega
 have g65:¬65<=c:=by omega
 have l90:c<=90:=by omega
 have g48:¬48<=c:=by omega
 have l57:c<=57:=by omega
 refine YJ (by simp) ?_
 repeat refine Qa ?_;simp only[go_sem,seval,b32,b9,b13]
 (refine Qb Qzb (.keep (.v _)) ⟨by rw[e0],rfl⟩)
theorem Qv9(c:Int)(hc:c=10):Pure Tryz.prog 185 [.v (.int .u8 c)] (.i (clsN c)):=by
 intro h
 have e0:clsN c=1:=by simp only[clsN];repeat' (first|rw[Qzh (by omega)]|rw[Qzf (by omega)])
 have b32:(c==32)=false:=by simp;omega
 have b9:(c==9)=false:=by simp;omega
 have b13:(c==13)=false:=by simp;omega
 have b10:(c==10)=true:=by simp;omega
 have b95:(c==95)=false:=by simp;omega
 have g97:¬97<=c:=by omega
 have l122:c<=122:=by omega
 have g65:¬65<=c:=by omega
 have l90:c<=90:=by omega
 have g48:¬48<=c:=by omega
 have l57:c<=57:=by omega
 refine YJ (by simp) ?_
 repeat refine Qa ?_;simp only[go_sem,seval,b32,b9,b13,b10]
 (refine Qb Qzb (.keep (.v _)) ⟨by rw[e0],rfl⟩)
theorem Qwa(c:Int)(hc:97<=c/\c<=122):Pure Tryz.prog 185 [.v (.int .u8 c)] (.i (clsN c)):=by
 intro h
 have e0:clsN c=2:=by simp only[clsN];repeat' (first|rw[Qzh (by omega)]|rw[Qzf (by omega)])
 have b32:(c==32)=false:=by simp;omega
 have b9:(c==9)=false:=by simp;omega
 have b13:(c==13)=false:=by simp;omega
 have b10:(c==10)=false:=by simp;omega
 have b95:(c==95)=false:=by simp;omega
 have g97:97<=c:=by omega
 have l122:c<=122:=by omega
 have g65:65<=c:=by omega
 have l90:¬c<=90:=by omega
 have g48:48<=c:=by omega
 have l57:¬c<=57:=by omega
 refine YJ (by simp) ?_
 repeat refine Qa ?_;simp only[go_sem,seval,b32,b9,b13,b10,g97,l122]
 (refine Qb Qzb (.keep (.v _)) ⟨by rw[e0],rfl⟩)
theorem Qwb(c:Int)(hc:65<=c/\c<=90):Pure Tryz.prog 185 [.v (.int .u8 c)] (.i (clsN c)):=by
 intro h
 have e0:clsN c=3:=by simp only[clsN];repeat' (first|rw[Qzh (by omega)]|rw[Qzf (by omega)])
 have b32:(c==32)=false:=by simp;omega
 have b9:(c==9)=false:=by simp;omega
 have b13:(c==13)=false:=by simp;omega
 have b10:(c==10)=false:=by simp;omega
 have b95:(c==95)=false:=by simp;omega
 have g97:¬97<=c:=by omega
 have l122:c<=122:=by omega
 have g65:65<=c:=by omega
 have l90:c<=90:=by omega
 have g48:48<=c:=by omega
 have l57:¬c<=57:=by omega
 refine YJ (by simp) ?_
 repeat refine Qa ?_;simp only[go_sem,seval,b32,b9,b13,b10,g97,g65,l90]
 (refine Qb Qzb (.keep (.v _)) ⟨by rw[e0],rfl⟩)
theorem Qwc(c:Int)(hc:c=95):Pure Tryz.prog 185 [.v (.int .u8 c)] (.i (clsN c)):=by
 intro h
 have e0:clsN c=3:=by simp only[clsN];repeat' (first|rw[Qzh (by omega)]|rw[Qzf (by omega)])
 have b32:(c==32)=false:=by simp;omega
 have b9:(c==9)=false:=by simp;omega
 have b13:(c==13)=false:=by simp;omega
 have b10:(c==10)=false:=by simp;omega
 have b95:(c==95)=true:=by simp;omega
 have g97:¬97<=c:=by omega
 have l122:c<=122:=by omega
 have g65:65<=c:=by omega
 have l90:¬c<=90:=by omega
 have g48:48<=c:=by omega
 have l57:¬c<=57:=by omega
 refine YJ (by simp) ?_
 repeat refine Qa ?_;simp only[go_sem,seval,b32,b9,b13,b10,b95,g97,g65,l90]
 (refine Qb Qzb (.keep (.v _)) ⟨by rw[e0],rfl⟩)
theorem Qwd(c:Int)(hc:48<=c/\c<=57):Pure Tryz.prog 185 [.v (.int .u8 c)] (.i (clsN c)):=by
 intro h
 have e0:clsN c=4:=by simp only[clsN];repeat' (first|rw[Qzh (by omega)]|rw[Qzf (by omega)])
 have b32:(c==32)=false:=by simp;omega
 have b9:(c==9)=false:=by simp;omega
 have b13:(c==13)=false:=by simp;omega
 have b10:(c==10)=false:=by simp;omega
 have b95:(c==95)=false:=by simp;omega
 have g97:¬97<=c:=by omega
 have l122:c<=122:=by omega
 have g65:¬65<=c:=by omega
 have l90:c<=90:=by omega
 have g48:48<=c:=by omega
 have l57:c<=57:=by omega
 refine YJ (by simp) ?_
 repeat refine Qa ?_;simp only[go_sem,seval,b32,b9,b13,b10,b95,g97,g65,g48,l57]
 (refine Qb Qzb (.keep (.v _)) ⟨by rw[e0],rfl⟩)
theorem Qwe(c:Int)(hc:c<48/\c≠32/\c≠9/\c≠13/\c≠10):Pure Tryz.prog 185 [.v (.int .u8 c)] (.i (clsN c)):=by
 intro h
 have e0:clsN c=0:=by simp only[clsN];repeat' (first|rw[Qzh (by omega)]|rw[Qzf (by omega)])
 have b32:(c==32)=false:=by simp;omega
 have b9:(c==9)=false:=by simp;omega
 have b13:(c==13)=false:=by simp;omega
 have b10:(c==10)=false:=by simp;omega
 have b95:(c==95)=false:=by simp;omega
 have g97:¬97<=c:=by omega
 have l122:c<=122:=by omega
 have g65:¬65<=c:=by omega
 have l90:c<=90:=by omega
 have g48:¬48<=c:=by omega
 have l57:c<=57:=by omega
 refine YJ (by simp) ?_
 repeat refine Qa ?_;simp only[go_sem,seval,b32,b9,b13,b10,b95,g97,g65,g48]
 (refine Qb Qzb (.keep (.v _)) ⟨by rw[e0],rfl⟩)
theorem Qwf(c:Int)(hc:58<=c/\c<=64):Pure Tryz.prog 185 [.v (.int .u8 c)] (.i (clsN c)):=by
 intro h
 have e0:clsN c=0:=by simp only[clsN];repeat' (first|rw[Qzh (by omega)]|rw[Qzf (by omega)])
 have b32:(c==32)=false:=by simp;omega
 have b9:(c==9)=false:=by simp;omega
 have b13:(c==13)=false:=by simp;omega
 have b10:(c==10)=false:=by simp;omega
 have b95:(c==95)=false:=by simp;omega
 have g97:¬97<=c:=by omega
 have l122:c<=122:=by omega
 have g65:¬65<=c:=by omega
 have l90:c<=90:=by omega
 have g48:48<=c:=by omega
 have l57:¬c<=57:=by omega
 refine YJ (by simp) ?_
 repeat refine Qa ?_;simp only[go_sem,seval,b32,b9,b13,b10,b95,g97,g65,g48,l57]
 (refine Qb Qzb (.keep (.v _)) ⟨by rw[e0],rfl⟩)
theorem Qu1(c:Int)(hc:91<=c/\c<=94):Pure Tryz.prog 185 [.v (.int .u8 c)] (.i (clsN c)):=by
 intro h
 have e0:clsN c=0:=by simp only[clsN];repeat' (first|rw[Qzh (by omega)]|rw[Qzf (by omega)])
 have b32:(c==32)=false:=by simp;omega
 have b9:(c==9)=false:=by simp;omega
 have b13:(c==13)=false:=by simp;omega
 have b10:(c==10)=false:=by simp;omega
 have b95:(c==95)=false:=by simp;omega
 have g97:¬97<=c:=by omega
 have l122:c<=122:=by omega
 have g65:65<=c:=by omega
 have l90:¬c<=90:=by omega
 have g48:48<=c:=by omega
 have l57:¬c<=57:=by omega
 refine YJ (by simp) ?_
 repeat refine Qa ?_;simp only[go_sem,seval,b32,b9,b13,b10,b95,g97,g65,l90,g48,l57]
 (refine Qb Qzb (.keep (.v _)) ⟨by rw[e0],rfl⟩)
theorem Qu2(c:Int)(hc:c=96):Pure Tryz.prog 185 [.v (.int .u8 c)] (.i (clsN c)):=by
 intro h
 have e0:clsN c=0:=by simp only[clsN];repeat' (first|rw[Qzh (by omega)]|rw[Qzf (by omega)])
 have b32:(c==32)=false:=by simp;omega
 have b9:(c==9)=false:=by simp;omega
 have b13:(c==13)=false:=by simp;omega
 have b10:(c==10)=false:=by simp;omega
 have b95:(c==95)=false:=by simp;omega
 have g97:¬97<=c:=by omega
 have l122:c<=122:=by omega
 have g65:65<=c:=by omega
 have l90:¬c<=90:=by omega
 have g48:48<=c:=by omega
 have l57:¬c<=57:=by omega
 refine YJ (by simp) ?_
 repeat refine Qa ?_;simp only[go_sem,seval,b32,b9,b13,b10,b95,g97,g65,l90,g48,l57]
 (refine Qb Qzb (.keep (.v _)) ⟨by rw[e0],rfl⟩)
theorem Qu3(c:Int)(hc:122<c):Pure Tryz.prog 185 [.v (.int .u8 c)] (.i (clsN c)):=by
 intro h
 have e0:clsN c=0:=by simp only[clsN];repeat' (first|rw[Qzh (by omega)]|rw[Qzf (by omega)])
 have b32:(c==32)=false:=by simp;omega
 have b9:(c==9)=false:=by simp;omega
 have b13:(c==13)=false:=by simp;omega
 have b10:(c==10)=false:=by simp;omega
 have b95:(c==95)=false:=by simp;omega
 have g97:97<=c:=by omega
 have l122:¬c<=122:=by omega
 have g65:65<=c:=by omega
 have l90:¬c<=90:=by omega
 have g48:48<=c:=by omega
 have l57:¬c<=57:=by omega
 refine YJ (by simp) ?_
 repeat refine Qa ?_;simp only[go_sem,seval,b32,b9,b13,b10,b95,g97,l122,g65,l90,g48,l57]
 (refine Qb Qzb (.keep (.v _)) ⟨by rw[e0],rfl⟩)
theorem Qee(c:Int):Pure Tryz.prog 185 [.v (.int .u8 c)] (.i (clsN c)):=by
 have hcs:c=32\/c=9\/c=13\/c=10\/97<=c/\c<=122\/65<=c/\c<=90\/c=95\/48<=c/\c<=57\/c<48/\c≠32/\c≠9/\c≠13/\c≠10\/58<=c/\c<=64\/91<=c/\c<=94\/c=96\/122<c:=by omega
 rcases hcs with h|h|h|h|h|h|h|h|h|h|h|h|h
 ·exact Qv6 c h
 ·exact Qv7 c h
 ·exact Qv8 c h
 ·exact Qv9 c h
 ·exact Qwa c h
 ·exact Qwb c h
 ·exact Qwc c h
 ·exact Qwd c h
 ·exact Qwe c h
 ·exact Qwf c h
 ·exact Qu1 c h
 ·exact Qu2 c h
 ·exact Qu3 c h
end Go.Proofs.YtenheconhibonaaGreatDoor.Ab
namespace Go.Proofs.YtenheconhibonaaGreatDoor.Ab
open Go.Proofs
theorem QW(l:List UInt8):(mkB l).size=l.length:=by show l.toArray.size=_;simp
theorem QqK(l:List UInt8):(mkB l).data.toList=l:=by simp[mkB]
theorem Qnx(s:ByteArray):mkB s.data.toList=s:=Qs8 (by rw[QqK])
theorem QiM(l:List UInt8):(mkB l).toList=l:=by rw[Lib.toList_data,QqK]
theorem QbB(l:List UInt8)(i:Nat)(h:i<l.length):byteAt (mkB l) i=((l[i]).toNat:Nat):=by
 unfold byteAt;rw[QqK,QzQ,Qzg h];rfl
theorem QpO(c:UInt8):(clsN (c.toNat:Nat)==1)=isSp c:=by
 unfold clsN isSp
 by_cases h:((c.toNat:Nat):Int)=32\/((c.toNat:Nat):Int)=9\/((c.toNat:Nat):Int)=13\/((c.toNat:Nat):Int)=10
 ·rw[Qzh h,QzA (by omega)];rfl
 ·rw[Qzf h,Qzt (by omega)]
  repeat' split
  all_goals rfl
theorem Qu0(c:UInt8):(2<=clsN (c.toNat:Nat))↔isW c=true:=by
 have hc:=c.toNat_lt
 unfold clsN isW isL isD
 simp only[QzW,Qzu]
 repeat' split
 all_goals omega
theorem QpN(c:UInt8):(4<=clsN (c.toNat:Nat))↔isD c=true:=by
 have hc:=c.toNat_lt
 unfold clsN isD
 simp only[Qzu]
 repeat' split
 all_goals omega
theorem drop_cons{l:List UInt8}{k:Nat}(h:k<l.length):l.drop k=l[k]::l.drop (k+1):=Qzq h
section
variable(l:List UInt8)(hl:l.length<=16384)
include hl
theorem QlB(p:UInt8->Bool)(least:Int)(hcl:∀c:UInt8,(least<=clsN (c.toNat:Nat))↔p c=true)(k:Nat)(hk:k<=l.length) :
  Pure Tryz.prog 186 [.v (.string (mkB l)),.i k,.i least] (.i ((k+((l.drop k).takeWhile p).length:Nat):Int)):=by
 intro h
 have hsl:=fun b=>ZB Tryz.prog 9 3 (by kernel_rfl) b
 refine Qc Tryz.func186 rfl Tryz.call186 Tryz.ntmps186 Tryz.results186 (by simp) ?_
 repeat refine Qa ?_;simp only[go_sem,seval]
 obtain⟨I,hI⟩:∃I:Nat->AS->Prop,I=fun m' s=>∃j:Nat,m'=l.length - j/\j<=l.length/\j+((l.drop j).takeWhile p).length=k+((l.drop k).takeWhile p).length/\s.tm 0 = .v (.string (mkB l))/\s.tm 1 = .i j/\s.tm 2 = .i least/\s.h=h:=⟨_,rfl⟩;refine Qv I ?_ (m:=l.length - k) ?_
 ·intro m' s hs;rw[hI]at hs;obtain⟨tm,hp⟩:=s;dsimp only at hs;obtain⟨j,rfl,hj,he,t0,t1,t2,rfl⟩:=hs
  by_cases hlt:j<l.length
  ·have z1:(((j:Nat):Int)<((l.length:Nat):Int)):=by omega
   have hix:=Qa6 Tryz.prog 9 (by kernel_rfl) (mkB l) j (by rw[QW];exact hlt)
   rw[QbB l j hlt]at hix
   have cp:=Qee (((l[j]).toNat:Nat):Int)
   rw[drop_cons hlt,QAU]at he
   by_cases hc:p l[j]=true
   ·rw[Qzh hc,Qyw]at he
    have z2:least<=clsN (((l[j]).toNat:Nat):Int):=(hcl _).2 hc
    repeat (first|refine Qe cp ?_|refine Qa ?_);simp only[go_sem,seval,t0,t1,t2,hsl,QW,z1,hix,z2]
    refine QZ.mk (m':=l.length - (j+1)) (by omega) ?_
    rw[hI]
    refine⟨j+1,rfl,hlt,by omega,t0,?_,t2,rfl⟩
    simp only[upd,↓reduceIte]
    rw[QY (by omega)]
   ·rw[Qzf hc,Qyx]at he
    have z2:¬least<=clsN (((l[j]).toNat:Nat):Int):=fun q=>hc ((hcl _).1 q)
    repeat (first|refine Qe cp ?_|refine Qa ?_);simp only[go_sem,seval,t0,t1,t2,hsl,QW,z1,hix,z2]
    exact Qb Qzb (.keep (.v _)) ⟨by rw[<-he];rfl,rfl⟩
  ·have hjl:j=l.length:=by omega
   have z1:¬(((j:Nat):Int)<((l.length:Nat):Int)):=by omega
   rw[hjl,QzG]at he
   repeat refine Qa ?_;simp only[go_sem,seval,t0,t1,hsl,QW,z1]
   exact Qb Qzb (.keep (.v _)) ⟨by rw[<-he,hjl];rfl,rfl⟩
 ·rw[hI]
  exact⟨k,rfl,hk,rfl,rfl,rfl,rfl,rfl⟩
theorem Qo1(k:Nat)(hk:k<=l.length):Pure Tryz.prog 178 [.v (.string (mkB l)),.i k] (.i ((l.length - (Xy false (l.drop k)).length:Nat):Int)):=by
 intro h
 have hsl:=fun b=>ZB Tryz.prog 9 3 (by kernel_rfl) b
 refine Qc Tryz.func178 rfl Tryz.call178 Tryz.ntmps178 Tryz.results178 (by simp) ?_
 repeat refine Qa ?_;simp only[go_sem,seval]
 obtain⟨I,hI⟩:∃I:Nat->AS->Prop,I=fun m' s=>∃j:Nat,m'=l.length - j/\j<=l.length/\Xy false (l.drop j)=Xy false (l.drop k)/\s.tm 0 = .v (.string (mkB l))/\s.tm 1 = .i j/\s.h=h:=⟨_,rfl⟩;refine Qv I ?_ (m:=l.length - k) ?_
 ·intro m' s hs;rw[hI]at hs;obtain⟨tm,hp⟩:=s;dsimp only at hs;obtain⟨j,rfl,hj,he,t0,t1,rfl⟩:=hs
  by_cases hlt:j<l.length
  ·have z1:(((j:Nat):Int)<((l.length:Nat):Int)):=by omega
   have hix:=Qa6 Tryz.prog 9 (by kernel_rfl) (mkB l) j (by rw[QW];exact hlt)
   rw[QbB l j hlt]at hix
   have cp:=Qee (((l[j]).toNat:Nat):Int)
   have hd:=drop_cons hlt
   rw[hd,Xy]at he
   by_cases hc:isSp l[j]=true
   ·rw[Qzh hc]at he
    have z2:(clsN (((l[j]).toNat:Nat):Int)==1)=true:=by rw[QpO];exact hc
    repeat (first|refine Qe cp ?_|refine Qa ?_);simp only[go_sem,seval,t0,t1,hsl,QW,z1,hix,z2]
    refine QZ.mk (m':=l.length - (j+1)) (by omega) ?_
    rw[hI]
    refine⟨j+1,rfl,hlt,he,t0,?_,rfl⟩
    simp only[upd,↓reduceIte]
    rw[QY (by omega)]
   ·rw[Qzf hc]at he
    have z2:(clsN (((l[j]).toNat:Nat):Int)==1)=false:=by rw[QpO];simpa using hc
    by_cases h35:(l[j]).toNat=35
    ·rw[Qzh h35]at he
     have z3:((((l[j]).toNat:Nat):Int)==35)=true:=by rw[h35];rfl
     have hI0:=hI
     repeat (first|refine Qe cp ?_|refine Qa ?_);simp only[go_sem,seval,t0,t1,hsl,QW,z1,hix,z2,z3]
     obtain⟨I,hI⟩:∃I:Nat->AS->Prop,I=fun m' s=>∃i:Nat,m'=l.length - i/\i<=l.length/\j<=i/\(i=j\/Xy true (l.drop i)=Xy false (l.drop k))/\s.tm 0 = .v (.string (mkB l))/\s.tm 1 = .i i/\s.h=hp:=⟨_,rfl⟩;refine Qv I ?_ (m:=l.length - j) ?_
     ·intro m' s hs;rw[hI]at hs;obtain⟨tm,hp⟩:=s;dsimp only at hs;obtain⟨i,rfl,hi,hji,he2,u0,u1,rfl⟩:=hs
      by_cases hlt2:i<l.length
      ·have y1:(((i:Nat):Int)<((l.length:Nat):Int)):=by omega
       have hix2:=Qa6 Tryz.prog 9 (by kernel_rfl) (mkB l) i (by rw[QW];exact hlt2)
       rw[QbB l i hlt2]at hix2
       have hd2:=drop_cons hlt2
       by_cases h10:(l[i]).toNat=10
       ·have y2:((((l[i]).toNat:Nat):Int) != 10)=false:=by rw[h10];rfl
        have hne:i≠j:=by rintro rfl;omega
        have he3:=he2.resolve_left hne
        rw[hd2,Xy,Qzh h10]at he3
        repeat refine Qa ?_;simp only[go_sem,seval,u0,u1,hsl,QW,y1,hix2,y2]
        refine QZ.mk (m':=l.length - i) (by omega) ?_
        rw[hI0]
        refine⟨i,rfl,hi,?_,u0,u1,rfl⟩
        rw[hd2,Xy,Qzh (show isSp l[i]=true by unfold isSp;exact QzA (by omega))];exact he3
       ·have y2:((((l[i]).toNat:Nat):Int) != 10)=true:=by simpa using fun e=>h10 (by omega)
        repeat refine Qa ?_;simp only[go_sem,seval,u0,u1,hsl,QW,y1,hix2,y2]
        refine QZ.mk (m':=l.length - (i+1)) (by omega) ?_
        rw[hI]
        refine⟨i+1,rfl,hlt2,by omega,.inr ?_,u0,?_,rfl⟩
        ·rcases he2 with rfl|he2
         ·exact he
         ·rw[hd2,Xy,Qzf h10]at he2;exact he2
        ·simp only[upd,↓reduceIte]
         rw[QY (by omega)]
      ·have hil:i=l.length:=by omega
       have y1:¬(((i:Nat):Int)<((l.length:Nat):Int)):=by omega
       have hne:i≠j:=by omega
       have he3:=he2.resolve_left hne
       repeat refine Qa ?_;simp only[go_sem,seval,u0,u1,hsl,QW,y1]
       refine QZ.mk (m':=l.length - i) (by omega) ?_
       rw[hI0]
       refine⟨i,rfl,hi,?_,u0,u1,rfl⟩
       rw[hil,QzG]at he3 ⊢
       rw[<-he3,Xy,Xy]
     ·rw[hI]
      exact⟨j,rfl,hj,Qzl _,.inl rfl,t0,t1,rfl⟩
    ·rw[Qzf h35]at he
     have z3:((((l[j]).toNat:Nat):Int)==35)=false:=by simpa using fun e=>h35 (by omega)
     repeat (first|refine Qe cp ?_|refine Qa ?_);simp only[go_sem,seval,t0,t1,hsl,QW,z1,hix,z2,z3]
     exact Qb Qzb (.keep (.v _)) ⟨by rw[<-he,Qyw,QzM];congr 3;omega,rfl⟩
  ·have hjl:j=l.length:=by omega
   have z1:¬(((j:Nat):Int)<((l.length:Nat):Int)):=by omega
   rw[hjl,QzG,Xy]at he
   repeat refine Qa ?_;simp only[go_sem,seval,t0,t1,hsl,QW,z1]
   exact Qb Qzb (.keep (.v _)) ⟨by rw[<-he,hjl];rfl,rfl⟩
 ·rw[hI]
  exact⟨k,rfl,hk,rfl,rfl,rfl,rfl⟩
end
end Go.Proofs.YtenheconhibonaaGreatDoor.Ab
namespace Go.Proofs.YtenheconhibonaaGreatDoor.Ab
open Go.Proofs
theorem Qhs(l:List UInt8)(c:UInt8):numVal (l++[c])=10 * numVal l+(c.toNat - 48):=by simp[numVal,List.foldl_append]
theorem QqR(l:List UInt8):∀m:List UInt8,numVal l<=numVal (l++m):=by
 intro m
 induction m generalizing l with
 |nil=>rw[QyM];exact Qzl _
 |cons c m ih =>
  have h1:=ih (l++[c])
  rw[Qze]at h1
  have h2:=Qhs l c
  show numVal l<=numVal (l++([c]++m))
  omega
theorem Qht{l:List UInt8}{p:Nat}(h:p<l.length):numVal (l.take (p+1))=10 * numVal (l.take p)+((l[p]).toNat - 48)/\numVal (l.take (p+1))<=numVal l:=by
 refine⟨by rw[QAp h,Qhs],?_⟩
 have:=QqR (l.take (p+1)) (l.drop (p+1))
 rwa [Qz1]at this
theorem wrap32{n:Int}(h : -2147483648<=n/\n<=2147483647):IntKind.i32.wrap n=n:=IntWalk.i32_in n h
theorem QvC(n:Int)(hn:0<=n/\n<256):pv Tryz.prog (convert 21 3 (.int .i32 n))=some (.int .i64 n):=by
 have:pv Tryz.prog (convert 21 3 (.int .i32 n))=some (.int .i64 (IntKind.i64.wrap n)):=by kernel_rfl
 rw[this,Xk (by omega)]
theorem Qlp(l:List UInt8)(hd:∀c∈l,isD c=true)(hv:numVal l<=2147483648):Pure Tryz.prog 120 [.v (.string (mkB l))] (.i (numVal l:Nat)):=by
 intro h
 refine Qc Tryz.func120 rfl Tryz.call120 Tryz.ntmps120 Tryz.results120 (by simp) ?_
 repeat refine Qa ?_;simp only[go_sem,seval]
 obtain⟨I,hI⟩:∃I:Nat->AS->Prop,I=fun m' s=>∃(p:Nat),m'=l.length - p/\p<=l.length/\s.tm 3 = .i (numVal (l.take p):Nat)/\s.tm 7 = .mp h.length/\s.h=h++[.iter (mkB l) p]:=⟨_,rfl⟩;refine Qv I ?_ (m:=l.length) ?_
 ·intro m' s hs;rw[hI]at hs;obtain⟨tm,hp⟩:=s;dsimp only at hs;obtain⟨p,rfl,hp',t3,t7,rfl⟩:=hs
  by_cases hlt:p<l.length
  ·have hc:=hd l[p] (QzF hlt)
   have hcd:48<=(l[p]).toNat/\(l[p]).toNat<=57:=by unfold isD at hc;simpa using hc
   have hby:=QbB l p hlt
   obtain⟨d1,d2⟩:=decode_ascii (s:=mkB l) (i:=p) (by rw[hby];omega)
   rw[hby]at d1
   obtain⟨n1,n2⟩:=Qht hlt
   generalize hn:numVal (l.take p)=v at *
   have w1:IntKind.i64.wrap (10 * ((v:Nat):Int))=((10 * v:Nat):Int):=by rw[Xk (by omega)];omega
   have w2:IntKind.i32.wrap ((((l[p]).toNat:Nat):Int) - 48)=(((l[p]).toNat - 48:Nat):Int):=by rw[wrap32 (by omega)];omega
   have w3:=QvC (((l[p]).toNat - 48:Nat):Int) (by omega)
   have w4:IntKind.i64.wrap (((10 * v:Nat):Int)+(((l[p]).toNat - 48:Nat):Int))=((numVal (l.take (p+1)):Nat):Int):=by rw[Xk (by omega)];omega
   have z1:p<(mkB l).size:=by rw[QW];exact hlt
   repeat refine Qa ?_;simp only[go_sem,seval,t3,t7,z1,d1,d2,w1,w2,w3,w4]
   refine QZ.mk (m':=l.length - (p+1)) (by omega) ?_
   rw[hI]
   exact⟨p+1,rfl,hlt,rfl,t7,rfl⟩
  ·have z1:¬p<(mkB l).size:=by rw[QW];exact hlt
   have e:l.take p=l:=QBb (by omega)
   rw[e]at t3
   repeat refine Qa ?_;simp only[go_sem,seval,t3,t7,z1]
   (refine Qb (htake _ _) (.keep (.v _)) ⟨rfl,rfl⟩)
 ·rw[hI]
  exact⟨0,rfl,Qzy _,rfl,rfl,rfl⟩
abbrev lf(k i:Int):AV:=.agg [.v (.int .i64 k),.v (.int .i64 i),.v (.string {data:=#[]}),.v (.slice none 0 0)]
theorem Qer(n:Nat)(k i:Int):Below n (lf k i):=.agg _ fun a ha=>by
 simp only[Qzn,Qzz,QAf]at ha
 rcases ha with rfl|rfl|rfl|rfl <;> exact .v _
theorem Qnk(n:Int):Pure Tryz.prog 188 [.i n] (lf 0 n):=by
 intro h
 refine Qc Tryz.func188 rfl Tryz.call188 Tryz.ntmps188 Tryz.results188 (by simp) ?_
 repeat refine Qa ?_;simp only[go_sem,seval]
 exact Qb (htake _ _) (.keep (Qer _ _ _)) ⟨rfl,rfl⟩
theorem QlU(n:Int):Pure Tryz.prog 191 [.i n] (lf 1 n):=by
 intro h
 refine Qc Tryz.func191 rfl Tryz.call191 Tryz.ntmps191 Tryz.results191 (by simp) ?_
 repeat refine Qa ?_;simp only[go_sem,seval]
 exact Qb (htake _ _) (.keep (Qer _ _ _)) ⟨rfl,rfl⟩
end Go.Proofs.YtenheconhibonaaGreatDoor.Ab

