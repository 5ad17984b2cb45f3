/-
  An abstract program logic, contracts of functions, and laws of terms and rules (part 6).
-/
import Derived.Test.YticgcpebdldbgaaDoorAbTwo
import Derived.Test.YticgcpebdldbgaaDoorAbThree
import Derived.Test.YticgcpebdldbgaaDoorAbFive
set_option linter.unusedVariables false
set_option linter.unusedSimpArgs false
set_option maxHeartbeats 4000000
set_option maxRecDepth 4000
namespace Go.Proofs.YticgcpebdldbgaaDoor.Ab
open Go.Proofs
def i64 (n:Int):Prop := -9223372036854775808≤n∧n≤9223372036854775807
mutual
def T.ok:T→Prop
 | .mk k i n l=>i64 k∧i64 i∧n.size≤9223372036854775807∧oks l
def oks:List T→Prop
 |[]=>True
 |t::l=>t.ok∧oks l
end
def G.ok (g:G):Prop:=i64 g.op∧g.name.size≤9223372036854775807∧oks g.args
mutual
def T.QqP:T→Bool
 | .mk k i n l =>
  if k=0 then decide (-2147483648≤i∧i≤2147483648)&&QbB n&&l.isEmpty else
  if k=1 then decide (0≤i∧i≤1048576)&&QbB n&&l.isEmpty else
  if k=2 then (if i≠0∨6<l.length then false else if (!Qcq n&&!(opB n&&decide (l.length=2)))=true then false else QaZ l) else false
def QaZ:List T→Bool
 |[]=>true
 |t::l=>t.QqP&&QaZ l
end
mutual
theorem T.Qrc:∀ (t:T) (b d:Int),(t.run b d).1=(t.QqP&&decide ((t.size:Int)≤b∧(t.dep:Int)≤d))∧((t.run b d).1=true→(t.run b d).2=b - t.size)
 | .mk k i n l,b,d=>by
  have hs:=size_pos (.mk k i n l)
  have hd:1≤(T.mk k i n l).dep:=by rw [T.Qrj];omega
  rw [T.run,T.QqP]
  by_cases h1:b - 1<0∨d<1
  ·rw [if_pos h1,decide_eq_false (show ¬ (((T.mk k i n l).size:Int)≤b∧((T.mk k i n l).dep:Int)≤d) by omega),Bool.and_false]
   exact ⟨rfl,fun h=>by cases h⟩
  rw [if_neg h1]
  have one:k≠2→(T.mk k i n l).size=1∧(T.mk k i n l).dep=1:=fun h=>by simp only [T.size,T.dep,if_neg h];exact ⟨trivial,trivial⟩
  by_cases k0:k=0
  ·obtain ⟨e1,e2⟩:=one (by omega)
   rw [if_pos k0,if_pos k0,e1,e2,decide_eq_true (show ((1:Nat):Int)≤b∧((1:Nat):Int)≤d by omega),Bool.and_true]
   exact ⟨rfl,fun _=>rfl⟩
  rw [if_neg k0,if_neg k0]
  by_cases k1:k=1
  ·obtain ⟨e1,e2⟩:=one (by omega)
   rw [if_pos k1,if_pos k1,e1,e2,decide_eq_true (show ((1:Nat):Int)≤b∧((1:Nat):Int)≤d by omega),Bool.and_true]
   exact ⟨rfl,fun _=>rfl⟩
  rw [if_neg k1,if_neg k1]
  by_cases k2:k=2
  ·rw [if_pos k2,if_pos k2]
   by_cases h2:i≠0∨6<l.length
   ·rw [if_pos h2,if_pos h2];exact ⟨rfl,fun h=>by cases h⟩
   rw [if_neg h2,if_neg h2]
   by_cases h3:(!Qcq n&&!(opB n&&decide (l.length=2)))=true
   ·rw [if_pos h3,if_pos h3];exact ⟨rfl,fun h=>by cases h⟩
   rw [if_neg h3,if_neg h3]
   have e1:(T.mk k i n l).size=1+sizes l:=by simp only [T.size,if_pos k2]
   have e2:(T.mk k i n l).dep=1+deps l:=by simp only [T.dep,if_pos k2]
   obtain ⟨r1,r2⟩:=Z5 l (b - 1) (d - 1) (by omega) (by omega)
   rw [e1,e2]
   refine ⟨?_,fun h=>by rw [r2 h];omega⟩
   rw [r1]
   congr 1
   exact decide_eq_decide.2 (by omega)
  ·rw [if_neg k2,if_neg k2];exact ⟨rfl,fun h=>by cases h⟩
theorem Z5:∀ (l:List T) (b d:Int),0≤b→0≤d→(runL l b d).1=(QaZ l&&decide ((sizes l:Int)≤b∧(deps l:Int)≤d))∧((runL l b d).1=true→(runL l b d).2=b - sizes l)
 |[],b,d,hb,hd=>by
  rw [runL,QaZ,sizes,deps,decide_eq_true (show ((0:Nat):Int)≤b∧((0:Nat):Int)≤d by omega)]
  exact ⟨rfl,fun _=>by omega⟩
 |t::l,b,d,hb,hd=>by
  obtain ⟨r1,r2⟩:=T.Qrc t b d
  rw [runL,QaZ,sizes,deps]
  by_cases h:(t.run b d).1=true
  ·rw [if_pos h]
   have e:=r2 h
   rw [r1,Bool.and_eq_true,decide_eq_true_eq] at h
   obtain ⟨hf,h1,h2⟩:=h
   obtain ⟨q1,q2⟩:=Z5 l (t.run b d).2 d (by omega) hd
   rw [hf,Bool.true_and]
   refine ⟨?_,fun h=>by rw [q2 h];omega⟩
   rw [q1]
   congr 1
   exact decide_eq_decide.2 (by omega)
  ·rw [if_neg h]
   refine ⟨?_,fun h=>by cases h⟩
   rw [r1] at h
   cases hf:t.QqP with
   |false=>rfl
   |true =>
    rw [hf,Bool.true_and,decide_eq_true_eq] at h
    rw [decide_eq_false (by omega),Bool.and_false]
end
mutual
theorem T.Qq9:∀ t:T,t.QqP=true→t.nds=t.size
 | .mk k i n l,h=>by
  simp only [T.QqP] at h
  simp only [T.nds,T.size]
  split at h
  ·rename_i k0
   simp only [Bool.and_eq_true,List.isEmpty_iff] at h
   rw [if_neg (by omega),h.2];rfl
  ·split at h
   ·rename_i k0 k1
    simp only [Bool.and_eq_true,List.isEmpty_iff] at h
    rw [if_neg (by omega),h.2];rfl
   ·split at h
    ·rename_i k2
     split at h
     ·cases h
     ·split at h
      ·cases h
      ·rw [if_pos k2,Qb5 l h]
    ·cases h
theorem Qb5:∀ l:List T,QaZ l=true→ndsL l=sizes l
 |[],_=>rfl
 |t::l,h=>by
  simp only [QaZ,Bool.and_eq_true] at h
  simp only [ndsL,sizes]
  rw [T.Qq9 t h.1,Qb5 l h.2]
end
theorem scan_ns (tot:Nat):∀ (m:Nat) (l:List UInt8),(∀ ts,Yp tot m l = .inl ts→∀ t∈ts,In tot t.pos)∧∀ p e,Yp tot m l = .inr (p,e)→In tot p
 |0,l=>⟨fun ts h t ht=>by (cases h;cases ht),fun p e h=>by (cases h)⟩
 |m+1,l=>by
  have hp:In tot ((tot - (Q8 false l).length:Nat):Int):=⟨by omega,by omega⟩
  rw [Yp]
  cases ht:Y8 (Q8 false l) with
  |inr c=>exact ⟨fun ts h=>by (cases h),fun p e h=>by (cases h;exact hp)⟩
  |inl kx =>
   obtain ⟨k,x⟩:=kx
   simp only
   split
   ·refine ⟨fun ts h t ht=>?_,fun p e h=>by cases h⟩
    cases h
    rw [List.mem_singleton.1 ht];exact hp
   ·obtain ⟨i1,i2⟩:=scan_ns tot m ((Q8 false l).drop x.length)
    cases h2:Yp tot m ((Q8 false l).drop x.length) with
    |inl us =>
     refine ⟨fun ts h t ht=>?_,fun p e h=>by cases h⟩
     cases h
     rcases List.mem_cons.1 ht with rfl|ht
     ·exact hp
     ·exact i1 us h2 t ht
    |inr q =>
     refine ⟨fun ts h=>(by cases h),fun p e h=>?_⟩
     cases h
     exact i2 p e h2
theorem Qfi (l:List UInt8):(∀ ts,XK l = .inl ts→∀ t∈ts,In l.length t.pos)∧∀ p e,XK l = .inr (p,e)→In l.length p:=by
 rw [XK]
 split
 ·exact ⟨fun ts h=>(by cases h),fun p e h=>by cases h;exact ⟨Int.le_refl _,by omega⟩⟩
 ·exact scan_ns _ _ _
theorem Qlt {l:List UInt8} {x e:Int} (h:ZR l = .inr (x,e)):In l.length x:=by
 unfold ZR at h
 cases hs:XK l with
 |inr q =>
  rw [hs] at h
  cases h
  exact (Qfi l).2 x e hs
 |inl ts =>
  rw [hs] at h
  simp only at h
  have:=QlB (n:=l.length) (by omega) ⟨ts,[]⟩ ((Qfi l).1 ts hs)
  cases hp:Qby ⟨ts,[]⟩ with
  |ok p s2=>rw [hp] at h;cases h
  |err p c =>
   rw [hp] at h this
   cases h
   exact this
structure RlPre (r:Rl):Prop where
 ka:atomsOk r.keep
 ra:atomsOk r.remove
 ga:goalsOk r.guard
 ba:goalsOk r.body
 h1:1≤r.keep.length+r.remove.length
 h4:r.keep.length+r.remove.length≤4
 g12:r.guard.length≤12
 b12:r.body.length≤12
theorem QdY {name:ByteArray} {keep remove:List G} {s:PS} {r:Rl} {s2:PS} (h:Za name keep remove s = .ok r s2) (hk:atomsOk keep) (hr:atomsOk remove) (h1:1≤keep.length+remove.length) (h4:keep.length+remove.length≤4):RlPre r:=by
 have hb:∀ b:List G,goalsOk b∧b.length≤12→goalsOk (match b with|[x]=>if x.op=1 then [] else b|_=>b)∧(match b with|[x]=>if x.op=1 then [] else b|_=>b).length≤12:=fun b hb=>by
  split
  ·split
   ·exact ⟨fun _ h=>(List.not_mem_nil h).elim,by decide⟩
   ·exact hb
  ·exact hb
 unfold Za at h
 simp only at h
 obtain ⟨b,s1,e1,h⟩:=bind_ok h
 have g1:=Qbx e1
 split at h
 ·obtain ⟨b2,s3,e2,h⟩:=bind_ok h
  have g2:=Qbx e2
  obtain ⟨u,s4,e3,h⟩:=bind_ok h
  cases h
  exact ⟨hk,hr,g1.1,(hb b2 g2).1,h1,h4,g1.2,(hb b2 g2).2⟩
 ·obtain ⟨u,s4,e3,h⟩:=bind_ok h
  cases h
  exact ⟨hk,hr,fun _ h=>(List.not_mem_nil h).elim,(hb b g1).1,h1,h4,Nat.zero_le _,(hb b g1).2⟩
theorem Qg6 {name:ByteArray} {s:PS} {r:Rl} {s2:PS} (h:Qdn name s = .ok r s2):RlPre r:=by
 rw [Qdn] at h
 obtain ⟨f,s1,e1,h⟩:=bind_ok h
 obtain ⟨f1,f2,f3⟩:=QcM e1
 have no:atomsOk []:=fun _ h=>(List.not_mem_nil h).elim
 rw [Qh3] at h
 split at h
 ·exact QdY h no f1 (by simp;omega) (by simp;omega)
 split at h
 ·exact QdY h f1 no (by simp;omega) (by simp;omega)
 split at h
 ·obtain ⟨rem,s3,e2,h⟩:=bind_ok h
  obtain ⟨r1,r2,r3⟩:=QcM e2
  obtain ⟨u,s4,e3,h⟩:=bind_ok h
  exact QdY h f1 r1 (by omega) (by omega)
 ·cases h
theorem QjT {s:PS} {r:Rl} {s2:PS} (h:YJ s = .ok r s2):RlPre r:=by
 rw [Z8] at h
 split at h
 ·obtain ⟨x,s1,e1,h⟩:=bind_ok h
  exact Qg6 h
 ·exact Qg6 h
theorem Qdu (f:Int→Int):∀ l:List T,(maps f l).length=l.length
 |[]=>rfl
 |t::l=>by rw [maps,List.length_cons,List.length_cons,Qdu f l]
mutual
theorem T.Qq4 (f:Int→Int):∀ {t:T},t.QqP=true→(∀ v∈t.vars,0≤f v∧f v≤1048576)→(t.map f).QqP=true
 | .mk k i n l,h,hv=>by
  have ih:=@QaK f l
  rw [T.QqP] at h
  rw [T.map]
  rw [T.vars] at hv
  by_cases h0:k=0
  ·rw [if_pos h0] at h
   rw [if_neg (by omega),if_neg (by omega),T.QqP,if_pos h0];exact h
  rw [if_neg h0] at h
  by_cases h1:k=1
  ·rw [if_pos h1] at h hv
   rw [if_pos h1,T.QqP,if_neg h0,if_pos h1]
   have:=hv i (by simp)
   simp only [Bool.and_eq_true] at h ⊢
   exact ⟨⟨by simpa using this,h.1.2⟩,h.2⟩
  rw [if_neg h1] at h hv
  by_cases h2:k=2
  ·rw [if_pos h2] at h hv
   rw [if_neg h1,if_pos h2,T.QqP,if_neg h0,if_neg h1,if_pos h2]
   have hl:(maps f l).length=l.length:=Qdu f l
   rw [hl]
   split at h
   ·cases h
   ·rename_i hi
    rw [if_neg hi]
    split at h
    ·cases h
    ·rename_i hn
     rw [if_neg hn]
     exact ih h hv
  ·rw [if_neg h2] at h;cases h
theorem QaK (f:Int→Int):∀ {l:List T},QaZ l=true→(∀ v∈XD l,0≤f v∧f v≤1048576)→QaZ (maps f l)=true
 |[],_,_=>rfl
 |t::l,h,hv=>by
  rw [QaZ,Bool.and_eq_true] at h
  rw [XD] at hv
  rw [maps,QaZ,T.Qq4 f h.1 fun v hm=>hv v (List.mem_append_left _ hm),QaK f h.2 fun v hm=>hv v (List.mem_append_right _ hm)];rfl
end
mutual
theorem T.Qq6 (f:Int→Int):∀ t:T,(t.map f).size=t.size∧(t.map f).dep=t.dep
 | .mk k i n l=>by
  have ih:=Zy f l
  rw [T.map]
  by_cases h1:k=1
  ·rw [if_pos h1];simp only [T.size,T.dep,if_neg (show ¬ k=2 by omega)];exact ⟨trivial,trivial⟩
  rw [if_neg h1]
  by_cases h2:k=2
  ·rw [if_pos h2];simp only [T.size,T.dep,if_pos h2];rw [ih.1,ih.2];exact ⟨rfl,rfl⟩
  ·rw [if_neg h2];exact ⟨rfl,rfl⟩
theorem Zy (f:Int→Int):∀ l:List T,sizes (maps f l)=sizes l∧deps (maps f l)=deps l
 |[]=>⟨rfl,rfl⟩
 |t::l=>by
  have h1:=T.Qq6 f t
  have h2:=Zy f l
  simp only [maps,sizes,deps,h1.1,h1.2,h2.1,h2.2];exact ⟨trivial,trivial⟩
end
theorem Qez {g:G} (h:Q1 g=true):QaZ g.args=true:=by
 rw [Q1,Bool.and_eq_true,Bool.and_eq_true,(Z5 g.args 200 20 (by omega) (by omega)).1,Bool.and_eq_true] at h
 exact h.2.2.1
theorem QbE {f:Int→Int} {g:G} (h:Q1 g=true) (hv:∀ v∈XD g.args,0≤f v∧f v≤1048576):Q1 ⟨g.op,g.name,maps f g.args⟩=true:=by
 rw [Q1,Bool.and_eq_true,Bool.and_eq_true,(Z5 _ 200 20 (by omega) (by omega)).1,Bool.and_eq_true,decide_eq_true_eq,decide_eq_true_eq] at h ⊢
 refine ⟨h.1,?_,QaK f h.2.2.1 hv,?_⟩
 ·show (maps f g.args).length≤6
  rw [Qdu];exact h.2.1
 ·show ((sizes (maps f g.args):Nat):Int)≤200∧((deps (maps f g.args):Nat):Int)≤20
  rw [(Zy f _).1,(Zy f _).2];exact h.2.2.2
theorem Qan {g:G} (h:Q1 g=true):ndsL g.args≤200:=by
 have hf:=Qez h
 rw [Q1,Bool.and_eq_true,Bool.and_eq_true,(Z5 g.args 200 20 (by omega) (by omega)).1,Bool.and_eq_true,decide_eq_true_eq,decide_eq_true_eq] at h
 have:=Qb5 g.args hf
 omega
mutual
theorem T.Qrn:∀ (t:T),t.vars.length≤t.nds
 | .mk k i n l=>by
  simp only [T.vars,T.nds]
  split
  ·simp
  ·split
   ·have:=QgU l;omega
   ·simp
theorem QgU:∀ (l:List T),(XD l).length≤ndsL l
 |[]=>by simp [XD,ndsL]
 |t::l=>by
  have h1:=T.Qrn t
  have h2:=QgU l
  simp only [XD,ndsL,Qsg];omega
end
theorem Qbe {g:G} (h:QY g=true):(XD g.args).length≤200:=by
 have h1:=QgU g.args
 rw [QY] at h
 split at h
 ·exact Nat.le_trans h1 (Qan h)
 ·rw [Bool.and_eq_true,Bool.and_eq_true,Bool.and_eq_true,(Z5 g.args 200 20 (by omega) (by omega)).1,Bool.and_eq_true,decide_eq_true_eq,decide_eq_true_eq,decide_eq_true_eq] at h
  have:=Qb5 g.args h.2.2.2.1
  omega
theorem QeT {f:Int→Int} {g:G} (h:QY g=true) (hv:∀ v∈XD g.args,0≤f v∧f v≤1048576):QY ⟨g.op,g.name,maps f g.args⟩=true:=by
 rw [QY] at h ⊢
 split at h
 ·rename_i h0
  rw [if_pos h0]
  exact QbE (g:=⟨0,g.name,g.args⟩) h hv
 ·rename_i h0
  rw [if_neg h0]
  rw [Bool.and_eq_true,Bool.and_eq_true,Bool.and_eq_true,(Z5 _ 200 20 (by omega) (by omega)).1,Bool.and_eq_true,decide_eq_true_eq,decide_eq_true_eq,decide_eq_true_eq] at h ⊢
  refine ⟨h.1,h.2.1,?_,QaK f h.2.2.2.1 hv,?_⟩
  ·show ((maps f g.args).length:Int)=_
   rw [Qdu];exact h.2.2.1
  ·show ((sizes (maps f g.args):Nat):Int)≤200∧((deps (maps f g.args):Nat):Int)≤20
   rw [(Zy f _).1,(Zy f _).2];exact h.2.2.2.2
mutual
theorem T.Qq3 (f:Int→Int):∀ t:T,(t.map f).vars=t.vars.map f
 | .mk k i n l=>by
  have ih:=QbM f l
  rw [T.map,T.vars]
  by_cases h1:k=1
  ·rw [if_pos h1,if_pos h1,T.vars,if_pos h1];rfl
  rw [if_neg h1,if_neg h1]
  by_cases h2:k=2
  ·rw [if_pos h2,if_pos h2,T.vars,if_neg h1,if_pos h2,ih]
  ·rw [if_neg h2,if_neg h2,T.vars,if_neg h1,if_neg h2];rfl
theorem QbM (f:Int→Int):∀ l:List T,XD (maps f l)=(XD l).map f
 |[]=>rfl
 |t::l=>by rw [maps,XD,XD,List.map_append,T.Qq3 f t,QbM f l]
end
def cntS (n v:Int):Int:=if n<0∨v>n∨v<0 then -1 else max n (v+1)
def cntL (n:Int) (l:List Int):Int:=l.foldl cntS n
theorem Qlj (all:List Int):∀ (post pre:List Int),pre++post=all→cntL ((ded [] pre).length:Nat) (post.map fun v=>((plc (ded [] all) v:Nat):Int))=((ded [] all).length:Nat)
 |[],pre,h=>by
  rw [List.append_nil] at h
  rw [h];rfl
 |v::post,pre,h=>by
  have ih:=Qlj all post (pre++[v]) (by rw [← h];simp)
  have e1:ded [] (pre++[v])=ins (ded [] pre) v:=by rw [Zg];rfl
  obtain ⟨r,hr⟩:=QbP (ins (ded [] pre) v) post
  have hD:ded [] all=ins (ded [] pre) v++r:=by rw [← h,Zg,ded,hr]
  have hp:plc (ded [] all) v=plc (ins (ded [] pre) v) v:=by rw [hD];exact QcF r (Qir.2 (.inr rfl))
  rw [← ih,List.map_cons]
  show cntL (cntS _ _) _=_
  rw [hp,e1]
  congr 1
  by_cases hm:v∈ded [] pre
  ·have:ins (ded [] pre) v=ded [] pre:=if_pos hm
   rw [this]
   have:=QmG hm
   rw [cntS,if_neg (by omega)]
   omega
  ·have:ins (ded [] pre) v=ded [] pre++[v]:=if_neg hm
   rw [this,Qbz [] hm,cntS,if_neg (by omega),List.length_append,List.length_singleton]
   omega
theorem Qga (l:List G) (h:∀ g∈l,(XD g.args).length≤200):(l.flatMap fun g=>XD g.args).length≤200 * l.length:=by
 induction l with
 |nil=>simp
 |cons g l ih =>
  have h1:=h g (by simp)
  have h2:=ih fun x hx=>h x (by simp [hx])
  rw [List.flatMap_cons,List.length_append,List.length_cons]
  omega
structure RlOk (r:Rl):Prop extends RlPre r where
 cnt:cntL 0 r.allV=r.vars
 vnn:0≤r.vars
theorem QoE {r:Rl} (h:RlPre r):RlOk r.numd:=by
 have hl:r.allV.length≤5600:=by
  have hk:=Qga r.keep fun g hg=>Nat.le_trans (QgU g.args) (Qan (h.ka g hg))
  have hr:=Qga r.remove fun g hg=>Nat.le_trans (QgU g.args) (Qan (h.ra g hg))
  have hg:=Qga r.guard fun g hg=>Qbe (h.ga g hg)
  have hb:=Qga r.body fun g hg=>Qbe (h.ba g hg)
  have h4:=h.h4
  have g12:=h.g12
  have b12:=h.b12
  rw [Rl.allV]
  simp only [List.flatMap_append,Qsg]
  omega
 have hd:(ded [] r.allV).length≤5600:=by
  have:=QcV [] r.allV
  simp only [QrD] at this
  omega
 have hv:∀ v∈r.allV,(0:Int)≤((plc (ded [] r.allV) v:Nat):Int)∧((plc (ded [] r.allV) v:Nat):Int)≤1048576:=fun v hv=>by
  have:=QmG (s:=ded [] r.allV) (QiR.2 (.inr hv))
  omega
 have sub:∀ (l:List G),(∀ g∈l,g∈r.keep++r.remove++r.guard++r.body)→∀ g∈l,∀ v∈XD g.args,v∈r.allV:=fun l hs g hg v hv=>List.mem_flatMap.2 ⟨g,hs g hg,hv⟩
 have at_:∀ l,(∀ g∈l,g∈r.keep++r.remove++r.guard++r.body)→atomsOk l→atomsOk (l.map fun g:G=>(⟨g.op,g.name,maps (fun v=>((plc (ded [] r.allV) v:Nat):Int)) g.args⟩:G)):=fun l hs hl x hx=>by
  obtain ⟨g,hg,rfl⟩:=List.mem_map.1 hx
  exact QbE (hl g hg) fun v hm=>hv v (sub l hs g hg v hm)
 have go_:∀ l,(∀ g∈l,g∈r.keep++r.remove++r.guard++r.body)→goalsOk l→goalsOk (l.map fun g:G=>(⟨g.op,g.name,maps (fun v=>((plc (ded [] r.allV) v:Nat):Int)) g.args⟩:G)):=fun l hs hl x hx=>by
  obtain ⟨g,hg,rfl⟩:=List.mem_map.1 hx
  exact QeT (hl g hg) fun v hm=>hv v (sub l hs g hg v hm)
 have hall:r.numd.allV=r.allV.map fun v=>((plc (ded [] r.allV) v:Nat):Int):=by
  show ((r.keep.map _++r.remove.map _++r.guard.map _++r.body.map _).flatMap fun g:G=>XD g.args)=_
  rw [← List.map_append,← List.map_append,← List.map_append,List.flatMap_map,Rl.allV,List.map_flatMap]
  simp only [QbM]
 refine ⟨⟨at_ _ (fun g hg=>by simp [hg]) h.ka,at_ _ (fun g hg=>by simp [hg]) h.ra,go_ _ (fun g hg=>by simp [hg]) h.ga,go_ _ (fun g hg=>by simp [hg]) h.ba,?_,?_,?_,?_⟩,?_,Int.natCast_nonneg _⟩
 ·show 1≤(r.keep.map _).length+(r.remove.map _).length
  rw [List.length_map,List.length_map];exact h.h1
 ·show (r.keep.map _).length+(r.remove.map _).length≤4
  rw [List.length_map,List.length_map];exact h.h4
 ·show (r.guard.map _).length≤12
  rw [List.length_map];exact h.g12
 ·show (r.body.map _).length≤12
  rw [List.length_map];exact h.b12
 ·rw [hall]
  exact Qlj r.allV r.allV [] rfl
theorem QlD {s:PS} {r:Rl} {s2:PS} (h:Yv s = .ok r s2):RlOk r:=by
 rw [Yv] at h
 obtain ⟨q,s1,h1,h⟩:=bind_ok h
 cases h
 exact QoE (QjT h1)
theorem QfQ:∀ (m:Nat) (l:List Rl) (s:PS) (a:List Rl) (s2:PS),(∀ r∈l,RlOk r)→l.length≤40→Yy m l s = .ok a s2→(∀ r∈a,RlOk r)∧a.length≤40
 |0,l,s,a,s2,hl,h4,h=>by cases h;exact ⟨hl,h4⟩
 |m+1,l,s,a,s2,hl,h4,h=>by
  rw [Yy] at h
  split at h
  ·cases h;exact ⟨hl,h4⟩
  split at h
  ·cases h
  ·obtain ⟨r,s1,h1,h⟩:=bind_ok h
   exact QfQ m _ s1 a s2 (fun x hx=>by
    rcases List.mem_append.1 hx with hx|hx
    ·exact hl x hx
    ·rw [List.mem_singleton.1 hx];exact QlD h1) (by rw [List.length_append,List.length_singleton];omega) h
theorem QfL:∀ (m:Nat) (l:List Dc) (s:PS) (a:List Dc) (s2:PS),Y6 m l s = .ok a s2→a.length≤30
 |0,l,s,a,s2,h=>by cases h
 |m+1,l,s,a,s2,h=>by
  rw [Y6] at h
  split at h
  ·cases h
  ·obtain ⟨x,s1,h1,h⟩:=bind_ok h
   obtain ⟨u,s3,h3,h⟩:=bind_ok h
   split at h
   ·cases h
   split at h
   ·cases h
   split at h
   ·exact QfL m _ _ a s2 h
   ·obtain ⟨v,s4,h4,h⟩:=bind_ok h
    cases h
    rw [List.length_append,List.length_singleton];omega
theorem Qfd:∀ (m:Nat) (l:List Dc) (s:PS) (a:List Dc) (s2:PS),l.length≤30→Y7 m l s = .ok a s2→a.length≤30
 |0,l,s,a,s2,hl,h=>by cases h;exact hl
 |m+1,l,s,a,s2,hl,h=>by
  rw [Y7] at h
  split at h
  ·obtain ⟨d,s1,h1,h⟩:=bind_ok h
   exact Qfd m d s1 a s2 (QfL _ _ _ _ _ h1) h
  ·cases h;exact hl
theorem QmZ {l:List UInt8}:(∀ p,ZR l = .inl p→p.rules.length≤40∧p.decls.length≤30∧∀ r∈p.rules,RlOk r)∧∀ x e,ZR l = .inr (x,e)→0≤x∧x≤l.length:=by
 refine ⟨fun p h=>?_,fun x e h=>Qlt h⟩
 unfold ZR at h
 cases hs:XK l with
 |inr q=>rw [hs] at h;cases h
 |inl ts =>
  rw [hs] at h
  simp only at h
  cases hp:Qby ⟨ts,[]⟩ with
  |err p c=>rw [hp] at h;cases h
  |ok q s2 =>
   rw [hp] at h
   cases h
   rw [Qby] at hp
   obtain ⟨d,s1,h1,hp⟩:=bind_ok hp
   obtain ⟨r,s3,h2,hp⟩:=bind_ok hp
   cases hp
   obtain ⟨a1,a2⟩:=QfQ _ [] s1 r _ (fun _ h=>(List.not_mem_nil h).elim) (by decide) h2
   exact ⟨a2,Qfd _ [] _ d s1 (by decide) h1,a1⟩
structure TokGr (H:Nat→AH) (m k e s:Nat):Prop where
 len:∀ n,(H n).length=m
 lt:k<m
 get:∀ n,(H n)[k]? = some (.grow e s n)
 set:∀ n n',(H n).set k (.grow e s n')=H n'
theorem TokGr.old {H:Nat→AH} {m k e s:Nat} (V:TokGr H m k e s):∀ n n' (i:Nat) b,(H n')[i]? = some b→(H n)[i]? = some b∨b.Below m:=by
 intro n n' i b hb
 rw [← V.set n n'] at hb
 by_cases hi:k=i
 ·subst hi
  rw [List.getElem?_set_self (by rw [V.len];exact V.lt)] at hb
  cases hb
  exact .inr trivial
 ·rw [List.getElem?_set_ne hi] at hb
  exact .inl hb
theorem QiU {g:G} (h:QY g=true):ndsL g.args≤200:=(QdA h).2
theorem QjM {g:G} (h:Q1 g=true):ndsL g.args≤200:=(QjA h).2
theorem Qff:∀ n,n≤1000000→∀ t:T,t.nds≤n→Pure Tryd.prog 84 [t.av,t.av] (.b true)
 |0,_,t,hn=>by have:=T.QqY t;omega
 |n+1,hb,t,hn=>by
  intro h
  have hnd:=T.QqY t
  have hll:=ZW t.args
  refine Qe Tryd.func84 rfl Tryd.call84 Tryd.ntmps84 (congrArg Array.toList Tryd.results84) (by simp) ?_
  iterate 2 (try (first|(((with_reducible refine Qa fun K E hK hE=>?_));simp -implicitDefEqProofs only [Qc,Qd,OpW,aop,undef,AS.ev,Qs,AV.QqF,↓reduceIte,seval])|((with_reducible refine hK _ ?_);clear hK)))
  refine Q7 (fun st=>st.tm 2 = .ptr h.length 0 0∧st.tm 3 = .ptr (h.length+1) 0 0∧st.h=h++[.cells 54 4 [t.av],.cells 54 4 [t.av]]) ?_ ?_
  ·rintro ⟨tm,hp⟩ ⟨t2,t3,rfl⟩
   simp only at t2 t3
   repeat (first|(((with_reducible refine Qa fun K E hK hE=>?_));simp -implicitDefEqProofs only [Qc,Qd,OpW,aop,AS.ev,↓reduceIte,Nat.reduceLT,Qf,Qw,Qv,aLen,goInt,ti50,un50,Zv,t2])|(with_reducible (first|refine Qg fun K hK=>?_|refine Qi ?_))|((with_reducible refine hK _ ?_);clear hK))
   obtain ⟨I,hI⟩:∃ I:Nat→AS→Prop,I=fun m' s=>∃ j:Nat,m'=t.args.length - j∧j≤t.args.length∧s.tm 2 = .ptr h.length 0 0∧s.tm 3 = .ptr (h.length+1) 0 0∧s.tm 36 = .i t.args.length∧s.tm 37 = .i j∧s.h=h++[.cells 54 4 [t.av],.cells 54 4 [t.av]]:=⟨_,rfl⟩;refine QZ I ?_ (m:=t.args.length) ?_
   ·intro m' s hs;rw [hI] at hs;obtain ⟨tm,hp⟩:=s;dsimp only at hs;obtain ⟨j,rfl,hj,t2,t3,ta,tb,rfl⟩:=hs
    by_cases hlt:j<t.args.length
    ·have y1:((j:Nat):Int)<((t.args.length:Nat):Int):=by omega
     have wj:IntKind.i64.wrap (((j:Nat):Int)+1)=((j+1:Nat):Int):=X3 (by omega)
     have hg:=QdG hlt
     have cs:=Qff n (by omega) t.args[j] (by omega)
     repeat (first|((first|(with_reducible (first|refine Qa fun K E hK hE=>?_|refine Qj fun K E hK hE=>?_|refine Z3 cs ?_))|(refine QQ (id:=6) [(0,0),(1,0),(2,0),(3,0),(4,0),(5,0),(6,0),(7,0),(8,0),(9,0),(10,1),(11,0)] mixed (by kernel_rfl) fun K hK=>?_));simp -implicitDefEqProofs only [Qc,Qd,OpW,aop,AS.ev,↓reduceIte,Qf,Qw,Qv,QS,aBin,ti50,ei50,ti54,Zv,t2,t3,ta,tb,y1,wj,QiL hlt,seval])|(with_reducible (first|refine Qg fun K hK=>?_|refine Qi ?_|refine Qk ?_|refine Qb ?_|refine Qo ?_))|((with_reducible refine hK _ ?_);clear hK)|(refine Qh rfl ?_;simp only [↓reduceIte,Qrt]))
     refine Xw.mk (m':=t.args.length - (j+1)) (by omega) ?_
     rw [hI]
     exact ⟨j+1,rfl,hlt,t2,t3,ta,rfl,rfl⟩
    ·have y1:¬ ((j:Nat):Int)<((t.args.length:Nat):Int):=by omega
     repeat (first|(((with_reducible refine Qa fun K E hK hE=>?_));simp -implicitDefEqProofs only [Qc,Qd,OpW,aop,AS.ev,Nat.reduceLT,aBin,ta,tb,y1])|(with_reducible (first|refine Qg fun K hK=>?_|refine Qn ?_|refine QE ?_|refine Qb ?_|refine QA ?_|refine QB ?_))|((with_reducible refine hK _ ?_);clear hK)|(clear hK;(with_reducible refine hK _ ?_);clear hK)|(refine Qh rfl ?_;simp only [↓reduceIte,Qrt]))
     simp only [QG,Qp,Qt,upd,↓reduceIte,Qrv,Qrz];first|refine Ql (htake _ _) (.keep (.v _)) ⟨rfl,rfl⟩|refine Ql List.take_length (.keep (.v _)) ⟨rfl,rfl⟩
   ·rw [hI]
    exact ⟨0,rfl,Nat.zero_le _,t2,t3,rfl,rfl,rfl⟩
  ·(with_reducible refine Qa fun K E hK hE=>?_)
   (try simp only [Qr0]);refine Q3 8 (fun K1 hK1=>?_);simp -implicitDefEqProofs only [Qc,Qd,OpW,aop,AS.ev,↓reduceIte,Qf,Qw,Qv,aBin,ti3,YD,Yw,seval];refine hK1 _ ?_;clear hK1
   (try simp only [Qry,QrG]);refine Q3 8 (fun K1 hK1=>?_);simp -implicitDefEqProofs only [Qc,Qd,OpW,aop,AS.ev,↓reduceIte,Qf,Qw,Qv,aBin,ti3,ti9,Yw,ZT,seval];refine hK1 _ ?_;clear hK1
   (try simp only [Qry,QrG]);refine Q3 8 (fun K1 hK1=>?_);simp -implicitDefEqProofs only [Qc,Qd,OpW,aop,AS.ev,↓reduceIte,Qf,Qw,Qv,aBin,aLen,goInt,ti9,ti50,un50,Zv,seval];refine hK1 _ ?_;clear hK1
   (try simp only [Qry,QrG])
   simp -implicitDefEqProofs only [Qc,Qd,OpW,aop,AS.ev,↓reduceIte,Qw,Qv,aBin,aLen,goInt,ti50,un50,seval]
   repeat (first|(with_reducible (first|refine Qk ?_|refine Qb ?_))|((with_reducible refine hK _ ?_);clear hK)|(refine Qh rfl ?_;simp only [↓reduceIte,Qrt]))
   exact ⟨rfl,rfl,rfl⟩
theorem QdJ (l:List T) (hn:ndsL l≤1000000):Pure Tryd.prog 71 [.sl 4 (avs l) none,.sl 4 (avs l) none] (.b true):=by
 intro h
 have hll:=ZW l
 refine Qe Tryd.func71 rfl Tryd.call71 Tryd.ntmps71 (congrArg Array.toList Tryd.results71) (by simp) ?_
 repeat (first|(((with_reducible refine Qa fun K E hK hE=>?_));simp -implicitDefEqProofs only [Qc,Qd,OpW,aop,undef,AS.ev,Qs,↓reduceIte,aBin,aLen,goInt,un50,seval])|(with_reducible (first|refine Qg fun K hK=>?_|refine Qi ?_|refine Qk ?_|refine Qb ?_))|((with_reducible refine hK _ ?_);clear hK)|(refine Qh rfl ?_;simp only [↓reduceIte,Qrt]))
 obtain ⟨I,hI⟩:∃ I:Nat→AS→Prop,I=fun m' s=>∃ j:Nat,m'=l.length - j∧j≤l.length∧s.tm 0 = .sl 4 (avs l) none∧s.tm 1 = .sl 4 (avs l) none∧s.tm 12 = .i l.length∧s.tm 13 = .i j∧s.h=h:=⟨_,rfl⟩;refine QZ I ?_ (m:=l.length) ?_
 ·intro m' s hs;rw [hI] at hs;obtain ⟨tm,hp⟩:=s;dsimp only at hs;obtain ⟨j,rfl,hj,t0,t1,ta,tb,rfl⟩:=hs
  by_cases hlt:j<l.length
  ·have y1:((j:Nat):Int)<((l.length:Nat):Int):=by omega
   have wj:IntKind.i64.wrap (((j:Nat):Int)+1)=((j+1:Nat):Int):=X3 (by omega)
   have hg:=QdG hlt
   have cs:=Qff 1000000 (Nat.le_refl _) l[j] (by omega)
   repeat (first|((first|(with_reducible (first|refine Qa fun K E hK hE=>?_|refine Qj fun K E hK hE=>?_|refine Z3 cs ?_))|(refine QQ (id:=6) [(0,0),(1,0),(2,0),(3,0),(4,0),(5,0),(6,0),(7,0),(8,1),(9,0)] mixed (by kernel_rfl) fun K hK=>?_));simp -implicitDefEqProofs only [Qc,Qd,OpW,aop,AS.ev,↓reduceIte,Qw,Qv,QS,aBin,ei50,ti54,t0,t1,ta,tb,y1,wj,QiL hlt,seval])|(with_reducible (first|refine Qg fun K hK=>?_|refine Qi ?_|refine Qk ?_|refine Qb ?_|refine Qo ?_))|((with_reducible refine hK _ ?_);clear hK)|(refine Qh rfl ?_;simp only [↓reduceIte,Qrt]))
   refine Xw.mk (m':=l.length - (j+1)) (by omega) ?_
   rw [hI]
   exact ⟨j+1,rfl,hlt,t0,t1,ta,rfl,rfl⟩
  ·have y1:¬ ((j:Nat):Int)<((l.length:Nat):Int):=by omega
   repeat (first|(((with_reducible refine Qa fun K E hK hE=>?_));simp -implicitDefEqProofs only [Qc,Qd,OpW,aop,AS.ev,Nat.reduceLT,aBin,ta,tb,y1])|(with_reducible (first|refine Qg fun K hK=>?_|refine Qn ?_|refine QE ?_|refine Qb ?_|refine QA ?_|refine QB ?_))|((with_reducible refine hK _ ?_);clear hK)|(clear hK;(with_reducible refine hK _ ?_);clear hK)|(refine Qh rfl ?_;simp only [↓reduceIte,Qrt]))
   simp only [QG,Qp,Qt,upd,↓reduceIte,Qrv,Qrz];first|refine Ql (htake _ _) (.keep (.v _)) ⟨rfl,rfl⟩|refine Ql List.take_length (.keep (.v _)) ⟨rfl,rfl⟩
 ·rw [hI]
  exact ⟨0,rfl,Nat.zero_le _,rfl,rfl,rfl,rfl,rfl⟩
theorem Qep (l:List G) (hl:l.length≤1000000) (hn:∀ g∈l,ndsL g.args≤1000000):Pure Tryd.prog 53 [.sl 2 (vs G.atom l) none,.sl 2 (vs G.atom l) none] (.b true):=by
 intro h
 have ev:(vs G.atom l).length=l.length:=Y9 _ _
 refine Qe Tryd.func53 rfl Tryd.call53 Tryd.ntmps53 (congrArg Array.toList Tryd.results53) (by simp) ?_
 repeat (first|(((with_reducible refine Qa fun K E hK hE=>?_));simp -implicitDefEqProofs only [Qc,Qd,OpW,aop,undef,AS.ev,Qs,↓reduceIte,aBin,aLen,goInt,un31,ev,seval])|(with_reducible (first|refine Qg fun K hK=>?_|refine Qi ?_|refine Qk ?_|refine Qb ?_))|((with_reducible refine hK _ ?_);clear hK)|(refine Qh rfl ?_;simp only [↓reduceIte,Qrt]))
 obtain ⟨I,hI⟩:∃ I:Nat→AS→Prop,I=fun m' s=>∃ j:Nat,m'=l.length - j∧j≤l.length∧s.tm 0 = .sl 2 (vs G.atom l) none∧s.tm 1 = .sl 2 (vs G.atom l) none∧s.tm 12 = .i l.length∧s.tm 13 = .i j∧s.h=h:=⟨_,rfl⟩;refine QZ I ?_ (m:=l.length) ?_
 ·intro m' s hs;rw [hI] at hs;obtain ⟨tm,hp⟩:=s;dsimp only at hs;obtain ⟨j,rfl,hj,t0,t1,ta,tb,rfl⟩:=hs
  by_cases hlt:j<l.length
  ·have y1:((j:Nat):Int)<((l.length:Nat):Int):=by omega
   have wj:IntKind.i64.wrap (((j:Nat):Int)+1)=((j+1:Nat):Int):=X3 (by omega)
   have cs:=QdJ l[j].args (hn _ (List.getElem_mem hlt))
   have e1:=QaD l[j]
   have e2:(G.atom l[j]).isAgg=true:=rfl
   repeat (first|((first|(with_reducible (first|refine Qa fun K E hK hE=>?_|refine Qj fun K E hK hE=>?_|refine Z3 cs ?_))|(refine QQ (id:=6) [(0,0),(1,0),(2,0),(3,0),(4,0),(5,0),(6,0),(7,0),(8,0),(9,0),(10,0),(11,0),(12,0),(13,0),(14,0),(15,0),(16,0),(17,0),(18,0),(19,0),(20,0),(21,0),(22,1),(23,0),(24,0)] mixed (by kernel_rfl) fun K hK=>?_));simp -implicitDefEqProofs only [Qc,Qd,OpW,aop,AS.ev,↓reduceIte,Qf,Qw,Qv,QS,aBin,ti9,ei31,ti50,Qfw,Z7,t0,t1,ta,tb,y1,wj,ev,Qjn (f:=G.atom) hlt,e1,seval])|(with_reducible (first|refine Qg fun K hK=>?_|refine Qi ?_|refine Qk ?_|refine Qb ?_|refine Qo ?_))|((with_reducible refine hK _ ?_);clear hK)|(refine Qh rfl ?_;simp only [↓reduceIte,Qrt]))
   refine Xw.mk (m':=l.length - (j+1)) (by omega) ?_
   rw [hI]
   exact ⟨j+1,rfl,hlt,t0,t1,ta,rfl,rfl⟩
  ·have y1:¬ ((j:Nat):Int)<((l.length:Nat):Int):=by omega
   repeat (first|(((with_reducible refine Qa fun K E hK hE=>?_));simp -implicitDefEqProofs only [Qc,Qd,OpW,aop,AS.ev,Nat.reduceLT,aBin,ta,tb,y1])|(with_reducible (first|refine Qg fun K hK=>?_|refine Qn ?_|refine QE ?_|refine Qb ?_|refine QA ?_|refine QB ?_))|((with_reducible refine hK _ ?_);clear hK)|(clear hK;(with_reducible refine hK _ ?_);clear hK)|(refine Qh rfl ?_;simp only [↓reduceIte,Qrt]))
   simp only [QG,Qp,Qt,upd,↓reduceIte,Qrv,Qrz];first|refine Ql (htake _ _) (.keep (.v _)) ⟨rfl,rfl⟩|refine Ql List.take_length (.keep (.v _)) ⟨rfl,rfl⟩
 ·rw [hI]
  exact ⟨0,rfl,Nat.zero_le _,rfl,rfl,rfl,rfl,rfl⟩
theorem QdL (l:List G) (hl:l.length≤1000000) (hn:∀ g∈l,ndsL g.args≤1000000):Pure Tryd.prog 54 [.sl 3 (vs G.goal l) none,.sl 3 (vs G.goal l) none] (.b true):=by
 intro h
 have ev:(vs G.goal l).length=l.length:=Y9 _ _
 refine Qe Tryd.func54 rfl Tryd.call54 Tryd.ntmps54 (congrArg Array.toList Tryd.results54) (by simp) ?_
 repeat (first|(((with_reducible refine Qa fun K E hK hE=>?_));simp -implicitDefEqProofs only [Qc,Qd,OpW,aop,undef,AS.ev,Qs,↓reduceIte,aBin,aLen,goInt,un32,ev,seval])|(with_reducible (first|refine Qg fun K hK=>?_|refine Qi ?_|refine Qk ?_|refine Qb ?_))|((with_reducible refine hK _ ?_);clear hK)|(refine Qh rfl ?_;simp only [↓reduceIte,Qrt]))
 obtain ⟨I,hI⟩:∃ I:Nat→AS→Prop,I=fun m' s=>∃ j:Nat,m'=l.length - j∧j≤l.length∧s.tm 0 = .sl 3 (vs G.goal l) none∧s.tm 1 = .sl 3 (vs G.goal l) none∧s.tm 12 = .i l.length∧s.tm 13 = .i j∧s.h=h:=⟨_,rfl⟩;refine QZ I ?_ (m:=l.length) ?_
 ·intro m' s hs;rw [hI] at hs;obtain ⟨tm,hp⟩:=s;dsimp only at hs;obtain ⟨j,rfl,hj,t0,t1,ta,tb,rfl⟩:=hs
  by_cases hlt:j<l.length
  ·have y1:((j:Nat):Int)<((l.length:Nat):Int):=by omega
   have wj:IntKind.i64.wrap (((j:Nat):Int)+1)=((j+1:Nat):Int):=X3 (by omega)
   have cs:=QdJ l[j].args (hn _ (List.getElem_mem hlt))
   have e1:=Xg l[j]
   have e2:(G.goal l[j]).isAgg=true:=rfl
   repeat (first|((first|(with_reducible (first|refine Qa fun K E hK hE=>?_|refine Qj fun K E hK hE=>?_|refine Z3 cs ?_))|(refine QQ (id:=6) [(0,0),(1,0),(2,0),(3,0),(4,0),(5,0),(6,0),(7,0),(8,0),(9,0),(10,0),(11,0),(12,0),(13,0),(14,0),(15,0),(16,0),(17,0),(18,0),(19,0),(20,0),(21,0),(22,0),(23,0),(24,0),(25,0),(26,0),(27,0),(28,0),(29,0),(30,0),(31,0),(32,0),(33,0),(34,0),(35,1),(36,0),(37,0)] mixed (by kernel_rfl) fun K hK=>?_));simp -implicitDefEqProofs only [Qc,Qd,OpW,aop,AS.ev,↓reduceIte,Qf,Qw,Qv,QS,aBin,ti3,ti9,ei32,ti50,Yx,Qfy,Qap,t0,t1,ta,tb,y1,wj,ev,Qjn (f:=G.goal) hlt,e1,seval])|(with_reducible (first|refine Qg fun K hK=>?_|refine Qi ?_|refine Qk ?_|refine Qb ?_|refine Qo ?_))|((with_reducible refine hK _ ?_);clear hK)|(refine Qh rfl ?_;simp only [↓reduceIte,Qrt]))
   refine Xw.mk (m':=l.length - (j+1)) (by omega) ?_
   rw [hI]
   exact ⟨j+1,rfl,hlt,t0,t1,ta,rfl,rfl⟩
  ·have y1:¬ ((j:Nat):Int)<((l.length:Nat):Int):=by omega
   repeat (first|(((with_reducible refine Qa fun K E hK hE=>?_));simp -implicitDefEqProofs only [Qc,Qd,OpW,aop,AS.ev,Nat.reduceLT,aBin,ta,tb,y1])|(with_reducible (first|refine Qg fun K hK=>?_|refine Qn ?_|refine QE ?_|refine Qb ?_|refine QA ?_|refine QB ?_))|((with_reducible refine hK _ ?_);clear hK)|(clear hK;(with_reducible refine hK _ ?_);clear hK)|(refine Qh rfl ?_;simp only [↓reduceIte,Qrt]))
   simp only [QG,Qp,Qt,upd,↓reduceIte,Qrv,Qrz];first|refine Ql (htake _ _) (.keep (.v _)) ⟨rfl,rfl⟩|refine Ql List.take_length (.keep (.v _)) ⟨rfl,rfl⟩
 ·rw [hI]
  exact ⟨0,rfl,Nat.zero_le _,rfl,rfl,rfl,rfl,rfl⟩
theorem QiC (l:List ByteArray) (hl:l.length≤1000000):Pure Tryd.prog 14 [.sl 1 (strs l) none,.sl 1 (strs l) none] (.b true):=by
 intro h
 refine Qe Tryd.func14 rfl Tryd.call14 Tryd.ntmps14 (congrArg Array.toList Tryd.results14) (by simp) ?_
 repeat (first|(((with_reducible refine Qa fun K E hK hE=>?_));simp -implicitDefEqProofs only [Qc,Qd,OpW,aop,undef,AS.ev,Qs,↓reduceIte,aBin,aLen,goInt,un46,YU,seval])|(with_reducible (first|refine Qg fun K hK=>?_|refine Qi ?_|refine Qk ?_|refine Qb ?_))|((with_reducible refine hK _ ?_);clear hK)|(refine Qh rfl ?_;simp only [↓reduceIte,Qrt]))
 obtain ⟨I,hI⟩:∃ I:Nat→AS→Prop,I=fun m' s=>∃ j:Nat,m'=l.length - j∧j≤l.length∧s.tm 0 = .sl 1 (strs l) none∧s.tm 1 = .sl 1 (strs l) none∧s.tm 12 = .i l.length∧s.tm 13 = .i j∧s.h=h:=⟨_,rfl⟩;refine QZ I ?_ (m:=l.length) ?_
 ·intro m' s hs;rw [hI] at hs;obtain ⟨tm,hp⟩:=s;dsimp only at hs;obtain ⟨j,rfl,hj,t0,t1,ta,tb,rfl⟩:=hs
  by_cases hlt:j<l.length
  ·have y1:((j:Nat):Int)<((l.length:Nat):Int):=by omega
   have wj:IntKind.i64.wrap (((j:Nat):Int)+1)=((j+1:Nat):Int):=X3 (by omega)
   have hat:(strs l)[j]? = some (.v (.string l[j])):=by rw [strs,List.getElem?_map,List.getElem?_eq_getElem hlt];rfl
   repeat (first|((first|(with_reducible (first|refine Qa fun K E hK hE=>?_|refine Qj fun K E hK hE=>?_))|(refine QQ (id:=6) [(0,0),(1,0),(2,0),(3,0),(4,0),(5,0),(6,0),(7,0),(8,0)] mixed (by kernel_rfl) fun K hK=>?_));simp -implicitDefEqProofs only [Qc,Qd,OpW,aop,AS.ev,↓reduceIte,Qw,Qv,QS,aBin,ti9,ei46,t0,t1,ta,tb,y1,wj,YU,hat,seval])|(with_reducible (first|refine Qg fun K hK=>?_|refine Qi ?_|refine Qk ?_|refine Qb ?_|refine Qo ?_))|((with_reducible refine hK _ ?_);clear hK)|(refine Qh rfl ?_;simp only [↓reduceIte,Qrt]))
   refine Xw.mk (m':=l.length - (j+1)) (by omega) ?_
   rw [hI]
   exact ⟨j+1,rfl,hlt,t0,t1,ta,rfl,rfl⟩
  ·have y1:¬ ((j:Nat):Int)<((l.length:Nat):Int):=by omega
   repeat (first|(((with_reducible refine Qa fun K E hK hE=>?_));simp -implicitDefEqProofs only [Qc,Qd,OpW,aop,AS.ev,Nat.reduceLT,aBin,ta,tb,y1])|(with_reducible (first|refine Qg fun K hK=>?_|refine Qn ?_|refine QE ?_|refine Qb ?_|refine QA ?_|refine QB ?_))|((with_reducible refine hK _ ?_);clear hK)|(clear hK;(with_reducible refine hK _ ?_);clear hK)|(refine Qh rfl ?_;simp only [↓reduceIte,Qrt]))
   simp only [QG,Qp,Qt,upd,↓reduceIte,Qrv,Qrz];first|refine Ql (htake _ _) (.keep (.v _)) ⟨rfl,rfl⟩|refine Ql List.take_length (.keep (.v _)) ⟨rfl,rfl⟩
 ·rw [hI]
  exact ⟨0,rfl,Nat.zero_le _,rfl,rfl,rfl,rfl,rfl⟩
structure RlB (r:Rl):Prop where
 ke:r.keep.length≤1000000∧∀ g∈r.keep,ndsL g.args≤1000000
 re:r.remove.length≤1000000∧∀ g∈r.remove,ndsL g.args≤1000000
 gu:r.guard.length≤1000000∧∀ g∈r.guard,ndsL g.args≤1000000
 bo:r.body.length≤1000000∧∀ g∈r.body,ndsL g.args≤1000000
theorem RlOk.bnd {r:Rl} (h:RlOk r):RlB r:=by
 have h4:=h.h4
 have h5:=h.g12
 have h6:=h.b12
 exact ⟨⟨by omega,fun g hg=>by have:=QjM (h.ka g hg);omega⟩,⟨by omega,fun g hg=>by have:=QjM (h.ra g hg);omega⟩,⟨by omega,fun g hg=>by have:=QiU (h.ga g hg);omega⟩,⟨by omega,fun g hg=>by have:=QiU (h.ba g hg);omega⟩⟩
theorem QkN (r:Rl) (hr:RlB r):Pure Tryd.prog 25 [r.av,r.av] (.b true):=by
 intro h
 have c1:=Qep r.keep hr.ke.1 hr.ke.2
 have c2:=Qep r.remove hr.re.1 hr.re.2
 have c3:=QdL r.guard hr.gu.1 hr.gu.2
 have c4:=QdL r.body hr.bo.1 hr.bo.2
 have rc:=Rl.cells r
 have ri:=Rl.isAgg r
 refine Qe Tryd.func25 rfl Tryd.call25 Tryd.ntmps25 (congrArg Array.toList Tryd.results25) (by simp) ?_
 iterate 2 (try (first|(((with_reducible refine Qa fun K E hK hE=>?_));simp -implicitDefEqProofs only [Qc,Qd,OpW,aop,undef,AS.ev,Qs,AV.QqF,↓reduceIte,rc,seval])|((with_reducible refine hK _ ?_);clear hK)))
 (with_reducible refine Qa fun K E hK hE=>?_)
 (try simp only [Qr0]);refine Q3 5 (fun K1 hK1=>?_);simp -implicitDefEqProofs only [Qc,Qd,OpW,aop,AS.ev,↓reduceIte,Qf,Qw,Qv,aBin,ti9,Qjf,rc,seval];refine hK1 _ ?_;clear hK1
 (try simp only [Qry,QrG]);refine Q3 7 (fun K1 hK1=>?_);simp -implicitDefEqProofs only [Qc,Qd,OpW,aop,AS.ev,↓reduceIte,Qf,Qw,Qv,ti31,Qeq,rc,seval];(repeat ((((with_reducible refine QH c1 ?_));simp -implicitDefEqProofs only [Qc,Qd,OpW,QC,aop,AS.ev,↓reduceIte,seval])));refine hK1 _ ?_;clear hK1
 (try simp only [Qry,QrG]);refine Q3 7 (fun K1 hK1=>?_);simp -implicitDefEqProofs only [Qc,Qd,OpW,aop,AS.ev,↓reduceIte,Qf,Qw,Qv,ti31,QeB,rc,seval];(repeat ((((with_reducible refine QH c2 ?_));simp -implicitDefEqProofs only [Qc,Qd,OpW,QC,aop,AS.ev,↓reduceIte,seval])));refine hK1 _ ?_;clear hK1
 (try simp only [Qry,QrG]);refine Q3 7 (fun K1 hK1=>?_);simp -implicitDefEqProofs only [Qc,Qd,OpW,aop,AS.ev,↓reduceIte,Qf,Qw,Qv,ti32,QbC,rc,seval];(repeat ((((with_reducible refine QH c3 ?_));simp -implicitDefEqProofs only [Qc,Qd,OpW,QC,aop,AS.ev,↓reduceIte,seval])));refine hK1 _ ?_;clear hK1
 (try simp only [Qry,QrG]);refine Q3 7 (fun K1 hK1=>?_);simp -implicitDefEqProofs only [Qc,Qd,OpW,aop,AS.ev,↓reduceIte,Qf,Qw,Qv,ti32,Z9,rc,seval];(repeat ((((with_reducible refine QH c4 ?_));simp -implicitDefEqProofs only [Qc,Qd,OpW,QC,aop,AS.ev,↓reduceIte,seval])));refine hK1 _ ?_;clear hK1
 (try simp only [Qry,QrG])
 simp -implicitDefEqProofs only [Qc,Qd,OpW,aop,AS.ev,↓reduceIte,Qf,Qw,Qv,aBin,ti3,QjF,rc,seval]
 repeat (first|(with_reducible refine Qn ?_)|((with_reducible refine hK _ ?_);clear hK))
 simp only [QG,Qp,Qt,upd,↓reduceIte,Qrv,Qrz];first|refine Ql (htake _ _) (.keep (.v _)) ⟨rfl,rfl⟩|refine Ql List.take_length (.keep (.v _)) ⟨rfl,rfl⟩
def eqF (d:Nat) (xs ys:Array Value):List Field→Sem Bool
 |[]=>pure true
 |f::fs =>
  if f.name ≠ "_" then do
   let a←part f.type xs f.offset
   let b←part f.type ys f.offset
   let r←Op.equalIn d f.type a b
   if (!r)=true then pure false else eqF d xs ys fs
  else eqF d xs ys fs
theorem Qoo {α:Type} {P:Program} (c:Prop) [Decidable c] (a b:Sem α):pv P (if c then a else b)=if c then pv P a else pv P b:=by split <;> rfl
theorem Qmh {P:Program} (d:Nat) (t:TypeId) (xs ys:Array Value) (fs:Array Field) (ht:P.underlying t=some (.struct fs)) (hp:P.stoodInHeld t=false) :
  pv P (Op.equalIn (d+1) t (.agg xs) (.agg ys))=pv P (eqF d xs ys fs.toList):=by
 have hprog:pv P program=some P:=rfl
 simp only [Op.equalIn,X6,Qb3 P ht,Qru,hprog,hp,Qrt,if_false]
 rw [← Array.forIn_toList]
 generalize fs.toList=fs
 clear ht
 induction fs with
 |nil=>rfl
 |cons f fs ih =>
  simp only [List.forIn_cons,eqF,X6,Qoo]
  split
  ·cases pv P (part f.type xs f.offset) with
   |none=>rfl
   |some a =>
    simp only [Qru]
    cases pv P (part f.type ys f.offset) with
    |none=>rfl
    |some b =>
     simp only [Qru]
     cases pv P (Op.equalIn d f.type a b) with
     |none=>rfl
     |some r =>
      cases r
      ·rfl
      ·simp only [Qru,QrM,Qrt,if_false]
       exact ih
  ·exact ih
theorem Qn0 (x:ByteArray) (a:Int) (xo yo:Operand):Qer Tryd.prog .neq 78 xo yo [.v (.string x),.v (.int .i64 a)] [.v (.string x),.v (.int .i64 a)]=some (.v (.bool false)):=by
 unfold Qer
 simp only [QcY,Qrr]
 obtain ⟨fs,hfs,hlist⟩:∃ fs,Tryd.prog.underlying 78=some (.struct fs)∧pv Tryd.prog (eqF 9999 [Value.string x,Value.int .i64 a].toArray [Value.string x,Value.int .i64 a].toArray fs.toList)=some true:=by
  refine ⟨_,Tryd.underlying78,?_⟩
  have h1:pv Tryd.prog (Op.equalIn 9999 9 (.string x) (.string x))=some (x==x):=by kernel_rfl
  have h2:pv Tryd.prog (Op.equalIn 9999 3 (.int .i64 a) (.int .i64 a))=some (a==a):=by kernel_rfl
  have p1:pv Tryd.prog (part 9 [Value.string x,Value.int .i64 a].toArray 0)=some (.string x):=by kernel_rfl
  have p2:pv Tryd.prog (part 3 [Value.string x,Value.int .i64 a].toArray 1)=some (.int .i64 a):=by kernel_rfl
  have hx:(x==x)=true:=by
   obtain ⟨⟨l⟩⟩:=x
   show ((⟨l⟩:Array UInt8)==⟨l⟩)=true
   simp
  rw [hx] at h1
  simp [eqF,X6,Qoo,h1,h2,p1,p2,QdU]
 have he:pv Tryd.prog (Op.equal 78 (.agg [Value.string x,Value.int .i64 a].toArray) (.agg [Value.string x,Value.int .i64 a].toArray))=some true:=(Qmh 9999 78 _ _ fs hfs (by kernel_rfl)).trans hlist
 have hg:pv Tryd.prog (eqGuard .neq 78 xo yo (.agg [Value.string x,Value.int .i64 a].toArray) (.agg [Value.string x,Value.int .i64 a].toArray))=some ():=by kernel_rfl
 have hb:pv Tryd.prog (binOp .neq 78 (.agg [Value.string x,Value.int .i64 a].toArray) (.agg [Value.string x,Value.int .i64 a].toArray))=(pv Tryd.prog (Op.equal 78 (.agg [Value.string x,Value.int .i64 a].toArray) (.agg [Value.string x,Value.int .i64 a].toArray))).bind fun b=>some (.bool (!b)):=by
  show pv Tryd.prog (Op.equal _ _ _ >>= fun b=>pure (Value.bool (!b)))=_
  rw [X6];rfl
 rw [X6,hg,Option.bind_some,hb,he]
 rfl
theorem QkD (p:Pg) (hd:p.decls.length≤1000000) (hl:p.rules.length≤1000000) (hr:∀ r∈p.rules,RlB r):Pure Tryd.prog 11 [p.av,p.av] (.b true):=by
 intro h
 have pc:=Pg.cells p
 have pi:=Pg.isAgg p
 have ld:(vs Dc.av p.decls).length=p.decls.length:=Y9 _ _
 have lr:(vs Rl.av p.rules).length=p.rules.length:=Y9 _ _
 refine Qe Tryd.func11 rfl Tryd.call11 Tryd.ntmps11 (congrArg Array.toList Tryd.results11) (by simp) ?_
 iterate 2 (try (first|(((with_reducible refine Qa fun K E hK hE=>?_));simp -implicitDefEqProofs only [Qc,Qd,OpW,aop,undef,AS.ev,Qs,AV.QqF,↓reduceIte,pc,seval])|((with_reducible refine hK _ ?_);clear hK)))
 refine Q7 (fun st=>st.tm 2 = .ptr h.length 0 0∧st.tm 3 = .ptr (h.length+1) 0 0∧st.h=h++[.cells 26 2 [p.av],.cells 26 2 [p.av]]) ?_ ?_
 ·rintro ⟨tm,hp⟩ ⟨t2,t3,rfl⟩
  simp only at t2 t3
  refine Q7 (fun st=>st.tm 2 = .ptr h.length 0 0∧st.tm 3 = .ptr (h.length+1) 0 0∧st.h=h++[.cells 26 2 [p.av],.cells 26 2 [p.av]]) ?_ ?_
  ·rintro ⟨tm,hp⟩ ⟨t2,t3,rfl⟩
   simp only at t2 t3
   repeat (first|(((with_reducible refine Qa fun K E hK hE=>?_));simp -implicitDefEqProofs only [Qc,Qd,OpW,aop,AS.ev,↓reduceIte,Nat.reduceLT,Qf,Qw,Qv,aLen,goInt,ti24,un24,ZS,t2,pc,lr])|(with_reducible (first|refine Qg fun K hK=>?_|refine Qi ?_))|((with_reducible refine hK _ ?_);clear hK))
   obtain ⟨I,hI⟩:∃ I:Nat→AS→Prop,I=fun m' s=>∃ j:Nat,m'=p.rules.length - j∧j≤p.rules.length∧s.tm 2 = .ptr h.length 0 0∧s.tm 3 = .ptr (h.length+1) 0 0∧s.tm 43 = .i p.rules.length∧s.tm 44 = .i j∧s.h=h++[.cells 26 2 [p.av],.cells 26 2 [p.av]]:=⟨_,rfl⟩;refine QZ I ?_ (m:=p.rules.length) ?_
   ·intro m' s hs;rw [hI] at hs;obtain ⟨tm,hp⟩:=s;dsimp only at hs;obtain ⟨j,rfl,hj,t2,t3,ta,tb,rfl⟩:=hs
    by_cases hlt:j<p.rules.length
    ·have y1:((j:Nat):Int)<((p.rules.length:Nat):Int):=by omega
     have wj:IntKind.i64.wrap (((j:Nat):Int)+1)=((j+1:Nat):Int):=X3 (by omega)
     have cs:=QkN p.rules[j] (hr _ (List.getElem_mem hlt))
     have e1:=Rl.cells p.rules[j]
     have e2:=Rl.isAgg p.rules[j]
     repeat (first|((first|(with_reducible (first|refine Qa fun K E hK hE=>?_|refine Qj fun K E hK hE=>?_|refine Z3 cs ?_))|(refine QQ (id:=12) [(0,0),(1,0),(2,0),(3,0),(4,0),(5,0),(6,0),(7,0),(8,0),(9,0),(10,1),(11,0)] mixed (by kernel_rfl) fun K hK=>?_));simp -implicitDefEqProofs only [Qc,Qd,OpW,aop,AS.ev,↓reduceIte,Qf,Qw,Qv,QS,aBin,ti24,ei24,ZS,ti34,t2,t3,ta,tb,y1,wj,pc,lr,Qjn (f:=Rl.av) hlt,e1,e2,seval])|(with_reducible (first|refine Qg fun K hK=>?_|refine Qi ?_|refine Qk ?_|refine Qb ?_|refine Qo ?_))|((with_reducible refine hK _ ?_);clear hK)|(refine Qh rfl ?_;simp only [↓reduceIte,Qrt]))
     refine Xw.mk (m':=p.rules.length - (j+1)) (by omega) ?_
     rw [hI]
     exact ⟨j+1,rfl,hlt,t2,t3,ta,rfl,rfl⟩
    ·have y1:¬ ((j:Nat):Int)<((p.rules.length:Nat):Int):=by omega
     repeat (first|(((with_reducible refine Qa fun K E hK hE=>?_));simp -implicitDefEqProofs only [Qc,Qd,OpW,aop,AS.ev,Nat.reduceLT,aBin,ta,tb,y1])|(with_reducible (first|refine Qg fun K hK=>?_|refine Qn ?_|refine QE ?_|refine Qb ?_|refine QA ?_|refine QB ?_))|((with_reducible refine hK _ ?_);clear hK)|(clear hK;(with_reducible refine hK _ ?_);clear hK)|(refine Qh rfl ?_;simp only [↓reduceIte,Qrt]))
     simp only [QG,Qp,Qt,upd,↓reduceIte,Qrv,Qrz];first|refine Ql (htake _ _) (.keep (.v _)) ⟨rfl,rfl⟩|refine Ql List.take_length (.keep (.v _)) ⟨rfl,rfl⟩
   ·rw [hI]
    exact ⟨0,rfl,Nat.zero_le _,t2,t3,rfl,rfl,rfl⟩
  ·repeat (first|(((with_reducible refine Qa fun K E hK hE=>?_));simp -implicitDefEqProofs only [Qc,Qd,OpW,aop,AS.ev,↓reduceIte,Nat.reduceLT,Qf,Qw,Qv,aLen,goInt,ti23,un23,QfD,t2,pc,ld])|(with_reducible refine Qi ?_)|((with_reducible refine hK _ ?_);clear hK))
   obtain ⟨I,hI⟩:∃ I:Nat→AS→Prop,I=fun m' s=>∃ j:Nat,m'=p.decls.length - j∧j≤p.decls.length∧s.tm 2 = .ptr h.length 0 0∧s.tm 3 = .ptr (h.length+1) 0 0∧s.tm 25 = .i p.decls.length∧s.tm 26 = .i j∧s.h=h++[.cells 26 2 [p.av],.cells 26 2 [p.av]]:=⟨_,rfl⟩;refine QZ I ?_ (m:=p.decls.length) ?_
   ·intro m' s hs;rw [hI] at hs;obtain ⟨tm,hp⟩:=s;dsimp only at hs;obtain ⟨j,rfl,hj,t2,t3,ta,tb,rfl⟩:=hs
    by_cases hlt:j<p.decls.length
    ·have y1:((j:Nat):Int)<((p.decls.length:Nat):Int):=by omega
     have wj:IntKind.i64.wrap (((j:Nat):Int)+1)=((j+1:Nat):Int):=X3 (by omega)
     have e1:=Dc.cells p.decls[j]
     have e2:=Dc.isAgg p.decls[j]
     have e3:=Qn0 p.decls[j].name p.decls[j].arity
     have e4:p.decls[j].av = .agg [.v (.string p.decls[j].name),.v (.int .i64 p.decls[j].arity)]:=rfl
     repeat (first|((first|(with_reducible (first|refine Qa fun K E hK hE=>?_|refine Qj fun K E hK hE=>?_))|(refine QQ (id:=6) [(0,0),(1,0),(2,0),(3,0),(4,0),(5,0),(6,0),(7,0),(8,0),(9,0),(10,0)] mixed (by kernel_rfl) fun K hK=>?_));simp -implicitDefEqProofs only [Qc,Qd,OpW,aop,AS.ev,↓reduceIte,Qf,Qw,Qv,QS,aBin,ti23,ei23,QfD,ti78,t2,t3,ta,tb,y1,wj,pc,ld,Qjn (f:=Dc.av) hlt,e3,e4,seval])|(with_reducible (first|refine Qg fun K hK=>?_|refine Qi ?_|refine Qk ?_|refine Qb ?_|refine Qo ?_))|((with_reducible refine hK _ ?_);clear hK)|(refine Qh rfl ?_;simp only [↓reduceIte,Qrt]))
     refine Xw.mk (m':=p.decls.length - (j+1)) (by omega) ?_
     rw [hI]
     exact ⟨j+1,rfl,hlt,t2,t3,ta,rfl,rfl⟩
    ·have y1:¬ ((j:Nat):Int)<((p.decls.length:Nat):Int):=by omega
     repeat (first|(((with_reducible refine Qa fun K E hK hE=>?_));simp -implicitDefEqProofs only [Qc,Qd,OpW,aop,AS.ev,Nat.reduceLT,aBin,ta,tb,y1])|(with_reducible (first|refine Qg fun K hK=>?_|refine QE ?_|refine Qb ?_|refine QA ?_|refine QB ?_))|((with_reducible refine hK _ ?_);clear hK)|(refine Qh rfl ?_;simp only [↓reduceIte,Qrt]))
     exact ⟨t2,t3,rfl⟩
   ·rw [hI]
    exact ⟨0,rfl,Nat.zero_le _,t2,t3,rfl,rfl,rfl⟩
 ·repeat (first|(((with_reducible refine Qa fun K E hK hE=>?_));simp -implicitDefEqProofs only [Qc,Qd,OpW,aop,AS.ev,↓reduceIte,Qf,Qw,Qv,aBin,aLen,goInt,ti23,un23,ti24,un24,QfD,ZS,pc,ld,lr,seval])|(with_reducible (first|refine Qk ?_|refine Qb ?_))|((with_reducible refine hK _ ?_);clear hK)|(refine Qh rfl ?_;simp only [↓reduceIte,Qrt]))
  exact ⟨rfl,rfl,rfl⟩
end Go.Proofs.YticgcpebdldbgaaDoor.Ab
set_option maxRecDepth 8000
namespace Go.Proofs.YticgcpebdldbgaaDoor.Ab
open Go.Proofs
def exS1:List UInt8:=[99,111,110,115,116,114,97,105,110,116,32,112,47,49,46,32,114,32,64,32,112,40,88,41,32,92,32,112,40,89,41,32,60,61,62,32,88,32,62,32,89,32,124,32,116,114,117,101,46]
def exS2:List UInt8:=[112,40,88,41,32,60,61,62,32,88,46]
def exS3:List UInt8:=[112,40,88,44,32,95,44,32,89,41,44,32,88,32,61,32,49,32,45,32,45,50]
def exG0:G:=⟨7,eB,[T.mk 1 1 eB [],T.mk 1 0 eB []]⟩
def exR:Rl:=⟨{data:=#[114]},[⟨0,{data:=#[112]},[T.mk 1 0 eB []]⟩],[⟨0,{data:=#[112]},[T.mk 1 1 eB []]⟩],[exG0],[],2⟩
def exP:Pg:=⟨[⟨{data:=#[112]},1⟩],[exR]⟩
def exT:T:=.mk 2 0 {data:=#[45]} [.mk 0 1 eB [],.mk 0 (-2) eB []]
def exG1:G:=⟨3,eB,[T.mk 1 0 eB [],exT]⟩
def exL:List G:=[⟨0,{data:=#[112]},[T.mk 1 0 eB [],T.mk 1 1 eB [],T.mk 1 2 eB []]⟩,exG1]
def exN:List ByteArray:=[{data:=#[88]},{data:=#[95]},{data:=#[89]}]
theorem exW1:ZR exS1 = .inl exP:=by kernel_rfl
theorem exW2:ZR exS2 = .inr (10,16):=by kernel_rfl
theorem exW3:QhM exS3 = .inl (exL,exN):=by kernel_rfl
def strX:List AV:=[.v (.string {data:=#[88]}),.v (.string {data:=#[95]}),.v (.string {data:=#[89]})]
theorem QfS (h:AH) (hG:Zw h):QI Tryd.prog 6 [] h fun o h'=>o = .ret (.b true)∧h'=h:=by
 have c1:=fun L=>QaG exS1 (h++L) (hG.app L)
 have c2:=fun L=>QaG exS2 (h++L) (hG.app L)
 have c3:=fun L=>Qip exS3 (h++L) (hG.app L)
 have c1':=QaG exS1 h hG
 rw [exW1,psR] at c1'
 simp only [exW2,psR] at c2
 simp only [exW3,sqR] at c3
 rw [show mkB exS1={data:=#[99,111,110,115,116,114,97,105,110,116,32,112,47,49,46,32,114,32,64,32,112,40,88,41,32,92,32,112,40,89,41,32,60,61,62,32,88,32,62,32,89,32,124,32,116,114,117,101,46]} from rfl] at c1'
 simp only [show mkB exS2={data:=#[112,40,88,41,32,60,61,62,32,88,46]} from rfl] at c2
 simp only [show mkB exS3={data:=#[112,40,88,44,32,95,44,32,89,41,44,32,88,32,61,32,49,32,45,32,45,50]} from rfl,show strs exN=strX from rfl] at c3
 have cT:Pure Tryd.prog 14 [.sl 1 strX none,.sl 1 strX none] (.b true):=QiC exN (by decide)
 have pc:=Pg.cells exP
 have pi:=Pg.isAgg exP
 have zc:=Pg.cells ⟨[],[]⟩
 have zi:=Pg.isAgg ⟨[],[]⟩
 have rc:=Rl.cells exR
 have ri:=Rl.isAgg exR
 refine Qe Tryd.func6 rfl Tryd.call6 Tryd.ntmps6 (congrArg Array.toList Tryd.results6) (by simp) ?_
 iterate 2 (try (first|(((with_reducible refine Qa fun K E hK hE=>?_));simp -implicitDefEqProofs only [X8,Zo,Qd,OpW,aop,AS.ev,XO,Qjt,Nat.reduceLT])|((with_reducible refine hK _ ?_);clear hK)))
 refine Q7 (fun st=>st.tm 1 = .ptr h.length 0 0∧st.tm 2 = .i 0∧st.tm 3 = .i 0∧st.h=h++[.cells 26 2 [exP.av]]) ?_ ?_
 ·rintro ⟨tm,hp⟩ ⟨t1,t2,t3,rfl⟩
  simp only at t1 t2 t3
  refine Q7 (fun st=>st.tm 1 = .ptr h.length 0 0∧st.tm 2 = .i 0∧st.tm 3 = .i 0∧st.tm 5 = .i 10∧st.tm 6 = .i 16∧st.h=h++[.cells 26 2 [exP.av],.cells 26 2 [(⟨[],[]⟩:Pg).av]]) ?_ ?_
  ·rintro ⟨tm,hp⟩ ⟨t1,t2,t3,t5,t6,rfl⟩
   simp only at t1 t2 t3 t5 t6
   refine Q7 (fun st=>st.tm 1 = .ptr h.length 0 0∧st.tm 2 = .i 0∧st.tm 3 = .i 0∧st.tm 5 = .i 10∧st.tm 6 = .i 16∧st.tm 7 = .sl 3 (vs G.goal exL) none∧st.tm 8 = .sl 1 strX none∧st.tm 10 = .i 0∧st.h=h++[.cells 26 2 [exP.av],.cells 26 2 [(⟨[],[]⟩:Pg).av]]) ?_ ?_
   ·rintro ⟨tm,hp⟩ ⟨t1,t2,t3,t5,t6,t7,t8,t10,rfl⟩
    simp only at t1 t2 t3 t5 t6 t7 t8 t10
    refine Q7 (fun st=>st.tm 1 = .ptr h.length 0 0∧st.tm 7 = .sl 3 (vs G.goal exL) none∧st.h=h++[.cells 26 2 [exP.av],.cells 26 2 [(⟨[],[]⟩:Pg).av]]) ?_ ?_
    ·rintro ⟨tm,hp⟩ ⟨t1,t7,rfl⟩
     simp only at t1 t7
     refine Q7 (fun st=>st.tm 11 = .ptr (h.length+2) 0 0∧st.tm 7 = .sl 3 (vs G.goal exL) none∧st.h=h++[.cells 26 2 [exP.av],.cells 26 2 [(⟨[],[]⟩:Pg).av],.cells 34 6 [exR.av]]) ?_ ?_
     ·rintro ⟨tm,hp⟩ ⟨t11,t7,rfl⟩
      simp only at t11 t7
      have q1:(exR.name.toList==({data:=#[114]}:ByteArray).toList)=true:=beq_self_eq_true _
      have k1:(vs G.atom exR.keep).length=1:=rfl
      have k2:(vs G.atom exR.remove).length=1:=rfl
      have k3:(vs G.goal exR.guard).length=1:=rfl
      have k4:(vs G.goal exR.body).length=0:=rfl
      have g0:(vs G.goal exR.guard)[0]? = some exG0.goal:=rfl
      have e1:=Xg exG0
      have e2:exG0.goal.isAgg=true:=rfl
      have a0:(avs exG0.args)[0]? = some (T.mk 1 1 eB []).av:=rfl
      have x1:(exG0.op==7)=true:=rfl
      have g1:(vs G.goal exL)[1]? = some exG1.goal:=rfl
      have e3:=Xg exG1
      have e4:exG1.goal.isAgg=true:=rfl
      have a1:(avs exG1.args)[1]? = some exT.av:=rfl
      have a2:(avs exT.args)[1]? = some (T.mk 0 (-2) eB []).av:=rfl
      have a3:(avs exT.args).length=2:=rfl
      have a4:(avs exG1.args).length=2:=rfl
      have a5:(avs exG0.args).length=2:=rfl
      have a6:(vs G.goal exL).length=2:=rfl
      have x2:((T.mk 1 1 eB []).int==1)=true:=rfl
      have x3:((T.mk 0 (-2) eB []).int == -2)=true:=rfl
      have x4:(exR.vars==2)=true:=rfl
      have u0:(0:Int)<((1:Nat):Int):=by decide
      have u1:(1:Int)<((2:Nat):Int):=by decide
      have u2:(0:Int)<((2:Nat):Int):=by decide
      have u3:(((1:Nat):Int)==1)=true:=rfl
      have u4:(((0:Nat):Int)==0)=true:=rfl
      have u5:(0:Int)≤1:=by decide
      (with_reducible refine Qa fun K E hK hE=>?_)
      simp only [List.append_eq,QrR,QrQ]
      (try simp only [Qr0,Qry,QrG]);refine Q3 8 (fun K1 hK1=>?_);simp -implicitDefEqProofs only [Qc,Qd,OpW,aop,AS.ev,↓reduceIte,Qf,Qw,Qv,aBin,aLen,goInt,ti9,ti31,un31,Qjf,Qeq,t11,rc,q1,k1,u3,seval];refine hK1 _ ?_;clear hK1
      (try simp only [Qry,QrG]);refine Q3 8 (fun K1 hK1=>?_);simp -implicitDefEqProofs only [Qc,Qd,OpW,aop,AS.ev,↓reduceIte,Qf,Qw,Qv,aBin,aLen,goInt,ti31,un31,QeB,t11,rc,k2,u3,seval];refine hK1 _ ?_;clear hK1
      (try simp only [Qry,QrG]);refine Q3 8 (fun K1 hK1=>?_);simp -implicitDefEqProofs only [Qc,Qd,OpW,aop,AS.ev,↓reduceIte,Qf,Qw,Qv,aBin,aLen,goInt,ti32,un32,QbC,t11,rc,k3,u3,seval];refine hK1 _ ?_;clear hK1
      (try simp only [Qry,QrG]);refine Q3 8 (fun K1 hK1=>?_);simp -implicitDefEqProofs only [Qc,Qd,OpW,aop,AS.ev,↓reduceIte,Qf,Qw,Qv,QS,aBin,ti3,ti32,ei32,QbC,Yx,Qsc,t11,rc,k3,g0,e1,x1,u0,seval];refine hK1 _ ?_;clear hK1
      (try simp only [Qry,QrG]);refine Q3 8 (fun K1 hK1=>?_);simp -implicitDefEqProofs only [Qc,Qd,OpW,aop,AS.ev,↓reduceIte,Qf,Qw,Qv,QS,aBin,ti3,ei32,ti50,ei50,Qap,Yw,Qsc,k3,g0,e1,a0,a5,x2,u0,u2,seval];refine hK1 _ ?_;clear hK1
      (try simp only [Qry,QrG]);refine Q3 8 (fun K1 hK1=>?_);simp -implicitDefEqProofs only [Qc,Qd,OpW,aop,AS.ev,↓reduceIte,Qf,Qw,Qv,aBin,aLen,goInt,ti32,un32,Z9,QjF,t11,rc,k4,seval];refine hK1 _ ?_;clear hK1
      (try simp only [Qry,QrG]);refine Q3 8 (fun K1 hK1=>?_);simp -implicitDefEqProofs only [Qc,Qd,OpW,aop,AS.ev,↓reduceIte,Qf,Qw,Qv,QS,aBin,ti3,ei32,ti50,Qap,t7,rc,g1,e3,a6,x4,u1,u5,seval];refine hK1 _ ?_;clear hK1
      (try simp only [Qry,QrG])
      simp -implicitDefEqProofs only [Qc,Qd,OpW,aop,AS.ev,↓reduceIte,Qf,Qw,Qv,QS,aBin,ti3,ti50,ei50,Yw,Zv,a1,a2,a3,a4,x3,u1,u5,seval]
      repeat (first|(with_reducible refine Qn ?_)|((with_reducible refine hK _ ?_);clear hK))
      simp only [QG,Qp,Qt,upd,↓reduceIte,Qrv,Qrz];first|refine Ql (htake _ _) (.keep (.v _)) ⟨rfl,rfl⟩|refine Ql List.take_length (.keep (.v _)) ⟨rfl,rfl⟩
     ·have hl:(vs Rl.av exP.rules).length=1:=rfl
      have hg:(vs Rl.av exP.rules)[0]? = some exR.av:=rfl
      have u0:(0:Int)<((1:Nat):Int):=by decide
      repeat (first|(((with_reducible refine Qj fun K E hK hE=>?_));simp -implicitDefEqProofs only [Qc,Qd,OpW,aop,undef,AS.ev,AV.QqF,↓reduceIte,Qf,Qw,Qv,Qy,Qm,QS,ti24,ei24,ZS,ti34,zi34,Qsc,t1,pc,hl,hg,rc,ri,u0,seval])|(with_reducible refine Qb ?_)|((with_reducible refine hK _ ?_);clear hK))
      exact ⟨rfl,t7,rfl⟩
    ·have k1:(vs Dc.av exP.decls).length=1:=rfl
     have k2:(vs Rl.av exP.rules).length=1:=rfl
     have k3:(vs G.goal exL).length=2:=rfl
     have u3:(((1:Nat):Int) != 1)=false:=rfl
     have u4:(((2:Nat):Int) != 2)=false:=rfl
     have eX:[AV.v (.string {data:=#[88]}),.v (.string {data:=#[95]}),.v (.string {data:=#[89]})]=strX:=rfl
     (with_reducible refine Qa fun K E hK hE=>?_)
     (try simp only [Qr0])
     (try simp only [Qr0,Qry,QrG]);refine Q3 8 (fun K1 hK1=>?_);simp -implicitDefEqProofs only [Qc,Qd,OpW,aop,AS.ev,↓reduceIte,Qf,aBin,QfD,t1,t2,t3,seval];refine hK1 _ ?_;clear hK1
     (try simp only [Qry,QrG]);refine Q3 8 (fun K1 hK1=>?_);simp -implicitDefEqProofs only [Qc,Qd,OpW,aop,AS.ev,↓reduceIte,Qf,Qw,Qv,aBin,aLen,goInt,ti23,un23,ti24,un24,ZS,t1,pc,k1,k2,u3,seval];refine hK1 _ ?_;clear hK1
     (try simp only [Qry,QrG]);refine Q3 8 (fun K1 hK1=>?_);simp -implicitDefEqProofs only [Qc,Qd,OpW,aop,AS.ev,↓reduceIte,aBin,t5,t6,u3,seval];refine hK1 _ ?_;clear hK1
     (try simp only [Qry,QrG]);refine Q3 8 (fun K1 hK1=>?_);simp -implicitDefEqProofs only [Qc,Qd,OpW,aop,AS.ev,↓reduceIte,aBin,t7,t10,seval];refine hK1 _ ?_;clear hK1
     (try simp only [Qry,QrG])
     simp -implicitDefEqProofs only [Qc,Qd,OpW,aop,AS.ev,AV.QqF,↓reduceIte,aBin,QD,aLen,goInt,zi9,un32,ei46,t8,k3,u4,eX,seval]
     repeat (first|(((with_reducible refine QH cT ?_));simp -implicitDefEqProofs only [Qc,Qd,OpW,QC,aop,AS.ev,↓reduceIte,seval])|(with_reducible (first|refine Qk ?_|refine Qb ?_))|((with_reducible refine hK _ ?_);clear hK)|(refine Qh rfl ?_;simp only [↓reduceIte,Qrt]))
     exact ⟨t1,t7,rfl⟩
   ·repeat (first|((first|(with_reducible (first|refine Qj fun K E hK hE=>?_|refine FunW.ret (FunW.call (c3 _)) ?_)));simp -implicitDefEqProofs only [Qc,Qd,OpW,QC,aop,AS.ev,↓reduceIte,QR,seval])|(with_reducible refine Qb ?_)|((with_reducible refine hK _ ?_);clear hK))
    exact ⟨t1,t2,t3,t5,t6,rfl,rfl,rfl,rfl⟩
  ·repeat (first|((first|(with_reducible (first|refine Qj fun K E hK hE=>?_|refine FunW.ret (FunW.call (c2 _)) ?_)));simp -implicitDefEqProofs only [Qc,Qd,OpW,QC,aop,undef,AS.ev,AV.QqF,↓reduceIte,Qy,Qm,QR,ti26,zi26,zc,zi,seval])|(with_reducible refine Qb ?_)|((with_reducible refine hK _ ?_);clear hK))
   exact ⟨t1,t2,t3,rfl,rfl,rfl⟩
 ·repeat (first|((first|(with_reducible (first|refine Qj fun K E hK hE=>?_|refine FunW.ret (FunW.call c1') ?_)));simp -implicitDefEqProofs only [Qc,Qd,OpW,QC,aop,undef,AS.ev,AV.QqF,↓reduceIte,Qy,Qm,QR,ti26,zi26,pc,pi,seval])|(with_reducible refine Qb ?_)|((with_reducible refine hK _ ?_);clear hK))
  exact ⟨rfl,rfl,rfl,rfl⟩
end Go.Proofs.YticgcpebdldbgaaDoor.Ab
set_option maxRecDepth 4000
namespace Go.Proofs.YticgcpebdldbgaaDoor.Ab
open Go.Proofs
theorem QiO {l:List UInt8} {p e:Int} (h:ZR l = .inr (p,e)):e≠0:=by
 unfold ZR at h
 cases hs:XK l with
 |inr q=>rw [hs] at h;cases h;exact Zh hs
 |inl ts =>
  rw [hs] at h
  obtain ⟨hD,hW,hN,hl⟩:=QaF hs
  simp only at h
  cases hp:Qby ⟨ts,[]⟩ with
  |ok p s2=>rw [hp] at h;cases h
  |err p c=>rw [hp] at h;cases h;exact Qfp hW hp
theorem QiN {l:List UInt8} {p e:Int} (h:Qc6 l = .inr (p,e)):e≠0:=by
 unfold Qc6 at h
 cases hs:XK l with
 |inr q=>rw [hs] at h;cases h;exact Zh hs
 |inl ts =>
  rw [hs] at h
  obtain ⟨hD,hW,hN,hl⟩:=QaF hs
  simp only at h
  cases hp:ZU ⟨ts,[]⟩ with
  |ok p s2=>rw [hp] at h;cases h
  |err p c=>rw [hp] at h;cases h;exact QgL hW hp
section
variable (l:List UInt8) (hmx:l.length≤9223372036854775807) (h:AH) (hG:Zw h)
include hmx hG
end
end Go.Proofs.YticgcpebdldbgaaDoor.Ab
set_option maxRecDepth 4000
namespace Go.Proofs.YticgcpebdldbgaaDoor.Ab
open Go.Proofs
theorem Qjm (a b:List UInt8):mkB a++mkB b=mkB (a++b):=by
 apply toList_inj
 rw [Lib.toList_data,QeC,ByteArray.data_append,Array.toList_append,Qhm,Qhm]
section
variable (l t:List UInt8) (hmx:l.length≤9223372036854775807) (hmt:t.length≤9223372036854775807) (h:AH) (hG:Zw h)
include hmx hmt hG
theorem Qqe:QI Tryd.prog 5 [.v (.string (mkB l)),.v (.string (mkB t))] h fun o h'=>o = .ret (.b true)∧h'=h:=by
 have hsl:=fun b=>ZN Tryd.prog 9 3 (by kernel_rfl) b
 have ca:=fun L=>QfS (h++L) (hG.app L)
 have ca0:=QfS h hG
 by_cases hb:4000<l.length
 ·have z1:((l.length:Nat):Int)>4000:=by omega
  have z2:(4000:Int)<((l.length:Nat):Int):=by omega
  refine Qe Tryd.func5 rfl Tryd.call5 Tryd.ntmps5 (congrArg Array.toList Tryd.results5) (by simp) ?_
  repeat (first|((first|(with_reducible (first|refine Qa fun K E hK hE=>?_|refine Qj fun K E hK hE=>?_|refine FunW.ret (FunW.call ca0) ?_))|(refine QQ (id:=8) [(1,0),(2,0),(4,0),(5,0),(0,2),(3,2),(6,2),(7,0),(8,2)] mixed (by kernel_rfl) fun K hK=>?_)|(refine QV (id:=8) [(1,0),(2,0),(4,0),(5,0),(0,2),(3,2),(6,2),(7,0),(8,2)] mixed (by kernel_rfl) fun K hK=>?_));simp -implicitDefEqProofs only [Qc,Qd,OpW,QC,aop,undef,AS.ev,Qs,↓reduceIte,aBin,aLen,goInt,hsl,QU,z1,seval])|(with_reducible (first|refine Qg fun K hK=>?_|refine Qi ?_|refine Qn ?_|refine XJ ?_|refine XS ?_|refine Qk ?_|refine QE ?_|refine Qb ?_|refine Qu ?_|refine QA ?_|refine Qo ?_|refine Qz ?_|refine QB ?_|refine QJ rfl ?_))|(with_reducible (first|refine hK _ ?_|(clear hK;refine hK _ ?_)|(clear hK;clear hK;refine hK _ ?_)|(clear hK;clear hK;clear hK;refine hK _ ?_));clear hK)|(refine Qh rfl ?_;simp only [↓reduceIte])|(intro (b:Bool);cases b))
  simp -implicitDefEqProofs only [Ya,↓reduceIte,Qrv,QG,Qp,Qt,Qrz]
  exact .inr ⟨rfl,rfl⟩
 ·have z1:¬ ((l.length:Nat):Int)>4000:=by omega
  have z2:¬ (4000:Int)<((l.length:Nat):Int):=by omega
  by_cases hb2:4000<t.length
  ·have z3:((t.length:Nat):Int)>4000:=by omega
   have z4:(4000:Int)<((t.length:Nat):Int):=by omega
   refine Qe Tryd.func5 rfl Tryd.call5 Tryd.ntmps5 (congrArg Array.toList Tryd.results5) (by simp) ?_
   repeat (first|((first|(with_reducible (first|refine Qa fun K E hK hE=>?_|refine Qj fun K E hK hE=>?_|refine FunW.ret (FunW.call ca0) ?_))|(refine QQ (id:=8) [(1,0),(2,0),(4,0),(5,0),(0,2),(3,2),(6,2),(7,0),(8,2)] mixed (by kernel_rfl) fun K hK=>?_)|(refine QV (id:=8) [(1,0),(2,0),(4,0),(5,0),(0,2),(3,2),(6,2),(7,0),(8,2)] mixed (by kernel_rfl) fun K hK=>?_));simp -implicitDefEqProofs only [Qc,Qd,OpW,QC,aop,undef,AS.ev,Qs,↓reduceIte,aBin,aLen,goInt,hsl,QU,z1,z3,seval])|(with_reducible (first|refine Qg fun K hK=>?_|refine Qi ?_|refine Qn ?_|refine XJ ?_|refine XS ?_|refine Qk ?_|refine QE ?_|refine Qb ?_|refine Qu ?_|refine QA ?_|refine Qo ?_|refine Qz ?_|refine QB ?_|refine QJ rfl ?_))|(with_reducible (first|refine hK _ ?_|(clear hK;refine hK _ ?_)|(clear hK;clear hK;refine hK _ ?_)|(clear hK;clear hK;clear hK;refine hK _ ?_));clear hK)|(refine Qh rfl ?_;simp only [↓reduceIte])|(intro (b:Bool);cases b))
   simp -implicitDefEqProofs only [Ya,↓reduceIte,Qrv,QG,Qp,Qt,Qrz]
   exact .inr ⟨rfl,rfl⟩
  ·have z3:¬ ((t.length:Nat):Int)>4000:=by omega
   have z4:¬ (4000:Int)<((t.length:Nat):Int):=by omega
   have cp:=QaG l h hG
   have cr:=fun L=>QeW t (h++L) (hG.app L)
   cases hp:ZR l with
   |inr q =>
    obtain ⟨x,e⟩:=q
    rw [hp,psR] at cp
    have y1:(e != 0)=true:=by simpa using QiO hp
    have zc:=Pg.cells ⟨[],[]⟩
    have zi:=Pg.isAgg ⟨[],[]⟩
    cases hq:Qc6 t with
    |inr q =>
     obtain ⟨x2,e2⟩:=q
     simp only [hq,rsR] at cr
     have rc:=Rl.cells (⟨eB,[],[],[],[],0⟩:Rl)
     have ri:=Rl.isAgg (⟨eB,[],[],[],[],0⟩:Rl)
     refine Qe Tryd.func5 rfl Tryd.call5 Tryd.ntmps5 (congrArg Array.toList Tryd.results5) (by simp) ?_
     repeat (first|((first|(with_reducible (first|refine Qa fun K E hK hE=>?_|refine Qj fun K E hK hE=>?_|refine FunW.ret (FunW.call cp) ?_|refine FunW.ret (FunW.call (cr _)) ?_|refine FunW.ret (FunW.call (ca _)) ?_))|(refine QQ (id:=8) [(1,0),(2,0),(4,0),(5,0),(0,2),(3,2),(6,2),(7,0),(8,2)] mixed (by kernel_rfl) fun K hK=>?_)|(refine QV (id:=8) [(1,0),(2,0),(4,0),(5,0),(0,2),(3,2),(6,2),(7,0),(8,2)] mixed (by kernel_rfl) fun K hK=>?_));simp -implicitDefEqProofs only [Qc,Qd,OpW,QC,aop,undef,AS.ev,Qs,AV.QqF,↓reduceIte,Qy,Qm,aBin,QR,aLen,goInt,ti26,zi26,ti34,zi34,hsl,QU,z1,z3,y1,zc,zi,rc,ri,seval])|(with_reducible (first|refine Qg fun K hK=>?_|refine Qi ?_|refine Qn ?_|refine XJ ?_|refine XS ?_|refine Qk ?_|refine QE ?_|refine Qb ?_|refine Qu ?_|refine QA ?_|refine Qo ?_|refine Qz ?_|refine QB ?_|refine QJ rfl ?_))|(with_reducible (first|refine hK _ ?_|(clear hK;refine hK _ ?_)|(clear hK;clear hK;refine hK _ ?_)|(clear hK;clear hK;clear hK;refine hK _ ?_));clear hK)|(refine Qh rfl ?_;simp only [↓reduceIte,Qrt])|(intro (b:Bool);cases b))
     simp -implicitDefEqProofs only [Ya,↓reduceIte,Qrv,QG,Qp,Qt,Qrz]
     exact Ql (htake _ _) (.keep (.v _)) ⟨rfl,rfl⟩
    |inl r =>
     simp only [hq,rsR] at cr
     have rc:=Rl.cells r
     have ri:=Rl.isAgg r
     refine Qe Tryd.func5 rfl Tryd.call5 Tryd.ntmps5 (congrArg Array.toList Tryd.results5) (by simp) ?_
     repeat (first|((first|(with_reducible (first|refine Qa fun K E hK hE=>?_|refine Qj fun K E hK hE=>?_|refine FunW.ret (FunW.call cp) ?_|refine FunW.ret (FunW.call (cr _)) ?_|refine FunW.ret (FunW.call (ca _)) ?_))|(refine QQ (id:=8) [(1,0),(2,0),(4,0),(5,0),(0,2),(3,2),(6,2),(7,0),(8,2)] mixed (by kernel_rfl) fun K hK=>?_)|(refine QV (id:=8) [(1,0),(2,0),(4,0),(5,0),(0,2),(3,2),(6,2),(7,0),(8,2)] mixed (by kernel_rfl) fun K hK=>?_));simp -implicitDefEqProofs only [Qc,Qd,OpW,QC,aop,undef,AS.ev,Qs,AV.QqF,↓reduceIte,Qy,Qm,aBin,QR,aLen,goInt,ti26,zi26,ti34,zi34,hsl,QU,z1,z3,y1,zc,zi,rc,ri,seval])|(with_reducible (first|refine Qg fun K hK=>?_|refine Qi ?_|refine Qn ?_|refine XJ ?_|refine XS ?_|refine Qk ?_|refine QE ?_|refine Qb ?_|refine Qu ?_|refine QA ?_|refine Qo ?_|refine Qz ?_|refine QB ?_|refine QJ rfl ?_))|(with_reducible (first|refine hK _ ?_|(clear hK;refine hK _ ?_)|(clear hK;clear hK;refine hK _ ?_)|(clear hK;clear hK;clear hK;refine hK _ ?_));clear hK)|(refine Qh rfl ?_;simp only [↓reduceIte,Qrt])|(intro (b:Bool);cases b))
     simp -implicitDefEqProofs only [Ya,↓reduceIte,Qrv,QG,Qp,Qt,Qrz]
     exact Ql (htake _ _) (.keep (.v _)) ⟨rfl,rfl⟩
   |inl p =>
    rw [hp,psR] at cp
    have y1:((0:Int) != 0)=false:=rfl
    have pc:=Pg.cells p
    have pi:=Pg.isAgg p
    have ld:(vs Dc.av p.decls).length=p.decls.length:=Y9 _ _
    have lr:(vs Rl.av p.rules).length=p.rules.length:=Y9 _ _
    cases hq:Qc6 t with
    |inr q =>
     obtain ⟨x2,e2⟩:=q
     simp only [hq,rsR] at cr
     have y2:(e2 != 0)=true:=by simpa using QiN hq
     have rc:=Rl.cells (⟨eB,[],[],[],[],0⟩:Rl)
     have ri:=Rl.isAgg (⟨eB,[],[],[],[],0⟩:Rl)
     refine Qe Tryd.func5 rfl Tryd.call5 Tryd.ntmps5 (congrArg Array.toList Tryd.results5) (by simp) ?_
     repeat (first|((first|(with_reducible (first|refine Qa fun K E hK hE=>?_|refine Qj fun K E hK hE=>?_|refine FunW.ret (FunW.call cp) ?_|refine FunW.ret (FunW.call (cr _)) ?_|refine FunW.ret (FunW.call (ca _)) ?_))|(refine QQ (id:=8) [(1,0),(2,0),(4,0),(5,0),(0,2),(3,2),(6,2),(7,0),(8,2)] mixed (by kernel_rfl) fun K hK=>?_)|(refine QV (id:=8) [(1,0),(2,0),(4,0),(5,0),(0,2),(3,2),(6,2),(7,0),(8,2)] mixed (by kernel_rfl) fun K hK=>?_));simp -implicitDefEqProofs only [Qc,Qd,OpW,QC,aop,undef,AS.ev,Qs,AV.QqF,↓reduceIte,Qy,Qm,aBin,QR,aLen,goInt,ti26,zi26,ti34,zi34,hsl,QU,z1,z3,y2,pc,pi,rc,ri,seval])|(with_reducible (first|refine Qg fun K hK=>?_|refine Qi ?_|refine Qn ?_|refine XJ ?_|refine XS ?_|refine Qk ?_|refine QE ?_|refine Qb ?_|refine Qu ?_|refine QA ?_|refine Qo ?_|refine Qz ?_|refine QB ?_|refine QJ rfl ?_))|(with_reducible (first|refine hK _ ?_|(clear hK;refine hK _ ?_)|(clear hK;clear hK;refine hK _ ?_)|(clear hK;clear hK;clear hK;refine hK _ ?_));clear hK)|(refine Qh rfl ?_;simp only [↓reduceIte,Qrt])|(intro (b:Bool);cases b))
     simp -implicitDefEqProofs only [Ya,↓reduceIte,Qrv,QG,Qp,Qt,Qrz]
     exact Ql (htake _ _) (.keep (.v _)) ⟨rfl,rfl⟩
    |inl r =>
     simp only [hq,rsR] at cr
     have rc:=Rl.cells r
     have ri:=Rl.isAgg r
     by_cases h40:40≤p.rules.length
     ·have y3:((p.rules.length:Nat):Int)≥40:=by omega
      have y4:(40:Int)≤((p.rules.length:Nat):Int):=by omega
      refine Qe Tryd.func5 rfl Tryd.call5 Tryd.ntmps5 (congrArg Array.toList Tryd.results5) (by simp) ?_
      repeat (first|((first|(with_reducible (first|refine Qa fun K E hK hE=>?_|refine Qj fun K E hK hE=>?_|refine FunW.ret (FunW.call cp) ?_|refine FunW.ret (FunW.call (cr _)) ?_|refine FunW.ret (FunW.call (ca _)) ?_))|(refine QQ (id:=8) [(1,0),(2,0),(4,0),(5,0),(0,2),(3,2),(6,2),(7,0),(8,2)] mixed (by kernel_rfl) fun K hK=>?_)|(refine QV (id:=8) [(1,0),(2,0),(4,0),(5,0),(0,2),(3,2),(6,2),(7,0),(8,2)] mixed (by kernel_rfl) fun K hK=>?_));simp -implicitDefEqProofs only [Qc,Qd,OpW,QC,aop,undef,AS.ev,Qs,AV.QqF,↓reduceIte,Qf,Qw,Qv,Qy,Qm,aBin,QR,aLen,goInt,ti24,un24,ti26,ZS,zi26,ti34,zi34,hsl,QU,z1,z3,y3,pc,pi,lr,rc,ri,seval])|(with_reducible (first|refine Qg fun K hK=>?_|refine Qi ?_|refine Qn ?_|refine XJ ?_|refine XS ?_|refine Qk ?_|refine QE ?_|refine Qb ?_|refine Qu ?_|refine QA ?_|refine Qo ?_|refine Qz ?_|refine QB ?_|refine QJ rfl ?_))|(with_reducible (first|refine hK _ ?_|(clear hK;refine hK _ ?_)|(clear hK;clear hK;refine hK _ ?_)|(clear hK;clear hK;clear hK;refine hK _ ?_));clear hK)|(refine Qh rfl ?_;simp only [↓reduceIte,Qrt])|(intro (b:Bool);cases b))
      simp -implicitDefEqProofs only [Ya,↓reduceIte,Qrv,QG,Qp,Qt,Qrz]
      exact Ql (htake _ _) (.keep (.v _)) ⟨rfl,rfl⟩
     ·have y3:¬ ((p.rules.length:Nat):Int)≥40:=by omega
      have y4:¬ (40:Int)≤((p.rules.length:Nat):Int):=by omega
      have hap:=Qit hp hq (by omega) (by omega)
      have cq:=fun L=>QaG (l++10::t) (h++L) (hG.app L)
      simp only [hap,psR] at cq
      obtain ⟨b1,b2,b3⟩:=(QmZ (l:=l++10::t)).1 _ hap
      have cs:=QkD ⟨p.decls,p.rules++[r]⟩ (by have:=b2;simp only at this ⊢;omega) (by have:=b1;simp only at this ⊢;omega) (fun r hr=>(b3 r hr).bnd)
      have qc:=Pg.cells ⟨p.decls,p.rules++[r]⟩
      have qi:=Pg.isAgg ⟨p.decls,p.rules++[r]⟩
      have sadd1:=fun xo yo=>Qk4 Tryd.prog 9 xo yo (mkB l) {data:=#[10]} (by rw [QU];show l.length+1≤_;omega)
      have e10:mkB l++({data:=#[10]}:ByteArray)=mkB (l++[10]):=Qjm l [10]
      have sadd2:=fun xo yo=>Qk4 Tryd.prog 9 xo yo (mkB (l++[10])) (mkB t) (by rw [QU,QU,List.length_append];show l.length+1+t.length≤_;omega)
      simp only [e10] at sadd1
      simp only [Qjm,List.append_assoc,List.singleton_append] at sadd2
      have ev:vs Rl.av (p.rules++[r])=vs Rl.av p.rules++[r.av]:=by rw [QdI];rfl
      refine Qe Tryd.func5 rfl Tryd.call5 Tryd.ntmps5 (congrArg Array.toList Tryd.results5) (by simp) ?_
      repeat (first|((first|(with_reducible (first|refine Qa fun K E hK hE=>?_|refine Qj fun K E hK hE=>?_|refine FunW.ret (FunW.call cp) ?_|refine FunW.ret (FunW.call (cr _)) ?_|refine FunW.ret (FunW.call (cq _)) ?_)));simp -implicitDefEqProofs only [Qc,Qd,OpW,QC,aop,undef,AS.ev,Qs,AV.QqF,↓reduceIte,Qf,Qw,Qv,Qy,Qm,aBin,QR,aLen,goInt,ti24,un24,ti26,ZS,zi26,ti34,zi34,hsl,QU,z1,z3,y3,pc,pi,lr,rc,ri,sadd1,sadd2,qc,qi,seval])|(with_reducible (first|refine Qg fun K hK=>?_|refine Qi ?_|refine Qn ?_|refine XJ ?_|refine XS ?_|refine Qk ?_|refine QE ?_|refine Qb ?_|refine Qu ?_|refine QA ?_|refine Qo ?_|refine Qz ?_|refine QB ?_|refine QJ rfl ?_))|(with_reducible (first|refine hK _ ?_|(clear hK;refine hK _ ?_)|(clear hK;clear hK;refine hK _ ?_)|(clear hK;clear hK;clear hK;refine hK _ ?_));clear hK)|(refine Qh rfl ?_;simp only [↓reduceIte,Qrt])|(intro (b:Bool);cases b))
      refine QV (id:=8) [(1,0),(2,0),(4,0),(5,0),(0,5),(3,2),(6,2),(7,0),(8,2)] mixed (by kernel_rfl) (fun K2 hK2=>?_)
      have hm1:(p.rules.length+1) * 120≤140737488355328:=by omega
      have hm2:p.rules.length+1≤maxLen:=by simp only [maxLen];omega
      have hm3:p.rules.length * 120≤140737488355328:=by omega
      have hm4:p.rules.length≤maxLen:=by simp only [maxLen];omega
      simp -implicitDefEqProofs only [Qc,Qd,aop,undef,AS.ev,Qs,AV.QqF,↓reduceIte,Qf,Qw,Qv,Qy,Qm,QD,Xy,Yd,ti24,ei24,ai24,ZS,ti34,zi34,pc,pi,rc,ri,lr,hm1,hm2,hm3,hm4,tokA,Option.isSome_some,seval]
      refine hK2 _ ?_
      clear hK2
      iterate 2 (try (first|((first|(with_reducible (first|refine Qa fun K E hK hE=>?_|refine Qj fun K E hK hE=>?_))|(refine QQ (id:=8) [(1,0),(2,0),(4,0),(5,0),(0,2),(3,2),(6,2),(7,0),(8,2)] mixed (by kernel_rfl) fun K hK=>?_)|(refine QV (id:=8) [(1,0),(2,0),(4,0),(5,0),(0,2),(3,2),(6,2),(7,0),(8,2)] mixed (by kernel_rfl) fun K hK=>?_));simp -implicitDefEqProofs only [Qc,Qd,OpW,QC,aop,undef,XF,AS.ev,Qs,AV.QqF,↓reduceIte,Qf,Qw,Qv,Qy,Qm,aBin,QR,Xq,QD,aLen,Xy,Yd,goInt,ti0,zi0,ti3,zi3,un3,ti4,zi4,un4,ti9,ei9,zi9,un9,ti24,ei24,ai24,zi24,un24,ti26,QfD,ZS,zi26,sp26,ti27,zi27,un27,ti28,ti34,Qjf,Qeq,QeB,QbC,Z9,QjF,zi34,sp34,ti43,Qsc,Int.sub_zero,Zm,Qq,seval])|(with_reducible (first|refine Qg fun K hK=>?_|refine Qi ?_|refine Qn ?_|refine XJ ?_|refine XS ?_|refine Qk ?_|refine QE ?_|refine Qb ?_|refine Qu ?_|refine QA ?_|refine Qo ?_|refine Qz ?_|refine QB ?_|refine QJ rfl ?_))|(with_reducible (first|refine hK _ ?_|(clear hK;refine hK _ ?_)|(clear hK;clear hK;refine hK _ ?_)|(clear hK;clear hK;clear hK;refine hK _ ?_));clear hK)|(refine Qh rfl ?_;simp only [↓reduceIte,Qrt])|(intro (b:Bool);cases b)))
      have hget9:∀ A B C D:AB,(h++[A,B,C,D])[h.length]? = some A:=fun A B C D=>by rw [ZZ];rfl
      refine Qak h.length 26 2 [.agg [.sl 2 (vs Dc.av p.decls) none,.sl 6 (vs Rl.av p.rules++[r.av]) (some (h.length+3))]] [(⟨p.decls,p.rules++[r]⟩:Pg).av] 1
       (Wk.sl rfl (fun y hy=>by rw [← ev] at hy;obtain ⟨x,_,rfl⟩:=List.mem_map.1 hy;rfl) (WkL.refl _)) (hget9 _ _ _ _) rfl (by rw [← ev];rfl) (fun x hx=>by rw [List.mem_singleton] at hx;subst hx;rfl) ?_
      rw [QbX]
      have u1:((0:Int)==0)=true:=rfl
      repeat (first|((first|(with_reducible (first|refine Qa fun K E hK hE=>?_|refine Qj fun K E hK hE=>?_|refine QH cs ?_|refine Z3 cs ?_|refine FunW.ret (FunW.call (ca _)) ?_))|(refine QQ (id:=8) [(1,0),(2,0),(4,0),(5,0),(0,2),(3,2),(6,2),(7,0),(8,2)] mixed (by kernel_rfl) fun K hK=>?_)|(refine QV (id:=8) [(1,0),(2,0),(4,0),(5,0),(0,2),(3,2),(6,2),(7,0),(8,2)] mixed (by kernel_rfl) fun K hK=>?_));simp -implicitDefEqProofs only [Qc,Qd,OpW,QC,aop,AS.ev,↓reduceIte,Qw,Qv,aBin,ti26,qc,qi,seval])|(with_reducible (first|refine Qg fun K hK=>?_|refine Qi ?_|refine Qn ?_|refine XJ ?_|refine XS ?_|refine Qk ?_|refine QE ?_|refine Qb ?_|refine Qu ?_|refine QA ?_|refine Qo ?_|refine Qz ?_|refine QB ?_|refine QJ rfl ?_))|(with_reducible (first|refine hK _ ?_|(clear hK;refine hK _ ?_)|(clear hK;clear hK;refine hK _ ?_)|(clear hK;clear hK;clear hK;refine hK _ ?_));clear hK)|(refine Qh rfl ?_;simp only [↓reduceIte,Qrt])|(intro (b:Bool);cases b))
      simp -implicitDefEqProofs only [Ya,↓reduceIte,Qrv,QG,Qp,Qt,Qrz]
      exact Ql (htake _ _) (.keep (.v _)) ⟨rfl,rfl⟩
end
end Go.Proofs.YticgcpebdldbgaaDoor.Ab
namespace Go.Proofs.YticgcpebdldbgaaDoor.Ab
theorem Qgv {H:Type} {enc:TypeId×Value→H} {P:Program} {w:World} {base:Nat} {sp:Nat→Bool} {held:Bool} {fuel:Nat} {t e:TypeId} {n:Nat} {cs:List Value} {zs:List (List UInt8)} {p:List MemPlace}
  (ht:P.underlying t=some (.array n e)) (he:P.underlying e=some .string) (hce:P.cellsOf e=1) (hct:P.cellsOf t=n)
  (h:DataW.trod enc P w base sp held fuel t cs=some (.agg (zs.map fun z=>.lit (.string z)),p)):cs=zs.map fun z=>Value.string ⟨z.toArray⟩:=by
 cases fuel with
 |zero=>simp [DataW.trod] at h
 |succ fuel =>
  simp only [DataW.trod,ht,hce,hct,Nat.mul_one] at h
  split at h
  ·rename_i hl
   obtain ⟨xs,hm,hx⟩:=Option.map_eq_some_iff.1 h
   have hxs:xs.map (·.1)=zs.map fun z=>(DataW.lit (.string z):DataW H):=by
    have:=congrArg Prod.fst hx
    simpa using this
   have hxl:xs.length=n:=by simpa using Lib.mapM_length hm
   have hzl:zs.length=n:=by
    have:=congrArg List.length hxs
    simp at this
    omega
   apply List.ext_getElem?
   intro i
   by_cases hi:i<n
   ·obtain ⟨b,hb,hf⟩:=Lib.mapM_at hm i i (by simp [hi])
    obtain ⟨s,hc,rfl,_⟩:=DataW.trod_string he hf
    have h1:cs[i]? = some (.string s):=by
     have:=congrArg (·[0]?) hc
     simpa [List.getElem?_take,List.getElem?_drop] using this
    have h2:(xs.map (·.1))[i]? = some (DataW.lit (.string s.data.toList):DataW H):=by simp [hb]
    rw [hxs] at h2
    simp only [List.getElem?_map,Option.map_eq_some_iff,DataW.lit.injEq,Lit.string.injEq] at h2
    obtain ⟨z',hz',hz2⟩:=h2
    have:s=⟨z'.toArray⟩:=by rw [hz2]
    simp [h1,hz',this]
   ·rw [List.getElem?_eq_none (by omega),List.getElem?_eq_none (by simp;omega)]
  ·cases h
theorem Qmk {P:Program} {W:World} {nm:String} {zs:List (List UInt8)} {g:Nat} {t e:TypeId} {n:Nat}
  (hg:P.globalNamed nm=some g) (hty:(P.globals[g]?).map (·.type)=some t) (ht:P.underlying t=some (.array n e)) (he:P.underlying e=some .string) (hce:P.cellsOf e=1) (hct:P.cellsOf t=n)
  (h:laidMet P [(nm,.agg (zs.map fun z=>.lit (.string z)))] W):∃ ty fr,W.heap[g]? = some (.cells (zs.map fun z=>Value.string ⟨z.toArray⟩).toArray ty fr):=by
 obtain ⟨ps,⟨g',t',cs,fuel,p,q,hg',ht',hvar,hd,_,_⟩,_⟩:=h
 obtain rfl:=Option.some.inj (hg.symm.trans hg')
 obtain rfl:=Option.some.inj (hty.symm.trans ht')
 have:=Qgv ht he hce hct hd
 refine Qk3 hg (cs:=(zs.map fun z=>Value.string ⟨z.toArray⟩).toArray) ?_
 rw [hvar,← this]
open Go.Proofs
theorem open_string {H:Type} {enc:TypeId×Value→H} {P:Program} {W:World} {r:Reach} {b0:Nat} {t:TypeId} {v:Value} {d:DataW H} {ps:List MemPlace} (ht:P.underlying t=some .string) (hv:Value.okWide P W r b0 t v) (hd:DataW.Trod enc P W 0 (fun _=>true) true t v d ps):∃ s:ByteArray,v = .string s∧s.size≤maxLen:=by
 obtain ⟨fuel,hf⟩:=hd
 have hc:v.cells.toList=[v]:=by
  cases v with
  |agg cs=>simp [Value.okWide,ht,Cell.okWide,Cell.ok] at hv
  |_=>rfl
 rw [hc] at hf
 obtain ⟨s,h1,_,h2⟩:=DataW.trod_string ht hf
 cases h1
 exact ⟨s,rfl,h2⟩
theorem QlS {s:ByteArray} (hs:s.size≤maxLen):s.data.toList.length≤9223372036854775807:=by
 have:s.size=s.data.toList.length:=(by show s.data.size=_;simp);simp only [maxLen] at hs
 omega
theorem Qpo (s t:ByteArray) (hs:s.size≤maxLen) (ht:t.size≤maxLen) (h:AH) (hG:Zw h):QI Tryd.prog 5 [.v (.string s),.v (.string t)] h fun o h'=>o = .ret (.b true)∧h'=h:=by
 have:=Qqe s.data.toList t.data.toList (QlS hs) (QlS ht) h hG
 rwa [Qdz,Qdz] at this
end Go.Proofs.YticgcpebdldbgaaDoor.Ab

