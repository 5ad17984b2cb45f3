/-
  An abstract program logic, contracts of functions, and laws of terms and rules (part 4).
-/
import Derived.Test.YticgcpebdldbgaaDoorAbThree
import Derived.Test.YticgcpebdldbgaaDoorAbTwo
set_option linter.unusedVariables false
set_option linter.unusedSimpArgs false
set_option maxHeartbeats 4000000
set_option maxRecDepth 4000
namespace Go.Proofs.YticgcpebdldbgaaDoor.Ab
open Go.Proofs
theorem Qee (l:List UInt8) (c:UInt8):numVal (l++[c])=10 * numVal l+(c.toNat - 48):=by simp [numVal,List.foldl_append]
theorem QlH (l:List UInt8):∀ m:List UInt8,numVal l≤numVal (l++m):=by
 intro m
 induction m generalizing l with
 |nil=>rw [List.append_nil];exact Nat.le_refl _
 |cons c m ih =>
  have h1:=ih (l++[c])
  rw [List.append_assoc] at h1
  have h2:=Qee l c
  show numVal l≤numVal (l++([c]++m))
  omega
theorem Qef {l:List UInt8} {p:Nat} (h:p<l.length):numVal (l.take (p+1))=10 * numVal (l.take p)+((l[p]).toNat - 48)∧numVal (l.take (p+1))≤numVal l:=by
 refine ⟨by rw [List.take_succ_eq_append_getElem h,Qee],?_⟩
 have:=QlH (l.take (p+1)) (l.drop (p+1))
 rwa [List.take_append_drop] at this
theorem wrap32 {n:Int} (h : -2147483648≤n∧n≤2147483647):IntKind.i32.wrap n=n:=IntWalk.i32_in n h
theorem Qpk (n:Int) (hn:0≤n∧n<256):pv Tryd.prog (convert 21 3 (.int .i32 n))=some (.int .i64 n):=by
 have:pv Tryd.prog (convert 21 3 (.int .i32 n))=some (.int .i64 (IntKind.i64.wrap n)):=by kernel_rfl
 rw [this,XR (by omega)]
theorem Qio (l:List UInt8) (hd:∀ c∈l,isD c=true) (hv:numVal l≤2147483648):Pure Tryd.prog 38 [.v (.string (mkB l))] (.i (numVal l:Nat)):=by
 intro h
 refine Qe Tryd.func38 rfl Tryd.call38 Tryd.ntmps38 (congrArg Array.toList Tryd.results38) (by simp) ?_
 repeat (first|(((with_reducible refine Qa fun K E hK hE=>?_));simp -implicitDefEqProofs only [Qc,Qd,OpW,aop,undef,AS.ev,Qq,↓reduceIte,un9,seval])|(with_reducible (first|refine Qf fun K hK=>?_|refine Qj ?_))|((with_reducible refine hK _ ?_);clear hK))
 obtain ⟨I,hI⟩:∃ I:Nat→AS→Prop,I=fun m' s=>∃ (p:Nat),m'=l.length - p∧p≤l.length∧s.tm 3 = .i (numVal (l.take p):Nat)∧s.tm 7 = .mp h.length∧s.h=h++[.iter (mkB l) p]:=⟨_,rfl⟩;refine QO I ?_ (m:=l.length) ?_
 ·intro m' s hs;rw [hI] at hs;obtain ⟨tm,hp⟩:=s;dsimp only at hs;obtain ⟨p,rfl,hp',t3,t7,rfl⟩:=hs
  by_cases hlt:p<l.length
  ·have hc:=hd l[p] (List.getElem_mem hlt)
   have hcd:48≤(l[p]).toNat∧(l[p]).toNat≤57:=by unfold isD at hc;simpa using hc
   have hby:=Z6 l p hlt
   obtain ⟨d1,d2⟩:=decode_ascii (s:=mkB l) (i:=p) (by rw [hby];omega)
   rw [hby] at d1
   obtain ⟨n1,n2⟩:=Qef hlt
   generalize hn:numVal (l.take p)=v at *
   have w1:IntKind.i64.wrap (10 * ((v:Nat):Int))=((10 * v:Nat):Int):=by rw [XR (by omega)];omega
   have w2:IntKind.i32.wrap ((((l[p]).toNat:Nat):Int) - 48)=(((l[p]).toNat - 48:Nat):Int):=by rw [wrap32 (by omega)];omega
   have w3:=Qpk (((l[p]).toNat - 48:Nat):Int) (by omega)
   have w4:IntKind.i64.wrap (((10 * v:Nat):Int)+(((l[p]).toNat - 48:Nat):Int))=((numVal (l.take (p+1)):Nat):Int):=by rw [XR (by omega)];omega
   have z1:p<(mkB l).size:=by rw [Q3];exact hlt
   repeat (first|((first|(with_reducible (first|refine Qa fun K E hK hE=>?_|refine Qk fun K E hK hE=>?_)));simp -implicitDefEqProofs only [Qc,Qd,OpW,aop,AS.ev,↓reduceIte,aBin,QY,goInt,Zg,t3,t7,z1,d1,d2,w1,w2,w3,w4,seval])|(with_reducible (first|refine Qf fun K hK=>?_|refine Qj ?_|refine Qm ?_|refine Qb ?_|refine Qo ?_))|((with_reducible refine hK _ ?_);clear hK)|(refine Qh rfl ?_;simp only [↓reduceIte]))
   refine Xi.mk (m':=l.length - (p+1)) (by omega) ?_
   rw [hI]
   exact ⟨p+1,rfl,hlt,rfl,t7,rfl⟩
  ·have z1:¬ p<(mkB l).size:=by rw [Q3];exact hlt
   have e:l.take p=l:=List.take_of_length_le (by omega)
   rw [e] at t3
   repeat (first|(((with_reducible refine Qa fun K E hK hE=>?_));simp -implicitDefEqProofs only [Qc,Qd,OpW,aop,AS.ev,↓reduceIte,QY,Zg,t3,t7,z1,seval])|(with_reducible (first|refine Qf fun K hK=>?_|refine Ql ?_|refine QG ?_|refine Qb ?_|refine QD ?_|refine QC ?_))|((with_reducible refine hK _ ?_);clear hK)|(clear hK;(with_reducible refine hK _ ?_);clear hK)|(refine Qh rfl ?_;simp only [↓reduceIte,Qq3]))
   simp only [QF,Qn,Qr,upd,↓reduceIte,Qq5,Qq9];first|refine Qi (htake _ _) (.keep (.v _)) ⟨rfl,rfl⟩|refine Qi List.take_length (.keep (.v _)) ⟨rfl,rfl⟩
 ·rw [hI]
  exact ⟨0,rfl,Nat.zero_le _,rfl,rfl,rfl⟩
abbrev lf (k i:Int):AV:=.agg [.v (.int .i64 k),.v (.int .i64 i),.v (.string {data:=#[]}),.v (.slice none 0 0)]
theorem Qce (n:Nat) (k i:Int):Below n (lf k i):=.agg _ fun a ha=>by
 simp only [List.mem_cons,List.not_mem_nil,or_false] at ha
 rcases ha with rfl|rfl|rfl|rfl <;> exact .v _
theorem Qi1 (n:Int):Pure Tryd.prog 102 [.i n] (lf 0 n):=by
 intro h
 refine Qe Tryd.func102 rfl Tryd.call102 Tryd.ntmps102 (congrArg Array.toList Tryd.results102) (by simp) ?_
 repeat (first|(((with_reducible refine Qa fun K E hK hE=>?_));simp -implicitDefEqProofs only [Qc,Qd,OpW,aop,undef,AS.ev,Qq,AV.Qp8,↓reduceIte,QB,Qp,Xf,Xu,ti54,zi54,sp54,seval])|(with_reducible refine Ql ?_)|((with_reducible refine hK _ ?_);clear hK))
 simp -implicitDefEqProofs only [Qc,↓reduceIte,ti54,Qw,Qv,QF,Qn,Qr,Qq9,seval]
 exact Qi (htake _ _) (.keep (Qce _ _ _)) ⟨rfl,rfl⟩
theorem Qjr (n:Int):Pure Tryd.prog 106 [.i n] (lf 1 n):=by
 intro h
 refine Qe Tryd.func106 rfl Tryd.call106 Tryd.ntmps106 (congrArg Array.toList Tryd.results106) (by simp) ?_
 repeat (first|(((with_reducible refine Qa fun K E hK hE=>?_));simp -implicitDefEqProofs only [Qc,Qd,OpW,aop,undef,AS.ev,Qq,AV.Qp8,↓reduceIte,QB,Qp,Xf,Xu,ti54,zi54,sp54,seval])|(with_reducible refine Ql ?_)|((with_reducible refine hK _ ?_);clear hK))
 simp -implicitDefEqProofs only [Qc,↓reduceIte,ti54,Qw,Qv,QF,Qn,Qr,Qq9,seval]
 exact Qi (htake _ _) (.keep (Qce _ _ _)) ⟨rfl,rfl⟩
end Go.Proofs.YticgcpebdldbgaaDoor.Ab
set_option maxRecDepth 4000
namespace Go.Proofs.YticgcpebdldbgaaDoor.Ab
open Go.Proofs
def phx (h:AH) (P:Pz) (a b c:AB):AH:=((h.set P.i a).set P.j b).set P.g c
section
variable {h:AH} {P:Pz} (H:P.ok h)
include H
theorem QaI (a b c:AB):(phx h P a b c).length=h.length:=by have _u:=H;simp [phx]
theorem Qp1 (a b c:AB) (L:AH):(phx h P a b c++L)[P.i]? = some a:=by
 rw [List.getElem?_append_left (by rw [QaI H];exact H.i)]
 unfold phx
 rw [List.getElem?_set_ne (Ne.symm H.ig),List.getElem?_set_ne (Ne.symm H.ij),List.getElem?_set_self H.i]
theorem Qp2 (a b c:AB) (L:AH):(phx h P a b c++L)[P.j]? = some b:=by
 rw [List.getElem?_append_left (by rw [QaI H];exact H.j)]
 unfold phx
 rw [List.getElem?_set_ne (Ne.symm H.jg),List.getElem?_set_self (by simpa using H.j)]
theorem Qp0 (a b c:AB) (L:AH):(phx h P a b c++L)[P.g]? = some c:=by
 rw [List.getElem?_append_left (by rw [QaI H];exact H.g)]
 unfold phx
 rw [List.getElem?_set_self (by simpa using H.g)]
theorem Qph (a b c a':AB) (L:AH):(phx h P a b c++L).set P.i a'=phx h P a' b c++L:=by
 rw [List.set_append_left _ _ (by rw [QaI H];exact H.i)]
 unfold phx
 rw [List.set_comm _ _ (Ne.symm H.ig),List.set_comm _ _ (Ne.symm H.ij),List.set_set]
theorem Qpi (a b c b':AB) (L:AH):(phx h P a b c++L).set P.j b'=phx h P a b' c++L:=by
 rw [List.set_append_left _ _ (by rw [QaI H];exact H.j)]
 unfold phx
 rw [List.set_comm _ _ (Ne.symm H.jg),List.set_set]
theorem Qpg (a b c c':AB) (L:AH):(phx h P a b c++L).set P.g c'=phx h P a b c'++L:=by
 rw [List.set_append_left _ _ (by rw [QaI H];exact H.g)]
 unfold phx
 rw [List.set_set]
theorem Qnj (a b c:AB) (L:AH):(phx h P a b c++L)[h.length]? = L[0]? := by rw [← QaI H a b c];exact Z4 _ _
theorem QlS (a b c y:AB) (L:AH):(phx h P a b c++L).set h.length y=phx h P a b c++L.set 0 y:=by rw [← QaI H a b c];exact QbK _ _ _
end
theorem Qhq (h:AH) (P:Pz) (s:PS):ph h P s=phx h P (.cells 66 4 [.agg [.sl 3 (tks P.all) none,.i ((P.all.length - s.toks.length:Nat):Int),.sl 1 (strs s.names) (some P.g),.mp P.j]]) (.map (smap (kn s.names))) (.grow 9 1 s.names.length):=rfl
theorem QjQ {names:List ByteArray} {x:ByteArray} (h:¬ (nameAt names x<names.length∧x.toList≠[95])):kn (names++[x])=supd x (.i (names.length:Nat)) (kn names):=by
 rw [Qlq]
 unfold Qfu
 rw [if_neg]
 rintro ⟨h1,h2⟩
 simp only at h1 h2
 rw [Qi3 x h1 _ names rfl] at h2
 by_cases h3:nameAt names x<names.length
 ·exact h ⟨h3,h1⟩
 ·rw [if_neg h3] at h2;cases h2
theorem QoJ (n:Nat) (x:ByteArray) (s:PS):(pVari x s).1.lv n=lf 1 (pVari x s).1.int∧(pVari x s).1.args=[]:=by unfold pVari;split <;> exact ⟨rfl,rfl⟩
section
variable {P:Pz} {s:PS} (hW:Wst P.all s) {h:AH} (H:P.ok h) (hN:P.all.length≤1000000)
include hW H hN
theorem QgD (x:ByteArray):QJ Tryd.prog 103 [.ptr P.i 0 0,.v (.string x)] (ph h P s) fun o h'=>o = .ret (lf 1 (pVari x s).1.int)∧h'=ph h P (pVari x s).2:=by
 have f1:=QaI H
 have f2:=Qp1 H
 have f3:=Qp2 H
 have f4:=Qp0 H
 have f5:=Qph H
 have f6:=Qpi H
 have f7:=Qpg H
 have f8:=Qnj H
 have f9:=QlS H
 have hfind:=QgZ x (kn s.names)
 have hn:=hW.nms
 have hupd:=Qjq x
 by_cases hc:nameAt s.names x<s.names.length∧x.toList≠[95]
 ·rw [Qi3 x hc.2 _ s.names rfl,if_pos hc.1] at hfind
  have z1:(x.toList==({data:=#[95]}:ByteArray).toList)=false:=by
   rw [Lib.toList_data {data:=#[95]}];simpa using hc.2
  have cv:=Qjr (nameAt s.names x:Nat)
  have hv:pVari x s=(.mk 1 (nameAt s.names x:Nat) eB [],s):=by unfold pVari;rw [if_pos hc]
  rw [hv]
  refine Qe Tryd.func103 rfl Tryd.call103 Tryd.ntmps103 (congrArg Array.toList Tryd.results103) (by simp) ?_
  rw [Qhq]
  repeat (first|((first|(with_reducible (first|refine Qa fun K E hK hE=>?_|refine Qz cv ?_)));simp -implicitDefEqProofs only [Qc,Qd,OpW,QE,aop,undef,AS.ev,Qq,AV.Qp8,↓reduceIte,Qg,Qw,Qv,QB,Qp,aBin,QY,Zw,ti54,zi54,ti64,mi64,YH,Qs,f1,f2,f3,f8,f9,hfind,z1,seval])|(with_reducible (first|refine Qf fun K hK=>?_|refine Ql ?_|refine Qm ?_|refine Qb ?_))|((with_reducible refine hK _ ?_);clear hK)|(refine Qh rfl ?_;simp only [↓reduceIte,Qq3]))
  simp -implicitDefEqProofs only [Qc,↓reduceIte,Qw,Qv,ti54,Qw,Qv,f8,QF,Qn,Qr,Qq9,seval]
  exact Xg H (s:=s) (s':=s) (.keep (Qce _ _ _)) ⟨rfl,rfl⟩
 ·have hv:pVari x s=(.mk 1 (s.names.length:Nat) eB [],⟨s.toks,s.names++[x]⟩):=by unfold pVari;rw [if_neg hc]
  have hkn:=QjQ hc
  have cv:=Qjr (s.names.length:Nat)
  have hm:(s.names.length+1) * 16≤140737488355328:=by omega
  have hm2:s.names.length+1≤maxLen:=by simp only [maxLen];omega
  rw [hv]
  cases hg:sget x (kn s.names) with
  |none =>
   rw [hg] at hfind
   refine Qe Tryd.func103 rfl Tryd.call103 Tryd.ntmps103 (congrArg Array.toList Tryd.results103) (by simp) ?_
   rw [Qhq]
   repeat (first|((first|(with_reducible (first|refine Qa fun K E hK hE=>?_|refine Qk fun K E hK hE=>?_|refine Qz cv ?_)));simp -implicitDefEqProofs only [Qc,Qd,OpW,QE,aop,undef,AS.ev,Qq,AV.Qp8,↓reduceIte,Qg,Qw,Qv,QB,Qp,QY,QH,aLen,XD,Yb,Zw,YM,goInt,zi3,zi9,ti46,ei46,ai46,un46,ti54,zi54,ti64,mi64,YG,YH,Qs,f1,f2,f3,f4,f5,f6,f7,f8,f9,hfind,YK,hm,hm2,hupd,seval])|(with_reducible (first|refine Qf fun K hK=>?_|refine Ql ?_|refine Qb ?_))|((with_reducible refine hK _ ?_);clear hK)|(refine Qh rfl ?_;simp only [↓reduceIte]))
   simp -implicitDefEqProofs only [Qc,↓reduceIte,Qw,Qv,ti54,Qw,Qv,f8,QF,Qn,Qr,Qq9,seval]
   have es:ph h P ⟨s.toks,s.names++[x]⟩=phx h P (.cells 66 4 [.agg [.sl 3 (tks P.all) none,.i ((P.all.length - s.toks.length:Nat):Int),.sl 1 (strs s.names++[.v (.string x)]) (some P.g),.mp P.j]]) (.map (smap (supd x (.i (s.names.length:Nat)) (kn s.names)))) (.grow 9 1 (s.names.length+1)):=by
    rw [Qhq,hkn,QbQ,List.length_append];rfl
   rw [← es]
   exact Xg H (s:=s) (s':=⟨s.toks,s.names++[x]⟩) (.keep (Qce _ _ _)) ⟨rfl,rfl⟩
  |some v =>
   have hx:x.toList=[95]:=by
    by_cases e:x.toList=[95]
    ·exact e
    ·rw [Qi3 x e _ s.names rfl] at hg
     by_cases h3:nameAt s.names x<s.names.length
     ·exact absurd ⟨h3,e⟩ hc
     ·rw [if_neg h3] at hg;cases hg
   have z1:(x.toList==({data:=#[95]}:ByteArray).toList)=true:=by
    rw [Lib.toList_data {data:=#[95]}];simpa using hx
   rw [hg] at hfind
   refine Qe Tryd.func103 rfl Tryd.call103 Tryd.ntmps103 (congrArg Array.toList Tryd.results103) (by simp) ?_
   rw [Qhq]
   repeat (first|((first|(with_reducible (first|refine Qa fun K E hK hE=>?_|refine Qk fun K E hK hE=>?_|refine Qz cv ?_)));simp -implicitDefEqProofs only [Qc,Qd,OpW,QE,aop,undef,AS.ev,Qq,AV.Qp8,↓reduceIte,Qg,Qw,Qv,QB,Qp,aBin,QY,QH,aLen,XD,Yb,Zw,YM,goInt,zi9,ti46,ei46,ai46,un46,ti54,zi54,ti64,mi64,YG,YH,Qs,f1,f2,f3,f4,f5,f6,f7,f8,f9,hfind,z1,YK,hm,hm2,hupd,seval])|(with_reducible (first|refine Qf fun K hK=>?_|refine Ql ?_|refine Qb ?_))|((with_reducible refine hK _ ?_);clear hK)|(refine Qh rfl ?_;simp only [↓reduceIte]))
   simp -implicitDefEqProofs only [Qc,↓reduceIte,Qw,Qv,ti54,Qw,Qv,f8,QF,Qn,Qr,Qq9,seval]
   have es:ph h P ⟨s.toks,s.names++[x]⟩=phx h P (.cells 66 4 [.agg [.sl 3 (tks P.all) none,.i ((P.all.length - s.toks.length:Nat):Int),.sl 1 (strs s.names++[.v (.string x)]) (some P.g),.mp P.j]]) (.map (smap (supd x (.i (s.names.length:Nat)) (kn s.names)))) (.grow 9 1 (s.names.length+1)):=by
    rw [Qhq,hkn,QbQ,List.length_append];rfl
   rw [← es]
   exact Xg H (s:=s) (s':=⟨s.toks,s.names++[x]⟩) (.keep (Qce _ _ _)) ⟨rfl,rfl⟩
end
end Go.Proofs.YticgcpebdldbgaaDoor.Ab
set_option maxRecDepth 4000
namespace Go.Proofs.YticgcpebdldbgaaDoor.Ab
open Go.Proofs
theorem FunW.meth {P:Program} {f:FuncId} {x:AV} {h:AH} {Q:AOut→AH→Prop} (H:QJ P f [x] h Q):FunW P (.fn (.func f) [x] []) [] h Q:=FunW.fn H
def TQ (h:AH) (P:Pz):PR T→AOut→AH→Prop
 | .ok t s,o,h'=>o = .ret (t.lv h.length)∧h'=ph h P s++t.lay 54 h.length
 | .err p e,o,h'=>o = .panic (Fl p e)∧∃ s,h'=ph h P s
def CQ (g:Nat) (h:AH) (P:Pz):PR T→AOut→AH→Prop
 | .ok t s,o,h'=>o = .ret (t.lv (h.length+g))∧∃ N,h'=ph h P s++N∧At N g (t.lay 54 (h.length+g))
 | .err p e,o,h'=>o = .panic (Fl p e)∧∃ s,h'=ph h P s
def TRd (P:Pz) (f:FuncId) (g:PS→PR T) (N:Nat):Prop:=∀ s:PS,s.toks.length<N→Wst P.all s→∀ h:AH,P.ok h→QJ Tryd.prog f [.ptr P.i 0 0] (ph h P s) (TQ h P (g s))
theorem QdG {P:Pz} {f:FuncId} {args:List AV} {h:AH} {s:PS} (H:P.ok h) (g:Nat) {r:PR T} (C:QJ Tryd.prog f args (ph h P s) (CQ g h P r)):QJ Tryd.prog f args (ph h P s) (TQ h P r):=by
 refine Qak C fun hb0 o h' hQ=>?_
 cases r with
 |err p e=>exact .inl hQ
 |ok t s2 =>
  obtain ⟨rfl,N,rfl,hN⟩:=hQ
  rw [QS] at hb0 ⊢
  have hb:∀ b∈ph h P s2,b.Below h.length:=fun b hb=>by
   obtain ⟨k,hk⟩:=Y7 hb
   rcases Qbs H (s0:=s) hk with h1|h1
   ·exact hb0 k b h1
   ·exact h1
  obtain ⟨K,hk⟩:=QpY (QS h P s2) hb g t hN
  exact .inr ⟨_,_,_,_,rfl,K,hk,rfl,rfl⟩
section
variable {P:Pz} {f:FuncId} {g:PS→PR T} {N:Nat} (HR:TRd P f g N) {s:PS} (hs:s.toks.length<N) (hW:Wst P.all s) {h:AH} (H:P.ok h)
include HR hs hW H
theorem TRd.ok {t:T} {s2:PS} (e:g s = .ok t s2) (L:AH) {k:Nat} (hk:k=h.length+L.length):QJ Tryd.prog f [.ptr P.i 0 0] (ph h P s++L) fun o h'=>o = .ret (t.lv k)∧h'=ph h P s2++(L++t.lay 54 k):=by
 have:=HR s hs hW (h++L) (H.app L)
 rw [Q1 H,e] at this
 subst hk
 exact this.mono fun o h' q=>by simpa only [TQ,Q1 H,QrQ,List.append_assoc] using q
theorem TRd.err {p c:Int} (e:g s = .err p c) (L:AH):QJ Tryd.prog f [.ptr P.i 0 0] (ph h P s++L) fun o h'=>o = .panic (Fl p c)∧∃ s2:PS,h'=ph h P s2++L:=by
 have:=HR s hs hW (h++L) (H.app L)
 rw [Q1 H,e] at this
 exact this.mono fun o h' q=>by simpa only [TQ,Q1 H] using q
end
theorem Qo5 {s:PS} {b:ByteArray} (h:s.is b.toList=true):s.tk.text=b:=by
 simp only [PS.is,Bool.and_eq_true,beq_iff_eq] at h
 exact toList_inj h.2
theorem QT {h:AH} {P:Pz} (H:P.ok h) (s s2:PS) (p e:Int) (L:AH) {Q:AOut→AH→Prop} (hq:Q (.panic (Fl p e)) (ph h P s2)):Leaves (ph h P s) (ph h P s2++L) (Fl p e) fun v h'=>Q (.panic v) h' :=
 Xg H (s:=s) (s':=s2) (.keep (Qbm _ _ _)) hq
end Go.Proofs.YticgcpebdldbgaaDoor.Ab
namespace Go.Proofs.YticgcpebdldbgaaDoor.Ab
theorem QnL {S:Nat→Bool}:∀ {l:List Tr} {f:AH},(∀ t∈l,t.c<2)→hS S l f=f
 |l,f,H=>Ys fun t ht h2=>by have:=H t ht;omega
theorem Qmx {P:Program} {N:Nat} {base:Bs×Fence} {ops:Array Oper} {F:Fence} {n:Nat} (hF:WF F) {Qx:Exit→Act→World→Prop} {x:Nat} {ox:Oper} {f:Operand} {asx:Array Operand} {tys:Array TypeId} (hox:ops[x]? = some ox)
  (hop:ox.op = .call ⟨.value f,asx,tys⟩) {tr:List Tr} {tm0:Nat→AV} {h0:AH} (hruns:Runs P N ops tr tm0 h0) (hlow:∀ t∈tr,t.c<2) (hxt:∀ t∈tr,t.i≠x)
  (hpw:tr.Pairwise (fun a b=>clash ops a.o b.o a.c b.c=true→Anc ops a.i b.i)) (hnd:(tr.map (·.i)).Nodup) (hkind:∀ t∈tr,kindOk t.o t.c=true)
  (hrd:∀ t∈tr,∀ d,t.o.dst=some d→d∈readsOf ops ox→Anc ops t.i x) (hall:∀ i,i<ops.size→(∃ t∈tr,t.i=i)∨i=x∨Anc ops x i) (htopo:topo ops [] (tr.map (fun t=>(t.i,t.c))++[(x,1)])=true)
  (haw:Qd ops (tmS N (fun _=>true) tr tm0) ox=some true) {G:AV→AH→Prop} (H:FunW P (AS.ev ⟨tmS N (fun _=>true) tr tm0,[]⟩ f) (asx.toList.map (AS.ev ⟨tmS N (fun _=>true) tr tm0,[]⟩)) h0 (fun o h'=>∃ v,o = .panic v∧G v h')) :
  ∀ (fuel:Nat) (listed:Array Bool) (c:Cx) (a:Act),listed.size=ops.size→Down ops (fun i=>listed.getD i false)→listed.getD x false=false→St c→SR N base c ⟨tmS N (fun i=>listed.getD i false) tr tm0,h0⟩ a →
   tr.countP (fun t=>!listed.getD t.i false)<fuel →
   (∀ tm' v h' c' a' u,G v h'→Ev c c'→St c'→SR N base c' ⟨tm',h'⟩ a'→Rel c' v u→Qx (.panic [{v:=u,recovered:=false}]) a' c'.w)→wpAnyIn F n P .any ops Qx fuel listed a c.w:=by
 intro fuel
 induction fuel with
 |zero=>intro listed c a hsz hd hx hst hr hc hQ;omega
 |succ fuel ih =>
  intro listed c a hsz hd hx hst hr hc hQ
  refine ⟨fun h=>?_,fun i hi=>?_⟩
  ·exfalso
   have:=ZD hsz h _ [] htopo (fun i hi=>by cases hi) (x,1) (List.mem_append_right _ (by simp))
   simp only at this
   rw [hx] at this;cases this
  have hi':=hi
  obtain ⟨h1,o,ho,_⟩:=mem_ready.1 hi'
  have hlt:i<ops.size:=(Array.getElem?_eq_some_iff.1 ho).1
  have hd':=ZF hsz hd hi
  by_cases hix:i=x
  ·subst hix
   rw [hox] at ho;cases ho
   -- what it reads is there
   have hreads:∀ y∈readsOf ops ox,tmS N (fun i=>listed.getD i false) tr tm0 y=tmS N (fun _=>true) tr tm0 y:=fun y hy=>ZC rfl fun t ht hd=>by
    have ha:=hrd t ht y hd hy
    have h2:(listed.setIfInBounds i true).getD t.i false=true:=hd'.anc ha (by rw [Yd (by omega)];simp)
    rw [Yd (by omega)] at h2
    by_cases hti:t.i=i
    ·exact absurd hti (hxt t ht)
    ·simpa [hti] using h2
   unfold wpOpIn
   simp only [hox]
   rw [Xd hr (by rw [QbY (tm:=tmS N (fun i=>listed.getD i false) tr tm0) (tm':=tmS N (fun _=>true) tr tm0) hreads];exact haw)]
   simp only [if_true]
   have hargs:∀ y∈ox.op.operands,AS.ev ⟨tmS N (fun i=>listed.getD i false) tr tm0,[]⟩ y=AS.ev ⟨tmS N (fun _=>true) tr tm0,[]⟩ y:=Qb5 hreads
   refine Qbd (K:=fun _=>False) (E:=fun r s'=>G r s'.h) ?_ hF hst hr (fun s' c' a' hs=>hs.elim) ?_
   ·unfold OpW
    simp only [hop]
    have hev:=hargs
    rw [hop] at hev
    have h1':AS.ev ⟨tmS N (fun i=>listed.getD i false) tr tm0,h0⟩ f=AS.ev ⟨tmS N (fun _=>true) tr tm0,[]⟩ f:=(QaR _ _ _ _).trans (hev f (by simp [Op.operands,Call.operands]))
    have h2':asx.toList.map (AS.ev ⟨tmS N (fun i=>listed.getD i false) tr tm0,h0⟩)=asx.toList.map (AS.ev ⟨tmS N (fun _=>true) tr tm0,[]⟩):=List.map_congr_left fun y hy=>(QaR _ _ _ _).trans (hev y (by simp [Op.operands,Call.operands,Array.mem_def,hy]))
    rw [h1',h2']
    refine H.mono ?_
    rintro o h' ⟨v,rfl,g⟩
    exact g
   ·intro r s' c' u hE hev hst' hr' hru
    obtain ⟨tm',h'⟩:=s'
    exact hQ tm' r h' c' a u hE hev hst' hr' hru
  ·have hx':(listed.setIfInBounds i true).getD x false=false:=by rw [Yd (by omega),hx];simp;exact fun e=>hix e.symm
   rcases hall i hlt with ⟨t,ht,hti⟩|h|h
   ·have e0:∀ S,hS S tr h0=h0:=fun S=>QnL hlow
    refine YN hF hruns hpw hnd hkind hi ht hti hsz (fun i j h hj=>hd.anc h hj) (fun i j h hj=>hd'.anc h hj) hst (by rw [e0];exact hr) fun c' a' hev hst' hr'=>?_
    rw [e0] at hr'
    refine ih _ c' a' (by simpa using hsz) hd' hx' hst' hr' ?_ fun tm' v h' c2 a2 u g e2 s2 r2 ru=>hQ tm' v h' c2 a2 u g (Ev.trans hst hev e2) s2 r2 ru
    have:=Xo (fuel:=tr.countP (fun t=>!listed.getD t.i false) - 1) hsz ⟨t,ht,hti⟩ hi (by omega)
    have hpos:0<tr.countP (fun t=>!listed.getD t.i false):=by
     rw [List.countP_pos_iff]
     refine ⟨t,ht,?_⟩
     rw [Array.getD_eq_getD_getElem?,Array.getElem?_eq_getElem (by omega)] at h1 ⊢
     subst hti
     simpa using h1
    omega
   ·exact absurd h hix
   ·exfalso
    have h2:(listed.setIfInBounds i true).getD x false=true:=hd'.anc h (by rw [Yd (by omega)];simp)
    rw [hx'] at h2;cases h2
def Qpe (ops:Array Oper) (x:Nat) (ρ:List (Nat×Nat)):Bool :=
 decide (ρ.length<ops.size)&&Qej ops (masks ops.toList []) ρ&&topo ops [] (ρ++[(x,1)])&&Qhl (ρ.map (·.1))&&(ρ.all fun p=>decide (p.2<2)&&!(p.1==x)&&(match ops[p.1]? with|some o=>kindOk o p.2&&(match ops[x]?,o.dst with|some ox,some d=>!(readsOf ops ox).contains d||((masks ops.toList []).getD x 0).testBit p.1|_,_=>true)|none=>false)) &&
 ((List.range ops.size).all fun i=>(ρ.map (·.1)).contains i||i==x||((masks ops.toList []).getD i 0).testBit x)
def callOf (o:Oper):Option (Operand×List Operand):=match o.op with
 | .call ⟨.value f,asx,_⟩=>some (f,asx.toList)
 |_=>none
theorem Q9 {P:Program} {N:Nat} {Q:AExit→AS→Prop} {s:AS} {id:Nat} {ops:Array Oper} (x:Nat) (ρ:List (Nat×Nat)) (hm:P.follows .mixedOrders=true) {ox:Oper} {f:Operand} {asx:List Operand} (hox:ops[x]? = some ox) (hcl:callOf ox=some (f,asx)) (hgd:ox.guard=none)
  (hok:Qpe ops x ρ=true) (G:AV→AH→Prop) (hG:∀ tm v h',G v h'→Q (.panic v) ⟨tm,h'⟩)
  (H:AnyW P N ops ρ (fun s'=>s'.h=s.h→FunW P (s'.ev f) (asx.map s'.ev) s'.h (fun o h'=>∃ v,o = .panic v∧G v h')) s):XF P N (.region id ops true) Q s:=by
 intro F n base c a hF hst hr R hR
 refine wpIn_region_any hm ?_
 obtain ⟨tm,hp⟩:=s
 simp only [Qpe,Bool.and_eq_true] at hok
 obtain ⟨⟨⟨⟨⟨hp0,hp1⟩,hp2⟩,hp3⟩,hp4⟩,hp5⟩:=hok
 rw [List.all_eq_true] at hp4
 have hk:(ρ.all fun p=>match ops[p.1]? with|some o=>kindOk o p.2|none=>false)=true:=by
  rw [List.all_eq_true]
  intro p hp
  have:=hp4 p hp
  simp only [Bool.and_eq_true] at this
  revert this
  cases ops[p.1]? with
  |none=>simp
  |some o=>simp only [Bool.and_eq_true];exact fun h=>h.2.1
 obtain ⟨tr,rfl,hruns,hK⟩:=Yg H hk
 have hev:Ev c (c.to {c.w with drawn:=c.w.drawn+1}):=Ev.idle hst (Ev.refl c) rfl rfl rfl rfl fun k=>.inl rfl
 have hst':St (c.to {c.w with drawn:=c.w.drawn+1}):=hst.idle rfl fun k o hk=>.inl hk
 have hr':SR N (base,F) (c.to {c.w with drawn:=c.w.drawn+1}) ⟨tm,hp⟩ a:=⟨hr.h,hr.size,Nat.le_trans hr.above hev.size,hr.defers.ev hev,RoundOk.ev hev hr.round,fun t=>(hr.tm t).ev hst hev⟩
 have hops:=Qab hruns
 have hnone:∀ j,(Array.replicate ops.size false).getD j false=false:=fun j=>by
  rw [Array.getD_eq_getD_getElem?,Array.getElem?_replicate]
  split <;> rfl
 have hmk:∀ (k i:Nat),((masks ops.toList []).getD k 0).testBit i=true→Anc ops i k:=YU ops.toList [] (fun j o h=>by simpa using h) (fun k i h=>by simp at h)
 have hlow:∀ t∈tr,t.c<2:=fun t ht=>by
  have:=hp4 (t.i,t.c) (List.mem_map.2 ⟨t,ht,rfl⟩)
  simp only [Bool.and_eq_true,decide_eq_true_eq] at this
  exact this.1.1
 have hxt:∀ t∈tr,t.i≠x:=fun t ht=>by
  have:=hp4 (t.i,t.c) (List.mem_map.2 ⟨t,ht,rfl⟩)
  simp only [Bool.and_eq_true,Bool.not_eq_true',beq_eq_false_iff_ne] at this
  exact this.1.2
 have hS0:hS (fun _=>true) tr hp=hp:=QnL hlow
 rw [hS0] at hK
 obtain ⟨as',tys,hop,rfl⟩:∃ (as':Array Operand) (tys:Array TypeId),ox.op = .call ⟨.value f,as',tys⟩∧asx=as'.toList:=by
  unfold callOf at hcl
  split at hcl
  ·rename_i f' as' tys e
   simp only [Qq5,Prod.mk.injEq] at hcl
   obtain ⟨rfl,rfl⟩:=hcl
   exact ⟨_,_,e,rfl⟩
  ·cases hcl
 have hF0:=hK rfl
 refine Qmx (base:=(base,F)) hF hox hop hruns hlow hxt (QcQ hmk tr hp1 hops) ?_ ?_ ?_ ?_ hp2 ?_ (G:=G) ?_ _ _ (c.to {c.w with drawn:=c.w.drawn+1}) a (by simp) ?_ (hnone _) hst' ?_ ?_ ?_
 ·have:=ZT hp3
  rw [List.map_map] at this
  exact this
 ·intro t ht
  have:=List.all_eq_true.1 hk (t.i,t.c) (List.mem_map.2 ⟨t,ht,rfl⟩)
  simpa [hops t ht] using this
 ·intro t ht d hd hr
  have:=hp4 (t.i,t.c) (List.mem_map.2 ⟨t,ht,rfl⟩)
  simp only [hops t ht,hox,hd,Bool.and_eq_true,Bool.or_eq_true,Bool.not_eq_true'] at this
  rcases this.2.2 with h|h
  ·rw [List.contains_eq_mem,decide_eq_false_iff_not] at h
   exact absurd hr h
  ·exact hmk _ _ h
 ·intro i hi
  have:=List.all_eq_true.1 hp5 i (List.mem_range.2 hi)
  simp only [Bool.or_eq_true,beq_iff_eq] at this
  rcases this with (h|h)|h
  ·have h:i∈(tr.map fun t=>(t.i,t.c)).map (·.1):=by simpa using h
   rw [List.map_map] at h
   obtain ⟨t,ht,rfl⟩:=List.mem_map.1 h
   exact .inl ⟨t,ht,rfl⟩
  ·exact .inr (.inl h)
  ·exact .inr (.inr (hmk _ _ h))
 ·simp only [Qd,hgd]
 ·rw [QaR _ hp [] f] at hF0
  have e2:as'.toList.map (AS.ev ⟨tmS N (fun _=>true) tr tm,hp⟩)=as'.toList.map (AS.ev ⟨tmS N (fun _=>true) tr tm,[]⟩):=List.map_congr_left fun y _=>QaR _ _ _ _
  rw [e2] at hF0
  exact hF0
 ·intro j o ho hj
  simp only at hj
  rw [hnone] at hj;cases hj
 ·have e1:tmS N (fun i=>(Array.replicate ops.size false).getD i false) tr tm=tm:=funext fun x=>XO fun t _ h=>by rw [hnone] at h;cases h
  rw [e1];exact hr'
 ·refine Nat.lt_of_le_of_lt List.countP_le_length ?_
  have:=of_decide_eq_true hp0
  simp only [List.length_map] at this;omega
 ·intro tm' v h' c' a' u hg h1 h2 h3 hu
  exact hR _ _ c' a' _ (hG tm' v h' hg) (Ev.trans hst hev h1) h2 h3 ⟨u,rfl,hu⟩
end Go.Proofs.YticgcpebdldbgaaDoor.Ab
set_option maxRecDepth 4000
namespace Go.Proofs.YticgcpebdldbgaaDoor.Ab
open Go.Proofs
theorem Zv {p:Prop} (h:2=3):p:=by cases h
theorem QiV (x:ByteArray) (y:AV) (h1:y.cells=[y]) (h2:y.cell1=true) (h3:y.isAgg=false) (h:AH) (hb:Below h.length y):QJ Tryd.prog 93 [.v (.string x),y] h fun o h'=>o = .ret (.agg [.i 2,.i 0,.v (.string x),y])∧h'=h:=by
 refine Qe Tryd.func93 rfl Tryd.call93 Tryd.ntmps93 (congrArg Array.toList Tryd.results93) (by simp) ?_
 repeat (first|(((with_reducible refine Qa fun K E hK hE=>?_));simp -implicitDefEqProofs only [Qc,Qd,OpW,aop,undef,AS.ev,Qq,AV.Qp8,↓reduceIte,QB,Qp,Xf,Xu,ti54,zi54,sp54,h1,h2,seval])|(with_reducible refine Ql ?_)|((with_reducible refine hK _ ?_);clear hK))
 simp -implicitDefEqProofs only [Qc,↓reduceIte,ti54,Qw,Qv,QF,Qn,Qr,Qq9,seval]
 refine Qi (htake _ _) (.keep (.agg _ fun a ha=>?_)) ⟨rfl,rfl⟩
 simp only [List.mem_cons,List.not_mem_nil,or_false] at ha
 rcases ha with rfl|rfl|rfl|rfl
 ·exact .v _
 ·exact .v _
 ·exact .v _
 ·exact hb
abbrev c6:AB:=.cells 54 4 [.agg [.v (.int .i64 0),.v (.int .i64 0),.v (.string {data:=#[]}),.v (.slice none 0 0)]]
section
variable {P:Pz} {f:FuncId} {g:PS→PR T} {Nn:Nat} (HR:TRd P f g Nn) (hEat:Eat 0 g) (hKp:Kp.Ps (wdOf P.all) g) (opsB:List ByteArray) (hob:opsB.length≤10) {s:PS} (hs:s.toks.length<Nn) (hW:Wst P.all s) {h:AH} (H:P.ok h) (hN:P.all.length≤1000000)
include HR hEat hKp hs hW H hN hob
theorem QkY:QJ Tryd.prog 85 [.ptr P.i 0 0,.fn (.func f) [.ptr P.i 0 0] [],.sl 1 (strs opsB) none] (ph h P s) (CQ 1 h P (X5 g (opsB.map ByteArray.toList) s)):=by
 have f1:=QS h P
 have f3:=Xr h P
 have f4:=XY h P
 have f5:=Xe h P
 have f6:=XC h P
 rw [X5]
 cases hop:g s with
 |err p e =>
  have c1:=fun L=>TRd.err HR hs hW H hop L
  refine Qe Tryd.func85 rfl Tryd.call85 Tryd.ntmps85 (congrArg Array.toList Tryd.results85) (by simp) ?_
  repeat (first|(((with_reducible refine Qa fun K E hK hE=>?_));simp -implicitDefEqProofs only [Qc,Qd,OpW,aop,AV.Qp8,↓reduceIte,zi54,f1,seval])|((with_reducible refine hK _ ?_);clear hK))
  refine QdS 0 (fun _ _=>False) rfl ?_ (fun _ _ hf=>hf.elim)
  refine Yu ?_
  repeat (first|((first|(with_reducible (first|refine Qk fun K E hK hE=>?_|refine FunW.panE (FunW.meth (c1 _)) fun r=>?_)));simp -implicitDefEqProofs only [Qc,Qd,OpW,QE,aop,undef,AS.ev,Qq,↓reduceIte,seval])|(with_reducible (first|refine hE _ _ ?_|refine QM ?_)))
  exact QT H s r p e _ ⟨rfl,_,rfl⟩
 |ok a0 s0 =>
  have c1:=TRd.ok HR hs hW H hop [c6] (k:=h.length+1) rfl
  have hW0:Wst P.all s0:=Kp.Ps.ok hKp hW hop
  have hl0:=(hEat s hW.wf a0 s0 hop).2
  simp only [PR.bind]
  generalize hR:XM g (opsB.map ByteArray.toList) s0.toks.length a0 s0=R
  refine Qe Tryd.func85 rfl Tryd.call85 Tryd.ntmps85 (congrArg Array.toList Tryd.results85) (by simp) ?_
  repeat (first|(((with_reducible refine Qa fun K E hK hE=>?_));simp -implicitDefEqProofs only [Qc,Qd,OpW,aop,AV.Qp8,↓reduceIte,zi54,f1,seval])|((with_reducible refine hK _ ?_);clear hK))
  obtain ⟨I,hI⟩:∃ I:Nat→AS→Prop,I=fun m' s=>∃ (t:T) (s2:PS) (q:Nat) (L:AH),m'=s2.toks.length∧s2.toks.length<Nn∧Wst P.all s2∧(∃ k,s2.toks.length≤k∧XM g (opsB.map ByteArray.toList) k t s2=R)∧L.length=t.sz+1∧At L 0 (t.lay 54 (h.length+1))∧q≤t.sz ∧
   (t.lay 54 (h.length+1)++[.dead])[q]? = some .dead∧L[q]? = some (.cells 54 4 [t.lv (h.length+1)])∧s.tm 0 = .ptr P.i 0 0∧s.tm 1 = .fn (.func f) [.ptr P.i 0 0] []∧s.tm 2 = .sl 1 (strs opsB) none∧s.tm 6 = .ptr h.length 0 0∧s.tm 7 = .ptr (h.length+(q+1)) 0 0∧s.h=ph h P s2++(c6::L):=⟨_,rfl⟩
  refine QgW 0 I rfl ?_ ?_
  ·intro key
   refine Yu ?_
   have e1:=T.Qqd (h.length+1) a0
   have e2:=T.Qqf (h.length+1) a0
   have e3:=T.Qqc 54 (h.length+1) a0
   repeat (first|((first|(with_reducible (first|refine Qk fun K E hK hE=>?_|refine FunW.ret (FunW.meth c1) ?_)));simp -implicitDefEqProofs only [Qc,Qd,OpW,QE,aop,undef,AS.ev,Qq,AV.Qp8,↓reduceIte,QB,Qp,ti54,zi54,f1,f4,f6,e1,e2,QR,seval])|(with_reducible refine Qb ?_)|((with_reducible refine hK _ ?_);clear hK))
   refine Yu (QaA (Qb (key _ ?_)))
   rw [hI]
   refine ⟨_,a0,s0,a0.sz,a0.lay 54 (h.length+1)++[.cells 54 4 [a0.lv (h.length+1)]],rfl,by omega,hW0,⟨_,Nat.le_refl _,hR⟩,by rw [List.length_append,e3];rfl,At.mid [] _ _ rfl,Nat.le_refl _,?_,?_,rfl,rfl,rfl,rfl,?_,?_⟩
   ·rw [List.getElem?_append_right (by rw [e3];exact Nat.le_refl _),e3,Nat.sub_self];rfl
   ·rw [List.getElem?_append_right (by rw [e3];exact Nat.le_refl _),e3,Nat.sub_self];rfl
   ·show AV.ptr (h.length+((a0.lay 54 (h.length+1)).length+1)) 0 0=_
    rw [e3]
   ·rfl
  ·intro m s1 hs1
   rw [hI] at hs1
   obtain ⟨tm,hp⟩:=s1
   dsimp only at hs1
   obtain ⟨t,s2,q,L,rfl,hl2,hW2,⟨k,hk,hR2⟩,hL,hAt,hq,hdead,hc7,t0,t1,t2,t6,t7,rfl⟩:=hs1
   refine Qfe ?_
   refine Yu ?_
   repeat (first|(((with_reducible refine Qk fun K E hK hE=>?_));simp -implicitDefEqProofs only [Qc,Qd,OpW,aop,AS.ev,↓reduceIte,Nat.reduceLT,aLen,goInt,un46,t2,YK])|(with_reducible refine Qb ?_)|((with_reducible refine hK _ ?_);clear hK))
   refine QdR ?_
   obtain ⟨I2,hI2⟩:∃ I2:Nat→AS→Prop,I2=fun m' s=>∃ j:Nat,m'=opsB.length - j∧j≤opsB.length∧(∀ b∈opsB.take j,s2.is b.toList=false)∧s.tm 0 = .ptr P.i 0 0∧s.tm 1 = .fn (.func f) [.ptr P.i 0 0] []∧s.tm 2 = .sl 1 (strs opsB) none∧s.tm 6 = .ptr h.length 0 0∧s.tm 7 = .ptr (h.length+(q+1)) 0 0 ∧
    s.tm 12 = .sl 1 (strs opsB) none∧s.tm 13 = .i opsB.length∧s.tm 14 = .i j∧s.h=ph h P s2++(c6::L):=⟨_,rfl⟩
   refine QjG I2 ?_ (m:=opsB.length) ?_
   ·intro m' s3 hs3
    rw [hI2] at hs3
    obtain ⟨tm,hp⟩:=s3
    dsimp only at hs3
    obtain ⟨j,rfl,hj,hno,u0,u1,u2,u6,u7,u12,u13,u14,rfl⟩:=hs3
    by_cases hlt:j<opsB.length
    ·have z1:(((j:Nat):Int)<((opsB.length:Nat):Int)):=by omega
     have hi:=ph_i H s2
     simp only [pB] at hi
     have hix:(strs opsB)[j]? = some (.v (.string opsB[j])):=by rw [strs,List.getElem?_map,List.getElem?_eq_getElem hlt];rfl
     refine Yu ?_
     repeat (first|(((with_reducible refine Qk fun K E hK hE=>?_));simp -implicitDefEqProofs only [Qc,Qd,OpW,aop,AS.ev,Nat.reduceLT,aBin,u14,u13,z1])|(with_reducible refine Qb ?_)|((with_reducible refine hK _ ?_);clear hK))
     refine Yu ?_
     repeat (first|(with_reducible (first|refine Qm ?_|refine Qb ?_))|(refine Qh rfl ?_;simp only [↓reduceIte]))
     refine Qfe (QdR ?_)
     refine Yu ?_
     repeat (first|(((with_reducible refine Qk fun K E hK hE=>?_));simp -implicitDefEqProofs only [Qc,Qd,OpW,aop,AS.ev,↓reduceIte,Qw,Qv,QK,ti9,ei46,u12,u14,hix,hlt,YK,seval])|(with_reducible refine Qb ?_)|((with_reducible refine hK _ ?_);clear hK))
     refine Yu ?_
     cases hb:s2.is opsB[j].toList with
     |false =>
      have cs:=fun L=>QiE (P:=P) hW2 (H.app L) hN opsB[j] hb
      simp only [Q1 H] at cs
      repeat (first|((first|(with_reducible (first|refine Qk fun K E hK hE=>?_|refine FunW.ret (FunW.call (cs _)) ?_)));simp -implicitDefEqProofs only [Qc,Qd,OpW,QE,aop,AS.ev,↓reduceIte,Qg,QI,Qs,u0,hi,seval])|(with_reducible refine Qb ?_)|((with_reducible refine hK _ ?_);clear hK))
      refine Qfd (t:=false) rfl ?_
      simp only [Qq3,↓reduceIte]
      refine QcF ?_
      repeat (first|(with_reducible (first|refine Qm ?_|refine Qb ?_|refine Qo ?_)))
      refine QcF ?_
      repeat (first|(((with_reducible refine Qk fun K E hK hE=>?_));simp -implicitDefEqProofs only [Qc,Qd,OpW,aop,AS.ev,↓reduceIte,aBin,u14,seval])|(with_reducible refine Qb ?_)|((with_reducible refine hK _ ?_);clear hK))
      refine Xi.mk (m':=opsB.length - (j+1)) (by omega) ?_
      rw [hI2]
      refine ⟨j+1,rfl,hlt,?_,u0,u1,u2,u6,u7,u12,u13,?_,rfl⟩
      ·intro b hb2
       rw [List.take_succ_eq_append_getElem hlt,List.mem_append,List.mem_singleton] at hb2
       rcases hb2 with hb2|rfl
       ·exact hno b hb2
       ·exact hb
      ·simp only [upd,↓reduceIte]
       rw [Xk (by omega)]
     |true =>
      have hbk:=PS.Qqb hb
      have htx:=Qo5 hb
      have cs:=fun L=>Qgz (P:=P) hW2 (H.app L) hN opsB[j] hb
      simp only [Q1 H] at cs
      have hWn:=hW2.nx
      have hln:=XJ hW2.wf hbk
      repeat (first|((first|(with_reducible (first|refine Qk fun K E hK hE=>?_|refine FunW.ret (FunW.call (cs _)) ?_)));simp -implicitDefEqProofs only [Qc,Qd,OpW,QE,aop,AS.ev,↓reduceIte,Qg,QI,Qs,u0,hi,seval])|(with_reducible refine Qb ?_)|((with_reducible refine hK _ ?_);clear hK))
      refine Qfd (t:=true) rfl ?_
      simp only [↓reduceIte]
      refine Yu ?_
      have hone:s2.oneOf (opsB.map ByteArray.toList)=true:=by
       rw [PS.oneOf,List.any_eq_true]
       exact ⟨_,List.mem_map.2 ⟨_,List.getElem_mem hlt,rfl⟩,hb⟩
      have hk1:k=k - 1+1:=by omega
      have e1:=T.Qqd (h.length+1) t
      have e2:=T.Qqf (h.length+1) t
      cases hop2:g s2.nx with
      |err p e =>
       have hRR:R = .err p e:=by
        rw [← hR2,hk1,XM,if_pos hone,hop2];rfl
       subst hRR
       have c2:=TRd.err HR (s:=s2.nx) (by omega) hWn H hop2 (c6::L)
       refine Q9 3 [(0,1),(1,0),(2,1)] mixed rfl rfl rfl (by kernel_rfl) (fun v h'=>v=Fl p e∧∃ x:PS,h'=ph h P x++(c6::L)) ?_ ?_
       ·rintro tm v h' ⟨rfl,x,rfl⟩
        exact QT H s x p e _ ⟨rfl,_,rfl⟩
       ·simp -implicitDefEqProofs only [Qc,Qd,aop,AS.ev,↓reduceIte,Qw,Qv,ti54,u1,u7,f4,hc7,e1,e2,seval]
        exact fun _=>(FunW.meth c2).mono (by rintro _ _ ⟨rfl,x,rfl⟩;exact ⟨_,rfl,rfl,x,rfl⟩)
      |ok u s3 =>
       have hW3:Wst P.all s3:=Kp.Ps.ok hKp hWn hop2
       have hl3:=(hEat _ hWn.wf u s3 hop2).2
       have hR3:XM g (opsB.map ByteArray.toList) (k - 1) (.mk 2 0 opsB[j] [t,u]) s3=R:=by
        rw [← hR2,hk1,XM,if_pos hone,hop2,htx];rfl
       have c2:=TRd.ok HR (s:=s2.nx) (by omega) hWn H hop2 (c6::L) (k:=h.length+1+(t.sz+1)) (by rw [List.length_cons,hL];omega)
       have g1:∀ X,(L++X)[q]? = some (.cells 54 4 [t.lv (h.length+1)]):=fun X=>by rw [List.getElem?_append_left (by omega)];exact hc7
       have g2:∀ X y,(L++X).set q y=L.set q y++X:=fun X y=>List.set_append_left _ _ (by omega)
       have e3:=T.Qqd (h.length+1+(t.sz+1)) u
       have e4:=T.Qqf (h.length+1+(t.sz+1)) u
       refine Qdm 1 3 [(0,1),(2,1)] [(1,0),(3,2),(4,6),(5,2),(6,2)] [(3,2),(1,0),(4,6),(5,2),(6,2)] mixed rfl (by kernel_rfl) (by kernel_rfl) (by kernel_rfl) (by kernel_rfl) (by kernel_rfl) (by kernel_rfl) fun K hK=>?_
       simp -implicitDefEqProofs only [Qc,Qd,aop,AS.ev,↓reduceIte,Qw,Qv,ti54,u1,u7,f4,hc7,e1,e2,seval]
       have hlt2:h.length+(L.length+(u.lay 54 (h.length+1+(t.sz+1))).length+1)<(ph h P s3++(c6::(L++(u.lay 54 (h.length+1+(t.sz+1))++[.cells 54 4 [t.lv (h.length+1),u.lv (h.length+1+(t.sz+1))]])))).length:=by
        simp only [QrQ,Qrc,Qrd,QS];omega
       have fin:∀ tm':Nat→AV,tm' 0 = .ptr P.i 0 0→tm' 1 = .fn (.func f) [.ptr P.i 0 0] []→tm' 2 = .sl 1 (strs opsB) none→tm' 6 = .ptr h.length 0 0→tm' 7 = .ptr (h.length+(q+1)) 0 0 →
         ∀ Q',ZR Tryd.prog 31 0 (Xi I s2.toks.length) (Code.goto 0) Q' ⟨tm',ph h P s3++(c6::(L.set q (.cells 54 4 [.agg [.i 2,.i 0,.v (.string opsB[j]),.arr (h.length+(L.length+(u.lay 54 (h.length+1+(t.sz+1))).length+1)) 0 2]])++(u.lay 54 (h.length+1+(t.sz+1))++[.cells 54 4 [t.lv (h.length+1),u.lv (h.length+1+(t.sz+1))]])))⟩:=by
        intro tm' v0 v1 v2 v6 v7 Q'
        refine QjE (QjF ⟨s3.toks.length,by omega,?_⟩)
        rw [hI]
        have hlv:(T.mk 2 0 opsB[j] [t,u]).lv (h.length+1) = .agg [.i 2,.i 0,.v (.string opsB[j]),.arr (h.length+(L.length+(u.lay 54 (h.length+1+(t.sz+1))).length+1)) 0 2]:=by
         rw [T.Qqc,hL]
         show AV.agg [_,_,_,AV.arr (h.length+1+szs [t,u] - 1) 0 2]=_
         simp only [szs]
         rw [show h.length+1+(t.sz+1+(u.sz+1+0)) - 1=h.length+(t.sz+1+u.sz+1) by omega]
        have hla:(T.mk 2 0 opsB[j] [t,u]).lay 54 (h.length+1)=(t.lay 54 (h.length+1)++[.dead])++(u.lay 54 (h.length+1+(t.sz+1))++[.cells 54 4 [t.lv (h.length+1),u.lv (h.length+1+(t.sz+1))]]):=by
         show lays _ _ (.cells _ 4 (lvs _ [t,u])) [t,u]=_
         simp only [lays,lvs,QrG,QrF,Qq3,if_false,if_true]
         rw [Nat.add_assoc (h.length+1) t.sz 1,List.append_assoc];rfl
        refine ⟨.mk 2 0 opsB[j] [t,u],s3,q,L.set q (.cells 54 4 [(T.mk 2 0 opsB[j] [t,u]).lv (h.length+1)])++(u.lay 54 (h.length+1+(t.sz+1))++[.cells 54 4 [t.lv (h.length+1),u.lv (h.length+1+(t.sz+1))]]++[.dead]),rfl,by omega,hW3,⟨k - 1,by omega,hR3⟩,?_,?_,?_,?_,?_,v0,v1,v2,v6,v7,?_⟩
        ·simp only [QrQ,List.length_set,Qrc,Qrd,T.Qqc,T.sz,szs];omega
        ·rw [hla]
         have hlt3:(t.lay 54 (h.length+1)++[AB.dead]).length=t.sz+1:=by rw [List.length_append,T.Qqc];rfl
         refine At.both ?_ ?_
         ·refine At.app ?_ _
          refine At.set (At.both hAt (At.cons (fun hx=>by cases hx) (At.nil _ _))) fun b hb hq0=>?_
          rw [Nat.sub_zero,hdead] at hb
          cases hb;rfl
         ·rw [hlt3,List.append_assoc]
          have:=At.mid (L.set q (.cells 54 4 [(T.mk 2 0 opsB[j] [t,u]).lv (h.length+1)])) (u.lay 54 (h.length+1+(t.sz+1))++[.cells 54 4 [t.lv (h.length+1),u.lv (h.length+1+(t.sz+1))]]) [.dead] (n:=0+(t.sz+1)) (by rw [List.length_set,hL,Nat.zero_add])
          rwa [List.append_assoc] at this
        ·rw [T.sz,szs];omega
        ·rw [hla,List.append_assoc,List.getElem?_append_left (by rw [List.length_append,T.Qqc];show q<t.sz+1;omega)];exact hdead
        ·rw [List.getElem?_append_left (by rw [List.length_set];omega),List.getElem?_set_self (by omega)]
        ·rw [hlv];simp only [List.append_assoc,Qrr]
       refine ⟨?_,?_⟩
       ·refine XG (FunW.meth c2) Zv ?_
        simp -implicitDefEqProofs only [Qc,Qd,AS.ev,AV.Qp8,↓reduceIte,QH,ei50,zi54,f1,e1,e3,QR,tokA,Option.isSome_some,List.append_assoc,seval]
        refine XG (FunW.call (QiV _ _ rfl rfl rfl _ (.arr _ _ _ hlt2))) Zv ?_
        simp -implicitDefEqProofs only [Qc,Qd,aop,undef,AS.ev,AV.Qp8,↓reduceIte,QB,Qp,ti54,u7,f4,f6,g1,g2,e1,e2,seval]
        refine hK _ (Qb (fin _ ?_ ?_ ?_ ?_ ?_ _))
        ·exact u0
        ·exact u1
        ·exact u2
        ·exact u6
        ·exact u7
       ·refine XG (FunW.meth c2) Zv ?_
        simp -implicitDefEqProofs only [Qc,Qd,aop,AS.ev,AV.Qp8,↓reduceIte,Qw,Qv,QH,ei50,ti54,zi54,u7,f1,f4,g1,e1,e2,e3,QR,tokA,Option.isSome_some,List.append_assoc,seval]
        refine XG (FunW.call (QiV _ _ rfl rfl rfl _ (.arr _ _ _ hlt2))) Zv ?_
        simp -implicitDefEqProofs only [Qc,Qd,aop,undef,AS.ev,AV.Qp8,↓reduceIte,QB,Qp,ti54,u7,f4,f6,g1,g2,e1,e2,seval]
        refine hK _ (Qb (fin _ ?_ ?_ ?_ ?_ ?_ _))
        ·exact u0
        ·exact u1
        ·exact u2
        ·exact u6
        ·exact u7
    ·have hjl:j=opsB.length:=by omega
     have z1:¬ (((j:Nat):Int)<((opsB.length:Nat):Int)):=by omega
     refine Yu ?_
     repeat (first|(((with_reducible refine Qk fun K E hK hE=>?_));simp -implicitDefEqProofs only [Qc,Qd,OpW,aop,AS.ev,Nat.reduceLT,aBin,u14,u13,z1])|(with_reducible refine Qb ?_)|((with_reducible refine hK _ ?_);clear hK))
     refine Yu ?_
     repeat (first|(with_reducible (first|refine QG ?_|refine Qb ?_|refine QD ?_|refine QC ?_))|(refine Qh rfl ?_;simp only [↓reduceIte,Qq3]))
     refine QcF ?_
     have e1:=T.Qqd (h.length+1) t
     have e2:=T.Qqf (h.length+1) t
     repeat (first|(((with_reducible refine Qa fun K E hK hE=>?_));simp -implicitDefEqProofs only [Qc,Qd,OpW,aop,undef,AS.ev,AV.Qp8,↓reduceIte,Qw,Qv,QB,Qp,ti54,u6,u7,f3,f4,f5,hc7,e1,e2,QR,seval])|(with_reducible refine Ql ?_)|((with_reducible refine hK _ ?_);clear hK))
     simp -implicitDefEqProofs only [Qc,↓reduceIte,Qw,Qv,ti54,Qw,Qv,u6,f3,e1,e2,QF,Qn,Qr,Qq9,seval]
     have hone:s2.oneOf (opsB.map ByteArray.toList)=false:=by
      rw [PS.oneOf,List.any_eq_false]
      intro b hb
      obtain ⟨b',hb',rfl⟩:=List.mem_map.1 hb
      rw [hjl,List.take_length] at hno
      rw [hno b' hb'];simp
     have hRR:R = .ok t s2:=by
      rw [← hR2]
      cases k with
      |zero=>rfl
      |succ k=>rw [XM,hone];rfl
     subst hRR
     refine .inr ⟨rfl,_,rfl,fun i b hb hl=>?_⟩
     have:=hAt i b hb hl
     rw [show 1+i=(0+i)+1 by omega,List.getElem?_cons_succ];exact this
   ·rw [hI2]
    exact ⟨0,rfl,Nat.zero_le _,by simp,t0,t1,t2,t6,t7,rfl,rfl,rfl,rfl⟩
end
end Go.Proofs.YticgcpebdldbgaaDoor.Ab
set_option maxRecDepth 4000
namespace Go.Proofs.YticgcpebdldbgaaDoor.Ab
open Go.Proofs
theorem Qpz {P:Pz} {f:FuncId} {args:List AV} {h0 h:AH} {L:AH} {t:T} {s2:PS} (H:P.ok h) (C:QJ Tryd.prog f args h0 (TQ (h++L) P (.ok t s2))) {k:Nat} (hk:k=h.length+L.length):QJ Tryd.prog f args h0 fun o h'=>o = .ret (t.lv k)∧h'=ph h P s2++(L++t.lay 54 k):=by
 subst hk
 exact C.mono fun o h' q=>by simpa only [TQ,Q1 H,QrQ,List.append_assoc] using q
theorem QnY {P:Pz} {f:FuncId} {args:List AV} {h0 h:AH} {L:AH} {p c:Int} (H:P.ok h) (C:QJ Tryd.prog f args h0 (TQ (h++L) P (.err p c))):QJ Tryd.prog f args h0 fun o h'=>o = .panic (Fl p c)∧∃ s2:PS,h'=ph h P s2++L :=
 C.mono fun o h' q=>by simpa only [TQ,Q1 H] using q
section
variable {P:Pz} {g:PS→PR T} {Nn:Nat} (hEat:Eat 0 g) (hKp:Kp.Ps (wdOf P.all) g) (hN:P.all.length≤1000000)
include hEat hKp hN
theorem Qfa {f:FuncId} (HR:TRd P f g Nn) (opsB:List ByteArray) (hob:opsB.length≤10) {s:PS} (hs:s.toks.length<Nn) (hW:Wst P.all s) {h:AH} (H:P.ok h) :
  QJ Tryd.prog 85 [.ptr P.i 0 0,.fn (.func f) [.ptr P.i 0 0] [],.sl 1 (strs opsB) none] (ph h P s) (TQ h P (X5 g (opsB.map ByteArray.toList) s)) :=
 QdG H 1 (QkY HR hEat hKp opsB hob hs hW H hN)
theorem Qj6 (HR:TRd P 94 g Nn):TRd P 86 (X5 g YE) Nn:=by
 intro s hs hW h H
 have cc:=Qfa hEat hKp hN HR [{data:=#[42]},{data:=#[47]},{data:=#[37]}] (by simp) hs hW (H.app [c6])
 have eo:List.map ByteArray.toList [{data:=#[42]},{data:=#[47]},{data:=#[37]}]=YE:=by
  simp only [Qre,Qri,Lib.toList_data];rfl
 rw [eo,Q1 H] at cc
 simp only [strs,Qre,Qri] at cc
 have f1:=QS h P
 have f3:=Xr h P
 have f5:=Xe h P
 refine QdG H 1 ?_
 cases hr:X5 g YE s with
 |err p e =>
  rw [hr] at cc
  replace cc:=QnY H cc
  refine Qe Tryd.func86 rfl Tryd.call86 Tryd.ntmps86 (congrArg Array.toList Tryd.results86) (by simp) ?_
  repeat (first|((first|(with_reducible (first|refine Qa fun K E hK hE=>?_|refine FunW.panE (FunW.call cc) fun r=>?_)));simp -implicitDefEqProofs only [Qc,Qd,OpW,QE,aop,undef,AS.ev,Qq,AV.Qp8,↓reduceIte,QH,zi9,ei46,zi54,f1,seval])|((with_reducible refine hK _ ?_);clear hK)|(with_reducible refine hE _ _ ?_))
  exact QT H s r p e _ ⟨rfl,_,rfl⟩
 |ok t s2 =>
  rw [hr] at cc
  replace cc:=Qpz H cc (k:=h.length+1) rfl
  have e1:=T.Qqd (h.length+1) t
  have e2:=T.Qqf (h.length+1) t
  refine Qe Tryd.func86 rfl Tryd.call86 Tryd.ntmps86 (congrArg Array.toList Tryd.results86) (by simp) ?_
  repeat (first|((first|(with_reducible (first|refine Qa fun K E hK hE=>?_|refine FunW.ret (FunW.call cc) ?_)));simp -implicitDefEqProofs only [Qc,Qd,OpW,QE,aop,undef,AS.ev,Qq,AV.Qp8,↓reduceIte,QB,Qp,QH,zi9,ei46,ti54,zi54,f1,f3,f5,e1,e2,QR,seval])|(with_reducible refine Ql ?_)|((with_reducible refine hK _ ?_);clear hK))
  simp -implicitDefEqProofs only [Qc,↓reduceIte,ti54,Qw,Qv,f3,e1,e2,QF,Qn,Qr,Qq9,seval]
  exact .inr ⟨rfl,_,rfl,At.tail (At.all _)⟩
theorem Qod (HR:TRd P 86 g Nn):TRd P 73 (X5 g ZW) Nn:=by
 intro s hs hW h H
 have cc:=Qfa hEat hKp hN HR [{data:=#[43]},{data:=#[45]}] (by simp) hs hW (H.app [c6])
 have eo:List.map ByteArray.toList [{data:=#[43]},{data:=#[45]}]=ZW:=by
  simp only [Qre,Qri,Lib.toList_data];rfl
 rw [eo,Q1 H] at cc
 simp only [strs,Qre,Qri] at cc
 have f1:=QS h P
 have f3:=Xr h P
 have f5:=Xe h P
 refine QdG H 1 ?_
 cases hr:X5 g ZW s with
 |err p e =>
  rw [hr] at cc
  replace cc:=QnY H cc
  refine Qe Tryd.func73 rfl Tryd.call73 Tryd.ntmps73 (congrArg Array.toList Tryd.results73) (by simp) ?_
  repeat (first|((first|(with_reducible (first|refine Qa fun K E hK hE=>?_|refine FunW.panE (FunW.call cc) fun r=>?_)));simp -implicitDefEqProofs only [Qc,Qd,OpW,QE,aop,undef,AS.ev,Qq,AV.Qp8,↓reduceIte,QH,zi9,ei46,zi54,f1,seval])|((with_reducible refine hK _ ?_);clear hK)|(with_reducible refine hE _ _ ?_))
  exact QT H s r p e _ ⟨rfl,_,rfl⟩
 |ok t s2 =>
  rw [hr] at cc
  replace cc:=Qpz H cc (k:=h.length+1) rfl
  have e1:=T.Qqd (h.length+1) t
  have e2:=T.Qqf (h.length+1) t
  refine Qe Tryd.func73 rfl Tryd.call73 Tryd.ntmps73 (congrArg Array.toList Tryd.results73) (by simp) ?_
  repeat (first|((first|(with_reducible (first|refine Qa fun K E hK hE=>?_|refine FunW.ret (FunW.call cc) ?_)));simp -implicitDefEqProofs only [Qc,Qd,OpW,QE,aop,undef,AS.ev,Qq,AV.Qp8,↓reduceIte,QB,Qp,QH,zi9,ei46,ti54,zi54,f1,f3,f5,e1,e2,QR,seval])|(with_reducible refine Ql ?_)|((with_reducible refine hK _ ?_);clear hK))
  simp -implicitDefEqProofs only [Qc,↓reduceIte,ti54,Qw,Qv,f3,e1,e2,QF,Qn,Qr,Qq9,seval]
  exact .inr ⟨rfl,_,rfl,At.tail (At.all _)⟩
end
end Go.Proofs.YticgcpebdldbgaaDoor.Ab
namespace Go.Proofs.YticgcpebdldbgaaDoor.Ab
def Qjf (ops:Array Oper) (ms:List Nat) (z w x y:Nat):List (Nat×Nat)→Bool
 |[]=>true
 |(i,ci)::l=>(l.all fun p=>match ops[i]?,ops[p.1]? with
   |some a,some b=>!clash ops a b ci p.2||(QcC ms x y i p.1||QcC ms z w i p.1)
   |_,_=>false)&&Qjf ops ms z w x y l
theorem Qel {ops:Array Oper} {ms:List Nat} {z w x y:Nat} (hm:∀ (k i:Nat),(ms.getD k 0).testBit i=true→Anc ops i k):∀ (tr:List Tr),Qjf ops ms z w x y (tr.map fun t=>(t.i,t.c))=true→(∀ t∈tr,ops[t.i]? = some t.o) →
  tr.Pairwise (fun a b=>clash ops a.o b.o a.c b.c=true→AncX ops x y a.i b.i∨AncX ops z w a.i b.i)
 |[],_,_=>.nil
 |t::l,h,ho=>by
  simp only [Qre,Qjf,Bool.and_eq_true,List.all_eq_true] at h
  have key:∀ x y i j,QcC ms x y i j=true→AncX ops x y i j:=fun x y i j h=>by
   simp only [QcC,Bool.or_eq_true,Bool.and_eq_true,beq_iff_eq] at h
   rcases h with h1|⟨h1,h2⟩
   ·exact .inl (hm _ _ h1)
   ·exact .inr ⟨h1.imp id (hm _ _),h2.imp id (hm _ _)⟩
  refine List.pairwise_cons.2 ⟨fun b hb hc=>?_,Qel hm l h.2 fun t ht=>ho t (by simp [ht])⟩
  have:=h.1 (b.i,b.c) (List.mem_map.2 ⟨b,hb,rfl⟩)
  simp only [ho t (by simp),ho b (by simp [hb]),hc,Qrm,Bool.false_or,Bool.or_eq_true] at this
  exact this.imp (key _ _ _ _) (key _ _ _ _)
def okZ (ops:Array Oper) (z w x y:Nat) (π:List (Nat×Nat)):Bool :=
 π.length==ops.size&&Qjf ops (masks ops.toList []) z w x y π&&topo ops [] π&&Qhl (π.map (·.1))&&((List.range ops.size).all fun i=>(π.map (·.1)).contains i) &&
 π.all fun p=>match ops[p.1]? with|some o=>kindOk o p.2|none=>false
structure FitZ (ops:Array Oper) (z w x y:Nat) (tr:List Tr):Prop where
 len:tr.length=ops.size
 pairs:tr.Pairwise (fun a b=>clash ops a.o b.o a.c b.c=true→AncX ops x y a.i b.i∨AncX ops z w a.i b.i)
 topo:topo ops [] (tr.map fun t=>(t.i,t.c))=true
 nodup:(tr.map (·.i)).Nodup
 all:∀ i,i<ops.size→∃ t∈tr,t.i=i
 kind:∀ t∈tr,kindOk t.o t.c=true
theorem Qnd {P:Program} {N:Nat} {ops:Array Oper} {z w x y:Nat} {tr:List Tr} {tm:Nat→AV} {h:AH} (hruns:Runs P N ops tr tm h) (hok:okZ ops z w x y (tr.map fun t=>(t.i,t.c))=true):FitZ ops z w x y tr:=by
 simp only [okZ,Bool.and_eq_true] at hok
 obtain ⟨⟨⟨⟨⟨hp0,hp1⟩,hp2⟩,hp3⟩,hp4⟩,hp5⟩:=hok
 have hops:=Qab hruns
 refine ⟨by have:=beq_iff_eq.1 hp0;simpa using this,Qel (YU ops.toList [] (fun j o h=>by simpa using h) (fun k i h=>by simp at h)) tr hp1 hops,hp2,?_,?_,?_⟩
 ·have:=ZT hp3
  rw [List.map_map] at this
  exact this
 ·intro i hi
  have:=List.all_eq_true.1 hp4 i (List.mem_range.2 hi)
  have:i∈(tr.map fun t=>(t.i,t.c)).map (·.1):=by simpa using this
  rw [List.map_map] at this
  obtain ⟨t,ht,rfl⟩:=List.mem_map.1 this
  exact ⟨t,ht,rfl⟩
 ·intro t ht
  have:=List.all_eq_true.1 hp5 (t.i,t.c) (List.mem_map.2 ⟨t,ht,rfl⟩)
  simpa [hops t ht] using this
theorem FitX.toZ {ops:Array Oper} {x y:Nat} {tr:List Tr} (h:FitX ops x y tr) (z w:Nat):FitZ ops z w x y tr:=⟨h.len,h.pairs.imp fun h hc=>.inl (h hc),h.topo,h.nodup,h.all,h.kind⟩
theorem Qdh {P:Program} {N:Nat} {base:Bs×Fence} {ops:Array Oper} {F:Fence} {n:Nat} (hF:WF F) {Qx:Exit→Act→World→Prop} {z w x y:Nat} {tr:List Tr} {tm0:Nat→AV} {h0:AH} (hruns:Runs P N ops tr tm0 h0) (hfit:FitZ ops z w x y tr) :
  ∀ (fuel:Nat) (listed:Array Bool) (c:Cx) (a:Act),listed.size=ops.size→Down ops (fun i=>listed.getD i false)→listed.getD x false=true→listed.getD z false=true→St c→SR N base c ⟨tmS N (fun i=>listed.getD i false) tr tm0,hS (fun i=>listed.getD i false) tr h0⟩ a →
   tr.countP (fun t=>!listed.getD t.i false)≤fuel →
   (∀ c' a',Ev c c'→St c'→SR N base c' ⟨tmS N (fun _=>true) tr tm0,hS (fun _=>true) tr h0⟩ a'→Qx .normal a' c'.w)→wpAnyIn F n P .any ops Qx fuel listed a c.w:=by
 intro fuel
 induction fuel with
 |zero =>
  intro listed c a hsz hd hx hz hst hr hc hQ
  have hl:∀ t∈tr,listed.getD t.i false=true:=fun t ht=>by
   have:=List.countP_eq_zero.1 (Nat.le_zero.1 hc) t ht
   simpa using this
  exact ⟨any_zero hsz hfit.all hl,YC hst hr hQ hl⟩
 |succ fuel ih =>
  intro listed c a hsz hd hx hz hst hr hc hQ
  refine ⟨fun h=>YC hst hr hQ fun t ht=>ZD hsz h _ [] hfit.topo (fun i hi=>by cases hi) (t.i,t.c) (List.mem_map.2 ⟨t,ht,rfl⟩),fun i hi=>?_⟩
  have hi':=hi
  obtain ⟨h1,o,ho,_⟩:=mem_ready.1 hi'
  have hlt:i<ops.size:=(Array.getElem?_eq_some_iff.1 ho).1
  obtain ⟨t,ht,hti⟩:=hfit.all i hlt
  have hd':=ZF hsz hd hi
  have hx':(listed.setIfInBounds i true).getD x false=true:=by rw [Yd (by omega),hx];simp
  have hz':(listed.setIfInBounds i true).getD z false=true:=by rw [Yd (by omega),hz];simp
  exact YN (A:=fun i j=>AncX ops x y i j∨AncX ops z w i j) hF hruns hfit.pairs hfit.nodup hfit.kind hi ht hti hsz (fun i j h hj=>Or.elim h (fun h=>AncX.good hd (fun _=>hx) h hj) fun h=>AncX.good hd (fun _=>hz) h hj) (fun i j h hj=>Or.elim h (fun h=>AncX.good hd' (fun _=>hx') h hj) fun h=>AncX.good hd' (fun _=>hz') h hj) hst hr fun c' a' hev hst' hr' =>
   ih _ c' a' (by simpa using hsz) hd' hx' hz' hst' hr' (Xo hsz ⟨t,ht,hti⟩ hi hc) fun c2 a2 e2 s2 r2=>hQ c2 a2 (Ev.trans hst hev e2) s2 r2
theorem Qks {P:Program} {N:Nat} {base:Bs×Fence} {ops:Array Oper} {F:Fence} {n:Nat} (hF:WF F) {Qx:Exit→Act→World→Prop} {z w x y:Nat} (hxy:x≠y) {ρ t1 t2:List Tr} {tm0:Nat→AV} {h0:AH} (hr1:Runs P N ops (ρ++t1) tm0 h0) (hr2:Runs P N ops (ρ++t2) tm0 h0)
  (hf1:FitZ ops z w x y (ρ++t1)) (hf2:FitZ ops z w y x (ρ++t2)) (hn1:∀ t∈t1,∀ S:Nat→Bool,Down ops S→S x=false→S y=false→S t.i=false) (hn2:∀ t∈t2,∀ S:Nat→Bool,Down ops S→S x=false→S y=false→S t.i=false) :
  ∀ (fuel:Nat) (listed:Array Bool) (c:Cx) (a:Act),listed.size=ops.size→Down ops (fun i=>listed.getD i false)→listed.getD x false=false→listed.getD y false=false→listed.getD z false=true→St c →
   SR N base c ⟨tmS N (fun i=>listed.getD i false) (ρ++t1) tm0,hS (fun i=>listed.getD i false) (ρ++t1) h0⟩ a→(ρ++t1).countP (fun t=>!listed.getD t.i false)≤fuel→(ρ++t2).countP (fun t=>!listed.getD t.i false)≤fuel →
   (∀ c' a',Ev c c'→St c'→SR N base c' ⟨tmS N (fun _=>true) (ρ++t1) tm0,hS (fun _=>true) (ρ++t1) h0⟩ a'→Qx .normal a' c'.w) →
   (∀ c' a',Ev c c'→St c'→SR N base c' ⟨tmS N (fun _=>true) (ρ++t2) tm0,hS (fun _=>true) (ρ++t2) h0⟩ a'→Qx .normal a' c'.w)→wpAnyIn F n P .any ops Qx fuel listed a c.w:=by
 intro fuel
 induction fuel with
 |zero =>
  intro listed c a hsz hd hx hy hz hst hr hc hc2 hQ hQ2
  have hl:∀ t∈ρ++t1,listed.getD t.i false=true:=fun t ht=>by
   have:=List.countP_eq_zero.1 (Nat.le_zero.1 hc) t ht
   simpa using this
  exact ⟨any_zero hsz hf1.all hl,YC hst hr hQ hl⟩
 |succ fuel ih =>
  intro listed c a hsz hd hx hy hz hst hr hc hc2 hQ hQ2
  refine ⟨fun h=>YC hst hr hQ fun t ht=>ZD hsz h _ [] hf1.topo (fun i hi=>by cases hi) (t.i,t.c) (List.mem_map.2 ⟨t,ht,rfl⟩),fun i hi=>?_⟩
  have hi':=hi
  obtain ⟨h1,o,ho,_⟩:=mem_ready.1 hi'
  have hlt:i<ops.size:=(Array.getElem?_eq_some_iff.1 ho).1
  have hd':=ZF hsz hd hi
  have hset:∀ j,(listed.setIfInBounds i true).getD j false=(decide (j=i)||listed.getD j false):=fun j=>Yd (by omega)
  have hz':(listed.setIfInBounds i true).getD z false=true:=by rw [hset,hz];simp
  by_cases hiy:i=y
  ·-- the second order
   subst hiy
   obtain ⟨t,ht,hti⟩:=hf2.all i hlt
   have skip1:tmS N (fun i=>listed.getD i false) (ρ++t1) tm0=tmS N (fun i=>listed.getD i false) (ρ++t2) tm0:=by
    funext z
    have k1:∀ t∈t1,listed.getD t.i false=true→t.o.dst≠some z:=fun t ht hs _=>by
     have:=hn1 t ht _ hd hx hy
     rw [hs] at this;cases this
    have k2:∀ t∈t2,listed.getD t.i false=true→t.o.dst≠some z:=fun t ht hs _=>by
     have:=hn2 t ht _ hd hx hy
     rw [hs] at this;cases this
    rw [XQ,XQ,XO (S:=fun i=>listed.getD i false) k1,XO (S:=fun i=>listed.getD i false) k2]
   have skip2:hS (fun i=>listed.getD i false) (ρ++t1) h0=hS (fun i=>listed.getD i false) (ρ++t2) h0:=by
    rw [Ym,Ym,Ys (S:=fun i=>listed.getD i false) fun t ht _=>hn1 t ht _ hd hx hy,Ys (S:=fun i=>listed.getD i false) fun t ht _=>hn2 t ht _ hd hx hy]
   rw [skip1,skip2] at hr
   have hy':(listed.setIfInBounds i true).getD i false=true:=by rw [hset];simp
   exact YN (A:=fun p q=>AncX ops i x p q∨AncX ops z w p q) hF hr2 hf2.pairs hf2.nodup hf2.kind hi ht hti hsz (fun j k h hk=>Or.elim h (fun h=>AncX.good hd (fun hxx=>by rw [hx] at hxx;cases hxx) h hk) fun h=>AncX.good hd (fun _=>hz) h hk) (fun j k h hk=>Or.elim h (fun h=>AncX.good hd' (fun _=>hy') h hk) fun h=>AncX.good hd' (fun _=>hz') h hk) hst hr fun c' a' hev hst' hr' =>
    Qdh hF hr2 hf2 fuel _ c' a' (by simpa using hsz) hd' hy' hz' hst' hr' (Xo hsz ⟨t,ht,hti⟩ hi hc2) fun c2 a2 e2 s2 r2=>hQ2 c2 a2 (Ev.trans hst hev e2) s2 r2
  ·obtain ⟨t,ht,hti⟩:=hf1.all i hlt
   have hy':(listed.setIfInBounds i true).getD y false=false:=by rw [hset,hy];simp;exact fun h=>hiy h.symm
   refine YN (A:=fun p q=>AncX ops x y p q∨AncX ops z w p q) hF hr1 hf1.pairs hf1.nodup hf1.kind hi ht hti hsz (fun j k h hk=>Or.elim h (fun h=>AncX.good hd (fun hyy=>by rw [hy] at hyy;cases hyy) h hk) fun h=>AncX.good hd (fun _=>hz) h hk) (fun j k h hk=>Or.elim h (fun h=>AncX.good hd' (fun hyy=>by have hyy2:(listed.setIfInBounds i true).getD y false=true:=hyy;rw [hy'] at hyy2;cases hyy2) h hk) fun h=>AncX.good hd' (fun _=>hz') h hk) hst hr fun c' a' hev hst' hr'=>?_
   by_cases hix:i=x
   ·subst hix
    have hx':(listed.setIfInBounds i true).getD i false=true:=by rw [hset];simp
    exact Qdh hF hr1 hf1 fuel _ c' a' (by simpa using hsz) hd' hx' hz' hst' hr' (Xo hsz ⟨t,ht,hti⟩ hi hc) fun c2 a2 e2 s2 r2=>hQ c2 a2 (Ev.trans hst hev e2) s2 r2
   ·have hx':(listed.setIfInBounds i true).getD x false=false:=by rw [hset,hx];simp;exact fun h=>hix h.symm
    exact ih _ c' a' (by simpa using hsz) hd' hx' hy' hz' hst' hr' (Xo hsz ⟨t,ht,hti⟩ hi hc) (Xo hsz (hf2.all i hlt) hi hc2) (fun c2 a2 e2 s2 r2=>hQ c2 a2 (Ev.trans hst hev e2) s2 r2) fun c2 a2 e2 s2 r2=>hQ2 c2 a2 (Ev.trans hst hev e2) s2 r2
theorem QiI {P:Program} {N:Nat} {base:Bs×Fence} {ops:Array Oper} {F:Fence} {n:Nat} (hF:WF F) {Qx:Exit→Act→World→Prop} {z x y:Nat} (hzy:z≠y) (hxy:x≠y) (hzx:z≠x) (hanc:Anc ops z x) {ρ ρ2 t1 t2 t3:List Tr} {tm0:Nat→AV} {h0:AH}
  (hr1:Runs P N ops (ρ++t1) tm0 h0) (hr2:Runs P N ops ((ρ++ρ2)++t2) tm0 h0) (hr3:Runs P N ops ((ρ++ρ2)++t3) tm0 h0)
  (hf1:FitX ops y z (ρ++t1)) (hf2:FitZ ops z y y x ((ρ++ρ2)++t2)) (hf3:FitX ops x y ((ρ++ρ2)++t3))
  (hn1:∀ t∈t1,∀ S:Nat→Bool,Down ops S→S z=false→S y=false→S t.i=false) (hn23:∀ t∈ρ2++t3,∀ S:Nat→Bool,Down ops S→S z=false→S y=false→S t.i=false)
  (hn2:∀ t∈t2,∀ S:Nat→Bool,Down ops S→S x=false→S y=false→S t.i=false) (hn3:∀ t∈t3,∀ S:Nat→Bool,Down ops S→S x=false→S y=false→S t.i=false) :
  ∀ (fuel:Nat) (listed:Array Bool) (c:Cx) (a:Act),listed.size=ops.size→Down ops (fun i=>listed.getD i false)→listed.getD z false=false→listed.getD y false=false→St c →
   SR N base c ⟨tmS N (fun i=>listed.getD i false) ((ρ++ρ2)++t3) tm0,hS (fun i=>listed.getD i false) ((ρ++ρ2)++t3) h0⟩ a→(ρ++t1).countP (fun t=>!listed.getD t.i false)≤fuel→((ρ++ρ2)++t2).countP (fun t=>!listed.getD t.i false)≤fuel→((ρ++ρ2)++t3).countP (fun t=>!listed.getD t.i false)≤fuel →
   (∀ c' a',Ev c c'→St c'→SR N base c' ⟨tmS N (fun _=>true) (ρ++t1) tm0,hS (fun _=>true) (ρ++t1) h0⟩ a'→Qx .normal a' c'.w) →
   (∀ c' a',Ev c c'→St c'→SR N base c' ⟨tmS N (fun _=>true) ((ρ++ρ2)++t2) tm0,hS (fun _=>true) ((ρ++ρ2)++t2) h0⟩ a'→Qx .normal a' c'.w) →
   (∀ c' a',Ev c c'→St c'→SR N base c' ⟨tmS N (fun _=>true) ((ρ++ρ2)++t3) tm0,hS (fun _=>true) ((ρ++ρ2)++t3) h0⟩ a'→Qx .normal a' c'.w)→wpAnyIn F n P .any ops Qx fuel listed a c.w:=by
 intro fuel
 induction fuel with
 |zero =>
  intro listed c a hsz hd hz hy hst hr hc hc2 hc3 hQ hQ2 hQ3
  have hl:∀ t∈(ρ++ρ2)++t3,listed.getD t.i false=true:=fun t ht=>by
   have:=List.countP_eq_zero.1 (Nat.le_zero.1 hc3) t ht
   simpa using this
  exact ⟨any_zero hsz hf3.all hl,YC hst hr hQ3 hl⟩
 |succ fuel ih =>
  intro listed c a hsz hd hz hy hst hr hc hc2 hc3 hQ hQ2 hQ3
  refine ⟨fun h=>YC hst hr hQ3 fun t ht=>ZD hsz h _ [] hf3.topo (fun i hi=>by cases hi) (t.i,t.c) (List.mem_map.2 ⟨t,ht,rfl⟩),fun i hi=>?_⟩
  have hi':=hi
  obtain ⟨h1,o,ho,_⟩:=mem_ready.1 hi'
  have hlt:i<ops.size:=(Array.getElem?_eq_some_iff.1 ho).1
  have hd':=ZF hsz hd hi
  have hset:∀ j,(listed.setIfInBounds i true).getD j false=(decide (j=i)||listed.getD j false):=fun j=>Yd (by omega)
  by_cases hiy:i=y
  ·-- the one comes first
   subst hiy
   obtain ⟨t,ht,hti⟩:=hf1.all i hlt
   have k1:∀ t∈t1,listed.getD t.i false=false:=fun t ht=>hn1 t ht _ hd hz hy
   have k2:∀ t∈ρ2++t3,listed.getD t.i false=false:=fun t ht=>hn23 t ht _ hd hz hy
   have skip1:tmS N (fun i=>listed.getD i false) ((ρ++ρ2)++t3) tm0=tmS N (fun i=>listed.getD i false) (ρ++t1) tm0:=by
    funext u
    have l1:∀ t∈t1,listed.getD t.i false=true→t.o.dst≠some u:=fun t ht hs _=>by rw [k1 t ht] at hs;cases hs
    have l2:∀ t∈ρ2++t3,listed.getD t.i false=true→t.o.dst≠some u:=fun t ht hs _=>by rw [k2 t ht] at hs;cases hs
    rw [List.append_assoc,XQ N _ ρ (ρ2++t3),XQ N _ ρ t1,XO (S:=fun i=>listed.getD i false) l2,XO (S:=fun i=>listed.getD i false) l1]
   have skip2:hS (fun i=>listed.getD i false) ((ρ++ρ2)++t3) h0=hS (fun i=>listed.getD i false) (ρ++t1) h0:=by
    rw [List.append_assoc,Ym _ ρ (ρ2++t3),Ym _ ρ t1,Ys (S:=fun i=>listed.getD i false) fun t ht _=>k2 t ht,Ys (S:=fun i=>listed.getD i false) fun t ht _=>k1 t ht]
   rw [skip1,skip2] at hr
   have hy':(listed.setIfInBounds i true).getD i false=true:=by rw [hset];simp
   exact YN hF hr1 hf1.pairs hf1.nodup hf1.kind hi ht hti hsz (fun j k h hk=>AncX.good hd (fun hxx=>by rw [hz] at hxx;cases hxx) h hk) (fun j k h hk=>AncX.good hd' (fun _=>hy') h hk) hst hr fun c' a' hev hst' hr' =>
    QbU hF hr1 hf1 fuel _ c' a' (by simpa using hsz) hd' hy' hst' hr' (Xo hsz ⟨t,ht,hti⟩ hi hc) fun c2 a2 e2 s2 r2=>hQ c2 a2 (Ev.trans hst hev e2) s2 r2
  ·obtain ⟨t,ht,hti⟩:=hf3.all i hlt
   have hy':(listed.setIfInBounds i true).getD y false=false:=by rw [hset,hy];simp;exact fun h=>hiy h.symm
   refine YN hF hr3 hf3.pairs hf3.nodup hf3.kind hi ht hti hsz (fun j k h hk=>AncX.good hd (fun hyy=>by rw [hy] at hyy;cases hyy) h hk) (fun j k h hk=>AncX.good hd' (fun hyy=>by have hyy2:(listed.setIfInBounds i true).getD y false=true:=hyy;rw [hy'] at hyy2;cases hyy2) h hk) hst hr fun c' a' hev hst' hr'=>?_
   by_cases hiz:i=z
   ·subst hiz
    have hz':(listed.setIfInBounds i true).getD i false=true:=by rw [hset];simp
    have hx0:listed.getD x false=false:=by
     cases hb:listed.getD x false with
     |false=>rfl
     |true=>have h9:listed.getD i false=true:=hd.anc hanc hb;rw [hz] at h9;cases h9
    have hx':(listed.setIfInBounds i true).getD x false=false:=by rw [hset,hx0];simp;exact fun h=>hzx h.symm
    exact Qks hF hxy hr3 hr2 (hf3.toZ i y) hf2 hn3 hn2 fuel _ c' a' (by simpa using hsz) hd' hx' hy' hz' hst' hr' (Xo hsz ⟨t,ht,hti⟩ hi hc3) (Xo hsz (hf2.all i hlt) hi hc2) (fun c2 a2 e2 s2 r2=>hQ3 c2 a2 (Ev.trans hst hev e2) s2 r2) fun c2 a2 e2 s2 r2=>hQ2 c2 a2 (Ev.trans hst hev e2) s2 r2
   ·have hz':(listed.setIfInBounds i true).getD z false=false:=by rw [hset,hz];simp;exact fun h=>hiz h.symm
    exact ih _ c' a' (by simpa using hsz) hd' hz' hy' hst' hr' (Xo hsz (hf1.all i hlt) hi hc) (Xo hsz (hf2.all i hlt) hi hc2) (Xo hsz ⟨t,ht,hti⟩ hi hc3) (fun c2 a2 e2 s2 r2=>hQ c2 a2 (Ev.trans hst hev e2) s2 r2) (fun c2 a2 e2 s2 r2=>hQ2 c2 a2 (Ev.trans hst hev e2) s2 r2) fun c2 a2 e2 s2 r2=>hQ3 c2 a2 (Ev.trans hst hev e2) s2 r2
theorem Zi {P:Program} {N:Nat} {Q:AExit→AS→Prop} {s:AS} {id:Nat} {ops:Array Oper} (z x y:Nat) (ρ σ1 ρ2 σ2 σ3:List (Nat×Nat)) (hm:P.follows .mixedOrders=true)
  (hne:((z==y)||(x==y)||(z==x))=false) (hza:((masks ops.toList []).getD x 0).testBit z=true)
  (hok1:okX ops y z (ρ++σ1)=true) (hok2:okZ ops z y y x ((ρ++ρ2)++σ2)=true) (hok3:okX ops x y ((ρ++ρ2)++σ3)=true) (hb:((σ1++(ρ2++σ3)).all fun p=>behind ops z y p.1)=true) (hb2:((σ2++σ3).all fun p=>behind ops x y p.1)=true)
  (hk:Qah ops ρ=true) (hk1:Qah ops σ1=true) (hkr:Qah ops ρ2=true) (hk2:Qah ops σ2=true) (hk3:Qah ops σ3=true)
  (H:∀ (K:AS→Prop),(∀ s,Q .normal s→K s)→AnyW P N ops ρ (fun s=>AnyW P N ops σ1 K s∧AnyW P N ops ρ2 (fun s=>AnyW P N ops σ2 K s∧AnyW P N ops σ3 K s) s) s):XF P N (.region id ops true) Q s:=by
 intro F n base c a hF hst hr R hR
 refine wpIn_region_any hm ?_
 obtain ⟨tm,hp⟩:=s
 obtain ⟨ρ',rfl,hρ,hK1,hKr⟩:=Yg (H _ (fun s h=>h)) hk
 obtain ⟨t1,rfl,hr1,hQ1⟩:=Yg hK1 hk1
 obtain ⟨ρ2',rfl,hρ2,hK2,hK3⟩:=Yg hKr hkr
 obtain ⟨t2,rfl,hr2,hQ2⟩:=Yg hK2 hk2
 obtain ⟨t3,rfl,hr3,hQ3⟩:=Yg hK3 hk3
 have hruns1:=hρ.append hr1
 have hρρ:=hρ.append hρ2
 have e0:∀ l:List Tr,tmS N (fun _=>true) (ρ'++ρ2') tm=tmS N (fun _=>true) ρ2' (tmS N (fun _=>true) ρ' tm)∧hS (fun _=>true) (ρ'++ρ2') hp=hS (fun _=>true) ρ2' (hS (fun _=>true) ρ' hp):=fun _=>⟨XQ _ _ _ _ _,Ym _ _ _ _⟩
 have hruns2:=hρρ.append (m:=t2) (by rw [(e0 []).1,(e0 []).2];exact hr2)
 have hruns3:=hρρ.append (m:=t3) (by rw [(e0 []).1,(e0 []).2];exact hr3)
 rw [← List.map_append] at hok1
 rw [← List.map_append,← List.map_append] at hok2 hok3
 have hf1:=QdB hruns1 hok1
 have hf2:=Qnd hruns2 hok2
 have hf3:=QdB hruns3 hok3
 have hm':∀ (k i:Nat),((masks ops.toList []).getD k 0).testBit i=true→Anc ops i k:=YU ops.toList [] (fun j o h=>by simpa using h) (fun k i h=>by simp at h)
 have hbeh:∀ x y i,behind ops x y i=true→∀ S:Nat→Bool,Down ops S→S x=false→S y=false→S i=false:=by
  intro x y i hi S hd hx hy
  cases hS:S i with
  |false=>rfl
  |true =>
   exfalso
   simp only [behind,Bool.or_eq_true,beq_iff_eq] at hi
   rcases hi with ((rfl|rfl)|h)|h
   ·rw [hx] at hS;cases hS
   ·rw [hy] at hS;cases hS
   ·have:=hd.anc (hm' _ _ h) hS;rw [hx] at this;cases this
   ·have:=hd.anc (hm' _ _ h) hS;rw [hy] at this;cases this
 rw [List.all_eq_true] at hb hb2
 simp only [Bool.or_eq_false_iff,beq_eq_false_iff_ne,ne_eq] at hne
 obtain ⟨⟨hne1,hne2⟩,hne3⟩:=hne
 have hn1:∀ t∈t1,∀ S:Nat→Bool,Down ops S→S z=false→S y=false→S t.i=false:=fun t ht=>hbeh _ _ _ (hb (t.i,t.c) (List.mem_append_left _ (List.mem_map.2 ⟨t,ht,rfl⟩)))
 have hn23:∀ t∈ρ2'++t3,∀ S:Nat→Bool,Down ops S→S z=false→S y=false→S t.i=false:=fun t ht=>hbeh _ _ _ (hb (t.i,t.c) (List.mem_append_right _ (by rw [← List.map_append];exact List.mem_map.2 ⟨t,ht,rfl⟩)))
 have hn2:∀ t∈t2,∀ S:Nat→Bool,Down ops S→S x=false→S y=false→S t.i=false:=fun t ht=>hbeh _ _ _ (hb2 (t.i,t.c) (List.mem_append_left _ (List.mem_map.2 ⟨t,ht,rfl⟩)))
 have hn3:∀ t∈t3,∀ S:Nat→Bool,Down ops S→S x=false→S y=false→S t.i=false:=fun t ht=>hbeh _ _ _ (hb2 (t.i,t.c) (List.mem_append_right _ (List.mem_map.2 ⟨t,ht,rfl⟩)))
 have hev:Ev c (c.to {c.w with drawn:=c.w.drawn+1}):=Ev.idle hst (Ev.refl c) rfl rfl rfl rfl fun k=>.inl rfl
 have hst':St (c.to {c.w with drawn:=c.w.drawn+1}):=hst.idle rfl fun k o hk=>.inl hk
 have hr':SR N (base,F) (c.to {c.w with drawn:=c.w.drawn+1}) ⟨tm,hp⟩ a:=⟨hr.h,hr.size,Nat.le_trans hr.above hev.size,hr.defers.ev hev,RoundOk.ev hev hr.round,fun t=>(hr.tm t).ev hst hev⟩
 have hnone:∀ j,(Array.replicate ops.size false).getD j false=false:=fun j=>by
  rw [Array.getD_eq_getD_getElem?,Array.getElem?_replicate]
  split <;> rfl
 refine QiI (base:=(base,F)) hF hne1 hne2 hne3 (hm' _ _ hza) hruns1 hruns2 hruns3 hf1 hf2 hf3 hn1 hn23 hn2 hn3 _ _ (c.to {c.w with drawn:=c.w.drawn+1}) a (by simp) ?_ (hnone _) (hnone _) hst' ?_ ?_ ?_ ?_ ?_ ?_ ?_
 ·intro j o ho hj
  simp only at hj
  rw [hnone] at hj;cases hj
 ·have e1:tmS N (fun i=>(Array.replicate ops.size false).getD i false) ((ρ'++ρ2')++t3) tm=tm:=funext fun x=>XO fun t _ h=>by rw [hnone] at h;cases h
  have e2:hS (fun i=>(Array.replicate ops.size false).getD i false) ((ρ'++ρ2')++t3) hp=hp:=Ys fun t _ _=>hnone _
  rw [e1,e2];exact hr'
 ·exact Nat.le_trans List.countP_le_length (Nat.le_of_eq hf1.len)
 ·exact Nat.le_trans List.countP_le_length (Nat.le_of_eq hf2.len)
 ·exact Nat.le_trans List.countP_le_length (Nat.le_of_eq hf3.len)
 ·intro c' a' h1 h2 h3
  rw [XQ,Ym] at h3
  exact hR _ _ c' a' _ hQ1 (Ev.trans hst hev h1) h2 h3 rfl
 ·intro c' a' h1 h2 h3
  rw [XQ,Ym,XQ,Ym] at h3
  exact hR _ _ c' a' _ hQ2 (Ev.trans hst hev h1) h2 h3 rfl
 ·intro c' a' h1 h2 h3
  rw [XQ,Ym,XQ,Ym] at h3
  exact hR _ _ c' a' _ hQ3 (Ev.trans hst hev h1) h2 h3 rfl
end Go.Proofs.YticgcpebdldbgaaDoor.Ab
set_option maxRecDepth 4000
namespace Go.Proofs.YticgcpebdldbgaaDoor.Ab
open Go.Proofs
def GQ (h:AH) (P:Pz):PR G→AOut→AH→Prop
 | .ok a s,o,h'=>o = .ret (.agg [.v (.string a.name),lsl h.length a.args])∧h'=ph h P s++layA 54 h.length a.args
 | .err p e,o,h'=>o = .panic (Fl p e)∧∃ s,h'=ph h P s
def GC (g:Nat) (h:AH) (P:Pz):PR G→AOut→AH→Prop
 | .ok a s,o,h'=>o = .ret (.agg [.v (.string a.name),lsl (h.length+g) a.args])∧∃ N,h'=ph h P s++N∧At N g (layA 54 (h.length+g) a.args)
 | .err p e,o,h'=>o = .panic (Fl p e)∧∃ s,h'=ph h P s
theorem QiZ {P:Pz} {f:FuncId} {args:List AV} {h:AH} {s:PS} (H:P.ok h) (g:Nat) {r:PR G} (C:QJ Tryd.prog f args (ph h P s) (GC g h P r)):QJ Tryd.prog f args (ph h P s) (GQ h P r):=by
 refine Qak C fun hb0 o h' hQ=>?_
 cases r with
 |err p e=>exact .inl hQ
 |ok t s2 =>
  obtain ⟨rfl,N,rfl,hN⟩:=hQ
  rw [QS] at hb0 ⊢
  have hb:∀ b∈ph h P s2,b.Below h.length:=fun b hb=>by
   obtain ⟨k,hk⟩:=Y7 hb
   rcases Qbs H (s0:=s) hk with h1|h1
   ·exact hb0 k b h1
   ·exact h1
  obtain ⟨K,hk⟩:=Qni (QS h P s2) hb g t.args hN
  refine .inr ⟨_,.agg [.v (.string t.name),lsl h.length t.args],_,_,rfl,K,.agg rfl fun j a a' h1 h2=>?_,rfl,rfl⟩
  match j,h1,h2 with
  |0,h1,h2=>cases h1;cases h2;exact .keep (.v _)
  |1,h1,h2=>cases h1;cases h2;exact hk
  |j+2,h1,h2=>simp at h1
section
variable {P:Pz} {s:PS} (hW:Wst P.all s) {h:AH} (H:P.ok h) (hN:P.all.length≤1000000) (L:AH)
include hW H hN
theorem Qik {x:ByteArray} {s1:PS} (e:ZY s = .ok x s1):QJ Tryd.prog 35 [.ptr P.i 0 0] (ph h P s++L) fun o h'=>o = .ret (.v (.string x))∧h'=ph h P s1++L:=by
 have:=Qhh hW (H.app L) hN
 rw [e,Q1 H] at this
 exact this.mono fun o h' q=>by simpa only [Q1 H] using q
theorem Qgh {p c:Int} (e:ZY s = .err p c):QJ Tryd.prog 35 [.ptr P.i 0 0] (ph h P s++L) fun o h'=>o = .panic (Fl p c)∧∃ s1:PS,h'=ph h P s1++L:=by
 have:=Qhh hW (H.app L) hN
 rw [e,Q1 H] at this
 exact this.mono fun o h' q=>by simpa only [Q1 H] using q
theorem Zq (b:ByteArray) (hb:s.is b.toList=true):QJ Tryd.prog 39 [.ptr P.i 0 0,.v (.string b)] (ph h P s++L) fun o h'=>o = .ret (.b true)∧h'=ph h P s.nx++L:=by
 have:=Qgz hW (H.app L) hN b hb
 simpa only [Q1 H] using this
theorem ZS (b:ByteArray) (hb:s.is b.toList=false):QJ Tryd.prog 39 [.ptr P.i 0 0,.v (.string b)] (ph h P s++L) fun o h'=>o = .ret (.b false)∧h'=ph h P s++L:=by
 have:=QiE hW (H.app L) hN b hb
 simpa only [Q1 H] using this
theorem XH (b:ByteArray) (hb:s.is b.toList=true):QJ Tryd.prog 36 [.ptr P.i 0 0,.v (.string b)] (ph h P s++L) fun o h'=>o = .ret (.tup [])∧h'=ph h P s.nx++L:=by
 have:=QjL hW (H.app L) hN b hb
 simpa only [Q1 H] using this
theorem X3 (b:ByteArray) (hb:s.is b.toList=false):QJ Tryd.prog 36 [.ptr P.i 0 0,.v (.string b)] (ph h P s++L) fun o h'=>o = .panic (Fl s.tk.pos 16)∧h'=ph h P s++L:=by
 have:=Qk5 hW (H.app L) hN b hb
 simpa only [Q1 H] using this
end
theorem tl (l:List UInt8):(ByteArray.mk l.toArray).toList=l:=by rw [Lib.toList_data]
end Go.Proofs.YticgcpebdldbgaaDoor.Ab
set_option maxRecDepth 4000
namespace Go.Proofs.YticgcpebdldbgaaDoor.Ab
open Go.Proofs
abbrev cA0:AB:=.cells 72 2 [.agg [.v (.string {data:=#[]}),.v (.slice none 0 0)]]
def avl (n d:Nat) (l:List T):AV:=if l.isEmpty then .sl 4 [] (some d) else .arr (n+szs l - 1) 0 l.length
section
variable {P:Pz} {ex:PS→PR T} {Nn:Nat} (HR:TRd P 73 ex Nn) (hEat:Eat 0 ex) (hKp:Kp.Ps (wdOf P.all) ex) {s:PS} (hs:s.toks.length<Nn+1) (hW:Wst P.all s) {h:AH} (H:P.ok h) (hN:P.all.length≤1000000)
include HR hEat hKp hs hW H hN
theorem QiN:QJ Tryd.prog 61 [.ptr P.i 0 0] (ph h P s) (GC 3 h P (Zc ex s)):=by
 have f1:=QS h P
 have f3:=Xr h P
 have f4:=XY h P
 have f5:=Xe h P
 have f6:=XC h P
 rw [Zc]
 have hi:=ph_i H s
 simp only [pB] at hi
 cases hn:ZY s with
 |err p e =>
  have cn:=fun L=>Qgh hW H hN L hn
  refine Qe Tryd.func61 rfl Tryd.call61 Tryd.ntmps61 (congrArg Array.toList Tryd.results61) (by simp) ?_
  repeat (first|((first|(with_reducible (first|refine Qa fun K E hK hE=>?_|refine FunW.panE (FunW.call (cn _)) fun r=>?_)));simp -implicitDefEqProofs only [Qc,Qd,OpW,QE,aop,undef,AS.ev,Qq,AV.Qp8,↓reduceIte,Qg,QI,zi72,Qs,f1,hi,seval])|((with_reducible refine hK _ ?_);clear hK)|(with_reducible refine hE _ _ ?_))
  exact QT H s r p e _ ⟨rfl,_,rfl⟩
 |ok x s1 =>
  have cn:=fun L=>Qik hW H hN L hn
  have hW1:Wst P.all s1:=Kp.Ps.ok (n:=wdOf P.all) (Kp.name_ps trivial) hW hn
  have hl1:=(QdA s hW.wf x s1 hn).2
  have hi1:=ph_i H s1
  simp only [pB] at hi1
  show QJ _ _ _ _ (GC 3 h P (if s1.is sLp=true then (Zb ex s1.toks.length [] s1.nx).bind fun l s=>PR.ok (⟨0,x,l⟩:G) s else PR.ok ⟨0,x,[]⟩ s1))
  cases hp:s1.is sLp with
  |false =>
   have cs:=fun L=>ZS hW1 H hN L {data:=#[40]} (by rw [Lib.toList_data];exact hp)
   rw [if_neg (by simp)]
   refine Qe Tryd.func61 rfl Tryd.call61 Tryd.ntmps61 (congrArg Array.toList Tryd.results61) (by simp) ?_
   repeat (first|((first|(with_reducible (first|refine Qa fun K E hK hE=>?_|refine FunW.ret (FunW.call (cn _)) ?_|refine FunW.ret (FunW.call (cs _)) ?_)));simp -implicitDefEqProofs only [Qc,Qd,OpW,QE,aop,undef,AS.ev,Qq,AV.Qp8,↓reduceIte,Qg,Qw,Qv,QB,Qp,Xf,Xu,QI,ti72,zi72,sp72,Qs,f1,f3,f4,f5,f6,hi,hi1,seval])|(with_reducible (first|refine Qf fun K hK=>?_|refine Ql ?_|refine Qu ?_))|((with_reducible refine hK _ ?_);clear hK)|(refine Qh rfl ?_;simp only [↓reduceIte]))
   simp -implicitDefEqProofs only [Qc,↓reduceIte,Qw,Qv,ti72,Qw,Qv,f3,QF,Qn,Qr,Qq9,seval]
   refine .inr ⟨rfl,_,rfl,?_⟩
   exact fun j b hb=>by simp [layA,lays] at hb
  |true =>
   have cs:=fun L=>Zq hW1 H hN L {data:=#[40]} (by rw [Lib.toList_data];exact hp)
   have hk1:=PS.Qqb hp
   have hln1:=XJ hW1.wf hk1
   have hWn1:=hW1.nx
   have hi2:=ph_i H s1.nx
   simp only [pB] at hi2
   rw [if_pos rfl]
   generalize hR:((Zb ex s1.toks.length [] s1.nx).bind fun l s=>PR.ok (⟨0,x,l⟩:G) s)=R
   refine Qe Tryd.func61 rfl Tryd.call61 Tryd.ntmps61 (congrArg Array.toList Tryd.results61) (by simp) ?_
   repeat (first|((first|(with_reducible (first|refine Qa fun K E hK hE=>?_|refine FunW.ret (FunW.call (cn _)) ?_|refine FunW.ret (FunW.call (cs _)) ?_)));simp -implicitDefEqProofs only [Qc,Qd,OpW,QE,aop,undef,AS.ev,Qq,AV.Qp8,↓reduceIte,Qg,QB,Qp,Xf,Xu,QI,ti72,zi72,sp72,Qs,f1,f4,f6,hi,hi1,seval])|(with_reducible (first|refine Qf fun K hK=>?_|refine Qj ?_|refine Qm ?_|refine Qb ?_))|((with_reducible refine hK _ ?_);clear hK)|(refine Qh rfl ?_;simp only [↓reduceIte,Qq3]))
   refine Yr (h.length+1) 72 2 4 .dead (.inl rfl) [.agg [.v (.string x),.v (.slice none 0 0)]] [.agg [.v (.string x),.sl 4 [] (some (h.length+2))]] 1 (by rw [f4];rfl) rfl (by rw [List.length_append,QS];rfl) (by simp [AV.cells]) ?_
   rw [List.append_assoc,f6]
   obtain ⟨I,hI⟩:∃ I:Nat→AS→Prop,I=fun m' s=>∃ (l:List T) (s2:PS),m'=s2.toks.length∧s2.toks.length<Nn∧Wst P.all s2∧l.length+s2.toks.length≤P.all.length+1∧(∃ k,s2.toks.length≤k∧((Zb ex k l s2).bind fun l s=>PR.ok (⟨0,x,l⟩:G) s)=R)∧s.tm 0 = .ptr P.i 0 0∧s.tm 2 = .ptr h.length 0 0∧s.tm 3 = .ptr (h.length+1) 0 0 ∧
    s.h=ph h P s2++(cA0 :: .cells 72 2 [.agg [.v (.string x),avl (h.length+3) (h.length+2) l]] :: .dead::layA 54 (h.length+3) l):=⟨_,rfl⟩;refine QO I ?_ (m:=s1.nx.toks.length) ?_
   ·intro m' s hs;rw [hI] at hs;obtain ⟨tm,hp⟩:=s;dsimp only at hs;obtain ⟨l,s2,rfl,hl2,hW2,hbd,⟨k,hk,hR2⟩,t0,t2,t3,rfl⟩:=hs
    have hlk:1≤s2.toks.length:=by
     have:=QnA hW2.wf
     cases hq:s2.toks with
     |nil=>exact absurd hq this
     |cons _ _=>simp
    have hk1:k=k - 1+1:=by omega
    cases hop:ex s2 with
    |err p e =>
     have hRR:R = .err p e:=by
      rw [← hR2,hk1,Zb,hop];rfl
     subst hRR
     have c2:=TRd.err HR hl2 hW2 H hop (cA0 :: .cells 72 2 [.agg [.v (.string x),avl (h.length+3) (h.length+2) l]] :: .dead::layA 54 (h.length+3) l)
     repeat (first|(with_reducible (first|refine Qf fun K hK=>?_|refine Qj ?_)))
     refine Q9 3 [(0,0),(1,0),(2,1)] mixed rfl rfl rfl (by kernel_rfl) (fun v h'=>v=Fl p e∧∃ x2:PS,h'=ph h P x2++(cA0 :: .cells 72 2 [.agg [.v (.string x),avl (h.length+3) (h.length+2) l]] :: .dead::layA 54 (h.length+3) l)) ?_ ?_
     ·rintro tm v h' ⟨rfl,x2,rfl⟩
      exact QT H s x2 p e _ ⟨rfl,_,rfl⟩
     ·simp -implicitDefEqProofs only [Qc,Qd,aop,AS.ev,↓reduceIte,Qg,Qw,Qv,ti50,Zs,t0,t3,f4,seval]
      exact fun _=>(FunW.call c2).mono (by rintro _ _ ⟨rfl,x,rfl⟩;exact ⟨_,rfl,rfl,x,rfl⟩)
    |ok u s3 =>
     have hW3:Wst P.all s3:=Kp.Ps.ok hKp hW2 hop
     have hl3:=(hEat s2 hW2.wf u s3 hop).2
     have hi3:=ph_i H s3
     simp only [pB] at hi3
     have hR3:(if s3.is YV=true then (Zb ex (k - 1) (l++[u]) s3.nx).bind fun l s=>PR.ok (⟨0,x,l⟩:G) s else (XU sRp s3).bind fun _ s=>PR.ok (⟨0,x,l++[u]⟩:G) s)=R:=by
      rw [← hR2,hk1,Zb,hop]
      simp only [PR.bind]
      split
      ·rfl
      ·cases XU sRp s3 <;> rfl
     repeat (first|(with_reducible (first|refine Qf fun K hK=>?_|refine Qj ?_)))
     have fin:∀ tm':Nat→AV,tm' 0 = .ptr P.i 0 0→tm' 2 = .ptr h.length 0 0→tm' 3 = .ptr (h.length+1) 0 0 →
       K ⟨tm',ph h P s3++(cA0 :: .cells 72 2 [.agg [.v (.string x),.arr (h.length+3+szs (l++[u]) - 1) 0 (l++[u]).length]] :: .dead::layA 54 (h.length+3) (l++[u]))⟩:=by
      intro tm' v0 v2 v3
      refine hK _ ?_
      cases hc:s3.is YV with
      |true =>
       have cs:=fun L=>Zq hW3 H hN L {data:=#[44]} (by rw [Lib.toList_data];exact hc)
       rw [hc,if_pos rfl] at hR3
       have hln3:=XJ hW3.wf (PS.Qqb hc)
       repeat (first|((first|(with_reducible (first|refine Qa fun K E hK hE=>?_|refine FunW.ret (FunW.call (cs _)) ?_)));simp -implicitDefEqProofs only [Qc,Qd,OpW,QE,aop,AS.ev,↓reduceIte,Nat.reduceLT,Qg,QI,Qs,v0,hi3])|(with_reducible (first|refine Qm ?_|refine Qb ?_|refine Qo ?_))|((with_reducible refine hK _ ?_);clear hK)|(refine Qh rfl ?_;simp only [↓reduceIte,Qq3]))
       refine Xi.mk (m':=s3.nx.toks.length) (by omega) ?_
       rw [hI]
       refine ⟨l++[u],s3.nx,rfl,by omega,hW3.nx,by simp;omega,⟨k - 1,by omega,hR3⟩,v0,v2,v3,?_⟩
       rw [avl,if_neg (by simp)]
      |false =>
       have cs:=fun L=>ZS hW3 H hN L {data:=#[44]} (by rw [Lib.toList_data];exact hc)
       rw [hc,if_neg (by simp)] at hR3
       have hat:At (cA0 :: .cells 72 2 [.agg [.v (.string x),.arr (h.length+3+szs (l++[u]) - 1) 0 (l++[u]).length]] :: .dead::layA 54 (h.length+3) (l++[u])) 3 (layA 54 (h.length+3) (l++[u])):=At.tail (At.tail (At.tail (At.all _)))
       cases hr:s3.is sRp with
       |true =>
        have ce:=fun L=>XH hW3 H hN L {data:=#[41]} (by rw [Lib.toList_data];exact hr)
        have hi4:=ph_i H s3.nx
        simp only [pB] at hi4
        have hRR:R = .ok ⟨0,x,l++[u]⟩ s3.nx:=by
         rw [← hR3,XU,hr,if_pos rfl];rfl
        subst hRR
        repeat (first|((first|(with_reducible (first|refine Qa fun K E hK hE=>?_|refine FunW.ret (FunW.call (cs _)) ?_|refine FunW.ret (FunW.call (ce _)) ?_)));simp -implicitDefEqProofs only [Qc,Qd,OpW,QE,aop,undef,AS.ev,AV.Qp8,↓reduceIte,Qg,Qw,Qv,QB,Qp,QI,ti72,Qs,v0,v2,v3,hi3,f3,f4,f5,seval])|(with_reducible (first|refine Ql ?_|refine QG ?_|refine Qb ?_|refine QD ?_|refine QC ?_|refine QW rfl ?_))|((with_reducible refine hK _ ?_);clear hK)|(clear hK;(with_reducible refine hK _ ?_);clear hK)|(refine Qh rfl ?_;simp only [↓reduceIte]))
        simp -implicitDefEqProofs only [Qc,↓reduceIte,Qw,Qv,ti72,Qw,Qv,v2,f3,QF,Qn,Qr,Qq9,seval]
        refine .inr ⟨?_,_,rfl,?_⟩
        ·show AOut.ret _=AOut.ret (.agg [_,lsl (h.length+3) (l++[u])])
         rw [lsl,if_neg (by simp)]
        ·exact fun j b hb hl=>by
          have:=hat j b hb hl
          rw [Nat.add_comm 3 j] at this ⊢
          simpa only [Qq0] using this
       |false =>
        have ce:=fun L=>X3 hW3 H hN L {data:=#[41]} (by rw [Lib.toList_data];exact hr)
        have hRR:R = .err s3.tk.pos 16:=by
         rw [← hR3,XU,hr,if_neg (by simp)];rfl
        subst hRR
        repeat (first|((first|(with_reducible (first|refine Qa fun K E hK hE=>?_|refine FunW.ret (FunW.call (cs _)) ?_|refine FunW.pan (FunW.call (ce _)) ?_)));simp -implicitDefEqProofs only [Qc,Qd,OpW,QE,aop,AS.ev,↓reduceIte,Qg,QI,Qs,v0,hi3,seval])|(with_reducible (first|refine QG ?_|refine Qb ?_|refine QD ?_|refine QC ?_|refine QW rfl ?_))|((with_reducible refine hK _ ?_);clear hK)|(clear hK;(with_reducible refine hK _ ?_);clear hK)|(refine Qh rfl ?_;simp only [↓reduceIte])|(with_reducible refine hE _ _ ?_))
        exact QT H s s3 _ _ _ ⟨rfl,_,rfl⟩
     have e3:=T.Qqd (h.length+3+szs l) u
     have e4:=T.Qqf (h.length+3+szs l) u
     have hmx:1≤maxLen:=by decide
     have c2:=TRd.ok HR hl2 hW2 H hop (cA0 :: .cells 72 2 [.agg [.v (.string x),avl (h.length+3) (h.length+2) l]] :: .dead::layA 54 (h.length+3) l) (k:=h.length+3+szs l) (by simp only [Qrc,XZ];omega)
     cases l with
     |nil =>
      simp only [szs,Qro] at e3 e4 c2
      have ea:avl (h.length+3) (h.length+2) [] = .sl 4 [] (some (h.length+2)):=rfl
      have el:layA 54 (h.length+3) []=[]:=rfl
      simp only [ea,el] at c2 ⊢
      refine Zi 0 1 3 [(2,1)] [(3,2),(0,0),(1,0),(4,0),(5,2),(6,0),(7,2)] [(0,0)] [(3,2),(1,0),(4,0),(5,2),(6,0),(7,2)] [(1,0),(3,2),(4,0),(5,2),(6,0),(7,2)] mixed (by kernel_rfl) (by kernel_rfl) (by kernel_rfl) (by kernel_rfl) (by kernel_rfl) (by kernel_rfl) (by kernel_rfl) (by kernel_rfl) (by kernel_rfl) (by kernel_rfl) (by kernel_rfl) (by kernel_rfl) (fun K2 hK2=>?_)
      simp -implicitDefEqProofs only [Qc,Qd,aop,AS.ev,↓reduceIte,Qg,Qw,Qv,ti50,Zs,t0,t3,f4,seval]
      have e5:h.length+3+szs ([]++[u]) - 1=h.length+((u.lay 54 (h.length+3)).length+1+1+1):=by
       rw [T.Qqc,YA];simp only [szs];omega
      have e6:layA 54 (h.length+3) ([]++[u])=u.lay 54 (h.length+3)++[.cells 54 4 [u.lv (h.length+3)]]:=by
       rw [Qhc];simp [lays,szs,lvs]
      simp only [e5,e6] at fin
      refine ⟨?_,?_⟩
      ·refine XG (FunW.call c2) Zv ?_
       simp -implicitDefEqProofs only [Qc,Qd,aop,undef,AS.ev,AV.Qp8,↓reduceIte,Qg,Qw,Qv,QB,Qp,QH,XD,Yb,ti50,ei50,ai50,zi54,Zs,t3,f1,f4,f6,e3,QR,hmx,List.append_assoc,seval]
       refine hK2 _ (Qb (fin _ ?_ ?_ ?_)) <;> assumption
      ·refine ⟨?_,?_⟩
       ·refine XG (FunW.call c2) Zv ?_
        simp -implicitDefEqProofs only [Qc,Qd,aop,undef,AS.ev,AV.Qp8,↓reduceIte,Qg,Qw,Qv,QB,Qp,QH,XD,Yb,ti50,ei50,ai50,zi54,Zs,t3,f1,f4,f6,e3,QR,hmx,List.append_assoc,seval]
        refine hK2 _ (Qb (fin _ ?_ ?_ ?_)) <;> assumption
       ·refine XG (FunW.call c2) Zv ?_
        simp -implicitDefEqProofs only [Qc,Qd,aop,undef,AS.ev,AV.Qp8,↓reduceIte,Qg,QB,Qp,QH,XD,Yb,ti50,ei50,ai50,zi54,Zs,t3,f1,f4,f6,e3,QR,hmx,List.append_assoc,seval]
        refine hK2 _ (Qb (fin _ ?_ ?_ ?_)) <;> assumption
     |cons a l0 =>
      have hne:a::l0≠[]:=by simp
      generalize hl1:a::l0=l1 at *
      have ea:avl (h.length+3) (h.length+2) l1 = .arr (h.length+3+szs l1 - 1) 0 l1.length:=by rw [avl,if_neg (by simpa using hne)]
      have hsp:=QbR hne
      have gid:h.length+3+szs l1 - 1=h.length+(szs l1 - 1+1+1+1):=by omega
      have gA:∀ (c:AB) X,(ph h P s3++(cA0::c :: .dead::(layA 54 (h.length+3) l1++X)))[h.length+3+szs l1 - 1]? = some (.cells 54 4 (lvs (h.length+3) l1)):=fun c X=>by
       rw [gid,f4]
       simp only [Qq0]
       rw [List.getElem?_append_left (by rw [XZ];omega)]
       exact (Qhb _ _ _ hne).1
      have sA:∀ (c:AB) X,(ph h P s3++(cA0::c :: .dead::(layA 54 (h.length+3) l1++X))).set (h.length+3+szs l1 - 1) .dead=ph h P s3++(cA0::c :: .dead::(lays 54 (h.length+3) .dead l1++X)):=fun c X=>by
       rw [gid,f6]
       simp only [Qru]
       rw [List.set_append_left _ _ (by rw [XZ];omega),(Qhb _ _ _ hne).2]
      have hb1:l1.length+1≤maxLen:=by simp only [maxLen];omega
      have hb2:(l1.length+1) * 56≤140737488355328:=by omega
      have e5:h.length+3+szs (l1++[u]) - 1=h.length+(szs l1+((u.lay 54 (h.length+3+szs l1)).length)+1+1+1):=by
       rw [T.Qqc,YA];simp only [szs];omega
      have e6:=Qhc 54 (h.length+3) l1 u
      have e7:(l1++[u]).length=l1.length+1:=by simp
      simp only [e5,e6,e7] at fin
      have e8:=YS 54 (h.length+3) .dead l1
      have e9:=Za (h.length+3) l1
      simp only [ea] at c2 ⊢
      refine Zi 0 1 3 [(2,1)] [(3,2),(0,0),(1,0),(4,0),(5,4),(6,0),(7,2)] [(0,0)] [(3,2),(1,0),(4,0),(5,4),(6,0),(7,2)] [(1,0),(3,2),(4,0),(5,4),(6,0),(7,2)] mixed (by kernel_rfl) (by kernel_rfl) (by kernel_rfl) (by kernel_rfl) (by kernel_rfl) (by kernel_rfl) (by kernel_rfl) (by kernel_rfl) (by kernel_rfl) (by kernel_rfl) (by kernel_rfl) (by kernel_rfl) (fun K2 hK2=>?_)
      simp -implicitDefEqProofs only [Qc,Qd,aop,AS.ev,↓reduceIte,Qg,Qw,Qv,ti50,Zs,t0,t3,f4,seval]
      refine ⟨?_,?_⟩
      ·refine XG (FunW.call c2) Zv ?_
       simp -implicitDefEqProofs only [Qc,Qd,aop,undef,AS.ev,AV.Qp8,↓reduceIte,Qg,Qw,Qv,QB,Qp,QH,XD,Yb,ti50,ei50,ai50,zi54,Zs,t3,f1,f4,f6,e3,gA,sA,e9,hb1,hb2,XZ,aopR,Qbk,QR,List.append_assoc,seval]
       refine hK2 _ (Qb (fin _ ?_ ?_ ?_)) <;> assumption
      ·refine ⟨?_,?_⟩
       ·refine XG (FunW.call c2) Zv ?_
        simp -implicitDefEqProofs only [Qc,Qd,aop,undef,AS.ev,AV.Qp8,↓reduceIte,Qg,Qw,Qv,QB,Qp,QH,XD,Yb,ti50,ei50,ai50,zi54,Zs,t3,f1,f4,f6,e3,gA,sA,e9,hb1,hb2,XZ,aopR,Qbk,QR,List.append_assoc,seval]
        refine hK2 _ (Qb (fin _ ?_ ?_ ?_)) <;> assumption
       ·refine XG (FunW.call c2) Zv ?_
        simp -implicitDefEqProofs only [Qc,Qd,aop,undef,AS.ev,AV.Qp8,↓reduceIte,Qg,QB,Qp,QH,XD,Yb,ti50,ei50,ai50,zi54,Zs,t3,f1,f4,f6,e3,gA,sA,e9,hb1,hb2,XZ,aopR,Qbk,QR,List.append_assoc,seval]
        refine hK2 _ (Qb (fin _ ?_ ?_ ?_)) <;> assumption
   ·rw [hI]
    exact ⟨[],s1.nx,rfl,by omega,hWn1,by have:=hWn1.suf.length_le;simp;omega,⟨_,by omega,hR⟩,rfl,rfl,rfl,rfl⟩
end
end Go.Proofs.YticgcpebdldbgaaDoor.Ab
set_option maxRecDepth 4000
namespace Go.Proofs.YticgcpebdldbgaaDoor.Ab
open Go.Proofs
structure TkOk (all:List Tk):Prop where
 int:∀ t∈all,t.kind=3→(∀ c∈t.text.toList,isD c=true)∧numVal t.text.toList≤2147483648
 pos:∀ t∈all,0≤t.pos∧t.pos≤1000000
 nam:∀ t∈all,t.kind=1→opB t.text=false
theorem Qmg {all:List Tk} {s:PS} (hW:Wst all s):s.tk∈all:=by
 refine hW.suf.subset ?_
 cases hq:s.toks with
 |nil=>exact absurd hq (QnA hW.wf)
 |cons t l=>unfold PS.tk;rw [hq];simp
theorem QjV (x:ByteArray):mkB x.toList=x:=by rw [Lib.toList_data];exact Qgf x
theorem Qia {all:List Tk} (hD:TkOk all) {s:PS} (hW:Wst all s) (hk:s.tk.kind=3):Pure Tryd.prog 38 [.v (.string s.tk.text)] (.i (valT s.tk.text))∧0≤valT s.tk.text∧valT s.tk.text≤2147483648:=by
 obtain ⟨h1,h2⟩:=hD.int _ (Qmg hW) hk
 have:=Qio s.tk.text.toList h1 h2
 rw [QjV] at this
 exact ⟨this,by unfold valT;omega,by unfold valT;omega⟩
theorem Qfy (N:AH) (g:Nat):At N g []:=fun j b hb=>by simp at hb
section
variable {P:Pz} {ex:PS→PR T} {Nn:Nat} (HR:TRd P 73 ex Nn) (hEat:Eat 0 ex) (hKp:Kp.Ps (wdOf P.all) ex) (hN:P.all.length≤1000000) (hD:TkOk P.all)
include HR hEat hKp hN hD
theorem Qj2:TRd P 94 (pOpT ex) (Nn+1):=by
 intro s hs hW h H
 refine QdG H 2 ?_
 have f1:=QS h P
 have f3:=Xr h P
 have f4:=XY h P
 have f5:=Xe h P
 have f6:=XC h P
 have hi:=ph_i H s
 have hin:=ph_i H s.nx
 simp only [pB] at hi hin
 have cn:=nextL hW (XS H s)
 have ct:=fun L=>Xm hW (H.app L) hN
 simp only [Q1 H] at ct
 have e1:=Tk.Qp9 s.tk
 have e2:=Tk.Qqa s.tk
 unfold pOpT
 by_cases h3:s.tk.kind=3
 ·rw [if_pos h3]
  have z1:(s.tk.kind==3)=true:=by simpa using h3
  obtain ⟨cv,_,_⟩:=Qia hD hW h3
  have ci:=Qi1 (valT s.tk.text)
  refine Qe Tryd.func94 rfl Tryd.call94 Tryd.ntmps94 (congrArg Array.toList Tryd.results94) (by simp) ?_
  repeat (first|((first|(with_reducible (first|refine Qa fun K E hK hE=>?_|refine FunW.ret (FunW.call (cn _)) ?_|refine FunW.ret (FunW.call (ct _)) ?_|refine Qz cv ?_|refine Qz ci ?_)));simp -implicitDefEqProofs only [Qc,Qd,OpW,QE,aop,undef,AS.ev,Qq,AV.Qp8,↓reduceIte,Qg,Qw,Qv,QB,Qp,aBin,Zh,ti3,ti9,ti54,zi54,ti60,QQ,Xc,zi60,QI,Qs,f1,f3,f4,f5,f6,hi,e1,e2,z1,seval])|(with_reducible (first|refine Qf fun K hK=>?_|refine Qj ?_|refine Ql ?_|refine Qu ?_|refine Qy ?_))|((with_reducible refine hK _ ?_);clear hK)|(refine Qh rfl ?_;simp only [↓reduceIte]))
  simp -implicitDefEqProofs only [Qc,↓reduceIte,Qw,Qv,ti54,Qw,Qv,f3,QF,Qn,Qr,Qq9,seval]
  exact .inr ⟨rfl,_,rfl,Qfy _ _⟩
 ·rw [if_neg h3]
  have z3:(s.tk.kind==3)=false:=by simpa using h3
  by_cases h2:s.tk.kind=2
  ·rw [if_pos h2]
   have z2:(s.tk.kind==2)=true:=by simpa using h2
   have cv:=fun L=>QgD hW.nx (H.app L) hN s.tk.text
   simp only [Q1 H] at cv
   obtain ⟨hv1,hv2⟩:=QoJ (h.length+2) s.tk.text s.nx
   refine Qe Tryd.func94 rfl Tryd.call94 Tryd.ntmps94 (congrArg Array.toList Tryd.results94) (by simp) ?_
   repeat (first|((first|(with_reducible (first|refine Qa fun K E hK hE=>?_|refine FunW.ret (FunW.call (cn _)) ?_|refine FunW.ret (FunW.call (ct _)) ?_|refine FunW.ret (FunW.call (cv _)) ?_)));simp -implicitDefEqProofs only [Qc,Qd,OpW,QE,aop,undef,AS.ev,Qq,AV.Qp8,↓reduceIte,Qg,Qw,Qv,QB,Qp,aBin,Zh,ti3,ti9,ti54,zi54,ti60,QQ,Xc,zi60,QI,Qs,f1,f3,f4,f5,f6,hi,e1,e2,z3,z2,seval])|(with_reducible (first|refine Qf fun K hK=>?_|refine Qj ?_|refine Ql ?_|refine Qu ?_|refine Qy ?_))|((with_reducible refine hK _ ?_);clear hK)|(refine Qh rfl ?_;simp only [↓reduceIte,Qq3]))
   simp -implicitDefEqProofs only [Qc,↓reduceIte,Qw,Qv,ti54,Qw,Qv,f3,QF,Qn,Qr,Qq9,seval]
   refine .inr ⟨by rw [hv1],_,rfl,?_⟩
   rw [T.Qqk,hv2]
   exact Qfy _ _
  ·rw [if_neg h2]
   have z2:(s.tk.kind==2)=false:=by simpa using h2
   by_cases h1:s.tk.kind=1
   ·rw [if_pos h1]
    have z1:(s.tk.kind==1)=true:=by simpa using h1
    have ca:=fun L=>QiZ (H.app L) 3 (QiN HR hEat hKp hs hW (H.app L) hN)
    cases hr:Zc ex s with
    |err p e =>
     rw [hr] at ca
     have ca':∀ L,QJ Tryd.prog 61 [.ptr P.i 0 0] (ph h P s++L) fun o h'=>o = .panic (Fl p e)∧∃ s1:PS,h'=ph h P s1++L:=fun L=>by
      have:=ca L
      rw [Q1 H] at this
      exact this.mono fun o h' q=>by simpa only [GQ,Q1 H] using q
     refine Qe Tryd.func94 rfl Tryd.call94 Tryd.ntmps94 (congrArg Array.toList Tryd.results94) (by simp) ?_
     repeat (first|((first|(with_reducible (first|refine Qa fun K E hK hE=>?_|refine FunW.ret (FunW.call (cn _)) ?_|refine FunW.panE (FunW.call (ca' _)) fun r=>?_)));simp -implicitDefEqProofs only [Qc,Qd,OpW,QE,aop,undef,AS.ev,Qq,AV.Qp8,↓reduceIte,Qg,Qw,Qv,QB,Qp,aBin,ti3,zi54,ti60,QQ,zi60,QI,Qs,f1,f4,f6,hi,e1,e2,z3,z2,z1,seval])|(with_reducible (first|refine Qf fun K hK=>?_|refine Qj ?_))|((with_reducible refine hK _ ?_);clear hK)|(refine Qh rfl ?_;simp only [↓reduceIte,Qq3])|(with_reducible (first|refine hE _ _ ?_|refine QM ?_|refine Q6 ?_)))
     exact QT H s r p e _ ⟨rfl,_,rfl⟩
    |ok a s1 =>
     rw [hr] at ca
     have ca':∀ (c d:AB),QJ Tryd.prog 61 [.ptr P.i 0 0] (ph h P s++[c,d]) fun o h'=>o = .ret (.agg [.v (.string a.name),lsl (h.length+2) a.args])∧h'=ph h P s1++(c::d::layA 54 (h.length+2) a.args):=fun c d=>by
      have:=ca [c,d]
      rw [Q1 H] at this
      exact this.mono fun o h' q=>by simpa only [GQ,Q1 H,QrQ,Qrc,Qrd,List.append_assoc,Qrr,Qrq] using q
     have e5:=Qd8 (h.length+2) a.args
     have e6:=Qd9 (h.length+2) a.args
     have hat:∀ (c d:AB) X,At (c::d::(layA 54 (h.length+2) a.args++X)) 2 (layA 54 (h.length+2) a.args):=fun c d X=>At.mid [c,d] _ _ rfl
     refine Qe Tryd.func94 rfl Tryd.call94 Tryd.ntmps94 (congrArg Array.toList Tryd.results94) (by simp) ?_
     repeat (first|((first|(with_reducible (first|refine Qa fun K E hK hE=>?_|refine FunW.ret (FunW.call (cn _)) ?_|refine FunW.ret (FunW.call (ca' _ _)) ?_)));simp -implicitDefEqProofs only [Qc,Qd,OpW,QE,aop,undef,AS.ev,Qq,AV.Qp8,↓reduceIte,Qg,Qw,Qv,QB,Qp,aBin,Xf,Xu,ti3,ti9,ti50,ti54,zi54,sp54,ti60,QQ,zi60,QI,ti72,Qc2,Zs,zi72,Qs,f1,f3,f4,f5,f6,hi,e1,e2,z3,z2,z1,e5,QR,seval])|(with_reducible (first|refine Qf fun K hK=>?_|refine Qj ?_|refine Ql ?_|refine Qu ?_|refine Qy ?_))|((with_reducible refine hK _ ?_);clear hK)|(refine Qh rfl ?_;simp only [↓reduceIte,Qq3]))
     simp -implicitDefEqProofs only [Qc,↓reduceIte,Qw,Qv,ti54,Qw,Qv,f3,QF,Qn,Qr,Qq9,seval]
     exact .inr ⟨rfl,_,rfl,hat _ _ _⟩
   ·rw [if_neg h1]
    have z1:(s.tk.kind==1)=false:=by simpa using h1
    cases hm:s.is Qes with
    |true =>
     rw [if_pos rfl]
     have cs:=fun L=>Zq hW H hN L {data:=#[45]} (by rw [Lib.toList_data];exact hm)
     have hWn:=hW.nx
     have cn2:=nextL hWn (XS H s.nx)
     have e3:=Tk.Qp9 s.nx.tk
     have e4:=Tk.Qqa s.nx.tk
     have hp:=hD.pos _ (Qmg hW)
     have w1:IntKind.i64.wrap (s.tk.pos+1)=s.tk.pos+1:=XR (by omega)
     have bad:(s.nx.tk.kind≠3∨s.nx.tk.pos≠s.tk.pos+1)→QJ Tryd.prog 94 [.ptr P.i 0 0] (ph h P s) (CQ 2 h P (.err s.nx.tk.pos 16)):=fun hb=>by
      have cf:=Yw s.nx.tk 16
      by_cases hk:s.nx.tk.kind=3
      ·have y1:(s.nx.tk.kind != 3)=false:=by simpa using hk
       have y2:(s.nx.tk.pos != s.tk.pos+1)=true:=by simpa using hb.resolve_left (fun q=>q hk)
       refine Qe Tryd.func94 rfl Tryd.call94 Tryd.ntmps94 (congrArg Array.toList Tryd.results94) (by simp) ?_
       repeat (first|((first|(with_reducible (first|refine Qa fun K E hK hE=>?_|refine FunW.ret (FunW.call (cn _)) ?_|refine FunW.ret (FunW.call (cs _)) ?_|refine FunW.ret (FunW.call (cn2 _)) ?_)));simp -implicitDefEqProofs only [Qc,Qd,OpW,QE,aop,undef,AS.ev,Qq,AV.Qp8,↓reduceIte,Qg,Qw,Qv,QB,Qp,aBin,ti3,zi54,ti60,QQ,Yc,zi60,QI,Qs,f1,f4,f6,hi,hin,e1,e2,e3,e4,z3,z2,z1,y1,y2,w1,seval])|(with_reducible (first|refine Qf fun K hK=>?_|refine Qj ?_))|((with_reducible refine hK _ ?_);clear hK)|(refine Qh rfl ?_;simp only [↓reduceIte,Qq3]))
       refine Q9 4 [(0,1),(1,0),(2,0),(3,0)] mixed rfl rfl rfl (by kernel_rfl) (fun v h'=>v=Fl s.nx.tk.pos 16∧∃ L,h'=ph h P s.nx++L) ?_ ?_
       ·rintro tm v h' ⟨rfl,L,rfl⟩
        exact QT H s s.nx _ _ _ ⟨rfl,_,rfl⟩
       ·simp -implicitDefEqProofs only [Qc,Qd,aop,undef,AS.ev,Qq,↓reduceIte,Qg,Qw,Qv,ti60,QI,Qs,f4,hin,e3,e4,seval]
        exact fun _=>(FunW.call (cf _ _)).mono (by rintro _ _ ⟨rfl,rfl⟩;exact ⟨_,rfl,rfl,_,rfl⟩)
      ·have y1:(s.nx.tk.kind != 3)=true:=by simpa using hk
       refine Qe Tryd.func94 rfl Tryd.call94 Tryd.ntmps94 (congrArg Array.toList Tryd.results94) (by simp) ?_
       repeat (first|((first|(with_reducible (first|refine Qa fun K E hK hE=>?_|refine FunW.ret (FunW.call (cn _)) ?_|refine FunW.ret (FunW.call (cs _)) ?_|refine FunW.ret (FunW.call (cn2 _)) ?_)));simp -implicitDefEqProofs only [Qc,Qd,OpW,QE,aop,undef,AS.ev,Qq,AV.Qp8,↓reduceIte,Qg,Qw,Qv,QB,Qp,aBin,ti3,zi54,ti60,QQ,zi60,QI,Qs,f1,f4,f6,hi,hin,e1,e2,e3,e4,z3,z2,z1,y1,seval])|(with_reducible (first|refine Qf fun K hK=>?_|refine Qj ?_))|((with_reducible refine hK _ ?_);clear hK)|(refine Qh rfl ?_;simp only [↓reduceIte,Qq3]))
       refine Q9 4 [(0,1),(1,0),(2,0),(3,0)] mixed rfl rfl rfl (by kernel_rfl) (fun v h'=>v=Fl s.nx.tk.pos 16∧∃ L,h'=ph h P s.nx++L) ?_ ?_
       ·rintro tm v h' ⟨rfl,L,rfl⟩
        exact QT H s s.nx _ _ _ ⟨rfl,_,rfl⟩
       ·simp -implicitDefEqProofs only [Qc,Qd,aop,undef,AS.ev,Qq,↓reduceIte,Qg,Qw,Qv,ti60,QI,Qs,f4,hin,e3,e4,seval]
        exact fun _=>(FunW.call (cf _ _)).mono (by rintro _ _ ⟨rfl,rfl⟩;exact ⟨_,rfl,rfl,_,rfl⟩)
     by_cases hb:s.nx.tk.kind≠3∨s.nx.tk.pos≠s.tk.pos+1
     ·rw [if_pos hb];exact bad hb
     ·rw [if_neg hb]
      have hk:s.nx.tk.kind=3:=Classical.byContradiction fun q=>hb (.inl q)
      have hq:s.nx.tk.pos=s.tk.pos+1:=Classical.byContradiction fun q=>hb (.inr q)
      have y1:(s.nx.tk.kind != 3)=false:=by simpa using hk
      have y2:(s.nx.tk.pos != s.tk.pos+1)=false:=by simpa using hq
      obtain ⟨cv,v1,v2⟩:=Qia hD hWn hk
      have ci:=Qi1 (-valT s.nx.tk.text)
      have w2:IntKind.i64.wrap (0 - valT s.nx.tk.text) = -valT s.nx.tk.text:=by rw [XR (by omega)];omega
      have ct2:=fun L=>Xm hWn (H.app L) hN
      simp only [Q1 H] at ct2
      refine Qe Tryd.func94 rfl Tryd.call94 Tryd.ntmps94 (congrArg Array.toList Tryd.results94) (by simp) ?_
      repeat (first|((first|(with_reducible (first|refine Qa fun K E hK hE=>?_|refine FunW.ret (FunW.call (cn _)) ?_|refine FunW.ret (FunW.call (cs _)) ?_|refine FunW.ret (FunW.call (cn2 _)) ?_|refine FunW.ret (FunW.call (ct2 _)) ?_|refine Qz cv ?_|refine Qz ci ?_)));simp -implicitDefEqProofs only [Qc,Qd,OpW,QE,aop,undef,AS.ev,Qq,AV.Qp8,↓reduceIte,Qg,Qw,Qv,QB,Qp,aBin,Zh,ti3,ti9,ti54,zi54,ti60,QQ,Yc,Xc,zi60,QI,Qs,f1,f3,f4,f5,f6,hi,hin,e1,e2,e3,e4,z3,z2,z1,y1,y2,w1,w2,seval])|(with_reducible (first|refine Qf fun K hK=>?_|refine Qj ?_|refine Ql ?_|refine Qm ?_|refine Qb ?_|refine Qu ?_|refine Qy ?_))|((with_reducible refine hK _ ?_);clear hK)|(refine Qh rfl ?_;simp only [↓reduceIte,Qq3]))
      simp -implicitDefEqProofs only [Qc,↓reduceIte,Qw,Qv,ti54,Qw,Qv,f3,QF,Qn,Qr,Qq9,seval]
      exact .inr ⟨rfl,_,rfl,Qfy _ _⟩
    |false =>
     rw [if_neg (by simp)]
     have cs:=fun L=>ZS hW H hN L {data:=#[45]} (by rw [Lib.toList_data];exact hm)
     cases hl:s.is sLp with
     |false =>
      rw [if_neg (by simp)]
      have ce:=fun L=>X3 hW H hN L {data:=#[40]} (by rw [Lib.toList_data];exact hl)
      refine Qe Tryd.func94 rfl Tryd.call94 Tryd.ntmps94 (congrArg Array.toList Tryd.results94) (by simp) ?_
      repeat (first|((first|(with_reducible (first|refine Qa fun K E hK hE=>?_|refine FunW.ret (FunW.call (cn _)) ?_|refine FunW.ret (FunW.call (cs _)) ?_|refine FunW.pan (FunW.call (ce _)) ?_)));simp -implicitDefEqProofs only [Qc,Qd,OpW,QE,aop,undef,AS.ev,Qq,AV.Qp8,↓reduceIte,Qg,Qw,Qv,QB,Qp,aBin,ti3,zi54,ti60,QQ,zi60,QI,Qs,f1,f4,f6,hi,e1,e2,z3,z2,z1,seval])|(with_reducible (first|refine Qf fun K hK=>?_|refine Qj ?_|refine Qm ?_|refine Qb ?_|refine Qo ?_))|((with_reducible refine hK _ ?_);clear hK)|(refine Qh rfl ?_;simp only [↓reduceIte,Qq3])|(with_reducible refine hE _ _ ?_))
      exact QT H s s _ _ _ ⟨rfl,_,rfl⟩
     |true =>
      rw [if_pos rfl]
      have ce:=fun L=>XH hW H hN L {data:=#[40]} (by rw [Lib.toList_data];exact hl)
      have hWn:=hW.nx
      have hln:=XJ hW.wf (PS.Qqb hl)
      cases hr:ex s.nx with
      |err p e =>
       have cx:=fun L=>TRd.err HR (s:=s.nx) (by omega) hWn H hr L
       refine Qe Tryd.func94 rfl Tryd.call94 Tryd.ntmps94 (congrArg Array.toList Tryd.results94) (by simp) ?_
       repeat (first|((first|(with_reducible (first|refine Qa fun K E hK hE=>?_|refine FunW.ret (FunW.call (cn _)) ?_|refine FunW.ret (FunW.call (cs _)) ?_|refine FunW.ret (FunW.call (ce _)) ?_|refine FunW.panE (FunW.call (cx _)) fun r=>?_)));simp -implicitDefEqProofs only [Qc,Qd,OpW,QE,aop,undef,AS.ev,Qq,AV.Qp8,↓reduceIte,Qg,Qw,Qv,QB,Qp,aBin,ti3,zi54,ti60,QQ,zi60,QI,Qs,f1,f4,f6,hi,e1,e2,z3,z2,z1,seval])|(with_reducible (first|refine Qf fun K hK=>?_|refine Qj ?_|refine Qm ?_|refine Qb ?_|refine Qo ?_))|((with_reducible refine hK _ ?_);clear hK)|(refine Qh rfl ?_;simp only [↓reduceIte,Qq3])|(with_reducible refine hE _ _ ?_))
       exact QT H s r _ _ _ ⟨rfl,_,rfl⟩
      |ok t s1 =>
       have cx:=fun (c d:AB)=>TRd.ok HR (s:=s.nx) (by omega) hWn H hr [c,d] (k:=h.length+2) rfl
       simp only [Qrr,Qrq] at cx
       have hW1:Wst P.all s1:=Kp.Ps.ok hKp hWn hr
       have hi1:=ph_i H s1
       simp only [pB] at hi1
       have e5:=T.Qqd (h.length+2) t
       have e6:=T.Qqf (h.length+2) t
       have hat:∀ (c d:AB) X,At (c::d::(t.lay 54 (h.length+2)++X)) 2 (t.lay 54 (h.length+2)):=fun c d X=>At.mid [c,d] _ _ rfl
       simp only [PR.bind,XU]
       cases hp2:s1.is sRp with
       |false =>
        rw [if_neg (by simp)]
        have ce2:=fun L=>X3 hW1 H hN L {data:=#[41]} (by rw [Lib.toList_data];exact hp2)
        refine Qe Tryd.func94 rfl Tryd.call94 Tryd.ntmps94 (congrArg Array.toList Tryd.results94) (by simp) ?_
        repeat (first|((first|(with_reducible (first|refine Qa fun K E hK hE=>?_|refine FunW.ret (FunW.call (cn _)) ?_|refine FunW.ret (FunW.call (cs _)) ?_|refine FunW.ret (FunW.call (ce _)) ?_|refine FunW.ret (FunW.call (cx _ _)) ?_|refine FunW.pan (FunW.call (ce2 _)) ?_)));simp -implicitDefEqProofs only [Qc,Qd,OpW,QE,aop,undef,AS.ev,Qq,AV.Qp8,↓reduceIte,Qg,Qw,Qv,QB,Qp,aBin,ti3,ti54,zi54,ti60,QQ,zi60,QI,Qs,f1,f4,f6,hi,hi1,e1,e2,e5,e6,QR,z3,z2,z1,seval])|(with_reducible (first|refine Qf fun K hK=>?_|refine Qj ?_|refine Qm ?_|refine Qb ?_|refine Qo ?_))|((with_reducible refine hK _ ?_);clear hK)|(refine Qh rfl ?_;simp only [↓reduceIte,Qq3])|(with_reducible refine hE _ _ ?_))
        exact QT H s s1 _ _ _ ⟨rfl,_,rfl⟩
       |true =>
        rw [if_pos rfl]
        have ce2:=fun L=>XH hW1 H hN L {data:=#[41]} (by rw [Lib.toList_data];exact hp2)
        refine Qe Tryd.func94 rfl Tryd.call94 Tryd.ntmps94 (congrArg Array.toList Tryd.results94) (by simp) ?_
        repeat (first|((first|(with_reducible (first|refine Qa fun K E hK hE=>?_|refine FunW.ret (FunW.call (cn _)) ?_|refine FunW.ret (FunW.call (cs _)) ?_|refine FunW.ret (FunW.call (ce _)) ?_|refine FunW.ret (FunW.call (cx _ _)) ?_|refine FunW.ret (FunW.call (ce2 _)) ?_)));simp -implicitDefEqProofs only [Qc,Qd,OpW,QE,aop,undef,AS.ev,Qq,AV.Qp8,↓reduceIte,Qg,Qw,Qv,QB,Qp,aBin,ti3,ti54,zi54,ti60,QQ,zi60,QI,Qs,f1,f3,f4,f5,f6,hi,hi1,e1,e2,e5,e6,QR,z3,z2,z1,seval])|(with_reducible (first|refine Qf fun K hK=>?_|refine Qj ?_|refine Ql ?_|refine Qm ?_|refine Qb ?_|refine Qo ?_))|((with_reducible refine hK _ ?_);clear hK)|(refine Qh rfl ?_;simp only [↓reduceIte,Qq3]))
        simp -implicitDefEqProofs only [Qc,↓reduceIte,Qw,Qv,ti54,Qw,Qv,f3,e5,e6,QF,Qn,Qr,Qq9,seval]
        exact .inr ⟨rfl,_,rfl,hat _ _ _⟩
end
end Go.Proofs.YticgcpebdldbgaaDoor.Ab
set_option maxRecDepth 4000
namespace Go.Proofs.YticgcpebdldbgaaDoor.Ab
open Go.Proofs
theorem TRd.congr {P:Pz} {f:FuncId} {g g':PS→PR T} {N:Nat} (HR:TRd P f g N) (he:∀ s:PS,Wst P.all s→s.toks.length<N→g s=g' s):TRd P f g' N:=fun s hs hW h H=>by rw [← he s hW hs];exact HR s hs hW h H
section
variable {P:Pz} (hN:P.all.length≤1000000) (hD:TkOk P.all)
include hN hD
theorem QiR:∀ N:Nat,TRd P 73 (X6 N) N
 |0=>fun s hs=>absurd hs (Nat.not_lt_zero _)
 |N+1=>by
  have h0:=QiR N
  have hE0:Eat 0 (X6 N):=(Qb6 N).less (by omega)
  have hK0:Kp.Ps (wdOf P.all) (X6 N):=Kp.exprT_ps trivial N
  have h1:=Qj2 h0 hE0 hK0 hN hD
  have hE1:Eat 0 (pOpT (X6 N)):=(Qis hE0).less (by omega)
  have hK1:Kp.Ps (wdOf P.all) (pOpT (X6 N)):=Kp.opT_ps trivial hK0
  have h2:=Qj6 hE1 hK1 hN h1
  have hE2:Eat 0 (X5 (pOpT (X6 N)) YE):=Qb0 hE1 YE
  have hK2:Kp.Ps (wdOf P.all) (X5 (pOpT (X6 N)) YE):=Kp.chain_ps trivial hK1 YE
  exact Qod hE2 hK2 hN h2
theorem QgC:TRd P 73 X1 1000001 :=
 (QiR hN hD 1000001).congr fun s hW hs=>Qki hW.wf hs
theorem QgO {s:PS} (hW:Wst P.all s) {h:AH} (H:P.ok h):QJ Tryd.prog 61 [.ptr P.i 0 0] (ph h P s) (GQ h P (Zc X1 s)) :=
 QiZ H 3 (QiN (QgC hN hD) (Qau.less (by omega)) (Kp.termT_ps trivial) (by have:=hW.suf.length_le;omega) hW H hN)
end
end Go.Proofs.YticgcpebdldbgaaDoor.Ab
set_option maxRecDepth 4000
namespace Go.Proofs.YticgcpebdldbgaaDoor.Ab
open Go.Proofs
def MQ (h:AH) (P:Pz) (s:PS):Option (Int×Bool)→AOut→AH→Prop
 |some (op,sw),o,h'=>o = .ret (.tup [.i op,.b sw,.b true])∧h'=ph h P s.nx
 |none,o,h'=>o = .ret (.tup [.i 0,.b false,.b false])∧h'=ph h P s
section
variable {P:Pz} {s:PS} (hW:Wst P.all s) {h:AH} (H:P.ok h) (hN:P.all.length≤1000000)
include hW H hN
omit hW H hN in
theorem XW (n:Nat) (a:Int) (b c:Bool):Below n (.tup [.i a,.b b,.b c]):=.tup _ fun x hx=>by
 simp only [List.mem_cons,List.not_mem_nil,or_false] at hx
 rcases hx with rfl|rfl|rfl <;> exact .v _
theorem QoX (hk:s.tk.kind=1) (hx:s.tk.text.toList=[105,115]):QJ Tryd.prog 74 [.ptr P.i 0 0] (ph h P s) (MQ h P s (some (4,false))):=by
 have f1:=QS h P
 have f3:=Xr h P
 have f4:=XY h P
 have f5:=Xe h P
 have f6:=XC h P
 have hi:=ph_i H s
 have hi0:=XS H s
 have hin:=ph_i H s.nx
 simp only [pB] at hi hi0 hin
 have cn:=XE hW (XS H s)
 have ct:=fun L=>Xm hW (H.app L) hN
 simp only [Q1 H] at ct
 have e1:=Tk.Qp9 s.tk
 have e2:=Tk.Qqa s.tk
 have z1:(s.tk.kind==1)=true:=by simpa using hk
 have z2:(s.tk.text.toList==({data:=#[105,115]}:ByteArray).toList)=true:=by rw [hx,Lib.toList_data];rfl
 refine Qe Tryd.func74 rfl Tryd.call74 Tryd.ntmps74 (congrArg Array.toList Tryd.results74) (by simp) ?_
 repeat (first|((first|(with_reducible (first|refine Qa fun K E hK hE=>?_|refine FunW.ret (FunW.call cn) ?_|refine FunW.ret (FunW.call (ct _)) ?_)));simp -implicitDefEqProofs only [Qc,Qd,OpW,QE,aop,undef,AS.ev,Qq,AV.Qp8,↓reduceIte,Qg,Qw,Qv,QB,Qp,aBin,ti3,ti9,ti60,QQ,Xc,zi60,QI,Qs,f1,f3,f5,hi,hi0,e1,e2,z1,z2,seval])|(with_reducible (first|refine Qf fun K hK=>?_|refine Ql ?_|refine Qu ?_))|((with_reducible refine hK _ ?_);clear hK)|(refine Qh rfl ?_;simp only [↓reduceIte]))
 simp -implicitDefEqProofs only [Yq,↓reduceIte,Nat.reduceEqDiff,Qq1,Qq4,Qq5,List.mapM_cons,List.mapM_nil,Option.pure_def,Option.bind_eq_bind,QF,Qn,Qr,Qq9]
 exact Xg H (s:=s) (s':=s.nx) (.keep (XW _ _ _ _)) ⟨rfl,rfl⟩
theorem QmM (hk:s.tk.kind=1) (hx:s.tk.text.toList≠[105,115]):QJ Tryd.prog 74 [.ptr P.i 0 0] (ph h P s) (MQ h P s (none)):=by
 have f1:=QS h P
 have f3:=Xr h P
 have f4:=XY h P
 have f5:=Xe h P
 have f6:=XC h P
 have hi:=ph_i H s
 have hi0:=XS H s
 have hin:=ph_i H s.nx
 simp only [pB] at hi hi0 hin
 have cn:=XE hW (XS H s)
 have ct:=fun L=>Xm hW (H.app L) hN
 simp only [Q1 H] at ct
 have e1:=Tk.Qp9 s.tk
 have e2:=Tk.Qqa s.tk
 have z1:(s.tk.kind==1)=true:=by simpa using hk
 have z2:(s.tk.text.toList==({data:=#[105,115]}:ByteArray).toList)=false:=by rw [Lib.toList_data ({data:=#[105,115]}:ByteArray)];simpa using hx
 have z3:(s.tk.kind != 4)=true:=by rw [hk];rfl
 refine Qe Tryd.func74 rfl Tryd.call74 Tryd.ntmps74 (congrArg Array.toList Tryd.results74) (by simp) ?_
 repeat (first|((first|(with_reducible (first|refine Qa fun K E hK hE=>?_|refine FunW.ret (FunW.call cn) ?_)));simp -implicitDefEqProofs only [Qc,Qd,OpW,QE,aop,undef,AS.ev,Qq,AV.Qp8,↓reduceIte,Qg,Qw,Qv,QB,Qp,aBin,ti3,ti9,ti60,QQ,Xc,zi60,QI,Qs,f1,f3,f5,hi0,e1,e2,z1,z2,z3,seval])|(with_reducible (first|refine Qf fun K hK=>?_|refine Ql ?_|refine Qm ?_|refine Qb ?_|refine Qu ?_))|((with_reducible refine hK _ ?_);clear hK)|(refine Qh rfl ?_;simp only [↓reduceIte,Qq3]))
 simp -implicitDefEqProofs only [Yq,↓reduceIte,Nat.reduceEqDiff,Qq1,Qq4,Qq5,List.mapM_cons,List.mapM_nil,Option.pure_def,Option.bind_eq_bind,QF,Qn,Qr,Qq9]
 exact Xg H (s:=s) (s':=s) (.keep (XW _ _ _ _)) ⟨rfl,rfl⟩
theorem Qk1 (hk:s.tk.kind≠1) (hk4:s.tk.kind≠4):QJ Tryd.prog 74 [.ptr P.i 0 0] (ph h P s) (MQ h P s (none)):=by
 have f1:=QS h P
 have f3:=Xr h P
 have f4:=XY h P
 have f5:=Xe h P
 have f6:=XC h P
 have hi:=ph_i H s
 have hi0:=XS H s
 have hin:=ph_i H s.nx
 simp only [pB] at hi hi0 hin
 have cn:=XE hW (XS H s)
 have ct:=fun L=>Xm hW (H.app L) hN
 simp only [Q1 H] at ct
 have e1:=Tk.Qp9 s.tk
 have e2:=Tk.Qqa s.tk
 have z1:(s.tk.kind==1)=false:=by simpa using hk
 have z3:(s.tk.kind != 4)=true:=by simpa using hk4
 refine Qe Tryd.func74 rfl Tryd.call74 Tryd.ntmps74 (congrArg Array.toList Tryd.results74) (by simp) ?_
 repeat (first|((first|(with_reducible (first|refine Qa fun K E hK hE=>?_|refine FunW.ret (FunW.call cn) ?_)));simp -implicitDefEqProofs only [Qc,Qd,OpW,QE,aop,undef,AS.ev,Qq,AV.Qp8,↓reduceIte,Qg,Qw,Qv,QB,Qp,aBin,ti3,ti60,QQ,zi60,QI,Qs,f1,f3,f5,hi0,e1,e2,z1,z3,seval])|(with_reducible (first|refine Qf fun K hK=>?_|refine Ql ?_|refine Qm ?_|refine Qb ?_|refine Qu ?_))|((with_reducible refine hK _ ?_);clear hK)|(refine Qh rfl ?_;simp only [↓reduceIte,Qq3]))
 simp -implicitDefEqProofs only [Yq,↓reduceIte,Nat.reduceEqDiff,Qq1,Qq4,Qq5,List.mapM_cons,List.mapM_nil,Option.pure_def,Option.bind_eq_bind,QF,Qn,Qr,Qq9]
 exact Xg H (s:=s) (s':=s) (.keep (XW _ _ _ _)) ⟨rfl,rfl⟩
theorem QpM (hk:s.tk.kind=4) (hx:s.tk.text.toList=[61]):QJ Tryd.prog 74 [.ptr P.i 0 0] (ph h P s) (MQ h P s (some (3,false))):=by
 have f1:=QS h P
 have f3:=Xr h P
 have f4:=XY h P
 have f5:=Xe h P
 have f6:=XC h P
 have hi:=ph_i H s
 have hi0:=XS H s
 have hin:=ph_i H s.nx
 simp only [pB] at hi hi0 hin
 have cn:=XE hW (XS H s)
 have ct:=fun L=>Xm hW (H.app L) hN
 simp only [Q1 H] at ct
 have e1:=Tk.Qp9 s.tk
 have e2:=Tk.Qqa s.tk
 have z1:(s.tk.kind==1)=false:=by rw [hk];rfl
 have z3:(s.tk.kind != 4)=false:=by rw [hk];rfl
 have y0:(s.tk.text.toList==({data:=#[61]}:ByteArray).toList)=true:=by rw [hx,Lib.toList_data];rfl
 refine Qe Tryd.func74 rfl Tryd.call74 Tryd.ntmps74 (congrArg Array.toList Tryd.results74) (by simp) ?_
 repeat (first|((first|(with_reducible (first|refine Qa fun K E hK hE=>?_|refine FunW.ret (FunW.call cn) ?_)));simp -implicitDefEqProofs only [Qc,Qd,OpW,QE,aop,undef,AS.ev,Qq,AV.Qp8,↓reduceIte,Qg,Qw,Qv,QB,Qp,aBin,ti3,ti9,ti60,QQ,Xc,zi60,QI,Qs,f1,f3,f5,hi0,e1,e2,z1,z3,y0,seval])|(with_reducible (first|refine Qf fun K hK=>?_|refine Qj ?_|refine Qm ?_|refine QG ?_|refine Qb ?_|refine QD ?_|refine QC ?_|refine QW rfl ?_))|((with_reducible refine hK _ ?_);clear hK)|(clear hK;clear hK;(with_reducible refine hK _ ?_);clear hK)|(refine Qh rfl ?_;simp only [↓reduceIte,Qq3]))
 try ((clear hK;clear hK;clear hK;clear hK;clear hK;clear hK;clear hK;clear hK;clear hK;(with_reducible refine hK _ ?_);clear hK))
 repeat (first|((first|(with_reducible (first|refine Qa fun K E hK hE=>?_|refine FunW.ret (FunW.call (ct _)) ?_)));simp -implicitDefEqProofs only [Qc,Qd,OpW,QE,aop,undef,AS.ev,Qq,↓reduceIte,Qg,QI,Qs,hi,seval])|(with_reducible refine Ql ?_)|((with_reducible refine hK _ ?_);clear hK))
 try (((with_reducible refine hK _ ?_);clear hK))
 repeat ((((with_reducible refine Qa fun K E hK hE=>?_));simp -implicitDefEqProofs only [Qc,Qd,OpW,QE,aop,undef,XL,AS.ev,Qq,AV.Qp8,↓reduceIte,Qg,Qw,Qv,QB,Qp,aBin,goInt,ti0,zi0,ti3,zi3,un3,ti4,zi4,un4,ti9,ei9,zi9,un9,ti57,zi57,un57,ti60,QQ,Yc,Xc,zi60,sp60,ti66,QI,YG,YH,zi66,sp66,QrM,Int.sub_zero,Zg,Qs,f1,f3,f4,f5,f6,hi,hi0,hin,e1,e2,z1,z3,y0,seval]))
 try (((with_reducible refine hK _ ?_);clear hK))
 repeat ((((with_reducible refine Qa fun K E hK hE=>?_));simp -implicitDefEqProofs only [Qc,Qd,OpW,QE,aop,undef,XL,AS.ev,Qq,AV.Qp8,↓reduceIte,Qg,Qw,Qv,QB,Qp,aBin,goInt,ti0,zi0,ti3,zi3,un3,ti4,zi4,un4,ti9,ei9,zi9,un9,ti57,zi57,un57,ti60,QQ,Yc,Xc,zi60,sp60,ti66,QI,YG,YH,zi66,sp66,QrM,Int.sub_zero,Zg,Qs,f1,f3,f4,f5,f6,hi,hi0,hin,e1,e2,z1,z3,y0,seval]))
 simp -implicitDefEqProofs only [Yq,↓reduceIte,Nat.reduceEqDiff,Qq1,Qq4,Qq5,List.mapM_cons,List.mapM_nil,Option.pure_def,Option.bind_eq_bind,QF,Qn,Qr,Qq9]
 exact Xg H (s:=s) (s':=s.nx) (.keep (XW _ _ _ _)) ⟨rfl,rfl⟩
theorem QpN (hk:s.tk.kind=4) (hx:s.tk.text.toList=[61,61]):QJ Tryd.prog 74 [.ptr P.i 0 0] (ph h P s) (MQ h P s (some (5,false))):=by
 have f1:=QS h P
 have f3:=Xr h P
 have f4:=XY h P
 have f5:=Xe h P
 have f6:=XC h P
 have hi:=ph_i H s
 have hi0:=XS H s
 have hin:=ph_i H s.nx
 simp only [pB] at hi hi0 hin
 have cn:=XE hW (XS H s)
 have ct:=fun L=>Xm hW (H.app L) hN
 simp only [Q1 H] at ct
 have e1:=Tk.Qp9 s.tk
 have e2:=Tk.Qqa s.tk
 have z1:(s.tk.kind==1)=false:=by rw [hk];rfl
 have z3:(s.tk.kind != 4)=false:=by rw [hk];rfl
 have y0:(s.tk.text.toList==({data:=#[61]}:ByteArray).toList)=false:=by rw [hx,Lib.toList_data];rfl
 have y1:(s.tk.text.toList==({data:=#[61,61]}:ByteArray).toList)=true:=by rw [hx,Lib.toList_data];rfl
 refine Qe Tryd.func74 rfl Tryd.call74 Tryd.ntmps74 (congrArg Array.toList Tryd.results74) (by simp) ?_
 repeat (first|((first|(with_reducible (first|refine Qa fun K E hK hE=>?_|refine FunW.ret (FunW.call cn) ?_)));simp -implicitDefEqProofs only [Qc,Qd,OpW,QE,aop,undef,AS.ev,Qq,AV.Qp8,↓reduceIte,Qg,Qw,Qv,QB,Qp,aBin,ti3,ti9,ti60,QQ,Xc,zi60,QI,Qs,f1,f3,f5,hi0,e1,e2,z1,z3,y0,y1,seval])|(with_reducible (first|refine Qf fun K hK=>?_|refine Qj ?_|refine Qm ?_|refine QG ?_|refine Qb ?_|refine QD ?_|refine QC ?_|refine QW rfl ?_))|((with_reducible refine hK _ ?_);clear hK)|(clear hK;clear hK;clear hK;(with_reducible refine hK _ ?_);clear hK)|(refine Qh rfl ?_;simp only [↓reduceIte,Qq3]))
 try ((clear hK;clear hK;clear hK;clear hK;clear hK;clear hK;clear hK;clear hK;(with_reducible refine hK _ ?_);clear hK))
 repeat (first|((first|(with_reducible (first|refine Qa fun K E hK hE=>?_|refine FunW.ret (FunW.call (ct _)) ?_)));simp -implicitDefEqProofs only [Qc,Qd,OpW,QE,aop,undef,AS.ev,Qq,↓reduceIte,Qg,QI,Qs,hi,seval])|(with_reducible refine Ql ?_)|((with_reducible refine hK _ ?_);clear hK))
 try (((with_reducible refine hK _ ?_);clear hK))
 repeat ((((with_reducible refine Qa fun K E hK hE=>?_));simp -implicitDefEqProofs only [Qc,Qd,OpW,QE,aop,undef,XL,AS.ev,Qq,AV.Qp8,↓reduceIte,Qg,Qw,Qv,QB,Qp,aBin,goInt,ti0,zi0,ti3,zi3,un3,ti4,zi4,un4,ti9,ei9,zi9,un9,ti57,zi57,un57,ti60,QQ,Yc,Xc,zi60,sp60,ti66,QI,YG,YH,zi66,sp66,QrM,Int.sub_zero,Zg,Qs,f1,f3,f4,f5,f6,hi,hi0,hin,e1,e2,z1,z3,y0,y1,seval]))
 try (((with_reducible refine hK _ ?_);clear hK))
 repeat ((((with_reducible refine Qa fun K E hK hE=>?_));simp -implicitDefEqProofs only [Qc,Qd,OpW,QE,aop,undef,XL,AS.ev,Qq,AV.Qp8,↓reduceIte,Qg,Qw,Qv,QB,Qp,aBin,goInt,ti0,zi0,ti3,zi3,un3,ti4,zi4,un4,ti9,ei9,zi9,un9,ti57,zi57,un57,ti60,QQ,Yc,Xc,zi60,sp60,ti66,QI,YG,YH,zi66,sp66,QrM,Int.sub_zero,Zg,Qs,f1,f3,f4,f5,f6,hi,hi0,hin,e1,e2,z1,z3,y0,y1,seval]))
 simp -implicitDefEqProofs only [Yq,↓reduceIte,Nat.reduceEqDiff,Qq1,Qq4,Qq5,List.mapM_cons,List.mapM_nil,Option.pure_def,Option.bind_eq_bind,QF,Qn,Qr,Qq9]
 exact Xg H (s:=s) (s':=s.nx) (.keep (XW _ _ _ _)) ⟨rfl,rfl⟩
theorem QpO (hk:s.tk.kind=4) (hx:s.tk.text.toList=[92,61]):QJ Tryd.prog 74 [.ptr P.i 0 0] (ph h P s) (MQ h P s (some (6,false))):=by
 have f1:=QS h P
 have f3:=Xr h P
 have f4:=XY h P
 have f5:=Xe h P
 have f6:=XC h P
 have hi:=ph_i H s
 have hi0:=XS H s
 have hin:=ph_i H s.nx
 simp only [pB] at hi hi0 hin
 have cn:=XE hW (XS H s)
 have ct:=fun L=>Xm hW (H.app L) hN
 simp only [Q1 H] at ct
 have e1:=Tk.Qp9 s.tk
 have e2:=Tk.Qqa s.tk
 have z1:(s.tk.kind==1)=false:=by rw [hk];rfl
 have z3:(s.tk.kind != 4)=false:=by rw [hk];rfl
 have y0:(s.tk.text.toList==({data:=#[61]}:ByteArray).toList)=false:=by rw [hx,Lib.toList_data];rfl
 have y1:(s.tk.text.toList==({data:=#[61,61]}:ByteArray).toList)=false:=by rw [hx,Lib.toList_data];rfl
 have y2:(s.tk.text.toList==({data:=#[92,61]}:ByteArray).toList)=true:=by rw [hx,Lib.toList_data];rfl
 refine Qe Tryd.func74 rfl Tryd.call74 Tryd.ntmps74 (congrArg Array.toList Tryd.results74) (by simp) ?_
 repeat (first|((first|(with_reducible (first|refine Qa fun K E hK hE=>?_|refine FunW.ret (FunW.call cn) ?_)));simp -implicitDefEqProofs only [Qc,Qd,OpW,QE,aop,undef,AS.ev,Qq,AV.Qp8,↓reduceIte,Qg,Qw,Qv,QB,Qp,aBin,ti3,ti9,ti60,QQ,Xc,zi60,QI,Qs,f1,f3,f5,hi0,e1,e2,z1,z3,y0,y1,y2,seval])|(with_reducible (first|refine Qf fun K hK=>?_|refine Qj ?_|refine Qm ?_|refine QG ?_|refine Qb ?_|refine QD ?_|refine QC ?_|refine QW rfl ?_))|((with_reducible refine hK _ ?_);clear hK)|(refine Qh rfl ?_;simp only [↓reduceIte,Qq3]))
 try ((clear hK;clear hK;clear hK;clear hK;(with_reducible refine hK _ ?_);clear hK))
 repeat (first|(((with_reducible refine Qa fun K E hK hE=>?_));simp -implicitDefEqProofs only [Xb,Xh,Qd,OpW,aop,AS.ev,Q8,QbN,Nat.reduceLT])|(with_reducible (first|refine QG ?_|refine Qb ?_|refine QD ?_|refine QC ?_|refine QW rfl ?_))|((with_reducible refine hK _ ?_);clear hK))
 try ((clear hK;clear hK;clear hK;clear hK;clear hK;clear hK;clear hK;(with_reducible refine hK _ ?_);clear hK))
 repeat (first|((first|(with_reducible (first|refine Qa fun K E hK hE=>?_|refine FunW.ret (FunW.call (ct _)) ?_)));simp -implicitDefEqProofs only [Qc,Qd,OpW,QE,aop,undef,AS.ev,Qq,↓reduceIte,Qg,QI,Qs,hi,seval])|(with_reducible refine Ql ?_)|((with_reducible refine hK _ ?_);clear hK))
 try (((with_reducible refine hK _ ?_);clear hK))
 repeat ((((with_reducible refine Qa fun K E hK hE=>?_));simp -implicitDefEqProofs only [Qc,Qd,OpW,QE,aop,undef,XL,AS.ev,Qq,AV.Qp8,↓reduceIte,Qg,Qw,Qv,QB,Qp,aBin,goInt,ti0,zi0,ti3,zi3,un3,ti4,zi4,un4,ti9,ei9,zi9,un9,ti57,zi57,un57,ti60,QQ,Yc,Xc,zi60,sp60,ti66,QI,YG,YH,zi66,sp66,QrM,Int.sub_zero,Zg,Qs,f1,f3,f4,f5,f6,hi,hi0,hin,e1,e2,z1,z3,y0,y1,y2,seval]))
 simp -implicitDefEqProofs only [Yq,↓reduceIte,Nat.reduceEqDiff,Qq1,Qq4,Qq5,List.mapM_cons,List.mapM_nil,Option.pure_def,Option.bind_eq_bind,QF,Qn,Qr,Qq9]
 exact Xg H (s:=s) (s':=s.nx) (.keep (XW _ _ _ _)) ⟨rfl,rfl⟩
theorem QpP (hk:s.tk.kind=4) (hx:s.tk.text.toList=[62]):QJ Tryd.prog 74 [.ptr P.i 0 0] (ph h P s) (MQ h P s (some (7,true))):=by
 have f1:=QS h P
 have f3:=Xr h P
 have f4:=XY h P
 have f5:=Xe h P
 have f6:=XC h P
 have hi:=ph_i H s
 have hi0:=XS H s
 have hin:=ph_i H s.nx
 simp only [pB] at hi hi0 hin
 have cn:=XE hW (XS H s)
 have ct:=fun L=>Xm hW (H.app L) hN
 simp only [Q1 H] at ct
 have e1:=Tk.Qp9 s.tk
 have e2:=Tk.Qqa s.tk
 have z1:(s.tk.kind==1)=false:=by rw [hk];rfl
 have z3:(s.tk.kind != 4)=false:=by rw [hk];rfl
 have y0:(s.tk.text.toList==({data:=#[61]}:ByteArray).toList)=false:=by rw [hx,Lib.toList_data];rfl
 have y1:(s.tk.text.toList==({data:=#[61,61]}:ByteArray).toList)=false:=by rw [hx,Lib.toList_data];rfl
 have y2:(s.tk.text.toList==({data:=#[92,61]}:ByteArray).toList)=false:=by rw [hx,Lib.toList_data];rfl
 have y3:(s.tk.text.toList==({data:=#[62]}:ByteArray).toList)=true:=by rw [hx,Lib.toList_data];rfl
 refine Qe Tryd.func74 rfl Tryd.call74 Tryd.ntmps74 (congrArg Array.toList Tryd.results74) (by simp) ?_
 repeat (first|((first|(with_reducible (first|refine Qa fun K E hK hE=>?_|refine FunW.ret (FunW.call cn) ?_)));simp -implicitDefEqProofs only [Qc,Qd,OpW,QE,aop,undef,AS.ev,Qq,AV.Qp8,↓reduceIte,Qg,Qw,Qv,QB,Qp,aBin,ti3,ti9,ti60,QQ,Xc,zi60,QI,Qs,f1,f3,f5,hi0,e1,e2,z1,z3,y0,y1,y2,y3,seval])|(with_reducible (first|refine Qf fun K hK=>?_|refine Qj ?_|refine Qm ?_|refine QG ?_|refine Qb ?_|refine QD ?_|refine QC ?_|refine QW rfl ?_))|((with_reducible refine hK _ ?_);clear hK)|(refine Qh rfl ?_;simp only [↓reduceIte,Qq3]))
 try ((clear hK;clear hK;clear hK;clear hK;clear hK;(with_reducible refine hK _ ?_);clear hK))
 repeat (first|((first|(with_reducible (first|refine Qa fun K E hK hE=>?_|refine Qk fun K E hK hE=>?_)));simp -implicitDefEqProofs only [Qc,Qd,OpW,aop,AS.ev,Nat.reduceLT])|(with_reducible (first|refine QG ?_|refine Qb ?_|refine QD ?_|refine Qo ?_|refine QC ?_|refine QW rfl ?_))|((with_reducible refine hK _ ?_);clear hK))
 try ((clear hK;clear hK;clear hK;clear hK;clear hK;(with_reducible refine hK _ ?_);clear hK))
 repeat (first|((first|(with_reducible (first|refine Qa fun K E hK hE=>?_|refine FunW.ret (FunW.call (ct _)) ?_)));simp -implicitDefEqProofs only [Qc,Qd,OpW,QE,aop,undef,AS.ev,Qq,↓reduceIte,Qg,QI,Qs,hi,seval])|(with_reducible refine Ql ?_)|((with_reducible refine hK _ ?_);clear hK))
 try (((with_reducible refine hK _ ?_);clear hK))
 repeat ((((with_reducible refine Qa fun K E hK hE=>?_));simp -implicitDefEqProofs only [Qc,Qd,OpW,QE,aop,undef,XL,AS.ev,Qq,AV.Qp8,↓reduceIte,Qg,Qw,Qv,QB,Qp,aBin,goInt,ti0,zi0,ti3,zi3,un3,ti4,zi4,un4,ti9,ei9,zi9,un9,ti57,zi57,un57,ti60,QQ,Yc,Xc,zi60,sp60,ti66,QI,YG,YH,zi66,sp66,QrM,Int.sub_zero,Zg,Qs,f1,f3,f4,f5,f6,hi,hi0,hin,e1,e2,z1,z3,y0,y1,y2,y3,seval]))
 simp -implicitDefEqProofs only [Yq,↓reduceIte,Nat.reduceEqDiff,Qq1,Qq4,Qq5,List.mapM_cons,List.mapM_nil,Option.pure_def,Option.bind_eq_bind,QF,Qn,Qr,Qq9]
 exact Xg H (s:=s) (s':=s.nx) (.keep (XW _ _ _ _)) ⟨rfl,rfl⟩
theorem QpQ (hk:s.tk.kind=4) (hx:s.tk.text.toList=[60]):QJ Tryd.prog 74 [.ptr P.i 0 0] (ph h P s) (MQ h P s (some (7,false))):=by
 have f1:=QS h P
 have f3:=Xr h P
 have f4:=XY h P
 have f5:=Xe h P
 have f6:=XC h P
 have hi:=ph_i H s
 have hi0:=XS H s
 have hin:=ph_i H s.nx
 simp only [pB] at hi hi0 hin
 have cn:=XE hW (XS H s)
 have ct:=fun L=>Xm hW (H.app L) hN
 simp only [Q1 H] at ct
 have e1:=Tk.Qp9 s.tk
 have e2:=Tk.Qqa s.tk
 have z1:(s.tk.kind==1)=false:=by rw [hk];rfl
 have z3:(s.tk.kind != 4)=false:=by rw [hk];rfl
 have y0:(s.tk.text.toList==({data:=#[61]}:ByteArray).toList)=false:=by rw [hx,Lib.toList_data];rfl
 have y1:(s.tk.text.toList==({data:=#[61,61]}:ByteArray).toList)=false:=by rw [hx,Lib.toList_data];rfl
 have y2:(s.tk.text.toList==({data:=#[92,61]}:ByteArray).toList)=false:=by rw [hx,Lib.toList_data];rfl
 have y3:(s.tk.text.toList==({data:=#[62]}:ByteArray).toList)=false:=by rw [hx,Lib.toList_data];rfl
 have y4:(s.tk.text.toList==({data:=#[60]}:ByteArray).toList)=true:=by rw [hx,Lib.toList_data];rfl
 refine Qe Tryd.func74 rfl Tryd.call74 Tryd.ntmps74 (congrArg Array.toList Tryd.results74) (by simp) ?_
 repeat (first|((first|(with_reducible (first|refine Qa fun K E hK hE=>?_|refine FunW.ret (FunW.call cn) ?_)));simp -implicitDefEqProofs only [Qc,Qd,OpW,QE,aop,undef,AS.ev,Qq,AV.Qp8,↓reduceIte,Qg,Qw,Qv,QB,Qp,aBin,ti3,ti9,ti60,QQ,Xc,zi60,QI,Qs,f1,f3,f5,hi0,e1,e2,z1,z3,y0,y1,y2,y3,y4,seval])|(with_reducible (first|refine Qf fun K hK=>?_|refine Qj ?_|refine Qm ?_|refine QG ?_|refine Qb ?_|refine QD ?_|refine QC ?_|refine QW rfl ?_))|((with_reducible refine hK _ ?_);clear hK)|(refine Qh rfl ?_;simp only [↓reduceIte,Qq3]))
 try ((clear hK;clear hK;clear hK;clear hK;clear hK;clear hK;(with_reducible refine hK _ ?_);clear hK))
 repeat (first|(((with_reducible refine Qa fun K E hK hE=>?_));simp -implicitDefEqProofs only [Xb,Xh,Qd,OpW,aop,AS.ev,Q8,QbN,Nat.reduceLT])|(with_reducible (first|refine QG ?_|refine Qb ?_|refine QD ?_|refine QC ?_|refine QW rfl ?_))|((with_reducible refine hK _ ?_);clear hK))
 try ((clear hK;clear hK;clear hK;clear hK;clear hK;(with_reducible refine hK _ ?_);clear hK))
 repeat (first|((first|(with_reducible (first|refine Qa fun K E hK hE=>?_|refine FunW.ret (FunW.call (ct _)) ?_)));simp -implicitDefEqProofs only [Qc,Qd,OpW,QE,aop,undef,AS.ev,Qq,↓reduceIte,Qg,QI,Qs,hi,seval])|(with_reducible refine Ql ?_)|((with_reducible refine hK _ ?_);clear hK))
 try (((with_reducible refine hK _ ?_);clear hK))
 repeat ((((with_reducible refine Qa fun K E hK hE=>?_));simp -implicitDefEqProofs only [Qc,Qd,OpW,QE,aop,undef,XL,AS.ev,Qq,AV.Qp8,↓reduceIte,Qg,Qw,Qv,QB,Qp,aBin,goInt,ti0,zi0,ti3,zi3,un3,ti4,zi4,un4,ti9,ei9,zi9,un9,ti57,zi57,un57,ti60,QQ,Yc,Xc,zi60,sp60,ti66,QI,YG,YH,zi66,sp66,QrM,Int.sub_zero,Zg,Qs,f1,f3,f4,f5,f6,hi,hi0,hin,e1,e2,z1,z3,y0,y1,y2,y3,y4,seval]))
 simp -implicitDefEqProofs only [Yq,↓reduceIte,Nat.reduceEqDiff,Qq1,Qq4,Qq5,List.mapM_cons,List.mapM_nil,Option.pure_def,Option.bind_eq_bind,QF,Qn,Qr,Qq9]
 exact Xg H (s:=s) (s':=s.nx) (.keep (XW _ _ _ _)) ⟨rfl,rfl⟩
theorem QpR (hk:s.tk.kind=4) (hx:s.tk.text.toList=[62,61]):QJ Tryd.prog 74 [.ptr P.i 0 0] (ph h P s) (MQ h P s (some (8,true))):=by
 have f1:=QS h P
 have f3:=Xr h P
 have f4:=XY h P
 have f5:=Xe h P
 have f6:=XC h P
 have hi:=ph_i H s
 have hi0:=XS H s
 have hin:=ph_i H s.nx
 simp only [pB] at hi hi0 hin
 have cn:=XE hW (XS H s)
 have ct:=fun L=>Xm hW (H.app L) hN
 simp only [Q1 H] at ct
 have e1:=Tk.Qp9 s.tk
 have e2:=Tk.Qqa s.tk
 have z1:(s.tk.kind==1)=false:=by rw [hk];rfl
 have z3:(s.tk.kind != 4)=false:=by rw [hk];rfl
 have y0:(s.tk.text.toList==({data:=#[61]}:ByteArray).toList)=false:=by rw [hx,Lib.toList_data];rfl
 have y1:(s.tk.text.toList==({data:=#[61,61]}:ByteArray).toList)=false:=by rw [hx,Lib.toList_data];rfl
 have y2:(s.tk.text.toList==({data:=#[92,61]}:ByteArray).toList)=false:=by rw [hx,Lib.toList_data];rfl
 have y3:(s.tk.text.toList==({data:=#[62]}:ByteArray).toList)=false:=by rw [hx,Lib.toList_data];rfl
 have y4:(s.tk.text.toList==({data:=#[60]}:ByteArray).toList)=false:=by rw [hx,Lib.toList_data];rfl
 have y5:(s.tk.text.toList==({data:=#[62,61]}:ByteArray).toList)=true:=by rw [hx,Lib.toList_data];rfl
 refine Qe Tryd.func74 rfl Tryd.call74 Tryd.ntmps74 (congrArg Array.toList Tryd.results74) (by simp) ?_
 repeat (first|((first|(with_reducible (first|refine Qa fun K E hK hE=>?_|refine FunW.ret (FunW.call cn) ?_)));simp -implicitDefEqProofs only [Qc,Qd,OpW,QE,aop,undef,AS.ev,Qq,AV.Qp8,↓reduceIte,Qg,Qw,Qv,QB,Qp,aBin,ti3,ti9,ti60,QQ,Xc,zi60,QI,Qs,f1,f3,f5,hi0,e1,e2,z1,z3,y0,y1,y2,y3,y4,y5,seval])|(with_reducible (first|refine Qf fun K hK=>?_|refine Qj ?_|refine Qm ?_|refine QG ?_|refine Qb ?_|refine QD ?_|refine QC ?_|refine QW rfl ?_))|((with_reducible refine hK _ ?_);clear hK)|(refine Qh rfl ?_;simp only [↓reduceIte,Qq3]))
 try ((clear hK;clear hK;clear hK;clear hK;clear hK;clear hK;clear hK;(with_reducible refine hK _ ?_);clear hK))
 repeat (first|((first|(with_reducible (first|refine Qa fun K E hK hE=>?_|refine Qk fun K E hK hE=>?_|refine FunW.ret (FunW.call (ct _)) ?_)));simp -implicitDefEqProofs only [Qc,Qd,OpW,QE,aop,undef,AS.ev,Qq,↓reduceIte,Qg,QI,Qs,hi,seval])|(with_reducible (first|refine Ql ?_|refine QG ?_|refine Qb ?_|refine QD ?_|refine Qo ?_|refine QC ?_|refine QW rfl ?_))|((with_reducible refine hK _ ?_);clear hK)|(clear hK;clear hK;clear hK;(with_reducible refine hK _ ?_);clear hK))
 try (((with_reducible refine hK _ ?_);clear hK))
 repeat ((((with_reducible refine Qa fun K E hK hE=>?_));simp -implicitDefEqProofs only [Qc,Qd,OpW,QE,aop,undef,XL,AS.ev,Qq,AV.Qp8,↓reduceIte,Qg,Qw,Qv,QB,Qp,aBin,goInt,ti0,zi0,ti3,zi3,un3,ti4,zi4,un4,ti9,ei9,zi9,un9,ti57,zi57,un57,ti60,QQ,Yc,Xc,zi60,sp60,ti66,QI,YG,YH,zi66,sp66,QrM,Int.sub_zero,Zg,Qs,f1,f3,f4,f5,f6,hi,hi0,hin,e1,e2,z1,z3,y0,y1,y2,y3,y4,y5,seval]))
 try (((with_reducible refine hK _ ?_);clear hK))
 repeat ((((with_reducible refine Qa fun K E hK hE=>?_));simp -implicitDefEqProofs only [Qc,Qd,OpW,QE,aop,undef,XL,AS.ev,Qq,AV.Qp8,↓reduceIte,Qg,Qw,Qv,QB,Qp,aBin,goInt,ti0,zi0,ti3,zi3,un3,ti4,zi4,un4,ti9,ei9,zi9,un9,ti57,zi57,un57,ti60,QQ,Yc,Xc,zi60,sp60,ti66,QI,YG,YH,zi66,sp66,QrM,Int.sub_zero,Zg,Qs,f1,f3,f4,f5,f6,hi,hi0,hin,e1,e2,z1,z3,y0,y1,y2,y3,y4,y5,seval]))
 simp -implicitDefEqProofs only [Yq,↓reduceIte,Nat.reduceEqDiff,Qq1,Qq4,Qq5,List.mapM_cons,List.mapM_nil,Option.pure_def,Option.bind_eq_bind,QF,Qn,Qr,Qq9]
 exact Xg H (s:=s) (s':=s.nx) (.keep (XW _ _ _ _)) ⟨rfl,rfl⟩
theorem QpS (hk:s.tk.kind=4) (hx:s.tk.text.toList=[61,60]):QJ Tryd.prog 74 [.ptr P.i 0 0] (ph h P s) (MQ h P s (some (8,false))):=by
 have f1:=QS h P
 have f3:=Xr h P
 have f4:=XY h P
 have f5:=Xe h P
 have f6:=XC h P
 have hi:=ph_i H s
 have hi0:=XS H s
 have hin:=ph_i H s.nx
 simp only [pB] at hi hi0 hin
 have cn:=XE hW (XS H s)
 have ct:=fun L=>Xm hW (H.app L) hN
 simp only [Q1 H] at ct
 have e1:=Tk.Qp9 s.tk
 have e2:=Tk.Qqa s.tk
 have z1:(s.tk.kind==1)=false:=by rw [hk];rfl
 have z3:(s.tk.kind != 4)=false:=by rw [hk];rfl
 have y0:(s.tk.text.toList==({data:=#[61]}:ByteArray).toList)=false:=by rw [hx,Lib.toList_data];rfl
 have y1:(s.tk.text.toList==({data:=#[61,61]}:ByteArray).toList)=false:=by rw [hx,Lib.toList_data];rfl
 have y2:(s.tk.text.toList==({data:=#[92,61]}:ByteArray).toList)=false:=by rw [hx,Lib.toList_data];rfl
 have y3:(s.tk.text.toList==({data:=#[62]}:ByteArray).toList)=false:=by rw [hx,Lib.toList_data];rfl
 have y4:(s.tk.text.toList==({data:=#[60]}:ByteArray).toList)=false:=by rw [hx,Lib.toList_data];rfl
 have y5:(s.tk.text.toList==({data:=#[62,61]}:ByteArray).toList)=false:=by rw [hx,Lib.toList_data];rfl
 have y6:(s.tk.text.toList==({data:=#[61,60]}:ByteArray).toList)=true:=by rw [hx,Lib.toList_data];rfl
 refine Qe Tryd.func74 rfl Tryd.call74 Tryd.ntmps74 (congrArg Array.toList Tryd.results74) (by simp) ?_
 repeat (first|((first|(with_reducible (first|refine Qa fun K E hK hE=>?_|refine FunW.ret (FunW.call cn) ?_)));simp -implicitDefEqProofs only [Qc,Qd,OpW,QE,aop,undef,AS.ev,Qq,AV.Qp8,↓reduceIte,Qg,Qw,Qv,QB,Qp,aBin,ti3,ti9,ti60,QQ,Xc,zi60,QI,Qs,f1,f3,f5,hi0,e1,e2,z1,z3,y0,y1,y2,y3,y4,y5,y6,seval])|(with_reducible (first|refine Qf fun K hK=>?_|refine Qj ?_|refine Qm ?_|refine QG ?_|refine Qb ?_|refine QD ?_|refine QC ?_|refine QW rfl ?_))|((with_reducible refine hK _ ?_);clear hK)|(refine Qh rfl ?_;simp only [↓reduceIte,Qq3]))
 try ((clear hK;clear hK;clear hK;clear hK;clear hK;clear hK;clear hK;clear hK;(with_reducible refine hK _ ?_);clear hK))
 repeat (first|((first|(with_reducible (first|refine Qa fun K E hK hE=>?_|refine FunW.ret (FunW.call (ct _)) ?_)));simp -implicitDefEqProofs only [Qc,Qd,OpW,QE,aop,undef,AS.ev,Qq,↓reduceIte,Qg,QI,Qs,hi,seval])|(with_reducible (first|refine Ql ?_|refine QG ?_|refine Qb ?_|refine QD ?_|refine QC ?_|refine QW rfl ?_))|((with_reducible refine hK _ ?_);clear hK)|(clear hK;clear hK;clear hK;(with_reducible refine hK _ ?_);clear hK))
 try (((with_reducible refine hK _ ?_);clear hK))
 repeat ((((with_reducible refine Qa fun K E hK hE=>?_));simp -implicitDefEqProofs only [Qc,Qd,OpW,QE,aop,undef,XL,AS.ev,Qq,AV.Qp8,↓reduceIte,Qg,Qw,Qv,QB,Qp,aBin,goInt,ti0,zi0,ti3,zi3,un3,ti4,zi4,un4,ti9,ei9,zi9,un9,ti57,zi57,un57,ti60,QQ,Yc,Xc,zi60,sp60,ti66,QI,YG,YH,zi66,sp66,QrM,Int.sub_zero,Zg,Qs,f1,f3,f4,f5,f6,hi,hi0,hin,e1,e2,z1,z3,y0,y1,y2,y3,y4,y5,y6,seval]))
 try (((with_reducible refine hK _ ?_);clear hK))
 repeat ((((with_reducible refine Qa fun K E hK hE=>?_));simp -implicitDefEqProofs only [Qc,Qd,OpW,QE,aop,undef,XL,AS.ev,Qq,AV.Qp8,↓reduceIte,Qg,Qw,Qv,QB,Qp,aBin,goInt,ti0,zi0,ti3,zi3,un3,ti4,zi4,un4,ti9,ei9,zi9,un9,ti57,zi57,un57,ti60,QQ,Yc,Xc,zi60,sp60,ti66,QI,YG,YH,zi66,sp66,QrM,Int.sub_zero,Zg,Qs,f1,f3,f4,f5,f6,hi,hi0,hin,e1,e2,z1,z3,y0,y1,y2,y3,y4,y5,y6,seval]))
 simp -implicitDefEqProofs only [Yq,↓reduceIte,Nat.reduceEqDiff,Qq1,Qq4,Qq5,List.mapM_cons,List.mapM_nil,Option.pure_def,Option.bind_eq_bind,QF,Qn,Qr,Qq9]
 exact Xg H (s:=s) (s':=s.nx) (.keep (XW _ _ _ _)) ⟨rfl,rfl⟩
theorem QpT (hk:s.tk.kind=4) (hx:s.tk.text.toList=[61,58,61]):QJ Tryd.prog 74 [.ptr P.i 0 0] (ph h P s) (MQ h P s (some (9,false))):=by
 have f1:=QS h P
 have f3:=Xr h P
 have f4:=XY h P
 have f5:=Xe h P
 have f6:=XC h P
 have hi:=ph_i H s
 have hi0:=XS H s
 have hin:=ph_i H s.nx
 simp only [pB] at hi hi0 hin
 have cn:=XE hW (XS H s)
 have ct:=fun L=>Xm hW (H.app L) hN
 simp only [Q1 H] at ct
 have e1:=Tk.Qp9 s.tk
 have e2:=Tk.Qqa s.tk
 have z1:(s.tk.kind==1)=false:=by rw [hk];rfl
 have z3:(s.tk.kind != 4)=false:=by rw [hk];rfl
 have y0:(s.tk.text.toList==({data:=#[61]}:ByteArray).toList)=false:=by rw [hx,Lib.toList_data];rfl
 have y1:(s.tk.text.toList==({data:=#[61,61]}:ByteArray).toList)=false:=by rw [hx,Lib.toList_data];rfl
 have y2:(s.tk.text.toList==({data:=#[92,61]}:ByteArray).toList)=false:=by rw [hx,Lib.toList_data];rfl
 have y3:(s.tk.text.toList==({data:=#[62]}:ByteArray).toList)=false:=by rw [hx,Lib.toList_data];rfl
 have y4:(s.tk.text.toList==({data:=#[60]}:ByteArray).toList)=false:=by rw [hx,Lib.toList_data];rfl
 have y5:(s.tk.text.toList==({data:=#[62,61]}:ByteArray).toList)=false:=by rw [hx,Lib.toList_data];rfl
 have y6:(s.tk.text.toList==({data:=#[61,60]}:ByteArray).toList)=false:=by rw [hx,Lib.toList_data];rfl
 have y7:(s.tk.text.toList==({data:=#[61,58,61]}:ByteArray).toList)=true:=by rw [hx,Lib.toList_data];rfl
 refine Qe Tryd.func74 rfl Tryd.call74 Tryd.ntmps74 (congrArg Array.toList Tryd.results74) (by simp) ?_
 repeat (first|((first|(with_reducible (first|refine Qa fun K E hK hE=>?_|refine FunW.ret (FunW.call cn) ?_)));simp -implicitDefEqProofs only [Qc,Qd,OpW,QE,aop,undef,AS.ev,Qq,AV.Qp8,↓reduceIte,Qg,Qw,Qv,QB,Qp,aBin,ti3,ti9,ti60,QQ,Xc,zi60,QI,Qs,f1,f3,f5,hi0,e1,e2,z1,z3,y0,y1,y2,y3,y4,y5,y6,y7,seval])|(with_reducible (first|refine Qf fun K hK=>?_|refine Qj ?_|refine Qm ?_|refine QG ?_|refine Qb ?_|refine QD ?_|refine QC ?_|refine QW rfl ?_))|((with_reducible refine hK _ ?_);clear hK)|(refine Qh rfl ?_;simp only [↓reduceIte,Qq3]))
 try ((clear hK;clear hK;clear hK;clear hK;clear hK;clear hK;clear hK;clear hK;clear hK;(with_reducible refine hK _ ?_);clear hK))
 repeat (first|((first|(with_reducible (first|refine Qa fun K E hK hE=>?_|refine FunW.ret (FunW.call (ct _)) ?_)));simp -implicitDefEqProofs only [Qc,Qd,OpW,QE,aop,undef,AS.ev,Qq,↓reduceIte,Qg,QI,Qs,hi,seval])|(with_reducible (first|refine Ql ?_|refine QG ?_|refine Qb ?_|refine QD ?_|refine QC ?_|refine QW rfl ?_))|((with_reducible refine hK _ ?_);clear hK)|(clear hK;clear hK;(with_reducible refine hK _ ?_);clear hK))
 try (((with_reducible refine hK _ ?_);clear hK))
 repeat ((((with_reducible refine Qa fun K E hK hE=>?_));simp -implicitDefEqProofs only [Qc,Qd,OpW,QE,aop,undef,XL,AS.ev,Qq,AV.Qp8,↓reduceIte,Qg,Qw,Qv,QB,Qp,aBin,goInt,ti0,zi0,ti3,zi3,un3,ti4,zi4,un4,ti9,ei9,zi9,un9,ti57,zi57,un57,ti60,QQ,Yc,Xc,zi60,sp60,ti66,QI,YG,YH,zi66,sp66,QrM,Int.sub_zero,Zg,Qs,f1,f3,f4,f5,f6,hi,hi0,hin,e1,e2,z1,z3,y0,y1,y2,y3,y4,y5,y6,y7,seval]))
 try (((with_reducible refine hK _ ?_);clear hK))
 repeat ((((with_reducible refine Qa fun K E hK hE=>?_));simp -implicitDefEqProofs only [Qc,Qd,OpW,QE,aop,undef,XL,AS.ev,Qq,AV.Qp8,↓reduceIte,Qg,Qw,Qv,QB,Qp,aBin,goInt,ti0,zi0,ti3,zi3,un3,ti4,zi4,un4,ti9,ei9,zi9,un9,ti57,zi57,un57,ti60,QQ,Yc,Xc,zi60,sp60,ti66,QI,YG,YH,zi66,sp66,QrM,Int.sub_zero,Zg,Qs,f1,f3,f4,f5,f6,hi,hi0,hin,e1,e2,z1,z3,y0,y1,y2,y3,y4,y5,y6,y7,seval]))
 simp -implicitDefEqProofs only [Yq,↓reduceIte,Nat.reduceEqDiff,Qq1,Qq4,Qq5,List.mapM_cons,List.mapM_nil,Option.pure_def,Option.bind_eq_bind,QF,Qn,Qr,Qq9]
 exact Xg H (s:=s) (s':=s.nx) (.keep (XW _ _ _ _)) ⟨rfl,rfl⟩
theorem QpU (hk:s.tk.kind=4) (hx:s.tk.text.toList=[61,92,61]):QJ Tryd.prog 74 [.ptr P.i 0 0] (ph h P s) (MQ h P s (some (10,false))):=by
 have f1:=QS h P
 have f3:=Xr h P
 have f4:=XY h P
 have f5:=Xe h P
 have f6:=XC h P
 have hi:=ph_i H s
 have hi0:=XS H s
 have hin:=ph_i H s.nx
 simp only [pB] at hi hi0 hin
 have cn:=XE hW (XS H s)
 have ct:=fun L=>Xm hW (H.app L) hN
 simp only [Q1 H] at ct
 have e1:=Tk.Qp9 s.tk
 have e2:=Tk.Qqa s.tk
 have z1:(s.tk.kind==1)=false:=by rw [hk];rfl
 have z3:(s.tk.kind != 4)=false:=by rw [hk];rfl
 have y0:(s.tk.text.toList==({data:=#[61]}:ByteArray).toList)=false:=by rw [hx,Lib.toList_data];rfl
 have y1:(s.tk.text.toList==({data:=#[61,61]}:ByteArray).toList)=false:=by rw [hx,Lib.toList_data];rfl
 have y2:(s.tk.text.toList==({data:=#[92,61]}:ByteArray).toList)=false:=by rw [hx,Lib.toList_data];rfl
 have y3:(s.tk.text.toList==({data:=#[62]}:ByteArray).toList)=false:=by rw [hx,Lib.toList_data];rfl
 have y4:(s.tk.text.toList==({data:=#[60]}:ByteArray).toList)=false:=by rw [hx,Lib.toList_data];rfl
 have y5:(s.tk.text.toList==({data:=#[62,61]}:ByteArray).toList)=false:=by rw [hx,Lib.toList_data];rfl
 have y6:(s.tk.text.toList==({data:=#[61,60]}:ByteArray).toList)=false:=by rw [hx,Lib.toList_data];rfl
 have y7:(s.tk.text.toList==({data:=#[61,58,61]}:ByteArray).toList)=false:=by rw [hx,Lib.toList_data];rfl
 have y8:(s.tk.text.toList==({data:=#[61,92,61]}:ByteArray).toList)=true:=by rw [hx,Lib.toList_data];rfl
 refine Qe Tryd.func74 rfl Tryd.call74 Tryd.ntmps74 (congrArg Array.toList Tryd.results74) (by simp) ?_
 repeat (first|((first|(with_reducible (first|refine Qa fun K E hK hE=>?_|refine FunW.ret (FunW.call cn) ?_)));simp -implicitDefEqProofs only [Qc,Qd,OpW,QE,aop,undef,AS.ev,Qq,AV.Qp8,↓reduceIte,Qg,Qw,Qv,QB,Qp,aBin,ti3,ti9,ti60,QQ,Xc,zi60,QI,Qs,f1,f3,f5,hi0,e1,e2,z1,z3,y0,y1,y2,y3,y4,y5,y6,y7,y8,seval])|(with_reducible (first|refine Qf fun K hK=>?_|refine Qj ?_|refine Qm ?_|refine QG ?_|refine Qb ?_|refine QD ?_|refine QC ?_|refine QW rfl ?_))|((with_reducible refine hK _ ?_);clear hK)|(refine Qh rfl ?_;simp only [↓reduceIte,Qq3]))
 try ((clear hK;clear hK;clear hK;clear hK;clear hK;clear hK;clear hK;clear hK;clear hK;(with_reducible refine hK _ ?_);clear hK))
 repeat (first|((first|(with_reducible (first|refine Qa fun K E hK hE=>?_|refine FunW.ret (FunW.call (ct _)) ?_)));simp -implicitDefEqProofs only [Qc,Qd,OpW,QE,aop,undef,AS.ev,Qq,↓reduceIte,Qg,QI,Qs,hi,seval])|(with_reducible (first|refine Ql ?_|refine QG ?_|refine Qb ?_|refine QD ?_|refine QC ?_|refine QW rfl ?_))|((with_reducible refine hK _ ?_);clear hK)|(clear hK;(with_reducible refine hK _ ?_);clear hK))
 try (((with_reducible refine hK _ ?_);clear hK))
 repeat ((((with_reducible refine Qa fun K E hK hE=>?_));simp -implicitDefEqProofs only [Qc,Qd,OpW,QE,aop,undef,XL,AS.ev,Qq,AV.Qp8,↓reduceIte,Qg,Qw,Qv,QB,Qp,aBin,goInt,ti0,zi0,ti3,zi3,un3,ti4,zi4,un4,ti9,ei9,zi9,un9,ti57,zi57,un57,ti60,QQ,Yc,Xc,zi60,sp60,ti66,QI,YG,YH,zi66,sp66,QrM,Int.sub_zero,Zg,Qs,f1,f3,f4,f5,f6,hi,hi0,hin,e1,e2,z1,z3,y0,y1,y2,y3,y4,y5,y6,y7,y8,seval]))
 try (((with_reducible refine hK _ ?_);clear hK))
 repeat ((((with_reducible refine Qa fun K E hK hE=>?_));simp -implicitDefEqProofs only [Qc,Qd,OpW,QE,aop,undef,XL,AS.ev,Qq,AV.Qp8,↓reduceIte,Qg,Qw,Qv,QB,Qp,aBin,goInt,ti0,zi0,ti3,zi3,un3,ti4,zi4,un4,ti9,ei9,zi9,un9,ti57,zi57,un57,ti60,QQ,Yc,Xc,zi60,sp60,ti66,QI,YG,YH,zi66,sp66,QrM,Int.sub_zero,Zg,Qs,f1,f3,f4,f5,f6,hi,hi0,hin,e1,e2,z1,z3,y0,y1,y2,y3,y4,y5,y6,y7,y8,seval]))
 simp -implicitDefEqProofs only [Yq,↓reduceIte,Nat.reduceEqDiff,Qq1,Qq4,Qq5,List.mapM_cons,List.mapM_nil,Option.pure_def,Option.bind_eq_bind,QF,Qn,Qr,Qq9]
 exact Xg H (s:=s) (s':=s.nx) (.keep (XW _ _ _ _)) ⟨rfl,rfl⟩
theorem QmL (hk:s.tk.kind=4) (h0:s.tk.text.toList≠[61]) (h1:s.tk.text.toList≠[61,61]) (h2:s.tk.text.toList≠[92,61]) (h3:s.tk.text.toList≠[62]) (h4:s.tk.text.toList≠[60]) (h5:s.tk.text.toList≠[62,61]) (h6:s.tk.text.toList≠[61,60]) (h7:s.tk.text.toList≠[61,58,61]) (h8:s.tk.text.toList≠[61,92,61]):QJ Tryd.prog 74 [.ptr P.i 0 0] (ph h P s) (MQ h P s (none)):=by
 have f1:=QS h P
 have f3:=Xr h P
 have f4:=XY h P
 have f5:=Xe h P
 have f6:=XC h P
 have hi:=ph_i H s
 have hi0:=XS H s
 have hin:=ph_i H s.nx
 simp only [pB] at hi hi0 hin
 have cn:=XE hW (XS H s)
 have ct:=fun L=>Xm hW (H.app L) hN
 simp only [Q1 H] at ct
 have e1:=Tk.Qp9 s.tk
 have e2:=Tk.Qqa s.tk
 have z1:(s.tk.kind==1)=false:=by rw [hk];rfl
 have z3:(s.tk.kind != 4)=false:=by rw [hk];rfl
 have y0:(s.tk.text.toList==({data:=#[61]}:ByteArray).toList)=false:=by rw [Lib.toList_data ({data:=#[61]}:ByteArray)];simpa using h0
 have y1:(s.tk.text.toList==({data:=#[61,61]}:ByteArray).toList)=false:=by rw [Lib.toList_data ({data:=#[61,61]}:ByteArray)];simpa using h1
 have y2:(s.tk.text.toList==({data:=#[92,61]}:ByteArray).toList)=false:=by rw [Lib.toList_data ({data:=#[92,61]}:ByteArray)];simpa using h2
 have y3:(s.tk.text.toList==({data:=#[62]}:ByteArray).toList)=false:=by rw [Lib.toList_data ({data:=#[62]}:ByteArray)];simpa using h3
 have y4:(s.tk.text.toList==({data:=#[60]}:ByteArray).toList)=false:=by rw [Lib.toList_data ({data:=#[60]}:ByteArray)];simpa using h4
 have y5:(s.tk.text.toList==({data:=#[62,61]}:ByteArray).toList)=false:=by rw [Lib.toList_data ({data:=#[62,61]}:ByteArray)];simpa using h5
 have y6:(s.tk.text.toList==({data:=#[61,60]}:ByteArray).toList)=false:=by rw [Lib.toList_data ({data:=#[61,60]}:ByteArray)];simpa using h6
 have y7:(s.tk.text.toList==({data:=#[61,58,61]}:ByteArray).toList)=false:=by rw [Lib.toList_data ({data:=#[61,58,61]}:ByteArray)];simpa using h7
 have y8:(s.tk.text.toList==({data:=#[61,92,61]}:ByteArray).toList)=false:=by rw [Lib.toList_data ({data:=#[61,92,61]}:ByteArray)];simpa using h8
 refine Qe Tryd.func74 rfl Tryd.call74 Tryd.ntmps74 (congrArg Array.toList Tryd.results74) (by simp) ?_
 repeat (first|((first|(with_reducible (first|refine Qa fun K E hK hE=>?_|refine FunW.ret (FunW.call cn) ?_)));simp -implicitDefEqProofs only [Qc,Qd,OpW,QE,aop,undef,AS.ev,Qq,AV.Qp8,↓reduceIte,Qg,Qw,Qv,QB,Qp,aBin,ti3,ti9,ti60,QQ,Xc,zi60,QI,Qs,f1,f3,f5,hi0,e1,e2,z1,z3,y0,y1,y2,y3,y4,y5,y6,y7,y8,seval])|(with_reducible (first|refine Qf fun K hK=>?_|refine Qj ?_|refine Qm ?_|refine QG ?_|refine Qb ?_|refine QD ?_|refine QC ?_|refine QW rfl ?_))|((with_reducible refine hK _ ?_);clear hK)|(refine Qh rfl ?_;simp only [↓reduceIte,Qq3]))
 try ((clear hK;clear hK;clear hK;clear hK;clear hK;clear hK;clear hK;clear hK;clear hK;(with_reducible refine hK _ ?_);clear hK))
 repeat (first|(((with_reducible refine Qa fun K E hK hE=>?_));simp -implicitDefEqProofs only [Qc,Qd,OpW,aop,AS.ev,Nat.reduceLT])|(with_reducible (first|refine Qf fun K hK=>?_|refine Ql ?_|refine Qu ?_|refine Qy ?_))|((with_reducible refine hK _ ?_);clear hK))
 try (((with_reducible refine hK _ ?_);clear hK))
 repeat ((((with_reducible refine Qa fun K E hK hE=>?_));simp -implicitDefEqProofs only [Qc,Qd,OpW,QE,aop,undef,XL,AS.ev,Qq,AV.Qp8,↓reduceIte,Qg,Qw,Qv,QB,Qp,aBin,goInt,ti0,zi0,ti3,zi3,un3,ti4,zi4,un4,ti9,ei9,zi9,un9,ti57,zi57,un57,ti60,QQ,Yc,Xc,zi60,sp60,ti66,QI,YG,YH,zi66,sp66,QrM,Int.sub_zero,Zg,Qs,f1,f3,f4,f5,f6,hi,hi0,hin,e1,e2,z1,z3,y0,y1,y2,y3,y4,y5,y6,y7,y8,seval]))
 try (((with_reducible refine hK _ ?_);clear hK))
 repeat ((((with_reducible refine Qa fun K E hK hE=>?_));simp -implicitDefEqProofs only [Qc,Qd,OpW,QE,aop,undef,XL,AS.ev,Qq,AV.Qp8,↓reduceIte,Qg,Qw,Qv,QB,Qp,aBin,goInt,ti0,zi0,ti3,zi3,un3,ti4,zi4,un4,ti9,ei9,zi9,un9,ti57,zi57,un57,ti60,QQ,Yc,Xc,zi60,sp60,ti66,QI,YG,YH,zi66,sp66,QrM,Int.sub_zero,Zg,Qs,f1,f3,f4,f5,f6,hi,hi0,hin,e1,e2,z1,z3,y0,y1,y2,y3,y4,y5,y6,y7,y8,seval]))
 simp -implicitDefEqProofs only [Yq,↓reduceIte,Nat.reduceEqDiff,Qq1,Qq4,Qq5,List.mapM_cons,List.mapM_nil,Option.pure_def,Option.bind_eq_bind,QF,Qn,Qr,Qq9]
 exact Xg H (s:=s) (s':=s) (.keep (XW _ _ _ _)) ⟨rfl,rfl⟩
theorem QdT:QJ Tryd.prog 74 [.ptr P.i 0 0] (ph h P s) (MQ h P s (Qb2 s)):=by
 unfold Qb2
 by_cases hk:s.tk.kind=1
 ·rw [if_pos hk]
  by_cases hx:s.tk.text.toList=[105,115]
  ·rw [if_pos hx];exact QoX hW H hN hk hx
  ·rw [if_neg hx];exact QmM hW H hN hk hx
 rw [if_neg hk]
 by_cases hk4:s.tk.kind=4
 case neg=>rw [if_pos hk4];exact Qk1 hW H hN hk hk4
 rw [if_neg (by simpa using hk4)]
 by_cases h0:s.tk.text.toList=[61]
 ·rw [if_pos h0];exact QpM hW H hN hk4 h0
 rw [if_neg h0]
 by_cases h1:s.tk.text.toList=[61,61]
 ·rw [if_pos h1];exact QpN hW H hN hk4 h1
 rw [if_neg h1]
 by_cases h2:s.tk.text.toList=[92,61]
 ·rw [if_pos h2];exact QpO hW H hN hk4 h2
 rw [if_neg h2]
 by_cases h4:s.tk.text.toList=[60]
 ·rw [if_pos h4];exact QpQ hW H hN hk4 h4
 rw [if_neg h4]
 by_cases h6:s.tk.text.toList=[61,60]
 ·rw [if_pos h6];exact QpS hW H hN hk4 h6
 rw [if_neg h6]
 by_cases h3:s.tk.text.toList=[62]
 ·rw [if_pos h3];exact QpP hW H hN hk4 h3
 rw [if_neg h3]
 by_cases h5:s.tk.text.toList=[62,61]
 ·rw [if_pos h5];exact QpR hW H hN hk4 h5
 rw [if_neg h5]
 by_cases h7:s.tk.text.toList=[61,58,61]
 ·rw [if_pos h7];exact QpT hW H hN hk4 h7
 rw [if_neg h7]
 by_cases h8:s.tk.text.toList=[61,92,61]
 ·rw [if_pos h8];exact QpU hW H hN hk4 h8
 rw [if_neg h8]
 exact QmL hW H hN hk4 h0 h1 h2 h3 h4 h5 h6 h7 h8
end
end Go.Proofs.YticgcpebdldbgaaDoor.Ab
namespace Go.Proofs.YticgcpebdldbgaaDoor.Ab
theorem Qm6 (tt:TypeId) (n:Nat) (x y:T):layA tt n [x,y]=x.lay tt n++(.dead::(y.lay tt (n+x.sz+1)++[.cells tt 4 [x.lv n,y.lv (n+x.sz+1)]])):=by
 simp only [layA,lays,lvs,QrG,QrF,Qq3,if_false,if_true]
def tauT (n px sx pd py sy pr:Nat):Nat→Nat:=fun i=>if i<n then i else if i<n+sx then px+(i - n) else if i=n+sx then pd else if i<n+sx+1+sy then py+(i - n - sx - 1) else pr+(i - (n+sx+1+sy))
theorem Qos {tt:TypeId} {A N:AH} {n:Nat} (hn:A.length=n) (hb:∀ b∈A,b.Below n) (x y:T) {px pd py pr:Nat} (h1:n≤px) (h2:n≤py) (h3:n≤pd)
  (ho:(px+x.sz≤pd∧pd<py∧py+y.sz≤pr)∨(py+y.sz≤pd∧pd<px∧px+x.sz≤pr)) (hx:At (A++N) px (x.lay tt px)) (hy:At (A++N) py (y.lay tt py)) (hr:(A++N)[pr]? = some (.cells tt 4 [x.lv px,y.lv py])) :
  Pack n (tauT n px x.sz pd py y.sz pr) (A++N) (A++layA tt n [x,y])∧Pk n (tauT n px x.sz pd py y.sz pr) (A++layA tt n [x,y]) (.arr pr 0 2) (lsl n [x,y]):=by
 have hlen:(layA tt n [x,y]).length=x.sz+1+(y.sz+1):=by rw [XZ];simp only [szs];try omega
 have hL:(A++layA tt n [x,y]).length=n+(x.sz+1+(y.sz+1)):=by rw [List.length_append,hlen,hn]
 have shx:Sh n (tauT n px x.sz pd py y.sz pr) (A++layA tt n [x,y]) px n x.sz:=⟨Nat.le_refl _,by omega,fun j hj=>by unfold tauT;rw [if_neg (by omega),if_pos (by omega)];omega⟩
 have shy:Sh n (tauT n px x.sz pd py y.sz pr) (A++layA tt n [x,y]) py (n+x.sz+1) y.sz:=⟨by omega,by omega,fun j hj=>by unfold tauT;rw [if_neg (by omega),if_neg (by omega),if_neg (by omega),if_pos (by omega)];omega⟩
 have cl:∀ i,n≤i→i<n+(x.sz+1+(y.sz+1))→(i<n+x.sz∧tauT n px x.sz pd py y.sz pr i=px+(i - n))∨(i=n+x.sz∧tauT n px x.sz pd py y.sz pr i=pd) ∨
   (n+x.sz<i∧i<n+x.sz+1+y.sz∧tauT n px x.sz pd py y.sz pr i=py+(i - n - x.sz - 1))∨(i=n+x.sz+1+y.sz∧tauT n px x.sz pd py y.sz pr i=pr):=by
  intro i hi hi2
  by_cases a1:i<n+x.sz
  ·exact .inl ⟨a1,by unfold tauT;rw [if_neg (by omega),if_pos a1]⟩
  ·by_cases a2:i=n+x.sz
   ·exact .inr (.inl ⟨a2,by unfold tauT;rw [if_neg (by omega),if_neg a1,if_pos a2]⟩)
   ·by_cases a3:i<n+x.sz+1+y.sz
    ·exact .inr (.inr (.inl ⟨by omega,a3,by unfold tauT;rw [if_neg (by omega),if_neg a1,if_neg a2,if_pos a3]⟩))
    ·refine .inr (.inr (.inr ⟨by omega,?_⟩))
     unfold tauT
     rw [if_neg (by omega),if_neg a1,if_neg a2,if_neg a3]
     omega
 have tr:tauT n px x.sz pd py y.sz pr (n+x.sz+1+y.sz)=pr:=by
  rcases cl (n+x.sz+1+y.sz) (by omega) (by omega) with h|h|h|h <;> omega
 refine ⟨Qjc hn hb (fun i hi=>by unfold tauT;rw [if_pos hi]) (fun i hi hi2=>?_) (fun i j hi hi2 hj hj2 he=>?_) fun j b' hj=>?_,?_⟩
 ·rcases cl i hi (by omega) with h|h|h|h <;> omega
 ·rw [hlen] at hi2 hj2
  rcases cl i hi hi2 with h|h|h|h <;> rcases cl j hj hj2 with k|k|k|k <;> omega
 ·have hjl:=Qt hj
  rw [hlen] at hjl
  rw [Qm6,List.getElem?_append,T.Qqc] at hj
  split at hj
  ·rename_i hlt
   obtain ⟨b,hbb⟩:∃ b,(x.lay tt px)[j]? = some b:=⟨_,List.getElem?_eq_getElem (by rw [T.Qqc];exact hlt)⟩
   cases hl:b.live with
   |false=>exact .inl (T.Qqq x j b b' hbb hj hl)
   |true =>
    refine .inr ⟨b,?_,T.pkB x shx j b b' hbb hj⟩
    rw [shx.2.2 j hlt]
    exact hx j b hbb hl
  ·rename_i hge
   cases hk:j - x.sz with
   |zero =>
    rw [hk,List.getElem?_cons_zero] at hj
    cases hj
    exact .inl rfl
   |succ k =>
    rw [hk,List.getElem?_cons_succ,List.getElem?_append,T.Qqc] at hj
    split at hj
    ·rename_i hlt
     obtain ⟨b,hbb⟩:∃ b,(y.lay tt py)[k]? = some b:=⟨_,List.getElem?_eq_getElem (by rw [T.Qqc];exact hlt)⟩
     cases hl:b.live with
     |false=>exact .inl (T.Qqq y k b b' hbb hj hl)
     |true =>
      refine .inr ⟨b,?_,T.pkB y shy k b b' hbb hj⟩
      rw [show n+j=n+x.sz+1+k by omega,shy.2.2 k hlt]
      exact hy k b hbb hl
    ·rename_i hge2
     have hk2:k=y.sz:=by omega
     subst hk2
     rw [Nat.sub_self,List.getElem?_cons_zero] at hj
     cases hj
     refine .inr ⟨_,by rw [show n+j=n+x.sz+1+y.sz by omega,tr];exact hr,.inr ⟨tt,4,_,_,rfl,rfl,?_,?_⟩⟩
     ·intro z hz
      simp only [List.mem_cons,List.not_mem_nil,or_false] at hz
      rcases hz with rfl|rfl <;> exact T.Qqi _ _
     ·have:=Qk7 (R:=Pk n (tauT n px x.sz pd py y.sz pr) (A++layA tt n [x,y])) (xs:=[x.lv px,y.lv py]) (ys:=[x.lv n,y.lv (n+x.sz+1)]) rfl fun i u v hu hv=>by
       match i,hu,hv with
       |0,hu,hv=>cases hu;cases hv;exact ⟨by rw [T.Qqi,T.Qqi],T.Qql shx⟩
       |1,hu,hv=>cases hu;cases hv;exact ⟨by rw [T.Qqi,T.Qqi],T.Qql shy⟩
       |i+2,hu,hv=>simp at hu
      exact ⟨Nat.le_of_eq this.1,this.2⟩
 ·show Pk _ _ _ _ (.arr (n+szs [x,y] - 1) 0 2)
  have e:n+szs [x,y] - 1=n+x.sz+1+y.sz:=by simp only [szs];omega
  rw [e]
  exact .arr tr.symm (by omega) (by omega)
end Go.Proofs.YticgcpebdldbgaaDoor.Ab
set_option maxRecDepth 4000
namespace Go.Proofs.YticgcpebdldbgaaDoor.Ab
open Go.Proofs
def gv (n:Nat) (g:G):AV:=.agg [.i g.op,.v (.string g.name),lsl n g.args]
abbrev zg:AV:=.agg [.i 0,.v (.string {data:=#[]}),.v (.slice none 0 0)]
def WC (g:Nat) (h:AH) (P:Pz):PR G→AOut→AH→Prop
 | .ok a s,o,h'=>o = .ret (.tup [gv (h.length+g) a,.b true])∧∃ N,h'=ph h P s++N∧At N g (layA 54 (h.length+g) a.args)
 | .err p e,o,h'=>o = .panic (Fl p e)∧∃ s,h'=ph h P s
def WQ (h:AH) (P:Pz):PR G→AOut→AH→Prop
 | .ok a s,o,h'=>o = .ret (.tup [gv h.length a,.b true])∧h'=ph h P s++layA 54 h.length a.args
 | .err p e,o,h'=>o = .panic (Fl p e)∧∃ s,h'=ph h P s
theorem Qov {n:Nat} {τ:Nat→Nat} {h2:AH} {m':Nat} {g:G} {y:AV} (hy:Pk n τ h2 y (lsl m' g.args)):Pk n τ h2 (.agg [.i g.op,.v (.string g.name),y]) (gv m' g):=.agg rfl fun j a a' h1 h2=>by
 match j,h1,h2 with
 |0,h1,h2=>cases h1;cases h2;exact .keep (.v _)
 |1,h1,h2=>cases h1;cases h2;exact .keep (.v _)
 |2,h1,h2=>cases h1;cases h2;exact hy
 |j+3,h1,h2=>simp at h1
theorem QnE {P:Pz} {f:FuncId} {args:List AV} {h:AH} {s:PS} (H:P.ok h) (g:Nat) {r:PR G} (C:QJ Tryd.prog f args (ph h P s) (WC g h P r)):QJ Tryd.prog f args (ph h P s) (WQ h P r):=by
 refine Qak C fun hb0 o h' hQ=>?_
 cases r with
 |err p e=>exact .inl hQ
 |ok t s2 =>
  obtain ⟨rfl,N,rfl,hN⟩:=hQ
  rw [QS] at hb0 ⊢
  have hb:∀ b∈ph h P s2,b.Below h.length:=fun b hb=>by
   obtain ⟨k,hk⟩:=Y7 hb
   rcases Qbs H (s0:=s) hk with h1|h1
   ·exact hb0 k b h1
   ·exact h1
  obtain ⟨K,hk⟩:=Qni (QS h P s2) hb g t.args hN
  refine .inr ⟨_,.tup [gv h.length t,.b true],_,_,rfl,K,.tup rfl fun j a a' h1 h2=>?_,rfl,rfl⟩
  match j,h1,h2 with
  |0,h1,h2=>cases h1;cases h2;exact Qov hk
  |1,h1,h2=>cases h1;cases h2;exact .keep (.v _)
  |j+2,h1,h2=>simp at h1
theorem Qjt (n:Nat) (b:Bool):Below n (.tup [zg,.b b]):=.tup _ fun x hx=>by
 simp only [List.mem_cons,List.not_mem_nil,or_false] at hx
 rcases hx with rfl|rfl
 ·exact .agg _ fun x hx=>by
   simp only [List.mem_cons,List.not_mem_nil,or_false] at hx
   rcases hx with rfl|rfl|rfl <;> exact .v _
 ·exact .v _
section
variable {P:Pz} {s:PS} (hW:Wst P.all s) {h:AH} (H:P.ok h) (hN:P.all.length≤1000000) (hD:TkOk P.all)
include hW H hN hD
theorem QnC (hk:s.tk.kind≠1):QJ Tryd.prog 72 [.ptr P.i 0 0] (ph h P s) fun o h'=>o = .ret (.tup [zg,.b false])∧h'=ph h P s:=by
 have _hu:=hN;have _hv:=hD
 have f1:=QS h P
 have f3:=Xr h P
 have f4:=XY h P
 have f5:=Xe h P
 have f6:=XC h P
 have hi:=ph_i H s
 simp only [pB] at hi
 have cn:=nextL hW (XS H s)
 have e1:=Tk.Qp9 s.tk
 have e2:=Tk.Qqa s.tk
 have z1:(s.tk.kind != 1)=true:=by simpa using hk
 refine Qe Tryd.func72 rfl Tryd.call72 Tryd.ntmps72 (congrArg Array.toList Tryd.results72) (by simp) ?_
 repeat (first|((first|(with_reducible (first|refine Qa fun K E hK hE=>?_|refine Qk fun K E hK hE=>?_|refine FunW.ret (FunW.call (cn _)) ?_)));simp -implicitDefEqProofs only [Qc,Qd,OpW,QE,aop,undef,AS.ev,Qq,AV.Qp8,↓reduceIte,Qg,Qw,Qv,QB,Qp,aBin,Xf,Xu,ti3,ti52,zi52,sp52,ti60,QQ,zi60,QI,Qs,f1,f3,f4,f5,f6,hi,e1,e2,z1,seval])|(with_reducible (first|refine Qf fun K hK=>?_|refine Qj ?_|refine Ql ?_|refine QaA ?_|refine QbG ?_|refine Qm ?_|refine QG ?_|refine Qb ?_|refine Qu ?_|refine QD ?_|refine Qo ?_|refine Qy ?_|refine QC ?_|refine QW rfl ?_))|(with_reducible (first|refine hK _ ?_|(clear hK;refine hK _ ?_)|(clear hK;clear hK;refine hK _ ?_)|(clear hK;clear hK;clear hK;refine hK _ ?_));clear hK)|(refine Qh rfl ?_;simp only [↓reduceIte])|(with_reducible (first|refine hE _ _ ?_|refine QM ?_|refine Q6 ?_))|(intro (b:Bool);cases b))
 simp -implicitDefEqProofs only [Qc,↓reduceIte,Qw,Qv,ti52,Qw,Qv,f3,List.mapM_cons,List.mapM_nil,Option.pure_def,Option.bind_eq_bind,QF,Qn,Qr,Qq9,seval]
 exact Xg H (s:=s) (s':=s) (.keep (Qjt _ _)) ⟨rfl,rfl⟩
end
end Go.Proofs.YticgcpebdldbgaaDoor.Ab
set_option maxRecDepth 4000
namespace Go.Proofs.YticgcpebdldbgaaDoor.Ab
open Go.Proofs
section
variable {P:Pz} {s:PS} (hW:Wst P.all s) {h:AH} (H:P.ok h) (hN:P.all.length≤1000000) (hD:TkOk P.all)
include hW H hN hD
theorem Qmu (hk:s.tk.kind=1) (h0:s.tk.text.toList≠[116,114,117,101]) (h1:s.tk.text.toList≠[102,97,105,108]) (h2:s.tk.text.toList≠[105,110,116]) (h3:s.tk.text.toList≠[103,114,111,117,110,100]):QJ Tryd.prog 72 [.ptr P.i 0 0] (ph h P s) fun o h'=>o = .ret (.tup [zg,.b false])∧h'=ph h P s:=by
 have _hu:=hD
 have f1:=QS h P
 have f3:=Xr h P
 have f4:=XY h P
 have f5:=Xe h P
 have f6:=XC h P
 have hi:=ph_i H s
 have hin:=ph_i H s.nx
 simp only [pB] at hi hin
 have cn:=nextL hW (XS H s)
 have ct:=fun L=>Xm hW (H.app L) hN
 simp only [Q1 H] at ct
 have e1:=Tk.Qp9 s.tk
 have e2:=Tk.Qqa s.tk
 have z1:(s.tk.kind != 1)=false:=by rw [hk];rfl
 have y0:(s.tk.text.toList==({data:=#[116,114,117,101]}:ByteArray).toList)=false:=by rw [Lib.toList_data ({data:=#[116,114,117,101]}:ByteArray)];simpa using h0
 have y1:(s.tk.text.toList==({data:=#[102,97,105,108]}:ByteArray).toList)=false:=by rw [Lib.toList_data ({data:=#[102,97,105,108]}:ByteArray)];simpa using h1
 have y2:(s.tk.text.toList==({data:=#[105,110,116]}:ByteArray).toList)=false:=by rw [Lib.toList_data ({data:=#[105,110,116]}:ByteArray)];simpa using h2
 have y3:(s.tk.text.toList==({data:=#[103,114,111,117,110,100]}:ByteArray).toList)=false:=by rw [Lib.toList_data ({data:=#[103,114,111,117,110,100]}:ByteArray)];simpa using h3
 refine Qe Tryd.func72 rfl Tryd.call72 Tryd.ntmps72 (congrArg Array.toList Tryd.results72) (by simp) ?_
 repeat (first|((first|(with_reducible (first|refine Qa fun K E hK hE=>?_|refine FunW.ret (FunW.call (cn _)) ?_)));simp -implicitDefEqProofs only [Qc,Qd,OpW,QE,aop,undef,AS.ev,Qq,AV.Qp8,↓reduceIte,Qg,Qw,Qv,QB,Qp,aBin,Xf,Xu,ti3,ti9,ti52,zi52,sp52,ti60,QQ,Xc,zi60,QI,Qs,f1,f3,f4,f5,f6,hi,e1,e2,z1,y0,y1,y2,y3,seval])|(with_reducible (first|refine Qf fun K hK=>?_|refine Qj ?_|refine Ql ?_|refine Qm ?_|refine Qb ?_|refine Qu ?_|refine Qy ?_))|((with_reducible refine hK _ ?_);clear hK)|(refine Qh rfl ?_;simp only [↓reduceIte,Qq3]))
 simp -implicitDefEqProofs only [Qc,↓reduceIte,Qw,Qv,ti52,Qw,Qv,f3,List.mapM_cons,List.mapM_nil,Option.pure_def,Option.bind_eq_bind,QF,Qn,Qr,Qq9,seval]
 exact Xg H (s:=s) (s':=s) (.keep (Qjt _ _)) ⟨rfl,rfl⟩
theorem Qmw (hk:s.tk.kind=1) (hx:s.tk.text.toList=[116,114,117,101]):QJ Tryd.prog 72 [.ptr P.i 0 0] (ph h P s) (WC 3 h P (.ok ⟨1,eB,[]⟩ s.nx)):=by
 have _hu:=hD
 have f1:=QS h P
 have f3:=Xr h P
 have f4:=XY h P
 have f5:=Xe h P
 have f6:=XC h P
 have hi:=ph_i H s
 have hin:=ph_i H s.nx
 simp only [pB] at hi hin
 have cn:=nextL hW (XS H s)
 have ct:=fun L=>Xm hW (H.app L) hN
 simp only [Q1 H] at ct
 have e1:=Tk.Qp9 s.tk
 have e2:=Tk.Qqa s.tk
 have z1:(s.tk.kind != 1)=false:=by rw [hk];rfl
 have o1:((1:Int)==11)=false:=by decide
 have o2:((1:Int)==12)=false:=by decide
 have y0:(s.tk.text.toList==({data:=#[116,114,117,101]}:ByteArray).toList)=true:=by rw [hx,Lib.toList_data];rfl
 refine Qe Tryd.func72 rfl Tryd.call72 Tryd.ntmps72 (congrArg Array.toList Tryd.results72) (by simp) ?_
 repeat (first|((first|(with_reducible (first|refine Qa fun K E hK hE=>?_|refine Qk fun K E hK hE=>?_|refine FunW.ret (FunW.call (cn _)) ?_|refine FunW.ret (FunW.call (ct _)) ?_)));simp -implicitDefEqProofs only [Qc,Qd,OpW,QE,aop,undef,AS.ev,Qq,AV.Qp8,↓reduceIte,Qg,Qw,Qv,QB,Qp,aBin,Xf,Xu,ti3,ti9,ti52,X4,zi52,sp52,ti60,QQ,Xc,zi60,QI,Qs,f1,f3,f4,f5,f6,hi,e1,e2,z1,o1,o2,y0,seval])|(with_reducible (first|refine Qf fun K hK=>?_|refine Qj ?_|refine Ql ?_|refine Qm ?_|refine Qb ?_|refine Qo ?_))|((with_reducible refine hK _ ?_);clear hK)|(refine Qh rfl ?_;simp only [↓reduceIte,Qq3]))
 simp -implicitDefEqProofs only [Qc,↓reduceIte,Qw,Qv,ti52,Qw,Qv,f3,List.mapM_cons,List.mapM_nil,Option.pure_def,Option.bind_eq_bind,QF,Qn,Qr,Qq9,seval]
 exact .inr ⟨rfl,_,rfl,Qfy _ _⟩
theorem Qmt (hk:s.tk.kind=1) (hx:s.tk.text.toList=[102,97,105,108]):QJ Tryd.prog 72 [.ptr P.i 0 0] (ph h P s) (WC 3 h P (.ok ⟨2,eB,[]⟩ s.nx)):=by
 have _hu:=hD
 have f1:=QS h P
 have f3:=Xr h P
 have f4:=XY h P
 have f5:=Xe h P
 have f6:=XC h P
 have hi:=ph_i H s
 have hin:=ph_i H s.nx
 simp only [pB] at hi hin
 have cn:=nextL hW (XS H s)
 have ct:=fun L=>Xm hW (H.app L) hN
 simp only [Q1 H] at ct
 have e1:=Tk.Qp9 s.tk
 have e2:=Tk.Qqa s.tk
 have z1:(s.tk.kind != 1)=false:=by rw [hk];rfl
 have o1:((2:Int)==11)=false:=by decide
 have o2:((2:Int)==12)=false:=by decide
 have y0:(s.tk.text.toList==({data:=#[116,114,117,101]}:ByteArray).toList)=false:=by rw [hx,Lib.toList_data];rfl
 have y1:(s.tk.text.toList==({data:=#[102,97,105,108]}:ByteArray).toList)=true:=by rw [hx,Lib.toList_data];rfl
 refine Qe Tryd.func72 rfl Tryd.call72 Tryd.ntmps72 (congrArg Array.toList Tryd.results72) (by simp) ?_
 repeat (first|((first|(with_reducible (first|refine Qa fun K E hK hE=>?_|refine Qk fun K E hK hE=>?_|refine FunW.ret (FunW.call (cn _)) ?_|refine FunW.ret (FunW.call (ct _)) ?_)));simp -implicitDefEqProofs only [Qc,Qd,OpW,QE,aop,undef,AS.ev,Qq,AV.Qp8,↓reduceIte,Qg,Qw,Qv,QB,Qp,aBin,Xf,Xu,ti3,ti9,ti52,X4,zi52,sp52,ti60,QQ,Xc,zi60,QI,Qs,f1,f3,f4,f5,f6,hi,e1,e2,z1,o1,o2,y0,y1,seval])|(with_reducible (first|refine Qf fun K hK=>?_|refine Qj ?_|refine Ql ?_|refine Qm ?_|refine Qb ?_|refine Qo ?_))|((with_reducible refine hK _ ?_);clear hK)|(refine Qh rfl ?_;simp only [↓reduceIte,Qq3]))
 simp -implicitDefEqProofs only [Qc,↓reduceIte,Qw,Qv,ti52,Qw,Qv,f3,List.mapM_cons,List.mapM_nil,Option.pure_def,Option.bind_eq_bind,QF,Qn,Qr,Qq9,seval]
 exact .inr ⟨rfl,_,rfl,Qfy _ _⟩
theorem QnB (hk:s.tk.kind=1) (hx:s.tk.text.toList=[105,110,116]):QJ Tryd.prog 72 [.ptr P.i 0 0] (ph h P s) (WC 3 h P (Qcj 11 s.nx)):=by
 have f1:=QS h P
 have f3:=Xr h P
 have f4:=XY h P
 have f5:=Xe h P
 have f6:=XC h P
 have hi:=ph_i H s
 have hin:=ph_i H s.nx
 simp only [pB] at hi hin
 have cn:=nextL hW (XS H s)
 have ct:=fun L=>Xm hW (H.app L) hN
 simp only [Q1 H] at ct
 have e1:=Tk.Qp9 s.tk
 have e2:=Tk.Qqa s.tk
 have z1:(s.tk.kind != 1)=false:=by rw [hk];rfl
 have o1:((11:Int)==11)=true:=by decide
 have o2:((11:Int)==12)=false:=by decide
 have y0:(s.tk.text.toList==({data:=#[116,114,117,101]}:ByteArray).toList)=false:=by rw [hx,Lib.toList_data];rfl
 have y1:(s.tk.text.toList==({data:=#[102,97,105,108]}:ByteArray).toList)=false:=by rw [hx,Lib.toList_data];rfl
 have y2:(s.tk.text.toList==({data:=#[105,110,116]}:ByteArray).toList)=true:=by rw [hx,Lib.toList_data];rfl
 have hWn:=hW.nx
 have HR:=QgC hN hD
 rw [Qcj,XU]
 cases hl:s.nx.is sLp with
 |false =>
  rw [if_neg (by simp)]
  have ce:=fun L=>X3 hWn H hN L {data:=#[40]} (by rw [Lib.toList_data];exact hl)
  refine Qe Tryd.func72 rfl Tryd.call72 Tryd.ntmps72 (congrArg Array.toList Tryd.results72) (by simp) ?_
  repeat (first|((first|(with_reducible (first|refine Qa fun K E hK hE=>?_|refine Qk fun K E hK hE=>?_|refine FunW.ret (FunW.call (cn _)) ?_|refine FunW.ret (FunW.call (ct _)) ?_|refine FunW.pan (FunW.call (ce _)) ?_)));simp -implicitDefEqProofs only [Qc,Qd,OpW,QE,aop,undef,AS.ev,Qq,AV.Qp8,↓reduceIte,Qg,Qw,Qv,QB,Qp,aBin,Xf,Xu,ti3,ti9,ti52,X4,zi52,sp52,ti60,QQ,Xc,zi60,QI,Qs,f1,f4,f6,hi,hin,e1,e2,z1,y0,y1,y2,seval])|(with_reducible (first|refine Qf fun K hK=>?_|refine Qj ?_|refine Qm ?_|refine Qb ?_|refine Qo ?_))|((with_reducible refine hK _ ?_);clear hK)|(refine Qh rfl ?_;simp only [↓reduceIte,Qq3])|(with_reducible (first|refine hE _ _ ?_|refine QM ?_)))
  exact QT H s s.nx _ _ _ ⟨rfl,_,rfl⟩
 |true =>
  rw [if_pos rfl]
  have ce:=fun L=>XH hWn H hN L {data:=#[40]} (by rw [Lib.toList_data];exact hl)
  have hWm:=hWn.nx
  have him:=ph_i H s.nx.nx
  simp only [pB] at him
  have hlm:s.nx.nx.toks.length<1000001:=by have:=hWm.suf.length_le;omega
  show QJ _ _ _ _ (WC 3 h P ((X1 s.nx.nx).bind fun t s=>(XU sRp s).bind fun _ s=>.ok ⟨11,eB,[t]⟩ s))
  cases hr:X1 s.nx.nx with
  |err p e =>
   have cx:=fun L=>TRd.err HR hlm hWm H hr L
   refine Qe Tryd.func72 rfl Tryd.call72 Tryd.ntmps72 (congrArg Array.toList Tryd.results72) (by simp) ?_
   repeat (first|((first|(with_reducible (first|refine Qa fun K E hK hE=>?_|refine Qk fun K E hK hE=>?_|refine FunW.ret (FunW.call (cn _)) ?_|refine FunW.ret (FunW.call (ct _)) ?_|refine FunW.ret (FunW.call (ce _)) ?_|refine FunW.panE (FunW.call (cx _)) fun r=>?_)));simp -implicitDefEqProofs only [Qc,Qd,OpW,QE,aop,undef,AS.ev,Qq,AV.Qp8,↓reduceIte,Qg,Qw,Qv,QB,Qp,aBin,Xf,Xu,ti3,ti9,ti52,X4,zi52,sp52,ti60,QQ,Xc,zi60,QI,Qs,f1,f4,f6,hi,hin,e1,e2,z1,y0,y1,y2,seval])|(with_reducible (first|refine Qf fun K hK=>?_|refine Qj ?_|refine Qm ?_|refine Qb ?_|refine Qo ?_))|((with_reducible refine hK _ ?_);clear hK)|(refine Qh rfl ?_;simp only [↓reduceIte,Qq3])|(with_reducible (first|refine hE _ _ ?_|refine QM ?_)))
   exact QT H s r _ _ _ ⟨rfl,_,rfl⟩
  |ok t s1 =>
   have cx:=fun (c d e:AB)=>TRd.ok HR hlm hWm H hr [c,d,e] (k:=h.length+3) rfl
   simp only [Qrr,Qrq] at cx
   have hW1:Wst P.all s1:=Kp.Ps.ok (n:=wdOf P.all) (Kp.termT_ps trivial) hWm hr
   have hi1:=ph_i H s1
   simp only [pB] at hi1
   have e5:=T.Qqd (h.length+3) t
   have e6:=T.Qqf (h.length+3) t
   have hat:∀ (c d e:AB),At (c::d::e::(t.lay 54 (h.length+3)++[.cells 54 4 [t.lv (h.length+3)]])) 3 (layA 54 (h.length+3) [t]):=fun c d e=>by
    have:layA 54 (h.length+3) [t]=t.lay 54 (h.length+3)++[.cells 54 4 [t.lv (h.length+3)]]:=by simp [layA,lays,lvs]
    rw [this]
    exact At.tail (At.tail (At.tail (At.all _)))
   have hls:lsl (h.length+3) [t] = .arr (h.length+((t.lay 54 (h.length+3)).length+1+1+1)) 0 1:=by
    rw [T.Qqc]
    show AV.arr (h.length+3+szs [t] - 1) 0 1=_
    simp only [szs]
    congr 1;omega
   simp only [PR.bind,XU]
   cases hp2:s1.is sRp with
   |false =>
    rw [if_neg (by simp)]
    have ce2:=fun L=>X3 hW1 H hN L {data:=#[41]} (by rw [Lib.toList_data];exact hp2)
    refine Qe Tryd.func72 rfl Tryd.call72 Tryd.ntmps72 (congrArg Array.toList Tryd.results72) (by simp) ?_
    repeat (first|((first|(with_reducible (first|refine Qa fun K E hK hE=>?_|refine Qk fun K E hK hE=>?_|refine FunW.ret (FunW.call (cn _)) ?_|refine FunW.ret (FunW.call (ct _)) ?_)));simp -implicitDefEqProofs only [Qc,Qd,OpW,QE,aop,undef,AS.ev,Qq,AV.Qp8,↓reduceIte,Qg,Qw,Qv,QB,Qp,aBin,Xf,Xu,ti3,ti9,ti52,X4,zi52,sp52,ti60,QQ,Xc,zi60,QI,Qs,f1,f4,f6,hi,hin,e1,e2,z1,y0,y1,y2,seval])|(with_reducible (first|refine Qf fun K hK=>?_|refine Qj ?_|refine Qm ?_|refine Qb ?_|refine Qo ?_))|((with_reducible refine hK _ ?_);clear hK)|(refine Qh rfl ?_;simp only [↓reduceIte,Qq3]))
    refine FunW.ret (FunW.call (ce _)) ?_
    simp -implicitDefEqProofs only [Xb,QE,Q8,Nat.reduceLT]
    first|(with_reducible (first|refine hK _ ?_|(clear hK;refine hK _ ?_)|(clear hK;clear hK;refine hK _ ?_)|(clear hK;clear hK;clear hK;refine hK _ ?_));clear hK)|(clear hK;clear hK;clear hK;clear hK;(with_reducible refine hK _ ?_);clear hK)|(clear hK;clear hK;clear hK;clear hK;clear hK;(with_reducible refine hK _ ?_);clear hK)|(clear hK;clear hK;clear hK;clear hK;clear hK;clear hK;(with_reducible refine hK _ ?_);clear hK)|(clear hK;clear hK;clear hK;clear hK;clear hK;clear hK;clear hK;(with_reducible refine hK _ ?_);clear hK)|(clear hK;clear hK;clear hK;clear hK;clear hK;clear hK;clear hK;clear hK;(with_reducible refine hK _ ?_);clear hK)|(clear hK;clear hK;clear hK;clear hK;clear hK;clear hK;clear hK;clear hK;clear hK;(with_reducible refine hK _ ?_);clear hK)|(clear hK;clear hK;clear hK;clear hK;clear hK;clear hK;clear hK;clear hK;clear hK;clear hK;(with_reducible refine hK _ ?_);clear hK)|(clear hK;clear hK;clear hK;clear hK;clear hK;clear hK;clear hK;clear hK;clear hK;clear hK;clear hK;(with_reducible refine hK _ ?_);clear hK)|(clear hK;clear hK;clear hK;clear hK;clear hK;clear hK;clear hK;clear hK;clear hK;clear hK;clear hK;clear hK;(with_reducible refine hK _ ?_);clear hK)|(clear hK;clear hK;clear hK;clear hK;clear hK;clear hK;clear hK;clear hK;clear hK;clear hK;clear hK;clear hK;clear hK;(with_reducible refine hK _ ?_);clear hK)|(clear hK;clear hK;clear hK;clear hK;clear hK;clear hK;clear hK;clear hK;clear hK;clear hK;clear hK;clear hK;clear hK;clear hK;(with_reducible refine hK _ ?_);clear hK)|(clear hK;clear hK;clear hK;clear hK;clear hK;clear hK;clear hK;clear hK;clear hK;clear hK;clear hK;clear hK;clear hK;clear hK;clear hK;(with_reducible refine hK _ ?_);clear hK)|(clear hK;clear hK;clear hK;clear hK;clear hK;clear hK;clear hK;clear hK;clear hK;clear hK;clear hK;clear hK;clear hK;clear hK;clear hK;clear hK;(with_reducible refine hK _ ?_);clear hK)|(clear hK;clear hK;clear hK;clear hK;clear hK;clear hK;clear hK;clear hK;clear hK;clear hK;clear hK;clear hK;clear hK;clear hK;clear hK;clear hK;clear hK;(with_reducible refine hK _ ?_);clear hK)
    refine YQ 2 rfl fun K E hK hE=>?_
    simp only [Qra,Qrh,Qq8,Qrg]
    simp -implicitDefEqProofs only [Qc,Qd,OpW,aop,undef,AS.ev,Qq,↓reduceIte,seval]
    repeat ((((with_reducible refine FunW.ret (FunW.call (cx _ _ _)) ?_));simp -implicitDefEqProofs only [Xb,QE,Q8,Nat.reduceLT]))
    simp only [ArrW]
    simp -implicitDefEqProofs only [Qc,Qd,OpW,aop,undef,AS.ev,Qq,AV.Qp8,↓reduceIte,Qg,QB,Qp,QH,ti50,ei50,ZG,zi54,f1,f4,f6,e5,QR,Option.isSome_some,seval]
    repeat (first|((first|(with_reducible (first|refine Qk fun K E hK hE=>?_|refine FunW.pan (FunW.call (ce2 _)) ?_)));simp -implicitDefEqProofs only [Qc,Qd,OpW,QE,aop,undef,AS.ev,Qq,↓reduceIte,Qg,QI,Qs,hi1,seval])|((with_reducible refine hK _ ?_);clear hK)|(with_reducible (first|refine hE _ _ ?_|refine QM ?_)))
    exact QT H s s1 _ _ _ ⟨rfl,_,rfl⟩
   |true =>
    rw [if_pos rfl]
    have ce2:=fun L=>XH hW1 H hN L {data:=#[41]} (by rw [Lib.toList_data];exact hp2)
    refine Qe Tryd.func72 rfl Tryd.call72 Tryd.ntmps72 (congrArg Array.toList Tryd.results72) (by simp) ?_
    repeat (first|((first|(with_reducible (first|refine Qa fun K E hK hE=>?_|refine Qk fun K E hK hE=>?_|refine FunW.ret (FunW.call (cn _)) ?_|refine FunW.ret (FunW.call (ct _)) ?_)));simp -implicitDefEqProofs only [Qc,Qd,OpW,QE,aop,undef,AS.ev,Qq,AV.Qp8,↓reduceIte,Qg,Qw,Qv,QB,Qp,aBin,Xf,Xu,ti3,ti9,ti52,X4,zi52,sp52,ti60,QQ,Xc,zi60,QI,Qs,f1,f4,f6,hi,hin,e1,e2,z1,y0,y1,y2,seval])|(with_reducible (first|refine Qf fun K hK=>?_|refine Qj ?_|refine Qm ?_|refine Qb ?_|refine Qo ?_))|((with_reducible refine hK _ ?_);clear hK)|(refine Qh rfl ?_;simp only [↓reduceIte,Qq3]))
    refine FunW.ret (FunW.call (ce _)) ?_
    simp -implicitDefEqProofs only [Xb,QE,Q8,Nat.reduceLT]
    first|(with_reducible (first|refine hK _ ?_|(clear hK;refine hK _ ?_)|(clear hK;clear hK;refine hK _ ?_)|(clear hK;clear hK;clear hK;refine hK _ ?_));clear hK)|(clear hK;clear hK;clear hK;clear hK;(with_reducible refine hK _ ?_);clear hK)|(clear hK;clear hK;clear hK;clear hK;clear hK;(with_reducible refine hK _ ?_);clear hK)|(clear hK;clear hK;clear hK;clear hK;clear hK;clear hK;(with_reducible refine hK _ ?_);clear hK)|(clear hK;clear hK;clear hK;clear hK;clear hK;clear hK;clear hK;(with_reducible refine hK _ ?_);clear hK)|(clear hK;clear hK;clear hK;clear hK;clear hK;clear hK;clear hK;clear hK;(with_reducible refine hK _ ?_);clear hK)|(clear hK;clear hK;clear hK;clear hK;clear hK;clear hK;clear hK;clear hK;clear hK;(with_reducible refine hK _ ?_);clear hK)|(clear hK;clear hK;clear hK;clear hK;clear hK;clear hK;clear hK;clear hK;clear hK;clear hK;(with_reducible refine hK _ ?_);clear hK)|(clear hK;clear hK;clear hK;clear hK;clear hK;clear hK;clear hK;clear hK;clear hK;clear hK;clear hK;(with_reducible refine hK _ ?_);clear hK)|(clear hK;clear hK;clear hK;clear hK;clear hK;clear hK;clear hK;clear hK;clear hK;clear hK;clear hK;clear hK;(with_reducible refine hK _ ?_);clear hK)|(clear hK;clear hK;clear hK;clear hK;clear hK;clear hK;clear hK;clear hK;clear hK;clear hK;clear hK;clear hK;clear hK;(with_reducible refine hK _ ?_);clear hK)|(clear hK;clear hK;clear hK;clear hK;clear hK;clear hK;clear hK;clear hK;clear hK;clear hK;clear hK;clear hK;clear hK;clear hK;(with_reducible refine hK _ ?_);clear hK)|(clear hK;clear hK;clear hK;clear hK;clear hK;clear hK;clear hK;clear hK;clear hK;clear hK;clear hK;clear hK;clear hK;clear hK;clear hK;(with_reducible refine hK _ ?_);clear hK)|(clear hK;clear hK;clear hK;clear hK;clear hK;clear hK;clear hK;clear hK;clear hK;clear hK;clear hK;clear hK;clear hK;clear hK;clear hK;clear hK;(with_reducible refine hK _ ?_);clear hK)|(clear hK;clear hK;clear hK;clear hK;clear hK;clear hK;clear hK;clear hK;clear hK;clear hK;clear hK;clear hK;clear hK;clear hK;clear hK;clear hK;clear hK;(with_reducible refine hK _ ?_);clear hK)
    refine YQ 2 rfl fun K E hK hE=>?_
    simp only [Qra,Qrh,Qq8,Qrg]
    simp -implicitDefEqProofs only [Qc,Qd,OpW,aop,undef,AS.ev,Qq,↓reduceIte,seval]
    repeat ((((with_reducible refine FunW.ret (FunW.call (cx _ _ _)) ?_));simp -implicitDefEqProofs only [Xb,QE,Q8,Nat.reduceLT]))
    simp only [ArrW]
    simp -implicitDefEqProofs only [Qc,Qd,OpW,aop,undef,AS.ev,Qq,AV.Qp8,↓reduceIte,Qg,QB,Qp,QH,ti50,ei50,ZG,zi54,f1,f4,f6,e5,QR,Option.isSome_some,seval]
    repeat (first|((first|(with_reducible (first|refine Qa fun K E hK hE=>?_|refine Qk fun K E hK hE=>?_|refine FunW.ret (FunW.call (ce2 _)) ?_)));simp -implicitDefEqProofs only [Qc,Qd,OpW,QE,aop,undef,AS.ev,Qq,AV.Qp8,↓reduceIte,Qg,Qw,Qv,QB,Qp,ti52,QI,Qs,f3,f4,f5,hi1,seval])|(with_reducible (first|refine Ql ?_|refine Qb ?_))|((with_reducible refine hK _ ?_);clear hK))
    simp -implicitDefEqProofs only [Qc,↓reduceIte,Qw,Qv,ti52,Qw,Qv,f3,List.mapM_cons,List.mapM_nil,Option.pure_def,Option.bind_eq_bind,QF,Qn,Qr,Qq9,seval]
    refine .inr ⟨?_,_,rfl,hat _ _ _⟩
    rw [gv,hls];rfl
theorem QiH (hk:s.tk.kind=1) (hx:s.tk.text.toList=[103,114,111,117,110,100]):QJ Tryd.prog 72 [.ptr P.i 0 0] (ph h P s) (WC 3 h P (Qcj 12 s.nx)):=by
 have f1:=QS h P
 have f3:=Xr h P
 have f4:=XY h P
 have f5:=Xe h P
 have f6:=XC h P
 have hi:=ph_i H s
 have hin:=ph_i H s.nx
 simp only [pB] at hi hin
 have cn:=nextL hW (XS H s)
 have ct:=fun L=>Xm hW (H.app L) hN
 simp only [Q1 H] at ct
 have e1:=Tk.Qp9 s.tk
 have e2:=Tk.Qqa s.tk
 have z1:(s.tk.kind != 1)=false:=by rw [hk];rfl
 have o1:((12:Int)==11)=false:=by decide
 have o2:((12:Int)==12)=true:=by decide
 have y0:(s.tk.text.toList==({data:=#[116,114,117,101]}:ByteArray).toList)=false:=by rw [hx,Lib.toList_data];rfl
 have y1:(s.tk.text.toList==({data:=#[102,97,105,108]}:ByteArray).toList)=false:=by rw [hx,Lib.toList_data];rfl
 have y2:(s.tk.text.toList==({data:=#[105,110,116]}:ByteArray).toList)=false:=by rw [hx,Lib.toList_data];rfl
 have y3:(s.tk.text.toList==({data:=#[103,114,111,117,110,100]}:ByteArray).toList)=true:=by rw [hx,Lib.toList_data];rfl
 have hWn:=hW.nx
 have HR:=QgC hN hD
 rw [Qcj,XU]
 cases hl:s.nx.is sLp with
 |false =>
  rw [if_neg (by simp)]
  have ce:=fun L=>X3 hWn H hN L {data:=#[40]} (by rw [Lib.toList_data];exact hl)
  refine Qe Tryd.func72 rfl Tryd.call72 Tryd.ntmps72 (congrArg Array.toList Tryd.results72) (by simp) ?_
  repeat (first|((first|(with_reducible (first|refine Qa fun K E hK hE=>?_|refine Qk fun K E hK hE=>?_|refine FunW.ret (FunW.call (cn _)) ?_|refine FunW.ret (FunW.call (ct _)) ?_|refine FunW.pan (FunW.call (ce _)) ?_)));simp -implicitDefEqProofs only [Qc,Qd,OpW,QE,aop,undef,AS.ev,Qq,AV.Qp8,↓reduceIte,Qg,Qw,Qv,QB,Qp,aBin,Xf,Xu,ti3,ti9,ti52,X4,zi52,sp52,ti60,QQ,Xc,zi60,QI,Qs,f1,f4,f6,hi,hin,e1,e2,z1,o1,y0,y1,y2,y3,seval])|(with_reducible (first|refine Qf fun K hK=>?_|refine Qj ?_|refine Qm ?_|refine Qb ?_|refine Qo ?_))|((with_reducible refine hK _ ?_);clear hK)|(refine Qh rfl ?_;simp only [↓reduceIte,Qq3])|(with_reducible (first|refine hE _ _ ?_|refine QM ?_)))
  exact QT H s s.nx _ _ _ ⟨rfl,_,rfl⟩
 |true =>
  rw [if_pos rfl]
  have ce:=fun L=>XH hWn H hN L {data:=#[40]} (by rw [Lib.toList_data];exact hl)
  have hWm:=hWn.nx
  have him:=ph_i H s.nx.nx
  simp only [pB] at him
  have hlm:s.nx.nx.toks.length<1000001:=by have:=hWm.suf.length_le;omega
  show QJ _ _ _ _ (WC 3 h P ((X1 s.nx.nx).bind fun t s=>(XU sRp s).bind fun _ s=>.ok ⟨12,eB,[t]⟩ s))
  cases hr:X1 s.nx.nx with
  |err p e =>
   have cx:=fun L=>TRd.err HR hlm hWm H hr L
   refine Qe Tryd.func72 rfl Tryd.call72 Tryd.ntmps72 (congrArg Array.toList Tryd.results72) (by simp) ?_
   repeat (first|((first|(with_reducible (first|refine Qa fun K E hK hE=>?_|refine Qk fun K E hK hE=>?_|refine FunW.ret (FunW.call (cn _)) ?_|refine FunW.ret (FunW.call (ct _)) ?_|refine FunW.ret (FunW.call (ce _)) ?_|refine FunW.panE (FunW.call (cx _)) fun r=>?_)));simp -implicitDefEqProofs only [Qc,Qd,OpW,QE,aop,undef,AS.ev,Qq,AV.Qp8,↓reduceIte,Qg,Qw,Qv,QB,Qp,aBin,Xf,Xu,ti3,ti9,ti52,X4,zi52,sp52,ti60,QQ,Xc,zi60,QI,Qs,f1,f4,f6,hi,hin,e1,e2,z1,o1,y0,y1,y2,y3,seval])|(with_reducible (first|refine Qf fun K hK=>?_|refine Qj ?_|refine Qm ?_|refine Qb ?_|refine Qo ?_))|((with_reducible refine hK _ ?_);clear hK)|(refine Qh rfl ?_;simp only [↓reduceIte,Qq3])|(with_reducible (first|refine hE _ _ ?_|refine QM ?_)))
   exact QT H s r _ _ _ ⟨rfl,_,rfl⟩
  |ok t s1 =>
   have cx:=fun (c d e:AB)=>TRd.ok HR hlm hWm H hr [c,d,e] (k:=h.length+3) rfl
   simp only [Qrr,Qrq] at cx
   have hW1:Wst P.all s1:=Kp.Ps.ok (n:=wdOf P.all) (Kp.termT_ps trivial) hWm hr
   have hi1:=ph_i H s1
   simp only [pB] at hi1
   have e5:=T.Qqd (h.length+3) t
   have e6:=T.Qqf (h.length+3) t
   have hat:∀ (c d e:AB),At (c::d::e::(t.lay 54 (h.length+3)++[.cells 54 4 [t.lv (h.length+3)]])) 3 (layA 54 (h.length+3) [t]):=fun c d e=>by
    have:layA 54 (h.length+3) [t]=t.lay 54 (h.length+3)++[.cells 54 4 [t.lv (h.length+3)]]:=by simp [layA,lays,lvs]
    rw [this]
    exact At.tail (At.tail (At.tail (At.all _)))
   have hls:lsl (h.length+3) [t] = .arr (h.length+((t.lay 54 (h.length+3)).length+1+1+1)) 0 1:=by
    rw [T.Qqc]
    show AV.arr (h.length+3+szs [t] - 1) 0 1=_
    simp only [szs]
    congr 1;omega
   simp only [PR.bind,XU]
   cases hp2:s1.is sRp with
   |false =>
    rw [if_neg (by simp)]
    have ce2:=fun L=>X3 hW1 H hN L {data:=#[41]} (by rw [Lib.toList_data];exact hp2)
    refine Qe Tryd.func72 rfl Tryd.call72 Tryd.ntmps72 (congrArg Array.toList Tryd.results72) (by simp) ?_
    repeat (first|((first|(with_reducible (first|refine Qa fun K E hK hE=>?_|refine Qk fun K E hK hE=>?_|refine FunW.ret (FunW.call (cn _)) ?_|refine FunW.ret (FunW.call (ct _)) ?_)));simp -implicitDefEqProofs only [Qc,Qd,OpW,QE,aop,undef,AS.ev,Qq,AV.Qp8,↓reduceIte,Qg,Qw,Qv,QB,Qp,aBin,Xf,Xu,ti3,ti9,ti52,X4,zi52,sp52,ti60,QQ,Xc,zi60,QI,Qs,f1,f4,f6,hi,hin,e1,e2,z1,o1,y0,y1,y2,y3,seval])|(with_reducible (first|refine Qf fun K hK=>?_|refine Qj ?_|refine Qm ?_|refine Qb ?_|refine Qo ?_))|((with_reducible refine hK _ ?_);clear hK)|(refine Qh rfl ?_;simp only [↓reduceIte,Qq3]))
    refine FunW.ret (FunW.call (ce _)) ?_
    simp -implicitDefEqProofs only [Xb,QE,Q8,Nat.reduceLT]
    first|(with_reducible (first|refine hK _ ?_|(clear hK;refine hK _ ?_)|(clear hK;clear hK;refine hK _ ?_)|(clear hK;clear hK;clear hK;refine hK _ ?_));clear hK)|(clear hK;clear hK;clear hK;clear hK;(with_reducible refine hK _ ?_);clear hK)|(clear hK;clear hK;clear hK;clear hK;clear hK;(with_reducible refine hK _ ?_);clear hK)|(clear hK;clear hK;clear hK;clear hK;clear hK;clear hK;(with_reducible refine hK _ ?_);clear hK)|(clear hK;clear hK;clear hK;clear hK;clear hK;clear hK;clear hK;(with_reducible refine hK _ ?_);clear hK)|(clear hK;clear hK;clear hK;clear hK;clear hK;clear hK;clear hK;clear hK;(with_reducible refine hK _ ?_);clear hK)|(clear hK;clear hK;clear hK;clear hK;clear hK;clear hK;clear hK;clear hK;clear hK;(with_reducible refine hK _ ?_);clear hK)|(clear hK;clear hK;clear hK;clear hK;clear hK;clear hK;clear hK;clear hK;clear hK;clear hK;(with_reducible refine hK _ ?_);clear hK)|(clear hK;clear hK;clear hK;clear hK;clear hK;clear hK;clear hK;clear hK;clear hK;clear hK;clear hK;(with_reducible refine hK _ ?_);clear hK)|(clear hK;clear hK;clear hK;clear hK;clear hK;clear hK;clear hK;clear hK;clear hK;clear hK;clear hK;clear hK;(with_reducible refine hK _ ?_);clear hK)|(clear hK;clear hK;clear hK;clear hK;clear hK;clear hK;clear hK;clear hK;clear hK;clear hK;clear hK;clear hK;clear hK;(with_reducible refine hK _ ?_);clear hK)|(clear hK;clear hK;clear hK;clear hK;clear hK;clear hK;clear hK;clear hK;clear hK;clear hK;clear hK;clear hK;clear hK;clear hK;(with_reducible refine hK _ ?_);clear hK)|(clear hK;clear hK;clear hK;clear hK;clear hK;clear hK;clear hK;clear hK;clear hK;clear hK;clear hK;clear hK;clear hK;clear hK;clear hK;(with_reducible refine hK _ ?_);clear hK)|(clear hK;clear hK;clear hK;clear hK;clear hK;clear hK;clear hK;clear hK;clear hK;clear hK;clear hK;clear hK;clear hK;clear hK;clear hK;clear hK;(with_reducible refine hK _ ?_);clear hK)|(clear hK;clear hK;clear hK;clear hK;clear hK;clear hK;clear hK;clear hK;clear hK;clear hK;clear hK;clear hK;clear hK;clear hK;clear hK;clear hK;clear hK;(with_reducible refine hK _ ?_);clear hK)
    refine YQ 2 rfl fun K E hK hE=>?_
    simp only [Qra,Qrh,Qq8,Qrg]
    simp -implicitDefEqProofs only [Qc,Qd,OpW,aop,undef,AS.ev,Qq,↓reduceIte,seval]
    repeat ((((with_reducible refine FunW.ret (FunW.call (cx _ _ _)) ?_));simp -implicitDefEqProofs only [Xb,QE,Q8,Nat.reduceLT]))
    simp only [ArrW]
    simp -implicitDefEqProofs only [Qc,Qd,OpW,aop,undef,AS.ev,Qq,AV.Qp8,↓reduceIte,Qg,QB,Qp,QH,ti50,ei50,ZG,zi54,f1,f4,f6,e5,QR,Option.isSome_some,seval]
    repeat (first|((first|(with_reducible (first|refine Qk fun K E hK hE=>?_|refine FunW.pan (FunW.call (ce2 _)) ?_)));simp -implicitDefEqProofs only [Qc,Qd,OpW,QE,aop,undef,AS.ev,Qq,↓reduceIte,Qg,QI,Qs,hi1,seval])|((with_reducible refine hK _ ?_);clear hK)|(with_reducible (first|refine hE _ _ ?_|refine QM ?_)))
    exact QT H s s1 _ _ _ ⟨rfl,_,rfl⟩
   |true =>
    rw [if_pos rfl]
    have ce2:=fun L=>XH hW1 H hN L {data:=#[41]} (by rw [Lib.toList_data];exact hp2)
    refine Qe Tryd.func72 rfl Tryd.call72 Tryd.ntmps72 (congrArg Array.toList Tryd.results72) (by simp) ?_
    repeat (first|((first|(with_reducible (first|refine Qa fun K E hK hE=>?_|refine Qk fun K E hK hE=>?_|refine FunW.ret (FunW.call (cn _)) ?_|refine FunW.ret (FunW.call (ct _)) ?_)));simp -implicitDefEqProofs only [Qc,Qd,OpW,QE,aop,undef,AS.ev,Qq,AV.Qp8,↓reduceIte,Qg,Qw,Qv,QB,Qp,aBin,Xf,Xu,ti3,ti9,ti52,X4,zi52,sp52,ti60,QQ,Xc,zi60,QI,Qs,f1,f4,f6,hi,hin,e1,e2,z1,o1,y0,y1,y2,y3,seval])|(with_reducible (first|refine Qf fun K hK=>?_|refine Qj ?_|refine Qm ?_|refine Qb ?_|refine Qo ?_))|((with_reducible refine hK _ ?_);clear hK)|(refine Qh rfl ?_;simp only [↓reduceIte,Qq3]))
    refine FunW.ret (FunW.call (ce _)) ?_
    simp -implicitDefEqProofs only [Xb,QE,Q8,Nat.reduceLT]
    first|(with_reducible (first|refine hK _ ?_|(clear hK;refine hK _ ?_)|(clear hK;clear hK;refine hK _ ?_)|(clear hK;clear hK;clear hK;refine hK _ ?_));clear hK)|(clear hK;clear hK;clear hK;clear hK;(with_reducible refine hK _ ?_);clear hK)|(clear hK;clear hK;clear hK;clear hK;clear hK;(with_reducible refine hK _ ?_);clear hK)|(clear hK;clear hK;clear hK;clear hK;clear hK;clear hK;(with_reducible refine hK _ ?_);clear hK)|(clear hK;clear hK;clear hK;clear hK;clear hK;clear hK;clear hK;(with_reducible refine hK _ ?_);clear hK)|(clear hK;clear hK;clear hK;clear hK;clear hK;clear hK;clear hK;clear hK;(with_reducible refine hK _ ?_);clear hK)|(clear hK;clear hK;clear hK;clear hK;clear hK;clear hK;clear hK;clear hK;clear hK;(with_reducible refine hK _ ?_);clear hK)|(clear hK;clear hK;clear hK;clear hK;clear hK;clear hK;clear hK;clear hK;clear hK;clear hK;(with_reducible refine hK _ ?_);clear hK)|(clear hK;clear hK;clear hK;clear hK;clear hK;clear hK;clear hK;clear hK;clear hK;clear hK;clear hK;(with_reducible refine hK _ ?_);clear hK)|(clear hK;clear hK;clear hK;clear hK;clear hK;clear hK;clear hK;clear hK;clear hK;clear hK;clear hK;clear hK;(with_reducible refine hK _ ?_);clear hK)|(clear hK;clear hK;clear hK;clear hK;clear hK;clear hK;clear hK;clear hK;clear hK;clear hK;clear hK;clear hK;clear hK;(with_reducible refine hK _ ?_);clear hK)|(clear hK;clear hK;clear hK;clear hK;clear hK;clear hK;clear hK;clear hK;clear hK;clear hK;clear hK;clear hK;clear hK;clear hK;(with_reducible refine hK _ ?_);clear hK)|(clear hK;clear hK;clear hK;clear hK;clear hK;clear hK;clear hK;clear hK;clear hK;clear hK;clear hK;clear hK;clear hK;clear hK;clear hK;(with_reducible refine hK _ ?_);clear hK)|(clear hK;clear hK;clear hK;clear hK;clear hK;clear hK;clear hK;clear hK;clear hK;clear hK;clear hK;clear hK;clear hK;clear hK;clear hK;clear hK;(with_reducible refine hK _ ?_);clear hK)|(clear hK;clear hK;clear hK;clear hK;clear hK;clear hK;clear hK;clear hK;clear hK;clear hK;clear hK;clear hK;clear hK;clear hK;clear hK;clear hK;clear hK;(with_reducible refine hK _ ?_);clear hK)
    refine YQ 2 rfl fun K E hK hE=>?_
    simp only [Qra,Qrh,Qq8,Qrg]
    simp -implicitDefEqProofs only [Qc,Qd,OpW,aop,undef,AS.ev,Qq,↓reduceIte,seval]
    repeat ((((with_reducible refine FunW.ret (FunW.call (cx _ _ _)) ?_));simp -implicitDefEqProofs only [Xb,QE,Q8,Nat.reduceLT]))
    simp only [ArrW]
    simp -implicitDefEqProofs only [Qc,Qd,OpW,aop,undef,AS.ev,Qq,AV.Qp8,↓reduceIte,Qg,QB,Qp,QH,ti50,ei50,ZG,zi54,f1,f4,f6,e5,QR,Option.isSome_some,seval]
    repeat (first|((first|(with_reducible (first|refine Qa fun K E hK hE=>?_|refine Qk fun K E hK hE=>?_|refine FunW.ret (FunW.call (ce2 _)) ?_)));simp -implicitDefEqProofs only [Qc,Qd,OpW,QE,aop,undef,AS.ev,Qq,AV.Qp8,↓reduceIte,Qg,Qw,Qv,QB,Qp,ti52,QI,Qs,f3,f4,f5,hi1,seval])|(with_reducible (first|refine Ql ?_|refine Qb ?_))|((with_reducible refine hK _ ?_);clear hK))
    simp -implicitDefEqProofs only [Qc,↓reduceIte,Qw,Qv,ti52,Qw,Qv,f3,List.mapM_cons,List.mapM_nil,Option.pure_def,Option.bind_eq_bind,QF,Qn,Qr,Qq9,seval]
    refine .inr ⟨?_,_,rfl,hat _ _ _⟩
    rw [gv,hls];rfl
end
end Go.Proofs.YticgcpebdldbgaaDoor.Ab
set_option maxRecDepth 4000
namespace Go.Proofs.YticgcpebdldbgaaDoor.Ab
open Go.Proofs
theorem Qok {s:PS} {b:List UInt8} (h:s.is b=true):s.tk.text.toList=b:=by
 simp only [PS.is,Bool.and_eq_true,beq_iff_eq] at h;exact h.2
theorem Qj1 {s:PS} {l:List (List UInt8)} (h:s.oneOf l=true):s.tk.text.toList∈l:=by
 rw [PS.oneOf,List.any_eq_true] at h
 obtain ⟨b,hb,h⟩:=h
 rw [Qok h];exact hb
theorem Qne {ex:PS→PR T} {s:PS} {t:T} {s2:PS} (h:pOpT ex s = .ok t s2) (hk:s.tk.kind=1):t.name=s.tk.text:=by
 rw [pOpT,if_neg (by omega),if_neg (by omega),if_pos hk] at h
 obtain ⟨a,s1,h1,h⟩:=bind_ok h
 cases h
 rw [Zc] at h1
 obtain ⟨x,s3,h3,h1⟩:=bind_ok h1
 have hx:x=s.tk.text:=by
  rw [ZY] at h3
  split at h3
  ·cases h3
  ·split at h3
   ·cases h3
   ·cases h3;rfl
 split at h1
 ·obtain ⟨l,s4,h4,h1⟩:=bind_ok h1
  cases h1
  exact hx
 ·cases h1
  exact hx
theorem QdQ {op:PS→PR T} {ops:List (List UInt8)}:∀ (m:Nat) (t:T) (s:PS) (t2:T) (s2:PS),XM op ops m t s = .ok t2 s2→t2.name=t.name∨t2.name.toList∈ops
 |0,t,s,t2,s2,h=>by cases h;exact .inl rfl
 |m+1,t,s,t2,s2,h=>by
  rw [XM] at h
  split at h
  ·rename_i hc
   obtain ⟨u,s1,h1,h⟩:=bind_ok h
   rcases QdQ m _ s1 t2 s2 h with h|h
   ·exact .inr (by rw [h];exact Qj1 hc)
   ·exact .inr h
  ·cases h;exact .inl rfl
theorem Qfb {op:PS→PR T} {ops:List (List UInt8)} {s:PS} {t:T} {s2:PS} (h:X5 op ops s = .ok t s2):∃ t1 s1,op s = .ok t1 s1∧(t.name=t1.name∨t.name.toList∈ops):=by
 rw [X5] at h
 obtain ⟨t1,s1,h1,h⟩:=bind_ok h
 exact ⟨t1,s1,h1,QdQ _ t1 s1 t s2 h⟩
theorem Qmd {s:PS} {t:T} {s2:PS} (h:X1 s = .ok t s2) (hk:s.tk.kind=1):t.name=s.tk.text∨t.name.toList∈YE∨t.name.toList∈ZW:=by
 rw [X1,X6] at h
 obtain ⟨t1,s1,h1,h2⟩:=Qfb h
 obtain ⟨t3,s3,h3,h4⟩:=Qfb h1
 have h5:=Qne h3 hk
 rcases h2 with h2|h2
 ·rw [h2]
  rcases h4 with h4|h4
  ·exact .inl (by rw [h4,h5])
  ·exact .inr (.inl h4)
 ·exact .inr (.inr h2)
theorem Qnz {s:PS} (hk:s.tk.kind=1) (hr:resB s.tk.text=true):X1 s = .err s.tk.pos 7:=by
 rw [X1,X6,X5,X5,pOpT,if_neg (by omega),if_neg (by omega),if_pos hk,Zc,ZY,if_neg (by omega),if_pos hr]
 rfl
def QlO (s:PS):PR G :=
 if s.tk.kind=1∧s.tk.text.toList=[116,114,117,101] then .ok ⟨1,eB,[]⟩ s.nx else if s.tk.kind=1∧s.tk.text.toList=[102,97,105,108] then .ok ⟨2,eB,[]⟩ s.nx else
 if s.tk.kind=1∧s.tk.text.toList=[105,110,116] then Qcj 11 s.nx else if s.tk.kind=1∧s.tk.text.toList=[103,114,111,117,110,100] then Qcj 12 s.nx else
 (X1 s).bind fun t s2=>match Qb2 s2 with
  |some (op,turn)=>(X1 s2.nx).bind fun u s3=>.ok ⟨op,eB,if turn then [u,t] else [t,u]⟩ s3
  |none=>if s.tk.kind≠1∨opB t.name=true then .err s2.tk.pos 16 else .ok ⟨0,t.name,t.args⟩ s2
theorem Qgm {x:ByteArray}:opB x=true↔x.toList∈YE∨x.toList∈ZW:=by
 simp only [opB,YE,ZW,Bool.or_eq_true,beq_iff_eq,Lib.toList_data,List.mem_cons,List.not_mem_nil,or_false]
 constructor
 ·intro h
  rcases h with (((h|h)|h)|h)|h <;> simp [h]
 ·intro h
  rcases h with (h|h|h)|h|h <;> simp [h]
theorem Qjj {x:ByteArray} (h:x.toList=[116,114,117,101]∨x.toList=[102,97,105,108]∨x.toList=[105,110,116]∨x.toList=[103,114,111,117,110,100]):resB x=true:=by
 simp only [resB,Lib.toList_data] at h ⊢
 rcases h with h|h|h|h <;> rw [h] <;> decide
theorem QmT {s:PS} (hop:s.tk.kind=1→opB s.tk.text=false):QlO s=Qap s:=by
 rw [QlO,Qap]
 by_cases hk:s.tk.kind=1
 ·simp only [hk,Qry,not_true_eq_false,ne_eq,false_or]
  cases hr:resB s.tk.text with
  |true =>
   rw [if_pos rfl,Qnz hk hr]
   rfl
  |false =>
   have no:∀ b,(s.tk.text.toList=b→resB s.tk.text=true)→¬ s.tk.text.toList=b:=fun b h q=>by rw [h q] at hr;cases hr
   rw [if_neg (no _ fun q=>Qjj (.inl q)),if_neg (no _ fun q=>Qjj (.inr (.inl q))),if_neg (no _ fun q=>Qjj (.inr (.inr (.inl q)))),if_neg (no _ fun q=>Qjj (.inr (.inr (.inr q)))),if_neg (by decide)]
   refine bind_congr fun t s1 h1=>?_
   cases Qb2 s1 with
   |some x=>rfl
   |none =>
    simp only
    have ht:=Qmd h1 hk
    by_cases ho:opB t.name=true
    ·rw [if_pos ho,if_neg]
     intro q
     have:opB s.tk.text=true:=Qgm.2 (by rw [← q];exact Qgm.1 ho)
     rw [hop hk] at this;cases this
    ·rw [if_neg ho,if_pos]
     rcases ht with ht|ht
     ·rw [ht]
     ·exact absurd (Qgm.2 ht) ho
 ·simp only [hk,false_and,if_false,ne_eq,not_false_eq_true,true_or,if_true]
  exact bind_congr fun t s1 _=>by cases Qb2 s1 <;> rfl
end Go.Proofs.YticgcpebdldbgaaDoor.Ab
set_option maxRecDepth 4000
namespace Go.Proofs.YticgcpebdldbgaaDoor.Ab
open Go.Proofs
theorem QgT {P:Program} {N:Nat} {f:FuncId} {args:List AV} {s:AS} {d:Option Tmp} {K:AS→Prop} {r:AV} (H:∀ hx,Keep s.h hx→QJ P f args hx fun o h'=>o = .ret r∧h'=hx) (k:K (AS.put N s d r)):Qn1 P N (.fn (.func f) [] []) args s d K:=⟨r,fun hx hk=>FunW.call (H hx hk),k⟩
def LQ (h:AH) (P:Pz):PR G→AOut→AH→Prop
 | .ok a s,o,h'=>o = .ret (gv h.length a)∧h'=ph h P s++layA 54 h.length a.args
 | .err p e,o,h'=>o = .panic (Fl p e)∧∃ s,h'=ph h P s
def LC (h:AH) (P:Pz):PR G→AOut→AH→Prop
 | .ok a s,o,h'=>(∃ g y N,o = .ret (.agg [.i a.op,.v (.string a.name),lsl (h.length+g) a.args])∧h'=ph h P s++N∧At N g (layA 54 (h.length+g) a.args)∧y=g) ∨
   ∃ (x y:T) (px pd py pr:Nat) (N:AH),a.args=[x,y]∧o = .ret (.agg [.i a.op,.v (.string a.name),.arr pr 0 2])∧h'=ph h P s++N∧h.length≤px∧h.length≤py∧h.length≤pd ∧
    ((px+x.sz≤pd∧pd<py∧py+y.sz≤pr)∨(py+y.sz≤pd∧pd<px∧px+x.sz≤pr))∧At h' px (x.lay 54 px)∧At h' py (y.lay 54 py)∧h'[pr]? = some (.cells 54 4 [x.lv px,y.lv py])
 | .err p e,o,h'=>o = .panic (Fl p e)∧∃ s,h'=ph h P s
theorem Qi5 {P:Pz} {f:FuncId} {args:List AV} {h:AH} {s:PS} (H:P.ok h) {r:PR G} (C:QJ Tryd.prog f args (ph h P s) (LC h P r)):QJ Tryd.prog f args (ph h P s) (LQ h P r):=by
 refine Qak C fun hb0 o h' hQ=>?_
 cases r with
 |err p e=>exact .inl hQ
 |ok t s2 =>
  have hb:∀ b∈ph h P s2,b.Below h.length:=fun b hb=>by
   rw [QS] at hb0
   obtain ⟨k,hk⟩:=Y7 hb
   rcases Qbs H (s0:=s) hk with h1|h1
   ·exact hb0 k b h1
   ·exact h1
  rw [QS]
  rcases hQ with ⟨g,_,N,rfl,rfl,hN,_⟩|⟨x,y,px,pd,py,pr,N,ha,rfl,rfl,h1,h2,h3,h4,h5,h6,h7⟩
  ·obtain ⟨K,hk⟩:=Qni (QS h P s2) hb g t.args hN
   exact .inr ⟨_,gv h.length t,_,_,rfl,K,Qov hk,rfl,rfl⟩
  ·obtain ⟨K,hk⟩:=Qos (QS h P s2) hb x y h1 h2 h3 h4 h5 h6 h7
   rw [← ha] at K hk
   exact .inr ⟨_,gv h.length t,_,_,rfl,K,Qov hk,rfl,rfl⟩
theorem At.base {A N M:AH} {n k:Nat} (H:At N k M) (hA:A.length=n):At (A++N) (n+k) M:=fun j b hb hl=>by
 have:=H j b hb hl
 rw [List.getElem?_append_right (by omega),hA,show n+k+j - n=k+j by omega];exact this
theorem QnO {P:Pz} {h:AH} {s3:PS} (c d e f:AB) (t u:T) (op:Int) (sw:Bool):LC h P (.ok ⟨op,eB,if sw then [u,t] else [t,u]⟩ s3)
  (.ret (.agg [.v (.int .i64 op),.v (.string {data:=#[]}),.arr (h.length+((t.lay 54 (h.length+2)).length+((u.lay 54 (h.length+2+t.sz+1)).length+1+1)+1+1)) 0 2]))
  (ph h P s3++(c::d::(t.lay 54 (h.length+2)++(e::(u.lay 54 (h.length+2+t.sz+1)++[f,.cells 54 4 (if sw then [u.lv (h.length+2+t.sz+1),t.lv (h.length+2)] else [t.lv (h.length+2),u.lv (h.length+2+t.sz+1)])]))))):=by
 have l1:=T.Qqc 54 (h.length+2) t
 have l2:=T.Qqc 54 (h.length+2+t.sz+1) u
 have a1:At (ph h P s3++(c::d::(t.lay 54 (h.length+2)++(e::(u.lay 54 (h.length+2+t.sz+1)++[f,.cells 54 4 (if sw then [u.lv (h.length+2+t.sz+1),t.lv (h.length+2)] else [t.lv (h.length+2),u.lv (h.length+2+t.sz+1)])]))))) (h.length+2) (t.lay 54 (h.length+2)) :=
  At.base (At.mid [c,d] _ _ rfl) (QS h P s3)
 have a2:At (ph h P s3++(c::d::(t.lay 54 (h.length+2)++(e::(u.lay 54 (h.length+2+t.sz+1)++[f,.cells 54 4 (if sw then [u.lv (h.length+2+t.sz+1),t.lv (h.length+2)] else [t.lv (h.length+2),u.lv (h.length+2+t.sz+1)])]))))) (h.length+2+t.sz+1) (u.lay 54 (h.length+2+t.sz+1)):=by
  have:=At.base (At.mid (c::d::(t.lay 54 (h.length+2)++[e])) (u.lay 54 (h.length+2+t.sz+1)) [f,.cells 54 4 (if sw then [u.lv (h.length+2+t.sz+1),t.lv (h.length+2)] else [t.lv (h.length+2),u.lv (h.length+2+t.sz+1)])] (n:=2+t.sz+1) (by simp only [Qrc,QrQ,Qrd,l1];omega)) (QS h P s3)
  rw [show h.length+(2+t.sz+1)=h.length+2+t.sz+1 by omega] at this
  simpa only [Qrr,List.append_assoc,Qrq] using this
 have a3:(ph h P s3++(c::d::(t.lay 54 (h.length+2)++(e::(u.lay 54 (h.length+2+t.sz+1)++[f,.cells 54 4 (if sw then [u.lv (h.length+2+t.sz+1),t.lv (h.length+2)] else [t.lv (h.length+2),u.lv (h.length+2+t.sz+1)])])))))[h.length+((t.lay 54 (h.length+2)).length+((u.lay 54 (h.length+2+t.sz+1)).length+1+1)+1+1)]? = some (.cells 54 4 (if sw then [u.lv (h.length+2+t.sz+1),t.lv (h.length+2)] else [t.lv (h.length+2),u.lv (h.length+2+t.sz+1)])):=by
  rw [XY]
  simp only [Qq0]
  rw [hget]
  simp only [Qq0]
  rw [hget]
  rfl
 cases sw with
 |false=>exact .inr ⟨t,u,h.length+2,h.length+2+t.sz,h.length+2+t.sz+1,_,_,rfl,rfl,rfl,by omega,by omega,by omega,.inl ⟨by omega,by omega,by omega⟩,a1,a2,a3⟩
 |true=>exact .inr ⟨u,t,h.length+2+t.sz+1,h.length+2+t.sz,h.length+2,_,_,rfl,rfl,rfl,by omega,by omega,by omega,.inr ⟨by omega,by omega,by omega⟩,a2,a1,a3⟩
section
variable {P:Pz} {s:PS} (hW:Wst P.all s) {h:AH} (H:P.ok h) (hN:P.all.length≤1000000) (hD:TkOk P.all)
include hW H hN hD
theorem Qcb {r:PR G} (hw:∀ L:AH,QJ Tryd.prog 72 [.ptr P.i 0 0] (ph (h++L) P s) (WC 3 (h++L) P r)):QJ Tryd.prog 55 [.ptr P.i 0 0] (ph h P s) (LQ h P r):=by
 have _u:=hN
 have _v:=hD
 have _w:=hW
 have cw:=fun L=>QnE (H.app L) 3 (hw L)
 have f1:=QS h P
 have f3:=Xr h P
 have f4:=XY h P
 have f5:=Xe h P
 have f6:=XC h P
 refine Qi5 H ?_
 cases r with
 |err p e =>
  have cw':∀ L,QJ Tryd.prog 72 [.ptr P.i 0 0] (ph h P s++L) fun o h'=>o = .panic (Fl p e)∧∃ s1:PS,h'=ph h P s1++L:=fun L=>by
   have:=cw L
   rw [Q1 H] at this
   exact this.mono fun o h' q=>by simpa only [WQ,Q1 H] using q
  refine Qe Tryd.func55 rfl Tryd.call55 Tryd.ntmps55 (congrArg Array.toList Tryd.results55) (by simp) ?_
  repeat (first|((first|(with_reducible (first|refine Qa fun K E hK hE=>?_|refine FunW.panE (FunW.call (cw' _)) fun r=>?_)));simp -implicitDefEqProofs only [Qc,Qd,OpW,QE,aop,undef,AS.ev,Qq,AV.Qp8,↓reduceIte,zi52,f1,seval])|(with_reducible refine Qf fun K hK=>?_)|((with_reducible refine hK _ ?_);clear hK)|(with_reducible (first|refine hE _ _ ?_|refine QM ?_)))
  exact QT H s r _ _ _ ⟨rfl,_,rfl⟩
 |ok a s1 =>
  have cw':∀ c:AB,QJ Tryd.prog 72 [.ptr P.i 0 0] (ph h P s++[c]) fun o h'=>o = .ret (.tup [gv (h.length+1) a,.b true])∧h'=ph h P s1++(c::layA 54 (h.length+1) a.args):=fun c=>by
   have:=cw [c]
   rw [Q1 H] at this
   exact this.mono fun o h' q=>by simpa only [WQ,Q1 H,QrQ,Qrc,Qrd,List.append_assoc,Qrr,Qrq] using q
  simp only [gv] at cw'
  have e5:=Qd8 (h.length+1) a.args
  have e6:=Qd9 (h.length+1) a.args
  refine Qe Tryd.func55 rfl Tryd.call55 Tryd.ntmps55 (congrArg Array.toList Tryd.results55) (by simp) ?_
  repeat (first|((first|(with_reducible (first|refine Qa fun K E hK hE=>?_|refine FunW.ret (FunW.call (cw' _)) ?_)));simp -implicitDefEqProofs only [Qc,Qd,OpW,QE,aop,undef,AS.ev,Qq,AV.Qp8,↓reduceIte,Qw,Qv,QB,Qp,QY,ti52,zi52,f1,f3,f4,f5,f6,QR,seval])|(with_reducible (first|refine Qf fun K hK=>?_|refine Ql ?_|refine Qu ?_))|((with_reducible refine hK _ ?_);clear hK)|(refine Qh rfl ?_;simp only [↓reduceIte]))
  simp -implicitDefEqProofs only [Qc,↓reduceIte,Qw,Qv,ti52,Qw,Qv,f3,QF,Qn,Qr,Qq9,seval]
  exact .inr (.inl ⟨1,1,_,rfl,rfl,At.mid [_] _ _ rfl,rfl⟩)
theorem Qla (hw:∀ L:AH,QJ Tryd.prog 72 [.ptr P.i 0 0] (ph h P s++L) fun o h'=>o = .ret (.tup [zg,.b false])∧h'=ph h P s++L) :
  QJ Tryd.prog 55 [.ptr P.i 0 0] (ph h P s) (LQ h P ((X1 s).bind fun t s2=>match Qb2 s2 with
   |some (op,turn)=>(X1 s2.nx).bind fun u s3=>.ok ⟨op,eB,if turn then [u,t] else [t,u]⟩ s3
   |none=>if s.tk.kind≠1∨opB t.name=true then .err s2.tk.pos 16 else .ok ⟨0,t.name,t.args⟩ s2)):=by
 have f1:=QS h P
 have f3:=Xr h P
 have f4:=XY h P
 have f5:=Xe h P
 have f6:=XC h P
 have hi:=ph_i H s
 simp only [pB] at hi
 have cn:=nextL hW (XS H s)
 have e1:=Tk.Qp9 s.tk
 have e2:=Tk.Qqa s.tk
 have HR:=QgC hN hD
 have hls:s.toks.length<1000001:=by have:=hW.suf.length_le;omega
 refine Qi5 H ?_
 cases hr:X1 s with
 |err p e =>
  have cx:=fun L=>TRd.err HR hls hW H hr L
  refine Qe Tryd.func55 rfl Tryd.call55 Tryd.ntmps55 (congrArg Array.toList Tryd.results55) (by simp) ?_
  repeat (first|((first|(with_reducible (first|refine Qa fun K E hK hE=>?_|refine FunW.ret (FunW.call (hw _)) ?_|refine FunW.ret (FunW.call (cn _)) ?_|refine FunW.panE (FunW.call (cx _)) fun r=>?_)));simp -implicitDefEqProofs only [Qc,Qd,OpW,QE,aop,undef,AS.ev,Qq,AV.Qp8,↓reduceIte,Qg,Qv,QB,Qp,aBin,Zh,QY,ti3,ti52,zi52,QQ,QI,Qs,f1,f4,f6,hi,e1,e2,seval])|(with_reducible (first|refine Qf fun K hK=>?_|refine Qm ?_|refine Qb ?_))|((with_reducible refine hK _ ?_);clear hK)|(refine Qh rfl ?_;simp only [↓reduceIte,Qq3])|(with_reducible refine hE _ _ ?_))
  exact QT H s r _ _ _ ⟨rfl,_,rfl⟩
 |ok t s2 =>
  have cx:=fun (c d:AB)=>TRd.ok HR hls hW H hr [c,d] (k:=h.length+2) rfl
  simp only [Qrr,Qrq] at cx
  have hW2:Wst P.all s2:=Kp.Ps.ok (n:=wdOf P.all) (Kp.termT_ps trivial) hW hr
  have hi2:=ph_i H s2
  simp only [pB] at hi2
  have e3:=T.Qqd (h.length+2) t
  have e4:=T.Qqf (h.length+2) t
  have cm:=fun L=>QdT hW2 (H.app L) hN
  show QJ _ _ _ _ (LC h P (match Qb2 s2 with
   |some (op,turn)=>(X1 s2.nx).bind fun u s3=>.ok ⟨op,eB,if turn then [u,t] else [t,u]⟩ s3
   |none=>if s.tk.kind≠1∨opB t.name=true then .err s2.tk.pos 16 else .ok ⟨0,t.name,t.args⟩ s2))
  cases hc:Qb2 s2 with
  |none =>
   rw [hc] at cm
   have cm':∀ L,QJ Tryd.prog 74 [.ptr P.i 0 0] (ph h P s2++L) fun o h'=>o = .ret (.tup [.i 0,.b false,.b false])∧h'=ph h P s2++L:=fun L=>by
    have:=cm L
    rw [Q1 H] at this
    exact this.mono fun o h' q=>by simpa only [MQ,Q1 H] using q
   have cn2:=nextL hW2 (XS H s2)
   have cf:=Yw s2.tk 16
   by_cases hk:s.tk.kind=1
   ·have z1:(s.tk.kind==1)=true:=by simpa using hk
    have co:=Qci t.name
    cases hop:opB t.name with
    |true =>
     rw [hop] at co
     simp only [or_true,if_true]
     refine Qe Tryd.func55 rfl Tryd.call55 Tryd.ntmps55 (congrArg Array.toList Tryd.results55) (by simp) ?_
     repeat (first|((first|(with_reducible (first|refine Qa fun K E hK hE=>?_|refine FunW.ret (FunW.call (hw _)) ?_|refine FunW.ret (FunW.call (cn _)) ?_|refine FunW.ret (FunW.call (cx _ _)) ?_|refine FunW.ret (FunW.call (cm' _)) ?_|refine Qz co ?_)));simp -implicitDefEqProofs only [Qc,Qd,OpW,QE,aop,undef,AS.ev,Qq,AV.Qp8,↓reduceIte,Qg,Qw,Qv,QB,Qp,aBin,Zh,QY,ti3,ti9,ti52,zi52,ti54,Yj,zi54,QQ,QI,Qs,f1,f4,f6,hi,e1,e2,e3,e4,QR,z1,seval])|(with_reducible (first|refine Qf fun K hK=>?_|refine Qm ?_|refine Qb ?_))|((with_reducible refine hK _ ?_);clear hK)|(refine Qh rfl ?_;simp only [↓reduceIte,Qq3]))
     refine Q9 7 [(0,1),(1,0),(2,0),(3,1),(4,0),(5,0),(6,0)] mixed rfl rfl rfl (by kernel_rfl) (fun v h'=>v=Fl s2.tk.pos 16∧∃ L,h'=ph h P s2++L) ?_ ?_
     ·rintro tm v h' ⟨rfl,L,rfl⟩
      exact QT H s s2 _ _ _ ⟨rfl,_,rfl⟩
     ·simp -implicitDefEqProofs only [Qc,Qd,aop,undef,AS.ev,Qq,↓reduceIte,Qg,QI,Qs,hi2,seval]
      refine QgT (fun hx hkp=>XE hW2 (hkp _ _ (ph_i H s2 _) (fun _ _ _ q=>by unfold pB at q;cases q))) ?_
      simp -implicitDefEqProofs only [Qdq,Q8,Yq,↓reduceIte,Nat.reduceLT,Nat.reduceEqDiff]
      exact fun _=>(FunW.call (cf _ _)).mono (by rintro _ _ ⟨rfl,rfl⟩;exact ⟨_,rfl,rfl,_,rfl⟩)
    |false =>
     rw [hop] at co
     simp only [hk,ne_eq,not_true_eq_false,Qq3,or_self,if_false]
     have e5:=Qd8 (h.length+2) t.args
     have e6:=Qd9 (h.length+2) t.args
     have hat:∀ (c d:AB) X,At (c::d::(t.lay 54 (h.length+2)++X)) 2 (layA 54 (h.length+2) t.args):=fun c d X=>by rw [T.Qqk];exact At.mid [c,d] _ _ rfl
     refine Qe Tryd.func55 rfl Tryd.call55 Tryd.ntmps55 (congrArg Array.toList Tryd.results55) (by simp) ?_
     repeat (first|((first|(with_reducible (first|refine Qa fun K E hK hE=>?_|refine FunW.ret (FunW.call (hw _)) ?_|refine FunW.ret (FunW.call (cn _)) ?_|refine FunW.ret (FunW.call (cx _ _)) ?_|refine FunW.ret (FunW.call (cm' _)) ?_|refine Qz co ?_)));simp -implicitDefEqProofs only [Qc,Qd,OpW,QE,aop,undef,AS.ev,Qq,AV.Qp8,↓reduceIte,Qg,Qw,Qv,QB,Qp,aBin,Zh,QY,Xf,Xu,ti3,ti9,ti50,ti52,zi52,sp52,ti54,Yj,Yk,zi54,QQ,QI,Qs,f1,f3,f4,f5,f6,hi,e1,e2,e3,e4,e5,QR,z1,seval])|(with_reducible (first|refine Qf fun K hK=>?_|refine Ql ?_|refine Qm ?_|refine Qb ?_))|((with_reducible refine hK _ ?_);clear hK)|(refine Qh rfl ?_;simp only [↓reduceIte,Qq3]))
     simp -implicitDefEqProofs only [Qc,↓reduceIte,Qw,Qv,ti52,Qw,Qv,f3,QF,Qn,Qr,Qq9,seval]
     exact .inr (.inl ⟨2,2,_,rfl,rfl,hat _ _ _,rfl⟩)
   ·have z1:(s.tk.kind==1)=false:=by simpa using hk
    rw [if_pos (.inl hk)]
    refine Qe Tryd.func55 rfl Tryd.call55 Tryd.ntmps55 (congrArg Array.toList Tryd.results55) (by simp) ?_
    repeat (first|((first|(with_reducible (first|refine Qa fun K E hK hE=>?_|refine FunW.ret (FunW.call (hw _)) ?_|refine FunW.ret (FunW.call (cn _)) ?_|refine FunW.ret (FunW.call (cx _ _)) ?_|refine FunW.ret (FunW.call (cm' _)) ?_)));simp -implicitDefEqProofs only [Qc,Qd,OpW,QE,aop,undef,AS.ev,Qq,AV.Qp8,↓reduceIte,Qg,Qv,QB,Qp,aBin,Zh,QY,ti3,ti52,zi52,ti54,zi54,QQ,QI,Qs,f1,f4,f6,hi,e1,e2,e3,e4,QR,z1,seval])|(with_reducible (first|refine Qf fun K hK=>?_|refine Qm ?_|refine Qb ?_))|((with_reducible refine hK _ ?_);clear hK)|(refine Qh rfl ?_;simp only [↓reduceIte,Qq3]))
    refine Q9 7 [(0,1),(1,0),(2,0),(3,1),(4,0),(5,0),(6,0)] mixed rfl rfl rfl (by kernel_rfl) (fun v h'=>v=Fl s2.tk.pos 16∧∃ L,h'=ph h P s2++L) ?_ ?_
    ·rintro tm v h' ⟨rfl,L,rfl⟩
     exact QT H s s2 _ _ _ ⟨rfl,_,rfl⟩
    ·simp -implicitDefEqProofs only [Qc,Qd,aop,undef,AS.ev,Qq,↓reduceIte,Qg,QI,Qs,hi2,seval]
     refine QgT (fun hx hkp=>XE hW2 (hkp _ _ (ph_i H s2 _) (fun _ _ _ q=>by unfold pB at q;cases q))) ?_
     simp -implicitDefEqProofs only [Qdq,Q8,Yq,↓reduceIte,Nat.reduceLT,Nat.reduceEqDiff]
     exact fun _=>(FunW.call (cf _ _)).mono (by rintro _ _ ⟨rfl,rfl⟩;exact ⟨_,rfl,rfl,_,rfl⟩)
  |some x =>
   obtain ⟨op,turn⟩:=x
   rw [hc] at cm
   have cm':∀ L,QJ Tryd.prog 74 [.ptr P.i 0 0] (ph h P s2++L) fun o h'=>o = .ret (.tup [.i op,.b turn,.b true])∧h'=ph h P s2.nx++L:=fun L=>by
    have:=cm L
    rw [Q1 H] at this
    exact this.mono fun o h' q=>by simpa only [MQ,Q1 H] using q
   have hkc:s2.tk.kind≠0:=Qfc hc
   have hWn:=hW2.nx
   have hin:=ph_i H s2.nx
   simp only [pB] at hin
   have hln:s2.nx.toks.length<1000001:=by have:=hWn.suf.length_le;omega
   show QJ _ _ _ _ (LC h P ((X1 s2.nx).bind fun u s3=>.ok ⟨op,eB,if turn then [u,t] else [t,u]⟩ s3))
   cases hr2:X1 s2.nx with
   |err p e =>
    have cy:=fun L=>TRd.err HR hln hWn H hr2 L
    refine Qe Tryd.func55 rfl Tryd.call55 Tryd.ntmps55 (congrArg Array.toList Tryd.results55) (by simp) ?_
    repeat (first|((first|(with_reducible (first|refine Qa fun K E hK hE=>?_|refine FunW.ret (FunW.call (hw _)) ?_|refine FunW.ret (FunW.call (cn _)) ?_|refine FunW.ret (FunW.call (cx _ _)) ?_|refine FunW.ret (FunW.call (cm' _)) ?_|refine FunW.panE (FunW.call (cy _)) fun r=>?_)));simp -implicitDefEqProofs only [Qc,Qd,OpW,QE,aop,undef,AS.ev,Qq,AV.Qp8,↓reduceIte,Qg,Qv,QB,Qp,aBin,Zh,QY,ti3,ti52,zi52,ti54,zi54,QQ,QI,Qs,f1,f4,f6,hi,e1,e2,e3,e4,QR,seval])|(with_reducible (first|refine Qf fun K hK=>?_|refine Qm ?_|refine Qb ?_))|((with_reducible refine hK _ ?_);clear hK)|(refine Qh rfl ?_;simp only [↓reduceIte,Qq3])|(with_reducible (first|refine hE _ _ ?_|refine QM ?_)))
    exact QT H s r _ _ _ ⟨rfl,_,rfl⟩
   |ok u s3 =>
    have cy:=fun (c d f:AB)=>TRd.ok HR hln hWn H hr2 (c::d::(t.lay 54 (h.length+2)++[f])) (k:=h.length+2+t.sz+1) (by simp only [Qrc,QrQ,T.Qqc,Qrd];omega)
    simp only [Qrr,List.append_assoc,Qrq] at cy
    have e5:=T.Qqd (h.length+2+t.sz+1) u
    have e6:=T.Qqf (h.length+2+t.sz+1) u
    have g1:∀ (X:AH),(t.lay 54 (h.length+2)++X)[(t.lay 54 (h.length+2)).length]? = X[0]? := fun X=>Z4 _ _
    have g2:∀ (X:AH) (y:AB),(t.lay 54 (h.length+2)++X).set (t.lay 54 (h.length+2)).length y=t.lay 54 (h.length+2)++X.set 0 y:=fun X y=>QbK _ _ _
    have g3:∀ (X:AH),(u.lay 54 (h.length+2+t.sz+1)++X)[(u.lay 54 (h.length+2+t.sz+1)).length]? = X[0]? := fun X=>Z4 _ _
    have g4:∀ (X:AH) (y:AB),(u.lay 54 (h.length+2+t.sz+1)++X).set (u.lay 54 (h.length+2+t.sz+1)).length y=u.lay 54 (h.length+2+t.sz+1)++X.set 0 y:=fun X y=>QbK _ _ _
    cases turn with
    |false =>
     refine Qe Tryd.func55 rfl Tryd.call55 Tryd.ntmps55 (congrArg Array.toList Tryd.results55) (by simp) ?_
     repeat (first|((first|(with_reducible (first|refine Qa fun K E hK hE=>?_|refine FunW.ret (FunW.call (hw _)) ?_|refine FunW.ret (FunW.call (cn _)) ?_|refine FunW.ret (FunW.call (cx _ _)) ?_|refine FunW.ret (FunW.call (cm' _)) ?_)));simp -implicitDefEqProofs only [Qc,Qd,OpW,QE,aop,undef,AS.ev,Qq,AV.Qp8,↓reduceIte,Qg,Qv,QB,Qp,aBin,Zh,QY,ti3,ti52,zi52,ti54,zi54,QQ,QI,Qs,f1,f4,f6,hi,e1,e2,e3,e4,QR,List.append_assoc,g1,g2,seval])|(with_reducible (first|refine Qf fun K hK=>?_|refine Qm ?_|refine Qb ?_))|((with_reducible refine hK _ ?_);clear hK)|(refine Qh rfl ?_;simp only [↓reduceIte,Qq3]))
     refine FunW.ret (FunW.call (cy _ _ _)) ?_
     simp -implicitDefEqProofs only [Qc,Qd,OpW,QE,aop,undef,AS.ev,AV.Qp8,↓reduceIte,QB,Qp,ti54,zi54,f1,f4,f6,e5,e6,QR,List.append_assoc,g3,g4,seval]
     first|(with_reducible (first|refine hK _ ?_|(clear hK;refine hK _ ?_)|(clear hK;clear hK;refine hK _ ?_)|(clear hK;clear hK;clear hK;refine hK _ ?_));clear hK)|(clear hK;clear hK;clear hK;clear hK;(with_reducible refine hK _ ?_);clear hK)|(clear hK;clear hK;clear hK;clear hK;clear hK;(with_reducible refine hK _ ?_);clear hK)|(clear hK;clear hK;clear hK;clear hK;clear hK;clear hK;(with_reducible refine hK _ ?_);clear hK)|(clear hK;clear hK;clear hK;clear hK;clear hK;clear hK;clear hK;(with_reducible refine hK _ ?_);clear hK)|(clear hK;clear hK;clear hK;clear hK;clear hK;clear hK;clear hK;clear hK;(with_reducible refine hK _ ?_);clear hK)|(clear hK;clear hK;clear hK;clear hK;clear hK;clear hK;clear hK;clear hK;clear hK;(with_reducible refine hK _ ?_);clear hK)|(clear hK;clear hK;clear hK;clear hK;clear hK;clear hK;clear hK;clear hK;clear hK;clear hK;(with_reducible refine hK _ ?_);clear hK)|(clear hK;clear hK;clear hK;clear hK;clear hK;clear hK;clear hK;clear hK;clear hK;clear hK;clear hK;(with_reducible refine hK _ ?_);clear hK)|(clear hK;clear hK;clear hK;clear hK;clear hK;clear hK;clear hK;clear hK;clear hK;clear hK;clear hK;clear hK;(with_reducible refine hK _ ?_);clear hK)|(clear hK;clear hK;clear hK;clear hK;clear hK;clear hK;clear hK;clear hK;clear hK;clear hK;clear hK;clear hK;clear hK;(with_reducible refine hK _ ?_);clear hK)|(clear hK;clear hK;clear hK;clear hK;clear hK;clear hK;clear hK;clear hK;clear hK;clear hK;clear hK;clear hK;clear hK;clear hK;(with_reducible refine hK _ ?_);clear hK)|(clear hK;clear hK;clear hK;clear hK;clear hK;clear hK;clear hK;clear hK;clear hK;clear hK;clear hK;clear hK;clear hK;clear hK;clear hK;(with_reducible refine hK _ ?_);clear hK)|(clear hK;clear hK;clear hK;clear hK;clear hK;clear hK;clear hK;clear hK;clear hK;clear hK;clear hK;clear hK;clear hK;clear hK;clear hK;clear hK;(with_reducible refine hK _ ?_);clear hK)|(clear hK;clear hK;clear hK;clear hK;clear hK;clear hK;clear hK;clear hK;clear hK;clear hK;clear hK;clear hK;clear hK;clear hK;clear hK;clear hK;clear hK;(with_reducible refine hK _ ?_);clear hK)
     iterate 7 (try (first|(((with_reducible refine Qa fun K E hK hE=>?_));simp -implicitDefEqProofs only [Qc,Qd,OpW,aop,AS.ev,↓reduceIte,seval])|(with_reducible (first|refine Qf fun K hK=>?_|refine Qm ?_|refine Qb ?_))|((with_reducible refine hK _ ?_);clear hK)|(refine Qh rfl ?_;simp only [↓reduceIte,Qq3])))
     refine YQ 3 rfl fun K E hK hE=>?_
     simp only [Qra,Qrh,Qq8,Qrg]
     simp -implicitDefEqProofs only [Qc,Qd,OpW,aop,AS.ev,↓reduceIte,Qw,Qv,ti54,f4,e3,e4,e5,e6,g1,g3,seval]
     simp only [ArrW]
     simp -implicitDefEqProofs only [Qc,Qd,OpW,aop,undef,AS.ev,Qq,AV.Qp8,↓reduceIte,QB,Qp,Xf,Xu,QH,ei50,ti52,zi52,sp52,zi54,f1,f3,f5,e3,e5,QR,List.append_assoc,Option.isSome_some,seval]
     repeat (first|(with_reducible (first|refine Ql ?_|refine Qu ?_))|((with_reducible refine hK _ ?_);clear hK))
     simp -implicitDefEqProofs only [Qc,↓reduceIte,Qw,Qv,ti52,Qw,Qv,f3,QF,Qn,Qr,Qq9,seval]
     exact .inr (QnO _ _ _ _ t u op false)
    |true =>
     refine Qe Tryd.func55 rfl Tryd.call55 Tryd.ntmps55 (congrArg Array.toList Tryd.results55) (by simp) ?_
     repeat (first|((first|(with_reducible (first|refine Qa fun K E hK hE=>?_|refine FunW.ret (FunW.call (hw _)) ?_|refine FunW.ret (FunW.call (cn _)) ?_|refine FunW.ret (FunW.call (cx _ _)) ?_|refine FunW.ret (FunW.call (cm' _)) ?_)));simp -implicitDefEqProofs only [Qc,Qd,OpW,QE,aop,undef,AS.ev,Qq,AV.Qp8,↓reduceIte,Qg,Qv,QB,Qp,aBin,Zh,QY,ti3,ti52,zi52,ti54,zi54,QQ,QI,Qs,f1,f4,f6,hi,e1,e2,e3,e4,QR,List.append_assoc,g1,g2,seval])|(with_reducible (first|refine Qf fun K hK=>?_|refine Qm ?_|refine Qb ?_))|((with_reducible refine hK _ ?_);clear hK)|(refine Qh rfl ?_;simp only [↓reduceIte,Qq3]))
     refine FunW.ret (FunW.call (cy _ _ _)) ?_
     simp -implicitDefEqProofs only [Qc,Qd,OpW,QE,aop,undef,AS.ev,AV.Qp8,↓reduceIte,QB,Qp,ti54,zi54,f1,f4,f6,e5,e6,QR,List.append_assoc,g3,g4,seval]
     first|(with_reducible (first|refine hK _ ?_|(clear hK;refine hK _ ?_)|(clear hK;clear hK;refine hK _ ?_)|(clear hK;clear hK;clear hK;refine hK _ ?_));clear hK)|(clear hK;clear hK;clear hK;clear hK;(with_reducible refine hK _ ?_);clear hK)|(clear hK;clear hK;clear hK;clear hK;clear hK;(with_reducible refine hK _ ?_);clear hK)|(clear hK;clear hK;clear hK;clear hK;clear hK;clear hK;(with_reducible refine hK _ ?_);clear hK)|(clear hK;clear hK;clear hK;clear hK;clear hK;clear hK;clear hK;(with_reducible refine hK _ ?_);clear hK)|(clear hK;clear hK;clear hK;clear hK;clear hK;clear hK;clear hK;clear hK;(with_reducible refine hK _ ?_);clear hK)|(clear hK;clear hK;clear hK;clear hK;clear hK;clear hK;clear hK;clear hK;clear hK;(with_reducible refine hK _ ?_);clear hK)|(clear hK;clear hK;clear hK;clear hK;clear hK;clear hK;clear hK;clear hK;clear hK;clear hK;(with_reducible refine hK _ ?_);clear hK)|(clear hK;clear hK;clear hK;clear hK;clear hK;clear hK;clear hK;clear hK;clear hK;clear hK;clear hK;(with_reducible refine hK _ ?_);clear hK)|(clear hK;clear hK;clear hK;clear hK;clear hK;clear hK;clear hK;clear hK;clear hK;clear hK;clear hK;clear hK;(with_reducible refine hK _ ?_);clear hK)|(clear hK;clear hK;clear hK;clear hK;clear hK;clear hK;clear hK;clear hK;clear hK;clear hK;clear hK;clear hK;clear hK;(with_reducible refine hK _ ?_);clear hK)|(clear hK;clear hK;clear hK;clear hK;clear hK;clear hK;clear hK;clear hK;clear hK;clear hK;clear hK;clear hK;clear hK;clear hK;(with_reducible refine hK _ ?_);clear hK)|(clear hK;clear hK;clear hK;clear hK;clear hK;clear hK;clear hK;clear hK;clear hK;clear hK;clear hK;clear hK;clear hK;clear hK;clear hK;(with_reducible refine hK _ ?_);clear hK)|(clear hK;clear hK;clear hK;clear hK;clear hK;clear hK;clear hK;clear hK;clear hK;clear hK;clear hK;clear hK;clear hK;clear hK;clear hK;clear hK;(with_reducible refine hK _ ?_);clear hK)|(clear hK;clear hK;clear hK;clear hK;clear hK;clear hK;clear hK;clear hK;clear hK;clear hK;clear hK;clear hK;clear hK;clear hK;clear hK;clear hK;clear hK;(with_reducible refine hK _ ?_);clear hK)
     iterate 8 (try (first|((first|(with_reducible (first|refine Qa fun K E hK hE=>?_|refine Qk fun K E hK hE=>?_)));simp -implicitDefEqProofs only [Qc,Qd,OpW,aop,undef,AS.ev,AV.Qp8,↓reduceIte,Qw,Qv,QB,Qp,ti54,f4,f6,e3,e4,e5,e6,QR,g1,g2,g3,g4,seval])|(with_reducible (first|refine Qf fun K hK=>?_|refine Qb ?_))|((with_reducible refine hK _ ?_);clear hK)|(refine Qh rfl ?_;simp only [↓reduceIte])))
     refine YQ 3 rfl fun K E hK hE=>?_
     simp only [Qra,Qrh,Qq8,Qrg]
     simp -implicitDefEqProofs only [Qc,Qd,OpW,aop,AS.ev,↓reduceIte,Qw,Qv,ti54,f4,e3,e4,e5,e6,g1,g3,seval]
     simp only [ArrW]
     simp -implicitDefEqProofs only [Qc,Qd,OpW,aop,undef,AS.ev,Qq,AV.Qp8,↓reduceIte,QB,Qp,Xf,Xu,QH,ei50,ti52,zi52,sp52,zi54,f1,f3,f5,e3,e5,QR,List.append_assoc,Option.isSome_some,seval]
     repeat (first|(with_reducible (first|refine Ql ?_|refine Qu ?_))|((with_reducible refine hK _ ?_);clear hK))
     simp -implicitDefEqProofs only [Qc,↓reduceIte,Qw,Qv,ti52,Qw,Qv,f3,QF,Qn,Qr,Qq9,seval]
     exact .inr (QnO _ _ _ _ t u op true)
end
end Go.Proofs.YticgcpebdldbgaaDoor.Ab
set_option maxRecDepth 4000
namespace Go.Proofs.YticgcpebdldbgaaDoor.Ab
open Go.Proofs
theorem QeW (g:G):Pure Tryd.prog 56 [g.goal] (.b (QU g)):=by
 intro h
 refine Qe Tryd.func56 rfl Tryd.call56 Tryd.ntmps56 (congrArg Array.toList Tryd.results56) (by simp) ?_
 iterate 4 (try (first|(((with_reducible refine Qa fun K E hK hE=>?_));simp -implicitDefEqProofs only [Qc,Qd,OpW,aop,undef,AS.ev,Qq,AV.Qp8,↓reduceIte,Q7,seval])|((with_reducible refine hK _ ?_);clear hK)))
 refine QX (fun s=>g.op≠0∧s.tm 1 = .ptr h.length 0 0∧s.tm 3 = .i (QaD g.op)∧s.h=h++[.cells 52 3 [g.goal]]) ?_ ?_
 ·rintro ⟨tm,hp⟩ ⟨k0,t1,t3,hh⟩
  dsimp only at t1 t3 hh
  subst hh
  cases p0:decide (g.op>0)
  ·skip
   have R:QU g=false:=by
    rw [QU,if_neg k0,decide_eq_false (by simp at p0;omega)];rfl
   iterate 2 (try (first|(((with_reducible refine Qa fun K E hK hE=>?_));simp -implicitDefEqProofs only [Qc,Qd,OpW,aop,AS.ev,AV.Qp8,↓reduceIte,Xf,Xu,QhP,QhG,seval])|((with_reducible refine hK _ ?_);clear hK)))
   (with_reducible refine Qa fun K E hK hE=>?_)
   (try simp only [QrA]);refine QA 8 (fun K1 hK1=>?_);simp -implicitDefEqProofs only [Qc,Qd,OpW,aop,undef,AS.ev,↓reduceIte,Qg,Qw,Qv,aBin,ti3,X4,Q7,t1,p0,seval];refine hK1 _ ?_;clear hK1
   (try simp only [Qq8,Qrg]);refine QA 6 (fun K1 hK1=>?_);simp -implicitDefEqProofs only [Qc,Qd,OpW,aop,undef,AS.ev,↓reduceIte,seval];refine hK1 _ ?_;clear hK1
   (try simp only [Qq8,Qrg]);refine QA 6 (fun K1 hK1=>?_);simp -implicitDefEqProofs only [Qc,Qd,OpW,aop,undef,AS.ev,↓reduceIte,seval];refine hK1 _ ?_;clear hK1
   (try simp only [Qq8,Qrg])
   simp -implicitDefEqProofs only [Qc,Qd,OpW,aop,undef,AS.ev,↓reduceIte,seval]
   repeat (first|(with_reducible refine Ql ?_)|((with_reducible refine hK _ ?_);clear hK))
   simp only [QF,Qn,Qr,upd,↓reduceIte,Qq5,Qq9];first|refine Qi (htake _ _) (.keep (.v _)) ⟨by rw [R],rfl⟩|refine Qi List.take_length (.keep (.v _)) ⟨by rw [R],rfl⟩
  cases p1:decide (g.op≤12)
  ·skip
   have R:QU g=false:=by
    rw [QU,if_neg k0,decide_eq_false (by simp at p1;omega)];rfl
   iterate 2 (try (first|(((with_reducible refine Qa fun K E hK hE=>?_));simp -implicitDefEqProofs only [Qc,Qd,OpW,aop,AS.ev,AV.Qp8,↓reduceIte,Xf,Xu,QhP,QhG,seval])|((with_reducible refine hK _ ?_);clear hK)))
   (with_reducible refine Qa fun K E hK hE=>?_)
   (try simp only [QrA]);refine QA 8 (fun K1 hK1=>?_);simp -implicitDefEqProofs only [Qc,Qd,OpW,aop,AS.ev,↓reduceIte,Qg,Qw,Qv,aBin,ti3,X4,Q7,t1,p0,p1,seval];refine hK1 _ ?_;clear hK1
   (try simp only [Qq8,Qrg]);refine QA 6 (fun K1 hK1=>?_);simp -implicitDefEqProofs only [Qc,Qd,OpW,aop,undef,AS.ev,↓reduceIte,seval];refine hK1 _ ?_;clear hK1
   (try simp only [Qq8,Qrg]);refine QA 6 (fun K1 hK1=>?_);simp -implicitDefEqProofs only [Qc,Qd,OpW,aop,undef,AS.ev,↓reduceIte,seval];refine hK1 _ ?_;clear hK1
   (try simp only [Qq8,Qrg])
   simp -implicitDefEqProofs only [Qc,Qd,OpW,aop,undef,AS.ev,↓reduceIte,seval]
   repeat (first|(with_reducible refine Ql ?_)|((with_reducible refine hK _ ?_);clear hK))
   simp only [QF,Qn,Qr,upd,↓reduceIte,Qq5,Qq9];first|refine Qi (htake _ _) (.keep (.v _)) ⟨by rw [R],rfl⟩|refine Qi List.take_length (.keep (.v _)) ⟨by rw [R],rfl⟩
  have p2:decide (0<g.op∧g.op≤12)=true:=decide_eq_true ⟨of_decide_eq_true p0,of_decide_eq_true p1⟩
  cases c3:Zj g.name
  ·have c3':(g.name.toList==({data:=#[]}:ByteArray).toList)=false:=c3
   have R:QU g=false:=by
    rw [QU,if_neg k0,p2,c3];rfl
   iterate 2 (try (first|(((with_reducible refine Qa fun K E hK hE=>?_));simp -implicitDefEqProofs only [Qc,Qd,OpW,aop,AS.ev,AV.Qp8,↓reduceIte,Xf,Xu,QhP,QhG,seval])|((with_reducible refine hK _ ?_);clear hK)))
   (with_reducible refine Qa fun K E hK hE=>?_)
   (try simp only [QrA]);refine QA 8 (fun K1 hK1=>?_);simp -implicitDefEqProofs only [Qc,Qd,OpW,aop,AS.ev,↓reduceIte,Qg,Qw,Qv,aBin,ti3,X4,Q7,t1,p0,p1,seval];refine hK1 _ ?_;clear hK1
   (try simp only [Qq8,Qrg]);refine QA 6 (fun K1 hK1=>?_);simp -implicitDefEqProofs only [Qc,Qd,OpW,aop,AS.ev,↓reduceIte,Qg,Qw,Qv,aBin,ti9,Qb8,Q7,t1,c3',seval];refine hK1 _ ?_;clear hK1
   (try simp only [Qq8,Qrg]);refine QA 6 (fun K1 hK1=>?_);simp -implicitDefEqProofs only [Qc,Qd,OpW,aop,undef,AS.ev,↓reduceIte,seval];refine hK1 _ ?_;clear hK1
   (try simp only [Qq8,Qrg])
   simp -implicitDefEqProofs only [Qc,Qd,OpW,aop,undef,AS.ev,↓reduceIte,seval]
   repeat (first|(with_reducible refine Ql ?_)|((with_reducible refine hK _ ?_);clear hK))
   simp only [QF,Qn,Qr,upd,↓reduceIte,Qq5,Qq9];first|refine Qi (htake _ _) (.keep (.v _)) ⟨by rw [R],rfl⟩|refine Qi List.take_length (.keep (.v _)) ⟨by rw [R],rfl⟩
  have c3':(g.name.toList==({data:=#[]}:ByteArray).toList)=true:=c3
  cases c4:((g.args.length:Int)==QaD g.op)
  ·have c5:decide ((g.args.length:Int)=QaD g.op)=false:=decide_eq_false (by simpa using c4)
   have R:QU g=false:=by
    rw [QU,if_neg k0,p2,c3,c5];rfl
   iterate 2 (try (first|(((with_reducible refine Qa fun K E hK hE=>?_));simp -implicitDefEqProofs only [Qc,Qd,OpW,aop,AS.ev,AV.Qp8,↓reduceIte,Xf,Xu,QhP,QhG,seval])|((with_reducible refine hK _ ?_);clear hK)))
   (with_reducible refine Qa fun K E hK hE=>?_)
   (try simp only [QrA]);refine QA 8 (fun K1 hK1=>?_);simp -implicitDefEqProofs only [Qc,Qd,OpW,aop,AS.ev,↓reduceIte,Qg,Qw,Qv,aBin,ti3,X4,Q7,t1,p0,p1,seval];refine hK1 _ ?_;clear hK1
   (try simp only [Qq8,Qrg]);refine QA 6 (fun K1 hK1=>?_);simp -implicitDefEqProofs only [Qc,Qd,OpW,aop,AS.ev,↓reduceIte,Qg,Qw,Qv,aBin,ti9,Qb8,Q7,t1,c3',seval];refine hK1 _ ?_;clear hK1
   (try simp only [Qq8,Qrg]);refine QA 6 (fun K1 hK1=>?_);simp -implicitDefEqProofs only [Qc,Qd,OpW,aop,AS.ev,↓reduceIte,Qg,Qw,Qv,aBin,aLen,goInt,ti50,un50,ZG,Q7,t1,t3,c4,seval];refine hK1 _ ?_;clear hK1
   (try simp only [Qq8,Qrg])
   simp -implicitDefEqProofs only [Qc,Qd,OpW,aop,undef,AS.ev,↓reduceIte,seval]
   repeat (first|(with_reducible refine Ql ?_)|((with_reducible refine hK _ ?_);clear hK))
   simp only [QF,Qn,Qr,upd,↓reduceIte,Qq5,Qq9];first|refine Qi (htake _ _) (.keep (.v _)) ⟨by rw [R],rfl⟩|refine Qi List.take_length (.keep (.v _)) ⟨by rw [R],rfl⟩
  have c5:decide ((g.args.length:Int)=QaD g.op)=true:=decide_eq_true (by simpa using c4)
  have c6:(g.args.length:Int)≤2:=by
   have c7:(g.args.length:Int)=QaD g.op:=by simpa using c4
   rw [c7,QaD];split <;> (try split) <;> decide
  have ca:=QnF g.args (by omega) (h++[.cells 52 3 [g.goal],.cells 121 1 [.agg [.i 200]]]) (h.length+1) (by rw [hget];rfl)
  rw [hset] at ca
  have R:QU g=(runL g.args 200 20).1:=by
   rw [QU,if_neg k0,p2,c3,c5];rfl
  iterate 2 (try (first|(((with_reducible refine Qa fun K E hK hE=>?_));simp -implicitDefEqProofs only [Qc,Qd,OpW,aop,AS.ev,AV.Qp8,↓reduceIte,Xf,Xu,QhP,QhG,seval])|((with_reducible refine hK _ ?_);clear hK)))
  (with_reducible refine Qa fun K E hK hE=>?_)
  (try simp only [QrA]);refine QA 8 (fun K1 hK1=>?_);simp -implicitDefEqProofs only [Qc,Qd,OpW,aop,AS.ev,↓reduceIte,Qg,Qw,Qv,aBin,ti3,X4,Q7,t1,p0,p1,seval];refine hK1 _ ?_;clear hK1
  (try simp only [Qq8,Qrg]);refine QA 6 (fun K1 hK1=>?_);simp -implicitDefEqProofs only [Qc,Qd,OpW,aop,AS.ev,↓reduceIte,Qg,Qw,Qv,aBin,ti9,Qb8,Q7,t1,c3',seval];refine hK1 _ ?_;clear hK1
  (try simp only [Qq8,Qrg]);refine QA 6 (fun K1 hK1=>?_);simp -implicitDefEqProofs only [Qc,Qd,OpW,aop,AS.ev,↓reduceIte,Qg,Qw,Qv,aBin,aLen,goInt,ti50,un50,ZG,Q7,t1,t3,c4,seval];refine hK1 _ ?_;clear hK1
  (try simp only [Qq8,Qrg])
  simp -implicitDefEqProofs only [Qc,Qd,OpW,aop,AS.ev,↓reduceIte,Qg,Qw,Qv,ti50,ZG,Q7,t1,seval]
  repeat (first|(((with_reducible refine FunW.ret (FunW.call ca) ?_));simp -implicitDefEqProofs only [Qc,Qd,OpW,QE,aop,AS.ev,↓reduceIte,seval])|(with_reducible refine Ql ?_)|((with_reducible refine hK _ ?_);clear hK))
  simp only [QF,Qn,Qr,upd,↓reduceIte,Qq5,Qq9];first|refine Qi (htake _ _) (.keep (.v _)) ⟨by rw [R],rfl⟩|refine Qi List.take_length (.keep (.v _)) ⟨by rw [R],rfl⟩
 ·by_cases k0:g.op=0
  ·have c:=QbD ⟨0,g.name,g.args⟩
   rw [show G.atom ⟨0,g.name,g.args⟩=AV.agg [.v (.string g.name),.sl 4 (avs g.args) none] from rfl] at c
   have R:QU g=QP ⟨0,g.name,g.args⟩:=by
    rw [QU,if_pos k0]
   have z0:(g.op==0)=true:=by simp [k0]
   repeat (first|((first|(with_reducible (first|refine Qa fun K E hK hE=>?_|refine Qz c ?_)));simp -implicitDefEqProofs only [Qc,Qd,OpW,QE,aop,undef,AS.ev,Qq,AV.Qp8,↓reduceIte,Qg,Qw,Qv,aBin,Xf,Xu,ti3,ti9,ti50,X4,Qb8,ZG,zi72,sp72,Q7,z0,seval])|(with_reducible (first|refine Qj ?_|refine Ql ?_|refine Qu ?_|refine Qy ?_))|((with_reducible refine hK _ ?_);clear hK)|(refine Qh rfl ?_;simp only [↓reduceIte]))
   simp only [QF,Qn,Qr,upd,↓reduceIte,Qq5,Qq9];first|refine Qi (htake _ _) (.keep (.v _)) ⟨by rw [R],rfl⟩|refine Qi List.take_length (.keep (.v _)) ⟨by rw [R],rfl⟩
  have z0:(g.op==0)=false:=by simp [k0]
  by_cases k1:g.op=1
  ·have z1:(g.op==1)=true:=by simp [k1]
   have gn:QaD g.op=0:=by simp [QaD,k1]
   repeat (first|((first|(with_reducible (first|refine Qa fun K E hK hE=>?_|refine Qk fun K E hK hE=>?_)));simp -implicitDefEqProofs only [Qc,Qd,OpW,aop,AS.ev,↓reduceIte,Qg,Qw,Qv,aBin,ti3,X4,Q7,z0,z1,seval])|(with_reducible (first|refine Qf fun K hK=>?_|refine Qj ?_|refine Qm ?_|refine Qb ?_|refine Qo ?_))|((with_reducible refine hK _ ?_);clear hK)|(refine Qh rfl ?_;simp only [↓reduceIte,Qq3]))
   exact ⟨k0,rfl,by rw [gn];rfl,rfl⟩
  have z1:(g.op==1)=false:=by simp [k1]
  by_cases k2:g.op=2
  ·have z2:(g.op==2)=true:=by simp [k2]
   have gn:QaD g.op=0:=by simp [QaD,k2]
   repeat (first|((first|(with_reducible (first|refine Qa fun K E hK hE=>?_|refine Qk fun K E hK hE=>?_)));simp -implicitDefEqProofs only [Qc,Qd,OpW,aop,AS.ev,↓reduceIte,Qg,Qw,Qv,aBin,ti3,X4,Q7,z0,z1,z2,seval])|(with_reducible (first|refine Qf fun K hK=>?_|refine Qj ?_|refine Qb ?_|refine Qo ?_))|((with_reducible refine hK _ ?_);clear hK)|(refine Qh rfl ?_;simp only [↓reduceIte,Qq3]))
   exact ⟨k0,rfl,by rw [gn];rfl,rfl⟩
  have z2:(g.op==2)=false:=by simp [k2]
  by_cases k11:g.op=11
  ·have z11:(g.op==11)=true:=by simp [k11]
   have gn:QaD g.op=1:=by simp [QaD,k11]
   repeat (first|((first|(with_reducible (first|refine Qa fun K E hK hE=>?_|refine Qk fun K E hK hE=>?_)));simp -implicitDefEqProofs only [Qc,Qd,OpW,aop,AS.ev,↓reduceIte,Qg,Qw,Qv,aBin,ti3,X4,Q7,z0,z1,z2,z11,seval])|(with_reducible (first|refine Qf fun K hK=>?_|refine Qj ?_|refine Qm ?_|refine Qb ?_|refine Qo ?_))|((with_reducible refine hK _ ?_);clear hK)|(refine Qh rfl ?_;simp only [↓reduceIte,Qq3]))
   exact ⟨k0,rfl,by rw [gn];rfl,rfl⟩
  have z11:(g.op==11)=false:=by simp [k11]
  by_cases k12:g.op=12
  ·have z12:(g.op==12)=true:=by simp [k12]
   have gn:QaD g.op=1:=by simp [QaD,k12]
   repeat (first|((first|(with_reducible (first|refine Qa fun K E hK hE=>?_|refine Qk fun K E hK hE=>?_)));simp -implicitDefEqProofs only [Qc,Qd,OpW,aop,AS.ev,↓reduceIte,Qg,Qw,Qv,aBin,ti3,X4,Q7,z0,z1,z2,z11,z12,seval])|(with_reducible (first|refine Qf fun K hK=>?_|refine Qj ?_|refine Qb ?_|refine Qo ?_))|((with_reducible refine hK _ ?_);clear hK)|(refine Qh rfl ?_;simp only [↓reduceIte,Qq3]))
   exact ⟨k0,rfl,by rw [gn];rfl,rfl⟩
  have z12:(g.op==12)=false:=by simp [k12]
  have gn:QaD g.op=2:=by simp [QaD,k1,k2,k11,k12]
  repeat (first|((first|(with_reducible (first|refine Qa fun K E hK hE=>?_|refine Qk fun K E hK hE=>?_)));simp -implicitDefEqProofs only [Qc,Qd,OpW,aop,AS.ev,↓reduceIte,Qg,Qw,Qv,aBin,ti3,X4,Q7,z0,z1,z2,z11,z12,seval])|(with_reducible (first|refine Qf fun K hK=>?_|refine Qj ?_|refine Qm ?_|refine Qb ?_|refine Qo ?_))|((with_reducible refine hK _ ?_);clear hK)|(refine Qh rfl ?_;simp only [↓reduceIte,Qq3]))
  exact ⟨k0,rfl,by rw [gn];rfl,rfl⟩
theorem Qg2 {P:Pz} {s:PS} (hW:Wst P.all s) {h:AH} (H:P.ok h) (hN:P.all.length≤1000000) (hD:TkOk P.all):QJ Tryd.prog 55 [.ptr P.i 0 0] (ph h P s) (LQ h P (Qap s)):=by
 rw [← QmT (fun hk=>hD.nam _ (Qmg hW) hk)]
 unfold QlO
 have rest:=Qla hW H hN hD
 have fin:(∀ L:AH,QJ Tryd.prog 72 [.ptr P.i 0 0] (ph (h++L) P s) fun o h'=>o = .ret (.tup [zg,.b false])∧h'=ph (h++L) P s)→_:=fun q=>rest fun L=>by
  have:=q L
  simpa only [Q1 H] using this
 by_cases hk:s.tk.kind=1
 ·by_cases h0:s.tk.text.toList=[116,114,117,101]
  ·rw [if_pos ⟨hk,h0⟩];exact Qcb hW H hN hD fun L=>Qmw hW (H.app L) hN hD hk h0
  ·rw [if_neg (fun q=>h0 q.2)]
   by_cases h1:s.tk.text.toList=[102,97,105,108]
   ·rw [if_pos ⟨hk,h1⟩];exact Qcb hW H hN hD fun L=>Qmt hW (H.app L) hN hD hk h1
   ·rw [if_neg (fun q=>h1 q.2)]
    by_cases h2:s.tk.text.toList=[105,110,116]
    ·rw [if_pos ⟨hk,h2⟩];exact Qcb hW H hN hD fun L=>QnB hW (H.app L) hN hD hk h2
    ·rw [if_neg (fun q=>h2 q.2)]
     by_cases h3:s.tk.text.toList=[103,114,111,117,110,100]
     ·rw [if_pos ⟨hk,h3⟩];exact Qcb hW H hN hD fun L=>QiH hW (H.app L) hN hD hk h3
     ·rw [if_neg (fun q=>h3 q.2)]
      exact fin fun L=>Qmu hW (H.app L) hN hD hk h0 h1 h2 h3
 ·rw [if_neg (fun q=>hk q.1),if_neg (fun q=>hk q.1),if_neg (fun q=>hk q.1),if_neg (fun q=>hk q.1)]
  exact fin fun L=>QnC hW (H.app L) hN hD hk
def gsz:List G→Nat
 |[]=>0
 |g::l=>szs g.args+2+gsz l
def lvG (vw:Nat→G→AV) (n:Nat):List G→List AV
 |[]=>[]
 |g::l=>vw (n+1) g::lvG vw (n+szs g.args+2) l
def layG (tt:TypeId) (n:Nat):List G→AH
 |[]=>[]
 |g::l=>.dead::(layA tt (n+1) g.args++(.dead::layG tt (n+szs g.args+2) l))
theorem Y9:∀ l m:List G,gsz (l++m)=gsz l+gsz m
 |[],m=>by simp [gsz]
 |g::l,m=>by rw [List.cons_append,gsz,gsz,Y9 l m];omega
theorem Yn (vw:Nat→G→AV):∀ (n:Nat) (l:List G),(lvG vw n l).length=l.length
 |_,[]=>rfl
 |n,g::l=>by rw [lvG,List.length_cons,Yn];rfl
theorem QN (tt:TypeId):∀ (n:Nat) (l:List G),(layG tt n l).length=gsz l
 |_,[]=>rfl
 |n,g::l=>by rw [layG,List.length_cons,List.length_append,List.length_cons,XZ,QN,gsz];omega
theorem Qgd (vw:Nat→G→AV):∀ (n:Nat) (l:List G) (g:G),lvG vw n (l++[g])=lvG vw n l++[vw (n+gsz l+1) g]
 |n,[],g=>by simp [lvG,gsz]
 |n,a::l,g=>by
  rw [List.cons_append,lvG,lvG,Qgd vw _ l g,gsz,List.cons_append]
  rw [show n+szs a.args+2+gsz l+1=n+(szs a.args+2+gsz l)+1 by omega]
theorem Qd5 (tt:TypeId):∀ (n:Nat) (l:List G) (g:G),layG tt n (l++[g])=layG tt n l++(.dead::(layA tt (n+gsz l+1) g.args++[.dead]))
 |n,[],g=>by simp [layG,gsz]
 |n,a::l,g=>by
  rw [List.cons_append,layG,layG,Qd5 tt _ l g,gsz]
  rw [show n+szs a.args+2+gsz l+1=n+(szs a.args+2+gsz l)+1 by omega]
  simp only [Qrr,List.append_assoc]
theorem Qhd {tt:TypeId}:∀ {m m':Nat} (l:List G) (j:Nat) (b b':AB),(layG tt m l)[j]? = some b→(layG tt m' l)[j]? = some b'→b.live=false→b' = .dead
 |m,m',[],j,b,b',h1,h2,hl=>by simp [layG] at h1
 |m,m',g::l,j,b,b',h1,h2,hl=>by
  rw [layG] at h1 h2
  cases j with
  |zero=>cases h1;cases h2;rfl
  |succ j =>
   rw [List.getElem?_cons_succ,List.getElem?_append,XZ] at h1 h2
   split at h1
   ·rename_i hj
    rw [if_pos hj] at h2
    exact Qha g.args j b b' h1 h2 hl
   ·rename_i hj
    rw [if_neg hj] at h2
    cases hk:j - szs g.args with
    |zero=>rw [hk] at h1 h2;cases h1;cases h2;rfl
    |succ k =>
     rw [hk,List.getElem?_cons_succ] at h1 h2
     exact Qhd l k b b' h1 h2 hl
theorem Qi4 {n:Nat} {τ:Nat→Nat} {h2:AH} {tt:TypeId}:∀ {m m':Nat} (l:List G),Sh n τ h2 m m' (gsz l)→∀ (j:Nat) b b',(layG tt m l)[j]? = some b→(layG tt m' l)[j]? = some b'→PkB n τ h2 b b'
 |m,m',[],H,j,b,b',h1,h3=>by simp [layG] at h1
 |m,m',g::l,H,j,b,b',h1,h3=>by
  rw [gsz] at H
  rw [layG] at h1 h3
  cases j with
  |zero=>cases h1;cases h3;exact .inl rfl
  |succ j =>
   rw [List.getElem?_cons_succ,List.getElem?_append,XZ] at h1 h3
   split at h1
   ·rename_i hj
    rw [if_pos hj] at h3
    have hs:=H.sub (k:=1) (l:=szs g.args) (a:=m+1) (b:=m'+1) (by omega) rfl rfl
    exact Qdy g.args (Qix hs) hs j b b' h1 h3
   ·rename_i hj
    rw [if_neg hj] at h3
    cases hk:j - szs g.args with
    |zero=>rw [hk] at h1 h3;cases h1;cases h3;exact .inl rfl
    |succ k =>
     rw [hk,List.getElem?_cons_succ] at h1 h3
     exact Qi4 l (H.sub (k:=szs g.args+2) (l:=gsz l) (a:=m+szs g.args+2) (b:=m'+szs g.args+2) (by omega) (by omega) (by omega)) k b b' h1 h3
theorem QnP {n:Nat} {τ:Nat→Nat} {h2:AH} {vw:Nat→G→AV} {w:Nat} (hw:∀ m g,(vw m g).cells.length=w) (hp:∀ m m' g,Sh n τ h2 m m' (szs g.args)→∀ (j:Nat) a a',(vw m g).cells[j]? = some a→(vw m' g).cells[j]? = some a'→Pk n τ h2 a a') :
  ∀ {m m':Nat} (l:List G),Sh n τ h2 m m' (gsz l)→(∀ y∈lvG vw m' l,y.cells.length=w)∧(flat (lvG vw m' l)).length=(flat (lvG vw m l)).length∧∀ (j:Nat) a a',(flat (lvG vw m l))[j]? = some a→(flat (lvG vw m' l))[j]? = some a'→Pk n τ h2 a a'
 |m,m',[],H=>⟨by simp [lvG],rfl,fun j a a' h1=>by simp [lvG,flat] at h1⟩
 |m,m',g::l,H=>by
  rw [gsz] at H
  have h1:=hp (m+1) (m'+1) g (H.sub (k:=1) (l:=szs g.args) (by omega) rfl rfl)
  obtain ⟨h3,h4,h5⟩:=QnP hw hp l (H.sub (k:=szs g.args+2) (l:=gsz l) (a:=m+szs g.args+2) (b:=m'+szs g.args+2) (by omega) (by omega) (by omega))
  refine ⟨fun y hy=>?_,?_,fun j a a' ha hb=>?_⟩
  ·rw [lvG,List.mem_cons] at hy
   rcases hy with rfl|hy
   ·exact hw _ _
   ·exact h3 y hy
  ·rw [lvG,lvG,Q2,Q2,List.length_append,List.length_append,h4,hw,hw]
  ·rw [lvG,Q2,List.getElem?_append,hw] at ha hb
   split at ha
   ·rename_i hj;rw [if_pos hj] at hb;exact h1 j a a' ha hb
   ·rename_i hj;rw [if_neg hj] at hb;exact h5 _ a a' ha hb
theorem QpX {tt:TypeId} {A N:AH} {n:Nat} (hn:A.length=n) (hb:∀ b∈A,b.Below n) (g:Nat) (l:List G) {vw:Nat→G→AV} {w:Nat} (hw:∀ m g,(vw m g).cells.length=w)
  (hp:∀ (τ:Nat→Nat) (h2:AH) m m' g,Sh n τ h2 m m' (szs g.args)→∀ (j:Nat) a a',(vw m g).cells[j]? = some a→(vw m' g).cells[j]? = some a'→Pk n τ h2 a a') (own:Option Nat) (hN:At N g (layG tt (n+g) l)) :
  Pack n (tauG n g) (A++N) (A++layG tt n l)∧Pk n (tauG n g) (A++layG tt n l) (.sl w (lvG vw (n+g) l) own) (.sl w (lvG vw n l) none):=by
 have hsh:=shG (L':=layG tt n l) hn g
 rw [QN] at hsh
 obtain ⟨h1,h2,h3⟩:=QnP hw (hp _ _) l hsh
 exact ⟨QfD hn hb (by rw [QN,QN]) hN (fun h j b b' h1 h2=>Qi4 l hsh j b b' h1 h2) (fun j b b' h1 h2 hl=>Qhd l j b b' h1 h2 hl),.sl (by rw [Yn,Yn]) h1 h2 h3⟩
theorem Qof (m:Nat) (g:G):(gv m g).cells.length=3:=rfl
theorem QpV {n:Nat} {τ:Nat→Nat} {h2:AH} {m m':Nat} {g:G} (H:Sh n τ h2 m m' (szs g.args)):∀ (j:Nat) a a',(gv m g).cells[j]? = some a→(gv m' g).cells[j]? = some a'→Pk n τ h2 a a':=fun j a a' h1 h3=>by
 match j,h1,h3 with
 |0,h1,h3=>cases h1;cases h3;exact .keep (.v _)
 |1,h1,h3=>cases h1;cases h3;exact .keep (.v _)
 |2,h1,h3=>cases h1;cases h3;exact Qjg H
 |j+3,h1,h3=>simp [gv,AV.cells] at h1
def av (n:Nat) (g:G):AV:=.agg [.v (.string g.name),lsl n g.args]
theorem Qn9 (m:Nat) (g:G):(av m g).cells.length=2:=rfl
theorem QpB {n:Nat} {τ:Nat→Nat} {h2:AH} {m m':Nat} {g:G} (H:Sh n τ h2 m m' (szs g.args)):∀ (j:Nat) a a',(av m g).cells[j]? = some a→(av m' g).cells[j]? = some a'→Pk n τ h2 a a':=fun j a a' h1 h3=>by
 match j,h1,h3 with
 |0,h1,h3=>cases h1;cases h3;exact .keep (.v _)
 |1,h1,h3=>cases h1;cases h3;exact Qjg H
 |j+2,h1,h3=>simp [av,AV.cells] at h1
theorem QeU (g:G) {n:Nat} {h:AH} (hA:At h n (layA 54 n g.args)):QJ Tryd.prog 56 [gv n g] h fun o h'=>o = .ret (.b (QU g))∧h'=h:=by
 refine Qe8 (args':=[g.goal]) rfl (fun j a a' h1 h2=>?_) (QeW g [])
 match j,h1,h2 with
 |0,h1,h2 =>
  cases h1;cases h2
  refine .agg rfl fun j a a' h1 h2=>?_
  match j,h1,h2 with
  |0,h1,h2=>cases h1;cases h2;exact .keep (.v _)
  |1,h1,h2=>cases h1;cases h2;exact .keep (.v _)
  |2,h1,h2=>cases h1;cases h2;exact Qec (Nat.zero_le _) hA
  |j+3,h1,h2=>simp at h1
 |j+1,h1,h2=>simp at h1
theorem QeT (g:G) {n:Nat} {h:AH} (hA:At h n (layA 54 n g.args)):QJ Tryd.prog 62 [av n g] h fun o h'=>o = .ret (.b (QP g))∧h'=h:=by
 refine Qe8 (args':=[g.atom]) rfl (fun j a a' h1 h2=>?_) (QbD g [])
 match j,h1,h2 with
 |0,h1,h2 =>
  cases h1;cases h2
  refine .agg rfl fun j a a' h1 h2=>?_
  match j,h1,h2 with
  |0,h1,h2=>cases h1;cases h2;exact .keep (.v _)
  |1,h1,h2=>cases h1;cases h2;exact Qec (Nat.zero_le _) hA
  |j+2,h1,h2=>simp at h1
 |j+1,h1,h2=>simp at h1
end Go.Proofs.YticgcpebdldbgaaDoor.Ab
set_option maxRecDepth 4000
namespace Go.Proofs.YticgcpebdldbgaaDoor.Ab
open Go.Proofs
def GsQ (h:AH) (P:Pz) (vw:Nat→G→AV) (w:Nat):PR (List G)→AOut→AH→Prop
 | .ok l s,o,h'=>o = .ret (.sl w (lvG vw h.length l) none)∧h'=ph h P s++layG 54 h.length l
 | .err p e,o,h'=>o = .panic (Fl p e)∧∃ s,h'=ph h P s
def GsC (h:AH) (P:Pz) (vw:Nat→G→AV) (w:Nat):PR (List G)→AOut→AH→Prop
 | .ok l s,o,h'=>∃ own N,o = .ret (.sl w (lvG vw (h.length+1) l) own)∧h'=ph h P s++N∧At N 1 (layG 54 (h.length+1) l)
 | .err p e,o,h'=>o = .panic (Fl p e)∧∃ s,h'=ph h P s
theorem Qi0 {P:Pz} {f:FuncId} {args:List AV} {h:AH} {s:PS} (H:P.ok h) {vw:Nat→G→AV} {w:Nat} (hw:∀ m g,(vw m g).cells.length=w)
  (hp:∀ (τ:Nat→Nat) (h2:AH) m m' g,Sh h.length τ h2 m m' (szs g.args)→∀ (j:Nat) a a',(vw m g).cells[j]? = some a→(vw m' g).cells[j]? = some a'→Pk h.length τ h2 a a') {r:PR (List G)} (C:QJ Tryd.prog f args (ph h P s) (GsC h P vw w r)):QJ Tryd.prog f args (ph h P s) (GsQ h P vw w r):=by
 refine Qak C fun hb0 o h' hQ=>?_
 cases r with
 |err p e=>exact .inl hQ
 |ok t s2 =>
  have hb:∀ b∈ph h P s2,b.Below h.length:=fun b hb=>by
   rw [QS] at hb0
   obtain ⟨k,hk⟩:=Y7 hb
   rcases Qbs H (s0:=s) hk with h1|h1
   ·exact hb0 k b h1
   ·exact h1
  rw [QS]
  obtain ⟨own,N,rfl,rfl,hN⟩:=hQ
  obtain ⟨K,hk⟩:=QpX (QS h P s2) hb 1 t hw hp own hN
  exact .inr ⟨_,_,_,_,rfl,K,hk,rfl,rfl⟩
section
variable {P:Pz} {s:PS} (hW:Wst P.all s) {h:AH} (H:P.ok h) (hN:P.all.length≤1000000) (hD:TkOk P.all) (L:AH)
include hW H hN
theorem Qep (n m:Int) (hm:¬ m≤n):QJ Tryd.prog 19 [.ptr P.i 0 0,.i n,.i m] (ph h P s++L) fun o h'=>o = .ret (.tup [])∧h'=ph h P s++L:=by
 have:=Qnt hW (H.app L) hN n m hm
 simpa only [Q1 H] using this
theorem Qgy (n m:Int) (hm:m≤n):QJ Tryd.prog 19 [.ptr P.i 0 0,.i n,.i m] (ph h P s++L) fun o h'=>o = .panic (Fl s.tk.pos 6)∧h'=ph h P s++L:=by
 have:=QoD hW (H.app L) hN n m hm
 simpa only [Q1 H] using this
include hD
theorem Qoe {g:G} {s2:PS} (e:Qap s = .ok g s2) {k:Nat} (hk:k=h.length+L.length):QJ Tryd.prog 55 [.ptr P.i 0 0] (ph h P s++L) fun o h'=>o = .ret (gv k g)∧h'=ph h P s2++(L++layA 54 k g.args):=by
 have:=Qg2 hW (H.app L) hN hD
 rw [e,Q1 H] at this
 subst hk
 exact this.mono fun o h' q=>by simpa only [LQ,Q1 H,QrQ,List.append_assoc] using q
theorem QmV {p c:Int} (e:Qap s = .err p c):QJ Tryd.prog 55 [.ptr P.i 0 0] (ph h P s++L) fun o h'=>o = .panic (Fl p c)∧∃ s2:PS,h'=ph h P s2++L:=by
 have:=Qg2 hW (H.app L) hN hD
 rw [e,Q1 H] at this
 exact this.mono fun o h' q=>by simpa only [LQ,Q1 H] using q
end
section
variable {P:Pz} {s:PS} (hW:Wst P.all s) {h:AH} (H:P.ok h) (hN:P.all.length≤1000000) (hD:TkOk P.all)
include hW H hN hD
theorem Qlb (most:Nat) (hmost:most≤100):QJ Tryd.prog 29 [.ptr P.i 0 0,.i (most:Nat)] (ph h P s) (GsC h P gv 3 (Yo most s)):=by
 have f1:=QS h P
 have f3:=Xr h P
 have f4:=XY h P
 have f5:=Xe h P
 have f6:=XC h P
 generalize hR:Yo most s=R
 rw [Yo] at hR
 refine Qe Tryd.func29 rfl Tryd.call29 Tryd.ntmps29 (congrArg Array.toList Tryd.results29) (by simp) ?_
 repeat (first|(((with_reducible refine Qa fun K E hK hE=>?_));simp -implicitDefEqProofs only [Xb,Xh,Qd,OpW,aop,AS.ev,Q8,Qch,Nat.reduceLT])|(with_reducible refine Qj ?_)|((with_reducible refine hK _ ?_);clear hK))
 refine ZX 5 52 3 rfl ?_
 obtain ⟨I,hI⟩:∃ I:Nat→AS→Prop,I=fun m' s=>∃ (l:List G) (s2:PS) (X:AH),m'=s2.toks.length∧Wst P.all s2∧l.length≤most∧(∃ k,s2.toks.length+1≤k∧YB most k l s2=R)∧X.length=gsz l∧At X 0 (layG 54 (h.length+1) l)∧s.tm 0 = .ptr P.i 0 0∧s.tm 1 = .i (most:Nat)∧s.tm 5 = .sl 3 (lvG gv (h.length+1) l) (some h.length) ∧
  s.h=ph h P s2++(.grow 52 3 l.length::X):=⟨_,rfl⟩;refine QO I ?_ (m:=s.toks.length) ?_
 ·intro m' s hs;rw [hI] at hs;obtain ⟨tm,hp⟩:=s;dsimp only at hs;obtain ⟨l,s2,X,rfl,hW2,hlm,⟨k,hk,hR2⟩,hX,hAt,t0,t1,t5,rfl⟩:=hs
  have hk1:k=k - 1+1:=by omega
  have hi2:=ph_i H s2
  simp only [pB] at hi2
  have elen:(lvG gv (h.length+1) l).length=l.length:=Yn gv (h.length+1) l
  by_cases hm:most≤l.length
  ·have hRR:R = .err s2.tk.pos 6:=by rw [← hR2,hk1,YB,if_pos hm]
   subst hRR
   have cr:=fun L=>Qgy hW2 H hN L (l.length:Nat) (most:Nat) (by omega)
   repeat (first|((first|(with_reducible (first|refine Qa fun K E hK hE=>?_|refine FunW.pan (FunW.call (cr _)) ?_)));simp -implicitDefEqProofs only [Qc,Qd,OpW,QE,aop,AS.ev,↓reduceIte,Qg,aLen,goInt,un32,QI,Qs,t0,t1,t5,hi2,elen,seval])|(with_reducible (first|refine Qj ?_|refine hE _ _ ?_|refine QM ?_|refine Q6 ?_)))
   exact QT H s s2 _ _ _ ⟨rfl,_,rfl⟩
  ·have cr:=fun L=>Qep hW2 H hN L (l.length:Nat) (most:Nat) (by omega)
   have cn:=nextL hW2 (XS H s2)
   have e1:=Tk.Qp9 s2.tk
   have e2:=Tk.Qqa s2.tk
   have x1:∀ (Y:AH),(X++Y)[X.length]? = Y[0]? := fun Y=>Z4 _ _
   have x2:∀ (Y:AH) k,(X++Y)[X.length+k]? = Y[k]? := fun Y k=>hget _ _ _
   have x3:∀ (Y:AH) y,(X++Y).set X.length y=X++Y.set 0 y:=fun Y y=>QbK _ _ _
   have x4:∀ (Y:AH) k y,(X++Y).set (X.length+k) y=X++Y.set k y:=fun Y k y=>hset _ _ _ _
   cases hr:Qap s2 with
   |err p e =>
    have hRR:R = .err p e:=by rw [← hR2,hk1,YB,if_neg hm,hr];rfl
    subst hRR
    have cg:=fun L=>QmV hW2 H hN hD L hr
    repeat (first|((first|(with_reducible (first|refine Qa fun K E hK hE=>?_|refine FunW.ret (FunW.call (cr _)) ?_|refine FunW.ret (FunW.call (cn _)) ?_|refine FunW.panE (FunW.call (cg _)) fun r=>?_)));simp -implicitDefEqProofs only [Qc,Qd,OpW,QE,aop,undef,AS.ev,AV.Qp8,↓reduceIte,Qg,QB,Qp,aLen,goInt,un32,ti60,zi60,QI,Qs,t0,t1,t5,hi2,elen,e1,e2,f1,f4,f6,x1,x3,seval])|(with_reducible refine Qj ?_)|((with_reducible refine hK _ ?_);clear hK)|(with_reducible (first|refine hE _ _ ?_|refine QM ?_|refine Q6 ?_)))
    exact QT H s r _ _ _ ⟨rfl,_,rfl⟩
   |ok g s3 =>
    have hW3:Wst P.all s3:=Kp.Ps.ok (n:=wdOf P.all) (Kp.goalT_ps trivial) hW2 hr
    have hl3:=(Qg1 s2 hW2.wf g s3 hr).2
    have hi3:=ph_i H s3
    simp only [pB] at hi3
    have cg:=fun c d=>Qoe hW2 H hN hD (c::(X++[d])) hr (k:=h.length+1+gsz l+1) (by simp only [Qrc,QrQ,Qrd,hX];omega)
    simp only [Qrr,List.append_assoc,Qrq] at cg
    have cR:∀ (c d:AB) (Y:AH),QJ Tryd.prog 56 [gv (h.length+1+gsz l+1) g] (ph h P s3++(c::(X++(d::(layA 54 (h.length+1+gsz l+1) g.args++Y))))) fun o h'=>o = .ret (.b (QU g))∧h'=ph h P s3++(c::(X++(d::(layA 54 (h.length+1+gsz l+1) g.args++Y)))):=fun c d Y=>QeU g (by
     have:=At.base (At.mid (c::(X++[d])) (layA 54 (h.length+1+gsz l+1) g.args) Y (n:=1+gsz l+1) (by simp only [Qrc,QrQ,Qrd,hX];omega)) (QS h P s3)
     rw [show h.length+(1+gsz l+1)=h.length+1+gsz l+1 by omega] at this
     simpa only [Qrr,List.append_assoc,Qrq] using this)
    have e3:(gv (h.length+1+gsz l+1) g).cells=[.i g.op,.v (.string g.name),lsl (h.length+1+gsz l+1) g.args]:=rfl
    have e4:(gv (h.length+1+gsz l+1) g).isAgg=true:=rfl
    have y1:∀ (Y:AH),(layA 54 (h.length+1+gsz l+1) g.args++Y)[(layA 54 (h.length+1+gsz l+1) g.args).length]? = Y[0]? := fun Y=>Z4 _ _
    have y2:∀ (Y:AH) y,(layA 54 (h.length+1+gsz l+1) g.args++Y).set (layA 54 (h.length+1+gsz l+1) g.args).length y=layA 54 (h.length+1+gsz l+1) g.args++Y.set 0 y:=fun Y y=>QbK _ _ _
    cases hg:QU g with
    |false =>
     have hRR:R = .err s2.tk.pos 6:=by rw [← hR2,hk1,YB,if_neg hm,hr];show (if QU g=false then _ else _)=_;rw [if_pos hg]
     subst hRR
     have cf:=Yw s2.tk 6
     rw [hg] at cR
     repeat (first|((first|(with_reducible (first|refine Qa fun K E hK hE=>?_|refine FunW.ret (FunW.call (cr _)) ?_|refine FunW.ret (FunW.call (cn _)) ?_|refine FunW.ret (FunW.call (cg _ _)) ?_|refine FunW.ret (FunW.call (cR _ _ _)) ?_)));simp -implicitDefEqProofs only [Qc,Qd,OpW,QE,aop,undef,AS.ev,AV.Qp8,↓reduceIte,Qg,Qw,Qv,QB,Qp,aLen,goInt,un32,ti52,zi52,ti60,zi60,QI,Qs,t0,t1,t5,hi2,elen,e1,e2,e3,e4,f1,f4,f6,x1,x2,x3,x4,y1,y2,QR,List.append_assoc,seval])|(with_reducible (first|refine Qf fun K hK=>?_|refine Qj ?_))|((with_reducible refine hK _ ?_);clear hK)|(refine Qh rfl ?_;simp only [↓reduceIte]))
     refine Q9 4 [(0,1),(1,0),(2,0),(3,0)] mixed rfl rfl rfl (by kernel_rfl) (fun v h'=>v=Fl s2.tk.pos 6∧∃ L,h'=ph h P s3++L) ?_ ?_
     ·rintro tm v h' ⟨rfl,L,rfl⟩
      exact QT H s s3 _ _ _ ⟨rfl,_,rfl⟩
     ·simp -implicitDefEqProofs only [Qc,Qd,aop,AS.ev,↓reduceIte,Qg,Qw,Qv,ti60,QI,Qs,t0,hi3,e1,e2,f4,x1,seval]
      exact fun _=>(FunW.call (cf _ _)).mono (by rintro _ _ ⟨rfl,rfl⟩;exact ⟨_,rfl,rfl,_,rfl⟩)
    |true =>
     rw [hg] at cR
     have hm1:(l.length+1) * 48≤140737488355328:=by omega
     have hm2:l.length+1≤maxLen:=by simp only [maxLen];omega
     have hR3:(if s3.is YV=true then YB most (k - 1) (l++[g]) s3.nx else PR.ok (l++[g]) s3)=R:=by
      rw [← hR2,hk1,YB,if_neg hm,hr]
      show _=(if QU g=false then _ else _)
      rw [hg];rfl
     have hX2:∀ c d:AB,(X++(c::(layA 54 (h.length+1+gsz l+1) g.args++[d]))).length=gsz (l++[g]):=fun c d=>by
      simp only [QrQ,Qrc,Qrd,XZ,hX,Y9,gsz];try omega
     have hA2:∀ c d:AB,At (X++(c::(layA 54 (h.length+1+gsz l+1) g.args++[d]))) 0 (layG 54 (h.length+1) (l++[g])):=fun c d=>by
      rw [Qd5]
      refine At.both (hAt.app _) (At.cons (fun q=>by cases q) ?_)
      rw [QN]
      have:=At.mid (X++[c]) (layA 54 (h.length+1+gsz l+1) g.args) [d] (n:=0+gsz l+1) (by simp only [QrQ,Qrc,Qrd,hX];omega)
      refine At.both ?_ (At.cons (fun q=>by cases q) (At.nil _ _))
      simpa only [List.append_assoc,Qrr,Qrq] using this
     have elv:=Qgd gv (h.length+1) l g
     cases hc:s3.is YV with
     |true =>
      have cs:=fun L=>Zq hW3 H hN L {data:=#[44]} (by rw [Lib.toList_data];exact hc)
      rw [hc,if_pos rfl] at hR3
      have hln3:=XJ hW3.wf (PS.Qqb hc)
      repeat (first|((first|(with_reducible (first|refine Qa fun K E hK hE=>?_|refine FunW.ret (FunW.call (cr _)) ?_|refine FunW.ret (FunW.call (cn _)) ?_|refine FunW.ret (FunW.call (cg _ _)) ?_|refine FunW.ret (FunW.call (cR _ _ _)) ?_|refine FunW.ret (FunW.call (cs _)) ?_)));simp -implicitDefEqProofs only [Qc,Qd,OpW,QE,aop,undef,AS.ev,AV.Qp8,↓reduceIte,Qg,Qw,Qv,QB,Qp,QH,aLen,XD,Yb,goInt,ei32,ai32,un32,ti52,zi52,ti60,zi60,QI,Qs,t0,t1,t5,hi2,hi3,elen,e1,e2,e3,e4,f1,f3,f4,f5,f6,x1,x2,x3,x4,y1,y2,QR,List.append_assoc,hm1,hm2,seval])|(with_reducible (first|refine Qf fun K hK=>?_|refine Qj ?_|refine Qm ?_|refine Qb ?_|refine Qo ?_))|((with_reducible refine hK _ ?_);clear hK)|(refine Qh rfl ?_;simp only [↓reduceIte,Qq3]))
      refine Xi.mk (m':=s3.nx.toks.length) (by omega) ?_
      rw [hI]
      refine ⟨l++[g],s3.nx,X++(.cells 60 3 [s2.tk.av]::(layA 54 (h.length+1+gsz l+1) g.args++[.cells 52 3 [gv (h.length+1+gsz l+1) g]])),rfl,hW3.nx,by simp;omega,⟨k - 1,by omega,hR3⟩,hX2 _ _,hA2 _ _,t0,t1,?_,?_⟩
      ·rw [elv];rfl
      ·rw [List.length_append];rfl
     |false =>
      have cs:=fun L=>ZS hW3 H hN L {data:=#[44]} (by rw [Lib.toList_data];exact hc)
      rw [hc,if_neg (by simp)] at hR3
      subst hR3
      repeat (first|((first|(with_reducible (first|refine Qa fun K E hK hE=>?_|refine FunW.ret (FunW.call (cr _)) ?_|refine FunW.ret (FunW.call (cn _)) ?_|refine FunW.ret (FunW.call (cg _ _)) ?_|refine FunW.ret (FunW.call (cR _ _ _)) ?_|refine FunW.ret (FunW.call (cs _)) ?_)));simp -implicitDefEqProofs only [Qc,Qd,OpW,QE,aop,undef,AS.ev,AV.Qp8,↓reduceIte,Qg,Qw,Qv,QB,Qp,QH,aLen,XD,Yb,goInt,ei32,ai32,un32,ti52,zi52,ti60,zi60,QI,Qs,t0,t1,t5,hi2,hi3,elen,e1,e2,e3,e4,f1,f3,f4,f5,f6,x1,x2,x3,x4,y1,y2,QR,List.append_assoc,hm1,hm2,seval])|(with_reducible (first|refine Qf fun K hK=>?_|refine Qj ?_|refine Ql ?_|refine Qm ?_|refine Qb ?_|refine Qu ?_|refine Qy ?_))|((with_reducible refine hK _ ?_);clear hK)|(refine Qh rfl ?_;simp only [↓reduceIte,Qq3]))
      simp only [QF,Qn,Qr,upd,↓reduceIte,Qq5,Qq9]
      rw [← elv]
      exact .inr ⟨_,_,rfl,rfl,At.tail (hA2 _ _)⟩
 ·rw [hI]
  exact ⟨[],s,[],rfl,hW,Nat.zero_le _,⟨_,Nat.le_refl _,hR⟩,rfl,At.nil _ _,rfl,rfl,by simp only [upd,↓reduceIte,QS];rfl,rfl⟩
end
end Go.Proofs.YticgcpebdldbgaaDoor.Ab
set_option maxRecDepth 4000
namespace Go.Proofs.YticgcpebdldbgaaDoor.Ab
open Go.Proofs
section
variable {P:Pz} {s:PS} (hW:Wst P.all s) {h:AH} (H:P.ok h) (hN:P.all.length≤1000000) (hD:TkOk P.all) (L:AH)
include hW H hN hD
theorem Qn7 {g:G} {s2:PS} (e:Zc X1 s = .ok g s2) {k:Nat} (hk:k=h.length+L.length):QJ Tryd.prog 61 [.ptr P.i 0 0] (ph h P s++L) fun o h'=>o = .ret (av k g)∧h'=ph h P s2++(L++layA 54 k g.args):=by
 have:=QgO hN hD hW (H.app L)
 rw [e,Q1 H] at this
 subst hk
 exact this.mono fun o h' q=>by simpa only [GQ,av,Q1 H,QrQ,List.append_assoc] using q
theorem QmD {p c:Int} (e:Zc X1 s = .err p c):QJ Tryd.prog 61 [.ptr P.i 0 0] (ph h P s++L) fun o h'=>o = .panic (Fl p c)∧∃ s2:PS,h'=ph h P s2++L:=by
 have:=QgO hN hD hW (H.app L)
 rw [e,Q1 H] at this
 exact this.mono fun o h' q=>by simpa only [GQ,Q1 H] using q
end
section
variable {P:Pz} {s:PS} (hW:Wst P.all s) {h:AH} (H:P.ok h) (hN:P.all.length≤1000000) (hD:TkOk P.all)
include hW H hN hD
theorem Qlc (pre:Nat) (hpre:pre≤100):QJ Tryd.prog 41 [.ptr P.i 0 0,.i (pre:Nat)] (ph h P s) (GsC h P av 2 (Yp pre s)):=by
 have f1:=QS h P
 have f3:=Xr h P
 have f4:=XY h P
 have f5:=Xe h P
 have f6:=XC h P
 generalize hR:Yp pre s=R
 rw [Yp] at hR
 refine Qe Tryd.func41 rfl Tryd.call41 Tryd.ntmps41 (congrArg Array.toList Tryd.results41) (by simp) ?_
 repeat (first|(((with_reducible refine Qa fun K E hK hE=>?_));simp -implicitDefEqProofs only [Xb,Xh,Qd,OpW,aop,AS.ev,Q8,Qch,Nat.reduceLT])|(with_reducible refine Qj ?_)|((with_reducible refine hK _ ?_);clear hK))
 refine ZX 5 72 2 rfl ?_
 obtain ⟨I,hI⟩:∃ I:Nat→AS→Prop,I=fun m' s=>∃ (l:List G) (s2:PS) (X:AH),m'=s2.toks.length∧Wst P.all s2∧l.length≤4∧(∃ k,s2.toks.length+1≤k∧YW pre k l s2=R)∧X.length=gsz l∧At X 0 (layG 54 (h.length+1) l)∧s.tm 0 = .ptr P.i 0 0∧s.tm 1 = .i (pre:Nat)∧s.tm 5 = .sl 2 (lvG av (h.length+1) l) (some h.length) ∧
  s.h=ph h P s2++(.grow 72 2 l.length::X):=⟨_,rfl⟩;refine QO I ?_ (m:=s.toks.length) ?_
 ·intro m' s hs;rw [hI] at hs;obtain ⟨tm,hp⟩:=s;dsimp only at hs;obtain ⟨l,s2,X,rfl,hW2,hlm,⟨k,hk,hR2⟩,hX,hAt,t0,t1,t5,rfl⟩:=hs
  have hk1:k=k - 1+1:=by omega
  have hi2:=ph_i H s2
  simp only [pB] at hi2
  have elen:(lvG av (h.length+1) l).length=l.length:=Yn av (h.length+1) l
  have w1:IntKind.i64.wrap ((pre:Nat)+(l.length:Nat):Int)=((pre+l.length:Nat):Int):=by rw [XR (by omega)];omega
  by_cases hm:4≤pre+l.length
  ·have hRR:R = .err s2.tk.pos 6:=by rw [← hR2,hk1,YW,if_pos hm]
   subst hRR
   have cr:=fun L=>Qgy hW2 H hN L ((pre+l.length:Nat):Int) 4 (by omega)
   repeat (first|((first|(with_reducible (first|refine Qa fun K E hK hE=>?_|refine FunW.pan (FunW.call (cr _)) ?_)));simp -implicitDefEqProofs only [Qc,Qd,OpW,QE,aop,AS.ev,↓reduceIte,Qg,aBin,aLen,goInt,un31,QI,Qs,t0,t1,t5,w1,hi2,elen,seval])|(with_reducible (first|refine Qj ?_|refine hE _ _ ?_|refine QM ?_|refine Q6 ?_)))
   exact QT H s s2 _ _ _ ⟨rfl,_,rfl⟩
  ·have cr:=fun L=>Qep hW2 H hN L ((pre+l.length:Nat):Int) 4 (by omega)
   have cn:=nextL hW2 (XS H s2)
   have e1:=Tk.Qp9 s2.tk
   have e2:=Tk.Qqa s2.tk
   have x1:∀ (Y:AH),(X++Y)[X.length]? = Y[0]? := fun Y=>Z4 _ _
   have x2:∀ (Y:AH) k,(X++Y)[X.length+k]? = Y[k]? := fun Y k=>hget _ _ _
   have x3:∀ (Y:AH) y,(X++Y).set X.length y=X++Y.set 0 y:=fun Y y=>QbK _ _ _
   have x4:∀ (Y:AH) k y,(X++Y).set (X.length+k) y=X++Y.set k y:=fun Y k y=>hset _ _ _ _
   cases hr:Zc X1 s2 with
   |err p e =>
    have hRR:R = .err p e:=by rw [← hR2,hk1,YW,if_neg hm,hr];rfl
    subst hRR
    have cg:=fun L=>QmD hW2 H hN hD L hr
    repeat (first|((first|(with_reducible (first|refine Qa fun K E hK hE=>?_|refine FunW.ret (FunW.call (cr _)) ?_|refine FunW.ret (FunW.call (cn _)) ?_|refine FunW.panE (FunW.call (cg _)) fun r=>?_)));simp -implicitDefEqProofs only [Qc,Qd,OpW,QE,aop,undef,AS.ev,AV.Qp8,↓reduceIte,Qg,QB,Qp,aBin,aLen,goInt,un31,ti60,zi60,QI,Qs,t0,t1,t5,w1,hi2,elen,e1,e2,f1,f4,f6,x1,x3,seval])|(with_reducible refine Qj ?_)|((with_reducible refine hK _ ?_);clear hK)|(with_reducible (first|refine hE _ _ ?_|refine QM ?_|refine Q6 ?_)))
    exact QT H s r _ _ _ ⟨rfl,_,rfl⟩
   |ok g s3 =>
    have hW3:Wst P.all s3:=Kp.Ps.ok (n:=wdOf P.all) (Kp.atom_ps trivial (Kp.termT_ps trivial)) hW2 hr
    have hl3:=(QfY (Qau.less (by omega)) s2 hW2.wf g s3 hr).2
    have hi3:=ph_i H s3
    simp only [pB] at hi3
    have cg:=fun c d=>Qn7 hW2 H hN hD (c::(X++[d])) hr (k:=h.length+1+gsz l+1) (by simp only [Qrc,QrQ,Qrd,hX];omega)
    simp only [Qrr,List.append_assoc,Qrq] at cg
    have cR:∀ (c d:AB) (Y:AH),QJ Tryd.prog 62 [av (h.length+1+gsz l+1) g] (ph h P s3++(c::(X++(d::(layA 54 (h.length+1+gsz l+1) g.args++Y))))) fun o h'=>o = .ret (.b (QP g))∧h'=ph h P s3++(c::(X++(d::(layA 54 (h.length+1+gsz l+1) g.args++Y)))):=fun c d Y=>QeT g (by
     have:=At.base (At.mid (c::(X++[d])) (layA 54 (h.length+1+gsz l+1) g.args) Y (n:=1+gsz l+1) (by simp only [Qrc,QrQ,Qrd,hX];omega)) (QS h P s3)
     rw [show h.length+(1+gsz l+1)=h.length+1+gsz l+1 by omega] at this
     simpa only [Qrr,List.append_assoc,Qrq] using this)
    have e3:(av (h.length+1+gsz l+1) g).cells=[.v (.string g.name),lsl (h.length+1+gsz l+1) g.args]:=rfl
    have e4:(av (h.length+1+gsz l+1) g).isAgg=true:=rfl
    have y1:∀ (Y:AH),(layA 54 (h.length+1+gsz l+1) g.args++Y)[(layA 54 (h.length+1+gsz l+1) g.args).length]? = Y[0]? := fun Y=>Z4 _ _
    have y2:∀ (Y:AH) y,(layA 54 (h.length+1+gsz l+1) g.args++Y).set (layA 54 (h.length+1+gsz l+1) g.args).length y=layA 54 (h.length+1+gsz l+1) g.args++Y.set 0 y:=fun Y y=>QbK _ _ _
    cases hg:QP g with
    |false =>
     have hRR:R = .err s2.tk.pos 6:=by rw [← hR2,hk1,YW,if_neg hm,hr];show (if QP g=false then _ else _)=_;rw [if_pos hg]
     subst hRR
     have cf:=Yw s2.tk 6
     rw [hg] at cR
     repeat (first|((first|(with_reducible (first|refine Qa fun K E hK hE=>?_|refine FunW.ret (FunW.call (cr _)) ?_|refine FunW.ret (FunW.call (cn _)) ?_|refine FunW.ret (FunW.call (cg _ _)) ?_|refine FunW.ret (FunW.call (cR _ _ _)) ?_)));simp -implicitDefEqProofs only [Qc,Qd,OpW,QE,aop,undef,AS.ev,AV.Qp8,↓reduceIte,Qg,Qw,Qv,QB,Qp,aBin,aLen,goInt,un31,ti60,zi60,QI,ti72,zi72,Qs,t0,t1,t5,w1,hi2,elen,e1,e2,e3,e4,f1,f4,f6,x1,x2,x3,x4,y1,y2,QR,List.append_assoc,seval])|(with_reducible (first|refine Qf fun K hK=>?_|refine Qj ?_))|((with_reducible refine hK _ ?_);clear hK)|(refine Qh rfl ?_;simp only [↓reduceIte]))
     refine Q9 4 [(0,1),(1,0),(2,0),(3,0)] mixed rfl rfl rfl (by kernel_rfl) (fun v h'=>v=Fl s2.tk.pos 6∧∃ L,h'=ph h P s3++L) ?_ ?_
     ·rintro tm v h' ⟨rfl,L,rfl⟩
      exact QT H s s3 _ _ _ ⟨rfl,_,rfl⟩
     ·simp -implicitDefEqProofs only [Qc,Qd,aop,AS.ev,↓reduceIte,Qg,Qw,Qv,ti60,QI,Qs,t0,hi3,e1,e2,f4,x1,seval]
      exact fun _=>(FunW.call (cf _ _)).mono (by rintro _ _ ⟨rfl,rfl⟩;exact ⟨_,rfl,rfl,_,rfl⟩)
    |true =>
     rw [hg] at cR
     have hm1:(l.length+1) * 40≤140737488355328:=by omega
     have hm2:l.length+1≤maxLen:=by simp only [maxLen];omega
     have hR3:(if s3.is YV=true then YW pre (k - 1) (l++[g]) s3.nx else PR.ok (l++[g]) s3)=R:=by
      rw [← hR2,hk1,YW,if_neg hm,hr]
      show _=(if QP g=false then _ else _)
      rw [hg];rfl
     have hX2:∀ c d:AB,(X++(c::(layA 54 (h.length+1+gsz l+1) g.args++[d]))).length=gsz (l++[g]):=fun c d=>by
      simp only [QrQ,Qrc,Qrd,XZ,hX,Y9,gsz];try omega
     have hA2:∀ c d:AB,At (X++(c::(layA 54 (h.length+1+gsz l+1) g.args++[d]))) 0 (layG 54 (h.length+1) (l++[g])):=fun c d=>by
      rw [Qd5]
      refine At.both (hAt.app _) (At.cons (fun q=>by cases q) ?_)
      rw [QN]
      have:=At.mid (X++[c]) (layA 54 (h.length+1+gsz l+1) g.args) [d] (n:=0+gsz l+1) (by simp only [QrQ,Qrc,Qrd,hX];omega)
      refine At.both ?_ (At.cons (fun q=>by cases q) (At.nil _ _))
      simpa only [List.append_assoc,Qrr,Qrq] using this
     have elv:=Qgd av (h.length+1) l g
     cases hc:s3.is YV with
     |true =>
      have cs:=fun L=>Zq hW3 H hN L {data:=#[44]} (by rw [Lib.toList_data];exact hc)
      rw [hc,if_pos rfl] at hR3
      have hln3:=XJ hW3.wf (PS.Qqb hc)
      repeat (first|((first|(with_reducible (first|refine Qa fun K E hK hE=>?_|refine FunW.ret (FunW.call (cr _)) ?_|refine FunW.ret (FunW.call (cn _)) ?_|refine FunW.ret (FunW.call (cg _ _)) ?_|refine FunW.ret (FunW.call (cR _ _ _)) ?_|refine FunW.ret (FunW.call (cs _)) ?_)));simp -implicitDefEqProofs only [Qc,Qd,OpW,QE,aop,undef,AS.ev,AV.Qp8,↓reduceIte,Qg,Qw,Qv,QB,Qp,aBin,QH,aLen,XD,Yb,goInt,ei31,ai31,un31,ti60,zi60,QI,ti72,zi72,Qs,t0,t1,t5,w1,hi2,hi3,elen,e1,e2,e3,e4,f1,f3,f4,f5,f6,x1,x2,x3,x4,y1,y2,QR,List.append_assoc,hm1,hm2,seval])|(with_reducible (first|refine Qf fun K hK=>?_|refine Qj ?_|refine Qm ?_|refine Qb ?_|refine Qo ?_))|((with_reducible refine hK _ ?_);clear hK)|(refine Qh rfl ?_;simp only [↓reduceIte,Qq3]))
      refine Xi.mk (m':=s3.nx.toks.length) (by omega) ?_
      rw [hI]
      refine ⟨l++[g],s3.nx,X++(.cells 60 3 [s2.tk.av]::(layA 54 (h.length+1+gsz l+1) g.args++[.cells 72 2 [av (h.length+1+gsz l+1) g]])),rfl,hW3.nx,by simp;omega,⟨k - 1,by omega,hR3⟩,hX2 _ _,hA2 _ _,t0,t1,?_,?_⟩
      ·rw [elv];rfl
      ·rw [List.length_append];rfl
     |false =>
      have cs:=fun L=>ZS hW3 H hN L {data:=#[44]} (by rw [Lib.toList_data];exact hc)
      rw [hc,if_neg (by simp)] at hR3
      subst hR3
      repeat (first|((first|(with_reducible (first|refine Qa fun K E hK hE=>?_|refine FunW.ret (FunW.call (cr _)) ?_|refine FunW.ret (FunW.call (cn _)) ?_|refine FunW.ret (FunW.call (cg _ _)) ?_|refine FunW.ret (FunW.call (cR _ _ _)) ?_|refine FunW.ret (FunW.call (cs _)) ?_)));simp -implicitDefEqProofs only [Qc,Qd,OpW,QE,aop,undef,AS.ev,AV.Qp8,↓reduceIte,Qg,Qw,Qv,QB,Qp,aBin,QH,aLen,XD,Yb,goInt,ei31,ai31,un31,ti60,zi60,QI,ti72,zi72,Qs,t0,t1,t5,w1,hi2,hi3,elen,e1,e2,e3,e4,f1,f3,f4,f5,f6,x1,x2,x3,x4,y1,y2,QR,List.append_assoc,hm1,hm2,seval])|(with_reducible (first|refine Qf fun K hK=>?_|refine Qj ?_|refine Ql ?_|refine Qm ?_|refine Qb ?_|refine Qu ?_|refine Qy ?_))|((with_reducible refine hK _ ?_);clear hK)|(refine Qh rfl ?_;simp only [↓reduceIte,Qq3]))
      simp only [QF,Qn,Qr,upd,↓reduceIte,Qq5,Qq9]
      rw [← elv]
      exact .inr ⟨_,_,rfl,rfl,At.tail (hA2 _ _)⟩
 ·rw [hI]
  exact ⟨[],s,[],rfl,hW,Nat.zero_le _,⟨_,Nat.le_refl _,hR⟩,rfl,At.nil _ _,rfl,rfl,by simp only [upd,↓reduceIte,QS];rfl,rfl⟩
theorem QcJ (most:Nat) (hmost:most≤100):QJ Tryd.prog 29 [.ptr P.i 0 0,.i (most:Nat)] (ph h P s) (GsQ h P gv 3 (Yo most s)) :=
 Qi0 H Qof (fun _ _ _ _ _ h=>QpV h) (Qlb hW H hN hD most hmost)
theorem Qft (pre:Nat) (hpre:pre≤100):QJ Tryd.prog 41 [.ptr P.i 0 0,.i (pre:Nat)] (ph h P s) (GsQ h P av 2 (Yp pre s)) :=
 Qi0 H Qn9 (fun _ _ _ _ _ h=>QpB h) (Qlc hW H hN hD pre hpre)
end
end Go.Proofs.YticgcpebdldbgaaDoor.Ab
set_option maxRecDepth 4000
namespace Go.Proofs.YticgcpebdldbgaaDoor.Ab
open Go.Proofs
mutual
/-- a parsed term: what is no operator and no name has no arguments -/
def T.ps:T→Prop
 | .mk k _ _ bs=>(k=0∨k=1∨k=2)∧(k≠2→bs=[])∧pss bs
def pss:List T→Prop
 |[]=>True
 |t::l=>t.ps∧pss l
end
theorem QlX:∀ {l:List T} {k:Nat} (h:k<l.length),pss l→(l[k]).ps
 |t::l,0,_,hp=>by rw [pss] at hp;exact hp.1
 |t::l,k+1,h,hp=>by rw [pss] at hp;exact QlX (l:=l) (by simpa using h) hp.2
theorem T.QqV {t:T} (h:t.ps):(t.kind=0∨t.kind=1∨t.kind=2)∧(t.kind≠2→t.args=[])∧pss t.args:=by
 cases t;rw [T.ps] at h;exact h
section
variable {σ:Type} (g:σ→Int→Int×σ)
mutual
theorem T.QqN:∀ (s:σ) (t:T),(T.mapS g s t).1.sz=t.sz
 |s,.mk k i n l=>by
  simp only [T.mapS]
  split
  ·rfl
  ·split
   ·show szs (Xt g s l).1=szs l;exact Yy s l
   ·rfl
theorem Yy:∀ (s:σ) (l:List T),szs (Xt g s l).1=szs l
 |s,[]=>by simp [Xt]
 |s,t::l=>by simp only [Xt,szs,T.QqN s t,Yy _ l]
end
theorem Qeb (n:Nat) (s:σ) (l:List T):lsl n (Xt g s l).1=lsl n l:=by
 unfold lsl
 rw [Yy,ZI]
 cases l with
 |nil=>simp [Xt]
 |cons t l=>simp [Xt]
end
theorem QoP {X:AH} {tt:TypeId} {n:Nat} {r:AB} {l:List T} (h:At X n (lays tt n r l)) (hl:l≠[]) (hr:r.live=true):At X n (lays tt n .dead l)∧X[n+szs l - 1]? = some r:=by
 obtain ⟨h1,h2⟩:=Qa8 tt n r l hl
 have hp:=QbR hl
 refine ⟨?_,h.get h1 hr (by omega)⟩
 rw [← h2]
 intro j b hb hlv
 by_cases e:szs l - 1=j
 ·subst e
  rw [List.getElem?_set_self (by rw [YS];omega)] at hb
  cases hb;cases hlv
 ·rw [List.getElem?_set_ne e] at hb
  exact h j b hb hlv
theorem Qpx {X:AH} {tt:TypeId} {n:Nat} {r:AB} {l:List T} (h:At X n (lays tt n .dead l)) (hl:l≠[]) (hr:X[n+szs l - 1]? = some r):At X n (lays tt n r l):=by
 obtain ⟨h1,h2⟩:=Qa8 tt n r l hl
 have hp:=QbR hl
 intro j b hb hlv
 by_cases e:szs l - 1=j
 ·subst e
  rw [h1] at hb;cases hb
  rw [show n+(szs l - 1)=n+szs l - 1 by omega];exact hr
 ·rw [← h2] at h
  exact h j b (by rw [List.getElem?_set_ne e];exact hb) hlv
theorem Qn6 {X X':AH} {tt:TypeId} {n:Nat} {l m:List T} {u u':T} (hX:At X n (lays tt n .dead (l++u::m))) (hsz:u'.sz=u.sz) (hu:At X' (n+szs l) (u'.lay tt (n+szs l)))
  (hout:∀ j,n≤j→j<n+szs (l++u::m)→¬ (n+szs l≤j∧j<n+szs l+u.sz)→X'[j]? = X[j]?):At X' n (lays tt n .dead (l++u'::m)):=by
 intro j b hb hl
 have hlen:szs (l++u::m)=szs l+(u.sz+1+szs m):=by rw [YA,szs]
 have hjl:=Qt hb
 rw [YS,YA,szs,hsz] at hjl
 rw [QaE,lays,List.getElem?_append,YS] at hb
 split at hb
 ·rename_i hj
  rw [hout (n+j) (by omega) (by omega) (by omega)]
  exact hX j b (by rw [QaE,List.getElem?_append,YS,if_pos hj];exact hb) hl
 ·rename_i hj
  rw [List.getElem?_append,T.Qqc,hsz] at hb
  split at hb
  ·rename_i hj2
   have:=hu (j - szs l) b hb hl
   rwa [show n+szs l+(j - szs l)=n+j by omega] at this
  ·rename_i hj2
   rw [hout (n+j) (by omega) (by omega) (by omega)]
   refine hX j b ?_ hl
   rw [QaE,lays,List.getElem?_append,YS,if_neg hj,List.getElem?_append,T.Qqc,if_neg hj2]
   exact hb
theorem Qlt {tt:TypeId} {n:Nat} {r:AB} {l m:List T} {u u':T} (h:u'.args=u.args):lays tt n r (l++u'::m)=lays tt n r (l++u::m):=by
 have h1:∀ k,u'.lay tt k=u.lay tt k:=fun k=>by rw [T.Qqk,T.Qqk,h]
 have h2:u'.sz=u.sz:=by rw [T.Qqo,T.Qqo,h]
 rw [QaE,QaE,lays,lays,h1,h2]
theorem Qea (n:Nat) (l m:List T) (u:T):lvs n (l++u::m)=lvs n l++(u.lv (n+szs l)::lvs (n+szs l+u.sz+1) m):=by rw [QcN,lvs]
theorem Qm7 {n:Nat} {l m:List T} {u u':T} (h:∀ k,u'.lv k=u.lv k) (hs:u'.sz=u.sz):lvs n (l++u'::m)=lvs n (l++u::m):=by rw [Qea,Qea,h,hs]
theorem Qo9 (n:Nat) (l m:List T) (u:T):(lvs n (l++u::m))[l.length]? = some (u.lv (n+szs l)):=by
 rw [Qea,List.getElem?_append_right (by rw [Za];exact Nat.le_refl _),Za,Nat.sub_self];rfl
theorem Qlw {n:Nat} {l m:List T} {u u':T} (hs:u'.sz=u.sz):(lvs n (l++u::m)).set l.length (u'.lv (n+szs l))=lvs n (l++u'::m):=by
 rw [Qea,Qea,hs,List.set_append_right _ _ (by rw [Za];exact Nat.le_refl _),Za,Nat.sub_self];rfl
def NSt (X:AH) (q:Nat) (ord:List Int):Prop:=∃ toV,X[q]? = some (.cells 84 2 [.agg [toV,.sl 1 (ints ord) (some (q+1))]])∧X[q+1]? = some (.grow 3 1 ord.length) ∧
 ((toV = .v (.map none)∧ord=[])∨∃ m,toV = .mp m∧q+1<m∧X[m]? = some (mapB ord))
structure NumP (X X':AH) (q n w:Nat):Prop where
 long:X.length≤X'.length
 out:∀ j,j<q→¬ (n≤j∧j<n+w)→X'[j]? = X[j]?
theorem NumP.refl (X:AH) (q n w:Nat):NumP X X q n w:=⟨Nat.le_refl _,fun _ _ _=>rfl⟩
theorem NumP.trans {X Y Z:AH} {q n w a b:Nat} (h:NumP X Y q n w) (k:NumP Y Z q a b) (ha:n≤a) (hb:a+b≤n+w):NumP X Z q n w :=
 ⟨Nat.le_trans h.long k.long,fun j hj hn=>(k.out j hj (by omega)).trans (h.out j hj hn)⟩
theorem NSt.app {X:AH} {q:Nat} {ord:List Int} (h:NSt X q ord) (L:AH):NSt (X++L) q ord:=by
 obtain ⟨toV,h1,h2,h3⟩:=h
 refine ⟨toV,hext h1 L,hext h2 L,h3.imp id ?_⟩
 rintro ⟨m,e,h4,h5⟩
 exact ⟨m,e,h4,hext h5 L⟩
end Go.Proofs.YticgcpebdldbgaaDoor.Ab

