/-
  An abstract program logic, contracts of functions, and laws of terms and rules (part 3).
-/
import Derived.Test.YticgcpebdldbgaaDoorAbTwo
import Derived.ProofKit
import Derived.WalkKit
import Derived.OpenShut
import Derived.LaidSub
import Derived.Lib.LaidTab
import Derived.Lib.ItoaNum
import Derived.Lib.ItoaMem
import Derived.Lib.AtoiTie
import Derived.RecoverIn
set_option linter.unusedVariables false
set_option linter.unusedSimpArgs false
set_option maxHeartbeats 4000000
namespace Go.Proofs.YticgcpebdldbgaaDoor.Ab
mutual
def T.map (g:Int→Int):T→T
 | .mk k i n l=>if k=1 then .mk k (g i) n l else if k=2 then .mk k i n (maps g l) else .mk k i n l
def maps (g:Int→Int):List T→List T
 |[]=>[]
 |t::l=>t.map g::maps g l
end
mutual
def T.mapS {σ:Type} (g:σ→Int→Int×σ):σ→T→T×σ
 |s,.mk k i n l=>if k=1 then (.mk k (g s i).1 n l,(g s i).2) else if k=2 then (.mk k i n (Xs g s l).1,(Xs g s l).2) else (.mk k i n l,s)
def Xs {σ:Type} (g:σ→Int→Int×σ):σ→List T→List T×σ
 |s,[]=>([],s)
 |s,t::l=>((T.mapS g s t).1::(Xs g (T.mapS g s t).2 l).1,(Xs g (T.mapS g s t).2 l).2)
end
theorem T.Qq7 {σ:Type} (g:σ→Int→Int×σ) (s:σ) (t:T):T.mapS g s t=if t.kind=1 then (.mk t.kind (g s t.int).1 t.name t.args,(g s t.int).2) else if t.kind=2 then (.mk t.kind t.int t.name (Xs g s t.args).1,(Xs g s t.args).2) else (t,s):=by
 cases t;simp only [T.mapS,T.kind,T.int,T.name,T.args];rfl
theorem Qc8 {σ:Type} (g:σ→Int→Int×σ):∀ (s:σ) (l r:List T),Xs g s (l++r)=((Xs g s l).1++(Xs g (Xs g s l).2 r).1,(Xs g (Xs g s l).2 r).2)
 |s,[],r=>by simp [Xs]
 |s,t::l,r=>by simp only [QrR,Xs,Qc8 g _ l r]
theorem ZJ {σ:Type} (g:σ→Int→Int×σ):∀ (s:σ) (l:List T),(Xs g s l).1.length=l.length
 |s,[]=>by simp [Xs]
 |s,t::l=>by simp only [Xs,QrC,ZJ g _ l]
theorem Qkg {σ:Type} (g:σ→Int→Int×σ) (s:σ) {l:List T} {k:Nat} (h:k<l.length) :
  (Xs g s (l.take (k+1))).1=(Xs g s (l.take k)).1++[(T.mapS g (Xs g s (l.take k)).2 l[k]).1]∧(Xs g s (l.take (k+1))).2=(T.mapS g (Xs g s (l.take k)).2 l[k]).2:=by
 rw [List.take_succ_eq_append_getElem h,Qc8]
 exact ⟨by simp [Xs],by simp [Xs]⟩
def gNum:List Int→Int→Int×List Int:=fun s n=>((plc (ins s n) n:Nat),ins s n)
mutual
theorem T.Qq2:∀ (s:List Int) (t:T) (r:List Int),T.mapS gNum s t=(t.map fun n=>((plc (ded s t.vars++r) n:Nat):Int),ded s t.vars)
 |s,.mk k i n l,r=>by
  simp only [T.mapS,T.map,T.vars]
  split
  ·rename_i h
   simp only [gNum,ded]
   rw [QcF r (Qir.2 (.inr rfl))]
  ·split
   ·rw [QcP s l r]
   ·rfl
theorem QcP:∀ (s:List Int) (l:List T) (r:List Int),Xs gNum s l=(maps (fun n=>((plc (ded s (XD l)++r) n:Nat):Int)) l,ded s (XD l))
 |s,[],r=>rfl
 |s,t::l,r=>by
  obtain ⟨q,hq⟩:=QbP (ded s t.vars) (XD l)
  simp only [Xs,maps,XD]
  rw [T.Qq2 s t (q++r)]
  simp only
  rw [QcP _ l r]
  simp only [Zg,hq,List.append_assoc]
end
def Qas (s:List Int):List (Int×AV):=s.zipIdx.map fun p=>(p.1,AV.v (.int .i64 ((p.2:Nat):Int)))
theorem Qik (s:List Int) (n:Int):Qas (s++[n])=Qas s++[(n,.v (.int .i64 s.length))]:=by
 simp [Qas,List.zipIdx_append]
theorem QlO (n:Int):∀ (s:List Int),QfX n (Qas s)=if n∈s then some (.v (.int .i64 (plc s n:Nat))) else none:=by
 have gen:∀ (s:List Int) (k:Nat),QfX n ((s.zipIdx k).map fun p=>(p.1,AV.v (.int .i64 ((p.2:Nat):Int))))=if n∈s then some (.v (.int .i64 ((k+plc s n:Nat):Int))) else none:=by
  intro s
  induction s with
  |nil=>intro k;rfl
  |cons a s ih =>
   intro k
   simp only [List.zipIdx_cons,QrE,QfX,ih]
   by_cases h:n=a
   ·subst h;simp [plc]
   ·rw [if_neg h]
    simp only [List.mem_cons,h,false_or,plc,if_neg (fun e:a=n=>h e.symm)]
    split
    ·congr 3;omega
    ·rfl
 intro s
 have:=gen s 0
 simpa [Qas] using this
def Xj {X σ:Type} (g:σ→X→X×σ):σ→List X→List X×σ
 |s,[]=>([],s)
 |s,x::l=>((g s x).1::(Xj g (g s x).2 l).1,(Xj g (g s x).2 l).2)
def mapB (s:List Int):AB:=.map (imap (Qas s))
theorem Qc9 {X σ:Type} (g:σ→X→X×σ):∀ (s:σ) (l r:List X),Xj g s (l++r)=((Xj g s l).1++(Xj g (Xj g s l).2 r).1,(Xj g (Xj g s l).2 r).2)
 |s,[],r=>by simp [Xj]
 |s,x::l,r=>by simp only [QrR,Xj,Qc9 g _ l r]
mutual
theorem T.map_map (f g:Int→Int):∀ t:T,(t.map f).map g=t.map fun n=>g (f n)
 | .mk k i n l=>by
  simp only [T.map]
  by_cases h1:k=1
  ·simp [h1,T.map]
  ·by_cases h2:k=2
   ·simp only [if_neg h1,if_pos h2,T.map];rw [QhD f g l]
   ·simp [h1,h2,T.map]
theorem QhD (f g:Int→Int):∀ l:List T,maps g (maps f l)=maps (fun n=>g (f n)) l
 |[]=>rfl
 |t::l=>by rw [maps,maps,maps,T.map_map f g t,QhD f g l]
end
set_option maxRecDepth 4000
open Go.Proofs
def mkB (l:List UInt8):ByteArray:=⟨l.toArray⟩
def isD (c:UInt8):Bool:=decide (48≤c.toNat∧c.toNat≤57)
def isL (c:UInt8):Bool:=decide (97≤c.toNat∧c.toNat≤122∨65≤c.toNat∧c.toNat≤90∨c.toNat=95)
def isW (c:UInt8):Bool:=isL c||isD c
def numVal (l:List UInt8):Nat:=l.foldl (fun n c=>10 * n+(c.toNat - 48)) 0
def eB:ByteArray:={data:=#[]}
structure Tk where
  kind : Int
  pos : Int
  text : ByteArray
structure PS where
  toks : List Tk
  names : List ByteArray
inductive PR (α : Type) where
  | ok (a : α) (s : PS)
  | err (pos e : Int)
def PR.bind {α β : Type} (x : PR α) (f : α → PS → PR β) : PR β := match x with
  | .ok a s => f a s
  | .err p e => .err p e
def PS.tk (s : PS) : Tk := s.toks.headD ⟨0, 0, eB⟩
def PS.nx (s : PS) : PS := ⟨match s.toks with | _ :: u :: r => u :: r | l => l, s.names⟩
def PS.is (s : PS) (b : List UInt8) : Bool := (s.tk.kind == 4) && (s.tk.text.toList == b)
def PS.oneOf (s : PS) (l : List (List UInt8)) : Bool := l.any s.is
def XC (b : List UInt8) (s : PS) : PR Unit := if s.is b then .ok () s.nx else .err s.tk.pos 16
def Zq (s : PS) : PR ByteArray := if s.tk.kind ≠ 1 then .err s.tk.pos 16 else if resB s.tk.text then .err s.tk.pos 7 else .ok s.tk.text s.nx
def nameAt (l : List ByteArray) (x : ByteArray) : Nat := l.findIdx fun y => y.toList == x.toList
def pVari (x : ByteArray) (s : PS) : T × PS :=
  if nameAt s.names x < s.names.length ∧ x.toList ≠ [95] then (.mk 1 (nameAt s.names x : Nat) eB [], s) else (.mk 1 (s.names.length : Nat) eB [], ⟨s.toks, s.names ++ [x]⟩)
def valT (x : ByteArray) : Int := (numVal x.toList : Nat)
def sAt : List UInt8 := [64]
def YS : List UInt8 := [44]
def sDot : List UInt8 := [46]
def sLp : List UInt8 := [40]
def sRp : List UInt8 := [41]
def sBar : List UInt8 := [124]
def QeE : List UInt8 := [47]
def QeO : List UInt8 := [92]
def Qdb : List UInt8 := [45]
def Qay : List UInt8 := [60, 61, 62]
def Qe2 : List UInt8 := [61, 61, 62]
def Yt : List (List UInt8) := [[42], [47], [37]]
def ZQ : List (List UInt8) := [[43], [45]]
def YK (ex : PS → PR T) : Nat → List T → PS → PR (List T)
  | 0, _, s => .err s.tk.pos 16
  | m + 1, l, s => (ex s).bind fun t s => if s.is YS then YK ex m (l ++ [t]) s.nx else (XC sRp s).bind fun _ s => .ok (l ++ [t]) s
def Yk (ex : PS → PR T) (s : PS) : PR G := (Zq s).bind fun x s => if s.is sLp then (YK ex s.toks.length [] s.nx).bind fun l s => .ok ⟨0, x, l⟩ s else .ok ⟨0, x, []⟩ s
def pOpT (ex : PS → PR T) (s : PS) : PR T :=
  if s.tk.kind = 3 then .ok (.mk 0 (valT s.tk.text) eB []) s.nx else
  if s.tk.kind = 2 then .ok (pVari s.tk.text s.nx).1 (pVari s.tk.text s.nx).2 else
  if s.tk.kind = 1 then (Yk ex s).bind fun a s => .ok (.mk 2 0 a.name a.args) s else
  if s.is Qdb then (if s.nx.tk.kind ≠ 3 ∨ s.nx.tk.pos ≠ s.tk.pos + 1 then .err s.nx.tk.pos 16 else .ok (.mk 0 (-valT s.nx.tk.text) eB []) s.nx.nx) else
  if s.is sLp then (ex s.nx).bind fun t s => (XC sRp s).bind fun _ s => .ok t s else .err s.tk.pos 16
def Xz (op : PS → PR T) (ops : List (List UInt8)) : Nat → T → PS → PR T
  | 0, t, s => .ok t s
  | m + 1, t, s => if s.oneOf ops then (op s.nx).bind fun u s2 => Xz op ops m (.mk 2 0 s.tk.text [t, u]) s2 else .ok t s
def XU (op : PS → PR T) (ops : List (List UInt8)) (s : PS) : PR T := (op s).bind fun t s => Xz op ops s.toks.length t s
def XT : Nat → PS → PR T
  | 0, s => .err s.tk.pos 16
  | n + 1, s => XU (XU (pOpT (XT n)) Yt) ZQ s
def XL (s : PS) : PR T := XT (s.toks.length + 1) s
def QaB (s : PS) : Option (Int × Bool) :=
  if s.tk.kind = 1 then (if s.tk.text.toList = [105, 115] then some (4, false) else none) else
  if s.tk.kind ≠ 4 then none else
  if s.tk.text.toList = [61] then some (3, false) else if s.tk.text.toList = [61, 61] then some (5, false) else if s.tk.text.toList = [92, 61] then some (6, false) else
  if s.tk.text.toList = [60] then some (7, false) else if s.tk.text.toList = [61, 60] then some (8, false) else if s.tk.text.toList = [62] then some (7, true) else
  if s.tk.text.toList = [62, 61] then some (8, true) else if s.tk.text.toList = [61, 58, 61] then some (9, false) else if s.tk.text.toList = [61, 92, 61] then some (10, false) else none
def Qa0 (op : Int) (s : PS) : PR G := (XC sLp s).bind fun _ s => (XL s).bind fun t s => (XC sRp s).bind fun _ s => .ok ⟨op, eB, [t]⟩ s
def ZK (s : PS) : PR G :=
  if s.tk.kind = 1 ∧ resB s.tk.text = true then
    (if s.tk.text.toList = [116, 114, 117, 101] then .ok ⟨1, eB, []⟩ s.nx else if s.tk.text.toList = [102, 97, 105, 108] then .ok ⟨2, eB, []⟩ s.nx else
     if s.tk.text.toList = [105, 110, 116] then Qa0 11 s.nx else if s.tk.text.toList = [103, 114, 111, 117, 110, 100] then Qa0 12 s.nx else .err s.tk.pos 7)
  else (XL s).bind fun t s2 => match QaB s2 with
    | some (op, turn) => (XL s2.nx).bind fun u s3 => .ok ⟨op, eB, if turn then [u, t] else [t, u]⟩ s3
    | none => if s.tk.kind = 1 ∧ t.name.toList = s.tk.text.toList then .ok ⟨0, t.name, t.args⟩ s2 else .err s2.tk.pos 16
def X5 (most : Nat) : Nat → List G → PS → PR (List G)
  | 0, _, s => .err s.tk.pos 16
  | m + 1, l, s => if most ≤ l.length then .err s.tk.pos 6 else (ZK s).bind fun g s2 =>
      if QY g = false then .err s.tk.pos 6 else if s2.is YS then X5 most m (l ++ [g]) s2.nx else .ok (l ++ [g]) s2
def Yi (most : Nat) (s : PS) : PR (List G) := X5 most (s.toks.length + 1) [] s
def Yh (pre : Nat) : Nat → List G → PS → PR (List G)
  | 0, _, s => .err s.tk.pos 16
  | m + 1, l, s => if 4 ≤ pre + l.length then .err s.tk.pos 6 else (Yk XL s).bind fun g s2 =>
      if Q1 g = false then .err s.tk.pos 6 else if s2.is YS then Yh pre m (l ++ [g]) s2.nx else .ok (l ++ [g]) s2
def Yc (pre : Nat) (s : PS) : PR (List G) := Yh pre (s.toks.length + 1) [] s
def Za (name : ByteArray) (keep remove : List G) (s : PS) : PR Rl := (Yi 12 s).bind fun b s =>
  let fin (g b : List G) (s : PS) : PR Rl := (XC sDot s).bind fun _ s => .ok ⟨name, keep, remove, g, match b with | [x] => if x.op = 1 then [] else b | _ => b, 0⟩ s
  if s.is sBar then (Yi 12 s.nx).bind fun b2 s => fin b b2 s else fin [] b s
def YJ (s : PS) : PR Rl :=
  let body (name : ByteArray) (s : PS) : PR Rl := (Yc 0 s).bind fun first s =>
    if s.is Qay then Za name [] first s.nx else if s.is Qe2 then Za name first [] s.nx else
    if s.is QeO then (Yc first.length s.nx).bind fun rem s => (XC Qay s).bind fun _ s => Za name first rem s else .err s.tk.pos 16
  if s.tk.kind = 1 ∧ s.nx.is sAt = true then (Zq s).bind fun x s => body x s.nx else body eB s
def Rl.allV (r : Rl) : List Int := (r.keep ++ r.remove ++ r.guard ++ r.body).flatMap fun g => XD g.args
def Rl.numd (r : Rl) : Rl :=
  let f := fun v => ((plc (ded [] r.allV) v : Nat) : Int)
  let m := List.map fun g : G => (⟨g.op, g.name, maps f g.args⟩ : G)
  ⟨r.name, m r.keep, m r.remove, m r.guard, m r.body, (ded [] r.allV).length⟩
def Yv (s : PS) : PR Rl := (YJ ⟨s.toks, []⟩).bind fun r s => .ok r.numd s
def Y6 : Nat → List Dc → PS → PR (List Dc)
  | 0, _, s => .err s.tk.pos 16
  | m + 1, l, s => if 30 ≤ l.length then .err s.tk.pos 6 else (Zq s).bind fun x s => (XC QeE s).bind fun _ s =>
      if s.tk.kind ≠ 3 then .err s.tk.pos 16 else if valT s.tk.text > 6 then .err s.tk.pos 6 else
      if s.nx.is YS then Y6 m (l ++ [⟨x, valT s.tk.text⟩]) s.nx.nx else (XC sDot s.nx).bind fun _ s2 => .ok (l ++ [⟨x, valT s.tk.text⟩]) s2
def Qki : List UInt8 := [99, 111, 110, 115, 116, 114, 97, 105, 110, 116]
def Y7 : Nat → List Dc → PS → PR (List Dc)
  | 0, l, s => .ok l s
  | m + 1, l, s => if s.tk.kind = 1 ∧ s.tk.text.toList = Qki then (Y6 (s.toks.length + 1) l s.nx).bind fun l s => Y7 m l s else .ok l s
def Yy : Nat → List Rl → PS → PR (List Rl)
  | 0, l, s => .ok l s
  | m + 1, l, s => if s.tk.kind = 0 then .ok l s else if 40 ≤ l.length then .err s.tk.pos 6 else (Yv s).bind fun r s => Yy m (l ++ [r]) s
def Qby (s : PS) : PR Pg := (Y7 (s.toks.length + 1) [] s).bind fun d s => (Yy (s.toks.length + 1) [] s).bind fun r s => .ok ⟨d, r⟩ s
def pEnd (s : PS) : PR Unit := if s.tk.kind = 0 then .ok () s else .err s.tk.pos 16
def ZU (s : PS) : PR Rl := (Yv s).bind fun r s => (pEnd s).bind fun _ s => .ok r s
def Xe (l : List G) : List Int := l.flatMap fun g => XD g.args
def Qft (s : PS) : PR (List G × List ByteArray) := (Yi 40 s).bind fun l s => (pEnd s).bind fun _ s =>
  .ok (l.map fun g => ⟨g.op, g.name, maps (fun v => ((plc (ded [] (Xe l)) v : Nat) : Int) ) g.args⟩, (ded [] (Xe l)).map fun v => s.names.getD v.toNat eB) s
def isSp (c:UInt8):Bool:=decide (c.toNat=32∨c.toNat=9∨c.toNat=10∨c.toNat=13)
def Q8:Bool→List UInt8→List UInt8
 |_,[]=>[]
 |true,c::r=>if c.toNat=10 then Q8 false r else Q8 true r
 |false,c::r=>if isSp c then Q8 false r else if c.toNat=35 then Q8 true r else c::r
def Xx:List (List UInt8):=[[61,58,61],[61,92,61],[60,61,62],[61,61,62],[61,61],[92,61],[61,60],[62,61],[64],[44],[46],[40],[41],[124],[47],[92],[43],[45],[42],[37],[61],[60],[62]]
def QeX (l:List UInt8):Option (List UInt8):=Xx.find? fun x=>x.isPrefixOf l
def Y8 (l:List UInt8):Int×List UInt8 ⊕ Int:=match l with
 |[]=>.inl (0,[])
 |c::r =>
  if isL c then (if 40<((c::r).takeWhile isW).length then .inr 7 else .inl (if 97≤c.toNat then 1 else 2,(c::r).takeWhile isW)) else
  if isD c then (if 2147483648<numVal ((c::r).takeWhile isD) then .inr 5 else .inl (3,(c::r).takeWhile isD)) else
  match QeX (c::r) with
  |some x=>.inl (4,x)
  |none=>.inr 16
def Yp (tot:Nat):Nat→List UInt8→List Tk ⊕ (Int×Int)
 |0,_=>.inl []
 |m+1,l=>match Y8 (Q8 false l) with
  | .inr e=>.inr (((tot - (Q8 false l).length:Nat):Int),e)
  | .inl (k,x)=>if k=0 then .inl [⟨0,((tot - (Q8 false l).length:Nat):Int),eB⟩] else
   match Yp tot m ((Q8 false l).drop x.length) with
   | .inl ts=>.inl (⟨k,((tot - (Q8 false l).length:Nat):Int),mkB x⟩::ts)
   | .inr e=>.inr e
def XK (l:List UInt8):List Tk ⊕ (Int×Int):=if 16384<l.length then .inr (0,6) else Yp l.length (l.length+1) l
theorem Qae:∀ (b:Bool) (l:List UInt8),(Q8 b l).length≤l.length
 |_,[]=>by rw [Q8];exact Nat.le_refl _
 |true,c::r=>by
  rw [Q8,List.length_cons]
  split
  ·exact Nat.le_succ_of_le (Qae false r)
  ·exact Nat.le_succ_of_le (Qae true r)
 |false,c::r=>by
  rw [Q8]
  split
  ·exact Nat.le_succ_of_le (Qae false r)
  ·split
   ·exact Nat.le_succ_of_le (Qae true r)
   ·exact Nat.le_refl _
theorem QhJ {l x:List UInt8} (h:QeX l=some x):0<x.length∧x.length≤3∧x.isPrefixOf l=true:=by
 have h1:=List.mem_of_find?_eq_some h
 have h2:=List.find?_some h
 refine ⟨?_,?_,h2⟩
 ·have:∀ x∈Xx,0<x.length:=by decide
  exact this x h1
 ·have:∀ x∈Xx,x.length≤3:=by decide
  exact this x h1
def PS.wf (s:PS):Prop:=∃ l e,s.toks=l++[e]∧e.kind=0∧∀ t∈l,t.kind≠0
theorem XY {s:PS} (h:s.wf):s.nx.wf:=by
 obtain ⟨l,e,hl,he,ha⟩:=h
 cases l with
 |nil=>exact ⟨[],e,by simp only [PS.nx,hl,QrQ],he,ha⟩
 |cons t l =>
  have e2:s.nx.toks=l++[e]:=by
   cases l with
   |nil=>simp only [PS.nx,hl,QrR,QrQ]
   |cons u l=>simp only [PS.nx,hl,QrR]
  exact ⟨l,e,e2,he,fun x hx=>ha x (by simp [hx])⟩
theorem Qqp {s:PS} (h:s.wf) (hk:s.tk.kind≠0):s.toks=s.tk::s.nx.toks:=by
 obtain ⟨l,e,hl,he,ha⟩:=h
 cases l with
 |nil =>
  have:s.tk=e:=by simp only [PS.tk,hl,QrQ,List.headD_cons]
  rw [this] at hk;exact absurd he hk
 |cons t l =>
  have e1:s.tk=t:=by simp only [PS.tk,hl,QrR,List.headD_cons]
  have e2:s.nx.toks=l++[e]:=by
   cases l with
   |nil=>simp only [PS.nx,hl,QrR,QrQ]
   |cons u l=>simp only [PS.nx,hl,QrR]
  rw [e1,e2,hl];rfl
theorem Xh {s:PS} (h:s.wf) (hk:s.tk.kind≠0):s.nx.toks.length+1=s.toks.length:=by
 rw [Qqp h hk];rfl
theorem QaO {s:PS} (h:s.wf):s.nx.toks.length≤s.toks.length:=by
 by_cases hk:s.tk.kind=0
 ·unfold PS.nx
  split
  ·rename_i he;rw [he];simp
  ·exact Nat.le_refl _
 ·have:=Xh h hk;omega
theorem Ye {s:PS} {b:List UInt8} (h:s.is b=true):s.tk.kind=4:=by
 simp only [PS.is,Bool.and_eq_true,beq_iff_eq] at h;exact h.1
theorem Qbt {s:PS} {l:List (List UInt8)} (h:s.oneOf l=true):s.tk.kind=4:=by
 rw [PS.oneOf,List.any_eq_true] at h
 obtain ⟨b,_,hb⟩:=h
 exact Ye hb
theorem bind_ok {α β:Type} {x:PR α} {f:α→PS→PR β} {b:β} {s2:PS} (h:x.bind f = .ok b s2):∃ a s,x = .ok a s∧f a s = .ok b s2:=by
 cases x with
 |ok a s=>exact ⟨a,s,rfl,h⟩
 |err p e=>cases h
def Eat {α:Type} (k:Nat) (f:PS→PR α):Prop:=∀ s,s.wf→∀ a s2,f s = .ok a s2→s2.wf∧s2.toks.length+k≤s.toks.length
theorem Eat.less {α:Type} {j k:Nat} {f:PS→PR α} (h:Eat k f) (hj:j≤k):Eat j f:=fun s hs a s2 e=>by
 obtain ⟨h1,h2⟩:=h s hs a s2 e
 exact ⟨h1,by omega⟩
theorem Xn (b:List UInt8):Eat 1 (XC b):=fun s hs a s2 e=>by
 unfold XC at e
 split at e
 ·rename_i h
  cases e
  exact ⟨XY hs,Nat.le_of_eq (Xh hs (by rw [Ye h];decide))⟩
 ·cases e
theorem YM:Eat 1 Zq:=fun s hs a s2 e=>by
 unfold Zq at e
 split at e
 ·cases e
 ·rename_i h
  split at e
  ·cases e
  ·cases e
   exact ⟨XY hs,Nat.le_of_eq (Xh hs (by omega))⟩
theorem QdC {ex:PS→PR T} (H:Eat 0 ex):∀ (m:Nat) (l:List T),Eat 1 (YK ex m l)
 |0,_=>fun s _ a s2 e=>by cases e
 |m+1,l=>fun s hs a s2 e=>by
  rw [YK] at e
  obtain ⟨t,s1,h1,h2⟩:=bind_ok e
  obtain ⟨w1,l1⟩:=H s hs t s1 h1
  split at h2
  ·rename_i hc
   have hl:=Xh w1 (by rw [Ye hc];decide)
   obtain ⟨w2,l2⟩:=QdC H m _ s1.nx (XY w1) a s2 h2
   exact ⟨w2,by omega⟩
  ·obtain ⟨u,s3,h3,h4⟩:=bind_ok h2
   cases h4
   obtain ⟨w2,l2⟩:=Xn _ s1 w1 u _ h3
   exact ⟨w2,by omega⟩
theorem Qdx {ex:PS→PR T} (H:Eat 0 ex):Eat 1 (Yk ex):=fun s hs a s2 e=>by
 rw [Yk] at e
 obtain ⟨x,s1,h1,h2⟩:=bind_ok e
 obtain ⟨w1,l1⟩:=YM s hs x s1 h1
 split at h2
 ·rename_i hc
  have hl:=Xh w1 (by rw [Ye hc];decide)
  obtain ⟨l,s3,h3,h4⟩:=bind_ok h2
  cases h4
  obtain ⟨w2,l2⟩:=QdC H _ _ s1.nx (XY w1) l _ h3
  exact ⟨w2,by omega⟩
 ·cases h2
  exact ⟨w1,l1⟩
theorem Qaw (x:ByteArray) (s:PS):(pVari x s).2.toks=s.toks:=by unfold pVari;split <;> rfl
theorem QcH {ex:PS→PR T} (H:Eat 0 ex):Eat 1 (pOpT ex):=fun s hs a s2 e=>by
 rw [pOpT] at e
 split at e
 ·rename_i h
  cases e
  exact ⟨XY hs,Nat.le_of_eq (Xh hs (by omega))⟩
 split at e
 ·rename_i h
  cases e
  have ht:=Qaw s.tk.text s.nx
  refine ⟨?_,by rw [ht];exact Nat.le_of_eq (Xh hs (by omega))⟩
  obtain ⟨l,e',h1,h2,h3⟩:=XY hs
  exact ⟨l,e',by rw [ht];exact h1,h2,h3⟩
 split at e
 ·obtain ⟨g,s1,h1,h2⟩:=bind_ok e
  cases h2
  exact Qdx H s hs g _ h1
 split at e
 ·rename_i h
  split at e
  ·cases e
  ·rename_i hn
   cases e
   have hl:=Xh hs (by rw [Ye h];decide)
   have hle:=QaO (XY hs)
   exact ⟨XY (XY hs),by omega⟩
 split at e
 ·rename_i h
  have hl:=Xh hs (by rw [Ye h];decide)
  obtain ⟨t,s1,h1,h2⟩:=bind_ok e
  obtain ⟨w1,l1⟩:=H s.nx (XY hs) t s1 h1
  obtain ⟨u,s3,h3,h4⟩:=bind_ok h2
  cases h4
  obtain ⟨w2,l2⟩:=Xn _ s1 w1 u _ h3
  exact ⟨w2,by omega⟩
 ·cases e
theorem Qau {op:PS→PR T} (H:Eat 0 op) (ops:List (List UInt8)):∀ (m:Nat) (t:T),Eat 0 (Xz op ops m t)
 |0,t=>fun s hs a s2 e=>by cases e;exact ⟨hs,Nat.le_refl _⟩
 |m+1,t=>fun s hs a s2 e=>by
  rw [Xz] at e
  split at e
  ·rename_i h
   have hl:=Xh hs (by rw [Qbt h];decide)
   obtain ⟨u,s1,h1,h2⟩:=bind_ok e
   obtain ⟨w1,l1⟩:=H s.nx (XY hs) u s1 h1
   obtain ⟨w2,l2⟩:=Qau H ops m _ s1 w1 a s2 h2
   exact ⟨w2,by omega⟩
  ·cases e;exact ⟨hs,Nat.le_refl _⟩
theorem QaC {op:PS→PR T} {k:Nat} (H:Eat k op) (ops:List (List UInt8)):Eat k (XU op ops):=fun s hs a s2 e=>by
 rw [XU] at e
 obtain ⟨t,s1,h1,h2⟩:=bind_ok e
 obtain ⟨w1,l1⟩:=H s hs t s1 h1
 obtain ⟨w2,l2⟩:=Qau (H.less (Nat.zero_le _)) ops _ t s1 w1 a s2 h2
 exact ⟨w2,by omega⟩
theorem Qaz:∀ n,Eat 1 (XT n)
 |0=>fun s _ a s2 e=>by cases e
 |n+1=>QaC (QaC (QcH ((Qaz n).less (Nat.zero_le _))) Yt) ZQ
theorem bind_congr {α β:Type} {x:PR α} {f g:α→PS→PR β} (h:∀ a s,x = .ok a s→f a s=g a s):x.bind f=x.bind g:=by
 cases x with
 |ok a s=>exact h a s rfl
 |err p e=>rfl
theorem QhB {ex ex':PS→PR T} (H:Eat 0 ex) {N:Nat} (hx:∀ s,s.wf→s.toks.length≤N→ex s=ex' s):∀ (m m':Nat) (l:List T) (s:PS),s.wf→s.toks.length≤N→s.toks.length<m→s.toks.length<m'→YK ex m l s=YK ex' m' l s
 |0,_,_,_,_,_,h,_=>by omega
 |_,0,_,_,_,_,_,h=>by omega
 |m+1,m'+1,l,s,hs,hN,h,h'=>by
  rw [YK,YK,← hx s hs hN]
  refine bind_congr fun t s1 h1=>?_
  obtain ⟨w1,l1⟩:=H s hs t s1 h1
  split
  ·rename_i hc
   have hl:=Xh w1 (by rw [Ye hc];decide)
   exact QhB H hx m m' _ s1.nx (XY w1) (by omega) (by omega) (by omega)
  ·rfl
theorem QbQ {op op':PS→PR T} (H:Eat 0 op) (ops:List (List UInt8)) {N:Nat} (hx:∀ s,s.wf→s.toks.length≤N→op s=op' s):∀ (m m':Nat) (t:T) (s:PS),s.wf→s.toks.length≤N+1→s.toks.length≤m→s.toks.length≤m'→Xz op ops m t s=Xz op' ops m' t s
 |0,m',t,s,hs,hN,h,_=>by
  obtain ⟨l,e,hl,_⟩:=hs
  rw [hl] at h;simp at h
 |m+1,0,t,s,hs,hN,_,h=>by
  obtain ⟨l,e,hl,_⟩:=hs
  rw [hl] at h;simp at h
 |m+1,m'+1,t,s,hs,hN,h,h'=>by
  rw [Xz,Xz]
  split
  ·rename_i hc
   have hl:=Xh hs (by rw [Qbt hc];decide)
   rw [← hx s.nx (XY hs) (by omega)]
   refine bind_congr fun u s1 h1=>?_
   obtain ⟨w1,l1⟩:=H s.nx (XY hs) u s1 h1
   exact QbQ H ops hx m m' _ s1 w1 (by omega) (by omega) (by omega)
  ·rfl
theorem Qj9:∀ (N n n':Nat),N<n→N<n'→∀ s,s.wf→s.toks.length≤N→XT n s=XT n' s:=by
 intro N
 induction N with
 |zero=>intro n n' _ _ s hs h;obtain ⟨l,e,hl,_⟩:=hs;rw [hl] at h;simp at h
 |succ N ih =>
  intro n n' hn hn' s hs h
  obtain ⟨a,rfl⟩:∃ a,n=a+1:=⟨n - 1,by omega⟩
  obtain ⟨a',rfl⟩:∃ a',n'=a'+1:=⟨n' - 1,by omega⟩
  have hE:=(Qaz a).less (Nat.zero_le 1)
  have hop:∀ s,s.wf→s.toks.length≤N+1→pOpT (XT a) s=pOpT (XT a') s:=fun s hs h=>by
   rw [pOpT,pOpT]
   split
   ·rfl
   split
   ·rfl
   split
   ·rename_i hk
    congr 1
    rw [Yk,Yk]
    refine bind_congr fun x s1 h1=>?_
    obtain ⟨w1,l1⟩:=YM s hs x s1 h1
    split
    ·rename_i hc
     have hl:=Xh w1 (by rw [Ye hc];decide)
     rw [QhB hE (ex':=XT a') (N:=N) (fun s hs h=>ih a a' (by omega) (by omega) s hs h) s1.toks.length s1.toks.length [] s1.nx (XY w1) (by omega) (by omega) (by omega)]
    ·rfl
   split
   ·rfl
   split
   ·rename_i hc
    have hl:=Xh hs (by rw [Ye hc];decide)
    rw [ih a a' (by omega) (by omega) s.nx (XY hs) (by omega)]
   ·rfl
  have hO:=(QcH hE).less (Nat.zero_le 1)
  have hmul:∀ s,s.wf→s.toks.length≤N+1→XU (pOpT (XT a)) Yt s=XU (pOpT (XT a')) Yt s:=fun s hs h=>by
   rw [XU,XU,← hop s hs h]
   refine bind_congr fun t s1 h1=>?_
   obtain ⟨w1,l1⟩:=hO s hs t s1 h1
   exact QbQ hO Yt hop _ _ t s1 w1 (by omega) (by omega) (by omega)
  have hM:=QaC hO Yt
  show (XU (pOpT (XT a)) Yt s).bind (fun t s=>Xz (XU (pOpT (XT a)) Yt) ZQ s.toks.length t s)=(XU (pOpT (XT a')) Yt s).bind (fun t s=>Xz (XU (pOpT (XT a')) Yt) ZQ s.toks.length t s)
  rw [← hmul s hs h]
  refine bind_congr fun t s1 h1=>?_
  obtain ⟨w1,l1⟩:=hM s hs t s1 h1
  exact QbQ hM ZQ hmul _ _ t s1 w1 (by omega) (by omega) (by omega)
theorem Yb:Eat 1 XL:=fun s hs a s2 e=>Qaz _ s hs a s2 e
theorem Qj7 {n:Nat} {s:PS} (hs:s.wf) (hn:s.toks.length<n):XT n s=XL s:=Qj9 s.toks.length n _ hn (Nat.lt_succ_self _) s hs (Nat.le_refl _)
theorem QjG (op:Int):Eat 1 (Qa0 op):=fun s hs a s2 e=>by
 rw [Qa0] at e
 obtain ⟨u,s1,h1,e⟩:=bind_ok e
 obtain ⟨t,s3,h3,e⟩:=bind_ok e
 obtain ⟨v,s4,h4,e⟩:=bind_ok e
 cases e
 obtain ⟨w1,l1⟩:=Xn _ s hs u s1 h1
 obtain ⟨w2,l2⟩:=Yb s1 w1 t s3 h3
 obtain ⟨w3,l3⟩:=Xn _ s3 w2 v _ h4
 exact ⟨w3,by omega⟩
theorem QfK {s:PS} {x:Int×Bool} (h:QaB s=some x):s.tk.kind≠0:=by
 unfold QaB at h
 split at h
 ·omega
 ·split at h
  ·cases h
  ·omega
theorem Qaq:Eat 1 ZK:=fun s hs a s2 e=>by
 rw [ZK] at e
 split at e
 ·rename_i hk
  have hl:=Xh hs (by omega)
  have hw:=XY hs
  split at e
  ·cases e;exact ⟨hw,by omega⟩
  split at e
  ·cases e;exact ⟨hw,by omega⟩
  split at e
  ·obtain ⟨h1,h2⟩:=QjG 11 s.nx hw a s2 e
   exact ⟨h1,by omega⟩
  split at e
  ·obtain ⟨h1,h2⟩:=QjG 12 s.nx hw a s2 e
   exact ⟨h1,by omega⟩
  ·cases e
 ·obtain ⟨t,s1,h1,e⟩:=bind_ok e
  obtain ⟨w1,l1⟩:=Yb s hs t s1 h1
  cases hc:QaB s1 with
  |some x =>
   obtain ⟨op,turn⟩:=x
   rw [hc] at e
   simp only at e
   have hl:=Xh w1 (QfK hc)
   obtain ⟨u,s3,h3,e⟩:=bind_ok e
   cases e
   obtain ⟨w2,l2⟩:=Yb s1.nx (XY w1) u _ h3
   exact ⟨w2,by omega⟩
  |none =>
   rw [hc] at e
   simp only at e
   split at e
   ·cases e;exact ⟨w1,l1⟩
   ·cases e
theorem QcG (most:Nat):∀ (m:Nat) (l:List G),Eat 1 (X5 most m l)
 |0,_=>fun s _ a s2 e=>by cases e
 |m+1,l=>fun s hs a s2 e=>by
  rw [X5] at e
  split at e
  ·cases e
  ·obtain ⟨g,s1,h1,e⟩:=bind_ok e
   obtain ⟨w1,l1⟩:=Qaq s hs g s1 h1
   split at e
   ·cases e
   ·split at e
    ·rename_i hc
     have hl:=Xh w1 (by rw [Ye hc];decide)
     obtain ⟨w2,l2⟩:=QcG most m _ s1.nx (XY w1) a s2 e
     exact ⟨w2,by omega⟩
    ·cases e;exact ⟨w1,l1⟩
theorem Qbh (most:Nat):Eat 1 (Yi most):=fun s hs a s2 e=>QcG most _ [] s hs a s2 e
theorem Qcz (pre:Nat):∀ (m:Nat) (l:List G),Eat 1 (Yh pre m l)
 |0,_=>fun s _ a s2 e=>by cases e
 |m+1,l=>fun s hs a s2 e=>by
  rw [Yh] at e
  split at e
  ·cases e
  ·obtain ⟨g,s1,h1,e⟩:=bind_ok e
   obtain ⟨w1,l1⟩:=Qdx (Yb.less (Nat.zero_le 1)) s hs g s1 h1
   split at e
   ·cases e
   ·split at e
    ·rename_i hc
     have hl:=Xh w1 (by rw [Ye hc];decide)
     obtain ⟨w2,l2⟩:=Qcz pre m _ s1.nx (XY w1) a s2 e
     exact ⟨w2,by omega⟩
    ·cases e;exact ⟨w1,l1⟩
theorem Qat (pre:Nat):Eat 1 (Yc pre):=fun s hs a s2 e=>Qcz pre _ [] s hs a s2 e
theorem Qah (name:ByteArray) (keep remove:List G):Eat 1 (Za name keep remove):=fun s hs a s2 e=>by
 unfold Za at e
 simp only at e
 obtain ⟨b,s1,h1,e⟩:=bind_ok e
 obtain ⟨w1,l1⟩:=Qbh 12 s hs b s1 h1
 split at e
 ·rename_i hc
  have hl:=Xh w1 (by rw [Ye hc];decide)
  obtain ⟨b2,s3,h3,e⟩:=bind_ok e
  obtain ⟨w2,l2⟩:=Qbh 12 s1.nx (XY w1) b2 s3 h3
  obtain ⟨u,s4,h4,e⟩:=bind_ok e
  cases e
  obtain ⟨w3,l3⟩:=Xn _ s3 w2 u _ h4
  exact ⟨w3,by omega⟩
 ·obtain ⟨u,s4,h4,e⟩:=bind_ok e
  cases e
  obtain ⟨w3,l3⟩:=Xn _ s1 w1 u _ h4
  exact ⟨w3,by omega⟩
theorem QlH:Eat 1 YJ:=fun s hs a s2 e=>by
 have body:∀ (name:ByteArray),Eat 1 fun s=>(Yc 0 s).bind fun first s =>
   if s.is Qay then Za name [] first s.nx else if s.is Qe2 then Za name first [] s.nx else
   if s.is QeO then (Yc first.length s.nx).bind fun rem s=>(XC Qay s).bind fun _ s=>Za name first rem s else .err s.tk.pos 16:=fun name s hs a s2 e=>by
  simp only at e
  obtain ⟨f,s1,h1,e⟩:=bind_ok e
  obtain ⟨w1,l1⟩:=Qat 0 s hs f s1 h1
  split at e
  ·rename_i hc
   have hl:=Xh w1 (by rw [Ye hc];decide)
   obtain ⟨w2,l2⟩:=Qah name [] f s1.nx (XY w1) a s2 e
   exact ⟨w2,by omega⟩
  split at e
  ·rename_i hc
   have hl:=Xh w1 (by rw [Ye hc];decide)
   obtain ⟨w2,l2⟩:=Qah name f [] s1.nx (XY w1) a s2 e
   exact ⟨w2,by omega⟩
  split at e
  ·rename_i hc
   have hl:=Xh w1 (by rw [Ye hc];decide)
   obtain ⟨r,s3,h3,e⟩:=bind_ok e
   obtain ⟨w2,l2⟩:=Qat _ s1.nx (XY w1) r s3 h3
   obtain ⟨u,s4,h4,e⟩:=bind_ok e
   obtain ⟨w3,l3⟩:=Xn _ s3 w2 u s4 h4
   obtain ⟨w4,l4⟩:=Qah name f r s4 w3 a s2 e
   exact ⟨w4,by omega⟩
  ·cases e
 unfold YJ at e
 simp only at e
 split at e
 ·obtain ⟨x,s1,h1,e⟩:=bind_ok e
  obtain ⟨w1,l1⟩:=YM s hs x s1 h1
  have hle:=QaO w1
  obtain ⟨w2,l2⟩:=body x s1.nx (XY w1) a s2 e
  exact ⟨w2,by omega⟩
 ·exact body eB s hs a s2 e
theorem QgC:Eat 1 Yv:=fun s hs a s2 e=>by
 rw [Yv] at e
 obtain ⟨r,s1,h1,e⟩:=bind_ok e
 cases e
 exact QlH ⟨s.toks,[]⟩ hs r _ h1
theorem QbZ:∀ (m:Nat) (l:List Dc),Eat 1 (Y6 m l)
 |0,_=>fun s _ a s2 e=>by cases e
 |m+1,l=>fun s hs a s2 e=>by
  rw [Y6] at e
  split at e
  ·cases e
  ·obtain ⟨x,s1,h1,e⟩:=bind_ok e
   obtain ⟨w1,l1⟩:=YM s hs x s1 h1
   obtain ⟨u,s3,h3,e⟩:=bind_ok e
   obtain ⟨w2,l2⟩:=Xn _ s1 w1 u s3 h3
   split at e
   ·cases e
   ·rename_i hk
    have hl:=Xh w2 (by omega)
    split at e
    ·cases e
    ·split at e
     ·rename_i hc
      have hle:=QaO (XY w2)
      obtain ⟨w3,l3⟩:=QbZ m _ s3.nx.nx (XY (XY w2)) a s2 e
      exact ⟨w3,by omega⟩
     ·obtain ⟨v,s4,h4,e⟩:=bind_ok e
      cases e
      obtain ⟨w3,l3⟩:=Xn _ s3.nx (XY w2) v _ h4
      exact ⟨w3,by omega⟩
def tkS (t u:Tk):Prop:=t.kind=u.kind∧t.text=u.text
def lSim:List Tk→List Tk→Prop
 |[],[]=>True
 |t::l,u::m=>tkS t u∧(∀ t2 u2,l.head? = some t2→m.head? = some u2→t2.kind=3→t.kind=4∧t.text.toList=Qdb→(t2.pos=t.pos+1↔u2.pos=u.pos+1))∧lSim l m
 |_,_=>False
def Ends (r:List Tk):Prop:=∃ e,r=[e]∧e.kind=0∧e.text=eB
structure Sm (r:List Tk) (s s':PS):Prop where
 ex:∃ l m e,s.toks=l++[e]∧(e.kind=0∧e.text=eB)∧(∀ t∈l,t.kind≠0)∧s'.toks=m++r∧lSim l m
 w:s'.wf
 n:s.names=s'.names
theorem Sm.wf {r:List Tk} {s s':PS} (h:Sm r s s'):s.wf:=by
 obtain ⟨l,m,e,h1,h2,h3,_⟩:=h.ex
 exact ⟨l,e,h1,h2.1,h3⟩
def Lv (r:List Tk) (s:PS):Prop:=1<s.toks.length∨Ends r
def RelP {α:Type} (r:List Tk) (x y:PR α):Prop:=match x with
 | .ok a s2=>Lv r s2→∃ s2',y = .ok a s2'∧Sm r s2 s2'
 | .err _ e=>Ends r→∃ p,y = .err p e
theorem Lv.up {r:List Tk} {s s2:PS} (h:Lv r s2) (hl:s2.toks.length≤s.toks.length):Lv r s:=h.imp (fun h=>by omega) id
theorem Qel {α:Type} {r:List Tk} {f f':PS→PR α} (H:Eat 0 f) {s s':PS} (hs:s.wf) (h:Lv r s→RelP r (f s) (f' s')):RelP r (f s) (f' s'):=by
 by_cases hl:Lv r s
 ·exact h hl
 ·cases hf:f s with
  |ok a s2=>exact fun h2=>absurd (h2.up (H s hs a s2 hf).2) hl
  |err p e=>exact fun h2=>absurd (.inr h2) hl
theorem ZM {α β:Type} {r:List Tk} {x y:PR α} {f g:α→PS→PR β} (hx:RelP r x y) (H:∀ a s2,x = .ok a s2→Lv r s2∨¬ Lv r s2) (hl:∀ a s2 b s3,x = .ok a s2→f a s2 = .ok b s3→s3.toks.length≤s2.toks.length)
  (hf:∀ a s2 s2',x = .ok a s2→y = .ok a s2'→Sm r s2 s2'→Lv r s2→RelP r (f a s2) (g a s2')):RelP r (x.bind f) (y.bind g):=by
 cases x with
 |err p e =>
  intro he
  obtain ⟨p',rfl⟩:=hx he
  exact ⟨p',rfl⟩
 |ok a s2 =>
  by_cases hv:Lv r s2
  ·obtain ⟨s2',rfl,hS⟩:=hx hv
   exact hf a s2 s2' rfl rfl hS hv
  ·show RelP r (f a s2) _
   cases hfa:f a s2 with
   |ok b s3=>exact fun h=>absurd (h.up (hl a s2 b s3 rfl hfa)) hv
   |err p e=>exact fun h=>absurd (.inr h) hv
theorem Sm.tk {r:List Tk} {s s':PS} (h:Sm r s s') (hl:Lv r s):tkS s.tk s'.tk:=by
 obtain ⟨l,m,e,h1,h2,h3,h4,h5⟩:=h.ex
 cases l with
 |nil =>
  cases m with
  |cons u m=>exact h5.elim
  |nil =>
   rcases hl with hl|⟨e',rfl,he',hx'⟩
   ·rw [h1] at hl;simp at hl
   ·have a1:s.tk=e:=by simp only [PS.tk,h1,QrQ,List.headD_cons]
    have a2:s'.tk=e':=by simp only [PS.tk,h4,QrQ,List.headD_cons]
    rw [a1,a2]
    exact ⟨by rw [h2.1,he'],by rw [h2.2,hx']⟩
 |cons t l =>
  cases m with
  |nil=>exact h5.elim
  |cons u m =>
   have a1:s.tk=t:=by simp only [PS.tk,h1,QrR,List.headD_cons]
   have a2:s'.tk=u:=by simp only [PS.tk,h4,QrR,List.headD_cons]
   rw [a1,a2];exact h5.1
theorem Sm.ne {r:List Tk} {s s':PS} (h:Sm r s s'):r≠[]:=by
 intro hr
 obtain ⟨l,m,e,h1,h2,h3,h4,h5⟩:=h.ex
 obtain ⟨l',e',g1,g2,g3⟩:=h.w
 subst hr
 rw [List.append_nil] at h4
 rw [h4] at g1
 have key:∀ (l m:List Tk),lSim l m→(∀ t∈l,t.kind≠0)→∀ u∈m,u.kind≠0:=by
  intro l
  induction l with
  |nil=>intro m h _ u hu;cases m with
   |nil=>cases hu
   |cons=>exact h.elim
  |cons t l ih =>
   intro m h ha u hu
   cases m with
   |nil=>exact h.elim
   |cons v m =>
    rcases List.mem_cons.1 hu with rfl|hu
    ·rw [← h.1.1];exact ha t (by simp)
    ·exact ih m h.2.2 (fun x hx=>ha x (by simp [hx])) u hu
 exact key l m h5 h3 e' (by rw [g1];simp) g2
theorem Qf0 {s:PS} {t:Tk} {l:List Tk} (h:s.toks=t::l) (hl:l≠[]):s.nx.toks=l:=by
 cases l with
 |nil=>exact absurd rfl hl
 |cons u l=>simp only [PS.nx,h]
theorem Qoq {s:PS} {t:Tk} (h:s.toks=[t]):s.nx.toks=[t]:=by simp only [PS.nx,h]
theorem Sm.nx {r:List Tk} {s s':PS} (h:Sm r s s') (hl:Lv r s):Sm r s.nx s'.nx:=by
 have hne:=h.ne
 refine ⟨?_,XY h.w,h.n⟩
 obtain ⟨l,m,e,h1,h2,h3,h4,h5⟩:=h.ex
 cases l with
 |nil =>
  cases m with
  |cons u m=>exact h5.elim
  |nil =>
   rcases hl with hl|⟨e',rfl,he'⟩
   ·rw [h1] at hl;simp at hl
   ·exact ⟨[],[],e,Qoq h1,h2,h3,Qoq h4,trivial⟩
 |cons t l =>
  cases m with
  |nil=>exact h5.elim
  |cons u m=>exact ⟨l,m,e,Qf0 h1 (by simp),h2,fun x hx=>h3 x (by simp [hx]),Qf0 h4 (by simp [hne]),h5.2.2⟩
theorem Sm.is {r:List Tk} {s s':PS} (h:Sm r s s') (hl:Lv r s) (b:List UInt8):s'.is b=s.is b:=by
 obtain ⟨h1,h2⟩:=h.tk hl
 rw [PS.is,PS.is,h1,h2]
theorem Sm.oneOf {r:List Tk} {s s':PS} (h:Sm r s s') (hl:Lv r s) (l:List (List UInt8)):s'.oneOf l=s.oneOf l:=by
 have:s'.is=s.is:=funext fun b=>h.is hl b
 rw [PS.oneOf,PS.oneOf,this]
def PS.far (s:PS):Prop:=s.nx.tk.kind≠3∨s.nx.tk.pos≠s.tk.pos+1
theorem Sm.far {r:List Tk} {s s':PS} (h:Sm r s s') (hk:s.tk.kind=4∧s.tk.text.toList=Qdb):(s.far∧(Ends r→s'.far))∨(s.far↔s'.far):=by
 have hne:=h.ne
 obtain ⟨l,m,e,h1,h2,h3,h4,h5⟩:=h.ex
 cases l with
 |nil =>
  have a1:s.tk=e:=by simp only [PS.tk,h1,QrQ,List.headD_cons]
  rw [a1,h2.1] at hk;cases hk.1
 |cons t l =>
  cases m with
  |nil=>exact h5.elim
  |cons u m =>
   have a1:s.tk=t:=by simp only [PS.tk,h1,QrR,List.headD_cons]
   have a2:s'.tk=u:=by simp only [PS.tk,h4,QrR,List.headD_cons]
   have b1:s.nx.toks=l++[e]:=Qf0 h1 (by simp)
   have b2:s'.nx.toks=m++r:=Qf0 h4 (by simp [hne])
   cases l with
   |nil =>
    cases m with
    |cons=>exact h5.2.2.elim
    |nil =>
     have c1:s.nx.tk=e:=by simp only [PS.tk,b1,QrQ,List.headD_cons]
     refine .inl ⟨.inl (by rw [c1,h2.1];decide),fun ⟨e',he,h6,_⟩=>.inl ?_⟩
     have c2:s'.nx.tk=e':=by simp only [PS.tk,b2,he,QrQ,List.headD_cons]
     rw [c2,h6];decide
   |cons t2 l =>
    cases m with
    |nil=>exact h5.2.2.elim
    |cons u2 m =>
     have c1:s.nx.tk=t2:=by simp only [PS.tk,b1,QrR,List.headD_cons]
     have c2:s'.nx.tk=u2:=by simp only [PS.tk,b2,QrR,List.headD_cons]
     refine .inr ?_
     rw [PS.far,PS.far,a1,a2,c1,c2,← h5.2.2.1.1]
     rw [a1] at hk
     by_cases k3:t2.kind=3
     ·have:=h5.2.1 t2 u2 rfl rfl k3 hk
      simp only [k3,ne_eq,not_true_eq_false,false_or,this]
     ·simp [k3]
theorem Qbn {r:List Tk} {s s':PS} (h:Sm r s s') (b:List UInt8):RelP r (XC b s) (XC b s'):=Qel ((Xn b).less (Nat.zero_le 1)) h.wf fun hl=>by
 rw [XC,XC,h.is hl]
 split
 ·exact fun _=>⟨_,rfl,h.nx hl⟩
 ·exact fun _=>⟨_,rfl⟩
theorem QgB {r:List Tk} {s s':PS} (h:Sm r s s'):RelP r (Zq s) (Zq s'):=Qel (YM.less (Nat.zero_le 1)) h.wf fun hl=>by
 obtain ⟨h1,h2⟩:=h.tk hl
 rw [Zq,Zq,← h1,← h2]
 split
 ·exact fun _=>⟨_,rfl⟩
 ·split
  ·exact fun _=>⟨_,rfl⟩
  ·exact fun _=>⟨_,rfl,h.nx hl⟩
theorem Qob {r:List Tk} {s s':PS} (h:Sm r s s'):0<s'.toks.length:=by
 obtain ⟨l,e,hl,_⟩:=h.w
 rw [hl];simp
theorem Qjs {r:List Tk} {ex ex':PS→PR T} {N N':Nat} (H:Eat 0 ex) (H':Eat 0 ex') (hx:∀ s s',Sm r s s'→s.toks.length≤N→s'.toks.length≤N'→RelP r (ex s) (ex' s')):∀ (m m':Nat) (l:List T) (s s':PS),Sm r s s'→s.toks.length≤N→s'.toks.length≤N'→s.toks.length<m→s'.toks.length<m'→RelP r (YK ex m l s) (YK ex' m' l s')
 |0,_,_,_,_,_,_,_,h,_=>by omega
 |_,0,_,_,_,_,_,_,_,h=>by omega
 |m+1,m'+1,l,s,s',h,hN,hN',hm,hm'=>by
  rw [YK,YK]
  refine ZM (hx s s' h hN hN') (fun a s2 _=>Classical.em _) (fun t s1 b s3 h1 h2=>?_) fun t s1 s1' h1 h1' hS hl=>?_
  ·have w1:=(H s h.wf t s1 h1).1
   split at h2
   ·have:=QaO w1
    have:=(QdC H m _ s1.nx (XY w1) b s3 h2).2
    omega
   ·obtain ⟨u,s4,h3,h4⟩:=bind_ok h2
    cases h4
    have:=(Xn _ s1 w1 u _ h3).2;omega
  ·obtain ⟨w1,l1⟩:=H s h.wf t s1 h1
   obtain ⟨w1',l1'⟩:=H' s' h.w t s1' h1'
   rw [hS.is hl]
   split
   ·rename_i hc
    have e1:=Xh w1 (by rw [Ye hc];decide)
    have e2:=Xh w1' (by rw [Ye (by rw [hS.is hl];exact hc)];decide)
    exact Qjs H H' hx m m' _ s1.nx s1'.nx (hS.nx hl) (by omega) (by omega) (by omega) (by omega)
   ·refine ZM (Qbn hS _) (fun a s2 _=>Classical.em _) (fun u s2 b s3 h3 h4=>by cases h4;exact Nat.le_refl _) fun u s2 s2' _ _ hS2 _=>fun _=>⟨_,rfl,hS2⟩
theorem Qi6 {r:List Tk} {ex ex':PS→PR T} {N N':Nat} (H:Eat 0 ex) (H':Eat 0 ex') (hx:∀ s s',Sm r s s'→s.toks.length≤N→s'.toks.length≤N'→RelP r (ex s) (ex' s')) {s s':PS} (h:Sm r s s') (hN:s.toks.length≤N+1) (hN':s'.toks.length≤N'+1):RelP r (Yk ex s) (Yk ex' s'):=by
 rw [Yk,Yk]
 refine ZM (QgB h) (fun a s2 _=>Classical.em _) (fun t s1 b s3 h1 h2=>?_) fun x s1 s1' h1 h1' hS hl=>?_
 ·have w1:=(YM s h.wf t s1 h1).1
  split at h2
  ·obtain ⟨l,s4,h3,h4⟩:=bind_ok h2
   cases h4
   have:=QaO w1
   have:=(QdC H _ _ s1.nx (XY w1) l _ h3).2
   omega
  ·cases h2;exact Nat.le_refl _
 ·obtain ⟨w1,l1⟩:=YM s h.wf x s1 h1
  obtain ⟨w1',l1'⟩:=YM s' h.w x s1' h1'
  rw [hS.is hl]
  split
  ·rename_i hc
   have e1:=Xh w1 (by rw [Ye hc];decide)
   have e2:=Xh w1' (by rw [Ye (by rw [hS.is hl];exact hc)];decide)
   refine ZM (Qjs H H' hx _ _ [] s1.nx s1'.nx (hS.nx hl) (by omega) (by omega) (by omega) (by omega)) (fun a s2 _=>Classical.em _) (fun u s2 b s3 h3 h4=>by cases h4;exact Nat.le_refl _) fun u s2 s2' _ _ hS2 _=>fun _=>⟨_,rfl,hS2⟩
  ·exact fun _=>⟨_,rfl,hS⟩
theorem QoL {r:List Tk} {ex ex':PS→PR T} {N N':Nat} (H:Eat 0 ex) (H':Eat 0 ex') (hx:∀ s s',Sm r s s'→s.toks.length≤N→s'.toks.length≤N'→RelP r (ex s) (ex' s')) {s s':PS} (h:Sm r s s') (hN:s.toks.length≤N+1) (hN':s'.toks.length≤N'+1):RelP r (pOpT ex s) (pOpT ex' s') :=
 Qel ((QcH H).less (Nat.zero_le 1)) h.wf fun hl=>by
 obtain ⟨hk,ht⟩:=h.tk hl
 rw [pOpT,pOpT,← hk,← ht,h.is hl,h.is hl]
 split
 ·exact fun _=>⟨_,rfl,h.nx hl⟩
 split
 ·intro _
  have hS:=h.nx hl
  have e1:(pVari s.tk.text s.nx).1=(pVari s.tk.text s'.nx).1∧(pVari s.tk.text s.nx).2.names=(pVari s.tk.text s'.nx).2.names:=by
   rw [pVari,pVari,hS.n]
   split
   ·exact ⟨rfl,hS.n⟩
   ·exact ⟨rfl,rfl⟩
  refine ⟨_,by rw [e1.1],?_,?_,e1.2⟩
  ·obtain ⟨l,m,e,h1,h2⟩:=hS.ex
   exact ⟨l,m,e,by rw [Qaw];exact h1,h2.1,h2.2.1,by rw [Qaw];exact h2.2.2.1,h2.2.2.2⟩
  ·obtain ⟨l,e,h1,h2⟩:=hS.w
   exact ⟨l,e,by rw [Qaw];exact h1,h2⟩
 split
 ·refine ZM (Qi6 H H' hx h hN hN') (fun a s2 _=>Classical.em _) (fun u s2 b s3 h3 h4=>by cases h4;exact Nat.le_refl _) fun u s2 s2' _ _ hS2 _=>fun _=>⟨_,rfl,hS2⟩
 split
 ·rename_i hm
  have hkm:s.tk.kind=4∧s.tk.text.toList=Qdb:=by simpa [PS.is] using hm
  rcases h.far hkm with ⟨f1,f2⟩|f1
  ·have f1':s.nx.tk.kind≠3∨s.nx.tk.pos≠s.tk.pos+1:=f1
   rw [if_pos f1']
   intro he
   have f2':s'.nx.tk.kind≠3∨s'.nx.tk.pos≠s'.tk.pos+1:=f2 he
   rw [if_pos f2']
   exact ⟨_,rfl⟩
  ·by_cases f2:s.far
   ·have f1':s.nx.tk.kind≠3∨s.nx.tk.pos≠s.tk.pos+1:=f2
    have f2':s'.nx.tk.kind≠3∨s'.nx.tk.pos≠s'.tk.pos+1:=f1.1 f2
    rw [if_pos f1',if_pos f2']
    exact fun _=>⟨_,rfl⟩
   ·have f1':¬ (s.nx.tk.kind≠3∨s.nx.tk.pos≠s.tk.pos+1):=f2
    have f2':¬ (s'.nx.tk.kind≠3∨s'.nx.tk.pos≠s'.tk.pos+1):=fun q=>f2 (f1.2 q)
    rw [if_neg f1',if_neg f2']
    intro hv
    have hS:=h.nx hl
    have hl2:Lv r s.nx:=hv.up (QaO (XY h.wf))
    obtain ⟨_,ht2⟩:=hS.tk hl2
    exact ⟨_,by rw [ht2],hS.nx hl2⟩
 split
 ·rename_i hm
  have e1:=Xh h.wf (by rw [Ye hm];decide)
  have e2:=Xh h.w (by rw [Ye (by rw [h.is hl];exact hm)];decide)
  have hS:=h.nx hl
  refine ZM (hx s.nx s'.nx hS (by omega) (by omega)) (fun a s2 _=>Classical.em _) (fun t s1 b s3 h1 h2=>?_) fun t s1 s1' h1 h1' hS1 hl1=>?_
  ·have w1:=(H s.nx (XY h.wf) t s1 h1).1
   obtain ⟨u,s4,h3,h4⟩:=bind_ok h2
   cases h4
   have:=(Xn _ s1 w1 u _ h3).2;omega
  ·refine ZM (Qbn hS1 _) (fun a s2 _=>Classical.em _) (fun u s2 b s3 h3 h4=>by cases h4;exact Nat.le_refl _) fun u s2 s2' _ _ hS2 _=>fun _=>⟨_,rfl,hS2⟩
 ·exact fun _=>⟨_,rfl⟩
theorem Qc1 {α:Type} (f:PS→α):Eat 0 fun s=>.ok (f s) s:=fun s hs a s2 e=>by cases e;exact ⟨hs,Nat.le_refl _⟩
theorem Qix {α:Type} {k:Nat} (p:PS→Int) (e:Int):Eat k fun s=>(.err (p s) e:PR α):=fun s hs a s2 e=>by cases e
theorem ZE {α β:Type} {k:Nat} {F:PS→PR α} {f:PS→α→PS→PR β} (hF:Eat 0 F) (hf:∀ s0 a,Eat k (f s0 a)):Eat k fun s=>(F s).bind (f s):=fun s hs a s2 e=>by
 obtain ⟨b,s1,h1,h2⟩:=bind_ok e
 obtain ⟨w1,l1⟩:=hF s hs b s1 h1
 obtain ⟨w2,l2⟩:=hf s b s1 w1 a s2 h2
 exact ⟨w2,by omega⟩
theorem Qjc {α β:Type} {k:Nat} {F:PS→PR α} {f:PS→α→PS→PR β} (hF:Eat 1 F) (hf:∀ s0 a,Eat k (f s0 a)):Eat (k+1) fun s=>(F s).bind (f s):=fun s hs a s2 e=>by
 obtain ⟨b,s1,h1,h2⟩:=bind_ok e
 obtain ⟨w1,l1⟩:=hF s hs b s1 h1
 obtain ⟨w2,l2⟩:=hf s b s1 w1 a s2 h2
 exact ⟨w2,by omega⟩
theorem QaI {α:Type} {k:Nat} {c:PS→Prop} [∀ s,Decidable (c s)] {f g:PS→PR α} (hf:Eat k f) (hg:Eat k g):Eat k fun s=>if c s then f s else g s:=fun s hs a s2 e=>by
 dsimp only at e
 split at e
 ·exact hf s hs a s2 e
 ·exact hg s hs a s2 e
theorem Qcm {α:Type} {k:Nat} {f:PS→PR α} (hf:Eat k f):Eat k fun s=>f s.nx:=fun s hs a s2 e=>by
 obtain ⟨w,l⟩:=hf s.nx (XY hs) a s2 e
 have:=QaO hs
 exact ⟨w,by omega⟩
def RelQ {α:Type} (r:List Tk) (x y:PR α):Prop:=match x with
 | .ok a s2=>∃ s2',y = .ok a s2'∧Sm r s2 s2'
 | .err _ e=>Ends r→∃ p,y = .err p e
theorem RelQ.p {α:Type} {r:List Tk} {x y:PR α} (h:RelQ r x y):RelP r x y:=by
 cases x with
 |ok a s2=>exact fun _=>h
 |err p e=>exact h
theorem Qn7 {s:PS} (h:s.wf):0<s.toks.length:=by
 obtain ⟨l,e,hl,_⟩:=h
 rw [hl];simp
theorem QiD {α:Type} {r:List Tk} {f:PS→PR α} {k:Nat} (H:Eat k f) {s:PS} (hs:s.wf) (hl:¬ Lv r s) (hk:s.toks.length≤k) (y:PR α):RelQ r (f s) y:=by
 cases hf:f s with
 |ok a s2 =>
  obtain ⟨w,l⟩:=H s hs a s2 hf
  have:=Qn7 w
  omega
 |err p e=>exact fun h=>absurd (.inr h) hl
theorem Qj0 {r:List Tk} {s:PS} (h:¬ Lv r s):s.toks.length≤1:=Nat.le_of_not_lt fun q=>h (.inl q)
theorem Qaj {α β:Type} {r:List Tk} {F F':PS→PR α} {f g:α→PS→PR β} {s s':PS} (hS:Sm r s s') (hF:Eat 0 F) (hf0:∀ a,Eat 1 (f a)) (hx:RelP r (F s) (F' s'))
  (hf:∀ a s2 s2',F s = .ok a s2→F' s' = .ok a s2'→Sm r s2 s2'→Lv r s2→RelQ r (f a s2) (g a s2')):RelQ r ((F s).bind f) ((F' s').bind g):=by
 cases h1:F s with
 |err p e =>
  rw [h1] at hx
  intro he
  obtain ⟨p',h2⟩:=hx he
  rw [h2]
  exact ⟨p',rfl⟩
 |ok a s2 =>
  rw [h1] at hx
  by_cases hv:Lv r s2
  ·obtain ⟨s2',h2,h3⟩:=hx hv
   rw [h2]
   exact hf a s2 s2' h1 h2 h3 hv
  ·exact QiD (hf0 a) (hF s hS.wf a s2 h1).1 hv (Qj0 hv) _
theorem Qek {r:List Tk} {s s':PS} (h:Sm r s s') (b:List UInt8):RelQ r (XC b s) (XC b s'):=by
 by_cases hl:Lv r s
 ·rw [XC,XC,h.is hl]
  split
  ·exact ⟨_,rfl,h.nx hl⟩
  ·exact fun _=>⟨_,rfl⟩
 ·exact QiD (Xn b) h.wf hl (Qj0 hl) _
theorem Qpg {α:Type} {r:List Tk} {f f':PS→PR α} (H:Eat 1 f) {s s':PS} (hs:s.wf) (h:Lv r s→RelQ r (f s) (f' s')):RelQ r (f s) (f' s'):=by
 by_cases hl:Lv r s
 ·exact h hl
 ·exact QiD H hs hl (Qj0 hl) _
theorem QpZ {s:PS} (h:s.wf):s.toks.length≤s.nx.toks.length+1:=by
 by_cases hk:s.tk.kind=0
 ·obtain ⟨l,e,hl,he,ha⟩:=h
  cases l with
  |nil=>rw [hl];simp
  |cons t l =>
   have:s.tk=t:=by simp only [PS.tk,hl,QrR,List.headD_cons]
   rw [this] at hk;exact absurd hk (ha t (by simp))
 ·have:=Xh h hk;omega
theorem QdE {α β:Type} {r:List Tk} {x y:PR α} {f:α→β} (h:RelQ r x y):RelQ r (x.bind fun a s=>.ok (f a) s) (y.bind fun a s=>.ok (f a) s):=by
 cases x with
 |err p e =>
  intro he
  obtain ⟨p',rfl⟩:=h he
  exact ⟨p',rfl⟩
 |ok a s2 =>
  obtain ⟨s2',rfl,hS⟩:=h
  exact ⟨s2',rfl,hS⟩
theorem ZV {α β:Type} {r:List Tk} {F F':PS→PR α} {f g:α→PS→PR β} {s s':PS} (hS:Sm r s s') (hF:Eat 0 F) (hf0:∀ a,Eat 0 (f a)) (hx:RelP r (F s) (F' s'))
  (hf:∀ a s2 s2',F s = .ok a s2→F' s' = .ok a s2'→Sm r s2 s2'→Lv r s2→RelP r (f a s2) (g a s2')):RelP r ((F s).bind f) ((F' s').bind g) :=
 ZM hx (fun _ _ _=>Classical.em _) (fun a s2 b s3 h1 h2=>(hf0 a s2 (hF s hS.wf a s2 h1).1 b s3 h2).2) hf
theorem Eat.z {α:Type} {f:PS→PR α} (h:Eat 1 f):Eat 0 f:=h.less (Nat.zero_le 1)
theorem QfT {r:List Tk} {op op':PS→PR T} {N N':Nat} (H:Eat 0 op) (H':Eat 0 op') (ops:List (List UInt8)) (hx:∀ s s',Sm r s s'→s.toks.length≤N→s'.toks.length≤N'→RelP r (op s) (op' s')):∀ (m m':Nat) (t:T) (s s':PS),Sm r s s'→s.toks.length≤N+1→s'.toks.length≤N'+1→s.toks.length≤m→s'.toks.length≤m'→RelP r (Xz op ops m t s) (Xz op' ops m' t s')
 |0,_,_,s,s',h,_,_,hm,_=>by
  obtain ⟨l,e,hl,_⟩:=h.wf
  rw [hl] at hm;simp at hm
 |_,0,_,s,s',h,_,_,_,hm=>absurd (Qob h) (by omega)
 |m+1,m'+1,t,s,s',h,hN,hN',hm,hm'=>Qel (Qau H ops (m+1) t) h.wf fun hl=>by
  rw [Xz,Xz,h.oneOf hl,← (h.tk hl).2]
  split
  ·rename_i hc
   have e1:=Xh h.wf (by rw [Qbt hc];decide)
   have e2:=Xh h.w (by rw [Qbt (by rw [h.oneOf hl];exact hc)];decide)
   refine ZV (h.nx hl) H (fun a=>Qau H ops m _) (hx _ _ (h.nx hl) (by omega) (by omega)) fun u s1 s1' h1 h1' hS _=>?_
   have l1:=(H s.nx (XY h.wf) u s1 h1).2
   have l2:=(H' s'.nx (XY h.w) u s1' h1').2
   exact QfT H H' ops hx m m' _ s1 s1' hS (by omega) (by omega) (by omega) (by omega)
  ·exact fun _=>⟨_,rfl,h⟩
theorem QhO {r:List Tk} {op op':PS→PR T} {N N':Nat} (H:Eat 0 op) (H':Eat 0 op') (ops:List (List UInt8)) (hx:∀ s s',Sm r s s'→s.toks.length≤N→s'.toks.length≤N'→RelP r (op s) (op' s')) (s s':PS) (h:Sm r s s') (hN:s.toks.length≤N) (hN':s'.toks.length≤N'):RelP r (XU op ops s) (XU op' ops s'):=by
 rw [XU,XU]
 refine ZV h H (fun a s hs b s2 e=>Qau H ops _ a s hs b s2 e) (hx s s' h hN hN') fun t s1 s1' h1 h1' hS _=>?_
 have l1:=(H s h.wf t s1 h1).2
 have l2:=(H' s' h.w t s1' h1').2
 exact QfT H H' ops hx _ _ t s1 s1' hS (by omega) (by omega) (Nat.le_refl _) (Nat.le_refl _)
theorem QnU {r:List Tk}:∀ (N N' n n':Nat),N<n→N'<n'→∀ s s',Sm r s s'→s.toks.length≤N→s'.toks.length≤N'→RelP r (XT n s) (XT n' s'):=by
 intro N
 induction N with
 |zero=>intro N' n n' _ _ s s' h hl;obtain ⟨l,e,he,_⟩:=h.wf;rw [he] at hl;simp at hl
 |succ N ih =>
  intro N' n n' hn hn' s s' h hl hl'
  obtain ⟨N',rfl⟩:∃ a,N'=a+1:=⟨N' - 1,by have:=Qob h;omega⟩
  obtain ⟨a,rfl⟩:∃ a,n=a+1:=⟨n - 1,by omega⟩
  obtain ⟨a',rfl⟩:∃ a',n'=a'+1:=⟨n' - 1,by omega⟩
  have E1:=(Qaz a).z
  have E2:=(Qaz a').z
  have O1:=(QcH E1).z
  have O2:=(QcH E2).z
  rw [XT,XT]
  exact QhO (QaC O1 Yt) (QaC O2 Yt) ZQ (fun s s' h hN hN'=>QhO O1 O2 Yt (fun s s' h hN hN'=>QoL E1 E2 (fun s s' h hN hN'=>ih N' a a' (by omega) (by omega) s s' h hN hN') h hN hN') s s' h hN hN') s s' h hl hl'
theorem QdD {r:List Tk} {s s':PS} (h:Sm r s s'):RelP r (XL s) (XL s'):=QnU _ _ _ _ (Nat.lt_succ_self _) (Nat.lt_succ_self _) s s' h (Nat.le_refl _) (Nat.le_refl _)
theorem Qlh {r:List Tk} {s s':PS} (h:Sm r s s'):RelP r (Yk XL s) (Yk XL s') :=
 Qi6 (N:=s.toks.length) (N':=s'.toks.length) Yb.z Yb.z (fun s s' h _ _=>QdD h) h (Nat.le_succ _) (Nat.le_succ _)
theorem Qea:Eat 1 (Yk XL):=Qdx Yb.z
theorem QkR {r:List Tk} (op:Int) {s s':PS} (h:Sm r s s'):RelP r (Qa0 op s) (Qa0 op s'):=by
 rw [Qa0,Qa0]
 refine ZV h (Xn _).z (fun _=>ZE Yb.z fun _ _=>ZE (Xn _).z fun _ _=>Qc1 _) (Qbn h _) fun _ s1 s1' _ _ h1 _=>?_
 refine ZV h1 Yb.z (fun _=>ZE (Xn _).z fun _ _=>Qc1 _) (QdD h1) fun t s2 s2' _ _ h2 _=>?_
 exact ZV h2 (Xn _).z (fun _=>Qc1 _) (Qbn h2 _) fun _ s3 s3' _ _ h3 _ _=>⟨_,rfl,h3⟩
theorem QoB {r:List Tk} {s s':PS} (h:Sm r s s') (hl:Lv r s):QaB s'=QaB s:=by
 obtain ⟨h1,h2⟩:=h.tk hl
 rw [QaB,QaB,h1,h2]
theorem Qnc {r:List Tk} {s s':PS} (h:Sm r s s'):RelP r (ZK s) (ZK s'):=Qel Qaq.z h.wf fun hl=>by
 obtain ⟨h1,h2⟩:=h.tk hl
 rw [ZK,ZK,← h1,← h2]
 split
 ·split
  ·exact fun _=>⟨_,rfl,h.nx hl⟩
  split
  ·exact fun _=>⟨_,rfl,h.nx hl⟩
  split
  ·exact QkR 11 (h.nx hl)
  split
  ·exact QkR 12 (h.nx hl)
  ·exact fun _=>⟨_,rfl⟩
 ·refine ZV h Yb.z (fun t s2 hs a s3 e=>?_) (QdD h) fun t s2 s2' _ _ hS hl2=>?_
  ·cases hc:QaB s2 with
   |some x =>
    obtain ⟨op,turn⟩:=x
    rw [hc] at e
    simp only at e
    exact (ZE (Qcm Yb.z) fun _ _=>Qc1 _:Eat 0 fun s2=>(XL s2.nx).bind fun u s3=>.ok (⟨op,eB,if turn then [u,t] else [t,u]⟩:G) s3) s2 hs a s3 e
   |none =>
    rw [hc] at e
    simp only at e
    split at e
    ·cases e;exact ⟨hs,Nat.le_refl _⟩
    ·cases e
  ·rw [QoB hS hl2]
   cases hc:QaB s2 with
   |some x =>
    obtain ⟨op,turn⟩:=x
    exact ZV (hS.nx hl2) Yb.z (fun _=>Qc1 _) (QdD (hS.nx hl2)) fun u s3 s3' _ _ h3 _ _=>⟨_,rfl,h3⟩
   |none =>
    simp only
    split
    ·exact fun _=>⟨_,rfl,hS⟩
    ·exact fun _=>⟨_,rfl⟩
theorem Qfe {r:List Tk} (most:Nat):∀ (m m':Nat) (l:List G) (s s':PS),Sm r s s'→s.toks.length<m→s'.toks.length<m'→RelP r (X5 most m l s) (X5 most m' l s')
 |0,_,_,_,_,_,h,_=>by omega
 |_,0,_,_,_,_,_,h=>by omega
 |m+1,m'+1,l,s,s',h,hm,hm'=>by
  rw [X5,X5]
  split
  ·exact fun _=>⟨_,rfl⟩
  ·refine ZV h Qaq.z (fun g=>QaI (Qix _ 6) (QaI (Qcm (QcG most m _).z) (Qc1 _))) (Qnc h) fun g s1 s1' h1 h1' hS hl=>?_
   obtain ⟨w1,l1⟩:=Qaq s h.wf g s1 h1
   obtain ⟨w2,l2⟩:=Qaq s' h.w g s1' h1'
   have i1:=QaO w1
   have i2:=QaO w2
   rw [hS.is hl]
   split
   ·exact fun _=>⟨_,rfl⟩
   ·split
    ·exact Qfe most m m' _ _ _ (hS.nx hl) (by omega) (by omega)
    ·exact fun _=>⟨_,rfl,hS⟩
theorem Qhj {r:List Tk} (most:Nat) {s s':PS} (h:Sm r s s'):RelP r (Yi most s) (Yi most s'):=Qfe most _ _ [] s s' h (Nat.lt_succ_self _) (Nat.lt_succ_self _)
theorem QfB {r:List Tk} (pre:Nat):∀ (m m':Nat) (l:List G) (s s':PS),Sm r s s'→s.toks.length<m→s'.toks.length<m'→RelP r (Yh pre m l s) (Yh pre m' l s')
 |0,_,_,_,_,_,h,_=>by omega
 |_,0,_,_,_,_,_,h=>by omega
 |m+1,m'+1,l,s,s',h,hm,hm'=>by
  rw [Yh,Yh]
  split
  ·exact fun _=>⟨_,rfl⟩
  ·refine ZV h Qea.z (fun g=>QaI (Qix _ 6) (QaI (Qcm (Qcz pre m _).z) (Qc1 _))) (Qlh h) fun g s1 s1' h1 h1' hS hl=>?_
   obtain ⟨w1,l1⟩:=Qea s h.wf g s1 h1
   obtain ⟨w2,l2⟩:=Qea s' h.w g s1' h1'
   have i1:=QaO w1
   have i2:=QaO w2
   rw [hS.is hl]
   split
   ·exact fun _=>⟨_,rfl⟩
   ·split
    ·exact QfB pre m m' _ _ _ (hS.nx hl) (by omega) (by omega)
    ·exact fun _=>⟨_,rfl,hS⟩
theorem Qhk {r:List Tk} (pre:Nat) {s s':PS} (h:Sm r s s'):RelP r (Yc pre s) (Yc pre s'):=QfB pre _ _ [] s s' h (Nat.lt_succ_self _) (Nat.lt_succ_self _)
theorem Qgm {r:List Tk} (name:ByteArray) (keep remove:List G) {s s':PS} (h:Sm r s s'):RelQ r (Za name keep remove s) (Za name keep remove s'):=by
 unfold Za
 simp only
 have fin:∀ (g b:List G),Eat 1 fun s=>(XC sDot s).bind fun _ s=>.ok (⟨name,keep,remove,g,match b with|[x]=>if x.op=1 then [] else b|_=>b,0⟩:Rl) s:=fun g b=>Qjc (Xn _) fun _ _=>Qc1 _
 refine Qaj h (Qbh 12).z (fun b=>QaI (ZE (Qcm (Qbh 12).z) fun _ b2=>fin b b2) (fin [] b)) (Qhj 12 h) fun b s1 s1' _ _ hS hl=>?_
 rw [hS.is hl]
 split
 ·refine Qaj (hS.nx hl) (Qbh 12).z (fun b2=>fin b b2) (Qhj 12 (hS.nx hl)) fun b2 s2 s2' _ _ hS2 _=>?_
  exact QdE (Qek hS2 _)
 ·exact QdE (Qek hS _)
def Qh3 (name:ByteArray) (first:List G) (s:PS):PR Rl:=if s.is Qay then Za name [] first s.nx else if s.is Qe2 then Za name first [] s.nx else
  if s.is QeO then (Yc first.length s.nx).bind fun rem s=>(XC Qay s).bind fun _ s=>Za name first rem s else .err s.tk.pos 16
def Qdn (name:ByteArray) (s:PS):PR Rl:=(Yc 0 s).bind fun first s=>Qh3 name first s
theorem Z8 (s:PS):YJ s=if s.tk.kind=1∧s.nx.is sAt=true then (Zq s).bind fun x s=>Qdn x s.nx else Qdn eB s:=rfl
theorem Qju (name:ByteArray) (first:List G):Eat 1 (Qh3 name first) :=
 QaI (Qcm (Qah _ _ _)) (QaI (Qcm (Qah _ _ _)) (QaI (ZE (Qcm (Qat _).z) fun _ _=>ZE (Xn _).z fun _ _=>Qah _ _ _) (Qix _ 16)))
theorem Qgz (name:ByteArray):Eat 2 (Qdn name):=Qjc (Qat 0) fun _ f=>Qju name f
theorem Qjb {r:List Tk} (name:ByteArray) {s s':PS} (h:Sm r s s'):RelQ r (Qdn name s) (Qdn name s'):=by
 rw [Qdn,Qdn]
 refine Qaj h (Qat 0).z (Qju name) (Qhk 0 h) fun f s1 s1' _ _ hS hl=>?_
 rw [Qh3,Qh3,hS.is hl,hS.is hl,hS.is hl]
 split
 ·exact Qgm _ _ _ (hS.nx hl)
 split
 ·exact Qgm _ _ _ (hS.nx hl)
 split
 ·refine Qaj (hS.nx hl) (Qat _).z (fun _=>ZE (Xn _).z fun _ _=>Qah _ _ _) (Qhk _ (hS.nx hl)) fun rem s2 s2' _ _ h2 _=>?_
  exact Qaj h2 (Xn _).z (fun _=>Qah _ _ _) (Qbn h2 _) fun _ s3 s3' _ _ h3 _=>Qgm _ _ _ h3
 ·exact fun _=>⟨_,rfl⟩
theorem Qol:Eat 2 YJ:=fun s hs a s2 e=>by
 rw [Z8] at e
 exact (QaI (c:=fun s=>s.tk.kind=1∧s.nx.is sAt=true) (ZE YM.z fun _ x=>Qcm (Qgz x)) (Qgz eB)) s hs a s2 e
theorem QlM {r:List Tk} {s s':PS} (h:Sm r s s'):RelQ r (YJ s) (YJ s'):=Qpg (Qol.less (by decide)) h.wf fun hl=>by
 by_cases hl2:Lv r s.nx
 ·rw [Z8,Z8,← (h.tk hl).1,(h.nx hl).is hl2]
  split
  ·refine Qaj h YM.z (fun x=>Qcm ((Qgz x).less (by decide))) (QgB h) fun x s1 s1' _ _ hS hv=>Qjb x (hS.nx hv)
  ·exact Qjb eB h
 ·cases hf:YJ s with
  |ok a s2 =>
   obtain ⟨w,l⟩:=Qol s h.wf a s2 hf
   have:=Qn7 w
   have:=Qj0 hl2
   have:=QpZ h.wf
   omega
  |err p e=>exact fun q=>absurd (.inr q) hl2
theorem Sm.names {r:List Tk} {s s':PS} (h:Sm r s s') (l:List ByteArray):Sm r ⟨s.toks,l⟩ ⟨s'.toks,l⟩:=⟨h.ex,h.w,rfl⟩
theorem QiS {r:List Tk} {s s':PS} (h:Sm r s s'):RelQ r (Yv s) (Yv s'):=by
 rw [Yv,Yv]
 exact QdE (QlM (h.names []))
theorem QgO {r:List Tk}:∀ (m m':Nat) (l:List Dc) (s s':PS),Sm r s s'→s.toks.length<m→s'.toks.length<m'→RelQ r (Y6 m l s) (Y6 m' l s')
 |0,_,_,_,_,_,h,_=>by omega
 |_,0,_,_,_,_,_,h=>by omega
 |m+1,m'+1,l,s,s',h,hm,hm'=>by
  have H3:∀ x:ByteArray,Eat 1 fun s:PS=>if s.tk.kind≠3 then (.err s.tk.pos 16:PR (List Dc)) else if valT s.tk.text>6 then .err s.tk.pos 6 else
    if s.nx.is YS then Y6 m (l++[⟨x,valT s.tk.text⟩]) s.nx.nx else (XC sDot s.nx).bind fun _ s2=>.ok (l++[⟨x,valT s.tk.text⟩]) s2:=fun x s hs a s2 e=>by
   dsimp only at e
   split at e
   ·cases e
   split at e
   ·cases e
   split at e
   ·obtain ⟨w,l1⟩:=QbZ m _ s.nx.nx (XY (XY hs)) a s2 e
    have:=QaO hs
    have:=QaO (XY hs)
    exact ⟨w,by omega⟩
   ·obtain ⟨u,s3,h1,h2⟩:=bind_ok e
    cases h2
    obtain ⟨w,l1⟩:=Xn _ s.nx (XY hs) u _ h1
    have:=QaO hs
    exact ⟨w,by omega⟩
  rw [Y6,Y6]
  split
  ·exact fun _=>⟨_,rfl⟩
  ·refine Qaj h YM.z (fun x=>ZE (Xn _).z fun _ _=>H3 x) (QgB h) fun x s1 s1' h1 h1' hS hl=>?_
   refine Qaj hS (Xn _).z (fun _=>H3 x) (Qbn hS _) fun _ s2 s2' h2 h2' hS2 hl2=>?_
   obtain ⟨k1,k2⟩:=hS2.tk hl2
   obtain ⟨w1,l1⟩:=YM s h.wf x s1 h1
   obtain ⟨w1',l1'⟩:=YM s' h.w x s1' h1'
   obtain ⟨w2,l2⟩:=Xn _ s1 w1 _ s2 h2
   obtain ⟨w2',l2'⟩:=Xn _ s1' w1' _ s2' h2'
   have i1:=QaO w2
   have i2:=QaO w2'
   have i3:=QaO (XY w2)
   have i4:=QaO (XY w2')
   rw [← k1,← k2]
   by_cases hl3:Lv r s2.nx
   ·have hS3:=hS2.nx hl2
    rw [hS3.is hl3]
    split
    ·exact fun _=>⟨_,rfl⟩
    split
    ·exact fun _=>⟨_,rfl⟩
    split
    ·exact QgO m m' _ _ _ (hS3.nx hl3) (by omega) (by omega)
    ·exact QdE (Qek hS3 _)
   ·have hone:=Qj0 hl3
    have w3:=XY w2
    have hend:s2.nx.tk.kind=0:=by
     obtain ⟨l,e,hl,he,_⟩:=w3
     cases l with
     |nil=>simp only [PS.tk,hl,QrQ,List.headD_cons];exact he
     |cons t l=>rw [hl] at hone;simp at hone
    have hno:∀ b,s2.nx.is b=false:=fun b=>by rw [PS.is,hend];rfl
    have herr:∀ q:Ends r,False:=fun q=>hl3 (.inr q)
    split
    ·exact fun q=>(herr q).elim
    split
    ·exact fun q=>(herr q).elim
    ·rw [if_neg (by rw [hno];decide),XC,hno,if_neg (by decide)]
     exact fun q=>(herr q).elim
theorem Qm9 {m:List Tk} (h:lSim [] m):m=[]:=by
 cases m with
 |nil=>rfl
 |cons=>exact h.elim
theorem Sm.all {r:List Tk} {s s':PS} (h:Sm r s s') (h1:s.toks.length≤1):s'.toks=r∧s.tk.kind=0:=by
 obtain ⟨l,m,e,a1,a2,a3,a4,a5⟩:=h.ex
 cases l with
 |nil =>
  have:=Qm9 a5
  subst this
  exact ⟨a4,by simp only [PS.tk,a1,QrQ,List.headD_cons];exact a2.1⟩
 |cons t l=>rw [a1] at h1;simp at h1
theorem Sm.end {r:List Tk} {s s':PS} (h:Sm r s s') (h1:s.tk.kind=0):s.toks.length≤1:=by
 obtain ⟨l,m,e,a1,a2,a3,a4,a5⟩:=h.ex
 cases l with
 |nil=>rw [a1];simp
 |cons t l =>
  have:s.tk=t:=by simp only [PS.tk,a1,QrR,List.headD_cons]
  rw [this] at h1
  exact absurd h1 (a3 t (by simp))
def isC (t:Tk):Prop:=t.kind=1∧t.text.toList=Qki
theorem Qhz {r:List Tk} (hr:¬ isC (r.headD ⟨0,0,eB⟩)):∀ (m m':Nat) (l:List Dc) (s s':PS),Sm r s s'→s.toks.length<m→s'.toks.length<m'→RelQ r (Y7 m l s) (Y7 m' l s')
 |0,_,_,_,_,_,h,_=>by omega
 |_,0,_,_,_,_,_,h=>by omega
 |m+1,m'+1,l,s,s',h,hm,hm'=>by
  rw [Y7,Y7]
  by_cases hl:Lv r s
  ·rw [← (h.tk hl).1,← (h.tk hl).2]
   split
   ·rename_i hc
    have i1:=Xh h.wf (by omega)
    have i2:=Xh h.w (by rw [← (h.tk hl).1];omega)
    have hx:=QgO (s.toks.length+1) (s'.toks.length+1) l _ _ (h.nx hl) (by omega) (by omega)
    cases hd:Y6 (s.toks.length+1) l s.nx with
    |err p e =>
     rw [hd] at hx
     intro he
     obtain ⟨p',h2⟩:=hx he
     rw [h2]
     exact ⟨p',rfl⟩
    |ok d s1 =>
     rw [hd] at hx
     obtain ⟨s1',h2,hS⟩:=hx
     rw [h2]
     obtain ⟨_,l1⟩:=QbZ _ _ _ (XY h.wf) d s1 hd
     obtain ⟨_,l2⟩:=QbZ _ _ _ (XY h.w) d s1' h2
     exact Qhz hr m m' d s1 s1' hS (by omega) (by omega)
   ·exact ⟨_,rfl,h⟩
  ·obtain ⟨h1,h2⟩:=h.all (Qj0 hl)
   rw [if_neg (by rw [h2];simp),if_neg (by
    intro hc
    refine hr ?_
    rw [isC,← h1]
    exact hc)]
   exact ⟨_,rfl,h⟩
theorem QhE {r:List Tk}:∀ (m m':Nat) (l:List Rl) (s s':PS),Sm r s s'→s.toks.length<m→s'.toks.length<m'→∀ rs s2,Yy m l s = .ok rs s2→∃ m2 s2',r.length<m2∧s2'.toks=r∧Yy m' l s'=Yy m2 rs s2'
 |0,_,_,_,_,_,h,_,_,_,_=>by omega
 |_,0,_,_,_,_,_,h,_,_,_=>by omega
 |m+1,m'+1,l,s,s',h,hm,hm',rs,s2,e=>by
  by_cases hk:s.tk.kind=0
  ·rw [Yy,if_pos hk] at e
   cases e
   have h1:=(h.all (h.end hk)).1
   exact ⟨m'+1,s',by rw [← h1];exact hm',h1,rfl⟩
  ·have hlv:Lv r s:=.inl (Nat.lt_of_not_le fun q=>hk (h.all q).2)
   rw [Yy,if_neg hk] at e
   split at e
   ·cases e
   ·rename_i hlen
    obtain ⟨q,s1,h1,e⟩:=bind_ok e
    have hx:=QiS h
    rw [h1] at hx
    obtain ⟨s1',h2,hS⟩:=hx
    obtain ⟨_,l1⟩:=QgC _ h.wf q s1 h1
    obtain ⟨_,l2⟩:=QgC _ h.w q s1' h2
    obtain ⟨m2,s2',a1,a2,a3⟩:=QhE m m' _ s1 s1' hS (by omega) (by omega) rs s2 e
    refine ⟨m2,s2',a1,a2,?_⟩
    rw [← a3,Yy,if_neg (by rw [← (h.tk hlv).1];exact hk),if_neg hlen,h2]
    rfl
theorem QmJ {x:ByteArray} (h:x.toList=Qki):resB x=true:=by
 have e:x.toList==({data:=#[99,111,110,115,116,114,97,105,110,116]}:ByteArray).toList:=by
  rw [h,Lib.toList_data];rfl
 rw [resB,e]
 rfl
theorem QfN {s:PS} {q:Rl} {s2:PS} (h:Yv s = .ok q s2):s.tk.kind=1∧resB s.tk.text=false:=by
 have key:∀ {s:PS} {x:ByteArray} {s3:PS},Zq s = .ok x s3→s.tk.kind=1∧resB s.tk.text=false:=fun {s x s3} hn=>by
  rw [Zq] at hn
  split at hn
  ·cases hn
  ·rename_i h1
   split at hn
   ·cases hn
   ·rename_i h2
    exact ⟨by omega,by simpa using h2⟩
 rw [Yv] at h
 obtain ⟨a,s1,h1,_⟩:=bind_ok h
 rw [Z8] at h1
 split at h1
 ·obtain ⟨x,s3,h3,_⟩:=bind_ok h1
  exact (key h3:_)
 ·rw [Qdn] at h1
  obtain ⟨f,s3,h3,_⟩:=bind_ok h1
  rw [Yc,Yh,if_neg (by decide)] at h3
  obtain ⟨g,s4,h4,_⟩:=bind_ok h3
  rw [Yk] at h4
  obtain ⟨x,s5,h5,_⟩:=bind_ok h4
  exact (key h5:_)
theorem Qnh {s:PS} {q:Rl} {s2:PS} (h:Yv s = .ok q s2):¬ isC s.tk:=fun hc=>by
 have:=(QfN h).2
 rw [QmJ hc.2] at this
 cases this
theorem Qnl {r:List Tk} {s s':PS} (h:Sm r s s') {p:Pg} {s2:PS} (hp:Qby s = .ok p s2) {q:Rl} {s3:PS} (hq:Yv ⟨r,[]⟩ = .ok q s3) (he:s3.tk.kind=0) (hl:p.rules.length<40) :
  ∃ s4,Qby s' = .ok ⟨p.decls,p.rules++[q]⟩ s4:=by
 rw [Qby] at hp
 obtain ⟨d,s1,h1,hp⟩:=bind_ok hp
 obtain ⟨rs,s5,h2,hp⟩:=bind_ok hp
 cases hp
 have hx:=Qhz (r:=r) (Qnh hq) _ (s'.toks.length+1) [] s s' h (Nat.lt_succ_self _) (Nat.lt_succ_self _)
 rw [h1] at hx
 obtain ⟨s1',h3,hS⟩:=hx
 obtain ⟨m2,s2',a1,a2,a3⟩:=QhE _ (s1'.toks.length+1) [] s1 s1' hS (Nat.lt_succ_self _) (Nat.lt_succ_self _) rs _ h2
 obtain ⟨k,rfl⟩:∃ k,m2=k+1:=⟨m2 - 1,by omega⟩
 have hq2:Yv s2' = .ok q s3:=by rw [← hq,← a2];rfl
 have hk:=(QfN hq2).1
 have hfin:Yy k (rs++[q]) s3 = .ok (rs++[q]) s3:=by
  cases k with
  |zero=>rfl
  |succ k=>rw [Yy,if_pos he]
 refine ⟨s3,?_⟩
 rw [Qby,h3]
 show (Yy (s1'.toks.length+1) [] s1').bind _=_
 rw [a3,Yy,if_neg (by omega),if_neg (by dsimp only at hl;omega),hq2]
 show (Yy k (rs++[q]) s3).bind _=_
 rw [hfin]
 rfl
theorem Qbw (t:List UInt8):∀ (b:Bool) (l:List UInt8),Q8 b (l++10::t)=if Q8 b l=[] then Q8 false t else Q8 b l++10::t
 |b,[]=>by
  have e:Q8 b []=[]:=by cases b <;> rfl
  rw [e,if_pos rfl]
  cases b
  ·show (if isSp 10 then Q8 false t else _)=_
   rw [if_pos (by decide)]
  ·show (if (10:UInt8).toNat=10 then Q8 false t else _)=_
   rw [if_pos (by decide)]
 |true,c::r=>by
  rw [List.cons_append,Q8,Q8]
  split
  ·exact Qbw t false r
  ·exact Qbw t true r
 |false,c::r=>by
  rw [List.cons_append,Q8,Q8]
  split
  ·exact Qbw t false r
  ·split
   ·exact Qbw t true r
   ·rw [if_neg (by simp)];rfl
theorem Qma {p:UInt8→Bool} {d:UInt8} (hd:p d=false) (t:List UInt8):∀ l:List UInt8,(l++d::t).takeWhile p=l.takeWhile p
 |[]=>by rw [List.nil_append,List.takeWhile_cons,hd];rfl
 |c::r=>by
  rw [List.cons_append,List.takeWhile_cons,List.takeWhile_cons,Qma hd t r]
def noSym (d:UInt8):Bool:=Xx.all fun x=>!x.contains d
theorem Qli {d:UInt8} (t:List UInt8):∀ (x l:List UInt8),x.contains d=false→x.isPrefixOf (l++d::t)=x.isPrefixOf l
 |[],_,_=>by simp
 |y::x,[],h=>by
  rw [List.contains_cons,Bool.or_eq_false_iff] at h
  have:(y==d)=false:=by
   have:=h.1
   rw [beq_eq_false_iff_ne] at this ⊢
   exact fun q=>this q.symm
  rw [List.nil_append,List.isPrefixOf_cons_cons,this]
  rfl
 |y::x,c::l,h=>by
  rw [List.contains_cons,Bool.or_eq_false_iff] at h
  rw [List.cons_append,List.isPrefixOf_cons_cons,List.isPrefixOf_cons_cons,Qli t x l h.2]
theorem find_congr {α:Type} {p q:α→Bool}:∀ {l:List α},(∀ x∈l,p x=q x)→l.find? p=l.find? q
 |[],_=>rfl
 |x::l,h=>by rw [List.find?_cons,List.find?_cons,h x (by simp),find_congr fun y hy=>h y (by simp [hy])]
theorem Qoy {d:UInt8} (hd:noSym d=true) (t l:List UInt8):QeX (l++d::t)=QeX l :=
 find_congr fun x hx=>Qli t x l (by
  have:=List.all_eq_true.1 hd x hx
  simpa using this)
structure Stop (d:UInt8):Prop where
 w:isW d=false
 g:isD d=false
 s:noSym d=true
theorem Qo0 {d:UInt8} (h:Stop d) (t:List UInt8):∀ {l:List UInt8},l≠[]→Y8 (l++d::t)=Y8 l
 |[],hl=>absurd rfl hl
 |c::r,_=>by
  have e1:((c::r)++d::t).takeWhile isW=(c::r).takeWhile isW:=Qma h.w t _
  have e2:((c::r)++d::t).takeWhile isD=(c::r).takeWhile isD:=Qma h.g t _
  have e3:QeX ((c::r)++d::t)=QeX (c::r):=Qoy h.s t _
  rw [List.cons_append] at e1 e2 e3 ⊢
  rw [Y8,Y8,e1,e2,e3]
theorem QpN:Stop 10:=⟨by decide,by decide,by decide⟩
theorem QbW {l x:List UInt8} {k:Int} (h:Y8 l = .inl (k,x)):(k=0∧l=[]∧x=[])∨(k≠0∧x≠[]∧∃ r,l=x++r):=by
 cases l with
 |nil =>
  rw [Y8] at h
  cases h
  exact .inl ⟨rfl,rfl,rfl⟩
 |cons c r =>
  have tw:∀ (p:UInt8→Bool),p c=true→(c::r).takeWhile p≠[]∧∃ s,c::r=(c::r).takeWhile p++s:=fun p hp =>
   ⟨by rw [List.takeWhile_cons,if_pos hp];simp,(c::r).dropWhile p,(List.takeWhile_append_dropWhile).symm⟩
  refine .inr ?_
  rw [Y8] at h
  split at h
  ·rename_i hL
   split at h
   ·cases h
   ·have e:=Sum.inl.inj h
    have e1:=(Prod.mk.inj e).1
    have e2:=(Prod.mk.inj e).2
    obtain ⟨a1,a2⟩:=tw isW (by simp [isW,hL])
    refine ⟨?_,by rw [← e2];exact a1,by rw [← e2];exact a2⟩
    rw [← e1];split <;> decide
  split at h
  ·rename_i hD
   split at h
   ·cases h
   ·have e:=Sum.inl.inj h
    have e1:=(Prod.mk.inj e).1
    have e2:=(Prod.mk.inj e).2
    obtain ⟨a1,a2⟩:=tw isD hD
    exact ⟨by rw [← e1];decide,by rw [← e2];exact a1,by rw [← e2];exact a2⟩
  ·split at h
   ·rename_i y hy
    have e:=Sum.inl.inj h
    have e1:=(Prod.mk.inj e).1
    have e2:=(Prod.mk.inj e).2
    subst e2
    obtain ⟨a1,a2,a3⟩:=QhJ hy
    refine ⟨by rw [← e1];decide,by intro q;rw [q] at a1;simp at a1,?_⟩
    obtain ⟨s,hs⟩:=List.isPrefixOf_iff_prefix.1 a3
    exact ⟨s,hs.symm⟩
   ·cases h
theorem QhP (tot:Nat):∀ (m m':Nat) (l:List UInt8),l.length<m→l.length<m'→Yp tot m l=Yp tot m' l
 |0,_,_,h,_=>by omega
 |_,0,_,_,h=>by omega
 |m+1,m'+1,l,h,h'=>by
  rw [Yp,Yp]
  cases ht:Y8 (Q8 false l) with
  |inr e=>rfl
  |inl kx =>
   obtain ⟨k,x⟩:=kx
   simp only
   split
   ·rfl
   ·rename_i hk
    have hx:0<x.length:=by
     rcases QbW ht with ⟨h1,_⟩|⟨_,h1,_⟩
     ·exact absurd h1 hk
     ·exact List.length_pos_iff.2 h1
    have hs:=Qae false l
    rw [QhP tot m m' ((Q8 false l).drop x.length)]
    ·have:0<(Q8 false l).length:=by
      rcases QbW ht with ⟨h1,_⟩|⟨_,h1,r,h2⟩
      ·exact absurd h1 hk
      ·rw [h2,List.length_append];omega
     rw [List.length_drop];omega
    ·have:0<(Q8 false l).length:=by
      rcases QbW ht with ⟨h1,_⟩|⟨_,h1,r,h2⟩
      ·exact absurd h1 hk
      ·rw [h2,List.length_append];omega
     rw [List.length_drop];omega
theorem Qib {l x r:List UInt8} (h:l=x++r) (t:List UInt8):(l++t).drop x.length=l.drop x.length++t:=by
 subst h
 rw [List.append_assoc,List.drop_left,List.drop_left]
theorem QgI (tot:Nat) (t:List UInt8):∀ (m:Nat) (l:List UInt8) (ts:List Tk),Yp tot m l = .inl ts→l.length<m→∃ a e,ts=a++[e]∧(e.kind=0∧e.text=eB)∧(∀ x∈a,x.kind≠0) ∧
  ∀ us,Yp (tot+(1+t.length)) (t.length+1) t = .inl us→Yp (tot+(1+t.length)) (m+(1+t.length)) (l++10::t) = .inl (a++us)
 |0,_,_,_,h=>by omega
 |m+1,l,ts,h,hm=>by
  rw [Yp] at h
  cases ht:Y8 (Q8 false l) with
  |inr e=>rw [ht] at h;cases h
  |inl kx =>
   obtain ⟨k,x⟩:=kx
   rw [ht] at h
   simp only at h
   split at h
   ·rename_i hk
    cases h
    refine ⟨[],_,rfl,⟨rfl,rfl⟩,fun _ h=>(List.not_mem_nil h).elim,fun us hu=>?_⟩
    have hn:Q8 false l=[]:=by
     rcases QbW ht with ⟨_,h1,_⟩|⟨h1,_⟩
     ·exact h1
     ·exact absurd hk h1
    have e:∀ m2,t.length<m2→Yp (tot+(1+t.length)) m2 (l++10::t)=Yp (tot+(1+t.length)) m2 t:=fun m2 h2=>by
     cases m2 with
     |zero=>omega
     |succ m2=>rw [Yp,Yp,Qbw,if_pos hn]
    rw [e _ (by omega),List.nil_append,← hu]
    exact QhP _ _ _ _ (by omega) (by omega)
   ·rename_i hk
    rcases QbW ht with ⟨h1,_⟩|⟨_,hx,r,hr⟩
    ·exact absurd h1 hk
    have hx0:=List.length_pos_iff.2 hx
    have hs:=Qae false l
    have hn:Q8 false l≠[]:=by rw [hr];simp [hx]
    have hlen:(Q8 false l).length=x.length+r.length:=by rw [hr,List.length_append]
    cases h2:Yp tot m ((Q8 false l).drop x.length) with
    |inr e=>rw [h2] at h;cases h
    |inl ts2 =>
     rw [h2] at h
     cases h
     obtain ⟨a,e,a1,a2,a3,a4⟩:=QgI tot t m _ ts2 h2 (by rw [List.length_drop];omega)
     refine ⟨_::a,e,by rw [a1];rfl,a2,fun y hy=>?_,fun us hu=>?_⟩
     ·rcases List.mem_cons.1 hy with rfl|hy
      ·exact hk
      ·exact a3 y hy
     ·have e1:m+1+(1+t.length)=(m+(1+t.length))+1:=by omega
      rw [e1,Yp,Qbw,if_neg hn,Qo0 QpN t hn,ht]
      simp only
      rw [if_neg hk,Qib hr,a4 us hu]
      simp only [Qsg,QrC,QrR]
      congr 4
      omega
def ZR (l:List UInt8):Pg ⊕ (Int×Int):=match XK l with
 | .inr e=>.inr e
 | .inl ts=>match Qby ⟨ts,[]⟩ with
  | .ok p _=>.inl p
  | .err p e=>.inr (p,e)
def Qc6 (l:List UInt8):Rl ⊕ (Int×Int):=match XK l with
 | .inr e=>.inr e
 | .inl ts=>match ZU ⟨ts,[]⟩ with
  | .ok p _=>.inl p
  | .err p e=>.inr (p,e)
def QaA (k:Nat) (t:Tk):Tk:=⟨t.kind,t.pos+k,t.text⟩
theorem QfF (tot k:Nat):∀ (m:Nat) (l:List UInt8) (ts:List Tk),Yp tot m l = .inl ts→l.length≤tot→Yp (tot+k) m l = .inl (ts.map (QaA k))
 |0,_,_,h,_=>by cases h;rfl
 |m+1,l,ts,h,hl=>by
  rw [Yp] at h
  have hs:=Qae false l
  have hp:((tot+k - (Q8 false l).length:Nat):Int)=((tot - (Q8 false l).length:Nat):Int)+k:=by omega
  cases ht:Y8 (Q8 false l) with
  |inr e=>rw [ht] at h;cases h
  |inl kx =>
   obtain ⟨c,x⟩:=kx
   rw [ht] at h
   simp only at h
   rw [Yp,ht]
   simp only
   split at h
   ·rename_i hk
    cases h
    rw [if_pos hk,hp]
    rfl
   ·rename_i hk
    rw [if_neg hk]
    cases h2:Yp tot m ((Q8 false l).drop x.length) with
    |inr e=>rw [h2] at h;cases h
    |inl ts2 =>
     rw [h2] at h
     cases h
     rw [QfF tot k m _ ts2 h2 (by rw [List.length_drop];omega),hp]
     rfl
theorem Qhq:∀ a:List Tk,lSim a a
 |[]=>trivial
 |t::l=>⟨⟨rfl,rfl⟩,fun t2 u2 h1 h2 _ _=>by rw [h1] at h2;cases h2;rfl,Qhq l⟩
theorem QfG (k:Nat):∀ a:List Tk,lSim a (a.map (QaA k))
 |[]=>trivial
 |t::l=>⟨⟨rfl,rfl⟩,fun t2 u2 h1 h2 _ _=>by
   rw [List.head?_map,h1] at h2
   cases h2
   show t2.pos=t.pos+1↔t2.pos+(k:Int)=t.pos+(k:Int)+1
   omega,QfG k l⟩
theorem Qlx {tot m:Nat} {l:List UInt8} {ts:List Tk} (h:Yp tot m l = .inl ts) (hm:l.length<m):∃ a e,ts=a++[e]∧(e.kind=0∧e.text=eB)∧(∀ x∈a,x.kind≠0):=by
 obtain ⟨a,e,h1,h2,h3,_⟩:=QgI tot [] m l ts h hm
 exact ⟨a,e,h1,h2,h3⟩
theorem Qit {S T:List UInt8} {p:Pg} {q:Rl} (hp:ZR S = .inl p) (hq:Qc6 T = .inl q) (hn:p.rules.length<40) (hs:S.length+1+T.length≤16384):ZR (S++10::T) = .inl ⟨p.decls,p.rules++[q]⟩:=by
 unfold ZR at hp
 unfold Qc6 at hq
 rw [XK,if_neg (by omega)] at hp
 rw [XK,if_neg (by omega)] at hq
 cases h1:Yp S.length (S.length+1) S with
 |inr e=>rw [h1] at hp;cases hp
 |inl ts =>
 cases h2:Yp T.length (T.length+1) T with
 |inr e=>rw [h2] at hq;cases hq
 |inl us =>
 rw [h1] at hp
 rw [h2] at hq
 simp only at hp hq
 cases h3:Qby ⟨ts,[]⟩ with
 |err p e=>rw [h3] at hp;cases hp
 |ok p' s2 =>
 rw [h3] at hp
 cases hp
 cases h4:ZU ⟨us,[]⟩ with
 |err p e=>rw [h4] at hq;cases hq
 |ok q' s3 =>
 rw [h4] at hq
 cases hq
 rw [ZU] at h4
 obtain ⟨q2,s4,h5,h6⟩:=bind_ok h4
 obtain ⟨u,s5,h7,h8⟩:=bind_ok h6
 cases h8
 have hk:s4.tk.kind=0:=by
  rw [pEnd] at h7
  split at h7
  ·assumption
  ·cases h7
 obtain ⟨b,e2,b1,b2,b3⟩:=Qlx h2 (Nat.lt_succ_self _)
 obtain ⟨a,e,a1,a2,a3,a4⟩:=QgI S.length T _ S ts h1 (Nat.lt_succ_self _)
 have hsh:=QfF T.length (S.length+1) _ T us h2 (Nat.le_refl _)
 have etot:T.length+(S.length+1)=S.length+(1+T.length):=by omega
 rw [etot] at hsh
 have hfull:=a4 _ hsh
 have hr:Ends [QaA (S.length+1) e2]:=⟨_,rfl,b2⟩
 have hw:∀ n,(⟨us.map (QaA (S.length+1)),n⟩:PS).wf:=fun n=>⟨b.map (QaA (S.length+1)),QaA (S.length+1) e2,by rw [b1];simp,b2.1,fun t ht=>by
  obtain ⟨t',h1,rfl⟩:=List.mem_map.1 ht
  exact b3 t' h1⟩
 have hS1:Sm [QaA (S.length+1) e2] ⟨us,[]⟩ ⟨us.map (QaA (S.length+1)),[]⟩:=⟨⟨b,b.map (QaA (S.length+1)),e2,b1,b2,b3,by rw [b1];simp,QfG _ b⟩,hw _,rfl⟩
 have hx:=QiS hS1
 rw [h5] at hx
 obtain ⟨s4',h9,hS2⟩:=hx
 have hk':s4'.tk.kind=0:=by rw [← (hS2.tk (.inr hr)).1];exact hk
 have hS3:Sm (us.map (QaA (S.length+1))) ⟨ts,[]⟩ ⟨a++us.map (QaA (S.length+1)),[]⟩:=by
  refine ⟨⟨a,a,e,a1,a2,a3,rfl,Qhq a⟩,?_,rfl⟩
  refine ⟨a++b.map (QaA (S.length+1)),QaA (S.length+1) e2,by rw [b1];simp,b2.1,fun t ht=>?_⟩
  rcases List.mem_append.1 ht with ht|ht
  ·exact a3 t ht
  ·obtain ⟨t',h1,rfl⟩:=List.mem_map.1 ht
   exact b3 t' h1
 obtain ⟨s6,h10⟩:=Qnl hS3 h3 h9 hk' hn
 have elen:(S++10::T).length=S.length+(1+T.length):=by simp;omega
 unfold ZR
 rw [XK,if_neg (by rw [elen];omega),elen]
 have efu:S.length+(1+T.length)+1=S.length+1+(1+T.length):=by omega
 rw [efu,hfull]
 simp only
 rw [h10]
def near (t u:Tk):Prop:=t.text.toList=Qdb∧u.kind=3∧u.pos=t.pos+1
instance (t u:Tk):Decidable (near t u):=inferInstanceAs (Decidable (_∧_∧_))
def seps:List (List UInt8):=[[32],[9,10],[13,32],[32,35,120,10],[32,32]]
inductive Spr:Option Tk→List Tk→List UInt8→Prop where
 |nil (p:Option Tk):Spr p [] []
 |first (t:Tk) (l:List Tk) (w:List UInt8):Spr (some t) l w→Spr none (t::l) (t.text.toList++w)
 |near (p t:Tk) (l:List Tk) (w:List UInt8):near p t→Spr (some t) l w→Spr (some p) (t::l) (t.text.toList++w)
 |far (p t:Tk) (l:List Tk) (d w:List UInt8):¬ near p t→d∈seps→Spr (some t) l w→Spr (some p) (t::l) (d++(t.text.toList++w))
end Go.Proofs.YticgcpebdldbgaaDoor.Ab
set_option maxRecDepth 4000
set_option linter.unusedSectionVars false
namespace Go.Proofs.YticgcpebdldbgaaDoor.Ab
open Go.Proofs
def In (n:Int) (p:Int):Prop:=0≤p∧p≤n
def PS.inn (n:Int) (s:PS):Prop:=∀ t∈s.toks,In n t.pos
def PsOk {α:Type} (n:Int) (x:PR α):Prop:=match x with
 | .ok _ s2=>s2.inn n
 | .err p _=>In n p
def Ps {α:Type} (n:Int) (f:PS→PR α):Prop:=∀ s,s.inn n→PsOk n (f s)
theorem QaE {n:Int} {s:PS} (h:s.inn n):s.nx.inn n:=by
 unfold PS.nx
 split
 ·rename_i t u r e
  intro x hx
  exact h x (by rw [e];exact List.mem_cons_of_mem _ hx)
 ·exact h
theorem Qc0 {n:Int} (hn:0≤n) {s:PS} (h:s.inn n):In n s.tk.pos:=by
 unfold PS.tk
 cases e:s.toks with
 |nil=>exact ⟨Int.le_refl _,hn⟩
 |cons t l=>exact h t (by rw [e];simp)
theorem XV {α:Type} {n:Int} (f:PS→α):Ps n fun s=>.ok (f s) s:=fun s h=>h
theorem XM {α:Type} {n:Int} (hn:0≤n) (e:Int):Ps n fun s=>(.err s.tk.pos e:PR α):=fun s h=>Qc0 hn h
theorem QaQ {α β:Type} {n:Int} {F:PS→PR α} {f:PS→α→PS→PR β} (hF:Ps n F) (hf:∀ s0,s0.inn n→∀ a,Ps n (f s0 a)):Ps n fun s=>(F s).bind (f s):=fun s h=>by
 have h1:=hF s h
 show PsOk n ((F s).bind (f s))
 cases e:F s with
 |ok a s2=>rw [e] at h1;exact hf s h a s2 h1
 |err p c=>rw [e] at h1;exact h1
theorem QO {α β:Type} {n:Int} {F:PS→PR α} {f:PS→α→PS→PR β} (hF:Ps n F) (hf:∀ s0 a,Ps n (f s0 a)):Ps n fun s=>(F s).bind (f s):=QaQ hF fun s0 _=>hf s0
theorem QeD {α:Type} {n p:Int} (h:In n p) (e:Int):Ps n fun _=>(.err p e:PR α):=fun _ _=>h
theorem Q4 {α:Type} {n:Int} {c:PS→Prop} [∀ s,Decidable (c s)] {f g:PS→PR α} (hf:Ps n f) (hg:Ps n g):Ps n fun s=>if c s then f s else g s:=fun s h=>by
 show PsOk n (if c s then f s else g s)
 split
 ·exact hf s h
 ·exact hg s h
theorem Yg {α:Type} {n:Int} {f:PS→PR α} (hf:Ps n f):Ps n fun s=>f s.nx:=fun s h=>hf s.nx (QaE h)
theorem Zc {α:Type} {n:Int} {f:PS→PS→PR α} (hf:∀ s0,Ps n (f s0)):Ps n fun s=>f s s:=fun s h=>hf s s h
variable {n:Int} (hn:0≤n)
include hn
theorem Yz (b:List UInt8):Ps n (XC b):=Q4 (c:=fun s=>s.is b=true) (Yg (XV fun _=>())) (XM hn 16)
theorem QbI:Ps n Zq:=Q4 (c:=fun s=>s.tk.kind≠1) (XM hn 16) (Q4 (c:=fun s=>resB s.tk.text=true) (XM hn 7) fun s h=>QaE h)
theorem QdT {ex:PS→PR T} (H:Ps n ex):∀ (m:Nat) (l:List T),Ps n (YK ex m l)
 |0,_=>XM hn 16
 |m+1,l=>QO H fun _ t=>Q4 (c:=fun s=>s.is YS=true) (Yg (QdT H m _)) (QO (Yz hn _) fun _ _=>XV _)
theorem Qee {ex:PS→PR T} (H:Ps n ex):Ps n (Yk ex):=QO (QbI hn) fun _ x=>Q4 (c:=fun s=>s.is sLp=true) (Zc (f:=fun s0 s=>(YK ex s0.toks.length [] s.nx).bind fun l s=>.ok (⟨0,x,l⟩:G) s) fun s0=>QO (Yg (QdT hn H _ _)) fun _ _=>XV fun _=>_) (XV _)
theorem QlU {ex:PS→PR T} (H:Ps n ex):Ps n (pOpT ex) :=
 Q4 (c:=fun s=>s.tk.kind=3) (fun s h=>QaE h) (Q4 (c:=fun s=>s.tk.kind=2) (fun s h=>by
  show (pVari s.tk.text s.nx).2.inn n
  intro t ht
  rw [Qaw] at ht
  exact QaE h t ht) (Q4 (c:=fun s=>s.tk.kind=1) (QO (Qee hn H) fun _ _=>XV _)
  (Q4 (c:=fun s=>s.is Qdb=true) (Q4 (c:=fun s=>s.nx.tk.kind≠3∨s.nx.tk.pos≠s.tk.pos+1) (fun s h=>Qc0 hn (QaE h)) fun s h=>QaE (QaE h))
  (Q4 (c:=fun s=>s.is sLp=true) (QO (Yg H) fun _ t=>QO (Yz hn _) fun _ _=>XV _) (XM hn 16)))))
theorem Qbd {op:PS→PR T} (H:Ps n op) (ops:List (List UInt8)):∀ (m:Nat) (t:T),Ps n (Xz op ops m t)
 |0,t=>XV fun _=>t
 |m+1,t=>Q4 (c:=fun s=>s.oneOf ops=true) (QO (f:=fun s u s2=>Xz op ops m (.mk 2 0 s.tk.text [t,u]) s2) (Yg H) fun _ _=>Qbd H ops m _) (XV fun _=>t)
theorem Qco {op:PS→PR T} (H:Ps n op) (ops:List (List UInt8)):Ps n (XU op ops):=QO H fun _ t=>Zc (f:=fun s0 s=>Xz op ops s0.toks.length t s) fun s0=>Qbd hn H ops _ t
theorem Qcp:∀ m,Ps n (XT m)
 |0=>XM hn 16
 |m+1=>Qco hn (Qco hn (QlU hn (Qcp m)) Yt) ZQ
theorem Z1:Ps n XL:=Zc (f:=fun s0 s=>XT (s0.toks.length+1) s) fun s0=>Qcp hn _
theorem QdP (op:Int):Ps n (Qa0 op):=QO (Yz hn _) fun _ _=>QO (Z1 hn) fun _ _=>QO (Yz hn _) fun _ _=>XV _
theorem Qgs:Ps n ZK:=Q4 (c:=fun s=>s.tk.kind=1∧resB s.tk.text=true)
 (Q4 (c:=fun s=>s.tk.text.toList=[116,114,117,101]) (Yg (XV fun _=>_)) (Q4 (c:=fun s=>s.tk.text.toList=[102,97,105,108]) (Yg (XV fun _=>_))
  (Q4 (c:=fun s=>s.tk.text.toList=[105,110,116]) (Yg (QdP hn _)) (Q4 (c:=fun s=>s.tk.text.toList=[103,114,111,117,110,100]) (Yg (QdP hn _)) (XM hn 7)))))
 (QO (Z1 hn) fun s t s2 h=>by
  cases hc:QaB s2 with
  |some x =>
   obtain ⟨op,turn⟩:=x
   simp only
   exact (QO (f:=fun _ u s3=>.ok (⟨op,eB,if turn then [u,t] else [t,u]⟩:G) s3) (Yg (Z1 hn)) fun _ _=>XV fun _=>_) s2 h
  |none =>
   simp only
   by_cases hc:s.tk.kind=1∧t.name.toList=s.tk.text.toList
   ·rw [if_pos hc];exact h
   ·rw [if_neg hc];exact Qc0 hn h)
theorem Qa5 (most:Nat):∀ (m:Nat) (l:List G),Ps n (X5 most m l)
 |0,_=>XM hn 16
 |m+1,l=>Q4 (c:=fun _=>most≤l.length) (XM hn 6) (QaQ (Qgs hn) fun s0 h0 g=>Q4 (c:=fun _=>QY g=false) (QeD (Qc0 hn h0) 6) (Q4 (c:=fun s=>s.is YS=true) (Yg (Qa5 most m _)) (XV _)))
theorem Qbl (most:Nat):Ps n (Yi most):=Zc (f:=fun s0 s=>X5 most (s0.toks.length+1) [] s) fun s0=>Qa5 hn most _ _
theorem Qa8 (pre:Nat):∀ (m:Nat) (l:List G),Ps n (Yh pre m l)
 |0,_=>XM hn 16
 |m+1,l=>Q4 (c:=fun _=>4≤pre+l.length) (XM hn 6) (QaQ (Qee hn (Z1 hn)) fun s0 h0 g=>Q4 (c:=fun _=>Q1 g=false) (QeD (Qc0 hn h0) 6) (Q4 (c:=fun s=>s.is YS=true) (Yg (Qa8 pre m _)) (XV _)))
theorem Qct (pre:Nat):Ps n (Yc pre):=Zc (f:=fun s0 s=>Yh pre (s0.toks.length+1) [] s) fun s0=>Qa8 hn pre _ _
theorem QbN (name:ByteArray) (keep remove:List G):Ps n (Za name keep remove) :=
 QO (Qbl hn 12) fun _ b=>Q4 (c:=fun s=>s.is sBar=true) (QO (Yg (Qbl hn 12)) fun _ b2=>QO (Yz hn _) fun _ _=>XV _) (QO (Yz hn _) fun _ _=>XV _)
theorem Qia (name:ByteArray) (first:List G):Ps n (Qh3 name first) :=
 Q4 (c:=fun s=>s.is Qay=true) (Yg (QbN hn _ _ _)) (Q4 (c:=fun s=>s.is Qe2=true) (Yg (QbN hn _ _ _)) (Q4 (c:=fun s=>s.is QeO=true) (QO (Yg (Qct hn _)) fun _ _=>QO (Yz hn _) fun _ _=>QbN hn _ _ _) (XM hn 16)))
theorem Qd2 (name:ByteArray):Ps n (Qdn name):=QO (Qct hn 0) fun _ f=>Qia hn name f
theorem Qgk:Ps n YJ:=fun s h=>by
 rw [Z8]
 exact (Q4 (c:=fun s=>s.tk.kind=1∧s.nx.is sAt=true) (QO (QbI hn) fun _ x=>Yg (Qd2 hn x)) (Qd2 hn eB)) s h
theorem QgA:Ps n Yv:=fun s h=>(QO (F:=fun s=>YJ ⟨s.toks,[]⟩) (f:=fun _ r s=>.ok r.numd s) (fun s h=>Qgk hn ⟨s.toks,[]⟩ h) fun _ _=>XV fun _=>_) s h
theorem Qca:∀ (m:Nat) (l:List Dc),Ps n (Y6 m l)
 |0,_=>XM hn 16
 |m+1,l=>Q4 (c:=fun _=>30≤l.length) (XM hn 6) (QO (QbI hn) fun _ x=>QO (Yz hn _) fun _ _ =>
   Q4 (c:=fun s=>s.tk.kind≠3) (XM hn 16) (Q4 (c:=fun s=>valT s.tk.text>6) (XM hn 6)
   (Q4 (c:=fun s=>s.nx.is YS=true) (Zc (f:=fun s0 s=>Y6 m (l++[⟨x,valT s0.tk.text⟩]) s.nx.nx) fun s0=>Yg (Yg (Qca m _)))
    (Zc (f:=fun s0 s=>(XC sDot s.nx).bind fun _ s2=>.ok (l++[⟨x,valT s0.tk.text⟩]) s2) fun s0=>QO (Yg (Yz hn _)) fun _ _=>XV fun _=>_))))
theorem Qcw:∀ (m:Nat) (l:List Dc),Ps n (Y7 m l)
 |0,l=>XV fun _=>l
 |m+1,l=>Q4 (c:=fun s=>s.tk.kind=1∧s.tk.text.toList=Qki) (Zc (f:=fun s0 s=>(Y6 (s0.toks.length+1) l s.nx).bind fun l s=>Y7 m l s) fun s0=>QO (Yg (Qca hn _ l)) fun _ d=>Qcw m d) (XV fun _=>l)
theorem Qch:∀ (m:Nat) (l:List Rl),Ps n (Yy m l)
 |0,l=>XV fun _=>l
 |m+1,l=>Q4 (c:=fun s=>s.tk.kind=0) (XV fun _=>l) (Q4 (c:=fun _=>40≤l.length) (XM hn 6) (QO (QgA hn) fun _ r=>Qch m _))
theorem QlB:Ps n Qby:=QO (F:=fun s=>Y7 (s.toks.length+1) [] s) (Zc (f:=fun s0 s=>Y7 (s0.toks.length+1) [] s) fun s0=>Qcw hn _ _) fun _ d =>
 QO (F:=fun s=>Yy (s.toks.length+1) [] s) (Zc (f:=fun s0 s=>Yy (s0.toks.length+1) [] s) fun s0=>Qch hn _ _) fun _ r=>XV fun _=>_
end Go.Proofs.YticgcpebdldbgaaDoor.Ab
set_option maxRecDepth 4000
set_option linter.unusedSectionVars false
namespace Go.Proofs.YticgcpebdldbgaaDoor.Ab
open Go.Proofs
structure Wd where
 W:PS→Prop
 nx:∀ s,W s→W s.nx
 vr:∀ s,W s→s.tk.kind=2→W (pVari s.tk.text s.nx).2
 cl:∀ s,W s→W ⟨s.toks,[]⟩
namespace Kp
def In (n:Wd) (p:Int):Prop:=True
def inn (n:Wd) (s:PS):Prop:=n.W s
def PsOk {α:Type} (n:Wd) (x:PR α):Prop:=match x with
 | .ok _ s2=>n.W s2
 | .err _ e=>e≠0
def Ps {α:Type} (n:Wd) (f:PS→PR α):Prop:=∀ s,n.W s→PsOk n (f s)
theorem Ps.ok {α:Type} {n:Wd} {f:PS→PR α} (H:Ps n f) {s:PS} (h:n.W s) {a:α} {s2:PS} (e:f s = .ok a s2):n.W s2:=by
 have:=H s h
 rw [e] at this
 exact this
theorem Ps.err {α:Type} {n:Wd} {f:PS→PR α} (H:Ps n f) {s:PS} (h:n.W s) {p c:Int} (e:f s = .err p c):c≠0:=by
 have:=H s h
 rw [e] at this
 exact this
theorem QaE {n:Wd} {s:PS} (h:n.W s):n.W s.nx:=n.nx s h
theorem Qc0 {n:Wd} (hn:True) {s:PS} (h:n.W s):In n s.tk.pos:=trivial
theorem XV {α:Type} {n:Wd} (f:PS→α):Ps n fun s=>.ok (f s) s:=fun s h=>h
theorem XM {α:Type} {n:Wd} (hn:True) (e:Int) (he:e≠0:=by decide):Ps n fun s=>(.err s.tk.pos e:PR α):=fun s h=>he
theorem QaQ {α β:Type} {n:Wd} {F:PS→PR α} {f:PS→α→PS→PR β} (hF:Ps n F) (hf:∀ s0,n.W s0→∀ a,Ps n (f s0 a)):Ps n fun s=>(F s).bind (f s):=fun s h=>by
 have h1:=hF s h
 show PsOk n ((F s).bind (f s))
 cases e:F s with
 |ok a s2=>rw [e] at h1;exact hf s h a s2 h1
 |err p c=>rw [e] at h1;exact h1
theorem QO {α β:Type} {n:Wd} {F:PS→PR α} {f:PS→α→PS→PR β} (hF:Ps n F) (hf:∀ s0 a,Ps n (f s0 a)):Ps n fun s=>(F s).bind (f s):=QaQ hF fun s0 _=>hf s0
theorem QeD {α:Type} {n:Wd} {p:Int} (h:In n p) (e:Int) (he:e≠0:=by decide):Ps n fun _=>(.err p e:PR α):=fun _ _=>he
theorem Q4 {α:Type} {n:Wd} {c:PS→Prop} [∀ s,Decidable (c s)] {f g:PS→PR α} (hf:Ps n f) (hg:Ps n g):Ps n fun s=>if c s then f s else g s:=fun s h=>by
 show PsOk n (if c s then f s else g s)
 split
 ·exact hf s h
 ·exact hg s h
theorem Yg {α:Type} {n:Wd} {f:PS→PR α} (hf:Ps n f):Ps n fun s=>f s.nx:=fun s h=>hf s.nx (QaE h)
theorem Zc {α:Type} {n:Wd} {f:PS→PS→PR α} (hf:∀ s0,Ps n (f s0)):Ps n fun s=>f s s:=fun s h=>hf s s h
variable {n:Wd} (hn:True)
include hn
theorem Yz (b:List UInt8):Ps n (XC b):=Q4 (c:=fun s=>s.is b=true) (Yg (XV fun _=>())) (XM hn 16)
theorem QbI:Ps n Zq:=Q4 (c:=fun s=>s.tk.kind≠1) (XM hn 16) (Q4 (c:=fun s=>resB s.tk.text=true) (XM hn 7) fun s h=>QaE h)
theorem QdT {ex:PS→PR T} (H:Ps n ex):∀ (m:Nat) (l:List T),Ps n (YK ex m l)
 |0,_=>XM hn 16
 |m+1,l=>QO H fun _ t=>Q4 (c:=fun s=>s.is YS=true) (Yg (QdT H m _)) (QO (Yz hn _) fun _ _=>XV _)
theorem Qee {ex:PS→PR T} (H:Ps n ex):Ps n (Yk ex):=QO (QbI hn) fun _ x=>Q4 (c:=fun s=>s.is sLp=true) (Zc (f:=fun s0 s=>(YK ex s0.toks.length [] s.nx).bind fun l s=>.ok (⟨0,x,l⟩:G) s) fun s0=>QO (Yg (QdT hn H _ _)) fun _ _=>XV fun _=>_) (XV _)
theorem QpD:Ps n fun s=>if s.nx.tk.kind≠3∨s.nx.tk.pos≠s.tk.pos+1 then (.err s.nx.tk.pos 16:PR T) else .ok (.mk 0 (-valT s.nx.tk.text) eB []) s.nx.nx:=fun s h=>by
 have _u:=hn
 show PsOk n (if s.nx.tk.kind≠3∨s.nx.tk.pos≠s.tk.pos+1 then _ else _)
 split
 ·show (16:Int)≠0;decide
 ·exact QaE (QaE h)
theorem QlU {ex:PS→PR T} (H:Ps n ex):Ps n (pOpT ex) :=
 Q4 (c:=fun s=>s.tk.kind=3) (fun s h=>QaE h) (fun s h=>by
  show PsOk n (if s.tk.kind=2 then _ else _)
  by_cases hk:s.tk.kind=2
  ·rw [if_pos hk];exact n.vr s h hk
  ·rw [if_neg hk]
   by_cases h1:s.tk.kind=1
   ·rw [if_pos h1]
    exact (QO (F:=Yk ex) (f:=fun _ a s=>(.ok (.mk 2 0 a.name a.args) s:PR T)) (Qee hn H) fun _ _=>XV fun _=>_) s h
   ·rw [if_neg h1]
    by_cases h2:s.is Qdb=true
    ·rw [if_pos h2];exact QpD hn s h
    ·rw [if_neg h2]
     by_cases h3:s.is sLp=true
     ·rw [if_pos h3]
      exact (QO (F:=fun s=>ex s.nx) (f:=fun _ t s=>(XC sRp s).bind fun _ s=>(.ok t s:PR T)) (Yg H) fun _ t=>QO (F:=XC sRp) (f:=fun _ _ s=>(.ok t s:PR T)) (Yz hn _) fun _ _=>XV fun _=>t) s h
     ·rw [if_neg h3];show (16:Int)≠0;decide)
theorem Qbd {op:PS→PR T} (H:Ps n op) (ops:List (List UInt8)):∀ (m:Nat) (t:T),Ps n (Xz op ops m t)
 |0,t=>XV fun _=>t
 |m+1,t=>Q4 (c:=fun s=>s.oneOf ops=true) (QO (f:=fun s u s2=>Xz op ops m (.mk 2 0 s.tk.text [t,u]) s2) (Yg H) fun _ _=>Qbd H ops m _) (XV fun _=>t)
theorem Qco {op:PS→PR T} (H:Ps n op) (ops:List (List UInt8)):Ps n (XU op ops):=QO H fun _ t=>Zc (f:=fun s0 s=>Xz op ops s0.toks.length t s) fun s0=>Qbd hn H ops _ t
theorem Qcp:∀ m,Ps n (XT m)
 |0=>XM hn 16
 |m+1=>Qco hn (Qco hn (QlU hn (Qcp m)) Yt) ZQ
theorem Z1:Ps n XL:=Zc (f:=fun s0 s=>XT (s0.toks.length+1) s) fun s0=>Qcp hn _
theorem QdP (op:Int):Ps n (Qa0 op):=QO (Yz hn _) fun _ _=>QO (Z1 hn) fun _ _=>QO (Yz hn _) fun _ _=>XV _
theorem Qgs:Ps n ZK:=Q4 (c:=fun s=>s.tk.kind=1∧resB s.tk.text=true)
 (Q4 (c:=fun s=>s.tk.text.toList=[116,114,117,101]) (Yg (XV fun _=>_)) (Q4 (c:=fun s=>s.tk.text.toList=[102,97,105,108]) (Yg (XV fun _=>_))
  (Q4 (c:=fun s=>s.tk.text.toList=[105,110,116]) (Yg (QdP hn _)) (Q4 (c:=fun s=>s.tk.text.toList=[103,114,111,117,110,100]) (Yg (QdP hn _)) (XM hn 7)))))
 (QO (Z1 hn) fun s t s2 h=>by
  cases hc:QaB s2 with
  |some x =>
   obtain ⟨op,turn⟩:=x
   simp only
   exact (QO (f:=fun _ u s3=>.ok (⟨op,eB,if turn then [u,t] else [t,u]⟩:G) s3) (Yg (Z1 hn)) fun _ _=>XV fun _=>_) s2 h
  |none =>
   simp only
   by_cases hc:s.tk.kind=1∧t.name.toList=s.tk.text.toList
   ·rw [if_pos hc];exact h
   ·rw [if_neg hc];exact (by decide:(16:Int)≠0))
theorem Qa5 (most:Nat):∀ (m:Nat) (l:List G),Ps n (X5 most m l)
 |0,_=>XM hn 16
 |m+1,l=>Q4 (c:=fun _=>most≤l.length) (XM hn 6) (QaQ (Qgs hn) fun s0 h0 g=>Q4 (c:=fun _=>QY g=false) (QeD (Qc0 hn h0) 6) (Q4 (c:=fun s=>s.is YS=true) (Yg (Qa5 most m _)) (XV _)))
theorem Qbl (most:Nat):Ps n (Yi most):=Zc (f:=fun s0 s=>X5 most (s0.toks.length+1) [] s) fun s0=>Qa5 hn most _ _
theorem Qa8 (pre:Nat):∀ (m:Nat) (l:List G),Ps n (Yh pre m l)
 |0,_=>XM hn 16
 |m+1,l=>Q4 (c:=fun _=>4≤pre+l.length) (XM hn 6) (QaQ (Qee hn (Z1 hn)) fun s0 h0 g=>Q4 (c:=fun _=>Q1 g=false) (QeD (Qc0 hn h0) 6) (Q4 (c:=fun s=>s.is YS=true) (Yg (Qa8 pre m _)) (XV _)))
theorem Qct (pre:Nat):Ps n (Yc pre):=Zc (f:=fun s0 s=>Yh pre (s0.toks.length+1) [] s) fun s0=>Qa8 hn pre _ _
theorem QbN (name:ByteArray) (keep remove:List G):Ps n (Za name keep remove) :=
 QO (Qbl hn 12) fun _ b=>Q4 (c:=fun s=>s.is sBar=true) (QO (Yg (Qbl hn 12)) fun _ b2=>QO (Yz hn _) fun _ _=>XV _) (QO (Yz hn _) fun _ _=>XV _)
theorem Qia (name:ByteArray) (first:List G):Ps n (Qh3 name first) :=
 Q4 (c:=fun s=>s.is Qay=true) (Yg (QbN hn _ _ _)) (Q4 (c:=fun s=>s.is Qe2=true) (Yg (QbN hn _ _ _)) (Q4 (c:=fun s=>s.is QeO=true) (QO (Yg (Qct hn _)) fun _ _=>QO (Yz hn _) fun _ _=>QbN hn _ _ _) (XM hn 16)))
theorem Qd2 (name:ByteArray):Ps n (Qdn name):=QO (Qct hn 0) fun _ f=>Qia hn name f
theorem Qgk:Ps n YJ:=fun s h=>by
 rw [Z8]
 exact (Q4 (c:=fun s=>s.tk.kind=1∧s.nx.is sAt=true) (QO (QbI hn) fun _ x=>Yg (Qd2 hn x)) (Qd2 hn eB)) s h
theorem QgA:Ps n Yv:=fun s h=>(QO (F:=fun s=>YJ ⟨s.toks,[]⟩) (f:=fun _ r s=>.ok r.numd s) (fun s h=>Qgk hn ⟨s.toks,[]⟩ (n.cl s h)) fun _ _=>XV fun _=>_) s h
theorem Qca:∀ (m:Nat) (l:List Dc),Ps n (Y6 m l)
 |0,_=>XM hn 16
 |m+1,l=>Q4 (c:=fun _=>30≤l.length) (XM hn 6) (QO (QbI hn) fun _ x=>QO (Yz hn _) fun _ _ =>
   Q4 (c:=fun s=>s.tk.kind≠3) (XM hn 16) (Q4 (c:=fun s=>valT s.tk.text>6) (XM hn 6)
   (Q4 (c:=fun s=>s.nx.is YS=true) (Zc (f:=fun s0 s=>Y6 m (l++[⟨x,valT s0.tk.text⟩]) s.nx.nx) fun s0=>Yg (Yg (Qca m _)))
    (Zc (f:=fun s0 s=>(XC sDot s.nx).bind fun _ s2=>.ok (l++[⟨x,valT s0.tk.text⟩]) s2) fun s0=>QO (Yg (Yz hn _)) fun _ _=>XV fun _=>_))))
theorem Qcw:∀ (m:Nat) (l:List Dc),Ps n (Y7 m l)
 |0,l=>XV fun _=>l
 |m+1,l=>Q4 (c:=fun s=>s.tk.kind=1∧s.tk.text.toList=Qki) (Zc (f:=fun s0 s=>(Y6 (s0.toks.length+1) l s.nx).bind fun l s=>Y7 m l s) fun s0=>QO (Yg (Qca hn _ l)) fun _ d=>Qcw m d) (XV fun _=>l)
theorem Qch:∀ (m:Nat) (l:List Rl),Ps n (Yy m l)
 |0,l=>XV fun _=>l
 |m+1,l=>Q4 (c:=fun s=>s.tk.kind=0) (XV fun _=>l) (Q4 (c:=fun _=>40≤l.length) (XM hn 6) (QO (QgA hn) fun _ r=>Qch m _))
theorem QlB:Ps n Qby:=QO (F:=fun s=>Y7 (s.toks.length+1) [] s) (Zc (f:=fun s0 s=>Y7 (s0.toks.length+1) [] s) fun s0=>Qcw hn _ _) fun _ d =>
 QO (F:=fun s=>Yy (s.toks.length+1) [] s) (Zc (f:=fun s0 s=>Yy (s0.toks.length+1) [] s) fun s0=>Qch hn _ _) fun _ r=>XV fun _=>_
theorem Qoa:Ps n pEnd:=Q4 (c:=fun s=>s.tk.kind=0) (XV fun _=>()) (XM hn 16)
theorem QqE:Ps n ZU:=QO (QgA hn) fun _ r=>QO (Qoa hn) fun _ _=>XV fun _=>_
theorem Qp6:Ps n Qft:=QO (Qbl hn 40) fun _ l=>QO (Qoa hn) fun _ _=>XV fun _=>_
end Kp
theorem Qon (s:PS):s.nx.toks <:+ s.toks:=by
 unfold PS.nx
 split
 ·rename_i t u r e;rw [e];exact List.suffix_cons _ _
 ·exact List.suffix_refl _
theorem Qj5 (x:ByteArray) (s:PS):(pVari x s).2.names.length≤s.names.length+1:=by
 unfold pVari
 split
 ·exact Nat.le_succ _
 ·simp
theorem QmS {s s':PS} (e:s.toks=s'.toks) (h:s.wf):s'.wf:=by
 obtain ⟨l,x,h1,h2,h3⟩:=h
 exact ⟨l,x,e▸h1,h2,h3⟩
structure Wst (all:List Tk) (s:PS):Prop where
 wf:s.wf
 suf:s.toks <:+ all
 nms:s.names.length+s.toks.length≤all.length
theorem Wst.nx {all:List Tk} {s:PS} (h:Wst all s):Wst all s.nx :=
 ⟨XY h.wf,(Qon s).trans h.suf,by have:=QaO h.wf;have:=h.nms;show s.names.length+_≤_;omega⟩
theorem Wst.vr {all:List Tk} {s:PS} (h:Wst all s) (hk:s.tk.kind≠0):Wst all (pVari s.tk.text s.nx).2:=by
 have e:=Qaw s.tk.text s.nx
 refine ⟨QmS e.symm (XY h.wf),by rw [e];exact (Qon s).trans h.suf,?_⟩
 have h1:=Qj5 s.tk.text s.nx
 have h2:=Xh h.wf hk
 have h3:=h.nms
 have h4:s.nx.names=s.names:=rfl
 rw [e];rw [h4] at h1;omega
def wdOf (all:List Tk):Wd:=⟨Wst all,fun s h=>h.nx,fun s h hk=>h.vr (by rw [hk];decide),fun s h=>⟨QmS rfl h.wf,h.suf,by have:=h.suf.length_le;simpa using this⟩⟩
end Go.Proofs.YticgcpebdldbgaaDoor.Ab
namespace Go.Proofs.YticgcpebdldbgaaDoor.Ab
theorem Qos {c:Cx} (hs:St c) {s:Nat} {k:AB} (hk:k = .dead∨∃ e,k = .grow e s 0):Ev c (c.add c.w k none)∧St (c.add c.w k none):=by
 have hg:=Grows.refl c.w
 have ho:∀ B,(none:Option Nat)=some B→c.w.heap.size≤B:=fun B h=>by cases h
 have hρ:(c.add c.w k none).ρ c.h.length=none:=by simp [Cx.add]
 refine ⟨Ev.add hs hg k none ho,St.add hs hg _ _ ho ?_⟩
 rcases hk with rfl|⟨e,rfl⟩
 ·trivial
 ·exact fun B hB=>by rw [hρ] at hB;cases hB
theorem QoZ {c:Cx} (hst:St c) {id ty n s:Nat} {k:AB} (hk:k = .dead∨∃ e,k = .grow e s 0) {xs xs':List AV} {j:Nat} (hb:c.h[id]? = some (.cells ty n xs)) (hj:(flat xs)[j]? = some (.v (.slice none 0 0)))
  (hf:flat xs'=(flat xs).set j (.sl s [] (some c.h.length))) (hc:∀ x∈xs',x.cells.length=n) :
  ∃ c2,Ev c c2∧St c2∧c2.h=(c.h++[k]).set id (AB.cells ty n xs')∧c2.w=c.w:=by
 obtain ⟨hev,hst1⟩:=Qos hst hk
 have hlt:=Qr hb
 have hb1:(c.add c.w k none).h[id]? = some (.cells ty n xs):=by
  simp only [Cx.add];rw [List.getElem?_append_left hlt];exact hb
 obtain ⟨B,cur,hρ,hcur,h3,h4⟩:=hst1.blocks id _ hb1
 have hev2:=Ev.turn (b':=.cells ty n xs') hst1 hb1 rfl hρ (w:=c.w) rfl rfl rfl rfl (fun _ _=>rfl) (.inr ⟨_,rfl,rfl,fun _ cur _ h=>⟨cur,h,rfl⟩⟩)
 have htok:((c.add c.w k none).turn c.w id (.cells ty n xs')).tokNil c.h.length s:=by
  refine ⟨by simp [Cx.turn,Cx.add],fun e2 s2 n2 hg2=>?_⟩
  simp only [Cx.turn,Cx.add] at hg2
  rw [List.getElem?_set_ne (by omega),List.getElem?_append_right (Nat.le_refl _),Nat.sub_self] at hg2
  rcases hk with rfl|⟨e,rfl⟩
  ·simp at hg2
  ·simp at hg2
   exact ⟨hg2.2.1.symm,fun _=>by simp [Cx.turn,Cx.add]⟩
 have hst2:=St.turn (b':=.cells ty n xs') hst1 hb1 rfl hρ (w:=c.w) (fun _ _=>rfl) hev2 ⟨B,cur,hρ,hcur,hc,by
  intro i a' hi
  rw [hf] at hi
  by_cases e:j=i
  ·subst e
   rw [List.getElem?_set_self (Qr hj)] at hi
   cases hi
   obtain ⟨u,g1,g2,g3⟩:=h4 j _ hj
   cases g3
   exact ⟨_,g1,g2,.slnil _ _ fun b hb=>by cases hb;exact htok⟩
  ·rw [List.getElem?_set_ne e] at hi
   obtain ⟨u,g1,g2,g3⟩:=h4 i _ hi
   exact ⟨u,g1,g2,g3.ev hst1 hev2⟩⟩
 exact ⟨_,Ev.trans hst hev hev2,hst2,rfl,rfl⟩
theorem YB {P:Program} {N:Nat} {code:Code} {Q:AExit→AS→Prop} {tm:Nat→AV} {h:AH} (id ty n s:Nat) (k:AB) (hk:k = .dead∨∃ e,k = .grow e s 0) (xs xs':List AV) (j:Nat) (hb:h[id]? = some (.cells ty n xs))
  (hj:(flat xs)[j]? = some (.v (.slice none 0 0))) (hf:flat xs'=(flat xs).set j (.sl s [] (some h.length))) (hc:∀ x∈xs',x.cells.length=n)
  (H:XE P N code Q ⟨tm,(h++[k]).set id (AB.cells ty n xs')⟩):XE P N code Q ⟨tm,h⟩:=by
 intro F m base c a hF hst hr R hR
 have hh:c.h=h:=hr.h
 subst hh
 obtain ⟨c2,hev,hst2,hh2,hw⟩:=QoZ hst hk hb hj hf hc
 rw [← hw]
 exact H F m base c2 a hF hst2 ⟨hh2,hr.size,Nat.le_trans hr.above hev.size,hr.defers.ev hev,RoundOk.ev hev hr.round,fun t=>(hr.tm t).ev hst hev⟩ R fun e' s' c' a' ex hq h1 h2 h3 h4=>hR e' s' c' a' ex hq (Ev.trans hst hev h1) h2 h3 h4
def ArrW (P:Program) (N:Nat) (ops:Array Oper) (o:Oper) (K:AS→Prop) (s:AS):Prop :=
 match Qd ops s.tm o with
 |some true=>(match o.op with
  | .buildSlice t len ps=>(match Q9 P t with
   |some (e,n)=>(QD P t len (ps.toList.map fun p=>(p.1,s.ev p.2)) s.h).isSome=true∧K (AS.put N {s with h:=s.h++[.cells e n (ps.toList.map fun p=>s.ev p.2)]} o.dst (.arr s.h.length 0 len))
   |none=>False)
  |_=>False)
 |some false=>K (AS.put N s o.dst (.v undef))
 |none=>False
theorem Qdk {P:Program} {N:Nat} {Q:AExit→AS→Prop} {s:AS} {id:Nat} {ops:Array Oper} (i:Nat) {o:Oper} (ho:ops.toList[i]? = some o)
  (H:∀ (K:AS→Prop) (E:AV→AS→Prop),(∀ s,Q .normal s→K s)→(∀ r s,Q (.panic r) s→E r s)→OpsW P N ops (ops.toList.take i) (ArrW P N ops o (OpsW P N ops (ops.toList.drop (i+1)) K E)) E s):XE P N (.region id ops false) Q s:=by
 intro F n base c a hF hst hr R hR
 refine wpIn_region ?_
 have hlt:=Qr ho
 have hH:=H (fun s'=>Q .normal s') (fun r s'=>Q (.panic r) s') (fun _ h=>h) (fun _ _ h=>h)
 have hi:(ops.toList.take i).length=i:=by rw [List.length_take];omega
 have hrange:List.range ops.size=List.range' 0 (ops.toList.take i).length++(i::(List.range' (i+1) (ops.toList.drop (i+1)).length++[])):=by
  rw [hi,List.append_nil,List.length_drop,List.range_eq_range',← Array.length_toList]
  have:ops.toList.length=i+(1+(ops.toList.length - (i+1))):=by omega
  conv=>lhs;rw [this]
  rw [← List.range'_append_1,Nat.zero_add,← List.range'_append_1]
  rfl
 have hget:∀ j,(ops.toList.drop (i+1))[j]? = ops[i+1+j]? := fun j=>by rw [List.getElem?_drop];simp
 rw [hrange]
 refine Qbg hF (ops.toList.take i) 0 s c a (fun j hj=>by rw [List.getElem?_take,if_pos (by omega)];simp) hH hst hr ?_ ?_
 ·intro s1 c1 a1 h1 h2 h3 h4
  have h0:ops[i]? = some o:=by rw [← ho];simp
  have hrest:∀ s2 c2 a2,OpsW P N ops (ops.toList.drop (i+1)) (fun s'=>Q .normal s') (fun r s'=>Q (.panic r) s') s2→Ev c c2→St c2→SR N (base,F) c2 s2 a2→wpOpsIn F n P ops R (List.range' (i+1) (ops.toList.drop (i+1)).length++[]) a2 c2.w:=by
   intro s2 c2 a2 hq he2 hst2 hr2
   refine Qbg hF _ (i+1) s2 c2 a2 (fun j _=>hget j) hq hst2 hr2 ?_ ?_
   ·intro s' c' a' hQ k1 k2 k3
    simp only [wpOpsIn]
    exact hR _ s' c' a' _ hQ (Ev.trans hst he2 k1) k2 k3 rfl
   ·intro r s' c' a' x hQ k1 k2 k3 hx
    exact hR _ s' c' a' _ hQ (Ev.trans hst he2 k1) k2 k3 ⟨x,rfl,hx⟩
  simp only [wpOpsIn,h0]
  unfold ArrW at h1
  split at h1
  ·rename_i hw
   rw [Xb h4 hw]
   simp only [if_true]
   split at h1
   ·rename_i t len ps hop
    split at h1
    ·rename_i e m he
     exact QfR hop he h1.1 h1.2 hF h3 h4 fun s' c' a' hK k1 k2 k3=>hrest s' c' a' hK (Ev.trans hst h2 k1) k2 k3
    ·exact h1.elim
   ·exact h1.elim
  ·rename_i hw
   rw [Xb h4 hw]
   simp only [Qrt,if_false]
   refine ⟨fun f _=>hF.fn f,?_⟩
   have hr':=h4.put h3 (Ev.refl c1) o.dst (.v undef)
   rw [h4.h] at hr'
   exact hrest _ c1 _ h1 h2 h3 hr'
  ·exact h1.elim
 ·intro r s' c' a' x hQ h1 h2 h3 hx
  exact hR _ s' c' a' _ hQ h1 h2 h3 ⟨x,rfl,hx⟩
theorem YW {P:Program} {N:Nat} {Q:AExit→AS→Prop} {s:AS} {id:Nat} {ops:Array Oper} {y:Code} (i:Nat) {o:Oper} (ho:ops.toList[i]? = some o)
  (H:∀ (K:AS→Prop) (E:AV→AS→Prop),(∀ s,XE P N y Q s→K s)→(∀ r s,Q (.panic r) s→E r s)→OpsW P N ops (ops.toList.take i) (ArrW P N ops o (OpsW P N ops (ops.toList.drop (i+1)) K E)) E s):XE P N (.seq (.region id ops false) y) Q s :=
 Qav (Qdk i ho (fun K E hK hE=>H K E hK hE))
theorem Ev.Qq0 {c c':Cx} (hev:Ev (c.cut 0) c') {B:Nat} (h:B<c.w.heap.size):c'.w.heap[B]? = c.w.heap[B]? :=
 hev.frame B h fun ⟨id,b,hb,_⟩=>by simp [Cx.cut] at hb
inductive Melt (h:AH) (m:Nat):AV→AV→Prop
 |keep {a:AV} (hb:Below m a):Melt h m a a
 |nil (s:Nat):Melt h m (.v (.slice none 0 0)) (.sl s [] none)
 |agg {l l':List AV} (hl:l'.length=l.length) (hp:∀ (j:Nat) a a',l[j]? = some a→l'[j]? = some a'→Melt h m a a'):Melt h m (.agg l) (.agg l')
 |sl {s:Nat} {xs ys:List AV} {own:Option Nat} (hl:ys.length=xs.length) (hs:∀ y∈ys,y.cells.length=s) (hf:(flat ys).length=(flat xs).length)
   (hp:∀ (j:Nat) a a',(flat xs)[j]? = some a→(flat ys)[j]? = some a'→Melt h m a a'):Melt h m (.sl s xs own) (.sl s ys none)
 |arr {id len s:Nat} {ty:TypeId} {xs ys:List AV} (hi:m≤id) (hg:h[id]? = some (.cells ty s xs)) (hl:ys.length=len) (hs:∀ y∈ys,y.cells.length=s) (hf:(flat ys).length≤(flat xs).length)
   (hp:∀ (j:Nat) a a',(flat xs)[j]? = some a→(flat ys)[j]? = some a'→Melt h m a a'):Melt h m (.arr id 0 len) (.sl s ys none)
theorem Melt.rel {c:Cx} (hs:St c) {m:Nat} (hm:m≤c.h.length) {a a':AV} (h:Melt c.h m a a'):∀ {x:Value},Rel c a x→Rel (c.cut m) a' x:=by
 induction h with
 |keep hb=>exact fun hr=>hr.cut hm hb
 |nil s=>intro x hr;cases hr;exact .slnil s none fun b hb=>by cases hb
 |@agg l l' hl _ ih =>
  intro x hr
  cases hr with
  |agg _ cs hl' hr =>
   refine .agg _ cs (by omega) fun j a' u ha' hu=>?_
   obtain ⟨a,ha⟩:∃ a,l[j]? = some a:=⟨_,List.getElem?_eq_getElem (by rw [← hl];exact Qr ha')⟩
   exact ih j a a' ha ha' (hr j a u ha hu)
 |@sl s xs ys own hl hs' hf _ ih =>
  intro x hr
  have old:∀ (j:Nat) a',(flat ys)[j]? = some a'→∃ a,(flat xs)[j]? = some a:=fun j a' ha=>⟨_,List.getElem?_eq_getElem (by rw [← hf];exact Qr ha)⟩
  cases hr with
  |slnil _ _ ht =>
   cases ys with
   |nil=>exact .slnil s none fun b hb=>by cases hb
   |cons y ys=>simp at hl
  |slzero _ _ ba ht =>
   cases ys with
   |nil=>exact .slzero s none ba fun b hb=>by cases hb
   |cons y ys=>simp at hl
  |sl _ _ _ B o cap f hs0 hcap hmax hc hr ht =>
   rw [← hl] at hcap ⊢
   refine .sl s ys none B o cap f hs' hcap hmax (fun j a' ha=>?_) (fun j a' ha=>?_) fun b hb=>by cases hb
   ·obtain ⟨a,h1⟩:=old j a' ha
    exact ⟨⟨(hc j a h1).1.1,Qdv (hc j a h1).1.2⟩,(hc j a h1).2⟩
   ·obtain ⟨a,h1⟩:=old j a' ha
    exact ih j a a' h1 ha (hr j a h1)
 |@arr id len s ty xs ys hi hg hl hs' hf _ ih =>
  intro x hr
  have old:∀ (j:Nat) a',(flat ys)[j]? = some a'→∃ a,(flat xs)[j]? = some a:=fun j a' ha=>⟨_,List.getElem?_eq_getElem (Nat.lt_of_lt_of_le (Qr ha) hf)⟩
  cases hr with
  |arr _ _ _ x hid ho h1 =>
   obtain ⟨B,cap,hρ,rfl,h2,h3,_⟩:=h1 _ _ _ hg
   obtain ⟨B',cur,g1,g2,g3,g4⟩:=hs.blocks id _ hg
   rw [hρ] at g1;cases g1
   subst hl
   rw [Nat.zero_mul]
   refine .sl s ys none B 0 cap (fun j=>cur.getD j undef) hs' h2 h3 (fun j a' ha=>?_) (fun j a' ha=>?_) fun b hb=>by cases hb
   ·obtain ⟨a,h4⟩:=old j a' ha
    obtain ⟨u,h5,h6,h7⟩:=g4 j a h4
    have e:cur.getD j undef=u:=by rw [Array.getD_eq_getD_getElem?,h5];rfl
    show (c.cut m).cellP B (0+j) (cur.getD j undef)∧(cur.getD j undef).oneCell'=true
    rw [e]
    refine ⟨⟨by show c.w.cell? _=_;rw [Nat.zero_add,Xo g2];exact h5,hs.lt hg rfl hρ,fun id' b' hb' hl' hρ'=>?_⟩,h6⟩
    obtain ⟨hlt,hb2⟩:=YQ hb'
    have:=hs.inj id' id b' _ B hb2 hg hl' rfl hρ' hρ
    omega
   ·obtain ⟨a,h4⟩:=old j a' ha
    obtain ⟨u,h5,h6,h7⟩:=g4 j a h4
    have e:cur.getD j undef=u:=by rw [Array.getD_eq_getD_getElem?,h5];rfl
    show Rel (c.cut m) a' (cur.getD j undef)
    rw [e]
    exact ih j a a' h4 ha h7
theorem Qfg {P:Program} {f:FuncId} {args args':List AV} {h:AH} {v:Value} (hl:args'.length=args.length) (hm:∀ (j:Nat) a a',args[j]? = some a→args'[j]? = some a'→Melt h 0 a a')
  (H:QI P f args' [] fun o h'=>o = .ret (.v v)∧h'=[]):QI P f args h fun o h'=>o = .ret (.v v)∧h'=h:=by
 refine ⟨H.1,fun F n c vals hF hs hh hvs=>?_⟩
 subst hh
 have hst0:St (c.cut 0):=hs.cut (Nat.zero_le _) (by simp)
 have hargs:RelL (c.cut 0) args' vals:=by
  refine ⟨hvs.1.trans hl.symm,fun j a' u h1 h2=>?_⟩
  obtain ⟨a,ha⟩:∃ a,args[j]? = some a:=⟨_,List.getElem?_eq_getElem (by rw [← hl];exact Qr h1)⟩
  exact (hm j a a' ha h1).rel hs (Nat.zero_le _) (hvs.2 j a u ha h2)
 refine (H.2 F n (c.cut 0) vals hF hst0 (by simp [Cx.cut]) hargs).mono ?_
 rintro e w' ⟨o,c',⟨rfl,hh'⟩,hev,hst,hw,hex⟩
 obtain ⟨x,rfl,hr⟩:=hex
 cases hr
 have hmem:∀ {B:Nat},B<c.w.heap.size→c'.w.heap[B]? = c.w.heap[B]? := fun h=>hev.Qq0 h
 let c2:Cx:={ρ:=c.ρ,h:=c.h,w:=c'.w}
 have hlt0:∀ {i B0:Nat} {b:AB},c.h[i]? = some b→b.live=true→c.ρ i=some B0→B0<c.w.heap.size:=fun h1 h2 h3=>hs.lt h1 h2 h3
 have hm:∀ {B0:Nat} {o:Obj},c.w.heap[B0]? = some o→c2.w.heap[B0]? = some o:=fun {B0 o} h=>(hmem (Array.getElem?_eq_some_iff.1 h).1).trans h
 have hev2:Ev c c2:=by
  refine ⟨hev.os,hev.tape,hev.output,hev.size,Nat.le_refl _,fun B0 h1 _=>hmem h1,fun id b hb=>⟨b,hb,?_⟩,fun id B0 b h1 h2 hl h3=>?_⟩
  ·cases b with
   |cells ty s xs=>exact .inr ⟨xs,rfl,rfl,fun B cur hρ hc=>⟨cur,hm hc,rfl⟩⟩
   |grow e s n=>exact .inr ⟨n,rfl,Nat.le_refl _,fun _=>rfl,fun B hB=>.inl hB,fun B cur hρ hc=>⟨cur,hm hc,rfl,fun _ _=>rfl⟩⟩
   |map es=>exact ⟨es,rfl,rfl⟩
   |loop i=>exact ⟨i,rfl,rfl⟩
   |iter s p=>exact ⟨p,rfl,rfl⟩
   |glob g cs ty fr=>exact ⟨rfl,rfl,fun B hρ=>hmem (hlt0 hb rfl hρ)⟩
   |dead=>rfl
   |gone=>rfl
  ·have:=Qr h2
   simp only [c2] at this
   omega
 have hst2:St c2:=⟨fun id b hb=>(hs.blocks id b hb).ev hs hev2 rfl fun B0 hl hρ=>hmem (hlt0 hb hl hρ),hs.inj⟩
 exact ⟨.ret (.v v),c2,⟨rfl,rfl⟩,hev2,hst2,hw,_,rfl,.v _⟩
theorem QkF {P:Program} {f:FuncId} {args:List AV} {h:AH} {Q Q0:AOut→AH→Prop} (H:QI P f args h Q0)
  (hp:(∀ (i:Nat) b,h[i]? = some b→b.Below h.length)→∀ o h',Q0 o h'→Q o h'∨∃ r r',o = .ret r∧h.length≤h'.length∧(∀ b∈h'.take h.length,b.Below h.length)∧Melt h' h.length r r'∧Q (.ret r') (h'.take h.length)):QI P f args h Q:=by
 refine ⟨H.1,fun F n c vals hF hs hh hvs=>(H.2 F n c vals hF hs hh hvs).mono ?_⟩
 rintro e w' ⟨o,c',hQ,hev,hst,hw,hex⟩
 rcases hp (fun i b hb=>by subst hh;exact hs.below hb) o c'.h hQ with hq|⟨r,r',rfl,h1,h2,h3,h4⟩
 ·exact ⟨o,c',hq,hev,hst,hw,hex⟩
 ·obtain ⟨x,rfl,hr⟩:=hex
  exact ⟨.ret r',c'.cut h.length,h4,hev.cut (by rw [hh];exact Nat.le_refl _) h1,hst.cut h1 h2,hw,x,rfl,h3.rel hst h1 hr⟩
end Go.Proofs.YticgcpebdldbgaaDoor.Ab
namespace Go.Proofs.YticgcpebdldbgaaDoor.Ab
inductive Pk (n:Nat) (τ:Nat→Nat) (h2:AH):AV→AV→Prop
 |keep {a:AV} (hb:Below n a):Pk n τ h2 a a
 |agg {l l':List AV} (hl:l'.length=l.length) (hp:∀ (j:Nat) a a',l[j]? = some a→l'[j]? = some a'→Pk n τ h2 a a'):Pk n τ h2 (.agg l) (.agg l')
 |tup {l l':List AV} (hl:l'.length=l.length) (hp:∀ (j:Nat) a a',l[j]? = some a→l'[j]? = some a'→Pk n τ h2 a a'):Pk n τ h2 (.tup l) (.tup l')
 |sl {s:Nat} {xs ys:List AV} {own:Option Nat} (hl:ys.length=xs.length) (hs:∀ y∈ys,y.cells.length=s) (hf:(flat ys).length=(flat xs).length)
   (hp:∀ (j:Nat) a a',(flat xs)[j]? = some a→(flat ys)[j]? = some a'→Pk n τ h2 a a'):Pk n τ h2 (.sl s xs own) (.sl s ys none)
 |arr {id old lo len:Nat} (ho:old=τ id) (hi:n≤id) (hl:id<h2.length):Pk n τ h2 (.arr old lo len) (.arr id lo len)
structure Pack (n:Nat) (τ:Nat→Nat) (h h2:AH):Prop where
 len:n≤h2.length
 len':n≤h.length
 id:∀ i,i<n→τ i=i
 old:∀ i,i<n→h2[i]? = h[i]?
 below:∀ (i:Nat) b,i<n→h[i]? = some b→b.Below n
 lo:∀ i,n≤i→i<h2.length→n≤τ i
 inj:∀ i j,n≤i→i<h2.length→n≤j→j<h2.length→τ i=τ j→i=j
 new:∀ (i:Nat) b,n≤i→h2[i]? = some b→b = .dead∨∃ ty s xs ys,b = .cells ty s ys∧h[τ i]? = some (.cells ty s xs)∧(∀ y∈ys,y.cells.length=s)∧(flat ys).length≤(flat xs).length ∧
  ∀ (j:Nat) a a',(flat xs)[j]? = some a→(flat ys)[j]? = some a'→Pk n τ h2 a a'
def Cx.pack (c:Cx) (τ:Nat→Nat) (h2:AH):Cx:={ρ:=fun i=>c.ρ (τ i),h:=h2,w:=c.w}
section
variable {c:Cx} {n:Nat} {τ:Nat→Nat} {h2:AH} (K:Pack n τ c.h h2)
include K
theorem Pack.get {i:Nat} {b:AB} (hb:h2[i]? = some b):(i<n∧c.h[i]? = some b∧τ i=i∧b.Below n)∨(n≤i∧(b = .dead∨∃ ty s xs ys,b = .cells ty s ys∧c.h[τ i]? = some (.cells ty s xs)∧(∀ y∈ys,y.cells.length=s)∧(flat ys).length≤(flat xs).length ∧
  ∀ (j:Nat) a a',(flat xs)[j]? = some a→(flat ys)[j]? = some a'→Pk n τ h2 a a')):=by
 rcases Nat.lt_or_ge i n with h|h
 ·have:=K.old i h
  rw [hb] at this
  exact .inl ⟨h,this.symm,K.id i h,K.below i b h this.symm⟩
 ·exact .inr ⟨h,K.new i b h hb⟩
theorem Pack.low {i:Nat} {b:AB} (hi:i<n) (hb:c.h[i]? = some b):h2[i]? = some b:=(K.old i hi).trans hb
theorem Pack.live {i:Nat} {b:AB} (hb:h2[i]? = some b) (hl:b.live=true):∃ b',c.h[τ i]? = some b'∧b'.live=true∧(b'=b∨∃ ty s xs,b' = .cells ty s xs):=by
 rcases K.get hb with ⟨_,h1,h3,_⟩|⟨_,rfl|⟨ty,s,xs,ys,rfl,h1,_⟩⟩
 ·exact ⟨b,by rw [h3];exact h1,hl,.inl rfl⟩
 ·cases hl
 ·exact ⟨_,h1,rfl,.inr ⟨_,_,_,rfl⟩⟩
theorem Pack.prot {B o:Nat} (h:c.prot B o):(c.pack τ h2).prot B o:=by
 refine ⟨h.1,fun id b hb hl hρ=>?_⟩
 obtain ⟨b',h1,h3,h4⟩:=K.live hb hl
 have h5:=h.2 (τ id) b' h1 h3 hρ
 rcases h4 with rfl|⟨ty,s,xs,rfl⟩
 ·exact h5
 ·rcases h5 with ⟨_,_,_,h5,_⟩|⟨_,_,_,_,h5⟩ <;> cases h5
theorem Pack.ρ {i:Nat} (hi:i<n):(c.pack τ h2).ρ i=c.ρ i:=by show c.ρ (τ i)=c.ρ i;rw [K.id i hi]
theorem Pack.back {i:Nat} {b:AB} (hi:i<n) (hb:(c.pack τ h2).h[i]? = some b):c.h[i]? = some b:=(K.old i hi).symm.trans hb
theorem Pack.keep {a:AV} {x:Value} (h:Rel c a x) (hb:Below n a):Rel (c.pack τ h2) a x:=by
 have hlt:∀ {i:Nat},i<n→i<(c.pack τ h2).h.length:=fun h=>Nat.lt_of_lt_of_le h K.len
 induction h with
 |v x=>exact .v x
 |junk x=>exact .junk x
 |agg l cs hl _ ih=>cases hb with|agg _ h=>exact .agg l cs hl fun j a u h1 h2=>ih j a u h1 h2 (h a (List.mem_of_getElem? h1))
 |tup l cs hl _ ih=>cases hb with|tup _ h=>exact .tup l cs hl fun j a u h1 h2=>ih j a u h1 h2 (h a (List.mem_of_getElem? h1))
 |slnil s own ht =>
  cases hb with
  |sl _ _ _ h hown =>
   refine .slnil s own fun b hb=>⟨hlt (hown b hb),fun e s' m hg=>?_⟩
   rw [K.ρ (hown b hb)]
   exact (ht b hb).2 e s' m (K.back (hown b hb) hg)
 |slzero s own ba ht =>
  cases hb with
  |sl _ _ _ h hown =>
   refine .slzero s own ba fun b hb=>⟨hlt (hown b hb),fun e s' m hg=>?_⟩
   rw [K.ρ (hown b hb)]
   exact (ht b hb).2 e s' m (K.back (hown b hb) hg)
 |sl s xs own B o cap f hs hcap hmax hc _ ht ih =>
  cases hb with
  |sl _ _ _ h hown =>
   refine .sl s xs own B o cap f hs hcap hmax (fun j a hj=>⟨⟨(hc j a hj).1.1,K.prot (hc j a hj).1.2⟩,(hc j a hj).2⟩) (fun j a hj=>ih j a hj (h a (List.mem_of_getElem? hj)))
    fun b hb=>⟨⟨hlt (hown b hb),let ⟨x,g1,g2⟩:=(ht b hb).1.2;⟨x,K.low (hown b hb) g1,g2⟩⟩,fun e s' m hg=>?_⟩
   rw [K.ρ (hown b hb)]
   exact (ht b hb).2 e s' m (K.back (hown b hb) hg)
 |pin s xs k off B o f hs hc _ ih =>
  cases hb with
  |pin _ _ _ _ h =>
   exact .pin s xs k off B o f hs (fun j a hj=>⟨⟨(hc j a hj).1.1,K.prot (hc j a hj).1.2⟩,(hc j a hj).2⟩) (fun j a hj=>ih j a hj (h a (List.mem_of_getElem? hj)))
 |ptr id k off x hid ho h1 =>
  cases hb with
  |ptr _ _ _ h=>exact .ptr id k off x (hlt h) ho fun ty s xs hg=>by rw [K.ρ h];exact h1 ty s xs (K.back h hg)
 |arr id lo len x hid ho h1 =>
  cases hb with
  |arr _ _ _ h=>exact .arr id lo len x (hlt h) ho fun ty s xs hg=>by rw [K.ρ h];exact h1 ty s xs (K.back h hg)
 |row id lo len cap x hid ho h1 =>
  cases hb with
  |row _ _ _ _ h=>exact .row id lo len cap x (hlt h) ho fun ty s xs hg=>by rw [K.ρ h];exact h1 ty s xs (K.back h hg)
 |mp id x hid ho h1 =>
  cases hb with
  |mp _ h=>exact .mp id x (hlt h) ho ⟨fun es hg=>by rw [K.ρ h];exact h1.1 es (K.back h hg),fun i hg=>by rw [K.ρ h];exact h1.2.1 i (K.back h hg),fun s p hg=>by rw [K.ρ h];exact h1.2.2 s p (K.back h hg)⟩
 |fn f first cap vs ws e1 e2 _ _ ih1 ih2 =>
  cases hb with
  |fn _ _ _ h1 h2=>exact .fn f first cap vs ws e1 e2 (fun j a u h3 h4=>ih1 j a u h3 h4 (h1 a (List.mem_of_getElem? h3))) (fun j a u h3 h4=>ih2 j a u h3 h4 (h2 a (List.mem_of_getElem? h3)))
 |ifc t a u _ ih=>cases hb with|ifc _ _ h=>exact .ifc t a u (ih h)
 |spt s xs own p n k _ ih=>cases hb with|spt _ _ _ h=>exact .spt s xs own p n k (ih h)
theorem Pack.rel {a a':AV} (h:Pk n τ h2 a a'):∀ {x:Value},Rel c a x→Rel (c.pack τ h2) a' x:=by
 induction h with
 |keep hb=>exact fun hr=>K.keep hr hb
 |@agg l l' hl _ ih =>
  intro x hr
  cases hr with
  |agg _ cs hl' hr =>
   refine .agg _ cs (by omega) fun j a' u ha' hu=>?_
   obtain ⟨a,ha⟩:∃ a,l[j]? = some a:=⟨_,List.getElem?_eq_getElem (by rw [← hl];exact Qr ha')⟩
   exact ih j a a' ha ha' (hr j a u ha hu)
 |@tup l l' hl _ ih =>
  intro x hr
  cases hr with
  |tup _ cs hl' hr =>
   refine .tup _ cs (by omega) fun j a' u ha' hu=>?_
   obtain ⟨a,ha⟩:∃ a,l[j]? = some a:=⟨_,List.getElem?_eq_getElem (by rw [← hl];exact Qr ha')⟩
   exact ih j a a' ha ha' (hr j a u ha hu)
 |@sl s xs ys own hl hs' hf _ ih =>
  intro x hr
  have old:∀ (j:Nat) a',(flat ys)[j]? = some a'→∃ a,(flat xs)[j]? = some a:=fun j a' ha=>⟨_,List.getElem?_eq_getElem (by rw [← hf];exact Qr ha)⟩
  cases hr with
  |slnil _ _ ht =>
   cases ys with
   |nil=>exact .slnil s none fun b hb=>by cases hb
   |cons y ys=>simp at hl
  |slzero _ _ ba ht =>
   cases ys with
   |nil=>exact .slzero s none ba fun b hb=>by cases hb
   |cons y ys=>simp at hl
  |sl _ _ _ B o cap f hs0 hcap hmax hc hr ht =>
   rw [← hl] at hcap ⊢
   refine .sl s ys none B o cap f hs' hcap hmax (fun j a' ha=>?_) (fun j a' ha=>?_) fun b hb=>by cases hb
   ·obtain ⟨a,h1⟩:=old j a' ha
    exact ⟨⟨(hc j a h1).1.1,K.prot (hc j a h1).1.2⟩,(hc j a h1).2⟩
   ·obtain ⟨a,h1⟩:=old j a' ha
    exact ih j a a' h1 ha (hr j a h1)
 |@arr id old lo len ho hi hl =>
  intro x hr
  subst ho
  cases hr with
  |arr _ _ _ x hid ho h1 =>
   refine .arr id lo len x hl ho fun ty s ys hg=>?_
   rcases K.get hg with ⟨h,_⟩|⟨_,e|⟨ty',s',xs,ys',e,h3,_⟩⟩
   ·omega
   ·cases e
   ·cases e
    exact h1 _ _ _ h3
theorem Pack.st (hs:St c):St (c.pack τ h2):=by
 refine ⟨fun id b hb=>?_,fun i j a b B hi hj hla hlb hρi hρj=>?_⟩
 ·rcases K.get hb with ⟨h1,h3,h4,hbl⟩|⟨h1,rfl|⟨ty,s,xs,ys,rfl,h3,h4,h5,h6⟩⟩
  ·have h0:=hs.blocks id b h3
   have hρ:=K.ρ h1
   cases b with
   |cells ty s xs =>
    obtain ⟨B,cur,g1,g2,g3,g4⟩:=h0
    exact ⟨B,cur,hρ.trans g1,g2,g3,fun j a hj=>let ⟨u,h5,h6,h7⟩:=g4 j a hj;⟨u,h5,h6,K.keep h7 (hbl a (List.mem_of_getElem? hj))⟩⟩
   |grow e s m=>exact fun B hB=>h0 B (hρ.symm.trans hB)
   |map es =>
    obtain ⟨B,ents,clock,g1,g2,g3,g4⟩:=h0
    exact ⟨B,ents,clock,hρ.trans g1,g2,g3,fun j kv e hj he=>⟨(g4 j kv e hj he).1,K.keep (g4 j kv e hj he).2 (hbl kv (List.mem_of_getElem? hj))⟩⟩
   |loop i =>
    obtain ⟨B,r,g1,g2,g3,g4⟩:=h0
    exact ⟨B,r,hρ.trans g1,g2,g3,fun t=>K.keep (g4 t) (hbl t)⟩
   |iter s p =>
    obtain ⟨B,g1,g2⟩:=h0
    exact ⟨B,hρ.trans g1,g2⟩
   |glob g cs ty fr=>exact ⟨hρ.trans h0.1,h0.2⟩
   |dead=>trivial
   |gone=>trivial
  ·trivial
  ·obtain ⟨B,cur,g1,g2,g3,g4⟩:=hs.blocks _ _ h3
   refine ⟨B,cur,g1,g2,h4,fun j a' hj=>?_⟩
   obtain ⟨a,ha⟩:∃ a,(flat xs)[j]? = some a:=⟨_,List.getElem?_eq_getElem (Nat.lt_of_lt_of_le (Qr hj) h5)⟩
   obtain ⟨u,k1,k2,k3⟩:=g4 j a ha
   exact ⟨u,k1,k2,K.rel (h6 j a a' ha hj) k3⟩
 ·obtain ⟨a',h1,h3,_⟩:=K.live hi hla
  obtain ⟨b',h4,h5,_⟩:=K.live hj hlb
  have h6:=hs.inj (τ i) (τ j) a' b' B h1 h4 h3 h5 hρi hρj
  rcases K.get hi with ⟨g1,_,g2,_⟩|⟨g1,_⟩
  ·rcases K.get hj with ⟨g3,_,g4,_⟩|⟨g3,_⟩
   ·omega
   ·have:=K.lo j g3 (Qr hj);omega
  ·rcases K.get hj with ⟨g3,_,g4,_⟩|⟨g3,_⟩
   ·have:=K.lo i g1 (Qr hi);omega
   ·exact K.inj i j g1 (Qr hi) g3 (Qr hj) h6
theorem Pack.ev {c0:Cx} (hn:c0.h.length=n) (hev:Ev c0 c):Ev c0 (c.pack τ h2):=by
 subst hn
 refine ⟨hev.os,hev.tape,hev.output,hev.size,K.len,hev.frame,fun id b hb=>?_,fun id B b h1 h3 hl hρ=>?_⟩
 ·obtain ⟨b',hb',hk⟩:=hev.kin id b hb
  have hi:=Qr hb
  have hρ:=K.ρ hi
  refine ⟨b',K.low hi hb',?_⟩
  cases b <;> simp only [Kin,hρ] at hk ⊢ <;> exact hk
 ·obtain ⟨b',h4,h5,_⟩:=K.live h3 hl
  rcases hev.fresh (τ id) B b' (K.lo id h1 (Qr h3)) h4 h5 hρ with h6|⟨i,ty,s,xs,a1,a2,a3⟩
  ·exact .inl h6
  ·exact .inr ⟨i,ty,s,xs,a1,a2,K.low (Qr a1) a3⟩
end
theorem Qar {P:Program} {f:FuncId} {args:List AV} {h:AH} {Q Q0:AOut→AH→Prop} (H:QI P f args h Q0)
  (hp:(∀ (i:Nat) b,h[i]? = some b→b.Below h.length)→∀ o h',Q0 o h'→Q o h'∨∃ r r2 τ h2,o = .ret r∧Pack h.length τ h' h2∧Pk h.length τ h2 r r2∧Q (.ret r2) h2):QI P f args h Q:=by
 refine ⟨H.1,fun F n c vals hF hs hh hvs=>(H.2 F n c vals hF hs hh hvs).mono ?_⟩
 rintro e w' ⟨o,c',hQ,hev,hst,hw,hex⟩
 rcases hp (fun i b hb=>by subst hh;exact hs.below hb) o c'.h hQ with hq|⟨r,r2,τ,h2,rfl,K,hk,hq⟩
 ·exact ⟨o,c',hq,hev,hst,hw,hex⟩
 ·obtain ⟨x,rfl,hr⟩:=hex
  exact ⟨.ret r2,c'.pack τ h2,hq,K.ev (by rw [hh]) hev,K.st hst,hw,x,rfl,K.rel hk hr⟩
end Go.Proofs.YticgcpebdldbgaaDoor.Ab
namespace Go.Proofs.YticgcpebdldbgaaDoor.Ab
mutual
def T.sz:T→Nat
 | .mk _ _ _ bs=>szs bs
def szs:List T→Nat
 |[]=>0
 |t::l=>t.sz+1+szs l
end
def T.lv (n:Nat):T→AV
 | .mk k i s bs=>.agg [.v (.int .i64 k),.v (.int .i64 i),.v (.string s),if bs.isEmpty then .v (.slice none 0 0) else .arr (n+szs bs - 1) 0 bs.length]
def lvs (n:Nat):List T→List AV
 |[]=>[]
 |t::l=>t.lv n::lvs (n+t.sz+1) l
def lsl (n:Nat) (bs:List T):AV:=if bs.isEmpty then .v (.slice none 0 0) else .arr (n+szs bs - 1) 0 bs.length
mutual
/-- the blocks of a term from n on: behind the blocks of each argument one that is dead,behind the last the row of the arguments -/
def T.lay (tt:TypeId) (n:Nat):T→AH
 | .mk _ _ _ bs=>lays tt n (.cells tt 4 (lvs n bs)) bs
def lays (tt:TypeId) (n:Nat) (r:AB):List T→AH
 |[]=>[]
 |t::l=>t.lay tt n++(if l.isEmpty then r else .dead)::lays tt (n+t.sz+1) r l
end
def layA (tt:TypeId) (n:Nat) (bs:List T):AH:=lays tt n (.cells tt 4 (lvs n bs)) bs
theorem T.QqW (n:Nat) (t:T):t.lv n = .agg [.v (.int .i64 t.kind),.v (.int .i64 t.int),.v (.string t.name),lsl n t.args]:=by cases t;rfl
theorem T.QqO (tt:TypeId) (n:Nat) (t:T):t.lay tt n=layA tt n t.args:=by cases t;rw [T.lay];rfl
theorem T.QqS (t:T):t.sz=szs t.args:=by cases t;rw [T.sz];rfl
theorem T.QqI (n:Nat) (t:T):(t.lv n).cells=[.v (.int .i64 t.kind),.v (.int .i64 t.int),.v (.string t.name),lsl n t.args]:=by rw [T.QqW];rfl
theorem T.QqK (n:Nat) (t:T):(t.lv n).isAgg=true:=by rw [T.QqW];rfl
theorem QP (n:Nat) (bs:List T):(lsl n bs).cell1=true:=by unfold lsl;split <;> rfl
theorem QdR (n:Nat) (bs:List T):(lsl n bs).cells=[lsl n bs]:=by unfold lsl;split <;> rfl
theorem Qd7 (n:Nat) (bs:List T):(lsl n bs).isAgg=false:=by unfold lsl;split <;> rfl
theorem T.QqM (n:Nat) (t:T):(t.lv n).cells.length=4:=by rw [T.QqI];rfl
theorem Zi:∀ (n:Nat) (l:List T),(lvs n l).length=l.length
 |_,[]=>rfl
 |n,t::l=>by rw [lvs,List.length_cons,Zi];rfl
theorem Qi0:∀ (n:Nat) (l:List T),∀ y∈lvs n l,y.cells.length=4
 |_,[],y,h=>by simp [lvs] at h
 |n,t::l,y,h=>by
  rw [lvs,List.mem_cons] at h
  rcases h with rfl|h
  ·exact T.QqM _ _
  ·exact Qi0 _ l y h
theorem YI:∀ (l m:List T),szs (l++m)=szs l+szs m
 |[],m=>by simp [szs]
 |t::l,m=>by rw [List.cons_append,szs,szs,YI l m];omega
theorem Qou (t:T):szs [t]=t.sz+1:=by simp [szs]
theorem QcI:∀ (n:Nat) (l m:List T),lvs n (l++m)=lvs n l++lvs (n+szs l) m
 |n,[],m=>by simp [lvs,szs]
 |n,t::l,m=>by
  rw [List.cons_append,lvs,lvs,QcI _ l m,szs]
  simp only [QrR]
  rw [show n+t.sz+1+szs l=n+(t.sz+1+szs l) by omega]
mutual
theorem T.QqJ (tt:TypeId):∀ (n:Nat) (t:T),(t.lay tt n).length=t.sz
 |n,.mk _ _ _ bs=>by rw [T.lay,T.sz];exact Y0 tt n _ bs
theorem Y0 (tt:TypeId):∀ (n:Nat) (r:AB) (l:List T),(lays tt n r l).length=szs l
 |n,r,[]=>by rw [lays,szs];rfl
 |n,r,t::l=>by rw [lays,szs,List.length_append,List.length_cons,T.QqJ tt n t,Y0 tt _ r l];omega
end
theorem X4 (tt:TypeId) (n:Nat) (l:List T):(layA tt n l).length=szs l:=Y0 tt n _ l
theorem Qce (tt:TypeId):∀ (n:Nat) (r:AB) (l:List T) (u:T),lays tt n r (l++[u])=lays tt n .dead l++(u.lay tt (n+szs l)++[r])
 |n,r,[],u=>by simp [lays,szs]
 |n,r,t::l,u=>by
  have e:(l++[u]).isEmpty=false:=by cases l <;> rfl
  rw [List.cons_append,lays,lays,Qce tt _ r l u,e,szs]
  simp only [Qrt,if_false,ite_self,List.append_assoc,QrR]
  rw [show n+t.sz+1+szs l=n+(t.sz+1+szs l) by omega]
theorem QaR (tt:TypeId):∀ (n:Nat) (r:AB) (l:List T) (u:T) (m:List T),lays tt n r (l++u::m)=lays tt n .dead l++lays tt (n+szs l) r (u::m)
 |n,r,[],u,m=>by simp [lays,szs]
 |n,r,t::l,u,m=>by
  have e:(l++u::m).isEmpty=false:=by cases l <;> rfl
  rw [List.cons_append,lays,QaR tt _ r l u m,e]
  conv=>rhs;rw [lays]
  rw [szs]
  simp only [Qrt,if_false,ite_self,List.append_assoc,QrR]
  rw [show n+t.sz+1+szs l=n+(t.sz+1+szs l) by omega]
theorem QbL {l:List T} (h:l≠[]):0<szs l:=by
 cases l with
 |nil=>exact (h rfl).elim
 |cons t l=>rw [szs];omega
theorem Qht (tt:TypeId) (n:Nat) (l:List T) (u:T):layA tt n (l++[u])=lays tt n .dead l++(u.lay tt (n+szs l)++[.cells tt 4 (lvs n l++[u.lv (n+szs l)])]):=by
 rw [layA,Qce,QcI];rfl
theorem Qbi (tt:TypeId) (n:Nat) (r:AB) (l:List T) (h:l≠[]):(lays tt n r l)[szs l - 1]? = some r∧(lays tt n r l).set (szs l - 1) .dead=lays tt n .dead l:=by
 obtain ⟨l,u,rfl⟩:∃ l' u,l=l'++[u]:=⟨_,_,(List.dropLast_concat_getLast h).symm⟩
 rw [Qce,Qce,← List.append_assoc,← List.append_assoc,YI,Qou]
 have e:szs l+(u.sz+1) - 1=(lays tt n .dead l++u.lay tt (n+szs l)).length:=by rw [List.length_append,Y0,T.QqJ];omega
 rw [e]
 constructor
 ·rw [List.getElem?_append_right (Nat.le_refl _),Nat.sub_self];rfl
 ·rw [List.set_append_right _ _ (Nat.le_refl _),Nat.sub_self];rfl
theorem QhN (tt:TypeId) (n:Nat) (l:List T) (h:l≠[]):(layA tt n l)[szs l - 1]? = some (.cells tt 4 (lvs n l))∧(layA tt n l).set (szs l - 1) .dead=lays tt n .dead l:=Qbi tt n _ l h
theorem Ql9 {R:AV→AV→Prop}:∀ {xs ys:List AV},xs.length=ys.length→(∀ (j:Nat) x y,xs[j]? = some x→ys[j]? = some y→x.cells.length=y.cells.length∧∀ (i:Nat) a b,x.cells[i]? = some a→y.cells[i]? = some b→R a b) →
  (flat ys).length=(flat xs).length∧∀ (j:Nat) a b,(flat xs)[j]? = some a→(flat ys)[j]? = some b→R a b
 |[],[],_,_=>⟨rfl,fun j a b h=>by simp [flat] at h⟩
 |[],y::ys,h,_=>by simp at h
 |x::xs,[],h,_=>by simp at h
 |x::xs,y::ys,h,hp=>by
  obtain ⟨h1,h2⟩:=hp 0 x y rfl rfl
  obtain ⟨h3,h4⟩:=Ql9 (xs:=xs) (ys:=ys) (by simpa using h) fun j x y hx hy=>hp (j+1) x y (by simpa using hx) (by simpa using hy)
  refine ⟨by rw [Q2,Q2,List.length_append,List.length_append,h1,h3],fun j a b ha hb=>?_⟩
  rw [Q2,List.getElem?_append] at ha hb
  rw [← h1] at hb
  split at ha
  ·rename_i hj;rw [if_pos hj] at hb;exact h2 j a b ha hb
  ·rename_i hj;rw [if_neg hj] at hb;exact h4 _ a b ha hb
def At (h:AH) (n:Nat) (L:AH):Prop:=∀ (j:Nat) b,L[j]? = some b→b.live=true→h[n+j]? = some b
theorem At.mid (A L B:AH) {n:Nat} (hn:A.length=n):At (A++(L++B)) n L:=fun j b hb _=>by
 subst hn
 rw [List.getElem?_append_right (by omega),Nat.add_sub_cancel_left,List.getElem?_append_left (Qr hb)];exact hb
theorem At.left {h:AH} {n:Nat} {L M:AH} (H:At h n (L++M)):At h n L:=fun j b hb hl=>H j b (by rw [List.getElem?_append_left (Qr hb)];exact hb) hl
theorem At.right {h:AH} {n:Nat} {L M:AH} (H:At h n (L++M)) {m:Nat} (hm:m=n+L.length):At h m M:=fun j b hb hl=>by
 have:=H (L.length+j) b (by rw [List.getElem?_append_right (by omega),Nat.add_sub_cancel_left];exact hb) hl
 subst hm
 rw [Nat.add_assoc];exact this
theorem At.both {h:AH} {n:Nat} {L M:AH} (H1:At h n L) (H2:At h (n+L.length) M):At h n (L++M):=fun j b hb hl=>by
 rw [List.getElem?_append] at hb
 split at hb
 ·exact H1 j b hb hl
 ·rename_i hj
  have:=H2 _ b hb hl
  rw [show n+L.length+(j - L.length)=n+j by omega] at this
  exact this
theorem At.cons {h:AH} {n:Nat} {x:AB} {M:AH} (H1:x.live=true→h[n]? = some x) (H2:At h (n+1) M):At h n (x::M):=fun j b hb hl=>by
 cases j with
 |zero=>cases hb;exact H1 hl
 |succ j =>
  have:=H2 j b hb hl
  rw [show n+1+j=n+(j+1) by omega] at this
  exact this
theorem At.nil (h:AH) (n:Nat):At h n []:=fun j b hb=>by simp at hb
theorem At.app {h:AH} {n:Nat} {L:AH} (H:At h n L) (M:AH):At (h++M) n L:=fun j b hb hl=>by
 have:=H j b hb hl
 rw [List.getElem?_append_left (Qr this)];exact this
theorem At.get {h:AH} {n:Nat} {L:AH} (H:At h n L) {j:Nat} {b:AB} (hb:L[j]? = some b) (hl:b.live=true) {k:Nat} (hk:k=n+j):h[k]? = some b:=by subst hk;exact H j b hb hl
theorem At.all (L:AH):At L 0 L:=fun j b hb _=>by rw [Nat.zero_add];exact hb
theorem At.tail {x:AB} {L M:AH} {k:Nat} (H:At L k M):At (x::L) (k+1) M:=fun j b hb hl=>by
 have:=H j b hb hl
 rw [show k+1+j=(k+j)+1 by omega,List.getElem?_cons_succ];exact this
theorem At.off {A L M:AH} {n k:Nat} (H:At L k M) (hA:n=A.length+k) (B:AH):At (A++(L++B)) n M:=fun j b hb hl=>by
 have h1:=H j b hb hl
 have:=Qr h1
 rw [List.getElem?_append_right (by omega),List.getElem?_append_left (by omega),show n+j - A.length=k+j by omega];exact h1
theorem At.set {h:AH} {n:Nat} {L:AH} (H:At h n L) {k:Nat} {x:AB} (hk:∀ b,L[k - n]? = some b→n≤k→b.live=false):At (h.set k x) n L:=fun j b hb hl=>by
 have h1:=H j b hb hl
 rw [List.getElem?_set_ne]
 ·exact h1
 ·intro e
  have:=hk b (by rw [show k - n=j by omega];exact hb) (by omega)
  rw [this] at hl;cases hl
theorem Qi7 {tt:TypeId} {h:AH} {m:Nat} (n:Nat) (bs:List T) (hm:m≤n) (H:At h n (lays tt n (.cells tt 4 (lvs n bs)) bs))
  (hpt:(flat (avs bs)).length=(flat (lvs n bs)).length∧∀ (j:Nat) a a',(flat (lvs n bs))[j]? = some a→(flat (avs bs))[j]? = some a'→Melt h m a a'):Melt h m (lsl n bs) (.sl 4 (avs bs) none):=by
 cases bs with
 |nil=>exact .nil 4
 |cons t bs =>
  have hne:t::bs≠[]:=by simp
  have hl:=(Qbi tt n (.cells tt 4 (lvs n (t::bs))) (t::bs) hne).1
  have hp:=QbL hne
  show Melt h m (.arr (n+szs (t::bs) - 1) 0 (t::bs).length) _
  refine .arr (by omega) (H.get hl rfl (by omega)) (Qe7 _) (fun y hy=>?_) (Nat.le_of_eq hpt.1) hpt.2
  rw [Qf9] at hy
  obtain ⟨u,_,rfl⟩:=List.mem_map.1 hy
  rw [T.QqG];rfl
section
variable {tt:TypeId} {h:AH} {m:Nat}
mutual
theorem T.Qro:∀ (t:T) (n:Nat),m≤n→At h n (t.lay tt n)→∀ (j:Nat) a a',(t.lv n).cells[j]? = some a→t.av.cells[j]? = some a'→Melt h m a a'
 | .mk k i s bs,n,hm,H,j,a,a',h1,h2=>by
  rw [T.lay] at H
  have h3:=Qi7 n bs hm H (Qim bs n _ hm H)
  rw [T.QqI] at h1
  rw [T.QqG] at h2
  match j,h1,h2 with
  |0,h1,h2=>cases h1;cases h2;exact .keep (.v _)
  |1,h1,h2=>cases h1;cases h2;exact .keep (.v _)
  |2,h1,h2=>cases h1;cases h2;exact .keep (.v _)
  |3,h1,h2=>cases h1;cases h2;exact h3
  |j+4,h1,h2=>simp at h1
theorem Qim:∀ (bs:List T) (n:Nat) (r:AB),m≤n→At h n (lays tt n r bs)→(flat (avs bs)).length=(flat (lvs n bs)).length∧∀ (j:Nat) a a',(flat (lvs n bs))[j]? = some a→(flat (avs bs))[j]? = some a'→Melt h m a a'
 |[],n,r,hm,H=>⟨rfl,fun j a a' h1=>by simp [lvs,flat] at h1⟩
 |t::bs,n,r,hm,H=>by
  rw [lays] at H
  have h1:=T.Qro t n hm H.left
  have h2:At h (n+t.sz+1) (lays tt (n+t.sz+1) r bs):=by
   have:=H.right (m:=n+t.sz) (by rw [T.QqJ])
   exact At.right (L:=[if bs.isEmpty then r else .dead]) this rfl
  obtain ⟨h3,h4⟩:=Qim bs (n+t.sz+1) r (Nat.le_trans hm (by omega)) h2
  have hc:t.av.cells.length=(t.lv n).cells.length:=by rw [T.QqG,T.QqI];rfl
  refine ⟨by rw [avs,lvs,Q2,Q2,List.length_append,List.length_append,h3,hc],fun j a a' ha hb=>?_⟩
  rw [lvs,Q2,List.getElem?_append] at ha
  rw [avs,Q2,List.getElem?_append,hc] at hb
  split at ha
  ·rename_i hj
   rw [if_pos hj] at hb
   exact h1 j a a' ha hb
  ·rename_i hj
   rw [if_neg hj] at hb
   exact h4 _ a a' ha hb
end
theorem Qd8 {n:Nat} {bs:List T} (hm:m≤n) (H:At h n (layA tt n bs)):Melt h m (lsl n bs) (.sl 4 (avs bs) none):=Qi7 n bs hm H (Qim bs n _ hm H)
end
def PkB (n:Nat) (τ:Nat→Nat) (h2:AH) (b b':AB):Prop:=b' = .dead∨∃ ty s xs ys,b' = .cells ty s ys∧b = .cells ty s xs∧(∀ y∈ys,y.cells.length=s)∧(flat ys).length≤(flat xs).length ∧
  ∀ (j:Nat) a a',(flat xs)[j]? = some a→(flat ys)[j]? = some a'→Pk n τ h2 a a'
def Sh (n:Nat) (τ:Nat→Nat) (h2:AH) (m m' len:Nat):Prop:=n≤m'∧m'+len≤h2.length∧∀ j,j<len→τ (m'+j)=m+j
theorem Sh.sub {n:Nat} {τ:Nat→Nat} {h2:AH} {m m' len:Nat} (H:Sh n τ h2 m m' len) {k l:Nat} (hl:k+l≤len) {a b:Nat} (ha:a=m+k) (hb:b=m'+k):Sh n τ h2 a b l:=by
 subst ha;subst hb
 obtain ⟨h1,h3,h4⟩:=H
 exact ⟨by omega,by omega,fun j hj=>by rw [Nat.add_assoc,h4 _ (by omega),Nat.add_assoc]⟩
theorem QjH {n:Nat} {τ:Nat→Nat} {h2:AH} {m m':Nat} {bs:List T} (H:Sh n τ h2 m m' (szs bs)):Pk n τ h2 (lsl m bs) (lsl m' bs):=by
 unfold lsl
 cases bs with
 |nil=>exact .keep (.v _)
 |cons t bs =>
  have hp:0<szs (t::bs):=QbL (by simp)
  obtain ⟨h1,h3,h4⟩:=H
  refine .arr ?_ (by omega) (by omega)
  have:=h4 (szs (t::bs) - 1) (by omega)
  rw [show m'+szs (t::bs) - 1=m'+(szs (t::bs) - 1) by omega,this];omega
theorem T.QqQ {n:Nat} {τ:Nat→Nat} {h2:AH} {m m':Nat} {t:T} (H:Sh n τ h2 m m' t.sz):∀ (j:Nat) a a',(t.lv m).cells[j]? = some a→(t.lv m').cells[j]? = some a'→Pk n τ h2 a a':=by
 intro j a a' h1 h3
 rw [T.QqI] at h1 h3
 match j,h1,h3 with
 |0,h1,h3=>cases h1;cases h3;exact .keep (.v _)
 |1,h1,h3=>cases h1;cases h3;exact .keep (.v _)
 |2,h1,h3=>cases h1;cases h3;exact .keep (.v _)
 |3,h1,h3=>cases h1;cases h3;exact QjH (by rw [← T.QqS];exact H)
 |j+4,h1,h3=>simp at h1
theorem T.pk {n:Nat} {τ:Nat→Nat} {h2:AH} {m m':Nat} {t:T} (H:Sh n τ h2 m m' t.sz):Pk n τ h2 (t.lv m) (t.lv m'):=by
 have:=T.QqQ H
 rw [T.QqI,T.QqI] at this
 rw [T.QqW,T.QqW]
 exact .agg rfl this
theorem Qk9 {n:Nat} {τ:Nat→Nat} {h2:AH}:∀ {m m':Nat} {bs:List T},Sh n τ h2 m m' (szs bs)→(flat (lvs m' bs)).length=(flat (lvs m bs)).length∧∀ (j:Nat) a a',(flat (lvs m bs))[j]? = some a→(flat (lvs m' bs))[j]? = some a'→Pk n τ h2 a a'
 |m,m',[],H=>⟨rfl,fun j a a' h1=>by simp [lvs,flat] at h1⟩
 |m,m',t::bs,H=>by
  rw [szs] at H
  have h1:=T.QqQ (H.sub (k:=0) (l:=t.sz) (by omega) rfl rfl)
  obtain ⟨h3,h4⟩:=Qk9 (bs:=bs) (H.sub (k:=t.sz+1) (l:=szs bs) (a:=m+t.sz+1) (b:=m'+t.sz+1) (by omega) (by omega) (by omega))
  have hc:(t.lv m').cells.length=(t.lv m).cells.length:=by rw [T.QqM,T.QqM]
  refine ⟨by rw [lvs,lvs,Q2,Q2,List.length_append,List.length_append,h3,hc],fun j a a' ha hb=>?_⟩
  rw [lvs,Q2,List.getElem?_append] at ha hb
  rw [hc] at hb
  split at ha
  ·rename_i hj
   rw [if_pos hj] at hb
   exact h1 j a a' ha hb
  ·rename_i hj
   rw [if_neg hj] at hb
   exact h4 _ a a' ha hb
theorem QiK {n:Nat} {τ:Nat→Nat} {h2:AH} {tt:TypeId} {m m':Nat} {bs:List T} (H:Sh n τ h2 m m' (szs bs)):PkB n τ h2 (.cells tt 4 (lvs m bs)) (.cells tt 4 (lvs m' bs)) :=
 .inr ⟨tt,4,_,_,rfl,rfl,Qi0 _ _,Nat.le_of_eq (Qk9 H).1,(Qk9 H).2⟩
mutual
theorem T.pkB {n:Nat} {τ:Nat→Nat} {h2:AH} {tt:TypeId}:∀ {m m':Nat} (t:T),Sh n τ h2 m m' t.sz→∀ (j:Nat) b b',(t.lay tt m)[j]? = some b→(t.lay tt m')[j]? = some b'→PkB n τ h2 b b'
 |m,m',.mk k i s bs,H,j,b,b',h1,h3=>by
  rw [T.sz] at H
  rw [T.lay] at h1 h3
  exact Qdt bs (QiK H) H j b b' h1 h3
theorem Qdt {n:Nat} {τ:Nat→Nat} {h2:AH} {tt:TypeId} {r r':AB}:∀ {m m':Nat} (bs:List T),PkB n τ h2 r r'→Sh n τ h2 m m' (szs bs)→∀ (j:Nat) b b',(lays tt m r bs)[j]? = some b→(lays tt m' r' bs)[j]? = some b'→PkB n τ h2 b b'
 |m,m',[],hr,H,j,b,b',h1,h3=>by simp [lays] at h1
 |m,m',t::bs,hr,H,j,b,b',h1,h3=>by
  rw [szs] at H
  rw [lays,List.getElem?_append,T.QqJ] at h1 h3
  split at h1
  ·rename_i hj
   rw [if_pos hj] at h3
   exact T.pkB t (H.sub (k:=0) (l:=t.sz) (by omega) rfl rfl) j b b' h1 h3
  ·rename_i hj
   rw [if_neg hj] at h3
   cases hk:j - t.sz with
   |zero =>
    rw [hk,List.getElem?_cons_zero] at h1 h3
    cases h1;cases h3
    split
    ·exact hr
    ·exact .inl rfl
   |succ k =>
    rw [hk,List.getElem?_cons_succ] at h1 h3
    exact Qdt bs hr (H.sub (k:=t.sz+1) (l:=szs bs) (a:=m+t.sz+1) (b:=m'+t.sz+1) (by omega) (by omega) (by omega)) k b b' h1 h3
end
theorem Qjg {A N L':AH} {n:Nat} {τ:Nat→Nat} (hn:A.length=n) (hb:∀ b∈A,b.Below n) (hid:∀ i,i<n→τ i=i) (hlo:∀ i,n≤i→i<n+L'.length→n≤τ i)
  (hin:∀ i j,n≤i→i<n+L'.length→n≤j→j<n+L'.length→τ i=τ j→i=j)
  (hB:∀ (j:Nat) b',L'[j]? = some b'→b' = .dead∨∃ b,(A++N)[τ (n+j)]? = some b∧PkB n τ (A++L') b b'):Pack n τ (A++N) (A++L'):=by
 have hl:(A++L').length=n+L'.length:=by rw [List.length_append,hn]
 refine ⟨by omega,by rw [List.length_append];omega,hid,fun i hi=>?_,fun i b hi hg=>?_,fun i h1 h3=>hlo i h1 (by omega),fun i j h1 h2 h3 h4 he=>hin i j h1 (by omega) h3 (by omega) he,fun i b h1 hg=>?_⟩
 ·rw [List.getElem?_append_left (by omega),List.getElem?_append_left (by omega)]
 ·rw [List.getElem?_append_left (by omega)] at hg
  exact hb b (List.mem_of_getElem? hg)
 ·rw [List.getElem?_append_right (by omega),hn] at hg
  rcases hB (i - n) b hg with h3|⟨b0,h3,h4⟩
  ·exact .inl h3
  ·rw [show n+(i - n)=i by omega] at h3
   rcases h4 with h4|⟨ty,s,xs,ys,rfl,rfl,h5,h6,h7⟩
   ·exact .inl h4
   ·exact .inr ⟨ty,s,xs,ys,rfl,h3,h5,h6,h7⟩
def tauG (n g:Nat):Nat→Nat:=fun i=>if i<n then i else i+g
theorem shG {A L':AH} {n:Nat} (hn:A.length=n) (g:Nat):Sh n (tauG n g) (A++L') (n+g) n L'.length :=
 ⟨Nat.le_refl _,by rw [List.length_append];omega,fun j hj=>by unfold tauG;rw [if_neg (by omega)];omega⟩
theorem QfI {A N C L':AH} {n g:Nat} (hn:A.length=n) (hb:∀ b∈A,b.Below n) (hC:C.length=L'.length) (hN:At N g C)
  (hP:Sh n (tauG n g) (A++L') (n+g) n L'.length→∀ (j:Nat) b b',C[j]? = some b→L'[j]? = some b'→PkB n (tauG n g) (A++L') b b') (hlive:∀ (j:Nat) b b',C[j]? = some b→L'[j]? = some b'→b.live=false→b' = .dead):Pack n (tauG n g) (A++N) (A++L'):=by
 refine Qjg hn hb (fun i hi=>by unfold tauG;rw [if_pos hi]) (fun i h1 _=>by unfold tauG;rw [if_neg (by omega)];omega) (fun i j h1 _ h3 _ he=>?_) fun j b' hj=>?_
 ·unfold tauG at he
  rw [if_neg (by omega),if_neg (by omega)] at he
  omega
 ·obtain ⟨b,hb1⟩:∃ b,C[j]? = some b:=⟨_,List.getElem?_eq_getElem (by have:=Qr hj;omega)⟩
  cases hl:b.live with
  |false=>exact .inl (hlive j b b' hb1 hj hl)
  |true =>
   refine .inr ⟨b,?_,hP (shG hn g) j b b' hb1 hj⟩
   have:=hN j b hb1 hl
   unfold tauG
   rw [if_neg (by omega),List.getElem?_append_right (by omega),show n+j+g - A.length=g+j by omega];exact this
mutual
theorem T.QqT {tt:TypeId}:∀ {m m':Nat} (t:T) (j:Nat) (b b':AB),(t.lay tt m)[j]? = some b→(t.lay tt m')[j]? = some b'→b.live=false→b' = .dead
 |m,m',.mk k i s bs,j,b,b',h1,h2,hl=>by
  rw [T.lay] at h1 h2
  exact Qeo bs (fun h=>by cases h) j b b' h1 h2 hl
theorem Qeo {tt:TypeId} {r r':AB}:∀ {m m':Nat} (bs:List T),(r.live=false→r' = .dead)→∀ (j:Nat) (b b':AB),(lays tt m r bs)[j]? = some b→(lays tt m' r' bs)[j]? = some b'→b.live=false→b' = .dead
 |m,m',[],hr,j,b,b',h1,h2,hl=>by simp [lays] at h1
 |m,m',t::bs,hr,j,b,b',h1,h2,hl=>by
  rw [lays,List.getElem?_append,T.QqJ] at h1 h2
  split at h1
  ·rename_i hj
   rw [if_pos hj] at h2
   exact T.QqT t j b b' h1 h2 hl
  ·rename_i hj
   rw [if_neg hj] at h2
   cases hk:j - t.sz with
   |zero =>
    rw [hk,List.getElem?_cons_zero] at h1 h2
    cases h1;cases h2
    split
    ·rename_i he
     rw [if_pos he] at hl
     exact hr hl
    ·rfl
   |succ k =>
    rw [hk,List.getElem?_cons_succ] at h1 h2
    exact Qeo bs hr k b b' h1 h2 hl
end
theorem QhL {tt:TypeId} {m m':Nat} (bs:List T) (j:Nat) (b b':AB) (h1:(layA tt m bs)[j]? = some b) (h2:(layA tt m' bs)[j]? = some b') (hl:b.live=false):b' = .dead:=Qeo bs (fun h=>by cases h) j b b' h1 h2 hl
theorem Qnp {tt:TypeId} {A N:AH} {n:Nat} (hn:A.length=n) (hb:∀ b∈A,b.Below n) (g:Nat) (bs:List T) (hN:At N g (layA tt (n+g) bs)) :
  Pack n (tauG n g) (A++N) (A++layA tt n bs)∧Pk n (tauG n g) (A++layA tt n bs) (lsl (n+g) bs) (lsl n bs):=by
 have hsh:=shG (L':=layA tt n bs) hn g
 rw [X4] at hsh
 refine ⟨QfI hn hb (by rw [X4,X4]) hN (fun h j b b' h1 h2=>Qdt bs (QiK hsh) hsh j b b' h1 h2) (fun j b b' h1 h2 hl=>QhL bs j b b' h1 h2 hl),QjH hsh⟩
theorem Qqm {tt:TypeId} {A N:AH} {n:Nat} (hn:A.length=n) (hb:∀ b∈A,b.Below n) (g:Nat) (t:T) (hN:At N g (t.lay tt (n+g))) :
  Pack n (tauG n g) (A++N) (A++t.lay tt n)∧Pk n (tauG n g) (A++t.lay tt n) (t.lv (n+g)) (t.lv n):=by
 have hsh:=shG (L':=t.lay tt n) hn g
 rw [T.QqJ] at hsh
 rw [T.QqO] at hN
 have:=Qnp (tt:=tt) hn hb g t.args hN
 rw [← T.QqO] at this
 exact ⟨this.1,T.pk hsh⟩
end Go.Proofs.YticgcpebdldbgaaDoor.Ab
namespace Go.Proofs.YticgcpebdldbgaaDoor.Ab
def smap (l:List (ByteArray×AV)):List (Value×AV):=l.map fun p=>(.string p.1,p.2)
def sget (x:ByteArray):List (ByteArray×AV)→Option AV
 |[]=>none
 |p::l=>if x=p.1 then some p.2 else sget x l
def supd (x:ByteArray) (v:AV):List (ByteArray×AV)→List (ByteArray×AV)
 |[]=>[(x,v)]
 |p::l=>if x=p.1 then (x,v)::l else p::supd x v l
theorem QpS (a b:ByteArray):(a==b)=decide (a=b):=by
 have h:(a==b)=true↔a=b:=by
  obtain ⟨x⟩:=a
  obtain ⟨y⟩:=b
  constructor
  ·intro h
   have e:x=y:=by simpa using (show (x==y)=true from h)
   rw [e]
  ·intro h
   cases h
   show (x==x)=true
   simp
 by_cases e:a=b
 ·rw [decide_eq_true e];exact h.2 e
 ·rw [decide_eq_false e]
  cases hb:a==b with
  |false=>rfl
  |true=>exact (e (h.1 hb)).elim
theorem Qjq (a b:ByteArray):Instr.sameNow .string (.string a) (.string b)=some (decide (a=b)):=by
 rw [← QpS];rfl
theorem QgY (x:ByteArray):∀ l:List (ByteArray×AV),Qge .string (.string x) (smap l)=some (sget x l)
 |[]=>rfl
 |p::l=>by
  have e:smap (p::l)=(.string p.1,p.2)::smap l:=rfl
  rw [e]
  simp only [Qge,sget,Qjq]
  by_cases hk:x=p.1
  ·simp only [hk,QrV,if_true]
  ·simp only [hk,QrW,if_false];exact QgY x l
theorem QjB (x:ByteArray) (v:AV):∀ l:List (ByteArray×AV),updA .string (.string x) v (smap l)=some (smap (supd x v l))
 |[]=>rfl
 |p::l=>by
  have e:smap (p::l)=(.string p.1,p.2)::smap l:=rfl
  rw [e]
  simp only [updA,supd,Qjq]
  by_cases hk:x=p.1
  ·simp only [hk,QrV,if_true];rfl
  ·simp only [hk,QrW,if_false,QjB x v l];rfl
theorem Qg0 (x y:ByteArray) (v:AV):∀ l:List (ByteArray×AV),sget y (supd x v l)=if y=x then some v else sget y l
 |[]=>rfl
 |p::l=>by
  simp only [supd]
  split
  ·rename_i h
   subst h
   simp only [sget]
   split <;> rfl
  ·rename_i h
   simp only [sget,Qg0 x y v l]
   by_cases hy:y=p.1
   ·rw [if_pos hy,if_pos hy,if_neg (by rintro rfl;exact h hy)]
   ·rw [if_neg hy,if_neg hy]
theorem QjQ (l:List (ByteArray×AV)) (n:Nat) (h:∀ p∈l,Below n p.2):(AB.map (smap l)).Below n:=by
 intro kv hkv
 simp only [smap,List.mem_map] at hkv
 obtain ⟨p,hp,rfl⟩:=hkv
 exact h p hp
end Go.Proofs.YticgcpebdldbgaaDoor.Ab
namespace Go.Proofs.YticgcpebdldbgaaDoor.Ab
open Go.ChangeShapes Go.WideShapes Go.ChangeAt Go.RowKit
def base0 (W:World):Cx:=⟨fun _=>none,[],W⟩
theorem QaL {H:Type} {enc:TypeId×Value→H} {P:Program} (hl:laidOutB P=true) {W W':World} (hb:Go.RowKit.Below W.heap.size W W') {sp:Nat→Bool} :
  ∀ (ts:List TypeId) (vs:List Value) (ds:List (DataW H)) (ps:List MemPlace),(∀ t∈ts,P.readableRec t=true∧t<P.types.size)→DataW.TrodAll enc P W 0 (fun _=>true) true ts vs ds ps →
   (∀ x∈ps,x.block<W.heap.size∧sp x.block=true)→DataW.TrodAll enc P W' 0 sp true ts vs ds ps
 |[],vs,ds,ps,_,h,_=>by
  obtain ⟨rfl,rfl,rfl⟩:=trodAll_nil h
  exact trodAll_mk0
 |t::ts,vs,ds,ps,hp,h,hlt=>by
  obtain ⟨v,vs',d,ds',p,q,rfl,rfl,rfl,h1,h2⟩:=trodAll_cons h
  obtain ⟨h3,h4⟩:=hp t (by simp)
  exact trodAll_cons_mk (WideElems.Trod_stays hl h3 h4 h1 (fun x hx=>hb.same (hlt x (by simp [hx])).1) (fun x hx=>(hlt x (by simp [hx])).2))
   (QaL hl hb ts vs' ds' q (fun t ht=>hp t (by simp [ht])) h2 (fun x hx=>hlt x (by simp [hx])))
theorem Qdf {H:Type} {enc:TypeId×Value→H} {P:Program} {W:World} {base:Nat} {sp:Nat→Bool} {held:Bool} :
  ∀ {ts:List TypeId} {vs:List Value} {ds:List (DataW H)} {ps:List MemPlace} {ts':List TypeId} {vs':List Value} {ds':List (DataW H)} {ps':List MemPlace},
   DataW.TrodAll enc P W base sp held ts vs ds ps→DataW.TrodAll enc P W base sp held ts' vs' ds' ps'→DataW.TrodAll enc P W base sp held (ts++ts') (vs++vs') (ds++ds') (ps++ps')
 |[],_,_,_,_,_,_,_,h,h'=>by
  obtain ⟨rfl,rfl,rfl⟩:=trodAll_nil h
  exact h'
 |t::ts,_,_,_,_,_,_,_,h,h'=>by
  obtain ⟨v,vs',d,ds',p,q,rfl,rfl,rfl,h1,h2⟩:=trodAll_cons h
  have:=trodAll_cons_mk h1 (Qdf h2 h')
  simpa [List.append_assoc] using this
theorem Qks {H:Type} {enc:TypeId×Value→H} {P:Program} {fn:Func} {s:ChangeSpec} {apart fresh handsOn again:Bool} {W W':World} {args:Array Value} {ds gs:List (DataW H)} {before:List MemPlace} {tb:TypeId}
  (hl:laidOutB P=true) (hvars:s.vars=[]) (hr:fn.resultTypes=#[tb]) (hb:P.underlying tb=some .bool) (hp:∀ t∈fn.params.toList,P.readableRec t=true∧t<P.types.size)
  (hW:DataW.Whole enc P fn.params.toList s.vars apart W args.toList ds gs before) (hs:s.fn H (ds++gs)={results:=[.lit (.bool true)],args:=ds}) (hbel:Go.RowKit.Below W.heap.size W W') :
  s.post enc P fn apart fresh handsOn again W args (.bool true) W':=by
 have hlt:∀ x∈before,x.block<W.heap.size:=fun x hx=>by simpa using hW.lt x hx
 have hW0:=hW
 obtain ⟨p,q,hA,hV,rfl,hfz,hnd⟩:=hW
 rw [hvars] at hV
 have hV0:=hV
 obtain ⟨rfl,rfl⟩:=trodVars_none hV
 simp only [QrS] at hlt hfz hnd hW0 hs
 have hres:∀ (b:Nat) (sp:Nat→Bool) (hd:Bool),DataW.TrodAll enc P W' b sp hd fn.resultTypes.toList ((Value.bool true).resultList fn.resultTypes.size) [.lit (.bool true)] []:=fun b sp hd=>by
  rw [hr]
  exact trodAll_mk1 (shut_bool hb true)
 have hvs:∀ sp:Nat→Bool,DataW.TrodVars enc P W' sp s.vars [] []:=fun sp=>by rw [hvars];rfl
 refine ⟨ds,[],p,[],p,[],by simpa using hW0,?_,?_,?_,?_,fun _=>⟨?_,?_⟩⟩
 ·rw [List.append_nil,hs];exact hres _ _ _
 ·rw [List.append_nil,hs]
  exact QaL hl hbel _ _ _ _ hp hA fun x hx=>⟨hlt x hx,by simpa using hlt x hx⟩
 ·rw [List.append_nil,hs];exact hvs _
 ·exact hbel.frame _
 ·intro j t r hj hv
  rw [hr] at hj hv
  match j,hj,hv with
  |0,hj,hv =>
   simp only [Qrs,Qrp,Qrv] at hj
   have hv':r = .bool true:=by
    have:(some (Value.bool true))=some r:=hv
    cases this;rfl
   subst hj;subst hv'
   exact okWide_bool_mk hb true
  |j+1,hj,hv=>simp at hj
 ·have hA':=QaL (sp:=fun _=>true) hl hbel _ _ _ _ hp hA fun x hx=>⟨hlt x hx,rfl⟩
  refine ⟨_,[],[]++p,⟨[]++p,[],Qdf (hres 0 _ true) hA',hvs _,by simp,?_,?_⟩,?_⟩
  ·intro b off hm
   have hm':MemPlace.cell b off∈p:=by simpa using hm
   exact (hbel.frozen (p:=⟨b,off,none⟩) (hlt _ hm')).trans (hfz b off hm')
  ·intro ha
   simpa using hnd ha
  ·intro x hx _
   simpa using hx
theorem Qng (c:Cx):RelL c [] #[]:=⟨rfl,fun j a u h=>by simp at h⟩
theorem Qhy {c:Cx} {a:AV} {asx:List AV} {u:Value} {us:List Value} (h:Rel c a u) (hs:RelL c asx us.toArray):RelL c (a::asx) (u::us).toArray:=by
 refine ⟨by have:=hs.1;simp at this ⊢;exact this,fun j x v hx hv=>?_⟩
 cases j with
 |zero=>simp at hx hv;subst hx;subst hv;exact h
 |succ j=>exact hs.2 j x v (by simpa using hx) (by simpa using hv)
end Go.Proofs.YticgcpebdldbgaaDoor.Ab
namespace Go.Proofs.YticgcpebdldbgaaDoor.Ab
open Go.RowKit
def HasG (h:AH) (g:Nat) (cs:Array Value):Prop:=∃ (i:Nat) (ty:TypeId) (fr:Nat×Nat),h[i]? = some (.glob g cs ty fr)
theorem HasG.app {h:AH} {g:Nat} {cs:Array Value} (H:HasG h g cs) (l:AH):HasG (h++l) g cs:=let ⟨i,ty,fr,e⟩:=H;⟨i,ty,fr,hext e l⟩
theorem HasG.world {c:Cx} (hst:St c) {g:Nat} {cs:Array Value} (H:HasG c.h g cs):∃ ty fr,c.w.heap[g]? = some (.cells cs ty fr) :=
 let ⟨i,ty,fr,e⟩:=H;⟨ty,fr,(hst.blocks i _ e).2⟩
theorem HasG.kin {c c':Cx} (hev:Ev c c') {g:Nat} {cs:Array Value} (H:HasG c.h g cs):HasG c'.h g cs:=by
 obtain ⟨i,ty,fr,e⟩:=H
 obtain ⟨b',hb,hk⟩:=hev.kin i _ e
 simp only [Kin] at hk
 obtain ⟨rfl,_⟩:=hk
 exact ⟨i,ty,fr,hb⟩
structure GV where
 g:Nat
 cs:Array Value
 ty:TypeId
 fr:Nat×Nat
def GV.blk (x:GV):AB:=.glob x.g x.cs x.ty x.fr
def QeJ (W:World) (gs:List GV):Cx:=⟨fun id=>(gs[id]?).map (·.g),gs.map GV.blk,W⟩
theorem Qa9 {W:World} {gs:List GV} {id:Nat} {b:AB} (h:(QeJ W gs).h[id]? = some b):∃ x,gs[id]? = some x∧b=x.blk∧(QeJ W gs).ρ id=some x.g:=by
 simp only [QeJ,List.getElem?_map,Option.map_eq_some_iff] at h ⊢
 obtain ⟨x,hx,rfl⟩:=h
 exact ⟨x,hx,rfl,x,hx,rfl⟩
theorem Qmb {l:List Nat} (hn:l.Nodup) {i j a:Nat} (hi:l[i]? = some a) (hj:l[j]? = some a):i=j:=by
 have hp:=List.pairwise_iff_getElem.1 hn
 obtain ⟨li,ei⟩:=List.getElem?_eq_some_iff.1 hi
 obtain ⟨lj,ej⟩:=List.getElem?_eq_some_iff.1 hj
 rcases Nat.lt_trichotomy i j with h|h|h
 ·exact absurd (ei.trans ej.symm) (hp i j li lj h)
 ·exact h
 ·exact absurd (ej.trans ei.symm) (hp j i lj li h)
theorem QnD {W:World} {gs:List GV} (hw:∀ x∈gs,W.heap[x.g]? = some (.cells x.cs x.ty x.fr)) (hn:(gs.map (·.g)).Nodup):St (QeJ W gs):=by
 refine ⟨fun id b h=>?_,fun i j a b B hi hj _ _ hρi hρj=>?_⟩
 ·obtain ⟨x,hx,rfl,hρ⟩:=Qa9 h
  exact ⟨hρ,hw x (List.mem_of_getElem? hx)⟩
 ·obtain ⟨x,hx,rfl,hρ⟩:=Qa9 hi
  obtain ⟨y,hy,rfl,hρ'⟩:=Qa9 hj
  have e:x.g=y.g:=(Option.some.inj (hρ.symm.trans hρi)).trans (Option.some.inj (hρ'.symm.trans hρj)).symm
  have e1:(gs.map (·.g))[i]? = some x.g:=by rw [List.getElem?_map,hx];rfl
  have e2:(gs.map (·.g))[j]? = some x.g:=by rw [List.getElem?_map,hy,e];rfl
  exact Qmb hn e1 e2
theorem QhT {W:World} {gs:List GV} {c:Cx} (hw:∀ x∈gs,W.heap[x.g]? = some (.cells x.cs x.ty x.fr)) (hst:St c) (h:Ev (QeJ W gs) c):Go.RowKit.Below W.heap.size W c.w:=by
 refine ⟨h.os,h.tape,h.output,h.size,fun k hk=>?_⟩
 by_cases ho:(QeJ W gs).owns k
 ·obtain ⟨id,b,hb,_,hρ⟩:=ho
  obtain ⟨x,hx,rfl,hρ'⟩:=Qa9 hb
  obtain rfl:=Option.some.inj (hρ.symm.trans hρ')
  obtain ⟨b',hb',hk'⟩:=h.kin id _ hb
  simp only [GV.blk,Kin] at hk'
  obtain ⟨rfl,_⟩:=hk'
  rw [(hst.blocks id _ hb').2,hw x (List.mem_of_getElem? hx)]
 ·exact h.frame k hk ho
theorem QmP {W:World} {gs:List GV} {a:AV} {u:Value} (h:Rel (base0 W) a u):Rel (QeJ W gs) a u:=by
 have hp:∀ {B o:Nat} {u:Value},(base0 W).cellP B o u→(QeJ W gs).cellP B o u:=fun {B o u} h=>⟨h.1,h.2.1,fun id b hb hl hρ=>.inr (by
  obtain ⟨x,_,rfl,_⟩:=Qa9 hb
  exact ⟨_,_,_,_,rfl⟩)⟩
 induction h with
 |v x=>exact .v x
 |junk x=>exact .junk x
 |agg l cs hl h ih=>exact .agg l cs hl ih
 |tup l cs hl h ih=>exact .tup l cs hl ih
 |slnil s own ht=>exact .slnil s own fun b hb=>absurd (ht b hb).1 (by simp [base0])
 |slzero s own ba ht=>exact .slzero s own ba fun b hb=>absurd (ht b hb).1 (by simp [base0])
 |sl s xs own B o cap f hs hcap hmax hc hr ht ih=>exact .sl s xs own B o cap f hs hcap hmax (fun j a hj=>⟨hp (hc j a hj).1,(hc j a hj).2⟩) ih fun b hb=>absurd (ht b hb).1.1 (by simp [base0])
 |pin s xs k off B o f hs hc hr ih=>exact .pin s xs k off B o f hs (fun j a hj=>⟨hp (hc j a hj).1,(hc j a hj).2⟩) ih
 |ptr id k off x hid=>exact absurd hid (by simp [base0])
 |arr id lo len x hid=>exact absurd hid (by simp [base0])
 |row id lo len cap x hid=>exact absurd hid (by simp [base0])
 |mp id x hid=>exact absurd hid (by simp [base0])
 |fn f first cap vs ws h1 h2 hv hw ihv ihw=>exact .fn f first cap vs ws h1 h2 ihv ihw
 |ifc t a u h ih=>exact .ifc t a u ih
 |spt s xs own p n k h ih=>exact .spt s xs own p n k ih
theorem QjU {W:World} {gs:List GV} {asx:List AV} {args:Array Value} (h:RelL (base0 W) asx args):RelL (QeJ W gs) asx args:=⟨h.1,fun j a u e1 e2=>QmP (h.2 j a u e1 e2)⟩
theorem Qko {P:Program} {f:FuncId} {asx:List AV} {W:World} {args:Array Value} {gs:List GV} (hw:∀ x∈gs,W.heap[x.g]? = some (.cells x.cs x.ty x.fr)) (hn:(gs.map (·.g)).Nodup)
  (hc:QI P f asx (gs.map GV.blk) fun o h'=>o = .ret (.v (.bool true))∧h'=gs.map GV.blk) (hr:RelL (QeJ W gs) asx args) :
  Calls P f args W fun e W'=>e = .returned (.bool true)∧Go.RowKit.Below W.heap.size W W':=by
 refine callsIn_wide.1 ((hc.2 Fence.wide 0 (QeJ W gs) args WF.wide (QnD hw hn) rfl hr).mono ?_)
 rintro e w' ⟨o,c',⟨rfl,hh⟩,hev,hst,rfl,hend⟩
 obtain ⟨x,rfl,hx⟩:=hend
 cases hx
 exact ⟨rfl,QhT hw hst hev⟩
theorem Qm8 {P:Program} {W:World} {l:List (String×DataW Unit)} (h:laidMetH P l W) {x:String×DataW Unit} (hf:((l.filter fun x=>x.2.handleName?.isNone).filter fun y=>y.1==x.1)=[x]):laidMet P [x] W:=by
 have:=(laidMetH_iff.1 h).1.filter fun y=>y.1==x.1
 rwa [hf] at this
theorem Qk3 {P:Program} {W:World} {nm:String} {g:Nat} {cs:Array Value} (hn:P.globalNamed nm=some g) (h:W.var? P nm=some cs):∃ ty fr,W.heap[g]? = some (.cells cs ty fr):=by
 simp only [World.var?,hn,Qru] at h
 split at h
 ·rename_i cs' ty fr e
  cases h
  exact ⟨ty,fr,e⟩
 ·cases h
end Go.Proofs.YticgcpebdldbgaaDoor.Ab
namespace Go.Proofs.YticgcpebdldbgaaDoor.Ab
def Qpt (l:Nat) (J:Act→World→Prop) (Q:Exit→Act→World→Prop):Exit→Act→World→Prop
 | .goto l',a,w=>l'=l∧J a w
 |e,a,w=>Q e a w
theorem Qdl {F:Fence} {n:Nat} {P:Program} {Q:Exit→Act→World→Prop} {a:Act} {w:World} {c rest:Code} (l:Nat) (J:Nat→Act→World→Prop) (hf:findLabel c l=some rest)
  (first:c.wpIn F n P (Qpt l (fun a w=>∃ m,J m a w) Q) a w) (pass:∀ m a w,J m a w→rest.wpIn F n P (Qpt l (fun a w=>∃ m',m'<m∧J m' a w) Q) a w):(Code.scope c).wpIn F n P Q a w:=by
 intro b k cs hro hb hr
 have h0:(lone (b.atR a (.code (.scope c)::k)) cs w).fenced P F:=fenced_calm hb hr rfl
 have hg:gotoIn l (.inScope c::k)=some (.code rest :: .inScope c::k):=by simp [gotoIn,hf]
 have hx:∀ id,exitTo id (.inScope c::k)=exitTo id k:=fun id=>by simp [exitTo]
 have key:∀ (M m:Nat) a w,m<M→J m a w→∃ e a' w',Q e a' w'∧ArrivesIn (fun x=>x.fenced P F) P (lone (b.atR a (.code rest :: .inScope c::k)) cs w) b k cs e a' w':=by
  intro M
  induction M with
  |zero=>intro m a w hm;omega
  |succ M ih =>
   intro m a w hm hJ
   obtain ⟨e,a₁,w₁,hq,harr⟩:=pass m a w hJ b (.inScope c::k) cs hro hb hr
   cases e with
   |normal=>exact ⟨.normal,a₁,w₁,hq,StepsIn.trans harr (.one (fenced_calm hb hr rfl) QaH)⟩
   |exit id=>exact ⟨.exit id,a₁,w₁,hq,fun k' hk=>harr.1 k' (by rw [hx];exact hk),fun hr' hk=>harr.2 hr' (by rw [hx];exact hk)⟩
   |goto l' =>
    obtain ⟨rfl,m',hlt,hJ'⟩:=hq
    obtain ⟨e₂,a₂,w₂,hq₂,harr₂⟩:=ih m' a₁ w₁ (by omega) hJ'
    exact ⟨e₂,a₂,w₂,hq₂,.of_steps (harr.1 _ hg) harr₂⟩
   |ret=>exact ⟨_,a₁,w₁,hq,harr⟩
   |panic ch=>exact ⟨_,a₁,w₁,hq,harr⟩
   |outgrown=>exact ⟨_,a₁,w₁,hq,harr⟩
 obtain ⟨e,a₁,w₁,hq,harr⟩:=first b (.inScope c::k) cs hro hb hr
 cases e with
 |normal=>exact ⟨.normal,a₁,w₁,hq,.head h0 XI (StepsIn.trans harr (.one (fenced_calm hb hr rfl) QaH))⟩
 |exit id =>
  exact ⟨.exit id,a₁,w₁,hq,fun k' hk=>.head h0 XI (harr.1 k' (by rw [hx];exact hk)),
   fun hr' hk=>let ⟨k₁,h1,h2⟩:=harr.2 hr' (by rw [hx];exact hk);⟨k₁,h1,.head h0 XI h2⟩⟩
 |goto l' =>
  obtain ⟨rfl,m,hJ'⟩:=hq
  obtain ⟨e₂,a₂,w₂,hq₂,harr₂⟩:=key (m+1) m a₁ w₁ (by omega) hJ'
  exact ⟨e₂,a₂,w₂,hq₂,.of_steps (.head h0 XI (harr.1 _ hg)) harr₂⟩
 |ret=>exact ⟨_,a₁,w₁,hq,.of_steps (.one h0 XI) harr⟩
 |panic ch=>exact ⟨_,a₁,w₁,hq,.of_steps (.one h0 XI) harr⟩
 |outgrown=>exact ⟨_,a₁,w₁,hq,.of_steps (.one h0 XI) harr⟩
def ZY (P:Program) (N l:Nat) (J:AS→Prop) (code:Code) (Q:AExit→AS→Prop) (s:AS):Prop :=
 ∀ (F:Fence) (n:Nat) (base:Bs) (c:Cx) (a:Act),WF F→St c→SR N (base,F) c s a →
  ∀ R:Exit→Act→World→Prop,(∀ e s' c' a' e',Q e s'→Ev c c'→St c'→SR N (base,F) c' s' a'→ExC c' e e'→R e' a' c'.w) →
   (∀ s' c' a',J s'→Ev c c'→St c'→SR N (base,F) c' s' a'→R (.goto l) a' c'.w)→code.wpIn F n P R a c.w
section
variable {P:Program} {N l:Nat} {J:AS→Prop} {Q:AExit→AS→Prop} {s:AS}
theorem QcA {x:Code} (h:XE P N x Q s):ZY P N l J x Q s:=fun F n base c a hF hs hr R hR _=>h F n base c a hF hs hr R hR
theorem QkM (h:J s):ZY P N l J (.goto l) Q s:=fun F n base c a hF hs hr R _ hJ=>wpIn_goto (hJ s c a h (Ev.refl c) hs hr)
theorem YE {x y:Code} (h:XE P N x (AExit.then (ZY P N l J y Q) Q) s):ZY P N l J (.seq x y) Q s:=by
 intro F n base c a hF hs hr R hR hJ
 refine wpIn_seq (h F n base c a hF hs hr _ ?_)
 intro e s' c' a' e' hQ hev hst hsr hex
 cases e with
 |normal =>
  cases hex
  exact hQ F n base c' a' hF hst hsr R (fun e s2 c2 a2 e2 hQ2 hev2 hst2 hsr2 hex2=>hR e s2 c2 a2 e2 hQ2 (Ev.trans hs hev hev2) hst2 hsr2 hex2) fun s2 c2 a2 h2 hev2 hst2 hsr2=>hJ s2 c2 a2 h2 (Ev.trans hs hev hev2) hst2 hsr2
 |exit id=>cases hex;exact hR _ s' c' a' _ hQ hev hst hsr rfl
 |ret=>cases hex;exact hR _ s' c' a' _ hQ hev hst hsr rfl
 |panic av=>obtain ⟨x,rfl,hx⟩:=hex;exact hR _ s' c' a' _ hQ hev hst hsr ⟨x,rfl,hx⟩
theorem Qfu {x y:Code} (h:ZY P N l J x (AExit.then (ZY P N l J y Q) Q) s):ZY P N l J (.seq x y) Q s:=by
 intro F n base c a hF hs hr R hR hJ
 refine wpIn_seq (h F n base c a hF hs hr _ ?_ ?_)
 ·intro e s' c' a' e' hQ hev hst hsr hex
  cases e with
  |normal =>
   cases hex
   exact hQ F n base c' a' hF hst hsr R (fun e s2 c2 a2 e2 hQ2 hev2 hst2 hsr2 hex2=>hR e s2 c2 a2 e2 hQ2 (Ev.trans hs hev hev2) hst2 hsr2 hex2) fun s2 c2 a2 h2 hev2 hst2 hsr2=>hJ s2 c2 a2 h2 (Ev.trans hs hev hev2) hst2 hsr2
  |exit id=>cases hex;exact hR _ s' c' a' _ hQ hev hst hsr rfl
  |ret=>cases hex;exact hR _ s' c' a' _ hQ hev hst hsr rfl
  |panic av=>obtain ⟨x,rfl,hx⟩:=hex;exact hR _ s' c' a' _ hQ hev hst hsr ⟨x,rfl,hx⟩
 ·intro s' c' a' h1 hev hst hsr
  exact hJ s' c' a' h1 hev hst hsr
theorem Qfs {o:Operand} {x y:Code} {t:Bool} (ho:s.ev o = .v (.bool t)) (h:ZY P N l J (if t then x else y) Q s):ZY P N l J (.cond o x y) Q s:=by
 intro F n base c a hF hs hr R hR hJ
 have he:=hr.eval o
 rw [ho] at he
 have hx:a.eval o = .bool t:=by
  generalize a.eval o=u at he
  cases he;rfl
 exact wpIn_cond hx (h F n base c a hF hs hr R hR hJ)
theorem QdW {id:Nat} {x:Code} (h:ZY P N l J x (AExit.inBlock id Q) s):ZY P N l J (.block id x) Q s:=by
 intro F n base c a hF hs hr R hR hJ
 refine wpIn_block (h F n base c a hF hs hr _ ?_ ?_)
 ·intro e s' c' a' e' hQ hev hst hsr hex
  cases e with
  |normal=>cases hex;exact hR _ s' c' a' _ hQ hev hst hsr rfl
  |exit i =>
   cases hex
   simp only [Exit.inBlock]
   simp only [AExit.inBlock] at hQ
   split
   ·rename_i hi;rw [if_pos hi] at hQ;exact hR _ s' c' a' _ hQ hev hst hsr rfl
   ·rename_i hi;rw [if_neg hi] at hQ;exact hR _ s' c' a' _ hQ hev hst hsr rfl
  |ret=>cases hex;exact hR _ s' c' a' _ hQ hev hst hsr rfl
  |panic av=>obtain ⟨x,rfl,hx⟩:=hex;exact hR _ s' c' a' _ hQ hev hst hsr ⟨x,rfl,hx⟩
 ·intro s' c' a' h1 hev hst hsr
  exact hJ s' c' a' h1 hev hst hsr
theorem QkH {x:Code} (I:Nat→AS→Prop) (h:∀ m s,I m s→ZY P N l J x (AExit.then (Xw I m) Q) s) {m:Nat} (h0:I m s):ZY P N l J (.loop x) Q s:=by
 intro F n base c a hF hs hr R hR hJ
 have key:∀ (k m:Nat) (s:AS) (c:Cx) (a:Act),m<k→I m s→St c→SR N (base,F) c s a →
   (∀ e s' c' a' e',Q e s'→Ev c c'→St c'→SR N (base,F) c' s' a'→ExC c' e e'→R e' a' c'.w)→(∀ s' c' a',J s'→Ev c c'→St c'→SR N (base,F) c' s' a'→R (.goto l) a' c'.w)→Code.roundsIn F n P x R k a c.w:=by
  intro k
  induction k with
  |zero=>intro m _ _ _ hm;omega
  |succ k ih =>
   intro m s c a hm hI hs hr hR hJ
   rw [roundsIn_succ]
   refine h m s hI F n base c a hF hs hr _ ?_ ?_
   ·intro e s' c' a' e' hQ hev hst hsr hex
    cases e with
    |normal =>
     cases hex
     obtain ⟨m',hlt,hI'⟩:=hQ
     exact ih m' s' c' a' (by omega) hI' hst hsr (fun e s2 c2 a2 e2 hQ2 hev2 hst2 hsr2 hex2=>hR e s2 c2 a2 e2 hQ2 (Ev.trans hs hev hev2) hst2 hsr2 hex2) fun s2 c2 a2 h2 hev2 hst2 hsr2=>hJ s2 c2 a2 h2 (Ev.trans hs hev hev2) hst2 hsr2
    |exit id=>cases hex;exact hR _ s' c' a' _ hQ hev hst hsr rfl
    |ret=>cases hex;exact hR _ s' c' a' _ hQ hev hst hsr rfl
    |panic av=>obtain ⟨x,rfl,hx⟩:=hex;exact hR _ s' c' a' _ hQ hev hst hsr ⟨x,rfl,hx⟩
   ·intro s' c' a' h1 hev hst hsr
    exact hJ s' c' a' h1 hev hst hsr
 exact wpIn_loop_rounds (m+1) (key (m+1) m s c a (by omega) h0 hs hr hR hJ)
end
theorem ZY.mono {P:Program} {N l:Nat} {J J':AS→Prop} {x:Code} {Q:AExit→AS→Prop} {s:AS} (H:ZY P N l J x Q s) (h:∀ s,J s→J' s):ZY P N l J' x Q s :=
 fun F n base c a hF hs hr R hR hJ=>H F n base c a hF hs hr R hR fun s' c' a' h1=>hJ s' c' a' (h s' h1)
theorem QkO {P:Program} {N l:Nat} {J:AS→Prop} {x:Code} {Q:AExit→AS→Prop} {tm:Nat→AV} {h:AH} (H:ZY P N l J x Q ⟨tm,h++[.dead]⟩):ZY P N l J x Q ⟨tm,h⟩:=by
 intro F n base c a hF hst hr R hR hJ
 have hh:c.h=h:=hr.h
 subst hh
 have hg:=Grows.refl c.w
 have hev:=Ev.add hst hg .dead none (fun B h=>by cases h)
 have hst2:St (c.add c.w .dead none):=St.add hst hg .dead none (fun B h=>by cases h) trivial
 refine H F n base (c.add c.w .dead none) a hF hst2 ⟨rfl,hr.size,hr.above,hr.defers.ev hev,RoundOk.ev hev hr.round,fun t=>(hr.tm t).ev hst hev⟩ R (fun e' s' c' a' ex hq h1 h2 h3 h4=>hR e' s' c' a' ex hq (Ev.trans hst hev h1) h2 h3 h4) fun s' c' a' hq h1 h2 h3=>hJ s' c' a' hq (Ev.trans hst hev h1) h2 h3
theorem QeI {P:Program} {N:Nat} {c rest:Code} {Q:AExit→AS→Prop} {s:AS} (l:Nat) (I:Nat→AS→Prop) (hf:findLabel c l=some rest) (first:ZY P N l (fun s=>∃ m,I m s) c Q s)
  (pass:∀ m s,I m s→ZY P N l (Xw I m) rest Q s):XE P N (.scope c) Q s:=by
 intro F n base c0 a hF hs hr R hR
 refine Qdl l (fun m a w=>∃ s' c',c'.w=w∧I m s'∧Ev c0 c'∧St c'∧SR N (base,F) c' s' a) hf (first F n base c0 a hF hs hr _ ?_ ?_) ?_
 ·intro e s' c' a' e' hQ hev hst hsr hex
  cases e with
  |normal=>cases hex;exact hR _ s' c' a' _ hQ hev hst hsr rfl
  |exit id=>cases hex;exact hR _ s' c' a' _ hQ hev hst hsr rfl
  |ret=>cases hex;exact hR _ s' c' a' _ hQ hev hst hsr rfl
  |panic av=>obtain ⟨x,rfl,hx⟩:=hex;exact hR _ s' c' a' _ hQ hev hst hsr ⟨x,rfl,hx⟩
 ·rintro s' c' a' ⟨m,hI⟩ hev hst hsr
  exact ⟨rfl,m,s',c',rfl,hI,hev,hst,hsr⟩
 ·rintro m a1 w1 ⟨s1,c1,rfl,hI,hev1,hst1,hsr1⟩
  refine pass m s1 hI F n base c1 a1 hF hst1 hsr1 _ ?_ ?_
  ·intro e s' c' a' e' hQ hev hst hsr hex
   have hev':=Ev.trans hs hev1 hev
   cases e with
   |normal=>cases hex;exact hR _ s' c' a' _ hQ hev' hst hsr rfl
   |exit id=>cases hex;exact hR _ s' c' a' _ hQ hev' hst hsr rfl
   |ret=>cases hex;exact hR _ s' c' a' _ hQ hev' hst hsr rfl
   |panic av=>obtain ⟨x,rfl,hx⟩:=hex;exact hR _ s' c' a' _ hQ hev' hst hsr ⟨x,rfl,hx⟩
  ·rintro s' c' a' ⟨m',hlt,hI'⟩ hev hst hsr
   exact ⟨rfl,m',hlt,s',c',rfl,hI',Ev.trans hs hev1 hev,hst,hsr⟩
theorem Qhf {P:Program} {N:Nat} {c x:Code} {Q:AExit→AS→Prop} {s:AS} (l:Nat) (I:Nat→AS→Prop) (hf:findLabel c l=some (.seq .skip x))
  (first:(∀ s,(∃ m,I m s)→ZY P N l (fun s=>∃ m,I m s) x Q s)→ZY P N l (fun s=>∃ m,I m s) c Q s)
  (pass:∀ m s,I m s→ZY P N l (Xw I m) x Q s):XE P N (.scope c) Q s :=
 QeI l I hf (first fun s ⟨m,h⟩=>(pass m s h).mono fun _ ⟨m',_,h'⟩=>⟨m',h'⟩) fun m s h=>YE (Qk (pass m s h))
end Go.Proofs.YticgcpebdldbgaaDoor.Ab
namespace Go.Proofs.YticgcpebdldbgaaDoor.Ab
theorem Qlz {P:Program} {c:Cx} (hst:St c) {g:Nat} {cs:Array Value} (hg:HasG c.h g cs) {t:TypeId} (ht:Xi P t=some (true,cs.size)) (h1:cs.toList.all Value.oneCell'=true) :
  (Instr.loadAt t (.pointer (some ⟨g,0,none⟩))).run P c.w = .ok (.agg cs) c.w:=by
 obtain ⟨ty,fr,hc⟩:=hg.world hst
 obtain ⟨hagg,hsize⟩:=Z2 ht c.w
 have hcell:∀ j,j<cs.size→c.w.cell? ((⟨g,0,none⟩:Addr).add j)=some (cs.getD j undef):=fun j hj=>by
  rw [addr_add,Nat.zero_add,Xo hc,Array.getD_eq_getD_getElem?,Array.getElem?_eq_getElem hj];rfl
 have hr:=run_loadCells (P:=P) c.w ⟨g,0,none⟩ cs.size (fun j=>cs.getD j undef) hcell
 simp only [Instr.loadAt,Instr.sureAddr,loadVar,Sem.run_bind,Sem.run_pure,Result.andThen_ok,hagg,hsize,Sem.run_ite,if_true,hr]
 congr 2
 apply Array.ext
 ·simp
 ·intro i h2 h3
  simp [Array.getD_eq_getD_getElem?,Array.getElem?_eq_getElem h3]
def Qnm (P:Program) (N:Nat) (ops:Array Oper) (o:Oper) (K:AS→Prop) (s:AS):Prop :=
 match Qd ops s.tm o with
 |some true=>(match o.op with
  | .load t x=>∃ g cs,s.ev x = .v (.pointer (some ⟨g,0,none⟩))∧HasG s.h g cs∧Xi P t=some (true,cs.size)∧cs.toList.all Value.oneCell'=true∧K (AS.put N s o.dst (.v (.agg cs)))
  |_=>False)
 |some false=>K (AS.put N s o.dst (.v undef))
 |none=>False
theorem Qic {P:Program} {N:Nat} {base:Bs×Fence} {o:Oper} {s:AS} {t:TypeId} {x:Operand} {g:Nat} {cs:Array Value} (hop:o.op = .load t x) (hx:s.ev x = .v (.pointer (some ⟨g,0,none⟩))) (hg:HasG s.h g cs) (ht:Xi P t=some (true,cs.size)) (h1:cs.toList.all Value.oneCell'=true) {K:AS→Prop}
  (H:K (AS.put N s o.dst (.v (.agg cs)))) {F:Fence} {n:Nat} {c:Cx} {a:Act} (hF:WF F) (hst:St c) (hr:SR N base c s a)
  {next:Act→World→Prop} {Qx:Exit→Act→World→Prop} (hK:∀ s' c' a',K s'→Ev c c'→St c'→SR N base c' s' a'→next a' c'.w):o.wpIn F n P a c.w next Qx:=by
 refine ⟨fun f _=>hF.fn f,?_⟩
 rw [Oper.semAt_eq _ _ _ (fun q=>by rw [hop];intro h;cases h)]
 have he:=hr.eval x
 rw [hx] at he
 have hu:a.eval x = .pointer (some ⟨g,0,none⟩):=by
  generalize a.eval x=u at he
  cases he;rfl
 have hl:=Qlz (P:=P) hst (by rw [hr.h];exact hg) ht h1
 have hrun':(execOp a.eval o).run P c.w = .ok (.value (.agg cs)) c.w:=by
  simp only [execOp,hop,hu,Sem.run_bind,hl,Result.andThen_ok,Sem.run_pure]
 rw [hrun']
 have hp:=hr.put hst (Ev.refl c) o.dst (.v (.agg cs))
 rw [hr.h] at hp
 exact hK _ c _ H (Ev.refl c) hst hp
theorem QcS {P:Program} {N:Nat} {Q:AExit→AS→Prop} {s:AS} {id:Nat} {ops:Array Oper} (i:Nat) {o:Oper} (ho:ops.toList[i]? = some o)
  (H:∀ (K:AS→Prop) (E:AV→AS→Prop),(∀ s,Q .normal s→K s)→(∀ r s,Q (.panic r) s→E r s)→OpsW P N ops (ops.toList.take i) (Qnm P N ops o (OpsW P N ops (ops.toList.drop (i+1)) K E)) E s):XE P N (.region id ops false) Q s:=by
 intro F n base c a hF hst hr R hR
 refine wpIn_region ?_
 have hlt:=Qr ho
 have hH:=H (fun s'=>Q .normal s') (fun r s'=>Q (.panic r) s') (fun _ h=>h) (fun _ _ h=>h)
 have hi:(ops.toList.take i).length=i:=by rw [List.length_take];omega
 have hrange:List.range ops.size=List.range' 0 (ops.toList.take i).length++(i::(List.range' (i+1) (ops.toList.drop (i+1)).length++[])):=by
  rw [hi,List.append_nil,List.length_drop,List.range_eq_range',← Array.length_toList]
  have:ops.toList.length=i+(1+(ops.toList.length - (i+1))):=by omega
  conv=>lhs;rw [this]
  rw [← List.range'_append_1,Nat.zero_add,← List.range'_append_1]
  rfl
 have hget:∀ j,(ops.toList.drop (i+1))[j]? = ops[i+1+j]? := fun j=>by rw [List.getElem?_drop];simp
 rw [hrange]
 refine Qbg hF (ops.toList.take i) 0 s c a (fun j hj=>by rw [List.getElem?_take,if_pos (by omega)];simp) hH hst hr ?_ ?_
 ·intro s1 c1 a1 h1 h2 h3 h4
  have h0:ops[i]? = some o:=by rw [← ho];simp
  have hrest:∀ s2 c2 a2,OpsW P N ops (ops.toList.drop (i+1)) (fun s'=>Q .normal s') (fun r s'=>Q (.panic r) s') s2→Ev c c2→St c2→SR N (base,F) c2 s2 a2→wpOpsIn F n P ops R (List.range' (i+1) (ops.toList.drop (i+1)).length++[]) a2 c2.w:=by
   intro s2 c2 a2 hq he2 hst2 hr2
   refine Qbg hF _ (i+1) s2 c2 a2 (fun j _=>hget j) hq hst2 hr2 ?_ ?_
   ·intro s' c' a' hQ k1 k2 k3
    simp only [wpOpsIn]
    exact hR _ s' c' a' _ hQ (Ev.trans hst he2 k1) k2 k3 rfl
   ·intro r s' c' a' x hQ k1 k2 k3 hx
    exact hR _ s' c' a' _ hQ (Ev.trans hst he2 k1) k2 k3 ⟨x,rfl,hx⟩
  simp only [wpOpsIn,h0]
  unfold Qnm at h1
  split at h1
  ·rename_i hw
   rw [Xb h4 hw]
   simp only [if_true]
   split at h1
   ·rename_i t x hop
    obtain ⟨g,cs,g1,g2,g3,g4,g5⟩:=h1
    exact Qic hop g1 g2 g3 g4 g5 hF h3 h4 fun s' c' a' hK k1 k2 k3=>hrest s' c' a' hK (Ev.trans hst h2 k1) k2 k3
   ·exact h1.elim
  ·rename_i hw
   rw [Xb h4 hw]
   simp only [Qrt,if_false]
   refine ⟨fun f _=>hF.fn f,?_⟩
   have hr':=h4.put h3 (Ev.refl c1) o.dst (.v undef)
   rw [h4.h] at hr'
   exact hrest _ c1 _ h1 h2 h3 hr'
  ·exact h1.elim
 ·intro r s' c' a' x hQ h1 h2 h3 hx
  exact hR _ s' c' a' _ hQ h1 h2 h3 ⟨x,rfl,hx⟩
theorem QeP {P:Program} {N:Nat} {Q:AExit→AS→Prop} {s:AS} {id:Nat} {ops:Array Oper} {y:Code} (i:Nat) {o:Oper} (ho:ops.toList[i]? = some o)
  (H:∀ (K:AS→Prop) (E:AV→AS→Prop),(∀ s,XE P N y Q s→K s)→(∀ r s,Q (.panic r) s→E r s)→OpsW P N ops (ops.toList.take i) (Qnm P N ops o (OpsW P N ops (ops.toList.drop (i+1)) K E)) E s):XE P N (.seq (.region id ops false) y) Q s :=
 Qav (QcS i ho (fun K E hK hE=>H K E hK hE))
end Go.Proofs.YticgcpebdldbgaaDoor.Ab
namespace Go.Proofs.YticgcpebdldbgaaDoor.Ab
open Go.Lib
theorem Qod {a b:ByteArray} (h:a.data.toList=b.data.toList):a=b:=by
 obtain ⟨a⟩:=a;obtain ⟨b⟩:=b
 congr 1
 exact Array.toList_inj.1 h
end Go.Proofs.YticgcpebdldbgaaDoor.Ab
set_option maxRecDepth 4000
namespace Go.Proofs.YticgcpebdldbgaaDoor.Ab
open Go.Proofs
structure Pz where
 all:List Tk
 i:Nat
 j:Nat
 g:Nat
def Tk.av (t:Tk):AV:=.agg [.i t.kind,.i t.pos,.v (.string t.text)]
def tks (l:List Tk):List AV:=l.map Tk.av
def strs (l:List ByteArray):List AV:=l.map fun s=>.v (.string s)
theorem YU (l:List ByteArray):(strs l).length=l.length:=List.length_map _
theorem QbS (l m:List ByteArray):strs (l++m)=strs l++strs m:=List.map_append
theorem Qbp (l:List Tk):(tks l).length=l.length:=List.length_map _
theorem Qet (n:Nat) (l:List ByteArray):∀ a∈flat (strs l),Below n a:=by
 intro a ha
 simp only [flat,strs,List.mem_flatMap,List.mem_map] at ha
 obtain ⟨x,⟨y,_,rfl⟩,hx⟩:=ha
 simp only [AV.cells,List.mem_singleton] at hx
 subst hx
 exact .v _
theorem Qb4 (n:Nat) (l:List Tk):∀ a∈flat (tks l),Below n a:=by
 intro a ha
 simp only [flat,tks,List.mem_flatMap,List.mem_map] at ha
 obtain ⟨x,⟨y,_,rfl⟩,hx⟩:=ha
 simp only [Tk.av,AV.cells,List.mem_cons,List.not_mem_nil,or_false] at hx
 rcases hx with rfl|rfl|rfl <;> exact .v _
theorem Tk.QqG (t:Tk):t.av.cells=[.i t.kind,.i t.pos,.v (.string t.text)]:=rfl
theorem Tk.QqH (t:Tk):t.av.isAgg=true:=rfl
def Qfb (m:List (ByteArray×AV)) (p:ByteArray×Nat):List (ByteArray×AV):=if p.1.toList≠[95]∧(sget p.1 m).isSome=true then m else supd p.1 (.i (p.2:Nat)) m
def kn (names:List ByteArray):List (ByteArray×AV):=names.zipIdx.foldl Qfb []
theorem QkP (names:List ByteArray) (x:ByteArray):kn (names++[x])=Qfb (kn names) (x,names.length):=by
 rw [kn,List.zipIdx_append,List.foldl_append,Nat.zero_add];rfl
theorem Qgr (l m:List ByteArray) (x:ByteArray):nameAt (l++m) x=if nameAt l x<l.length then nameAt l x else l.length+nameAt m x:=by
 unfold nameAt
 rw [List.findIdx_append]
 split
 ·rfl
 ·omega
theorem toList_inj {x y:ByteArray} (h:x.toList=y.toList):x=y:=by
 rw [Lib.toList_data,Lib.toList_data] at h
 exact Qod h
theorem Qjh (x:ByteArray) (hx:x.toList≠[95]):∀ (n:Nat) (names:List ByteArray),names.length=n→sget x (kn names)=if nameAt names x<names.length then some (.i (nameAt names x:Nat)) else none
 |0,names,h=>by
  obtain rfl:=List.eq_nil_of_length_eq_zero h
  rfl
 |n+1,names,h=>by
  have hne:names≠[]:=by rintro rfl;cases h
  obtain ⟨l,y,rfl⟩:∃ l' u,names=l'++[u]:=⟨_,_,(List.dropLast_concat_getLast hne).symm⟩
  have hl:l.length=n:=by simpa using h
  have ih:=Qjh x hx n l hl
  rw [QkP,Qgr,List.length_append,List.length_singleton]
  have h1:nameAt [y] x=if y=x then 0 else 1:=by
   unfold nameAt
   rw [List.findIdx_cons,List.findIdx_nil]
   by_cases e:y=x
   ·subst e;simp
   ·rw [if_neg e,show (y.toList==x.toList)=false by simpa using fun q=>e (toList_inj q)];rfl
  unfold Qfb
  by_cases hc:y.toList≠[95]∧(sget y (kn l)).isSome=true
  ·rw [if_pos hc,ih]
   by_cases hf:nameAt l x<l.length
   ·simp only [if_pos hf];rw [if_pos (by omega)]
   ·simp only [if_neg hf,h1]
    by_cases e:y=x
    ·subst e
     rw [ih,if_neg hf] at hc
     exact absurd hc.2 (by simp)
    ·rw [if_neg e,if_neg (by omega)]
  ·rw [if_neg hc,Qg0,ih]
   by_cases hf:nameAt l x<l.length
   ·simp only [if_pos hf]
    rw [if_pos (show nameAt l x<l.length+1 by omega)]
    by_cases e:x=y
    ·subst e
     exact absurd ⟨hx,by rw [ih,if_pos hf];rfl⟩ hc
    ·rw [if_neg e]
   ·simp only [if_neg hf,h1]
    by_cases e:x=y
    ·subst e;simp only [if_true];rw [if_pos (by omega)];rfl
    ·have e2:¬ y=x:=fun q=>e q.symm
     simp only [if_neg e,if_neg e2]
     rw [if_neg (by omega)]
theorem QoG (names:List ByteArray):∀ p∈kn names,∃ k:Nat,p.2 = .i k:=by
 have hsup:∀ (x:ByteArray) (k:Nat) (m:List (ByteArray×AV)),(∀ p∈m,∃ k:Nat,p.2 = .i k)→∀ p∈supd x (.i k) m,∃ k:Nat,p.2 = .i k:=by
  intro x k m
  induction m with
  |nil=>intro _ p hp;simp only [supd,List.mem_singleton] at hp;subst hp;exact ⟨k,rfl⟩
  |cons q m ih =>
   intro hm p hp
   simp only [supd] at hp
   split at hp
   ·rcases List.mem_cons.1 hp with rfl|hp
    ·exact ⟨k,rfl⟩
    ·exact hm p (List.mem_cons_of_mem _ hp)
   ·rcases List.mem_cons.1 hp with rfl|hp
    ·exact hm p (List.mem_cons_self ..)
    ·exact ih (fun p hp=>hm p (List.mem_cons_of_mem _ hp)) p hp
 have key:∀ (l:List (ByteArray×Nat)) (m:List (ByteArray×AV)),(∀ p∈m,∃ k:Nat,p.2 = .i k)→∀ p∈l.foldl Qfb m,∃ k:Nat,p.2 = .i k:=by
  intro l
  induction l with
  |nil=>intro m hm;exact hm
  |cons q l ih =>
   intro m hm
   rw [List.foldl_cons]
   refine ih _ ?_
   unfold Qfb
   split
   ·exact hm
   ·exact hsup _ _ _ hm
 exact key _ [] (by simp)
def pB (P:Pz) (s:PS):AB:=.cells 66 4 [.agg [.sl 3 (tks P.all) none,.i ((P.all.length - s.toks.length:Nat):Int),.sl 1 (strs s.names) (some P.g),.mp P.j]]
def kB (s:PS):AB:=.map (smap (kn s.names))
def gB (s:PS):AB:=.grow 9 1 s.names.length
def ph (h:AH) (P:Pz) (s:PS):AH:=((h.set P.i (pB P s)).set P.j (kB s)).set P.g (gB s)
structure Pz.ok (P:Pz) (h:AH):Prop where
 i:P.i<h.length
 j:P.j<h.length
 g:P.g<h.length
 ij:P.i≠P.j
 ig:P.i≠P.g
 jg:P.j≠P.g
theorem Pz.ok.app {P:Pz} {h:AH} (H:P.ok h) (L:AH):P.ok (h++L):=⟨by rw [List.length_append];have:=H.i;omega,by rw [List.length_append];have:=H.j;omega,by rw [List.length_append];have:=H.g;omega,H.ij,H.ig,H.jg⟩
theorem QN (h:AH) (P:Pz) (s:PS):(ph h P s).length=h.length:=by simp [ph]
section
variable {h:AH} {P:Pz} (H:P.ok h)
include H
theorem QX (s:PS) (L:AH):ph (h++L) P s=ph h P s++L:=by
 unfold ph
 rw [List.set_append_left _ _ H.i,List.set_append_left _ _ (by simpa using H.j),List.set_append_left _ _ (by simpa using H.g)]
theorem XQ (s:PS):(ph h P s)[P.i]? = some (pB P s):=by
 unfold ph
 rw [List.getElem?_set_ne (Ne.symm H.ig),List.getElem?_set_ne (Ne.symm H.ij),List.getElem?_set_self H.i]
theorem Qm1 (s:PS):(ph h P s)[P.j]? = some (kB s):=by
 unfold ph
 rw [List.getElem?_set_ne (Ne.symm H.jg),List.getElem?_set_self (by simpa using H.j)]
theorem Qqb (s:PS):(ph h P s)[P.g]? = some (gB s):=by
 unfold ph
 rw [List.getElem?_set_self (by simpa using H.g)]
theorem ph_i (s:PS) (L:AH):(ph h P s++L)[P.i]? = some (pB P s):=by rw [List.getElem?_append_left (by rw [QN];exact H.i)];exact XQ H s
theorem QoF {s s':PS} (hn:s'.names=s.names):(ph h P s).set P.i (pB P s')=ph h P s':=by
 unfold ph
 rw [List.set_comm _ _ (Ne.symm H.ig),List.set_comm _ _ (Ne.symm H.ij),List.set_set]
 simp only [kB,gB,hn]
theorem QpP {s s':PS} (hn:s'.names=s.names) (L:AH):(ph h P s++L).set P.i (pB P s')=ph h P s'++L:=by
 rw [List.set_append_left _ _ (by rw [QN];exact H.i),QoF H hn]
theorem YN {s:PS} {k:Nat} (h1:k≠P.i) (h2:k≠P.j) (h3:k≠P.g):(ph h P s)[k]? = h[k]? := by
 have _u:=H
 unfold ph
 rw [List.getElem?_set_ne (Ne.symm h3),List.getElem?_set_ne (Ne.symm h2),List.getElem?_set_ne (Ne.symm h1)]
theorem QnL (s:PS):(pB P s).Below h.length:=by
 intro a ha
 simp only [flat,List.flatMap_cons,List.flatMap_nil,QrS,AV.cells,List.mem_cons,List.not_mem_nil,or_false] at ha
 rcases ha with rfl|rfl|rfl|rfl
 ·exact .sl 3 _ none (Qb4 _ _) (fun b hb=>by cases hb)
 ·exact .v _
 ·exact .sl 1 _ _ (Qet _ _) (fun b hb=>by cases hb;exact H.g)
 ·exact .mp _ H.j
theorem Qjj (s:PS) (n:Nat):(kB s).Below n:=QjQ _ _ fun p hp=>by
 have _u:=H
 obtain ⟨k,e⟩:=QoG s.names p hp
 rw [e];exact .v _
theorem Qbs {s:PS} {s0:PS} {k:Nat} {b:AB} (hb:(ph h P s)[k]? = some b):(ph h P s0)[k]? = some b∨b.Below h.length:=by
 by_cases h1:k=P.i
 ·subst h1;rw [XQ H] at hb;cases hb;exact .inr (QnL H s)
 ·by_cases h2:k=P.j
  ·subst h2;rw [Qm1 H] at hb;cases hb;exact .inr (Qjj H s _)
  ·by_cases h3:k=P.g
   ·subst h3;rw [Qqb H] at hb;cases hb;exact .inr trivial
   ·rw [YN H h1 h2 h3] at hb ⊢;exact .inl hb
theorem Xf {s s':PS} {L:AH} {r r':AV} {Q:AV→AH→Prop} (hf:Frz (ph h P s'++L) h.length r r') (hq:Q r' (ph h P s')):Leaves (ph h P s) (ph h P s'++L) r Q:=by
 have e:(ph h P s'++L).take h.length=ph h P s':=by rw [← QN h P s',List.take_left]
 refine .inl ⟨h.length,r',by rw [QN];exact Nat.le_refl _,by rw [List.length_append,QN];omega,.inr fun k b hk=>?_,hf,by rw [e];exact hq⟩
 rw [e] at hk
 exact Qbs H hk
end
theorem Xr (h:AH) (P:Pz) (s:PS) (L:AH):(ph h P s++L)[h.length]? = L[0]? := by rw [← QN h P s];exact ZZ _ _
theorem XZ (h:AH) (P:Pz) (s:PS) (L:AH) (k:Nat):(ph h P s++L)[h.length+k]? = L[k]? := by rw [← QN h P s];exact hget _ _ _
theorem Xd (h:AH) (P:Pz) (s:PS) (y:AB) (L:AH):(ph h P s++L).set h.length y=ph h P s++L.set 0 y:=by rw [← QN h P s];exact QbX _ _ _
theorem XA (h:AH) (P:Pz) (s:PS) (y:AB) (L:AH) (k:Nat):(ph h P s++L).set (h.length+k) y=ph h P s++L.set k y:=by rw [← QN h P s];exact hset _ _ _ _
end Go.Proofs.YticgcpebdldbgaaDoor.Ab
set_option maxRecDepth 4000
namespace Go.Proofs.YticgcpebdldbgaaDoor.Ab
open Go.Proofs
theorem Qb8 (n:Nat) (t:Tk):Below n t.av:=.agg _ fun a ha=>by
 simp only [List.mem_cons,List.not_mem_nil,or_false] at ha
 rcases ha with rfl|rfl|rfl <;> exact .v _
theorem QnY {s:PS} (h:s.wf):s.toks≠[]:=by
 obtain ⟨l,e,hl,_⟩:=h
 rw [hl];simp
theorem Qly {all:List Tk} {s:PS} (hW:Wst all s):all.length - s.toks.length<all.length∧(tks all)[all.length - s.toks.length]? = some s.tk.av:=by
 obtain ⟨pre,hp⟩:=hW.suf
 cases ht:s.toks with
 |nil=>exact absurd ht (QnY hW.wf)
 |cons t r =>
  rw [ht] at hp
  have e:s.tk=t:=by unfold PS.tk;rw [ht];rfl
  subst hp
  have hl:(pre++t::r).length - (t::r).length=pre.length:=by rw [List.length_append];omega
  rw [hl,e]
  refine ⟨by rw [List.length_append,List.length_cons];omega,?_⟩
  rw [tks,List.getElem?_map,List.getElem?_append_right (Nat.le_refl _),Nat.sub_self];rfl
section
variable {P:Pz} {s:PS} (hW:Wst P.all s) {X:AH} (hX:X[P.i]? = some (pB P s))
include hW hX
theorem Qn8 (L:AH):(X++L)[P.i]? = some (pB P s):=by have _u:=hW;rw [List.getElem?_append_left (Qr hX)];exact hX
theorem XB:QI Tryd.prog 18 [.ptr P.i 0 0] X fun o h'=>o = .ret s.tk.av∧h'=X:=by
 obtain ⟨h1,h2⟩:=Qly hW
 have hi:=Qn8 hW hX
 have hi0:=hX
 rw [pB] at hi0
 simp only [pB] at hi
 have e1:=Tk.QqG s.tk
 have e2:=Tk.QqH s.tk
 generalize P.all.length - s.toks.length=k at *
 refine Qe Tryd.func18 rfl Tryd.call18 Tryd.ntmps18 (congrArg Array.toList Tryd.results18) (by simp) ?_
 repeat (first|((first|(with_reducible refine Qa fun K E hK hE=>?_)|(refine QQ (id:=1) [(0,0),(1,0),(2,0),(3,0),(4,0),(5,0),(6,0),(7,0),(8,0),(9,0),(10,2)] mixed (by kernel_rfl) fun K hK=>?_));simp -implicitDefEqProofs only [Qc,Qd,OpW,aop,undef,AS.ev,Qs,AV.QqF,↓reduceIte,Qf,Qw,Qv,Qy,Qm,QS,ti3,ti37,ei37,ti60,zi60,Qg2,Qfo,Qq,hi,h1,h2,Qbp,e1,e2,seval])|(with_reducible refine Qn ?_)|((with_reducible refine hK _ ?_);clear hK))
 simp -implicitDefEqProofs only [Qc,↓reduceIte,Qw,Qv,ti60,Qw,Qv,e1,e2,QG,Qp,Qt,Qrz,seval]
 exact Ql (htake _ _) (.keep (Qb8 _ _)) ⟨rfl,rfl⟩
end
def Fl (p e:Int):AV:=.ifc 87 (.agg [.i p,.i e])
theorem Qbr (n:Nat) (p e:Int):Below n (Fl p e):=.ifc _ _ (.agg _ fun a ha=>by
 simp only [List.mem_cons,List.not_mem_nil,or_false] at ha
 rcases ha with rfl|rfl <;> exact .v _)
theorem YF (t:Tk) (e:Int) (a:AV) (X:AH):QI Tryd.prog 37 [a,t.av,.i e] X fun o h'=>o = .panic (Fl t.pos e)∧h'=X:=by
 have e1:=Tk.QqG t
 have e2:=Tk.QqH t
 have hu:=Tryd.underlying87
 refine Qe Tryd.func37 rfl Tryd.call37 Tryd.ntmps37 (congrArg Array.toList Tryd.results37) (by simp) ?_
 repeat (first|((first|(with_reducible (first|refine Qa fun K E hK hE=>?_|refine Qj fun K E hK hE=>?_)));simp -implicitDefEqProofs only [Qc,Qd,OpW,aop,undef,AS.ev,Qs,AV.QqF,↓reduceIte,Qf,Qw,Qv,Xc,Xq,ti3,Yj,zi87,sp87,e1,hu,seval])|((with_reducible refine hK _ ?_);clear hK)|(with_reducible refine hE _ _ ?_))
 exact Ql (htake _ _) (.keep (Qbr _ _ _)) ⟨rfl,rfl⟩
section
variable {P:Pz} {s:PS} (hW:Wst P.all s) {X:AH} (hX:X[P.i]? = some (pB P s))
include hW hX
theorem nextL (L:AH):QI Tryd.prog 18 [.ptr P.i 0 0] (X++L) fun o h'=>o = .ret s.tk.av∧h'=X++L:=XB hW (Qn8 hW hX L)
theorem Qlg (b:ByteArray):QI Tryd.prog 60 [.ptr P.i 0 0,.v (.string b)] X fun o h'=>o = .ret (.b (s.is b.toList))∧h'=X:=by
 have cn:=XB hW hX
 have cl:=nextL hW hX
 have e1:=Tk.QqG s.tk
 have e2:=Tk.QqH s.tk
 refine Qe Tryd.func60 rfl Tryd.call60 Tryd.ntmps60 (congrArg Array.toList Tryd.results60) (by simp) ?_
 by_cases hk:s.tk.kind=4
 ·have z1:(s.tk.kind==4)=true:=by simpa using hk
  repeat (first|((first|(with_reducible (first|refine Qa fun K E hK hE=>?_|refine FunW.ret (FunW.call cn) ?_)));simp -implicitDefEqProofs only [Qc,Qd,OpW,QC,aop,undef,AS.ev,Qs,AV.QqF,↓reduceIte,Qf,Qw,Qv,Qy,Qm,aBin,ti3,ti9,ti60,QM,Xa,zi60,e1,e2,z1,seval])|(with_reducible refine Qn ?_)|((with_reducible refine hK _ ?_);clear hK))
  simp only [QG,Qp,Qt,upd,↓reduceIte,Qrv,Qrz]
  exact Ql (htake _ _) (.keep (.v _)) ⟨by rw [PS.is,z1,Bool.true_and],rfl⟩
 ·have z1:(s.tk.kind==4)=false:=by simpa using hk
  repeat (first|((first|(with_reducible (first|refine Qa fun K E hK hE=>?_|refine FunW.ret (FunW.call cn) ?_)));simp -implicitDefEqProofs only [Qc,Qd,OpW,QC,aop,undef,AS.ev,Qs,AV.QqF,↓reduceIte,Qf,Qw,Qv,Qy,Qm,aBin,ti3,ti60,QM,zi60,e1,e2,z1,seval])|(with_reducible refine Qn ?_)|((with_reducible refine hK _ ?_);clear hK))
  simp only [QG,Qp,Qt,upd,↓reduceIte,Qrv,Qrz]
  exact Ql (htake _ _) (.keep (.v _)) ⟨by rw [PS.is,z1,Bool.false_and],rfl⟩
end
end Go.Proofs.YticgcpebdldbgaaDoor.Ab
set_option maxRecDepth 4000
namespace Go.Proofs.YticgcpebdldbgaaDoor.Ab
open Go.Proofs
theorem FunW.pan {P:Program} {fv:AV} {args:List AV} {h h':AH} {r:AV} {Q:AOut→AH→Prop} (H:FunW P fv args h fun o h2=>o = .panic r∧h2=h') (k:Q (.panic r) h'):FunW P fv args h Q:=H.mono (by rintro _ _ ⟨rfl,rfl⟩;exact k)
theorem FunW.panE {P:Program} {α:Type} {fv:AV} {args:List AV} {h:AH} {h':α→AH} {r:AV} {Q:AOut→AH→Prop} (H:FunW P fv args h fun o h2=>o = .panic r∧∃ x,h2=h' x) (k:∀ x,Q (.panic r) (h' x)):FunW P fv args h Q:=H.mono (by rintro _ _ ⟨rfl,x,rfl⟩;exact k x)
theorem PS.QqL {s:PS} {b:List UInt8} (h:s.is b=true):s.tk.kind≠0:=by
 simp only [PS.is,Bool.and_eq_true,beq_iff_eq] at h;rw [h.1];decide
section
variable {P:Pz} {s:PS} (hW:Wst P.all s) {h:AH} (H:P.ok h) (hN:P.all.length≤1000000)
include hW H hN
theorem QpI (hk:s.tk.kind≠0):IntKind.i64.wrap (((P.all.length - s.toks.length:Nat):Int)+1)=((P.all.length - s.nx.toks.length:Nat):Int):=by
 have h1:=Xh hW.wf hk
 have h2:=hW.suf.length_le
 have _u:=H
 rw [X3 (by omega)]
 congr 1;omega
theorem Qmw (hk:s.tk.kind≠0) (L:AH):(ph h P s++L).set P.i (.cells 66 4 [.agg [.sl 3 (tks P.all) none,.v (.int .i64 (IntKind.i64.wrap (((P.all.length - s.toks.length:Nat):Int)+1))),.sl 1 (strs s.names) (some P.g),.mp P.j]])=ph h P s.nx++L:=by
 rw [QpI hW H hN hk]
 exact QpP H (s:=s) (s':=s.nx) rfl L
theorem Xk:QI Tryd.prog 34 [.ptr P.i 0 0] (ph h P s) fun o h'=>o = .ret s.tk.av∧h'=ph h P s.nx:=by
 have hX:=XQ H s
 have hi:=ph_i H s
 have hp:=fun hk=>Qmw hW H hN hk
 simp only [pB] at hi
 have cl:=nextL hW hX
 have e1:=Tk.QqG s.tk
 have e2:=Tk.QqH s.tk
 have f1:=QN h P s
 have f2:=QN h P s.nx
 have f3:=Xr h P
 have f4:=XZ h P
 have f5:=Xd h P
 have f6:=XA h P
 by_cases hk:s.tk.kind=0
 ·have z1:(s.tk.kind != 0)=false:=by simpa using hk
  have en:s.nx.toks=s.toks:=by
   obtain ⟨l,e,hl,he,ha⟩:=hW.wf
   cases l with
   |nil=>simp only [PS.nx,hl,QrQ]
   |cons t l =>
    have:s.tk=t:=by simp only [PS.tk,hl,QrR,List.headD_cons]
    exact absurd (this▸hk) (ha t (by simp))
  have es:s.nx=s:=by
   show PS.mk _ s.names=s
   have:s=⟨s.toks,s.names⟩:=rfl
   rw [this];exact congrArg (fun x=>PS.mk x s.names) en
  rw [es]
  refine Qe Tryd.func34 rfl Tryd.call34 Tryd.ntmps34 (congrArg Array.toList Tryd.results34) (by simp) ?_
  repeat (first|((first|(with_reducible (first|refine Qa fun K E hK hE=>?_|refine Qj fun K E hK hE=>?_|refine FunW.ret (FunW.call (cl _)) ?_)));simp -implicitDefEqProofs only [Qc,Qd,OpW,QC,aop,undef,AS.ev,Qs,AV.QqF,↓reduceIte,Qf,Qw,Qv,Qy,Qm,aBin,ti3,ti60,QM,zi60,f1,f3,f4,f5,f6,e1,e2,z1,seval])|(with_reducible (first|refine Qg fun K hK=>?_|refine Qi ?_|refine Qn ?_|refine XJ ?_|refine XS ?_|refine Qk ?_|refine QE ?_|refine Qb ?_|refine Qu ?_|refine QA ?_|refine Qo ?_|refine Qz ?_|refine QB ?_|refine QJ rfl ?_))|(with_reducible (first|refine hK _ ?_|(clear hK;refine hK _ ?_)|(clear hK;clear hK;refine hK _ ?_)|(clear hK;clear hK;clear hK;refine hK _ ?_));clear hK)|(refine Qh rfl ?_;simp only [↓reduceIte,Qrt])|(with_reducible (first|refine hE _ _ ?_|refine QK ?_|refine Q5 ?_))|(intro (b:Bool);cases b))
  simp -implicitDefEqProofs only [Qc,↓reduceIte,Qw,Qv,ti60,Qw,Qv,f3,e1,e2,QG,Qp,Qt,Qrz,seval]
  have:=Xf H (s:=s) (s':=s) (L:=[.cells 60 3 [s.tk.av],.cells 60 3 [s.tk.av]]) (r:=s.tk.av) (r':=s.tk.av) (Q:=fun r h'=>AOut.ret r = .ret s.tk.av∧h'=ph h P s) (.keep (Qb8 _ _)) ⟨rfl,rfl⟩
  exact this
 ·have z1:(s.tk.kind != 0)=true:=by simpa using hk
  have hp':=hp hk
  refine Qe Tryd.func34 rfl Tryd.call34 Tryd.ntmps34 (congrArg Array.toList Tryd.results34) (by simp) ?_
  repeat (first|((first|(with_reducible (first|refine Qa fun K E hK hE=>?_|refine Qj fun K E hK hE=>?_|refine FunW.ret (FunW.call (cl _)) ?_)));simp -implicitDefEqProofs only [Qc,Qd,OpW,QC,aop,undef,AS.ev,Qs,AV.QqF,↓reduceIte,Qf,Qw,Qv,Qy,Qm,aBin,ti3,ti60,QM,zi60,Qfo,Qq,f1,f3,f4,f5,f6,e1,e2,z1,hi,hp',seval])|(with_reducible (first|refine Qg fun K hK=>?_|refine Qi ?_|refine Qn ?_|refine XJ ?_|refine XS ?_|refine Qk ?_|refine QE ?_|refine Qb ?_|refine Qu ?_|refine QA ?_|refine Qo ?_|refine Qz ?_|refine QB ?_|refine QJ rfl ?_))|(with_reducible (first|refine hK _ ?_|(clear hK;refine hK _ ?_)|(clear hK;clear hK;refine hK _ ?_)|(clear hK;clear hK;clear hK;refine hK _ ?_));clear hK)|(refine Qh rfl ?_;simp only [↓reduceIte])|(with_reducible (first|refine hE _ _ ?_|refine QK ?_|refine Q5 ?_))|(intro (b:Bool);cases b))
  simp -implicitDefEqProofs only [Qc,↓reduceIte,Qw,Qv,ti60,Qw,Qv,f3,e1,e2,QG,Qp,Qt,Qrz,seval]
  exact Xf H (s:=s) (s':=s.nx) (.keep (Qb8 _ _)) ⟨rfl,rfl⟩
end
end Go.Proofs.YticgcpebdldbgaaDoor.Ab
namespace Go.Proofs.YticgcpebdldbgaaDoor.Ab
abbrev DA:=FuncId×List AV
def RelD (c:Cx) (d:DA) (x:Deferred):Prop:=∃ caps,x.target = .fn (.func d.1) caps∧RelL c d.2 (x.args++caps)
theorem RelD.ev {c c':Cx} (hs:St c) (h:Ev c c') {d:DA} {x:Deferred} (hr:RelD c d x):RelD c' d x :=
 let ⟨caps,e,r⟩:=hr;⟨caps,e,r.ev hs h⟩
inductive Ent where
 |mark (D:Nat)
 |call (d:DA) (x:Deferred)
def Ent.dfr:Ent→Deferred
 | .mark D=>Qi9 D
 | .call _ x=>x
def Ent.da:Ent→Option DA
 | .mark _=>none
 | .call d _=>some d
def Ent.mk? : Ent→Option Nat
 | .mark D=>some D
 | .call _ _=>none
def Ent.ok (c:Cx) (lo:Nat):Ent→Prop
 | .mark D=>lo≤D∧c.w.heap[D]? = some (.deferred (some []))∧¬ c.owns D
 | .call d x=>RelD c d x
theorem Ent.ok.ev {c c':Cx} (hs:St c) (h:Ev c c') {lo:Nat} {e:Ent} (hk:e.ok c lo):e.ok c' lo:=by
 cases e with
 |mark D =>
  obtain ⟨h1,h2,h3⟩:=hk
  have hlt:=(Array.getElem?_eq_some_iff.1 h2).1
  exact ⟨h1,(h.frame D hlt h3).trans h2,fun ho=>h3 (h.owns hlt ho)⟩
 |call d x=>exact RelD.ev hs h hk
def DefsOk (c:Cx) (lo:Nat) (ds:List DA) (l:List Deferred):Prop :=
 ∃ es:List Ent,l=es.map Ent.dfr∧ds=es.filterMap Ent.da∧(es.filterMap Ent.mk?).Nodup∧∀ e∈es,e.ok c lo
theorem DefsOk.ev {c c':Cx} (hs:St c) (h:Ev c c') {lo:Nat} {ds:List DA} {l:List Deferred} (hd:DefsOk c lo ds l):DefsOk c' lo ds l :=
 let ⟨es,h1,h2,h3,h4⟩:=hd;⟨es,h1,h2,h3,fun e he=>(h4 e he).ev hs h⟩
theorem QlL (Ds:List Nat):(Ds.map Ent.mark).map Ent.dfr=Ds.map Qi9:=by rw [List.map_map];rfl
theorem QnG (Ds:List Nat):(Ds.map Ent.mark).filterMap Ent.da=[]:=by
 induction Ds with
 |nil=>rfl
 |cons D Ds ih=>rw [List.map_cons,List.filterMap_cons,ih];rfl
theorem Qnz (Ds:List Nat):(Ds.map Ent.mark).filterMap Ent.mk? = Ds:=by
 induction Ds with
 |nil=>rfl
 |cons D Ds ih=>rw [List.map_cons,List.filterMap_cons,ih];rfl
theorem DefsOk.marks {c c':Cx} (hs:St c) (h:Ev c c') {lo:Nat} {ds:List DA} {l l':List Deferred} (hlo:lo≤c.w.heap.size) (hd:DefsOk c lo ds l) (hd':DefOk c' ⟨c.w.heap.size,l⟩ l'):DefsOk c' lo ds l':=by
 obtain ⟨Ds,f1,f2,f3⟩:=hd'
 obtain ⟨es,e1,e2,e3,e4⟩:=hd
 refine ⟨Ds.map Ent.mark++es,?_,?_,?_,?_⟩
 ·rw [f1,List.map_append,QlL,e1]
 ·rw [List.filterMap_append,QnG,List.nil_append,e2]
 ·rw [List.filterMap_append,Qnz,List.nodup_append]
  refine ⟨f2,e3,fun a ha b hb hab=>?_⟩
  subst hab
  have g1:=(f3 a ha).1
  simp only [List.mem_filterMap] at hb
  obtain ⟨e,he,hm⟩:=hb
  cases e with
  |call d x=>cases hm
  |mark D =>
   simp only [Ent.mk?,Qrv] at hm
   subst hm
   have:=(Array.getElem?_eq_some_iff.1 (e4 _ he).2.1).1
   simp only at g1
   omega
 ·intro e he
  rcases List.mem_append.1 he with he|he
  ·obtain ⟨D,hD,rfl⟩:=List.mem_map.1 he
   obtain ⟨g1,g2,g3⟩:=f3 D hD
   exact ⟨Nat.le_trans hlo g1,g2,g3⟩
  ·exact (e4 e he).ev hs h
structure SRd (N lo:Nat) (c:Cx) (s:AS) (a:Act) (ds:List DA):Prop where
 h:c.h=s.h
 size:a.tmps.size=N
 above:lo≤c.w.heap.size
 defs:DefsOk c lo ds a.defers
 tm:∀ t,Rel c (s.tm t) (a.tmps.getD t undef)
theorem SRd.sr {N lo:Nat} {c:Cx} {s:AS} {a:Act} {ds:List DA} (h:SRd N lo c s a ds) {F:Fence} (hro:F.round=none):SR N (⟨c.w.heap.size,a.defers⟩,F) c s a :=
 ⟨h.h,h.size,Nat.le_refl _,⟨[],rfl,List.nodup_nil,fun D hD=>by cases hD⟩,fun l hl=>(by rw [hro] at hl;cases hl),h.tm⟩
theorem SRd.Qq1 {N lo:Nat} {c c':Cx} {s s':AS} {a a':Act} {ds:List DA} {F:Fence} (hs:St c) (h:SRd N lo c s a ds) (hev:Ev c c') (hr:SR N (⟨c.w.heap.size,a.defers⟩,F) c' s' a'):SRd N lo c' s' a' ds :=
 ⟨hr.h,hr.size,Nat.le_trans h.above hev.size,h.defs.marks hs hev h.above hr.defers,hr.tm⟩
def DefW (P:Program) (N:Nat) (code:Code) (Q:AExit→AS→List DA→Prop) (s:AS) (ds:List DA):Prop :=
 ∀ (F:Fence) (n lo:Nat) (c:Cx) (a:Act),WF F→F.round=none→St c→SRd N lo c s a ds →
  ∀ R:Exit→Act→World→Prop,(∀ e s' ds' c' a' e',Q e s' ds'→Ev c c'→St c'→SRd N lo c' s' a' ds'→ExC c' e e'→R e' a' c'.w)→code.wpIn F n P R a c.w
section rules
variable {P:Program} {N:Nat} {Q:AExit→AS→List DA→Prop} {s:AS} {ds:List DA}
theorem YH {code:Code} (H:XE P N code (fun e s'=>Q e s' ds) s):DefW P N code Q s ds:=by
 intro F n lo c a hF hro hst hr R hR
 refine H F n ⟨c.w.heap.size,a.defers⟩ c a hF hst (hr.sr hro) R fun e s' c' a' e' hQ hev hst' hsr hex=>?_
 exact hR e s' ds c' a' e' hQ hev hst' (hr.Qq1 hst hev hsr) hex
def AExit.Qri (K:AS→List DA→Prop) (Q:AExit→AS→List DA→Prop):AExit→AS→List DA→Prop
 | .normal,s,ds=>K s ds
 |e,s,ds=>Q e s ds
theorem YY {x y:Code} (h:DefW P N x (AExit.Qri (fun s ds=>DefW P N y Q s ds) Q) s ds):DefW P N (.seq x y) Q s ds:=by
 intro F n lo c a hF hro hs hr R hR
 refine wpIn_seq (h F n lo c a hF hro hs hr _ ?_)
 intro e s' ds' c' a' e' hQ hev hst hsr hex
 cases e with
 |normal =>
  cases hex
  exact hQ F n lo c' a' hF hro hst hsr R fun e s2 ds2 c2 a2 e2 hQ2 hev2 hst2 hsr2 hex2=>hR e s2 ds2 c2 a2 e2 hQ2 (Ev.trans hs hev hev2) hst2 hsr2 hex2
 |exit id=>cases hex;exact hR _ s' ds' c' a' _ hQ hev hst hsr rfl
 |ret=>cases hex;exact hR _ s' ds' c' a' _ hQ hev hst hsr rfl
 |panic av=>obtain ⟨x,rfl,hx⟩:=hex;exact hR _ s' ds' c' a' _ hQ hev hst hsr ⟨x,rfl,hx⟩
theorem QbT {id:Nat} {ops:Array Oper} (i:Nat) {o:Oper} {cl:Call} {f:Operand} (ho:ops.toList[i]? = some o) (hop:o.op = .defer cl) (hcl:cl.callee = .value f)
  (H:OpsW P N ops (ops.toList.take i) (fun s1=>Qd ops s1.tm o=some true∧∃ g first cap,s1.ev f = .fn (.func g) first cap ∧
   OpsW P N ops (ops.toList.drop (i+1)) (fun s2=>Q .normal s2 ((g,first++cl.args.toList.map s1.ev++cap)::ds)) (fun r s2=>Q (.panic r) s2 ((g,first++cl.args.toList.map s1.ev++cap)::ds)) (AS.put N s1 o.dst (.v undef)))
   (fun r s1=>Q (.panic r) s1 ds) s):DefW P N (.region id ops false) Q s ds:=by
 intro F n lo c a hF hro hst hr R hR
 refine wpIn_region ?_
 have hlt:=Qr ho
 have hi:(ops.toList.take i).length=i:=by rw [List.length_take];omega
 have hrange:List.range ops.size=List.range' 0 (ops.toList.take i).length++(i::(List.range' (i+1) (ops.toList.drop (i+1)).length++[])):=by
  rw [hi,List.append_nil,List.length_drop,List.range_eq_range',← Array.length_toList]
  have:ops.toList.length=i+(1+(ops.toList.length - (i+1))):=by omega
  conv=>lhs;rw [this]
  rw [← List.range'_append_1,Nat.zero_add,← List.range'_append_1]
  rfl
 have hget:∀ j,(ops.toList.drop (i+1))[j]? = ops[i+1+j]? := fun j=>by rw [List.getElem?_drop];simp
 rw [hrange]
 refine Qbg hF (ops.toList.take i) 0 s c a (fun j hj=>by rw [List.getElem?_take,if_pos (by omega)];simp) H hst (hr.sr hro) ?_ ?_
 ·intro s1 c1 a1 h1 h2 h3 h4
  have h0:ops[i]? = some o:=by rw [← ho];simp
  obtain ⟨hw,g,first,cap,hf,hpost⟩:=h1
  simp only [wpOpsIn,h0]
  rw [Xb h4 hw]
  simp only [if_true]
  have hr1:=hr.Qq1 hst h2 h4
  have hfv:=h4.eval f
  rw [hf] at hfv
  obtain ⟨vs,ws,hae,hv1,hv2⟩:∃ vs ws,a1.eval f = .func (.func g) vs ws∧RelL c1 first vs∧RelL c1 cap ws:=by
   generalize a1.eval f=u at hfv
   cases hfv with
   |fn _ _ _ vs ws e1 e2 g1 g2=>exact ⟨vs,ws,rfl,⟨e1,g1⟩,⟨e2,g2⟩⟩
  have hargs:RelL c1 (cl.args.toList.map s1.ev) (cl.args.map a1.eval):=by
   refine ⟨by simp,fun j x u hx hu=>?_⟩
   rw [List.getElem?_map] at hx
   rw [Array.getElem?_map] at hu
   cases hj:cl.args[j]? with
   |none=>simp [hj] at hu
   |some q =>
    simp only [hj,Qrr,Qrv] at hu
    simp only [Array.getElem?_toList,hj,Qrr,Qrv] at hx
    subst hx;subst hu
    exact h4.eval q
  have hD:RelD c1 (g,first++cl.args.toList.map s1.ev++cap) ⟨.fn (.func g) ws,vs++cl.args.map a1.eval⟩:=⟨ws,rfl,RelL.append (RelL.append hv1 hargs) hv2⟩
  have hrun:(execOp a1.eval o).run P c1.w = .ok (.defer ⟨.fn (.func g) ws,vs++cl.args.map a1.eval⟩) c1.w:=by
   simp only [execOp,hop,resolve,hcl,hae,Deferred.ofValue,Sem.run_bind,Sem.run_pure,Result.andThen_ok]
  refine ⟨fun f _=>hF.fn f,?_⟩
  rw [hro,Oper.semAt_none,hrun,Oper.uponIn_defer]
  have hput:=h4.put h3 (Ev.refl c1) o.dst (.v undef)
  rw [h4.h] at hput
  have hd2:DefsOk c1 lo ((g,first++cl.args.toList.map s1.ev++cap)::ds) (⟨.fn (.func g) ws,vs++cl.args.map a1.eval⟩::a1.defers):=by
   obtain ⟨es,e1,e2,e3,e4⟩:=hr1.defs
   refine ⟨.call _ ⟨.fn (.func g) ws,vs++cl.args.map a1.eval⟩::es,by rw [e1];rfl,by rw [e2];rfl,e3,fun e he=>?_⟩
   rcases List.mem_cons.1 he with rfl|he
   ·exact hD
   ·exact e4 e he
  have hdf:((({a1 with defers:=⟨.fn (.func g) ws,vs++cl.args.map a1.eval⟩::a1.defers}:Act).put o.dst undef)).defers=⟨.fn (.func g) ws,vs++cl.args.map a1.eval⟩::a1.defers:=by
   cases o.dst <;> rfl
  have htm:((({a1 with defers:=⟨.fn (.func g) ws,vs++cl.args.map a1.eval⟩::a1.defers}:Act).put o.dst undef)).tmps=(a1.put o.dst undef).tmps:=by
   cases o.dst <;> rfl
  have hr2:SRd N lo c1 (AS.put N s1 o.dst (.v undef)) (({a1 with defers:=⟨.fn (.func g) ws,vs++cl.args.map a1.eval⟩::a1.defers}:Act).put o.dst undef) ((g,first++cl.args.toList.map s1.ev++cap)::ds) :=
   ⟨hput.h,by rw [htm];exact hput.size,hr1.above,by rw [hdf];exact hd2,fun t=>by rw [htm];exact hput.tm t⟩
  refine Qbg hF _ (i+1) _ c1 _ (fun j _=>hget j) hpost h3 (hr2.sr hro) ?_ ?_
  ·intro s' c' a' hQ k1 k2 k3
   simp only [wpOpsIn]
   exact hR _ s' _ c' a' _ hQ (Ev.trans hst h2 k1) k2 (hr2.Qq1 h3 k1 k3) rfl
  ·intro r s' c' a' x hQ k1 k2 k3 hx
   exact hR _ s' _ c' a' _ hQ (Ev.trans hst h2 k1) k2 (hr2.Qq1 h3 k1 k3) ⟨x,rfl,hx⟩
 ·intro r s' c' a' x hQ h1 h2 h3 hx
  exact hR _ s' ds c' a' _ hQ h1 h2 (hr.Qq1 hst h1 h3) ⟨x,rfl,hx⟩
end rules
inductive AMode where
 |ret
 |pan (v:AV) (recovered:Bool)
def MdC (c:Cx):AMode→FrameMode→Prop
 | .ret,u=>u = .returning
 | .pan v b,u=>∃ x,u = .panicking [{v:=x,recovered:=b}]∧Rel c v x
theorem MdC.ev {c c':Cx} (hs:St c) (h:Ev c c') {m:AMode} {u:FrameMode} (hm:MdC c m u):MdC c' m u:=by
 cases m with
 |ret=>exact hm
 |pan v b=>obtain ⟨x,e,r⟩:=hm;exact ⟨x,e,r.ev hs h⟩
theorem MdC.run {c:Cx} {m:AMode} {u:FrameMode} (hm:MdC c m u):u ≠ .run:=by
 cases m with
 |ret=>rw [show u = .returning from hm];simp
 |pan v b=>obtain ⟨x,e,r⟩:=hm;rw [e];simp
def AMode.settle:AMode→AMode
 | .pan _ true=>.ret
 |m=>m
theorem MdC.settle {c:Cx} {m:AMode} {u:FrameMode} (hm:MdC c m u):MdC c m.settle (Go.settle u):=by
 cases m with
 |ret=>rw [show u = .returning from hm];rfl
 |pan v b =>
  obtain ⟨x,rfl,r⟩:=hm
  cases b with
  |true=>rfl
  |false=>exact ⟨x,rfl,r⟩
def QaX (P:Program) (f:FuncId) (args:List AV) (h:AH) (m:AMode) (Q:AMode→AH→Prop):Prop :=
 (∀ vals w,(callFunc f vals).run P w = .ok (.enter f vals) w) ∧
 ∀ (F:Fence) (n:Nat) (c:Cx) (vals:Array Value) (u:FrameMode),WF F→F.round=none→St c→c.h=h→RelL c args vals→MdC c m u →
  CallsDIn F n P f vals u c.w fun e u' w'=>∃ x m' c',e = .returned x∧Q m' c'.h∧Ev c c'∧St c'∧c'.w=w'∧MdC c' m' u'
def Qgy (P:Program) (rs:List ResultVar) (h:AH) (Q:AOut→AH→Prop):List DA→AMode→AS→Prop
 |[],.ret,s=>QG P rs h Q .ret s
 |[],.pan v _,s=>QG P rs h Q (.panic v) s
 |d::ds,m,s=>QaX P d.1 d.2 s.h m fun m' h'=>Qgy P rs h Q ds m'.settle ⟨s.tm,h'⟩
structure Out (N:Nat) (c:Cx) (s:AS) (tmps:Array Value):Prop where
 h:c.h=s.h
 size:tmps.size=N
 tm:∀ t,Rel c (s.tm t) (tmps.getD t undef)
theorem Qbj {P:Program} {F:Fence} (hF:WF F) (hro:F.round=none) {n:Nat} {fn:Func} {tmps:Array Value} {rs:List ResultVar} (hrs:fn.results.toList=rs) {Q:AOut→AH→Prop} {c0:Cx} (hs0:St c0) :
  ∀ (es:List Ent) (c:Cx) (s:AS) (m:AMode) (u:FrameMode),Ev c0 c→St c→Out fn.ntmps c s tmps→(es.filterMap Ent.mk?).Nodup→(∀ e∈es,e.ok c c0.w.heap.size)→MdC c m u→(∀ v,m ≠ .pan v true) →
   Qgy P rs c0.h Q (es.filterMap Ent.da) m s →
   LeavesInM F n P fn tmps (fun e w'=>∃ o c',Q o c'.h∧Ev c0 c'∧St c'∧c'.w=w'∧EndC c' o e) (es.map Ent.dfr) u c.w
 |[],c,s,m,u,hev,hst,hout,_,_,hm,hnr,H=>by
  have hsr:SR fn.ntmps (⟨0,[]⟩,F) c s {tmps:=tmps,defers:=[]}:=⟨hout.h,hout.size,Nat.zero_le _,⟨[],rfl,List.nodup_nil,fun D h=>by cases h⟩,fun l hl=>(by rw [hro] at hl;cases hl),hout.tm⟩
  cases m with
  |ret =>
   rw [show u = .returning from hm]
   obtain ⟨r,hres,hl⟩:=(show QG P rs c0.h Q .ret s from H)
   subst hrs
   obtain ⟨x,hrun,hx⟩:=QaW hst hsr hres
   rw [← hout.h] at hl
   obtain ⟨c3,r',h1,h2,h3,h4,h5⟩:=ZH hs0 hst hev hx hl
   exact ⟨x,hrun,.ret r',c3,h1,h2,h3,h4,x,rfl,h5⟩
  |pan v b =>
   obtain ⟨x,rfl,hx⟩:=hm
   have hl:Leaves c0.h s.h v fun r h'=>Q (.panic r) h':=H
   rw [← hout.h] at hl
   obtain ⟨c3,r',h1,h2,h3,h4,h5⟩:=ZH hs0 hst hev hx hl
   cases b with
   |true=>exact absurd rfl (hnr v)
   |false=>exact ⟨.panic r',c3,h1,h2,h3,h4,x,rfl,h5⟩
 | .mark D::es,c,s,m,u,hev,hst,hout,hnd,hok,hm,hnr,H=>by
  obtain ⟨hD1,hD2,hD3⟩:=hok (.mark D) (by simp)
  simp only [QrE,LeavesInM]
  refine ⟨hm.run,.inl ⟨D,_,rfl,Zx hD2,?_⟩⟩
  have hnd':=List.nodup_cons.1 (show (D::es.filterMap Ent.mk?).Nodup from hnd)
  have hold:∀ k,k≠D→({c.w with heap:=c.w.heap.setIfInBounds D (.deferred none)}:World).heap[k]? = c.w.heap[k]? := fun k hk=>by
   show (c.w.heap.setIfInBounds D _)[k]? = _
   rw [Array.getElem?_setIfInBounds_ne (fun e=>hk e.symm)]
  have hsz:({c.w with heap:=c.w.heap.setIfInBounds D (.deferred none)}:World).heap.size=c.w.heap.size:=by simp
  have hidle:∀ k,({c.w with heap:=c.w.heap.setIfInBounds D (.deferred none)}:World).heap[k]? = c.w.heap[k]? ∨ (c0.w.heap.size≤k∧¬ c.owns k∧∃ o,c.w.heap[k]? = some (.deferred o)):=fun k=>by
   by_cases hk:k=D
   ·subst hk;exact .inr ⟨hD1,hD3,_,hD2⟩
   ·exact .inl (hold k hk)
  have hcells:∀ (k:Nat) cs t fr,c.w.heap[k]? = some (Obj.cells cs t fr)→({c.w with heap:=c.w.heap.setIfInBounds D (.deferred none)}:World).heap[k]? = c.w.heap[k]? := fun k cs t fr hk=>by
   rcases hidle k with h|⟨_,_,o,h⟩
   ·exact h
   ·rw [hk] at h;cases h
  have hst2:=hst.idle hsz fun k o hk=>by
   rcases hidle k with h|⟨_,_,d,h⟩
   ·exact .inl (h.trans hk)
   ·rw [hk] at h;cases h;exact .inr ⟨d,rfl⟩
  have hrel:∀ a x,Rel c a x→Rel (c.to {c.w with heap:=c.w.heap.setIfInBounds D (.deferred none)}) a x:=fun a x hax=>hax.idle hsz hcells
  refine Qbj hF hro hrs hs0 es (c.to _) s m u (Ev.idle hst hev rfl rfl rfl hsz hidle) hst2 ⟨hout.h,hout.size,fun t=>hrel _ _ (hout.tm t)⟩ hnd'.2 (fun e he=>?_) ?_ hnr H
  ·have:=hok e (by simp [he])
   cases e with
   |mark D' =>
    obtain ⟨g1,g2,g3⟩:=this
    have hne:D'≠D:=fun h=>hnd'.1 (by subst h;exact List.mem_filterMap.2 ⟨_,he,rfl⟩)
    exact ⟨g1,(hold D' hne).trans g2,g3⟩
   |call d x =>
    obtain ⟨caps,e,r⟩:=this
    exact ⟨caps,e,r.1,fun j a u h1 h2=>hrel _ _ (r.2 j a u h1 h2)⟩
  ·cases m with
   |ret=>exact hm
   |pan v b=>obtain ⟨x,e,r⟩:=hm;exact ⟨x,e,hrel _ _ r⟩
 | .call d x::es,c,s,m,u,hev,hst,hout,hnd,hok,hm,hnr,H=>by
  obtain ⟨caps,htar,hargs⟩:=hok (.call d x) (by simp)
  obtain ⟨hcall,hbody⟩:=(show QaX P d.1 d.2 s.h m fun m' h'=>Qgy P rs c0.h Q (es.filterMap Ent.da) m'.settle ⟨s.tm,h'⟩ from H)
  simp only [QrE,LeavesInM,Ent.dfr]
  refine ⟨hm.run,.inr ⟨fun hd=>by simp [hF.depth] at hd,_,_,d.1,x.args++caps,htar,by rw [htar];simp only [invoke,hcall],fun _ _=>hF.fn _,?_⟩⟩
  refine (hbody F (n - 1) c _ u hF hro hst hout.h hargs hm).mono ?_
  rintro e u' w' ⟨y,m',c',rfl,hQ,hev',hst',rfl,hm'⟩
  refine Qbj hF hro hrs hs0 es c' ⟨s.tm,c'.h⟩ m'.settle (Go.settle u') (Ev.trans hs0 hev hev') hst' ⟨rfl,hout.size,fun t=>(hout.tm t).ev hst hev'⟩ hnd (fun e he=>(hok e (by simp [he])).ev hst hev') hm'.settle (fun v h=>?_) hQ
  cases m' with
  |ret=>cases h
  |pan v' b=>cases b <;> cases h
def QmB (P:Program) (rs:List ResultVar) (h:AH) (Q:AOut→AH→Prop):AExit→AS→List DA→Prop
 | .normal,s,ds | .ret,s,ds=>Qgy P rs h Q ds .ret s
 | .panic v,s,ds=>Qgy P rs h Q ds (.pan v false) s
 | .exit _,_,_=>False
theorem Qao {P:Program} {f:FuncId} {fn:Func} {code:Code} {args:List AV} {h:AH} {Q:AOut→AH→Prop} (hf:P.funcs[f]? = some fn) (hb:fn.body=some code)
  (hcall:∀ vals w,(callFunc f vals).run P w = .ok (.enter f vals) w) {N:Nat} (hN:fn.ntmps=N) {rs:List ResultVar} (hrs:fn.results.toList=rs) (hn:args.length≤N) (H:DefW P N code (QmB P rs h Q) ⟨Qs args,h⟩ []):QI P f args h Q:=by
 subst hN
 refine ⟨hcall,fun F n c vals hF hs hh hvals=>QaS ?_⟩
 subst hh
 refine callsIn_of_wp_marks hf hb (hF.plain.fn f) ?_
 have hsr:SRd fn.ntmps c.w.heap.size c ⟨Qs args,c.h⟩ {tmps:=vals++Array.replicate (fn.ntmps - vals.size) undef,defers:=[]} []:=by
  refine ⟨rfl,by have:=hvals.1;simp;omega,Nat.le_refl _,⟨[],rfl,rfl,List.nodup_nil,fun e h=>by cases h⟩,fun t=>?_⟩
  simp only [Qs]
  rw [Array.getD_eq_getD_getElem?,Array.getElem?_append,List.getD_eq_getElem?_getD]
  have hsz:=hvals.1
  by_cases ht:t<vals.size
  ·rw [if_pos ht]
   obtain ⟨u,hu⟩:∃ u,vals[t]? = some u:=⟨_,Array.getElem?_eq_getElem ht⟩
   obtain ⟨a,ha⟩:∃ a,args[t]? = some a:=⟨_,List.getElem?_eq_getElem (by omega)⟩
   rw [hu,ha]
   exact hvals.2 t a u ha hu
  ·rw [if_neg ht,List.getElem?_eq_none (by omega),Array.getElem?_replicate]
   split
   ·exact .v _
   ·exact .v _
 refine H F.plain n c.w.heap.size c _ hF.plain rfl hs hsr _ ?_
 intro e s' ds' c' a' e' hQ hev hst hr hex
 obtain ⟨es,e1,e2,e3,e4⟩:=hr.defs
 subst e2
 have hout:Out fn.ntmps c' s' a'.tmps:=⟨hr.h,hr.size,hr.tm⟩
 have key:=fun (m:AMode) (u:FrameMode) (hm:MdC c' m u) (hnr:∀ v,m ≠ .pan v true) H=>e1▸Qbj (P:=P) hF.plain rfl (n:=n) (fn:=fn) (tmps:=a'.tmps) hrs (Q:=Q) hs es c' s' m u hev hst hout e3 e4 hm hnr H
 cases e with
 |normal=>cases hex;exact key .ret .returning rfl (fun v h=>by cases h) hQ
 |ret=>cases hex;exact key .ret .returning rfl (fun v h=>by cases h) hQ
 |panic av =>
  obtain ⟨x,rfl,hx⟩:=hex
  exact key (.pan av false) _ ⟨x,rfl,hx⟩ (fun v h=>by cases h) hQ
 |exit id=>exact hQ.elim
theorem Qbc {P:Program} {F:Fence} {n:Nat} {fn:Func} {tmps:Array Value} {R:Ending→World→Prop}:∀ (ds:List Deferred) (u:FrameMode) (w:World) (fr:Frame)
  (cs:List Frame),fr.mode=u→fr.defers=ds→fr.tmps=tmps→P.funcs[fr.fn]? = some fn→fr.kind = .deferred→F.fn fr.fn→F.room (cs.length+1+n)→LeavesInM F n P fn tmps R ds u w →
  ∃ e w' fr',R e w'∧ComesIn (Machine.fenced P F) P (lone fr cs w) (lone fr' cs w') e∧fr'.fn=fr.fn∧fr'.kind = .deferred∧fr'.going P w' e:=by
 intro ds
 induction ds with
 |nil =>
  intro u w fr cs hu hd ht hf hk _ _ h
  cases u with
  |run=>exact h.elim
  |returning =>
   obtain ⟨v,hr,hR⟩:=h
   exact ⟨.returned v,w,fr,hR,StepsIn.refl _,rfl,hk,hu,hd,fn,hf,ht▸hr⟩
  |panicking chain=>exact ⟨.panicked chain,w,fr,h,StepsIn.refl _,rfl,hk,hu,hd,fn,hf⟩
 |cons d ds ih =>
  intro u w fr cs hu hd ht hf hk hb hroom h
  obtain ⟨hrun,h⟩:=h
  rcases h with ⟨r,w',htar,htake,hrest⟩|⟨hn,fv,cap,f,args,htar,hinv,hlead,hFf,hcall⟩
  ·have h1:=step_collected (cs:=cs) (hu▸hrun) hd htar htake
   have i1:(lone fr cs w).fenced P F:=fenced_out hb hroom (hu▸hrun) hd (fun g hg=>by rw [htar] at hg;simp [Target.leads] at hg)
   obtain ⟨e',w'',fr',hR',hs',hfn',hl'⟩:=ih u w' {fr with defers:=[]++ds} cs hu rfl ht hf hk hb hroom hrest
   exact ⟨e',w'',fr',hR',ComesIn.of_steps (.one i1 h1) hs',hfn',hl'⟩
  ·have h1:=step_defer (cs:=cs) (hu▸hrun) hd htar hinv
   have i1:(lone fr cs w).fenced P F:=fenced_out hb hroom (hu▸hrun) hd hlead
   have hroom':F.room (({fr with defers:=ds}::cs).length+1+(n - 1)):=Fence.room_enter hroom hn
   obtain ⟨e,u',w',frX,hR,hsteps,hkX,hfX,hgo⟩:=hcall {fr with defers:=ds} cs hu hroom'
   cases e with
   |outgrown=>exact ⟨.outgrown,w',fr,hR,Outgrown.of_steps (.one h1) hsteps,rfl,hk,trivial⟩
   |returned v =>
    have i2:(lone frX ({{fr with defers:=ds} with mode:=u'}::cs) w').fenced P F:=fenced_going (n:=n - 1) (hfX▸hFf) hroom' hgo
    have h2:=step_going_returned (c:={{fr with defers:=ds} with mode:=u'}) (cs:=cs) hkX hgo
    obtain ⟨e',w'',fr',hR',hs',hfn',hl'⟩:=ih (Go.settle u') w' {{{fr with defers:=ds} with mode:=u'} with mode:=Go.settle u'} cs rfl rfl ht hf hk hb hroom hR
    exact ⟨e',w'',fr',hR',ComesIn.of_steps (.head i1 h1 (StepsIn.trans hsteps (.one i2 h2))) hs',hfn',hl'⟩
   |panicked chain =>
    have i2:(lone frX ({{fr with defers:=ds} with mode:=u'}::cs) w').fenced P F:=fenced_going (n:=n - 1) (hfX▸hFf) hroom' hgo
    have h2:=step_going_panicked (c:={{fr with defers:=ds} with mode:=u'}) (cs:=cs) hgo
    obtain ⟨e',w'',fr',hR',hs',hfn',hl'⟩:=ih (raised u' chain) w' {{{fr with defers:=ds} with mode:=u'} with mode:=raised u' chain} cs rfl rfl ht hf hk hb hroom hR
    exact ⟨e',w'',fr',hR',ComesIn.of_steps (.head i1 h1 (StepsIn.trans hsteps (.one i2 h2))) hs',hfn',hl'⟩
end Go.Proofs.YticgcpebdldbgaaDoor.Ab
namespace Go.Proofs.YticgcpebdldbgaaDoor.Ab
theorem Qa4 {P:Program} {F:Fence} {n:Nat} {f:FuncId} {fn:Func} {c:Code} {args:Array Value} {u:FrameMode} {w:World} {R:Ending→World→Prop} {u2:FrameMode}
  (hf:P.funcs[f]? = some fn) (hb:fn.body=some c) (hF:F.fn f)
  (h:∀ (c₀:Frame) (cs:List Frame),c₀.mode=u→c.wpSIn F n P (fun e a' cs' w'=>cs'={c₀ with mode:=u2}::cs∧bodyPostM F n P fn R e a' w') {tmps:=args++Array.replicate (fn.ntmps - args.size) undef,defers:=[]} (c₀::cs) w) (hro:F.round=none) :
  CallsDIn F n P f args u w fun e u' w'=>u'=u2∧R e w':=by
 refine ⟨hF,fun c₀ cs hu hr=>?_⟩
 let b:Frame:={(default:Frame) with fn:=f,kind:=.deferred,roundOf:=none}
 have henter:Frame.enter P f args .deferred =
   b.atR {tmps:=args++Array.replicate (fn.ntmps - args.size) undef,defers:=[]} [.code c]:=by
  simp [Frame.enter,Frame.atR,hf,hb,b]
 obtain ⟨e,a',cs',w',hlen,⟨rfl,hq⟩,harr⟩:=h c₀ cs hu b [] rfl rfl hF hr
 have hr':F.room (({c₀ with mode:=u2}::cs).length+1+n):=hr
 rw [← henter] at harr
 cases e with
 |normal =>
  obtain ⟨e',w'',fr',hR,hs,hfn,hk,hl⟩:=Qbc a'.defers .returning w' {b.atR a' [] with mode:=.returning} ({c₀ with mode:=u2}::cs) rfl rfl rfl hf rfl hF hr' hq
  exact ⟨e',u2,w'',fr',⟨rfl,hR⟩,ComesIn.of_steps (StepsIn.trans harr (.one (fenced_calm (fr:=b.atR a' []) hF hr' rfl) (stepR_end rfl))) hs,hk,hfn,hl⟩
 |ret =>
  obtain ⟨todo,hs₀⟩:=harr.1 rfl
  obtain ⟨e',w'',fr',hR,hs,hfn,hk,hl⟩:=Qbc a'.defers .returning w' {b.atR a' todo with mode:=.returning} ({c₀ with mode:=u2}::cs) rfl rfl rfl hf rfl hF hr' hq
  exact ⟨e',u2,w'',fr',⟨rfl,hR⟩,ComesIn.of_steps hs₀ hs,hk,hfn,hl⟩
 |panic chain =>
  obtain ⟨todo,hs₀⟩:=harr
  obtain ⟨e',w'',fr',hR,hs,hfn,hk,hl⟩:=Qbc a'.defers (.panicking chain) w' {b.atR a' todo with mode:=.panicking chain} ({c₀ with mode:=u2}::cs) rfl rfl rfl hf rfl hF hr' hq
  exact ⟨e',u2,w'',fr',⟨rfl,hR⟩,ComesIn.of_steps hs₀ hs,hk,hfn,hl⟩
 |exit id=>exact hq.elim
 |goto l=>exact hq.elim
 |outgrown=>exact ⟨.outgrown,u2,w',b,⟨rfl,hq⟩,harr.resolve_left (by simp [b]),rfl,rfl,trivial⟩
def recV:AMode→AV
 | .pan v false=>v
 |_=>.v .nilIface
def recM:AMode→AMode
 | .pan v false=>.pan v true
 |m=>m
theorem QbA {P:Program} {f:FuncId} {fn:Func} {id x y:Nat} {t1 t2:TypeId} {p1 p2:String} {a1 a2:Array Edge} {rest:Code} {args:List AV} {h:AH} {Q:AH→Prop} (hf:P.funcs[f]? = some fn)
  (hb:fn.body=some (.seq (.region id #[{dst:=some x,op:=.call ⟨.builtin .recover,#[],#[]⟩,type:=t1,pos:=p1,after:=a1,guard:=none},{dst:=some y,op:=.assign (.tmp x),type:=t2,pos:=p2,after:=a2,guard:=none}] false) rest))
  (hcall:∀ vals w,(callFunc f vals).run P w = .ok (.enter f vals) w) {N:Nat} (hN:fn.ntmps=N) {rs:List ResultVar} (hrs:fn.results.toList=rs) (hn:args.length≤N) (hx:x<N) (hy:y<N) (m:AMode)
  (H:XE P N rest (QG P rs h fun o h'=>(∃ r,o = .ret r)∧Q h') ⟨upd (upd (Qs args) x (recV m)) y (recV m),h⟩):QaX P f args h m fun m' h'=>m'=recM m∧Q h':=by
 subst hN
 refine ⟨hcall,fun F n c vals u hF hro hs hh hvals hm=>?_⟩
 subst hh
 have hsr0:SRd fn.ntmps c.w.heap.size c ⟨Qs args,c.h⟩ {tmps:=vals++Array.replicate (fn.ntmps - vals.size) undef,defers:=[]} []:=by
  refine ⟨rfl,by have:=hvals.1;simp;omega,Nat.le_refl _,⟨[],rfl,rfl,List.nodup_nil,fun e h=>by cases h⟩,fun t=>?_⟩
  simp only [Qs]
  rw [Array.getD_eq_getD_getElem?,Array.getElem?_append,List.getD_eq_getElem?_getD]
  have hsz:=hvals.1
  by_cases ht:t<vals.size
  ·rw [if_pos ht]
   obtain ⟨u,hu⟩:∃ u,vals[t]? = some u:=⟨_,Array.getElem?_eq_getElem ht⟩
   obtain ⟨a,ha⟩:∃ a,args[t]? = some a:=⟨_,List.getElem?_eq_getElem (by omega)⟩
   rw [hu,ha]
   exact hvals.2 t a u ha hu
  ·rw [if_neg ht,List.getElem?_eq_none (by omega),Array.getElem?_replicate]
   split
   ·exact .v _
   ·exact .v _
 -- what recover does to the frame below
 obtain ⟨rv,u2,hrel,hm2,hrec⟩:∃ (rv:Value) (u2:FrameMode),Rel c (recV m) rv∧MdC c (recM m) u2∧∀ (c₀:Frame) (cs:List Frame),c₀.mode=u →
   (recoverD (c₀::cs)=some (rv,{c₀ with mode:=u2}::cs))∨(recoverD (c₀::cs)=none∧rv = .nilIface∧({c₀ with mode:=u2}:Frame)=c₀):=by
  cases m with
  |ret =>
   obtain rfl:u = .returning:=hm
   refine ⟨.nilIface,.returning,.v _,rfl,fun c₀ cs hu=>.inr ⟨?_,rfl,by rw [← hu]⟩⟩
   simp only [recoverD,hu]
  |pan v b =>
   obtain ⟨xv,rfl,hv⟩:=hm
   cases b with
   |false =>
    refine ⟨xv,_,hv,⟨xv,rfl,hv⟩,fun c₀ cs hu=>.inl ?_⟩
    simp only [recoverD,hu]
   |true =>
    refine ⟨.nilIface,_,.v _,⟨xv,rfl,hv⟩,fun c₀ cs hu=>.inr ⟨?_,rfl,by rw [← hu]⟩⟩
    simp only [recoverD,hu]
 have hsr:SRd fn.ntmps c.w.heap.size c ⟨upd (upd (Qs args) x (recV m)) y (recV m),c.h⟩ (((⟨vals++Array.replicate (fn.ntmps - vals.size) undef,[]⟩:Act).put (some x) rv).put (some y) rv) []:=by
  have s1:=(hsr0.sr hro).put hs (Ev.refl c) (some x) hrel
  have s2:=s1.put hs (Ev.refl c) (some y) hrel
  have s3:=hsr0.Qq1 hs (Ev.refl c) s2
  simp only [AS.put,if_pos hx,if_pos hy] at s3
  exact s3
 refine (Qa4 (u2:=u2) (R:=fun e w'=>∃ (o:AOut) (c':Cx),((∃ r,o=AOut.ret r)∧Q c'.h)∧Ev c c'∧St c'∧c'.w=w'∧EndC c' o e) hf hb (hF.fn f) (fun c₀ cs hu=>?_) hro).mono ?_
 ·apply wpSIn_seq
  apply wpSIn_region
  have hput:∀ cs',cs'=({c₀ with mode:=u2}:Frame)::cs→rest.wpSIn F n P (fun e a' cs'' w'=>cs''={c₀ with mode:=u2}::cs∧bodyPostM F n P fn (fun e w'=>∃ (o:AOut) (c':Cx),((∃ r,o=AOut.ret r)∧Q c'.h)∧Ev c c'∧St c'∧c'.w=w'∧EndC c' o e) e a' w')
    (((⟨vals++Array.replicate (fn.ntmps - vals.size) undef,[]⟩:Act).put (some x) rv).put (some y) rv) cs' c.w:=by
   rintro cs' rfl
   refine wpSIn_of_wpIn hro ?_
   refine YH (H.mono fun e s hq=>(by cases e <;> exact hq:QmB P rs c.h (fun o h'=>(∃ r,o=AOut.ret r)∧Q h') e s [])) F n c.w.heap.size c _ hF hro hs hsr _ ?_
   intro e s' ds' c' a' e' hQ hev hst hr hex
   obtain ⟨es,e1,e2,e3,e4⟩:=hr.defs
   subst e2
   have hout:Out fn.ntmps c' s' a'.tmps:=⟨hr.h,hr.size,hr.tm⟩
   have key:=fun (m:AMode) (u:FrameMode) (hm:MdC c' m u) (hnr:∀ v,m ≠ .pan v true) H=>e1▸Qbj (P:=P) hF hro (n:=n) (fn:=fn) (tmps:=a'.tmps) hrs (Q:=fun o h'=>(∃ r,o=AOut.ret r)∧Q h') hs es c' s' m u hev hst hout e3 e4 hm hnr H
   refine ⟨rfl,?_⟩
   cases e with
   |normal=>cases hex;exact key .ret .returning rfl (fun v h=>by cases h) hQ
   |ret=>cases hex;exact key .ret .returning rfl (fun v h=>by cases h) hQ
   |panic av =>
    obtain ⟨x,rfl,hx⟩:=hex
    exact key (.pan av false) _ ⟨x,rfl,hx⟩ (fun v h=>by cases h) hQ
   |exit id=>exact hQ.elim
  have r2:((⟨vals++Array.replicate (fn.ntmps - vals.size) undef,[]⟩:Act).put (some x) rv).eval (.tmp x)=rv:=by
   have hlt:x<(vals++Array.replicate (fn.ntmps - vals.size) undef).size:=by have:=hsr0.size;simp only at this;omega
   simp only [Array.size_append,Array.size_replicate] at hlt
   simp [Act.put,Act.eval]
   intro h;omega
  have hlt2:x<vals.size+(fn.ntmps - vals.size):=by omega
  show wpOpsSIn F n P _ _ [0,1] _ _ _
  rcases hrec c₀ cs hu with hr|⟨hr,rfl,hc⟩
  ·simp [wpOpsSIn,Region.wanted,execOp,go_sem,resolve,invoke,hr,hF.fn,Exit.thenS,hlt2]
   exact hput _ rfl
  ·simp [wpOpsSIn,Region.wanted,execOp,go_sem,resolve,invoke,hr,hF.fn,Exit.thenS,hlt2]
   exact hput _ (by rw [hc])
 ·rintro e u' w' ⟨rfl,o,c',⟨⟨r,rfl⟩,hQ⟩,hev,hst',rfl,xx,rfl,hx'⟩
  exact ⟨xx,recM m,c',rfl,⟨rfl,hQ⟩,hev,hst',rfl,hm2.ev hs hev⟩
end Go.Proofs.YticgcpebdldbgaaDoor.Ab
set_option maxRecDepth 4000
namespace Go.Proofs.YticgcpebdldbgaaDoor.Ab
open Go.Proofs
section
variable {P:Pz} {s:PS} (hW:Wst P.all s) {h:AH} (H:P.ok h) (hN:P.all.length≤1000000)
include hW H hN
theorem Qf1 (b:ByteArray) (hb:s.is b.toList=true):QI Tryd.prog 39 [.ptr P.i 0 0,.v (.string b)] (ph h P s) fun o h'=>o = .ret (.b true)∧h'=ph h P s.nx:=by
 have hX:=XQ H s
 have hi:=ph_i H s
 have hp':=Qmw hW H hN (PS.QqL hb)
 have hp0:=hp' []
 have hi0:=hX
 rw [pB] at hi0
 simp only [pB] at hi
 simp only [QrS] at hp0
 have ci:=Qlg hW hX b
 rw [hb] at ci
 refine Qe Tryd.func39 rfl Tryd.call39 Tryd.ntmps39 (congrArg Array.toList Tryd.results39) (by simp) ?_
 repeat (first|((first|(with_reducible (first|refine Qa fun K E hK hE=>?_|refine FunW.ret (FunW.call ci) ?_)));simp -implicitDefEqProofs only [Qc,Qd,OpW,QC,aop,undef,AS.ev,Qs,AV.QqF,↓reduceIte,Qf,Qw,Qv,Qy,Qm,aBin,ti3,Qfo,Qq,hi0,hp0,seval])|(with_reducible (first|refine Qg fun K hK=>?_|refine Qn ?_|refine Qu ?_))|((with_reducible refine hK _ ?_);clear hK)|(refine Qh rfl ?_;simp only [↓reduceIte]))
 simp -implicitDefEqProofs only [Ya,↓reduceIte,Qrv,QG,Qp,Qt,Qrz]
 exact .inr ⟨rfl,rfl⟩
theorem QiI (b:ByteArray) (hb:s.is b.toList=false):QI Tryd.prog 39 [.ptr P.i 0 0,.v (.string b)] (ph h P s) fun o h'=>o = .ret (.b false)∧h'=ph h P s:=by
 have _u:=hN
 have hX:=XQ H s
 have ci:=Qlg hW hX b
 rw [hb] at ci
 refine Qe Tryd.func39 rfl Tryd.call39 Tryd.ntmps39 (congrArg Array.toList Tryd.results39) (by simp) ?_
 repeat (first|((first|(with_reducible (first|refine Qa fun K E hK hE=>?_|refine FunW.ret (FunW.call ci) ?_)));simp -implicitDefEqProofs only [Qc,Qd,OpW,QC,aop,undef,AS.ev,Qs,↓reduceIte,seval])|(with_reducible (first|refine Qg fun K hK=>?_|refine Qn ?_|refine Qk ?_|refine Qb ?_))|((with_reducible refine hK _ ?_);clear hK)|(refine Qh rfl ?_;simp only [↓reduceIte,Qrt]))
 simp -implicitDefEqProofs only [Ya,↓reduceIte,Qrv,QG,Qp,Qt,Qrz]
 exact .inr ⟨rfl,rfl⟩
theorem QjZ (b:ByteArray) (hb:s.is b.toList=true):QI Tryd.prog 36 [.ptr P.i 0 0,.v (.string b)] (ph h P s) fun o h'=>o = .ret (.tup [])∧h'=ph h P s.nx:=by
 have cs:=Qf1 hW H hN b hb
 refine Qe Tryd.func36 rfl Tryd.call36 Tryd.ntmps36 (congrArg Array.toList Tryd.results36) (by simp) ?_
 repeat (first|((first|(with_reducible (first|refine Qa fun K E hK hE=>?_|refine FunW.ret (FunW.call cs) ?_)));simp -implicitDefEqProofs only [Qc,Qd,OpW,QC,aop,undef,AS.ev,Qs,↓reduceIte,seval])|(with_reducible refine Qk ?_)|((with_reducible refine hK _ ?_);clear hK)|(refine Qh rfl ?_;simp only [↓reduceIte,Qrt]))
 simp -implicitDefEqProofs only [Qrr,Qrv,List.mapM_nil,Option.pure_def,Qrr,QG,Qp,Qrz]
 exact .inr ⟨rfl,rfl⟩
theorem Qmy (b:ByteArray) (hb:s.is b.toList=false):QI Tryd.prog 36 [.ptr P.i 0 0,.v (.string b)] (ph h P s) fun o h'=>o = .panic (Fl s.tk.pos 16)∧h'=ph h P s:=by
 have cs:=QiI hW H hN b hb
 have cn:=XB hW (XQ H s)
 have cf:=YF s.tk 16
 refine Qe Tryd.func36 rfl Tryd.call36 Tryd.ntmps36 (congrArg Array.toList Tryd.results36) (by simp) ?_
 repeat (first|((first|(with_reducible (first|refine Qa fun K E hK hE=>?_|refine Qj fun K E hK hE=>?_|refine FunW.ret (FunW.call cs) ?_|refine FunW.ret (FunW.call cn) ?_|refine FunW.pan (FunW.call (cf _ _)) ?_)));simp -implicitDefEqProofs only [Qc,Qd,OpW,QC,aop,undef,AS.ev,Qs,↓reduceIte,seval])|((with_reducible refine hK _ ?_);clear hK)|(refine Qh rfl ?_;simp only [↓reduceIte])|(with_reducible refine hE _ _ ?_))
 exact .inr ⟨rfl,rfl⟩
theorem Qnk (n m:Int) (hm:¬ m≤n):QI Tryd.prog 19 [.ptr P.i 0 0,.i n,.i m] (ph h P s) fun o h'=>o = .ret (.tup [])∧h'=ph h P s:=by
 have _u:=hN
 have _v:=hW
 have _w:=H
 have z1:¬ n≥m:=hm
 refine Qe Tryd.func19 rfl Tryd.call19 Tryd.ntmps19 (congrArg Array.toList Tryd.results19) (by simp) ?_
 repeat (first|(((with_reducible refine Qa fun K E hK hE=>?_));simp -implicitDefEqProofs only [Qc,Qd,OpW,aop,undef,AS.ev,Qs,↓reduceIte,aBin,hm,seval])|(with_reducible refine Qk ?_)|((with_reducible refine hK _ ?_);clear hK)|(refine Qh rfl ?_;simp only [↓reduceIte,Qrt]))
 simp -implicitDefEqProofs only [Qrr,Qrv,List.mapM_nil,Option.pure_def,Qrr,QG,Qp,Qrz]
 exact .inr ⟨rfl,rfl⟩
theorem QoV (n m:Int) (hm:m≤n):QI Tryd.prog 19 [.ptr P.i 0 0,.i n,.i m] (ph h P s) fun o h'=>o = .panic (Fl s.tk.pos 6)∧h'=ph h P s:=by
 have _u:=hN
 have z1:n≥m:=hm
 have cn:=XB hW (XQ H s)
 have cf:=YF s.tk 6
 refine Qe Tryd.func19 rfl Tryd.call19 Tryd.ntmps19 (congrArg Array.toList Tryd.results19) (by simp) ?_
 repeat (first|((first|(with_reducible (first|refine Qa fun K E hK hE=>?_|refine Qj fun K E hK hE=>?_|refine FunW.ret (FunW.call cn) ?_|refine FunW.pan (FunW.call (cf _ _)) ?_)));simp -implicitDefEqProofs only [Qc,Qd,OpW,QC,aop,undef,AS.ev,Qs,↓reduceIte,aBin,hm,seval])|((with_reducible refine hK _ ?_);clear hK)|(refine Qh rfl ?_;simp only [↓reduceIte])|(with_reducible refine hE _ _ ?_))
 exact .inr ⟨rfl,rfl⟩
theorem Qhs:QI Tryd.prog 35 [.ptr P.i 0 0] (ph h P s) fun o h'=>match Zq s with
  | .ok x s2=>o = .ret (.v (.string x))∧h'=ph h P s2
  | .err p e=>o = .panic (Fl p e)∧∃ s2,h'=ph h P s2:=by
 have ct:=Xk hW H hN
 have e1:=Tk.QqG s.tk
 have e2:=Tk.QqH s.tk
 have f1:=QN h P s.nx
 have f3:=Xr h P
 have f4:=XZ h P
 have f5:=Xd h P
 have f6:=XA h P
 unfold Zq
 by_cases h1:s.tk.kind=1
 ·rw [if_neg (by simpa using h1)]
  have z1:(s.tk.kind != 1)=false:=by simpa using h1
  have cr:=Qcy s.tk.text
  cases hr:resB s.tk.text with
  |true =>
   rw [if_pos rfl]
   rw [hr] at cr
   have cf:=YF s.tk 7
   refine Qe Tryd.func35 rfl Tryd.call35 Tryd.ntmps35 (congrArg Array.toList Tryd.results35) (by simp) ?_
   repeat (first|((first|(with_reducible (first|refine Qa fun K E hK hE=>?_|refine Qj fun K E hK hE=>?_|refine FunW.ret (FunW.call ct) ?_|refine QH cr ?_|refine FunW.pan (FunW.call (cf _ _)) ?_)));simp -implicitDefEqProofs only [Qc,Qd,OpW,QC,aop,undef,AS.ev,Qs,AV.QqF,↓reduceIte,Qf,Qw,Qv,Qy,Qm,aBin,ti3,ti9,ti60,QM,Xa,zi60,e1,e2,f1,f3,f5,z1,seval])|(with_reducible (first|refine Qg fun K hK=>?_|refine Qi ?_))|((with_reducible refine hK _ ?_);clear hK)|(refine Qh rfl ?_;simp only [↓reduceIte,Qrt])|(with_reducible (first|refine hE _ _ ?_|refine QK ?_|refine Q5 ?_)))
   exact Xf H (s:=s) (s':=s.nx) (.keep (Qbr _ _ _)) ⟨rfl,_,rfl⟩
  |false =>
   rw [if_neg (by simp)]
   rw [hr] at cr
   refine Qe Tryd.func35 rfl Tryd.call35 Tryd.ntmps35 (congrArg Array.toList Tryd.results35) (by simp) ?_
   repeat (first|((first|(with_reducible (first|refine Qa fun K E hK hE=>?_|refine FunW.ret (FunW.call ct) ?_|refine QH cr ?_)));simp -implicitDefEqProofs only [Qc,Qd,OpW,QC,aop,undef,AS.ev,Qs,AV.QqF,↓reduceIte,Qf,Qw,Qv,Qy,Qm,aBin,ti3,ti9,ti60,QM,Xa,zi60,e1,e2,f1,f3,f5,z1,seval])|(with_reducible (first|refine Qg fun K hK=>?_|refine Qi ?_|refine Qn ?_|refine Qk ?_|refine Qb ?_|refine Qo ?_))|((with_reducible refine hK _ ?_);clear hK)|(refine Qh rfl ?_;simp only [↓reduceIte,Qrt]))
   simp -implicitDefEqProofs only [Ya,↓reduceIte,Qrv,QG,Qp,Qt,Qrz]
   exact Xf H (s:=s) (s':=s.nx) (.keep (.v _)) ⟨rfl,rfl⟩
 ·rw [if_pos h1]
  have z1:(s.tk.kind != 1)=true:=by simpa using h1
  have cf:=YF s.tk 16
  refine Qe Tryd.func35 rfl Tryd.call35 Tryd.ntmps35 (congrArg Array.toList Tryd.results35) (by simp) ?_
  repeat (first|((first|(with_reducible (first|refine Qa fun K E hK hE=>?_|refine Qj fun K E hK hE=>?_|refine FunW.ret (FunW.call ct) ?_|refine FunW.pan (FunW.call (cf _ _)) ?_)));simp -implicitDefEqProofs only [Qc,Qd,OpW,QC,aop,undef,AS.ev,Qs,AV.QqF,↓reduceIte,Qf,Qw,Qv,Qy,Qm,aBin,ti3,ti60,QM,zi60,e1,e2,f1,f3,f5,z1,seval])|(with_reducible (first|refine Qg fun K hK=>?_|refine Qi ?_))|((with_reducible refine hK _ ?_);clear hK)|(refine Qh rfl ?_;simp only [↓reduceIte])|(with_reducible (first|refine hE _ _ ?_|refine QK ?_|refine Q5 ?_)))
  exact Xf H (s:=s) (s':=s.nx) (.keep (Qbr _ _ _)) ⟨rfl,_,rfl⟩
end
end Go.Proofs.YticgcpebdldbgaaDoor.Ab
set_option maxRecDepth 4000
namespace Go.Proofs.YticgcpebdldbgaaDoor.Ab
open Go.Proofs
def clsN (c:Int):Int:=if c=32∨c=9∨c=13∨c=10 then 1 else if 97≤c∧c≤122 then 2 else if (65≤c∧c≤90)∨c=95 then 3 else if 48≤c∧c≤57 then 4 else 0
theorem Qqh (c:Int) (hc:c=32):Pure Tryd.prog 96 [.v (.int .u8 c)] (.i (clsN c)):=by
 intro h
 have e0:clsN c=1:=by simp only [clsN];repeat' (first|rw [if_pos (by omega)]|rw [if_neg (by omega)])
 have b32:(c==32)=true:=by simp;omega
 have b9:(c==9)=false:=by simp;omega
 have b13:(c==13)=false:=by simp;omega
 have b10:(c==10)=false:=by simp;omega
 have b95:(c==95)=false:=by simp;omega
 have g97:¬ 97≤c:=by omega
 have l122:c≤122:=by omega
 have g65:¬ 65≤c:=by omega
 have l90:c≤90:=by omega
 have g48:¬ 48≤c:=by omega
 have l57:c≤57:=by omega
 refine Qe Tryd.func96 rfl Tryd.call96 Tryd.ntmps96 (congrArg Array.toList Tryd.results96) (by simp) ?_
 repeat (first|(((with_reducible refine Qa fun K E hK hE=>?_));simp -implicitDefEqProofs only [Qc,Qd,OpW,aop,undef,AS.ev,Qs,↓reduceIte,aBin,b32,seval])|(with_reducible (first|refine Qg fun K hK=>?_|refine Qi ?_|refine Qn ?_|refine Qk ?_|refine Qb ?_|refine Qu ?_|refine Qz ?_))|((with_reducible refine hK _ ?_);clear hK)|(refine Qh rfl ?_;simp only [↓reduceIte]))
 simp only [QG,Qp,Qt,upd,↓reduceIte,Qrv,Qrz];first|refine Ql (htake _ _) (.keep (.v _)) ⟨by rw [e0],rfl⟩|refine Ql List.take_length (.keep (.v _)) ⟨by rw [e0],rfl⟩
theorem Qqo (c:Int) (hc:c=9):Pure Tryd.prog 96 [.v (.int .u8 c)] (.i (clsN c)):=by
 intro h
 have e0:clsN c=1:=by simp only [clsN];repeat' (first|rw [if_pos (by omega)]|rw [if_neg (by omega)])
 have b32:(c==32)=false:=by simp;omega
 have b9:(c==9)=true:=by simp;omega
 have b13:(c==13)=false:=by simp;omega
 have b10:(c==10)=false:=by simp;omega
 have b95:(c==95)=false:=by simp;omega
 have g97:¬ 97≤c:=by omega
 have l122:c≤122:=by omega
 have g65:¬ 65≤c:=by omega
 have l90:c≤90:=by omega
 have g48:¬ 48≤c:=by omega
 have l57:c≤57:=by omega
 refine Qe Tryd.func96 rfl Tryd.call96 Tryd.ntmps96 (congrArg Array.toList Tryd.results96) (by simp) ?_
 repeat (first|(((with_reducible refine Qa fun K E hK hE=>?_));simp -implicitDefEqProofs only [Qc,Qd,OpW,aop,undef,AS.ev,Qs,↓reduceIte,aBin,b32,b9,seval])|(with_reducible (first|refine Qg fun K hK=>?_|refine Qi ?_|refine Qn ?_|refine Qk ?_|refine Qb ?_|refine Qu ?_|refine Qz ?_))|((with_reducible refine hK _ ?_);clear hK)|(refine Qh rfl ?_;simp only [↓reduceIte,Qrt]))
 simp only [QG,Qp,Qt,upd,↓reduceIte,Qrv,Qrz];first|refine Ql (htake _ _) (.keep (.v _)) ⟨by rw [e0],rfl⟩|refine Ql List.take_length (.keep (.v _)) ⟨by rw [e0],rfl⟩
theorem Qqt (c:Int) (hc:c=13):Pure Tryd.prog 96 [.v (.int .u8 c)] (.i (clsN c)):=by
 intro h
 have e0:clsN c=1:=by simp only [clsN];repeat' (first|rw [if_pos (by omega)]|rw [if_neg (by omega)])
 have b32:(c==32)=false:=by simp;omega
 have b9:(c==9)=false:=by simp;omega
 have b13:(c==13)=true:=by simp;omega
 have b10:(c==10)=false:=by simp;omega
 have b95:(c==95)=false:=by simp;omega
 have g97:¬ 97≤c:=by omega
 have l122:c≤122:=by omega
 have g65:¬ 65≤c:=by omega
 have l90:c≤90:=by omega
 have g48:¬ 48≤c:=by omega
 have l57:c≤57:=by omega
 refine Qe Tryd.func96 rfl Tryd.call96 Tryd.ntmps96 (congrArg Array.toList Tryd.results96) (by simp) ?_
 repeat (first|(((with_reducible refine Qa fun K E hK hE=>?_));simp -implicitDefEqProofs only [Qc,Qd,OpW,aop,undef,AS.ev,Qs,↓reduceIte,aBin,b32,b9,b13,seval])|(with_reducible (first|refine Qg fun K hK=>?_|refine Qi ?_|refine Qn ?_|refine Qk ?_|refine Qb ?_|refine Qu ?_|refine Qz ?_))|((with_reducible refine hK _ ?_);clear hK)|(refine Qh rfl ?_;simp only [↓reduceIte,Qrt]))
 simp only [QG,Qp,Qt,upd,↓reduceIte,Qrv,Qrz];first|refine Ql (htake _ _) (.keep (.v _)) ⟨by rw [e0],rfl⟩|refine Ql List.take_length (.keep (.v _)) ⟨by rw [e0],rfl⟩
theorem Qqs (c:Int) (hc:c=10):Pure Tryd.prog 96 [.v (.int .u8 c)] (.i (clsN c)):=by
 intro h
 have e0:clsN c=1:=by simp only [clsN];repeat' (first|rw [if_pos (by omega)]|rw [if_neg (by omega)])
 have b32:(c==32)=false:=by simp;omega
 have b9:(c==9)=false:=by simp;omega
 have b13:(c==13)=false:=by simp;omega
 have b10:(c==10)=true:=by simp;omega
 have b95:(c==95)=false:=by simp;omega
 have g97:¬ 97≤c:=by omega
 have l122:c≤122:=by omega
 have g65:¬ 65≤c:=by omega
 have l90:c≤90:=by omega
 have g48:¬ 48≤c:=by omega
 have l57:c≤57:=by omega
 refine Qe Tryd.func96 rfl Tryd.call96 Tryd.ntmps96 (congrArg Array.toList Tryd.results96) (by simp) ?_
 repeat (first|((first|(with_reducible (first|refine Qa fun K E hK hE=>?_|refine Qj fun K E hK hE=>?_)));simp -implicitDefEqProofs only [Qc,Qd,OpW,aop,undef,AS.ev,Qs,↓reduceIte,aBin,b32,b9,b13,b10,seval])|(with_reducible (first|refine Qg fun K hK=>?_|refine Qi ?_|refine Qn ?_|refine Qb ?_|refine Qu ?_|refine Qz ?_))|((with_reducible refine hK _ ?_);clear hK)|(refine Qh rfl ?_;simp only [↓reduceIte,Qrt]))
 simp only [QG,Qp,Qt,upd,↓reduceIte,Qrv,Qrz];first|refine Ql (htake _ _) (.keep (.v _)) ⟨by rw [e0],rfl⟩|refine Ql List.take_length (.keep (.v _)) ⟨by rw [e0],rfl⟩
theorem Qqk (c:Int) (hc:97≤c∧c≤122):Pure Tryd.prog 96 [.v (.int .u8 c)] (.i (clsN c)):=by
 intro h
 have e0:clsN c=2:=by simp only [clsN];repeat' (first|rw [if_pos (by omega)]|rw [if_neg (by omega)])
 have b32:(c==32)=false:=by simp;omega
 have b9:(c==9)=false:=by simp;omega
 have b13:(c==13)=false:=by simp;omega
 have b10:(c==10)=false:=by simp;omega
 have b95:(c==95)=false:=by simp;omega
 have g97:97≤c:=by omega
 have l122:c≤122:=by omega
 have g65:65≤c:=by omega
 have l90:¬ c≤90:=by omega
 have g48:48≤c:=by omega
 have l57:¬ c≤57:=by omega
 refine Qe Tryd.func96 rfl Tryd.call96 Tryd.ntmps96 (congrArg Array.toList Tryd.results96) (by simp) ?_
 repeat (first|((first|(with_reducible (first|refine Qa fun K E hK hE=>?_|refine Qj fun K E hK hE=>?_)));simp -implicitDefEqProofs only [Qc,Qd,OpW,aop,undef,AS.ev,Qs,↓reduceIte,aBin,b32,b9,b13,b10,g97,l122,seval])|(with_reducible (first|refine Qg fun K hK=>?_|refine Qi ?_|refine Qn ?_|refine Qb ?_|refine Qu ?_|refine Qz ?_))|((with_reducible refine hK _ ?_);clear hK)|(refine Qh rfl ?_;simp only [↓reduceIte,Qrt]))
 simp only [QG,Qp,Qt,upd,↓reduceIte,Qrv,Qrz];first|refine Ql (htake _ _) (.keep (.v _)) ⟨by rw [e0],rfl⟩|refine Ql List.take_length (.keep (.v _)) ⟨by rw [e0],rfl⟩
theorem Qqf (c:Int) (hc:65≤c∧c≤90):Pure Tryd.prog 96 [.v (.int .u8 c)] (.i (clsN c)):=by
 intro h
 have e0:clsN c=3:=by simp only [clsN];repeat' (first|rw [if_pos (by omega)]|rw [if_neg (by omega)])
 have b32:(c==32)=false:=by simp;omega
 have b9:(c==9)=false:=by simp;omega
 have b13:(c==13)=false:=by simp;omega
 have b10:(c==10)=false:=by simp;omega
 have b95:(c==95)=false:=by simp;omega
 have g97:¬ 97≤c:=by omega
 have l122:c≤122:=by omega
 have g65:65≤c:=by omega
 have l90:c≤90:=by omega
 have g48:48≤c:=by omega
 have l57:¬ c≤57:=by omega
 refine Qe Tryd.func96 rfl Tryd.call96 Tryd.ntmps96 (congrArg Array.toList Tryd.results96) (by simp) ?_
 repeat (first|((first|(with_reducible (first|refine Qa fun K E hK hE=>?_|refine Qj fun K E hK hE=>?_)));simp -implicitDefEqProofs only [Qc,Qd,OpW,aop,undef,AS.ev,Qs,↓reduceIte,aBin,b32,b9,b13,b10,g97,g65,l90,seval])|(with_reducible (first|refine Qg fun K hK=>?_|refine Qi ?_|refine Qn ?_|refine Qk ?_|refine Qb ?_|refine Qu ?_|refine Qz ?_))|((with_reducible refine hK _ ?_);clear hK)|(refine Qh rfl ?_;simp only [↓reduceIte,Qrt]))
 simp only [QG,Qp,Qt,upd,↓reduceIte,Qrv,Qrz];first|refine Ql (htake _ _) (.keep (.v _)) ⟨by rw [e0],rfl⟩|refine Ql List.take_length (.keep (.v _)) ⟨by rw [e0],rfl⟩
theorem Qqa (c:Int) (hc:c=95):Pure Tryd.prog 96 [.v (.int .u8 c)] (.i (clsN c)):=by
 intro h
 have e0:clsN c=3:=by simp only [clsN];repeat' (first|rw [if_pos (by omega)]|rw [if_neg (by omega)])
 have b32:(c==32)=false:=by simp;omega
 have b9:(c==9)=false:=by simp;omega
 have b13:(c==13)=false:=by simp;omega
 have b10:(c==10)=false:=by simp;omega
 have b95:(c==95)=true:=by simp;omega
 have g97:¬ 97≤c:=by omega
 have l122:c≤122:=by omega
 have g65:65≤c:=by omega
 have l90:¬ c≤90:=by omega
 have g48:48≤c:=by omega
 have l57:¬ c≤57:=by omega
 refine Qe Tryd.func96 rfl Tryd.call96 Tryd.ntmps96 (congrArg Array.toList Tryd.results96) (by simp) ?_
 repeat (first|((first|(with_reducible (first|refine Qa fun K E hK hE=>?_|refine Qj fun K E hK hE=>?_)));simp -implicitDefEqProofs only [Qc,Qd,OpW,aop,undef,AS.ev,Qs,↓reduceIte,aBin,b32,b9,b13,b10,b95,g97,g65,l90,seval])|(with_reducible (first|refine Qg fun K hK=>?_|refine Qi ?_|refine Qn ?_|refine Qb ?_|refine Qu ?_|refine Qz ?_))|((with_reducible refine hK _ ?_);clear hK)|(refine Qh rfl ?_;simp only [↓reduceIte,Qrt]))
 simp only [QG,Qp,Qt,upd,↓reduceIte,Qrv,Qrz];first|refine Ql (htake _ _) (.keep (.v _)) ⟨by rw [e0],rfl⟩|refine Ql List.take_length (.keep (.v _)) ⟨by rw [e0],rfl⟩
theorem Qqr (c:Int) (hc:48≤c∧c≤57):Pure Tryd.prog 96 [.v (.int .u8 c)] (.i (clsN c)):=by
 intro h
 have e0:clsN c=4:=by simp only [clsN];repeat' (first|rw [if_pos (by omega)]|rw [if_neg (by omega)])
 have b32:(c==32)=false:=by simp;omega
 have b9:(c==9)=false:=by simp;omega
 have b13:(c==13)=false:=by simp;omega
 have b10:(c==10)=false:=by simp;omega
 have b95:(c==95)=false:=by simp;omega
 have g97:¬ 97≤c:=by omega
 have l122:c≤122:=by omega
 have g65:¬ 65≤c:=by omega
 have l90:c≤90:=by omega
 have g48:48≤c:=by omega
 have l57:c≤57:=by omega
 refine Qe Tryd.func96 rfl Tryd.call96 Tryd.ntmps96 (congrArg Array.toList Tryd.results96) (by simp) ?_
 repeat (first|((first|(with_reducible (first|refine Qa fun K E hK hE=>?_|refine Qj fun K E hK hE=>?_)));simp -implicitDefEqProofs only [Qc,Qd,OpW,aop,undef,AS.ev,Qs,↓reduceIte,aBin,b32,b9,b13,b10,b95,g97,g65,g48,l57,seval])|(with_reducible (first|refine Qg fun K hK=>?_|refine Qi ?_|refine Qn ?_|refine Qb ?_|refine Qu ?_|refine Qz ?_))|((with_reducible refine hK _ ?_);clear hK)|(refine Qh rfl ?_;simp only [↓reduceIte,Qrt]))
 simp only [QG,Qp,Qt,upd,↓reduceIte,Qrv,Qrz];first|refine Ql (htake _ _) (.keep (.v _)) ⟨by rw [e0],rfl⟩|refine Ql List.take_length (.keep (.v _)) ⟨by rw [e0],rfl⟩
theorem QqA (c:Int) (hc:c<48∧c≠32∧c≠9∧c≠13∧c≠10):Pure Tryd.prog 96 [.v (.int .u8 c)] (.i (clsN c)):=by
 intro h
 have e0:clsN c=0:=by simp only [clsN];repeat' (first|rw [if_pos (by omega)]|rw [if_neg (by omega)])
 have b32:(c==32)=false:=by simp;omega
 have b9:(c==9)=false:=by simp;omega
 have b13:(c==13)=false:=by simp;omega
 have b10:(c==10)=false:=by simp;omega
 have b95:(c==95)=false:=by simp;omega
 have g97:¬ 97≤c:=by omega
 have l122:c≤122:=by omega
 have g65:¬ 65≤c:=by omega
 have l90:c≤90:=by omega
 have g48:¬ 48≤c:=by omega
 have l57:c≤57:=by omega
 refine Qe Tryd.func96 rfl Tryd.call96 Tryd.ntmps96 (congrArg Array.toList Tryd.results96) (by simp) ?_
 repeat (first|((first|(with_reducible (first|refine Qa fun K E hK hE=>?_|refine Qj fun K E hK hE=>?_)));simp -implicitDefEqProofs only [Qc,Qd,OpW,aop,undef,AS.ev,Qs,↓reduceIte,aBin,b32,b9,b13,b10,b95,g97,g65,g48,seval])|(with_reducible (first|refine Qg fun K hK=>?_|refine Qi ?_|refine Qn ?_|refine Qk ?_|refine Qb ?_|refine Qo ?_))|((with_reducible refine hK _ ?_);clear hK)|(refine Qh rfl ?_;simp only [↓reduceIte,Qrt]))
 simp only [QG,Qp,Qt,upd,↓reduceIte,Qrv,Qrz];first|refine Ql (htake _ _) (.keep (.v _)) ⟨by rw [e0],rfl⟩|refine Ql List.take_length (.keep (.v _)) ⟨by rw [e0],rfl⟩
theorem Qp7 (c:Int) (hc:58≤c∧c≤64):Pure Tryd.prog 96 [.v (.int .u8 c)] (.i (clsN c)):=by
 intro h
 have e0:clsN c=0:=by simp only [clsN];repeat' (first|rw [if_pos (by omega)]|rw [if_neg (by omega)])
 have b32:(c==32)=false:=by simp;omega
 have b9:(c==9)=false:=by simp;omega
 have b13:(c==13)=false:=by simp;omega
 have b10:(c==10)=false:=by simp;omega
 have b95:(c==95)=false:=by simp;omega
 have g97:¬ 97≤c:=by omega
 have l122:c≤122:=by omega
 have g65:¬ 65≤c:=by omega
 have l90:c≤90:=by omega
 have g48:48≤c:=by omega
 have l57:¬ c≤57:=by omega
 refine Qe Tryd.func96 rfl Tryd.call96 Tryd.ntmps96 (congrArg Array.toList Tryd.results96) (by simp) ?_
 repeat (first|((first|(with_reducible (first|refine Qa fun K E hK hE=>?_|refine Qj fun K E hK hE=>?_)));simp -implicitDefEqProofs only [Qc,Qd,OpW,aop,undef,AS.ev,Qs,↓reduceIte,aBin,b32,b9,b13,b10,b95,g97,g65,g48,l57,seval])|(with_reducible (first|refine Qg fun K hK=>?_|refine Qi ?_|refine Qn ?_|refine Qk ?_|refine Qb ?_|refine Qo ?_))|((with_reducible refine hK _ ?_);clear hK)|(refine Qh rfl ?_;simp only [↓reduceIte,Qrt]))
 simp only [QG,Qp,Qt,upd,↓reduceIte,Qrv,Qrz];first|refine Ql (htake _ _) (.keep (.v _)) ⟨by rw [e0],rfl⟩|refine Ql List.take_length (.keep (.v _)) ⟨by rw [e0],rfl⟩
theorem Qp3 (c:Int) (hc:91≤c∧c≤94):Pure Tryd.prog 96 [.v (.int .u8 c)] (.i (clsN c)):=by
 intro h
 have e0:clsN c=0:=by simp only [clsN];repeat' (first|rw [if_pos (by omega)]|rw [if_neg (by omega)])
 have b32:(c==32)=false:=by simp;omega
 have b9:(c==9)=false:=by simp;omega
 have b13:(c==13)=false:=by simp;omega
 have b10:(c==10)=false:=by simp;omega
 have b95:(c==95)=false:=by simp;omega
 have g97:¬ 97≤c:=by omega
 have l122:c≤122:=by omega
 have g65:65≤c:=by omega
 have l90:¬ c≤90:=by omega
 have g48:48≤c:=by omega
 have l57:¬ c≤57:=by omega
 refine Qe Tryd.func96 rfl Tryd.call96 Tryd.ntmps96 (congrArg Array.toList Tryd.results96) (by simp) ?_
 repeat (first|((first|(with_reducible (first|refine Qa fun K E hK hE=>?_|refine Qj fun K E hK hE=>?_)));simp -implicitDefEqProofs only [Qc,Qd,OpW,aop,undef,AS.ev,Qs,↓reduceIte,aBin,b32,b9,b13,b10,b95,g97,g65,l90,g48,l57,seval])|(with_reducible (first|refine Qg fun K hK=>?_|refine Qi ?_|refine Qn ?_|refine Qk ?_|refine Qb ?_|refine Qo ?_))|((with_reducible refine hK _ ?_);clear hK)|(refine Qh rfl ?_;simp only [↓reduceIte,Qrt]))
 simp only [QG,Qp,Qt,upd,↓reduceIte,Qrv,Qrz];first|refine Ql (htake _ _) (.keep (.v _)) ⟨by rw [e0],rfl⟩|refine Ql List.take_length (.keep (.v _)) ⟨by rw [e0],rfl⟩
theorem Qpj (c:Int) (hc:c=96):Pure Tryd.prog 96 [.v (.int .u8 c)] (.i (clsN c)):=by
 intro h
 have e0:clsN c=0:=by simp only [clsN];repeat' (first|rw [if_pos (by omega)]|rw [if_neg (by omega)])
 have b32:(c==32)=false:=by simp;omega
 have b9:(c==9)=false:=by simp;omega
 have b13:(c==13)=false:=by simp;omega
 have b10:(c==10)=false:=by simp;omega
 have b95:(c==95)=false:=by simp;omega
 have g97:¬ 97≤c:=by omega
 have l122:c≤122:=by omega
 have g65:65≤c:=by omega
 have l90:¬ c≤90:=by omega
 have g48:48≤c:=by omega
 have l57:¬ c≤57:=by omega
 refine Qe Tryd.func96 rfl Tryd.call96 Tryd.ntmps96 (congrArg Array.toList Tryd.results96) (by simp) ?_
 repeat (first|((first|(with_reducible (first|refine Qa fun K E hK hE=>?_|refine Qj fun K E hK hE=>?_)));simp -implicitDefEqProofs only [Qc,Qd,OpW,aop,undef,AS.ev,Qs,↓reduceIte,aBin,b32,b9,b13,b10,b95,g97,g65,l90,g48,l57,seval])|(with_reducible (first|refine Qg fun K hK=>?_|refine Qi ?_|refine Qn ?_|refine Qk ?_|refine Qb ?_|refine Qo ?_))|((with_reducible refine hK _ ?_);clear hK)|(refine Qh rfl ?_;simp only [↓reduceIte,Qrt]))
 simp only [QG,Qp,Qt,upd,↓reduceIte,Qrv,Qrz];first|refine Ql (htake _ _) (.keep (.v _)) ⟨by rw [e0],rfl⟩|refine Ql List.take_length (.keep (.v _)) ⟨by rw [e0],rfl⟩
theorem Qpv (c:Int) (hc:122<c):Pure Tryd.prog 96 [.v (.int .u8 c)] (.i (clsN c)):=by
 intro h
 have e0:clsN c=0:=by simp only [clsN];repeat' (first|rw [if_pos (by omega)]|rw [if_neg (by omega)])
 have b32:(c==32)=false:=by simp;omega
 have b9:(c==9)=false:=by simp;omega
 have b13:(c==13)=false:=by simp;omega
 have b10:(c==10)=false:=by simp;omega
 have b95:(c==95)=false:=by simp;omega
 have g97:97≤c:=by omega
 have l122:¬ c≤122:=by omega
 have g65:65≤c:=by omega
 have l90:¬ c≤90:=by omega
 have g48:48≤c:=by omega
 have l57:¬ c≤57:=by omega
 refine Qe Tryd.func96 rfl Tryd.call96 Tryd.ntmps96 (congrArg Array.toList Tryd.results96) (by simp) ?_
 repeat (first|((first|(with_reducible (first|refine Qa fun K E hK hE=>?_|refine Qj fun K E hK hE=>?_)));simp -implicitDefEqProofs only [Qc,Qd,OpW,aop,undef,AS.ev,Qs,↓reduceIte,aBin,b32,b9,b13,b10,b95,g97,l122,g65,l90,g48,l57,seval])|(with_reducible (first|refine Qg fun K hK=>?_|refine Qi ?_|refine Qn ?_|refine Qk ?_|refine Qb ?_|refine Qo ?_))|((with_reducible refine hK _ ?_);clear hK)|(refine Qh rfl ?_;simp only [↓reduceIte,Qrt]))
 simp only [QG,Qp,Qt,upd,↓reduceIte,Qrv,Qrz];first|refine Ql (htake _ _) (.keep (.v _)) ⟨by rw [e0],rfl⟩|refine Ql List.take_length (.keep (.v _)) ⟨by rw [e0],rfl⟩
theorem Qb9 (c:Int):Pure Tryd.prog 96 [.v (.int .u8 c)] (.i (clsN c)):=by
 have hcs:c=32∨c=9∨c=13∨c=10∨97≤c∧c≤122∨65≤c∧c≤90∨c=95∨48≤c∧c≤57∨c<48∧c≠32∧c≠9∧c≠13∧c≠10∨58≤c∧c≤64∨91≤c∧c≤94∨c=96∨122<c:=by omega
 rcases hcs with h|h|h|h|h|h|h|h|h|h|h|h|h
 ·exact Qqh c h
 ·exact Qqo c h
 ·exact Qqt c h
 ·exact Qqs c h
 ·exact Qqk c h
 ·exact Qqf c h
 ·exact Qqa c h
 ·exact Qqr c h
 ·exact QqA c h
 ·exact Qp7 c h
 ·exact Qp3 c h
 ·exact Qpj c h
 ·exact Qpv c h
end Go.Proofs.YticgcpebdldbgaaDoor.Ab
set_option maxRecDepth 4000
namespace Go.Proofs.YticgcpebdldbgaaDoor.Ab
open Go.Proofs
theorem QU (l:List UInt8):(mkB l).size=l.length:=by show l.toArray.size=_;simp
theorem Qhm (l:List UInt8):(mkB l).data.toList=l:=by simp [mkB]
theorem Qdz (s:ByteArray):mkB s.data.toList=s:=Qod (by rw [Qhm])
theorem QeC (l:List UInt8):(mkB l).toList=l:=by rw [Lib.toList_data,Qhm]
theorem Qad (l:List UInt8) (i:Nat) (h:i<l.length):byteAt (mkB l) i=((l[i]).toNat:Nat):=by
 unfold byteAt;rw [Qhm,List.getD_eq_getElem?_getD,List.getElem?_eq_getElem h];rfl
theorem Qln (c:UInt8):(clsN (c.toNat:Nat)==1)=isSp c:=by
 unfold clsN isSp
 by_cases h:((c.toNat:Nat):Int)=32∨((c.toNat:Nat):Int)=9∨((c.toNat:Nat):Int)=13∨((c.toNat:Nat):Int)=10
 ·rw [if_pos h,decide_eq_true (by omega)];rfl
 ·rw [if_neg h,decide_eq_false (by omega)]
  repeat' split
  all_goals rfl
theorem QpJ (c:UInt8):(2≤clsN (c.toNat:Nat))↔isW c=true:=by
 have hc:=c.toNat_lt
 unfold clsN isW isL isD
 simp only [Bool.or_eq_true,decide_eq_true_eq]
 repeat' split
 all_goals omega
theorem QlN (c:UInt8):(4≤clsN (c.toNat:Nat))↔isD c=true:=by
 have hc:=c.toNat_lt
 unfold clsN isD
 simp only [decide_eq_true_eq]
 repeat' split
 all_goals omega
theorem drop_cons {l:List UInt8} {k:Nat} (h:k<l.length):l.drop k=l[k]::l.drop (k+1):=List.drop_eq_getElem_cons h
section
variable (l:List UInt8) (hl:l.length≤16384)
include hl
theorem QgK (p:UInt8→Bool) (least:Int) (hcl:∀ c:UInt8,(least≤clsN (c.toNat:Nat))↔p c=true) (k:Nat) (hk:k≤l.length) :
  Pure Tryd.prog 97 [.v (.string (mkB l)),.i k,.i least] (.i ((k+((l.drop k).takeWhile p).length:Nat):Int)):=by
 intro h
 have hsl:=fun b=>ZN Tryd.prog 9 3 (by kernel_rfl) b
 refine Qe Tryd.func97 rfl Tryd.call97 Tryd.ntmps97 (congrArg Array.toList Tryd.results97) (by simp) ?_
 repeat (first|(((with_reducible refine Qa fun K E hK hE=>?_));simp -implicitDefEqProofs only [X8,Zo,Qd,OpW,aop,AS.ev,XO,Qd0,Nat.reduceLT])|(with_reducible (first|refine Qg fun K hK=>?_|refine Qi ?_))|((with_reducible refine hK _ ?_);clear hK))
 obtain ⟨I,hI⟩:∃ I:Nat→AS→Prop,I=fun m' s=>∃ j:Nat,m'=l.length - j∧j≤l.length∧j+((l.drop j).takeWhile p).length=k+((l.drop k).takeWhile p).length∧s.tm 0 = .v (.string (mkB l))∧s.tm 1 = .i j∧s.tm 2 = .i least∧s.h=h:=⟨_,rfl⟩;refine QZ I ?_ (m:=l.length - k) ?_
 ·intro m' s hs;rw [hI] at hs;obtain ⟨tm,hp⟩:=s;dsimp only at hs;obtain ⟨j,rfl,hj,he,t0,t1,t2,rfl⟩:=hs
  by_cases hlt:j<l.length
  ·have z1:(((j:Nat):Int)<((l.length:Nat):Int)):=by omega
   have hix:=ZG Tryd.prog 9 (by kernel_rfl) (mkB l) j (by rw [QU];exact hlt)
   rw [Qad l j hlt] at hix
   have cp:=Qb9 (((l[j]).toNat:Nat):Int)
   rw [drop_cons hlt,List.takeWhile_cons] at he
   by_cases hc:p l[j]=true
   ·rw [if_pos hc,List.length_cons] at he
    have z2:least≤clsN (((l[j]).toNat:Nat):Int):=(hcl _).2 hc
    repeat (first|((first|(with_reducible (first|refine Qa fun K E hK hE=>?_|refine Qj fun K E hK hE=>?_|refine QH cp ?_)));simp -implicitDefEqProofs only [Qc,Qd,OpW,QC,aop,AS.ev,↓reduceIte,aBin,aLen,goInt,t0,t1,t2,hsl,QU,z1,hix,z2,seval])|(with_reducible (first|refine Qg fun K hK=>?_|refine Qi ?_|refine Qk ?_|refine Qb ?_|refine Qo ?_))|((with_reducible refine hK _ ?_);clear hK)|(refine Qh rfl ?_;simp only [↓reduceIte]))
    refine Xw.mk (m':=l.length - (j+1)) (by omega) ?_
    rw [hI]
    refine ⟨j+1,rfl,hlt,by omega,t0,?_,t2,rfl⟩
    simp only [upd,↓reduceIte]
    rw [X3 (by omega)]
   ·rw [if_neg hc,List.length_nil] at he
    have z2:¬ least≤clsN (((l[j]).toNat:Nat):Int):=fun q=>hc ((hcl _).1 q)
    repeat (first|((first|(with_reducible (first|refine Qa fun K E hK hE=>?_|refine QH cp ?_)));simp -implicitDefEqProofs only [Qc,Qd,OpW,QC,aop,AS.ev,↓reduceIte,aBin,aLen,goInt,t0,t1,t2,hsl,QU,z1,hix,z2,seval])|(with_reducible (first|refine Qg fun K hK=>?_|refine Qn ?_|refine QE ?_|refine Qb ?_|refine QA ?_|refine QB ?_))|((with_reducible refine hK _ ?_);clear hK)|(clear hK;(with_reducible refine hK _ ?_);clear hK)|(refine Qh rfl ?_;simp only [↓reduceIte,Qrt]))
    simp only [QG,Qp,Qt,upd,↓reduceIte,Qrv,Qrz]
    exact Ql List.take_length (.keep (.v _)) ⟨by rw [← he];rfl,rfl⟩
  ·have hjl:j=l.length:=by omega
   have z1:¬ (((j:Nat):Int)<((l.length:Nat):Int)):=by omega
   rw [hjl,List.drop_length] at he
   repeat (first|(((with_reducible refine Qa fun K E hK hE=>?_));simp -implicitDefEqProofs only [Qc,Qd,OpW,aop,undef,AS.ev,↓reduceIte,aBin,aLen,goInt,t0,t1,hsl,QU,z1,seval])|(with_reducible (first|refine Qg fun K hK=>?_|refine Qn ?_|refine QE ?_|refine Qb ?_|refine QA ?_|refine QB ?_))|((with_reducible refine hK _ ?_);clear hK)|(clear hK;(with_reducible refine hK _ ?_);clear hK)|(refine Qh rfl ?_;simp only [↓reduceIte,Qrt]))
   simp only [QG,Qp,Qt,upd,↓reduceIte,Qrv,Qrz]
   exact Ql List.take_length (.keep (.v _)) ⟨by rw [← he,hjl];rfl,rfl⟩
 ·rw [hI]
  exact ⟨k,rfl,hk,rfl,rfl,rfl,rfl,rfl⟩
theorem Qka (k:Nat) (hk:k≤l.length):Pure Tryd.prog 90 [.v (.string (mkB l)),.i k] (.i ((l.length - (Q8 false (l.drop k)).length:Nat):Int)):=by
 intro h
 have hsl:=fun b=>ZN Tryd.prog 9 3 (by kernel_rfl) b
 refine Qe Tryd.func90 rfl Tryd.call90 Tryd.ntmps90 (congrArg Array.toList Tryd.results90) (by simp) ?_
 repeat (first|(((with_reducible refine Qa fun K E hK hE=>?_));simp -implicitDefEqProofs only [X8,Zo,Qd,OpW,aop,AS.ev,XO,Qd0,Nat.reduceLT])|(with_reducible (first|refine Qg fun K hK=>?_|refine Qi ?_))|((with_reducible refine hK _ ?_);clear hK))
 obtain ⟨I,hI⟩:∃ I:Nat→AS→Prop,I=fun m' s=>∃ j:Nat,m'=l.length - j∧j≤l.length∧Q8 false (l.drop j)=Q8 false (l.drop k)∧s.tm 0 = .v (.string (mkB l))∧s.tm 1 = .i j∧s.h=h:=⟨_,rfl⟩;refine QZ I ?_ (m:=l.length - k) ?_
 ·intro m' s hs;rw [hI] at hs;obtain ⟨tm,hp⟩:=s;dsimp only at hs;obtain ⟨j,rfl,hj,he,t0,t1,rfl⟩:=hs
  by_cases hlt:j<l.length
  ·have z1:(((j:Nat):Int)<((l.length:Nat):Int)):=by omega
   have hix:=ZG Tryd.prog 9 (by kernel_rfl) (mkB l) j (by rw [QU];exact hlt)
   rw [Qad l j hlt] at hix
   have cp:=Qb9 (((l[j]).toNat:Nat):Int)
   have hd:=drop_cons hlt
   rw [hd,Q8] at he
   by_cases hc:isSp l[j]=true
   ·rw [if_pos hc] at he
    have z2:(clsN (((l[j]).toNat:Nat):Int)==1)=true:=by rw [Qln];exact hc
    repeat (first|((first|(with_reducible (first|refine Qa fun K E hK hE=>?_|refine Qj fun K E hK hE=>?_|refine QH cp ?_)));simp -implicitDefEqProofs only [Qc,Qd,OpW,QC,aop,AS.ev,↓reduceIte,aBin,aLen,goInt,t0,t1,hsl,QU,z1,hix,z2,seval])|(with_reducible (first|refine Qg fun K hK=>?_|refine Qi ?_|refine Qk ?_|refine Qb ?_|refine Qo ?_))|((with_reducible refine hK _ ?_);clear hK)|(refine Qh rfl ?_;simp only [↓reduceIte]))
    refine Xw.mk (m':=l.length - (j+1)) (by omega) ?_
    rw [hI]
    refine ⟨j+1,rfl,hlt,he,t0,?_,rfl⟩
    simp only [upd,↓reduceIte]
    rw [X3 (by omega)]
   ·rw [if_neg hc] at he
    have z2:(clsN (((l[j]).toNat:Nat):Int)==1)=false:=by rw [Qln];simpa using hc
    by_cases h35:(l[j]).toNat=35
    ·rw [if_pos h35] at he
     have z3:((((l[j]).toNat:Nat):Int)==35)=true:=by rw [h35];rfl
     have hI0:=hI
     repeat (first|((first|(with_reducible (first|refine Qa fun K E hK hE=>?_|refine QH cp ?_)));simp -implicitDefEqProofs only [Qc,Qd,OpW,QC,aop,AS.ev,↓reduceIte,aBin,aLen,goInt,t0,t1,hsl,QU,z1,hix,z2,z3,seval])|(with_reducible (first|refine Qg fun K hK=>?_|refine Qi ?_|refine Qk ?_|refine Qb ?_))|((with_reducible refine hK _ ?_);clear hK)|(refine Qh rfl ?_;simp only [↓reduceIte,Qrt]))
     obtain ⟨I,hI⟩:∃ I:Nat→AS→Prop,I=fun m' s=>∃ i:Nat,m'=l.length - i∧i≤l.length∧j≤i∧(i=j∨Q8 true (l.drop i)=Q8 false (l.drop k))∧s.tm 0 = .v (.string (mkB l))∧s.tm 1 = .i i∧s.h=hp:=⟨_,rfl⟩;refine QZ I ?_ (m:=l.length - j) ?_
     ·intro m' s hs;rw [hI] at hs;obtain ⟨tm,hp⟩:=s;dsimp only at hs;obtain ⟨i,rfl,hi,hji,he2,u0,u1,rfl⟩:=hs
      by_cases hlt2:i<l.length
      ·have y1:(((i:Nat):Int)<((l.length:Nat):Int)):=by omega
       have hix2:=ZG Tryd.prog 9 (by kernel_rfl) (mkB l) i (by rw [QU];exact hlt2)
       rw [Qad l i hlt2] at hix2
       have hd2:=drop_cons hlt2
       by_cases h10:(l[i]).toNat=10
       ·have y2:((((l[i]).toNat:Nat):Int) != 10)=false:=by rw [h10];rfl
        have hne:i≠j:=by rintro rfl;omega
        have he3:=he2.resolve_left hne
        rw [hd2,Q8,if_pos h10] at he3
        repeat (first|(((with_reducible refine Qa fun K E hK hE=>?_));simp -implicitDefEqProofs only [Qc,Qd,OpW,aop,AS.ev,↓reduceIte,aBin,aLen,goInt,u0,u1,hsl,QU,y1,hix2,y2,seval])|(with_reducible (first|refine Qg fun K hK=>?_|refine QE ?_|refine Qb ?_|refine QA ?_|refine Qo ?_|refine QB ?_))|((with_reducible refine hK _ ?_);clear hK)|(refine Qh rfl ?_;simp only [↓reduceIte,Qrt]))
        refine Xw.mk (m':=l.length - i) (by omega) ?_
        rw [hI0]
        refine ⟨i,rfl,hi,?_,u0,u1,rfl⟩
        rw [hd2,Q8,if_pos (show isSp l[i]=true by unfold isSp;exact decide_eq_true (by omega))];exact he3
       ·have y2:((((l[i]).toNat:Nat):Int) != 10)=true:=by simpa using fun e=>h10 (by omega)
        repeat (first|((first|(with_reducible (first|refine Qa fun K E hK hE=>?_|refine Qj fun K E hK hE=>?_)));simp -implicitDefEqProofs only [Qc,Qd,OpW,aop,AS.ev,↓reduceIte,aBin,aLen,goInt,u0,u1,hsl,QU,y1,hix2,y2,seval])|(with_reducible (first|refine Qg fun K hK=>?_|refine Qi ?_|refine Qk ?_|refine Qb ?_|refine Qo ?_))|((with_reducible refine hK _ ?_);clear hK)|(refine Qh rfl ?_;simp only [↓reduceIte]))
        refine Xw.mk (m':=l.length - (i+1)) (by omega) ?_
        rw [hI]
        refine ⟨i+1,rfl,hlt2,by omega,.inr ?_,u0,?_,rfl⟩
        ·rcases he2 with rfl|he2
         ·exact he
         ·rw [hd2,Q8,if_neg h10] at he2;exact he2
        ·simp only [upd,↓reduceIte]
         rw [X3 (by omega)]
      ·have hil:i=l.length:=by omega
       have y1:¬ (((i:Nat):Int)<((l.length:Nat):Int)):=by omega
       have hne:i≠j:=by omega
       have he3:=he2.resolve_left hne
       repeat (first|(((with_reducible refine Qa fun K E hK hE=>?_));simp -implicitDefEqProofs only [Qc,Qd,OpW,aop,undef,AS.ev,↓reduceIte,aBin,aLen,goInt,u0,u1,hsl,QU,y1,seval])|(with_reducible (first|refine Qg fun K hK=>?_|refine QE ?_|refine Qb ?_|refine QA ?_|refine Qo ?_|refine QB ?_))|((with_reducible refine hK _ ?_);clear hK)|(refine Qh rfl ?_;simp only [↓reduceIte,Qrt]))
       refine Xw.mk (m':=l.length - i) (by omega) ?_
       rw [hI0]
       refine ⟨i,rfl,hi,?_,u0,u1,rfl⟩
       rw [hil,List.drop_length] at he3 ⊢
       rw [← he3,Q8,Q8]
     ·rw [hI]
      exact ⟨j,rfl,hj,Nat.le_refl _,.inl rfl,t0,t1,rfl⟩
    ·rw [if_neg h35] at he
     have z3:((((l[j]).toNat:Nat):Int)==35)=false:=by simpa using fun e=>h35 (by omega)
     repeat (first|((first|(with_reducible (first|refine Qa fun K E hK hE=>?_|refine QH cp ?_)));simp -implicitDefEqProofs only [Qc,Qd,OpW,QC,aop,AS.ev,↓reduceIte,aBin,aLen,goInt,t0,t1,hsl,QU,z1,hix,z2,z3,seval])|(with_reducible (first|refine Qg fun K hK=>?_|refine Qi ?_|refine Qn ?_|refine Qk ?_|refine Qb ?_|refine Qu ?_|refine Qz ?_))|((with_reducible refine hK _ ?_);clear hK)|(refine Qh rfl ?_;simp only [↓reduceIte,Qrt]))
     simp only [QG,Qp,Qt,upd,↓reduceIte,Qrv,Qrz]
     exact Ql List.take_length (.keep (.v _)) ⟨by rw [← he,List.length_cons,List.length_drop];congr 3;omega,rfl⟩
  ·have hjl:j=l.length:=by omega
   have z1:¬ (((j:Nat):Int)<((l.length:Nat):Int)):=by omega
   rw [hjl,List.drop_length,Q8] at he
   repeat (first|(((with_reducible refine Qa fun K E hK hE=>?_));simp -implicitDefEqProofs only [Qc,Qd,OpW,aop,AS.ev,↓reduceIte,aBin,aLen,goInt,t0,t1,hsl,QU,z1,seval])|(with_reducible (first|refine Qg fun K hK=>?_|refine Qn ?_|refine QE ?_|refine Qb ?_|refine QA ?_|refine QB ?_))|((with_reducible refine hK _ ?_);clear hK)|(clear hK;(with_reducible refine hK _ ?_);clear hK)|(refine Qh rfl ?_;simp only [↓reduceIte,Qrt]))
   simp only [QG,Qp,Qt,upd,↓reduceIte,Qrv,Qrz]
   exact Ql List.take_length (.keep (.v _)) ⟨by rw [← he,hjl];rfl,rfl⟩
 ·rw [hI]
  exact ⟨k,rfl,hk,rfl,rfl,rfl,rfl⟩
end
end Go.Proofs.YticgcpebdldbgaaDoor.Ab
set_option maxRecDepth 4000
namespace Go.Proofs.YticgcpebdldbgaaDoor.Ab
open Go.Proofs
theorem QdV (l:List UInt8) (c:UInt8):numVal (l++[c])=10 * numVal l+(c.toNat - 48):=by simp [numVal,List.foldl_append]
theorem Qk6 (l:List UInt8):∀ m:List UInt8,numVal l≤numVal (l++m):=by
 intro m
 induction m generalizing l with
 |nil=>rw [List.append_nil];exact Nat.le_refl _
 |cons c m ih =>
  have h1:=ih (l++[c])
  rw [List.append_assoc] at h1
  have h2:=QdV l c
  show numVal l≤numVal (l++([c]++m))
  omega
theorem Qd5 {l:List UInt8} {p:Nat} (h:p<l.length):numVal (l.take (p+1))=10 * numVal (l.take p)+((l[p]).toNat - 48)∧numVal (l.take (p+1))≤numVal l:=by
 refine ⟨by rw [List.take_succ_eq_append_getElem h,QdV],?_⟩
 have:=Qk6 (l.take (p+1)) (l.drop (p+1))
 rwa [List.take_append_drop] at this
theorem wrap32 {n:Int} (h : -2147483648≤n∧n≤2147483647):IntKind.i32.wrap n=n:=IntWalk.i32_in n h
theorem QpY (n:Int) (hn:0≤n∧n<256):pv Tryd.prog (convert 21 3 (.int .i32 n))=some (.int .i64 n):=by
 have:pv Tryd.prog (convert 21 3 (.int .i32 n))=some (.int .i64 (IntKind.i64.wrap n)):=by kernel_rfl
 rw [this,Yu (by omega)]
theorem QiM (l:List UInt8) (hd:∀ c∈l,isD c=true) (hv:numVal l≤2147483648):Pure Tryd.prog 38 [.v (.string (mkB l))] (.i (numVal l:Nat)):=by
 intro h
 refine Qe Tryd.func38 rfl Tryd.call38 Tryd.ntmps38 (congrArg Array.toList Tryd.results38) (by simp) ?_
 repeat (first|(((with_reducible refine Qa fun K E hK hE=>?_));simp -implicitDefEqProofs only [Qc,Qd,OpW,aop,undef,AS.ev,Qs,↓reduceIte,un9,seval])|(with_reducible (first|refine Qg fun K hK=>?_|refine Qi ?_))|((with_reducible refine hK _ ?_);clear hK))
 obtain ⟨I,hI⟩:∃ I:Nat→AS→Prop,I=fun m' s=>∃ (p:Nat),m'=l.length - p∧p≤l.length∧s.tm 3 = .i (numVal (l.take p):Nat)∧s.tm 7 = .mp h.length∧s.h=h++[.iter (mkB l) p]:=⟨_,rfl⟩;refine QZ I ?_ (m:=l.length) ?_
 ·intro m' s hs;rw [hI] at hs;obtain ⟨tm,hp⟩:=s;dsimp only at hs;obtain ⟨p,rfl,hp',t3,t7,rfl⟩:=hs
  by_cases hlt:p<l.length
  ·have hc:=hd l[p] (List.getElem_mem hlt)
   have hcd:48≤(l[p]).toNat∧(l[p]).toNat≤57:=by unfold isD at hc;simpa using hc
   have hby:=Qad l p hlt
   obtain ⟨d1,d2⟩:=decode_ascii (s:=mkB l) (i:=p) (by rw [hby];omega)
   rw [hby] at d1
   obtain ⟨n1,n2⟩:=Qd5 hlt
   generalize hn:numVal (l.take p)=v at *
   have w1:IntKind.i64.wrap (10 * ((v:Nat):Int))=((10 * v:Nat):Int):=by rw [Yu (by omega)];omega
   have w2:IntKind.i32.wrap ((((l[p]).toNat:Nat):Int) - 48)=(((l[p]).toNat - 48:Nat):Int):=by rw [wrap32 (by omega)];omega
   have w3:=QpY (((l[p]).toNat - 48:Nat):Int) (by omega)
   have w4:IntKind.i64.wrap (((10 * v:Nat):Int)+(((l[p]).toNat - 48:Nat):Int))=((numVal (l.take (p+1)):Nat):Int):=by rw [Yu (by omega)];omega
   have z1:p<(mkB l).size:=by rw [QU];exact hlt
   repeat (first|((first|(with_reducible (first|refine Qa fun K E hK hE=>?_|refine Qj fun K E hK hE=>?_)));simp -implicitDefEqProofs only [Qc,Qd,OpW,aop,AS.ev,↓reduceIte,aBin,QR,goInt,Zm,t3,t7,z1,d1,d2,w1,w2,w3,w4,seval])|(with_reducible (first|refine Qg fun K hK=>?_|refine Qi ?_|refine Qk ?_|refine Qb ?_|refine Qo ?_))|((with_reducible refine hK _ ?_);clear hK)|(refine Qh rfl ?_;simp only [↓reduceIte]))
   refine Xw.mk (m':=l.length - (p+1)) (by omega) ?_
   rw [hI]
   exact ⟨p+1,rfl,hlt,rfl,t7,rfl⟩
  ·have z1:¬ p<(mkB l).size:=by rw [QU];exact hlt
   have e:l.take p=l:=List.take_of_length_le (by omega)
   rw [e] at t3
   repeat (first|(((with_reducible refine Qa fun K E hK hE=>?_));simp -implicitDefEqProofs only [Qc,Qd,OpW,aop,AS.ev,↓reduceIte,QR,Zm,t3,t7,z1,seval])|(with_reducible (first|refine Qg fun K hK=>?_|refine Qn ?_|refine QE ?_|refine Qb ?_|refine QA ?_|refine QB ?_))|((with_reducible refine hK _ ?_);clear hK)|(clear hK;(with_reducible refine hK _ ?_);clear hK)|(refine Qh rfl ?_;simp only [↓reduceIte,Qrt]))
   simp only [QG,Qp,Qt,upd,↓reduceIte,Qrv,Qrz];first|refine Ql (htake _ _) (.keep (.v _)) ⟨rfl,rfl⟩|refine Ql List.take_length (.keep (.v _)) ⟨rfl,rfl⟩
 ·rw [hI]
  exact ⟨0,rfl,Nat.zero_le _,rfl,rfl,rfl⟩
abbrev lf (k i:Int):AV:=.agg [.v (.int .i64 k),.v (.int .i64 i),.v (.string {data:=#[]}),.v (.slice none 0 0)]
theorem Qb0 (n:Nat) (k i:Int):Below n (lf k i):=.agg _ fun a ha=>by
 simp only [List.mem_cons,List.not_mem_nil,or_false] at ha
 rcases ha with rfl|rfl|rfl|rfl <;> exact .v _
theorem Qi3 (n:Int):Pure Tryd.prog 102 [.i n] (lf 0 n):=by
 intro h
 refine Qe Tryd.func102 rfl Tryd.call102 Tryd.ntmps102 (congrArg Array.toList Tryd.results102) (by simp) ?_
 repeat (first|(((with_reducible refine Qa fun K E hK hE=>?_));simp -implicitDefEqProofs only [Qc,Qd,OpW,aop,undef,AS.ev,Qs,AV.QqF,↓reduceIte,Qy,Qm,Xc,Xq,ti54,zi54,sp54,seval])|(with_reducible refine Qn ?_)|((with_reducible refine hK _ ?_);clear hK))
 simp -implicitDefEqProofs only [Qc,↓reduceIte,ti54,Qw,Qv,QG,Qp,Qt,Qrz,seval]
 exact Ql (htake _ _) (.keep (Qb0 _ _ _)) ⟨rfl,rfl⟩
theorem Qi5 (n:Int):Pure Tryd.prog 106 [.i n] (lf 1 n):=by
 intro h
 refine Qe Tryd.func106 rfl Tryd.call106 Tryd.ntmps106 (congrArg Array.toList Tryd.results106) (by simp) ?_
 repeat (first|(((with_reducible refine Qa fun K E hK hE=>?_));simp -implicitDefEqProofs only [Qc,Qd,OpW,aop,undef,AS.ev,Qs,AV.QqF,↓reduceIte,Qy,Qm,Xc,Xq,ti54,zi54,sp54,seval])|(with_reducible refine Qn ?_)|((with_reducible refine hK _ ?_);clear hK))
 simp -implicitDefEqProofs only [Qc,↓reduceIte,ti54,Qw,Qv,QG,Qp,Qt,Qrz,seval]
 exact Ql (htake _ _) (.keep (Qb0 _ _ _)) ⟨rfl,rfl⟩
end Go.Proofs.YticgcpebdldbgaaDoor.Ab
set_option maxRecDepth 4000
namespace Go.Proofs.YticgcpebdldbgaaDoor.Ab
open Go.Proofs
def phx (h:AH) (P:Pz) (a b c:AB):AH:=((h.set P.i a).set P.j b).set P.g c
section
variable {h:AH} {P:Pz} (H:P.ok h)
include H
theorem QaU (a b c:AB):(phx h P a b c).length=h.length:=by have _u:=H;simp [phx]
theorem Qqy (a b c:AB) (L:AH):(phx h P a b c++L)[P.i]? = some a:=by
 rw [List.getElem?_append_left (by rw [QaU H];exact H.i)]
 unfold phx
 rw [List.getElem?_set_ne (Ne.symm H.ig),List.getElem?_set_ne (Ne.symm H.ij),List.getElem?_set_self H.i]
theorem Qqg (a b c:AB) (L:AH):(phx h P a b c++L)[P.j]? = some b:=by
 rw [List.getElem?_append_left (by rw [QaU H];exact H.j)]
 unfold phx
 rw [List.getElem?_set_ne (Ne.symm H.jg),List.getElem?_set_self (by simpa using H.j)]
theorem Qqz (a b c:AB) (L:AH):(phx h P a b c++L)[P.g]? = some c:=by
 rw [List.getElem?_append_left (by rw [QaU H];exact H.g)]
 unfold phx
 rw [List.getElem?_set_self (by simpa using H.g)]
theorem Qp4 (a b c a':AB) (L:AH):(phx h P a b c++L).set P.i a'=phx h P a' b c++L:=by
 rw [List.set_append_left _ _ (by rw [QaU H];exact H.i)]
 unfold phx
 rw [List.set_comm _ _ (Ne.symm H.ig),List.set_comm _ _ (Ne.symm H.ij),List.set_set]
theorem Qpm (a b c b':AB) (L:AH):(phx h P a b c++L).set P.j b'=phx h P a b' c++L:=by
 rw [List.set_append_left _ _ (by rw [QaU H];exact H.j)]
 unfold phx
 rw [List.set_comm _ _ (Ne.symm H.jg),List.set_set]
theorem QpU (a b c c':AB) (L:AH):(phx h P a b c++L).set P.g c'=phx h P a b c'++L:=by
 rw [List.set_append_left _ _ (by rw [QaU H];exact H.g)]
 unfold phx
 rw [List.set_set]
theorem Qm7 (a b c:AB) (L:AH):(phx h P a b c++L)[h.length]? = L[0]? := by rw [← QaU H a b c];exact ZZ _ _
theorem QlF (a b c y:AB) (L:AH):(phx h P a b c++L).set h.length y=phx h P a b c++L.set 0 y:=by rw [← QaU H a b c];exact QbX _ _ _
end
theorem QhR (h:AH) (P:Pz) (s:PS):ph h P s=phx h P (.cells 66 4 [.agg [.sl 3 (tks P.all) none,.i ((P.all.length - s.toks.length:Nat):Int),.sl 1 (strs s.names) (some P.g),.mp P.j]]) (.map (smap (kn s.names))) (.grow 9 1 s.names.length):=rfl
theorem Qky {names:List ByteArray} {x:ByteArray} (h:¬ (nameAt names x<names.length∧x.toList≠[95])):kn (names++[x])=supd x (.i (names.length:Nat)) (kn names):=by
 rw [QkP]
 unfold Qfb
 rw [if_neg]
 rintro ⟨h1,h2⟩
 simp only at h1 h2
 rw [Qjh x h1 _ names rfl] at h2
 by_cases h3:nameAt names x<names.length
 ·exact h ⟨h3,h1⟩
 ·rw [if_neg h3] at h2;cases h2
theorem QoP (n:Nat) (x:ByteArray) (s:PS):(pVari x s).1.lv n=lf 1 (pVari x s).1.int∧(pVari x s).1.args=[]:=by unfold pVari;split <;> exact ⟨rfl,rfl⟩
section
variable {P:Pz} {s:PS} (hW:Wst P.all s) {h:AH} (H:P.ok h) (hN:P.all.length≤1000000)
include hW H hN
theorem Qgp (x:ByteArray):QI Tryd.prog 103 [.ptr P.i 0 0,.v (.string x)] (ph h P s) fun o h'=>o = .ret (lf 1 (pVari x s).1.int)∧h'=ph h P (pVari x s).2:=by
 have f1:=QaU H
 have f2:=Qqy H
 have f3:=Qqg H
 have f4:=Qqz H
 have f5:=Qp4 H
 have f6:=Qpm H
 have f7:=QpU H
 have f8:=Qm7 H
 have f9:=QlF H
 have hfind:=QgY x (kn s.names)
 have hn:=hW.nms
 have hupd:=QjB x
 by_cases hc:nameAt s.names x<s.names.length∧x.toList≠[95]
 ·rw [Qjh x hc.2 _ s.names rfl,if_pos hc.1] at hfind
  have z1:(x.toList==({data:=#[95]}:ByteArray).toList)=false:=by
   rw [Lib.toList_data {data:=#[95]}];simpa using hc.2
  have cv:=Qi5 (nameAt s.names x:Nat)
  have hv:pVari x s=(.mk 1 (nameAt s.names x:Nat) eB [],s):=by unfold pVari;rw [if_pos hc]
  rw [hv]
  refine Qe Tryd.func103 rfl Tryd.call103 Tryd.ntmps103 (congrArg Array.toList Tryd.results103) (by simp) ?_
  rw [QhR]
  repeat (first|((first|(with_reducible (first|refine Qa fun K E hK hE=>?_|refine QH cv ?_)));simp -implicitDefEqProofs only [Qc,Qd,OpW,QC,aop,undef,AS.ev,Qs,AV.QqF,↓reduceIte,Qf,Qw,Qv,Qy,Qm,aBin,QR,ZB,ti54,zi54,ti64,mi64,YT,Qq,f1,f2,f3,f8,f9,hfind,z1,seval])|(with_reducible (first|refine Qg fun K hK=>?_|refine Qn ?_|refine Qk ?_|refine Qb ?_))|((with_reducible refine hK _ ?_);clear hK)|(refine Qh rfl ?_;simp only [↓reduceIte,Qrt]))
  simp -implicitDefEqProofs only [Qc,↓reduceIte,Qw,Qv,ti54,Qw,Qv,f8,QG,Qp,Qt,Qrz,seval]
  exact Xf H (s:=s) (s':=s) (.keep (Qb0 _ _ _)) ⟨rfl,rfl⟩
 ·have hv:pVari x s=(.mk 1 (s.names.length:Nat) eB [],⟨s.toks,s.names++[x]⟩):=by unfold pVari;rw [if_neg hc]
  have hkn:=Qky hc
  have cv:=Qi5 (s.names.length:Nat)
  have hm:(s.names.length+1) * 16≤140737488355328:=by omega
  have hm2:s.names.length+1≤maxLen:=by simp only [maxLen];omega
  rw [hv]
  cases hg:sget x (kn s.names) with
  |none =>
   rw [hg] at hfind
   refine Qe Tryd.func103 rfl Tryd.call103 Tryd.ntmps103 (congrArg Array.toList Tryd.results103) (by simp) ?_
   rw [QhR]
   repeat (first|((first|(with_reducible (first|refine Qa fun K E hK hE=>?_|refine Qj fun K E hK hE=>?_|refine QH cv ?_)));simp -implicitDefEqProofs only [Qc,Qd,OpW,QC,aop,undef,AS.ev,Qs,AV.QqF,↓reduceIte,Qf,Qw,Qv,Qy,Qm,QR,QD,aLen,Xy,Yd,ZB,YZ,goInt,zi3,zi9,ti46,ei46,ai46,un46,ti54,zi54,ti64,mi64,YP,YT,Qq,f1,f2,f3,f4,f5,f6,f7,f8,f9,hfind,YU,hm,hm2,hupd,seval])|(with_reducible (first|refine Qg fun K hK=>?_|refine Qn ?_|refine Qb ?_))|((with_reducible refine hK _ ?_);clear hK)|(refine Qh rfl ?_;simp only [↓reduceIte]))
   simp -implicitDefEqProofs only [Qc,↓reduceIte,Qw,Qv,ti54,Qw,Qv,f8,QG,Qp,Qt,Qrz,seval]
   have es:ph h P ⟨s.toks,s.names++[x]⟩=phx h P (.cells 66 4 [.agg [.sl 3 (tks P.all) none,.i ((P.all.length - s.toks.length:Nat):Int),.sl 1 (strs s.names++[.v (.string x)]) (some P.g),.mp P.j]]) (.map (smap (supd x (.i (s.names.length:Nat)) (kn s.names)))) (.grow 9 1 (s.names.length+1)):=by
    rw [QhR,hkn,QbS,List.length_append];rfl
   rw [← es]
   exact Xf H (s:=s) (s':=⟨s.toks,s.names++[x]⟩) (.keep (Qb0 _ _ _)) ⟨rfl,rfl⟩
  |some v =>
   have hx:x.toList=[95]:=by
    by_cases e:x.toList=[95]
    ·exact e
    ·rw [Qjh x e _ s.names rfl] at hg
     by_cases h3:nameAt s.names x<s.names.length
     ·exact absurd ⟨h3,e⟩ hc
     ·rw [if_neg h3] at hg;cases hg
   have z1:(x.toList==({data:=#[95]}:ByteArray).toList)=true:=by
    rw [Lib.toList_data {data:=#[95]}];simpa using hx
   rw [hg] at hfind
   refine Qe Tryd.func103 rfl Tryd.call103 Tryd.ntmps103 (congrArg Array.toList Tryd.results103) (by simp) ?_
   rw [QhR]
   repeat (first|((first|(with_reducible (first|refine Qa fun K E hK hE=>?_|refine Qj fun K E hK hE=>?_|refine QH cv ?_)));simp -implicitDefEqProofs only [Qc,Qd,OpW,QC,aop,undef,AS.ev,Qs,AV.QqF,↓reduceIte,Qf,Qw,Qv,Qy,Qm,aBin,QR,QD,aLen,Xy,Yd,ZB,YZ,goInt,zi9,ti46,ei46,ai46,un46,ti54,zi54,ti64,mi64,YP,YT,Qq,f1,f2,f3,f4,f5,f6,f7,f8,f9,hfind,z1,YU,hm,hm2,hupd,seval])|(with_reducible (first|refine Qg fun K hK=>?_|refine Qn ?_|refine Qb ?_))|((with_reducible refine hK _ ?_);clear hK)|(refine Qh rfl ?_;simp only [↓reduceIte]))
   simp -implicitDefEqProofs only [Qc,↓reduceIte,Qw,Qv,ti54,Qw,Qv,f8,QG,Qp,Qt,Qrz,seval]
   have es:ph h P ⟨s.toks,s.names++[x]⟩=phx h P (.cells 66 4 [.agg [.sl 3 (tks P.all) none,.i ((P.all.length - s.toks.length:Nat):Int),.sl 1 (strs s.names++[.v (.string x)]) (some P.g),.mp P.j]]) (.map (smap (supd x (.i (s.names.length:Nat)) (kn s.names)))) (.grow 9 1 (s.names.length+1)):=by
    rw [QhR,hkn,QbS,List.length_append];rfl
   rw [← es]
   exact Xf H (s:=s) (s':=⟨s.toks,s.names++[x]⟩) (.keep (Qb0 _ _ _)) ⟨rfl,rfl⟩
end
end Go.Proofs.YticgcpebdldbgaaDoor.Ab
set_option maxRecDepth 4000
namespace Go.Proofs.YticgcpebdldbgaaDoor.Ab
open Go.Proofs
theorem FunW.meth {P:Program} {f:FuncId} {x:AV} {h:AH} {Q:AOut→AH→Prop} (H:QI P f [x] h Q):FunW P (.fn (.func f) [x] []) [] h Q:=FunW.fn H
def TQ (h:AH) (P:Pz):PR T→AOut→AH→Prop
 | .ok t s,o,h'=>o = .ret (t.lv h.length)∧h'=ph h P s++t.lay 54 h.length
 | .err p e,o,h'=>o = .panic (Fl p e)∧∃ s,h'=ph h P s
def CQ (g:Nat) (h:AH) (P:Pz):PR T→AOut→AH→Prop
 | .ok t s,o,h'=>o = .ret (t.lv (h.length+g))∧∃ N,h'=ph h P s++N∧At N g (t.lay 54 (h.length+g))
 | .err p e,o,h'=>o = .panic (Fl p e)∧∃ s,h'=ph h P s
def TRd (P:Pz) (f:FuncId) (g:PS→PR T) (N:Nat):Prop:=∀ s:PS,s.toks.length<N→Wst P.all s→∀ h:AH,P.ok h→QI Tryd.prog f [.ptr P.i 0 0] (ph h P s) (TQ h P (g s))
theorem Qdp {P:Pz} {f:FuncId} {args:List AV} {h:AH} {s:PS} (H:P.ok h) (g:Nat) {r:PR T} (C:QI Tryd.prog f args (ph h P s) (CQ g h P r)):QI Tryd.prog f args (ph h P s) (TQ h P r):=by
 refine Qar C fun hb0 o h' hQ=>?_
 cases r with
 |err p e=>exact .inl hQ
 |ok t s2 =>
  obtain ⟨rfl,N,rfl,hN⟩:=hQ
  rw [QN] at hb0 ⊢
  have hb:∀ b∈ph h P s2,b.Below h.length:=fun b hb=>by
   obtain ⟨k,hk⟩:=Ze hb
   rcases Qbs H (s0:=s) hk with h1|h1
   ·exact hb0 k b h1
   ·exact h1
  obtain ⟨K,hk⟩:=Qqm (QN h P s2) hb g t hN
  exact .inr ⟨_,_,_,_,rfl,K,hk,rfl,rfl⟩
section
variable {P:Pz} {f:FuncId} {g:PS→PR T} {N:Nat} (HR:TRd P f g N) {s:PS} (hs:s.toks.length<N) (hW:Wst P.all s) {h:AH} (H:P.ok h)
include HR hs hW H
theorem TRd.ok {t:T} {s2:PS} (e:g s = .ok t s2) (L:AH) {k:Nat} (hk:k=h.length+L.length):QI Tryd.prog f [.ptr P.i 0 0] (ph h P s++L) fun o h'=>o = .ret (t.lv k)∧h'=ph h P s2++(L++t.lay 54 k):=by
 have:=HR s hs hW (h++L) (H.app L)
 rw [QX H,e] at this
 subst hk
 exact this.mono fun o h' q=>by simpa only [TQ,QX H,Qsg,List.append_assoc] using q
theorem TRd.err {p c:Int} (e:g s = .err p c) (L:AH):QI Tryd.prog f [.ptr P.i 0 0] (ph h P s++L) fun o h'=>o = .panic (Fl p c)∧∃ s2:PS,h'=ph h P s2++L:=by
 have:=HR s hs hW (h++L) (H.app L)
 rw [QX H,e] at this
 exact this.mono fun o h' q=>by simpa only [TQ,QX H] using q
end
theorem QpL {s:PS} {b:ByteArray} (h:s.is b.toList=true):s.tk.text=b:=by
 simp only [PS.is,Bool.and_eq_true,beq_iff_eq] at h
 exact toList_inj h.2
theorem QT {h:AH} {P:Pz} (H:P.ok h) (s s2:PS) (p e:Int) (L:AH) {Q:AOut→AH→Prop} (hq:Q (.panic (Fl p e)) (ph h P s2)):Leaves (ph h P s) (ph h P s2++L) (Fl p e) fun v h'=>Q (.panic v) h' :=
 Xf H (s:=s) (s':=s2) (.keep (Qbr _ _ _)) hq
end Go.Proofs.YticgcpebdldbgaaDoor.Ab
namespace Go.Proofs.YticgcpebdldbgaaDoor.Ab
theorem Qn4 {S:Nat→Bool}:∀ {l:List Tr} {f:AH},(∀ t∈l,t.c<2)→hS S l f=f
 |l,f,H=>YA fun t ht h2=>by have:=H t ht;omega
theorem Qlp {P:Program} {N:Nat} {base:Bs×Fence} {ops:Array Oper} {F:Fence} {n:Nat} (hF:WF F) {Qx:Exit→Act→World→Prop} {x:Nat} {ox:Oper} {f:Operand} {asx:Array Operand} {tys:Array TypeId} (hox:ops[x]? = some ox)
  (hop:ox.op = .call ⟨.value f,asx,tys⟩) {tr:List Tr} {tm0:Nat→AV} {h0:AH} (hruns:Runs P N ops tr tm0 h0) (hlow:∀ t∈tr,t.c<2) (hxt:∀ t∈tr,t.i≠x)
  (hpw:tr.Pairwise (fun a b=>clash ops a.o b.o a.c b.c=true→Anc ops a.i b.i)) (hnd:(tr.map (·.i)).Nodup) (hkind:∀ t∈tr,kindOk t.o t.c=true)
  (hrd:∀ t∈tr,∀ d,t.o.dst=some d→d∈readsOf ops ox→Anc ops t.i x) (hall:∀ i,i<ops.size→(∃ t∈tr,t.i=i)∨i=x∨Anc ops x i) (htopo:topo ops [] (tr.map (fun t=>(t.i,t.c))++[(x,1)])=true)
  (haw:Qd ops (tmS N (fun _=>true) tr tm0) ox=some true) {G:AV→AH→Prop} (H:FunW P (AS.ev ⟨tmS N (fun _=>true) tr tm0,[]⟩ f) (asx.toList.map (AS.ev ⟨tmS N (fun _=>true) tr tm0,[]⟩)) h0 (fun o h'=>∃ v,o = .panic v∧G v h')) :
  ∀ (fuel:Nat) (listed:Array Bool) (c:Cx) (a:Act),listed.size=ops.size→Down ops (fun i=>listed.getD i false)→listed.getD x false=false→St c→SR N base c ⟨tmS N (fun i=>listed.getD i false) tr tm0,h0⟩ a →
   tr.countP (fun t=>!listed.getD t.i false)<fuel →
   (∀ tm' v h' c' a' u,G v h'→Ev c c'→St c'→SR N base c' ⟨tm',h'⟩ a'→Rel c' v u→Qx (.panic [{v:=u,recovered:=false}]) a' c'.w)→wpAnyIn F n P .any ops Qx fuel listed a c.w:=by
 intro fuel
 induction fuel with
 |zero=>intro listed c a hsz hd hx hst hr hc hQ;omega
 |succ fuel ih =>
  intro listed c a hsz hd hx hst hr hc hQ
  refine ⟨fun h=>?_,fun i hi=>?_⟩
  ·exfalso
   have:=ZD hsz h _ [] htopo (fun i hi=>by cases hi) (x,1) (List.mem_append_right _ (by simp))
   simp only at this
   rw [hx] at this;cases this
  have hi':=hi
  obtain ⟨h1,o,ho,_⟩:=mem_ready.1 hi'
  have hlt:i<ops.size:=(Array.getElem?_eq_some_iff.1 ho).1
  have hd':=ZL hsz hd hi
  by_cases hix:i=x
  ·subst hix
   rw [hox] at ho;cases ho
   -- what it reads is there
   have hreads:∀ y∈readsOf ops ox,tmS N (fun i=>listed.getD i false) tr tm0 y=tmS N (fun _=>true) tr tm0 y:=fun y hy=>ZC rfl fun t ht hd=>by
    have ha:=hrd t ht y hd hy
    have h2:(listed.setIfInBounds i true).getD t.i false=true:=hd'.anc ha (by rw [Ym (by omega)];simp)
    rw [Ym (by omega)] at h2
    by_cases hti:t.i=i
    ·exact absurd hti (hxt t ht)
    ·simpa [hti] using h2
   unfold wpOpIn
   simp only [hox]
   rw [Xb hr (by rw [Qb6 (tm:=tmS N (fun i=>listed.getD i false) tr tm0) (tm':=tmS N (fun _=>true) tr tm0) hreads];exact haw)]
   simp only [if_true]
   have hargs:∀ y∈ox.op.operands,AS.ev ⟨tmS N (fun i=>listed.getD i false) tr tm0,[]⟩ y=AS.ev ⟨tmS N (fun _=>true) tr tm0,[]⟩ y:=Qcu hreads
   refine Qa2 (K:=fun _=>False) (E:=fun r s'=>G r s'.h) ?_ hF hst hr (fun s' c' a' hs=>hs.elim) ?_
   ·unfold OpW
    simp only [hop]
    have hev:=hargs
    rw [hop] at hev
    have h1':AS.ev ⟨tmS N (fun i=>listed.getD i false) tr tm0,h0⟩ f=AS.ev ⟨tmS N (fun _=>true) tr tm0,[]⟩ f:=(QaY _ _ _ _).trans (hev f (by simp [Op.operands,Call.operands]))
    have h2':asx.toList.map (AS.ev ⟨tmS N (fun i=>listed.getD i false) tr tm0,h0⟩)=asx.toList.map (AS.ev ⟨tmS N (fun _=>true) tr tm0,[]⟩):=List.map_congr_left fun y hy=>(QaY _ _ _ _).trans (hev y (by simp [Op.operands,Call.operands,Array.mem_def,hy]))
    rw [h1',h2']
    refine H.mono ?_
    rintro o h' ⟨v,rfl,g⟩
    exact g
   ·intro r s' c' u hE hev hst' hr' hru
    obtain ⟨tm',h'⟩:=s'
    exact hQ tm' r h' c' a u hE hev hst' hr' hru
  ·have hx':(listed.setIfInBounds i true).getD x false=false:=by rw [Ym (by omega),hx];simp;exact fun e=>hix e.symm
   rcases hall i hlt with ⟨t,ht,hti⟩|h|h
   ·have e0:∀ S,hS S tr h0=h0:=fun S=>Qn4 hlow
    refine YX hF hruns hpw hnd hkind hi ht hti hsz (fun i j h hj=>hd.anc h hj) (fun i j h hj=>hd'.anc h hj) hst (by rw [e0];exact hr) fun c' a' hev hst' hr'=>?_
    rw [e0] at hr'
    refine ih _ c' a' (by simpa using hsz) hd' hx' hst' hr' ?_ fun tm' v h' c2 a2 u g e2 s2 r2 ru=>hQ tm' v h' c2 a2 u g (Ev.trans hst hev e2) s2 r2 ru
    have:=Xm (fuel:=tr.countP (fun t=>!listed.getD t.i false) - 1) hsz ⟨t,ht,hti⟩ hi (by omega)
    have hpos:0<tr.countP (fun t=>!listed.getD t.i false):=by
     rw [List.countP_pos_iff]
     refine ⟨t,ht,?_⟩
     rw [Array.getD_eq_getD_getElem?,Array.getElem?_eq_getElem (by omega)] at h1 ⊢
     subst hti
     simpa using h1
    omega
   ·exact absurd h hix
   ·exfalso
    have h2:(listed.setIfInBounds i true).getD x false=true:=hd'.anc h (by rw [Ym (by omega)];simp)
    rw [hx'] at h2;cases h2
def QpC (ops:Array Oper) (x:Nat) (ρ:List (Nat×Nat)):Bool :=
 decide (ρ.length<ops.size)&&Qeg ops (masks ops.toList []) ρ&&topo ops [] (ρ++[(x,1)])&&QhQ (ρ.map (·.1))&&(ρ.all fun p=>decide (p.2<2)&&!(p.1==x)&&(match ops[p.1]? with|some o=>kindOk o p.2&&(match ops[x]?,o.dst with|some ox,some d=>!(readsOf ops ox).contains d||((masks ops.toList []).getD x 0).testBit p.1|_,_=>true)|none=>false)) &&
 ((List.range ops.size).all fun i=>(ρ.map (·.1)).contains i||i==x||((masks ops.toList []).getD i 0).testBit x)
def callOf (o:Oper):Option (Operand×List Operand):=match o.op with
 | .call ⟨.value f,asx,_⟩=>some (f,asx.toList)
 |_=>none
theorem Q6 {P:Program} {N:Nat} {Q:AExit→AS→Prop} {s:AS} {id:Nat} {ops:Array Oper} (x:Nat) (ρ:List (Nat×Nat)) (hm:P.follows .mixedOrders=true) {ox:Oper} {f:Operand} {asx:List Operand} (hox:ops[x]? = some ox) (hcl:callOf ox=some (f,asx)) (hgd:ox.guard=none)
  (hok:QpC ops x ρ=true) (G:AV→AH→Prop) (hG:∀ tm v h',G v h'→Q (.panic v) ⟨tm,h'⟩)
  (H:AnyW P N ops ρ (fun s'=>s'.h=s.h→FunW P (s'.ev f) (asx.map s'.ev) s'.h (fun o h'=>∃ v,o = .panic v∧G v h')) s):XE P N (.region id ops true) Q s:=by
 intro F n base c a hF hst hr R hR
 refine wpIn_region_any hm ?_
 obtain ⟨tm,hp⟩:=s
 simp only [QpC,Bool.and_eq_true] at hok
 obtain ⟨⟨⟨⟨⟨hp0,hp1⟩,hp2⟩,hp3⟩,hp4⟩,hp5⟩:=hok
 rw [List.all_eq_true] at hp4
 have hk:(ρ.all fun p=>match ops[p.1]? with|some o=>kindOk o p.2|none=>false)=true:=by
  rw [List.all_eq_true]
  intro p hp
  have:=hp4 p hp
  simp only [Bool.and_eq_true] at this
  revert this
  cases ops[p.1]? with
  |none=>simp
  |some o=>simp only [Bool.and_eq_true];exact fun h=>h.2.1
 obtain ⟨tr,rfl,hruns,hK⟩:=Ys H hk
 have hev:Ev c (c.to {c.w with drawn:=c.w.drawn+1}):=Ev.idle hst (Ev.refl c) rfl rfl rfl rfl fun k=>.inl rfl
 have hst':St (c.to {c.w with drawn:=c.w.drawn+1}):=hst.idle rfl fun k o hk=>.inl hk
 have hr':SR N (base,F) (c.to {c.w with drawn:=c.w.drawn+1}) ⟨tm,hp⟩ a:=⟨hr.h,hr.size,Nat.le_trans hr.above hev.size,hr.defers.ev hev,RoundOk.ev hev hr.round,fun t=>(hr.tm t).ev hst hev⟩
 have hops:=Qai hruns
 have hnone:∀ j,(Array.replicate ops.size false).getD j false=false:=fun j=>by
  rw [Array.getD_eq_getD_getElem?,Array.getElem?_replicate]
  split <;> rfl
 have hmk:∀ (k i:Nat),((masks ops.toList []).getD k 0).testBit i=true→Anc ops i k:=Y5 ops.toList [] (fun j o h=>by simpa using h) (fun k i h=>by simp at h)
 have hlow:∀ t∈tr,t.c<2:=fun t ht=>by
  have:=hp4 (t.i,t.c) (List.mem_map.2 ⟨t,ht,rfl⟩)
  simp only [Bool.and_eq_true,decide_eq_true_eq] at this
  exact this.1.1
 have hxt:∀ t∈tr,t.i≠x:=fun t ht=>by
  have:=hp4 (t.i,t.c) (List.mem_map.2 ⟨t,ht,rfl⟩)
  simp only [Bool.and_eq_true,Bool.not_eq_true',beq_eq_false_iff_ne] at this
  exact this.1.2
 have hS0:hS (fun _=>true) tr hp=hp:=Qn4 hlow
 rw [hS0] at hK
 obtain ⟨as',tys,hop,rfl⟩:∃ (as':Array Operand) (tys:Array TypeId),ox.op = .call ⟨.value f,as',tys⟩∧asx=as'.toList:=by
  unfold callOf at hcl
  split at hcl
  ·rename_i f' as' tys e
   simp only [Qrv,Prod.mk.injEq] at hcl
   obtain ⟨rfl,rfl⟩:=hcl
   exact ⟨_,_,e,rfl⟩
  ·cases hcl
 have hF0:=hK rfl
 refine Qlp (base:=(base,F)) hF hox hop hruns hlow hxt (QcU hmk tr hp1 hops) ?_ ?_ ?_ ?_ hp2 ?_ (G:=G) ?_ _ _ (c.to {c.w with drawn:=c.w.drawn+1}) a (by simp) ?_ (hnone _) hst' ?_ ?_ ?_
 ·have:=Z4 hp3
  rw [List.map_map] at this
  exact this
 ·intro t ht
  have:=List.all_eq_true.1 hk (t.i,t.c) (List.mem_map.2 ⟨t,ht,rfl⟩)
  simpa [hops t ht] using this
 ·intro t ht d hd hr
  have:=hp4 (t.i,t.c) (List.mem_map.2 ⟨t,ht,rfl⟩)
  simp only [hops t ht,hox,hd,Bool.and_eq_true,Bool.or_eq_true,Bool.not_eq_true'] at this
  rcases this.2.2 with h|h
  ·rw [List.contains_eq_mem,decide_eq_false_iff_not] at h
   exact absurd hr h
  ·exact hmk _ _ h
 ·intro i hi
  have:=List.all_eq_true.1 hp5 i (List.mem_range.2 hi)
  simp only [Bool.or_eq_true,beq_iff_eq] at this
  rcases this with (h|h)|h
  ·have h:i∈(tr.map fun t=>(t.i,t.c)).map (·.1):=by simpa using h
   rw [List.map_map] at h
   obtain ⟨t,ht,rfl⟩:=List.mem_map.1 h
   exact .inl ⟨t,ht,rfl⟩
  ·exact .inr (.inl h)
  ·exact .inr (.inr (hmk _ _ h))
 ·simp only [Qd,hgd]
 ·rw [QaY _ hp [] f] at hF0
  have e2:as'.toList.map (AS.ev ⟨tmS N (fun _=>true) tr tm,hp⟩)=as'.toList.map (AS.ev ⟨tmS N (fun _=>true) tr tm,[]⟩):=List.map_congr_left fun y _=>QaY _ _ _ _
  rw [e2] at hF0
  exact hF0
 ·intro j o ho hj
  simp only at hj
  rw [hnone] at hj;cases hj
 ·have e1:tmS N (fun i=>(Array.replicate ops.size false).getD i false) tr tm=tm:=funext fun x=>XP fun t _ h=>by rw [hnone] at h;cases h
  rw [e1];exact hr'
 ·refine Nat.lt_of_le_of_lt List.countP_le_length ?_
  have:=of_decide_eq_true hp0
  simp only [List.length_map] at this;omega
 ·intro tm' v h' c' a' u hg h1 h2 h3 hu
  exact hR _ _ c' a' _ (hG tm' v h' hg) (Ev.trans hst hev h1) h2 h3 ⟨u,rfl,hu⟩
end Go.Proofs.YticgcpebdldbgaaDoor.Ab

