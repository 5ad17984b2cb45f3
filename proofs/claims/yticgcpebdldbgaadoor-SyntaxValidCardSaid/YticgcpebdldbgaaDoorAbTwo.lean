/-
  An abstract program logic, contracts of functions, and laws of terms and rules (part 2).
-/
import Derived.Test.YticgcpebdldbgaaDoorAbOne
import Derived.DefersIn
import Derived.RangeFuncLeaves
import Derived.RangeFuncStops
import Derived.IntWalk
import Derived.Test.YticgcpebdldbgaaDoorProg
import Derived.KernelRfl
import Derived.RangeFuncNested
import Derived.Laws.Externs
import Derived.Below
import Derived.Lib.Strings
import Derived.Shelf.Strings.Search1
import Derived.Shelf.Strings.Search2
import Derived.Shelf.Strings.Search3
import Derived.Shelf.LaysM
import Derived.Shelf.Strings.Shaped
set_option linter.unusedVariables false
set_option linter.unusedSimpArgs false
set_option maxHeartbeats 4000000
namespace Go.Proofs.YticgcpebdldbgaaDoor.Ab
def Qd (ops:Array Oper) (tm:Nat→AV) (o:Oper):Option Bool :=
 match o.guard with
 |none=>some true
 |some (j,want)=>match (ops[j]?).bind (·.dst) with
  |some d=>match tm d with
   | .v (.bool b)=>some (b==want)
   | .v _=>some false
   |_=>none
  |none=>some false
theorem Xd {N:Nat} {base:Bs×Fence} {c:Cx} {s:AS} {a:Act} (hr:SR N base c s a) {ops:Array Oper} {o:Oper} {b:Bool} (h:Qd ops s.tm o=some b):Region.wanted o (yielded ops a.tmps)=b:=by
 unfold Qd at h
 unfold Region.wanted yielded
 cases hg:o.guard with
 |none=>simp only [hg] at h;cases h;rfl
 |some jw =>
  obtain ⟨j,want⟩:=jw
  simp only [hg] at h ⊢
  cases hd:(ops[j]?).bind (·.dst) with
  |none=>simp only [hd] at h;cases h;rfl
  |some d =>
   simp only [hd,Qq4] at h ⊢
   have h1:=hr.tm d
   rw [Array.getD_eq_getD_getElem?] at h1
   cases ht:s.tm d with
   |v x =>
    rw [ht] at h1
    simp only [ht] at h
    cases hx:a.tmps[d]? with
    |none =>
     rw [hx] at h1
     simp only [Option.getD_none] at h1
     have hxu:x=undef:=by generalize hu:undef=u at h1;cases h1;rfl
     subst hxu
     simp only [undef] at h
     cases h
     rfl
    |some y =>
     rw [hx] at h1
     simp only [Option.getD_some] at h1
     have hxu:x=y:=by cases h1;rfl
     subst hxu
     cases x <;> simp only [Qq5] at h <;> subst h <;> rfl
   |_=>simp only [ht] at h;cases h
def QE (K:AS→Prop) (E:AV→AS→Prop) (N:Nat) (s:AS) (d:Option Tmp):AOut→AH→Prop
 | .ret r,h'=>K (AS.put N {s with h:=h'} d r)
 | .panic r,h'=>E r {s with h:=h'}
def XL (P:Program) (ev:Operand→AV):Op→Bool
 | .binOp op t x y _=>(match op with | .eql | .neq=>true|_=>false)&&(match ev x,ev y with | .sl _ [] _,.v (.slice none 0 0)=>true|_,_=>false)&&(match P.underlying t with|some (.slice _)=>true|_=>false)
 |_=>false
def RowW (N e n:Nat) (s:AS) (d:Option Tmp) (K:AS→Prop):Prop :=
 K (AS.put N {s with h:=s.h++[.grow e n 0]} d (.sl n [] (some s.h.length)))∨K (AS.put N {s with h:=s.h++[.dead]} d (.sl n [] (some s.h.length)))
def OpW (P:Program) (N:Nat) (o:Oper) (s:AS) (K:AS→Prop) (E:AV→AS→Prop):Prop :=
 match o.op with
 | .buildSlice t 0 ps =>
  match Xa P t,ps.toList with
  |some (e,n),[]=>QH P t 0 [] s.h=some (.sl n [] (some s.h.length),s.h++[.grow e n 0])∧RowW N e n s o.dst K
  |_,_=>False
 | .call q =>
  match q.callee with
  | .value f=>FunW P (s.ev f) (q.args.toList.map s.ev) s.h (QE K E N s o.dst)
  |_=>match aop P s.ev o.type s.h o.op with
   |some (r,h')=>K (AS.put N {s with h:=h'} o.dst r)
   |none=>match aopR P s.ev s.h o.op with
    |some (r,h')=>K (AS.put N {s with h:=h'} o.dst r)
    |none=>False
 | .panic x=>match s.ev x with
  | .ifc t y=>E (.ifc t y) s
  |_=>False
 |op=>match aop P s.ev o.type s.h op with
  |some (r,h')=>K (AS.put N {s with h:=h'} o.dst r)
  |none=>XL P s.ev op=true∧∀ b,K (AS.put N s o.dst (.v (.bool b)))
theorem Qhk {P:Program} {c:Cx} {ev:Operand→AV} {ρ:Operand→Value} (hev:∀ x,Rel c (ev x) (ρ x)) {o:Oper} (h:XL P ev o.op=true):∃ b,(execOp ρ o).run P c.w = .ok (.value (.bool b)) c.w:=by
 cases ho:o.op with
 |binOp op t x y yt =>
  rw [ho] at h
  simp only [XL,Bool.and_eq_true] at h
  obtain ⟨⟨h1,h2⟩,h3⟩:=h
  split at h2
  ·rename_i s own e1 e2
   have hx:=hev x
   have hy:=hev y
   rw [e1] at hx
   rw [e2] at hy
   generalize hux:ρ x=u at hx
   generalize huy:ρ y=v at hy
   cases hy
   split at h3
   ·rename_i e hu
    have heq:∃ b,(Op.equal t u (.slice none 0 0)).run P c.w = .ok b c.w:=by
     suffices h:∀ d,∃ b,(Op.equalIn (d+1) t u (.slice none 0 0)).run P c.w = .ok b c.w from h 9999
     intro d
     cases hx with
     |slnil=>exact ⟨true,by simp [Op.equalIn,underlying,hu]⟩
     |slzero=>exact ⟨false,by simp [Op.equalIn,underlying,hu]⟩
     |sl=>exact ⟨false,by simp [Op.equalIn,underlying,hu]⟩
    obtain ⟨b,hb⟩:=heq
    have hsl:∃ a n k,u = .slice a n k:=by cases hx <;> exact ⟨_,_,_,rfl⟩
    obtain ⟨a,n,k,rfl⟩:=hsl
    cases op <;> simp only [Qq3] at h1
    ·exact ⟨b,by cases a <;> simp [execOp,ho,hux,huy,eqGuard,binOp,hb]⟩
    ·exact ⟨!b,by cases a <;> simp [execOp,ho,hux,huy,eqGuard,binOp,hb]⟩
   ·cases h3
  ·cases h2
 |_=>rw [ho] at h;simp [XL] at h
theorem Qbd {P:Program} {N:Nat} {base:Bs×Fence} {o:Oper} {s:AS} {K:AS→Prop} {E:AV→AS→Prop} (H:OpW P N o s K E) {F:Fence} {n:Nat} {c:Cx} {a:Act} (hF:WF F) (hst:St c) (hr:SR N base c s a)
  {next:Act→World→Prop} {Qx:Exit→Act→World→Prop} (hK:∀ s' c' a',K s'→Ev c c'→St c'→SR N base c' s' a'→next a' c'.w)
  (hE:∀ r s' c' x,E r s'→Ev c c'→St c'→SR N base c' s' a→Rel c' r x→Qx (.panic [{v:=x,recovered:=false}]) a c'.w):o.wpIn F n P a c.w next Qx:=by
 have hev:∀ x,Rel c (s.ev x) (a.eval x):=hr.eval
 -- an operation of its own
 have plain:(∀ q,o.op ≠ .defer q)→∀ {r h'},aop P s.ev o.type s.h o.op=some (r,h')→K (AS.put N {s with h:=h'} o.dst r)→o.wpIn F n P a c.w next Qx:=by
  intro hd r h' ha hk
  rw [← hr.h] at ha
  obtain ⟨c',h1,h2,h3,h4⟩:=QkE hst hev ha
  refine ⟨fun f _=>hF.fn f,?_⟩
  rw [Oper.semAt_eq _ _ _ hd]
  subst h3
  rcases h4 with ⟨x,hrun,hx⟩|⟨hrun,hx⟩
  ·rw [hrun];exact hK _ c' _ hk h1 h2 (hr.put hst h1 o.dst hx)
  ·rw [hrun];exact hK _ c' _ hk h1 h2 (hr.put hst h1 o.dst hx)
 unfold OpW at H
 split at H
 ·rename_i t ps hop
  split at H
  ·rename_i e n he hps
   have hps':ps=#[]:=by apply Array.ext';simpa using hps
   subst hps'
   obtain ⟨ha,hk|hk⟩:=H
   ·exact plain (fun q=>by rw [hop];intro h;cases h) (r:=.sl n [] (some s.h.length)) (h':=s.h++[.grow e n 0]) (by rw [hop];simpa [aop] using ha) hk
   ·refine ⟨fun f _=>hF.fn f,?_⟩
    rw [Oper.semAt_eq _ _ _ (fun q=>by rw [hop];intro h;cases h)]
    obtain ⟨hu,hsz⟩:=XK he
    have hrun:(execOp a.eval o).run P c.w = .ok (.value (.slice (some ⟨c.w.heap.size,0,none⟩) 0 0)) (c.w.alloc (.cells #[] e)):=by
     simp [execOp,hop,QbP hu hsz c.w]
    rw [hrun]
    have hg:=Grows.alloc c.w (.cells #[] e)
    have ho:∀ B,(none:Option Nat)=some B→c.w.heap.size≤B:=fun B h=>by cases h
    have hev':=Ev.add hst hg .dead none ho
    have hst':St (c.add (c.w.alloc (.cells #[] e)) .dead none):=St.add hst hg _ _ ho trivial
    refine hK _ (c.add (c.w.alloc (.cells #[] e)) .dead none) _ (by rw [← hr.h] at hk;exact hk) hev' hst' (hr.put hst hev' o.dst ?_)
    refine .slzero _ _ _ fun b hb=>?_
    cases hb
    refine ⟨by simp [Cx.add],fun e2 s2 n2 hg2=>?_⟩
    simp [Cx.add] at hg2
  ·exact H.elim
 ·rename_i q hop
  split at H
  ·rename_i f hcal
   refine ⟨fun f _=>hF.fn f,?_⟩
   rw [Oper.semAt_eq _ _ _ (fun q=>by rw [hop];intro h;cases h)]
   have hrun:(execOp a.eval o).run P c.w=((do let d←Deferred.ofValue (a.eval f) (q.args.map a.eval);invoke d.target d.args:Sem Next)).run P c.w:=by
    simp [execOp,hop,resolve,hcal]
   rw [hrun]
   refine H F n c _ _ hF hst hr.h (hev f) (Qgw hev q.args) o a next Qx ?_ ?_
   ·intro r c' x hk h1 h2 hx
    exact hK _ c' _ hk h1 h2 (hr.put hst h1 o.dst hx)
   ·intro r c' x he h1 h2 hx
    exact hE r _ c' x he h1 h2 ⟨rfl,hr.size,Nat.le_trans hr.above h1.size,hr.defers.ev h1,RoundOk.ev h1 hr.round,fun t=>(hr.tm t).ev hst h1⟩ hx
  ·split at H
   ·rename_i r h' ha
    exact plain (fun q=>by rw [hop];intro h;cases h) ha H
   ·split at H
    ·rename_i r h' ha
     rw [← hr.h] at ha
     obtain ⟨c',h1,h2,h3,h4⟩:=Qjx hst hev ha
     refine ⟨fun f _=>hF.fn f,?_⟩
     rw [Oper.semAt_eq _ _ _ (fun q=>by rw [hop];intro h;cases h)]
     subst h3
     rcases h4 with ⟨x,hrun,hx⟩|⟨hrun,hx⟩
     ·rw [hrun];exact hK _ c' _ H h1 h2 (hr.put hst h1 o.dst hx)
     ·rw [hrun];exact hK _ c' _ H h1 h2 (hr.put hst h1 o.dst hx)
    ·exact H.elim
 ·rename_i x hop
  split at H
  ·rename_i t y hx
   have h1:=hev x
   rw [hx] at h1
   generalize hu:a.eval x=u at h1
   cases h1 with
   |ifc t y u h2 =>
    refine ⟨fun f _=>hF.fn f,?_⟩
    rw [Oper.semAt_eq _ _ _ (fun q=>by rw [hop];intro h;cases h)]
    have hrun:(execOp a.eval o).run P c.w = .halt (.panic (.iface t u)) c.w:=by
     simp [execOp,hop,Instr.panic,hu]
    rw [hrun]
    exact hE _ s c _ H (Ev.refl c) hst hr (.ifc t y u h2)
  ·exact H.elim
 ·rename_i op hnb hnc hnp
  split at H
  ·rename_i r h' ha
   refine plain (fun q hq=>?_) ha H
   rw [hq] at ha
   simp [aop] at ha
  ·obtain ⟨hq,hk⟩:=H
   obtain ⟨b,hrun⟩:=Qhk hev hq
   refine ⟨fun f _=>hF.fn f,?_⟩
   rw [Oper.semAt_eq _ _ _ (fun q hq'=>by rw [hq'] at hq;simp [XL] at hq),hrun]
   have hp:=hr.put hst (Ev.refl c) o.dst (.v (.bool b))
   rw [hr.h] at hp
   exact hK _ c _ (hk b) (Ev.refl c) hst hp
def OpsW (P:Program) (N:Nat) (ops:Array Oper):List Oper→(AS→Prop)→(AV→AS→Prop)→AS→Prop
 |[],Q,E,s=>Q s
 |o::rest,Q,E,s =>
  match Qd ops s.tm o with
  |some true=>OpW P N o s (OpsW P N ops rest Q E) E
  |some false=>OpsW P N ops rest Q E (AS.put N s o.dst (.v undef))
  |none=>False
theorem QcP {P:Program} {N:Nat} {base:Bs×Fence} {ops:Array Oper} {Q:AS→Prop} {E:AV→AS→Prop} {F:Fence} {n:Nat} (hF:WF F) {Qx:Exit→Act→World→Prop}:∀ (l:List Oper) (k:Nat) (s:AS) (c:Cx) (a:Act),(∀ j,l[j]? = ops[k+j]?) →
  OpsW P N ops l Q E s→St c→SR N base c s a→(∀ s' c' a',Q s'→Ev c c'→St c'→SR N base c' s' a'→Qx .normal a' c'.w) →
  (∀ r s' c' a' x,E r s'→Ev c c'→St c'→SR N base c' s' a'→Rel c' r x→Qx (.panic [{v:=x,recovered:=false}]) a' c'.w)→wpOpsIn F n P ops Qx (List.range' k l.length) a c.w
 |[],k,s,c,a,hl,H,hst,hr,hQ,hE=>by
  simp only [Qrd,List.range'_zero,wpOpsIn]
  exact hQ s c a H (Ev.refl c) hst hr
 |o::l,k,s,c,a,hl,H,hst,hr,hQ,hE=>by
  have h0:ops[k]? = some o:=by simpa using (hl 0).symm
  have hl':∀ j,l[j]? = ops[k+1+j]? := fun j=>by have:=hl (j+1);simpa [Nat.add_assoc,Nat.add_comm 1 j] using this
  simp only [Qrc,List.range'_succ,wpOpsIn,h0]
  simp only [OpsW] at H
  split at H
  ·rename_i hw
   rw [Xd hr hw]
   simp only [if_true]
   refine Qbd H hF hst hr ?_ ?_
   ·intro s' c' a' hK h1 h2 h3
    exact QcP hF l (k+1) s' c' a' hl' hK h2 h3 (fun s2 c2 a2 q e2 t2 r2=>hQ s2 c2 a2 q (Ev.trans hst h1 e2) t2 r2) (fun r s2 c2 a2 x q e2 t2 r2=>hE r s2 c2 a2 x q (Ev.trans hst h1 e2) t2 r2)
   ·intro r s' c' x he h1 h2 h3 hx
    exact hE r s' c' a x he h1 h2 h3 hx
  ·rename_i hw
   rw [Xd hr hw]
   simp only [Qq3,if_false]
   refine ⟨fun f _=>hF.fn f,?_⟩
   have hr':=hr.put hst (Ev.refl c) o.dst (.v undef)
   rw [hr.h] at hr'
   exact QcP hF l (k+1) _ c _ hl' H hst hr' hQ hE
  ·exact H.elim
theorem Qc1 {P:Program} {N:Nat} {Q:AExit→AS→Prop} {s:AS} {id:Nat} {ops:Array Oper} (H:OpsW P N ops ops.toList (fun s'=>Q .normal s') (fun r s'=>Q (.panic r) s') s):XF P N (.region id ops false) Q s:=by
 intro F n base c a hF hst hr R hR
 refine wpIn_region ?_
 rw [List.range_eq_range',← Array.length_toList]
 refine QcP hF ops.toList 0 s c a (by simp) H hst hr ?_ ?_
 ·intro s' c' a' hQ h1 h2 h3
  exact hR _ s' c' a' _ hQ h1 h2 h3 rfl
 ·intro r s' c' a' x hQ h1 h2 h3 hx
  exact hR _ s' c' a' _ hQ h1 h2 h3 ⟨x,rfl,hx⟩
inductive Below (n:Nat):AV→Prop
 |v (x:Value):Below n (.v x)
 |junk:Below n .junk
 |agg (l:List AV) (h:∀ a∈l,Below n a):Below n (.agg l)
 |tup (l:List AV) (h:∀ a∈l,Below n a):Below n (.tup l)
 |sl (s:Nat) (xs:List AV) (own:Option Nat) (h:∀ a∈flat xs,Below n a) (hb:∀ b,own=some b→b<n):Below n (.sl s xs own)
 |pin (s:Nat) (xs:List AV) (k off:Nat) (h:∀ a∈flat xs,Below n a):Below n (.pin s xs k off)
 |ptr (id k off:Nat) (h:id<n):Below n (.ptr id k off)
 |arr (id lo len:Nat) (h:id<n):Below n (.arr id lo len)
 |row (id lo len cap:Nat) (h:id<n):Below n (.row id lo len cap)
 |mp (id:Nat) (h:id<n):Below n (.mp id)
 |fn (f:Fn) (first cap:List AV) (h1:∀ a∈first,Below n a) (h2:∀ a∈cap,Below n a):Below n (.fn f first cap)
 |ifc (t:TypeId) (x:AV) (h:Below n x):Below n (.ifc t x)
 |spt (s:Nat) (xs:List AV) (own:Option Nat) (h:Below n (.sl s xs own)):Below n (.spt s xs own)
theorem Y7 {α:Type} {l:List α} {a:α} (h:a∈l):∃ j:Nat,l[j]? = some a:=by
 obtain ⟨j,hj,rfl⟩:=List.getElem_of_mem h
 exact ⟨j,List.getElem?_eq_getElem hj⟩
theorem QaC {vs:Array Value} {n j:Nat} (h:vs.size=n) (hj:j<n):∃ u,vs[j]? = some u:=⟨_,Array.getElem?_eq_getElem (by omega)⟩
theorem Rel.ids {c:Cx} {a:AV} {x:Value} (h:Rel c a x):Below c.h.length a:=by
 induction h with
 |v x=>exact .v x
 |junk x=>exact .junk
 |agg l cs hl _ ih =>
  refine .agg l fun a ha=>?_
  obtain ⟨j,hj⟩:=Y7 ha
  obtain ⟨u,hu⟩:=QaC hl (Qt hj)
  exact ih j a u hj hu
 |tup l cs hl _ ih =>
  refine .tup l fun a ha=>?_
  obtain ⟨j,hj⟩:=Y7 ha
  obtain ⟨u,hu⟩:=QaC hl (Qt hj)
  exact ih j a u hj hu
 |slnil s own ht=>exact .sl s [] own (by simp [flat]) fun b hb=>(ht b hb).1
 |slzero s own ba ht=>exact .sl s [] own (by simp [flat]) fun b hb=>(ht b hb).1
 |sl s xs own B o cap f hs hcap hmax hc _ ht ih =>
  refine .sl s xs own (fun a ha=>?_) fun b hb=>(ht b hb).1.1
  obtain ⟨j,hj⟩:=Y7 ha
  exact ih j a hj
 |pin s xs k off B o f hs hc _ ih =>
  refine .pin s xs k off fun a ha=>?_
  obtain ⟨j,hj⟩:=Y7 ha
  exact ih j a hj
 |ptr id k off x hid ho h1=>exact .ptr id k off hid
 |arr id lo len x hid ho h1=>exact .arr id lo len hid
 |row id lo len cap x hid ho h1=>exact .row id lo len cap hid
 |mp id x hid ho h1=>exact .mp id hid
 |fn f first cap vs ws e1 e2 _ _ ih1 ih2 =>
  refine .fn f first cap (fun a ha=>?_) fun a ha=>?_
  ·obtain ⟨j,hj⟩:=Y7 ha
   obtain ⟨u,hu⟩:=QaC e1 (Qt hj)
   exact ih1 j a u hj hu
  ·obtain ⟨j,hj⟩:=Y7 ha
   obtain ⟨u,hu⟩:=QaC e2 (Qt hj)
   exact ih2 j a u hj hu
 |ifc t a u _ ih=>exact .ifc t a ih
 |spt s xs own p n k _ ih=>exact .spt s xs own ih
def Cx.cut (c:Cx) (m:Nat):Cx:={c with h:=c.h.take m}
theorem YF {c:Cx} {m id:Nat} {b:AB} (h:(c.cut m).h[id]? = some b):id<m∧c.h[id]? = some b:=by
 have hlt:=Qt h
 simp only [Cx.cut,List.length_take] at hlt h
 rw [List.getElem?_take_of_lt (by omega)] at h
 exact ⟨by omega,h⟩
theorem Qk8 {c:Cx} {m id:Nat} {b:AB} (hm:id<m) (h:c.h[id]? = some b):(c.cut m).h[id]? = some b:=by
 simp only [Cx.cut];rw [List.getElem?_take_of_lt hm];exact h
theorem QdC {c:Cx} {m B o:Nat} (h:c.prot B o):(c.cut m).prot B o :=
 ⟨h.1,fun id b hb hl hρ=>h.2 id b (YF hb).2 hl hρ⟩
theorem Rel.cut {c:Cx} {m:Nat} (hm:m≤c.h.length) {a:AV} {x:Value} (h:Rel c a x) (hb:Below m a):Rel (c.cut m) a x:=by
 have hlen:(c.cut m).h.length=m:=by simp [Cx.cut];omega
 induction h with
 |v x=>exact .v x
 |junk x=>exact .junk x
 |agg l cs hl _ ih=>cases hb with|agg _ h=>exact .agg l cs hl fun j a u h1 h2=>ih j a u h1 h2 (h a (List.mem_of_getElem? h1))
 |tup l cs hl _ ih=>cases hb with|tup _ h=>exact .tup l cs hl fun j a u h1 h2=>ih j a u h1 h2 (h a (List.mem_of_getElem? h1))
 |slnil s own ht =>
  cases hb with
  |sl _ _ _ h hown =>
   refine .slnil s own fun b hb=>⟨by rw [hlen];exact hown b hb,fun e s' n hg=>(ht b hb).2 e s' n (YF hg).2⟩
 |slzero s own ba ht =>
  cases hb with
  |sl _ _ _ h hown =>
   refine .slzero s own ba fun b hb=>⟨by rw [hlen];exact hown b hb,fun e s' n hg=>(ht b hb).2 e s' n (YF hg).2⟩
 |sl s xs own B o cap f hs hcap hmax hc _ ht ih =>
  cases hb with
  |sl _ _ _ h hown =>
   exact .sl s xs own B o cap f hs hcap hmax (fun j a hj=>⟨⟨(hc j a hj).1.1,QdC (hc j a hj).1.2⟩,(hc j a hj).2⟩) (fun j a hj=>ih j a hj (h a (List.mem_of_getElem? hj)))
    fun b hb=>⟨⟨by rw [hlen];exact hown b hb,let ⟨x,g1,g2⟩:=(ht b hb).1.2;⟨x,Qk8 (hown b hb) g1,g2⟩⟩,fun e s' n hg=>(ht b hb).2 e s' n (YF hg).2⟩
 |pin s xs k off B o f hs hc _ ih =>
  cases hb with
  |pin _ _ _ _ h =>
   exact .pin s xs k off B o f hs (fun j a hj=>⟨⟨(hc j a hj).1.1,QdC (hc j a hj).1.2⟩,(hc j a hj).2⟩) (fun j a hj=>ih j a hj (h a (List.mem_of_getElem? hj)))
 |ptr id k off x hid ho h1=>cases hb with|ptr _ _ _ h=>exact .ptr id k off x (by rw [hlen];exact h) ho fun ty s xs hg=>h1 ty s xs (YF hg).2
 |arr id lo len x hid ho h1=>cases hb with|arr _ _ _ h=>exact .arr id lo len x (by rw [hlen];exact h) ho fun ty s xs hg=>h1 ty s xs (YF hg).2
 |row id lo len cap x hid ho h1=>cases hb with|row _ _ _ _ h=>exact .row id lo len cap x (by rw [hlen];exact h) ho fun ty s xs hg=>h1 ty s xs (YF hg).2
 |mp id x hid ho h1=>cases hb with|mp _ h=>exact .mp id x (by rw [hlen];exact h) ho ⟨fun es hg=>h1.1 es (YF hg).2,fun i hg=>h1.2.1 i (YF hg).2,fun s p hg=>h1.2.2 s p (YF hg).2⟩
 |fn f first cap vs ws e1 e2 _ _ ih1 ih2 =>
  cases hb with
  |fn _ _ _ h1 h2=>exact .fn f first cap vs ws e1 e2 (fun j a u h3 h4=>ih1 j a u h3 h4 (h1 a (List.mem_of_getElem? h3))) (fun j a u h3 h4=>ih2 j a u h3 h4 (h2 a (List.mem_of_getElem? h3)))
 |ifc t a u _ ih=>cases hb with|ifc _ _ h=>exact .ifc t a u (ih h)
 |spt s xs own p n k _ ih=>cases hb with|spt _ _ _ h=>exact .spt s xs own p n k (ih h)
def AB.Below (n:Nat):AB→Prop
 | .cells _ _ xs=>∀ a∈flat xs,Ab.Below n a
 | .grow _ _ _=>True
 | .map es=>∀ kv∈es,Ab.Below n kv.2
 | .loop i=>∀ t,Ab.Below n (i.tm t)
 | .iter _ _=>True
 | .glob _ _ _ _=>True
 | .dead=>True
 | .gone=>True
theorem Below.mono {n m:Nat} (hnm:n≤m) {a:AV} (h:Ab.Below n a):Ab.Below m a:=by
 induction h with
 |v x=>exact .v x
 |junk=>exact .junk
 |agg l _ ih=>exact .agg l ih
 |tup l _ ih=>exact .tup l ih
 |sl s xs own _ ho ih=>exact .sl s xs own ih fun b hb=>Nat.lt_of_lt_of_le (ho b hb) hnm
 |pin s xs k off _ ih=>exact .pin s xs k off ih
 |ptr id k off h=>exact .ptr id k off (Nat.lt_of_lt_of_le h hnm)
 |arr id lo len h=>exact .arr id lo len (Nat.lt_of_lt_of_le h hnm)
 |row id lo len cap h=>exact .row id lo len cap (Nat.lt_of_lt_of_le h hnm)
 |mp id h=>exact .mp id (Nat.lt_of_lt_of_le h hnm)
 |fn f a b _ _ ih1 ih2=>exact .fn f a b ih1 ih2
 |ifc t a _ ih=>exact .ifc t _ ih
 |spt s xs own _ ih=>exact .spt s xs own ih
theorem AB.Below.mono {n m:Nat} {b:AB} (h:b.Below n) (hnm:n≤m):b.Below m:=by
 cases b with
 |cells t s xs=>exact fun a ha=>Ab.Below.mono hnm (h a ha)
 |grow=>trivial
 |map es=>exact fun kv hkv=>Ab.Below.mono hnm (h kv hkv)
 |loop i=>exact fun t=>Ab.Below.mono hnm (h t)
 |iter=>trivial
 |glob=>trivial
 |dead=>trivial
 |gone=>trivial
theorem St.below {c:Cx} (hs:St c) {id:Nat} {b:AB} (hb:c.h[id]? = some b):b.Below c.h.length:=by
 have:=hs.blocks id b hb
 cases b with
 |cells ty s xs =>
  obtain ⟨B,cur,h1,h2,h3,h4⟩:=this
  intro a ha
  obtain ⟨j,hj⟩:=Y7 ha
  obtain ⟨u,_,_,hr⟩:=h4 j a hj
  exact hr.ids
 |grow=>trivial
 |map es =>
  obtain ⟨B,ents,clock,h1,h2,h3,h4⟩:=this
  intro kv hkv
  obtain ⟨j,hj⟩:=Y7 hkv
  have hlt:j<ents.size:=by rw [h3];exact Qt hj
  exact (h4 j kv ents[j] hj (Array.getElem?_eq_getElem hlt)).2.ids
 |loop i =>
  obtain ⟨B,r,h1,h2,h3,h4⟩:=this
  exact fun t=>(h4 t).ids
 |iter=>trivial
 |glob=>trivial
 |dead=>trivial
 |gone=>trivial
theorem St.cut {c:Cx} (hs:St c) {m:Nat} (hm:m≤c.h.length) (hb:∀ b∈c.h.take m,b.Below m):St (c.cut m):=by
 refine ⟨fun id b hg=>?_,fun i j a b B hi hj hla hlb hρi hρj=>hs.inj i j a b B (YF hi).2 (YF hj).2 hla hlb hρi hρj⟩
 have hbl:b.Below m:=hb b (List.mem_of_getElem? hg)
 have h0:=hs.blocks id b (YF hg).2
 cases b with
 |cells ty s xs =>
  obtain ⟨B,cur,h1,h2,h3,h4⟩:=h0
  exact ⟨B,cur,h1,h2,h3,fun j a hj=>let ⟨u,h5,h6,h7⟩:=h4 j a hj;⟨u,h5,h6,h7.cut hm (hbl a (List.mem_of_getElem? hj))⟩⟩
 |grow e s n=>exact h0
 |map es =>
  obtain ⟨B,ents,clock,h1,h2,h3,h4⟩:=h0
  exact ⟨B,ents,clock,h1,h2,h3,fun j kv e hj he=>⟨(h4 j kv e hj he).1,(h4 j kv e hj he).2.cut hm (hbl kv (List.mem_of_getElem? hj))⟩⟩
 |loop i =>
  obtain ⟨B,r,h1,h2,h3,h4⟩:=h0
  exact ⟨B,r,h1,h2,h3,fun t=>(h4 t).cut hm (hbl t)⟩
 |iter s p=>exact h0
 |glob g cs ty fr=>exact h0
 |dead=>trivial
 |gone=>trivial
theorem Ev.cut {c c':Cx} (h:Ev c c') {m:Nat} (h1:c.h.length≤m) (h2:m≤c'.h.length):Ev c (c'.cut m):=by
 refine ⟨h.os,h.tape,h.output,h.size,by simp [Cx.cut];omega,h.frame,fun id b hb=>?_,fun id B b h3 h4 hl hρ=>(h.fresh id B b h3 (YF h4).2 hl hρ).imp (fun e=>e) fun ⟨i,ty,s,xs,a1,a2,a3⟩=>⟨i,ty,s,xs,a1,a2,by
  have:=Qt a1
  simp only [Cx.cut,List.getElem?_take];rw [if_pos (by omega)];exact a3⟩⟩
 obtain ⟨b',hb',hk⟩:=h.kin id b hb
 have hlt:=Qt hb
 exact ⟨b',Qk8 (by omega) hb',hk⟩
inductive Frz (h:AH) (m:Nat):AV→AV→Prop
 |nil (s:Nat):Frz h m (.v (.slice none 0 0)) (.sl s [] none)
 |keep {a:AV} (hb:Below m a):Frz h m a a
 |tok {s:Nat} {xs:List AV} {own:Option Nat} (hb:∀ a∈flat xs,Below m a):Frz h m (.sl s xs own) (.sl s xs none)
 |arr {id lo len s:Nat} {ty:TypeId} {xs:List AV} (hi:m≤id) (hg:h[id]? = some (.cells ty s xs)) (hl:lo+len≤xs.length) (hb:∀ a∈flat xs,Below m a) :
   Frz h m (.arr id lo len) (.sl s ((xs.drop lo).take len) none)
 |row {id lo len cap s:Nat} {ty:TypeId} {xs:List AV} (hi:m≤id) (hg:h[id]? = some (.cells ty s xs)) (hl:lo+len≤xs.length) (hb:∀ a∈flat xs,Below m a) :
   Frz h m (.row id lo len cap) (.sl s ((xs.drop lo).take len) none)
 |ptr {id k off s:Nat} {ty:TypeId} {xs:List AV} (hi:m≤id) (hg:h[id]? = some (.cells ty s xs)) (hb:∀ a∈flat xs,Below m a):Frz h m (.ptr id k off) (.pin s xs k off)
 |agg {l l':List AV} (hl:l'.length=l.length) (hp:∀ (j:Nat) a a',l[j]? = some a→l'[j]? = some a'→Frz h m a a'):Frz h m (.agg l) (.agg l')
 |tup {l l':List AV} (hl:l'.length=l.length) (hp:∀ (j:Nat) a a',l[j]? = some a→l'[j]? = some a'→Frz h m a a'):Frz h m (.tup l) (.tup l')
 |fn {f:Fn} {a a' b b':List AV} (hl:a'.length=a.length) (hl':b'.length=b.length) (hp:∀ (j:Nat) x x',a[j]? = some x→a'[j]? = some x'→Frz h m x x')
   (hq:∀ (j:Nat) x x',b[j]? = some x→b'[j]? = some x'→Frz h m x x'):Frz h m (.fn f a b) (.fn f a' b')
theorem QbO {c:Cx} (hs:St c) {m:Nat} (hm:m≤c.h.length) {id B ty s:Nat} {xs:List AV} (hi:m≤id) (hg:c.h[id]? = some (.cells ty s xs)) (hρ:c.ρ id=some B) (hb:∀ a∈flat xs,Below m a) :
  (∀ x∈xs,x.cells.length=s)∧∃ f:Nat→Value,∀ (j:Nat) a,(flat xs)[j]? = some a→((c.cut m).cellP B (0+j) (f j)∧(f j).oneCell'=true)∧Rel (c.cut m) a (f j):=by
 obtain ⟨B',cur,h1,h2,h3,h4⟩:=hs.blocks id _ hg
 rw [hρ] at h1;cases h1
 refine ⟨h3,fun j=>cur.getD j undef,fun j a hj=>?_⟩
 obtain ⟨u,h5,h6,h7⟩:=h4 j a hj
 have e:cur.getD j undef=u:=by rw [Array.getD_eq_getD_getElem?,h5];rfl
 show ((c.cut m).cellP B (0+j) (cur.getD j undef)∧(cur.getD j undef).oneCell'=true)∧Rel (c.cut m) a (cur.getD j undef)
 rw [e]
 refine ⟨⟨⟨by show c.w.cell? _=_;rw [Nat.zero_add,Xq h2];exact h5,?_⟩,h6⟩,h7.cut hm (hb a (List.mem_of_getElem? hj))⟩
 refine ⟨hs.lt hg rfl hρ,fun id' b' hb' hl' hρ'=>?_⟩
 obtain ⟨hlt,hb''⟩:=YF hb'
 have:=hs.inj id' id b' _ B hb'' hg hl' rfl hρ' hρ
 omega
theorem Frz.rel {c:Cx} (hs:St c) {m:Nat} (hm:m≤c.h.length) {a a':AV} (h:Frz c.h m a a'):∀ {x:Value},Rel c a x→Rel (c.cut m) a' x:=by
 induction h with
 |nil s=>intro x hr;cases hr;exact .slnil s none fun b hb=>by cases hb
 |keep hb=>exact fun hr=>hr.cut hm hb
 |@tok s xs own hb =>
  intro x hr
  cases hr with
  |slnil _ _ ht=>exact .slnil s none fun b hb=>by cases hb
  |slzero _ _ ba ht=>exact .slzero s none ba fun b hb=>by cases hb
  |sl _ _ _ B o cap f hs' hcap hmax hc hr ht =>
   exact .sl s xs none B o cap f hs' hcap hmax (fun j a hj=>⟨⟨(hc j a hj).1.1,QdC (hc j a hj).1.2⟩,(hc j a hj).2⟩) (fun j a hj=>(hr j a hj).cut hm (hb a (List.mem_of_getElem? hj))) fun b hb=>by cases hb
 |@arr id lo len s ty xs hi hg hl hb =>
  intro x hr
  cases hr with
  |arr _ _ _ x hid ho h1 =>
   obtain ⟨B,cap,hρ,rfl,h2,h3,_⟩:=h1 _ _ _ hg
   obtain ⟨h4,f,h5⟩:=QbO hs hm hi hg hρ hb
   have hlen:((xs.drop lo).take len).length=len:=by simp;omega
   have hdrop:∀ y∈xs.drop lo,y.cells.length=s:=fun y hy=>h4 y (List.mem_of_mem_drop hy)
   have hget:∀ (j:Nat) a,(flat ((xs.drop lo).take len))[j]? = some a→(flat xs)[lo * s+j]? = some a:=by
    intro j a hj
    rw [YI hdrop (by simp;omega)] at hj
    have hlt:=Qt hj
    rw [List.length_take] at hlt
    rw [List.getElem?_take_of_lt (by omega),Zk h4 (by omega),List.getElem?_drop] at hj
    exact hj
   have:=Rel.sl (c:=c.cut m) s ((xs.drop lo).take len) none B (lo * s) cap (fun j=>f (lo * s+j)) (fun y hy=>hdrop y (List.mem_of_mem_take hy)) (by omega) h3
    (fun j a hj=>by have:=(h5 _ a (hget j a hj)).1;rwa [Nat.zero_add] at this) (fun j a hj=>(h5 _ a (hget j a hj)).2) (fun b hb=>by cases hb)
   rwa [hlen] at this
 |@row id lo len cap s ty xs hi hg hl hb =>
  intro x hr
  cases hr with
  |row _ _ _ _ x hid ho h1 =>
   obtain ⟨B,cur,hρ,rfl,h2,h3,_⟩:=h1 _ _ _ hg
   obtain ⟨h4,f,h5⟩:=QbO hs hm hi hg hρ hb
   have hlen:((xs.drop lo).take len).length=len:=by simp;omega
   have hdrop:∀ y∈xs.drop lo,y.cells.length=s:=fun y hy=>h4 y (List.mem_of_mem_drop hy)
   have hget:∀ (j:Nat) a,(flat ((xs.drop lo).take len))[j]? = some a→(flat xs)[lo * s+j]? = some a:=by
    intro j a hj
    rw [YI hdrop (by simp;omega)] at hj
    have hlt:=Qt hj
    rw [List.length_take] at hlt
    rw [List.getElem?_take_of_lt (by omega),Zk h4 (by omega),List.getElem?_drop] at hj
    exact hj
   have:=Rel.sl (c:=c.cut m) s ((xs.drop lo).take len) none B (lo * s) cap (fun j=>f (lo * s+j)) (fun y hy=>hdrop y (List.mem_of_mem_take hy)) (by omega) h3
    (fun j a hj=>by have:=(h5 _ a (hget j a hj)).1;rwa [Nat.zero_add] at this) (fun j a hj=>(h5 _ a (hget j a hj)).2) (fun b hb=>by cases hb)
   rwa [hlen] at this
 |@ptr id k off s ty xs hi hg hb =>
  intro x hr
  cases hr with
  |ptr _ _ _ x hid ho h1 =>
   obtain ⟨B,hρ,rfl⟩:=h1 _ _ _ hg
   obtain ⟨h4,f,h5⟩:=QbO hs hm hi hg hρ hb
   have:=Rel.pin (c:=c.cut m) s xs k off B 0 f h4 (fun j a hj=>(h5 j a hj).1) (fun j a hj=>(h5 j a hj).2)
   rwa [Nat.zero_add] at this
 |@agg l l' hl _ ih =>
  intro x hr
  cases hr with
  |agg _ cs hl' hr =>
   refine .agg _ cs (by omega) fun j a' u ha' hu=>?_
   obtain ⟨a,ha⟩:∃ a,l[j]? = some a:=⟨_,List.getElem?_eq_getElem (by rw [← hl];exact Qt ha')⟩
   exact ih j a a' ha ha' (hr j a u ha hu)
 |@tup l l' hl _ ih =>
  intro x hr
  cases hr with
  |tup _ cs hl' hr =>
   refine .tup _ cs (by omega) fun j a' u ha' hu=>?_
   obtain ⟨a,ha⟩:∃ a,l[j]? = some a:=⟨_,List.getElem?_eq_getElem (by rw [← hl];exact Qt ha')⟩
   exact ih j a a' ha ha' (hr j a u ha hu)
 |@fn f p p' q q' hl hl' _ _ ih1 ih2 =>
  intro x hr
  cases hr with
  |fn _ _ _ vs ws e1 e2 h1 h2 =>
   refine .fn _ _ _ vs ws (by omega) (by omega) (fun j a' u ha' hu=>?_) (fun j a' u ha' hu=>?_)
   ·obtain ⟨a,ha⟩:∃ a,p[j]? = some a:=⟨_,List.getElem?_eq_getElem (by rw [← hl];exact Qt ha')⟩
    exact ih1 j a a' ha ha' (h1 j a u ha hu)
   ·obtain ⟨a,ha⟩:∃ a,q[j]? = some a:=⟨_,List.getElem?_eq_getElem (by rw [← hl'];exact Qt ha')⟩
    exact ih2 j a a' ha ha' (h2 j a u ha hu)
def Qr (P:Program) (s:AS):ResultVar→Option AV
 | .tmp t=>some (s.tm t)
 | .cell a t=>Qw P t (s.tm a) s.h
def Qn (P:Program) (s:AS) (rs:List ResultVar):Option AV :=
 match rs with
 |[r]=>Qr P s r
 |rs=>(rs.mapM (Qr P s)).map .tup
def resF (tmps:Array Value):ResultVar→Sem Value
 | .tmp t=>pure (tmps.getD t undef)
 | .cell p t=>do loadVar t (← asAddr (tmps.getD p undef))
theorem Qka (fn:Func) (tmps:Array Value):results fn tmps=(do let vs←fn.results.mapM (resF tmps);pure (if h:vs.size=1 then vs[0] else .tuple vs)):=by
 unfold results
 congr 1
theorem Qdd {P:Program} {N:Nat} {base:Bs×Fence} {c:Cx} (hst:St c) {s:AS} {a:Act} (hr:SR N base c s a) {rv:ResultVar} {r:AV} (h:Qr P s rv=some r) :
  ∃ x,(resF a.tmps rv).run P c.w = .ok x c.w∧Rel c r x:=by
 cases rv with
 |tmp t=>simp only [Qr] at h;cases h;exact ⟨_,rfl,hr.tm t⟩
 |cell p t =>
  simp only [Qr] at h
  rw [← hr.h] at h
  obtain ⟨x,hrun,hx⟩:=QdK hst h (hr.tm p)
  refine ⟨x,?_,hx⟩
  rw [← hrun]
  simp only [Instr.loadAt,resF]
  generalize a.tmps.getD p undef=u at hrun
  cases u with
  |pointer o =>
   cases o with
   |some ad=>rfl
   |none=>simp [Instr.loadAt,Instr.sureAddr] at hrun
  |_=>simp [Instr.loadAt,Instr.sureAddr] at hrun
theorem Qc8 {P:Program} {N:Nat} {base:Bs×Fence} {c:Cx} (hst:St c) {s:AS} {a:Act} (hr:SR N base c s a):∀ {rs:List ResultVar} {l:List AV},rs.mapM (Qr P s)=some l →
  ∃ xs:List Value,(rs.mapM (resF a.tmps)).run P c.w = .ok xs c.w∧RelL c l xs.toArray
 |[],l,h=>by simp at h;subst h;exact ⟨[],rfl,rfl,fun j a u h=>by simp at h⟩
 |rv::rs,l,h=>by
  simp only [List.mapM_cons] at h
  cases h1:Qr P s rv with
  |none=>simp [h1] at h
  |some r =>
   cases h2:rs.mapM (Qr P s) with
   |none=>simp [h1,h2] at h
   |some l' =>
    simp [h1,h2] at h
    subst h
    obtain ⟨x,h3,h4⟩:=Qdd hst hr h1
    obtain ⟨xs,h5,h6⟩:=Qc8 hst hr h2
    refine ⟨x::xs,by simp only [List.mapM_cons,Sem.run_bind,h3,Result.andThen_ok,h5,Sem.run_pure],by have:=h6.1;simpa using this,fun j a u ha hu=>?_⟩
    cases j with
    |zero=>simp at ha hu;subst ha;subst hu;exact h4
    |succ j=>exact h6.2 j a u (by simpa using ha) (by simpa using hu)
theorem QaL {P:Program} {N:Nat} {base:Bs×Fence} {c:Cx} (hst:St c) {s:AS} {a:Act} (hr:SR N base c s a) {fn:Func} {r:AV} (h:Qn P s fn.results.toList=some r):∃ x,(results fn a.tmps).run P c.w = .ok x c.w∧Rel c r x:=by
 have hrun:∀ xs:List Value,(fn.results.toList.mapM (resF a.tmps)).run P c.w = .ok xs c.w →
   (results fn a.tmps).run P c.w = .ok (if h:xs.toArray.size=1 then xs.toArray[0] else .tuple xs.toArray) c.w:=by
  intro xs hx
  rw [Qka,Array.mapM_eq_mapM_toList]
  simp only [Sem.run_bind,Sem.run_map]
  rw [hx]
  rfl
 unfold Qn at h
 split at h
 ·rename_i rv hrs
  obtain ⟨x,h1,h2⟩:=Qdd hst hr h
  refine ⟨x,?_,h2⟩
  rw [hrun [x] (by rw [hrs];simp only [List.mapM_cons,List.mapM_nil,Sem.run_bind,h1,Result.andThen_ok,Sem.run_pure])]
  rfl
 ·rename_i rs hne
  simp only [Option.map_eq_some_iff] at h
  obtain ⟨l,hl,rfl⟩:=h
  obtain ⟨xs,h1,h2⟩:=Qc8 hst hr hl
  refine ⟨.tuple xs.toArray,?_,.tup l _ h2.1 h2.2⟩
  rw [hrun xs h1]
  have hne1:¬ xs.toArray.size=1:=by
   intro he
   have h3:l.length=1:=by have:=h2.1;omega
   have h4:fn.results.toList.length=l.length:=by
    clear h1 h2 hrun hne
    generalize fn.results.toList=rs at hl
    induction rs generalizing l with
    |nil=>simp at hl;subst hl;rfl
    |cons rv rs ih =>
     simp only [List.mapM_cons] at hl
     cases h5:Qr P s rv with
     |none=>simp [h5] at hl
     |some r =>
      cases h6:rs.mapM (Qr P s) with
      |none=>simp [h5,h6] at hl
      |some l' =>
       simp [h5,h6] at hl
       subst hl
       simp only [Qrc]
       cases l' with
       |nil=>cases rs with
        |nil=>rfl
        |cons z zs =>
         simp only [List.mapM_cons] at h6
         cases h7:Qr P s z with
         |none=>simp [h7] at h6
         |some q=>cases h8:zs.mapM (Qr P s) with
          |none=>simp [h7,h8] at h6
          |some q'=>simp [h7,h8] at h6
       |cons z zs=>simp at h3
   rw [h3] at h4
   match hq:fn.results.toList with
   |[rv]=>exact hne rv hq
   |[]=>rw [hq] at h4;simp at h4
   |_::_::_=>rw [hq] at h4;simp at h4
  rw [dif_neg hne1]
def Qq (args:List AV):Nat→AV:=fun t=>args.getD t (.v undef)
def Leaves (h h':AH) (r:AV) (Q:AV→AH→Prop):Prop :=
 (∃ m r',h.length≤m∧m≤h'.length∧(h'.take m=h∨∀ (i:Nat) b,(h'.take m)[i]? = some b→h[i]? = some b∨b.Below m)∧Frz h' m r r'∧Q r' (h'.take m))∨Q r h'
def QF (P:Program) (rs:List ResultVar) (h:AH) (Q:AOut→AH→Prop):AExit→AS→Prop
 | .normal,s | .ret,s=>∃ r,Qn P s rs=some r∧Leaves h s.h r fun r h'=>Q (.ret r) h'
 | .panic x,s=>Leaves h s.h x fun r h'=>Q (.panic r) h'
 | .exit _,_=>False
theorem ZH {c c':Cx} {r:AV} {x:Value} {Q:AV→AH→Prop} (hs:St c) (hs':St c') (hev:Ev c c') (hr:Rel c' r x) (hl:Leaves c.h c'.h r Q) :
  ∃ c2 r',Q r' c2.h∧Ev c c2∧St c2∧c2.w=c'.w∧Rel c2 r' x:=by
 rcases hl with ⟨m,r',h1,h2,h3,h4,h5⟩|h5
 case inr=>exact ⟨c',r,h5,hev,hs',rfl,hr⟩
 refine ⟨c'.cut m,r',h5,hev.cut h1 h2,hs'.cut h2 ?_,rfl,h4.rel hs' h2 hr⟩
 rcases h3 with h3|h3
 ·intro b hb
  have hb':=hb
  rw [h3] at hb'
  obtain ⟨j,hj⟩:=Y7 hb'
  have hm:m=c.h.length:=by
   have:=congrArg List.length h3
   rw [List.length_take] at this;omega
  rw [hm]
  exact hs.below hj
 ·intro b hb
  obtain ⟨i,hi⟩:=Y7 hb
  rcases h3 i b hi with h6|h6
  ·exact AB.Below.mono (hs.below h6) h1
  ·exact h6
theorem Zu {P:Program} {w:World} {r:Nat} (h:w.heap[r]? = some (.deferred (some []))):(Instr.takeDeferred r).run P w = .ok [] {w with heap:=w.heap.setIfInBounds r (.deferred none)}:=by
 simp [Instr.takeDeferred,getObj,setObj,Sem.run,h]
theorem Qa9 {P:Program} {F:Fence} {n:Nat} {fn:Func} {tmps:Array Value} {R:Ending→World→Prop} {u:FrameMode} (hu:u ≠ .run) {c:Cx} (hs:St c) {base:Nat}:∀ (Ds:List Nat) (w:World),
  Ds.Nodup→(∀ D∈Ds,base≤D∧w.heap[D]? = some (.deferred (some []))) →
  (∀ w',w'.os=w.os→w'.tape=w.tape→w'.output=w.output→w'.heap.size=w.heap.size→(∀ k,k∉Ds→w'.heap[k]? = w.heap[k]?)→LeavesInM F n P fn tmps R [] u w') →
  LeavesInM F n P fn tmps R (Ds.map Qi8) u w
 |[],w,_,_,h=>h w rfl rfl rfl rfl fun _ _=>rfl
 |D::Ds,w,hn,hd,h=>by
  have hD:=(hd D (by simp)).2
  have hlt:=(Array.getElem?_eq_some_iff.1 hD).1
  simp only [Qre,LeavesInM]
  refine ⟨hu,.inl ⟨D,_,rfl,Zu hD,?_⟩⟩
  have hnd:=List.nodup_cons.1 hn
  have hold:∀ k,k≠D→({w with heap:=w.heap.setIfInBounds D (.deferred none)}:World).heap[k]? = w.heap[k]? := fun k hk=>by
   show (w.heap.setIfInBounds D _)[k]? = _
   rw [Array.getElem?_setIfInBounds_ne (fun e=>hk e.symm)]
  refine Qa9 hu hs (base:=base) Ds _ hnd.2 (fun D' hD'=>⟨(hd D' (by simp [hD'])).1,?_⟩) fun w' h1 h2 h3 h4 h5=>h w' h1 h2 h3 (by simpa using h4) fun k hk=>?_
  ·have hne:D'≠D:=fun e=>hnd.1 (e▸hD')
   exact (hold D' hne).trans (hd D' (by simp [hD'])).2
  ·simp only [List.mem_cons,not_or] at hk
   exact (h5 k hk.2).trans (hold k hk.1)
theorem Ev.idle {c0 c:Cx} (hs:St c) (hev:Ev c0 c) {w:World} (h1:w.os=c.w.os) (h2:w.tape=c.w.tape) (h3:w.output=c.w.output) (h4:w.heap.size=c.w.heap.size)
  (h5:∀ k,w.heap[k]? = c.w.heap[k]? ∨ (c0.w.heap.size≤k∧¬ c.owns k∧∃ o,c.w.heap[k]? = some (.deferred o))):Ev c0 (c.to w):=by
 refine ⟨h1.trans hev.os,h2.trans hev.tape,h3.trans hev.output,by show _≤w.heap.size;rw [h4];exact hev.size,hev.len,fun B hB ho=>?_,fun id b hb=>?_,hev.fresh⟩
 ·rcases h5 B with h|⟨h,_⟩
  ·exact h.trans (hev.frame B hB ho)
  ·omega
 ·obtain ⟨b',hb',hk⟩:=hev.kin id b hb
  refine ⟨b',hb',?_⟩
  cases b with
  |cells ty s xs =>
   rcases hk with e0|⟨xs',e1,e2,e3⟩
   ·exact .inl e0
   refine .inr ⟨xs',e1,e2,fun B cur hρ hc=>?_⟩
   obtain ⟨cur',h6,h7⟩:=e3 B cur hρ hc
   refine ⟨cur',?_,h7⟩
   rcases h5 B with h|⟨_,_,o,h⟩
   ·exact h.trans h6
   ·rw [h6] at h;cases h
  |grow e s n =>
   rcases hk with ⟨e1,e5⟩|⟨n',e1,e2,e3,e4,e5⟩
   ·refine .inl ⟨e1,fun B cur hρ hc=>?_⟩
    obtain ⟨cur',fr,h6,h7⟩:=e5 B cur hρ hc
    refine ⟨cur',fr,?_,h7⟩
    rcases h5 B with h|⟨_,_,o,h⟩
    ·exact h.trans h6
    ·rw [h6] at h;cases h
   refine .inr ⟨n',e1,e2,e3,e4,fun B cur hρ hc=>?_⟩
   obtain ⟨cur',h6,h7⟩:=e5 B cur hρ hc
   refine ⟨cur',?_,h7⟩
   rcases h5 B with h|⟨_,_,o,h⟩
   ·exact h.trans h6
   ·rw [h6] at h;cases h
  |map es=>exact hk
  |loop i=>exact hk
  |iter s p=>exact hk
  |glob g cs ty fr =>
   simp only [Kin] at hk ⊢
   refine ⟨hk.1,hk.2.1,fun B hρ=>?_⟩
   rcases h5 B with h|⟨_,hno,_⟩
   ·exact h.trans (hk.2.2 B hρ)
   ·exact absurd ⟨id,b',hb',by rw [hk.1];rfl,hk.2.1.trans hρ⟩ hno
  |dead=>exact hk
  |gone=>exact hk
theorem Rel.idle {c:Cx} {w:World} (hsz:w.heap.size=c.w.heap.size) (h5:∀ (k:Nat) cs t fr,c.w.heap[k]? = some (Obj.cells cs t fr)→w.heap[k]? = c.w.heap[k]?) {a:AV} {x:Value} (h:Rel c a x):Rel (c.to w) a x:=by
 have hcell:∀ {B o:Nat} {u:Value},c.cellP B o u→(c.to w).cellP B o u:=by
  intro B o u hc
  refine ⟨?_,by show B<w.heap.size;rw [hsz];exact hc.2.1,hc.2.2⟩
  have h1:=hc.1
  cases hb:c.w.heap[B]? with
  |none=>simp [World.cell?,hb] at h1
  |some o' =>
   cases o' with
   |cells cs t fr=>exact (World.cell?_of_block (w:=c.w) (a:=⟨B,o,none⟩) (h5 B cs t fr hb)).trans h1
   |_=>simp [World.cell?,hb] at h1
 induction h with
 |v x=>exact .v x
 |junk x=>exact .junk x
 |agg l cs hl _ ih=>exact .agg l cs hl ih
 |tup l cs hl _ ih=>exact .tup l cs hl ih
 |slnil s own ht=>exact .slnil s own ht
 |slzero s own ba ht=>exact .slzero s own ba ht
 |sl s xs own B o cap f hs' hcap hmax hc _ ht ih =>
  refine .sl s xs own B o cap f hs' hcap hmax (fun j a hj=>⟨hcell (hc j a hj).1,(hc j a hj).2⟩) ih fun b hb=>⟨(ht b hb).1,fun e s' n hg=>?_⟩
  obtain ⟨h1,h2,h3⟩:=(ht b hb).2 e s' n hg
  refine ⟨h1,h2,fun he=>?_⟩
  obtain ⟨h6,h7,h8,h9,cur,h10,h11⟩:=h3 he
  exact ⟨h6,h7,h8,h9,cur,(h5 B _ _ _ h10).trans h10,h11⟩
 |pin s xs k off B o f hs' hc _ ih=>exact .pin s xs k off B o f hs' (fun j a hj=>⟨hcell (hc j a hj).1,(hc j a hj).2⟩) ih
 |ptr id k off x hid ho h1=>exact .ptr id k off x hid ho h1
 |arr id lo len x hid ho h1 =>
  refine .arr id lo len x hid ho fun ty s xs hb=>?_
  obtain ⟨B,cap,h2,h3,h4,h6,cur,h7,h8⟩:=h1 ty s xs hb
  exact ⟨B,cap,h2,h3,h4,h6,cur,(h5 B _ _ _ h7).trans h7,h8⟩
 |row id lo len cap x hid ho h1 =>
  refine .row id lo len cap x hid ho fun ty s xs hb=>?_
  obtain ⟨B,cur,h2,h3,h4,h6,h7,h8⟩:=h1 ty s xs hb
  exact ⟨B,cur,h2,h3,h4,h6,(h5 B _ _ _ h7).trans h7,h8⟩
 |mp id x hid ho h1=>exact .mp id x hid ho h1
 |fn f first cap vs ws e1 e2 _ _ ih1 ih2=>exact .fn f first cap vs ws e1 e2 ih1 ih2
 |ifc t a u _ ih=>exact .ifc t a u ih
 |spt s xs own p n k _ ih=>exact .spt s xs own p n k ih
theorem St.idle {c:Cx} (hs:St c) {w:World} (hsz:w.heap.size=c.w.heap.size) (h5:∀ (k:Nat) (o:Obj),c.w.heap[k]? = some o→(w.heap[k]? = some o∨∃ d,o=Obj.deferred d)):St (c.to w):=by
 have hc:∀ (k:Nat) cs t fr,c.w.heap[k]? = some (Obj.cells cs t fr)→w.heap[k]? = c.w.heap[k]? := fun k cs t fr h=>by
  rcases h5 k _ h with h'|⟨d,h'⟩
  ·rw [h,h']
  ·cases h'
 have hm:∀ (k:Nat) es n,c.w.heap[k]? = some (Obj.map es n)→w.heap[k]? = c.w.heap[k]? := fun k es n h=>by
  rcases h5 k _ h with h'|⟨d,h'⟩
  ·rw [h,h']
  ·cases h'
 refine ⟨fun id b hb=>?_,hs.inj⟩
 have h0:=hs.blocks id b hb
 cases b with
 |cells ty s xs =>
  obtain ⟨B,cur,h1,h2,h3,h4⟩:=h0
  exact ⟨B,cur,h1,(hc B _ _ _ h2).trans h2,h3,fun j a hj=>let ⟨u,h6,h7,h8⟩:=h4 j a hj;⟨u,h6,h7,h8.idle hsz hc⟩⟩
 |grow e s n=>exact fun B hB=>let ⟨cur,h1,h2⟩:=h0 B hB;⟨cur,(hc B _ _ _ h1).trans h1,h2⟩
 |map es =>
  obtain ⟨B,ents,clock,h1,h2,h3,h4⟩:=h0
  exact ⟨B,ents,clock,h1,(hm B _ _ h2).trans h2,h3,fun j kv e hj he=>⟨(h4 j kv e hj he).1,(h4 j kv e hj he).2.idle hsz hc⟩⟩
 |loop i =>
  obtain ⟨B,r,h1,h2,h3,h4⟩:=h0
  have hl:w.heap[B]? = c.w.heap[B]? := by
   rcases h5 B _ h2 with h'|⟨d,h'⟩
   ·rw [h2,h']
   ·cases h'
  exact ⟨B,r,h1,hl.trans h2,h3,fun t=>(h4 t).idle hsz hc⟩
 |iter s p =>
  obtain ⟨B,h1,h2⟩:=h0
  refine ⟨B,h1,?_⟩
  rcases h5 B _ h2 with h'|⟨d,h'⟩
  ·exact h'
  ·cases h'
 |glob g cs ty fr =>
  obtain ⟨h1,h2⟩:=h0
  exact ⟨h1,(hc g _ _ _ h2).trans h2⟩
 |dead=>trivial
 |gone=>trivial
theorem Qaz {F:Fence} {n:Nat} {P:Program} {f:FuncId} {args:Array Value} {w:World} {R:Ending→World→Prop} (h:CallsIn F.plain n P f args w R):CallsIn F n P f args w R:=h
theorem Qe {P:Program} {f:FuncId} {fn:Func} {code:Code} {args:List AV} {h:AH} {Q:AOut→AH→Prop} (hf:P.funcs[f]? = some fn) (hb:fn.body=some code)
  (hcall:∀ vals w,(callFunc f vals).run P w = .ok (.enter f vals) w) {N:Nat} (hN:fn.ntmps=N) {rs:List ResultVar} (hrs:fn.results.toList=rs) (hn:args.length≤N) (H:XF P N code (QF P rs h Q) ⟨Qq args,h⟩):QJ P f args h Q:=by
 subst hN
 subst hrs
 refine ⟨hcall,fun F n c vals hF hs hh hvals=>Qaz ?_⟩
 subst hh
 refine callsIn_of_wp_marks hf hb (hF.plain.fn f) ?_
 have hsr:SR fn.ntmps (⟨c.w.heap.size,[]⟩,F.plain) c ⟨Qq args,c.h⟩ {tmps:=vals++Array.replicate (fn.ntmps - vals.size) undef,defers:=[]}:=by
  refine ⟨rfl,by have:=hvals.1;simp;omega,Nat.le_refl _,⟨[],rfl,List.nodup_nil,fun D h=>by cases h⟩,(fun l hl=>by cases hl),fun t=>?_⟩
  simp only [Qq]
  rw [Array.getD_eq_getD_getElem?,Array.getElem?_append,List.getD_eq_getElem?_getD]
  have hsz:=hvals.1
  by_cases ht:t<vals.size
  ·rw [if_pos ht]
   obtain ⟨u,hu⟩:∃ u,vals[t]? = some u:=⟨_,Array.getElem?_eq_getElem ht⟩
   obtain ⟨a,ha⟩:∃ a,args[t]? = some a:=⟨_,List.getElem?_eq_getElem (by omega)⟩
   rw [hu,ha]
   exact hvals.2 t a u ha hu
  ·rw [if_neg ht,List.getElem?_eq_none (by omega),Array.getElem?_replicate]
   split
   ·exact .v _
   ·exact .v _
 refine H F.plain n ⟨c.w.heap.size,[]⟩ c _ hF.plain hs hsr _ ?_
 intro e s' c' a' e' hQ hev hst hr hex
 -- the end, whichever way
 have fin:∀ (u:FrameMode),u ≠ .run→(∀ (c2:Cx),Ev c c2→St c2→c2.h=c'.h→(∀ a x,Rel c' a x→Rel c2 a x)→SR fn.ntmps (⟨0,[]⟩,F.plain) c2 s' {a' with defers:=[]} →
   LeavesInM F.plain n P fn a'.tmps (fun e w'=>∃ o c',Q o c'.h∧Ev c c'∧St c'∧c'.w=w'∧EndC c' o e) [] u c2.w) →
   LeavesInM F.plain n P fn a'.tmps (fun e w'=>∃ o c',Q o c'.h∧Ev c c'∧St c'∧c'.w=w'∧EndC c' o e) a'.defers u c'.w:=by
  intro u hu hfin
  obtain ⟨Ds,e1,hnd,hall⟩:=hr.defers
  rw [e1,List.append_nil]
  refine Qa9 hu hst (base:=c.w.heap.size) Ds c'.w hnd (fun D hD=>⟨(hall D hD).1,(hall D hD).2.1⟩) ?_
  intro w' h1 h2 h3 h4 h5
  have hidle:∀ k,w'.heap[k]? = c'.w.heap[k]? ∨ (c.w.heap.size≤k∧¬ c'.owns k∧∃ o,c'.w.heap[k]? = some (.deferred o)):=by
   intro k
   by_cases hk:k∈Ds
   ·exact .inr ⟨(hall k hk).1,(hall k hk).2.2,_,(hall k hk).2.1⟩
   ·exact .inl (h5 k hk)
  have hcells:∀ (k:Nat) cs t fr,c'.w.heap[k]? = some (Obj.cells cs t fr)→w'.heap[k]? = c'.w.heap[k]? := fun k cs t fr hk=>by
   rcases hidle k with h|⟨_,_,o,h⟩
   ·exact h
   ·rw [hk] at h;cases h
  have hst2:St (c'.to w'):=hst.idle h4 fun k o hk=>by
   rcases hidle k with h|⟨_,_,d,h⟩
   ·exact .inl (h.trans hk)
   ·rw [hk] at h;cases h;exact .inr ⟨d,rfl⟩
  have hrel:∀ a x,Rel c' a x→Rel (c'.to w') a x:=fun a x hax=>hax.idle h4 hcells
  exact hfin (c'.to w') (Ev.idle hst hev h1 h2 h3 h4 hidle) hst2 rfl hrel ⟨hr.h,hr.size,Nat.zero_le _,⟨[],rfl,List.nodup_nil,fun D h=>by cases h⟩,(fun l hl=>by cases hl),fun t=>hrel _ _ (hr.tm t)⟩
 cases e with
 |normal =>
  cases hex
  obtain ⟨r,hres,hl⟩:=hQ
  refine fin .returning (by simp) fun c2 hev2 hst2 hh2 hrel2 hsr2=>?_
  obtain ⟨x,hrun,hx⟩:=QaL hst2 hsr2 hres
  rw [← hr.h,← hh2] at hl
  obtain ⟨c3,r',h1,h2,h3,h4,h5⟩:=ZH hs hst2 hev2 hx hl
  exact ⟨x,hrun,.ret r',c3,h1,h2,h3,h4,x,rfl,h5⟩
 |ret =>
  cases hex
  obtain ⟨r,hres,hl⟩:=hQ
  refine fin .returning (by simp) fun c2 hev2 hst2 hh2 hrel2 hsr2=>?_
  obtain ⟨x,hrun,hx⟩:=QaL hst2 hsr2 hres
  rw [← hr.h,← hh2] at hl
  obtain ⟨c3,r',h1,h2,h3,h4,h5⟩:=ZH hs hst2 hev2 hx hl
  exact ⟨x,hrun,.ret r',c3,h1,h2,h3,h4,x,rfl,h5⟩
 |panic av =>
  obtain ⟨x,rfl,hx⟩:=hex
  refine fin (.panicking [{v:=x,recovered:=false}]) (by simp) fun c2 hev2 hst2 hh2 hrel2 hsr2=>?_
  have hl:Leaves c.h s'.h av fun r h'=>Q (.panic r) h':=hQ
  rw [← hr.h,← hh2] at hl
  obtain ⟨c3,r',h1,h2,h3,h4,h5⟩:=ZH hs hst2 hev2 (hrel2 _ _ hx) hl
  exact ⟨.panic r',c3,h1,h2,h3,h4,x,rfl,h5⟩
 |exit id=>exact hQ.elim
end Go.Proofs.YticgcpebdldbgaaDoor.Ab
namespace Go.Proofs.YticgcpebdldbgaaDoor.Ab
theorem hget (h l:AH) (k:Nat):(h++l)[h.length+k]? = l[k]? := by
 rw [List.getElem?_append_right (by omega)];congr 1;omega
theorem Z4 (h l:AH):(h++l)[h.length]? = l[0]? := hget h l 0
theorem hset (h l:AH) (k:Nat) (b:AB):(h++l).set (h.length+k) b=h++l.set k b:=by
 rw [List.set_append_right _ _ (by omega)];congr 2;omega
theorem QbK (h l:AH) (b:AB):(h++l).set h.length b=h++l.set 0 b:=hset h l 0 b
theorem hext {h:AH} {i:Nat} {b:AB} (hb:h[i]? = some b) (l:AH):(h++l)[i]? = some b:=by
 rw [List.getElem?_append_left (Qt hb)];exact hb
theorem hlen (h l:AH):(h++l).length=h.length+l.length:=List.length_append
theorem happ (h l m:AH):(h++l)++m=h++(l++m):=List.append_assoc h l m
theorem htake (h l:AH):(h++l).take h.length=h:=List.take_left
theorem QbZ (l:List AV):(AV.agg l).cells=l:=rfl
theorem Qoa (x:Value):(AV.v x).cells=[.v x]:=rfl
theorem QmK (s:Nat) (xs:List AV) (o:Option Nat):(AV.sl s xs o).cells=[.sl s xs o]:=rfl
theorem QkW (s:Nat) (xs:List AV) (k o:Nat):(AV.pin s xs k o).cells=[.pin s xs k o]:=rfl
theorem QkX (i k o:Nat):(AV.ptr i k o).cells=[.ptr i k o]:=rfl
theorem QkU (i k o:Nat):(AV.arr i k o).cells=[.arr i k o]:=rfl
theorem QmJ (i:Nat):(AV.mp i).cells=[.mp i]:=rfl
theorem QmI (f:Fn) (a b:List AV):(AV.fn f a b).cells=[.fn f a b]:=rfl
theorem QkV (t:TypeId) (x:AV):(AV.ifc t x).cells=[.ifc t x]:=rfl
theorem Qlj (l:List AV):(AV.agg l).isAgg=true:=rfl
theorem Qoj (x:Value):(AV.v x).isAgg=false:=rfl
theorem Qm3 (s:Nat) (xs:List AV) (o:Option Nat):(AV.sl s xs o).isAgg=false:=rfl
theorem Qlm (s:Nat) (xs:List AV) (k o:Nat):(AV.pin s xs k o).isAgg=false:=rfl
theorem Qln (i k o:Nat):(AV.ptr i k o).isAgg=false:=rfl
theorem Qlk (i k o:Nat):(AV.arr i k o).isAgg=false:=rfl
theorem Qm2 (i:Nat):(AV.mp i).isAgg=false:=rfl
theorem Qm1 (f:Fn) (a b:List AV):(AV.fn f a b).isAgg=false:=rfl
theorem Qll (t:TypeId) (x:AV):(AV.ifc t x).isAgg=false:=rfl
theorem QkP (k:IntKind) (n:Int):(AV.v (.int k n)).cell1=true:=rfl
theorem QjC (b:Bool):(AV.v (.bool b)).cell1=true:=rfl
theorem QkT (b:ByteArray):(AV.v (.string b)).cell1=true:=rfl
theorem QhZ (a:Option Addr) (m n:Nat):(AV.v (.slice a m n)).cell1=true:=rfl
theorem QkQ (a:Option Nat):(AV.v (.map a)).cell1=true:=rfl
theorem Qf3 (a:Option Addr):(AV.v (.pointer a)).cell1=true:=rfl
theorem Qf2:(AV.v .nilFunc).cell1=true:=rfl
theorem QeL:(AV.v .nilIface).cell1=true:=rfl
theorem QmH (s:Nat) (xs:List AV) (o:Option Nat):(AV.sl s xs o).cell1=true:=rfl
theorem QkR (s:Nat) (xs:List AV) (k o:Nat):(AV.pin s xs k o).cell1=true:=rfl
theorem QkS (i k o:Nat):(AV.ptr i k o).cell1=true:=rfl
theorem QkN (i k o:Nat):(AV.arr i k o).cell1=true:=rfl
theorem QmG (i:Nat):(AV.mp i).cell1=true:=rfl
theorem QmF (f:Fn) (a b:List AV):(AV.fn f a b).cell1=true:=rfl
theorem QkO (t:TypeId) (x:AV):(AV.ifc t x).cell1=true:=rfl
theorem QbN (k:IntKind) (n:Int):AV.ofV (.int k n) = .v (.int k n):=rfl
theorem Yf (b:Bool):AV.ofV (.bool b) = .v (.bool b):=rfl
theorem Qoq (b:ByteArray):AV.ofV (.string b) = .v (.string b):=rfl
theorem Qch (a:Option Addr) (m n:Nat):AV.ofV (.slice a m n) = .v (.slice a m n):=rfl
theorem Qop (a:Option Nat):AV.ofV (.map a) = .v (.map a):=rfl
theorem Qiq (a:Option Addr):AV.ofV (.pointer a) = .v (.pointer a):=rfl
theorem Qip:AV.ofV .nilFunc = .v .nilFunc:=rfl
theorem Qho:AV.ofV .nilIface = .v .nilIface:=rfl
theorem Qoo (cs:Array Value):AV.ofV (.agg cs) = .agg (cs.toList.map .v):=rfl
section
variable (P:Program) (t:TypeId) (xo yo:Operand) (k:IntKind) (a b:Int)
theorem Qpl:pv P (do eqGuard .eql t xo yo (.int k a) (.int k b);binOp .eql t (.int k a) (.int k b))=some (.bool (a==b)):=by cases k <;> rfl
theorem Qpu:pv P (do eqGuard .neq t xo yo (.int k a) (.int k b);binOp .neq t (.int k a) (.int k b))=some (.bool (a != b)):=by cases k <;> rfl
theorem Qpp:pv P (do eqGuard .lss t xo yo (.int k a) (.int k b);binOp .lss t (.int k a) (.int k b))=some (.bool (a<b)):=by cases k <;> rfl
theorem Qpo:pv P (do eqGuard .leq t xo yo (.int k a) (.int k b);binOp .leq t (.int k a) (.int k b))=some (.bool (a≤b)):=by cases k <;> rfl
theorem Qpn:pv P (do eqGuard .gtr t xo yo (.int k a) (.int k b);binOp .gtr t (.int k a) (.int k b))=some (.bool (a>b)):=by cases k <;> rfl
theorem Qpm:pv P (do eqGuard .geq t xo yo (.int k a) (.int k b);binOp .geq t (.int k a) (.int k b))=some (.bool (a≥b)):=by cases k <;> rfl
theorem Qpj:pv P (do eqGuard .add t xo yo (.int k a) (.int k b);binOp .add t (.int k a) (.int k b))=some (.int k (k.wrap (a+b))):=by cases k <;> rfl
theorem Qpw:pv P (do eqGuard .sub t xo yo (.int k a) (.int k b);binOp .sub t (.int k a) (.int k b))=some (.int k (k.wrap (a - b))):=by cases k <;> rfl
theorem Qps:pv P (do eqGuard .mul t xo yo (.int k a) (.int k b);binOp .mul t (.int k a) (.int k b))=some (.int k (k.wrap (a * b))):=by cases k <;> rfl
theorem Qpv (x:Bool):pv P (Op.unary .not (.bool x))=some (.bool !x):=rfl
theorem Qpt:pv P (Op.unary .neg (.int k a))=some (.int k (k.wrap (0 - a))):=by cases k <;> rfl
theorem Qpq (ty:TypeId) (ts:Array TypeId):pv P (Builtin.max_ ts ty #[.int k a,.int k b])=some (.int k (if b>a then b else a)):=by cases k <;> rfl
theorem Qpr (ty:TypeId) (ts:Array TypeId):pv P (Builtin.min_ ts ty #[.int k a,.int k b])=some (.int k (if b<a then b else a)):=by cases k <;> rfl
end
theorem YX {α β:Type} (P:Program):∀ (x:Sem α) (f:α→Sem β),pv P (x >>= f)=(pv P x).bind fun a=>pv P (f a)
 | .pure a,f=>rfl
 | .program k,f=>YX P (k P) f
 | .mark m k,f=>YX P k f
 | .load _ _ _,f | .store _ _ _ _,f | .new _ _,f | .shape _ _,f | .freeze _ _ _,f | .frozen _ _,f | .getObj _ _,f | .setObj _ _ _,f | .choose _ _,f | .sys _ _,f | .halt _,f=>rfl
theorem Qgq (P:Program) (t:TypeId) (ht:P.underlying t=some .bool) (a b:Bool):pv P (Op.equal t (.bool a) (.bool b))=some (a==b):=by
 have h:∀ n,pv P (Op.equalIn (n+1) t (.bool a) (.bool b))=some (a==b):=by
  intro n
  simp only [Op.equalIn,underlying]
  rw [YX,YX]
  simp only [program,pv,Qq4,ht]
  rfl
 exact h 9999
theorem Qow (P:Program) (t:TypeId) (xo yo:Operand) (ht:P.underlying t=some .bool) (a b:Bool):pv P (do eqGuard .eql t xo yo (.bool a) (.bool b);binOp .eql t (.bool a) (.bool b))=some (.bool (a==b)):=by
 have h1:pv P (binOp .eql t (.bool a) (.bool b))=some (.bool (a==b)):=by
  show pv P (do let r←Op.equal t (.bool a) (.bool b);pure (Value.bool r))=_
  rw [YX,Qgq P t ht];rfl
 rw [YX]
 show (some ()).bind _=_
 exact h1
theorem Qoy (P:Program) (t:TypeId) (xo yo:Operand) (a b:ByteArray):pv P (do eqGuard .eql t xo yo (.string a) (.string b);binOp .eql t (.string a) (.string b))=some (.bool (a.toList==b.toList)):=rfl
theorem QoB (P:Program) (t:TypeId) (xo yo:Operand) (a b:ByteArray):pv P (do eqGuard .neq t xo yo (.string a) (.string b);binOp .neq t (.string a) (.string b))=some (.bool !(a.toList==b.toList)):=rfl
theorem QoA (P:Program) (t:TypeId) (xo yo:Operand) (a b:ByteArray):pv P (do eqGuard .lss t xo yo (.string a) (.string b);binOp .lss t (.string a) (.string b))=some (.bool (Op.bytesLess a.toList b.toList)):=rfl
theorem Qoz (P:Program) (t:TypeId) (xo yo:Operand) (a b:ByteArray):pv P (do eqGuard .gtr t xo yo (.string a) (.string b);binOp .gtr t (.string a) (.string b))=some (.bool !(Op.bytesLess a.toList b.toList||a.toList==b.toList)):=rfl
theorem Zz (P:Program) (t ty:TypeId) (ht:P.underlying t=some .string) (s:ByteArray):pv P (Builtin.len_ #[t] ty #[.string s])=some (goInt s.size):=by
 simp only [Builtin.len_,Qq2,QqZ,underlying,program,Bind.bind,Sem.bind,pv,ht]
 rfl
theorem Qck (P:Program) (t ty e:TypeId) (ht:P.underlying t=some (.slice e)):pv P (Builtin.len_ #[t] ty #[.slice none 0 0])=some (goInt 0):=by
 simp only [Builtin.len_,Qq2,QqZ,underlying,program,Bind.bind,Sem.bind,pv,ht]
 rfl
theorem Y8 (K:AS→Prop) (Q:AExit→AS→Prop) (s:AS):AExit.then K Q .normal s=K s:=rfl
theorem QgQ (i:Nat) (Q:AExit→AS→Prop) (s:AS):AExit.inBlock i Q .normal s=Q .normal s:=rfl
theorem Qe6 (i j:Nat) (Q:AExit→AS→Prop) (s:AS):AExit.inBlock i Q (.exit j) s=if j=i then Q .normal s else Q (.exit j) s:=rfl
end Go.Proofs.YticgcpebdldbgaaDoor.Ab
namespace Go.Proofs.YticgcpebdldbgaaDoor.Ab
theorem Q8 (N:Nat) (tm:Nat→AV) (h:AH) (d:Nat) (x:AV) (hd:d<N):AS.put N ⟨tm,h⟩ (some d) x=⟨upd tm d x,h⟩:=if_pos hd
theorem Xb (P:Program) (N:Nat) (ops:Array Oper) (K:AS→Prop) (E:AV→AS→Prop) (tm:Nat→AV) (h:AH):OpsW P N ops [] K E ⟨tm,h⟩=K ⟨tm,h⟩:=rfl
theorem Xh (P:Program) (N:Nat) (ops:Array Oper) (o:Oper) (l:List Oper) (K:AS→Prop) (E:AV→AS→Prop) (tm:Nat→AV) (h:AH):OpsW P N ops (o::l) K E ⟨tm,h⟩=(match Qd ops tm o with|some true=>OpW P N o ⟨tm,h⟩ (OpsW P N ops l K E) E|some false=>OpsW P N ops l K E (AS.put N ⟨tm,h⟩ o.dst (.v undef))|none=>False):=rfl
theorem Qnm (N:Nat) (tm:Nat→AV) (h:AH) (x:AV):AS.put N ⟨tm,h⟩ none x=⟨tm,h⟩:=rfl
theorem Yq (f:Nat→AV) (d t:Nat) (x:AV):upd f d x t=if t=d then x else f t:=rfl
theorem QoZ (tm:Nat→AV) (h:AH) (t:Nat):AS.ev ⟨tm,h⟩ (.tmp t)=tm t:=rfl
theorem QmP (tm:Nat→AV) (h:AH) (v:Value):AS.ev ⟨tm,h⟩ (.const v)=AV.ofV v:=rfl
theorem Qoc (tm:Nat→AV) (h:AH) (f:FuncId):AS.ev ⟨tm,h⟩ (.func f) = .fn (.func f) [] []:=rfl
end Go.Proofs.YticgcpebdldbgaaDoor.Ab
namespace Go.Proofs.YticgcpebdldbgaaDoor.Ab
theorem Qk {P:Program} {N:Nat} {Q:AExit→AS→Prop} {s:AS} {id:Nat} {ops:Array Oper}
  (H:∀ (K:AS→Prop) (E:AV→AS→Prop),(∀ s,Q .normal s→K s)→(∀ r s,Q (.panic r) s→E r s)→OpsW P N ops ops.toList K E s):XF P N (.region id ops false) Q s :=
 Qc1 (H _ _ (fun _ h=>h) (fun _ _ h=>h))
theorem Qa {P:Program} {N:Nat} {Q:AExit→AS→Prop} {s:AS} {id:Nat} {ops:Array Oper} {y:Code}
  (H:∀ (K:AS→Prop) (E:AV→AS→Prop),(∀ s,XF P N y Q s→K s)→(∀ r s,Q (.panic r) s→E r s)→OpsW P N ops ops.toList K E s):XF P N (.seq (.region id ops false) y) Q s :=
 Qal (Qc1 (H _ _ (fun _ h=>h) (fun _ _ h=>h)))
theorem Qb {K:AS→Prop} {Q:AExit→AS→Prop} {s:AS} (h:K s):AExit.then K Q .normal s:=h
theorem Qu {K:AS→Prop} {Q:AExit→AS→Prop} {s:AS} (h:Q .ret s):AExit.then K Q .ret s:=h
theorem QD {K:AS→Prop} {Q:AExit→AS→Prop} {s:AS} {i:Nat} (h:Q (.exit i) s):AExit.then K Q (.exit i) s:=h
theorem QM {K:AS→Prop} {Q:AExit→AS→Prop} {s:AS} {x:AV} (h:Q (.panic x) s):AExit.then K Q (.panic x) s:=h
theorem Qo {i:Nat} {Q:AExit→AS→Prop} {s:AS} (h:Q .normal s):AExit.inBlock i Q .normal s:=h
theorem Qy {i:Nat} {Q:AExit→AS→Prop} {s:AS} (h:Q .ret s):AExit.inBlock i Q .ret s:=h
theorem Q6 {i:Nat} {Q:AExit→AS→Prop} {s:AS} {x:AV} (h:Q (.panic x) s):AExit.inBlock i Q (.panic x) s:=h
theorem QC {i:Nat} {Q:AExit→AS→Prop} {s:AS} (h:Q .normal s):AExit.inBlock i Q (.exit i) s:=by
 rw [Qe6,if_pos rfl];exact h
theorem QW {i j:Nat} {Q:AExit→AS→Prop} {s:AS} (hj:(j==i)=false) (h:Q (.exit j) s):AExit.inBlock i Q (.exit j) s:=by
 rw [Qe6,if_neg (by simpa using hj)];exact h
end Go.Proofs.YticgcpebdldbgaaDoor.Ab
set_option linter.unusedSectionVars false
namespace Go.Proofs.YticgcpebdldbgaaDoor.Ab
def Keep (h h' : AH) : Prop := ∀ (id : Nat) (b : AB), h[id]? = some b → (∀ e s n, b ≠ .grow e s n) → h'[id]? = some b
theorem Keep.refl (h : AH) : Keep h h := fun _ _ h _ => h
theorem Keep.trans {a b c : AH} (h : Keep a b) (k : Keep b c) : Keep a c := fun id x hx hn => k id x (h id x hx hn) hn
theorem Keep.nil (h : AH) : Keep [] h := fun id b hb => by simp at hb
theorem Keep.app (h l : AH) : Keep h (h ++ l) := fun id b hb _ => hext hb l
theorem Keep.QqR {h : AH} {i : Nat} {e s n : Nat} (hi : h[i]? = some (.grow e s n)) (b : AB) : Keep h (h.set i b) := fun id x hx hn => by
  have hne : i ≠ id := fun e' => by subst e'; rw [hi] at hx; cases hx; exact hn _ _ _ rfl
  rw [List.getElem?_set_ne hne]; exact hx
def Qbb : Op → Bool
  | .move _ | .assign _ | .pick .. | .build .. | .load .. | .binOp .. | .unOp .. | .convert .. | .makeFunc .. | .makeInterface .. | .fieldAddr .. | .field .. | .indexAddr .. | .index .. | .lookup .. | .extract .. | .nilCheck _ | .typeAssert .. => true
  | .buildSlice _ n _ => n != 0
  | .slice _ _ _ _ m => m.isNone
  | .call c => match c.callee with
    | .builtin .len | .builtin .min | .builtin .max | .builtin .unsafeSliceData => true
    | _ => false
  | _ => false
def QbX : Op → Bool
  | .alloc _ | .box .. | .buildSlice .. | .makeMap .. | .makeSlice .. => true
  | .slice _ _ _ _ m => m.isSome
  | .call c => match c.callee with
    | .builtin .append => true
    | _ => false
  | _ => false
theorem YD {α : Type} {x : Option α} {h h1 : AH} {r : α} (e : x.map (·, h) = some (r, h1)) : x = some r ∧ h1 = h := by
  cases x <;> simp at e
  exact ⟨by rw [e.1], e.2.symm⟩
theorem Yl {h h' : AH} (k : Keep h h') {id : Nat} {t s : Nat} {xs : List AV} (e : h[id]? = some (.cells t s xs)) : h'[id]? = some (.cells t s xs) := k id _ e (fun _ _ _ h => by cases h)
theorem get_map {h h' : AH} (k : Keep h h') {id : Nat} {es : List (Value × AV)} (e : h[id]? = some (.map es)) : h'[id]? = some (.map es) := k id _ e (fun _ _ _ h => by cases h)
section
variable {P : Program} {h h' : AH} (k : Keep h h')
include k
theorem Qju {t : TypeId} {x r : AV} (e : Qw P t x h = some r) : Qw P t x h' = some r := by
  unfold Qw at e ⊢
  cases x <;> simp only at e ⊢ <;> try exact e
  split at e
  · rename_i hb; rw [Yl k hb]; exact e
  · cases e
theorem QdI {t : TypeId} {x r : AV} {i : Nat} (e : Qg P t x i h = some r) : Qg P t x i h' = some r := by
  unfold Qg at e ⊢
  cases hf : fieldInfo P t i with
  | none => simp [hf] at e
  | some p =>
    simp only [hf] at e ⊢
    cases x <;> simp only at e ⊢ <;> try exact e
    split at e
    · rename_i hb; rw [Yl k hb]; exact e
    · cases e
theorem QdJ {t : TypeId} {x i r : AV} (e : QK P t x i h = some r) : QK P t x i h' = some r := by
  unfold QK at e ⊢
  cases hf : Xa P t with
  | none => simp [hf] at e
  | some p =>
    simp only [hf] at e ⊢
    split at e
    · cases x <;> simp only at e ⊢ <;> try exact e
      split at e
      · rename_i hb; rw [Yl k hb]; exact e
      · cases e
    · cases e
theorem Qkw {t ty : TypeId} {x r : AV} (e : aLen P t ty x h = some r) : aLen P t ty x h' = some r := by
  unfold aLen at e ⊢
  cases x <;> simp only at e ⊢ <;> try exact e
  · split at e
    · rename_i hu hb; rw [hu, Yl k hb]; exact e
    · cases e
  · split at e
    · rename_i hu hb; rw [hu, Yl k hb]; exact e
    · cases e
  · split at e
    · rename_i hu hb; rw [hu, get_map k hb]; exact e
    · cases e
theorem Qke {n : Nat} {x : AV} {ys : List AV} (e : Yb n h x = some ys) : Yb n h' x = some ys := by
  unfold Yb at e ⊢
  split at e <;> try exact e
  · split at e
    · rename_i hb; rw [Yl k hb]; exact e
    · cases e
  · split at e
    · rename_i hb; rw [Yl k hb]; exact e
    · cases e
theorem QhR {s d : TypeId} {x r : AV} (e : Qe0 P s d x h = some r) : Qe0 P s d x h' = some r := by
  unfold Qe0 at e ⊢
  split at e
  · rename_i hb hs
    rw [hb, Qke k hs]
    exact e
  · cases e
theorem QhT {t : TypeId} {x r : AV} {lo hi : Option AV} (e : Qaj P t x lo hi h = some r) : Qaj P t x lo hi h' = some r := by
  unfold Qaj at e ⊢
  cases hf : Xa P t with
  | none => simp only [hf] at e ⊢; exact e
  | some p =>
    simp only [hf] at e ⊢
    split at e <;> try exact e
    · split at e
      · rename_i hb; rw [Yl k hb]; exact e
      · cases e
    · split at e
      · rename_i hb; rw [Yl k hb]; exact e
      · cases e
theorem Qed {t : TypeId} {x : AV} {b : Value} (e : notNil P t h x b = true) : notNil P t h' x b = true := by
  unfold notNil at e ⊢
  split at e <;> first
    | exact e
    | (split at e
       · rename_i hu hb
         first
           | rw [hu, Yl k hb]
           | rw [hu, get_map k hb]
       · cases e)
    | cases e
theorem QhS {op : BinOp} {t : TypeId} {x y r : AV} (e : Qe1 P op t x y h = some r) : Qe1 P op t x y h' = some r := by
  unfold Qe1 at e ⊢
  split at e
  · split at e
    · rename_i hu hb
      rw [hu, Yl k hb]
      exact e
    · cases e
  · cases e
theorem QgI {s d : TypeId} {id kk off : Nat} {r : AV} (e : QcB P s d id kk off h = some r) : QcB P s d id kk off h' = some r := by
  unfold QcB at e ⊢
  split at e
  · rename_i hb
    rw [Yl k hb]
    exact e
  · cases e
theorem QfR {x : AV} (e : Qs h x = true) : Qs h' x = true := by
  cases x <;> simp only [Qs] at e ⊢ <;> try exact e
  split at e
  · rename_i hb; rw [Yl k hb]
  · cases e
theorem Qkv {op : BinOp} {t : TypeId} {xo yo : Operand} {x y r : AV} (e : aBin P op t xo yo x y h = some r) : aBin P op t xo yo x y h' = some r := by
  unfold aBin at e ⊢
  split at e
  · exact e
  · rename_i b hnv
    split at e
    · split at e
      · rename_i hn; rw [Qed k hn]; simpa using e
      · cases e
    · split at e
      · rename_i hn; rw [Qed k hn]; simpa using e
      · cases e
    · cases e
  · exact QhS k e
  · exact e
  · cases e
theorem QgG {t : TypeId} {x y r : AV} {ok : Bool} (e : Zw P t x y ok h = some r) : Zw P t x y ok h' = some r := by
  unfold Zw at e ⊢
  cases hf : QaG P t with
  | none => simp [hf] at e
  | some p =>
    simp only [hf] at e ⊢
    cases y with
    | v kv =>
      simp only at e ⊢
      cases x with
      | mp id =>
        simp only at e ⊢
        cases hb : h[id]? with
        | none => simp [hb] at e
        | some b =>
          cases b with
          | map es => rw [get_map k hb]; rw [hb] at e; exact e
          | _ => simp [hb] at e
      | v x => cases x with
        | map r => cases r <;> exact e
        | _ => exact e
      | _ => exact e
    | _ => exact e
theorem Qdi {t : TypeId} {n : Nat} (hn : (n != 0) = true) {parts : List (Nat × AV)} {r : AV} {h1 : AH} (e : QH P t n parts h = some (r, h1)) : h1 = h ∧ QH P t n parts h' = some (r, h') := by
  unfold QH at e ⊢
  have hn' : n ≠ 0 := by simpa using hn
  cases hf : Xa P t with
  | none => simp [hf] at e
  | some p =>
    simp only [hf, if_neg hn'] at e ⊢
    split at e
    · rename_i hc; rw [if_pos hc]; cases e; exact ⟨rfl, rfl⟩
    · cases e
theorem QfT {ev : Operand → AV} {ty : TypeId} {op : Op} (hl : Qbb op = true) {r : AV} {h1 : AH} (e : aop P ev ty h op = some (r, h1)) : h1 = h ∧ aop P ev ty h' op = some (r, h') := by
  cases op with
  | move x => simp only [aop] at e ⊢; cases e; exact ⟨rfl, rfl⟩
  | assign x => simp only [aop] at e ⊢; cases e; exact ⟨rfl, rfl⟩
  | pick c a b =>
    simp only [aop] at e ⊢
    split at e
    · cases e; exact ⟨rfl, rfl⟩
    · cases e
  | build t parts => simp only [aop] at e ⊢; obtain ⟨e1, e2⟩ := YD e; rw [e1]; exact ⟨e2, rfl⟩
  | buildSlice t n parts => simp only [aop] at e ⊢; exact Qdi k hl e
  | load t a => simp only [aop] at e ⊢; obtain ⟨e1, e2⟩ := YD e; rw [Qju k e1]; exact ⟨e2, rfl⟩
  | binOp b t x y t2 => simp only [aop] at e ⊢; obtain ⟨e1, e2⟩ := YD e; rw [Qkv k e1]; exact ⟨e2, rfl⟩
  | unOp b t x =>
    simp only [aop] at e ⊢
    split at e
    · obtain ⟨z, e1, e2⟩ := Option.map_eq_some_iff.1 e; cases e2; rw [e1]; exact ⟨rfl, rfl⟩
    · cases e
  | convert s d x =>
    simp only [aop] at e ⊢
    split at e
    · obtain ⟨z, e1, e2⟩ := Option.map_eq_some_iff.1 e; cases e2; rw [e1]; exact ⟨rfl, rfl⟩
    · obtain ⟨e1, e2⟩ := YD e; rw [QgI k e1]; exact ⟨e2, rfl⟩
    · obtain ⟨e1, e2⟩ := YD e; rw [QhR k e1]; exact ⟨e2, rfl⟩
  | nilCheck x =>
    simp only [aop] at e ⊢
    split at e
    · rename_i hn; rw [QfR k hn]; cases e; exact ⟨rfl, rfl⟩
    · cases e
  | typeAssert x xt t ok => simp only [aop] at e ⊢; obtain ⟨e1, e2⟩ := YD e; rw [e1]; exact ⟨e2, rfl⟩
  | makeFunc f a b => simp only [aop] at e ⊢; cases e; exact ⟨rfl, rfl⟩
  | makeInterface t x =>
    simp only [aop] at e ⊢
    split at e
    · cases e
    · cases e; exact ⟨rfl, rfl⟩
    · cases e
  | slice t x lo hi mx =>
    simp only [aop] at e ⊢
    cases mx with
    | none => simp only at e ⊢; obtain ⟨e1, e2⟩ := YD e; rw [QhT k e1]; exact ⟨e2, rfl⟩
    | some m => simp [Qbb] at hl
  | fieldAddr t x i => simp only [aop] at e ⊢; obtain ⟨e1, e2⟩ := YD e; rw [QdI k e1]; exact ⟨e2, rfl⟩
  | field t x i => simp only [aop] at e ⊢; obtain ⟨e1, e2⟩ := YD e; rw [e1]; exact ⟨e2, rfl⟩
  | indexAddr t x i => simp only [aop] at e ⊢; obtain ⟨e1, e2⟩ := YD e; rw [QdJ k e1]; exact ⟨e2, rfl⟩
  | index t x i =>
    simp only [aop] at e ⊢
    split at e
    · obtain ⟨z, e1, e2⟩ := Option.map_eq_some_iff.1 e; cases e2; rw [e1]; exact ⟨rfl, rfl⟩
    · cases e
  | lookup t x y ok => simp only [aop] at e ⊢; obtain ⟨e1, e2⟩ := YD e; rw [QgG k e1]; exact ⟨e2, rfl⟩
  | extract t i => simp only [aop] at e ⊢; obtain ⟨e1, e2⟩ := YD e; rw [e1]; exact ⟨e2, rfl⟩
  | call c =>
    obtain ⟨cal, args, tys⟩ := c
    cases cal with
    | builtin b =>
      cases b with
      | len =>
        simp only [aop] at e ⊢
        split at e
        · obtain ⟨e1, e2⟩ := YD e; rw [Qkw k e1]; exact ⟨e2, rfl⟩
        · cases e
      | min =>
        simp only [aop] at e ⊢
        split at e
        · obtain ⟨z, e1, e2⟩ := Option.map_eq_some_iff.1 e; cases e2; rw [e1]; exact ⟨rfl, rfl⟩
        · cases e
      | max =>
        simp only [aop] at e ⊢
        split at e
        · obtain ⟨z, e1, e2⟩ := Option.map_eq_some_iff.1 e; cases e2; rw [e1]; exact ⟨rfl, rfl⟩
        · cases e
      | unsafeSliceData =>
        simp only [aop] at e ⊢
        split at e
        · obtain ⟨e1, e2⟩ := YD e; rw [e1]; exact ⟨e2, rfl⟩
        · cases e
      | _ => simp [Qbb] at hl
    | _ => simp [Qbb] at hl
  | _ => simp [Qbb] at hl
end
theorem QmC {P : Program} {h : AH} {ev : Operand → AV} {ty : TypeId} {op : Op} (hl : QbX op = true) {r : AV} {h1 : AH} (e : aop P ev ty h op = some (r, h1)) : Keep h h1 := by
  cases op with
  | alloc t =>
    simp only [aop] at e
    split at e
    · split at e
      · cases e; exact Keep.app _ _
      · cases e
    · cases e
  | box t x =>
    simp only [aop] at e
    split at e
    · cases e; exact Keep.app _ _
    · cases e
  | buildSlice t n parts =>
    simp only [aop, QH] at e
    split at e
    · split at e
      · split at e
        · cases e; exact Keep.app _ _
        · cases e; exact Keep.refl _
      · cases e
    · cases e
  | slice t x lo hi mx =>
    cases mx with
    | none => simp [QbX] at hl
    | some m =>
      simp only [aop, QfS] at e
      split at e
      · split at e
        · cases e; exact Keep.app _ _
        · cases e
      · cases e
  | makeSlice t l n =>
    simp only [aop] at e
    split at e
    · rename_i x hm
      cases e
      unfold QmB at hm
      repeat' split at hm
      all_goals first
        | (cases hm; exact Keep.app _ _)
        | cases hm
    · unfold QiJ at e
      repeat' split at e
      all_goals first
        | (cases e; exact Keep.app _ _)
        | cases e
  | makeMap t r =>
    simp only [aop] at e
    split at e
    · cases e; exact Keep.app _ _
    · split at e
      · cases e; exact Keep.app _ _
      · cases e
    · cases e
  | call c =>
    obtain ⟨cal, args, tys⟩ := c
    cases cal with
    | builtin b =>
      cases b with
      | append =>
        simp only [aop] at e
        split at e
        · unfold XD at e
          split at e
          · split at e
            · split at e
              · split at e
                · cases e; exact Keep.app _ _
                · cases e
              · split at e
                · rename_i hb
                  split at e
                  · cases e; exact Keep.QqR hb _
                  · cases e
                · split at e
                  · split at e
                    · cases e; exact Keep.refl _
                    · cases e; exact Keep.app _ _
                  · cases e
                · cases e
              · cases e
            · cases e
          · cases e
        · cases e
      | _ => simp [QbX] at hl
    | _ => simp [QbX] at hl
  | _ => simp [QbX] at hl
def QgE : Op → Bool
  | .store .. | .mapUpdate .. | .insert .. => true
  | .call c => match c.callee with
    | .builtin .copy | .builtin .unsafeString => true
    | _ => false
  | _ => false
theorem QkD {P : Program} {h : AH} {ev ev' : Operand → AV} {ty : TypeId} {op : Op} (he : ∀ x ∈ op.operands, ev x = ev' x) (hl : (Qbb op || QbX op || QgE op) = true) : aop P ev ty h op = aop P ev' ty h op := by
  have hp : ∀ {α : Type} (parts : Array (α × Operand)), (∀ x ∈ parts.map (·.2), ev x = ev' x) → (parts.toList.map fun p => (p.1, ev p.2)) = (parts.toList.map fun p => (p.1, ev' p.2)) := fun parts hh => by
    refine List.map_congr_left fun p hp => ?_
    rw [hh p.2 (Array.mem_map.2 ⟨p, Array.mem_def.2 hp, rfl⟩)]
  have ha : ∀ (l : Array Operand), (∀ x ∈ l, ev x = ev' x) → l.toList.map ev = l.toList.map ev' := fun l hh => List.map_congr_left fun p hp => hh p (Array.mem_def.2 hp)
  have ho : ∀ (l : Option Operand), (∀ x, l = some x → ev x = ev' x) → l.map ev = l.map ev' := fun l hh => by
    cases l with
    | none => rfl
    | some x => simp [hh x rfl]
  cases op with
  | build t parts => simp only [aop]; rw [hp parts (fun x hx => he x (by simpa [Op.operands] using hx))]
  | buildSlice t n parts => simp only [aop]; rw [hp parts (fun x hx => he x (by simpa [Op.operands] using hx))]
  | makeFunc f a b =>
    simp only [aop]
    rw [ha a (fun x hx => he x (by simp [Op.operands, hx])), ha b (fun x hx => he x (by simp [Op.operands, hx]))]
  | makeMap t r => simp only [aop]; rw [ho r (fun x hx => he x (by simp [Op.operands, hx]))]
  | slice t x l hh m =>
    simp only [aop]
    rw [ho l (fun x hx => he x (by simp [Op.operands, hx])), ho hh (fun x hx => he x (by simp [Op.operands, hx])), he x (by simp [Op.operands])]
    cases m with
    | none => rfl
    | some m => simp only; rw [he m (by simp [Op.operands])]
  | call c =>
    obtain ⟨cal, args, tys⟩ := c
    cases cal with
    | builtin b =>
      have hargs := ha args (fun x hx => he x (by simp [Op.operands, Call.operands, hx]))
      have hone : ∀ x, args.toList = [x] → ev x = ev' x := fun x hx => he x (by simp [Op.operands, Call.operands, Array.mem_def, hx])
      have htwo : ∀ x y, args.toList = [x, y] → ev x = ev' x ∧ ev y = ev' y := fun x y hx => ⟨he x (by simp [Op.operands, Call.operands, Array.mem_def, hx]), he y (by simp [Op.operands, Call.operands, Array.mem_def, hx])⟩
      cases b with
      | len =>
        simp only [aop]
        split
        · rename_i h1 h2; rw [hone _ h1]
        · rfl
      | append =>
        simp only [aop]
        split
        · rename_i h1 h2; rw [(htwo _ _ h1).1, (htwo _ _ h1).2]
        · rfl
      | min => simp only [aop]; rw [hargs]
      | max => simp only [aop]; rw [hargs]
      | cap =>
        simp only [aop]
        split
        · rename_i h1 h2; rw [hone _ h1]
        · rfl
      | copy =>
        simp only [aop]
        split
        · rename_i h1 h2; rw [(htwo _ _ h1).1, (htwo _ _ h1).2]
        · rfl
      | unsafeString =>
        simp only [aop]
        split
        · rename_i h1 h2; rw [(htwo _ _ h1).1, (htwo _ _ h1).2]
        · rfl
      | unsafeSliceData =>
        simp only [aop]
        split
        · rename_i h1; rw [hone _ h1]
        · rfl
      | clear =>
        simp only [aop]
        split
        · rename_i h1 h2; rw [hone _ h1]
        · rfl
      | _ => rfl
    | _ => simp [Qbb, QbX, QgE] at hl
  | _ =>
    first
      | (simp [Qbb, QbX, QgE] at hl; done)
      | (simp [Op.operands] at he; simp only [aop, he]; done)
      | (simp only [aop]; done)
end Go.Proofs.YticgcpebdldbgaaDoor.Ab
namespace Go.Proofs.YticgcpebdldbgaaDoor.Ab
theorem QeI {P:Program} {c:Cx} (hst:St c) {t e:TypeId} {n len:Nat} {parts:List (Nat×AV)} {vals:Array (Nat×Value)} {r:AV} {h':AH} (he:Xa P t=some (e,n)) (ha:QH P t len parts c.h=some (r,h'))
  (hi:parts.map (·.1)=vals.toList.map (·.1)) (hv:RelL c (parts.map (·.2)) (vals.toList.map (·.2)).toArray) :
  ∃ y c',(Instr.buildSlice t len vals).run P c.w = .ok y c'.w∧Ev c c'∧St c'∧c'.h=c.h++[.grow e n (parts.map (·.2)).length]∧Rel c' (.sl n (parts.map (·.2)) (some c.h.length)) y:=by
 unfold QH at ha
 ·obtain ⟨hu,hsz⟩:=XK he
  simp only [he] at ha
  split at ha
  ·rename_i hh
   obtain ⟨h1,h2,h3,h4,h5⟩:=hh
   cases hz:Xs P e with
   |none=>simp [hz] at h5
   |some z =>
    obtain ⟨v,hrun,rfl⟩:=Ze hz
    simp only [hz,Option.any_some,Bool.and_eq_true,beq_iff_eq] at h5
    obtain ⟨hrl0,hone0⟩:=Zp (ZO c v) h5.1
    have hvn:v.cells.size=n:=by rw [hrl0.1];exact h5.2
    have hlen:parts.length=len:=by have:=congrArg List.length h1;simpa using this
    have hall:∀ x∈parts.map (·.2),x.Qp8=true∧x.cells.length=n:=by
     intro x hx
     simp only [List.mem_map] at hx
     obtain ⟨p,hp,rfl⟩:=hx
     simp only [List.all_eq_true,Bool.and_eq_true,beq_iff_eq] at h2
     exact h2 p hp
    -- the zero cells
    let zs:Array Value:=(Array.range (len * n)).map (v.cells[· % v.cells.size]!)
    have hzs:zs.size=len * n:=by simp [zs]
    have hzone:∀ x∈zs.toList,x.oneCell'=true:=by
     intro x hx
     simp only [zs,Array.mem_toList_iff,Array.mem_map] at hx
     obtain ⟨i,_,rfl⟩:=hx
     have hlt:i % v.cells.size<v.cells.size:=Nat.mod_lt _ (by omega)
     rw [getElem!_pos v.cells _ hlt]
     exact hone0 _ (by rw [Array.mem_toList_iff];exact Array.getElem_mem hlt)
    have hjunk:RelL c (List.replicate (len * n) AV.junk) zs:=by
     refine ⟨by simp [hzs],fun j a u ha hu=>?_⟩
     rw [List.getElem?_replicate] at ha
     split at ha
     ·cases ha;exact .junk u
     ·cases ha
    have hfill:Xu (fun i=>some (i * n,n)) (List.replicate (len * n) AV.junk) parts=some (flat (parts.map (·.2))):=by
     have:=QbW (n:=n) (parts.map (·.2)) 0 (List.replicate (len * n) AV.junk) hall (by simp [hlen])
     have e:(List.range' 0 (parts.map (·.2)).length).zip (parts.map (·.2))=parts:=by
      rw [List.length_map,hlen,← List.range_eq_range',← h1]
      exact Z3 parts
     rw [e] at this
     rw [this]
     simp [hlen]
    obtain ⟨cs',hf,hrl,_,hone⟩:=ZV hi hv hfill hjunk hzone
    have hfl:(flat (parts.map (·.2))).length=len * n:=by
     rw [flat_length (fun x hx=>(hall x hx).2)];simp [hlen]
    have hrun':(Instr.buildSlice t len vals).run P c.w = .ok (.slice (some ⟨c.w.heap.size,0,none⟩) len len) (c.w.alloc (.cells cs' e)):=by
     have h3':¬ len * n>2 ^ 24:=by omega
     simp only [Instr.buildSlice,Sem.run_bind,underlying,run_program,Result.andThen_ok,hu,Sem.run_pure,hsz,h3',if_false]
     by_cases h0:len * n=0
     ·have hz0:zs=(Array.range (len * n)).map ((#[]:Array Value)[· % (#[]:Array Value).size]!):=by
       apply Array.ext
       ·simp [hzs]
       ·intro i h1 h2;simp [hzs,h0] at h1
      rw [if_pos h0]
      simp only [Sem.run_bind,Sem.run_pure,Result.andThen_ok]
      rw [← hz0,hf]
      rfl
     ·rw [if_neg h0]
      simp only [Sem.run_bind,hrun,Result.andThen_ok,Sem.run_pure]
      rw [hf]
      rfl
    have hmaxl:len≤maxLen:=by
     have:len * 1≤len * n:=Nat.mul_le_mul_left _ h4
     have h24:(2:Nat) ^ 24=16777216:=by decide
     simp only [maxLen];omega
    have hl':(parts.map (·.2)).length=len:=by simp [hlen]
    have hg:=Grows.alloc c.w (.cells cs' e)
    have ho:∀ B,some c.w.heap.size=some B→c.w.heap.size≤B:=fun B h=>by cases h;exact Nat.le_refl _
    have hev:=Ev.add hst hg (.grow e n (parts.map (·.2)).length) (some c.w.heap.size) ho
    have hρ:(c.add (c.w.alloc (.cells cs' e)) (.grow e n (parts.map (·.2)).length) (some c.w.heap.size)).ρ c.h.length=some c.w.heap.size:=by simp [Cx.add]
    have hcs:cs'.size=(parts.map (·.2)).length * n:=by rw [hrl.1,hfl,hl']
    have hst':St (c.add (c.w.alloc (.cells cs' e)) (.grow e n (parts.map (·.2)).length) (some c.w.heap.size)):=by
     refine St.add hst hg _ _ ho ?_
     intro B hB
     rw [hρ] at hB;cases hB
     exact ⟨cs',QZ _ _,by omega⟩
    refine ⟨_,c.add (c.w.alloc (.cells cs' e)) (.grow e n (parts.map (·.2)).length) (some c.w.heap.size),hrun',hev,hst',rfl,?_⟩
    have:=Zd (c:=c.add (c.w.alloc (.cells cs' e)) (.grow e n (parts.map (·.2)).length) (some c.w.heap.size)) hst' (b:=c.h.length) (B:=c.w.heap.size) (s:=n) (cap:=(parts.map (·.2)).length) (e:=e) (xs:=parts.map (·.2)) (cur:=cs') (by simp [Cx.add]) hρ (QZ _ _) hcs (Nat.le_refl _) (by rw [hl'];exact hmaxl) (fun x hx=>(hall x hx).2) (fun j a ha=>by
     have hlt:j<cs'.size:=by rw [hrl.1];exact Qt ha
     exact ⟨cs'[j],Array.getElem?_eq_getElem hlt,hone _ (by rw [Array.mem_toList_iff];exact Array.getElem_mem hlt),(hrl.2 j a _ ha (Array.getElem?_eq_getElem hlt)).ev hst hev⟩)
    exact (show Value.slice (some ⟨c.w.heap.size,0,none⟩) (parts.map (·.2)).length (parts.map (·.2)).length=Value.slice (some ⟨c.w.heap.size,0,none⟩) len len by rw [hl'])▸this
  ·cases ha
theorem QeH {P:Program} {c:Cx} (hst:St c) {t e:TypeId} {n len:Nat} {parts:List (Nat×AV)} {vals:Array (Nat×Value)} {r:AV} {h':AH} (he:Xa P t=some (e,n)) (ha:QH P t len parts c.h=some (r,h'))
  (hi:parts.map (·.1)=vals.toList.map (·.1)) (hv:RelL c (parts.map (·.2)) (vals.toList.map (·.2)).toArray) :
  ∃ y c',(Instr.buildSlice t len vals).run P c.w = .ok y c'.w∧Ev c c'∧St c'∧c'.h=c.h++[.cells e n (parts.map (·.2))]∧Rel c' (.arr c.h.length 0 len) y:=by
 unfold QH at ha
 ·obtain ⟨hu,hsz⟩:=XK he
  simp only [he] at ha
  split at ha
  ·rename_i hh
   obtain ⟨h1,h2,h3,h4,h5⟩:=hh
   cases hz:Xs P e with
   |none=>simp [hz] at h5
   |some z =>
    obtain ⟨v,hrun,rfl⟩:=Ze hz
    simp only [hz,Option.any_some,Bool.and_eq_true,beq_iff_eq] at h5
    obtain ⟨hrl0,hone0⟩:=Zp (ZO c v) h5.1
    have hvn:v.cells.size=n:=by rw [hrl0.1];exact h5.2
    have hlen:parts.length=len:=by have:=congrArg List.length h1;simpa using this
    have hall:∀ x∈parts.map (·.2),x.Qp8=true∧x.cells.length=n:=by
     intro x hx
     simp only [List.mem_map] at hx
     obtain ⟨p,hp,rfl⟩:=hx
     simp only [List.all_eq_true,Bool.and_eq_true,beq_iff_eq] at h2
     exact h2 p hp
    -- the zero cells
    let zs:Array Value:=(Array.range (len * n)).map (v.cells[· % v.cells.size]!)
    have hzs:zs.size=len * n:=by simp [zs]
    have hzone:∀ x∈zs.toList,x.oneCell'=true:=by
     intro x hx
     simp only [zs,Array.mem_toList_iff,Array.mem_map] at hx
     obtain ⟨i,_,rfl⟩:=hx
     have hlt:i % v.cells.size<v.cells.size:=Nat.mod_lt _ (by omega)
     rw [getElem!_pos v.cells _ hlt]
     exact hone0 _ (by rw [Array.mem_toList_iff];exact Array.getElem_mem hlt)
    have hjunk:RelL c (List.replicate (len * n) AV.junk) zs:=by
     refine ⟨by simp [hzs],fun j a u ha hu=>?_⟩
     rw [List.getElem?_replicate] at ha
     split at ha
     ·cases ha;exact .junk u
     ·cases ha
    have hfill:Xu (fun i=>some (i * n,n)) (List.replicate (len * n) AV.junk) parts=some (flat (parts.map (·.2))):=by
     have:=QbW (n:=n) (parts.map (·.2)) 0 (List.replicate (len * n) AV.junk) hall (by simp [hlen])
     have e:(List.range' 0 (parts.map (·.2)).length).zip (parts.map (·.2))=parts:=by
      rw [List.length_map,hlen,← List.range_eq_range',← h1]
      exact Z3 parts
     rw [e] at this
     rw [this]
     simp [hlen]
    obtain ⟨cs',hf,hrl,_,hone⟩:=ZV hi hv hfill hjunk hzone
    have hfl:(flat (parts.map (·.2))).length=len * n:=by
     rw [flat_length (fun x hx=>(hall x hx).2)];simp [hlen]
    have hrun':(Instr.buildSlice t len vals).run P c.w = .ok (.slice (some ⟨c.w.heap.size,0,none⟩) len len) (c.w.alloc (.cells cs' e)):=by
     have h3':¬ len * n>2 ^ 24:=by omega
     simp only [Instr.buildSlice,Sem.run_bind,underlying,run_program,Result.andThen_ok,hu,Sem.run_pure,hsz,h3',if_false]
     by_cases h0:len * n=0
     ·have hz0:zs=(Array.range (len * n)).map ((#[]:Array Value)[· % (#[]:Array Value).size]!):=by
       apply Array.ext
       ·simp [hzs]
       ·intro i h1 h2;simp [hzs,h0] at h1
      rw [if_pos h0]
      simp only [Sem.run_bind,Sem.run_pure,Result.andThen_ok]
      rw [← hz0,hf]
      rfl
     ·rw [if_neg h0]
      simp only [Sem.run_bind,hrun,Result.andThen_ok,Sem.run_pure]
      rw [hf]
      rfl
    have hmaxl:len≤maxLen:=by
     have:len * 1≤len * n:=Nat.mul_le_mul_left _ h4
     have h24:(2:Nat) ^ 24=16777216:=by decide
     simp only [maxLen];omega
    have hl':(parts.map (·.2)).length=len:=by simp [hlen]
    have hg:=Grows.alloc c.w (.cells cs' e)
    have ho:∀ B,some c.w.heap.size=some B→c.w.heap.size≤B:=fun B h=>by cases h;exact Nat.le_refl _
    have hev:=Ev.add hst hg (.cells e n (parts.map (·.2))) (some c.w.heap.size) ho
    have hρ:(c.add (c.w.alloc (.cells cs' e)) (.cells e n (parts.map (·.2))) (some c.w.heap.size)).ρ c.h.length=some c.w.heap.size:=by simp [Cx.add]
    have hst':St (c.add (c.w.alloc (.cells cs' e)) (.cells e n (parts.map (·.2))) (some c.w.heap.size)):=by
     refine St.add hst hg _ _ ho ?_
     exact ⟨c.w.heap.size,cs',hρ,QZ _ _,fun x hx=>(hall x hx).2,fun j a ha=>by
      have hlt:j<cs'.size:=by rw [hrl.1];exact Qt ha
      exact ⟨cs'[j],Array.getElem?_eq_getElem hlt,hone _ (by rw [Array.mem_toList_iff];exact Array.getElem_mem hlt),(hrl.2 j a _ ha (Array.getElem?_eq_getElem hlt)).ev hst hev⟩⟩
    refine ⟨_,c.add (c.w.alloc (.cells cs' e)) (.cells e n (parts.map (·.2))) (some c.w.heap.size),hrun',hev,hst',rfl,?_⟩
    refine Rel.arr _ 0 len _ (by simp [Cx.add]) rfl fun ty s xs hb=>?_
    have hb':some (AB.cells e n (parts.map (·.2)))=some (.cells ty s xs):=by rw [← hb];simp [Cx.add]
    cases hb'
    exact ⟨c.w.heap.size,len,hρ,by rw [Nat.zero_mul],Nat.le_refl _,hmaxl,cs',QZ _ _,by rw [hrl.1,hfl,Nat.zero_add];exact Nat.le_refl _⟩
  ·cases ha
theorem Qe2 {P:Program} {N:Nat} {base:Bs×Fence} {o:Oper} {s:AS} {t:TypeId} {len:Nat} {ps:Array (Nat×Operand)} {e:TypeId} {m:Nat} (hop:o.op = .buildSlice t len ps) (he:Xa P t=some (e,m)) {K:AS→Prop}
  (ha:(QH P t len (ps.toList.map fun p=>(p.1,s.ev p.2)) s.h).isSome=true)
  (H:K (AS.put N {s with h:=s.h++[.cells e m (ps.toList.map fun p=>s.ev p.2)]} o.dst (.arr s.h.length 0 len))) {F:Fence} {n:Nat} {c:Cx} {a:Act} (hF:WF F) (hst:St c) (hr:SR N base c s a)
  {next:Act→World→Prop} {Qx:Exit→Act→World→Prop} (hK:∀ s' c' a',K s'→Ev c c'→St c'→SR N base c' s' a'→next a' c'.w):o.wpIn F n P a c.w next Qx:=by
 have hev:∀ x,Rel c (s.ev x) (a.eval x):=hr.eval
 refine ⟨fun f _=>hF.fn f,?_⟩
 rw [Oper.semAt_eq _ _ _ (fun q=>by rw [hop];intro h;cases h)]
 obtain ⟨⟨r,h'⟩,ha⟩:=Option.isSome_iff_exists.1 ha
 rw [← hr.h] at ha
 obtain ⟨h1,h2⟩:=Qbt hev ps
 obtain ⟨y,c',hrun,h3,h4,h5,h6⟩:=QeH hst he ha h1 h2
 have hrun':(execOp a.eval o).run P c.w = .ok (.value y) c'.w:=by
  simp only [execOp,hop,Sem.run_bind,hrun,Result.andThen_ok,Sem.run_pure]
 rw [hrun']
 have e1:(ps.toList.map fun p=>(p.1,s.ev p.2)).map (·.2)=ps.toList.map fun p=>s.ev p.2:=by rw [List.map_map];rfl
 rw [e1] at h5
 have hp:=hr.put hst h3 o.dst h6
 rw [h5,hr.h] at hp
 exact hK _ c' _ H h3 h4 hp
theorem Qkl {P:Program} {N:Nat} {base:Bs×Fence} {o:Oper} {s:AS} {t:TypeId} {len:Nat} {ps:Array (Nat×Operand)} {e:TypeId} {m:Nat} (hop:o.op = .buildSlice t len ps) (he:Xa P t=some (e,m)) {K:AS→Prop}
  (ha:(QH P t len (ps.toList.map fun p=>(p.1,s.ev p.2)) s.h).isSome=true)
  (H:K (AS.put N {s with h:=s.h++[.grow e m (ps.toList.map fun p=>s.ev p.2).length]} o.dst (.sl m (ps.toList.map fun p=>s.ev p.2) (some s.h.length)))) {F:Fence} {n:Nat} {c:Cx} {a:Act} (hF:WF F) (hst:St c) (hr:SR N base c s a)
  {next:Act→World→Prop} {Qx:Exit→Act→World→Prop} (hK:∀ s' c' a',K s'→Ev c c'→St c'→SR N base c' s' a'→next a' c'.w):o.wpIn F n P a c.w next Qx:=by
 have hev:∀ x,Rel c (s.ev x) (a.eval x):=hr.eval
 refine ⟨fun f _=>hF.fn f,?_⟩
 rw [Oper.semAt_eq _ _ _ (fun q=>by rw [hop];intro h;cases h)]
 obtain ⟨⟨r,h'⟩,ha⟩:=Option.isSome_iff_exists.1 ha
 rw [← hr.h] at ha
 obtain ⟨h1,h2⟩:=Qbt hev ps
 obtain ⟨y,c',hrun,h3,h4,h5,h6⟩:=QeI hst he ha h1 h2
 have hrun':(execOp a.eval o).run P c.w = .ok (.value y) c'.w:=by
  simp only [execOp,hop,Sem.run_bind,hrun,Result.andThen_ok,Sem.run_pure]
 rw [hrun']
 have e1:(ps.toList.map fun p=>(p.1,s.ev p.2)).map (·.2)=ps.toList.map fun p=>s.ev p.2:=by rw [List.map_map];rfl
 rw [e1] at h5 h6
 have hp:=hr.put hst h3 o.dst h6
 rw [h5,hr.h] at hp
 exact hK _ c' _ H h3 h4 hp
def tokA (c:Nat) (P:Program) (ev:Operand→AV) (h:AH) (op:Op):Option (AV×AH):=match op with
 | .buildSlice t len ps=>(match Xa P t with
  |some (e,n)=>if (QH P t len (ps.toList.map fun p=>(p.1,ev p.2)) h).isSome=true then (if c=5 then some (.sl n (ps.toList.map fun p=>ev p.2) (some h.length),h++[.grow e n (ps.toList.map fun p=>ev p.2).length]) else some (.arr h.length 0 len,h++[.cells e n (ps.toList.map fun p=>ev p.2)])) else none
  |none=>none)
 |_=>none
theorem Qmh {c:Nat} {P:Program} {ev:Operand→AV} {h h':AH} {op:Op} {r:AV} (e:tokA c P ev h op=some (r,h')):Keep h h':=by
 unfold tokA at e
 split at e
 ·split at e
  ·split at e
   ·split at e
    ·cases e;exact Keep.app _ _
    ·cases e;exact Keep.app _ _
   ·cases e
  ·cases e
 ·cases e
theorem Qkk {c:Nat} {P:Program} {h:AH} {ev ev':Operand→AV} {op:Op} (he:∀ x∈op.operands,ev x=ev' x):tokA c P ev h op=tokA c P ev' h op:=by
 cases op with
 |buildSlice t len ps =>
  have h1:∀ p∈ps.toList,ev p.2=ev' p.2:=fun p hp=>he p.2 (by simp only [Op.operands,List.mem_toArray,List.mem_map];exact ⟨p,hp,rfl⟩)
  have e1:(ps.toList.map fun p=>(p.1,ev p.2))=ps.toList.map fun p=>(p.1,ev' p.2):=List.map_congr_left fun p hp=>by rw [h1 p hp]
  have e2:(ps.toList.map fun p=>ev p.2)=ps.toList.map fun p=>ev' p.2:=List.map_congr_left fun p hp=>h1 p hp
  simp only [tokA,e1,e2]
 |_=>rfl
theorem QfK {k:Nat} {P:Program} {N:Nat} {base:Bs×Fence} {o:Oper} {s:AS} {r:AV} {h':AH} (ha:tokA k P s.ev s.h o.op=some (r,h')) {K:AS→Prop} (H:K (AS.put N {s with h:=h'} o.dst r)) {F:Fence} {n:Nat} {c:Cx} {a:Act} (hF:WF F) (hst:St c) (hr:SR N base c s a)
  {next:Act→World→Prop} {Qx:Exit→Act→World→Prop} (hK:∀ s' c' a',K s'→Ev c c'→St c'→SR N base c' s' a'→next a' c'.w):o.wpIn F n P a c.w next Qx:=by
 unfold tokA at ha
 split at ha
 ·rename_i t len ps hop
  split at ha
  ·rename_i e m he
   split at ha
   ·rename_i hs
    split at ha
    ·cases ha
     exact Qkl hop he hs H hF hst hr hK
    ·cases ha
     exact Qe2 hop he hs H hF hst hr hK
   ·cases ha
  ·cases ha
 ·cases ha
end Go.Proofs.YticgcpebdldbgaaDoor.Ab
namespace Go.Proofs.YticgcpebdldbgaaDoor.Ab
inductive Anc (ops:Array Oper):Nat→Nat→Prop
 |edge (j:Nat) (o:Oper) (e:Edge) (ho:ops[j]? = some o) (he:e∈o.after) (hb:Region.binds .any e=true):Anc ops e.on j
 |trans {i j k:Nat}:Anc ops i j→Anc ops j k→Anc ops i k
def QnQ (acc:List Nat) (o:Oper):Nat:=o.after.toList.foldl (fun s e=>if Region.binds .any e then s ||| 2 ^ e.on ||| acc.getD e.on 0 else s) 0
def masks:List Oper→List Nat→List Nat
 |[],acc=>acc
 |o::l,acc=>masks l (acc++[QnQ acc o])
theorem Qig {ops:Array Oper} {acc:List Nat} {o:Oper} {j:Nat} (ho:ops[j]? = some o) (hacc:∀ (k i:Nat),(acc.getD k 0).testBit i=true→Anc ops i k) {i:Nat} (h:(QnQ acc o).testBit i=true):Anc ops i j:=by
 have go:∀ (l:List Edge) (s:Nat),(∀ e∈l,e∈o.after)→(∀ i,s.testBit i=true→Anc ops i j)→∀ i,(l.foldl (fun s e=>if Region.binds .any e then s ||| 2 ^ e.on ||| acc.getD e.on 0 else s) s).testBit i=true→Anc ops i j:=by
  intro l
  induction l with
  |nil=>intro s _ hs i hi;exact hs i hi
  |cons e l ih =>
   intro s hl hs i hi
   refine ih _ (fun e he=>hl e (by simp [he])) ?_ i hi
   intro i hi
   dsimp only at hi
   split at hi
   ·rename_i hb
    have hedge:=Anc.edge j o e ho (hl e (by simp)) hb
    simp only [Nat.testBit_or,Bool.or_eq_true] at hi
    rcases hi with (hi|hi)|hi
    ·exact hs i hi
    ·rw [Nat.testBit_two_pow] at hi
     have:e.on=i:=by simpa using hi
     exact this▸hedge
    ·exact (hacc _ _ hi).trans hedge
   ·exact hs i hi
 exact go _ 0 (fun e he=>Array.mem_def.2 he) (fun i hi=>by simp at hi) i h
theorem YU {ops:Array Oper}:∀ (l:List Oper) (acc:List Nat),(∀ (j:Nat) o,l[j]? = some o→ops[acc.length+j]? = some o)→(∀ (k i:Nat),(acc.getD k 0).testBit i=true→Anc ops i k) →
  ∀ (k i:Nat),((masks l acc).getD k 0).testBit i=true→Anc ops i k
 |[],acc,_,h=>h
 |o::l,acc,hl,h=>by
  refine YU l _ (fun j o' hj=>?_) ?_
  ·have:=hl (j+1) o' (by simpa using hj)
   simpa [Nat.add_assoc,Nat.add_comm 1 j] using this
  ·intro k i hk
   simp only [List.getD_eq_getElem?_getD] at hk
   by_cases hlt:k<acc.length
   ·rw [List.getElem?_append_left hlt,← List.getD_eq_getElem?_getD] at hk;exact h k i hk
   ·by_cases heq:k=acc.length
    ·subst heq
     rw [List.getElem?_append_right (Nat.le_refl _)] at hk
     simp only [Nat.sub_self,QqZ,Option.getD_some] at hk
     exact Qig (by simpa using hl 0 o (by simp)) h hk
    ·rw [List.getElem?_eq_none (by simp;omega)] at hk
     simp at hk
def Down (ops:Array Oper) (S:Nat→Bool):Prop:=∀ (j:Nat) o,ops[j]? = some o→S j=true→∀ e∈o.after,Region.binds .any e=true→S e.on=true
theorem Down.anc {ops:Array Oper} {S:Nat→Bool} (h:Down ops S) {i j:Nat} (ha:Anc ops i j):S j=true→S i=true:=by
 induction ha with
 |edge j o e ho he hb=>exact fun hj=>h j o ho hj e he hb
 |trans _ _ ih1 ih2=>exact fun hk=>ih1 (ih2 hk)
def tmpsOf (l:List Operand):List Nat:=l.filterMap fun | .tmp t=>some t|_=>none
def readsOf (ops:Array Oper) (o:Oper):List Nat:=tmpsOf o.op.operands.toList++match o.guard with
 |some (j,_)=>((ops[j]?).bind (·.dst)).toList
 |none=>[]
def clash (ops:Array Oper) (a b:Oper) (ca cb:Nat):Bool :=
 (match a.dst with|some d=>(readsOf ops b).contains d||b.dst==some d|none=>false)||(match b.dst with|some d=>(readsOf ops a).contains d|none=>false) ||
 (decide (2≤ca)&&cb != 1)||(ca != 1&&decide (2≤cb)&&!((QbX b.op&&cb != 4)||cb==3))
def Qej (ops:Array Oper) (ms:List Nat):List (Nat×Nat)→Bool
 |[]=>true
 |(i,ci)::l=>(l.all fun p=>match ops[i]?,ops[p.1]? with
   |some a,some b=>!clash ops a b ci p.2||(ms.getD p.1 0).testBit i
   |_,_=>false)&&Qej ops ms l
def topo (ops:Array Oper):List Nat→List (Nat×Nat)→Bool
 |_,[]=>true
 |pre,(i,_)::l=>(match ops[i]? with
  |some o=>o.after.toList.all fun e=>!Region.binds .any e||pre.contains e.on
  |none=>false)&&topo ops (i::pre) l
def QbA (o:Oper):Bool:=match o.op with
 | .call c=>match c.callee with | .value _=>true|_=>false
 |_=>false
def kindOk (o:Oper) (c:Nat):Bool :=
 QbA o||(Qbb o.op&&decide (c<2))||((c==2||c==4||c==5||c==6)&&(QbX o.op||QgE o.op))
def Qhl:List Nat→Bool
 |[]=>true
 |x::l=>!l.contains x&&Qhl l
def Qn5 (ops:Array Oper) (π:List (Nat×Nat)):Bool :=
 π.length==ops.size&&Qej ops (masks ops.toList []) π&&topo ops [] π&&Qhl (π.map (·.1))&&((List.range ops.size).all fun i=>(π.map (·.1)).contains i) &&
 π.all fun p=>match ops[p.1]? with|some o=>kindOk o p.2|none=>false
def StepA (P:Program) (ops:Array Oper) (tm:Nat→AV) (h:AH) (c:Nat) (o:Oper) (r:AV) (h':AH):Prop :=
 match Qd ops tm o with
 |some false=>r = .v undef∧h'=h
 |some true =>
  match o.op with
  | .call ⟨.value f,args,tys⟩=>if 2≤c then FunW P (AS.ev ⟨tm,[]⟩ f) (args.toList.map (AS.ev ⟨tm,[]⟩)) h (fun out h''=>out = .ret r∧h''=h')∧(c=3→Keep h h') else (∀ hx,(c=0→Keep h hx)→FunW P (AS.ev ⟨tm,[]⟩ f) (args.toList.map (AS.ev ⟨tm,[]⟩)) hx fun out h''=>out = .ret r∧h''=hx)∧h'=h
  |op=>if c=1 then (∃ h1,aop P (AS.ev ⟨tm,[]⟩) o.type [] op=some (r,h1))∧h'=h else aop P (AS.ev ⟨tm,[]⟩) o.type h op=some (r,h')∨(c=4∧aop P (AS.ev ⟨tm,[]⟩) o.type h op=none∧aopR P (AS.ev ⟨tm,[]⟩) h op=some (r,h'))∨(5≤c∧tokA c P (AS.ev ⟨tm,[]⟩) h op=some (r,h'))
 |none=>False
theorem Qjw {P:Program} {h:AH} {ev ev':Operand→AV} {op:Op} (he:∀ x∈op.operands,ev x=ev' x):aopR P ev h op=aopR P ev' h op:=by
 cases op with
 |call c =>
  obtain ⟨cal,args,tys⟩:=c
  cases cal with
  |builtin b =>
   have htwo:∀ x y,args.toList=[x,y]→ev x=ev' x∧ev y=ev' y:=fun x y hx=>⟨he x (by simp [Op.operands,Call.operands,Array.mem_def,hx]),he y (by simp [Op.operands,Call.operands,Array.mem_def,hx])⟩
   cases b with
   |append =>
    simp only [aopR]
    split
    ·rename_i h1 h2;rw [(htwo _ _ h1).1,(htwo _ _ h1).2]
    ·rfl
   |_=>rfl
  |_=>rfl
 |_=>rfl
theorem QkC {P:Program} {h:AH} {ev:Operand→AV} {op:Op} {x:AV×AH} (e:aopR P ev h op=some x):∃ args tys,op = .call ⟨.builtin .append,args,tys⟩:=by
 cases op with
 |call c =>
  obtain ⟨cal,args,tys⟩:=c
  cases cal with
  |builtin b =>
   cases b with
   |append=>exact ⟨args,tys,rfl⟩
   |_=>simp [aopR] at e
  |_=>simp [aopR] at e
 |_=>simp [aopR] at e
theorem QaR (tm:Nat→AV) (h h':AH) (x:Operand):AS.ev ⟨tm,h⟩ x=AS.ev ⟨tm,h'⟩ x:=by cases x <;> rfl
theorem QbY {ops:Array Oper} {tm tm':Nat→AV} {o:Oper} (h:∀ t∈readsOf ops o,tm t=tm' t):Qd ops tm o=Qd ops tm' o:=by
 unfold Qd
 cases hg:o.guard with
 |none=>rfl
 |some jw =>
  obtain ⟨j,want⟩:=jw
  simp only
  cases hd:(ops[j]?).bind (·.dst) with
  |none=>rfl
  |some d =>
   have:tm d=tm' d:=h d (by unfold readsOf;rw [hg];simp [hd])
   simp only [this]
theorem Qb5 {ops:Array Oper} {tm tm':Nat→AV} {o:Oper} (h:∀ t∈readsOf ops o,tm t=tm' t):∀ x∈o.op.operands,AS.ev ⟨tm,[]⟩ x=AS.ev ⟨tm',[]⟩ x:=by
 intro x hx
 cases x with
 |tmp t=>exact h t (by unfold readsOf tmpsOf;exact List.mem_append_left _ (List.mem_filterMap.2 ⟨.tmp t,Array.mem_def.1 hx,rfl⟩))
 |_=>rfl
theorem QbL {o:Oper} (h:QbA o=true):∃ f args tys,o.op = .call ⟨.value f,args,tys⟩:=by
 unfold QbA at h
 cases ho:o.op with
 |call c =>
  obtain ⟨cal,args,tys⟩:=c
  cases cal with
  |value f=>exact ⟨f,args,tys,rfl⟩
  |_=>simp [ho] at h
 |_=>simp [ho] at h
theorem StepA.turn {P:Program} {ops:Array Oper} {tm tm':Nat→AV} {h h2 h':AH} {c:Nat} {o:Oper} {r:AV} (hs:StepA P ops tm h c o r h') (hk:kindOk o c=true) (ht:∀ t∈readsOf ops o,tm' t=tm t)
  (hh:(2≤c∧h2=h)∨(c<2∧(c=1∨Keep h h2))) (N:Nat) :
  (Qd ops tm' o=some false∧r = .v undef∧(if 2≤c then h' else h2)=h2) ∨
  (Qd ops tm' o=some true∧((∀ (K:AS→Prop) (E:AV→AS→Prop),K (AS.put N ⟨tm',if 2≤c then h' else h2⟩ o.dst r)→OpW P N o ⟨tm',h2⟩ K E)∨tokA c P (AS.ev ⟨tm',h2⟩) h2 o.op=some (r,if 2≤c then h' else h2))):=by
 unfold StepA at hs
 rw [QbY ht]
 split at hs
 ·rename_i hw
  obtain ⟨rfl,rfl⟩:=hs
  refine .inl ⟨hw,rfl,?_⟩
  rcases hh with ⟨_,rfl⟩|⟨hc,_⟩
  ·simp
  ·rw [if_neg (by omega)]
 ·rename_i hw
  refine .inr ⟨hw,?_⟩
  split at hs
  ·rename_i f args tys hop
   refine .inl fun K E hK=>?_
   unfold OpW
   simp only [hop]
   have hev:=Qb5 ht
   rw [hop] at hev
   have h1:AS.ev ⟨tm',h2⟩ f=AS.ev ⟨tm,[]⟩ f:=(QaR _ _ _ _).trans (hev f (by simp [Op.operands,Call.operands]))
   have h2':args.toList.map (AS.ev ⟨tm',h2⟩)=args.toList.map (AS.ev ⟨tm,[]⟩):=List.map_congr_left fun x hx=>(QaR _ _ _ _).trans (hev x (by simp [Op.operands,Call.operands,Array.mem_def,hx]))
   rw [h1,h2']
   by_cases hc:2≤c
   ·rw [if_pos hc] at hs hK
    rcases hh with ⟨_,rfl⟩|⟨hc',_⟩
    ·exact hs.1.mono fun out h'' ⟨e1,e2⟩=>by subst e1;subst e2;exact hK
    ·omega
   ·rw [if_neg hc] at hs hK
    refine (hs.1 h2 fun h0=>?_).mono fun out h'' ⟨e1,e2⟩=>by subst e1;subst e2;exact hK
    rcases hh with ⟨hc',_⟩|⟨_,h1|h1⟩
    ·omega
    ·omega
    ·exact h1
  ·rename_i op hnc
   have hcall:QbA o=false:=by
    cases hc:QbA o with
    |false=>rfl
    |true=>obtain ⟨f,args,tys,e⟩:=QbL hc;exact (hnc _ _ _ e).elim
   simp only [kindOk,hcall,Bool.false_or,Bool.or_eq_true,Bool.and_eq_true] at hk
   have hcongr:∀ hx,aop P (AS.ev ⟨tm',h2⟩) o.type hx o.op=aop P (AS.ev ⟨tm,[]⟩) o.type hx o.op:=fun hx=>by
    refine QkD (fun x hx=>(QaR _ _ _ _).trans (Qb5 ht x hx)) ?_
    rcases hk with ⟨h1,_⟩|⟨_,h1|h1⟩
    ·simp [h1]
    ·simp [h1]
    ·simp [h1]
   by_cases hT:5≤c∧tokA c P (AS.ev ⟨tm,[]⟩) h o.op=some (r,h')
   ·obtain ⟨h5,hT⟩:=hT
    rcases hh with ⟨_,rfl⟩|⟨hc',_⟩
    ·refine .inr ?_
     rw [if_pos (by omega)]
     exact (Qkk (fun x hx=>(QaR _ _ _ _).trans (Qb5 ht x hx))).trans hT
    ·omega
   refine .inl fun K E hK=>?_
   by_cases hR:c=4∧aop P (AS.ev ⟨tm,[]⟩) o.type h o.op=none∧aopR P (AS.ev ⟨tm,[]⟩) h o.op=some (r,h')
   ·obtain ⟨rfl,hn,hR⟩:=hR
    rcases hh with ⟨_,rfl⟩|⟨hc',_⟩
    ·obtain ⟨args,tys,hop⟩:=QkC hR
     have hR':aopR P (AS.ev ⟨tm',h2⟩) h2 o.op=some (r,h'):=(Qjw (fun x hx=>(QaR _ _ _ _).trans (Qb5 ht x hx))).trans hR
     have hn':aop P (AS.ev ⟨tm',h2⟩) o.type h2 o.op=none:=(hcongr h2).trans hn
     rw [if_pos (by omega)] at hK
     unfold OpW
     rw [hop] at hR' hn' ⊢
     simp only [hR',hn']
     exact hK
    ·omega
   replace hs:if c=1 then (∃ h1,aop P (AS.ev ⟨tm,[]⟩) o.type [] o.op=some (r,h1))∧h'=h else aop P (AS.ev ⟨tm,[]⟩) o.type h o.op=some (r,h'):=by
    by_cases hc1:c=1
    ·rw [if_pos hc1] at hs ⊢;exact hs
    ·rw [if_neg hc1] at hs ⊢
     exact hs.resolve_right fun q=>q.elim hR hT
   -- what it is over the heap at hand
   have key:aop P (AS.ev ⟨tm',h2⟩) o.type h2 o.op=some (r,if 2≤c then h' else h2):=by
    rw [hcongr]
    rcases hh with ⟨hc,rfl⟩|⟨hc,hh⟩
    ·rw [if_neg (by omega)] at hs
     rw [if_pos hc];exact hs
    ·have hl:Qbb o.op=true:=by
      rcases hk with ⟨h1,_⟩|⟨h1,_⟩
      ·exact h1
      ·simp at h1;omega
     rw [if_neg (by omega)]
     by_cases hc1:c=1
     ·rw [if_pos hc1] at hs
      obtain ⟨⟨h1,hs⟩,_⟩:=hs
      exact (QfT (Keep.nil h2) hl hs).2
     ·rw [if_neg hc1] at hs
      rcases hh with hh|hh
      ·exact (hc1 hh).elim
      ·exact (QfT hh hl hs).2
   unfold OpW
   split
   ·rename_i t ps hop
    rw [hop] at key
    simp only [aop] at key
    have key0:=key
    unfold QH at key
    cases he:Xa P t with
    |none=>simp [he] at key
    |some en =>
     obtain ⟨e,n⟩:=en
     simp only [he,if_true] at key
     split at key
     ·rename_i hcond
      have hps:ps.toList=[]:=by
       have:=congrArg List.length hcond.1
       simpa using this
      simp only [Qq5,Prod.mk.injEq] at key
      obtain ⟨e1,e2⟩:=key
      simp only [hps,Qri] at key0 ⊢
      rw [← e2] at hK key0
      rw [← e1] at hK key0
      exact ⟨key0,.inl hK⟩
     ·cases key
   ·rename_i q hop
    obtain ⟨cal,args,tys⟩:=q
    cases cal with
    |value f=>simp [QbA,hop] at hcall
    |_=>simp only [key];exact hK
   ·rename_i x hop
    rw [hop] at key;simp [aop] at key
   ·rw [key];exact hK
 ·exact hs.elim
structure Tr where
 i:Nat
 c:Nat
 o:Oper
 r:AV
 h':AH
def putT (N:Nat) (tm:Nat→AV) (d:Option Tmp) (r:AV):Nat→AV:=match d with
 |some d=>if d<N then upd tm d r else tm
 |none=>tm
theorem put_eq (N:Nat) (tm:Nat→AV) (h:AH) (d:Option Tmp) (r:AV):AS.put N ⟨tm,h⟩ d r=⟨putT N tm d r,h⟩:=by
 cases d with
 |none=>rfl
 |some d=>simp only [AS.put,putT];split <;> rfl
theorem QcT {N:Nat} {tm:Nat→AV} {d:Option Tmp} {r:AV} {x:Nat} (h:d≠some x):putT N tm d r x=tm x:=by
 cases d with
 |none=>rfl
 |some d =>
  simp only [putT]
  split
  ·rw [upd_ne];intro e;exact h (by rw [e])
  ·rfl
theorem QcS {N:Nat} {tm tm':Nat→AV} {d:Option Tmp} {r:AV} {x:Nat} (h:d≠some x→tm x=tm' x) (h':tm x=tm' x∨x<N):putT N tm d r x=putT N tm' d r x:=by
 cases d with
 |none=>exact h (by simp)
 |some d =>
  simp only [putT]
  by_cases hx:x=d
  ·subst hx
   split
   ·simp
   ·rename_i hn
    rcases h' with h'|h'
    ·exact h'
    ·exact (hn h').elim
  ·have:=h (by intro e;cases e;exact hx rfl)
   split
   ·rw [upd_ne _ _ hx,upd_ne _ _ hx];exact this
   ·exact this
def tmS (N:Nat) (S:Nat→Bool):List Tr→(Nat→AV)→(Nat→AV)
 |[],f=>f
 |t::l,f=>tmS N S l (if S t.i then putT N f t.o.dst t.r else f)
def hS (S:Nat→Bool):List Tr→AH→AH
 |[],h=>h
 |t::l,h=>hS S l (if S t.i&&decide (2≤t.c) then t.h' else h)
theorem XQ (N:Nat) (S:Nat→Bool):∀ (l m:List Tr) (f:Nat→AV),tmS N S (l++m) f=tmS N S m (tmS N S l f)
 |[],m,f=>rfl
 |t::l,m,f=>XQ N S l m _
theorem Ym (S:Nat→Bool):∀ (l m:List Tr) (f:AH),hS S (l++m) f=hS S m (hS S l f)
 |[],m,f=>rfl
 |t::l,m,f=>Ym S l m _
theorem XO {N:Nat} {S:Nat→Bool} {x:Nat}:∀ {l:List Tr} {f:Nat→AV},(∀ t∈l,S t.i=true→t.o.dst≠some x)→tmS N S l f x=f x
 |[],f,h=>rfl
 |t::l,f,h=>by
  simp only [tmS]
  rw [XO (fun t ht=>h t (by simp [ht]))]
  split
  ·rename_i hs;exact QcT (h t (by simp) hs)
  ·rfl
theorem ZC {N:Nat} {S S':Nat→Bool} {x:Nat}:∀ {l:List Tr} {f f':Nat→AV},f x=f' x→(∀ t∈l,t.o.dst=some x→S t.i=S' t.i)→tmS N S l f x=tmS N S' l f' x
 |[],f,f',hf,h=>hf
 |t::l,f,f',hf,h=>by
  simp only [tmS]
  refine ZC ?_ (fun t ht=>h t (by simp [ht]))
  by_cases hd:t.o.dst=some x
  ·rw [h t (by simp) hd]
   split
   ·exact QcS (fun _=>hf) (.inl hf)
   ·exact hf
  ·have e1:∀ (b:Bool) (g:Nat→AV),(if b=true then putT N g t.o.dst t.r else g) x=g x:=fun b g=>by
    split
    ·exact QcT hd
    ·rfl
   rw [e1,e1];exact hf
theorem Qag {S S':Nat→Bool}:∀ {l:List Tr} {f:AH},(∀ t∈l,2≤t.c→S t.i=S' t.i)→hS S l f=hS S' l f
 |[],f,h=>rfl
 |t::l,f,h=>by
  simp only [hS]
  by_cases hc:2≤t.c
  ·rw [h t (by simp) hc];exact Qag fun t ht=>h t (by simp [ht])
  ·have:(decide (2≤t.c))=false:=by simpa using hc
   rw [this,Bool.and_false,Bool.and_false];exact Qag fun t ht=>h t (by simp [ht])
theorem Ys {S:Nat→Bool}:∀ {l:List Tr} {f:AH},(∀ t∈l,2≤t.c→S t.i=false)→hS S l f=f
 |[],f,h=>rfl
 |t::l,f,h=>by
  simp only [hS]
  have:(S t.i&&decide (2≤t.c))=false:=by
   by_cases hc:2≤t.c
   ·rw [h t (by simp) hc];rfl
   ·have:(decide (2≤t.c))=false:=by simpa using hc
    rw [this,Bool.and_false]
  rw [this]
  exact Ys fun t ht=>h t (by simp [ht])
inductive Runs (P:Program) (N:Nat) (ops:Array Oper):List Tr→(Nat→AV)→AH→Prop
 |nil (tm:Nat→AV) (h:AH):Runs P N ops [] tm h
 |cons (t:Tr) (l:List Tr) (tm:Nat→AV) (h:AH) (ho:ops[t.i]? = some t.o) (hk:kindOk t.o t.c=true) (hs:StepA P ops tm h t.c t.o t.r t.h') (hl:Runs P N ops l (putT N tm t.o.dst t.r) (if 2≤t.c then t.h' else h)):Runs P N ops (t::l) tm h
theorem Runs.split {P:Program} {N:Nat} {ops:Array Oper}:∀ {l m:List Tr} {tm:Nat→AV} {h:AH},Runs P N ops (l++m) tm h→Runs P N ops m (tmS N (fun _=>true) l tm) (hS (fun _=>true) l h)
 |[],m,tm,h,H=>H
 |t::l,m,tm,h,H=>by
  cases H with
  |cons t l tm h ho hk hs hl =>
   have:=Runs.split hl
   simp only [tmS,hS,if_true,QrJ,decide_eq_true_eq]
   exact this
theorem Runs.keep {P:Program} {N:Nat} {ops:Array Oper} {S:Nat→Bool}:∀ {l:List Tr} {tm:Nat→AV} {h:AH},Runs P N ops l tm h→(∀ t∈l,2≤t.c→S t.i=true→((QbX t.o.op&&t.c != 4)||t.c==3)=true) →
  l.Pairwise (fun a b=>2≤a.c→2≤b.c→S b.i=true→S a.i=true)→Keep h (hS S l h)
 |[],tm,h,H,_,_=>Keep.refl h
 |t::l,tm,h,H,ha,hp=>by
  cases H with
  |cons t l tm h ho hk hs hl =>
   simp only [hS]
   obtain ⟨hp1,hp2⟩:=List.pairwise_cons.1 hp
   by_cases hc:2≤t.c
   ·cases hS':S t.i with
    |true =>
     simp only [hc,Qrv,Qrl,if_true]
     rw [if_pos hc] at hl
     refine Keep.trans ?_ (Runs.keep hl (fun t ht=>ha t (by simp [ht])) hp2)
     have hadd:=ha t (by simp) hc hS'
     unfold StepA at hs
     split at hs
     ·rw [hs.2];exact Keep.refl _
     ·split at hs
      ·rename_i f args tys hop
       rw [if_pos hc] at hs
       refine hs.2 ?_
       rw [hop] at hadd
       simpa [QbX] using hadd
      ·rename_i op hnc
       rw [if_neg (by omega)] at hs
       have hcall:QbA t.o=false:=by
        cases hc:QbA t.o with
        |false=>rfl
        |true=>obtain ⟨f,args,tys,e⟩:=QbL hc;exact (hnc _ _ _ e).elim
       simp only [kindOk,hcall,Bool.false_or,Bool.or_eq_true,Bool.and_eq_true,decide_eq_true_eq,beq_iff_eq] at hk
       have h3:t.c≠3:=by
        rcases hk with ⟨_,h⟩|⟨h,_⟩
        ·omega
        ·omega
       simp only [Bool.or_eq_true,Bool.and_eq_true,bne_iff_ne,ne_eq,beq_iff_eq] at hadd
       rcases hadd with ⟨hadd,h4⟩|hadd
       ·rcases hs with hs|⟨hs,_⟩|⟨_,hs⟩
        ·exact QmC hadd hs
        ·exact (h4 hs).elim
        ·exact Qmh hs
       ·exact (h3 hadd).elim
     ·exact hs.elim
    |false =>
     simp only [Bool.false_and,Qq3,if_false]
     rw [Ys (fun t' ht' hc'=>?_)]
     ·exact Keep.refl _
     ·cases hb:S t'.i with
      |false=>rfl
      |true=>have:=hp1 t' ht' hc hc' hb;rw [hS'] at this;cases this
   ·have:(decide (2≤t.c))=false:=by simpa using hc
    rw [if_neg hc] at hl
    rw [this,Bool.and_false]
    exact Runs.keep hl (fun t ht=>ha t (by simp [ht])) hp2
def QnZ (P:Program) (N:Nat) (fv:AV) (args:List AV) (s:AS) (d:Option Tmp) (K:AS→Prop):Prop :=
 ∃ r,(∀ hx,FunW P fv args hx fun out h''=>out = .ret r∧h''=hx)∧K (AS.put N s d r)
def Qn1 (P:Program) (N:Nat) (fv:AV) (args:List AV) (s:AS) (d:Option Tmp) (K:AS→Prop):Prop :=
 ∃ r,(∀ hx,Keep s.h hx→FunW P fv args hx fun out h''=>out = .ret r∧h''=hx)∧K (AS.put N s d r)
def Qn0 (P:Program) (N c:Nat) (fv:AV) (args:List AV) (s:AS) (d:Option Tmp) (K:AS→Prop):Prop :=
 ∃ r h',FunW P fv args s.h (fun out h''=>out = .ret r∧h''=h')∧(c=3→Keep s.h h')∧K (AS.put N {s with h:=h'} d r)
def AnyO (P:Program) (N:Nat) (ops:Array Oper) (c:Nat) (o:Oper) (s:AS) (K:AS→Prop):Prop :=
 match Qd ops s.tm o with
 |some false=>K (AS.put N s o.dst (.v undef))
 |some true =>
  match o.op with
  | .call ⟨.value f,args,tys⟩=>if 2≤c then Qn0 P N c (s.ev f) (args.toList.map s.ev) s o.dst K else if c=0 then Qn1 P N (s.ev f) (args.toList.map s.ev) s o.dst K else QnZ P N (s.ev f) (args.toList.map s.ev) s o.dst K
  |op=>if 5≤c then (match tokA c P s.ev s.h op with
    |some (r,h')=>K (AS.put N {s with h:=h'} o.dst r)
    |none=>False) else match aop P s.ev o.type (if c=1 then [] else s.h) op with
   |some (r,h')=>K (AS.put N {s with h:=if c=1 then s.h else h'} o.dst r)
   |none=>c=4∧match aopR P s.ev s.h op with
    |some (r,h')=>K (AS.put N {s with h:=h'} o.dst r)
    |none=>False
 |none=>False
def AnyW (P:Program) (N:Nat) (ops:Array Oper):List (Nat×Nat)→(AS→Prop)→AS→Prop
 |[],K,s=>K s
 |(i,c)::l,K,s=>match ops[i]? with
  |some o=>AnyO P N ops c o s (AnyW P N ops l K)
  |none=>False
theorem Yg {P:Program} {N:Nat} {ops:Array Oper} {K:AS→Prop}:∀ {π:List (Nat×Nat)} {tm:Nat→AV} {h:AH},AnyW P N ops π K ⟨tm,h⟩→(π.all fun p=>match ops[p.1]? with|some o=>kindOk o p.2|none=>false)=true →
  ∃ tr:List Tr,tr.map (fun t=>(t.i,t.c))=π∧Runs P N ops tr tm h∧K ⟨tmS N (fun _=>true) tr tm,hS (fun _=>true) tr h⟩
 |[],tm,h,H,_=>⟨[],rfl,.nil _ _,H⟩
 |(i,c)::π,tm,h,H,hk=>by
  simp only [Qrj,Bool.and_eq_true] at hk
  obtain ⟨hk1,hk2⟩:=hk
  simp only [AnyW] at H
  cases ho:ops[i]? with
  |none=>simp [ho] at H
  |some o =>
   simp only [ho] at H hk1
   -- a step, and the rest
   have fin:∀ (r:AV) (h':AH),StepA P ops tm h c o r h'→AnyW P N ops π K ⟨putT N tm o.dst r,if 2≤c then h' else h⟩ →
     ∃ tr:List Tr,tr.map (fun t=>(t.i,t.c))=(i,c)::π∧Runs P N ops tr tm h∧K ⟨tmS N (fun _=>true) tr tm,hS (fun _=>true) tr h⟩:=by
    intro r h' hs hw
    obtain ⟨tr,h1,h2,h3⟩:=Yg hw hk2
    refine ⟨⟨i,c,o,r,h'⟩::tr,by simp [h1],.cons ⟨i,c,o,r,h'⟩ tr tm h ho hk1 hs h2,?_⟩
    simp only [tmS,hS,if_true,QrJ,decide_eq_true_eq]
    exact h3
   unfold AnyO at H
   simp only at H
   split at H
   ·rename_i hw
    rw [put_eq] at H
    refine fin (.v undef) h (by unfold StepA;simp only [hw,Qrx]) ?_
    simpa using H
   ·rename_i hw
    split at H
    ·rename_i f args tys hop
     have h1:AS.ev ⟨tm,[]⟩ f=AS.ev ⟨tm,h⟩ f:=QaR _ _ _ _
     have h2:args.toList.map (AS.ev ⟨tm,[]⟩)=args.toList.map (AS.ev ⟨tm,h⟩):=List.map_congr_left fun x _=>QaR _ _ _ _
     by_cases hc:2≤c
     ·rw [if_pos hc] at H
      obtain ⟨r,h',hf,hkp,H⟩:=H
      rw [put_eq] at H
      refine fin r h' ?_ (by rw [if_pos hc];exact H)
      unfold StepA
      simp only [hw,hop,if_pos hc]
      rw [h1,h2]
      exact ⟨hf,hkp⟩
     ·rw [if_neg hc] at H
      by_cases h0:c=0
      ·rw [if_pos h0] at H
       obtain ⟨r,hf,H⟩:=H
       rw [put_eq] at H
       refine fin r h ?_ (by simpa using H)
       unfold StepA
       simp only [hw,hop,if_neg hc,Qrz]
       intro hx hkp
       rw [h1,h2]
       exact hf hx (hkp h0)
      ·rw [if_neg h0] at H
       obtain ⟨r,hf,H⟩:=H
       rw [put_eq] at H
       refine fin r h ?_ (by simpa using H)
       unfold StepA
       simp only [hw,hop,if_neg hc,Qrz]
       intro hx _
       rw [h1,h2]
       exact hf hx
    ·rename_i op hnc
     have hev:AS.ev ⟨tm,h⟩=AS.ev ⟨tm,[]⟩:=funext fun x=>QaR _ _ _ _
     have hstep:∀ r h',(if c=1 then (∃ h1,aop P (AS.ev ⟨tm,[]⟩) o.type [] o.op=some (r,h1))∧h'=h else aop P (AS.ev ⟨tm,[]⟩) o.type h o.op=some (r,h')∨(c=4∧aop P (AS.ev ⟨tm,[]⟩) o.type h o.op=none∧aopR P (AS.ev ⟨tm,[]⟩) h o.op=some (r,h'))∨(5≤c∧tokA c P (AS.ev ⟨tm,[]⟩) h o.op=some (r,h')))→StepA P ops tm h c o r h':=by
      intro r h' hh
      unfold StepA
      rw [hw]
      cases hop:o.op with
      |call q =>
       obtain ⟨cal,args,tys⟩:=q
       cases cal with
       |value f=>exact (hnc _ _ _ hop).elim
       |_=>rw [hop] at hh;exact hh
      |_=>rw [hop] at hh;exact hh
     by_cases hc5:5≤c
     ·rw [if_pos hc5] at H
      split at H
      ·rename_i r h' hT
       rw [put_eq] at H
       rw [hev] at hT
       refine fin r h' (hstep r h' (by rw [if_neg (by omega)];exact .inr (.inr ⟨hc5,hT⟩))) ?_
       rw [if_pos (by omega)];exact H
      ·exact H.elim
     rw [if_neg hc5] at H
     split at H
     ·rename_i r h' ha
      rw [put_eq] at H
      rw [hev] at ha
      by_cases hc1:c=1
      ·subst hc1
       simp only [if_true] at ha
       refine fin r h (hstep r h ?_) ?_
       ·rw [if_pos rfl];exact ⟨⟨_,ha⟩,rfl⟩
       ·simpa using H
      ·simp only [if_neg hc1] at ha H
       refine fin r h' (hstep r h' (by rw [if_neg hc1];exact .inl ha)) ?_
       by_cases hc2:2≤c
       ·rw [if_pos hc2];exact H
       ·rw [if_neg hc2]
        have hl:Qbb o.op=true:=by
         have hcall:QbA o=false:=by
          cases hc:QbA o with
          |false=>rfl
          |true=>obtain ⟨f,args,tys,e⟩:=QbL hc;exact (hnc _ _ _ e).elim
         simp only [kindOk,hcall,Bool.false_or,Bool.or_eq_true,Bool.and_eq_true] at hk1
         rcases hk1 with ⟨h1,_⟩|⟨h1,_⟩
         ·exact h1
         ·simp at h1;exact (hc2 (by omega)).elim
        have:=(QfT (Keep.refl h) hl ha).1
        rw [← this];exact H
     ·rename_i ha
      obtain ⟨rfl,H⟩:=H
      rw [hev] at ha H
      simp only [show ¬ (4=1) by decide,if_false] at ha
      split at H
      ·rename_i r h' hR
       rw [put_eq] at H
       refine fin r h' (hstep r h' (by rw [if_neg (by decide)];exact .inr (.inl ⟨rfl,ha,hR⟩))) ?_
       rw [if_pos (by omega)];exact H
      ·exact H.elim
   ·exact H.elim
theorem QcQ {ops:Array Oper} {ms:List Nat} (hm:∀ (k i:Nat),(ms.getD k 0).testBit i=true→Anc ops i k):∀ (tr:List Tr),Qej ops ms (tr.map fun t=>(t.i,t.c))=true→(∀ t∈tr,ops[t.i]? = some t.o) →
  tr.Pairwise (fun a b=>clash ops a.o b.o a.c b.c=true→Anc ops a.i b.i)
 |[],_,_=>.nil
 |t::l,h,ho=>by
  simp only [Qre,Qej,Bool.and_eq_true,List.all_eq_true] at h
  refine List.pairwise_cons.2 ⟨fun b hb hc=>?_,QcQ hm l h.2 fun t ht=>ho t (by simp [ht])⟩
  have:=h.1 (b.i,b.c) (List.mem_map.2 ⟨b,hb,rfl⟩)
  simp only [ho t (by simp),ho b (by simp [hb]),hc,Qrm,Bool.false_or] at this
  exact hm _ _ this
theorem ZT:∀ {l:List Nat},Qhl l=true→l.Nodup
 |[],_=>List.nodup_nil
 |x::l,h=>by
  simp only [Qhl,Bool.and_eq_true,Bool.not_eq_true'] at h
  exact List.nodup_cons.2 ⟨by simpa using h.1,ZT h.2⟩
theorem Qab {P:Program} {N:Nat} {ops:Array Oper}:∀ {tr:List Tr} {tm:Nat→AV} {h:AH},Runs P N ops tr tm h→∀ t∈tr,ops[t.i]? = some t.o
 |[],_,_,_,t,ht=>by cases ht
 |t::l,tm,h,H,t',ht'=>by
  cases H with
  |cons t l tm h ho hk hs hl =>
   rcases List.mem_cons.1 ht' with rfl|h'
   ·exact ho
   ·exact Qab hl t' h'
theorem ZD {ops:Array Oper} {listed:Array Bool} (hsz:listed.size=ops.size) (hr:Region.ready .any ops listed=[]):∀ (l:List (Nat×Nat)) (pre:List Nat),topo ops pre l=true→(∀ i∈pre,listed.getD i false=true)→∀ p∈l,listed.getD p.1 false=true
 |[],_,_,_,p,hp=>by cases hp
 |(i,c)::l,pre,h,hpre,p,hp=>by
  simp only [topo,Bool.and_eq_true] at h
  have hi:listed.getD i false=true:=by
   cases ho:ops[i]? with
   |none=>simp [ho] at h
   |some o =>
    have hlt:i<ops.size:=(Array.getElem?_eq_some_iff.1 ho).1
    cases hb:listed.getD i false with
    |true=>rfl
    |false =>
     have:i∈Region.ready .any ops listed:=mem_ready.2 ⟨by
      rw [Array.getD_eq_getD_getElem?,Array.getElem?_eq_getElem (by omega)] at hb ⊢
      simpa using hb,o,ho,fun e he hbd=>by
       simp only [ho,List.all_eq_true] at h
       have:=h.1 e (Array.mem_def.1 he)
       rw [hbd] at this
       exact hpre _ (by simpa using this)⟩
     rw [hr] at this;cases this
  rcases List.mem_cons.1 hp with rfl|hp'
  ·exact hi
  ·exact ZD hsz hr l (i::pre) h.2 (fun j hj=>by
    rcases List.mem_cons.1 hj with rfl|hj
    ·exact hi
    ·exact hpre j hj) p hp'
theorem Yd {listed:Array Bool} {i j:Nat} (hi:i<listed.size):(listed.setIfInBounds i true).getD j false=(decide (j=i)||listed.getD j false):=by
 rw [Array.getD_eq_getD_getElem?,Array.getD_eq_getD_getElem?]
 by_cases h:j=i
 ·subst h;rw [Array.getElem?_setIfInBounds_self_of_lt hi];simp
 ·rw [Array.getElem?_setIfInBounds_ne (fun e=>h e.symm)];simp [h]
theorem QnD {P:Program} {N:Nat} {base:Bs×Fence} {ops:Array Oper} {F:Fence} {n:Nat} (hF:WF F) {Qx:Exit→Act→World→Prop} {tr:List Tr} {tm0:Nat→AV} {h0:AH} (hruns:Runs P N ops tr tm0 h0)
  (hpw:tr.Pairwise (fun a b=>clash ops a.o b.o a.c b.c=true→Anc ops a.i b.i)) (htopo:topo ops [] (tr.map fun t=>(t.i,t.c))=true) (hnd:(tr.map (·.i)).Nodup) (hall:∀ i,i<ops.size→∃ t∈tr,t.i=i) (hkind:∀ t∈tr,kindOk t.o t.c=true) :
  ∀ (fuel:Nat) (listed:Array Bool) (c:Cx) (a:Act),listed.size=ops.size→Down ops (fun i=>listed.getD i false)→St c→SR N base c ⟨tmS N (fun i=>listed.getD i false) tr tm0,hS (fun i=>listed.getD i false) tr h0⟩ a →
   tr.countP (fun t=>!listed.getD t.i false)≤fuel →
   (∀ c' a',Ev c c'→St c'→SR N base c' ⟨tmS N (fun _=>true) tr tm0,hS (fun _=>true) tr h0⟩ a'→Qx .normal a' c'.w)→wpAnyIn F n P .any ops Qx fuel listed a c.w:=by
 -- the end
 have done:∀ (listed:Array Bool) (c:Cx) (a:Act),listed.size=ops.size→St c→SR N base c ⟨tmS N (fun i=>listed.getD i false) tr tm0,hS (fun i=>listed.getD i false) tr h0⟩ a →
   (∀ c' a',Ev c c'→St c'→SR N base c' ⟨tmS N (fun _=>true) tr tm0,hS (fun _=>true) tr h0⟩ a'→Qx .normal a' c'.w)→(∀ t∈tr,listed.getD t.i false=true)→Qx .normal a c.w:=by
  intro listed c a hsz hst hr hQ hl
  refine hQ c a (Ev.refl c) hst ?_
  have e1:tmS N (fun i=>listed.getD i false) tr tm0=tmS N (fun _=>true) tr tm0:=funext fun x=>ZC rfl fun t ht _=>hl t ht
  have e2:hS (fun i=>listed.getD i false) tr h0=hS (fun _=>true) tr h0:=Qag fun t ht _=>hl t ht
  rw [e1,e2] at hr
  exact hr
 have ready0:∀ (listed:Array Bool),listed.size=ops.size→Region.ready .any ops listed=[]→∀ t∈tr,listed.getD t.i false=true:=fun listed hsz h t ht =>
  ZD hsz h _ [] htopo (fun i hi=>by cases hi) (t.i,t.c) (List.mem_map.2 ⟨t,ht,rfl⟩)
 intro fuel
 induction fuel with
 |zero =>
  intro listed c a hsz hd hst hr hc hQ
  have hl:∀ t∈tr,listed.getD t.i false=true:=fun t ht=>by
   have:=List.countP_eq_zero.1 (Nat.le_zero.1 hc) t ht
   simpa using this
  refine ⟨?_,done listed c a hsz hst hr hQ hl⟩
  cases hrd:Region.ready .any ops listed with
  |nil=>rfl
  |cons i l =>
   have hi:i∈Region.ready .any ops listed:=by rw [hrd];simp
   obtain ⟨h1,o,ho,_⟩:=mem_ready.1 hi
   have hlt:i<ops.size:=(Array.getElem?_eq_some_iff.1 ho).1
   obtain ⟨t,ht,rfl⟩:=hall i hlt
   have:=hl t ht
   rw [Array.getD_eq_getD_getElem?,Array.getElem?_eq_getElem (by omega)] at this h1
   simp only [Option.getD_some] at this h1
   rw [this] at h1;cases h1
 |succ fuel ih =>
  intro listed c a hsz hd hst hr hc hQ
  refine ⟨fun h=>done listed c a hsz hst hr hQ (ready0 listed hsz h),fun i hi=>?_⟩
  obtain ⟨h1,o,ho,hedge⟩:=mem_ready.1 hi
  have hlt:i<ops.size:=(Array.getElem?_eq_some_iff.1 ho).1
  have hSi:listed.getD i false=false:=by
   rw [Array.getD_eq_getD_getElem?,Array.getElem?_eq_getElem (by omega)] at h1 ⊢
   simpa using h1
  obtain ⟨t,ht,rfl⟩:=hall i hlt
  obtain ⟨pre,post,htr⟩:=List.append_of_mem ht
  have hto:t.o=o:=by
   have:=Qab hruns t ht
   rw [ho] at this;cases this;rfl
  subst hto
  -- the set with it
  have hS':∀ j,(listed.setIfInBounds t.i true).getD j false=(decide (j=t.i)||listed.getD j false):=fun j=>Yd (by omega)
  have hd':Down ops (fun j=>(listed.setIfInBounds t.i true).getD j false):=by
   intro j oj hoj hj e he hb
   dsimp only at hj ⊢
   rw [hS'] at hj ⊢
   by_cases hji:j=t.i
   ·subst hji
    rw [ho] at hoj;cases hoj
    rw [hedge e he hb];simp
   ·have:listed.getD j false=true:=by simpa [hji] using hj
    have h2:listed.getD e.on false=true:=hd j oj hoj this e he hb
    rw [h2];simp
  have hanc:∀ j,Anc ops j t.i→j≠t.i→listed.getD j false=true:=fun j hj hne=>by
   have:=hd'.anc hj (by show _=true;rw [hS'];simp)
   have h2:(listed.setIfInBounds t.i true).getD j false=true:=this
   rw [hS'] at h2
   simpa [hne] using h2
  have hnot:∀ j,Anc ops t.i j→listed.getD j false=false:=fun j hj=>by
   cases hb:listed.getD j false with
   |false=>rfl
   |true=>have:=hd.anc hj hb;rw [hSi] at this;cases this
  -- the others
  have hne:∀ b,b∈pre∨b∈post→b.i≠t.i:=by
   rw [htr] at hnd
   simp only [List.map_append,Qre] at hnd
   obtain ⟨n1,n2,n3⟩:=List.nodup_append.1 hnd
   intro b hb e
   rcases hb with hb|hb
   ·exact n3 b.i (List.mem_map.2 ⟨b,hb,rfl⟩) t.i (by simp) e
   ·exact (List.nodup_cons.1 n2).1 (List.mem_map.2 ⟨b,hb,e⟩)
  rw [htr] at hpw
  obtain ⟨p1,p2,p3⟩:=List.pairwise_append.1 hpw
  obtain ⟨p4,p5⟩:=List.pairwise_cons.1 p2
  have hpre:∀ b∈pre,clash ops b.o t.o b.c t.c=true→listed.getD b.i false=true:=fun b hb hcl=>hanc _ (p3 b hb t (by simp) hcl) (hne b (.inl hb))
  have hpost:∀ b∈post,clash ops t.o b.o t.c b.c=true→listed.getD b.i false=false:=fun b hb hcl=>hnot _ (p4 b hb hcl)
  have hsame:∀ b,b∈pre∨b∈post→(listed.setIfInBounds t.i true).getD b.i false=listed.getD b.i false:=fun b hb=>by
   rw [hS'];simp [hne b hb]
  -- what it looks at
  have hsplit:=hruns
  rw [htr] at hsplit
  have hs2:=Runs.split hsplit
  have hstep:StepA P ops (tmS N (fun _=>true) pre tm0) (hS (fun _=>true) pre h0) t.c t.o t.r t.h':=by cases hs2 with|cons _ _ _ _ _ _ hs _=>exact hs
  have hk:kindOk t.o t.c=true:=hkind t ht
  have hreads:∀ x∈readsOf ops t.o,tmS N (fun i=>listed.getD i false) tr tm0 x=tmS N (fun _=>true) pre tm0 x:=by
   intro x hx
   rw [htr,XQ,XO]
   ·refine ZC rfl fun b hb hbd=>hpre b hb ?_
    unfold clash;rw [hbd];simp [hx]
   ·intro b hb hbS hbd
    rcases List.mem_cons.1 hb with rfl|hb
    ·rw [hSi] at hbS;cases hbS
    ·rw [hpost b hb (by unfold clash;rw [hbd];simp [hx])] at hbS;cases hbS
  have hclash2:∀ b∈pre,2≤b.c→t.c≠1→listed.getD b.i false=true:=fun b hb h2 ht1=>hpre b hb (by unfold clash;simp [h2,ht1])
  have hheapPre:t.c≠1→hS (fun i=>listed.getD i false) pre h0=hS (fun _=>true) pre h0:=fun ht1=>Qag fun b hb h2=>hclash2 b hb h2 ht1
  have hh:(2≤t.c∧hS (fun i=>listed.getD i false) tr h0=hS (fun _=>true) pre h0)∨(t.c<2∧(t.c=1∨Keep (hS (fun _=>true) pre h0) (hS (fun i=>listed.getD i false) tr h0))):=by
   by_cases hc2:2≤t.c
   ·refine .inl ⟨hc2,?_⟩
    rw [htr,Ym,Ys,hheapPre (by omega)]
    intro b hb hbc
    rcases List.mem_cons.1 hb with rfl|hb
    ·exact hSi
    ·have h1:b.c≠1:=by omega
     exact hpost b hb (by unfold clash;simp [hc2,h1])
   ·refine .inr ⟨by omega,?_⟩
    by_cases hc1:t.c=1
    ·exact .inl hc1
    ·refine .inr ?_
     rw [htr,Ym,hheapPre hc1]
     refine Runs.keep hs2 ?_ ?_
     ·intro b hb hbc hbS
      rcases List.mem_cons.1 hb with rfl|hb
      ·exact (hc2 hbc).elim
      ·cases hadd:((QbX b.o.op&&b.c != 4)||b.c==3) with
       |true=>rfl
       |false =>
        rw [hpost b hb (by unfold clash;rw [hadd];simp [hc1,hc2,hbc])] at hbS;cases hbS
     ·refine p2.imp ?_
      intro x y hxy hx hy hyS
      have h1:y.c≠1:=by omega
      exact hd.anc (hxy (by unfold clash;simp [hx,h1])) hyS
  -- the state behind it
  have hpreS:tmS N (fun i=>(listed.setIfInBounds t.i true).getD i false) pre tm0=tmS N (fun i=>listed.getD i false) pre tm0:=funext fun x=>ZC rfl fun b hb _=>hsame b (.inl hb)
  have hpreH:hS (fun i=>(listed.setIfInBounds t.i true).getD i false) pre h0=hS (fun i=>listed.getD i false) pre h0:=Qag fun b hb _=>hsame b (.inl hb)
  have hSt:(listed.setIfInBounds t.i true).getD t.i false=true:=by rw [hS'];simp
  have hstm:tmS N (fun i=>(listed.setIfInBounds t.i true).getD i false) tr tm0=putT N (tmS N (fun i=>listed.getD i false) tr tm0) t.o.dst t.r:=by
   funext x
   rw [htr,XQ,XQ,hpreS]
   simp only [tmS,hSt,hSi,if_true,Qq3,if_false]
   by_cases hdx:t.o.dst=some x
   ·have hskip:∀ b∈post,b.o.dst=some x→listed.getD b.i false=false:=fun b hb hbd=>hpost b hb (by unfold clash;rw [hdx,hbd];simp)
    rw [XO (fun b hb hbS hbd=>by rw [hsame b (.inr hb),hskip b hb hbd] at hbS;cases hbS)]
    have e:=XO (N:=N) (S:=fun i=>listed.getD i false) (x:=x) (l:=post) (f:=tmS N (fun i=>listed.getD i false) pre tm0) (fun b hb hbS hbd=>by rw [hskip b hb hbd] at hbS;cases hbS)
    exact QcS (fun _=>e.symm) (.inl e.symm)
   ·rw [QcT hdx]
    exact ZC (QcT hdx) fun b hb _=>hsame b (.inr hb)
  have hshp:hS (fun i=>(listed.setIfInBounds t.i true).getD i false) tr h0=if 2≤t.c then t.h' else hS (fun i=>listed.getD i false) tr h0:=by
   rw [htr,Ym,Ym,hpreH]
   simp only [hS,hSt,hSi,QrJ,Bool.false_and,Qq3,if_false,decide_eq_true_eq]
   by_cases hc2:2≤t.c
   ·rw [if_pos hc2,if_pos hc2]
    refine Ys fun b hb hbc=>?_
    rw [hsame b (.inr hb)]
    have h1:b.c≠1:=by omega
    exact hpost b hb (by unfold clash;simp [hc2,h1])
   ·rw [if_neg hc2,if_neg hc2]
    exact Qag fun b hb _=>hsame b (.inr hb)
  have hcount:tr.countP (fun u=>!(listed.setIfInBounds t.i true).getD u.i false)≤fuel:=by
   rw [htr] at hc ⊢
   simp only [List.countP_append,List.countP_cons,hSt,hSi,Qrm,Qrn,Qq3,if_false,if_true] at hc ⊢
   have c1:pre.countP (fun u=>!(listed.setIfInBounds t.i true).getD u.i false)=pre.countP (fun u=>!listed.getD u.i false):=List.countP_congr fun b hb=>by rw [hsame b (.inl hb)]
   have c2:post.countP (fun u=>!(listed.setIfInBounds t.i true).getD u.i false)=post.countP (fun u=>!listed.getD u.i false):=List.countP_congr fun b hb=>by rw [hsame b (.inr hb)]
   rw [c1,c2];omega
  have next:∀ c' a',Ev c c'→St c'→SR N base c' (AS.put N ⟨tmS N (fun i=>listed.getD i false) tr tm0,if 2≤t.c then t.h' else hS (fun i=>listed.getD i false) tr h0⟩ t.o.dst t.r) a' →
    wpAnyIn F n P .any ops Qx fuel (listed.setIfInBounds t.i true) a' c'.w:=by
   intro c' a' hev hst' hr'
   rw [put_eq,← hstm,← hshp] at hr'
   exact ih _ c' a' (by simpa using hsz) hd' hst' hr' hcount fun c2 a2 e2 s2 r2=>hQ c2 a2 (Ev.trans hst hev e2) s2 r2
  unfold wpOpIn
  simp only [ho]
  rcases hstep.turn hk hreads hh N with ⟨hw,hru,hhe⟩|⟨hw,hop|hop⟩
  ·rw [Xd hr hw]
   simp only [Qq3,if_false]
   refine ⟨fun f _=>hF.fn f,?_⟩
   have hr':=hr.put hst (Ev.refl c) t.o.dst (.v undef)
   rw [hr.h] at hr'
   refine next c _ (Ev.refl c) hst ?_
   rw [hhe,hru]
   exact hr'
  ·rw [Xd hr hw]
   simp only [if_true]
   refine Qbd (hop (fun s'=>s'=AS.put N ⟨tmS N (fun i=>listed.getD i false) tr tm0,if 2≤t.c then t.h' else hS (fun i=>listed.getD i false) tr h0⟩ t.o.dst t.r) (fun _ _=>False) rfl) hF hst hr ?_ ?_
   ·intro s' c' a' hs hev hst' hr'
    subst hs
    exact next c' a' hev hst' hr'
   ·intro r s' c' x hf
    exact hf.elim
  ·rw [Xd hr hw]
   simp only [if_true]
   refine QfK (K:=fun s'=>s'=AS.put N ⟨tmS N (fun i=>listed.getD i false) tr tm0,if 2≤t.c then t.h' else hS (fun i=>listed.getD i false) tr h0⟩ t.o.dst t.r) hop rfl hF hst hr ?_
   intro s' c' a' hs hev hst' hr'
   subst hs
   exact next c' a' hev hst' hr'
theorem XP {P:Program} {N:Nat} {Q:AExit→AS→Prop} {s:AS} {id:Nat} {ops:Array Oper} (π:List (Nat×Nat)) (hm:P.follows .mixedOrders=true) (hok:Qn5 ops π=true)
  (H:∀ (K:AS→Prop),(∀ s,Q .normal s→K s)→AnyW P N ops π K s):XF P N (.region id ops true) Q s:=by
 intro F n base c a hF hst hr R hR
 refine wpIn_region_any hm ?_
 obtain ⟨tm,hp⟩:=s
 simp only [Qn5,Bool.and_eq_true] at hok
 obtain ⟨⟨⟨⟨⟨hp0,hp1⟩,hp2⟩,hp3⟩,hp4⟩,hp5⟩:=hok
 obtain ⟨tr,rfl,hruns,hK⟩:=Yg (H _ (fun s h=>h)) hp5
 have hev:Ev c (c.to {c.w with drawn:=c.w.drawn+1}):=Ev.idle hst (Ev.refl c) rfl rfl rfl rfl fun k=>.inl rfl
 have hst':St (c.to {c.w with drawn:=c.w.drawn+1}):=hst.idle rfl fun k o hk=>.inl hk
 have hr':SR N (base,F) (c.to {c.w with drawn:=c.w.drawn+1}) ⟨tm,hp⟩ a:=⟨hr.h,hr.size,Nat.le_trans hr.above hev.size,hr.defers.ev hev,RoundOk.ev hev hr.round,fun t=>(hr.tm t).ev hst hev⟩
 have hops:=Qab hruns
 have hnone:∀ j,(Array.replicate ops.size false).getD j false=false:=fun j=>by
  rw [Array.getD_eq_getD_getElem?,Array.getElem?_replicate]
  split <;> rfl
 refine QnD (base:=(base,F)) hF hruns (QcQ (YU ops.toList [] (fun j o h=>by simpa using h) (fun k i h=>by simp at h)) tr hp1 hops) hp2 ?_ ?_ ?_ _ _ (c.to {c.w with drawn:=c.w.drawn+1}) a (by simp) ?_ hst' ?_ ?_ ?_
 ·have:=ZT hp3
  rw [List.map_map] at this
  exact this
 ·intro i hi
  have:=List.all_eq_true.1 hp4 i (List.mem_range.2 hi)
  have:i∈(tr.map fun t=>(t.i,t.c)).map (·.1):=by simpa using this
  rw [List.map_map] at this
  obtain ⟨t,ht,rfl⟩:=List.mem_map.1 this
  exact ⟨t,ht,rfl⟩
 ·intro t ht
  have:=List.all_eq_true.1 hp5 (t.i,t.c) (List.mem_map.2 ⟨t,ht,rfl⟩)
  simpa [hops t ht] using this
 ·intro j o ho hj
  simp only at hj
  rw [hnone] at hj;cases hj
 ·have e1:tmS N (fun i=>(Array.replicate ops.size false).getD i false) tr tm=tm:=funext fun x=>XO fun t _ h=>by rw [hnone] at h;cases h
  have e2:hS (fun i=>(Array.replicate ops.size false).getD i false) tr hp=hp:=Ys fun t _ _=>hnone _
  rw [e1,e2];exact hr'
 ·-- asx many asx there are
  have:tr.length≤ops.size:=by
   have:=beq_iff_eq.1 hp0
   simp only [List.length_map] at this;omega
  exact Nat.le_trans List.countP_le_length this
 ·intro c' a' h1 h2 h3
  exact hR _ _ c' a' _ hK (Ev.trans hst hev h1) h2 h3 rfl
theorem Xj {P:Program} {N:Nat} {Q:AExit→AS→Prop} {s:AS} {id:Nat} {ops:Array Oper} {y:Code} (π:List (Nat×Nat)) (hm:P.follows .mixedOrders=true) (hok:Qn5 ops π=true)
  (H:∀ (K:AS→Prop),(∀ s,XF P N y Q s→K s)→AnyW P N ops π K s):XF P N (.seq (.region id ops true) y) Q s :=
 Qal (XP π hm hok fun K hK=>H K hK)
section
variable (P:Program) (N:Nat) (ops:Array Oper) (tm:Nat→AV) (h:AH) (K:AS→Prop)
theorem Qdq:AnyW P N ops [] K ⟨tm,h⟩=K ⟨tm,h⟩:=rfl
theorem Qkz (i c:Nat) (l:List (Nat×Nat)):AnyW P N ops ((i,c)::l) K ⟨tm,h⟩=(match ops[i]? with|some o=>AnyO P N ops c o ⟨tm,h⟩ (AnyW P N ops l K)|none=>False):=rfl
theorem Qn4 (c:Nat) (o:Oper):AnyO P N ops c o ⟨tm,h⟩ K=(match Qd ops tm o with
 |some false=>K (AS.put N ⟨tm,h⟩ o.dst (.v undef))
 |some true =>
  match o.op with
  | .call ⟨.value f,args,tys⟩=>if 2≤c then Qn0 P N c (AS.ev ⟨tm,h⟩ f) (args.toList.map (AS.ev ⟨tm,h⟩)) ⟨tm,h⟩ o.dst K else if c=0 then Qn1 P N (AS.ev ⟨tm,h⟩ f) (args.toList.map (AS.ev ⟨tm,h⟩)) ⟨tm,h⟩ o.dst K else QnZ P N (AS.ev ⟨tm,h⟩ f) (args.toList.map (AS.ev ⟨tm,h⟩)) ⟨tm,h⟩ o.dst K
  |op=>if 5≤c then (match tokA c P (AS.ev ⟨tm,h⟩) h op with
    |some (r,h')=>K (AS.put N ⟨tm,h'⟩ o.dst r)
    |none=>False) else match aop P (AS.ev ⟨tm,h⟩) o.type (if c=1 then [] else h) op with
   |some (r,h')=>K (AS.put N ⟨tm,if c=1 then h else h'⟩ o.dst r)
   |none=>c=4∧match aopR P (AS.ev ⟨tm,h⟩) h op with
    |some (r,h')=>K (AS.put N ⟨tm,h'⟩ o.dst r)
    |none=>False
 |none=>False):=rfl
end
end Go.Proofs.YticgcpebdldbgaaDoor.Ab
namespace Go.Proofs.YticgcpebdldbgaaDoor.Ab
theorem QfL {c:Cx} (e s:Nat):∀ b,some c.h.length=some b→(c.add c.w (.grow e s 0) none).tokNil b s:=by
 intro b hb
 cases hb
 refine ⟨by simp [Cx.add],fun e2 s2 n2 hg2=>?_⟩
 simp [Cx.add] at hg2
 exact ⟨hg2.2.1.symm,fun _=>by simp [Cx.add]⟩
theorem ZX {P:Program} {N:Nat} {code:Code} {Q:AExit→AS→Prop} {tm:Nat→AV} {h:AH} (d e s:Nat) (hd:tm d = .v (.slice none 0 0))
  (H:XF P N code Q ⟨upd tm d (.sl s [] (some h.length)),h++[.grow e s 0]⟩):XF P N code Q ⟨tm,h⟩:=by
 intro F n base c a hF hst hr R hR
 have hh:c.h=h:=hr.h
 subst hh
 have hg:=Grows.refl c.w
 have ho:∀ B,(none:Option Nat)=some B→c.w.heap.size≤B:=fun B h=>by cases h
 have hev:=Ev.add hst hg (.grow e s 0) none ho
 have hρ:(c.add c.w (.grow e s 0) none).ρ c.h.length=none:=by simp [Cx.add]
 have hst':St (c.add c.w (.grow e s 0) none):=St.add hst hg _ _ ho (fun B hB=>by rw [hρ] at hB;cases hB)
 refine H F n base (c.add c.w (.grow e s 0) none) a hF hst' ⟨rfl,hr.size,hr.above,hr.defers.ev hev,RoundOk.ev hev hr.round,fun t=>?_⟩ R fun e' s' c' a' ex hq h1 h2 h3 h4=>hR e' s' c' a' ex hq (Ev.trans hst hev h1) h2 h3 h4
 simp only [upd]
 split
 ·rename_i ht
  subst ht
  have h1:=hr.tm t
  simp only [hd] at h1
  generalize hu:a.tmps.getD t undef=u at h1
  cases h1
  exact .slnil _ _ (QfL e s)
 ·exact (hr.tm t).ev hst hev
inductive T where
 |mk (kind int:Int) (name:ByteArray) (args:List T)
 deriving Inhabited
def T.kind:T→Int | .mk k _ _ _=>k
def T.int:T→Int | .mk _ i _ _=>i
def T.name:T→ByteArray | .mk _ _ n _=>n
def T.args:T→List T | .mk _ _ _ l=>l
mutual
def T.av:T→AV
 | .mk k i n l=>.agg [.v (.int .i64 k),.v (.int .i64 i),.v (.string n),.sl 4 (avs l) none]
def avs:List T→List AV
 |[]=>[]
 |t::l=>t.av::avs l
end
theorem Qf0:∀ l:List T,avs l=l.map T.av
 |[]=>rfl
 |t::l=>by simp only [avs,Qre,Qf0 l]
theorem Qf1:avs []=[]:=rfl
theorem Qe3 (l:List T):(avs l).length=l.length:=by rw [Qf0,List.length_map]
theorem Qay {l:List T} {k:Nat} (h:k<l.length):(avs l)[k]? = some (l[k]).av:=by
 rw [Qf0,List.getElem?_map,List.getElem?_eq_getElem h];rfl
theorem T.Qp9 (t:T):t.av.cells=[.v (.int .i64 t.kind),.v (.int .i64 t.int),.v (.string t.name),.sl 4 (avs t.args) none]:=by cases t;rfl
theorem T.Qqa (t:T):t.av.isAgg=true:=by cases t;rfl
mutual
theorem T.QqI (n:Nat):∀ t:T,Below n t.av
 | .mk k i nm l=>by
  simp only [T.av]
  refine .agg _ fun a ha=>?_
  simp only [List.mem_cons,List.not_mem_nil,or_false] at ha
  rcases ha with rfl|rfl|rfl|rfl
  ·exact .v _
  ·exact .v _
  ·exact .v _
  ·exact .sl 4 _ none (QfZ n l) (fun b hb=>by cases hb)
theorem QfZ (n:Nat):∀ l:List T,∀ a∈flat (avs l),Below n a
 |[],a,ha=>by simp [avs,flat] at ha
 |t::l,a,ha=>by
  simp only [avs,Q2,List.mem_append] at ha
  rcases ha with ha|ha
  ·have h1:=T.QqI n t
   cases t with
   |mk k i nm l' =>
    simp only [T.av] at h1
    cases h1 with
    |agg _ h=>exact h a (by simpa only [T.av,AV.cells] using ha)
  ·exact QfZ n l a ha
end
theorem QdN (n:Nat) (l:List T):Below n (.sl 4 (avs l) none):=.sl 4 _ none (QfZ n l) (fun b hb=>by cases hb)
def ints (l:List Int):List AV:=l.map fun n=>.v (.int .i64 n)
theorem Qic (l:List Int):(ints l).length=l.length:=List.length_map _
theorem QmZ:ints []=[]:=rfl
theorem Qm0 (n:Int):ints [n]=[.v (.int .i64 n)]:=rfl
theorem Qib (l m:List Int):ints (l++m)=ints l++ints m:=List.map_append
theorem Qdw {l:List Int} {k:Nat} (h:k<l.length):(ints l)[k]? = some (.v (.int .i64 l[k])):=by
 rw [ints,List.getElem?_map,List.getElem?_eq_getElem h];rfl
theorem Qan (n:Nat) (l:List Int):∀ a∈flat (ints l),Below n a:=by
 intro a ha
 simp only [flat,ints,List.mem_flatMap,List.mem_map] at ha
 obtain ⟨x,⟨y,_,rfl⟩,hx⟩:=ha
 simp only [AV.cells,List.mem_singleton] at hx
 subst hx
 exact .v _
theorem rng0:List.range 0=[]:=rfl
theorem rng1:List.range 1=[0]:=rfl
theorem rng2:List.range 2=[0,1]:=rfl
theorem rng3:List.range 3=[0,1,2]:=rfl
theorem rng4:List.range 4=[0,1,2,3]:=rfl
theorem rng5:List.range 5=[0,1,2,3,4]:=rfl
theorem rng6:List.range 6=[0,1,2,3,4,5]:=rfl
theorem rng7:List.range 7=[0,1,2,3,4,5,6]:=rfl
theorem rng8:List.range 8=[0,1,2,3,4,5,6,7]:=rfl
theorem QkB {α:Type} (p:α→Bool) (x:α):Option.any p (some x)=p x:=rfl
def Pure (P:Program) (f:FuncId) (args:List AV) (r:AV):Prop:=∀ h,QJ P f args h fun o h'=>o = .ret r∧h'=h
theorem Qz {P:Program} {f:FuncId} {args:List AV} {r:AV} {h:AH} {C:AOut→AH→Prop} (H:Pure P f args r) (k:C (.ret r) h):FunW P (.fn (.func f) [] []) args h C:=by
 refine FunW.fn ?_
 rw [List.nil_append,List.append_nil]
 exact (H h).mono (by rintro _ _ ⟨rfl,rfl⟩;exact k)
theorem QcE {P:Program} {N:Nat} {f:FuncId} {args:List AV} {r:AV} {s:AS} {d:Option Tmp} {K:AS→Prop} (H:Pure P f args r) (k:K (AS.put N s d r)):QnZ P N (.fn (.func f) [] []) args s d K :=
 ⟨r,fun hx=>Qz H ⟨rfl,rfl⟩,k⟩
theorem Qi {h h':AH} {r r':AV} {Q:AV→AH→Prop} (ht:h'.take h.length=h) (hf:Frz h' h.length r r') (hq:Q r' h):Leaves h h' r Q:=by
 refine .inl ⟨h.length,r',Nat.le_refl _,?_,.inl ht,hf,by rw [ht];exact hq⟩
 have:=congrArg List.length ht
 rw [List.length_take] at this
 omega
theorem Qlh (h:AH):h.take h.length=h:=List.take_length
theorem XR {n:Int} (h : -9223372036854775808≤n∧n≤9223372036854775807):IntKind.i64.wrap n=n:=IntWalk.i64_in n h
theorem Xk {n:Nat} (h:n≤9223372036854775806):IntKind.i64.wrap ((n:Int)+1)=((n+1:Nat):Int):=by
 rw [XR (by omega)];omega
def T.uses (t:T):List T:=if t.kind=2 then t.args else []
mutual
def T.size:T→Nat
 | .mk k _ _ l=>1+(if k=2 then sizes l else 0)
def sizes:List T→Nat
 |[]=>0
 |t::l=>t.size+sizes l
end
theorem T.size_eq (t:T):t.size=1+sizes t.uses:=by
 cases t with|mk k i n l=>simp only [T.size,T.uses,T.kind,T.args];by_cases hk:k=2 <;> simp [hk,sizes]
theorem Qdf (l m:List T):sizes (l++m)=sizes l+sizes m:=by
 induction l with
 |nil=>simp [sizes]
 |cons t l ih=>simp only [Qrr,sizes,ih];omega
theorem Qbj {l:List T} {k:Nat} (h:k<l.length):sizes (l.take (k+1))=sizes (l.take k)+(l[k]).size:=by
 rw [List.take_succ_eq_append_getElem h,Qdf];simp [sizes]
theorem Qcv (l:List T) (k:Nat):sizes (l.take k)≤sizes l:=by
 have:=Qdf (l.take k) (l.drop k)
 rw [List.take_append_drop] at this
 omega
theorem size_pos (t:T):1≤t.size:=by rw [T.size_eq];omega
theorem Qba (l:List T):l.length≤sizes l:=by
 induction l with
 |nil=>simp
 |cons t l ih=>have:=size_pos t;simp only [Qrc,sizes];omega
set_option maxRecDepth 4000
abbrev Qc:=And.intro
 (And.intro
 (And.intro
 (And.intro
 (And.intro
 (And.intro
 (And.intro (@Qdq) (@Qkz))
 (And.intro (@Qn4) (@Xb)))
 (And.intro
 (And.intro (@Xh) (@List.isEmpty_nil.{0}))
 (And.intro (@List.isEmpty_cons.{0})
 (And.intro (@QoZ) (@QmP)))))
 (And.intro
 (And.intro
 (And.intro (@Qoc) (@Q8))
 (And.intro (@Qnm) (@QbN)))
 (And.intro
 (And.intro (@Yf) (@Qoq))
 (And.intro (@Qch)
 (And.intro (@Qop) (@Qiq))))))
 (And.intro
 (And.intro
 (And.intro
 (And.intro (@Qip) (@Qho))
 (And.intro (@Qoo) (@Yq)))
 (And.intro
 (And.intro (@List.getD_cons_zero.{0}) (@List.getD_cons_succ.{0}))
 (And.intro (@QbZ)
 (And.intro (@Qoa) (@QmK)))))
 (And.intro
 (And.intro
 (And.intro (@QkW) (@QkX))
 (And.intro (@QkU)
 (And.intro (@QmJ) (@QmI))))
 (And.intro
 (And.intro (@QkV) (@Qlj))
 (And.intro (@Qoj)
 (And.intro (@Qm3) (@Qlm)))))))
 (And.intro
 (And.intro
 (And.intro
 (And.intro
 (And.intro (@Qln) (@Qlk))
 (And.intro (@Qm2) (@Qm1)))
 (And.intro
 (And.intro (@Qll) (@List.all_cons.{0}))
 (And.intro (@List.all_nil.{0})
 (And.intro (@QkP) (@QjC)))))
 (And.intro
 (And.intro
 (And.intro (@QkT) (@QhZ))
 (And.intro (@QkQ) (@Qf3)))
 (And.intro
 (And.intro (@Qf2) (@QeL))
 (And.intro (@QmH)
 (And.intro (@QkR) (@QkS))))))
 (And.intro
 (And.intro
 (And.intro
 (And.intro (@QkN) (@QmG))
 (And.intro (@QmF) (@QkO)))
 (And.intro
 (And.intro (@Bool.and_self) (@Bool.and_true))
 (And.intro (@Bool.true_and)
 (And.intro (@Bool.not_true) (@Bool.not_false)))))
 (And.intro
 (And.intro
 (And.intro (@List.length_cons.{0}) (@List.length_nil.{0}))
 (And.intro (@Nat.zero_add)
 (And.intro (@Nat.add_zero) (@true_and))))
 (And.intro
 (And.intro (@and_true) (@and_self))
 (And.intro (@Y8)
 (And.intro (@QgQ) (@Z4))))))))
 (And.intro
 (And.intro
 (And.intro
 (And.intro
 (And.intro
 (And.intro (@hget) (@QbK))
 (And.intro (@hset) (@hlen)))
 (And.intro
 (And.intro (@happ) (@List.getElem?_cons_zero.{0}))
 (And.intro (@List.getElem?_cons_succ.{0})
 (And.intro (@List.getElem?_nil.{0}) (@List.set_cons_zero.{0})))))
 (And.intro
 (And.intro
 (And.intro (@List.set_cons_succ.{0}) (@Option.map_some.{0,0}))
 (And.intro (@Option.map_none.{0,0}) (@Option.bind_some.{0,0})))
 (And.intro
 (And.intro (@Option.bind_none.{0,0}) (@Option.some.injEq.{0}))
 (And.intro (@List.toList_toArray.{0})
 (And.intro (@List.getElem?_toArray.{0}) (@List.map_cons.{0,0}))))))
 (And.intro
 (And.intro
 (And.intro
 (And.intro (@List.map_nil.{0,0}) (@List.cons_append.{0}))
 (And.intro (@List.nil_append.{0}) (@List.append_nil.{0})))
 (And.intro
 (And.intro (@List.take_succ_cons.{0}) (@List.take_zero.{0}))
 (And.intro (@List.drop_succ_cons.{0})
 (And.intro (@List.drop_zero.{0}) (@Qpl)))))
 (And.intro
 (And.intro
 (And.intro (@Qpu) (@Qpp))
 (And.intro (@Qpo)
 (And.intro (@Qpn) (@Qpm))))
 (And.intro
 (And.intro (@Qpj) (@Qpw))
 (And.intro (@Qps)
 (And.intro (@Qpv) (@Qpt)))))))
 (And.intro
 (And.intro
 (And.intro
 (And.intro
 (And.intro (@Qpq) (@Qpr))
 (And.intro (@Qoy) (@QoB)))
 (And.intro
 (And.intro (@QoA) (@Qoz))
 (And.intro (@decide_true)
 (And.intro (@decide_false) (@beq_self_eq_true.{0})))))
 (And.intro
 (And.intro
 (And.intro (@bne_self_eq_false.{0}) (@Int.toNat_natCast))
 (And.intro (@Int.toNat_zero) (@Int.toNat_one)))
 (And.intro
 (And.intro (@Int.natCast_nonneg) (@Int.ofNat_lt))
 (And.intro (@Int.ofNat_le)
 (And.intro (@Int.natCast_zero) (@Bool.false_eq_true))))))
 (And.intro
 (And.intro
 (And.intro
 (And.intro (@Bool.true_eq_false) (@beq_true))
 (And.intro (@beq_false) (@rng0)))
 (And.intro
 (And.intro (@rng1) (@rng2))
 (And.intro (@rng3)
 (And.intro (@rng4) (@rng5)))))
 (And.intro
 (And.intro
 (And.intro (@rng6) (@rng7))
 (And.intro (@rng8)
 (And.intro (@QkB) (@Nat.zero_le))))
 (And.intro
 (And.intro (@Nat.zero_mul) (@T.Qp9))
 (And.intro (@T.Qqa)
 (And.intro (@Qe3) (@Qic))))))))
open Go.Proofs
theorem ti0:Xn Tryd.prog 0=some (false,1):=by kernel_rfl
theorem zi0:Xs Tryd.prog 0=some (.v (.tuple #[])):=by kernel_rfl
theorem ti1:Xn Tryd.prog 1=some (false,1):=by kernel_rfl
theorem zi1:Xs Tryd.prog 1=some (.v .nilFunc):=by kernel_rfl
theorem ti3:Xn Tryd.prog 3=some (false,1):=by kernel_rfl
theorem zi3:Xs Tryd.prog 3=some (.v (.int .i64 0)):=by kernel_rfl
theorem un3:Program.underlying Tryd.prog 3=some (.int .i64):=by kernel_rfl
theorem ti4:Xn Tryd.prog 4=some (false,1):=by kernel_rfl
theorem zi4:Xs Tryd.prog 4=some (.v (.bool false)):=by kernel_rfl
theorem un4:Program.underlying Tryd.prog 4=some .bool:=by kernel_rfl
theorem ti5:Xn Tryd.prog 5=some (false,1):=by kernel_rfl
theorem zi5:Xs Tryd.prog 5=some (.v (.int .u8 0)):=by kernel_rfl
theorem un5:Program.underlying Tryd.prog 5=some (.int .u8):=by kernel_rfl
theorem ti9:Xn Tryd.prog 9=some (false,1):=by kernel_rfl
theorem ei9:Xa Tryd.prog 9=none:=by kernel_rfl
theorem zi9:Xs Tryd.prog 9=some (.v (.string ⟨#[]⟩)):=by kernel_rfl
theorem un9:Program.underlying Tryd.prog 9=some .string:=by kernel_rfl
theorem ti23:Xn Tryd.prog 23=some (false,1):=by kernel_rfl
theorem ei23:Xa Tryd.prog 23=some (78,2):=by kernel_rfl
theorem ai23:appInfo Tryd.prog 23 23=some ⟨78,2,24⟩:=by kernel_rfl
theorem un23:Program.underlying Tryd.prog 23=some (.slice 78):=by kernel_rfl
theorem ti24:Xn Tryd.prog 24=some (false,1):=by kernel_rfl
theorem ei24:Xa Tryd.prog 24=some (34,6):=by kernel_rfl
theorem ai24:appInfo Tryd.prog 24 24=some ⟨34,6,120⟩:=by kernel_rfl
theorem un24:Program.underlying Tryd.prog 24=some (.slice 34):=by kernel_rfl
theorem ti26:Xn Tryd.prog 26=some (true,2):=by kernel_rfl
theorem QiS:fieldInfo Tryd.prog 26 0=some (0,23):=by kernel_rfl
theorem QaS:fieldInfo Tryd.prog 26 1=some (1,24):=by kernel_rfl
theorem zi26:Xs Tryd.prog 26=some (.agg [.v (.slice none 0 0),.v (.slice none 0 0)]):=by kernel_rfl
theorem sp26:Xp Tryd.prog 26=some [(0,1),(1,1)]:=by kernel_rfl
theorem ti27:Xn Tryd.prog 27=some (false,1):=by kernel_rfl
theorem zi27:Xs Tryd.prog 27=some (.v (.int .i64 0)):=by kernel_rfl
theorem un27:Program.underlying Tryd.prog 27=some (.int .i64):=by kernel_rfl
theorem ti31:Xn Tryd.prog 31=some (false,1):=by kernel_rfl
theorem ei31:Xa Tryd.prog 31=some (72,2):=by kernel_rfl
theorem ai31:appInfo Tryd.prog 31 31=some ⟨72,2,40⟩:=by kernel_rfl
theorem zi31:Xs Tryd.prog 31=some (.v (.slice none 0 0)):=by kernel_rfl
theorem un31:Program.underlying Tryd.prog 31=some (.slice 72):=by kernel_rfl
theorem ti32:Xn Tryd.prog 32=some (false,1):=by kernel_rfl
theorem ei32:Xa Tryd.prog 32=some (52,3):=by kernel_rfl
theorem ai32:appInfo Tryd.prog 32 32=some ⟨52,3,48⟩:=by kernel_rfl
theorem zi32:Xs Tryd.prog 32=some (.v (.slice none 0 0)):=by kernel_rfl
theorem un32:Program.underlying Tryd.prog 32=some (.slice 52):=by kernel_rfl
theorem ti34:Xn Tryd.prog 34=some (true,6):=by kernel_rfl
theorem QnJ:fieldInfo Tryd.prog 34 0=some (0,9):=by kernel_rfl
theorem Qby:fieldInfo Tryd.prog 34 1=some (1,31):=by kernel_rfl
theorem Qb7:fieldInfo Tryd.prog 34 2=some (2,31):=by kernel_rfl
theorem Qa2:fieldInfo Tryd.prog 34 3=some (3,32):=by kernel_rfl
theorem ZQ:fieldInfo Tryd.prog 34 4=some (4,32):=by kernel_rfl
theorem Qk6:fieldInfo Tryd.prog 34 5=some (5,3):=by kernel_rfl
theorem zi34:Xs Tryd.prog 34=some (.agg [.v (.string ⟨#[]⟩),.v (.slice none 0 0),.v (.slice none 0 0),.v (.slice none 0 0),.v (.slice none 0 0),.v (.int .i64 0)]):=by kernel_rfl
theorem ti37:Xn Tryd.prog 37=some (false,1):=by kernel_rfl
theorem ei37:Xa Tryd.prog 37=some (60,3):=by kernel_rfl
theorem ai37:appInfo Tryd.prog 37 37=some ⟨60,3,32⟩:=by kernel_rfl
theorem un37:Program.underlying Tryd.prog 37=some (.slice 60):=by kernel_rfl
theorem ti46:Xn Tryd.prog 46=some (false,1):=by kernel_rfl
theorem ei46:Xa Tryd.prog 46=some (9,1):=by kernel_rfl
theorem ai46:appInfo Tryd.prog 46 46=some ⟨9,1,16⟩:=by kernel_rfl
theorem zi46:Xs Tryd.prog 46=some (.v (.slice none 0 0)):=by kernel_rfl
theorem un46:Program.underlying Tryd.prog 46=some (.slice 9):=by kernel_rfl
theorem ti50:Xn Tryd.prog 50=some (false,1):=by kernel_rfl
theorem ei50:Xa Tryd.prog 50=some (54,4):=by kernel_rfl
theorem ai50:appInfo Tryd.prog 50 50=some ⟨54,4,56⟩:=by kernel_rfl
theorem zi50:Xs Tryd.prog 50=some (.v (.slice none 0 0)):=by kernel_rfl
theorem un50:Program.underlying Tryd.prog 50=some (.slice 54):=by kernel_rfl
theorem ti52:Xn Tryd.prog 52=some (true,3):=by kernel_rfl
theorem X4:fieldInfo Tryd.prog 52 0=some (0,3):=by kernel_rfl
theorem Qb8:fieldInfo Tryd.prog 52 1=some (1,9):=by kernel_rfl
theorem ZG:fieldInfo Tryd.prog 52 2=some (2,50):=by kernel_rfl
theorem zi52:Xs Tryd.prog 52=some (.agg [.v (.int .i64 0),.v (.string ⟨#[]⟩),.v (.slice none 0 0)]):=by kernel_rfl
theorem sp52:Xp Tryd.prog 52=some [(0,1),(1,1),(2,1)]:=by kernel_rfl
theorem ti54:Xn Tryd.prog 54=some (true,4):=by kernel_rfl
theorem Xy:fieldInfo Tryd.prog 54 0=some (0,3):=by kernel_rfl
theorem Xz:fieldInfo Tryd.prog 54 1=some (1,3):=by kernel_rfl
theorem Yj:fieldInfo Tryd.prog 54 2=some (2,9):=by kernel_rfl
theorem Yk:fieldInfo Tryd.prog 54 3=some (3,50):=by kernel_rfl
theorem zi54:Xs Tryd.prog 54=some (.agg [.v (.int .i64 0),.v (.int .i64 0),.v (.string ⟨#[]⟩),.v (.slice none 0 0)]):=by kernel_rfl
theorem sp54:Xp Tryd.prog 54=some [(0,1),(1,1),(2,1),(3,1)]:=by kernel_rfl
theorem ti57:Xn Tryd.prog 57=some (false,1):=by kernel_rfl
theorem zi57:Xs Tryd.prog 57=some (.v (.pointer none)):=by kernel_rfl
theorem un57:Program.underlying Tryd.prog 57=some (.pointer 66):=by kernel_rfl
theorem ti60:Xn Tryd.prog 60=some (true,3):=by kernel_rfl
theorem QQ:fieldInfo Tryd.prog 60 0=some (0,3):=by kernel_rfl
theorem Yc:fieldInfo Tryd.prog 60 1=some (1,3):=by kernel_rfl
theorem Xc:fieldInfo Tryd.prog 60 2=some (2,9):=by kernel_rfl
theorem zi60:Xs Tryd.prog 60=some (.agg [.v (.int .i64 0),.v (.int .i64 0),.v (.string ⟨#[]⟩)]):=by kernel_rfl
theorem sp60:Xp Tryd.prog 60=some [(0,1),(1,1),(2,1)]:=by kernel_rfl
theorem ti63:Xn Tryd.prog 63=some (true,2):=by kernel_rfl
theorem QgY:fieldInfo Tryd.prog 63 0=some (0,37):=by kernel_rfl
theorem Qfl:fieldInfo Tryd.prog 63 1=some (1,3):=by kernel_rfl
theorem zi63:Xs Tryd.prog 63=some (.agg [.v (.slice none 0 0),.v (.int .i64 0)]):=by kernel_rfl
theorem sp63:Xp Tryd.prog 63=some [(0,1),(1,1)]:=by kernel_rfl
theorem ti64:Xn Tryd.prog 64=some (false,1):=by kernel_rfl
theorem mi64:QaG Tryd.prog 64=some (.string,3):=by kernel_rfl
theorem un64:Program.underlying Tryd.prog 64=some (.map 9 3):=by kernel_rfl
theorem ti66:Xn Tryd.prog 66=some (true,4):=by kernel_rfl
theorem QI:fieldInfo Tryd.prog 66 0=some (0,63):=by kernel_rfl
theorem YG:fieldInfo Tryd.prog 66 1=some (2,46):=by kernel_rfl
theorem YH:fieldInfo Tryd.prog 66 2=some (3,64):=by kernel_rfl
theorem zi66:Xs Tryd.prog 66=some (.agg [.v (.slice none 0 0),.v (.int .i64 0),.v (.slice none 0 0),.v (.map none)]):=by kernel_rfl
theorem sp66:Xp Tryd.prog 66=some [(0,2),(2,1),(3,1)]:=by kernel_rfl
theorem ti69:Xn Tryd.prog 69=some (false,1):=by kernel_rfl
theorem zi69:Xs Tryd.prog 69=some (.v .nilFunc):=by kernel_rfl
theorem ti72:Xn Tryd.prog 72=some (true,2):=by kernel_rfl
theorem Qc2:fieldInfo Tryd.prog 72 0=some (0,9):=by kernel_rfl
theorem Zs:fieldInfo Tryd.prog 72 1=some (1,50):=by kernel_rfl
theorem zi72:Xs Tryd.prog 72=some (.agg [.v (.string ⟨#[]⟩),.v (.slice none 0 0)]):=by kernel_rfl
theorem sp72:Xp Tryd.prog 72=some [(0,1),(1,1)]:=by kernel_rfl
theorem ti78:Xn Tryd.prog 78=some (true,2):=by kernel_rfl
theorem QiT:fieldInfo Tryd.prog 78 1=some (1,3):=by kernel_rfl
theorem zi78:Xs Tryd.prog 78=some (.agg [.v (.string ⟨#[]⟩),.v (.int .i64 0)]):=by kernel_rfl
theorem sp78:Xp Tryd.prog 78=some [(0,1),(1,1)]:=by kernel_rfl
theorem ti81:Xn Tryd.prog 81=some (false,1):=by kernel_rfl
theorem zi81:Xs Tryd.prog 81=some (.v (.map none)):=by kernel_rfl
theorem mi81:QaG Tryd.prog 81=some ((.int .i64),3):=by kernel_rfl
theorem un81:Program.underlying Tryd.prog 81=some (.map 3 3):=by kernel_rfl
theorem ti82:Xn Tryd.prog 82=some (false,1):=by kernel_rfl
theorem ei82:Xa Tryd.prog 82=some (3,1):=by kernel_rfl
theorem ai82:appInfo Tryd.prog 82 82=some ⟨3,1,8⟩:=by kernel_rfl
theorem zi82:Xs Tryd.prog 82=some (.v (.slice none 0 0)):=by kernel_rfl
theorem un82:Program.underlying Tryd.prog 82=some (.slice 3):=by kernel_rfl
theorem ti84:Xn Tryd.prog 84=some (true,2):=by kernel_rfl
theorem Qfm:fieldInfo Tryd.prog 84 0=some (0,81):=by kernel_rfl
theorem QdW:fieldInfo Tryd.prog 84 1=some (1,82):=by kernel_rfl
theorem zi84:Xs Tryd.prog 84=some (.agg [.v (.map none),.v (.slice none 0 0)]):=by kernel_rfl
theorem sp84:Xp Tryd.prog 84=some [(0,1),(1,1)]:=by kernel_rfl
theorem ti87:Xn Tryd.prog 87=some (true,2):=by kernel_rfl
theorem Qo0:fieldInfo Tryd.prog 87 0=some (0,3):=by kernel_rfl
theorem Qo1:fieldInfo Tryd.prog 87 1=some (1,27):=by kernel_rfl
theorem zi87:Xs Tryd.prog 87=some (.agg [.v (.int .i64 0),.v (.int .i64 0)]):=by kernel_rfl
theorem sp87:Xp Tryd.prog 87=some [(0,1),(1,1)]:=by kernel_rfl
theorem QoF:Xn Tryd.prog 106=some (false,1):=by kernel_rfl
theorem QoN:Xs Tryd.prog 106=some (.v (.pointer none)):=by kernel_rfl
theorem QoI:Program.underlying Tryd.prog 106=some (.pointer 84):=by kernel_rfl
theorem Yi:fieldInfo Tryd.prog 121 0=some (0,3):=by kernel_rfl
theorem QhP:Xs Tryd.prog 121=some (.agg [.v (.int .i64 0)]):=by kernel_rfl
theorem QhG:Xp Tryd.prog 121=some [(0,1)]:=by kernel_rfl
theorem Qp4:Xn Tryd.prog 123=some (false,1):=by kernel_rfl
theorem Qp5:Xn Tryd.prog 141=some (true,23):=by kernel_rfl
theorem mixed:Tryd.prog.follows .mixedOrders=true:=by kernel_rfl
abbrev AV.i (n:Int):AV:=.v (.int .i64 n)
abbrev AV.b (n:Bool):AV:=.v (.bool n)
abbrev AV.s (n:ByteArray):AV:=.v (.string n)
mutual
def T.nds:T→Nat
 | .mk _ _ _ l=>1+ndsL l
def ndsL:List T→Nat
 |[]=>0
 |t::l=>t.nds+ndsL l
end
theorem T.Qqp (t:T):t.nds=1+ndsL t.args:=by cases t;simp only [T.nds,T.args]
theorem Z7:∀ {l:List T} {k:Nat} (h:k<l.length),(l[k]).nds≤ndsL l
 |t::l,0,_=>by simp only [List.getElem_cons_zero,ndsL];omega
 |t::l,k+1,h=>by
  have:=Z7 (l:=l) (k:=k) (by simpa using h)
  simp only [List.getElem_cons_succ,ndsL];omega
theorem YT:∀ l:List T,l.length≤ndsL l
 |[]=>Nat.le_refl _
 |t::l=>by
  have:=YT l
  have:=T.Qqp t
  simp only [Qrc,ndsL];omega
def LoopA.at (i:LoopA) (st:LoopState) (pend:Option Code):LoopA:={i with st:=st,pend:=pend}
theorem Qkx {c:Cx} (hs:St c) (e s:Nat):Ev c (c.add c.w (.grow e s 0) none)∧St (c.add c.w (.grow e s 0) none):=by
 have hg:=Grows.refl c.w
 have ho:∀ B,(none:Option Nat)=some B→c.w.heap.size≤B:=fun B h=>by cases h
 have hρ:(c.add c.w (.grow e s 0) none).ρ c.h.length=none:=by simp [Cx.add]
 exact ⟨Ev.add hs hg (.grow e s 0) none ho,St.add hs hg _ _ ho (fun B hB=>by rw [hρ] at hB;cases hB)⟩
theorem Qh7 {P:Program} {fv:AV} {args:List AV} {h:AH} {Q:AOut→AH→Prop} (e s:Nat) (H:FunW P fv (.sl s [] (some h.length)::args) (h++[.grow e s 0]) Q):FunW P fv (.v (.slice none 0 0)::args) h Q:=by
 intro F n c v vals hF hs hh hv hvs o a next Qx h1 h2
 subst hh
 obtain ⟨hev,hst1⟩:=Qkx hs e s
 refine H F n (c.add c.w (.grow e s 0) none) v vals hF hst1 rfl (hv.ev hs hev) ⟨hvs.1,fun j a u hj hu=>?_⟩ o a next Qx (fun r c' x hQ he=>h1 r c' x hQ (Ev.trans hs hev he)) (fun r c' x hQ he=>h2 r c' x hQ (Ev.trans hs hev he))
 cases j with
 |zero =>
  simp only [QqZ,Qq5] at hj
  subst hj
  have:=hvs.2 0 _ u rfl hu
  cases this
  exact .slnil _ _ (QfL e s)
 |succ j=>exact (hvs.2 (j+1) a u (by simpa using hj) hu).ev hs hev
def ikey (n:Int):Value:=.int .i64 n
def imap (l:List (Int×AV)):List (Value×AV):=l.map fun p=>(ikey p.1,p.2)
def Qgb (k:Int):List (Int×AV)→Option AV
 |[]=>none
 |p::l=>if k=p.1 then some p.2 else Qgb k l
theorem Qnw (a b:Int):Instr.sameNow (.int .i64) (ikey a) (ikey b)=some (a==b):=rfl
theorem QdZ (k:Int):∀ l:List (Int×AV),Qf8 (.int .i64) (.int .i64 k) (imap l)=some (Qgb k l)
 |[]=>rfl
 |p::l=>by
  have h:=Qnw k p.1
  have e:imap (p::l)=(ikey p.1,p.2)::imap l:=rfl
  rw [e]
  simp only [Qf8,Qgb]
  rw [show Instr.sameNow (.int .i64) (.int .i64 k) (ikey p.1)=some (k==p.1) from rfl]
  by_cases hk:k=p.1
  ·rw [if_pos hk,show (k==p.1)=true by simpa using hk]
  ·rw [if_neg hk,show (k==p.1)=false by simpa using hk]
   exact QdZ k l
theorem Qjp (k:Int) (v:AV):∀ l:List (Int×AV),Qgb k l=none→updA (.int .i64) (.int .i64 k) v (imap l)=some (imap (l++[(k,v)]))
 |[],_=>rfl
 |p::l,hn=>by
  have e:imap (p::l)=(ikey p.1,p.2)::imap l:=rfl
  rw [e]
  simp only [Qgb] at hn
  split at hn
  ·cases hn
  ·rename_i hk
   simp only [updA]
   rw [show Instr.sameNow (.int .i64) (.int .i64 k) (ikey p.1)=some (k==p.1) from rfl,show (k==p.1)=false by simpa using hk,Qjp k v l hn]
   rfl
theorem Qox (P:Program) (s d:TypeId) {ts:TypeDesc} {kd:IntKind} (hs:P.underlying s=some ts) (hd:P.underlying d=some (.int kd)) (k:IntKind) (a:Int):pv P (convert s d (.int k a))=some (.int kd (kd.wrap a)):=by
 have hp:∀ {α:Type} (x:α),pv P (pure x)=some x:=fun _=>rfl
 simp only [convert,underlying]
 rw [YX,YX]
 simp only [program,pv,Qq4,hs,hp]
 rw [YX,YX]
 simp only [program,pv,Qq4,hd,hp]
 rfl
theorem Qit {P:Program} {N:Nat} {ops:Array Oper} {E:AV→AS→Prop}:∀ (l1 l2:List Oper) (K K':AS→Prop) (s:AS),(∀ s,OpsW P N ops l2 K E s→K' s)→OpsW P N ops l2 K E=K'→OpsW P N ops l1 K' E s→OpsW P N ops (l1++l2) K E s
 |[],l2,K,K',s,_,e,h=>by subst e;exact h
 |o::l1,l2,K,K',s,hK,e,h=>by
  subst e
  have ih:OpsW P N ops (l1++l2) K E=OpsW P N ops l1 (OpsW P N ops l2 K E) E:=by
   clear h hK s o
   funext s
   apply propext
   induction l1 generalizing s with
   |nil=>exact Iff.rfl
   |cons o l1 ih =>
    have ih':OpsW P N ops (l1++l2) K E=OpsW P N ops l1 (OpsW P N ops l2 K E) E:=funext fun s=>propext (ih s)
    show (match Qd ops s.tm o with|some true=>OpW P N o s (OpsW P N ops (l1++l2) K E) E|some false=>OpsW P N ops (l1++l2) K E (AS.put N s o.dst (.v undef))|none=>False)↔(match Qd ops s.tm o with|some true=>OpW P N o s (OpsW P N ops l1 (OpsW P N ops l2 K E) E) E|some false=>OpsW P N ops l1 (OpsW P N ops l2 K E) E (AS.put N s o.dst (.v undef))|none=>False)
    rw [ih']
  show (match Qd ops s.tm o with|some true=>OpW P N o s (OpsW P N ops (l1++l2) K E) E|some false=>OpsW P N ops (l1++l2) K E (AS.put N s o.dst (.v undef))|none=>False)
  rw [ih]
  exact h
theorem QA {P:Program} {N:Nat} {ops:Array Oper} {E:AV→AS→Prop} {l:List Oper} {K:AS→Prop} {s:AS} (k:Nat) (h:∀ K':AS→Prop,(∀ s,OpsW P N ops (l.drop k) K E s→K' s)→OpsW P N ops (l.take k) K' E s):OpsW P N ops l K E s:=by
 have:=Qit (l.take k) (l.drop k) K _ s (fun s hs=>hs) rfl (h _ fun s hs=>hs)
 rwa [List.take_append_drop] at this
theorem DefOk.cut {c:Cx} {base:Bs} {m:Nat} {ds:List Deferred} (h:DefOk c base ds):DefOk (c.cut m) base ds:=by
 obtain ⟨Ds,e,hn,hall⟩:=h
 refine ⟨Ds,e,hn,fun D hD=>?_⟩
 obtain ⟨h1,h2,h3⟩:=hall D hD
 exact ⟨h1,h2,fun ⟨id,b,g1,g2,g3⟩=>h3 ⟨id,b,(YF g1).2,g2,g3⟩⟩
theorem XI {P:Program} {b:Frame} {a:Act} {k:List Item} {cs:List Frame} {w:World} {c:Code} :
  step P (lone (b.atR a (.code (.scope c)::k)) cs w) = .next (lone (b.atR a (.code c :: .inScope c::k)) cs w) :=
 step_lone_go (by simp [stepG,stepG.exec,Frame.atR])
theorem QaN {P:Program} {b:Frame} {a:Act} {k:List Item} {cs:List Frame} {w:World} {c:Code} :
  step P (lone (b.atR a (.inScope c::k)) cs w) = .next (lone (b.atR a k) cs w) :=
 step_lone_go (by simp [stepG,stepG.exec,Frame.atR])
def Qom (Q:Exit→Act→World→Prop):Exit→Act→World→Prop
 | .goto _,_,_=>False
 |e,a,w=>Q e a w
theorem Qkt {F:Fence} {n:Nat} {P:Program} {Q:Exit→Act→World→Prop} {a:Act} {w:World} {c:Code} (h:c.wpIn F n P (Qom Q) a w):(Code.scope c).wpIn F n P Q a w:=by
 intro b k cs hro hb hr
 have h0:(lone (b.atR a (.code (.scope c)::k)) cs w).fenced P F:=fenced_calm hb hr rfl
 obtain ⟨e,a₁,w₁,hq,harr⟩:=h b (.inScope c::k) cs hro hb hr
 cases e with
 |normal=>exact ⟨.normal,a₁,w₁,hq,.head h0 XI (StepsIn.trans harr (.one (fenced_calm hb hr rfl) QaN))⟩
 |exit id' =>
  have hx:exitTo id' (.inScope c::k)=exitTo id' k:=by simp [exitTo]
  exact ⟨.exit id',a₁,w₁,hq,fun k' hk=>.head h0 XI (harr.1 k' (by rw [hx];exact hk)),
   fun hr' hk=>let ⟨k₁,h1,h2⟩:=harr.2 hr' (by rw [hx];exact hk);⟨k₁,h1,.head h0 XI h2⟩⟩
 |goto l=>exact hq.elim
 |ret=>exact ⟨_,a₁,w₁,hq,.of_steps (.one h0 XI) harr⟩
 |panic ch=>exact ⟨_,a₁,w₁,hq,.of_steps (.one h0 XI) harr⟩
 |outgrown=>exact ⟨_,a₁,w₁,hq,.of_steps (.one h0 XI) harr⟩
theorem QbG {P:Program} {N:Nat} {x:Code} {Q:AExit→AS→Prop} {s:AS} (h:XF P N x Q s):XF P N (.scope x) Q s:=by
 intro F n base c a hF hs hr R hR
 refine Qkt (h F n base c a hF hs hr _ fun e s' c' a' e' hQ hev hst hsr hex=>?_)
 cases e with
 |normal=>cases hex;exact hR _ s' c' a' _ hQ hev hst hsr rfl
 |exit i=>cases hex;exact hR _ s' c' a' _ hQ hev hst hsr rfl
 |ret=>cases hex;exact hR _ s' c' a' _ hQ hev hst hsr rfl
 |panic av=>obtain ⟨x,rfl,hx⟩:=hex;exact hR _ s' c' a' _ hQ hev hst hsr ⟨x,rfl,hx⟩
inductive Kill (h:AH) (id:Nat):AV→AV→Prop
 |keep (a:AV):Kill h id a a
 |arr {lo len s:Nat} {ty:TypeId} {xs:List AV} (hg:h[id]? = some (.cells ty s xs)) (hl:lo+len≤xs.length):Kill h id (.arr id lo len) (.sl s ((xs.drop lo).take len) none)
 |row {lo len cap s:Nat} {ty:TypeId} {xs:List AV} (hg:h[id]? = some (.cells ty s xs)) (hl:lo+len≤xs.length):Kill h id (.row id lo len cap) (.sl s ((xs.drop lo).take len) none)
theorem Qdc {c:Cx} (hs:St c) {id B ty s:Nat} {xs:List AV} (hg:c.h[id]? = some (.cells ty s xs)) (hρ:c.ρ id=some B) :
  (∀ x∈xs,x.cells.length=s)∧∃ f:Nat→Value,∀ (j:Nat) a,(flat xs)[j]? = some a→((c.kill id).cellP B (0+j) (f j)∧(f j).oneCell'=true)∧Rel (c.kill id) a (f j):=by
 obtain ⟨B',cur,h1,h2,h3,h4⟩:=hs.blocks id _ hg
 rw [hρ] at h1;cases h1
 refine ⟨h3,fun j=>cur.getD j undef,fun j a hj=>?_⟩
 obtain ⟨u,h5,h6,h7⟩:=h4 j a hj
 have e:cur.getD j undef=u:=by rw [Array.getD_eq_getD_getElem?,h5];rfl
 show ((c.kill id).cellP B (0+j) (cur.getD j undef)∧(cur.getD j undef).oneCell'=true)∧Rel (c.kill id) a (cur.getD j undef)
 rw [e]
 refine ⟨⟨⟨by show c.w.cell? _=_;rw [Nat.zero_add,Xq h2];exact h5,?_⟩,h6⟩,h7.ev hs (Ev.kill hg)⟩
 refine ⟨hs.lt hg rfl hρ,fun id' b' hb' hl' hρ'=>?_⟩
 rcases Qdx hb' with ⟨rfl,rfl⟩|⟨hne,hb''⟩
 ·cases hl'
 ·exact absurd (hs.inj id' id b' _ B hb'' hg hl' rfl hρ' hρ) hne
theorem QbE {c:Cx} (hs:St c) {id B ty s lo len cap:Nat} {xs:List AV} (hg:c.h[id]? = some (.cells ty s xs)) (hρ:c.ρ id=some B) (hl:lo+len≤xs.length) (h2:len≤cap) (h3:cap≤maxLen) :
  Rel (c.kill id) (.sl s ((xs.drop lo).take len) none) (.slice (some ⟨B,lo * s,none⟩) len cap):=by
 obtain ⟨h4,f,h5⟩:=Qdc hs hg hρ
 have hlen:((xs.drop lo).take len).length=len:=by simp;omega
 have hdrop:∀ y∈xs.drop lo,y.cells.length=s:=fun y hy=>h4 y (List.mem_of_mem_drop hy)
 have hget:∀ (j:Nat) a,(flat ((xs.drop lo).take len))[j]? = some a→(flat xs)[lo * s+j]? = some a:=by
  intro j a hj
  rw [YI hdrop (by simp;omega)] at hj
  have hlt:=Qt hj
  rw [List.length_take] at hlt
  rw [List.getElem?_take_of_lt (by omega),Zk h4 (by omega),List.getElem?_drop] at hj
  exact hj
 have:=Rel.sl (c:=c.kill id) s ((xs.drop lo).take len) none B (lo * s) cap (fun j=>f (lo * s+j)) (fun y hy=>hdrop y (List.mem_of_mem_take hy)) (by omega) h3
  (fun j a hj=>by have:=(h5 _ a (hget j a hj)).1;rwa [Nat.zero_add] at this) (fun j a hj=>(h5 _ a (hget j a hj)).2) (fun b hb=>by cases hb)
 rwa [hlen] at this
theorem Kill.rel {c:Cx} (hs:St c) {id ty s:Nat} {xs:List AV} (hb:c.h[id]? = some (.cells ty s xs)) {a a':AV} (h:Kill c.h id a a') {x:Value} (hr:Rel c a x):Rel (c.kill id) a' x:=by
 cases h with
 |keep=>exact hr.ev hs (Ev.kill hb)
 |arr hg hl =>
  cases hr with
  |arr _ _ _ x hid ho h1 =>
   obtain ⟨B,cap,hρ,rfl,h2,h3,_⟩:=h1 _ _ _ hg
   exact QbE hs hg hρ hl h2 h3
 |row hg hl =>
  cases hr with
  |row _ _ _ _ x hid ho h1 =>
   obtain ⟨B,cur,hρ,rfl,h2,h3,_⟩:=h1 _ _ _ hg
   exact QbE hs hg hρ hl h2 h3
def Wk (a b:AV):Prop:=∀ c x,Rel c a x→Rel c b x
def WkL (l l':List AV):Prop:=l.length=l'.length∧∀ (j:Nat) a b,l[j]? = some a→l'[j]? = some b→Wk a b
theorem Wk.refl (a:AV):Wk a a:=fun _ _ h=>h
theorem Wk.trans {a b d:AV} (h:Wk a b) (k:Wk b d):Wk a d:=fun c x r=>k c x (h c x r)
theorem WkL.nil:WkL [] []:=⟨rfl,fun j a b h=>by simp at h⟩
theorem WkL.refl (l:List AV):WkL l l:=⟨rfl,fun j a b h k=>by rw [h] at k;cases k;exact .refl a⟩
theorem WkL.cons {a b:AV} {l m:List AV} (h:Wk a b) (k:WkL l m):WkL (a::l) (b::m):=by
 refine ⟨by simp [k.1],fun j x y hx hy=>?_⟩
 cases j with
 |zero=>simp at hx hy;subst hx;subst hy;exact h
 |succ j=>exact k.2 j x y (by simpa using hx) (by simpa using hy)
theorem WkL.append {l1 l2 m1 m2:List AV} (h:WkL l1 m1) (k:WkL l2 m2):WkL (l1++l2) (m1++m2):=by
 refine ⟨by simp [h.1,k.1],fun j x y hx hy=>?_⟩
 rcases Nat.lt_or_ge j l1.length with hj|hj
 ·rw [List.getElem?_append_left hj] at hx
  rw [List.getElem?_append_left (by rw [← h.1];exact hj)] at hy
  exact h.2 j x y hx hy
 ·rw [List.getElem?_append_right hj] at hx
  rw [List.getElem?_append_right (by rw [← h.1];exact hj),← h.1] at hy
  exact k.2 _ x y hx hy
theorem Wk.agg {l m:List AV} (h:WkL l m):Wk (.agg l) (.agg m):=by
 intro c x r
 cases r with
 |agg _ cs hl hr =>
  refine .agg m cs (hl.trans h.1) fun j a u ha hu=>?_
  obtain ⟨b,hb⟩:∃ b,l[j]? = some b:=⟨_,List.getElem?_eq_getElem (by rw [h.1];exact Qt ha)⟩
  exact h.2 j b a hb ha c u (hr j b u hb hu)
theorem Wk.sl {s:Nat} {xs ys:List AV} {own:Option Nat} (hl:xs.length=ys.length) (hs:∀ y∈ys,y.cells.length=s) (h:WkL (flat xs) (flat ys)):Wk (.sl s xs own) (.sl s ys none):=by
 intro c x r
 cases r with
 |slnil _ _ ht =>
  cases ys with
  |nil=>exact .slnil s none fun b hb=>by cases hb
  |cons y ys=>simp at hl
 |slzero _ _ ba ht =>
  cases ys with
  |nil=>exact .slzero s none ba fun b hb=>by cases hb
  |cons y ys=>simp at hl
 |sl _ _ _ B o cap f hs' hcap hmax hc hr ht =>
  rw [hl]
  rw [hl] at hcap
  have old:∀ (j:Nat) a,(flat ys)[j]? = some a→∃ b,(flat xs)[j]? = some b:=fun j a ha=>⟨_,List.getElem?_eq_getElem (by rw [h.1];exact Qt ha)⟩
  refine .sl s ys none B o cap f hs hcap hmax (fun j a ha=>?_) (fun j a ha=>?_) fun b hb=>by cases hb
  ·obtain ⟨b,hb⟩:=old j a ha
   exact hc j b hb
  ·obtain ⟨b,hb⟩:=old j a ha
   exact h.2 j b a hb ha c _ (hr j b hb)
theorem Qbe {P:Program} {N:Nat} {base:Bs×Fence} {ops:Array Oper} {Q:AS→Prop} {E:AV→AS→Prop} {F:Fence} {n:Nat} (hF:WF F) {Qx:Exit→Act→World→Prop} {tail:List Nat}:∀ (l:List Oper) (k:Nat) (s:AS) (c:Cx) (a:Act),(∀ j,j<l.length→l[j]? = ops[k+j]?) →
  OpsW P N ops l Q E s→St c→SR N base c s a→(∀ s' c' a',Q s'→Ev c c'→St c'→SR N base c' s' a'→wpOpsIn F n P ops Qx tail a' c'.w) →
  (∀ r s' c' a' x,E r s'→Ev c c'→St c'→SR N base c' s' a'→Rel c' r x→Qx (.panic [{v:=x,recovered:=false}]) a' c'.w)→wpOpsIn F n P ops Qx (List.range' k l.length++tail) a c.w
 |[],k,s,c,a,hl,H,hst,hr,hQ,hE=>by
  simp only [Qrd,List.range'_zero,Qrq]
  exact hQ s c a H (Ev.refl c) hst hr
 |o::l,k,s,c,a,hl,H,hst,hr,hQ,hE=>by
  have h0:ops[k]? = some o:=by simpa using (hl 0 (by simp)).symm
  have hl':∀ j,j<l.length→l[j]? = ops[k+1+j]? := fun j hj=>by have:=hl (j+1) (by simp;omega);simpa [Nat.add_assoc,Nat.add_comm 1 j] using this
  simp only [Qrc,List.range'_succ,Qrr,wpOpsIn,h0]
  simp only [OpsW] at H
  split at H
  ·rename_i hw
   rw [Xd hr hw]
   simp only [if_true]
   refine Qbd H hF hst hr ?_ ?_
   ·intro s' c' a' hK h1 h2 h3
    exact Qbe hF l (k+1) s' c' a' hl' hK h2 h3 (fun s2 c2 a2 q e2 t2 r2=>hQ s2 c2 a2 q (Ev.trans hst h1 e2) t2 r2) (fun r s2 c2 a2 x q e2 t2 r2=>hE r s2 c2 a2 x q (Ev.trans hst h1 e2) t2 r2)
   ·intro r s' c' x he h1 h2 h3 hx
    exact hE r s' c' a x he h1 h2 h3 hx
  ·rename_i hw
   rw [Xd hr hw]
   simp only [Qq3,if_false]
   refine ⟨fun f _=>hF.fn f,?_⟩
   have hr':=hr.put hst (Ev.refl c) o.dst (.v undef)
   rw [hr.h] at hr'
   exact Qbe hF l (k+1) _ c _ hl' H hst hr' hQ hE
  ·exact H.elim
end Go.Proofs.YticgcpebdldbgaaDoor.Ab
namespace Go.Proofs.YticgcpebdldbgaaDoor.Ab
open Go.RowKit
theorem WF.Qqz {F:Fence} (h:WF F):F.plain=Fence.wide:=by
 obtain ⟨fn,depth,alive,round⟩:=F
 obtain ⟨h1,h2,h3⟩:=h
 have h1':∀ f,fn f:=h1
 have h2':depth=none:=h2
 have h3':alive=false:=h3
 subst h2' h3'
 have:fn=fun _=>True:=funext fun f=>by simpa using h1' f
 subst this
 rfl
theorem Qdk {F:Fence} (hF:WF F) {n:Nat} {P:Program} {f:FuncId} {args:Array Value} {w:World} {R:Ending→World→Prop} (h:Calls P f args w R):CallsIn F n P f args w R :=
 Qaz (by rw [hF.Qqz];exact callsIn_wide.2 h)
theorem Grows.of_below {w w':World} (h:Go.RowKit.Below w.heap.size w w'):Grows w w':=⟨h.os,h.tape,h.output,h.size,h.block⟩
theorem QoC {c:Cx} {vs:List Value} {vals:Array Value} (h:RelL c (vs.map AV.v) vals):vals=vs.toArray:=by
 apply Array.ext'
 apply List.ext_getElem?
 intro j
 rcases Nat.lt_or_ge j vs.length with hj|hj
 ·have h1:(vs.map AV.v)[j]? = some (.v vs[j]):=by rw [List.getElem?_map,List.getElem?_eq_getElem hj];rfl
  have hs:vals.size=vs.length:=by rw [h.1,List.length_map]
  have h2:vals[j]? = some vals[j]:=Array.getElem?_eq_getElem (by omega)
  have:=h.2 j _ _ h1 h2
  rw [Array.getElem?_toList,h2,List.toList_toArray,List.getElem?_eq_getElem hj]
  generalize vals[j]=u at this
  cases this
  rfl
 ·have hs:vals.size=vs.length:=by rw [h.1,List.length_map]
  rw [Array.getElem?_toList,Array.getElem?_eq_none (by omega),List.toList_toArray,List.getElem?_eq_none hj]
theorem QkL {P:Program} {f:FuncId} {vs:List Value} {h:AH} {a:AV} (hcall:∀ vals w,(callFunc f vals).run P w = .ok (.enter f vals) w)
  (H:∀ c:Cx,St c→c.h=h→Calls P f vs.toArray c.w fun e w'=>∃ u,e = .returned u∧Go.RowKit.Below c.w.heap.size c.w w'∧∀ c',Rel c' a u):QJ P f (vs.map AV.v) h fun o h'=>o = .ret a∧h'=h:=by
 refine ⟨hcall,fun F n c vals hF hst hh hvals=>Qdk hF ?_⟩
 rw [QoC hvals]
 refine (H c hst hh).mono ?_
 rintro e w' ⟨u,rfl,hb,hu⟩
 have hg:=Grows.of_below hb
 exact ⟨.ret a,c.to w',⟨rfl,hh⟩,Ev.grows hst hg,hst.grows hg,rfl,⟨u,rfl,hu _⟩⟩
theorem Qnl {P:Program} {f:FuncId} {vs:List Value} {a:AV} (hcall:∀ vals w,(callFunc f vals).run P w = .ok (.enter f vals) w)
  (H:∀ w,Calls P f vs.toArray w fun e w'=>∃ u,e = .returned u∧Go.RowKit.Below w.heap.size w w'∧∀ c',Rel c' a u):Pure P f (vs.map AV.v) a :=
 fun h=>QkL hcall fun c _ _=>H c.w
end Go.Proofs.YticgcpebdldbgaaDoor.Ab
namespace Go.Proofs.YticgcpebdldbgaaDoor.Ab
def byteAt (s:ByteArray) (i:Nat):Int:=((s.data.toList.getD i 0).toNat:Nat)
theorem QjA (s:ByteArray) (i:Nat):0≤byteAt s i∧byteAt s i<256:=by
 have:=(s.data.toList.getD i 0).toNat_lt
 unfold byteAt
 omega
theorem QjO (s:ByteArray) (i:Nat) (h:i<s.size):s[i]? = some (s.data.toList.getD i 0):=by
 have h':i<s.data.size:=h
 rw [getElem?_pos s i h]
 congr 1
 show s.data[i]=_
 rw [List.getD_eq_getElem?_getD,List.getElem?_eq_getElem (by simpa using h')]
 simp
theorem Zo (P:Program) (t:TypeId) (ht:P.underlying t=some .string) (s:ByteArray) (i:Nat) (h:i<s.size):pv P (Instr.index t (.string s) (.int .i64 (i:Int)))=some (.int .u8 (byteAt s i)):=by
 have hi:(0:Int)≤(i:Int):=by omega
 simp only [Instr.index,asIntOf,Bind.bind,Sem.bind,Pure.pure,pv,underlying,program,ht]
 rw [if_pos hi,Int.toNat_natCast,QjO s i h]
 rfl
theorem QfG (P:Program) (t:TypeId) (ht:P.underlying t=some .string) (s:ByteArray) (h:0<s.size):pv P (Instr.index t (.string s) (.int .i64 0))=some (.int .u8 (byteAt s 0)):=Zo P t ht s 0 h
theorem QdD (P:Program) (q:IntKind) (i:Int) (y:Nat) (code:BoundsCode) (h:0≤i∧i≤(y:Int)):pv P (Instr.sliceBound (.int q i) y code)=some i.toNat:=by
 show pv P (if 0≤i∧i≤(y:Int) then pure i.toNat else boundsPanic q i y code)=_
 rw [if_pos h];rfl
theorem Qgr {α:Type} (P:Program) (a:α):pv P (pure a:Sem α)=some a:=rfl
theorem Qgs (P:Program) {t:TypeId} {d:TypeDesc} (ht:P.underlying t=some d):pv P (underlying t)=some d:=by
 simp only [underlying,program,Bind.bind,Sem.bind,pv,ht];rfl
theorem QlY (P:Program) (len cap:Nat) (lo hi:Option (IntKind×Int)) (l k:Nat) (hk:match hi with|some (_,i)=>0≤i∧i≤(cap:Int)∧i.toNat=k|none=>len=k) (hl:match lo with|some (_,i)=>0≤i∧i≤(k:Int)∧i.toNat=l|none=>l=0) :
  pv P (Instr.sliceBounds false len cap (lo.map fun x=>.int x.1 x.2) (hi.map fun x=>.int x.1 x.2) none)=some (l,k,cap):=by
 unfold Instr.sliceBounds
 cases hi with
 |none =>
  subst hk
  cases lo with
  |none=>subst hl;rfl
  |some x =>
   obtain ⟨q,i⟩:=x
   obtain ⟨h1,h2,h3⟩:=hl
   simp only [QrE,Qq1,YX,Qgr,Qq4,Option.isSome_none,Qq3,↓reduceIte,QdD P q i len .sliceB ⟨h1,h2⟩,h3]
 |some x =>
  obtain ⟨q,i⟩:=x
  obtain ⟨h1,h2,h3⟩:=hk
  cases lo with
  |none =>
   subst hl
   simp only [QrE,Qq1,YX,Qgr,Qq4,Option.isSome_none,Qq3,↓reduceIte,QdD P q i cap .sliceAlen ⟨h1,h2⟩,h3]
  |some x =>
   obtain ⟨q',i'⟩:=x
   obtain ⟨h4,h5,h6⟩:=hl
   simp only [QrE,Qq1,YX,Qgr,Qq4,Option.isSome_none,Qq3,↓reduceIte,QdD P q i cap .sliceAlen ⟨h1,h2⟩,h3,QdD P q' i' k .sliceB ⟨h4,h5⟩,h6]
theorem Qcl (P:Program) (t:TypeId) (ht:P.underlying t=some .string) (s:ByteArray) (lo hi:Option (IntKind×Int)) (l k:Nat) (hk:match hi with|some (_,i)=>0≤i∧i≤(s.size:Int)∧i.toNat=k|none=>s.size=k) (hl:match lo with|some (_,i)=>0≤i∧i≤(k:Int)∧i.toNat=l|none=>l=0) :
  pv P (Instr.sliceAt t (.string s) (lo.map fun x=>.int x.1 x.2) (hi.map fun x=>.int x.1 x.2) none)=some (.string (s.extract l k)):=by
 have hu:pv P (underlying t)=some .string:=Qgs P ht
 have:=QlY P s.size s.size lo hi l k hk hl
 unfold Instr.sliceAt
 rw [YX,hu]
 show pv P (Instr.slice t (.string s) _ _ none)=_
 unfold Instr.slice
 rw [YX,hu]
 simp only [Qq4,Option.isSome_none,Qq3,↓reduceIte,YX,Qgr,this]
theorem Qnn (P:Program) (t:TypeId) (ht:P.underlying t=some .string) (s:ByteArray) (i:Nat) (h:i≤s.size):pv P (Instr.sliceAt t (.string s) (some (.int .i64 (i:Int))) none none)=some (.string (s.extract i s.size)) :=
 Qcl P t ht s (some (.i64,i)) none i s.size rfl ⟨by omega,by omega,by omega⟩
section
variable (P:Program) (t:TypeId) (xo yo:Operand) (k:IntKind) (a b:Int)
end
theorem QiW (s:ByteArray) (i:Nat):((s.get! i).toNat:Int)=byteAt s i:=by
 unfold byteAt
 congr 2
 show s.data[i]! = _
 rw [List.getD_eq_getElem?_getD]
 by_cases h:i<s.data.size
 ·rw [getElem!_pos s.data i h,List.getElem?_eq_getElem (by simpa using h)]
  simp
 ·rw [getElem!_neg s.data i h,List.getElem?_eq_none (by simpa using h)]
  rfl
theorem decode_ascii {s:ByteArray} {i:Nat} (h:byteAt s i<128):((Utf8.decode s i).1:Int)=byteAt s i∧(Utf8.decode s i).2=1:=by
 rw [← QiW] at h ⊢
 unfold Utf8.decode
 simp only [Qro]
 rw [if_pos (by omega)]
 exact ⟨rfl,rfl⟩
theorem QjJ {s:ByteArray} {i:Nat} (h:128≤byteAt s i):128≤(Utf8.decode s i).1:=by
 rw [← QiW] at h
 unfold Utf8.decode
 simp only [Qro]
 rw [if_neg (by omega)]
 have hr:(128:Nat)≤Utf8.runeError:=by decide
 repeat' split
 all_goals first|exact hr|(rename_i h;simp at h;omega)|(simp_all;omega)
end Go.Proofs.YticgcpebdldbgaaDoor.Ab
set_option maxRecDepth 4000
namespace Go.Proofs.YticgcpebdldbgaaDoor.Ab
open Go.Proofs
theorem FunW.call {P:Program} {f:FuncId} {args:List AV} {h:AH} {Q:AOut→AH→Prop} (H:QJ P f args h Q):FunW P (.fn (.func f) [] []) args h Q:=FunW.fn (by rw [List.nil_append,List.append_nil];exact H)
theorem FunW.ret {P:Program} {fv:AV} {args:List AV} {h h':AH} {r:AV} {Q:AOut→AH→Prop} (H:FunW P fv args h fun o h2=>o = .ret r∧h2=h') (k:Q (.ret r) h'):FunW P fv args h Q:=H.mono (by rintro _ _ ⟨rfl,rfl⟩;exact k)
def ofN (c:Int):Int:=if 97≤c∧c≤122 then 1 else if (65≤c∧c≤90)∨c=95 then 2 else if 48≤c∧c≤57 then 4 else 0
theorem QlK (c:Int) (hc:0≤c∧c<256):Pure Tryd.prog 99 [.v (.int .u8 c)] (.v (.int .u8 (ofN c))):=by
 intro h
 have hcs:c<48∨48≤c∧c≤57∨58≤c∧c≤64∨65≤c∧c≤90∨91≤c∧c≤94∨c=95∨c=96∨97≤c∧c≤122∨122<c:=by omega
 rcases hcs with hc1|hc1|hc1|hc1|hc1|hc1|hc1|hc1|hc1
 ·-- c<48
  have e0:ofN c=0:=by simp only [ofN];repeat' (first|rw [if_pos (by omega)]|rw [if_neg (by omega)])
  have a1:¬ 97≤c:=by omega
  have a2:c≤122:=by omega
  have a3:¬ 65≤c:=by omega
  have a4:c≤90:=by omega
  have a5:¬ 48≤c:=by omega
  have a6:c≤57:=by omega
  have a7:(c==95)=false:=by simp;omega
  refine Qe Tryd.func99 rfl Tryd.call99 Tryd.ntmps99 (congrArg Array.toList Tryd.results99) (by simp) ?_
  repeat (first|((first|(with_reducible (first|refine Qa fun K E hK hE=>?_|refine Qk fun K E hK hE=>?_)));simp -implicitDefEqProofs only [Qc,Qd,OpW,aop,undef,AS.ev,Qq,↓reduceIte,aBin,a1,a3,a5,a7,seval])|(with_reducible (first|refine Qf fun K hK=>?_|refine Qj ?_|refine Ql ?_|refine Qm ?_|refine Qb ?_|refine Qo ?_))|((with_reducible refine hK _ ?_);clear hK)|(refine Qh rfl ?_;simp only [↓reduceIte,Qq3]))
  simp only [QF,Qn,Qr,upd,↓reduceIte,Qq5,Qq9];first|refine Qi (htake _ _) (.keep (.v _)) ⟨by rw [e0],rfl⟩|refine Qi List.take_length (.keep (.v _)) ⟨by rw [e0],rfl⟩
 ·-- 48≤c∧c≤57
  have e0:ofN c=4:=by simp only [ofN];repeat' (first|rw [if_pos (by omega)]|rw [if_neg (by omega)])
  have a1:¬ 97≤c:=by omega
  have a2:c≤122:=by omega
  have a3:¬ 65≤c:=by omega
  have a4:c≤90:=by omega
  have a5:48≤c:=by omega
  have a6:c≤57:=by omega
  have a7:(c==95)=false:=by simp;omega
  refine Qe Tryd.func99 rfl Tryd.call99 Tryd.ntmps99 (congrArg Array.toList Tryd.results99) (by simp) ?_
  repeat (first|((first|(with_reducible (first|refine Qa fun K E hK hE=>?_|refine Qk fun K E hK hE=>?_)));simp -implicitDefEqProofs only [Qc,Qd,OpW,aop,undef,AS.ev,Qq,↓reduceIte,aBin,a1,a3,a5,a6,a7,seval])|(with_reducible (first|refine Qf fun K hK=>?_|refine Qj ?_|refine Ql ?_|refine Qb ?_|refine Qu ?_|refine Qy ?_))|((with_reducible refine hK _ ?_);clear hK)|(refine Qh rfl ?_;simp only [↓reduceIte,Qq3]))
  simp only [QF,Qn,Qr,upd,↓reduceIte,Qq5,Qq9];first|refine Qi (htake _ _) (.keep (.v _)) ⟨by rw [e0],rfl⟩|refine Qi List.take_length (.keep (.v _)) ⟨by rw [e0],rfl⟩
 ·-- 58≤c∧c≤64
  have e0:ofN c=0:=by simp only [ofN];repeat' (first|rw [if_pos (by omega)]|rw [if_neg (by omega)])
  have a1:¬ 97≤c:=by omega
  have a2:c≤122:=by omega
  have a3:¬ 65≤c:=by omega
  have a4:c≤90:=by omega
  have a5:48≤c:=by omega
  have a6:¬ c≤57:=by omega
  have a7:(c==95)=false:=by simp;omega
  refine Qe Tryd.func99 rfl Tryd.call99 Tryd.ntmps99 (congrArg Array.toList Tryd.results99) (by simp) ?_
  repeat (first|((first|(with_reducible (first|refine Qa fun K E hK hE=>?_|refine Qk fun K E hK hE=>?_)));simp -implicitDefEqProofs only [Qc,Qd,OpW,aop,undef,AS.ev,Qq,↓reduceIte,aBin,a1,a3,a5,a6,a7,seval])|(with_reducible (first|refine Qf fun K hK=>?_|refine Qj ?_|refine Ql ?_|refine Qm ?_|refine Qb ?_|refine Qo ?_))|((with_reducible refine hK _ ?_);clear hK)|(refine Qh rfl ?_;simp only [↓reduceIte,Qq3]))
  simp only [QF,Qn,Qr,upd,↓reduceIte,Qq5,Qq9];first|refine Qi (htake _ _) (.keep (.v _)) ⟨by rw [e0],rfl⟩|refine Qi List.take_length (.keep (.v _)) ⟨by rw [e0],rfl⟩
 ·-- 65≤c∧c≤90
  have e0:ofN c=2:=by simp only [ofN];repeat' (first|rw [if_pos (by omega)]|rw [if_neg (by omega)])
  have a1:¬ 97≤c:=by omega
  have a2:c≤122:=by omega
  have a3:65≤c:=by omega
  have a4:c≤90:=by omega
  have a5:48≤c:=by omega
  have a6:¬ c≤57:=by omega
  have a7:(c==95)=false:=by simp;omega
  refine Qe Tryd.func99 rfl Tryd.call99 Tryd.ntmps99 (congrArg Array.toList Tryd.results99) (by simp) ?_
  repeat (first|(((with_reducible refine Qa fun K E hK hE=>?_));simp -implicitDefEqProofs only [Qc,Qd,OpW,aop,undef,AS.ev,Qq,↓reduceIte,aBin,a1,a3,a4,seval])|(with_reducible (first|refine Qf fun K hK=>?_|refine Qj ?_|refine Ql ?_|refine Qm ?_|refine Qb ?_|refine Qu ?_|refine Qy ?_))|((with_reducible refine hK _ ?_);clear hK)|(refine Qh rfl ?_;simp only [↓reduceIte,Qq3]))
  simp only [QF,Qn,Qr,upd,↓reduceIte,Qq5,Qq9];first|refine Qi (htake _ _) (.keep (.v _)) ⟨by rw [e0],rfl⟩|refine Qi List.take_length (.keep (.v _)) ⟨by rw [e0],rfl⟩
 ·-- 91≤c∧c≤94
  have e0:ofN c=0:=by simp only [ofN];repeat' (first|rw [if_pos (by omega)]|rw [if_neg (by omega)])
  have a1:¬ 97≤c:=by omega
  have a2:c≤122:=by omega
  have a3:65≤c:=by omega
  have a4:¬ c≤90:=by omega
  have a5:48≤c:=by omega
  have a6:¬ c≤57:=by omega
  have a7:(c==95)=false:=by simp;omega
  refine Qe Tryd.func99 rfl Tryd.call99 Tryd.ntmps99 (congrArg Array.toList Tryd.results99) (by simp) ?_
  repeat (first|((first|(with_reducible (first|refine Qa fun K E hK hE=>?_|refine Qk fun K E hK hE=>?_)));simp -implicitDefEqProofs only [Qc,Qd,OpW,aop,undef,AS.ev,Qq,↓reduceIte,aBin,a1,a3,a4,a5,a6,a7,seval])|(with_reducible (first|refine Qf fun K hK=>?_|refine Qj ?_|refine Ql ?_|refine Qm ?_|refine Qb ?_|refine Qo ?_))|((with_reducible refine hK _ ?_);clear hK)|(refine Qh rfl ?_;simp only [↓reduceIte,Qq3]))
  simp only [QF,Qn,Qr,upd,↓reduceIte,Qq5,Qq9];first|refine Qi (htake _ _) (.keep (.v _)) ⟨by rw [e0],rfl⟩|refine Qi List.take_length (.keep (.v _)) ⟨by rw [e0],rfl⟩
 ·-- c=95
  have e0:ofN c=2:=by simp only [ofN];repeat' (first|rw [if_pos (by omega)]|rw [if_neg (by omega)])
  have a1:¬ 97≤c:=by omega
  have a2:c≤122:=by omega
  have a3:65≤c:=by omega
  have a4:¬ c≤90:=by omega
  have a5:48≤c:=by omega
  have a6:¬ c≤57:=by omega
  have a7:(c==95)=true:=by simp;omega
  refine Qe Tryd.func99 rfl Tryd.call99 Tryd.ntmps99 (congrArg Array.toList Tryd.results99) (by simp) ?_
  repeat (first|((first|(with_reducible (first|refine Qa fun K E hK hE=>?_|refine Qk fun K E hK hE=>?_)));simp -implicitDefEqProofs only [Qc,Qd,OpW,aop,undef,AS.ev,Qq,↓reduceIte,aBin,a1,a3,a4,a7,seval])|(with_reducible (first|refine Qf fun K hK=>?_|refine Qj ?_|refine Ql ?_|refine Qb ?_|refine Qu ?_|refine Qy ?_))|((with_reducible refine hK _ ?_);clear hK)|(refine Qh rfl ?_;simp only [↓reduceIte,Qq3]))
  simp only [QF,Qn,Qr,upd,↓reduceIte,Qq5,Qq9];first|refine Qi (htake _ _) (.keep (.v _)) ⟨by rw [e0],rfl⟩|refine Qi List.take_length (.keep (.v _)) ⟨by rw [e0],rfl⟩
 ·-- c=96
  have e0:ofN c=0:=by simp only [ofN];repeat' (first|rw [if_pos (by omega)]|rw [if_neg (by omega)])
  have a1:¬ 97≤c:=by omega
  have a2:c≤122:=by omega
  have a3:65≤c:=by omega
  have a4:¬ c≤90:=by omega
  have a5:48≤c:=by omega
  have a6:¬ c≤57:=by omega
  have a7:(c==95)=false:=by simp;omega
  refine Qe Tryd.func99 rfl Tryd.call99 Tryd.ntmps99 (congrArg Array.toList Tryd.results99) (by simp) ?_
  repeat (first|((first|(with_reducible (first|refine Qa fun K E hK hE=>?_|refine Qk fun K E hK hE=>?_)));simp -implicitDefEqProofs only [Qc,Qd,OpW,aop,undef,AS.ev,Qq,↓reduceIte,aBin,a1,a3,a4,a5,a6,a7,seval])|(with_reducible (first|refine Qf fun K hK=>?_|refine Qj ?_|refine Ql ?_|refine Qm ?_|refine Qb ?_|refine Qo ?_))|((with_reducible refine hK _ ?_);clear hK)|(refine Qh rfl ?_;simp only [↓reduceIte,Qq3]))
  simp only [QF,Qn,Qr,upd,↓reduceIte,Qq5,Qq9];first|refine Qi (htake _ _) (.keep (.v _)) ⟨by rw [e0],rfl⟩|refine Qi List.take_length (.keep (.v _)) ⟨by rw [e0],rfl⟩
 ·-- 97≤c∧c≤122
  have e0:ofN c=1:=by simp only [ofN];repeat' (first|rw [if_pos (by omega)]|rw [if_neg (by omega)])
  have a1:97≤c:=by omega
  have a2:c≤122:=by omega
  have a3:65≤c:=by omega
  have a4:¬ c≤90:=by omega
  have a5:48≤c:=by omega
  have a6:¬ c≤57:=by omega
  have a7:(c==95)=false:=by simp;omega
  refine Qe Tryd.func99 rfl Tryd.call99 Tryd.ntmps99 (congrArg Array.toList Tryd.results99) (by simp) ?_
  repeat (first|(((with_reducible refine Qa fun K E hK hE=>?_));simp -implicitDefEqProofs only [Qc,Qd,OpW,aop,undef,AS.ev,Qq,↓reduceIte,aBin,a1,a2,seval])|(with_reducible (first|refine Qf fun K hK=>?_|refine Qj ?_|refine Ql ?_|refine Qu ?_|refine Qy ?_))|((with_reducible refine hK _ ?_);clear hK)|(refine Qh rfl ?_;simp only [↓reduceIte]))
  simp only [QF,Qn,Qr,upd,↓reduceIte,Qq5,Qq9];first|refine Qi (htake _ _) (.keep (.v _)) ⟨by rw [e0],rfl⟩|refine Qi List.take_length (.keep (.v _)) ⟨by rw [e0],rfl⟩
 ·-- 122<c
  have e0:ofN c=0:=by simp only [ofN];repeat' (first|rw [if_pos (by omega)]|rw [if_neg (by omega)])
  have a1:97≤c:=by omega
  have a2:¬ c≤122:=by omega
  have a3:65≤c:=by omega
  have a4:¬ c≤90:=by omega
  have a5:48≤c:=by omega
  have a6:¬ c≤57:=by omega
  have a7:(c==95)=false:=by simp;omega
  refine Qe Tryd.func99 rfl Tryd.call99 Tryd.ntmps99 (congrArg Array.toList Tryd.results99) (by simp) ?_
  repeat (first|((first|(with_reducible (first|refine Qa fun K E hK hE=>?_|refine Qk fun K E hK hE=>?_)));simp -implicitDefEqProofs only [Qc,Qd,OpW,aop,undef,AS.ev,Qq,↓reduceIte,aBin,a1,a2,a3,a4,a5,a6,a7,seval])|(with_reducible (first|refine Qf fun K hK=>?_|refine Qj ?_|refine Ql ?_|refine Qm ?_|refine Qb ?_|refine Qo ?_))|((with_reducible refine hK _ ?_);clear hK)|(refine Qh rfl ?_;simp only [↓reduceIte,Qq3]))
  simp only [QF,Qn,Qr,upd,↓reduceIte,Qq5,Qq9];first|refine Qi (htake _ _) (.keep (.v _)) ⟨by rw [e0],rfl⟩|refine Qi List.take_length (.keep (.v _)) ⟨by rw [e0],rfl⟩
theorem Qcm (c:Int):Pure Tryd.prog 64 [.v (.int .u8 c)] (.b (decide (97≤c∧c≤122))):=by
 intro h
 by_cases a1:c≥97
 ·by_cases a2:c≤122
  ·refine Qe Tryd.func64 rfl Tryd.call64 Tryd.ntmps64 (congrArg Array.toList Tryd.results64) (by simp) ?_
   repeat (first|(((with_reducible refine Qa fun K E hK hE=>?_));simp -implicitDefEqProofs only [Qc,Qd,OpW,aop,undef,AS.ev,Qq,↓reduceIte,aBin,a1,a2,seval])|(with_reducible refine Ql ?_)|((with_reducible refine hK _ ?_);clear hK))
   simp only [QF,Qn,Qr,upd,↓reduceIte,Qq5,Qq9];first|refine Qi (htake _ _) (.keep (.v _)) ⟨by rw [decide_eq_true ⟨a1,a2⟩],rfl⟩|refine Qi List.take_length (.keep (.v _)) ⟨by rw [decide_eq_true ⟨a1,a2⟩],rfl⟩
  ·refine Qe Tryd.func64 rfl Tryd.call64 Tryd.ntmps64 (congrArg Array.toList Tryd.results64) (by simp) ?_
   repeat (first|(((with_reducible refine Qa fun K E hK hE=>?_));simp -implicitDefEqProofs only [Qc,Qd,OpW,aop,undef,AS.ev,Qq,↓reduceIte,aBin,a1,a2,seval])|(with_reducible refine Ql ?_)|((with_reducible refine hK _ ?_);clear hK))
   simp only [QF,Qn,Qr,upd,↓reduceIte,Qq5,Qq9];first|refine Qi (htake _ _) (.keep (.v _)) ⟨by rw [decide_eq_false (fun h=>a2 h.2)],rfl⟩|refine Qi List.take_length (.keep (.v _)) ⟨by rw [decide_eq_false (fun h=>a2 h.2)],rfl⟩
 ·refine Qe Tryd.func64 rfl Tryd.call64 Tryd.ntmps64 (congrArg Array.toList Tryd.results64) (by simp) ?_
  repeat (first|(((with_reducible refine Qa fun K E hK hE=>?_));simp -implicitDefEqProofs only [Qc,Qd,OpW,aop,undef,AS.ev,Qq,↓reduceIte,aBin,a1,seval])|(with_reducible refine Ql ?_)|((with_reducible refine hK _ ?_);clear hK))
  simp only [QF,Qn,Qr,upd,↓reduceIte,Qq5,Qq9];first|refine Qi (htake _ _) (.keep (.v _)) ⟨by rw [decide_eq_false (fun h=>a1 h.1)],rfl⟩|refine Qi List.take_length (.keep (.v _)) ⟨by rw [decide_eq_false (fun h=>a1 h.1)],rfl⟩
theorem Qgu (c:Int):Pure Tryd.prog 79 [.v (.int .u8 c)] (.b (decide (65≤c∧c≤90))):=by
 intro h
 by_cases a1:c≥65
 ·by_cases a2:c≤90
  ·refine Qe Tryd.func79 rfl Tryd.call79 Tryd.ntmps79 (congrArg Array.toList Tryd.results79) (by simp) ?_
   repeat (first|(((with_reducible refine Qa fun K E hK hE=>?_));simp -implicitDefEqProofs only [Qc,Qd,OpW,aop,undef,AS.ev,Qq,↓reduceIte,aBin,a1,a2,seval])|(with_reducible refine Ql ?_)|((with_reducible refine hK _ ?_);clear hK))
   simp only [QF,Qn,Qr,upd,↓reduceIte,Qq5,Qq9];first|refine Qi (htake _ _) (.keep (.v _)) ⟨by rw [decide_eq_true ⟨a1,a2⟩],rfl⟩|refine Qi List.take_length (.keep (.v _)) ⟨by rw [decide_eq_true ⟨a1,a2⟩],rfl⟩
  ·refine Qe Tryd.func79 rfl Tryd.call79 Tryd.ntmps79 (congrArg Array.toList Tryd.results79) (by simp) ?_
   repeat (first|(((with_reducible refine Qa fun K E hK hE=>?_));simp -implicitDefEqProofs only [Qc,Qd,OpW,aop,undef,AS.ev,Qq,↓reduceIte,aBin,a1,a2,seval])|(with_reducible refine Ql ?_)|((with_reducible refine hK _ ?_);clear hK))
   simp only [QF,Qn,Qr,upd,↓reduceIte,Qq5,Qq9];first|refine Qi (htake _ _) (.keep (.v _)) ⟨by rw [decide_eq_false (fun h=>a2 h.2)],rfl⟩|refine Qi List.take_length (.keep (.v _)) ⟨by rw [decide_eq_false (fun h=>a2 h.2)],rfl⟩
 ·refine Qe Tryd.func79 rfl Tryd.call79 Tryd.ntmps79 (congrArg Array.toList Tryd.results79) (by simp) ?_
  repeat (first|(((with_reducible refine Qa fun K E hK hE=>?_));simp -implicitDefEqProofs only [Qc,Qd,OpW,aop,undef,AS.ev,Qq,↓reduceIte,aBin,a1,seval])|(with_reducible refine Ql ?_)|((with_reducible refine hK _ ?_);clear hK))
  simp only [QF,Qn,Qr,upd,↓reduceIte,Qq5,Qq9];first|refine Qi (htake _ _) (.keep (.v _)) ⟨by rw [decide_eq_false (fun h=>a1 h.1)],rfl⟩|refine Qi List.take_length (.keep (.v _)) ⟨by rw [decide_eq_false (fun h=>a1 h.1)],rfl⟩
def resB (s:ByteArray):Bool:=(s.toList==({data:=#[99,111,110,115,116,114,97,105,110,116]}:ByteArray).toList)||(s.toList==({data:=#[116,114,117,101]}:ByteArray).toList)||(s.toList==({data:=#[102,97,105,108]}:ByteArray).toList)||(s.toList==({data:=#[105,115]}:ByteArray).toList)||(s.toList==({data:=#[105,110,116]}:ByteArray).toList)||(s.toList==({data:=#[103,114,111,117,110,100]}:ByteArray).toList)
theorem Qcr (s:ByteArray):Pure Tryd.prog 59 [.v (.string s)] (.b (resB s)):=by
 intro h
 cases d0:(s.toList==({data:=#[99,111,110,115,116,114,97,105,110,116]}:ByteArray).toList) with
 |true =>
  refine Qe Tryd.func59 rfl Tryd.call59 Tryd.ntmps59 (congrArg Array.toList Tryd.results59) (by simp) ?_
  repeat (first|(((with_reducible refine Qa fun K E hK hE=>?_));simp -implicitDefEqProofs only [Qc,Qd,OpW,aop,undef,AS.ev,Qq,↓reduceIte,aBin,d0,seval])|(with_reducible (first|refine Qf fun K hK=>?_|refine Qj ?_|refine Ql ?_|refine Qm ?_|refine Qb ?_|refine Qu ?_|refine Qy ?_))|((with_reducible refine hK _ ?_);clear hK)|(refine Qh rfl ?_;simp only [↓reduceIte]))
  simp only [QF,Qn,Qr,upd,↓reduceIte,Qq5,Qq9];first|refine Qi (htake _ _) (.keep (.v _)) ⟨by simp only [resB,d0,Bool.true_or],rfl⟩|refine Qi List.take_length (.keep (.v _)) ⟨by simp only [resB,d0,Bool.true_or],rfl⟩
 |false =>
  cases d1:(s.toList==({data:=#[116,114,117,101]}:ByteArray).toList) with
  |true =>
   refine Qe Tryd.func59 rfl Tryd.call59 Tryd.ntmps59 (congrArg Array.toList Tryd.results59) (by simp) ?_
   repeat (first|(((with_reducible refine Qa fun K E hK hE=>?_));simp -implicitDefEqProofs only [Qc,Qd,OpW,aop,undef,AS.ev,Qq,↓reduceIte,aBin,d0,d1,seval])|(with_reducible (first|refine Qf fun K hK=>?_|refine Qj ?_|refine Ql ?_|refine Qm ?_|refine Qb ?_|refine Qu ?_|refine Qy ?_))|((with_reducible refine hK _ ?_);clear hK)|(refine Qh rfl ?_;simp only [↓reduceIte,Qq3]))
   simp only [QF,Qn,Qr,upd,↓reduceIte,Qq5,Qq9];first|refine Qi (htake _ _) (.keep (.v _)) ⟨by simp only [resB,d0,d1,Bool.or_true,Bool.true_or],rfl⟩|refine Qi List.take_length (.keep (.v _)) ⟨by simp only [resB,d0,d1,Bool.or_true,Bool.true_or],rfl⟩
  |false =>
   cases d2:(s.toList==({data:=#[102,97,105,108]}:ByteArray).toList) with
   |true =>
    refine Qe Tryd.func59 rfl Tryd.call59 Tryd.ntmps59 (congrArg Array.toList Tryd.results59) (by simp) ?_
    repeat (first|(((with_reducible refine Qa fun K E hK hE=>?_));simp -implicitDefEqProofs only [Qc,Qd,OpW,aop,undef,AS.ev,Qq,↓reduceIte,aBin,d0,d1,d2,seval])|(with_reducible (first|refine Qf fun K hK=>?_|refine Qj ?_|refine Ql ?_|refine Qm ?_|refine Qb ?_|refine Qu ?_|refine Qy ?_))|((with_reducible refine hK _ ?_);clear hK)|(refine Qh rfl ?_;simp only [↓reduceIte,Qq3]))
    simp only [QF,Qn,Qr,upd,↓reduceIte,Qq5,Qq9];first|refine Qi (htake _ _) (.keep (.v _)) ⟨by simp only [resB,d0,d1,d2,Bool.or_false,Bool.or_true,Bool.true_or],rfl⟩|refine Qi List.take_length (.keep (.v _)) ⟨by simp only [resB,d0,d1,d2,Bool.or_false,Bool.or_true,Bool.true_or],rfl⟩
   |false =>
    cases d3:(s.toList==({data:=#[105,115]}:ByteArray).toList) with
    |true =>
     refine Qe Tryd.func59 rfl Tryd.call59 Tryd.ntmps59 (congrArg Array.toList Tryd.results59) (by simp) ?_
     repeat (first|(((with_reducible refine Qa fun K E hK hE=>?_));simp -implicitDefEqProofs only [Qc,Qd,OpW,aop,undef,AS.ev,Qq,↓reduceIte,aBin,d0,d1,d2,d3,seval])|(with_reducible (first|refine Qf fun K hK=>?_|refine Qj ?_|refine Ql ?_|refine Qm ?_|refine Qb ?_|refine Qu ?_|refine Qy ?_))|((with_reducible refine hK _ ?_);clear hK)|(refine Qh rfl ?_;simp only [↓reduceIte,Qq3]))
     simp only [QF,Qn,Qr,upd,↓reduceIte,Qq5,Qq9];first|refine Qi (htake _ _) (.keep (.v _)) ⟨by simp only [resB,d0,d1,d2,d3,Bool.or_false,Bool.or_true,Bool.true_or],rfl⟩|refine Qi List.take_length (.keep (.v _)) ⟨by simp only [resB,d0,d1,d2,d3,Bool.or_false,Bool.or_true,Bool.true_or],rfl⟩
    |false =>
     cases d4:(s.toList==({data:=#[105,110,116]}:ByteArray).toList) with
     |true =>
      refine Qe Tryd.func59 rfl Tryd.call59 Tryd.ntmps59 (congrArg Array.toList Tryd.results59) (by simp) ?_
      repeat (first|(((with_reducible refine Qa fun K E hK hE=>?_));simp -implicitDefEqProofs only [Qc,Qd,OpW,aop,undef,AS.ev,Qq,↓reduceIte,aBin,d0,d1,d2,d3,d4,seval])|(with_reducible (first|refine Qf fun K hK=>?_|refine Qj ?_|refine Ql ?_|refine Qm ?_|refine Qb ?_|refine Qu ?_|refine Qy ?_))|((with_reducible refine hK _ ?_);clear hK)|(refine Qh rfl ?_;simp only [↓reduceIte,Qq3]))
      simp only [QF,Qn,Qr,upd,↓reduceIte,Qq5,Qq9];first|refine Qi (htake _ _) (.keep (.v _)) ⟨by simp only [resB,d0,d1,d2,d3,d4,Bool.or_false,Bool.or_true,Bool.true_or],rfl⟩|refine Qi List.take_length (.keep (.v _)) ⟨by simp only [resB,d0,d1,d2,d3,d4,Bool.or_false,Bool.or_true,Bool.true_or],rfl⟩
     |false =>
      cases d5:(s.toList==({data:=#[103,114,111,117,110,100]}:ByteArray).toList) with
      |true =>
       refine Qe Tryd.func59 rfl Tryd.call59 Tryd.ntmps59 (congrArg Array.toList Tryd.results59) (by simp) ?_
       repeat (first|((first|(with_reducible (first|refine Qa fun K E hK hE=>?_|refine Qk fun K E hK hE=>?_)));simp -implicitDefEqProofs only [Qc,Qd,OpW,aop,undef,AS.ev,Qq,↓reduceIte,aBin,d0,d1,d2,d3,d4,d5,seval])|(with_reducible (first|refine Qf fun K hK=>?_|refine Qj ?_|refine Ql ?_|refine Qb ?_|refine Qu ?_|refine Qy ?_))|((with_reducible refine hK _ ?_);clear hK)|(refine Qh rfl ?_;simp only [↓reduceIte,Qq3]))
       simp only [QF,Qn,Qr,upd,↓reduceIte,Qq5,Qq9];first|refine Qi (htake _ _) (.keep (.v _)) ⟨by simp only [resB,d0,d1,d2,d3,d4,d5,Bool.or_false,Bool.or_true],rfl⟩|refine Qi List.take_length (.keep (.v _)) ⟨by simp only [resB,d0,d1,d2,d3,d4,d5,Bool.or_false,Bool.or_true],rfl⟩
      |false =>
       refine Qe Tryd.func59 rfl Tryd.call59 Tryd.ntmps59 (congrArg Array.toList Tryd.results59) (by simp) ?_
       repeat (first|((first|(with_reducible (first|refine Qa fun K E hK hE=>?_|refine Qk fun K E hK hE=>?_)));simp -implicitDefEqProofs only [Qc,Qd,OpW,aop,undef,AS.ev,Qq,↓reduceIte,aBin,d0,d1,d2,d3,d4,d5,seval])|(with_reducible (first|refine Qf fun K hK=>?_|refine Qj ?_|refine Ql ?_|refine Qm ?_|refine Qb ?_|refine Qo ?_))|((with_reducible refine hK _ ?_);clear hK)|(refine Qh rfl ?_;simp only [↓reduceIte,Qq3]))
       simp only [QF,Qn,Qr,upd,↓reduceIte,Qq5,Qq9];first|refine Qi (htake _ _) (.keep (.v _)) ⟨by simp only [resB,d0,d1,d2,d3,d4,d5,Bool.or_false],rfl⟩|refine Qi List.take_length (.keep (.v _)) ⟨by simp only [resB,d0,d1,d2,d3,d4,d5,Bool.or_false],rfl⟩
theorem Qdo (s:ByteArray):Pure Tryd.prog 65 [.v (.string s)] (.b (resB s)):=by
 intro h
 cases d0:(s.toList==({data:=#[99,111,110,115,116,114,97,105,110,116]}:ByteArray).toList) with
 |true =>
  refine Qe Tryd.func65 rfl Tryd.call65 Tryd.ntmps65 (congrArg Array.toList Tryd.results65) (by simp) ?_
  iterate 3 (try (first|(((with_reducible refine Qa fun K E hK hE=>?_));simp -implicitDefEqProofs only [Xb,Xh,Qd,OpW,aop,AS.ev,Q8,Yf,Nat.reduceLT])|(with_reducible refine Qf fun K hK=>?_)|((with_reducible refine hK _ ?_);clear hK)))
  (with_reducible refine Qk fun K E hK hE=>?_)
  (try simp only [QrA]);refine QA 4 (fun K1 hK1=>?_);simp -implicitDefEqProofs only [Qc,Qd,OpW,aop,undef,AS.ev,Qq,↓reduceIte,aBin,d0,seval];refine hK1 _ ?_;clear hK1
  (try simp only [Qq8,Qrg]);refine QA 4 (fun K1 hK1=>?_);simp -implicitDefEqProofs only [Qc,Qd,OpW,aop,undef,AS.ev,↓reduceIte,seval];refine hK1 _ ?_;clear hK1
  (try simp only [Qq8,Qrg]);refine QA 4 (fun K1 hK1=>?_);simp -implicitDefEqProofs only [Qc,Qd,OpW,aop,undef,AS.ev,↓reduceIte,seval];refine hK1 _ ?_;clear hK1
  (try simp only [Qq8,Qrg]);refine QA 4 (fun K1 hK1=>?_);simp -implicitDefEqProofs only [Qc,Qd,OpW,aop,undef,AS.ev,↓reduceIte,seval];refine hK1 _ ?_;clear hK1
  (try simp only [Qq8,Qrg]);refine QA 4 (fun K1 hK1=>?_);simp -implicitDefEqProofs only [Qc,Qd,OpW,aop,undef,AS.ev,↓reduceIte,seval];refine hK1 _ ?_;clear hK1
  (try simp only [Qq8,Qrg])
  simp -implicitDefEqProofs only [Qc,Qd,OpW,aop,undef,AS.ev,↓reduceIte,seval]
  repeat (first|(with_reducible (first|refine Ql ?_|refine Qb ?_))|((with_reducible refine hK _ ?_);clear hK))
  simp only [QF,Qn,Qr,upd,↓reduceIte,Qq5,Qq9];first|refine Qi (htake _ _) (.keep (.v _)) ⟨by simp only [resB,d0,Bool.true_or],rfl⟩|refine Qi List.take_length (.keep (.v _)) ⟨by simp only [resB,d0,Bool.true_or],rfl⟩
 |false =>
  cases d1:(s.toList==({data:=#[116,114,117,101]}:ByteArray).toList) with
  |true =>
   refine Qe Tryd.func65 rfl Tryd.call65 Tryd.ntmps65 (congrArg Array.toList Tryd.results65) (by simp) ?_
   iterate 3 (try (first|(((with_reducible refine Qa fun K E hK hE=>?_));simp -implicitDefEqProofs only [Xb,Xh,Qd,OpW,aop,AS.ev,Q8,Yf,Nat.reduceLT])|(with_reducible refine Qf fun K hK=>?_)|((with_reducible refine hK _ ?_);clear hK)))
   (with_reducible refine Qk fun K E hK hE=>?_)
   (try simp only [QrA]);refine QA 4 (fun K1 hK1=>?_);simp -implicitDefEqProofs only [Qc,Qd,OpW,aop,undef,AS.ev,Qq,↓reduceIte,aBin,d0,seval];refine hK1 _ ?_;clear hK1
   (try simp only [Qq8,Qrg]);refine QA 4 (fun K1 hK1=>?_);simp -implicitDefEqProofs only [Qc,Qd,OpW,aop,undef,AS.ev,↓reduceIte,aBin,d1,seval];refine hK1 _ ?_;clear hK1
   (try simp only [Qq8,Qrg]);refine QA 4 (fun K1 hK1=>?_);simp -implicitDefEqProofs only [Qc,Qd,OpW,aop,undef,AS.ev,↓reduceIte,seval];refine hK1 _ ?_;clear hK1
   (try simp only [Qq8,Qrg]);refine QA 4 (fun K1 hK1=>?_);simp -implicitDefEqProofs only [Qc,Qd,OpW,aop,undef,AS.ev,↓reduceIte,seval];refine hK1 _ ?_;clear hK1
   (try simp only [Qq8,Qrg]);refine QA 4 (fun K1 hK1=>?_);simp -implicitDefEqProofs only [Qc,Qd,OpW,aop,undef,AS.ev,↓reduceIte,seval];refine hK1 _ ?_;clear hK1
   (try simp only [Qq8,Qrg])
   simp -implicitDefEqProofs only [Qc,Qd,OpW,aop,undef,AS.ev,↓reduceIte,seval]
   repeat (first|(with_reducible (first|refine Ql ?_|refine Qb ?_))|((with_reducible refine hK _ ?_);clear hK))
   simp only [QF,Qn,Qr,upd,↓reduceIte,Qq5,Qq9];first|refine Qi (htake _ _) (.keep (.v _)) ⟨by simp only [resB,d0,d1,Bool.or_true,Bool.true_or],rfl⟩|refine Qi List.take_length (.keep (.v _)) ⟨by simp only [resB,d0,d1,Bool.or_true,Bool.true_or],rfl⟩
  |false =>
   cases d2:(s.toList==({data:=#[102,97,105,108]}:ByteArray).toList) with
   |true =>
    refine Qe Tryd.func65 rfl Tryd.call65 Tryd.ntmps65 (congrArg Array.toList Tryd.results65) (by simp) ?_
    iterate 3 (try (first|(((with_reducible refine Qa fun K E hK hE=>?_));simp -implicitDefEqProofs only [Xb,Xh,Qd,OpW,aop,AS.ev,Q8,Yf,Nat.reduceLT])|(with_reducible refine Qf fun K hK=>?_)|((with_reducible refine hK _ ?_);clear hK)))
    (with_reducible refine Qk fun K E hK hE=>?_)
    (try simp only [QrA]);refine QA 4 (fun K1 hK1=>?_);simp -implicitDefEqProofs only [Qc,Qd,OpW,aop,undef,AS.ev,Qq,↓reduceIte,aBin,d0,seval];refine hK1 _ ?_;clear hK1
    (try simp only [Qq8,Qrg]);refine QA 4 (fun K1 hK1=>?_);simp -implicitDefEqProofs only [Qc,Qd,OpW,aop,undef,AS.ev,Qq,↓reduceIte,aBin,d1,seval];refine hK1 _ ?_;clear hK1
    (try simp only [Qq8,Qrg]);refine QA 4 (fun K1 hK1=>?_);simp -implicitDefEqProofs only [Qc,Qd,OpW,aop,undef,AS.ev,↓reduceIte,aBin,d2,seval];refine hK1 _ ?_;clear hK1
    (try simp only [Qq8,Qrg]);refine QA 4 (fun K1 hK1=>?_);simp -implicitDefEqProofs only [Qc,Qd,OpW,aop,undef,AS.ev,↓reduceIte,seval];refine hK1 _ ?_;clear hK1
    (try simp only [Qq8,Qrg]);refine QA 4 (fun K1 hK1=>?_);simp -implicitDefEqProofs only [Qc,Qd,OpW,aop,undef,AS.ev,↓reduceIte,seval];refine hK1 _ ?_;clear hK1
    (try simp only [Qq8,Qrg])
    simp -implicitDefEqProofs only [Qc,Qd,OpW,aop,undef,AS.ev,↓reduceIte,seval]
    repeat (first|(with_reducible (first|refine Ql ?_|refine Qb ?_))|((with_reducible refine hK _ ?_);clear hK))
    simp only [QF,Qn,Qr,upd,↓reduceIte,Qq5,Qq9];first|refine Qi (htake _ _) (.keep (.v _)) ⟨by simp only [resB,d0,d1,d2,Bool.or_false,Bool.or_true,Bool.true_or],rfl⟩|refine Qi List.take_length (.keep (.v _)) ⟨by simp only [resB,d0,d1,d2,Bool.or_false,Bool.or_true,Bool.true_or],rfl⟩
   |false =>
    cases d3:(s.toList==({data:=#[105,115]}:ByteArray).toList) with
    |true =>
     refine Qe Tryd.func65 rfl Tryd.call65 Tryd.ntmps65 (congrArg Array.toList Tryd.results65) (by simp) ?_
     iterate 3 (try (first|(((with_reducible refine Qa fun K E hK hE=>?_));simp -implicitDefEqProofs only [Xb,Xh,Qd,OpW,aop,AS.ev,Q8,Yf,Nat.reduceLT])|(with_reducible refine Qf fun K hK=>?_)|((with_reducible refine hK _ ?_);clear hK)))
     (with_reducible refine Qk fun K E hK hE=>?_)
     (try simp only [QrA]);refine QA 4 (fun K1 hK1=>?_);simp -implicitDefEqProofs only [Qc,Qd,OpW,aop,undef,AS.ev,Qq,↓reduceIte,aBin,d0,seval];refine hK1 _ ?_;clear hK1
     (try simp only [Qq8,Qrg]);refine QA 4 (fun K1 hK1=>?_);simp -implicitDefEqProofs only [Qc,Qd,OpW,aop,undef,AS.ev,Qq,↓reduceIte,aBin,d1,seval];refine hK1 _ ?_;clear hK1
     (try simp only [Qq8,Qrg]);refine QA 4 (fun K1 hK1=>?_);simp -implicitDefEqProofs only [Qc,Qd,OpW,aop,undef,AS.ev,Qq,↓reduceIte,aBin,d2,seval];refine hK1 _ ?_;clear hK1
     (try simp only [Qq8,Qrg]);refine QA 4 (fun K1 hK1=>?_);simp -implicitDefEqProofs only [Qc,Qd,OpW,aop,undef,AS.ev,↓reduceIte,aBin,d3,seval];refine hK1 _ ?_;clear hK1
     (try simp only [Qq8,Qrg]);refine QA 4 (fun K1 hK1=>?_);simp -implicitDefEqProofs only [Qc,Qd,OpW,aop,undef,AS.ev,↓reduceIte,seval];refine hK1 _ ?_;clear hK1
     (try simp only [Qq8,Qrg])
     simp -implicitDefEqProofs only [Qc,Qd,OpW,aop,undef,AS.ev,↓reduceIte,seval]
     repeat (first|(with_reducible (first|refine Ql ?_|refine Qb ?_))|((with_reducible refine hK _ ?_);clear hK))
     simp only [QF,Qn,Qr,upd,↓reduceIte,Qq5,Qq9];first|refine Qi (htake _ _) (.keep (.v _)) ⟨by simp only [resB,d0,d1,d2,d3,Bool.or_false,Bool.or_true,Bool.true_or],rfl⟩|refine Qi List.take_length (.keep (.v _)) ⟨by simp only [resB,d0,d1,d2,d3,Bool.or_false,Bool.or_true,Bool.true_or],rfl⟩
    |false =>
     cases d4:(s.toList==({data:=#[105,110,116]}:ByteArray).toList) with
     |true =>
      refine Qe Tryd.func65 rfl Tryd.call65 Tryd.ntmps65 (congrArg Array.toList Tryd.results65) (by simp) ?_
      iterate 3 (try (first|(((with_reducible refine Qa fun K E hK hE=>?_));simp -implicitDefEqProofs only [Xb,Xh,Qd,OpW,aop,AS.ev,Q8,Yf,Nat.reduceLT])|(with_reducible refine Qf fun K hK=>?_)|((with_reducible refine hK _ ?_);clear hK)))
      (with_reducible refine Qk fun K E hK hE=>?_)
      (try simp only [QrA]);refine QA 4 (fun K1 hK1=>?_);simp -implicitDefEqProofs only [Qc,Qd,OpW,aop,undef,AS.ev,Qq,↓reduceIte,aBin,d0,seval];refine hK1 _ ?_;clear hK1
      (try simp only [Qq8,Qrg]);refine QA 4 (fun K1 hK1=>?_);simp -implicitDefEqProofs only [Qc,Qd,OpW,aop,undef,AS.ev,Qq,↓reduceIte,aBin,d1,seval];refine hK1 _ ?_;clear hK1
      (try simp only [Qq8,Qrg]);refine QA 4 (fun K1 hK1=>?_);simp -implicitDefEqProofs only [Qc,Qd,OpW,aop,undef,AS.ev,Qq,↓reduceIte,aBin,d2,seval];refine hK1 _ ?_;clear hK1
      (try simp only [Qq8,Qrg]);refine QA 4 (fun K1 hK1=>?_);simp -implicitDefEqProofs only [Qc,Qd,OpW,aop,undef,AS.ev,Qq,↓reduceIte,aBin,d3,seval];refine hK1 _ ?_;clear hK1
      (try simp only [Qq8,Qrg]);refine QA 4 (fun K1 hK1=>?_);simp -implicitDefEqProofs only [Qc,Qd,OpW,aop,undef,AS.ev,↓reduceIte,aBin,d4,seval];refine hK1 _ ?_;clear hK1
      (try simp only [Qq8,Qrg])
      simp -implicitDefEqProofs only [Qc,Qd,OpW,aop,undef,AS.ev,↓reduceIte,seval]
      repeat (first|(with_reducible (first|refine Ql ?_|refine Qb ?_))|((with_reducible refine hK _ ?_);clear hK))
      simp only [QF,Qn,Qr,upd,↓reduceIte,Qq5,Qq9];first|refine Qi (htake _ _) (.keep (.v _)) ⟨by simp only [resB,d0,d1,d2,d3,d4,Bool.or_false,Bool.or_true,Bool.true_or],rfl⟩|refine Qi List.take_length (.keep (.v _)) ⟨by simp only [resB,d0,d1,d2,d3,d4,Bool.or_false,Bool.or_true,Bool.true_or],rfl⟩
     |false =>
      cases d5:(s.toList==({data:=#[103,114,111,117,110,100]}:ByteArray).toList) with
      |true =>
       refine Qe Tryd.func65 rfl Tryd.call65 Tryd.ntmps65 (congrArg Array.toList Tryd.results65) (by simp) ?_
       iterate 3 (try (first|(((with_reducible refine Qa fun K E hK hE=>?_));simp -implicitDefEqProofs only [Xb,Xh,Qd,OpW,aop,AS.ev,Q8,Yf,Nat.reduceLT])|(with_reducible refine Qf fun K hK=>?_)|((with_reducible refine hK _ ?_);clear hK)))
       (with_reducible refine Qk fun K E hK hE=>?_)
       (try simp only [QrA]);refine QA 4 (fun K1 hK1=>?_);simp -implicitDefEqProofs only [Qc,Qd,OpW,aop,undef,AS.ev,Qq,↓reduceIte,aBin,d0,seval];refine hK1 _ ?_;clear hK1
       (try simp only [Qq8,Qrg]);refine QA 4 (fun K1 hK1=>?_);simp -implicitDefEqProofs only [Qc,Qd,OpW,aop,undef,AS.ev,Qq,↓reduceIte,aBin,d1,seval];refine hK1 _ ?_;clear hK1
       (try simp only [Qq8,Qrg]);refine QA 4 (fun K1 hK1=>?_);simp -implicitDefEqProofs only [Qc,Qd,OpW,aop,undef,AS.ev,Qq,↓reduceIte,aBin,d2,seval];refine hK1 _ ?_;clear hK1
       (try simp only [Qq8,Qrg]);refine QA 4 (fun K1 hK1=>?_);simp -implicitDefEqProofs only [Qc,Qd,OpW,aop,undef,AS.ev,Qq,↓reduceIte,aBin,d3,seval];refine hK1 _ ?_;clear hK1
       (try simp only [Qq8,Qrg]);refine QA 4 (fun K1 hK1=>?_);simp -implicitDefEqProofs only [Qc,Qd,OpW,aop,undef,AS.ev,Qq,↓reduceIte,aBin,d4,seval];refine hK1 _ ?_;clear hK1
       (try simp only [Qq8,Qrg])
       simp -implicitDefEqProofs only [Qc,Qd,OpW,aop,AS.ev,↓reduceIte,aBin,d5,seval]
       repeat (first|(with_reducible (first|refine Ql ?_|refine Qb ?_))|((with_reducible refine hK _ ?_);clear hK))
       simp only [QF,Qn,Qr,upd,↓reduceIte,Qq5,Qq9];first|refine Qi (htake _ _) (.keep (.v _)) ⟨by simp only [resB,d0,d1,d2,d3,d4,d5,Bool.or_false,Bool.or_true],rfl⟩|refine Qi List.take_length (.keep (.v _)) ⟨by simp only [resB,d0,d1,d2,d3,d4,d5,Bool.or_false,Bool.or_true],rfl⟩
      |false =>
       refine Qe Tryd.func65 rfl Tryd.call65 Tryd.ntmps65 (congrArg Array.toList Tryd.results65) (by simp) ?_
       iterate 3 (try (first|(((with_reducible refine Qa fun K E hK hE=>?_));simp -implicitDefEqProofs only [Xb,Xh,Qd,OpW,aop,AS.ev,Q8,Yf,Nat.reduceLT])|(with_reducible refine Qf fun K hK=>?_)|((with_reducible refine hK _ ?_);clear hK)))
       (with_reducible refine Qk fun K E hK hE=>?_)
       (try simp only [QrA]);refine QA 4 (fun K1 hK1=>?_);simp -implicitDefEqProofs only [Qc,Qd,OpW,aop,undef,AS.ev,Qq,↓reduceIte,aBin,d0,seval];refine hK1 _ ?_;clear hK1
       (try simp only [Qq8,Qrg]);refine QA 4 (fun K1 hK1=>?_);simp -implicitDefEqProofs only [Qc,Qd,OpW,aop,undef,AS.ev,Qq,↓reduceIte,aBin,d1,seval];refine hK1 _ ?_;clear hK1
       (try simp only [Qq8,Qrg]);refine QA 4 (fun K1 hK1=>?_);simp -implicitDefEqProofs only [Qc,Qd,OpW,aop,undef,AS.ev,Qq,↓reduceIte,aBin,d2,seval];refine hK1 _ ?_;clear hK1
       (try simp only [Qq8,Qrg]);refine QA 4 (fun K1 hK1=>?_);simp -implicitDefEqProofs only [Qc,Qd,OpW,aop,undef,AS.ev,Qq,↓reduceIte,aBin,d3,seval];refine hK1 _ ?_;clear hK1
       (try simp only [Qq8,Qrg]);refine QA 4 (fun K1 hK1=>?_);simp -implicitDefEqProofs only [Qc,Qd,OpW,aop,undef,AS.ev,Qq,↓reduceIte,aBin,d4,seval];refine hK1 _ ?_;clear hK1
       (try simp only [Qq8,Qrg])
       simp -implicitDefEqProofs only [Qc,Qd,OpW,aop,AS.ev,↓reduceIte,aBin,d5,seval]
       repeat (first|(with_reducible (first|refine Ql ?_|refine Qb ?_))|((with_reducible refine hK _ ?_);clear hK))
       simp only [QF,Qn,Qr,upd,↓reduceIte,Qq5,Qq9];first|refine Qi (htake _ _) (.keep (.v _)) ⟨by simp only [resB,d0,d1,d2,d3,d4,d5,Bool.or_false],rfl⟩|refine Qi List.take_length (.keep (.v _)) ⟨by simp only [resB,d0,d1,d2,d3,d4,d5,Bool.or_false],rfl⟩
theorem QhW (s:ByteArray) (k:Nat):byteAt (s.extract 1 s.size) k=byteAt s (k+1):=by
 unfold byteAt
 rw [Lib.extract_data,List.take_of_length_le (by rw [List.length_drop,← Lib.size_eq];omega),List.getD_eq_getElem?_getD,List.getD_eq_getElem?_getD,List.getElem?_drop,Nat.add_comm 1 k]
theorem QhB (s:ByteArray):(s.extract 1 s.size).size=s.size - 1:=by
 rw [Lib.size_eq,Lib.extract_data,List.length_take,List.length_drop,← Lib.size_eq];omega
def fol (c:Int):Prop:=ofN c≠0
instance (c:Int):Decidable (fol c):=by unfold fol;infer_instance
theorem Qa4 (c:Int):fol c↔(97≤c∧c≤122)∨(65≤c∧c≤90)∨c=95∨(48≤c∧c≤57):=by
 unfold fol ofN
 split
 ·constructor
  ·intro _;omega
  ·intro _;decide
 ·split
  ·constructor
   ·intro _;omega
   ·intro _;decide
  ·split
   ·constructor
    ·intro _;omega
    ·intro _;decide
   ·constructor
    ·intro h;exact absurd rfl h
    ·intro _;omega
def Fol (s:ByteArray):Prop:=∀ k,k<s.size→fol (byteAt s k)
instance (s:ByteArray):Decidable (Fol s):=by unfold Fol;infer_instance
theorem Qhn (c:Int):ofN c=0∨ofN c=1∨ofN c=2∨ofN c=4:=by
 unfold ofN
 repeat' split
 all_goals simp
theorem Qmc (r:Int) (hr:0≤r∧r<2147483648):Pure Tryd.prog 101 [.v (.int .i32 r)] (.b (decide (122<r∨¬ fol r))):=by
 intro h
 by_cases h1:r>122
 ·refine Qe Tryd.func101 rfl Tryd.call101 Tryd.ntmps101 (congrArg Array.toList Tryd.results101) (by simp) ?_
  repeat (first|(((with_reducible refine Qa fun K E hK hE=>?_));simp -implicitDefEqProofs only [Qc,Qd,OpW,aop,undef,AS.ev,Qq,↓reduceIte,aBin,h1,seval])|(with_reducible refine Ql ?_)|((with_reducible refine hK _ ?_);clear hK))
  simp only [QF,Qn,Qr,upd,↓reduceIte,Qq5,Qq9];first|refine Qi (htake _ _) (.keep (.v _)) ⟨by rw [decide_eq_true (.inl h1)],rfl⟩|refine Qi List.take_length (.keep (.v _)) ⟨by rw [decide_eq_true (.inl h1)],rfl⟩
 ·have hcv:=Qox Tryd.prog 21 5 (ts:=.int .i32) (kd:=.u8) (by kernel_rfl) (by kernel_rfl) .i32
  have w0:IntKind.u8.wrap r=r:=by simp [IntKind.wrap,IntKind.bits,IntKind.signed];omega
  have c:=QlK r (by omega)
  have hf:decide (122<r∨¬ fol r)=(ofN r==0):=by
   by_cases h0:ofN r=0
   ·rw [h0,decide_eq_true (.inr fun h=>h h0)];rfl
   ·rw [decide_eq_false (by rintro (h|h);exact h1 h;exact h h0)];simp [h0]
  have ha:∀ xo yo a,a=0∨a=1∨a=2∨a=4→pv Tryd.prog (do eqGuard .and 130 xo yo (.int .u8 a) (.int .u8 7);binOp .and 130 (.int .u8 a) (.int .u8 7))=some (.int .u8 a):=by
   rintro xo yo a (rfl|rfl|rfl|rfl) <;> rfl
  have ha':=fun xo yo=>ha xo yo (ofN r) (Qhn r)
  refine Qe Tryd.func101 rfl Tryd.call101 Tryd.ntmps101 (congrArg Array.toList Tryd.results101) (by simp) ?_
  repeat (first|((first|(with_reducible (first|refine Qa fun K E hK hE=>?_|refine Qz c ?_)));simp -implicitDefEqProofs only [Qc,Qd,OpW,QE,aop,undef,AS.ev,Qq,↓reduceIte,aBin,h1,hcv,w0,ha',seval])|(with_reducible refine Ql ?_)|((with_reducible refine hK _ ?_);clear hK))
  simp only [QF,Qn,Qr,upd,↓reduceIte,Qq5,Qq9];first|refine Qi (htake _ _) (.keep (.v _)) ⟨by rw [hf],rfl⟩|refine Qi List.take_length (.keep (.v _)) ⟨by rw [hf],rfl⟩
def ixR (s:ByteArray):Nat→Nat→Int
 |_,0 => -1
 |p,n+1=>if fol (byteAt s p) then ixR s (p+1) n else p
theorem Qlp (s:ByteArray):∀ (n p:Nat),ixR s p n<0↔∀ k,p≤k→k<p+n→fol (byteAt s k)
 |0,p=>by simp only [ixR];exact ⟨fun _ k h1 h2=>by omega,fun _=>by omega⟩
 |n+1,p=>by
  simp only [ixR]
  split
  ·rename_i h
   rw [Qlp s n (p+1)]
   constructor
   ·intro h' k h1 h2
    by_cases hk:k=p
    ·rw [hk];exact h
    ·exact h' k (by omega) (by omega)
   ·intro h' k h1 h2;exact h' k (by omega) (by omega)
  ·rename_i h
   constructor
   ·intro h';omega
   ·intro h';exact absurd (h' p (Nat.le_refl _) (by omega)) h
theorem Qk4 (s:ByteArray) (i:Nat):(Utf8.decode s i).1<2147483648:=by
 unfold Utf8.decode
 have hr:Utf8.runeError<2147483648:=by decide
 have hb:∀ k,(s.get! k).toNat<256:=fun k=>(s.get! k).toNat_lt
 have b0:=hb (i+0)
 have b1:=hb (i+1)
 have b2:=hb (i+2)
 have b3:=hb (i+3)
 simp only
 repeat' split
 all_goals first|exact hr|(simp only;omega)
theorem QeO (b:ByteArray) (hs:b.size≤maxLen):Pure Tryd.prog 105 [.v (.string b),.fn (.func 101) [] [],.b true] (.i (ixR b 0 b.size)):=by
 intro h
 have hbe:=fun xo yo a b=>Qow Tryd.prog 4 xo yo (by kernel_rfl) a b
 refine Qe Tryd.func105 rfl Tryd.call105 Tryd.ntmps105 (congrArg Array.toList Tryd.results105) (by simp) ?_
 repeat (first|(((with_reducible refine Qa fun K E hK hE=>?_));simp -implicitDefEqProofs only [Qc,Qd,OpW,aop,undef,AS.ev,Qq,↓reduceIte,un9,seval])|(with_reducible (first|refine Qf fun K hK=>?_|refine Qj ?_))|((with_reducible refine hK _ ?_);clear hK))
 obtain ⟨I,hI⟩:∃ I:Nat→AS→Prop,I=fun m' s=>∃ (p:Nat),m'=b.size - p∧p≤b.size∧ixR b 0 b.size=ixR b p (b.size - p)∧s.tm 1 = .fn (.func 101) [] []∧s.tm 2 = .b true∧s.tm 10 = .mp h.length∧s.h=h++[.iter b p]:=⟨_,rfl⟩;refine QO I ?_ (m:=b.size) ?_
 ·intro m' s hs;rw [hI] at hs;obtain ⟨tm,hp⟩:=s;dsimp only at hs;obtain ⟨p,rfl,hp',he,t1,t2,t10,rfl⟩:=hs
  by_cases hlt:p<b.size
  ·have c:=Qmc ((Utf8.decode b p).1:Int) ⟨by omega,by have:=Qk4 b p;omega⟩
   obtain ⟨n,hn⟩:∃ n,b.size - p=n+1:=⟨b.size - p - 1,by omega⟩
   rw [hn,ixR] at he
   by_cases hf:fol (byteAt b p)
   ·rw [if_pos hf] at he
    have hb:byteAt b p<128:=by have:=(Qa4 _).1 hf;omega
    obtain ⟨d1,d2⟩:=decode_ascii hb
    have hc:decide (122<((Utf8.decode b p).1:Int)∨¬ fol ((Utf8.decode b p).1:Int))=false:=by
     rw [d1]
     refine decide_eq_false ?_
     rintro (h1|h1)
     ·have:=(Qa4 _).1 hf;omega
     ·exact h1 hf
    rw [hc] at c
    repeat (first|((first|(with_reducible (first|refine Qa fun K E hK hE=>?_|refine Qz c ?_)));simp -implicitDefEqProofs only [Qc,Qd,OpW,QE,aop,AS.ev,↓reduceIte,aBin,QY,goInt,Zg,t1,t2,t10,hlt,d2,hbe,seval])|(with_reducible (first|refine Qf fun K hK=>?_|refine Qj ?_|refine Qm ?_|refine Qb ?_|refine Qo ?_))|((with_reducible refine hK _ ?_);clear hK)|(refine Qh rfl ?_;simp only [↓reduceIte,Qq3]))
    refine Xi.mk (m':=b.size - (p+1)) (by omega) ?_
    rw [hI]
    exact ⟨p+1,rfl,hlt,by rw [he,show n=b.size - (p+1) by omega],t1,t2,t10,rfl⟩
   ·rw [if_neg hf] at he
    have hc:decide (122<((Utf8.decode b p).1:Int)∨¬ fol ((Utf8.decode b p).1:Int))=true:=by
     refine decide_eq_true ?_
     by_cases hb:byteAt b p<128
     ·right;rw [(decode_ascii hb).1];exact hf
     ·left;have:=QjJ (s:=b) (i:=p) (by omega);omega
    rw [hc] at c
    repeat (first|((first|(with_reducible (first|refine Qa fun K E hK hE=>?_|refine Qz c ?_)));simp -implicitDefEqProofs only [Qc,Qd,OpW,QE,aop,AS.ev,↓reduceIte,aBin,QY,goInt,Zg,t1,t2,t10,hlt,hbe,seval])|(with_reducible (first|refine Qf fun K hK=>?_|refine Qj ?_|refine Ql ?_|refine Qm ?_|refine Qb ?_|refine Qu ?_|refine Qy ?_))|((with_reducible refine hK _ ?_);clear hK)|(refine Qh rfl ?_;simp only [↓reduceIte]))
    simp only [QF,Qn,Qr,upd,↓reduceIte,Qq5,Qq9];first|refine Qi (htake _ _) (.keep (.v _)) ⟨by rw [he],rfl⟩|refine Qi List.take_length (.keep (.v _)) ⟨by rw [he],rfl⟩
  ·rw [show b.size - p=0 by omega,ixR] at he
   repeat (first|(((with_reducible refine Qa fun K E hK hE=>?_));simp -implicitDefEqProofs only [Qc,Qd,OpW,aop,AS.ev,↓reduceIte,Nat.reduceLT,QY,Zg,t10,hlt])|(with_reducible (first|refine Qf fun K hK=>?_|refine Ql ?_|refine QG ?_|refine Qb ?_|refine QD ?_|refine QC ?_))|((with_reducible refine hK _ ?_);clear hK)|(clear hK;(with_reducible refine hK _ ?_);clear hK)|(refine Qh rfl ?_;simp only [↓reduceIte,Qq3]))
   simp only [QF,Qn,Qr,upd,↓reduceIte,Qq5,Qq9];first|refine Qi (htake _ _) (.keep (.v _)) ⟨by rw [he],rfl⟩|refine Qi List.take_length (.keep (.v _)) ⟨by rw [he],rfl⟩
 ·rw [hI]
  exact ⟨0,by omega,Nat.zero_le _,rfl,rfl,rfl,rfl,rfl⟩
theorem QcL (b:ByteArray) (hs:b.size≤maxLen):Pure Tryd.prog 100 [.v (.string b),.fn (.func 101) [] []] (.i (ixR b 0 b.size)):=by
 intro h
 have c:=QeO b hs
 refine Qe Tryd.func100 rfl Tryd.call100 Tryd.ntmps100 (congrArg Array.toList Tryd.results100) (by simp) ?_
 repeat (first|((first|(with_reducible (first|refine Qa fun K E hK hE=>?_|refine Qz c ?_)));simp -implicitDefEqProofs only [Qc,Qd,OpW,QE,aop,undef,AS.ev,Qq,↓reduceIte,seval])|(with_reducible refine Ql ?_)|((with_reducible refine hK _ ?_);clear hK))
 simp only [QF,Qn,Qr,upd,↓reduceIte,Qq5,Qq9];first|refine Qi (htake _ _) (.keep (.v _)) ⟨rfl,rfl⟩|refine Qi List.take_length (.keep (.v _)) ⟨rfl,rfl⟩
def QcX (first:Int) (s:ByteArray):Prop:=1≤s.size∧s.size≤40∧ofN (byteAt s 0)=first∧Fol s
instance (first:Int) (s:ByteArray):Decidable (QcX first s):=by unfold QcX;infer_instance
theorem Qfj (s:ByteArray):(s.toList==({data:=#[]}:ByteArray).toList)=decide (s.size=0):=by
 rw [Lib.toList_data,Lib.toList_data,Lib.size_eq]
 cases s.data.toList <;> simp
theorem Qmv (first:Int) (hf:first=1∨first=2) (s:ByteArray):Pure Tryd.prog 91 [.v (.string s),.v (.int .u8 first)] (.b (decide (QcX first s))):=by
 intro h
 have hsl:=fun b=>Zz Tryd.prog 9 3 (by kernel_rfl) b
 by_cases n0:s.size=0
 ·have d0:(s.toList==({data:=#[]}:ByteArray).toList)=true:=by rw [Qfj,decide_eq_true n0]
  refine Qe Tryd.func91 rfl Tryd.call91 Tryd.ntmps91 (congrArg Array.toList Tryd.results91) (by simp) ?_
  repeat (first|(((with_reducible refine Qa fun K E hK hE=>?_));simp -implicitDefEqProofs only [Qc,Qd,OpW,aop,undef,AS.ev,Qq,↓reduceIte,aBin,d0,seval])|(with_reducible (first|refine Qf fun K hK=>?_|refine Ql ?_|refine Qu ?_))|((with_reducible refine hK _ ?_);clear hK)|(refine Qh rfl ?_;simp only [↓reduceIte]))
  simp only [QF,Qn,Qr,upd,↓reduceIte,Qq5,Qq9];first|refine Qi (htake _ _) (.keep (.v _)) ⟨by rw [decide_eq_false (fun h=>by have:=h.1;omega)],rfl⟩|refine Qi List.take_length (.keep (.v _)) ⟨by rw [decide_eq_false (fun h=>by have:=h.1;omega)],rfl⟩
 ·have d0:(s.toList==({data:=#[]}:ByteArray).toList)=false:=by rw [Qfj,decide_eq_false n0]
  by_cases n1:s.size≤40
  ·have m1:¬ ((s.size:Int)>40):=by omega
   have hix:=QfG Tryd.prog 9 (by kernel_rfl) s (by omega)
   have hr:=QjA s 0
   have c:=QlK (byteAt s 0) hr
   have ha:∀ xo yo a,a=0∨a=1∨a=2∨a=4→pv Tryd.prog (do eqGuard .and 130 xo yo (.int .u8 a) (.int .u8 first);binOp .and 130 (.int .u8 a) (.int .u8 first))=some (.int .u8 (if a=first then first else 0)):=by
    rcases hf with rfl|rfl <;> rintro xo yo a (rfl|rfl|rfl|rfl) <;> rfl
   have ha':=fun xo yo=>ha xo yo (ofN (byteAt s 0)) (Qhn _)
   by_cases hc:ofN (byteAt s 0)=first
   ·have f0:(first==0)=false:=by simp;omega
    have hsf:=Qnn Tryd.prog 9 (by kernel_rfl) s 1 (by omega)
    have hsf':pv Tryd.prog (Instr.sliceAt 9 (.string s) (some (.int .i64 1)) none none)=some (.string (s.extract 1 s.size)):=hsf
    have ci:=QcL (s.extract 1 s.size) (by rw [QhB];simp only [maxLen];omega)
    have hi:decide (ixR (s.extract 1 s.size) 0 (s.extract 1 s.size).size<0)=decide (QcX first s):=by
     rw [decide_eq_decide,Qlp]
     simp only [QhB,QhW,Qrb]
     constructor
     ·intro h1
      refine ⟨by omega,n1,hc,fun k hk=>?_⟩
      cases k with
      |zero=>show ofN _≠0;rw [hc];omega
      |succ k=>exact h1 k (Nat.zero_le _) (by omega)
     ·rintro ⟨_,_,_,h4⟩ k _ hk
      exact h4 (k+1) (by omega)
    rw [if_pos hc] at ha'
    refine Qe Tryd.func91 rfl Tryd.call91 Tryd.ntmps91 (congrArg Array.toList Tryd.results91) (by simp) ?_
    repeat (first|((first|(with_reducible (first|refine Qa fun K E hK hE=>?_|refine Qz c ?_|refine Qz ci ?_)));simp -implicitDefEqProofs only [Qc,Qd,OpW,QE,aop,undef,AS.ev,Qq,↓reduceIte,aBin,Qaj,aLen,goInt,ei9,d0,hsl,m1,hix,ha',f0,hsf',seval])|(with_reducible (first|refine Qf fun K hK=>?_|refine Ql ?_|refine Qm ?_|refine Qb ?_))|((with_reducible refine hK _ ?_);clear hK)|(refine Qh rfl ?_;simp only [↓reduceIte,Qq3]))
    simp only [QF,Qn,Qr,upd,↓reduceIte,Qq5,Qq9];first|refine Qi (htake _ _) (.keep (.v _)) ⟨by rw [hi],rfl⟩|refine Qi List.take_length (.keep (.v _)) ⟨by rw [hi],rfl⟩
   ·rw [if_neg hc] at ha'
    refine Qe Tryd.func91 rfl Tryd.call91 Tryd.ntmps91 (congrArg Array.toList Tryd.results91) (by simp) ?_
    repeat (first|((first|(with_reducible (first|refine Qa fun K E hK hE=>?_|refine Qz c ?_)));simp -implicitDefEqProofs only [Qc,Qd,OpW,QE,aop,undef,AS.ev,Qq,↓reduceIte,aBin,aLen,goInt,d0,hsl,m1,hix,ha',seval])|(with_reducible (first|refine Qf fun K hK=>?_|refine Ql ?_|refine Qu ?_))|((with_reducible refine hK _ ?_);clear hK)|(refine Qh rfl ?_;simp only [↓reduceIte]))
    simp only [QF,Qn,Qr,upd,↓reduceIte,Qq5,Qq9];first|refine Qi (htake _ _) (.keep (.v _)) ⟨by rw [decide_eq_false (fun h=>hc h.2.2.1)],rfl⟩|refine Qi List.take_length (.keep (.v _)) ⟨by rw [decide_eq_false (fun h=>hc h.2.2.1)],rfl⟩
  ·have m1:((s.size:Int)>40):=by omega
   refine Qe Tryd.func91 rfl Tryd.call91 Tryd.ntmps91 (congrArg Array.toList Tryd.results91) (by simp) ?_
   repeat (first|(((with_reducible refine Qa fun K E hK hE=>?_));simp -implicitDefEqProofs only [Qc,Qd,OpW,aop,undef,AS.ev,Qq,↓reduceIte,aBin,aLen,goInt,d0,hsl,m1,seval])|(with_reducible (first|refine Qf fun K hK=>?_|refine Ql ?_|refine Qu ?_))|((with_reducible refine hK _ ?_);clear hK)|(refine Qh rfl ?_;simp only [↓reduceIte]))
   simp only [QF,Qn,Qr,upd,↓reduceIte,Qq5,Qq9];first|refine Qi (htake _ _) (.keep (.v _)) ⟨by rw [decide_eq_false (fun h=>by have:=h.2.1;omega)],rfl⟩|refine Qi List.take_length (.keep (.v _)) ⟨by rw [decide_eq_false (fun h=>by have:=h.2.1;omega)],rfl⟩
end Go.Proofs.YticgcpebdldbgaaDoor.Ab
namespace Go.Proofs
open Go.Shelf
def Tryd.Qqt:Go.Shelf.Ren:=⟨fun|144=>87|143=>95|219=>104|217=>107|225=>108|224=>109|267=>110|266=>111|314=>112|n=>n,fun|9=>9|4=>4|3=>3|5=>5|46=>36|146=>145|51=>144|n=>n,fun|1=>1|n=>n⟩
theorem Tryd.lays144:Go.Proofs.Lays.n144 Tryd.prog Tryd.Qqt:={
 mixed:=by kernel_rfl
 f143:=Tryd.func95.trans (congrArg some (by kernel_rfl))
 f144:=Tryd.func87.trans (congrArg some (by kernel_rfl))
 f217:=Tryd.func107.trans (congrArg some (by kernel_rfl))
 f219:=Tryd.func104.trans (congrArg some (by kernel_rfl))
 f224:=Tryd.func109.trans (congrArg some (by kernel_rfl))
 f225:=Tryd.func108.trans (congrArg some (by kernel_rfl))
 f266:=Tryd.func111.trans (congrArg some (by kernel_rfl))
 f267:=Tryd.func110.trans (congrArg some (by kernel_rfl))
 f314:=Tryd.func112.trans (congrArg some (by kernel_rfl))
 t3:=Tryd.underlying3
 a3:=Tryd.isAgg3
 z3:=Tryd.sizeOf3
 v3:=Tryd.zeroValue3
 t4:=Tryd.underlying4
 a4:=Tryd.isAgg4
 z4:=Tryd.sizeOf4
 v4:=Tryd.zeroValue4
 t5:=Tryd.underlying5
 a5:=Tryd.isAgg5
 z5:=Tryd.sizeOf5
 v5:=Tryd.zeroValue5
 t9:=Tryd.underlying9
 a9:=Tryd.isAgg9
 z9:=Tryd.sizeOf9
 v9:=Tryd.zeroValue9
 t46:=Tryd.underlying36
 a46:=Tryd.isAgg36
 z46:=Tryd.sizeOf36
 v46:=Tryd.zeroValue36
 t51:=Tryd.underlying144
 a51:=Tryd.isAgg144
 z51:=Tryd.sizeOf144
 v51:=Tryd.zeroValue144
 t146:=Tryd.underlying145
 a146:=Tryd.isAgg145
 z146:=Tryd.sizeOf145
 v146:=Tryd.zeroValue145
 g1:=by kernel_rfl}
theorem Tryd.strings_Contains_one (s:ByteArray) (c:UInt8) (w:World) :
  Calls Tryd.prog 87 #[.string s,.string ⟨#[c]⟩] w fun e w'=>e = .returned (.bool (decide (0≤Lib.indexByte s.data.toList c)))∧w'=w:=Any.strings_Contains_one Tryd.lays144 s c w
end Go.Proofs
namespace Go.Proofs.YticgcpebdldbgaaDoor.Ab
theorem YN {P:Program} {N:Nat} {base:Bs×Fence} {ops:Array Oper} {F:Fence} {n:Nat} (hF:WF F) {Qx:Exit→Act→World→Prop} {KK:Act→World→Prop} {tr:List Tr} {tm0:Nat→AV} {h0:AH} {A:Nat→Nat→Prop} (hruns:Runs P N ops tr tm0 h0)
  (hpw:tr.Pairwise (fun a b=>clash ops a.o b.o a.c b.c=true→A a.i b.i)) (hnd:(tr.map (·.i)).Nodup) (hkind:∀ t∈tr,kindOk t.o t.c=true)
  {listed:Array Bool} {c:Cx} {a:Act} {i:Nat} {t:Tr} (hi:i∈Region.ready .any ops listed) (ht:t∈tr) (hti:t.i=i) (hsz:listed.size=ops.size)
  (hA:∀ i j,A i j→listed.getD j false=true→listed.getD i false=true) (hA':∀ i' j,A i' j→(listed.setIfInBounds i true).getD j false=true→(listed.setIfInBounds i true).getD i' false=true)
  (hst:St c) (hr:SR N base c ⟨tmS N (fun i=>listed.getD i false) tr tm0,hS (fun i=>listed.getD i false) tr h0⟩ a)
  (hnext:∀ c' a',Ev c c'→St c'→SR N base c' ⟨tmS N (fun j=>(listed.setIfInBounds i true).getD j false) tr tm0,hS (fun j=>(listed.setIfInBounds i true).getD j false) tr h0⟩ a'→KK a' c'.w) :
  wpOpIn F n P ops Qx i KK a c.w:=by
 obtain ⟨h1,o,ho,hedge⟩:=mem_ready.1 hi
 have hlt:i<ops.size:=(Array.getElem?_eq_some_iff.1 ho).1
 have hSi:listed.getD i false=false:=by
  rw [Array.getD_eq_getD_getElem?,Array.getElem?_eq_getElem (by omega)] at h1 ⊢
  simpa using h1
 subst hti
 obtain ⟨pre,post,htr⟩:=List.append_of_mem ht
 have hto:t.o=o:=by
  have:=Qab hruns t ht
  rw [ho] at this;cases this;rfl
 subst hto
 -- the set with it
 have hS':∀ j,(listed.setIfInBounds t.i true).getD j false=(decide (j=t.i)||listed.getD j false):=fun j=>Yd (by omega)
 have hanc:∀ j,A j t.i→j≠t.i→listed.getD j false=true:=fun j hj hne=>by
  have h2:(listed.setIfInBounds t.i true).getD j false=true:=hA' _ _ hj (by rw [hS'];simp)
  rw [hS'] at h2
  simpa [hne] using h2
 have hnot:∀ j,A t.i j→listed.getD j false=false:=fun j hj=>by
  cases hb:listed.getD j false with
  |false=>rfl
  |true=>have:=hA _ _ hj hb;rw [hSi] at this;cases this
 -- the others
 have hne:∀ b,b∈pre∨b∈post→b.i≠t.i:=by
  rw [htr] at hnd
  simp only [List.map_append,Qre] at hnd
  obtain ⟨n1,n2,n3⟩:=List.nodup_append.1 hnd
  intro b hb e
  rcases hb with hb|hb
  ·exact n3 b.i (List.mem_map.2 ⟨b,hb,rfl⟩) t.i (by simp) e
  ·exact (List.nodup_cons.1 n2).1 (List.mem_map.2 ⟨b,hb,e⟩)
 rw [htr] at hpw
 obtain ⟨p1,p2,p3⟩:=List.pairwise_append.1 hpw
 obtain ⟨p4,p5⟩:=List.pairwise_cons.1 p2
 have hpre:∀ b∈pre,clash ops b.o t.o b.c t.c=true→listed.getD b.i false=true:=fun b hb hcl=>hanc _ (p3 b hb t (by simp) hcl) (hne b (.inl hb))
 have hpost:∀ b∈post,clash ops t.o b.o t.c b.c=true→listed.getD b.i false=false:=fun b hb hcl=>hnot _ (p4 b hb hcl)
 have hsame:∀ b,b∈pre∨b∈post→(listed.setIfInBounds t.i true).getD b.i false=listed.getD b.i false:=fun b hb=>by
  rw [hS'];simp [hne b hb]
 -- what it looks at
 have hsplit:=hruns
 rw [htr] at hsplit
 have hs2:=Runs.split hsplit
 have hstep:StepA P ops (tmS N (fun _=>true) pre tm0) (hS (fun _=>true) pre h0) t.c t.o t.r t.h':=by cases hs2 with|cons _ _ _ _ _ _ hs _=>exact hs
 have hk:kindOk t.o t.c=true:=hkind t ht
 have hreads:∀ x∈readsOf ops t.o,tmS N (fun i=>listed.getD i false) tr tm0 x=tmS N (fun _=>true) pre tm0 x:=by
  intro x hx
  rw [htr,XQ,XO]
  ·refine ZC rfl fun b hb hbd=>hpre b hb ?_
   unfold clash;rw [hbd];simp [hx]
  ·intro b hb hbS hbd
   rcases List.mem_cons.1 hb with rfl|hb
   ·rw [hSi] at hbS;cases hbS
   ·rw [hpost b hb (by unfold clash;rw [hbd];simp [hx])] at hbS;cases hbS
 have hclash2:∀ b∈pre,2≤b.c→t.c≠1→listed.getD b.i false=true:=fun b hb h2 ht1=>hpre b hb (by unfold clash;simp [h2,ht1])
 have hheapPre:t.c≠1→hS (fun i=>listed.getD i false) pre h0=hS (fun _=>true) pre h0:=fun ht1=>Qag fun b hb h2=>hclash2 b hb h2 ht1
 have hh:(2≤t.c∧hS (fun i=>listed.getD i false) tr h0=hS (fun _=>true) pre h0)∨(t.c<2∧(t.c=1∨Keep (hS (fun _=>true) pre h0) (hS (fun i=>listed.getD i false) tr h0))):=by
  by_cases hc2:2≤t.c
  ·refine .inl ⟨hc2,?_⟩
   rw [htr,Ym,Ys,hheapPre (by omega)]
   intro b hb hbc
   rcases List.mem_cons.1 hb with rfl|hb
   ·exact hSi
   ·have h1:b.c≠1:=by omega
    exact hpost b hb (by unfold clash;simp [hc2,h1])
  ·refine .inr ⟨by omega,?_⟩
   by_cases hc1:t.c=1
   ·exact .inl hc1
   ·refine .inr ?_
    rw [htr,Ym,hheapPre hc1]
    refine Runs.keep hs2 ?_ ?_
    ·intro b hb hbc hbS
     rcases List.mem_cons.1 hb with rfl|hb
     ·exact (hc2 hbc).elim
     ·cases hadd:((QbX b.o.op&&b.c != 4)||b.c==3) with
      |true=>rfl
      |false =>
       rw [hpost b hb (by unfold clash;rw [hadd];simp [hc1,hc2,hbc])] at hbS;cases hbS
    ·refine p2.imp ?_
     intro x y hxy hx hy hyS
     have h1:y.c≠1:=by omega
     exact hA _ _ (hxy (by unfold clash;simp [hx,h1])) hyS
 -- the state behind it
 have hpreS:tmS N (fun i=>(listed.setIfInBounds t.i true).getD i false) pre tm0=tmS N (fun i=>listed.getD i false) pre tm0:=funext fun x=>ZC rfl fun b hb _=>hsame b (.inl hb)
 have hpreH:hS (fun i=>(listed.setIfInBounds t.i true).getD i false) pre h0=hS (fun i=>listed.getD i false) pre h0:=Qag fun b hb _=>hsame b (.inl hb)
 have hSt:(listed.setIfInBounds t.i true).getD t.i false=true:=by rw [hS'];simp
 have hstm:tmS N (fun i=>(listed.setIfInBounds t.i true).getD i false) tr tm0=putT N (tmS N (fun i=>listed.getD i false) tr tm0) t.o.dst t.r:=by
  funext x
  rw [htr,XQ,XQ,hpreS]
  simp only [tmS,hSt,hSi,if_true,Qq3,if_false]
  by_cases hdx:t.o.dst=some x
  ·have hskip:∀ b∈post,b.o.dst=some x→listed.getD b.i false=false:=fun b hb hbd=>hpost b hb (by unfold clash;rw [hdx,hbd];simp)
   rw [XO (fun b hb hbS hbd=>by rw [hsame b (.inr hb),hskip b hb hbd] at hbS;cases hbS)]
   have e:=XO (N:=N) (S:=fun i=>listed.getD i false) (x:=x) (l:=post) (f:=tmS N (fun i=>listed.getD i false) pre tm0) (fun b hb hbS hbd=>by rw [hskip b hb hbd] at hbS;cases hbS)
   exact QcS (fun _=>e.symm) (.inl e.symm)
  ·rw [QcT hdx]
   exact ZC (QcT hdx) fun b hb _=>hsame b (.inr hb)
 have hshp:hS (fun i=>(listed.setIfInBounds t.i true).getD i false) tr h0=if 2≤t.c then t.h' else hS (fun i=>listed.getD i false) tr h0:=by
  rw [htr,Ym,Ym,hpreH]
  simp only [hS,hSt,hSi,QrJ,Bool.false_and,Qq3,if_false,decide_eq_true_eq]
  by_cases hc2:2≤t.c
  ·rw [if_pos hc2,if_pos hc2]
   refine Ys fun b hb hbc=>?_
   rw [hsame b (.inr hb)]
   have h1:b.c≠1:=by omega
   exact hpost b hb (by unfold clash;simp [hc2,h1])
  ·rw [if_neg hc2,if_neg hc2]
   exact Qag fun b hb _=>hsame b (.inr hb)
 have next:∀ c' a',Ev c c'→St c'→SR N base c' (AS.put N ⟨tmS N (fun i=>listed.getD i false) tr tm0,if 2≤t.c then t.h' else hS (fun i=>listed.getD i false) tr h0⟩ t.o.dst t.r) a' →
   KK a' c'.w:=by
  intro c' a' hev hst' hr'
  rw [put_eq,← hstm,← hshp] at hr'
  exact hnext c' a' hev hst' hr'
 unfold wpOpIn
 simp only [ho]
 rcases hstep.turn hk hreads hh N with ⟨hw,hru,hhe⟩|⟨hw,hop|hop⟩
 ·rw [Xd hr hw]
  simp only [Qq3,if_false]
  refine ⟨fun f _=>hF.fn f,?_⟩
  have hr':=hr.put hst (Ev.refl c) t.o.dst (.v undef)
  rw [hr.h] at hr'
  refine next c _ (Ev.refl c) hst ?_
  rw [hhe,hru]
  exact hr'
 ·rw [Xd hr hw]
  simp only [if_true]
  refine Qbd (hop (fun s'=>s'=AS.put N ⟨tmS N (fun i=>listed.getD i false) tr tm0,if 2≤t.c then t.h' else hS (fun i=>listed.getD i false) tr h0⟩ t.o.dst t.r) (fun _ _=>False) rfl) hF hst hr ?_ ?_
  ·intro s' c' a' hs hev hst' hr'
   subst hs
   exact next c' a' hev hst' hr'
  ·intro r s' c' x hf
   exact hf.elim
 ·rw [Xd hr hw]
  simp only [if_true]
  refine QfK (K:=fun s'=>s'=AS.put N ⟨tmS N (fun i=>listed.getD i false) tr tm0,if 2≤t.c then t.h' else hS (fun i=>listed.getD i false) tr h0⟩ t.o.dst t.r) hop rfl hF hst hr ?_
  intro s' c' a' hs hev hst' hr'
  subst hs
  exact next c' a' hev hst' hr'
def AncX (ops:Array Oper) (x y i j:Nat):Prop:=Anc ops i j∨((i=x∨Anc ops i x)∧(j=y∨Anc ops y j))
theorem AncX.good {ops:Array Oper} {x y:Nat} {S:Nat→Bool} (hd:Down ops S) (hxy:S y=true→S x=true) {i j:Nat} (h:AncX ops x y i j) (hj:S j=true):S i=true:=by
 rcases h with h|⟨h1,h2⟩
 ·exact hd.anc h hj
 ·have hy:S y=true:=by
   rcases h2 with rfl|h2
   ·exact hj
   ·exact hd.anc h2 hj
  rcases h1 with rfl|h1
  ·exact hxy hy
  ·exact hd.anc h1 (hxy hy)
def QcC (ms:List Nat) (x y i j:Nat):Bool:=(ms.getD j 0).testBit i||((i==x||(ms.getD x 0).testBit i)&&(j==y||(ms.getD j 0).testBit y))
def Qje (ops:Array Oper) (ms:List Nat) (x y:Nat):List (Nat×Nat)→Bool
 |[]=>true
 |(i,ci)::l=>(l.all fun p=>match ops[i]?,ops[p.1]? with
   |some a,some b=>!clash ops a b ci p.2||QcC ms x y i p.1
   |_,_=>false)&&Qje ops ms x y l
theorem Qek {ops:Array Oper} {ms:List Nat} {x y:Nat} (hm:∀ (k i:Nat),(ms.getD k 0).testBit i=true→Anc ops i k):∀ (tr:List Tr),Qje ops ms x y (tr.map fun t=>(t.i,t.c))=true→(∀ t∈tr,ops[t.i]? = some t.o) →
  tr.Pairwise (fun a b=>clash ops a.o b.o a.c b.c=true→AncX ops x y a.i b.i)
 |[],_,_=>.nil
 |t::l,h,ho=>by
  simp only [Qre,Qje,Bool.and_eq_true,List.all_eq_true] at h
  refine List.pairwise_cons.2 ⟨fun b hb hc=>?_,Qek hm l h.2 fun t ht=>ho t (by simp [ht])⟩
  have:=h.1 (b.i,b.c) (List.mem_map.2 ⟨b,hb,rfl⟩)
  simp only [ho t (by simp),ho b (by simp [hb]),hc,Qrm,Bool.false_or,QcC,Bool.or_eq_true,Bool.and_eq_true,beq_iff_eq] at this
  rcases this with h1|⟨h1,h2⟩
  ·exact .inl (hm _ _ h1)
  ·exact .inr ⟨h1.imp id (hm _ _),h2.imp id (hm _ _)⟩
def okX (ops:Array Oper) (x y:Nat) (π:List (Nat×Nat)):Bool :=
 π.length==ops.size&&Qje ops (masks ops.toList []) x y π&&topo ops [] π&&Qhl (π.map (·.1))&&((List.range ops.size).all fun i=>(π.map (·.1)).contains i) &&
 π.all fun p=>match ops[p.1]? with|some o=>kindOk o p.2|none=>false
structure FitX (ops:Array Oper) (x y:Nat) (tr:List Tr):Prop where
 len:tr.length=ops.size
 pairs:tr.Pairwise (fun a b=>clash ops a.o b.o a.c b.c=true→AncX ops x y a.i b.i)
 topo:topo ops [] (tr.map fun t=>(t.i,t.c))=true
 nodup:(tr.map (·.i)).Nodup
 all:∀ i,i<ops.size→∃ t∈tr,t.i=i
 kind:∀ t∈tr,kindOk t.o t.c=true
theorem QdB {P:Program} {N:Nat} {ops:Array Oper} {x y:Nat} {tr:List Tr} {tm:Nat→AV} {h:AH} (hruns:Runs P N ops tr tm h) (hok:okX ops x y (tr.map fun t=>(t.i,t.c))=true):FitX ops x y tr:=by
 simp only [okX,Bool.and_eq_true] at hok
 obtain ⟨⟨⟨⟨⟨hp0,hp1⟩,hp2⟩,hp3⟩,hp4⟩,hp5⟩:=hok
 have hops:=Qab hruns
 refine ⟨by have:=beq_iff_eq.1 hp0;simpa using this,Qek (YU ops.toList [] (fun j o h=>by simpa using h) (fun k i h=>by simp at h)) tr hp1 hops,hp2,?_,?_,?_⟩
 ·have:=ZT hp3
  rw [List.map_map] at this
  exact this
 ·intro i hi
  have:=List.all_eq_true.1 hp4 i (List.mem_range.2 hi)
  have:i∈(tr.map fun t=>(t.i,t.c)).map (·.1):=by simpa using this
  rw [List.map_map] at this
  obtain ⟨t,ht,rfl⟩:=List.mem_map.1 this
  exact ⟨t,ht,rfl⟩
 ·intro t ht
  have:=List.all_eq_true.1 hp5 (t.i,t.c) (List.mem_map.2 ⟨t,ht,rfl⟩)
  simpa [hops t ht] using this
theorem ZF {ops:Array Oper} {listed:Array Bool} {i:Nat} (hsz:listed.size=ops.size) (hd:Down ops (fun j=>listed.getD j false)) (hi:i∈Region.ready .any ops listed):Down ops (fun j=>(listed.setIfInBounds i true).getD j false):=by
 obtain ⟨h1,o,ho,hedge⟩:=mem_ready.1 hi
 have hlt:i<ops.size:=(Array.getElem?_eq_some_iff.1 ho).1
 have hS':∀ j,(listed.setIfInBounds i true).getD j false=(decide (j=i)||listed.getD j false):=fun j=>Yd (by omega)
 intro j oj hoj hj e he hb
 dsimp only at hj ⊢
 rw [hS'] at hj ⊢
 by_cases hji:j=i
 ·subst hji
  rw [ho] at hoj;cases hoj
  rw [hedge e he hb];simp
 ·have:listed.getD j false=true:=by simpa [hji] using hj
  have h2:listed.getD e.on false=true:=hd j oj hoj this e he hb
  rw [h2];simp
theorem Xo {ops:Array Oper} {listed:Array Bool} {i fuel:Nat} {tr:List Tr} (hsz:listed.size=ops.size) (hall:∃ t∈tr,t.i=i) (hi:i∈Region.ready .any ops listed) (hc:tr.countP (fun t=>!listed.getD t.i false)≤fuel+1) :
  tr.countP (fun u=>!(listed.setIfInBounds i true).getD u.i false)≤fuel:=by
 obtain ⟨h1,o,ho,_⟩:=mem_ready.1 hi
 have hlt:i<ops.size:=(Array.getElem?_eq_some_iff.1 ho).1
 have hS':∀ j,(listed.setIfInBounds i true).getD j false=(decide (j=i)||listed.getD j false):=fun j=>Yd (by omega)
 have hSi:listed.getD i false=false:=by
  rw [Array.getD_eq_getD_getElem?,Array.getElem?_eq_getElem (by omega)] at h1 ⊢
  simpa using h1
 obtain ⟨t,ht,rfl⟩:=hall
 obtain ⟨pre,post,rfl⟩:=List.append_of_mem ht
 have le:∀ l:List Tr,l.countP (fun u=>!(listed.setIfInBounds t.i true).getD u.i false)≤l.countP (fun u=>!listed.getD u.i false):=fun l =>
  List.countP_mono_left fun u _ hu=>by rw [hS'] at hu;revert hu;cases listed.getD u.i false <;> simp
 have l1:=le pre
 have l2:=le post
 simp only [List.countP_append,List.countP_cons,hS' t.i,hSi,Qrv,Bool.true_or,Qrm,Qrn,Qq3,if_false,if_true] at hc ⊢
 omega
theorem YC {N:Nat} {base:Bs×Fence} {Qx:Exit→Act→World→Prop} {tr:List Tr} {tm0:Nat→AV} {h0:AH} {listed:Array Bool} {c:Cx} {a:Act} (hst:St c)
  (hr:SR N base c ⟨tmS N (fun i=>listed.getD i false) tr tm0,hS (fun i=>listed.getD i false) tr h0⟩ a)
  (hQ:∀ c' a',Ev c c'→St c'→SR N base c' ⟨tmS N (fun _=>true) tr tm0,hS (fun _=>true) tr h0⟩ a'→Qx .normal a' c'.w) (hl:∀ t∈tr,listed.getD t.i false=true):Qx .normal a c.w:=by
 refine hQ c a (Ev.refl c) hst ?_
 have e1:tmS N (fun i=>listed.getD i false) tr tm0=tmS N (fun _=>true) tr tm0:=funext fun x=>ZC rfl fun t ht _=>hl t ht
 have e2:hS (fun i=>listed.getD i false) tr h0=hS (fun _=>true) tr h0:=Qag fun t ht _=>hl t ht
 rw [e1,e2] at hr
 exact hr
theorem any_zero {ops:Array Oper} {listed:Array Bool} {tr:List Tr} (hsz:listed.size=ops.size) (hall:∀ i,i<ops.size→∃ t∈tr,t.i=i) (hl:∀ t∈tr,listed.getD t.i false=true):Region.ready .any ops listed=[]:=by
 cases hrd:Region.ready .any ops listed with
 |nil=>rfl
 |cons i l =>
  have hi:i∈Region.ready .any ops listed:=by rw [hrd];simp
  obtain ⟨h1,o,ho,_⟩:=mem_ready.1 hi
  have hlt:i<ops.size:=(Array.getElem?_eq_some_iff.1 ho).1
  obtain ⟨t,ht,rfl⟩:=hall i hlt
  have:=hl t ht
  rw [Array.getD_eq_getD_getElem?,Array.getElem?_eq_getElem (by omega)] at this h1
  simp only [Option.getD_some] at this h1
  rw [this] at h1;cases h1
theorem QbU {P:Program} {N:Nat} {base:Bs×Fence} {ops:Array Oper} {F:Fence} {n:Nat} (hF:WF F) {Qx:Exit→Act→World→Prop} {x y:Nat} {tr:List Tr} {tm0:Nat→AV} {h0:AH} (hruns:Runs P N ops tr tm0 h0) (hfit:FitX ops x y tr) :
  ∀ (fuel:Nat) (listed:Array Bool) (c:Cx) (a:Act),listed.size=ops.size→Down ops (fun i=>listed.getD i false)→listed.getD x false=true→St c→SR N base c ⟨tmS N (fun i=>listed.getD i false) tr tm0,hS (fun i=>listed.getD i false) tr h0⟩ a →
   tr.countP (fun t=>!listed.getD t.i false)≤fuel →
   (∀ c' a',Ev c c'→St c'→SR N base c' ⟨tmS N (fun _=>true) tr tm0,hS (fun _=>true) tr h0⟩ a'→Qx .normal a' c'.w)→wpAnyIn F n P .any ops Qx fuel listed a c.w:=by
 intro fuel
 induction fuel with
 |zero =>
  intro listed c a hsz hd hx hst hr hc hQ
  have hl:∀ t∈tr,listed.getD t.i false=true:=fun t ht=>by
   have:=List.countP_eq_zero.1 (Nat.le_zero.1 hc) t ht
   simpa using this
  exact ⟨any_zero hsz hfit.all hl,YC hst hr hQ hl⟩
 |succ fuel ih =>
  intro listed c a hsz hd hx hst hr hc hQ
  refine ⟨fun h=>YC hst hr hQ fun t ht=>ZD hsz h _ [] hfit.topo (fun i hi=>by cases hi) (t.i,t.c) (List.mem_map.2 ⟨t,ht,rfl⟩),fun i hi=>?_⟩
  have hi':=hi
  obtain ⟨h1,o,ho,_⟩:=mem_ready.1 hi'
  have hlt:i<ops.size:=(Array.getElem?_eq_some_iff.1 ho).1
  obtain ⟨t,ht,hti⟩:=hfit.all i hlt
  have hd':=ZF hsz hd hi
  have hx':(listed.setIfInBounds i true).getD x false=true:=by rw [Yd (by omega),hx];simp
  exact YN hF hruns hfit.pairs hfit.nodup hfit.kind hi ht hti hsz (fun i j h hj=>AncX.good hd (fun _=>hx) h hj) (fun i j h hj=>AncX.good hd' (fun _=>hx') h hj) hst hr fun c' a' hev hst' hr' =>
   ih _ c' a' (by simpa using hsz) hd' hx' hst' hr' (Xo hsz ⟨t,ht,hti⟩ hi hc) fun c2 a2 e2 s2 r2=>hQ c2 a2 (Ev.trans hst hev e2) s2 r2
theorem Qmy {P:Program} {N:Nat} {base:Bs×Fence} {ops:Array Oper} {F:Fence} {n:Nat} (hF:WF F) {Qx:Exit→Act→World→Prop} {x y:Nat} (hxy:x≠y) {ρ t1 t2:List Tr} {tm0:Nat→AV} {h0:AH} (hr1:Runs P N ops (ρ++t1) tm0 h0) (hr2:Runs P N ops (ρ++t2) tm0 h0)
  (hf1:FitX ops x y (ρ++t1)) (hf2:FitX ops y x (ρ++t2)) (hn1:∀ t∈t1,∀ S:Nat→Bool,Down ops S→S x=false→S y=false→S t.i=false) (hn2:∀ t∈t2,∀ S:Nat→Bool,Down ops S→S x=false→S y=false→S t.i=false) :
  ∀ (fuel:Nat) (listed:Array Bool) (c:Cx) (a:Act),listed.size=ops.size→Down ops (fun i=>listed.getD i false)→listed.getD x false=false→listed.getD y false=false→St c →
   SR N base c ⟨tmS N (fun i=>listed.getD i false) (ρ++t1) tm0,hS (fun i=>listed.getD i false) (ρ++t1) h0⟩ a→(ρ++t1).countP (fun t=>!listed.getD t.i false)≤fuel→(ρ++t2).countP (fun t=>!listed.getD t.i false)≤fuel →
   (∀ c' a',Ev c c'→St c'→SR N base c' ⟨tmS N (fun _=>true) (ρ++t1) tm0,hS (fun _=>true) (ρ++t1) h0⟩ a'→Qx .normal a' c'.w) →
   (∀ c' a',Ev c c'→St c'→SR N base c' ⟨tmS N (fun _=>true) (ρ++t2) tm0,hS (fun _=>true) (ρ++t2) h0⟩ a'→Qx .normal a' c'.w)→wpAnyIn F n P .any ops Qx fuel listed a c.w:=by
 intro fuel
 induction fuel with
 |zero =>
  intro listed c a hsz hd hx hy hst hr hc hc2 hQ hQ2
  have hl:∀ t∈ρ++t1,listed.getD t.i false=true:=fun t ht=>by
   have:=List.countP_eq_zero.1 (Nat.le_zero.1 hc) t ht
   simpa using this
  exact ⟨any_zero hsz hf1.all hl,YC hst hr hQ hl⟩
 |succ fuel ih =>
  intro listed c a hsz hd hx hy hst hr hc hc2 hQ hQ2
  refine ⟨fun h=>YC hst hr hQ fun t ht=>ZD hsz h _ [] hf1.topo (fun i hi=>by cases hi) (t.i,t.c) (List.mem_map.2 ⟨t,ht,rfl⟩),fun i hi=>?_⟩
  have hi':=hi
  obtain ⟨h1,o,ho,_⟩:=mem_ready.1 hi'
  have hlt:i<ops.size:=(Array.getElem?_eq_some_iff.1 ho).1
  have hd':=ZF hsz hd hi
  have hset:∀ j,(listed.setIfInBounds i true).getD j false=(decide (j=i)||listed.getD j false):=fun j=>Yd (by omega)
  by_cases hiy:i=y
  ·-- the second order
   subst hiy
   obtain ⟨t,ht,hti⟩:=hf2.all i hlt
   have skip1:tmS N (fun i=>listed.getD i false) (ρ++t1) tm0=tmS N (fun i=>listed.getD i false) (ρ++t2) tm0:=by
    funext z
    have k1:∀ t∈t1,listed.getD t.i false=true→t.o.dst≠some z:=fun t ht hs _=>by
     have:=hn1 t ht _ hd hx hy
     rw [hs] at this;cases this
    have k2:∀ t∈t2,listed.getD t.i false=true→t.o.dst≠some z:=fun t ht hs _=>by
     have:=hn2 t ht _ hd hx hy
     rw [hs] at this;cases this
    rw [XQ,XQ,XO (S:=fun i=>listed.getD i false) k1,XO (S:=fun i=>listed.getD i false) k2]
   have skip2:hS (fun i=>listed.getD i false) (ρ++t1) h0=hS (fun i=>listed.getD i false) (ρ++t2) h0:=by
    rw [Ym,Ym,Ys (S:=fun i=>listed.getD i false) fun t ht _=>hn1 t ht _ hd hx hy,Ys (S:=fun i=>listed.getD i false) fun t ht _=>hn2 t ht _ hd hx hy]
   rw [skip1,skip2] at hr
   have hy':(listed.setIfInBounds i true).getD i false=true:=by rw [hset];simp
   exact YN hF hr2 hf2.pairs hf2.nodup hf2.kind hi ht hti hsz (fun j k h hk=>AncX.good hd (fun hxx=>by rw [hx] at hxx;cases hxx) h hk) (fun j k h hk=>AncX.good hd' (fun _=>hy') h hk) hst hr fun c' a' hev hst' hr' =>
    QbU hF hr2 hf2 fuel _ c' a' (by simpa using hsz) hd' hy' hst' hr' (Xo hsz ⟨t,ht,hti⟩ hi hc2) fun c2 a2 e2 s2 r2=>hQ2 c2 a2 (Ev.trans hst hev e2) s2 r2
  ·obtain ⟨t,ht,hti⟩:=hf1.all i hlt
   have hy':(listed.setIfInBounds i true).getD y false=false:=by rw [hset,hy];simp;exact fun h=>hiy h.symm
   refine YN hF hr1 hf1.pairs hf1.nodup hf1.kind hi ht hti hsz (fun j k h hk=>AncX.good hd (fun hyy=>by rw [hy] at hyy;cases hyy) h hk) (fun j k h hk=>AncX.good hd' (fun hyy=>by have hyy2:(listed.setIfInBounds i true).getD y false=true:=hyy;rw [hy'] at hyy2;cases hyy2) h hk) hst hr fun c' a' hev hst' hr'=>?_
   by_cases hix:i=x
   ·subst hix
    have hx':(listed.setIfInBounds i true).getD i false=true:=by rw [hset];simp
    exact QbU hF hr1 hf1 fuel _ c' a' (by simpa using hsz) hd' hx' hst' hr' (Xo hsz ⟨t,ht,hti⟩ hi hc) fun c2 a2 e2 s2 r2=>hQ c2 a2 (Ev.trans hst hev e2) s2 r2
   ·have hx':(listed.setIfInBounds i true).getD x false=false:=by rw [hset,hx];simp;exact fun h=>hix h.symm
    exact ih _ c' a' (by simpa using hsz) hd' hx' hy' hst' hr' (Xo hsz ⟨t,ht,hti⟩ hi hc) (Xo hsz (hf2.all i hlt) hi hc2) (fun c2 a2 e2 s2 r2=>hQ c2 a2 (Ev.trans hst hev e2) s2 r2) fun c2 a2 e2 s2 r2=>hQ2 c2 a2 (Ev.trans hst hev e2) s2 r2
theorem Runs.append {P:Program} {N:Nat} {ops:Array Oper}:∀ {l m:List Tr} {tm:Nat→AV} {h:AH},Runs P N ops l tm h→Runs P N ops m (tmS N (fun _=>true) l tm) (hS (fun _=>true) l h)→Runs P N ops (l++m) tm h
 |[],m,tm,h,_,H=>H
 |t::l,m,tm,h,H,H2=>by
  cases H with
  |cons t l tm h ho hk hs hl =>
   refine .cons t (l++m) tm h ho hk hs (Runs.append hl ?_)
   simpa only [tmS,hS,if_true,QrJ,decide_eq_true_eq] using H2
def behind (ops:Array Oper) (x y i:Nat):Bool:=i==x||i==y||((masks ops.toList []).getD i 0).testBit x||((masks ops.toList []).getD i 0).testBit y
def Qah (ops:Array Oper) (π:List (Nat×Nat)):Bool:=π.all fun p=>match ops[p.1]? with|some o=>kindOk o p.2|none=>false
theorem Qdm {P:Program} {N:Nat} {Q:AExit→AS→Prop} {s:AS} {id:Nat} {ops:Array Oper} (x y:Nat) (ρ σ1 σ2:List (Nat×Nat)) (hm:P.follows .mixedOrders=true) (hxy:(x==y)=false)
  (hok1:okX ops x y (ρ++σ1)=true) (hok2:okX ops y x (ρ++σ2)=true) (hb:((σ1++σ2).all fun p=>behind ops x y p.1)=true) (hk:Qah ops ρ=true) (hk1:Qah ops σ1=true) (hk2:Qah ops σ2=true)
  (H:∀ (K:AS→Prop),(∀ s,Q .normal s→K s)→AnyW P N ops ρ (fun s=>AnyW P N ops σ1 K s∧AnyW P N ops σ2 K s) s):XF P N (.region id ops true) Q s:=by
 intro F n base c a hF hst hr R hR
 refine wpIn_region_any hm ?_
 obtain ⟨tm,hp⟩:=s
 obtain ⟨ρ',rfl,hρ,hK1,hK2⟩:=Yg (H _ (fun s h=>h)) hk
 obtain ⟨t1,rfl,hr1,hQ1⟩:=Yg hK1 hk1
 obtain ⟨t2,rfl,hr2,hQ2⟩:=Yg hK2 hk2
 have hruns1:=hρ.append hr1
 have hruns2:=hρ.append hr2
 rw [← List.map_append] at hok1 hok2
 have hf1:=QdB hruns1 hok1
 have hf2:=QdB hruns2 hok2
 have hm':∀ (k i:Nat),((masks ops.toList []).getD k 0).testBit i=true→Anc ops i k:=YU ops.toList [] (fun j o h=>by simpa using h) (fun k i h=>by simp at h)
 have hbeh:∀ i,behind ops x y i=true→∀ S:Nat→Bool,Down ops S→S x=false→S y=false→S i=false:=by
  intro i hi S hd hx hy
  cases hS:S i with
  |false=>rfl
  |true =>
   exfalso
   simp only [behind,Bool.or_eq_true,beq_iff_eq] at hi
   rcases hi with ((rfl|rfl)|h)|h
   ·rw [hx] at hS;cases hS
   ·rw [hy] at hS;cases hS
   ·have:=hd.anc (hm' _ _ h) hS;rw [hx] at this;cases this
   ·have:=hd.anc (hm' _ _ h) hS;rw [hy] at this;cases this
 rw [List.all_eq_true] at hb
 have hn1:∀ t∈t1,∀ S:Nat→Bool,Down ops S→S x=false→S y=false→S t.i=false:=fun t ht=>hbeh _ (hb (t.i,t.c) (List.mem_append_left _ (List.mem_map.2 ⟨t,ht,rfl⟩)))
 have hn2:∀ t∈t2,∀ S:Nat→Bool,Down ops S→S x=false→S y=false→S t.i=false:=fun t ht=>hbeh _ (hb (t.i,t.c) (List.mem_append_right _ (List.mem_map.2 ⟨t,ht,rfl⟩)))
 have hev:Ev c (c.to {c.w with drawn:=c.w.drawn+1}):=Ev.idle hst (Ev.refl c) rfl rfl rfl rfl fun k=>.inl rfl
 have hst':St (c.to {c.w with drawn:=c.w.drawn+1}):=hst.idle rfl fun k o hk=>.inl hk
 have hr':SR N (base,F) (c.to {c.w with drawn:=c.w.drawn+1}) ⟨tm,hp⟩ a:=⟨hr.h,hr.size,Nat.le_trans hr.above hev.size,hr.defers.ev hev,RoundOk.ev hev hr.round,fun t=>(hr.tm t).ev hst hev⟩
 have hnone:∀ j,(Array.replicate ops.size false).getD j false=false:=fun j=>by
  rw [Array.getD_eq_getD_getElem?,Array.getElem?_replicate]
  split <;> rfl
 refine Qmy (base:=(base,F)) hF (by simpa using hxy) hruns1 hruns2 hf1 hf2 hn1 hn2 _ _ (c.to {c.w with drawn:=c.w.drawn+1}) a (by simp) ?_ (hnone _) (hnone _) hst' ?_ ?_ ?_ ?_ ?_
 ·intro j o ho hj
  simp only at hj
  rw [hnone] at hj;cases hj
 ·have e1:tmS N (fun i=>(Array.replicate ops.size false).getD i false) (ρ'++t1) tm=tm:=funext fun x=>XO fun t _ h=>by rw [hnone] at h;cases h
  have e2:hS (fun i=>(Array.replicate ops.size false).getD i false) (ρ'++t1) hp=hp:=Ys fun t _ _=>hnone _
  rw [e1,e2];exact hr'
 ·exact Nat.le_trans List.countP_le_length (Nat.le_of_eq hf1.len)
 ·exact Nat.le_trans List.countP_le_length (Nat.le_of_eq hf2.len)
 ·intro c' a' h1 h2 h3
  rw [XQ,Ym] at h3
  exact hR _ _ c' a' _ hQ1 (Ev.trans hst hev h1) h2 h3 rfl
 ·intro c' a' h1 h2 h3
  rw [XQ,Ym] at h3
  exact hR _ _ c' a' _ hQ2 (Ev.trans hst hev h1) h2 h3 rfl
end Go.Proofs.YticgcpebdldbgaaDoor.Ab
namespace Go.Proofs.YticgcpebdldbgaaDoor.Ab
inductive Alt where
 |done
 |stop
 |alt (i c:Nat) (sub more:Alt)
section
variable (P:Program) (N:Nat) (ops:Array Oper) (K:AS→Prop) (s:AS)
end
theorem QdL {P:Program} {N:Nat} {ops:Array Oper} {K:AS→Prop}:∀ (l1 l2:List (Nat×Nat)),AnyW P N ops (l1++l2) K=AnyW P N ops l1 (AnyW P N ops l2 K)
 |[],l2=>funext fun s=>rfl
 |p::l1,l2=>by
  funext s
  show (match ops[p.1]? with|some o=>AnyO P N ops p.2 o s (AnyW P N ops (l1++l2) K)|none=>False)=(match ops[p.1]? with|some o=>AnyO P N ops p.2 o s (AnyW P N ops l1 (AnyW P N ops l2 K))|none=>False)
  rw [QdL l1 l2]
theorem QkA {P:Program} {N:Nat} {ops:Array Oper} {l:List (Nat×Nat)} {K:AS→Prop} {s:AS} (k:Nat) (h:∀ K':AS→Prop,(∀ s,AnyW P N ops (l.drop k) K s→K' s)→AnyW P N ops (l.take k) K' s):AnyW P N ops l K s:=by
 have:=h (AnyW P N ops (l.drop k) K) fun s hs=>hs
 rw [← QdL,List.take_append_drop] at this
 exact this
theorem QX {P:Program} {N:Nat} {x y:Code} {Q:AExit→AS→Prop} {s:AS} (J:AS→Prop) (h1:∀ s,J s→XF P N y Q s) (h2:XF P N x (AExit.then J Q) s):XF P N (.seq x y) Q s:=by
 refine Qal (h2.mono fun e s' hq=>?_)
 cases e with
 |normal=>exact h1 s' hq
 |_=>exact hq
end Go.Proofs.YticgcpebdldbgaaDoor.Ab
set_option maxRecDepth 4000
namespace Go.Proofs.YticgcpebdldbgaaDoor.Ab
open Go.Proofs
theorem QfH (s:ByteArray):Pure Tryd.prog 78 [.v (.string s)] (.b (decide (QcX 1 s)&&!resB s)):=by
 intro h
 have c:=Qmv 1 (.inl rfl) s
 have cr:=Qcr s
 cases hw:decide (QcX 1 s) with
 |false =>
  rw [hw] at c
  refine Qe Tryd.func78 rfl Tryd.call78 Tryd.ntmps78 (congrArg Array.toList Tryd.results78) (by simp) ?_
  repeat (first|((first|(with_reducible (first|refine Qa fun K E hK hE=>?_|refine Qz c ?_)));simp -implicitDefEqProofs only [Qc,Qd,OpW,QE,aop,undef,AS.ev,Qq,↓reduceIte,seval])|(with_reducible refine Ql ?_)|((with_reducible refine hK _ ?_);clear hK))
  simp only [QF,Qn,Qr,upd,↓reduceIte,Qq5,Qq9];first|refine Qi (htake _ _) (.keep (.v _)) ⟨rfl,rfl⟩|refine Qi List.take_length (.keep (.v _)) ⟨rfl,rfl⟩
 |true =>
  rw [hw] at c
  refine Qe Tryd.func78 rfl Tryd.call78 Tryd.ntmps78 (congrArg Array.toList Tryd.results78) (by simp) ?_
  repeat (first|((first|(with_reducible (first|refine Qa fun K E hK hE=>?_|refine Qz c ?_|refine Qz cr ?_)));simp -implicitDefEqProofs only [Qc,Qd,OpW,QE,aop,undef,AS.ev,Qq,↓reduceIte,seval])|(with_reducible refine Ql ?_)|((with_reducible refine hK _ ?_);clear hK))
  simp only [QF,Qn,Qr,upd,↓reduceIte,Qq5,Qq9];first|refine Qi (htake _ _) (.keep (.v _)) ⟨rfl,rfl⟩|refine Qi List.take_length (.keep (.v _)) ⟨rfl,rfl⟩
theorem QlJ (c:Int):ofN c=1↔97≤c∧c≤122:=by
 unfold ofN
 repeat' split
 all_goals (constructor <;> intro _ <;> first|omega|assumption|trivial|contradiction)
def Qaa (s:ByteArray):Prop:=1≤s.size∧s.size≤40∧Fol s
instance (s:ByteArray):Decidable (Qaa s):=by unfold Qaa;infer_instance
theorem Qhu (b:ByteArray) (hb:b.size≤maxLen):Pure Tryd.prog 63 [.v (.string b)] (.b (decide (Qaa b))):=by
 intro h
 have hsl:=fun b=>Zz Tryd.prog 9 3 (by kernel_rfl) b
 have hbm:b.size≤9223372036854775807:=hb
 refine Qe Tryd.func63 rfl Tryd.call63 Tryd.ntmps63 (congrArg Array.toList Tryd.results63) (by simp) ?_
 repeat (first|(((with_reducible refine Qa fun K E hK hE=>?_));simp -implicitDefEqProofs only [Qc,Qd,OpW,aop,AS.ev,Nat.reduceLT])|(with_reducible (first|refine Qf fun K hK=>?_|refine Qj ?_))|((with_reducible refine hK _ ?_);clear hK))
 obtain ⟨I,hI⟩:∃ I:Nat→AS→Prop,I=fun m' s=>∃ (p:Nat),m'=b.size - p∧p≤b.size∧(∀ k,k<p→fol (byteAt b k))∧s.tm 0 = .v (.string b)∧s.tm 3 = .i p∧s.h=h:=⟨_,rfl⟩;refine QO I ?_ (m:=b.size) ?_
 ·intro m' s hs;rw [hI] at hs;obtain ⟨tm,hp⟩:=s;dsimp only at hs;obtain ⟨p,rfl,hp',he,t0,t3,rfl⟩:=hs
  by_cases hlt:p<b.size
  ·have hix:=Zo Tryd.prog 9 (by kernel_rfl) b p hlt
   have c1:=Qcm (byteAt b p)
   have c2:=Qgu (byteAt b p)
   have onw:fol (byteAt b p)→∀ k,k<p+1→fol (byteAt b k):=fun hf k hk=>by
    rcases Nat.lt_or_ge k p with h'|h'
    ·exact he k h'
    ·have:k=p:=by omega
     rw [this];exact hf
   have stop:¬ fol (byteAt b p)→decide (Qaa b)=false:=fun hf=>decide_eq_false fun h=>hf (h.2.2 p hlt)
   iterate 9 (try (first|(((with_reducible refine Qa fun K E hK hE=>?_));simp -implicitDefEqProofs only [Qc,Qd,OpW,aop,AS.ev,↓reduceIte,aBin,aLen,goInt,t0,t3,hsl,hlt,seval])|(with_reducible (first|refine Qf fun K hK=>?_|refine Qj ?_|refine Qm ?_|refine Qb ?_))|((with_reducible refine hK _ ?_);clear hK)|(refine Qh rfl ?_;simp only [↓reduceIte])))
   refine QX (fun s=>s.tm 39 = .b (decide (¬ fol (byteAt b p)))∧s.tm 0 = .v (.string b)∧s.tm 3 = .i p∧s.h=hp) ?_ ?_
   ·rintro ⟨tm,hq⟩ ⟨t39,t0,t3,rfl⟩
    dsimp only at t39 t0 t3
    by_cases hf:fol (byteAt b p)
    ·rw [decide_eq_false (fun h=>h hf)] at t39
     refine Qh (by exact t39) ?_
     simp only [↓reduceIte,Qq3]
     repeat (first|(((with_reducible refine Qk fun K E hK hE=>?_));simp -implicitDefEqProofs only [Qc,Qd,OpW,aop,AS.ev,↓reduceIte,Nat.reduceLT,aBin,t3])|(with_reducible (first|refine Qm ?_|refine Qb ?_|refine Qo ?_))|((with_reducible refine hK _ ?_);clear hK))
     refine Xi.mk (m':=b.size - (p+1)) (by omega) ?_
     rw [hI]
     refine ⟨p+1,rfl,hlt,onw hf,t0,?_,rfl⟩
     simp only [upd,↓reduceIte]
     rw [Xk (by omega)]
    ·rw [decide_eq_true hf] at t39
     refine Qh (by exact t39) ?_
     simp only [↓reduceIte]
     repeat (first|(((with_reducible refine Qa fun K E hK hE=>?_));simp -implicitDefEqProofs only [Xb,Xh,Qd,OpW,aop,AS.ev,Q8,Yf,Nat.reduceLT])|(with_reducible (first|refine Ql ?_|refine Qu ?_|refine Qy ?_))|((with_reducible refine hK _ ?_);clear hK))
     simp only [QF,Qn,Qr,upd,↓reduceIte,Qq5,Qq9]
     exact Qi List.take_length (.keep (.v _)) ⟨by rw [stop hf],rfl⟩
   ·refine Qk fun K E hK hE=>?_
    by_cases hl:97≤byteAt b p∧byteAt b p≤122
    ·rw [decide_eq_true hl] at c1
     have hv:decide (¬ fol (byteAt b p))=false:=decide_eq_false fun h=>h ((Qa4 _).2 (.inl hl))
     (try simp only [QrA]);refine QA 6 (fun K1 hK1=>?_);simp -implicitDefEqProofs only [Qc,Qd,OpW,aop,AS.ev,↓reduceIte,t0,t3,hix,seval];(repeat ((((with_reducible refine Qz c1 ?_));simp -implicitDefEqProofs only [Qc,Qd,OpW,QE,aop,AS.ev,↓reduceIte,Nat.reduceLT])));refine hK1 _ ?_;clear hK1
     (try simp only [Qq8,Qrg]);refine QA 7 (fun K1 hK1=>?_);simp -implicitDefEqProofs only [Qc,Qd,OpW,aop,undef,AS.ev,↓reduceIte,seval];(repeat ((((with_reducible refine Qa fun K E hK hE=>?_));simp -implicitDefEqProofs only [Qc,Qd,OpW,QE,aop,undef,XL,AS.ev,Qq,AV.Qp8,↓reduceIte,aBin,aLen,goInt,ti3,zi3,un3,ti4,zi4,un4,ti5,zi5,un5,ti9,ei9,zi9,un9,QrM,Int.sub_zero,Zg,Qs,t0,t3,hix,seval])));refine hK1 _ ?_;clear hK1
     (try simp only [Qq8,Qrg]);refine QA 5 (fun K1 hK1=>?_);simp -implicitDefEqProofs only [Qc,Qd,undef,↓reduceIte,seval];refine hK1 _ ?_;clear hK1
     (try simp only [Qq8,Qrg]);refine QA 6 (fun K1 hK1=>?_);simp -implicitDefEqProofs only [Qc,Qd,OpW,aop,undef,AS.ev,↓reduceIte,seval];refine hK1 _ ?_;clear hK1
     (try simp only [Qq8,Qrg])
     simp -implicitDefEqProofs only [Qc,Qd,OpW,aop,undef,AS.ev,↓reduceIte,seval]
     repeat (first|(with_reducible refine Qb ?_)|((with_reducible refine hK _ ?_);clear hK))
     (try (refine hK _ ?_;rw [Y8]))
     exact ⟨by rw [hv];rfl,t0,t3,rfl⟩
    ·rw [decide_eq_false hl] at c1
     by_cases hu:65≤byteAt b p∧byteAt b p≤90
     ·rw [decide_eq_true hu] at c2
      have hv:decide (¬ fol (byteAt b p))=false:=decide_eq_false fun h=>h ((Qa4 _).2 (.inr (.inl hu)))
      (try simp only [QrA]);refine QA 6 (fun K1 hK1=>?_);simp -implicitDefEqProofs only [Qc,Qd,OpW,aop,AS.ev,↓reduceIte,t0,t3,hix,seval];(repeat ((((with_reducible refine Qz c1 ?_));simp -implicitDefEqProofs only [Qc,Qd,OpW,QE,aop,AS.ev,↓reduceIte,Nat.reduceLT])));refine hK1 _ ?_;clear hK1
      (try simp only [Qq8,Qrg]);refine QA 7 (fun K1 hK1=>?_);simp -implicitDefEqProofs only [Qc,Qd,OpW,aop,AS.ev,↓reduceIte,t0,t3,hix,seval];(repeat ((((with_reducible refine Qz c2 ?_));simp -implicitDefEqProofs only [Qc,Qd,OpW,QE,aop,AS.ev,↓reduceIte,seval])));refine hK1 _ ?_;clear hK1
      (try simp only [Qq8,Qrg]);refine QA 5 (fun K1 hK1=>?_);simp -implicitDefEqProofs only [Qc,Qd,undef,↓reduceIte,seval];refine hK1 _ ?_;clear hK1
      (try simp only [Qq8,Qrg]);refine QA 6 (fun K1 hK1=>?_);simp -implicitDefEqProofs only [Qc,Qd,OpW,aop,undef,AS.ev,↓reduceIte,seval];refine hK1 _ ?_;clear hK1
      (try simp only [Qq8,Qrg])
      simp -implicitDefEqProofs only [Qc,Qd,OpW,aop,undef,AS.ev,↓reduceIte,seval]
      repeat (first|(with_reducible refine Qb ?_)|((with_reducible refine hK _ ?_);clear hK))
      (try (refine hK _ ?_;rw [Y8]))
      exact ⟨by rw [hv];rfl,t0,t3,rfl⟩
     ·rw [decide_eq_false hu] at c2
      by_cases d1:byteAt b p<48
      ·have q':(byteAt b p != 95)=true:=by simp;omega
       have hv:decide (¬ fol (byteAt b p))=true:=decide_eq_true fun hf=>by have:=(Qa4 _).1 hf;omega
       (try simp only [QrA]);refine QA 6 (fun K1 hK1=>?_);simp -implicitDefEqProofs only [Qc,Qd,OpW,aop,AS.ev,↓reduceIte,t0,t3,hix,seval];(repeat ((((with_reducible refine Qz c1 ?_));simp -implicitDefEqProofs only [Qc,Qd,OpW,QE,aop,AS.ev,↓reduceIte,Nat.reduceLT])));refine hK1 _ ?_;clear hK1
       (try simp only [Qq8,Qrg]);refine QA 7 (fun K1 hK1=>?_);simp -implicitDefEqProofs only [Qc,Qd,OpW,aop,AS.ev,↓reduceIte,t0,t3,hix,seval];(repeat ((((with_reducible refine Qz c2 ?_));simp -implicitDefEqProofs only [Qc,Qd,OpW,QE,aop,AS.ev,↓reduceIte,seval])));refine hK1 _ ?_;clear hK1
       (try simp only [Qq8,Qrg]);refine QA 5 (fun K1 hK1=>?_);simp -implicitDefEqProofs only [Qc,Qd,OpW,aop,AS.ev,↓reduceIte,aBin,t0,t3,hix,d1,seval];refine hK1 _ ?_;clear hK1
       (try simp only [Qq8,Qrg]);refine QA 6 (fun K1 hK1=>?_);simp -implicitDefEqProofs only [Qc,Qd,OpW,aop,undef,AS.ev,↓reduceIte,seval];refine hK1 _ ?_;clear hK1
       (try simp only [Qq8,Qrg])
       simp -implicitDefEqProofs only [Qc,Qd,OpW,aop,AS.ev,↓reduceIte,aBin,t0,t3,hix,q',seval]
       repeat (first|(with_reducible refine Qb ?_)|((with_reducible refine hK _ ?_);clear hK))
       (try (refine hK _ ?_;rw [Y8]))
       exact ⟨by rw [hv];rfl,t0,t3,rfl⟩
      ·by_cases d2:byteAt b p>57
       ·by_cases q:byteAt b p=95
        ·have q':(byteAt b p != 95)=false:=by simp [q]
         have hv:decide (¬ fol (byteAt b p))=false:=decide_eq_false fun h=>h ((Qa4 _).2 (.inr (.inr (.inl q))))
         (try simp only [QrA]);refine QA 6 (fun K1 hK1=>?_);simp -implicitDefEqProofs only [Qc,Qd,OpW,aop,AS.ev,↓reduceIte,t0,t3,hix,seval];(repeat ((((with_reducible refine Qz c1 ?_));simp -implicitDefEqProofs only [Qc,Qd,OpW,QE,aop,AS.ev,↓reduceIte,Nat.reduceLT])));refine hK1 _ ?_;clear hK1
         (try simp only [Qq8,Qrg]);refine QA 7 (fun K1 hK1=>?_);simp -implicitDefEqProofs only [Qc,Qd,OpW,aop,AS.ev,↓reduceIte,t0,t3,hix,seval];(repeat ((((with_reducible refine Qz c2 ?_));simp -implicitDefEqProofs only [Qc,Qd,OpW,QE,aop,AS.ev,↓reduceIte,seval])));refine hK1 _ ?_;clear hK1
         (try simp only [Qq8,Qrg]);refine QA 5 (fun K1 hK1=>?_);simp -implicitDefEqProofs only [Qc,Qd,OpW,aop,AS.ev,↓reduceIte,aBin,t0,t3,hix,d1,seval];refine hK1 _ ?_;clear hK1
         (try simp only [Qq8,Qrg]);refine QA 6 (fun K1 hK1=>?_);simp -implicitDefEqProofs only [Qc,Qd,OpW,aop,AS.ev,↓reduceIte,aBin,t0,t3,hix,d2,seval];refine hK1 _ ?_;clear hK1
         (try simp only [Qq8,Qrg])
         simp -implicitDefEqProofs only [Qc,Qd,OpW,aop,AS.ev,↓reduceIte,aBin,t0,t3,hix,q',seval]
         repeat (first|(with_reducible refine Qb ?_)|((with_reducible refine hK _ ?_);clear hK))
         (try (refine hK _ ?_;rw [Y8]))
         exact ⟨by rw [hv];rfl,t0,t3,rfl⟩
        ·have q':(byteAt b p != 95)=true:=by simp [q]
         have hv:decide (¬ fol (byteAt b p))=true:=decide_eq_true fun hf=>by have:=(Qa4 _).1 hf;omega
         (try simp only [QrA]);refine QA 6 (fun K1 hK1=>?_);simp -implicitDefEqProofs only [Qc,Qd,OpW,aop,AS.ev,↓reduceIte,t0,t3,hix,seval];(repeat ((((with_reducible refine Qz c1 ?_));simp -implicitDefEqProofs only [Qc,Qd,OpW,QE,aop,AS.ev,↓reduceIte,Nat.reduceLT])));refine hK1 _ ?_;clear hK1
         (try simp only [Qq8,Qrg]);refine QA 7 (fun K1 hK1=>?_);simp -implicitDefEqProofs only [Qc,Qd,OpW,aop,AS.ev,↓reduceIte,t0,t3,hix,seval];(repeat ((((with_reducible refine Qz c2 ?_));simp -implicitDefEqProofs only [Qc,Qd,OpW,QE,aop,AS.ev,↓reduceIte,seval])));refine hK1 _ ?_;clear hK1
         (try simp only [Qq8,Qrg]);refine QA 5 (fun K1 hK1=>?_);simp -implicitDefEqProofs only [Qc,Qd,OpW,aop,AS.ev,↓reduceIte,aBin,t0,t3,hix,d1,seval];refine hK1 _ ?_;clear hK1
         (try simp only [Qq8,Qrg]);refine QA 6 (fun K1 hK1=>?_);simp -implicitDefEqProofs only [Qc,Qd,OpW,aop,AS.ev,↓reduceIte,aBin,t0,t3,hix,d2,seval];refine hK1 _ ?_;clear hK1
         (try simp only [Qq8,Qrg])
         simp -implicitDefEqProofs only [Qc,Qd,OpW,aop,AS.ev,↓reduceIte,aBin,t0,t3,hix,q',seval]
         repeat (first|(with_reducible refine Qb ?_)|((with_reducible refine hK _ ?_);clear hK))
         (try (refine hK _ ?_;rw [Y8]))
         exact ⟨by rw [hv];rfl,t0,t3,rfl⟩
       ·skip
        have hv:decide (¬ fol (byteAt b p))=false:=decide_eq_false fun h=>h ((Qa4 _).2 (.inr (.inr (.inr ⟨by omega,by omega⟩))))
        (try simp only [QrA]);refine QA 6 (fun K1 hK1=>?_);simp -implicitDefEqProofs only [Qc,Qd,OpW,aop,AS.ev,↓reduceIte,t0,t3,hix,seval];(repeat ((((with_reducible refine Qz c1 ?_));simp -implicitDefEqProofs only [Qc,Qd,OpW,QE,aop,AS.ev,↓reduceIte,Nat.reduceLT])));refine hK1 _ ?_;clear hK1
        (try simp only [Qq8,Qrg]);refine QA 7 (fun K1 hK1=>?_);simp -implicitDefEqProofs only [Qc,Qd,OpW,aop,AS.ev,↓reduceIte,t0,t3,hix,seval];(repeat ((((with_reducible refine Qz c2 ?_));simp -implicitDefEqProofs only [Qc,Qd,OpW,QE,aop,AS.ev,↓reduceIte,seval])));refine hK1 _ ?_;clear hK1
        (try simp only [Qq8,Qrg]);refine QA 5 (fun K1 hK1=>?_);simp -implicitDefEqProofs only [Qc,Qd,OpW,aop,AS.ev,↓reduceIte,aBin,t0,t3,hix,d1,seval];refine hK1 _ ?_;clear hK1
        (try simp only [Qq8,Qrg]);refine QA 6 (fun K1 hK1=>?_);simp -implicitDefEqProofs only [Qc,Qd,OpW,aop,AS.ev,↓reduceIte,aBin,t0,t3,hix,d2,seval];refine hK1 _ ?_;clear hK1
        (try simp only [Qq8,Qrg])
        simp -implicitDefEqProofs only [Qc,Qd,OpW,aop,undef,AS.ev,↓reduceIte,seval]
        repeat (first|(with_reducible refine Qb ?_)|((with_reducible refine hK _ ?_);clear hK))
        (try (refine hK _ ?_;rw [Y8]))
        exact ⟨by rw [hv];rfl,t0,t3,rfl⟩
  ·have hpz:p=b.size:=by omega
   rw [hpz] at he
   by_cases g1:(b.size:Int)≥1
   ·by_cases g2:(b.size:Int)≤40
    ·repeat (first|(((with_reducible refine Qa fun K E hK hE=>?_));simp -implicitDefEqProofs only [Qc,Qd,OpW,aop,AS.ev,↓reduceIte,aBin,aLen,goInt,t0,t3,hsl,hlt,g1,g2,seval])|(with_reducible (first|refine Qf fun K hK=>?_|refine Ql ?_|refine QG ?_|refine Qb ?_|refine QD ?_|refine QC ?_))|((with_reducible refine hK _ ?_);clear hK)|(clear hK;(with_reducible refine hK _ ?_);clear hK)|(refine Qh rfl ?_;simp only [↓reduceIte,Qq3]))
     simp only [QF,Qn,Qr,upd,↓reduceIte,Qq5,Qq9]
     exact Qi List.take_length (.keep (.v _)) ⟨by rw [decide_eq_true (show Qaa b from ⟨by omega,by omega,he⟩)],rfl⟩
    ·repeat (first|(((with_reducible refine Qa fun K E hK hE=>?_));simp -implicitDefEqProofs only [Qc,Qd,OpW,aop,AS.ev,↓reduceIte,aBin,aLen,goInt,t0,t3,hsl,hlt,g1,g2,seval])|(with_reducible (first|refine Qf fun K hK=>?_|refine Ql ?_|refine QG ?_|refine Qb ?_|refine QD ?_|refine QC ?_))|((with_reducible refine hK _ ?_);clear hK)|(clear hK;(with_reducible refine hK _ ?_);clear hK)|(refine Qh rfl ?_;simp only [↓reduceIte,Qq3]))
     simp only [QF,Qn,Qr,upd,↓reduceIte,Qq5,Qq9]
     exact Qi List.take_length (.keep (.v _)) ⟨by rw [decide_eq_false (fun h:Qaa b=>by have:=h.2.1;omega)],rfl⟩
   ·repeat (first|(((with_reducible refine Qa fun K E hK hE=>?_));simp -implicitDefEqProofs only [Qc,Qd,OpW,aop,undef,AS.ev,↓reduceIte,aBin,aLen,goInt,t0,t3,hsl,hlt,g1,seval])|(with_reducible (first|refine Qf fun K hK=>?_|refine Ql ?_|refine QG ?_|refine Qb ?_|refine QD ?_|refine QC ?_))|((with_reducible refine hK _ ?_);clear hK)|(clear hK;(with_reducible refine hK _ ?_);clear hK)|(refine Qh rfl ?_;simp only [↓reduceIte,Qq3]))
    simp only [QF,Qn,Qr,upd,↓reduceIte,Qq5,Qq9]
    exact Qi List.take_length (.keep (.v _)) ⟨by rw [decide_eq_false (fun h:Qaa b=>by have:=h.1;omega)],rfl⟩
 ·rw [hI]
  exact ⟨0,by omega,Nat.zero_le _,fun k hk=>by omega,rfl,rfl,rfl⟩
theorem Qco (s:ByteArray) (hb:s.size≤maxLen):Pure Tryd.prog 43 [.v (.string s)] (.b (decide (QcX 1 s)&&!resB s)):=by
 intro h
 have c:=Qhu s hb
 have cr:=Qdo s
 have cl:=Qcm (byteAt s 0)
 by_cases hw:Qaa s
 ·rw [decide_eq_true hw] at c
  have hix:=QfG Tryd.prog 9 (by kernel_rfl) s (by have:=hw.1;omega)
  by_cases hl:97≤byteAt s 0∧byteAt s 0≤122
  ·rw [decide_eq_true hl] at cl
   have e:decide (QcX 1 s)=true:=decide_eq_true ⟨hw.1,hw.2.1,(QlJ _).2 hl,hw.2.2⟩
   refine Qe Tryd.func43 rfl Tryd.call43 Tryd.ntmps43 (congrArg Array.toList Tryd.results43) (by simp) ?_
   repeat (first|((first|(with_reducible (first|refine Qa fun K E hK hE=>?_|refine Qz c ?_|refine Qz cl ?_|refine Qz cr ?_)));simp -implicitDefEqProofs only [Qc,Qd,OpW,QE,aop,undef,AS.ev,Qq,↓reduceIte,hix,seval])|(with_reducible refine Ql ?_)|((with_reducible refine hK _ ?_);clear hK))
   simp only [QF,Qn,Qr,upd,↓reduceIte,Qq5,Qq9];first|refine Qi (htake _ _) (.keep (.v _)) ⟨by rw [e,Bool.true_and],rfl⟩|refine Qi List.take_length (.keep (.v _)) ⟨by rw [e,Bool.true_and],rfl⟩
  ·rw [decide_eq_false hl] at cl
   have e:decide (QcX 1 s)=false:=decide_eq_false fun h=>hl ((QlJ _).1 h.2.2.1)
   refine Qe Tryd.func43 rfl Tryd.call43 Tryd.ntmps43 (congrArg Array.toList Tryd.results43) (by simp) ?_
   repeat (first|((first|(with_reducible (first|refine Qa fun K E hK hE=>?_|refine Qz c ?_|refine Qz cl ?_)));simp -implicitDefEqProofs only [Qc,Qd,OpW,QE,aop,undef,AS.ev,Qq,↓reduceIte,hix,seval])|(with_reducible refine Ql ?_)|((with_reducible refine hK _ ?_);clear hK))
   simp only [QF,Qn,Qr,upd,↓reduceIte,Qq5,Qq9];first|refine Qi (htake _ _) (.keep (.v _)) ⟨by rw [e];rfl,rfl⟩|refine Qi List.take_length (.keep (.v _)) ⟨by rw [e];rfl,rfl⟩
 ·rw [decide_eq_false hw] at c
  have e:decide (QcX 1 s)=false:=decide_eq_false fun h=>hw ⟨h.1,h.2.1,h.2.2.2⟩
  refine Qe Tryd.func43 rfl Tryd.call43 Tryd.ntmps43 (congrArg Array.toList Tryd.results43) (by simp) ?_
  repeat (first|((first|(with_reducible (first|refine Qa fun K E hK hE=>?_|refine Qz c ?_)));simp -implicitDefEqProofs only [Qc,Qd,OpW,QE,aop,undef,AS.ev,Qq,↓reduceIte,seval])|(with_reducible refine Ql ?_)|((with_reducible refine hK _ ?_);clear hK))
  simp only [QF,Qn,Qr,upd,↓reduceIte,Qq5,Qq9];first|refine Qi (htake _ _) (.keep (.v _)) ⟨by rw [e];rfl,rfl⟩|refine Qi List.take_length (.keep (.v _)) ⟨by rw [e];rfl,rfl⟩
end Go.Proofs.YticgcpebdldbgaaDoor.Ab

