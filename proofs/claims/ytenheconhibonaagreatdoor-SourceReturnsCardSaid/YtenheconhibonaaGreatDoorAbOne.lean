/-
  An abstract program logic, contracts of functions, and laws of terms and rules (part 1).
-/
import Derived.Laws.AppendOwn
import Derived.OrdersIn
import Derived.LoopNIn
import Derived.Lib.AppendZerosOnto
import Derived.Laws.MakeOwn
import Derived.Laws.Slices
import Derived.LaidEql
import Derived.Laws.BytesArg
import Derived.Lib.Builder
import Derived.Lib.AppendStr
import Derived.Lib.UnsafeStr
import Derived.Laws.OwnMore
set_option linter.unusedVariables false
set_option linter.unusedSimpArgs false
set_option maxHeartbeats 4000000
set_option maxRecDepth 4000
namespace Go.Proofs.YtenheconhibonaaGreatDoor.Ab
abbrev QA1 := @Array.empty_append
abbrev Qzr := @Array.getD_eq_getD_getElem?
abbrev QAL := @Array.getElem?_append
abbrev Qz6 := @Array.getElem?_append_left
abbrev Qzv := @Array.getElem?_eq_getElem
abbrev Qzs := @Array.getElem?_eq_some_iff
abbrev QAo := @Array.getElem?_replicate
abbrev Qz2 := @Array.getElem?_setIfInBounds_ne
abbrev Qz9 := @Array.getElem?_setIfInBounds_self_of_lt
abbrev QAd := @Array.getElem?_toList
abbrev QAO := @Array.getElem_mem
abbrev QzS := @Array.length_toList
abbrev QAw := @Array.mem_def
abbrev QBg := @Array.mem_map
abbrev QBe := @Array.mem_of_getElem?
abbrev QzT := @Array.mem_toList_iff
abbrev QAc := @Array.size_append
abbrev Qzk := @Bool.and_eq_true
abbrev QAX := @Bool.and_false
abbrev QyF := @Bool.and_self
abbrev Qy2 := @Bool.and_true
abbrev QAv := @Bool.false_and
abbrev Qyn := @Bool.false_eq_true
abbrev QAM := @Bool.false_or
abbrev QAG := @Bool.not_eq_true'
abbrev QyH := @Bool.not_false
abbrev QyG := @Bool.not_true
abbrev QzW := @Bool.or_eq_true
abbrev QAm := @Bool.or_false
abbrev QAl := @Bool.or_true
abbrev Qy3 := @Bool.true_and
abbrev Qy1 := @Bool.true_eq_false
abbrev QAF := @Bool.true_or
abbrev Qy6 := @Int.le_refl
abbrev QyV := @Int.natCast_nonneg
abbrev Qy5 := @Int.natCast_zero
abbrev Qy8 := @Int.ofNat_le
abbrev Qy7 := @Int.ofNat_lt
abbrev QyW := @Int.toNat_natCast
abbrev QyD := @List.all_cons
abbrev QzB := @List.all_eq_true
abbrev QyE := @List.all_nil
abbrev QBf := @List.any_eq_true
abbrev Qze := @List.append_assoc
abbrev QyM := @List.append_nil
abbrev QyL := @List.cons_append
abbrev QBj := @List.drop_drop
abbrev Qzq := @List.drop_eq_getElem_cons
abbrev QAt := @List.drop_eq_nil_of_le
abbrev QzG := @List.drop_length
abbrev Qys := @List.drop_succ_cons
abbrev QyA := @List.drop_zero
abbrev QAW := @List.eq_nil_of_length_eq_zero
abbrev QAn := @List.eq_of_mem_replicate
abbrev QzY := @List.ext_getElem?
abbrev QBc := @List.flatMap_cons
abbrev QyJ := @List.getD_cons_succ
abbrev Qyq := @List.getD_cons_zero
abbrev QzQ := @List.getD_eq_getElem?_getD
abbrev QzC := @List.getElem?_append
abbrev Qzc := @List.getElem?_append_left
abbrev Qzi := @List.getElem?_append_right
abbrev Qyk := @List.getElem?_cons_succ
abbrev Qyj := @List.getElem?_cons_zero
abbrev QzO := @List.getElem?_drop
abbrev Qzg := @List.getElem?_eq_getElem
abbrev QzR := @List.getElem?_eq_none
abbrev QzN := @List.getElem?_map
abbrev Qy9 := @List.getElem?_nil
abbrev QAE := @List.getElem?_replicate
abbrev QAQ := @List.getElem?_set
abbrev Qzd := @List.getElem?_set_ne
abbrev Qzj := @List.getElem?_set_self
abbrev QAK := @List.getElem?_take
abbrev QAz := @List.getElem?_take_eq_none
abbrev Qzx := @List.getElem?_take_of_lt
abbrev Qym := @List.getElem?_toArray
abbrev QAY := @List.getElem_cons_succ
abbrev QzF := @List.getElem_mem
abbrev Qz4 := @List.headD_cons
abbrev Qy0 := @List.isEmpty_cons
abbrev QyZ := @List.isEmpty_nil
abbrev Qza := @List.length_append
abbrev Qyw := @List.length_cons
abbrev QzM := @List.length_drop
abbrev QzJ := @List.length_map
abbrev Qyx := @List.length_nil
abbrev QAq := @List.length_pos_iff
abbrev QAr := @List.length_replicate
abbrev Qzm := @List.length_set
abbrev QAI := @List.length_singleton
abbrev QzE := @List.length_take
abbrev QAB := @List.mapM_cons
abbrev Qz3 := @List.map_append
abbrev QAh := @List.map_congr_left
abbrev Qyy := @List.map_cons
abbrev QAu := @List.map_map
abbrev QyC := @List.map_nil
abbrev QzH := @List.mem_append
abbrev QAk := @List.mem_append_left
abbrev QAC := @List.mem_append_right
abbrev Qzn := @List.mem_cons
abbrev QzV := @List.mem_cons_of_mem
abbrev QA5 := @List.mem_flatMap
abbrev QzD := @List.mem_map
abbrev Qzp := @List.mem_of_getElem?
abbrev QzZ := @List.mem_of_mem_drop
abbrev QAa := @List.mem_of_mem_take
abbrev QA0 := @List.mem_replicate
abbrev Qz8 := @List.mem_singleton
abbrev QyK := @List.nil_append
abbrev QA9 := @List.nodup_cons
abbrev QAN := @List.nodup_nil
abbrev Qzz := @List.not_mem_nil
abbrev QAZ := @List.pairwise_cons
abbrev QA7 := @List.prefix_iff_eq_take
abbrev QAD := @List.range'_append_1
abbrev QAy := @List.range_eq_range'
abbrev Qzw := @List.set_append_left
abbrev Qz7 := @List.set_append_right
abbrev QA8 := @List.set_comm
abbrev QyO := @List.set_cons_succ
abbrev QyN := @List.set_cons_zero
abbrev QAS := @List.set_set
abbrev QzX := @List.size_toArray
abbrev QAU := @List.takeWhile_cons
abbrev QA2 := @List.takeWhile_prefix
abbrev Qz1 := @List.take_append_drop
abbrev Qzb := @List.take_length
abbrev QBb := @List.take_of_length_le
abbrev Qyu := @List.take_succ_cons
abbrev QAp := @List.take_succ_eq_append_getElem
abbrev QyB := @List.take_zero
abbrev QyU := @List.toList_toArray
abbrev QAA := @Nat.add_assoc
abbrev QBi := @Nat.add_comm
abbrev QzU := @Nat.add_mul
abbrev QAe := @Nat.add_sub_cancel_left
abbrev QyI := @Nat.add_zero
abbrev QAT := @Nat.le_of_eq
abbrev Qzl := @Nat.le_refl
abbrev QBd := @Nat.le_succ_of_le
abbrev QzL := @Nat.le_trans
abbrev QzI := @Nat.lt_of_lt_of_le
abbrev QAR := @Nat.lt_or_ge
abbrev QAV := @Nat.lt_succ_self
abbrev QzK := @Nat.mul_le_mul_right
abbrev QA3 := @Nat.mul_one
abbrev Qz0 := @Nat.sub_self
abbrev Qyv := @Nat.zero_add
abbrev Qzy := @Nat.zero_le
abbrev QAs := @Nat.zero_mul
abbrev QAg := @Ne.symm
abbrev QyX := @Option.bind_none
abbrev Qyo := @Option.bind_some
abbrev QA6 := @Option.getD_some
abbrev QAP := @Option.isSome_iff_exists
abbrev QBa := @Option.isSome_none
abbrev QAx := @Option.isSome_some
abbrev Qzo := @Option.map_eq_some_iff
abbrev QyY := @Option.map_none
abbrev Qyl := @Option.map_some
abbrev QAH := @Option.some.inj
abbrev Qyp := @Option.some.injEq
abbrev QBh := @Prod.mk.inj
abbrev QAJ := @Prod.mk.injEq
abbrev QyR := @and_self
abbrev QyT := @and_true
abbrev QAi := @beq_eq_false_iff_ne
abbrev QAb := @beq_iff_eq
abbrev Qyr := @beq_self_eq_true
abbrev Qy4 := @bne_self_eq_false
abbrev QzP := @congrArg
abbrev Qzt := @decide_eq_false
abbrev QzA := @decide_eq_true
abbrev Qzu := @decide_eq_true_eq
abbrev QyQ := @decide_false
abbrev QyP := @decide_true
abbrev Qyt := @exists_eq_left'
abbrev Qz5 := @if_false
abbrev Qzf := @if_neg
abbrev Qzh := @if_pos
abbrev QAj := @if_true
abbrev QA4 := @of_decide_eq_true
abbrev QAf := @or_false
abbrev QyS := @true_and
end Go.Proofs.YtenheconhibonaaGreatDoor.Ab
namespace Go.Proofs.YtenheconhibonaaGreatDoor.Ab
inductive AV where
 |v (x:Value)
 |agg (l:List AV)
 |tup (l:List AV)
 |sl (s:Nat) (xs:List AV) (own:Option Nat)
 |pin (s:Nat) (xs:List AV) (k off:Nat)
 |ptr (id k off:Nat)
 |arr (id lo len:Nat)
 |row (id lo len cap:Nat)
 |mp (id:Nat)
 |fn (f:Fn) (first cap:List AV)
 |ifc (t:TypeId) (x:AV)
 |spt (s:Nat) (xs:List AV) (own:Option Nat)
 |junk
 deriving Inhabited
def AV.cells:AV->List AV
 | .agg l=>l
 |x=>[x]
def AV.isAgg:AV->Bool
 | .agg _=>true
 |_=>false
def AV.cell1:AV->Bool
 | .v x=>x.oneCell'
 | .agg _ | .tup _ | .junk=>false
 |_=>true
def AV.Qxu(x:AV):Bool:=x.cells.all AV.cell1
def flat(xs:List AV):List AV:=xs.flatMap AV.cells
structure LoopA where
 params:Array Tmp
 assign:Code
 body:Code
 N:Nat
 tm:Nat->AV
 st:LoopState
 pend:Option Code
inductive AB where
 |cells (ty:TypeId) (s:Nat) (xs:List AV)
 |grow (e:TypeId) (s n:Nat)
 |map (es:List (Value×AV))
 |loop (i:LoopA)
 |iter (s:ByteArray) (pos:Nat)
 |glob (g:Nat) (cs:Array Value) (ty:TypeId) (fr:Nat×Nat)
 |gone
 |dead
 deriving Inhabited
def AB.live:AB->Bool
 | .dead | .gone=>false
 |_=>true
def AB.tok:AB->Bool
 | .dead | .cells _ _ _=>false
 |_=>true
abbrev AH:=List AB
structure Cx where
 ρ:Nat->Option Nat
 h:AH
 w:World
def Cx.owns(c:Cx)(B:Nat):Prop:=∃id b,c.h[id]? = some b/\b.live=true/\c.ρ id=some B
def Cx.prot(c:Cx)(B o:Nat):Prop :=
 B<c.w.heap.size/\∀id b,c.h[id]? = some b->b.live=true->c.ρ id=some B->(∃e s n,b = .grow e s n/\o<n * s)\/∃g cs ty fr,b = .glob g cs ty fr
def Cx.cellP(c:Cx)(B o:Nat)(u:Value):Prop:=c.w.cell? ⟨B,o,none⟩=some u/\c.prot B o
def Cx.tokAt(c:Cx)(b s len cap B o:Nat):Prop :=
 (b<c.h.length/\∃x,c.h[b]? = some x/\x.tok=true)/\∀e s' n,c.h[b]? = some (.grow e s' n)->s'=s/\len<=n /\
  (n=len->o=0/\c.ρ b=some B/\len<=cap/\cap<=maxLen/\∃cur,c.w.heap[B]? = some (.cells cur e (0,0))/\cur.size=cap * s)
def Cx.tokNil(c:Cx)(b s:Nat):Prop :=
 b<c.h.length/\∀e s' n,c.h[b]? = some (.grow e s' n)->s'=s/\(n=0->c.ρ b=none)
inductive Rel (c:Cx):AV->Value->Prop
 |v (x:Value):Rel c (.v x) x
 |junk (x:Value):Rel c .junk x
 |agg (l:List AV) (cs:Array Value) (hl:cs.size=l.length) (h:∀(j:Nat) a u,l[j]? = some a->cs[j]? = some u->Rel c a u):Rel c (.agg l) (.agg cs)
 |tup (l:List AV) (cs:Array Value) (hl:cs.size=l.length) (h:∀(j:Nat) a u,l[j]? = some a->cs[j]? = some u->Rel c a u):Rel c (.tup l) (.tuple cs)
 |slnil (s:Nat) (own:Option Nat) (ht:∀b,own=some b->c.tokNil b s):Rel c (.sl s [] own) (.slice none 0 0)
 |slzero (s:Nat) (own:Option Nat) (ba:Addr) (ht:∀b,own=some b->c.tokNil b s):Rel c (.sl s [] own) (.slice (some ba) 0 0)
 |sl (s:Nat) (xs:List AV) (own:Option Nat) (B o cap:Nat) (f:Nat->Value) (hs:∀x∈xs,x.cells.length=s)
   (hcap:xs.length<=cap) (hmax:cap<=maxLen)
   (hc:∀(j:Nat) a,(flat xs)[j]? = some a->c.cellP B (o+j) (f j)/\(f j).oneCell'=true) (hr:∀(j:Nat) a,(flat xs)[j]? = some a->Rel c a (f j))
   (ht:∀b,own=some b->c.tokAt b s xs.length cap B o):Rel c (.sl s xs own) (.slice (some ⟨B,o,none⟩) xs.length cap)
 |pin (s:Nat) (xs:List AV) (k off B o:Nat) (f:Nat->Value) (hs:∀x∈xs,x.cells.length=s)
   (hc:∀(j:Nat) a,(flat xs)[j]? = some a->c.cellP B (o+j) (f j)/\(f j).oneCell'=true) (hr:∀(j:Nat) a,(flat xs)[j]? = some a->Rel c a (f j)) :
   Rel c (.pin s xs k off) (.pointer (some ⟨B,o+(k * s+off),none⟩))
 |ptr (id k off:Nat) (x:Value) (hid:id<c.h.length) (ho:x.oneCell'=true)
   (h:∀ty s xs,c.h[id]? = some (.cells ty s xs)->∃B,c.ρ id=some B/\x = .pointer (some ⟨B,k * s+off,none⟩)):Rel c (.ptr id k off) x
 |arr (id lo len:Nat) (x:Value) (hid:id<c.h.length) (ho:x.oneCell'=true)
   (h:∀ty s xs,c.h[id]? = some (.cells ty s xs)->∃B cap,c.ρ id=some B/\x = .slice (some ⟨B,lo * s,none⟩) len cap/\len<=cap/\cap<=maxLen/\∃cur,c.w.heap[B]? = some (.cells cur ty (0,0))/\(lo+cap) * s<=cur.size):Rel c (.arr id lo len) x
 |row (id lo len cap:Nat) (x:Value) (hid:id<c.h.length) (ho:x.oneCell'=true)
   (h:∀ty s xs,c.h[id]? = some (.cells ty s xs)->∃B cur,c.ρ id=some B/\x = .slice (some ⟨B,lo * s,none⟩) len cap/\len<=cap/\cap<=maxLen/\c.w.heap[B]? = some (.cells cur ty (0,0))/\(lo+cap) * s<=cur.size):Rel c (.row id lo len cap) x
 |mp (id:Nat) (x:Value) (hid:id<c.h.length) (ho:x.oneCell'=true)
   (h:(∀es,c.h[id]? = some (.map es)->∃B,c.ρ id=some B/\x = .map (some B))/\(∀i,c.h[id]? = some (.loop i)->∃B,c.ρ id=some B/\x = .func (.yield B) #[] #[])/\∀s p,c.h[id]? = some (.iter s p)->∃B,c.ρ id=some B/\x = .pointer (some ⟨B,0,none⟩)):Rel c (.mp id) x
 |fn (f:Fn) (first cap:List AV) (vs ws:Array Value) (h1:vs.size=first.length) (h2:ws.size=cap.length)
   (hv:∀(j:Nat) a u,first[j]? = some a->vs[j]? = some u->Rel c a u) (hw:∀(j:Nat) a u,cap[j]? = some a->ws[j]? = some u->Rel c a u):Rel c (.fn f first cap) (.func f vs ws)
 |ifc (t:TypeId) (a:AV) (u:Value) (h:Rel c a u):Rel c (.ifc t a) (.iface t u)
 |spt (s:Nat) (xs:List AV) (own:Option Nat) (p:Option Addr) (n k:Nat) (h:Rel c (.sl s xs own) (.slice p n k)):Rel c (.spt s xs own) (.pointer p)
def BR(c:Cx)(id:Nat):AB->Prop
 | .cells ty s xs=>∃B cur,c.ρ id=some B/\c.w.heap[B]? = some (.cells cur ty (0,0))/\(∀x∈xs,x.cells.length=s) /\
   (∀(j:Nat) a,(flat xs)[j]? = some a->∃u,cur[j]? = some u/\u.oneCell'=true/\Rel c a u)
 | .grow e s n=>∀B,c.ρ id=some B->∃cur,c.w.heap[B]? = some (.cells cur e (0,0))/\n * s<=cur.size
 | .map es=>∃B ents clock,c.ρ id=some B/\c.w.heap[B]? = some (.map ents clock)/\ents.size=es.length /\
   ∀(j:Nat) kv e,es[j]? = some kv->ents[j]? = some e->e.key=kv.1/\Rel c kv.2 e.val
 | .loop i=>∃B r,c.ρ id=some B/\c.w.heap[B]? = some (.loop r)/\(r.state=i.st/\r.pending=i.pend/\r.params=i.params/\r.assign=i.assign/\r.body=i.body/\r.tmps.size=i.N)/\∀t,Rel c (i.tm t) (r.tmps.getD t undef)
 | .iter s p=>∃B,c.ρ id=some B/\c.w.heap[B]? = some (.stringIter s p)
 | .glob g cs ty fr=>c.ρ id=some g/\c.w.heap[g]? = some (.cells cs ty fr)
 | .dead=>True
 | .gone=>True
structure St (c:Cx):Prop where
 blocks:∀(id:Nat) b,c.h[id]? = some b->BR c id b
 inj:∀(i j:Nat) a b B,c.h[i]? = some a->c.h[j]? = some b->a.live=true->b.live=true->c.ρ i=some B->c.ρ j=some B->i=j
def Kin(c c':Cx)(id:Nat):AB->AB->Prop
 | .cells ty s _,b'=>b' = .dead\/∃xs',b' = .cells ty s xs'/\c'.ρ id=c.ρ id/\∀B cur,c.ρ id=some B->c.w.heap[B]? = some (.cells cur ty (0,0))->∃cur',c'.w.heap[B]? = some (.cells cur' ty (0,0))/\cur'.size=cur.size
 | .grow e s n,b'=>(b' = .gone/\∀B cur,c.ρ id=some B->c.w.heap[B]? = some (.cells cur e (0,0))->∃cur' fr,c'.w.heap[B]? = some (.cells cur' e fr)/\∀j,j<n * s->cur'[j]? = cur[j]?) \/
   ∃n',b' = .grow e s n'/\n<=n'/\(n'=n->c'.ρ id=c.ρ id)/\(∀B,c'.ρ id=some B->c.ρ id=some B\/c.w.heap.size<=B) /\
   ∀B cur,c.ρ id=some B->c.w.heap[B]? = some (.cells cur e (0,0))->∃cur',c'.w.heap[B]? = some (.cells cur' e (0,0))/\cur'.size=cur.size/\∀j,j<n * s->cur'[j]? = cur[j]?
 | .map _,b'=>∃es',b' = .map es'/\c'.ρ id=c.ρ id
 | .loop _,b'=>∃i',b' = .loop i'/\c'.ρ id=c.ρ id
 | .iter s _,b'=>∃p',b' = .iter s p'/\c'.ρ id=c.ρ id
 | .glob g cs ty fr,b'=>b' = .glob g cs ty fr/\c'.ρ id=c.ρ id/\∀B,c.ρ id=some B->c'.w.heap[B]? = c.w.heap[B]?
 | .dead,b'=>b' = .dead
 | .gone,b'=>b' = .gone
def Cx.took(c c':Cx)(B:Nat):Prop:=∃i ty s xs,c.h[i]? = some (.cells ty s xs)/\c.ρ i=some B/\c'.h[i]? = some .dead
structure Ev (c c':Cx):Prop where
 os:c'.w.os=c.w.os
 tape:c'.w.tape=c.w.tape
 output:c'.w.output=c.w.output
 size:c.w.heap.size<=c'.w.heap.size
 len:c.h.length<=c'.h.length
 frame:∀B,B<c.w.heap.size->¬c.owns B->c'.w.heap[B]? = c.w.heap[B]?
 kin:∀(id:Nat) b,c.h[id]? = some b->∃b',c'.h[id]? = some b'/\Kin c c' id b b'
 fresh:∀(id B:Nat) b,c.h.length<=id->c'.h[id]? = some b->b.live=true->c'.ρ id=some B->c.w.heap.size<=B\/c.took c' B
theorem Qf{α:Type}{l:List α}{i:Nat}{a:α}(h:l[i]? = some a):i<l.length:=by
 rcases QAR i l.length with h'|h'
 ·exact h'
 ·rw[QzR h']at h;cases h
theorem Kin.live{c c':Cx}{id:Nat}{b b':AB}(h:Kin c c' id b b')(hl:b'.live=true):b.live=true:=by
 cases b <;> simp only[Kin]at h
 ·rfl
 ·rfl
 ·rfl
 ·rfl
 ·rfl
 ·rfl
 ·subst h;exact hl
 ·subst h;exact hl
theorem Kin.owns{c c':Cx}{id:Nat}{b b':AB}(h:Kin c c' id b b')(hb:b'.live=true){B:Nat}(hB:c'.ρ id=some B):c.ρ id=some B\/c.w.heap.size<=B:=by
 cases b <;> simp only[Kin]at h
 ·rcases h with rfl|⟨_,rfl,h,_⟩
  ·cases hb
  ·rw[<-h];exact .inl hB
 ·rcases h with⟨rfl,_⟩|⟨_,rfl,_,_,h,_⟩
  ·cases hb
  ·exact h B hB
 ·obtain⟨_,rfl,h⟩:=h;rw[<-h];exact .inl hB
 ·obtain⟨_,rfl,h⟩:=h;rw[<-h];exact .inl hB
 ·obtain⟨_,rfl,h⟩:=h;rw[<-h];exact .inl hB
 ·obtain⟨rfl,h,_⟩:=h;rw[<-h];exact .inl hB
 ·subst h;cases hb
 ·subst h;cases hb
theorem Kin.of_cells{c c':Cx}{id:Nat}{b:AB}{ty:TypeId}{s:Nat}{xs':List AV}(h:Kin c c' id b (.cells ty s xs')) :
  ∃xs,b = .cells ty s xs/\c'.ρ id=c.ρ id/\∀B cur,c.ρ id=some B->c.w.heap[B]? = some (.cells cur ty (0,0))->∃cur',c'.w.heap[B]? = some (.cells cur' ty (0,0))/\cur'.size=cur.size:=by
 cases b <;> simp only[Kin]at h
 ·rcases h with h|⟨_,he,h⟩
  ·cases h
  ·cases he;exact⟨_,rfl,h⟩
 ·rcases h with⟨he,_⟩|⟨_,he,_⟩ <;> cases he
 ·obtain⟨_,he,_⟩:=h;cases he
 ·obtain⟨_,he,_⟩:=h;cases he
 ·obtain⟨_,he,_⟩:=h;cases he
 ·obtain⟨he,_⟩:=h;cases he
 ·cases h
 ·cases h
theorem Kin.QxY{c c':Cx}{id:Nat}{b:AB}{e:TypeId}{s n':Nat}(h:Kin c c' id b (.grow e s n')):∃n,b = .grow e s n:=by
 cases b <;> simp only[Kin]at h
 ·rcases h with h|⟨_,he,h⟩
  ·cases h
  ·cases he
 ·rcases h with⟨he,_⟩|⟨_,he,_⟩ <;> cases he
  exact⟨_,rfl⟩
 ·obtain⟨_,he,_⟩:=h;cases he
 ·obtain⟨_,he,_⟩:=h;cases he
 ·obtain⟨_,he,_⟩:=h;cases he
 ·obtain⟨he,_⟩:=h;cases he
 ·cases h
 ·cases h
theorem Kin.of_map{c c':Cx}{id:Nat}{b:AB}{es':List (Value×AV)}(h:Kin c c' id b (.map es')):∃es,b = .map es/\c'.ρ id=c.ρ id:=by
 cases b <;> simp only[Kin]at h
 ·rcases h with h|⟨_,he,h⟩
  ·cases h
  ·cases he
 ·rcases h with⟨he,_⟩|⟨_,he,_⟩ <;> cases he
 ·obtain⟨_,he,h⟩:=h;cases he;exact⟨_,rfl,h⟩
 ·obtain⟨_,he,_⟩:=h;cases he
 ·obtain⟨_,he,_⟩:=h;cases he
 ·obtain⟨he,_⟩:=h;cases he
 ·cases h
 ·cases h
theorem Kin.Qya{c c':Cx}{id:Nat}{b:AB}{i':LoopA}(h:Kin c c' id b (.loop i')):∃i,b = .loop i/\c'.ρ id=c.ρ id:=by
 cases b <;> simp only[Kin]at h
 ·rcases h with h|⟨_,he,h⟩
  ·cases h
  ·cases he
 ·rcases h with⟨he,_⟩|⟨_,he,_⟩ <;> cases he
 ·obtain⟨_,he,_⟩:=h;cases he
 ·obtain⟨_,he,h⟩:=h;cases he;exact⟨_,rfl,h⟩
 ·obtain⟨_,he,_⟩:=h;cases he
 ·obtain⟨he,_⟩:=h;cases he
 ·cases h
 ·cases h
theorem Kin.Qx9{c c':Cx}{id:Nat}{b:AB}{s:ByteArray}{p':Nat}(h:Kin c c' id b (.iter s p')):∃p,b = .iter s p/\c'.ρ id=c.ρ id:=by
 cases b <;> simp only[Kin]at h
 ·rcases h with h|⟨_,he,h⟩
  ·cases h
  ·cases he
 ·rcases h with⟨he,_⟩|⟨_,he,_⟩ <;> cases he
 ·obtain⟨_,he,_⟩:=h;cases he
 ·obtain⟨_,he,_⟩:=h;cases he
 ·obtain⟨_,he,h⟩:=h;cases he;exact⟨_,rfl,h⟩
 ·obtain⟨he,_⟩:=h;cases he
 ·cases h
 ·cases h
theorem Kin.tok{c c':Cx}{id:Nat}{b b':AB}(h:Kin c c' id b b')(ht:b.tok=true):b'.tok=true:=by
 cases b <;> simp only[Kin]at h
 ·cases ht
 ·rcases h with⟨rfl,_⟩|⟨_,rfl,_⟩ <;> rfl
 ·obtain⟨_,rfl,_⟩:=h;rfl
 ·obtain⟨_,rfl,_⟩:=h;rfl
 ·obtain⟨_,rfl,_⟩:=h;rfl
 ·obtain⟨rfl,_⟩:=h;rfl
 ·subst h;rfl
 ·cases ht
theorem Ev.owns{c c':Cx}(h:Ev c c'){B:Nat}(hB:B<c.w.heap.size)(ho:c'.owns B):c.owns B:=by
 obtain⟨id,b',hb',hl,hρ⟩:=ho
 rcases QAR id c.h.length with hi|hi
 ·obtain⟨b,hb⟩:∃b,c.h[id]? = some b:=⟨_,Qzg hi⟩
  obtain⟨b'',hb'',hk⟩:=h.kin id b hb
  rw[hb']at hb'';cases hb''
  have hl':b.live=true:=hk.live hl
  rcases hk.owns hl hρ with h1|h1
  ·exact⟨id,b,hb,hl',h1⟩
  ·omega
 ·rcases h.fresh id B _ hi hb' hl hρ with h1|⟨i,ty,s,xs,h1,h2,_⟩
  ·omega
  ·exact⟨i,_,h1,rfl,h2⟩
theorem Ev.prot{c c':Cx}(h:Ev c c'){B o:Nat}(hp:c.prot B o):c'.prot B o:=by
 refine⟨QzI hp.1 h.size,?_⟩
 intro id b' hb' hl hρ
 have hB:=hp.1
 rcases QAR id c.h.length with hi|hi
 ·obtain⟨b,hb⟩:∃b,c.h[id]? = some b:=⟨_,Qzg hi⟩
  obtain⟨b'',hb'',hk⟩:=h.kin id b hb
  rw[hb']at hb'';cases hb''
  have hl':b.live=true:=hk.live hl
  have hρ':c.ρ id=some B:=by
   rcases hk.owns hl hρ with h1|h1
   ·exact h1
   ·omega
  rcases hp.2 id b hb hl' hρ' with⟨e,s,n,rfl,hlt⟩|⟨g,cs,ty,fr,rfl⟩
  case inr =>
   simp only[Kin]at hk
   exact .inr ⟨g,cs,ty,fr,hk.1⟩
  simp only[Kin]at hk
  rcases hk with⟨rfl,_⟩|⟨n',rfl,hn,_⟩
  ·cases hl
  exact .inl ⟨e,s,n',rfl,QzI hlt (QzK _ hn)⟩
 ·rcases h.fresh id B _ hi hb' hl hρ with h1|⟨i,ty,s,xs,h1,h2,_⟩
  ·omega
  ·rcases hp.2 i _ h1 rfl h2 with⟨_,_,_,e,_⟩|⟨_,_,_,_,e⟩ <;> cases e
theorem XC{w:World}{B o:Nat}{cur:Array Value}{t:TypeId}{fr:Nat×Nat}(h:w.heap[B]? = some (.cells cur t fr)):w.cell? ⟨B,o,none⟩=cur[o]? := by
 simp[World.cell?,h]
theorem Ev.cell{c c':Cx}(h:Ev c c'){B o:Nat}(hs:St c)(hp:c.prot B o):c'.w.cell? ⟨B,o,none⟩=c.w.cell? ⟨B,o,none⟩:=by
 by_cases ho:c.owns B
 ·obtain⟨id,b,hb,hl,hρ⟩:=ho
  rcases hp.2 id b hb hl hρ with⟨e,s,n,rfl,hlt⟩|⟨g,cs,ty,fr,rfl⟩
  case inr =>
   obtain⟨b',hb',hk⟩:=h.kin id _ hb
   simp only[Kin]at hk
   obtain⟨h1,h2⟩:=hs.blocks id _ hb
   obtain rfl:=QAH (h1.symm.trans hρ)
   simp only[World.cell?,hk.2.2 _ h1]
  obtain⟨b',hb',hk⟩:=h.kin id _ hb
  simp only[Kin]at hk
  obtain⟨cur,hc,_⟩:=hs.blocks id _ hb B hρ
  rcases hk with⟨rfl,hk⟩|⟨n',rfl,_,_,_,hk⟩
  ·obtain⟨cur',fr,hc',hj⟩:=hk B cur hρ hc
   rw[XC hc,XC hc',hj o hlt]
  obtain⟨cur',hc',_,hj⟩:=hk B cur hρ hc
  rw[XC hc,XC hc',hj o hlt]
 ·exact World.cell?_of_block (w:=c.w) (h.frame B hp.1 ho)
theorem Ev.cellP{c c':Cx}(h:Ev c c')(hs:St c){B o:Nat}{u:Value}(hp:c.cellP B o u):c'.cellP B o u :=
 ⟨(h.cell hs hp.2).trans hp.1,h.prot hp.2⟩
theorem Ev.get{c c':Cx}(h:Ev c c'){id:Nat}(hi:id<c.h.length){b':AB}(hb':c'.h[id]? = some b'):∃b,c.h[id]? = some b/\Kin c c' id b b':=by
 obtain⟨b,hb⟩:∃b,c.h[id]? = some b:=⟨_,Qzg hi⟩
 obtain⟨b'',hb'',hk⟩:=h.kin id b hb
 rw[hb']at hb'';cases hb''
 exact⟨b,hb,hk⟩
theorem Ev.tokAt{c c':Cx}(h:Ev c c'){b s len cap B o:Nat}(ht:c.tokAt b s len cap B o):c'.tokAt b s len cap B o:=by
 obtain⟨⟨hlt,x,hx,hxt⟩,ht⟩:=ht
 refine⟨⟨QzI hlt h.len,?_⟩,?_⟩
 ·obtain⟨x',hx',hk⟩:=h.kin b x hx
  exact⟨x',hx',hk.tok hxt⟩
 intro e s' n hb'
 obtain⟨b0,hb,hk⟩:=h.get hlt hb'
 obtain⟨n0,rfl⟩:=hk.QxY
 simp only[Kin]at hk
 rcases hk with⟨he,_⟩|⟨n',he,hn,h1,_,h3⟩
 ·cases he
 cases he
 obtain⟨h4,h5,h6⟩:=ht _ _ _ hb
 refine⟨h4,QzL h5 hn,fun hnl=>?_⟩
 have e1:n0=len:=by omega
 obtain⟨h7,h8,h9,h10,cur,h11,h12⟩:=h6 e1
 obtain⟨cur',h13,h14,_⟩:=h3 B cur h8 h11
 exact⟨h7,(h1 (by omega)).trans h8,h9,h10,cur',h13,h14.trans h12⟩
theorem Ev.tokNil{c c':Cx}(h:Ev c c'){b s:Nat}(ht:c.tokNil b s):c'.tokNil b s:=by
 refine⟨QzI ht.1 h.len,?_⟩
 intro e s' n hb'
 obtain⟨b0,hb,hk⟩:=h.get ht.1 hb'
 obtain⟨n0,rfl⟩:=hk.QxY
 simp only[Kin]at hk
 rcases hk with⟨he,_⟩|⟨n',he,hn,h1,_,h3⟩
 ·cases he
 cases he
 obtain⟨h4,h5⟩:=ht.2 _ _ _ hb
 exact⟨h4,fun hn0=>(h1 (by omega)).trans (h5 (by omega))⟩
theorem Rel.ev{c c':Cx}(hs:St c)(h:Ev c c'){a:AV}{x:Value}(hr:Rel c a x):Rel c' a x:=by
 induction hr with
 |v x=>exact .v x
 |junk x=>exact .junk x
 |agg l cs hl _ ih=>exact .agg l cs hl ih
 |tup l cs hl _ ih=>exact .tup l cs hl ih
 |slnil s own ht=>exact .slnil s own fun b hb=>h.tokNil (ht b hb)
 |slzero s own ba ht=>exact .slzero s own ba fun b hb=>h.tokNil (ht b hb)
 |sl s xs own B o cap f hs' hcap hmax hc _ ht ih =>
  exact .sl s xs own B o cap f hs' hcap hmax (fun j a hj=>⟨h.cellP hs (hc j a hj).1,(hc j a hj).2⟩) ih fun b hb=>h.tokAt (ht b hb)
 |pin s xs k off B o f hs' hc _ ih=>exact .pin s xs k off B o f hs' (fun j a hj=>⟨h.cellP hs (hc j a hj).1,(hc j a hj).2⟩) ih
 |ptr id k off x hid ho h1 =>
  refine .ptr id k off x (QzI hid h.len) ho fun ty s xs hb'=>?_
  obtain⟨b,hb,hk⟩:=h.get hid hb'
  obtain⟨xs0,rfl,hρ,_⟩:=hk.of_cells
  rw[hρ];exact h1 _ _ _ hb
 |arr id lo len x hid ho h1 =>
  refine .arr id lo len x (QzI hid h.len) ho fun ty s xs hb'=>?_
  obtain⟨b,hb,hk⟩:=h.get hid hb'
  obtain⟨xs0,rfl,hρ,hsz⟩:=hk.of_cells
  obtain⟨B,cap,g1,g2,g3,g4,cur,g5,g6⟩:=h1 _ _ _ hb
  obtain⟨cur',g7,g8⟩:=hsz B cur g1 g5
  exact⟨B,cap,by rw[hρ];exact g1,g2,g3,g4,cur',g7,by rw[g8];exact g6⟩
 |row id lo len cap x hid ho h1 =>
  refine .row id lo len cap x (QzI hid h.len) ho fun ty s xs hb'=>?_
  obtain⟨b,hb,hk⟩:=h.get hid hb'
  obtain⟨xs0,rfl,hρ,hsz⟩:=hk.of_cells
  obtain⟨B,cur,g1,g2,g3,g4,g5,g6⟩:=h1 _ _ _ hb
  obtain⟨cur',g7,g8⟩:=hsz B cur g1 g5
  exact⟨B,cur',by rw[hρ];exact g1,g2,g3,g4,g7,by rw[g8];exact g6⟩
 |mp id x hid ho h1 =>
  refine .mp id x (QzI hid h.len) ho ⟨fun es hb'=>?_,fun i hb'=>?_,fun s p hb'=>?_⟩
  ·obtain⟨b,hb,hk⟩:=h.get hid hb'
   obtain⟨es0,rfl,hρ⟩:=hk.of_map
   rw[hρ];exact h1.1 _ hb
  ·obtain⟨b,hb,hk⟩:=h.get hid hb'
   obtain⟨i0,rfl,hρ⟩:=hk.Qya
   rw[hρ];exact h1.2.1 _ hb
  ·obtain⟨b,hb,hk⟩:=h.get hid hb'
   obtain⟨p0,rfl,hρ⟩:=hk.Qx9
   rw[hρ];exact h1.2.2 _ _ hb
 |fn f first cap vs ws h1 h2 _ _ ihv ihw=>exact .fn f first cap vs ws h1 h2 ihv ihw
 |ifc t a u _ ih=>exact .ifc t a u ih
 |spt s xs own p n k _ ih=>exact .spt s xs own p n k ih
theorem Kin.refl(c:Cx)(id:Nat)(b:AB):Kin c c id b b:=by
 cases b with
 |cells ty s xs=>exact .inr ⟨xs,rfl,rfl,fun B cur _ h=>⟨cur,h,rfl⟩⟩
 |grow e s n=>exact .inr ⟨n,rfl,Qzl _,fun _=>rfl,fun B hB=>.inl hB,fun B cur _ h=>⟨cur,h,rfl,fun _ _=>rfl⟩⟩
 |map es=>exact⟨es,rfl,rfl⟩
 |loop i=>exact⟨i,rfl,rfl⟩
 |iter s p=>exact⟨p,rfl,rfl⟩
 |glob g cs ty fr=>exact⟨rfl,rfl,fun _ _=>rfl⟩
 |dead=>rfl
 |gone=>rfl
theorem Ev.refl(c:Cx):Ev c c :=
 ⟨rfl,rfl,rfl,Qzl _,Qzl _,fun _ _ _=>rfl,fun id b hb=>⟨b,hb,Kin.refl c id b⟩,fun id B b h1 h2=>by have:=Qf h2;omega⟩
theorem Kin.trans{c c1 c2:Cx}{id:Nat}{b b1 b2:AB}(h01:c.w.heap.size<=c1.w.heap.size)(h:Kin c c1 id b b1)(k:Kin c1 c2 id b1 b2)
  (hfr:∀B e s n cur,b = .grow e s n->c.ρ id=some B->c.w.heap[B]? = some (.cells cur e (0,0))->(b1 = .gone\/c1.ρ id≠some B)->c2.w.heap[B]? = c1.w.heap[B]?):Kin c c2 id b b2:=by
 cases b with
 |cells ty s xs =>
  simp only[Kin]at h
  rcases h with rfl|⟨xs1,rfl,h,h2⟩
  ·exact .inl k
  simp only[Kin]at k
  rcases k with rfl|⟨xs2,rfl,k,k2⟩
  ·exact .inl rfl
  refine .inr ⟨xs2,rfl,k.trans h,fun B cur e1 e2=>?_⟩
  obtain⟨cur1,e3,e4⟩:=h2 B cur e1 e2
  obtain⟨cur2,e5,e6⟩:=k2 B cur1 (by rw[h];exact e1) e3
  exact⟨cur2,e5,e6.trans e4⟩
 |map es =>
  simp only[Kin]at h
  obtain⟨xs1,rfl,h⟩:=h
  simp only[Kin]at k
  obtain⟨xs2,rfl,k⟩:=k
  exact⟨xs2,rfl,k.trans h⟩
 |loop i =>
  simp only[Kin]at h
  obtain⟨xs1,rfl,h⟩:=h
  simp only[Kin]at k
  obtain⟨xs2,rfl,k⟩:=k
  exact⟨xs2,rfl,k.trans h⟩
 |iter s p =>
  simp only[Kin]at h
  obtain⟨xs1,rfl,h⟩:=h
  simp only[Kin]at k
  obtain⟨xs2,rfl,k⟩:=k
  exact⟨xs2,rfl,k.trans h⟩
 |glob g cs ty fr =>
  simp only[Kin]at h
  obtain⟨rfl,h,h2⟩:=h
  simp only[Kin]at k
  obtain⟨rfl,k,k2⟩:=k
  exact⟨rfl,k.trans h,fun B e=>(k2 B (by rw[h];exact e)).trans (h2 B e)⟩
 |dead=>simp only[Kin]at h;subst h;exact k
 |gone=>simp only[Kin]at h;subst h;exact k
 |grow e s n =>
  simp only[Kin]at h
  rcases h with⟨rfl,h4⟩|⟨n1,rfl,h1,h2,h3,h4⟩
  ·simp only[Kin]at k
   refine .inl ⟨k,fun B cur hρ hc=>?_⟩
   obtain⟨cur1,fr1,hc1,hj1⟩:=h4 B cur hρ hc
   exact⟨cur1,fr1,(hfr B e s n cur rfl hρ hc (.inl rfl)).trans hc1,hj1⟩
  simp only[Kin]at k
  rcases k with⟨rfl,k4⟩|⟨n2,rfl,k1,k2,k3,k4⟩
  ·refine .inl ⟨rfl,fun B cur hρ hc=>?_⟩
   obtain⟨cur1,hc1,hz1,hj1⟩:=h4 B cur hρ hc
   by_cases hρ1:c1.ρ id=some B
   ·obtain⟨cur2,fr2,hc2,hj2⟩:=k4 B cur1 hρ1 hc1
    exact⟨cur2,fr2,hc2,fun j hj=>(hj2 j (QzI hj (QzK _ h1))).trans (hj1 j hj)⟩
   ·exact⟨cur1,_,(hfr B e s n cur rfl hρ hc (.inr hρ1)).trans hc1,hj1⟩
  refine .inr ⟨n2,rfl,QzL h1 k1,fun e=>(k2 (by omega)).trans (h2 (by omega)),fun B hB=>?_,fun B cur hρ hc=>?_⟩
  ·rcases k3 B hB with h5|h5
   ·exact h3 B h5
   ·exact .inr (QzL h01 h5)
  ·obtain⟨cur1,hc1,hz1,hj1⟩:=h4 B cur hρ hc
   by_cases hρ1:c1.ρ id=some B
   ·obtain⟨cur2,hc2,hz2,hj2⟩:=k4 B cur1 hρ1 hc1
    exact⟨cur2,hc2,hz2.trans hz1,fun j hj=>(hj2 j (QzI hj (QzK _ h1))).trans (hj1 j hj)⟩
   ·exact⟨cur1,(hfr B e s n cur rfl hρ hc (.inr hρ1)).trans hc1,hz1,hj1⟩
theorem Ev.dead{c c':Cx}(h:Ev c c'){i:Nat}(hi:c.h[i]? = some .dead):c'.h[i]? = some .dead:=by
 obtain⟨b,hb,hk⟩:=h.kin i _ hi
 simp only[Kin]at hk
 rw[hb,hk]
theorem Ev.trans{c c1 c2:Cx}(hs1:St c)(h:Ev c c1)(k:Ev c1 c2):Ev c c2:=by
 refine⟨k.os.trans h.os,k.tape.trans h.tape,k.output.trans h.output,QzL h.size k.size,QzL h.len k.len,?_,?_,?_⟩
 ·intro B hB ho
  have ho1:¬c1.owns B:=fun e=>ho (h.owns hB e)
  exact(k.frame B (QzI hB h.size) ho1).trans (h.frame B hB ho)
 ·intro id b hb
  obtain⟨b1,hb1,hk⟩:=h.kin id b hb
  obtain⟨b2,hb2,kk⟩:=k.kin id b1 hb1
  refine⟨b2,hb2,hk.trans h.size kk ?_⟩
  intro B e s n cur e1 hρ hc hne
  subst e1
  have hB:B<c.w.heap.size:=(Qzs.1 hc).1
  refine k.frame B (QzI hB h.size) ?_
  rintro⟨id',b',hb',hl',hρ'⟩
  -- the block B is owned by id in c; by id' in c1
  rcases QAR id' c.h.length with hi|hi
  ·obtain⟨b0,hb0,hk0⟩:=h.get hi hb'
   have hl0:b0.live=true:=hk0.live hl'
   rcases hk0.owns hl' hρ' with h5|h5
   ·have:=hs1.inj id' id b0 _ B hb0 hb hl0 rfl h5 hρ
    subst this
    rcases hne with rfl|hne
    ·rw[hb1]at hb';cases hb';cases hl'
    ·exact hne hρ'
   ·omega
  ·rcases h.fresh id' B _ hi hb' hl' hρ' with h1|⟨i,ty,s',xs,h1,h2,_⟩
   ·omega
   ·have:=hs1.inj i id _ _ B h1 hb rfl rfl h2 hρ
    subst this
    rw[hb]at h1;cases h1
 ·intro id B b2 h1 h2 hl2 hρ
  rcases QAR id c1.h.length with hi|hi
  ·obtain⟨b1,hb1⟩:∃b,c1.h[id]? = some b:=⟨_,Qzg hi⟩
   obtain⟨b2',hb2,kk⟩:=k.kin id b1 hb1
   rw[h2]at hb2;cases hb2
   have hl:b1.live=true:=kk.live hl2
   rcases kk.owns hl2 hρ with h5|h5
   ·rcases h.fresh id B _ h1 hb1 hl h5 with h6|⟨i,ty,s,xs,h6,h7,h8⟩
    ·exact .inl h6
    ·exact .inr ⟨i,ty,s,xs,h6,h7,k.dead h8⟩
   ·exact .inl (QzL h.size h5)
  ·rcases k.fresh id B _ hi h2 hl2 hρ with h6|⟨i,ty,s,xs,h6,h7,h8⟩
   ·exact .inl (QzL h.size h6)
   ·rcases QAR i c.h.length with hi'|hi'
    ·obtain⟨b0,hb0,hk0⟩:=h.get hi' h6
     obtain⟨xs0,rfl,hr,_⟩:=hk0.of_cells
     exact .inr ⟨i,ty,s,xs0,hb0,hr.symm.trans h7,h8⟩
    ·rcases h.fresh i B _ hi' h6 rfl h7 with h9|⟨j,ty',s',xs',h9,h10,h11⟩
     ·exact .inl h9
     ·exact .inr ⟨j,ty',s',xs',h9,h10,k.dead h11⟩
end Go.Proofs.YtenheconhibonaaGreatDoor.Ab
namespace Go.Proofs.YtenheconhibonaaGreatDoor.Ab
structure AS where
 tm:Nat->AV
 h:AH
def upd(f:Nat->AV)(d:Nat)(x:AV):Nat->AV:=fun t=>if t=d then x else f t
@[simp] theorem upd_same (f:Nat->AV) (d:Nat) (x:AV):upd f d x d=x:=by simp[upd]
theorem upd_ne(f:Nat->AV){d t:Nat}(x:AV)(h:t≠d):upd f d x t=f t:=by simp[upd,h]
def AV.ofV:Value->AV
 | .agg cs=>.agg (cs.toList.map .v)
 | .func f a b=>.fn f (a.toList.map .v) (b.toList.map .v)
 |x=>.v x
def AS.ev(s:AS):Operand->AV
 | .tmp t=>s.tm t
 | .const v=>AV.ofV v
 | .global g=>.v (.pointer (some ⟨g,0,none⟩))
 | .func f=>.fn (.func f) [] []
def AS.put(N:Nat)(s:AS)(d:Option Tmp)(x:AV):AS :=
 match d with
 |some d=>if d<N then{s with tm:=upd s.tm d x} else s
 |none=>s
theorem Qbb(c:Cx)(x:Value):Rel c (AV.ofV x) x:=by
 cases x with
 |agg cs =>
  refine .agg _ cs (by simp) ?_
  intro j a u ha hu
  simp only[QzN,QAd,hu]at ha
  cases ha
  exact .v u
 |func f a b =>
  refine .fn f _ _ a b (by simp) (by simp) ?_ ?_
  ·intro j x u hx hu
   simp only[QzN,QAd,hu]at hx
   cases hx
   exact .v u
  ·intro j x u hx hu
   simp only[QzN,QAd,hu]at hx
   cases hx
   exact .v u
 |_=>exact .v _
def Qny(D:Nat):Deferred:={target:=.collected D,args:=#[]}
structure Bs where
 lo:Nat
 tail:List Deferred
def DefOk(c:Cx)(base:Bs)(ds:List Deferred):Prop :=
 ∃Ds:List Nat,ds=Ds.map Qny++base.tail/\Ds.Nodup/\∀D∈Ds,base.lo<=D/\c.w.heap[D]? = some (.deferred (some []))/\¬c.owns D
theorem DefOk.ev{c c':Cx}(h:Ev c c'){base:Bs}{ds:List Deferred}(hd:DefOk c base ds):DefOk c' base ds:=by
 obtain⟨Ds,e,hn,hall⟩:=hd
 refine⟨Ds,e,hn,fun D hm=>?_⟩
 obtain⟨hb,hD,ho⟩:=hall D hm
 have hlt:=(Qzs.1 hD).1
 exact⟨hb,(h.frame D hlt ho).trans hD,fun ho'=>ho (h.owns hlt ho')⟩
def RoundOk(F:Fence)(c:Cx):Prop:=∀l,F.round=some l->∃id i,c.h[id]? = some (.loop i)/\c.ρ id=some l
theorem RoundOk.ev{F:Fence}{c c':Cx}(h:Ev c c')(hr:RoundOk F c):RoundOk F c':=by
 intro l hl
 obtain⟨id,i,h1,h2⟩:=hr l hl
 obtain⟨b',hb,hk⟩:=h.kin id _ h1
 simp only[Kin]at hk
 obtain⟨i',rfl,hρ⟩:=hk
 exact⟨id,i',hb,hρ.trans h2⟩
structure SR (N:Nat) (base:Bs×Fence) (c:Cx) (s:AS) (a:Act):Prop where
 h:c.h=s.h
 size:a.tmps.size=N
 above:base.1.lo<=c.w.heap.size
 defers:DefOk c base.1 a.defers
 round:RoundOk base.2 c
 tm:∀t,Rel c (s.tm t) (a.tmps.getD t undef)
theorem SR.eval{N:Nat}{base:Bs×Fence}{c:Cx}{s:AS}{a:Act}(h:SR N base c s a)(x:Operand):Rel c (s.ev x) (a.eval x):=by
 cases x with
 |tmp t=>exact h.tm t
 |const v=>exact Qbb c v
 |global g=>exact .v _
 |func f=>exact .fn _ [] [] #[] #[] rfl rfl (fun j a u h=>by simp at h) (fun j a u h=>by simp at h)
theorem SR.put{N:Nat}{base:Bs×Fence}{c c':Cx}{s:AS}{a:Act}(h:SR N base c s a)(hs:St c)(he:Ev c c')(d:Option Tmp){r:AV}{x:Value}(hr:Rel c' r x) :
  SR N base c' (AS.put N {s with h:=c'.h} d r) (a.put d x):=by
 cases d with
 |none=>exact⟨rfl,h.size,QzL h.above he.size,h.defers.ev he,RoundOk.ev he h.round,fun t=>(h.tm t).ev hs he⟩
 |some d =>
  by_cases hd:d<N
  ·simp only[AS.put,Qzh hd]
   refine⟨rfl,by simp[Act.put,h.size],QzL h.above he.size,h.defers.ev he,RoundOk.ev he h.round,fun t=>?_⟩
   simp only[upd,Act.put]
   by_cases ht:t=d
   ·subst ht
    rw[Qzh rfl,Qzr,Qz9 (by rw[h.size];exact hd)]
    exact hr
   ·rw[Qzf ht,Qzr,Qz2 (fun e=>ht e.symm),<-Qzr]
    exact(h.tm t).ev hs he
  ·simp only[AS.put,Qzf hd]
   refine⟨rfl,by simp[Act.put,h.size],QzL h.above he.size,h.defers.ev he,RoundOk.ev he h.round,fun t=>?_⟩
   simp only[Act.put]
   have e:(a.tmps.setIfInBounds d x)=a.tmps:=by
    simp only[Array.setIfInBounds]
    rw[dif_neg (by rw[h.size];exact hd)]
   rw[e]
   exact(h.tm t).ev hs he
inductive AExit where
 |normal
 |exit (id:Nat)
 |ret
 |panic (x:AV)
def ExC(c:Cx):AExit->Exit->Prop
 | .normal,e=>e = .normal
 | .exit id,e=>e = .exit id
 | .ret,e=>e = .ret
 | .panic a,e=>∃x,e = .panic [{v:=x,recovered:=false}]/\Rel c a x
inductive AOut where
 |ret (x:AV)
 |panic (x:AV)
def EndC(c:Cx):AOut->Ending->Prop
 | .ret a,e=>∃x,e = .returned x/\Rel c a x
 | .panic a,e=>∃x,e = .panicked [{v:=x,recovered:=false}]/\Rel c a x
structure WF (F:Fence):Prop where
 fn:∀f,F.fn f
 depth:F.depth=none
 alive:F.alive=false
theorem WF.wide:WF Fence.wide:=⟨fun _=>trivial,rfl,rfl⟩
theorem WF.plain{F:Fence}(h:WF F):WF F.plain:=⟨h.fn,h.depth,h.alive⟩
def RelL(c:Cx)(args:List AV)(vals:Array Value):Prop :=
 vals.size=args.length/\∀(j:Nat) a u,args[j]? = some a->vals[j]? = some u->Rel c a u
theorem RelL.ev{c c':Cx}(hs:St c)(h:Ev c c'){args:List AV}{vals:Array Value}(hr:RelL c args vals):RelL c' args vals :=
 ⟨hr.1,fun j a u h1 h2=>(hr.2 j a u h1 h2).ev hs h⟩
def Qp(P:Program)(f:FuncId)(args:List AV)(h:AH)(Q:AOut->AH->Prop):Prop :=
 (∀vals w,(callFunc f vals).run P w = .ok (.enter f vals) w) /\
 ∀(F:Fence) (n:Nat) (c:Cx) (vals:Array Value),WF F->St c->c.h=h->RelL c args vals ->
  CallsIn F n P f vals c.w fun e w'=>∃o c',Q o c'.h/\Ev c c'/\St c'/\c'.w=w'/\EndC c' o e
def FunW(P:Program)(fv:AV)(args:List AV)(h:AH)(Q:AOut->AH->Prop):Prop :=
 ∀(F:Fence) (n:Nat) (c:Cx) (v:Value) (vals:Array Value),WF F->St c->c.h=h->Rel c fv v->RelL c args vals ->
  ∀(o:Oper) (a:Act) (next:Act->World->Prop) (Qx:Exit->Act->World->Prop),
   (∀r c' x,Q (.ret r) c'.h->Ev c c'->St c'->Rel c' r x->next (a.put o.dst x) c'.w) ->
   (∀r c' x,Q (.panic r) c'.h->Ev c c'->St c'->Rel c' r x->Qx (.panic [{v:=x,recovered:=false}]) a c'.w) ->
   o.uponIn F n P a next Qx ((do let d<-Deferred.ofValue v vals;invoke d.target d.args).run P c.w)
theorem FunW.mono{P:Program}{fv:AV}{args:List AV}{h:AH}{Q Q':AOut->AH->Prop}(H:FunW P fv args h Q)(hq:∀o h',Q o h'->Q' o h'):FunW P fv args h Q' :=
 fun F n c v vals hF hs hh hv hvs o a next Qx h1 h2=>H F n c v vals hF hs hh hv hvs o a next Qx (fun r c' x hQ=>h1 r c' x (hq _ _ hQ)) (fun r c' x hQ=>h2 r c' x (hq _ _ hQ))
theorem Qp.mono{P:Program}{f:FuncId}{args:List AV}{h:AH}{Q Q':AOut->AH->Prop}(H:Qp P f args h Q)(hq:∀o h',Q o h'->Q' o h'):Qp P f args h Q' :=
 ⟨H.1,fun F n c vals hF hs hh hvs=>(H.2 F n c vals hF hs hh hvs).mono fun _ _ ⟨o,c',hQ,rest⟩=>⟨o,c',hq _ _ hQ,rest⟩⟩
theorem RelL.append{c:Cx}{l m:List AV}{u v:Array Value}(h:RelL c l u)(k:RelL c m v):RelL c (l++m) (u++v):=by
 refine⟨by simp[h.1,k.1],fun j a x ha hx=>?_⟩
 rw[QzC]at ha
 rw[QAL,h.1]at hx
 split at ha
 ·rename_i hj;rw[Qzh hj]at hx;exact h.2 j a x ha hx
 ·rename_i hj;rw[Qzf hj]at hx;exact k.2 _ a x ha hx
theorem FunW.fn{P:Program}{f:FuncId}{first cap args:List AV}{h:AH}{Q:AOut->AH->Prop}(H:Qp P f (first++args++cap) h Q):FunW P (.fn (.func f) first cap) args h Q:=by
 intro F n c v vals hF hs hh hv hvs o a next Qx h1 h2
 cases hv with
 |fn _ _ _ vs ws e1 e2 hv1 hv2 =>
  have hall:RelL c (first++args++cap) (vs++vals++ws):=RelL.append (RelL.append ⟨e1,hv1⟩ hvs) ⟨e2,hv2⟩
  simp only[Deferred.ofValue,Sem.run_bind,Sem.run_pure,Result.andThen_ok,invoke,H.1]
  refine⟨fun hd=>by simp[hF.depth]at hd,(H.2 F (n - 1) c _ hF hs hh hall).mono ?_⟩
  rintro e w' ⟨out,c',hQ,hev,hst,rfl,hend⟩
  cases out with
  |ret r=>obtain⟨x,rfl,hx⟩:=hend;exact h1 r c' x hQ hev hst hx
  |panic r=>obtain⟨x,rfl,hx⟩:=hend;exact h2 r c' x hQ hev hst hx
def Xs(P:Program)(N:Nat)(code:Code)(Q:AExit->AS->Prop)(s:AS):Prop :=
 ∀(F:Fence) (n:Nat) (base:Bs) (c:Cx) (a:Act),WF F->St c->SR N (base,F) c s a ->
  ∀R:Exit->Act->World->Prop,(∀e s' c' a' e',Q e s'->Ev c c'->St c'->SR N (base,F) c' s' a'->ExC c' e e'->R e' a' c'.w) ->
   code.wpIn F n P R a c.w
def QZ(I:Nat->AS->Prop)(m:Nat)(s:AS):Prop:=∃m',m'<m/\I m' s
theorem QZ.mk{I:Nat->AS->Prop}{m m':Nat}{s:AS}(h:m'<m)(h':I m' s):QZ I m s:=⟨m',h,h'⟩
section rules
variable{P:Program}{N:Nat}{Q:AExit->AS->Prop}{s:AS}
theorem Xs.mono{code:Code}{Q':AExit->AS->Prop}(H:Xs P N code Q s)(hq:∀e s,Q e s->Q' e s):Xs P N code Q' s :=
 fun F n base c a hF hs hr R hR=>H F n base c a hF hs hr R fun e s' c' a' e' hQ=>hR e s' c' a' e' (hq _ _ hQ)
theorem Xu(h:Q .normal s):Xs P N .skip Q s :=
 fun F n base c a hF hs hr R hR=>wpIn_skip (hR _ _ c a _ h (Ev.refl c) hs hr rfl)
theorem QdT{l:Nat}(h:Q .normal s):Xs P N (.label l) Q s :=
 fun F n base c a hF hs hr R hR=>wpIn_label (hR _ _ c a _ h (Ev.refl c) hs hr rfl)
theorem Qah{id:Nat}(h:Q (.exit id) s):Xs P N (.exit id) Q s :=
 fun F n base c a hF hs hr R hR=>wpIn_exit (hR _ _ c a _ h (Ev.refl c) hs hr rfl)
theorem YH(h:Q .ret s):Xs P N .ret Q s :=
 fun F n base c a hF hs hr R hR=>wpIn_ret (hR _ _ c a _ h (Ev.refl c) hs hr rfl)
def AExit.then(K:AS->Prop)(Q:AExit->AS->Prop):AExit->AS->Prop
 | .normal,s=>K s
 |e,s=>Q e s
theorem Qav{x y:Code}(h:Xs P N x (AExit.then (Xs P N y Q) Q) s):Xs P N (.seq x y) Q s:=by
 intro F n base c a hF hs hr R hR
 refine wpIn_seq (h F n base c a hF hs hr _ ?_)
 intro e s' c' a' e' hQ hev hst hsr hex
 cases e with
 |normal =>
  cases hex
  exact hQ F n base c' a' hF hst hsr R fun e s2 c2 a2 e2 hQ2 hev2 hst2 hsr2 hex2=>hR e s2 c2 a2 e2 hQ2 (Ev.trans hs hev hev2) hst2 hsr2 hex2
 |exit id=>cases hex;exact hR _ s' c' a' _ hQ hev hst hsr rfl
 |ret=>cases hex;exact hR _ s' c' a' _ hQ hev hst hsr rfl
 |panic av=>obtain⟨x,rfl,hx⟩:=hex;exact hR _ s' c' a' _ hQ hev hst hsr ⟨x,rfl,hx⟩
theorem QN{x y:Code}(h:∀K:AS->Prop,(∀s,Xs P N y Q s->K s)->Xs P N x (AExit.then K Q) s):Xs P N (.seq x y) Q s :=
 Qav (h _ fun _ h=>h)
theorem Qw{o:Operand}{x y:Code}{t:Bool}(ho:s.ev o = .v (.bool t))(h:Xs P N (if t then x else y) Q s):Xs P N (.cond o x y) Q s:=by
 intro F n base c a hF hs hr R hR
 have he:=hr.eval o
 rw[ho]at he
 have hx:a.eval o = .bool t:=by
  generalize a.eval o=u at he
  cases he;rfl
 exact wpIn_cond hx (h F n base c a hF hs hr R hR)
def AExit.inBlock(id:Nat)(Q:AExit->AS->Prop):AExit->AS->Prop
 | .exit i,s=>if i=id then Q .normal s else Q (.exit i) s
 |e,s=>Q e s
theorem QA{id:Nat}{x:Code}(h:Xs P N x (AExit.inBlock id Q) s):Xs P N (.block id x) Q s:=by
 intro F n base c a hF hs hr R hR
 refine wpIn_block (h F n base c a hF hs hr _ ?_)
 intro e s' c' a' e' hQ hev hst hsr hex
 cases e with
 |normal=>cases hex;exact hR _ s' c' a' _ hQ hev hst hsr rfl
 |exit i =>
  cases hex
  simp only[Exit.inBlock]
  simp only[AExit.inBlock]at hQ
  split
  ·rename_i hi;rw[Qzh hi]at hQ;exact hR _ s' c' a' _ hQ hev hst hsr rfl
  ·rename_i hi;rw[Qzf hi]at hQ;exact hR _ s' c' a' _ hQ hev hst hsr rfl
 |ret=>cases hex;exact hR _ s' c' a' _ hQ hev hst hsr rfl
 |panic av=>obtain⟨x,rfl,hx⟩:=hex;exact hR _ s' c' a' _ hQ hev hst hsr ⟨x,rfl,hx⟩
theorem Qv{x:Code}(I:Nat->AS->Prop)(h:∀m s,I m s->Xs P N x (AExit.then (QZ I m) Q) s){m:Nat}(h0:I m s):Xs P N (.loop x) Q s:=by
 intro F n base c a hF hs hr R hR
 have key:∀(k m:Nat) (s:AS) (c:Cx) (a:Act),m<k->I m s->St c->SR N (base,F) c s a ->
   (∀e s' c' a' e',Q e s'->Ev c c'->St c'->SR N (base,F) c' s' a'->ExC c' e e'->R e' a' c'.w)->Code.roundsIn F n P x R k a c.w:=by
  intro k
  induction k with
  |zero=>intro m _ _ _ hm;omega
  |succ k ih =>
   intro m s c a hm hI hs hr hR
   rw[roundsIn_succ]
   refine h m s hI F n base c a hF hs hr _ ?_
   intro e s' c' a' e' hQ hev hst hsr hex
   cases e with
   |normal =>
    cases hex
    obtain⟨m',hlt,hI'⟩:=hQ
    exact ih m' s' c' a' (by omega) hI' hst hsr fun e s2 c2 a2 e2 hQ2 hev2 hst2 hsr2 hex2=>hR e s2 c2 a2 e2 hQ2 (Ev.trans hs hev hev2) hst2 hsr2 hex2
   |exit id=>cases hex;exact hR _ s' c' a' _ hQ hev hst hsr rfl
   |ret=>cases hex;exact hR _ s' c' a' _ hQ hev hst hsr rfl
   |panic av=>obtain⟨x,rfl,hx⟩:=hex;exact hR _ s' c' a' _ hQ hev hst hsr ⟨x,rfl,hx⟩
 exact wpIn_loop_rounds (m+1) (key (m+1) m s c a (by omega) h0 hs hr hR)
end rules
end Go.Proofs.YtenheconhibonaaGreatDoor.Ab
namespace Go.Proofs.YtenheconhibonaaGreatDoor.Ab
theorem addr_add(B o j:Nat):(⟨B,o,none⟩:Addr).add j=⟨B,o+j,none⟩:=by
 unfold Addr.add;split <;> simp_all
theorem BR.ev{c c':Cx}(hs:St c)(h:Ev c c'){id:Nat}{b:AB}(hb:BR c id b)(hρ:c'.ρ id=c.ρ id)(hw:∀B,b.live=true->c.ρ id=some B->c'.w.heap[B]? = c.w.heap[B]?):BR c' id b:=by
 cases b with
 |cells ty s xs =>
  obtain⟨B,cur,h1,h2,h3,h4⟩:=hb
  exact⟨B,cur,hρ.trans h1,(hw B rfl h1).trans h2,h3,fun j a ha=>let ⟨u,h5,h6,h7⟩:=h4 j a ha;⟨u,h5,h6,h7.ev hs h⟩⟩
 |grow e s n =>
  intro B hB
  rw[hρ]at hB
  obtain⟨cur,h1,h2⟩:=hb B hB
  exact⟨cur,(hw B rfl hB).trans h1,h2⟩
 |map es =>
  obtain⟨B,ents,clock,h1,h2,h3,h4⟩:=hb
  exact⟨B,ents,clock,hρ.trans h1,(hw B rfl h1).trans h2,h3,fun j kv e hj he=>let ⟨h5,h6⟩:=h4 j kv e hj he;⟨h5,h6.ev hs h⟩⟩
 |loop i =>
  obtain⟨B,r,h1,h2,h3,h4⟩:=hb
  exact⟨B,r,hρ.trans h1,(hw B rfl h1).trans h2,h3,fun t=>(h4 t).ev hs h⟩
 |iter s p =>
  obtain⟨B,h1,h2⟩:=hb
  exact⟨B,hρ.trans h1,(hw B rfl h1).trans h2⟩
 |glob g cs ty fr =>
  obtain⟨h1,h2⟩:=hb
  exact⟨hρ.trans h1,(hw g rfl h1).trans h2⟩
 |dead=>trivial
 |gone=>trivial
theorem St.lt{c:Cx}(hs:St c){id B:Nat}{b:AB}(hb:c.h[id]? = some b)(hl:b.live=true)(hρ:c.ρ id=some B):B<c.w.heap.size:=by
 have:=hs.blocks id b hb
 cases b with
 |cells ty s xs=>obtain⟨B',cur,h1,h2,_⟩:=this;rw[hρ]at h1;cases h1;exact(Qzs.1 h2).1
 |grow e s n=>obtain⟨cur,h2,_⟩:=this B hρ;exact(Qzs.1 h2).1
 |map es=>obtain⟨B',ents,clock,h1,h2,_⟩:=this;rw[hρ]at h1;cases h1;exact(Qzs.1 h2).1
 |loop i=>obtain⟨B',r,h1,h2,_⟩:=this;rw[hρ]at h1;cases h1;exact(Qzs.1 h2).1
 |iter s p=>obtain⟨B',h1,h2⟩:=this;rw[hρ]at h1;cases h1;exact(Qzs.1 h2).1
 |glob g cs ty fr=>obtain⟨h1,h2⟩:=this;rw[hρ]at h1;cases h1;exact(Qzs.1 h2).1
 |dead=>cases hl
 |gone=>cases hl
theorem QjB(w:World)(o:Obj)(k:Nat)(h:k<w.heap.size):(w.alloc o).heap[k]? = w.heap[k]? := by
 show(w.heap.push o)[k]? = _
 rw[Array.getElem?_push,Qzf (by omega)]
theorem QO(w:World)(o:Obj):(w.alloc o).heap[w.heap.size]? = some o:=by
 show(w.heap.push o)[w.heap.size]? = _
 simp
structure Grows (w w':World):Prop where
 os:w'.os=w.os
 tape:w'.tape=w.tape
 output:w'.output=w.output
 size:w.heap.size<=w'.heap.size
 old:∀B,B<w.heap.size->w'.heap[B]? = w.heap[B]?
theorem Grows.refl(w:World):Grows w w:=⟨rfl,rfl,rfl,Qzl _,fun _ _=>rfl⟩
theorem Grows.drew(w:World):Grows w w.drew:=⟨rfl,rfl,rfl,Qzl _,fun _ _=>rfl⟩
theorem Grows.alloc(w:World)(o:Obj):Grows w (w.alloc o):=⟨rfl,rfl,rfl,by simp,fun B h=>QjB w o B h⟩
theorem Grows.trans{a b c:World}(h:Grows a b)(k:Grows b c):Grows a c :=
 ⟨k.os.trans h.os,k.tape.trans h.tape,k.output.trans h.output,QzL h.size k.size,fun B hB=>(k.old B (QzI hB h.size)).trans (h.old B hB)⟩
def Cx.to(c:Cx)(w:World):Cx:={c with w:=w}
theorem Ev.grows{c:Cx}(hs:St c){w:World}(h:Grows c.w w):Ev c (c.to w):=by
 refine⟨h.os,h.tape,h.output,h.size,Qzl _,fun B hB _=>h.old B hB,fun id b hb=>⟨b,hb,?_⟩,fun id B b h1 h2=>by have:=Qf h2;simp only[Cx.to]at this;omega⟩
 cases b with
 |cells ty s xs=>exact .inr ⟨xs,rfl,rfl,fun B cur hρ hc=>⟨cur,(h.old B (hs.lt hb rfl hρ)).trans hc,rfl⟩⟩
 |grow e s n=>exact .inr ⟨n,rfl,Qzl _,fun _=>rfl,fun B hB=>.inl hB,fun B cur hρ hc=>⟨cur,(h.old B (hs.lt hb rfl hρ)).trans hc,rfl,fun _ _=>rfl⟩⟩
 |map es=>exact⟨es,rfl,rfl⟩
 |loop i=>exact⟨i,rfl,rfl⟩
 |iter s p=>exact⟨p,rfl,rfl⟩
 |glob g cs ty fr=>exact⟨rfl,rfl,fun B hρ=>h.old B (hs.lt hb rfl hρ)⟩
 |dead=>rfl
 |gone=>rfl
theorem St.grows{c:Cx}(hs:St c){w:World}(h:Grows c.w w):St (c.to w) :=
 ⟨fun id b hb=>(hs.blocks id b hb).ev hs (Ev.grows hs h) rfl (fun B hl hρ=>h.old B (hs.lt hb hl hρ)),hs.inj⟩
def Cx.add(c:Cx)(w:World)(b:AB)(o:Option Nat):Cx :=
 {ρ:=fun id=>if id=c.h.length then o else c.ρ id,h:=c.h++[b],w:=w}
theorem Ev.add{c:Cx}(hs:St c){w:World}(h:Grows c.w w)(b:AB)(o:Option Nat)(ho:∀B,o=some B->c.w.heap.size<=B):Ev c (c.add w b o):=by
 refine⟨h.os,h.tape,h.output,h.size,by simp[Cx.add],fun B hB _=>h.old B hB,fun id b' hb=>⟨b',?_,?_⟩,?_⟩
 ·have:=Qf hb
  simp only[Cx.add]
  rw[Qzc this];exact hb
 ·have hlt:=Qf hb
  have hne:¬id=c.h.length:=by omega
  have hρ:(c.add w b o).ρ id=c.ρ id:=by simp[Cx.add,hne]
  cases b' with
  |cells ty s xs=>exact .inr ⟨xs,rfl,hρ,fun B cur hρ' hc=>⟨cur,(h.old B (hs.lt hb rfl hρ')).trans hc,rfl⟩⟩
  |grow e s n=>exact .inr ⟨n,rfl,Qzl _,fun _=>hρ,fun B hB=>.inl (by rw[<-hρ];exact hB),fun B cur hρ' hc=>⟨cur,(h.old B (hs.lt hb rfl hρ')).trans hc,rfl,fun _ _=>rfl⟩⟩
  |map es=>exact⟨es,rfl,hρ⟩
  |loop i=>exact⟨i,rfl,hρ⟩
  |iter s p=>exact⟨p,rfl,hρ⟩
  |glob g cs ty fr=>exact⟨rfl,hρ,fun B hρ'=>h.old B (hs.lt hb rfl hρ')⟩
  |dead=>rfl
  |gone=>rfl
 ·intro id B b' h1 h2 hl hρ
  have hlt:=Qf h2
  simp only[Cx.add,Qza,Qyw,Qyx]at hlt
  have e:id=c.h.length:=by omega
  subst e
  simp only[Cx.add,QAj]at hρ
  exact .inl (ho B hρ)
theorem St.add{c:Cx}(hs:St c){w:World}(h:Grows c.w w)(b:AB)(o:Option Nat)(ho:∀B,o=some B->c.w.heap.size<=B)(hb:BR (c.add w b o) c.h.length b):St (c.add w b o):=by
 have he:=Ev.add hs h b o ho
 have old:∀id b',id≠c.h.length->(c.add w b o).h[id]? = some b'->c.h[id]? = some b'/\(c.add w b o).ρ id=c.ρ id:=by
  intro id b' hne hg
  have hlt:=Qf hg
  simp only[Cx.add,Qza,Qyw,Qyx]at hlt
  simp only[Cx.add]at hg ⊢
  rw[Qzc (by omega)]at hg
  exact⟨hg,Qzf hne⟩
 have new:(c.add w b o).h[c.h.length]? = some b:=by simp[Cx.add]
 have newρ:(c.add w b o).ρ c.h.length=o:=by simp[Cx.add]
 refine⟨fun id b' hg=>?_,fun i j a b' B hi hj hla hlb hρi hρj=>?_⟩
 ·by_cases hne:id=c.h.length
  ·subst hne;rw[new]at hg;cases hg;exact hb
  ·obtain⟨h1,h2⟩:=old id b' hne hg
   exact(hs.blocks id b' h1).ev hs he h2 (fun B hl hρ=>h.old B (hs.lt h1 hl hρ))
 ·by_cases hni:i=c.h.length
  ·by_cases hnj:j=c.h.length
   ·omega
   ·obtain⟨h1,h2⟩:=old j b' hnj hj
    rw[h2]at hρj
    have h3:=hs.lt h1 hlb hρj
    subst hni
    rw[newρ]at hρi
    have:=ho B hρi;omega
  ·obtain⟨h1,h2⟩:=old i a hni hi
   rw[h2]at hρi
   by_cases hnj:j=c.h.length
   ·have h3:=hs.lt h1 hla hρi
    subst hnj
    rw[newρ]at hρj
    have:=ho B hρj;omega
   ·obtain⟨h4,h5⟩:=old j b' hnj hj
    rw[h5]at hρj
    exact hs.inj i j a b' B h1 h4 hla hlb hρi hρj
def Cx.turn(c:Cx)(w:World)(id:Nat)(b:AB):Cx:={c with h:=c.h.set id b,w:=w}
theorem Ev.turn{c:Cx}(hs:St c){w:World}{id B:Nat}{b b':AB}(hb:c.h[id]? = some b)(hl:b.live=true)(hρ:c.ρ id=some B)(hos:w.os=c.w.os)(ht:w.tape=c.w.tape)(ho:w.output=c.w.output)
  (hsz:w.heap.size=c.w.heap.size) (hold:∀k,k≠B->w.heap[k]? = c.w.heap[k]?) (hk:Kin c (c.turn w id b') id b b'):Ev c (c.turn w id b'):=by
 refine⟨hos,ht,ho,by simp[Cx.turn,hsz],by simp[Cx.turn],fun k hk' hno=>hold k (fun e=>hno ⟨id,b,hb,hl,e▸hρ⟩),fun i bi hbi=>?_,fun i k bi h1 h2=>by have:=Qf h2;simp[Cx.turn]at this;omega⟩
 by_cases hi:i=id
 ·subst hi
  rw[hb]at hbi;cases hbi
  exact⟨b',by simp[Cx.turn,Qf hb],hk⟩
 ·refine⟨bi,by simp only[Cx.turn];rw[Qzd (fun e=>hi e.symm)];exact hbi,?_⟩
  cases bi with
  |cells ty s xs=>exact .inr ⟨xs,rfl,rfl,fun k cur hk' hc=>⟨cur,(hold k (fun e=>hi (hs.inj i id _ _ k hbi hb rfl hl hk' (e▸hρ)))).trans hc,rfl⟩⟩
  |grow e s n =>
   exact .inr ⟨n,rfl,Qzl _,fun _=>rfl,fun B hB=>.inl hB,fun k cur hk' hc=>⟨cur,(hold k (fun e=>hi (hs.inj i id _ _ k hbi hb rfl hl hk' (e▸hρ)))).trans hc,rfl,fun _ _=>rfl⟩⟩
  |map es=>exact⟨es,rfl,rfl⟩
  |loop i=>exact⟨i,rfl,rfl⟩
  |iter s p=>exact⟨p,rfl,rfl⟩
  |glob g cs ty fr=>exact⟨rfl,rfl,fun k hk'=>hold k (fun e=>hi (hs.inj i id _ _ k hbi hb rfl hl hk' (e▸hρ)))⟩
  |dead=>rfl
  |gone=>rfl
theorem St.turn{c:Cx}(hs:St c){w:World}{id B:Nat}{b b':AB}(hb:c.h[id]? = some b)(hl:b.live=true)(hρ:c.ρ id=some B)
  (hold:∀k,k≠B->w.heap[k]? = c.w.heap[k]?) (he:Ev c (c.turn w id b')) (hb':BR (c.turn w id b') id b'):St (c.turn w id b'):=by
 have old:∀i bi,i≠id->(c.turn w id b').h[i]? = some bi->c.h[i]? = some bi:=by
  intro i bi hi hg
  simp only[Cx.turn]at hg
  rwa [Qzd (fun e=>hi e.symm)]at hg
 refine⟨fun i bi hg=>?_,fun i j a b2 k hi hj hla hlb hρi hρj=>?_⟩
 ·by_cases hi:i=id
  ·subst hi
   have:(c.turn w i b').h[i]? = some b':=by simp[Cx.turn,Qf hb]
   rw[this]at hg;cases hg;exact hb'
  ·have h1:=old i bi hi hg
   exact(hs.blocks i bi h1).ev hs he rfl (fun k hlk hk=>hold k (fun e=>hi (hs.inj i id _ _ k h1 hb hlk hl hk (e▸hρ))))
 ·by_cases hi':i=id
  ·by_cases hj':j=id
   ·omega
   ·subst hi'
    exact hs.inj _ _ _ _ _ hb (old j b2 hj' hj) hl hlb hρi hρj
  ·by_cases hj':j=id
   ·subst hj'
    exact hs.inj _ _ _ _ _ (old i a hi' hi) hb hla hl hρi hρj
   ·exact hs.inj _ _ _ _ _ (old i a hi' hi) (old j b2 hj' hj) hla hlb hρi hρj
theorem QQ(x:AV)(xs:List AV):flat (x::xs)=x.cells++flat xs:=rfl
theorem Yn(xs ys:List AV):flat (xs++ys)=flat xs++flat ys:=by simp[flat]
theorem flat_length{s:Nat}:∀{xs:List AV},(∀x∈xs,x.cells.length=s)->(flat xs).length=xs.length * s
 |[],_=>by simp[flat]
 |x::xs,h=>by
  rw[QQ,Qza,h x (by simp),flat_length (xs:=xs) (fun y hy=>h y (by simp[hy])),Qyw,QzU]
  omega
theorem flat_get{s:Nat}:∀{xs:List AV} {k j:Nat} {x a:AV},(∀x∈xs,x.cells.length=s)->xs[k]? = some x->x.cells[j]? = some a->(flat xs)[k * s+j]? = some a
 |[],k,j,x,a,_,hk,_=>by simp at hk
 |y::xs,0,j,x,a,_,hk,hj=>by
  simp at hk
  subst hk
  rw[QQ,Qzc (by simpa using Qf hj)]
  simpa using hj
 |y::xs,k+1,j,x,a,h,hk,hj=>by
  simp at hk
  have h0:=h y (by simp)
  rw[QQ,Qzi (by rw[h0,QzU];omega),h0]
  have e:(k+1) * s+j - s=k * s+j:=by rw[QzU];omega
  rw[e]
  exact flat_get (fun y hy=>h y (by simp[hy])) hk hj
theorem Qfv{s:Nat}{x':AV}(hx':x'.cells.length=s):∀{xs:List AV} {k:Nat} (j:Nat),(∀x∈xs,x.cells.length=s)->k<xs.length ->
  (flat (xs.set k x'))[j]? = if k * s<=j/\j<k * s+s then x'.cells[j - k * s]? else(flat xs)[j]?
 |[],k,j,_,hk=>by simp at hk
 |y::xs,0,j,h,_=>by
  have h0:=h y (by simp)
  rw[List.set_cons_zero,QQ,QQ,QzC,QzC,hx',h0]
  by_cases hj:j<s
  ·simp[hj]
  ·simp[hj]
 |y::xs,k+1,j,h,hk=>by
  have h0:=h y (by simp)
  rw[List.set_cons_succ,QQ,QQ,QzC,QzC,h0]
  by_cases hj:j<s
  ·have:¬((k+1) * s<=j/\j<(k+1) * s+s):=by rw[QzU];omega
   simp[hj,this]
  ·simp only[hj,Qz5]
   rw[Qfv hx' (j - s) (fun z hz=>h z (by simp[hz])) (by simpa using hk)]
   have e1:(k * s<=j - s/\j - s<k * s+s)↔((k+1) * s<=j/\j<(k+1) * s+s):=by rw[QzU];omega
   have e2:j - s - k * s=j - (k+1) * s:=by rw[QzU];omega
   simp only[e1,e2]
def Row(c:Cx)(B o:Nat)(xs:List AV):Prop :=
 ∀(j:Nat) a,(flat xs)[j]? = some a->∃u,c.w.cell? ⟨B,o+j,none⟩=some u/\u.oneCell'=true/\Rel c a u
theorem Row.of_block{c:Cx}{B ty:Nat}{cur:Array Value}{xs:List AV}(hB:c.w.heap[B]? = some (.cells cur ty (0,0)))
  (h:∀(j:Nat) a,(flat xs)[j]? = some a->∃u,cur[j]? = some u/\u.oneCell'=true/\Rel c a u):Row c B 0 xs:=by
 intro j a hj
 obtain⟨u,h1,h2,h3⟩:=h j a hj
 exact⟨u,by rw[Qyv,XC hB];exact h1,h2,h3⟩
def Xa(P:Program)(t:TypeId):Option (Bool×Nat) :=
 match P.underlying t,P.info? t with
 |some (.struct _),some i=>some (true,i.size)
 |some (.array _ _),some i=>some (true,i.size)
 |some _,some i=>some (false,i.size)
 |_,_=>none
theorem Qbj{P:Program}{t:TypeId}{b:Bool}{n:Nat}(h:Xa P t=some (b,n))(w:World):(isAgg t).run P w = .ok b w/\(sizeOf t).run P w = .ok n w:=by
 unfold Xa at h
 cases hu:P.underlying t with
 |none=>simp[hu]at h
 |some d =>
  cases hi:P.info? t with
  |none=>cases d <;> simp[hu,hi]at h
  |some i =>
   refine⟨?_,?_⟩
   ·cases d <;> simp[hu,hi]at h <;> simp[isAgg,underlying,hu,h.1]
   ·cases d <;> simp[hu,hi]at h <;> simp[sizeOf,typeInfo,hi,h.2]
def Xv(P:Program)(t:TypeId)(x:AV)(off:Nat):Option AV :=
 match Xa P t with
 |some (true,n)=>if off=0/\x.isAgg=true/\x.cells.length=n then some x else if off+n<=x.cells.length then some (.agg ((x.cells.drop off).take n))else none
 |some (false,_)=>x.cells[off]?
 |none=>none
theorem Qj1{c:Cx}{l:List AV}{f:Nat->Value}(h:∀(j:Nat) a,l[j]? = some a->Rel c a (f j)):Rel c (.agg l) (.agg ((List.range l.length).map f).toArray):=by
 refine .agg l _ (by simp) ?_
 intro j a u ha hu
 have hlt:=Qf ha
 simp[hlt]at hu
 rw[<-hu]
 exact h j a ha
theorem AV.Qyf{x:AV}(h:x.isAgg=true):x = .agg x.cells:=by
 cases x <;> simp_all [AV.isAgg,AV.cells]
theorem QiL{P:Program}{c:Cx}{t:TypeId}{B o s k off:Nat}{xs:List AV}{x r:AV}(hrow:Row c B o xs)(hs:∀x∈xs,x.cells.length=s)(hk:xs[k]? = some x)(hp:Xv P t x off=some r) :
  ∃u,(Instr.loadAt t (.pointer (some ⟨B,o+(k * s+off),none⟩))).run P c.w = .ok u c.w/\Rel c r u:=by
 have cellAt:∀(j:Nat) a,x.cells[off+j]? = some a->∃u,c.w.cell? ⟨B,o+(k * s+off)+j,none⟩=some u/\u.oneCell'=true/\Rel c a u:=by
  intro j a ha
  have:=hrow _ a (flat_get hs hk ha)
  rwa [show o+(k * s+(off+j))=o+(k * s+off)+j by omega]at this
 unfold Xv at hp
 cases hti:Xa P t with
 |none=>simp[hti]at hp
 |some bn =>
  obtain⟨b,n⟩:=bn
  obtain⟨hagg,hsize⟩:=Qbj hti c.w
  cases b with
  |false =>
   simp only[hti]at hp
   obtain⟨u,h1,h2,h3⟩:=cellAt 0 r hp
   rw[QyI]at h1
   exact⟨u,by simp[Instr.loadAt,Instr.sureAddr,loadVar,hagg,h1],h3⟩
  |true =>
   simp only[hti]at hp
   -- the list of cells that is read
   have main:∀l:List AV,l.length=n->(∀(j:Nat) a,l[j]? = some a->x.cells[off+j]? = some a) ->
     ∃u,(Instr.loadAt t (.pointer (some ⟨B,o+(k * s+off),none⟩))).run P c.w = .ok u c.w/\Rel c (.agg l) u:=by
    intro l hl hget
    have hc:∀j,j<n->c.w.cell? ((⟨B,o+(k * s+off),none⟩:Addr).add j)=some ((c.w.cell? ⟨B,o+(k * s+off)+j,none⟩).getD undef):=by
     intro j hj
     obtain⟨a,ha⟩:∃a,l[j]? = some a:=⟨_,Qzg (by omega)⟩
     obtain⟨u,h1,_⟩:=cellAt j a (hget j a ha)
     rw[addr_add,h1];rfl
    have hr:=run_loadCells (P:=P) c.w ⟨B,o+(k * s+off),none⟩ n (fun j=>(c.w.cell? ⟨B,o+(k * s+off)+j,none⟩).getD undef) hc
    refine⟨_,by simp only[Instr.loadAt,Instr.sureAddr,loadVar,Sem.run_bind,Sem.run_pure,Result.andThen_ok,hagg,hsize,Sem.run_ite,QAj,hr];rfl,?_⟩
    rw[<-hl]
    refine Qj1 ?_
    intro j a ha
    obtain⟨u,h1,_,h3⟩:=cellAt j a (hget j a ha)
    rw[h1];exact h3
   split at hp
   ·rename_i h
    obtain⟨h1,h2,h3⟩:=h
    cases hp
    subst h1
    obtain⟨u,h4,h5⟩:=main x.cells h3 (fun j a ha=>by rw[Qyv];exact ha)
    exact⟨u,h4,by rw[AV.Qyf h2];exact h5⟩
   ·split at hp
    ·rename_i h
     cases hp
     refine main _ (by simp;omega) (fun j a ha=>?_)
     have hlt:=Qf ha
     rw[Qzx (by simp at hlt;omega),QzO]at ha
     exact ha
    ·cases hp
def pv{α:Type}(P:Program):Sem α->Option α
 | .pure a=>some a
 | .program k=>pv P (k P)
 | .mark _ k=>pv P k
 |_=>none
theorem QbE{α:Type}{P:Program}:∀{s:Sem α} {a:α},pv P s=some a->∀w,s.run P w = .ok a w
 | .pure b,a,h,w=>by simp only[pv]at h;cases h;rfl
 | .program k,a,h,w=>by simp only[pv]at h;exact QbE (s:=k P) h w
 | .mark m k,a,h,w=>by simp only[pv]at h;exact QbE (s:=k) h w
 | .load _ _ _,a,h,w | .store _ _ _ _,a,h,w | .new _ _,a,h,w | .shape _ _,a,h,w | .freeze _ _ _,a,h,w | .frozen _ _,a,h,w | .getObj _ _,a,h,w
 | .setObj _ _ _,a,h,w | .choose _ _,a,h,w | .sys _ _,a,h,w | .halt _,a,h,w=>by simp[pv]at h
theorem Qrl{c:Cx}{a:AV}{u:Value}(h:Rel c a u)(h1:a.cell1=true):u.oneCell'=true:=by
 cases h <;> first|rfl|exact h1|assumption|(exact absurd h1 (by simp[AV.cell1]))
theorem QaD{c:Cx}{a:AV}{u:Value}(h:Rel c a u)(h1:a.Qxu=true):RelL c a.cells u.cells/\∀x∈u.cells.toList,x.oneCell'=true:=by
 by_cases hag:a.isAgg=true
 ·cases h with
  |agg l cs hl hh =>
   refine⟨⟨hl,hh⟩,?_⟩
   intro x hx
   obtain⟨j,hj,rfl⟩:=List.getElem_of_mem hx
   simp only[Value.cells,QzS]at hj
   simp only[AV.Qxu,AV.cells,QzB]at h1
   have hj':j<l.length:=by omega
   exact Qrl (hh j l[j] _ (Qzg hj') (by simp[Value.cells,hj])) (h1 _ (QzF hj'))
  |_=>simp[AV.isAgg]at hag
 ·have hc:a.cells=[a]:=by cases a <;> simp_all [AV.cells,AV.isAgg]
  have h2:a.cell1=true:=by simpa [AV.Qxu,hc]using h1
  have ho:=Qrl h h2
  have hu:u.cells=#[u]:=by cases u <;> simp_all [Value.cells,Value.oneCell']
  rw[hc,hu]
  refine⟨⟨rfl,?_⟩,?_⟩
  ·intro j b x hb hx
   cases j with
   |zero=>simp at hb hx;subst hb;subst hx;exact h
   |succ j=>simp at hb
  ·intro x hx;simp at hx;subst hx;exact ho
def fieldInfo(P:Program)(s:TypeId)(i:Nat):Option (Nat×TypeId) :=
 match P.underlying s with
 |some (.struct fs) =>
  match fs[i]? with
  |some f=>match Xa P f.type with
   |some (_,n)=>if n=0 then none else some (f.offset,f.type)
   |none=>none
  |none=>none
 |_=>none
def Qm(P:Program)(s:TypeId)(x:AV)(i:Nat)(h:AH):Option AV :=
 match fieldInfo P s i with
 |some (o,_) =>
  match x with
  | .ptr id k off=>match h[id]? with
   |some (.cells _ _ _)=>some (.ptr id k (off+o))
   |_=>none
  | .pin n xs k off=>some (.pin n xs k (off+o))
  |_=>none
 |none=>none
theorem QgX{P:Program}{s:TypeId}{i o:Nat}{t:TypeId}(h:fieldInfo P s i=some (o,t))(B p:Nat)(w:World) :
  (Instr.fieldAt s (.pointer (some ⟨B,p,none⟩)) i).run P w = .ok (.pointer (some ⟨B,p+o,none⟩)) w:=by
 unfold fieldInfo at h
 cases hu:P.underlying s with
 |none=>simp[hu]at h
 |some d =>
  cases d with
  |struct fs =>
   simp only[hu]at h
   cases hf:fs[i]? with
   |none=>simp[hf]at h
   |some f =>
    simp only[hf]at h
    cases ht:Xa P f.type with
    |none=>simp[ht]at h
    |some bn =>
     obtain⟨b,n⟩:=bn
     simp only[ht]at h
     split at h
     ·cases h
     ·rename_i hn
      cases h
      obtain⟨_,h2⟩:=Qbj ht w
      simp[Instr.fieldAt,underlying,hu,hf,Instr.sureAddr,fieldPlace,h2,hn,addr_add]
  |_=>simp[hu]at h
theorem QgW{P:Program}{c:Cx}{s:TypeId}{x r:AV}{i:Nat}{u:Value}(ha:Qm P s x i c.h=some r)(hx:Rel c x u) :
  ∃y,(Instr.fieldAt s u i).run P c.w = .ok y c.w/\Rel c r y:=by
 unfold Qm at ha
 cases hf:fieldInfo P s i with
 |none=>simp[hf]at ha
 |some ot =>
  obtain⟨o,t⟩:=ot
  simp only[hf]at ha
  cases hx with
  |ptr id k off x hid ho h1 =>
   simp only at ha
   split at ha
   ·rename_i ty n xs hb
    cases ha
    obtain⟨B,hρ,rfl⟩:=h1 _ _ _ hb
    refine⟨_,QgX hf B _ c.w,.ptr id k (off+o) _ hid rfl ?_⟩
    intro ty' s' xs' hb'
    rw[hb]at hb';cases hb'
    exact⟨B,hρ,by rw[QAA]⟩
   ·cases ha
  |pin n xs k off B o' f hs hc hr =>
   simp only at ha
   cases ha
   refine⟨_,QgX hf B _ c.w,?_⟩
   have:=Rel.pin (c:=c) n xs k (off+o) B o' f hs hc hr
   rwa [show o'+(k * n+(off+o))=o'+(k * n+off)+o by omega]at this
  |_=>simp at ha
def Q3(P:Program)(t:TypeId):Option (TypeId×Nat) :=
 match P.underlying t with
 |some (.slice e)=>(P.info? e).map fun i=>(e,i.size)
 |_=>none
theorem X8{P:Program}{t e:TypeId}{n:Nat}(h:Q3 P t=some (e,n)):P.underlying t=some (.slice e)/\∀w,(sizeOf e).run P w = .ok n w:=by
 unfold Q3 at h
 cases hu:P.underlying t with
 |none=>simp[hu]at h
 |some d =>
  cases d with
  |slice e' =>
   simp only[hu]at h
   cases hi:P.info? e' with
   |none=>simp[hi]at h
   |some i =>
    simp only[hi,Qyl]at h
    cases h
    exact⟨rfl,fun w=>by simp[sizeOf,typeInfo,hi]⟩
  |_=>simp[hu]at h
def QM(P:Program)(t:TypeId)(x i:AV)(h:AH):Option AV :=
 match Q3 P t with
 |some (_,n) =>
  match i with
  | .v (.int _ j) =>
   match x with
   | .sl s xs _=>if s=n/\0<=j/\j<xs.length then some (.pin s xs j.toNat 0)else none
   | .arr id lo len=>match h[id]? with
    |some (.cells _ s _)=>if s=n/\0<=j/\j<len then some (.ptr id (lo+j.toNat) 0)else none
    |_=>none
   |_=>none
  |_=>none
 |none=>none
theorem Qg8{P:Program}{c:Cx}{t:TypeId}{x i r:AV}{u ui:Value}(ha:QM P t x i c.h=some r)(hx:Rel c x u)(hi:Rel c i ui) :
  ∃y,(Instr.indexAt t u ui).run P c.w = .ok y c.w/\Rel c r y:=by
 unfold QM at ha
 cases he:Q3 P t with
 |none=>simp[he]at ha
 |some en =>
  obtain⟨e,n⟩:=en
  obtain⟨hu,hsz⟩:=X8 he
  simp only[he]at ha
  cases hi with
  |v ui =>
   cases ui with
   |int q j =>
    simp only at ha
    have run:∀(B o len cap:Nat),0<=j->j<len->(Instr.indexAt t (.slice (some ⟨B,o,none⟩) len cap) (.int q j)).run P c.w = .ok (.pointer (some ⟨B,o+j.toNat * n,none⟩)) c.w:=by
     intro B o len cap h1 h2
     simp[Instr.indexAt,asIntOf,underlying,hu,h1,h2,hsz,addr_add]
    cases hx with
    |sl s xs own B o cap f hs hcap hmax hc hr ht =>
     simp only at ha
     split at ha
     ·rename_i hh
      obtain⟨rfl,h1,h2⟩:=hh
      cases ha
      refine⟨_,run B o _ cap h1 h2,?_⟩
      have:=Rel.pin (c:=c) s xs j.toNat 0 B o f hs hc hr
      rwa [QyI]at this
     ·cases ha
    |slnil s own ht =>
     simp only at ha
     split at ha
     ·rename_i hh;simp at hh;omega
     ·cases ha
    |slzero s own ba ht =>
     simp only at ha
     split at ha
     ·rename_i hh;simp at hh;omega
     ·cases ha
    |arr id lo len x hid ho h1 =>
     simp only at ha
     split at ha
     ·rename_i ty s xs hb
      split at ha
      ·rename_i hh
       obtain⟨rfl,h3,h4⟩:=hh
       cases ha
       obtain⟨B,cap,hρ,rfl,_⟩:=h1 _ _ _ hb
       refine⟨_,run B _ len cap h3 h4,.ptr id _ 0 _ hid rfl ?_⟩
       intro ty' s' xs' hb'
       rw[hb]at hb';cases hb'
       exact⟨B,hρ,by rw[QzU];simp⟩
      ·cases ha
     ·cases ha
    |_=>simp at ha
   |_=>simp at ha
  |_=>simp at ha
def Xt(P:Program)(t:TypeId)(x:AV)(h:AH):Option AV :=
 match x with
 | .ptr id k off=>match h[id]? with
  |some (.cells _ _ xs)=>match xs[k]? with
   |some y=>Xv P t y off
   |none=>none
  |_=>none
 | .pin _ xs k off=>match xs[k]? with
  |some y=>Xv P t y off
  |none=>none
 |_=>none
theorem Qgp{P:Program}{c:Cx}(hst:St c){t:TypeId}{x r:AV}{u:Value}(ha:Xt P t x c.h=some r)(hx:Rel c x u) :
  ∃y,(Instr.loadAt t u).run P c.w = .ok y c.w/\Rel c r y:=by
 unfold Xt at ha
 cases hx with
 |ptr id k off x hid ho h1 =>
  simp only at ha
  split at ha
  ·rename_i ty s xs hb
   split at ha
   ·rename_i y hk
    obtain⟨B,hρ,rfl⟩:=h1 _ _ _ hb
    obtain⟨B',cur,h2,h3,h4,h5⟩:=hst.blocks id _ hb
    rw[hρ]at h2;cases h2
    have:=QiL (o:=0) (Row.of_block h3 h5) h4 hk ha
    simpa using this
   ·cases ha
  ·cases ha
 |pin s xs k off B o f hs hc hr =>
  simp only at ha
  split at ha
  ·rename_i y hk
   exact QiL (fun j a hj=>⟨f j,(hc j a hj).1.1,(hc j a hj).2,hr j a hj⟩) hs hk ha
  ·cases ha
 |_=>simp at ha
def XS(x:AV)(off:Nat)(v:AV):Option AV :=
 if off=0/\v.cells.length=x.cells.length/\v.isAgg=x.isAgg then some v
 else if x.isAgg=true/\off+v.cells.length<=x.cells.length then some (.agg (x.cells.take off++v.cells++x.cells.drop (off+v.cells.length)))
 else none
theorem QhW{x v x':AV}{off:Nat}(h:XS x off v=some x'):off+v.cells.length<=x.cells.length/\x'.cells=x.cells.take off++v.cells++x.cells.drop (off+v.cells.length):=by
 unfold XS at h
 split at h
 ·rename_i hh
  obtain⟨rfl,h2,h3⟩:=hh
  cases h
  refine⟨by omega,?_⟩
  rw[Qyv,h2]
  simp
 ·split at h
  ·rename_i hh;cases h;exact⟨hh.2,rfl⟩
  ·cases h
def Zt(P:Program)(t:TypeId)(x v:AV)(h:AH):Option AH :=
 match Xa P t with
 |some (_,n) =>
  match x with
  | .ptr id k off=>match h[id]? with
   |some (.cells ty s xs)=>match xs[k]? with
    |some y=>if v.Qxu=true/\v.cells.length=n then match XS y off v with
      |some y'=>some (h.set id (.cells ty s (xs.set k y')))
      |none=>none
     else none
    |none=>none
   |_=>none
  |_=>none
 |none=>none
theorem Zy(w:World)(g:Nat)(cs:Array Value)(k:Nat)(h:k≠g):(w.setRow g cs).heap[k]? = w.heap[k]? := by
 exact setRow_other w g k _ h
theorem Qkt{P:Program}{c:Cx}(hst:St c){t:TypeId}{x v:AV}{h':AH}{u uv:Value}(ha:Zt P t x v c.h=some h')(hx:Rel c x u)(hv:Rel c v uv) :
  ∃c',(Instr.storeAt t u uv).run P c.w = .ok () c'.w/\Ev c c'/\St c'/\c'.h=h':=by
 unfold Zt at ha
 cases hti:Xa P t with
 |none=>simp[hti]at ha
 |some bn =>
  obtain⟨bb,n⟩:=bn
  obtain⟨_,hsize⟩:=Qbj hti c.w
  simp only[hti]at ha
  cases hx with
  |ptr id k off x hid ho h1 =>
   simp only at ha
   split at ha
   ·rename_i ty s xs hb
    split at ha
    ·rename_i y hk
     split at ha
     ·rename_i hc1
      obtain⟨hv1,hvn⟩:=hc1
      split at ha
      ·rename_i y' hy'
       cases ha
       obtain⟨hle,hcells⟩:=QhW hy'
       obtain⟨B,hρ,rfl⟩:=h1 _ _ _ hb
       obtain⟨B',cur,h2,h3,h4,h5⟩:=hst.blocks id _ hb
       rw[hρ]at h2;cases h2
       obtain⟨hrl,hone⟩:=QaD hv hv1
       have hyl:y.cells.length=s:=h4 y (Qzp hk)
       have hkl:=Qf hk
       have hy'l:y'.cells.length=s:=by rw[hcells];simp;omega
       have hfl:(flat xs).length=xs.length * s:=flat_length h4
       have hks:k * s+s<=xs.length * s:=by rw[<-Nat.succ_mul];exact QzK s hkl
       have hcur:(flat xs).length<=cur.size:=by
        rcases Nat.eq_zero_or_pos (flat xs).length with h0|h0
        ·omega
        ·obtain⟨a,ha⟩:∃a,(flat xs)[(flat xs).length - 1]? = some a:=⟨_,Qzg (by omega)⟩
         obtain⟨u,hu,_⟩:=h5 _ a ha
         have:=(Qzs.1 hu).1
         omega
       have hun:uv.cells.toList.length=n:=by rw[QzS,hrl.1,hvn]
       have hrun:=run_storeCells_at P B (k * s+off) ty uv.cells.toList 0 cur c.w h3 (by rw[hun];omega) hone
       rw[QyI]at hrun
       let cur':=(cur.toList.take (k * s+off)++uv.cells.toList++cur.toList.drop (k * s+off+uv.cells.toList.length)).toArray
       have hheap:(c.w.setRow B cur').heap[B]? = some (.cells cur' ty (0,0)):=setRow_heap c.w B cur cur' ty (0,0) h3
       have hev:Ev c (c.turn (c.w.setRow B cur') id (.cells ty s (xs.set k y'))) :=
        Ev.turn hst hb rfl hρ rfl rfl rfl (by simp[World.setRow]) (fun k' hk'=>Zy c.w B cur' k' hk') (.inr ⟨_,rfl,rfl,fun B0 cur0 e1 e2=>by
         rw[hρ]at e1;cases e1
         rw[h3]at e2;cases e2
         exact⟨cur',hheap,by simp[cur',hun];omega⟩⟩)
       refine⟨c.turn (c.w.setRow B cur') id (.cells ty s (xs.set k y')),?_,hev,?_,rfl⟩
       ·have:¬uv.cells.size≠n:=by have:=hrl.1;omega
        simp only[Instr.storeAt,Instr.sureAddr,storeVar,Sem.run_bind,Sem.run_pure,Result.andThen_ok,hsize,this,Qz5,hrun]
        rfl
       ·refine St.turn hst hb rfl hρ (fun k' hk'=>Zy c.w B cur' k' hk') hev ?_
        refine⟨B,cur',hρ,hheap,?_,?_⟩
        ·intro z hz
         rcases List.mem_or_eq_of_mem_set hz with hz|hz
         ·exact h4 z hz
         ·subst hz;exact hy'l
        ·intro j a hj
         rw[Qfv hy'l j h4 hkl]at hj
         have hcl:∀i:Nat,cur'[i]? = (cur.toList.take (k * s+off)++uv.cells.toList++cur.toList.drop (k * s+off+uv.cells.toList.length))[i]? := by intro i;simp[cur']
         have htl:(cur.toList.take (k * s+off)).length=k * s+off:=by simp;omega
         -- the old cell at a place that was not written
         have oldcell:∀i:Nat,(i<k * s+off\/k * s+off+n<=i)->cur'[i]? = cur[i]? := by
          intro i hi
          rw[hcl i]
          rcases hi with hi|hi
          ·rw[Qze,Qzc (by omega),Qzx hi];simp
          ·rw[Qzi (by rw[Qza,htl,hun];omega),Qza,htl,hun,QzO]
           rw[show k * s+off+n+(i - (k * s+off+n))=i by omega];simp
         split at hj
         ·rename_i hin
          rw[hcells]at hj
          by_cases c1:j - k * s<off
          ·rw[Qze,Qzc (by simp;omega),Qzx c1]at hj
           obtain⟨u,h6,h7,h8⟩:=h5 j a (by have:=flat_get h4 hk hj;rwa [show k * s+(j - k * s)=j by omega]at this)
           exact⟨u,by rw[oldcell j (.inl (by omega))];exact h6,h7,h8.ev hst hev⟩
          ·by_cases c2:j - k * s<off+n
           ·rw[Qze,Qzi (by simp;omega),QzE,show min off y.cells.length=off by omega,Qzc (by omega)]at hj
            have hlt:=Qf hj
            obtain⟨u,hu⟩:∃u,uv.cells[j - k * s - off]? = some u:=⟨_,Qzv (by have:=hrl.1;omega)⟩
            refine⟨u,?_,hone u (by rw[QzT];exact QBe hu),(hrl.2 _ a u hj hu).ev hst hev⟩
            rw[hcl j,Qze,Qzi (by omega),htl,Qzc (by omega)]
            rw[show j - (k * s+off)=j - k * s - off by omega]
            simpa using hu
           ·rw[Qzi (by simp;omega),Qza,QzE,show min off y.cells.length=off by omega,hvn,QzO]at hj
            rw[show off+n+(j - k * s - (off+n))=j - k * s by omega]at hj
            obtain⟨u,h6,h7,h8⟩:=h5 j a (by have:=flat_get h4 hk hj;rwa [show k * s+(j - k * s)=j by omega]at this)
            exact⟨u,by rw[oldcell j (.inr (by omega))];exact h6,h7,h8.ev hst hev⟩
         ·rename_i hout
          obtain⟨u,h6,h7,h8⟩:=h5 j a hj
          exact⟨u,by rw[oldcell j (by omega)];exact h6,h7,h8.ev hst hev⟩
      ·cases ha
     ·cases ha
    ·cases ha
   ·cases ha
  |_=>simp at ha
theorem QkF{P:Program}{c:Cx}(hst:St c){ty:TypeId}{x:AV}{u:Value}(hx:Rel c x u)(h1:x.Qxu=true) :
  ∃c',(Instr.box ty u).run P c.w = .ok (.pointer (some ⟨c.w.heap.size,0,none⟩)) c'.w/\Ev c c'/\St c'/\c'.h=c.h++[.cells ty x.cells.length [x]]/\Rel c' (.ptr c.h.length 0 0) (.pointer (some ⟨c.w.heap.size,0,none⟩)):=by
 obtain⟨hrl,hone⟩:=QaD hx h1
 let b:AB:=.cells ty x.cells.length [x]
 let w':=c.w.alloc (.cells u.cells ty)
 have hg:Grows c.w w':=Grows.alloc _ _
 have ho:∀B,some c.w.heap.size=some B->c.w.heap.size<=B:=fun B h=>by cases h;exact Qzl _
 have hev:Ev c (c.add w' b (some c.w.heap.size)):=Ev.add hst hg b _ ho
 have hρ:(c.add w' b (some c.w.heap.size)).ρ c.h.length=some c.w.heap.size:=by simp[Cx.add]
 refine⟨c.add w' b (some c.w.heap.size),rfl,hev,?_,rfl,?_⟩
 ·refine St.add hst hg b _ ho ⟨c.w.heap.size,u.cells,hρ,QO _ _,by simp,?_⟩
  intro j a hj
  simp only[flat,QBc,List.flatMap_nil,QyM]at hj
  obtain⟨y,hy⟩:∃y,u.cells[j]? = some y:=⟨_,Qzv (by have:=hrl.1;have:=Qf hj;omega)⟩
  exact⟨y,hy,hone y (by rw[QzT];exact QBe hy),(hrl.2 j a y hj hy).ev hst hev⟩
 ·refine .ptr _ _ _ _ (by simp[Cx.add]) rfl ?_
  intro ty' s' xs' _
  exact⟨_,hρ,by simp⟩
def Xi(P:Program)(t:TypeId):Option AV:=((P.info? t).bind (·.zero)).map AV.ofV
theorem Qar{P:Program}{t:TypeId}{z:AV}(h:Xi P t=some z):∃v,(∀w,(zeroValue t).run P w = .ok v w)/\z=AV.ofV v:=by
 unfold Xi at h
 cases hi:P.info? t with
 |none=>simp[hi]at h
 |some i =>
  cases hz:i.zero with
  |none=>simp[hi,hz]at h
  |some v=>simp[hi,hz]at h;exact⟨v,fun w=>by simp[zeroValue,typeInfo,hi,hz],h.symm⟩
theorem Ql4{P:Program}{c:Cx}(hst:St c){ty:TypeId}{z:AV}(hz:Xi P ty=some z)(h1:z.Qxu=true) :
  ∃c',(Instr.alloc ty true (.tuple #[])).run P c.w = .ok (.pointer (some ⟨c.w.heap.size,0,none⟩)) c'.w/\Ev c c'/\St c'/\c'.h=c.h++[.cells ty z.cells.length [z]]/\Rel c' (.ptr c.h.length 0 0) (.pointer (some ⟨c.w.heap.size,0,none⟩)):=by
 obtain⟨v,hv,rfl⟩:=Qar hz
 obtain⟨c',h2,h3⟩:=QkF (P:=P) (ty:=ty) hst (Qbb c v) h1
 refine⟨c',?_,h3⟩
 simp only[Instr.alloc,Sem.run_bind,hv,Result.andThen_ok]
 exact h2
def Qdz(place:Nat->Option (Nat×Nat))(cells:List AV):List (Nat×AV)->Option (List AV)
 |[]=>some cells
 |(i,v)::rest =>
  match place i with
  |none=>none
  |some (off,size)=>if v.Qxu=true/\v.cells.length=size/\off+v.cells.length<=cells.length then Qdz place (cells.take off++v.cells++cells.drop (off+v.cells.length)) rest else none
theorem Qnc(off:Nat):∀(vs:List Value) (i:Nat) (cs:Array Value),off+i+vs.length<=cs.size ->
  ((vs.zipIdx i).foldl (fun cs (x:Value×Nat)=>cs.setIfInBounds (off+x.2) x.1) cs).toList=cs.toList.take (off+i)++vs++cs.toList.drop (off+i+vs.length)
 |[],i,cs,h=>by simp
 |v::vs,i,cs,h=>by
  simp only[Qyw]at h
  rw[List.zipIdx_cons,List.foldl_cons,Qnc off vs (i+1) _ (by simp;omega)]
  have e:=list_seg_step cs.toList (off+i) v vs (by simp;omega)
  simp only[Array.toList_setIfInBounds]
  rw[show off+(i+1)=off+i+1 by omega]
  rw[e]
  simp[QAA]
theorem Qh8{c:Cx}{cells v:List AV}{cs u:Array Value}{off:Nat}(h:RelL c cells cs)(k:RelL c v u)(hle:off+v.length<=cells.length) :
  RelL c (cells.take off++v++cells.drop (off+v.length)) (cs.toList.take off++u.toList++cs.toList.drop (off+u.toList.length)).toArray:=by
 have h1:=h.1
 have k1:=k.1
 refine⟨by simp;omega,?_⟩
 intro j a x ha hx
 have hx':(cs.toList.take off++u.toList++cs.toList.drop (off+u.toList.length))[j]? = some x:=by simpa using hx
 have hul:u.toList.length=v.length:=by simp[k1]
 by_cases c1:j<off
 ·rw[Qze,Qzc (by simp;omega),Qzx c1]at ha hx'
  exact h.2 j a x ha (by simpa using hx')
 ·by_cases c2:j<off+v.length
  ·rw[Qze,Qzi (by simp;omega),Qzc (by simp;omega)]at ha hx'
   simp only[QzE,QzS]at ha hx'
   rw[show min off cells.length=off by omega]at ha
   rw[show min off cs.size=off by omega]at hx'
   exact k.2 _ a x ha (by simpa using hx')
  ·rw[Qzi (by simp;omega),QzO]at ha hx'
   simp only[Qza,QzE,QzS]at ha hx'
   rw[show off+v.length+(j - (min off cells.length+v.length))=j by omega]at ha
   rw[show off+u.size+(j - (min off cs.size+u.size))=j by omega]at hx'
   exact h.2 j a x ha (by simpa using hx')
theorem Qbk{c:Cx}{place:Nat->Option (Nat×Nat)}:∀{parts:List (Nat×AV)} {vals:List (Nat×Value)} {cells r:List AV} {cs:Array Value},
  parts.map (·.1)=vals.map (·.1)->RelL c (parts.map (·.2)) (vals.map (·.2)).toArray->Qdz place cells parts=some r->RelL c cells cs->(∀x∈cs.toList,x.oneCell'=true) ->
  ∃cs',Instr.fill place cs vals=some cs'/\RelL c r cs'/\r.length=cells.length/\∀x∈cs'.toList,x.oneCell'=true
 |[],[],cells,r,cs,_,_,h,hr,ho=>by
  simp only[Qdz,Qyp]at h
  subst h
  exact⟨cs,rfl,hr,rfl,ho⟩
 |[],_::_,_,_,_,h,_,_,_,_=>by simp at h
 |_::_,[],_,_,_,h,_,_,_,_=>by simp at h
 |(i,v)::parts,(i',u)::vals,cells,r,cs,hi,hv,h,hr,ho=>by
  simp only[Qyy,List.cons.injEq]at hi
  obtain⟨rfl,hi⟩:=hi
  have hu:Rel c v u:=hv.2 0 v u (by simp) (by simp)
  have hrest:RelL c (parts.map (·.2)) (vals.map (·.2)).toArray:=by
   refine⟨by have:=hv.1;simpa using this,fun j a x ha hx=>hv.2 (j+1) a x (by simpa using ha) (by simpa using hx)⟩
  simp only[Qdz]at h
  cases hp:place i with
  |none=>simp[hp]at h
  |some os =>
   obtain⟨off,size⟩:=os
   simp only[hp]at h
   split at h
   ·rename_i hh
    obtain⟨h1,h2,h3⟩:=hh
    obtain⟨hrl,hone⟩:=QaD hu h1
    have hsz:=hrl.1
    have hcs:=hr.1
    have e:=Qnc off u.cells.toList 0 cs (by simp;omega)
    have e':u.cells.zipIdx.foldl (fun cs (x:Value×Nat)=>cs.setIfInBounds (off+x.2) x.1) cs=(cs.toList.take off++u.cells.toList++cs.toList.drop (off+u.cells.toList.length)).toArray:=by
     apply Array.ext'
     rw[<-Array.foldl_toList,Array.toList_zipIdx,e]
     simp
    have hput:=Qh8 hr hrl h3
    obtain⟨cs',h4,h5,h6,h7⟩:=Qbk hi hrest h hput (by
     intro x hx
     simp only[QzH]at hx
     rcases hx with(hx|hx)|hx
     ·exact ho x (QAa hx)
     ·exact hone x hx
     ·exact ho x (QzZ hx))
    refine⟨cs',?_,h5,?_,h7⟩
    ·simp only[Instr.fill,hp]
     rw[Qzf (by simp;omega)]
     rw[e']
     exact h4
    ·rw[h6];simp;omega
   ·cases h
def placesOf(P:Program)(fs:List Field):Option (List (Nat×Nat)) :=
 fs.mapM fun f=>(Xa P f.type).map fun bn=>(f.offset,bn.2)
def Xg(P:Program)(t:TypeId):Option (List (Nat×Nat)) :=
 match P.underlying t with
 |some (.struct fs)=>placesOf P fs.toList
 |_=>none
theorem QfE{P:Program}:∀{fs:List Field} {l:List (Nat×Nat)},placesOf P fs=some l->∀w,(fs.mapM (m:=Sem) fun(f:Field)=>do pure (f.offset,<-sizeOf f.type)).run P w = .ok l w
 |[],l,h,w=>by simp[placesOf]at h;subst h;rfl
 |f::fs,l,h,w=>by
  simp only[placesOf,QAB]at h
  cases ht:Xa P f.type with
  |none=>simp[ht]at h
  |some bn =>
   obtain⟨b,n⟩:=bn
   cases hr:placesOf P fs with
   |none=>rw[placesOf]at hr;simp[ht,hr]at h
   |some l' =>
    have ih:=QfE hr w
    rw[placesOf]at hr
    simp[ht,hr]at h
    subst h
    obtain⟨_,h2⟩:=Qbj ht w
    simp only[QAB,Sem.run_bind,h2,Result.andThen_ok,Sem.run_pure,ih]
def Qif(P:Program)(t:TypeId)(parts:List (Nat×AV)):Option AV :=
 match Xg P t,Xi P t with
 |some l,some z=>if z.Qxu=true/\z.isAgg=true then(Qdz (fun i=>l[i]?) z.cells parts).map .agg else none
 |_,_=>none
theorem Ql5{P:Program}{c:Cx}{t:TypeId}{parts:List (Nat×AV)}{vals:Array (Nat×Value)}{r:AV}(ha:Qif P t parts=some r)
  (hi:parts.map (·.1)=vals.toList.map (·.1)) (hv:RelL c (parts.map (·.2)) (vals.toList.map (·.2)).toArray) :
  ∃y,(Instr.build t vals).run P c.w = .ok y c.w/\Rel c r y:=by
 unfold Qif at ha
 cases hl:Xg P t with
 |none=>simp[hl]at ha
 |some l =>
  cases hz:Xi P t with
  |none=>simp[hl,hz]at ha
  |some z =>
   simp only[hl,hz]at ha
   split at ha
   ·rename_i hh
    obtain⟨v,hrun,rfl⟩:=Qar hz
    obtain⟨hrl,hone⟩:=QaD (Qbb c v) hh.1
    cases hf:Qdz (fun i=>l[i]?) (AV.ofV v).cells parts with
    |none=>simp[hf]at ha
    |some rs =>
     simp[hf]at ha
     subst ha
     obtain⟨cs',h4,h5,_,_⟩:=Qbk hi hv hf hrl hone
     unfold Xg at hl
     cases hu:P.underlying t with
     |none=>simp[hu]at hl
     |some d =>
      cases d with
      |struct fs =>
       simp only[hu]at hl
       have hm:=QfE hl c.w
       have hm':(fs.mapM (m:=Sem) fun(f:Field)=>do pure (f.offset,<-sizeOf f.type)).run P c.w = .ok l.toArray c.w:=by
        rw[Array.mapM_eq_mapM_toList]
        rw[Sem.run_map,hm]
        rfl
       refine⟨.agg cs',?_,.agg rs cs' h5.1 h5.2⟩
       have h4':Instr.fill (fun x=>l.toArray[x]?) v.cells vals.toList=some cs':=by
        rw[<-h4];congr 1;funext i;simp
       simp only[Instr.build,Sem.run_bind,hrun,Result.andThen_ok,underlying,run_program,hu,Sem.run_pure,hm',h4']
      |_=>simp[hu]at hl
   ·cases ha
theorem QsE{c:Cx}(hs:St c){w:World}(h:Grows c.w w){B:Nat}(h1:c.w.heap.size<=B)(h2:B<w.heap.size)(o:Nat):(c.to w).prot B o:=by
 refine⟨h2,fun id b hb hl hρ=>?_⟩
 have:=hs.lt (c:=c) hb hl hρ
 omega
theorem QoV{c:Cx}(hs:St c){cells:Array Value}{e:TypeId}{s:Nat}{xs:List AV}(hxs:∀x∈xs,x.cells.length=s)(hmax:xs.length<=maxLen)
  (hr:RelL c (flat xs) cells) (ho:∀x∈cells.toList,x.oneCell'=true) :
  Ev c (c.to (c.w.alloc (.cells cells e)))/\St (c.to (c.w.alloc (.cells cells e)))/\Rel (c.to (c.w.alloc (.cells cells e))) (.sl s xs none) (.slice (some ⟨c.w.heap.size,0,none⟩) xs.length xs.length):=by
 have hg:=Grows.alloc c.w (.cells cells e)
 have hev:=Ev.grows hs hg
 refine⟨hev,hs.grows hg,?_⟩
 have hcell:∀j:Nat,(c.w.alloc (.cells cells e)).cell? ⟨c.w.heap.size,0+j,none⟩=cells[j]? := by
  intro j;rw[XC (QO _ _),Qyv]
 have hget:∀(j:Nat) a,(flat xs)[j]? = some a->cells[j]? = some (cells.getD j undef):=by
  intro j a ha
  have:j<cells.size:=by rw[hr.1];exact Qf ha
  simp[Array.getD,this]
 refine .sl s xs none c.w.heap.size 0 xs.length (fun j=>cells.getD j undef) hxs (Qzl _) hmax ?_ ?_ (fun b hb=>by cases hb)
 ·intro j a ha
  refine⟨⟨by simp only[Cx.to];rw[hcell];exact hget j a ha,QsE hs hg (Qzl _) (by simp) _⟩,?_⟩
  exact ho _ (by rw[QzT];exact QBe (hget j a ha))
 ·intro j a ha
  exact(hr.2 j a _ ha (hget j a ha)).ev hs hev
theorem Qd8{n:Nat}:∀(elems:List AV) (k:Nat) (cells:List AV),(∀x∈elems,x.Qxu=true/\x.cells.length=n)->k * n+elems.length * n<=cells.length ->
  Qdz (fun i=>some (i * n,n)) cells ((List.range' k elems.length).zip elems)=some (cells.take (k * n)++flat elems++cells.drop (k * n+elems.length * n))
 |[],k,cells,_,_=>by simp[Qdz,flat]
 |x::elems,k,cells,h,hl=>by
  have h0:=h x (by simp)
  simp only[Qyw,QzU,Nat.one_mul]at hl
  rw[Qyw,List.range'_succ,List.zip_cons_cons]
  simp only[Qdz]
  rw[Qzh ⟨h0.1,h0.2,by rw[h0.2];omega⟩]
  rw[Qd8 elems (k+1) _ (fun y hy=>h y (by simp[hy])) (by simp[h0.2,QzU];omega)]
  congr 1
  have e1:(k+1) * n=k * n+n:=by rw[QzU];omega
  have e2:(elems.length+1) * n=elems.length * n+n:=by rw[QzU];omega
  have htl:(cells.take (k * n)).length=k * n:=by simp;omega
  rw[e1,e2,h0.2,QQ]
  have a1:(cells.take (k * n)++x.cells++cells.drop (k * n+n)).take (k * n+n)=cells.take (k * n)++x.cells:=by
   rw[List.take_left' (by rw[Qza,htl,h0.2])]
  have a2:(cells.take (k * n)++x.cells++cells.drop (k * n+n)).drop (k * n+n+elems.length * n)=cells.drop (k * n+(elems.length * n+n)):=by
   rw[List.drop_append,Qza,htl,h0.2]
   rw[QAt (by rw[Qza,htl,h0.2];omega),QyK,QBj]
   congr 1;omega
  rw[a1,a2]
  simp[Qze]
def QT(P:Program)(t:TypeId)(len:Nat)(parts:List (Nat×AV))(h:AH):Option (AV×AH) :=
 match Q3 P t with
 |some (e,n) =>
  if parts.map (·.1)=List.range len/\(parts.all fun p=>p.2.Qxu&&p.2.cells.length==n)=true/\len * n<=2 ^ 24/\0<n/\(Xi P e).any (fun z=>z.Qxu&&z.cells.length==n)=true then
   if len=0 then some (.sl n [] (some h.length),h++[.grow e n 0])else some (.sl n (parts.map (·.2)) none,h)
  else none
 |none=>none
theorem Qbv(l:List (Nat×AV)):(l.map (·.1)).zip (l.map (·.2))=l:=by
 induction l with
 |nil=>rfl
 |cons x l ih=>simp only[Qyy,List.zip_cons_cons,ih]
theorem QfQ{P:Program}{c:Cx}(hst:St c){t:TypeId}{len:Nat}{parts:List (Nat×AV)}{vals:Array (Nat×Value)}{r:AV}{h':AH}(ha:QT P t len parts c.h=some (r,h'))
  (hi:parts.map (·.1)=vals.toList.map (·.1)) (hv:RelL c (parts.map (·.2)) (vals.toList.map (·.2)).toArray) :
  ∃y c',(Instr.buildSlice t len vals).run P c.w = .ok y c'.w/\Ev c c'/\St c'/\c'.h=h'/\Rel c' r y:=by
 unfold QT at ha
 cases he:Q3 P t with
 |none=>simp[he]at ha
 |some en =>
  obtain⟨e,n⟩:=en
  obtain⟨hu,hsz⟩:=X8 he
  simp only[he]at ha
  split at ha
  ·rename_i hh
   obtain⟨h1,h2,h3,h4,h5⟩:=hh
   cases hz:Xi P e with
   |none=>simp[hz]at h5
   |some z =>
    obtain⟨v,hrun,rfl⟩:=Qar hz
    simp only[hz,Option.any_some,Qzk,QAb]at h5
    obtain⟨hrl0,hone0⟩:=QaD (Qbb c v) h5.1
    have hvn:v.cells.size=n:=by rw[hrl0.1];exact h5.2
    have hlen:parts.length=len:=by have:=QzP List.length h1;simpa using this
    have hall:∀x∈parts.map (·.2),x.Qxu=true/\x.cells.length=n:=by
     intro x hx
     simp only[QzD]at hx
     obtain⟨p,hp,rfl⟩:=hx
     simp only[QzB,Qzk,QAb]at h2
     exact h2 p hp
    -- the zero cells
    let zs:Array Value:=(Array.range (len * n)).map (v.cells[· % v.cells.size]!)
    have hzs:zs.size=len * n:=by simp[zs]
    have hzone:∀x∈zs.toList,x.oneCell'=true:=by
     intro x hx
     simp only[zs,QzT,QBg]at hx
     obtain⟨i,_,rfl⟩:=hx
     have hlt:i % v.cells.size<v.cells.size:=Nat.mod_lt _ (by omega)
     rw[getElem!_pos v.cells _ hlt]
     exact hone0 _ (by rw[QzT];exact QAO hlt)
    have hjunk:RelL c (List.replicate (len * n) AV.junk) zs:=by
     refine⟨by simp[hzs],fun j a u ha hu=>?_⟩
     rw[QAE]at ha
     split at ha
     ·cases ha;exact .junk u
     ·cases ha
    have hfill:Qdz (fun i=>some (i * n,n)) (List.replicate (len * n) AV.junk) parts=some (flat (parts.map (·.2))):=by
     have:=Qd8 (n:=n) (parts.map (·.2)) 0 (List.replicate (len * n) AV.junk) hall (by simp[hlen])
     have e:(List.range' 0 (parts.map (·.2)).length).zip (parts.map (·.2))=parts:=by
      rw[QzJ,hlen,<-QAy,<-h1]
      exact Qbv parts
     rw[e]at this
     rw[this]
     simp[hlen]
    obtain⟨cs',hf,hrl,_,hone⟩:=Qbk hi hv hfill hjunk hzone
    have hfl:(flat (parts.map (·.2))).length=len * n:=by
     rw[flat_length (fun x hx=>(hall x hx).2)];simp[hlen]
    have hrun':(Instr.buildSlice t len vals).run P c.w = .ok (.slice (some ⟨c.w.heap.size,0,none⟩) len len) (c.w.alloc (.cells cs' e)):=by
     have h3':¬len * n>2 ^ 24:=by omega
     simp only[Instr.buildSlice,Sem.run_bind,underlying,run_program,Result.andThen_ok,hu,Sem.run_pure,hsz,h3',Qz5]
     by_cases h0:len * n=0
     ·have hz0:zs=(Array.range (len * n)).map ((#[]:Array Value)[· % (#[]:Array Value).size]!):=by
       apply Array.ext
       ·simp[hzs]
       ·intro i h1 h2;simp[hzs,h0]at h1
      rw[Qzh h0]
      simp only[Sem.run_bind,Sem.run_pure,Result.andThen_ok]
      rw[<-hz0,hf]
      rfl
     ·rw[Qzf h0]
      simp only[Sem.run_bind,hrun,Result.andThen_ok,Sem.run_pure]
      rw[hf]
      rfl
    have hmaxl:len<=maxLen:=by
     have:len * 1<=len * n:=Nat.mul_le_mul_left _ h4
     have h24:(2:Nat) ^ 24=16777216:=by decide
     simp only[maxLen];omega
    split at ha
    ·rename_i h0
     cases ha
     subst h0
     have hg:=Grows.alloc c.w (.cells cs' e)
     have ho:∀B,some c.w.heap.size=some B->c.w.heap.size<=B:=fun B h=>by cases h;exact Qzl _
     have hev:=Ev.add hst hg (.grow e n 0) (some c.w.heap.size) ho
     have hρ:(c.add (c.w.alloc (.cells cs' e)) (.grow e n 0) (some c.w.heap.size)).ρ c.h.length=some c.w.heap.size:=by simp[Cx.add]
     have hcs:cs'.size=0:=by rw[hrl.1,hfl];simp
     refine⟨_,c.add (c.w.alloc (.cells cs' e)) (.grow e n 0) (some c.w.heap.size),hrun',hev,?_,rfl,?_⟩
     ·refine St.add hst hg _ _ ho ?_
      intro B hB
      rw[hρ]at hB;cases hB
      exact⟨cs',QO _ _,by omega⟩
     ·refine .sl n [] (some c.h.length) c.w.heap.size 0 0 (fun _=>undef) (by simp) (Qzl _) (by simp[maxLen]) (by simp[flat]) (by simp[flat]) ?_
      intro b hb
      cases hb
      refine⟨by simp[Cx.add,AB.tok],fun e' s' n' hb'=>?_⟩
      simp[Cx.add]at hb'
      obtain⟨rfl,rfl,rfl⟩:=hb'
      exact⟨rfl,Qzl _,fun _=>⟨rfl,hρ,Qzl _,by simp[maxLen],cs',QO _ _,by simpa using hcs⟩⟩
    ·cases ha
     have hl':(parts.map (·.2)).length=len:=by simp[hlen]
     obtain⟨hev,hs',hr⟩:=QoV (e:=e) hst (fun x hx=>(hall x hx).2) (by rw[hl'];exact hmaxl) hrl hone
     rw[hl']at hr
     exact⟨_,c.to (c.w.alloc (.cells cs' e)),hrun',hev,hs',rfl,hr⟩
  ·cases ha
theorem Qd2{P:Program}{t e:TypeId}{n:Nat}(hu:P.underlying t=some (.slice e))(hsz:∀w,(sizeOf e).run P w = .ok n w)(w:World) :
  (Instr.buildSlice t 0 #[]).run P w = .ok (.slice (some ⟨w.heap.size,0,none⟩) 0 0) (w.alloc (.cells #[] e)):=by
 have h0:(Array.range 0)=#[]:=rfl
 simp[Instr.buildSlice,underlying,hu,hsz,h0,Instr.fill,newRow]
def Qbd(n:Nat)(h:AH):AV->Option (List AV)
 | .v (.slice none 0 0)=>some []
 | .sl s xs _=>if s=n then some xs else none
 | .arr id lo len=>match h[id]? with
  |some (.cells _ s xs)=>if s=n/\lo+len<=xs.length then some ((xs.drop lo).take len)else none
  |_=>none
 | .row id lo len _=>match h[id]? with
  |some (.cells _ s xs)=>if s=n/\lo+len<=xs.length then some ((xs.drop lo).take len)else none
  |_=>none
 |_=>none
theorem QaA{s:Nat}:∀{xs:List AV} {k:Nat},(∀x∈xs,x.cells.length=s)->k<=xs.length->flat (xs.drop k)=(flat xs).drop (k * s)
 |xs,0,_,_=>by simp
 |[],k+1,_,h=>by simp at h
 |x::xs,k+1,h,hk=>by
  have h0:=h x (by simp)
  rw[List.drop_succ_cons,QQ,QaA (fun y hy=>h y (by simp[hy])) (by simpa using hk),List.drop_append,h0]
  rw[QAt (as:=x.cells) (by rw[h0,QzU];omega),QyK]
  congr 1;rw[QzU];omega
theorem Zx{s:Nat}:∀{xs:List AV} {k:Nat},(∀x∈xs,x.cells.length=s)->k<=xs.length->flat (xs.take k)=(flat xs).take (k * s)
 |xs,0,_,_=>by simp[flat]
 |[],k+1,_,h=>by simp at h
 |x::xs,k+1,h,hk=>by
  have h0:=h x (by simp)
  rw[List.take_succ_cons,QQ,QQ,Zx (fun y hy=>h y (by simp[hy])) (by simpa using hk),List.take_append,h0]
  rw[QBb (l:=x.cells) (by rw[h0,QzU];omega)]
  congr 2;rw[QzU];omega
theorem QhJ{c:Cx}(hst:St c){n:Nat}{x:AV}{u:Value}{ys:List AV}(hs:Qbd n c.h x=some ys)(hx:Rel c x u) :
  (∀y∈ys,y.cells.length=n)/\(((u = .slice none 0 0\/∃ad:Addr,u = .slice (some ad) 0 0)/\ys=[])\/∃B o cap,u = .slice (some ⟨B,o,none⟩) ys.length cap/\Row c B o ys/\ys.length<=cap/\cap<=maxLen):=by
 cases hx with
 |v u =>
  have:u = .slice none 0 0/\ys=[]:=by
   unfold Qbd at hs
   split at hs <;> simp_all
  obtain⟨rfl,rfl⟩:=this
  exact⟨by simp,.inl ⟨.inl rfl,rfl⟩⟩
 |slnil s own ht=>simp only[Qbd]at hs;split at hs <;> simp_all
 |slzero s own ba ht =>
  simp only[Qbd]at hs
  split at hs
  ·cases hs
   exact⟨by simp,.inl ⟨.inr ⟨_,rfl⟩,rfl⟩⟩
  ·cases hs
 |sl s xs own B o cap f hs' hcap hmax hc hr ht =>
  simp only[Qbd]at hs
  split at hs
  ·rename_i e;cases hs;subst e
   exact⟨hs',.inr ⟨B,o,cap,rfl,fun j a hj=>⟨f j,(hc j a hj).1.1,(hc j a hj).2,hr j a hj⟩,hcap,hmax⟩⟩
  ·cases hs
 |arr id lo len x hid ho h1 =>
  simp only[Qbd]at hs
  split at hs
  ·rename_i ty s xs hb
   split at hs
   ·rename_i hh
    obtain⟨rfl,hle⟩:=hh
    cases hs
    obtain⟨B,cap,hρ,rfl,h6,h7,_⟩:=h1 _ _ _ hb
    obtain⟨B',cur,h2,h3,h4,h5⟩:=hst.blocks id _ hb
    rw[hρ]at h2;cases h2
    have hl:((xs.drop lo).take len).length=len:=by simp;omega
    refine⟨fun y hy=>h4 y (QzZ (QAa hy)),.inr ⟨B,lo * s,cap,by rw[hl],?_,by omega,h7⟩⟩
    intro j a hj
    rw[Zx (fun y hy=>h4 y (QzZ hy)) (by simp;omega)]at hj
    have hlt:=Qf hj
    rw[Qzx (by rw[QzE]at hlt;omega),QaA h4 (by omega),QzO]at hj
    obtain⟨u,h6,h7,h8⟩:=h5 _ a hj
    exact⟨u,by rw[XC h3];exact h6,h7,h8⟩
   ·cases hs
  ·cases hs
 |row id lo len cap x hid ho h1 =>
  simp only[Qbd]at hs
  split at hs
  ·rename_i ty s xs hb
   split at hs
   ·rename_i hh
    obtain⟨rfl,hle⟩:=hh
    cases hs
    obtain⟨B,cur0,hρ,rfl,h6,h7,_⟩:=h1 _ _ _ hb
    obtain⟨B',cur,h2,h3,h4,h5⟩:=hst.blocks id _ hb
    rw[hρ]at h2;cases h2
    have hl:((xs.drop lo).take len).length=len:=by simp;omega
    refine⟨fun y hy=>h4 y (QzZ (QAa hy)),.inr ⟨B,lo * s,cap,by rw[hl],?_,by omega,h7⟩⟩
    intro j a hj
    rw[Zx (fun y hy=>h4 y (QzZ hy)) (by simp;omega)]at hj
    have hlt:=Qf hj
    rw[Qzx (by rw[QzE]at hlt;omega),QaA h4 (by omega),QzO]at hj
    obtain⟨u,h6,h7,h8⟩:=h5 _ a hj
    exact⟨u,by rw[XC h3];exact h6,h7,h8⟩
   ·cases hs
  ·cases hs
 |_=>simp[Qbd]at hs
def Cx.move(c:Cx)(w:World)(id:Nat)(b:AB)(o:Option Nat):Cx :=
 {ρ:=fun i=>if i=id then o else c.ρ i,h:=c.h.set id b,w:=w}
theorem Ev.move{c:Cx}(hs:St c){w:World}(h:Grows c.w w){id:Nat}{e:TypeId}{s n n':Nat}{o:Option Nat}(hb:c.h[id]? = some (.grow e s n))(hn:n<n')(ho:∀B,o=some B->c.w.heap.size<=B) :
  Ev c (c.move w id (.grow e s n') o):=by
 refine⟨h.os,h.tape,h.output,h.size,by simp[Cx.move],fun B hB _=>h.old B hB,fun i bi hbi=>?_,fun i B b h1 h2=>by have:=Qf h2;simp[Cx.move]at this;omega⟩
 by_cases hi:i=id
 ·subst hi
  rw[hb]at hbi;cases hbi
  refine⟨.grow e s n',by simp[Cx.move,Qf hb],.inr ⟨n',rfl,by omega,fun e=>by omega,fun B hB=>?_,fun B cur hρ hc=>⟨cur,(h.old B (hs.lt hb rfl hρ)).trans hc,rfl,fun _ _=>rfl⟩⟩⟩
  simp only[Cx.move,QAj]at hB
  exact .inr (ho B hB)
 ·refine⟨bi,by simp only[Cx.move];rw[Qzd (fun e=>hi e.symm)];exact hbi,?_⟩
  have hρ:(c.move w id (.grow e s n') o).ρ i=c.ρ i:=by simp[Cx.move,hi]
  cases bi with
  |cells ty s xs=>exact .inr ⟨xs,rfl,hρ,fun B cur hρ' hc=>⟨cur,(h.old B (hs.lt hbi rfl hρ')).trans hc,rfl⟩⟩
  |grow e s n=>exact .inr ⟨n,rfl,Qzl _,fun _=>hρ,fun B hB=>.inl (by rw[<-hρ];exact hB),fun B cur hρ' hc=>⟨cur,(h.old B (hs.lt hbi rfl hρ')).trans hc,rfl,fun _ _=>rfl⟩⟩
  |map es=>exact⟨es,rfl,hρ⟩
  |loop i=>exact⟨i,rfl,hρ⟩
  |iter s p=>exact⟨p,rfl,hρ⟩
  |glob g cs ty fr=>exact⟨rfl,hρ,fun B hρ'=>h.old B (hs.lt hbi rfl hρ')⟩
  |dead=>rfl
  |gone=>rfl
theorem St.move{c:Cx}(hs:St c){w:World}(h:Grows c.w w){id:Nat}{e:TypeId}{s n n':Nat}{o:Option Nat}(hb:c.h[id]? = some (.grow e s n))(hn:n<n')(ho:∀B,o=some B->c.w.heap.size<=B)
  (hb':BR (c.move w id (.grow e s n') o) id (.grow e s n')):St (c.move w id (.grow e s n') o):=by
 have he:=Ev.move hs h hb hn ho
 have old:∀i bi,i≠id->(c.move w id (.grow e s n') o).h[i]? = some bi->c.h[i]? = some bi/\(c.move w id (.grow e s n') o).ρ i=c.ρ i:=by
  intro i bi hi hg
  simp only[Cx.move]at hg
  rw[Qzd (fun e=>hi e.symm)]at hg
  exact⟨hg,by simp[Cx.move,hi]⟩
 have new:(c.move w id (.grow e s n') o).h[id]? = some (.grow e s n'):=by simp[Cx.move,Qf hb]
 have newρ:(c.move w id (.grow e s n') o).ρ id=o:=by simp[Cx.move]
 refine⟨fun i bi hg=>?_,fun i j a b2 k hi hj hla hlb hρi hρj=>?_⟩
 ·by_cases hi:i=id
  ·subst hi;rw[new]at hg;cases hg;exact hb'
  ·obtain⟨h1,h2⟩:=old i bi hi hg
   exact(hs.blocks i bi h1).ev hs he h2 (fun B hl hρ=>h.old B (hs.lt h1 hl hρ))
 ·by_cases hi':i=id
  ·by_cases hj':j=id
   ·omega
   ·obtain⟨h1,h2⟩:=old j b2 hj' hj
    rw[h2]at hρj
    have:=hs.lt h1 hlb hρj
    subst hi';rw[newρ]at hρi
    have:=ho k hρi;omega
  ·obtain⟨h1,h2⟩:=old i a hi' hi
   rw[h2]at hρi
   by_cases hj':j=id
   ·have:=hs.lt h1 hla hρi
    subst hj';rw[newρ]at hρj
    have:=ho k hρj;omega
   ·obtain⟨h3,h4⟩:=old j b2 hj' hj
    rw[h4]at hρj
    exact hs.inj i j a b2 k h1 h3 hla hlb hρi hρj
theorem Qaq{c:Cx}(hs:St c){b B s cap:Nat}{e:TypeId}{xs:List AV}{cur:Array Value}(hb:c.h[b]? = some (.grow e s xs.length))(hρ:c.ρ b=some B)(hB:c.w.heap[B]? = some (.cells cur e (0,0)))
  (hsz:cur.size=cap * s) (hcap:xs.length<=cap) (hmax:cap<=maxLen) (hxs:∀x∈xs,x.cells.length=s)
  (hr:∀(j:Nat) a,(flat xs)[j]? = some a->∃u,cur[j]? = some u/\u.oneCell'=true/\Rel c a u):Rel c (.sl s xs (some b)) (.slice (some ⟨B,0,none⟩) xs.length cap):=by
 have hf:∀(j:Nat) a,(flat xs)[j]? = some a->cur[j]? = some (cur.getD j undef)/\(cur.getD j undef).oneCell'=true/\Rel c a (cur.getD j undef):=by
  intro j a ha
  obtain⟨u,h1,h2,h3⟩:=hr j a ha
  have:cur.getD j undef=u:=by rw[Qzr,h1];rfl
  rw[this];exact⟨h1,h2,h3⟩
 refine .sl s xs (some b) B 0 cap (fun j=>cur.getD j undef) hxs hcap hmax ?_ (fun j a ha=>(hf j a ha).2.2) ?_
 ·intro j a ha
  refine⟨⟨by rw[Qyv,XC hB];exact(hf j a ha).1,hs.lt hb rfl hρ,?_⟩,(hf j a ha).2.1⟩
  intro id b' hb' hl hρ'
  have:=hs.inj id b b' _ B hb' hb hl rfl hρ' hρ
  subst this
  rw[hb]at hb';cases hb'
  refine .inl ⟨e,s,xs.length,rfl,?_⟩
  have:=Qf ha
  rw[flat_length hxs]at this
  omega
 ·intro b' hb'
  cases hb'
  refine⟨⟨Qf hb,_,hb,rfl⟩,fun e' s' n hg=>?_⟩
  rw[hb]at hg;cases hg
  exact⟨rfl,Qzl _,fun _=>⟨rfl,hρ,hcap,hmax,cur,hB,hsz⟩⟩
structure AppInfo where
 e:TypeId
 n:Nat
 bytes:Nat
def appInfo(P:Program)(t t':TypeId):Option AppInfo :=
 match P.underlying t,P.underlying t' with
 |some (.slice e),some (.slice _) =>
  match P.info? e with
  |some i=>match i.zero with
   |some z=>if 0<i.size/\z.cells.size=i.size then some ⟨e,i.size,i.bytes⟩else none
   |none=>none
  |none=>none
 |_,_=>none
theorem Qfq{P:Program}{t t':TypeId}{a:AppInfo}(h:appInfo P t t'=some a) :
  ∃i z e',P.underlying t=some (.slice a.e)/\P.underlying t'=some (.slice e')/\P.info? a.e=some i/\i.zero=some z/\i.size=a.n/\i.bytes=a.bytes/\z.cells.size=a.n/\0<a.n:=by
 unfold appInfo at h
 cases hu:P.underlying t with
 |none=>simp[hu]at h
 |some d =>
  cases hu':P.underlying t' with
  |none=>cases d <;> simp[hu,hu']at h
  |some d' =>
   cases d with
   |slice e =>
    cases d' with
    |slice e' =>
     simp only[hu,hu']at h
     cases hi:P.info? e with
     |none=>simp[hi]at h
     |some i =>
      cases hz:i.zero with
      |none=>simp[hi,hz]at h
      |some z =>
       simp only[hi,hz]at h
       split at h
       ·rename_i hh
        cases h
        exact⟨i,z,e',rfl,rfl,hi,hz,rfl,rfl,hh.2,hh.1⟩
       ·cases h
    |_=>simp[hu,hu']at h
   |_=>simp[hu]at h
theorem Qfs{P:Program}{t t' ty e e':TypeId}(hu:P.underlying t=some (.slice e))(hu':P.underlying t'=some (.slice e'))(args:Array Value)(w:World) :
  (Builtin.append_ #[t,t'] ty args).run P w=(Builtin.append_ #[t,t] ty args).run P w:=by
 unfold Builtin.append_
 simp only[Qym,Qyj,Qyk]
 split
 ·rename_i heq
  simp only[QAJ,Qyp]at heq
  obtain⟨rfl,_,_⟩:=heq
  simp only[Sem.run_bind,underlying,run_program,Result.andThen_ok,hu,Sem.run_pure]
  split
  ·simp only[Sem.run_bind,run_program,Result.andThen_ok,hu,hu',Sem.run_pure]
  ·rfl
 ·rfl
def QbG(P:Program)(t t':TypeId)(s x:AV)(h:AH):Option (AV×AH) :=
 match appInfo P t t' with
 |some a =>
  match Qbd a.n h x with
  |some ys =>
   match s with
   | .v (.slice none 0 0)=>if ys.length<=maxLen/\ys.length * a.bytes<=140737488355328 then some (.sl a.n ys (some h.length),h++[.grow a.e a.n ys.length])else none
   | .sl m xs (some b)=>match h[b]? with
    |some (.grow e n k)=>if m=a.n/\e=a.e/\n=a.n/\k=xs.length/\xs.length+ys.length<=maxLen/\(xs.length+ys.length) * a.bytes<=140737488355328 then
      some (.sl m (xs++ys) (some b),h.set b (.grow a.e a.n (xs.length+ys.length)))else none
    |some .dead=>if m=a.n/\xs.isEmpty=true/\ys.length<=maxLen/\ys.length * a.bytes<=140737488355328 then
      (if ys.isEmpty then some (.sl m [] (some b),h)else some (.arr h.length 0 ys.length,h++[.cells a.e a.n ys]))else none
    |_=>none
   |_=>none
  |none=>none
 |none=>none
def Qd7(P:Program)(t t':TypeId)(s x:AV)(h:AH):Option (AV×AH) :=
 match appInfo P t t' with
 |some a =>
  match Qbd a.n h x with
  |some ys =>
   match s with
   | .row id lo len cap=>match h[id]? with
    |some (.cells e n xs)=>if ys.isEmpty=true then some (.row id lo len cap,h)else if e=a.e/\n=a.n/\lo=0/\len=xs.length/\ys.isEmpty=false/\xs.length+ys.length<=maxLen/\(xs.length+ys.length) * a.bytes<=140737488355328 then
      (if xs.length+ys.length<=cap then some (.row id 0 (xs.length+ys.length) cap,h.set id (.cells e n (xs++ys)))else some (.arr h.length 0 (xs.length+ys.length),h++[.cells e n (xs++ys)]))else none
    |_=>none
   |_=>none
  |none=>none
 |none=>none
def blanks(n k:Nat):List AV:=List.replicate k (.agg (List.replicate n .junk))
def Qi5(P:Program)(t t':TypeId)(s:AV)(k:Int)(h:AH):Option (AV×AH) :=
 match P.underlying t,P.underlying t',s with
 |some (.slice e),some (.int _),.row id lo len cap=>match h[id]?,P.info? e with
  |some (.cells e' n xs),some i=>match i.zero with
   |some z=>if e'=e/\n=i.size/\0<n/\z.cells.size=n/\(AV.ofV z).Qxu=true/\(AV.ofV z).cells.length=n/\lo=0/\len<=xs.length/\0<k/\cap<len+k.toNat/\len+k.toNat<=maxLen/\(len+k.toNat) * i.bytes<=140737488355328 then
     some (.arr h.length 0 (len+k.toNat),h++[.cells e n (xs.take len++blanks n k.toNat)])else none
   |none=>none
  |_,_=>none
 |_,_,_=>none
def Qgm(P:Program)(t t':TypeId)(k:Int)(h:AH):Option (AV×AH) :=
 match P.underlying t,P.underlying t' with
 |some (.slice e),some (.int _)=>match P.info? e with
  |some i=>match i.zero with
   |some z=>if 0<i.size/\z.cells.size=i.size/\(AV.ofV z).Qxu=true/\(AV.ofV z).cells.length=i.size/\0<k/\k.toNat<=maxLen/\k.toNat * i.bytes<=140737488355328 then
     some (.arr h.length 0 k.toNat,h++[.cells e i.size (blanks i.size k.toNat)])else none
   |none=>none
  |none=>none
 |_,_=>none
theorem QhG{c:Cx}(hst:St c){id B ty s lo:Nat}{xs ys:List AV}{cur:Array Value}{news:List Value}(hb:c.h[id]? = some (.cells ty s xs))(hρ:c.ρ id=some B)(hB:c.w.heap[B]? = some (.cells cur ty (0,0)))
  (hlo:lo<=xs.length) (hys:∀y∈ys,y.cells.length=s) (hnl:news.length=(flat ys).length) (hno:∀u∈news,u.oneCell'=true) (hnr:∀(j:Nat) a u,(flat ys)[j]? = some a->news[j]? = some u->Rel c a u)
  (hfit:lo * s+news.length<=cur.size) :
  let cur':=(cur.toList.take (lo * s)++news++cur.toList.drop (lo * s+news.length)).toArray
  let c':=c.turn (c.w.setRow B cur') id (.cells ty s (xs.take lo++ys++xs.drop (lo+ys.length)))
  Ev c c'/\St c'/\c'.w.heap[B]? = some (.cells cur' ty (0,0))/\cur'.size=cur.size:=by
 intro cur' c'
 obtain⟨B',cur0,h1,h2,h3,h4⟩:=hst.blocks id _ hb
 rw[hρ]at h1;cases h1
 rw[hB]at h2;cases h2
 have hyl:(flat ys).length=ys.length * s:=flat_length hys
 have hxl:(flat xs).length=xs.length * s:=flat_length h3
 have hls:lo * s<=xs.length * s:=QzK _ hlo
 have hheap:(c.w.setRow B cur').heap[B]? = some (.cells cur' ty (0,0)):=setRow_heap c.w B cur cur' ty (0,0) hB
 have hsz:cur'.size=cur.size:=by
  simp only[cur',QzX,Qza,QzE,QzM,QzS];omega
 have htl:(cur.toList.take (lo * s)).length=lo * s:=by simp;omega
 have hev:Ev c c':=Ev.turn hst hb rfl hρ rfl rfl rfl (by simp[World.setRow]) (fun k hk=>Zy c.w B cur' k hk)
  (.inr ⟨_,rfl,rfl,fun B0 cur0 e1 e2=>by
   rw[hρ]at e1;cases e1
   rw[hB]at e2;cases e2
   exact⟨cur',hheap,hsz⟩⟩)
 have hlow:∀j,j<lo * s->cur'[j]? = cur[j]? := by
  intro j hj
  simp only[cur',Qym]
  rw[Qze,Qzc (by omega),Qzx hj];simp
 have hmid:∀(j:Nat) u,news[j]? = some u->cur'[lo * s+j]? = some u:=by
  intro j u hu
  simp only[cur',Qym]
  rw[Qze,Qzi (by omega),htl,Qzc (by have:=Qf hu;omega)]
  rw[show lo * s+j - lo * s=j by omega];exact hu
 have hhigh:∀j,lo * s+news.length<=j->cur'[j]? = cur[j]? := by
  intro j hj
  simp only[cur',Qym]
  rw[Qzi (by rw[Qza,htl];exact hj),Qza,htl,QzO]
  rw[show lo * s+news.length+(j - (lo * s+news.length))=j by omega];simp
 refine⟨hev,St.turn hst hb rfl hρ (fun k hk=>Zy c.w B cur' k hk) hev ⟨B,cur',hρ,hheap,?_,?_⟩,hheap,hsz⟩
 ·intro x hx
  rcases QzH.1 hx with hx|hx
  ·rcases QzH.1 hx with hx|hx
   ·exact h3 x (QAa hx)
   ·exact hys x hx
  ·exact h3 x (QzZ hx)
 ·intro j a hj
  rw[Yn,Yn,Zx h3 hlo]at hj
  have htk:((flat xs).take (lo * s)).length=lo * s:=by simp;omega
  by_cases c1:j<lo * s
  ·rw[Qze,Qzc (by omega),Qzx c1]at hj
   obtain⟨u,h6,h7,h8⟩:=h4 j a hj
   exact⟨u,by rw[hlow j c1];exact h6,h7,h8.ev hst hev⟩
  ·by_cases c2:j<lo * s+ys.length * s
   ·rw[Qze,Qzi (by omega),htk,Qzc (by omega)]at hj
    obtain⟨u,hu⟩:∃u,news[j - lo * s]? = some u:=⟨_,Qzg (by rw[hnl];exact Qf hj)⟩
    refine⟨u,?_,hno u (Qzp hu),(hnr _ a u hj hu).ev hst hev⟩
    have:=hmid _ u hu
    rwa [show lo * s+(j - lo * s)=j by omega]at this
   ·rw[Qzi (by rw[Qza,htk,hyl];omega),Qza,htk,hyl]at hj
    by_cases c3:lo+ys.length<=xs.length
    ·rw[QaA h3 c3,QzO,show(lo+ys.length) * s+(j - (lo * s+ys.length * s))=j by rw[QzU];omega]at hj
     obtain⟨u,h6,h7,h8⟩:=h4 j a hj
     exact⟨u,by rw[hhigh j (by rw[hnl,hyl];omega)];exact h6,h7,h8.ev hst hev⟩
    ·rw[QAt (by omega)]at hj
     simp[flat]at hj
theorem Z8{c:Cx}{B o:Nat}{ys:List AV}(hr:Row c B o ys):∃news:List Value,news.length=(flat ys).length/\(∀(j:Nat) u,news[j]? = some u->c.w.cell? ⟨B,o+j,none⟩=some u) /\
  (∀u∈news,u.oneCell'=true)/\∀(j:Nat) a u,(flat ys)[j]? = some a->news[j]? = some u->Rel c a u:=by
 refine⟨(List.range (flat ys).length).map fun j=>(c.w.cell? ⟨B,o+j,none⟩).getD undef,by simp,?_,?_,?_⟩
 ·intro j u hu
  have hlt:=Qf hu
  simp only[QzJ,List.length_range]at hlt
  obtain⟨v,h1,_⟩:=hr j _ (Qzg hlt)
  simp[hlt,h1]at hu
  rw[h1,hu]
 ·intro u hu
  simp only[QzD,List.mem_range]at hu
  obtain⟨j,hlt,rfl⟩:=hu
  obtain⟨v,h1,h2,_⟩:=hr j _ (Qzg hlt)
  rw[h1];exact h2
 ·intro j a u ha hu
  have hlt:=Qf ha
  obtain⟨v,h1,_,h3⟩:=hr j a ha
  simp[hlt,h1]at hu
  rw[<-hu];exact h3
theorem Yk(z:Array Value)(n:Nat):(Builtin.zeroCells z n).size=n * z.size:=by simp[Builtin.zeroCells]
theorem run_append_nothing{P:Program}{w:World}{t ty e:TypeId}{i:TypeInfo}(ht:P.underlying t=some (.slice e))(hi:P.info? e=some i)(b:Option Addr)(n cap:Nat)(hcap:n<=cap)(x:Value)
  (hx:x = .slice none 0 0\/∃a k,x = .slice (some a) 0 k):(Builtin.append_ #[t,t] ty #[.slice b n cap,x]).run P w = .ok (.slice b n cap) w:=by
 rcases hx with rfl|⟨a,k,rfl⟩
 ·cases b <;> simp[Builtin.append_,underlying,ht,sizeOf,typeInfo,hi,Builtin.lenOf,Builtin.firstCells,hcap,storeCells]
 ·cases b <;> simp[Builtin.append_,underlying,ht,sizeOf,typeInfo,hi,Builtin.lenOf,Builtin.firstCells,hcap,storeCells,loadCells,loadCellsFrom]
theorem QcC{P:Program}{c:Cx}(hst:St c){e s cap':Nat}{rest:Array Value}{ys:List AV}{news:List Value}{x:Sem Value}(hnl:news.length=(flat ys).length)
  (hys:∀y∈ys,y.cells.length=s) (hno:∀u∈news,u.oneCell'=true) (hnr:∀(j:Nat) a u,(flat ys)[j]? = some a->news[j]? = some u->Rel c a u) (hcap1:ys.length<=cap') (hcap2:cap'<=maxLen)
  (hsz:cap' * s<=(news.toArray++rest).size)
  (hrun:x.run P c.w = .ok (.slice (some ⟨c.w.heap.size,0,none⟩) ys.length cap') (c.w.drew.alloc (.cells (news.toArray++rest) e))) :
  ∃y c',x.run P c.w = .ok y c'.w/\Ev c c'/\St c'/\c'.h=c.h++[.cells e s ys]/\Rel c' (.arr c.h.length 0 ys.length) y:=by
 let cells:=news.toArray++rest
 have hg:Grows c.w (c.w.drew.alloc (.cells cells e)):=(Grows.drew c.w).trans (Grows.alloc _ _)
 have ho:∀B,some c.w.heap.size=some B->c.w.heap.size<=B:=fun B h=>by cases h;exact Qzl _
 have hev:=Ev.add hst hg (.cells e s ys) (some c.w.heap.size) ho
 have hρ:(c.add (c.w.drew.alloc (.cells cells e)) (.cells e s ys) (some c.w.heap.size)).ρ c.h.length=some c.w.heap.size:=by simp[Cx.add]
 have hheap:(c.w.drew.alloc (.cells cells e)).heap[c.w.heap.size]? = some (.cells cells e (0,0)):=QO c.w.drew _
 have hst':=St.add hst hg (.cells e s ys) (some c.w.heap.size) ho (by
  refine⟨_,cells,hρ,hheap,hys,fun j a ha=>?_⟩
  obtain⟨u,hu2⟩:∃u,news[j]? = some u:=⟨_,Qzg (by rw[hnl];exact Qf ha)⟩
  refine⟨u,?_,hno u (Qzp hu2),(hnr j a u ha hu2).ev hst hev⟩
  simp only[cells]
  rw[Qz6 (by simpa using Qf hu2)]
  simpa using hu2)
 refine⟨_,c.add (c.w.drew.alloc (.cells cells e)) (.cells e s ys) (some c.w.heap.size),hrun,hev,hst',rfl,.arr _ _ _ _ (by simp[Cx.add]) rfl ?_⟩
 intro ty s' xs' hb
 simp[Cx.add]at hb
 obtain⟨rfl,rfl,rfl⟩:=hb
 exact⟨c.w.heap.size,cap',hρ,by simp,hcap1,hcap2,cells,hheap,by rw[Qyv];exact hsz⟩
theorem Qfr{P:Program}{c:Cx}(hst:St c){e s:Nat}{z:Value}(hzn:z.cells.size=s){ys:List AV}{news:List Value}{x:Sem Value}(hnl:news.length=(flat ys).length)(hyl:(flat ys).length=ys.length * s)
  (hys:∀y∈ys,y.cells.length=s) (hno:∀u∈news,u.oneCell'=true) (hnr:∀(j:Nat) a u,(flat ys)[j]? = some a->news[j]? = some u->Rel c a u) (hb1:ys.length<=maxLen)
  (hrun:x.run P c.w = .ok (.slice (some ⟨c.w.heap.size,0,none⟩) ys.length (grownCap c.w ys.length 0 e)) (c.w.drew.alloc (.cells (news.toArray++Builtin.zeroCells z.cells (grownCap c.w ys.length 0 e - ys.length)) e))) :
  ∃y c',x.run P c.w = .ok y c'.w/\Ev c c'/\St c'/\c'.h=c.h++[.cells e s ys]/\Rel c' (.arr c.h.length 0 ys.length) y:=by
 let cap':=grownCap c.w ys.length 0 e
 let cells:=news.toArray++Builtin.zeroCells z.cells (cap' - ys.length)
 have hcap1:ys.length<=cap':=grownCap_ge _ _ _ _
 have hcap2:cap'<=maxLen:=grownCap_le_maxLen _ _ _ _ hb1
 have hg:Grows c.w (c.w.drew.alloc (.cells cells e)):=(Grows.drew c.w).trans (Grows.alloc _ _)
 have ho:∀B,some c.w.heap.size=some B->c.w.heap.size<=B:=fun B h=>by cases h;exact Qzl _
 have hev:=Ev.add hst hg (.cells e s ys) (some c.w.heap.size) ho
 have hρ:(c.add (c.w.drew.alloc (.cells cells e)) (.cells e s ys) (some c.w.heap.size)).ρ c.h.length=some c.w.heap.size:=by simp[Cx.add]
 have hheap:(c.w.drew.alloc (.cells cells e)).heap[c.w.heap.size]? = some (.cells cells e (0,0)):=QO c.w.drew _
 have hst':=St.add hst hg (.cells e s ys) (some c.w.heap.size) ho (by
  refine⟨_,cells,hρ,hheap,hys,fun j a ha=>?_⟩
  obtain⟨u,hu2⟩:∃u,news[j]? = some u:=⟨_,Qzg (by rw[hnl];exact Qf ha)⟩
  refine⟨u,?_,hno u (Qzp hu2),(hnr j a u ha hu2).ev hst hev⟩
  simp only[cells]
  rw[Qz6 (by simpa using Qf hu2)]
  simpa using hu2)
 refine⟨_,c.add (c.w.drew.alloc (.cells cells e)) (.cells e s ys) (some c.w.heap.size),hrun,hev,hst',rfl,.arr _ _ _ _ (by simp[Cx.add]) rfl ?_⟩
 intro ty s' xs' hb
 simp[Cx.add]at hb
 obtain⟨rfl,rfl,rfl⟩:=hb
 exact⟨c.w.heap.size,cap',hρ,by simp;rfl,hcap1,hcap2,cells,hheap,by
  simp only[cells,QAc,QzX,hnl,hyl,Yk,hzn,<-QzU,Qyv]
  exact QAT (by congr 1;omega)⟩
theorem Qky{P:Program}{c:Cx}(hst:St c){t t' ty:TypeId}{s x r:AV}{h':AH}{us ux:Value}(ha:QbG P t t' s x c.h=some (r,h'))(hs:Rel c s us)(hx:Rel c x ux) :
  ∃y c',(Builtin.append_ #[t,t'] ty #[us,ux]).run P c.w = .ok y c'.w/\Ev c c'/\St c'/\c'.h=h'/\Rel c' r y:=by
 unfold QbG at ha
 cases hai:appInfo P t t' with
 |none=>simp[hai]at ha
 |some a =>
  obtain⟨e,n,bytes⟩:=a
  obtain⟨i,z,e',hu,hu',hi,hz,rfl,hby,hzn,hn⟩:=Qfq hai
  rw[Qfs hu hu']
  simp only[hai]at ha
  cases hsrc:Qbd i.size c.h x with
  |none=>simp[hsrc]at ha
  |some ys =>
   simp only[hsrc]at ha
   obtain⟨hys,hxs⟩:=QhJ hst hsrc hx
   subst hby
   have hyl:=flat_length hys
   cases hs with
   |v us =>
    split at ha
    ·rename_i s' heq
     cases heq
     split at ha
     ·rename_i hb
      obtain⟨hb1,hb2⟩:=hb
      cases ha
      by_cases hm:ys=[]
      ·subst hm
       have hrun:=run_append_nothing (P:=P) (w:=c.w) (ty:=ty) hu hi none 0 0 (Qzl _) ux (by
        rcases hxs with⟨h1,_⟩|⟨B,o,cap,h1,_⟩
        ·exact h1.imp id fun⟨ad,e⟩=>⟨_,_,e⟩
        ·exact .inr ⟨_,_,h1⟩)
       have hg:=Grows.refl c.w
       have ho:∀B,(none:Option Nat)=some B->c.w.heap.size<=B:=fun B h=>by cases h
       have hρ:(c.add c.w (.grow e i.size 0) none).ρ c.h.length=none:=by simp[Cx.add]
       refine⟨_,c.add c.w (.grow e i.size 0) none,hrun,Ev.add hst hg _ _ ho,St.add hst hg _ _ ho ?_,rfl,.slnil _ _ ?_⟩
       ·intro B hB;rw[hρ]at hB;cases hB
       ·intro b hb
        cases hb
        refine⟨by simp[Cx.add,AB.tok],fun e2 s2 n2 hg2=>?_⟩
        simp[Cx.add]at hg2
        exact⟨hg2.2.1.symm,fun _=>hρ⟩
      ·rcases hxs with⟨_,h1⟩|⟨B,o,cap,rfl,hrow,_⟩
       ·exact absurd h1 hm
       ·obtain⟨news,hnl,hnc,hno,hnr⟩:=Z8 hrow
        have hpos:0<ys.length:=by cases ys <;> simp_all
        have h63:ys.length<=9223372036854775807:=by simp only[maxLen]at hb1;omega
        have hrun:=run_append_nil (P:=P) c.w t ty e i z hu hi hz ⟨B,o,none⟩ ys.length cap news (by rw[hnl,hyl]) (fun j v hv=>by rw[addr_add];exact hnc j v hv) hpos (by omega) (by omega)
        let cap':=grownCap c.w ys.length 0 e
        let cells:=news.toArray++Builtin.zeroCells z.cells (cap' - ys.length)
        have hcap1:ys.length<=cap':=grownCap_ge _ _ _ _
        have hcap2:cap'<=maxLen:=grownCap_le_maxLen _ _ _ _ hb1
        have hcs:cells.size=cap' * i.size:=by
         simp only[cells,QAc,QzX,hnl,hyl,Yk,hzn,<-QzU]
         congr 1;omega
        have hg:Grows c.w (c.w.drew.alloc (.cells cells e)):=(Grows.drew c.w).trans (Grows.alloc _ _)
        have ho:∀B,some c.w.heap.size=some B->c.w.heap.size<=B:=fun B h=>by cases h;exact Qzl _
        have hev:=Ev.add hst hg (.grow e i.size ys.length) (some c.w.heap.size) ho
        have hρ:(c.add (c.w.drew.alloc (.cells cells e)) (.grow e i.size ys.length) (some c.w.heap.size)).ρ c.h.length=some c.w.heap.size:=by simp[Cx.add]
        have hheap:(c.w.drew.alloc (.cells cells e)).heap[c.w.heap.size]? = some (.cells cells e (0,0)):=QO c.w.drew _
        have hst':=St.add hst hg (.grow e i.size ys.length) (some c.w.heap.size) ho (by
         intro B' hB'
         rw[hρ]at hB';cases hB'
         exact⟨cells,hheap,by rw[hcs];exact QzK _ hcap1⟩)
        refine⟨_,c.add (c.w.drew.alloc (.cells cells e)) (.grow e i.size ys.length) (some c.w.heap.size),hrun,hev,hst',rfl,?_⟩
        refine Qaq hst' (by simp[Cx.add]) hρ hheap hcs hcap1 hcap2 hys ?_
        intro j a ha
        obtain⟨u,hu2⟩:∃u,news[j]? = some u:=⟨_,Qzg (by rw[hnl];exact Qf ha)⟩
        refine⟨u,?_,hno u (Qzp hu2),(hnr j a u ha hu2).ev hst hev⟩
        simp only[cells]
        rw[Qz6 (by simpa using Qf hu2)]
        simpa using hu2
     ·cases ha
    ·simp_all
    ·cases ha
   |slnil m own ht =>
    cases own with
    |none=>simp at ha
    |some b =>
     simp only at ha
     split at ha
     ·rename_i e2 n2 k hb
      split at ha
      ·rename_i hh
       obtain⟨rfl,rfl,rfl,hk,hb1,hb2⟩:=hh
       cases ha
       simp only[Qyx,Qyv]at hk hb1 hb2 ⊢
       subst hk
       obtain⟨htl,htn⟩:=ht b rfl
       obtain⟨_,hρn⟩:=htn _ _ _ hb
       have hρ0:=hρn rfl
       by_cases hm:ys=[]
       ·subst hm
        have hrun:=run_append_nothing (P:=P) (w:=c.w) (ty:=ty) hu hi none 0 0 (Qzl _) ux (by
         rcases hxs with⟨h1,_⟩|⟨B,o,cap,h1,_⟩
         ·exact h1.imp id fun⟨ad,e⟩=>⟨_,_,e⟩
         ·exact .inr ⟨_,_,h1⟩)
        have hset:c.h.set b (.grow e2 i.size 0)=c.h:=by
         apply QzY
         intro j
         rw[QAQ]
         split
         ·rename_i hj;subst hj;rw[hb];first|done|rfl
         ·rfl
        refine⟨_,c,hrun,Ev.refl c,hst,hset.symm,?_⟩
        exact .slnil _ _ ht
       ·rcases hxs with⟨_,h1⟩|⟨B,o,cap,rfl,hrow,_⟩
        ·exact absurd h1 hm
        ·obtain⟨news,hnl,hnc,hno,hnr⟩:=Z8 hrow
         have hpos:0<ys.length:=by cases ys <;> simp_all
         have h63:ys.length<=9223372036854775807:=by simp only[maxLen]at hb1;omega
         have hrun:=run_append_nil (P:=P) c.w t ty e2 i z hu hi hz ⟨B,o,none⟩ ys.length cap news (by rw[hnl,hyl]) (fun j v hv=>by rw[addr_add];exact hnc j v hv) hpos (by omega) (by omega)
         let cap':=grownCap c.w ys.length 0 e2
         let cells:=news.toArray++Builtin.zeroCells z.cells (cap' - ys.length)
         have hcap1:ys.length<=cap':=grownCap_ge _ _ _ _
         have hcap2:cap'<=maxLen:=grownCap_le_maxLen _ _ _ _ hb1
         have hcs:cells.size=cap' * i.size:=by
          simp only[cells,QAc,QzX,hnl,hyl,Yk,hzn,<-QzU]
          congr 1;omega
         have hg:Grows c.w (c.w.drew.alloc (.cells cells e2)):=(Grows.drew c.w).trans (Grows.alloc _ _)
         have ho:∀B,some c.w.heap.size=some B->c.w.heap.size<=B:=fun B h=>by cases h;exact Qzl _
         have hev:=Ev.move hst hg hb hpos ho
         have hρ:(c.move (c.w.drew.alloc (.cells cells e2)) b (.grow e2 i.size ys.length) (some c.w.heap.size)).ρ b=some c.w.heap.size:=by simp[Cx.move]
         have hheap:(c.w.drew.alloc (.cells cells e2)).heap[c.w.heap.size]? = some (.cells cells e2 (0,0)):=QO c.w.drew _
         have hst':=St.move hst hg hb hpos ho (by
          intro B' hB'
          rw[hρ]at hB';cases hB'
          exact⟨cells,hheap,by rw[hcs];exact QzK _ hcap1⟩)
         refine⟨_,c.move (c.w.drew.alloc (.cells cells e2)) b (.grow e2 i.size ys.length) (some c.w.heap.size),hrun,hev,hst',rfl,?_⟩
         refine Qaq hst' (by simp[Cx.move,htl]) hρ hheap hcs hcap1 hcap2 hys ?_
         intro j a ha
         obtain⟨u,hu2⟩:∃u,news[j]? = some u:=⟨_,Qzg (by rw[hnl];exact Qf ha)⟩
         refine⟨u,?_,hno u (Qzp hu2),(hnr j a u ha hu2).ev hst hev⟩
         simp only[cells]
         rw[Qz6 (by simpa using Qf hu2)]
         simpa using hu2
      ·cases ha
     ·rename_i hb
      split at ha
      ·rename_i hh
       obtain⟨rfl,_,hb1,hb2⟩:=hh
       by_cases hm:ys=[]
       ·subst hm
        simp only[QyZ,QAj,Qyp,QAJ]at ha
        obtain⟨rfl,rfl⟩:=ha
        have hrun:=run_append_nothing (P:=P) (w:=c.w) (ty:=ty) hu hi none 0 0 (Qzl _) ux (by
         rcases hxs with⟨h1,_⟩|⟨B,o,cap,h1,_⟩
         ·exact h1.imp id fun⟨ad,e⟩=>⟨_,_,e⟩
         ·exact .inr ⟨_,_,h1⟩)
        exact⟨_,c,hrun,Ev.refl c,hst,rfl,.slnil _ _ ht⟩
       ·have hne:ys.isEmpty=false:=by cases ys <;> simp_all
        simp only[hne,Qyn,Qz5,Qyp,QAJ]at ha
        obtain⟨rfl,rfl⟩:=ha
        rcases hxs with⟨_,h1⟩|⟨B,o,cap,rfl,hrow,_⟩
        ·exact absurd h1 hm
        ·obtain⟨news,hnl,hnc,hno,hnr⟩:=Z8 hrow
         have hpos:0<ys.length:=by cases ys <;> simp_all
         have h63:ys.length<=9223372036854775807:=by simp only[maxLen]at hb1;omega
         have hrun:=run_append_nil (P:=P) c.w t ty e i z hu hi hz ⟨B,o,none⟩ ys.length cap news (by rw[hnl,hyl]) (fun j v hv=>by rw[addr_add];exact hnc j v hv) hpos (by omega) (by omega)
         exact Qfr hst hzn hnl hyl hys hno hnr hb1 hrun
      ·cases ha
     ·cases ha
   |slzero m own ba ht =>
    cases own with
    |none=>simp at ha
    |some b =>
     simp only at ha
     split at ha
     ·rename_i e2 n2 k hb
      split at ha
      ·rename_i hh
       obtain⟨rfl,rfl,rfl,hk,hb1,hb2⟩:=hh
       cases ha
       simp only[Qyx,Qyv]at hk hb1 hb2 ⊢
       subst hk
       obtain⟨htl,htn⟩:=ht b rfl
       obtain⟨_,hρn⟩:=htn _ _ _ hb
       have hρ0:=hρn rfl
       by_cases hm:ys=[]
       ·subst hm
        have hrun:=run_append_nothing (P:=P) (w:=c.w) (ty:=ty) hu hi (some ba) 0 0 (Qzl _) ux (by
         rcases hxs with⟨h1,_⟩|⟨B,o,cap,h1,_⟩
         ·exact h1.imp id fun⟨ad,e⟩=>⟨_,_,e⟩
         ·exact .inr ⟨_,_,h1⟩)
        have hset:c.h.set b (.grow e2 i.size 0)=c.h:=by
         apply QzY
         intro j
         rw[QAQ]
         split
         ·rename_i hj;subst hj;rw[hb];first|done|rfl
         ·rfl
        refine⟨_,c,hrun,Ev.refl c,hst,hset.symm,?_⟩
        exact .slzero _ _ _ ht
       ·rcases hxs with⟨_,h1⟩|⟨B,o,cap,rfl,hrow,_⟩
        ·exact absurd h1 hm
        ·obtain⟨news,hnl,hnc,hno,hnr⟩:=Z8 hrow
         have hpos:0<ys.length:=by cases ys <;> simp_all
         have h63:ys.length<=9223372036854775807:=by simp only[maxLen]at hb1;omega
         have hrun:=run_append_grow (P:=P) c.w t ty e2 i z hu hi hz ba 0 0 [] (by simp) (fun j v hv=>by simp at hv) ⟨B,o,none⟩ ys.length cap news (by rw[hnl,hyl]) (fun j v hv=>by rw[addr_add];exact hnc j v hv) (by omega) (by omega) (growslice_fits (by omega) (by simpa using hb2))
         simp only[Qyv,QA1]at hrun
         let cap':=grownCap c.w ys.length 0 e2
         let cells:=news.toArray++Builtin.zeroCells z.cells (cap' - ys.length)
         have hcap1:ys.length<=cap':=grownCap_ge _ _ _ _
         have hcap2:cap'<=maxLen:=grownCap_le_maxLen _ _ _ _ hb1
         have hcs:cells.size=cap' * i.size:=by
          simp only[cells,QAc,QzX,hnl,hyl,Yk,hzn,<-QzU]
          congr 1;omega
         have hg:Grows c.w (c.w.drew.alloc (.cells cells e2)):=(Grows.drew c.w).trans (Grows.alloc _ _)
         have ho:∀B,some c.w.heap.size=some B->c.w.heap.size<=B:=fun B h=>by cases h;exact Qzl _
         have hev:=Ev.move hst hg hb hpos ho
         have hρ:(c.move (c.w.drew.alloc (.cells cells e2)) b (.grow e2 i.size ys.length) (some c.w.heap.size)).ρ b=some c.w.heap.size:=by simp[Cx.move]
         have hheap:(c.w.drew.alloc (.cells cells e2)).heap[c.w.heap.size]? = some (.cells cells e2 (0,0)):=QO c.w.drew _
         have hst':=St.move hst hg hb hpos ho (by
          intro B' hB'
          rw[hρ]at hB';cases hB'
          exact⟨cells,hheap,by rw[hcs];exact QzK _ hcap1⟩)
         refine⟨_,c.move (c.w.drew.alloc (.cells cells e2)) b (.grow e2 i.size ys.length) (some c.w.heap.size),hrun,hev,hst',rfl,?_⟩
         refine Qaq hst' (by simp[Cx.move,htl]) hρ hheap hcs hcap1 hcap2 hys ?_
         intro j a ha
         obtain⟨u,hu2⟩:∃u,news[j]? = some u:=⟨_,Qzg (by rw[hnl];exact Qf ha)⟩
         refine⟨u,?_,hno u (Qzp hu2),(hnr j a u ha hu2).ev hst hev⟩
         simp only[cells]
         rw[Qz6 (by simpa using Qf hu2)]
         simpa using hu2
      ·cases ha
     ·rename_i hb
      split at ha
      ·rename_i hh
       obtain⟨rfl,_,hb1,hb2⟩:=hh
       by_cases hm:ys=[]
       ·subst hm
        simp only[QyZ,QAj,Qyp,QAJ]at ha
        obtain⟨rfl,rfl⟩:=ha
        have hrun:=run_append_nothing (P:=P) (w:=c.w) (ty:=ty) hu hi (some ba) 0 0 (Qzl _) ux (by
         rcases hxs with⟨h1,_⟩|⟨B,o,cap,h1,_⟩
         ·exact h1.imp id fun⟨ad,e⟩=>⟨_,_,e⟩
         ·exact .inr ⟨_,_,h1⟩)
        exact⟨_,c,hrun,Ev.refl c,hst,rfl,.slzero _ _ _ ht⟩
       ·have hne:ys.isEmpty=false:=by cases ys <;> simp_all
        simp only[hne,Qyn,Qz5,Qyp,QAJ]at ha
        obtain⟨rfl,rfl⟩:=ha
        rcases hxs with⟨_,h1⟩|⟨B,o,cap,rfl,hrow,_⟩
        ·exact absurd h1 hm
        ·obtain⟨news,hnl,hnc,hno,hnr⟩:=Z8 hrow
         have hpos:0<ys.length:=by cases ys <;> simp_all
         have h63:ys.length<=9223372036854775807:=by simp only[maxLen]at hb1;omega
         have hrun:=run_append_grow (P:=P) c.w t ty e i z hu hi hz ba 0 0 [] (by simp) (fun j v hv=>by simp at hv) ⟨B,o,none⟩ ys.length cap news (by rw[hnl,hyl]) (fun j v hv=>by rw[addr_add];exact hnc j v hv) (by omega) (by omega) (growslice_fits (by omega) (by simpa using hb2))
         simp only[Qyv,QA1]at hrun
         exact Qfr hst hzn hnl hyl hys hno hnr hb1 hrun
      ·cases ha
     ·cases ha
   |sl m xs own B0 o0 cap0 f hsu hcap0 hmax0 hc hr ht =>
    cases own with
    |none=>simp at ha
    |some b =>
     simp only at ha
     split at ha
     ·rename_i e2 n2 k hb
      split at ha
      ·rename_i hh
       obtain⟨rfl,rfl,rfl,rfl,hb1,hb2⟩:=hh
       cases ha
       obtain⟨⟨htl,htd⟩,htn⟩:=ht b rfl
       obtain⟨_,_,h3⟩:=htn _ _ _ hb
       obtain⟨rfl,hρ0,_,_,cur,hB0,hcur⟩:=h3 rfl
       have hxl:=flat_length hsu
       by_cases hm:ys=[]
       ·subst hm
        have hrun:=run_append_nothing (P:=P) (w:=c.w) (ty:=ty) hu hi (some ⟨B0,0,none⟩) xs.length cap0 hcap0 ux (by
         rcases hxs with⟨h1,_⟩|⟨B,o,cap,h1,_⟩
         ·exact h1.imp id fun⟨ad,e⟩=>⟨_,_,e⟩
         ·exact .inr ⟨_,_,h1⟩)
        have hset:c.h.set b (.grow e2 i.size (xs.length+([]:List AV).length))=c.h:=by
         apply QzY
         intro j
         rw[QAQ]
         split
         ·rename_i hj;subst hj;rw[hb];first|done|rfl
         ·rfl
        refine⟨_,c,hrun,Ev.refl c,hst,hset.symm,?_⟩
        rw[QyM]
        exact .sl _ xs _ B0 0 cap0 f hsu hcap0 hmax0 hc hr ht
       ·rcases hxs with⟨_,h1⟩|⟨B,o,cap,rfl,hrow,_⟩
        ·exact absurd h1 hm
        ·obtain⟨news,hnl,hnc,hno,hnr⟩:=Z8 hrow
         have hrow0:Row c B0 0 xs:=fun j a hj=>⟨f j,(hc j a hj).1.1,(hc j a hj).2,hr j a hj⟩
         obtain⟨olds,hol,hoc,hoo,hor⟩:=Z8 hrow0
         have hpos:0<ys.length:=by cases ys <;> simp_all
         have hall:∀x∈xs++ys,x.cells.length=i.size:=fun x hx=>(QzH.1 hx).elim (hsu x) (hys x)
         have hlenxy:(xs++ys).length=xs.length+ys.length:=Qza
         by_cases hroom:xs.length+ys.length<=cap0
         ·-- there is room
          have hfit:xs.length * i.size+news.length<=cur.size:=by
           rw[hnl,hyl,hcur,<-QzU];exact QzK _ hroom
          have hrun:=run_append_room (P:=P) c.w t ty e2 i hu hi B0 xs.length cap0 cur hB0 ⟨B,o,none⟩ ys.length cap news (by rw[hnl,hyl]) (fun j v hv=>by rw[addr_add];exact hnc j v hv) hno hroom hfit
          let cur':=(cur.toList.take (xs.length * i.size)++news++cur.toList.drop (xs.length * i.size+news.length)).toArray
          have hheap:(c.w.setRow B0 cur').heap[B0]? = some (.cells cur' e2 (0,0)):=setRow_heap c.w B0 cur cur' e2 (0,0) hB0
          have hsz:cur'.size=cap0 * i.size:=by
           rw[<-hcur];simp only[cur',QzX,Qza,QzE,QzM,QzS];omega
          have htl':(cur.toList.take (xs.length * i.size)).length=xs.length * i.size:=by simp;omega
          have hold:∀j,j<xs.length * i.size->cur'[j]? = cur[j]? := by
           intro j hj
           simp only[cur',Qym]
           rw[Qze,Qzc (by omega),Qzx hj];simp
          have hev:Ev c (c.turn (c.w.setRow B0 cur') b (.grow e2 i.size (xs.length+ys.length))) :=
           Ev.turn hst hb rfl hρ0 rfl rfl rfl (by simp[World.setRow]) (fun k hk=>Zy c.w B0 cur' k hk)
            (.inr ⟨_,rfl,by omega,fun h=>by omega,fun B' hB'=>.inl hB',fun B' cur2 hB' hc2=>by
             rw[hρ0]at hB';cases hB'
             rw[hB0]at hc2;cases hc2
             exact⟨cur',hheap,hsz.trans hcur.symm,hold⟩⟩)
          have hst':=St.turn hst hb rfl hρ0 (fun k hk=>Zy c.w B0 cur' k hk) hev (by
           intro B' hB'
           simp only[Cx.turn]at hB'
           rw[hρ0]at hB';cases hB'
           exact⟨cur',hheap,by rw[hsz];exact QzK _ hroom⟩)
          refine⟨_,c.turn (c.w.setRow B0 cur') b (.grow e2 i.size (xs.length+ys.length)),hrun,hev,hst',rfl,?_⟩
          suffices hrel:Rel (c.turn (c.w.setRow B0 cur') b (.grow e2 i.size (xs.length+ys.length))) (.sl i.size (xs++ys) (some b)) (.slice (some ⟨B0,0,none⟩) (xs++ys).length cap0) by
           rw[hlenxy]at hrel;exact hrel
          refine Qaq hst' (by simp[Cx.turn,htl]) hρ0 hheap hsz (by omega) hmax0 hall ?_
          intro j a hj
          rw[Yn]at hj
          by_cases hj2:j<xs.length * i.size
          ·rw[Qzc (by omega)]at hj
           obtain⟨u,h4,h5,h6⟩:=hrow0 j a hj
           rw[Qyv,XC hB0]at h4
           exact⟨u,(hold j hj2).trans h4,h5,h6.ev hst hev⟩
          ·rw[Qzi (by omega),hxl]at hj
           obtain⟨u,hu2⟩:∃u,news[j - xs.length * i.size]? = some u:=⟨_,Qzg (by rw[hnl];exact Qf hj)⟩
           refine⟨u,?_,hno u (Qzp hu2),(hnr _ a u hj hu2).ev hst hev⟩
           simp only[cur',Qym]
           rw[Qze,Qzi (by omega),htl',Qzc (Qf hu2)]
           exact hu2
         ·-- a new array
          have h63:xs.length+ys.length<=9223372036854775807:=by simp only[maxLen]at hb1;omega
          have hrun:=run_append_grow (P:=P) c.w t ty e2 i z hu hi hz ⟨B0,0,none⟩ xs.length cap0 olds (by rw[hol,hxl]) (fun j v hv=>by rw[addr_add];exact hoc j v hv)
           ⟨B,o,none⟩ ys.length cap news (by rw[hnl,hyl]) (fun j v hv=>by rw[addr_add];exact hnc j v hv) (by omega) (by omega) (growslice_fits (by omega) hb2)
          let cap':=grownCap c.w (xs.length+ys.length) cap0 e2
          let cells:=olds.toArray++news.toArray++Builtin.zeroCells z.cells (cap' - (xs.length+ys.length))
          have hcap1:xs.length+ys.length<=cap':=grownCap_ge _ _ _ _
          have hcap2:cap'<=maxLen:=grownCap_le_maxLen _ _ _ _ hb1
          have hcs:cells.size=cap' * i.size:=by
           simp only[cells,QAc,QzX,hnl,hyl,hol,hxl,Yk,hzn,<-QzU]
           congr 1;omega
          have hg:Grows c.w (c.w.drew.alloc (.cells cells e2)):=(Grows.drew c.w).trans (Grows.alloc _ _)
          have ho:∀B,some c.w.heap.size=some B->c.w.heap.size<=B:=fun B h=>by cases h;exact Qzl _
          have hlt:xs.length<xs.length+ys.length:=by omega
          have hev:=Ev.move hst hg hb hlt ho
          have hρ:(c.move (c.w.drew.alloc (.cells cells e2)) b (.grow e2 i.size (xs.length+ys.length)) (some c.w.heap.size)).ρ b=some c.w.heap.size:=by simp[Cx.move]
          have hheap:(c.w.drew.alloc (.cells cells e2)).heap[c.w.heap.size]? = some (.cells cells e2 (0,0)):=QO c.w.drew _
          have hst':=St.move hst hg hb hlt ho (by
           intro B' hB'
           rw[hρ]at hB';cases hB'
           exact⟨cells,hheap,by rw[hcs];exact QzK _ hcap1⟩)
          refine⟨_,c.move (c.w.drew.alloc (.cells cells e2)) b (.grow e2 i.size (xs.length+ys.length)) (some c.w.heap.size),hrun,hev,hst',rfl,?_⟩
          suffices hrel:Rel (c.move (c.w.drew.alloc (.cells cells e2)) b (.grow e2 i.size (xs.length+ys.length)) (some c.w.heap.size)) (.sl i.size (xs++ys) (some b)) (.slice (some ⟨c.w.heap.size,0,none⟩) (xs++ys).length cap') by
           rw[hlenxy]at hrel;exact hrel
          refine Qaq hst' (by simp[Cx.move,htl]) hρ hheap hcs (by rw[hlenxy];exact hcap1) hcap2 hall ?_
          intro j a hj
          rw[Yn]at hj
          have hrel2:∀u,(olds++news)[j]? = some u->cells[j]? = some u:=by
           intro u hu2
           simp only[cells]
           rw[Qz6 (by have:=Qf hu2;simpa using this)]
           simpa using hu2
          by_cases hj2:j<xs.length * i.size
          ·rw[Qzc (by omega)]at hj
           obtain⟨u,hu2⟩:∃u,olds[j]? = some u:=⟨_,Qzg (by rw[hol];exact Qf hj)⟩
           exact⟨u,hrel2 u (by rw[Qzc (Qf hu2)];exact hu2),hoo u (Qzp hu2),(hor j a u hj hu2).ev hst hev⟩
          ·rw[Qzi (by omega),hxl]at hj
           obtain⟨u,hu2⟩:∃u,news[j - xs.length * i.size]? = some u:=⟨_,Qzg (by rw[hnl];exact Qf hj)⟩
           exact⟨u,hrel2 u (by rw[Qzi (by omega),hol,hxl];exact hu2),hno u (Qzp hu2),(hnr _ a u hj hu2).ev hst hev⟩
      ·cases ha
     ·rename_i hb
      exact by obtain⟨x,h1,h2⟩:=(ht b rfl).1.2;rw[hb]at h1;cases h1;cases h2
     ·cases ha
   |_=>simp at ha
theorem Qcb{P:Program}{c:Cx}(hst:St c){t t' ty:TypeId}{s x r:AV}{h':AH}{us ux:Value}(ha:Qd7 P t t' s x c.h=some (r,h'))(hs:Rel c s us)(hx:Rel c x ux) :
  ∃y c',(Builtin.append_ #[t,t'] ty #[us,ux]).run P c.w = .ok y c'.w/\Ev c c'/\St c'/\c'.h=h'/\Rel c' r y:=by
 unfold Qd7 at ha
 cases hai:appInfo P t t' with
 |none=>simp[hai]at ha
 |some a =>
  obtain⟨e,n,bytes⟩:=a
  obtain⟨i,z,e',hu,hu',hi,hz,rfl,hby,hzn,hn⟩:=Qfq hai
  rw[Qfs hu hu']
  simp only[hai]at ha
  cases hsrc:Qbd i.size c.h x with
  |none=>simp[hsrc]at ha
  |some ys =>
   simp only[hsrc]at ha
   obtain⟨hys,hxs⟩:=QhJ hst hsrc hx
   subst hby
   have hyl:=flat_length hys
   cases hs with
   |row id lo len cap0 x hid ho' h1 =>
    simp only at ha
    split at ha
    ·rename_i e2 n2 xs hb
     split at ha
     ·rename_i hem
      cases ha
      have hm:ys=[]:=by simpa using hem
      subst hm
      obtain⟨B0,cur,hρ0,rfl,hcap0,hmax0,hB0,hcur⟩:=h1 _ _ _ hb
      have hrun:=run_append_nothing (P:=P) (w:=c.w) (ty:=ty) hu hi (some ⟨B0,lo * n2,none⟩) len cap0 hcap0 ux (by
       rcases hxs with⟨h1,_⟩|⟨B,o,cap,h1,_⟩
       ·exact h1.imp (fun h=>h) fun⟨ad,e⟩=>⟨_,_,e⟩
       ·exact .inr ⟨_,_,h1⟩)
      exact⟨_,c,hrun,Ev.refl c,hst,rfl,.row _ _ _ _ _ hid rfl h1⟩
     split at ha
     ·rename_i hh
      obtain⟨rfl,rfl,rfl,rfl,hne,hb1,hb2⟩:=hh
      obtain⟨B0,cur,hρ0,rfl,hcap0,hmax0,hB0,hcur⟩:=h1 _ _ _ hb
      obtain⟨B',cur1,g1,g2,hsu,g4⟩:=hst.blocks id _ hb
      rw[hρ0]at g1;cases g1
      rw[hB0]at g2;cases g2
      have hxl:=flat_length hsu
      have hm:ys≠[]:=fun e=>by subst e;simp at hne
      have hpos:0<ys.length:=by cases ys <;> simp_all
      rcases hxs with⟨_,h1⟩|⟨B,o,cap,rfl,hrow,_⟩
      ·exact absurd h1 hm
      ·obtain⟨news,hnl,hnc,hno,hnr⟩:=Z8 hrow
       have hrow0:Row c B0 0 xs:=fun j a hj=>by
        obtain⟨u,h6,h7,h8⟩:=g4 j a hj
        exact⟨u,by rw[Qyv,XC hB0];exact h6,h7,h8⟩
       obtain⟨olds,hol,hoc,hoo,hor⟩:=Z8 hrow0
       have hlenxy:(xs++ys).length=xs.length+ys.length:=Qza
       rw[Qyv]at hcur
       rw[QAs]
       split at ha
       ·rename_i hroom
        cases ha
        have hfit:xs.length * i.size+news.length<=cur.size:=by
         rw[hnl,hyl,<-QzU];exact QzL (QzK _ hroom) hcur
        have hrun:=run_append_room (P:=P) c.w t ty e2 i hu hi B0 xs.length cap0 cur hB0 ⟨B,o,none⟩ ys.length cap news (by rw[hnl,hyl]) (fun j v hv=>by rw[addr_add];exact hnc j v hv) hno hroom hfit
        obtain⟨k1,k2,k3,k4⟩:=QhG hst hb hρ0 hB0 (Qzl _) hys hnl hno hnr hfit
        have e:xs.take xs.length++ys++xs.drop (xs.length+ys.length)=xs++ys:=by rw[Qzb,show xs.drop (xs.length+ys.length)=[]from QAt (by omega),QyM]
        rw[e]at k1 k2 k3
        refine⟨_,_,hrun,k1,k2,rfl,.row _ _ _ _ _ (by simp[Cx.turn];exact hid) rfl ?_⟩
        intro ty' s' xs' hg
        simp only[Cx.turn,Qzj (Qf hb),Qyp,AB.cells.injEq]at hg
        obtain⟨rfl,rfl,rfl⟩:=hg
        exact⟨B0,_,hρ0,by simp,hroom,hmax0,k3,by rw[k4,Qyv];exact hcur⟩
       ·rename_i hroom
        cases ha
        have h63:xs.length+ys.length<=9223372036854775807:=by simp only[maxLen]at hb1;omega
        have hrun:=run_append_grow (P:=P) c.w t ty e2 i z hu hi hz ⟨B0,0,none⟩ xs.length cap0 olds (by rw[hol,hxl]) (fun j v hv=>by rw[addr_add];exact hoc j v hv)
         ⟨B,o,none⟩ ys.length cap news (by rw[hnl,hyl]) (fun j v hv=>by rw[addr_add];exact hnc j v hv) (by omega) (by omega) (growslice_fits (by omega) hb2)
        have hall:∀x∈xs++ys,x.cells.length=i.size:=fun x hx=>(QzH.1 hx).elim (hsu x) (hys x)
        have:=QcC (P:=P) (e:=e2) (s:=i.size) (ys:=xs++ys) (news:=olds++news) (cap':=grownCap c.w (xs.length+ys.length) cap0 e2) (rest:=Builtin.zeroCells z.cells (grownCap c.w (xs.length+ys.length) cap0 e2 - (xs.length+ys.length))) hst
         (by rw[Yn,Qza,Qza,hol,hnl]) hall
         (fun u hu=>(QzH.1 hu).elim (hoo u) (hno u)) (fun j a u h6 h7=>by
          rw[Yn]at h6
          by_cases hj:j<(flat xs).length
          ·rw[Qzc hj]at h6
           rw[Qzc (by omega)]at h7
           exact hor j a u h6 h7
          ·rw[Qzi (by omega)]at h6
           rw[Qzi (by omega),hol]at h7
           exact hnr _ a u h6 h7) (by rw[hlenxy];exact grownCap_ge _ _ _ _) (grownCap_le_maxLen _ _ _ _ hb1)
         (by
          have hge:xs.length+ys.length<=grownCap c.w (xs.length+ys.length) cap0 e2:=grownCap_ge _ _ _ _
          simp only[QAc,QzX,Qza,hnl,hyl,hol,hxl,Yk,hzn,<-QzU]
          exact QzK _ (by omega))
         (hrun.trans (by rw[hlenxy,<-List.append_toArray]))
        rw[hlenxy]at this
        exact this
     ·cases ha
    ·cases ha
   |_=>simp at ha
theorem QgZ(n k:Nat):(flat (blanks n k)).length=k * n/\∀a∈flat (blanks n k),a = .junk:=by
 constructor
 ·rw[flat_length (s:=n) (fun x hx=>by rw[blanks,QA0]at hx;rw[hx.2];simp[AV.cells]),blanks,QAr]
 ·intro a ha
  rw[flat,QA5]at ha
  obtain⟨x,hx,ha⟩:=ha
  rw[blanks,QA0]at hx
  rw[hx.2]at ha
  simp only[AV.cells,QA0]at ha
  exact ha.2
theorem Qlg(z:Array Value)(k:Nat):∀u∈Builtin.zeroCells z k,u∈z:=by
 intro u hu
 simp only[Builtin.zeroCells,QBg,Array.mem_range]at hu
 obtain⟨i,hi,rfl⟩:=hu
 have hz:0<z.size:=by
  rcases Nat.eq_zero_or_pos z.size with h|h
  ·rw[h]at hi;omega
  ·exact h
 have hlt:=Nat.mod_lt i hz
 rw[getElem!_pos z _ hlt]
 exact QAO hlt
theorem Qjc{P:Program}{c:Cx}(hst:St c){t t' ty:TypeId}{s r:AV}{q:IntKind}{k:Int}{h':AH}{us:Value}(ha:Qi5 P t t' s k c.h=some (r,h'))(hs:Rel c s us) :
  ∃y c',(Builtin.append_ #[t,t'] ty #[us,.int q k]).run P c.w = .ok y c'.w/\Ev c c'/\St c'/\c'.h=h'/\Rel c' r y:=by
 unfold Qi5 at ha
 split at ha
 ·rename_i e kn id lo len cap hu hu'
  split at ha
  ·rename_i e' n xs i hb hi
   split at ha
   ·rename_i z hz
    split at ha
    ·rename_i hh
     obtain⟨rfl,rfl,hn,hzn,hz1,hzl,rfl,hle,hk,hroom,hb1,hb2⟩:=hh
     cases ha
     cases hs with
     |row _ _ _ _ _ hid ho h1 =>
     obtain⟨B0,cur,hρ0,rfl,hcap0,hmax0,hB0,hcur⟩:=h1 _ _ _ hb
     obtain⟨B',cur1,g1,g2,hsu,g4⟩:=hst.blocks id _ hb
     rw[hρ0]at g1;cases g1
     rw[hB0]at g2;cases g2
     have htk:∀x∈xs.take len,x.cells.length=i.size:=fun x hx=>hsu x (QAa hx)
     have hxl:=flat_length htk
     have htl:(xs.take len).length=len:=by simp;omega
     rw[htl]at hxl
     have hrow0:Row c B0 0 (xs.take len):=fun j a hj=>by
      rw[Zx hsu hle]at hj
      have hlt:=Qf hj
      rw[QzE]at hlt
      rw[Qzx (by omega)]at hj
      obtain⟨u,h6,h7,h8⟩:=g4 j a hj
      exact⟨u,by rw[Qyv,XC hB0];exact h6,h7,h8⟩
     obtain⟨olds,hol,hoc,hoo,hor⟩:=Z8 hrow0
     rw[QAs]
     have hkk:((k.toNat:Nat):Int)=k:=by omega
     have hold:(Builtin.firstCells i.size len (.slice (some ⟨B0,0,none⟩) len cap)).run P c.w.drew = .ok olds.toArray c.w.drew :=
      run_firstCells_some c.w.drew i.size len ⟨B0,0,none⟩ len cap olds (by rw[hol,hxl]) (fun j v hv=>by rw[addr_add];exact hoc j v hv)
     have hfit:=growslice_fits (old:=cap) (need:=len+k.toNat) (by omega) hb2
     have hrun:=Lib.run_append_grow_zeros (P:=P) c.w t t' ty e' i z q kn hu hu' hi hz (some ⟨B0,0,none⟩) len cap olds hold k.toNat (by omega) hn hroom (by simp only[maxLen]at hb1;omega)
      (QzL (QzK _ (Nat.le_add_left _ _)) (QzL hb2 (by omega))) hfit
     rw[hkk]at hrun
     obtain⟨hbl,hbj⟩:=QgZ i.size k.toNat
     have hzones:∀u∈(Builtin.zeroCells z.cells k.toNat).toList,u.oneCell'=true:=fun u hu=>by
      have:=Qlg z.cells k.toNat u (QzT.1 hu)
      exact(QaD (Qbb c z) hz1).2 u (QzT.2 this)
     have hlenxy:(xs.take len++blanks i.size k.toNat).length=len+k.toNat:=by rw[Qza,htl,blanks,QAr]
     have:=QcC (P:=P) (e:=e') (s:=i.size) (ys:=xs.take len++blanks i.size k.toNat) (news:=olds++(Builtin.zeroCells z.cells k.toNat).toList) (cap':=grownCap c.w (len+k.toNat) cap e')
      (rest:=Builtin.zeroCells z.cells (grownCap c.w (len+k.toNat) cap e' - (len+k.toNat))) hst
      (by
       have hzl':(Builtin.zeroCells z.cells k.toNat).toList.length=k.toNat * i.size:=by rw[QzS,Yk,hzn]
       rw[Yn,Qza,Qza,hol,hbl,hzl'])
      (fun x hx=>(QzH.1 hx).elim (htk x) (fun hx=>by rw[blanks,QA0]at hx;rw[hx.2];simp[AV.cells]))
      (fun u hu=>(QzH.1 hu).elim (hoo u) (hzones u)) (fun j a u h6 h7=>by
       rw[Yn]at h6
       by_cases hj:j<(flat (xs.take len)).length
       ·rw[Qzc hj]at h6
        rw[Qzc (by omega)]at h7
        exact hor j a u h6 h7
       ·rw[Qzi (by omega)]at h6
        rw[hbj a (Qzp h6)];exact .junk u) (by rw[hlenxy];exact grownCap_ge _ _ _ _) (grownCap_le_maxLen _ _ _ _ hb1)
      (by
       have hge:len+k.toNat<=grownCap c.w (len+k.toNat) cap e':=grownCap_ge _ _ _ _
       simp only[QAc,QzX,Qza,hol,hxl,QzS,Yk,hzn,<-QzU]
       exact QzK _ (by omega))
      (hrun.trans (by rw[hlenxy,<-List.append_toArray,Array.toArray_toList]))
     rw[hlenxy]at this
     exact this
    ·cases ha
   ·cases ha
  ·cases ha
 ·cases ha
theorem QhX{P:Program}{c:Cx}(hst:St c){t t' ty:TypeId}{r:AV}{q:IntKind}{k:Int}{h':AH}(ha:Qgm P t t' k c.h=some (r,h')) :
  ∃y c',(Builtin.append_ #[t,t'] ty #[.slice none 0 0,.int q k]).run P c.w = .ok y c'.w/\Ev c c'/\St c'/\c'.h=h'/\Rel c' r y:=by
 unfold Qgm at ha
 split at ha
 ·rename_i e kn hu hu'
  split at ha
  ·rename_i i hi
   split at ha
   ·rename_i z hz
    split at ha
    ·rename_i hh
     obtain⟨hn,hzn,hz1,hzl,hk,hb1,hb2⟩:=hh
     cases ha
     have hkk:((k.toNat:Nat):Int)=k:=by omega
     have hold:(Builtin.firstCells i.size 0 (.slice none 0 0)).run P c.w.drew = .ok ([]:List Value).toArray c.w.drew:=by
      simp[Builtin.firstCells]
     have hfit:=growslice_fits (old:=0) (need:=0+k.toNat) (by omega) (by simpa using hb2)
     have hrun:=Lib.run_append_grow_zeros (P:=P) c.w t t' ty e i z q kn hu hu' hi hz none 0 0 [] hold k.toNat (by omega) hn (by omega) (by simp only[maxLen]at hb1;omega)
      (QzL hb2 (by omega)) hfit
     rw[hkk]at hrun
     simp only[Qyv]at hrun
     obtain⟨hbl,hbj⟩:=QgZ i.size k.toNat
     have hzones:∀u∈(Builtin.zeroCells z.cells k.toNat).toList,u.oneCell'=true:=fun u hu=>by
      have:=Qlg z.cells k.toNat u (QzT.1 hu)
      exact(QaD (Qbb c z) hz1).2 u (QzT.2 this)
     have hlenb:(blanks i.size k.toNat).length=k.toNat:=by rw[blanks,QAr]
     have:=QcC (P:=P) (e:=e) (s:=i.size) (ys:=blanks i.size k.toNat) (news:=(Builtin.zeroCells z.cells k.toNat).toList) (cap':=grownCap c.w k.toNat 0 e)
      (rest:=Builtin.zeroCells z.cells (grownCap c.w k.toNat 0 e - k.toNat)) hst
      (by rw[hbl,QzS,Yk,hzn])
      (fun x hx=>by rw[blanks,QA0]at hx;rw[hx.2];simp[AV.cells])
      (fun u hu=>hzones u hu) (fun j a u h6 h7=>by rw[hbj a (Qzp h6)];exact .junk u)
      (by rw[hlenb];exact grownCap_ge _ _ _ _) (grownCap_le_maxLen _ _ _ _ hb1)
      (by
       have hge:k.toNat<=grownCap c.w k.toNat 0 e:=grownCap_ge _ _ _ _
       simp only[QAc,QzX,QzS,Yk,hzn,<-QzU]
       exact QzK _ (by omega))
      (hrun.trans (by rw[hlenb,Array.toArray_toList,QA1]))
     rw[hlenb]at this
     exact this
    ·cases ha
   ·cases ha
  ·cases ha
 ·cases ha
def Cx.kill(c:Cx)(id:Nat):Cx:={c with h:=c.h.set id .dead}
theorem Qf5{c:Cx}{id i:Nat}{b:AB}(h:(c.kill id).h[i]? = some b):(i=id/\b = .dead)\/(i≠id/\c.h[i]? = some b):=by
 simp only[Cx.kill]at h
 by_cases hi:i=id
 ·subst hi
  have hlt:=Qf h
  rw[Qzj (by simpa using hlt)]at h
  cases h
  exact .inl ⟨rfl,rfl⟩
 ·rw[Qzd (fun e=>hi e.symm)]at h
  exact .inr ⟨hi,h⟩
theorem Ev.kill{c:Cx}{id:Nat}{ty s:Nat}{xs:List AV}(hb:c.h[id]? = some (.cells ty s xs)):Ev c (c.kill id):=by
 refine⟨rfl,rfl,rfl,Qzl _,by simp[Cx.kill],fun _ _ _=>rfl,fun i b hi=>?_,fun i B b h1 h2=>by have:=Qf h2;simp[Cx.kill]at this;omega⟩
 by_cases h:i=id
 ·subst h
  rw[hb]at hi;cases hi
  exact⟨.dead,by simp[Cx.kill,Qf hb],.inl rfl⟩
 ·refine⟨b,by simp only[Cx.kill];rw[Qzd (fun e=>h e.symm)];exact hi,?_⟩
  have:=Kin.refl c i b
  cases b <;> exact this
theorem St.kill{c:Cx}(hs:St c){id:Nat}{ty s:Nat}{xs:List AV}(hb:c.h[id]? = some (.cells ty s xs)):St (c.kill id):=by
 refine⟨fun i b hi=>?_,fun i j a b B hi hj hla hlb hρi hρj=>?_⟩
 ·rcases Qf5 hi with⟨rfl,rfl⟩|⟨_,h⟩
  ·trivial
  ·exact(hs.blocks i b h).ev hs (Ev.kill hb) rfl (fun _ _ _=>rfl)
 ·rcases Qf5 hi with⟨_,rfl⟩|⟨_,h1⟩
  ·cases hla
  rcases Qf5 hj with⟨_,rfl⟩|⟨_,h2⟩
  ·cases hlb
  exact hs.inj i j a b B h1 h2 hla hlb hρi hρj
def Cx.pass(c:Cx)(id:Nat)(b:AB):Cx:={ρ:=fun i=>if i=c.h.length then c.ρ id else c.ρ i,h:=c.h.set id .dead++[b],w:=c.w}
theorem Qdo{c:Cx}{id i:Nat}{b b':AB}(h:(c.pass id b).h[i]? = some b'):(i=id/\i<c.h.length/\b' = .dead)\/(i≠id/\i<c.h.length/\c.h[i]? = some b'/\(c.pass id b).ρ i=c.ρ i)\/(i=c.h.length/\b'=b/\(c.pass id b).ρ i=c.ρ id):=by
 have hlt:=Qf h
 simp only[Cx.pass,Qza,Qzm,Qyw,Qyx]at h hlt
 by_cases hi:i<c.h.length
 ·rw[Qzc (by simpa using hi)]at h
  by_cases hid:i=id
  ·subst hid
   rw[Qzj hi]at h;cases h
   exact .inl ⟨rfl,hi,rfl⟩
  ·rw[Qzd (fun e=>hid e.symm)]at h
   exact .inr (.inl ⟨hid,hi,h,by simp only[Cx.pass];rw[Qzf (by omega)]⟩)
 ·have e:i=c.h.length:=by omega
  subst e
  rw[Qzi (by simp)]at h
  simp only[Qzm,Qz0,Qyj,Qyp]at h
  exact .inr (.inr ⟨rfl,h.symm,by simp[Cx.pass]⟩)
theorem Ev.pass{c:Cx}{id:Nat}{ty s:Nat}{xs:List AV}{b:AB}(hb:c.h[id]? = some (.cells ty s xs)):Ev c (c.pass id b):=by
 have hid:=Qf hb
 refine⟨rfl,rfl,rfl,Qzl _,by simp[Cx.pass],fun _ _ _=>rfl,fun i b' hi=>?_,fun i B b' h1 h2 hl hρ=>?_⟩
 ·have hlt:=Qf hi
  by_cases h:i=id
  ·subst h
   rw[hb]at hi;cases hi
   exact⟨.dead,by simp only[Cx.pass];rw[Qzc (by simpa using hlt),Qzj hlt],.inl rfl⟩
  ·refine⟨b',by simp only[Cx.pass];rw[Qzc (by simpa using hlt),Qzd (fun e=>h e.symm)];exact hi,?_⟩
   have hr:(c.pass id b).ρ i=c.ρ i:=by simp only[Cx.pass];rw[Qzf (by omega)]
   cases b' with
   |cells ty s xs=>exact .inr ⟨xs,rfl,hr,fun B cur hρ hc=>⟨cur,hc,rfl⟩⟩
   |grow e s n=>exact .inr ⟨n,rfl,Qzl _,fun _=>hr,fun B hB=>.inl (hr▸hB),fun B cur hρ hc=>⟨cur,hc,rfl,fun _ _=>rfl⟩⟩
   |map es=>exact⟨es,rfl,hr⟩
   |loop i=>exact⟨i,rfl,hr⟩
   |iter s p=>exact⟨p,rfl,hr⟩
   |glob g cs ty fr=>exact⟨rfl,hr,fun B hρ=>rfl⟩
   |dead=>rfl
   |gone=>rfl
 ·rcases Qdo h2 with⟨_,h,_⟩|⟨_,h,_⟩|⟨_,_,h⟩
  ·omega
  ·omega
  ·exact .inr ⟨id,ty,s,xs,hb,h.symm.trans hρ,by simp only[Cx.pass];rw[Qzc (by simpa using hid),Qzj hid]⟩
theorem St.pass{c:Cx}(hs:St c){id:Nat}{ty s:Nat}{xs:List AV}(hb:c.h[id]? = some (.cells ty s xs)):St (c.pass id (.cells ty s xs)):=by
 have he:=Ev.pass (b:=.cells ty s xs) hb
 refine⟨fun i b hi=>?_,fun i j a b B hi hj hla hlb hρi hρj=>?_⟩
 ·rcases Qdo hi with⟨_,_,rfl⟩|⟨_,_,h,hr⟩|⟨_,rfl,hr⟩
  ·trivial
  ·exact(hs.blocks i b h).ev hs he hr (fun _ _ _=>rfl)
  ·obtain⟨B,cur,h1,h2,h3,h4⟩:=hs.blocks id _ hb
   exact⟨B,cur,hr.trans h1,h2,h3,fun j a hj=>by
    obtain⟨u,h5,h6,h7⟩:=h4 j a hj
    exact⟨u,h5,h6,h7.ev hs he⟩⟩
 ·rcases Qdo hi with⟨_,_,rfl⟩|⟨n1,l1,g1,r1⟩|⟨e1,rfl,r1⟩
  ·cases hla
  ·rcases Qdo hj with⟨_,_,rfl⟩|⟨n2,l2,g2,r2⟩|⟨e2,rfl,r2⟩
   ·cases hlb
   ·exact hs.inj i j a b B g1 g2 hla hlb (r1▸hρi) (r2▸hρj)
   ·exact absurd (hs.inj i id a _ B g1 hb hla rfl (r1▸hρi) (r2▸hρj)) n1
  ·rcases Qdo hj with⟨_,_,rfl⟩|⟨n2,l2,g2,r2⟩|⟨e2,rfl,r2⟩
   ·cases hlb
   ·exact absurd (hs.inj j id b _ B g2 hb hlb rfl (r2▸hρj) (r1▸hρi)) n2
   ·omega
def Qc9(P:Program)(t t':TypeId)(id lo len:Nat)(x:AV)(h:AH):Option (AV×AH) :=
 match appInfo P t t' with
 |some a =>
  match Qbd a.n h x with
  |some ys =>
   match h[id]? with
    |some (.cells e n xs)=>if e=a.e/\n=a.n/\lo=0/\len=xs.length/\ys.isEmpty=false/\xs.length+ys.length<=maxLen/\(xs.length+ys.length) * a.bytes<=140737488355328 then
      some (.arr h.length 0 (xs.length+ys.length),h.set id .dead++[.cells e n (xs++ys)])else none
    |_=>none
  |none=>none
 |none=>none
theorem Qja{P:Program}{c:Cx}(hst:St c){t t' ty:TypeId}{id lo len:Nat}{x r:AV}{h':AH}{us ux:Value}(ha:Qc9 P t t' id lo len x c.h=some (r,h'))(hs:Rel c (.arr id lo len) us)(hx:Rel c x ux) :
  ∃y c',(Builtin.append_ #[t,t'] ty #[us,ux]).run P c.w = .ok y c'.w/\Ev c c'/\St c'/\c'.h=h'/\Rel c' r y:=by
 unfold Qc9 at ha
 cases hai:appInfo P t t' with
 |none=>simp[hai]at ha
 |some a =>
  simp only[hai]at ha
  cases hsrc:Qbd a.n c.h x with
  |none=>simp[hsrc]at ha
  |some ys =>
   simp only[hsrc]at ha
   split at ha
   ·rename_i e n xs hb
    split at ha
    ·rename_i hh
     obtain⟨he,hn,h0,hl,hne,hb1,hb2⟩:=hh
     cases ha
     have hid:=Qf hb
     cases hs with
     |arr _ _ _ _ hid' ho h1 =>
      obtain⟨B0,cap0,hρ0,hus,hcap0,hmax0,cur,hB0,hcur⟩:=h1 _ _ _ hb
      have hrow:Rel c (.row id lo len cap0) us:=.row _ _ _ _ _ hid' ho fun ty s xs' hg=>by
       rw[hb]at hg;cases hg
       exact⟨B0,cur,hρ0,hus,hcap0,hmax0,hB0,hcur⟩
      by_cases hroom:xs.length+ys.length<=cap0
      ·obtain⟨y,c1,k1,k2,k3,k4,k5⟩:=Qcb (P:=P) (ty:=ty) (t:=t) (t':=t') (r:=.row id 0 (xs.length+ys.length) cap0) (h':=c.h.set id (.cells e n (xs++ys))) hst (by
        unfold Qd7
        simp only[hai,hsrc,hb]
        rw[Qzf (by simp[hne]),Qzh ⟨he,hn,h0,hl,hne,hb1,hb2⟩,Qzh hroom]) hrow hx
       have hg1:c1.h[id]? = some (.cells e n (xs++ys)):=by rw[k4,Qzj hid]
       refine⟨y,c1.pass id (.cells e n (xs++ys)),k1,k2.trans hst (Ev.pass hg1),k3.pass hg1,?_,?_⟩
       ·simp only[Cx.pass,k4,QAS]
       ·have hlen1:c1.h.length=c.h.length:=by rw[k4,Qzm]
        cases k5 with
        |row _ _ _ _ _ g1 g2 g3 =>
         obtain⟨B1,cur1,q1,q2,q3,q4,q5,q6⟩:=g3 _ _ _ hg1
         refine .arr _ _ _ _ (by simp[Cx.pass,hlen1]) g2 fun ty s xs' hg=>?_
         rcases Qdo hg with⟨_,h,_⟩|⟨_,h,_⟩|⟨_,h,hr⟩
         ·omega
         ·omega
         ·cases h
          exact⟨B1,cap0,hr.trans q1,q2,q3,q4,cur1,q5,q6⟩
      ·obtain⟨y,c1,k1,k2,k3,k4,k5⟩:=Qcb (P:=P) (ty:=ty) (t:=t) (t':=t') (r:=.arr c.h.length 0 (xs.length+ys.length)) (h':=c.h++[.cells e n (xs++ys)]) hst (by
        unfold Qd7
        simp only[hai,hsrc,hb]
        rw[Qzf (by simp[hne]),Qzh ⟨he,hn,h0,hl,hne,hb1,hb2⟩,Qzf hroom]) hrow hx
       have hg1:c1.h[id]? = some (.cells e n xs):=by rw[k4,Qzc hid];exact hb
       refine⟨y,c1.kill id,k1,k2.trans hst (Ev.kill hg1),k3.kill hg1,?_,k5.ev k3 (Ev.kill hg1)⟩
       simp only[Cx.kill,k4]
       rw[Qzw _ _ hid]
    ·cases ha
   ·cases ha
def aLen(P:Program)(t ty:TypeId)(x:AV)(h:AH):Option AV :=
 match x with
 | .v a=>(pv P (Builtin.len_ #[t] ty #[a])).map .v
 | .sl _ xs _=>match P.underlying t with
  |some (.slice _)=>some (.v (goInt xs.length))
  |_=>none
 | .arr id _ len=>match P.underlying t,h[id]? with
  |some (.slice _),some (.cells _ _ _)=>some (.v (goInt len))
  |_,_=>none
 | .row id _ len _=>match P.underlying t,h[id]? with
  |some (.slice _),some (.cells _ _ _)=>some (.v (goInt len))
  |_,_=>none
 | .mp id=>match P.underlying t,h[id]? with
  |some (.map _ _),some (.map es)=>some (.v (goInt es.length))
  |_,_=>none
 |_=>none
theorem run_getObj_map{P:Program}{w:World}{r:Nat}{es:Array MapEntry}{k:Nat}(h:w.heap[r]? = some (.map es k)):(getObj r).run P w = .ok (.map es k) w:=by
 simp[getObj,Sem.run,h]
theorem QqA{P:Program}{c:Cx}(hst:St c){t ty:TypeId}{x r:AV}{u:Value}(ha:aLen P t ty x c.h=some r)(hx:Rel c x u) :
  ∃y,(Builtin.len_ #[t] ty #[u]).run P c.w = .ok y c.w/\Rel c r y:=by
 cases hx with
 |v u =>
  simp only[aLen]at ha
  cases hp:pv P (Builtin.len_ #[t] ty #[u])with
  |none=>simp[hp]at ha
  |some y=>simp[hp]at ha;subst ha;exact⟨y,QbE hp _,.v y⟩
 |slnil s own ht =>
  simp only[aLen]at ha
  split at ha
  ·rename_i hu;cases ha;exact⟨_,by simp[Builtin.len_,underlying,hu],.v _⟩
  ·cases ha
 |slzero s own ba ht =>
  simp only[aLen]at ha
  split at ha
  ·rename_i hu;cases ha;exact⟨_,by simp[Builtin.len_,underlying,hu],.v _⟩
  ·cases ha
 |sl s xs own B o cap f hs hcap hmax hc hr ht =>
  simp only[aLen]at ha
  split at ha
  ·rename_i hu;cases ha;exact⟨_,by simp[Builtin.len_,underlying,hu],.v _⟩
  ·cases ha
 |arr id lo len x hid ho h1 =>
  simp only[aLen]at ha
  split at ha
  ·rename_i e ty' s xs hu hb
   cases ha
   obtain⟨B,cap,_,rfl,_⟩:=h1 _ _ _ hb
   exact⟨_,by simp[Builtin.len_,underlying,hu],.v _⟩
  ·cases ha
 |row id lo len cap x hid ho h1 =>
  simp only[aLen]at ha
  split at ha
  ·rename_i e ty' s xs hu hb
   cases ha
   obtain⟨B,cur,_,rfl,_⟩:=h1 _ _ _ hb
   exact⟨_,by simp[Builtin.len_,underlying,hu],.v _⟩
  ·cases ha
 |mp id x hid ho h1 =>
  simp only[aLen]at ha
  split at ha
  ·rename_i k e es hu hb
   cases ha
   obtain⟨B,hρ,rfl⟩:=h1.1 _ hb
   obtain⟨B',ents,clock,h2,h3,h4,_⟩:=hst.blocks id _ hb
   rw[hρ]at h2;cases h2
   exact⟨_,by simp[Builtin.len_,underlying,hu,run_getObj_map h3];rfl,by rw[h4];exact .v _⟩
  ·cases ha
 |_=>simp[aLen]at ha
def XI(d:Nat):Option AV->Option Int
 |none=>some d
 |some (.v (.int _ n))=>some n
 |some _=>none
def QbO(P:Program)(t:TypeId)(x:AV)(lo hi:Option AV)(h:AH):Option AV :=
 match Q3 P t with
 |some (_,n) =>
  match x with
  | .v (.slice none 0 0)=>match XI 0 lo,XI 0 hi with
   |some l,some k=>if l=0/\k=0 then some (.v (.slice none 0 0))else none
   |_,_=>none
  | .sl s xs own=>match XI 0 lo,XI xs.length hi with
   |some l,some k=>if s=n/\0<=l/\l<=k/\k<=xs.length then
     (if l=0/\k=xs.length then some (.sl s xs own)else some (.sl s ((xs.drop l.toNat).take (k - l).toNat) none))else none
   |_,_=>none
  | .arr id b len=>match h[id]? with
   |some (.cells _ s _)=>match XI 0 lo,XI len hi with
    |some l,some k=>if s=n/\0<=l/\l<=k/\k<=len then(if l<k then some (.arr id (b+l.toNat) (k - l).toNat)else if k=0/\0<len then some (.arr id b 0)else some (.sl s [] none))else none
    |_,_=>none
   |_=>none
  | .row id b len cap=>match h[id]? with
   |some (.cells _ s _)=>match XI 0 lo,XI len hi with
    |some l,some k=>if s=n/\0<=l/\l<=k/\k<=cap then(if l<cap then some (.row id (b+l.toNat) (k - l).toNat (cap - l.toNat))else some (.sl s [] none))else none
    |_,_=>none
   |_=>none
  |_=>none
 |none =>
  match x with
  | .v a =>
   match lo,hi with
   |none,none=>(pv P (Instr.sliceAt t a none none none)).map .v
   |some (.v l),none=>(pv P (Instr.sliceAt t a (some l) none none)).map .v
   |none,some (.v k)=>(pv P (Instr.sliceAt t a none (some k) none)).map .v
   |some (.v l),some (.v k)=>(pv P (Instr.sliceAt t a (some l) (some k) none)).map .v
   |_,_=>none
  |_=>none
def RelO(c:Cx):Option AV->Option Value->Prop
 |none,none=>True
 |some a,some u=>Rel c a u
 |_,_=>False
theorem QeL{P:Program}{w:World}{c:Cx}{t e:TypeId}{n:Nat}(hu:P.underlying t=some (.slice e))(hsz:∀w,(sizeOf e).run P w = .ok n w)(a:Option Addr)(len cap:Nat){lo hi:Option AV}{ul uh:Option Value}
  (hl:RelO c lo ul) (hh:RelO c hi uh) {l k:Int} (h1:XI 0 lo=some l) (h2:XI len hi=some k) (h0:0<=l) (hlk:l<=k) (hkc:k<=cap) :
  (Instr.sliceAt t (.slice a len cap) ul uh none).run P w = .ok (sliced a l.toNat k.toNat cap n) w:=by
 have hk0:0<=k:=by omega
 have hlk':l<=(k.toNat:Int):=by omega
 have bl:(match ul with|some v=>Instr.sliceBound v k.toNat .sliceB|none=>(pure 0:Sem Nat)).run P w = .ok l.toNat w:=by
  cases lo with
  |none=>cases ul with
   |none=>simp only[XI,Qyp]at h1;subst h1;rfl
   |some u=>exact hl.elim
  |some a=>cases ul with
   |none=>exact hl.elim
   |some u =>
    cases a with
    |v x =>
     cases hl
     cases u with
     |int q m=>simp only[XI,Qyp]at h1;subst h1;exact run_sliceBound w q _ _ _ h0 hlk'
     |_=>simp[XI]at h1
    |_=>simp[XI]at h1
 have bh:(match uh with|some v=>Instr.sliceBound v cap .sliceAcap|none=>(pure len:Sem Nat)).run P w = .ok k.toNat w:=by
  cases hi with
  |none=>cases uh with
   |none=>simp only[XI,Qyp]at h2;subst h2;rfl
   |some u=>exact hh.elim
  |some a=>cases uh with
   |none=>exact hh.elim
   |some u =>
    cases a with
    |v x =>
     cases hh
     cases u with
     |int q m=>simp only[XI,Qyp]at h2;subst h2;exact run_sliceBound w q _ _ _ hk0 hkc
     |_=>simp[XI]at h2
    |_=>simp[XI]at h2
 simp only[Instr.sliceAt,Instr.slice,Sem.run_bind,underlying,run_program,Result.andThen_ok,hu,Sem.run_pure,Instr.sliceBounds]
 cases ul <;> cases uh <;> simp_all [sliced]
theorem Zg{P:Program}{w:World}{c:Cx}{t e:TypeId}{n:Nat}(hu:P.underlying t=some (.slice e))(hsz:∀w,(sizeOf e).run P w = .ok n w)(a:Option Addr)(len cap:Nat){lo hi:Option AV}{ul uh:Option Value}
  (hl:RelO c lo ul) (hh:RelO c hi uh) {l k:Int} (h1:XI 0 lo=some l) (h2:XI len hi=some k) (h0:0<=l) (hlk:l<=k) (hk:k<=len) (hlc:len<=cap) :
  (Instr.sliceAt t (.slice a len cap) ul uh none).run P w = .ok (sliced a l.toNat k.toNat cap n) w :=
 QeL hu hsz a len cap hl hh h1 h2 h0 hlk (by omega)
theorem QmQ{P:Program}{c:Cx}(hst:St c){t:TypeId}{x r:AV}{lo hi:Option AV}{u:Value}{ul uh:Option Value}(ha:QbO P t x lo hi c.h=some r)(hx:Rel c x u)(hl:RelO c lo ul)(hh:RelO c hi uh) :
  ∃y,(Instr.sliceAt t u ul uh none).run P c.w = .ok y c.w/\Rel c r y:=by
 unfold QbO at ha
 cases he:Q3 P t with
 |none =>
  simp only[he]at ha
  cases hx with
  |v u =>
   simp only at ha
   split at ha
   ·cases ul <;> cases uh <;> first|exact hl.elim|exact hh.elim|skip
    cases hp:pv P (Instr.sliceAt t u none none none)with
    |none=>simp[hp]at ha
    |some y=>simp[hp]at ha;subst ha;exact⟨y,QbE hp _,.v y⟩
   ·rename_i l
    cases ul <;> cases uh <;> first|exact hl.elim|exact hh.elim|skip
    cases hl
    cases hp:pv P (Instr.sliceAt t u (some l) none none)with
    |none=>simp[hp]at ha
    |some y=>simp[hp]at ha;subst ha;exact⟨y,QbE hp _,.v y⟩
   ·rename_i l
    cases ul <;> cases uh <;> first|exact hl.elim|exact hh.elim|skip
    cases hh
    cases hp:pv P (Instr.sliceAt t u none (some l) none)with
    |none=>simp[hp]at ha
    |some y=>simp[hp]at ha;subst ha;exact⟨y,QbE hp _,.v y⟩
   ·rename_i l k
    cases ul <;> cases uh <;> first|exact hl.elim|exact hh.elim|skip
    cases hl;cases hh
    cases hp:pv P (Instr.sliceAt t u (some l) (some k) none)with
    |none=>simp[hp]at ha
    |some y=>simp[hp]at ha;subst ha;exact⟨y,QbE hp _,.v y⟩
   ·cases ha
  |_=>simp at ha
 |some en =>
  obtain⟨e,n⟩:=en
  obtain⟨hu,hsz⟩:=X8 he
  simp only[he]at ha
  cases hx with
  |v u =>
   split at ha
   ·rename_i heq
    cases heq
    split at ha
    ·rename_i l k h1 h2
     split at ha
     ·rename_i hz
      obtain⟨rfl,rfl⟩:=hz
      cases ha
      refine⟨_,Zg hu hsz none 0 0 hl hh h1 h2 (by omega) (by omega) (by omega) (by omega),?_⟩
      simp[sliced];exact .v _
     ·cases ha
    ·cases ha
   all_goals (first|cases ha|simp_all)
  |slnil s own ht =>
   simp only at ha
   split at ha
   ·rename_i l k h1 h2
    split at ha
    ·rename_i hz
     obtain⟨rfl,h3,h4,h5⟩:=hz
     simp only[Qyx]at h2 h5 ha
     have hl0:l=0:=by simp at h5;omega
     have hk0:k=0:=by simp at h5;omega
     subst hl0;subst hk0
     have hrun:=Zg (w:=c.w) hu hsz none 0 0 hl hh h1 h2 (by omega) (by omega) (by omega) (by omega)
     simp at ha
     subst ha
     exact⟨_,hrun,by simp[sliced];exact .slnil _ _ ht⟩
    ·cases ha
   ·cases ha
  |slzero s own ba ht =>
   simp only at ha
   split at ha
   ·rename_i l k h1 h2
    split at ha
    ·rename_i hz
     obtain⟨rfl,h3,h4,h5⟩:=hz
     simp only[Qyx]at h2 h5 ha
     have hl0:l=0:=by simp at h5;omega
     have hk0:k=0:=by simp at h5;omega
     subst hl0;subst hk0
     have hrun:=Zg (w:=c.w) hu hsz (some ba) 0 0 hl hh h1 h2 (by omega) (by omega) (by omega) (by omega)
     simp at ha
     subst ha
     exact⟨_,hrun,by simp[sliced];exact .slzero _ _ _ ht⟩
    ·cases ha
   ·cases ha
  |sl s xs own B o cap f hs hcap hmax hc hr ht =>
   simp only at ha
   split at ha
   ·rename_i l k h1 h2
    split at ha
    ·rename_i hz
     obtain⟨rfl,h3,h4,h5⟩:=hz
     have hrun:=Zg (w:=c.w) hu hsz (some ⟨B,o,none⟩) xs.length cap hl hh h1 h2 h3 h4 h5 hcap
     split at ha
     ·rename_i h6
      obtain⟨rfl,rfl⟩:=h6
      cases ha
      refine⟨_,hrun,?_⟩
      have:sliced (some ⟨B,o,none⟩) (0:Int).toNat ((xs.length:Nat):Int).toNat cap s = .slice (some ⟨B,o,none⟩) xs.length cap:=by
       simp[sliced,Addr.add]
      rw[this]
      exact .sl s xs own B o cap f hs hcap hmax hc hr ht
     ·cases ha
      refine⟨_,hrun,?_⟩
      have hlen:((xs.drop l.toNat).take (k - l).toNat).length=k.toNat - l.toNat:=by simp;omega
      have hin:∀y∈(xs.drop l.toNat).take (k - l).toNat,y.cells.length=s:=fun y hy=>hs y (QzZ (QAa hy))
      have hdrop:∀y∈xs.drop l.toNat,y.cells.length=s:=fun y hy=>hs y (QzZ hy)
      by_cases hcl:cap=l.toNat
      ·have hnil:(xs.drop l.toNat).take (k - l).toNat=[]:=by apply QAW;omega
       rw[hnil]
       have:sliced (some ⟨B,o,none⟩) l.toNat k.toNat cap s = .slice (some ⟨B,o,none⟩) ([]:List AV).length (cap - l.toNat):=by
        simp only[sliced,hcl,QAj,Qyx]
        congr 1;omega
       rw[this]
       exact .sl s [] none B o _ (fun _=>undef) (by simp) (Qzy _) (by omega) (by simp[flat]) (by simp[flat]) (fun b hb=>by cases hb)
      ·have:sliced (some ⟨B,o,none⟩) l.toNat k.toNat cap s = .slice (some ⟨B,o+l.toNat * s,none⟩) ((xs.drop l.toNat).take (k - l).toNat).length (cap - l.toNat):=by
        simp only[sliced,hcl,Qz5,Qyl,addr_add,hlen]
       rw[this]
       have hget:∀(j:Nat) a,(flat ((xs.drop l.toNat).take (k - l).toNat))[j]? = some a->(flat xs)[l.toNat * s+j]? = some a:=by
        intro j a hj
        rw[Zx hdrop (by simp;omega)]at hj
        have hlt:=Qf hj
        rw[QzE]at hlt
        rw[Qzx (by omega),QaA hs (by omega),QzO]at hj
        exact hj
       refine .sl s _ none B (o+l.toNat * s) _ (fun j=>f (l.toNat * s+j)) hin (by omega) (by omega) ?_ ?_ (fun b hb=>by cases hb)
       ·intro j a hj
        have:=hc _ a (hget j a hj)
        rwa [<-QAA]at this
       ·intro j a hj
        exact hr _ a (hget j a hj)
    ·cases ha
   ·cases ha
  |arr id b len x hid ho h1 =>
   simp only at ha
   split at ha
   ·rename_i ty s xs hb
    split at ha
    ·rename_i l k h2 h3
     split at ha
     ·rename_i hz
      obtain⟨rfl,h4,h5,h6⟩:=hz
      obtain⟨B,cap,hρ,rfl,hlc,hmax,cur,hcur,hroom⟩:=h1 _ _ _ hb
      have hrun:=Zg (w:=c.w) hu hsz (some ⟨B,b * s,none⟩) len cap hl hh h2 h3 h4 h5 h6 hlc
      split at ha
      ·rename_i hlt
       cases ha
       refine⟨_,hrun,.arr id _ _ _ hid rfl ?_⟩
       intro ty' s' xs' hb'
       rw[hb]at hb';cases hb'
       refine⟨B,cap - l.toNat,hρ,?_,by omega,by omega,cur,hcur,by rw[show b+l.toNat+(cap - l.toNat)=b+cap by omega];exact hroom⟩
       have hcl:¬cap=l.toNat:=by omega
       simp only[sliced,hcl,Qz5,Qyl,addr_add]
       rw[show k.toNat - l.toNat=(k - l).toNat by omega,<-QzU]
      split at ha
      ·rename_i hnl hz2
       obtain⟨rfl,hpos⟩:=hz2
       have hl0:l=0:=by omega
       subst hl0
       cases ha
       refine⟨_,hrun,.arr id _ _ _ hid rfl ?_⟩
       intro ty' s' xs' hb'
       rw[hb]at hb';cases hb'
       refine⟨B,cap,hρ,?_,by omega,hmax,cur,hcur,hroom⟩
       have hcl:¬cap=(0:Int).toNat:=by simp;omega
       simp[sliced,hcl,Addr.add]
      ·cases ha
       refine⟨_,hrun,?_⟩
       have e:k.toNat - l.toNat=([]:List AV).length:=by simp;omega
       simp only[sliced,e,Qyl,addr_add]
       split
       ·exact .sl s [] none B _ _ (fun _=>undef) (by simp) (Qzy _) (by omega) (by simp[flat]) (by simp[flat]) (fun b hb=>by cases hb)
       ·exact .sl s [] none B _ _ (fun _=>undef) (by simp) (Qzy _) (by omega) (by simp[flat]) (by simp[flat]) (fun b hb=>by cases hb)
     ·cases ha
    ·cases ha
   ·cases ha
  |row id b len cap x hid ho h1 =>
   simp only at ha
   split at ha
   ·rename_i ty s xs hb
    split at ha
    ·rename_i l k h2 h3
     split at ha
     ·rename_i hz
      obtain⟨rfl,h4,h5,h6⟩:=hz
      obtain⟨B,cur,hρ,rfl,hlc,hmax,hcur,hroom⟩:=h1 _ _ _ hb
      have hrun:=QeL (w:=c.w) hu hsz (some ⟨B,b * s,none⟩) len cap hl hh h2 h3 h4 h5 h6
      split at ha
      ·rename_i hlt
       cases ha
       refine⟨_,hrun,.row id _ _ _ _ hid rfl ?_⟩
       intro ty' s' xs' hb'
       rw[hb]at hb';cases hb'
       refine⟨B,cur,hρ,?_,by omega,by omega,hcur,by rw[show b+l.toNat+(cap - l.toNat)=b+cap by omega];exact hroom⟩
       have hcl:¬cap=l.toNat:=by omega
       simp only[sliced,hcl,Qz5,Qyl,addr_add]
       rw[show k.toNat - l.toNat=(k - l).toNat by omega,<-QzU]
      ·cases ha
       refine⟨_,hrun,?_⟩
       have e:k.toNat - l.toNat=([]:List AV).length:=by simp;omega
       simp only[sliced,e,Qyl,addr_add]
       split
       ·exact .sl s [] none B _ _ (fun _=>undef) (by simp) (Qzy _) (by omega) (by simp[flat]) (by simp[flat]) (fun b hb=>by cases hb)
       ·exact .sl s [] none B _ _ (fun _=>undef) (by simp) (Qzy _) (by omega) (by simp[flat]) (by simp[flat]) (fun b hb=>by cases hb)
     ·cases ha
    ·cases ha
   ·cases ha
  |_=>simp at ha
def QsT(h:AH):AV->Bool
 | .v (.slice none 0 0) | .sl ..=>true
 | .arr id _ _=>match h[id]? with|some (.cells ..)=>true|_=>false
 |_=>false
def Qi8(P:Program)(t:TypeId)(x:AV)(lo hi mx:Option AV)(h:AH):Option (AV×AH) :=
 match Q3 P t with
 |some (e,n) =>
  if XI 0 lo=some 0/\XI 1 hi=some 0/\XI 1 mx=some 0/\QsT h x=true then some (.sl n [] (some h.length),h++[.dead])else none
 |none=>none
theorem Qin{c:Cx}{d:Nat}(hd:d≠0){a:Option AV}{u:Option Value}(hr:RelO c a u)(h:XI d a=some 0):∃q,u=some (.int q 0):=by
 cases a with
 |none=>simp[XI]at h;omega
 |some a =>
  cases u with
  |none=>exact hr.elim
  |some u =>
   cases a with
   |v x =>
    cases hr
    cases u with
    |int q m=>simp only[XI,Qyp]at h;subst h;exact⟨q,rfl⟩
    |_=>simp[XI]at h
   |_=>simp[XI]at h
theorem QlJ{P:Program}{c:Cx}(hst:St c){t:TypeId}{x r:AV}{lo hi mx:Option AV}{h':AH}{u:Value}{ul uh um:Option Value}(ha:Qi8 P t x lo hi mx c.h=some (r,h'))(hx:Rel c x u)(hl:RelO c lo ul)(hh:RelO c hi uh)(hm:RelO c mx um) :
  ∃y c',(Instr.sliceAt t u ul uh um).run P c.w = .ok y c'.w/\Ev c c'/\St c'/\c'.h=h'/\Rel c' r y:=by
 unfold Qi8 at ha
 cases he:Q3 P t with
 |none=>simp[he]at ha
 |some en =>
  obtain⟨e,n⟩:=en
  obtain⟨hu,hsz⟩:=X8 he
  simp only[he]at ha
  split at ha
  ·rename_i hc
   obtain⟨h1,h2,h3,h4⟩:=hc
   cases ha
   obtain⟨q2,rfl⟩:=Qin (by omega) hh h2
   obtain⟨q3,rfl⟩:=Qin (by omega) hm h3
   -- how it runs
   have hrun:∀(a:Option Addr) (len cap:Nat),(Instr.sliceAt t (.slice a len cap) ul (some (.int q2 0)) (some (.int q3 0))).run P c.w = .ok (.slice a 0 0) c.w:=by
    intro a len cap
    have hb:∀(q:IntKind) (k:Nat) (cd:BoundsCode),(Instr.sliceBound (.int q 0) k cd).run P c.w = .ok 0 c.w:=fun q k cd=>run_sliceBound c.w q 0 k cd (by omega) (by omega)
    have bl:(match ul with|some v=>Instr.sliceBound v 0 .slice3C|none=>(pure 0:Sem Nat)).run P c.w = .ok 0 c.w:=by
     cases lo with
     |none=>cases ul with
      |none=>rfl
      |some u=>exact hl.elim
     |some a=>cases ul with
      |none=>exact hl.elim
      |some u =>
       cases a with
       |v x =>
        cases hl
        cases u with
        |int q m=>simp only[XI,Qyp]at h1;subst h1;exact hb _ _ _
        |_=>simp[XI]at h1
       |_=>simp[XI]at h1
    simp only[Instr.sliceAt,Instr.slice,Sem.run_bind,underlying,run_program,Result.andThen_ok,hu,Sem.run_pure,Instr.sliceBounds]
    cases ul <;> simp_all
   have hg:=Grows.refl c.w
   have ho:∀B,(none:Option Nat)=some B->c.w.heap.size<=B:=fun B h=>by cases h
   have hρ:(c.add c.w (.dead) none).ρ c.h.length=none:=by simp[Cx.add]
   have hst':St (c.add c.w (.dead) none):=St.add hst hg _ _ ho trivial
   have htok:∀b,some c.h.length=some b->(c.add c.w (.dead) none).tokNil b n:=by
    intro b hb
    cases hb
    refine⟨by simp[Cx.add],fun e2 s2 n2 hg2=>?_⟩
    simp[Cx.add]at hg2
   have fin:∀y:Value,(∃a len cap,u = .slice a len cap/\y = .slice a 0 0)->Rel (c.add c.w (.dead) none) (.sl n [] (some c.h.length)) y ->
     ∃y c',(Instr.sliceAt t u ul (some (.int q2 0)) (some (.int q3 0))).run P c.w = .ok y c'.w/\Ev c c'/\St c'/\c'.h=c.h++[.dead]/\Rel c' (.sl n [] (some c.h.length)) y:=by
    rintro y ⟨a,len,cap,rfl,rfl⟩ hr
    exact⟨_,c.add c.w (.dead) none,hrun a len cap,Ev.add hst hg _ _ ho,hst',rfl,hr⟩
   cases hx with
   |v u =>
    have:u = .slice none 0 0:=by
     unfold QsT at h4
     split at h4 <;> simp_all
    subst this
    exact fin _ ⟨_,_,_,rfl,rfl⟩ (.slnil _ _ htok)
   |slnil s own ht=>exact fin _ ⟨_,_,_,rfl,rfl⟩ (.slnil _ _ htok)
   |slzero s own ba ht=>exact fin _ ⟨_,_,_,rfl,rfl⟩ (.slzero _ _ _ htok)
   |sl s xs own B o cap f hs hcap hmax hc hr ht=>exact fin _ ⟨_,_,_,rfl,rfl⟩ (.slzero _ _ _ htok)
   |arr id lo len x hid ho' h5 =>
    simp only[QsT]at h4
    split at h4
    ·rename_i hb
     obtain⟨B,cap,hρ',rfl,_⟩:=h5 _ _ _ hb
     exact fin _ ⟨_,_,_,rfl,rfl⟩ (.slzero _ _ _ htok)
    ·cases h4
   |_=>simp[QsT]at h4
  ·cases ha
def aCap(P:Program)(t ty:TypeId)(x:AV)(h:AH):Option AV :=
 match x with
 | .row id _ _ cap=>match P.underlying t,h[id]? with
  |some (.slice _),some (.cells _ _ _)=>some (.v (goInt cap))
  |_,_=>none
 | .v (.slice none 0 0)=>match P.underlying t with
  |some (.slice _)=>some (.v (goInt 0))
  |_=>none
 |_=>none
theorem QpK{P:Program}{c:Cx}{t ty:TypeId}{x r:AV}{u:Value}(ha:aCap P t ty x c.h=some r)(hx:Rel c x u) :
  ∃y,(Builtin.cap_ #[t] ty #[u]).run P c.w = .ok y c.w/\Rel c r y:=by
 cases hx with
 |row id lo len cap x hid ho h1 =>
  simp only[aCap]at ha
  split at ha
  ·rename_i e ty' s xs hu hb
   cases ha
   obtain⟨B,cur,_,rfl,_⟩:=h1 _ _ _ hb
   exact⟨_,by simp[Builtin.cap_,underlying,hu],.v _⟩
  ·cases ha
 |v x =>
  unfold aCap at ha
  split at ha
  ·rename_i h0
   cases h0
  ·rename_i h0
   cases h0
   split at ha
   ·rename_i e hu
    cases ha
    exact⟨_,by simp[Builtin.cap_,underlying,hu],.v _⟩
   ·cases ha
  ·cases ha
 |_=>simp[aCap]at ha
def rowOf:AV->Option (Nat×Nat×Nat)
 | .row id lo len _=>some (id,lo,len)
 | .arr id lo len=>some (id,lo,len)
 |_=>none
theorem QhD{c:Cx}{x:AV}{u:Value}{id lo len:Nat}(h:rowOf x=some (id,lo,len))(hx:Rel c x u){ty s:Nat}{xs:List AV}(hb:c.h[id]? = some (.cells ty s xs)) :
  ∃B cap cur,c.ρ id=some B/\u = .slice (some ⟨B,lo * s,none⟩) len cap/\len<=cap/\cap<=maxLen/\c.w.heap[B]? = some (.cells cur ty (0,0))/\(lo+cap) * s<=cur.size:=by
 cases hx with
 |arr id' lo' len' x hid ho h1 =>
  simp only[rowOf,Qyp,QAJ]at h
  obtain⟨rfl,rfl,rfl⟩:=h
  obtain⟨B,cap,h2,h3,h4,h5,cur,h6,h7⟩:=h1 _ _ _ hb
  exact⟨B,cap,cur,h2,h3,h4,h5,h6,h7⟩
 |row id' lo' len' cap x hid ho h1 =>
  simp only[rowOf,Qyp,QAJ]at h
  obtain⟨rfl,rfl,rfl⟩:=h
  obtain⟨B,cur,h2,h3,h4,h5,h6,h7⟩:=h1 _ _ _ hb
  exact⟨B,cap,cur,h2,h3,h4,h5,h6,h7⟩
 |_=>simp[rowOf]at h
def QnS(h:AH)(x:AV):Option (Nat×Nat×List AV) :=
 match x with
 | .sl s ys _=>if ys.isEmpty=false then some (s,ys.length,ys)else none
 |x=>match rowOf x with
  |some (id,lo,len)=>match h[id]? with
   |some (.cells _ s xs)=>some (s,len,xs.drop lo)
   |_=>none
  |none=>none
theorem Qo4{c:Cx}(hst:St c){x:AV}{u:Value}{s len k:Nat}{E:List AV}(h:QnS c.h x=some (s,len,E))(hx:Rel c x u)(hk:k<=E.length) :
  ∃B o cap,u = .slice (some ⟨B,o,none⟩) len cap/\(∀y∈E,y.cells.length=s)/\Row c B o (E.take k):=by
 have rows:∀{id lo len0:Nat},rowOf x=some (id,lo,len0)->(match c.h[id]? with|some (.cells _ s xs)=>some (s,len0,xs.drop lo)|_=>none)=some (s,len,E) ->
   ∃B o cap,u = .slice (some ⟨B,o,none⟩) len cap/\(∀y∈E,y.cells.length=s)/\Row c B o (E.take k):=by
  intro id lo len0 hr he
  split at he
  ·rename_i ty s2 xs2 hb2
   cases he
   obtain⟨B2,cap2,cur2,hρ2,rfl,hlc2,hmax2,hB2,hfit2⟩:=QhD hr hx hb2
   obtain⟨B',cur0,g1,g2,g3,g4⟩:=hst.blocks id _ hb2
   rw[hρ2]at g1;cases g1
   rw[hB2]at g2;cases g2
   have hdr:∀y∈xs2.drop lo,y.cells.length=s:=fun y hy=>g3 y (QzZ hy)
   refine⟨B2,lo * s,cap2,rfl,hdr,fun j a hj=>?_⟩
   rw[QzM]at hk
   by_cases hlo:lo<=xs2.length
   ·rw[Zx hdr (by simp;omega)]at hj
    have hlt:=Qf hj
    rw[QzE]at hlt
    rw[Qzx (by omega),QaA g3 (by omega),QzO]at hj
    obtain⟨u,h6,h7,h8⟩:=g4 _ a hj
    exact⟨u,by rw[XC hB2];exact h6,h7,h8⟩
   ·rw[QAt (by omega)]at hj
    simp[flat]at hj
  ·cases he
 cases x with
 |sl s0 ys own =>
  simp only[QnS]at h
  split at h
  ·rename_i hne
   cases h
   cases hx with
   |slnil=>simp at hne
   |slzero=>simp at hne
   |sl _ _ _ B o cap f hs hcap hmax hc hr ht =>
    refine⟨B,o,cap,rfl,hs,fun j a hj=>?_⟩
    have hj':(flat E)[j]? = some a:=by
     rw[Zx hs hk]at hj
     have hlt:=Qf hj
     rw[QzE]at hlt
     rwa [Qzx (by omega)]at hj
    exact⟨f j,(hc j a hj').1.1,(hc j a hj').2,hr j a hj'⟩
  ·cases h
 |arr id lo len0=>exact rows rfl h
 |row id lo len0 cap=>exact rows rfl h
 |_=>simp[QnS,rowOf]at h
def QtE(P:Program)(t:TypeId)(d x:AV)(h:AH):Option (AV×AH) :=
 match Q3 P t,rowOf d,QnS h x with
 |some (_,n),some (id,lo,dl),some (s2,sl,E) =>
  match h[id]? with
  |some (.cells ty s xs) =>
   if s=n/\s2=n/\lo<=xs.length/\min sl dl<=E.length then
    some (.v (goInt ((min sl dl:Nat):Int)),h.set id (.cells ty s (xs.take lo++E.take (min sl dl)++xs.drop (lo+min sl dl))))
   else none
  |_=>none
 |_,_,_=>none
theorem Qoe{P:Program}{c:Cx}(hst:St c){t t' ty:TypeId}{d x r:AV}{h':AH}{ud ux:Value}(ha:QtE P t d x c.h=some (r,h'))(hd:Rel c d ud)(hx:Rel c x ux) :
  ∃y c',(Builtin.copy_ #[t,t'] ty #[ud,ux]).run P c.w = .ok y c'.w/\Ev c c'/\St c'/\c'.h=h'/\Rel c' r y:=by
 unfold QtE at ha
 split at ha
 ·rename_i e n id lo dl s2 sl E he hrd hrx
  split at ha
  ·rename_i ty1 s xs hb
   split at ha
   ·rename_i hh
    obtain⟨rfl,rfl,h1,h2⟩:=hh
    cases ha
    obtain⟨hu,hsz⟩:=X8 he
    obtain⟨B,cap,cur,hρ,rfl,hlc,hmax,hB,hfit⟩:=QhD hrd hd hb
    let k:=min sl dl
    obtain⟨B2,o2,cap2,rfl,hE,hrow⟩:=Qo4 hst (k:=k) hrx hx h2
    have hys:∀y∈E.take k,y.cells.length=s2:=fun y hy=>hE y (QAa hy)
    have hyl0:(E.take k).length=k:=by simp[k];omega
    have hyl:(flat (E.take k)).length=k * s2:=by rw[flat_length hys,hyl0]
    obtain⟨news,hnl,hnc,hno,hnr⟩:=Z8 hrow
    have hnl2:news.length=k * s2:=by rw[hnl,hyl]
    have hf:(Builtin.firstCells s2 k (.slice (some ⟨B2,o2,none⟩) sl cap2)).run P c.w = .ok news.toArray c.w :=
     run_firstCells_some c.w s2 k ⟨B2,o2,none⟩ sl cap2 news hnl2 (fun j v hv=>by rw[addr_add];exact hnc j v hv)
    have hkd:k<=dl:=Nat.min_le_right _ _
    have hfit':lo * s2+news.length<=cur.size:=by
     rw[hnl2,<-QzU];exact QzL (QzK _ (by omega)) hfit
    have hst1:=run_storeCells_at P B (lo * s2) ty1 news 0 cur c.w hB (by simpa using hfit') hno
    rw[QyI]at hst1
    obtain⟨k1,k2,k3,k4⟩:=QhG hst hb hρ hB h1 hys hnl hno hnr hfit'
    rw[hyl0]at k1 k2 k3
    refine⟨_,_,?_,k1,k2,rfl,.v _⟩
    have hk:Nat.min sl dl=k:=rfl
    simp only[Builtin.copy_,Qym,Qyj,Qyk,Sem.run_bind,underlying,run_program,Result.andThen_ok,hu,Sem.run_pure,Builtin.lenOf,hsz,hk,hf,hst1]
    rfl
   ·cases ha
  ·cases ha
 ·cases ha
def QrZ(P:Program)(t:TypeId)(l c:AV)(h:AH):Option (AV×AH) :=
 match l,c with
 | .v (.int _ 0),.v (.int _ n)=>match Q3 P t with
  |some (e,k)=>match P.info? e with
   |some i=>match i.zero with
    |some _=>if 0<=n/\(i.bytes:Int) * n<=281474976710656/\n<=maxLen/\i.size=k then some (.sl k [] (some h.length),h++[.grow e k 0])else none
    |none=>none
   |none=>none
  |none=>none
 |_,_=>none
theorem QoA{P:Program}{c:Cx}(hst:St c){t:TypeId}{l n r:AV}{h':AH}{ul un:Value}(ha:QrZ P t l n c.h=some (r,h'))(hl:Rel c l ul)(hn:Rel c n un) :
  ∃y c',(Instr.makeSlice t ul un).run P c.w = .ok y c'.w/\Ev c c'/\St c'/\c'.h=h'/\Rel c' r y:=by
 unfold QrZ at ha
 split at ha
 ·rename_i q1 q2 n
  cases hl;cases hn
  split at ha
  ·rename_i e k he
   obtain⟨hu,hsz⟩:=X8 he
   split at ha
   ·rename_i i hi
    split at ha
    ·rename_i z hz
     split at ha
     ·rename_i hh
      obtain⟨h0,hb,hm,rfl⟩:=hh
      cases ha
      have h63:n<=9223372036854775807:=by simp only[maxLen]at hm;omega
      have hrun:=run_make (P:=P) c.w t e i z hu hi hz q1 q2 0 n (Int.le_refl _) h0 hb h63
      have hg:Grows c.w (c.w.alloc (.cells (madeCells z.cells (n.toNat * i.size)) e)):=Grows.alloc _ _
      have ho:∀B,some c.w.heap.size=some B->c.w.heap.size<=B:=fun B h=>by cases h;exact Qzl _
      have hev:=Ev.add hst hg (.grow e i.size 0) (some c.w.heap.size) ho
      have hρ:(c.add (c.w.alloc (.cells (madeCells z.cells (n.toNat * i.size)) e)) (.grow e i.size 0) (some c.w.heap.size)).ρ c.h.length=some c.w.heap.size:=by simp[Cx.add]
      have hheap:(c.w.alloc (.cells (madeCells z.cells (n.toNat * i.size)) e)).heap[c.w.heap.size]? = some (.cells (madeCells z.cells (n.toNat * i.size)) e (0,0)):=QO c.w _
      have hst':=St.add hst hg (.grow e i.size 0) (some c.w.heap.size) ho (by
       intro B hB
       rw[hρ]at hB;cases hB
       exact⟨_,hheap,by omega⟩)
      refine⟨_,_,hrun,hev,hst',rfl,?_⟩
      refine .sl i.size [] (some c.h.length) c.w.heap.size 0 n.toNat (fun _=>undef) (by simp) (Qzy _) (by simp only[maxLen]at hm ⊢;omega) (by simp[flat]) (by simp[flat]) ?_
      intro b hb'
      cases hb'
      refine⟨⟨by simp[Cx.add],.grow e i.size 0,by simp[Cx.add],rfl⟩,fun e2 s2 n2 hg2=>?_⟩
      simp[Cx.add]at hg2
      obtain⟨rfl,rfl,rfl⟩:=hg2
      exact⟨rfl,Qzl _,fun _=>⟨rfl,hρ,Qzy _,by simp only[maxLen]at hm ⊢;omega,_,hheap,size_madeCells _ _⟩⟩
     ·cases ha
    ·cases ha
   ·cases ha
  ·cases ha
 ·cases ha
def notNil(P:Program)(t:TypeId)(h:AH):AV->Value->Bool
 | .sl _ (_::_) _,.slice none 0 0=>match P.underlying t with|some (.slice _)=>true|_=>false
 | .arr id _ _,.slice none 0 0=>match P.underlying t,h[id]? with|some (.slice _),some (.cells _ _ _)=>true|_,_=>false
 | .ptr id _ _,.pointer none=>match P.underlying t,h[id]? with|some (.pointer _),some (.cells _ _ _)=>true|_,_=>false
 | .pin _ _ _ _,.pointer none=>match P.underlying t with|some (.pointer _)=>true|_=>false
 | .mp id,.map none=>match P.underlying t,h[id]? with|some (.map _ _),some (.map _)=>true|_,_=>false
 | .fn _ _ _,.nilFunc=>match P.underlying t with|some (.func _ _ _)=>true|_=>false
 | .ifc _ _,.nilIface=>match P.underlying t with|some (.interface _)=>true|_=>false
 |_,_=>false
theorem Qll{P:Program}{c:Cx}(hst:St c){t:TypeId}{x:AV}{u y:Value}(h:notNil P t c.h x y=true)(hx:Rel c x u)(d:Nat):(Op.equalIn (d+1) t u y).run P c.w = .ok false c.w:=by
 cases hx with
 |sl s xs own B o cap f hs hcap hmax hc hr ht =>
  cases xs with
  |nil=>simp[notNil]at h
  |cons z zs =>
   simp only[notNil]at h
   split at h <;> simp_all
   split at h <;> simp_all
   rename_i hu
   simp[Op.equalIn,underlying,hu]
 |arr id lo len x hid ho h1 =>
  simp only[notNil]at h
  split at h <;> simp_all
  split at h <;> simp_all
  rename_i hu hb
  obtain⟨B,_,cap,rfl,_⟩:=h1
  simp[Op.equalIn,underlying,hu]
 |ptr id k off x hid ho h1 =>
  simp only[notNil]at h
  split at h <;> simp_all
  split at h <;> simp_all
  rename_i hu hb
  obtain⟨B,_,rfl⟩:=h1
  simp[Op.equalIn,underlying,hu]
 |pin s xs k off B o f hs hc hr =>
  simp only[notNil]at h
  split at h <;> simp_all
  split at h <;> simp_all
  rename_i hu
  simp[Op.equalIn,underlying,hu]
 |mp id x hid ho h1 =>
  simp only[notNil]at h
  split at h <;> simp_all
  split at h <;> simp_all
  rename_i hu hb
  first|(obtain⟨B,_,rfl⟩:=h1.1;simp[Op.equalIn,underlying,hu])|(obtain⟨B,_,rfl⟩:=h1;simp[Op.equalIn,underlying,hu])
 |fn f first cap vs ws e1 e2 h1 h2 =>
  simp only[notNil]at h
  split at h <;> simp_all
  split at h <;> simp_all
  rename_i hu
  simp[Op.equalIn,underlying,hu]
 |ifc t' a u h1 =>
  simp only[notNil]at h
  split at h <;> simp_all
  split at h <;> simp_all
  rename_i hu
  simp[Op.equalIn,underlying,hu]
 |_=>simp[notNil]at h
def Qgq(P:Program)(op:BinOp)(t:TypeId)(x y:AV)(h:AH):Option AV :=
 match x,y with
 | .ptr i k o,.ptr i' k' o'=>match P.underlying t,h[i]? with
  |some (.pointer te),some (.cells _ _ _)=>if i=i'/\k=k'/\o=o'/\(P.info? te).isSome=true then(match op with | .eql=>some (.v (.bool true)) | .neq=>some (.v (.bool false))|_=>none)else none
  |_,_=>none
 |_,_=>none
theorem QmJ{P:Program}{c:Cx}{op:BinOp}{t:TypeId}{xo yo:Operand}{x y r:AV}{u v:Value}(ha:Qgq P op t x y c.h=some r)(hx:Rel c x u)(hy:Rel c y v) :
  ∃z,(do eqGuard op t xo yo u v;binOp op t u v:Sem Value).run P c.w = .ok z c.w/\Rel c r z:=by
 unfold Qgq at ha
 split at ha
 ·rename_i i k o i' k' o'
  split at ha
  ·rename_i te ty s xs ht hb
   split at ha
   ·rename_i hh
    obtain⟨rfl,rfl,rfl,hi⟩:=hh
    obtain⟨j,hj⟩:=QAP.1 hi
    cases hx with
    |ptr _ _ _ x _ _ h1 =>
     obtain⟨B,hρ,rfl⟩:=h1 _ _ _ hb
     cases hy with
     |ptr _ _ _ y _ _ h2 =>
      obtain⟨B',hρ',rfl⟩:=h2 _ _ _ hb
      rw[hρ]at hρ';cases hρ'
      have he:(Op.equal t (.pointer (some ⟨B,k * s+o,none⟩)) (.pointer (some ⟨B,k * s+o,none⟩))).run P c.w = .ok true c.w:=by
       have h:∀d:Nat,(Op.equalIn (d+1) t (.pointer (some ⟨B,k * s+o,none⟩)) (.pointer (some ⟨B,k * s+o,none⟩))).run P c.w = .ok true c.w:=fun d=>by
        simp[Op.equalIn,run_underlying ht,sizeOf,typeInfo,hj,run_sameAddr_same]
       exact h 9999
      split at ha
      ·cases ha;exact⟨.bool true,by simp[eqGuard,binOp,he],.v _⟩
      ·cases ha;exact⟨.bool false,by simp[eqGuard,binOp,he],.v _⟩
      ·cases ha
   ·cases ha
  ·cases ha
 ·cases ha
def QfF:List AV->Option (List Value)
 |[]=>some []
 | .v x::l=>(QfF l).map (x::·)
 |_::_=>none
theorem QiS:∀{l:List AV} {a:List Value},QfF l=some a->a.length=l.length/\∀(j:Nat) x,a[j]? = some x->l[j]? = some (.v x)
 |[],a,h=>by cases h;exact⟨rfl,fun j x h=>by simp at h⟩
 |y::l,a,h=>by
  cases y with
  |v x =>
   simp only[QfF,Qzo]at h
   obtain⟨b,hb,rfl⟩:=h
   obtain⟨h1,h2⟩:=QiS hb
   refine⟨by simp[h1],fun j z hz=>?_⟩
   cases j with
   |zero=>simpa using hz
   |succ j=>simpa using h2 j z (by simpa using hz)
  |_=>simp[QfF]at h
theorem QiT{c:Cx}{l:List AV}{a:List Value}{u:Value}(h:QfF l=some a)(hr:Rel c (.agg l) u):u = .agg a.toArray:=by
 obtain⟨h1,h2⟩:=QiS h
 cases hr with
 |agg _ cs hl hp =>
  congr 1
  apply Array.ext
  ·simp;omega
  ·intro j g1 g2
   have g3:j<a.length:=by simpa using g2
   have:=hp j (.v a[j]) cs[j] (h2 j _ (Qzg g3)) (Qzv g1)
   have key:∀(x q:Value),Rel c (.v x) q->q=x:=fun x q h=>by cases h;rfl
   rw[key _ _ this]
   simp
def Qgl(P:Program)(op:BinOp)(t:TypeId)(xo yo:Operand)(l m:List AV):Option AV :=
 match QfF l,QfF m with
 |some a,some b=>(pv P (do eqGuard op t xo yo (.agg a.toArray) (.agg b.toArray);binOp op t (.agg a.toArray) (.agg b.toArray))).map .v
 |_,_=>none
theorem Qkv{P:Program}{c:Cx}{op:BinOp}{t:TypeId}{xo yo:Operand}{l m:List AV}{r:AV}{u v:Value}(ha:Qgl P op t xo yo l m=some r)(hx:Rel c (.agg l) u)(hy:Rel c (.agg m) v) :
  ∃z,(do eqGuard op t xo yo u v;binOp op t u v:Sem Value).run P c.w = .ok z c.w/\Rel c r z:=by
 unfold Qgl at ha
 split at ha
 ·rename_i a b h1 h2
  obtain rfl:=QiT h1 hx
  obtain rfl:=QiT h2 hy
  cases hp:pv P (do eqGuard op t xo yo (.agg a.toArray) (.agg b.toArray);binOp op t (.agg a.toArray) (.agg b.toArray))with
  |none=>simp[hp]at ha
  |some z=>simp[hp]at ha;subst ha;exact⟨z,QbE hp _,.v z⟩
 ·cases ha
def aBin(P:Program)(op:BinOp)(t:TypeId)(xo yo:Operand)(x y:AV)(h:AH):Option AV :=
 match x,y with
 | .v a,.v b=>(pv P (do eqGuard op t xo yo a b;binOp op t a b)).map .v
 |x,.v b=>match op with
  | .eql=>if notNil P t h x b=true then some (.v (.bool false))else none
  | .neq=>if notNil P t h x b=true then some (.v (.bool true))else none
  |_=>none
 | .ptr i k o,.ptr i' k' o'=>Qgq P op t (.ptr i k o) (.ptr i' k' o') h
 | .agg l,.agg m=>Qgl P op t xo yo l m
 |_,_=>none
theorem QpG{P:Program}{c:Cx}(hst:St c){op:BinOp}{t:TypeId}{xo yo:Operand}{x y r:AV}{u v:Value}(ha:aBin P op t xo yo x y c.h=some r)(hx:Rel c x u)(hy:Rel c y v) :
  ∃z,(do eqGuard op t xo yo u v;binOp op t u v:Sem Value).run P c.w = .ok z c.w/\Rel c r z:=by
 unfold aBin at ha
 split at ha
 ·cases hx;cases hy
  rename_i a b
  cases hp:pv P (do eqGuard op t xo yo u v;binOp op t u v)with
  |none=>simp[hp]at ha
  |some z=>simp[hp]at ha;subst ha;exact⟨z,QbE hp _,.v z⟩
 ·rename_i b hnv
  cases hy
  have key:notNil P t c.h x v=true->∀neg:Bool,(op = .eql/\neg=false\/op = .neq/\neg=true) ->
    (do eqGuard op t xo yo u v;binOp op t u v:Sem Value).run P c.w = .ok (.bool neg) c.w:=by
   intro hn neg hop
   have h1:=Qll hst hn hx 9999
   have h2:(Op.equal t u v).run P c.w = .ok false c.w:=h1
   have hshape:(∃a n k,u = .slice (some a) n k/\v = .slice none 0 0)\/(∃a,u = .pointer (some a)/\v = .pointer none)\/(∃a,u = .map (some a)/\v = .map none)\/(∃f a b,u = .func f a b/\v = .nilFunc)\/(∃t' a,u = .iface t' a/\v = .nilIface):=by
    cases hx with
    |sl s xs own B o cap f hs hcap hmax hc hr ht =>
     cases xs with
     |nil=>simp[notNil]at hn
     |cons z zs=>simp only[notNil]at hn;split at hn <;> simp_all
    |arr id lo len x hid ho h3 =>
     simp only[notNil]at hn
     split at hn <;> simp_all
     split at hn <;> simp_all
     obtain⟨B,_,cap,rfl,_⟩:=h3
     exact⟨_,_,_,rfl⟩
    |ptr id k off x hid ho h3 =>
     simp only[notNil]at hn
     split at hn <;> simp_all
     split at hn <;> simp_all
     obtain⟨B,_,rfl⟩:=h3
     exact⟨_,rfl⟩
    |pin s xs k off B o f hs hc hr=>simp only[notNil]at hn;split at hn <;> simp_all
    |mp id x hid ho h3 =>
     simp only[notNil]at hn
     split at hn <;> simp_all
     split at hn <;> simp_all
     obtain⟨B,_,rfl⟩:=h3
     exact⟨_,rfl⟩
    |fn f first cap vs ws e1 e2 h3 h4=>simp only[notNil]at hn;split at hn <;> simp_all
    |ifc t' a u h3=>simp only[notNil]at hn;split at hn <;> simp_all
    |_=>simp[notNil]at hn
   rcases hshape with⟨a,n,k,rfl,rfl⟩|⟨a,rfl,rfl⟩|⟨a,rfl,rfl⟩|⟨f,a,b,rfl,rfl⟩|⟨t',a,rfl,rfl⟩ <;> rcases hop with⟨rfl,rfl⟩|⟨rfl,rfl⟩ <;>
    simp[eqGuard,binOp,h2]
  split at ha
  ·split at ha
   ·rename_i hn;cases ha;exact⟨_,key hn false (.inl ⟨rfl,rfl⟩),.v _⟩
   ·cases ha
  ·split at ha
   ·rename_i hn;cases ha;exact⟨_,key hn true (.inr ⟨rfl,rfl⟩),.v _⟩
   ·cases ha
  ·cases ha
 ·exact QmJ ha hx hy
 ·exact Qkv ha hx hy
 ·cases ha
def Qm0(P:Program)(t:TypeId)(x:AV)(i:Nat):Option AV :=
 match fieldInfo P t i with
 |some (o,ft)=>if x.isAgg=true then Xv P ft x o else none
 |none=>none
theorem Qmh{P:Program}{c:Cx}{t:TypeId}{x r:AV}{i:Nat}{u:Value}(ha:Qm0 P t x i=some r)(hx:Rel c x u):∃y,(Instr.field t u i).run P c.w = .ok y c.w/\Rel c r y:=by
 unfold Qm0 at ha
 cases hf:fieldInfo P t i with
 |none=>simp[hf]at ha
 |some ot =>
  obtain⟨o,ft⟩:=ot
  simp only[hf]at ha
  split at ha
  ·rename_i hag
   cases hx with
   |agg l cs hl hr =>
    unfold fieldInfo at hf
    cases hu:P.underlying t with
    |none=>simp[hu]at hf
    |some d =>
     cases d with
     |struct fs =>
      simp only[hu]at hf
      cases hfi:fs[i]? with
      |none=>simp[hfi]at hf
      |some f =>
       simp only[hfi]at hf
       cases ht:Xa P f.type with
       |none=>simp[ht]at hf
       |some bn =>
        obtain⟨b,n⟩:=bn
        simp only[ht]at hf
        split at hf
        ·cases hf
        ·cases hf
         obtain⟨h1,h2⟩:=Qbj ht c.w
         have run0:(Instr.field t (.agg cs) i).run P c.w=(part f.type cs f.offset).run P c.w:=by
          simp[Instr.field,underlying,hu,hfi,asAgg]
         rw[run0]
         unfold Xv at ha
         cases b with
         |false =>
          simp only[ht,AV.cells]at ha
          obtain⟨v,hv⟩:∃v,cs[f.offset]? = some v:=⟨_,Qzv (by have:=Qf ha;omega)⟩
          exact⟨v,by simp[part,h1,hv],hr _ _ _ ha hv⟩
         |true =>
          simp only[ht]at ha
          have main:∀l',l'.length=n->(∀(j:Nat) a,l'[j]? = some a->l[f.offset+j]? = some a)->f.offset+n<=l.length ->
            ∃y,(part f.type cs f.offset).run P c.w = .ok y c.w/\Rel c (.agg l') y:=by
           intro l' hl' hget hle
           refine⟨.agg (cs.extract f.offset (f.offset+n)),by simp[part,h1,h2],.agg _ _ (by simp;omega) ?_⟩
           intro j a v haj hvj
           rw[Array.getElem?_extract]at hvj
           split at hvj
           ·exact hr _ a v (hget j a haj) hvj
           ·cases hvj
          split at ha
          ·rename_i hh
           cases ha
           obtain⟨h3,_,h4⟩:=hh
           have h4':l.length=n:=h4
           rw[h3]at main ⊢
           exact main l h4' (fun j a ha=>by simpa using ha) (by omega)
          ·split at ha
           ·rename_i hle0
            have hle:f.offset+n<=l.length:=hle0
            cases ha
            refine main ((l.drop f.offset).take n) (by simp;omega) (fun j a haj=>?_) hle
            have hlt:=Qf haj
            rw[Qzx (by simp at hlt;omega),QzO]at haj
            exact haj
           ·cases ha
     |_=>simp[hu]at hf
   |_=>simp[AV.isAgg]at hag
  ·cases ha
def Qbg(x:AV)(i:Nat):Option AV :=
 match x with
 | .tup l=>l[i]?
 |_=>none
theorem Qjt{P:Program}{c:Cx}{x r:AV}{i:Nat}{u:Value}(ha:Qbg x i=some r)(hx:Rel c x u):∃y,(Instr.extract u i).run P c.w = .ok y c.w/\Rel c r y:=by
 cases hx with
 |tup l cs hl hr =>
  simp only[Qbg]at ha
  obtain⟨v,hv⟩:∃v,cs[i]? = some v:=⟨_,Qzv (by have:=Qf ha;omega)⟩
  exact⟨v,by simp[Instr.extract,hv],hr _ _ _ ha hv⟩
 |_=>simp[Qbg]at ha
def QbL(P:Program)(t:TypeId):Option (TypeDesc×TypeId) :=
 match P.underlying t with
 |some (.map k e)=>match P.underlying k with
  |some (.int q)=>some (.int q,e)
  |some .string=>some (.string,e)
  |some .bool=>some (.bool,e)
  |_=>none
 |_=>none
theorem QfB{P:Program}{t e:TypeId}{d:TypeDesc}(h:QbL P t=some (d,e)):∃k,P.underlying t=some (.map k e)/\P.underlying k=some d/\((∃q,d = .int q)\/d = .string\/d = .bool):=by
 unfold QbL at h
 split at h
 ·rename_i k e' hu
  split at h
  ·rename_i q hk;cases h;exact⟨k,hu,hk,.inl ⟨q,rfl⟩⟩
  ·rename_i hk;cases h;exact⟨k,hu,hk,.inr (.inl rfl)⟩
  ·rename_i hk;cases h;exact⟨k,hu,hk,.inr (.inr rfl)⟩
  ·cases h
 ·cases h
theorem QaV{P:Program}{w:World}{k:TypeId}{d:TypeDesc}(hk:P.underlying k=some d)(hd:(∃q,d = .int q)\/d = .string\/d = .bool)(b:Bool)(n:Nat)(v:Value):(Instr.checkKey b (n+1) k v).run P w = .ok () w:=by
 rcases hd with⟨q,rfl⟩|rfl|rfl <;> simp[Instr.checkKey,underlying,hk]
def QgY(d:TypeDesc)(k:Value):List (Value×AV)->Option (Option AV)
 |[]=>some none
 |e::es=>match Instr.sameNow d k e.1 with
  |some true=>some (some e.2)
  |some false=>QgY d k es
  |none=>none
def updA(d:TypeDesc)(k:Value)(v:AV):List (Value×AV)->Option (List (Value×AV))
 |[]=>some [(k,v)]
 |e::es=>match Instr.sameNow d k e.1 with
  |some true=>some ((k,v)::es)
  |some false=>(updA d k v es).map (e::·)
  |none=>none
def RelM(c:Cx)(es:List (Value×AV))(ents:List MapEntry):Prop :=
 ents.length=es.length/\∀(j:Nat) kv e,es[j]? = some kv->ents[j]? = some e->e.key=kv.1/\Rel c kv.2 e.val
theorem RelM.tail{c:Cx}{x:Value×AV}{es:List (Value×AV)}{e:MapEntry}{ents:List MapEntry}(h:RelM c (x::es) (e::ents)):RelM c es ents :=
 ⟨by simpa using h.1,fun j kv e' h1 h2=>h.2 (j+1) kv e' (by simpa using h1) (by simpa using h2)⟩
theorem RelM.head{c:Cx}{x:Value×AV}{es:List (Value×AV)}{e:MapEntry}{ents:List MapEntry}(h:RelM c (x::es) (e::ents)):e.key=x.1/\Rel c x.2 e.val :=
 h.2 0 x e (by simp) (by simp)
theorem Qe2{c:Cx}{d:TypeDesc}{k:Value}:∀{es:List (Value×AV)} {ents:List MapEntry} {r:Option AV} (i:Nat),RelM c es ents->QgY d k es=some r ->
  match r with
  |none=>Instr.findNow d k ents i=some none
  |some a=>∃j v,Instr.findNow d k ents i=some (some (j,v))/\Rel c a v
 |[],[],r,i,_,h=>by simp only[QgY,Qyp]at h;subst h;rfl
 |[],_::_,r,i,hm,_=>by have:=hm.1;simp at this
 |_::_,[],r,i,hm,_=>by have:=hm.1;simp at this
 |x::es,e::ents,r,i,hm,h=>by
  obtain⟨hk,hv⟩:=hm.head
  simp only[QgY]at h
  split at h
  ·rename_i hs
   cases h
   exact⟨i,e.val,by simp only[Instr.findNow,hk,hs],hv⟩
  ·rename_i hs
   have ih:=Qe2 (i+1) hm.tail h
   simp only[Instr.findNow,hk,hs]
   exact ih
  ·cases h
theorem bytes_beq{a b:ByteArray}(h:(a==b)=true):a=b:=by
 have h':(a.data==b.data)=true:=h
 have:=eq_of_beq h'
 cases a;cases b;simp_all
theorem Qh0(a:ByteArray):(a==a)=true:=by
 show(a.data==a.data)=true
 exact beq_self_eq_true _
theorem QlC{d:TypeDesc}{k k':Value}{n:Nat}(h:Instr.sameNow d k k'=some true):Instr.sameBits n k' k=true:=by
 unfold Instr.sameNow at h
 split at h
 ·split at h
  ·rename_i he
   simp only[Qyp]at h
   have h':=eq_of_beq h
   subst he;subst h'
   cases n <;> simp[Instr.sameBits]
  ·cases h
 ·simp only[Qyp]at h
  have h':=bytes_beq h
  subst h'
  cases n <;> simp[Instr.sameBits,Qh0]
 ·simp only[Qyp]at h
  have h':=eq_of_beq h
  subst h'
  cases n <;> simp[Instr.sameBits]
 ·cases h
theorem QlT{c:Cx}{d:TypeDesc}{k u:Value}{v:AV}(hv:Rel c v u)(clock:Nat):∀{es:List (Value×AV)} {ents:List MapEntry} {es':List (Value×AV)} (i:Nat),RelM c es ents->updA d k v es=some es' ->
  (Instr.findNow d k ents i=some none/\RelM c es' (ents++[{key:=k,val:=u,born:=clock}])) \/
  ∃j v0 e0,Instr.findNow d k ents i=some (some (i+j,v0))/\ents[j]? = some e0/\Instr.sameNow d k e0.key=some true/\RelM c es' (ents.modify j fun e=>{e with key:=k,val:=u})
 |[],[],es',i,hm,h=>by
  simp only[updA,Qyp]at h
  subst h
  refine .inl ⟨rfl,rfl,fun j kv e h1 h2=>?_⟩
  cases j with
  |zero=>simp at h1 h2;subst h1;subst h2;exact⟨rfl,hv⟩
  |succ j=>simp at h1
 |[],_::_,_,i,hm,_=>by have:=hm.1;simp at this
 |_::_,[],_,i,hm,_=>by have:=hm.1;simp at this
 |x::es,e::ents,es',i,hm,h=>by
  obtain⟨hk,hv'⟩:=hm.head
  simp only[updA]at h
  split at h
  ·rename_i hs
   cases h
   refine .inr ⟨0,e.val,e,by simp only[Instr.findNow,hk,hs,QyI],rfl,by rw[hk];exact hs,by simpa using hm.1,fun j kv e' h1 h2=>?_⟩
   cases j with
   |zero=>simp at h1 h2;subst h1;subst h2;exact⟨rfl,hv⟩
   |succ j=>simp at h1 h2;exact hm.2 (j+1) kv e' (by simpa using h1) (by simpa using h2)
  ·rename_i hs
   cases hr:updA d k v es with
   |none=>simp[hr]at h
   |some es2 =>
    simp only[hr,Qyl,Qyp]at h
    subst h
    rcases QlT hv clock (i+1) hm.tail hr with⟨h1,h2⟩|⟨j,v0,e0,h1,h2,h3,h4⟩
    ·refine .inl ⟨by simp only[Instr.findNow,hk,hs,h1],by have:=h2.1;simp at this ⊢;omega,fun j kv e' h5 h6=>?_⟩
     cases j with
     |zero=>simp at h5 h6;subst h5;subst h6;exact⟨hk,hv'⟩
     |succ j=>exact h2.2 j kv e' (by simpa using h5) (by simpa using h6)
    ·refine .inr ⟨j+1,v0,e0,by simp only[Instr.findNow,hk,hs,h1];congr 3;omega,by simpa using h2,h3,by have:=h4.1;simp at this ⊢;omega,fun j' kv e' h5 h6=>?_⟩
     cases j' with
     |zero=>simp at h5 h6;subst h5;subst h6;exact⟨hk,hv'⟩
     |succ j'=>exact h4.2 j' kv e' (by simpa using h5) (by simpa using h6)
  ·cases h
def Qbl(P:Program)(t:TypeId)(x k:AV)(ok:Bool)(h:AH):Option AV :=
 match QbL P t with
 |some (d,e) =>
  match k with
  | .v kv =>
   match (match x with
    | .mp id=>match h[id]? with
     |some (.map es)=>QgY d kv es
     |_=>none
    | .v (.map none)=>some none
    |_=>none:Option (Option AV))with
   |some (some a)=>some (if ok then .tup [a,.v (.bool true)]else a)
   |some none=>match Xi P e with
    |some z=>some (if ok then .tup [z,.v (.bool false)]else z)
    |none=>none
   |none=>none
  |_=>none
 |none=>none
theorem QeH{c:Cx}{a b:AV}{u v:Value}(h1:Rel c a u)(h2:Rel c b v):Rel c (.tup [a,b]) (.tuple #[u,v]):=by
 refine .tup _ _ rfl ?_
 intro j x y hx hy
 cases j with
 |zero=>simp at hx hy;subst hx;subst hy;exact h1
 |succ j=>cases j with
  |zero=>simp at hx hy;subst hx;subst hy;exact h2
  |succ j=>simp at hx
theorem Qld{P:Program}{c:Cx}(hst:St c){t:TypeId}{x k r:AV}{ok:Bool}{u v:Value}(ha:Qbl P t x k ok c.h=some r)(hx:Rel c x u)(hk:Rel c k v) :
  ∃y,(Instr.lookup t u v ok).run P c.w = .ok y c.w/\Rel c r y:=by
 unfold Qbl at ha
 cases hm:QbL P t with
 |none=>simp[hm]at ha
 |some de =>
  obtain⟨d,e⟩:=de
  obtain⟨kt,hu,hkt,hd⟩:=QfB hm
  simp only[hm]at ha
  cases hk with
  |v v =>
   simp only at ha
   -- how the run goes on behind the entries
   have fin:∀(ents:List MapEntry) (q:Option AV),(match q with
      |none=>Instr.findNow d v ents 0=some none
      |some a=>∃j y,Instr.findNow d v ents 0=some (some (j,y))/\Rel c a y) ->
     (match q with
      |some a=>some (if ok then .tup [a,.v (.bool true)]else a)
      |none=>match Xi P e with
       |some z=>some (if ok then .tup [z,.v (.bool false)]else z)
       |none=>none)=some r ->
     ∃y,((do
      let (w,ok')<-match<-Instr.findKey kt v ents with
       |some (_,w)=>pure (w,true)
       |none=>pure (<-zeroValue e,false)
      pure (if ok then .tuple #[w,.bool ok']else w):Sem Value)).run P c.w = .ok y c.w/\Rel c r y:=by
    intro ents q hq hr
    cases q with
    |none =>
     simp only at hq hr
     cases hz:Xi P e with
     |none=>simp[hz]at hr
     |some z =>
      simp only[hz,Qyp]at hr
      subst hr
      obtain⟨zv,hrun,rfl⟩:=Qar hz
      refine⟨if ok then .tuple #[zv,.bool false]else zv,by simp[Instr.findKey,underlying,hkt,hq,hrun],?_⟩
      cases ok
      ·exact Qbb c zv
      ·exact QeH (Qbb c zv) (.v _)
    |some a =>
     obtain⟨j,y,h1,h2⟩:=hq
     simp only[Qyp]at hr
     subst hr
     refine⟨if ok then .tuple #[y,.bool true]else y,by simp[Instr.findKey,underlying,hkt,h1],?_⟩
     cases ok
     ·exact h2
     ·exact QeH h2 (.v _)
   cases hx with
   |mp id x hid ho h1 =>
    simp only at ha
    split at ha
    case h_1 a heq =>
     split at heq
     ·rename_i es hb
      obtain⟨B,hρ,rfl⟩:=h1.1 _ hb
      obtain⟨B',ents,clock,h2,h3,h4,h5⟩:=hst.blocks id _ hb
      rw[hρ]at h2;cases h2
      have hrm:RelM c es ents.toList:=⟨by simpa using h4,fun j kv e h6 h7=>h5 j kv e h6 (by simpa using h7)⟩
      have hf:=Qe2 0 hrm heq
      obtain⟨y,h6,h7⟩:=fin ents.toList (some a) hf ha
      refine⟨y,?_,h7⟩
      rw[<-h6]
      simp[Instr.lookup,underlying,hu,run_getObj_map h3,QaV hkt hd]
      rfl
     ·cases heq
    case h_2 heq =>
     split at heq
     ·rename_i es hb
      obtain⟨B,hρ,rfl⟩:=h1.1 _ hb
      obtain⟨B',ents,clock,h2,h3,h4,h5⟩:=hst.blocks id _ hb
      rw[hρ]at h2;cases h2
      have hrm:RelM c es ents.toList:=⟨by simpa using h4,fun j kv e h6 h7=>h5 j kv e h6 (by simpa using h7)⟩
      have hf:=Qe2 0 hrm heq
      obtain⟨y,h6,h7⟩:=fin ents.toList none hf ha
      refine⟨y,?_,h7⟩
      rw[<-h6]
      simp[Instr.lookup,underlying,hu,run_getObj_map h3,QaV hkt hd]
      rfl
     ·cases heq
    case h_3 heq=>cases ha
   |v x =>
    cases u with
    |map o =>
     cases o with
     |none =>
      obtain⟨y,h6,h7⟩:=fin [] none rfl ha
      refine⟨y,?_,h7⟩
      rw[<-h6]
      simp[Instr.lookup,underlying,hu,QaV hkt hd]
      rfl
     |some q=>simp at ha
    |_=>simp at ha
   |_=>simp at ha
  |_=>simp at ha
def QR(h:AH):AV->Bool
 | .ptr id _ _=>match h[id]? with|some (.cells _ _ _)=>true|_=>false
 | .pin _ _ _ _=>true
 |_=>false
theorem QjO{c:Cx}{x:AV}{u:Value}(h:QR c.h x=true)(hx:Rel c x u):∃a,u = .pointer (some a):=by
 cases hx with
 |ptr id k off x hid ho h1 =>
  simp only[QR]at h
  split at h
  ·rename_i ty s xs hb
   obtain⟨B,_,rfl⟩:=h1 _ _ _ hb
   exact⟨_,rfl⟩
  ·cases h
 |pin s xs k off B o f hs hc hr=>exact⟨_,rfl⟩
 |_=>simp[QR]at h
theorem QoX{P:Program}{fits:TypeId->Bool}{off n count count':Nat}(h:count<=count'):∀{d:Nat} {e:TypeId},rowAt P fits d e count off n=true->rowAt P fits d e count' off n=true
 |0,e,hr=>by simp[rowAt]at hr
 |d+1,e,hr=>by
  simp only[rowAt]at hr ⊢
  split at hr
  ·cases hr
  ·rename_i hs
   simp only[hs,Qz5,QzW,Qzk,Qzu]at hr ⊢
   rcases hr with⟨⟨h1,h2⟩,h3⟩|⟨h1,h2⟩
   ·exact .inl ⟨⟨h1,by omega⟩,h3⟩
   ·exact .inr ⟨by omega,h2⟩
theorem Qhh{P:Program}{e:TypeId}{count count' off:Nat}(h:count<=count'):∀{d:Nat} {u:TypeId} {n:Nat},liesAt P d e count off u n=true->liesAt P d e count' off u n=true
 |0,u,n,hr=>by simp[liesAt]at hr
 |d+1,u,n,hr=>by
  simp only[liesAt,QzW]at hr ⊢
  rcases hr with h1|h1
  ·exact .inl (QoX h h1)
  ·refine .inr ?_
   split at h1
   ·exact Qhh h h1
   ·cases h1
def QbH(P:Program)(s d:TypeId)(id k off:Nat)(h:AH):Option AV :=
 match h[id]? with
 |some (.cells ty sz xs)=>if xs.length * sz=0\/¬k * sz+off<xs.length * sz then none else match P.underlying s,P.underlying d with
  |some (.pointer t),some .unsafePointer=>match P.info? t with
   |some j=>if j.size≠0 then some (.ptr id k off)else none
   |none=>none
  |some .unsafePointer,some (.pointer u)=>if (P.info? u).isSome=true/\P.cellsOf ty=sz/\liesAt P P.depth ty xs.length (k * sz+off) u 1=true then some (.ptr id k off)else none
  |_,_=>none
 |_=>none
theorem QlS{P:Program}{c:Cx}(hst:St c){s d:TypeId}{id k off:Nat}{r:AV}{u:Value}(ha:QbH P s d id k off c.h=some r)(hx:Rel c (.ptr id k off) u) :
  ∃y,(convert s d u).run P c.w = .ok y c.w/\Rel c r y:=by
 unfold QbH at ha
 split at ha
 ·rename_i ty sz xs hb
  split at ha
  ·cases ha
  rename_i hlt
  have hxr:=hx
  cases hx with
  |ptr _ _ _ x _ _ h1 =>
   obtain⟨B,hρ,rfl⟩:=h1 _ _ _ hb
   obtain⟨B',cur,h2,h3,h4,h5⟩:=hst.blocks id _ hb
   rw[hρ]at h2;cases h2
   have hfl:=flat_length h4
   have hsz:xs.length * sz<=cur.size:=by
    rcases Nat.eq_zero_or_pos (xs.length * sz)with h|h
    ·omega
    ·have hj:(flat xs)[xs.length * sz - 1]? = some (flat xs)[xs.length * sz - 1]:=Qzg (by omega)
     obtain⟨u,hu,_⟩:=h5 _ _ hj
     have:=(Qzs.1 hu).1
     omega
   have hsh:c.w.shape? B=some (ty,cur.size):=by simp[World.shape?,h3]
   split at ha
   ·rename_i t hs hd
    split at ha
    ·rename_i j hj
     split at ha
     ·rename_i hj0
      cases ha
      exact⟨_,Lib.run_to_unsafe (w:=c.w) ⟨B,k * sz+off,none⟩ hs hd hj hj0 hsh (by show k * sz+off<cur.size;omega),hxr⟩
     ·cases ha
    ·cases ha
   ·rename_i u hs hd
    split at ha
    ·rename_i hh
     obtain⟨hi,hc,hl⟩:=hh
     obtain⟨j,hj⟩:=QAP.1 hi
     cases ha
     refine⟨_,Lib.run_from_unsafe (w:=c.w) ⟨B,k * sz+off,none⟩ hs hd hj hsh (Qhh ?_ hl),hxr⟩
     rw[hc]
     have hz:0<sz:=Nat.pos_of_ne_zero fun h=>hlt (.inl (by rw[h,Nat.mul_zero]))
     exact(Nat.le_div_iff_mul_le hz).2 hsz
    ·cases ha
   ·cases ha
 ·cases ha
def Qi6(P:Program)(x:AV)(xt t:TypeId)(ok:Bool):Option AV :=
 match P.underlying t with
 |some (.interface _)=>none
 |some _=>match x with
  | .ifc u y=>if u=t then some (if ok then .tup [y,.v (.bool true)]else y)else(match ok,Xi P t with|true,some z=>some (.tup [z,.v (.bool false)])|_,_=>none)
  | .v .nilIface=>(match ok,Xi P t with|true,some z=>some (.tup [z,.v (.bool false)])|_,_=>none)
  |_=>none
 |none=>none
theorem QkA{P:Program}{c:Cx}{x r:AV}{xt t:TypeId}{ok:Bool}{u:Value}(ha:Qi6 P x xt t ok=some r)(hx:Rel c x u):∃y,(Instr.typeAssert u xt t ok).run P c.w = .ok y c.w/\Rel c r y:=by
 unfold Qi6 at ha
 split at ha
 ·cases ha
 ·rename_i d hnot hd
  have hun:(underlying t).run P c.w = .ok d c.w:=by simp[underlying,hd]
  split at ha
  ·rename_i u' y
   cases hx with
   |ifc _ _ v hv =>
    split at ha
    ·rename_i he
     cases ha
     refine⟨if ok then .tuple #[v,.bool true]else v,?_,?_⟩
     ·unfold Instr.typeAssert
      simp only[Sem.run_bind,hun,Result.andThen_ok]
      cases d <;> first|(exact absurd rfl (hnot _))|simp[he]
     ·cases ok
      ·exact hv
      ·exact QeH hv (.v _)
    ·rename_i he
     split at ha
     ·rename_i z hz
      cases ha
      obtain⟨zv,hrun,rfl⟩:=Qar hz
      refine⟨.tuple #[zv,.bool false],?_,QeH (Qbb c zv) (.v _)⟩
      unfold Instr.typeAssert
      simp only[Sem.run_bind,hun,Result.andThen_ok]
      cases d <;> first|(exact absurd rfl (hnot _))|simp[he,hrun]
     ·cases ha
  ·cases hx
   split at ha
   ·rename_i z hz
    cases ha
    obtain⟨zv,hrun,rfl⟩:=Qar hz
    refine⟨.tuple #[zv,.bool false],?_,QeH (Qbb c zv) (.v _)⟩
    unfold Instr.typeAssert
    simp only[Sem.run_bind,hun,Result.andThen_ok]
    cases d <;> first|(exact absurd rfl (hnot _))|simp[hrun]
   ·cases ha
  ·cases ha
 ·cases ha
def Q6(s:ByteArray):List AV:=s.data.toList.map fun b=>.v (.int .u8 (b.toNat:Nat))
theorem Yi(s:ByteArray):(Q6 s).length=s.size:=by
 simp only[Q6,QzJ,QzS];rfl
theorem QpI(s:ByteArray):∀x∈Q6 s,x.cells.length=1:=fun x hx=>by
 obtain⟨b,_,rfl⟩:=QzD.1 hx
 rfl
theorem QcM(s:ByteArray):flat (Q6 s)=Q6 s:=by
 unfold Q6
 generalize s.data.toList=l
 induction l with
 |nil=>rfl
 |cons b l ih=>simp only[Qyy,QQ,ih];rfl
theorem QbF(c:Cx)(s:ByteArray):∀(j:Nat) a u,(flat (Q6 s))[j]? = some a->(Lib.strCells s)[j]? = some u->Rel c a u:=by
 intro j a u ha hu
 rw[QcM]at ha
 simp only[Q6,Lib.strCells,QzN,Qzo]at ha hu
 obtain⟨b,hb,rfl⟩:=ha
 obtain⟨b',hb',rfl⟩:=hu
 rw[hb]at hb';cases hb'
 exact .v _
def Qda(P:Program)(t t':TypeId)(s:AV)(str:ByteArray)(h:AH):Option (AV×AH) :=
 match P.underlying t,P.underlying t' with
 |some (.slice e),some .string=>match P.info? e with
  |some i=>match i.zero with
   |some z=>if i.size=1/\i.bytes=1/\z.cells.size=1 then(match s with
    | .sl m xs (some b)=>match h[b]? with
     |some (.grow e' n k)=>if 0<str.size/\m=1/\e'=e/\n=1/\k=xs.length/\xs.length+str.size<=140737488355328 then some (.sl 1 (xs++Q6 str) (some b),h.set b (.grow e 1 (xs.length+str.size)))else
       if str.size=0/\m=1/\n=1/\e'=e/\k=xs.length then some (.sl m xs (some b),h)else none
     |_=>none
    |_=>none)else none
   |none=>none
  |none=>none
 |_,_=>none
theorem YA{P:Program}{w:World}{t t' ty e:TypeId}{i:TypeInfo}(ht:P.underlying t=some (.slice e))(hu:P.underlying t'=some .string)(hi:P.info? e=some i)(b:Option Addr)(n cap:Nat)(hcap:n<=cap)(s:ByteArray)(h0:s.size=0) :
  (Builtin.append_ #[t,t'] ty #[.slice b n cap,.string s]).run P w = .ok (.slice b n cap) w:=by
 have hf:=Lib.run_firstCells_string (P:=P) w i.size s
 rw[h0]at hf
 have hc:Lib.strCells s=[]:=by rw[<-List.length_eq_zero_iff,Lib.strCells_length,h0]
 rw[hc]at hf
 cases b <;> simp[Builtin.append_,run_underlying ht,run_underlying hu,sizeOf,typeInfo,hi,Builtin.lenOf,hcap,h0,hf,storeCells]
theorem run_append_nil_string{P:Program}(w:World)(t u ty e:TypeId)(i:TypeInfo)(z:Value)(ht:P.underlying t=some (.slice e))(hu:P.underlying u=some .string)(hi:P.info? e=some i)(hz:i.zero=some z)
  (s:ByteArray) (hg:0<s.size) (h63:(s.size:Int)<=9223372036854775807) (hfit:Builtin.nextslicecap s.size 0 * i.bytes<=281474976710656) :
  (Builtin.append_ #[t,u] ty #[.slice none 0 0,.string s]).run P w =
   .ok (.slice (some ⟨w.heap.size,0,none⟩) s.size (grownCap w s.size 0 e))
    (w.drew.alloc (.cells ((Lib.strCells s).toArray++Builtin.zeroCells z.cells (grownCap w s.size 0 e - s.size)) e)):=by
 have h63':¬(9223372036854775807<(s.size:Int)):=by omega
 have h48':¬(281474976710656<Builtin.nextslicecap s.size 0 * i.bytes):=by omega
 have hne:s.size≠0:=by omega
 have hf:=Lib.run_firstCells_string (P:=P) w.drew i.size s
 have hfo:(Builtin.firstCells i.size 0 (.slice none 0 0)).run P w.drew = .ok #[] w.drew:=by simp[Builtin.firstCells]
 simp[Builtin.append_,run_underlying ht,run_underlying hu,sizeOf,typeInfo,zeroValue,hi,hz,Builtin.lenOf,hne,h63',h48',Question.forced,hf,hfo,newRow,grownCap]
theorem QcD{P:Program}{c:Cx}(hst:St c){b e k n cap':Nat}{zs:List AV}{news:List Value}{rest:Array Value}{x:Sem Value}(hb:c.h[b]? = some (.grow e 1 k))(hkn:k<n)(hn:zs.length=n)
  (hzs:∀y∈zs,y.cells.length=1) (hnl:news.length=(flat zs).length) (hno:∀u∈news,u.oneCell'=true) (hnr:∀(j:Nat) a u,(flat zs)[j]? = some a->news[j]? = some u->Rel c a u)
  (hcap1:n<=cap') (hcap2:cap'<=maxLen) (hsz:(news.toArray++rest).size=cap' * 1)
  (hrun:x.run P c.w = .ok (.slice (some ⟨c.w.heap.size,0,none⟩) n cap') (c.w.drew.alloc (.cells (news.toArray++rest) e))) :
  ∃y c',x.run P c.w = .ok y c'.w/\Ev c c'/\St c'/\c'.h=c.h.set b (.grow e 1 n)/\Rel c' (.sl 1 zs (some b)) y:=by
 let cells:=news.toArray++rest
 have hg:Grows c.w (c.w.drew.alloc (.cells cells e)):=(Grows.drew c.w).trans (Grows.alloc _ _)
 have ho:∀B,some c.w.heap.size=some B->c.w.heap.size<=B:=fun B h=>by cases h;exact Qzl _
 have hev:=Ev.move hst hg hb hkn ho
 have hρ:(c.move (c.w.drew.alloc (.cells cells e)) b (.grow e 1 n) (some c.w.heap.size)).ρ b=some c.w.heap.size:=by simp[Cx.move]
 have hheap:(c.w.drew.alloc (.cells cells e)).heap[c.w.heap.size]? = some (.cells cells e (0,0)):=QO c.w.drew _
 have hst':=St.move hst hg hb hkn ho (by
  intro B' hB'
  rw[hρ]at hB';cases hB'
  exact⟨cells,hheap,by rw[hsz];exact QzK _ hcap1⟩)
 refine⟨_,c.move (c.w.drew.alloc (.cells cells e)) b (.grow e 1 n) (some c.w.heap.size),hrun,hev,hst',rfl,?_⟩
 subst hn
 refine Qaq hst' (by simp[Cx.move,Qf hb]) hρ hheap hsz hcap1 hcap2 hzs ?_
 intro j a ha
 obtain⟨u,hu2⟩:∃u,news[j]? = some u:=⟨_,Qzg (by rw[hnl];exact Qf ha)⟩
 refine⟨u,?_,hno u (Qzp hu2),(hnr j a u ha hu2).ev hst hev⟩
 simp only[cells]
 rw[Qz6 (by simpa using Qf hu2)]
 simpa using hu2
theorem Qjb{P:Program}{c:Cx}(hst:St c){t t' ty:TypeId}{s r:AV}{str:ByteArray}{h':AH}{us:Value}(ha:Qda P t t' s str c.h=some (r,h'))(hs:Rel c s us) :
  ∃y c',(Builtin.append_ #[t,t'] ty #[us,.string str]).run P c.w = .ok y c'.w/\Ev c c'/\St c'/\c'.h=h'/\Rel c' r y:=by
 unfold Qda at ha
 split at ha
 ·rename_i e hu hu'
  split at ha
  ·rename_i i hi
   split at ha
   ·rename_i z hz
    split at ha
    ·rename_i hh
     obtain⟨hi1,hi2,hzc⟩:=hh
     split at ha
     ·rename_i m xs b
      split at ha
      ·rename_i e' n k hb
       split at ha
       ·rename_i hh
        obtain⟨h0,rfl,rfl,rfl,rfl,hmax⟩:=hh
        cases ha
        have hfl:=QcM str
        have hbl:=Yi str
        have hw:=QpI str
        have hsl:=Lib.strCells_length str
        have h63:((xs.length+str.size:Nat):Int)<=9223372036854775807:=by omega
        have hmx:xs.length+str.size<=maxLen:=by simp only[maxLen];omega
        have hfit:∀cap0,cap0<xs.length+str.size->Builtin.nextslicecap (xs.length+str.size) cap0 * i.bytes<=281474976710656:=fun cap0 hc0=>growslice_fits hc0 (by rw[hi2];omega)
        cases hs with
        |slnil _ _ ht =>
         simp only[Qyx,Qyv,QyK]at *
         have hrun:=run_append_nil_string (P:=P) c.w t t' ty e' i z hu hu' hi hz str h0 (by omega) (hfit 0 h0)
         exact QcD hst hb h0 hbl hw (by rw[hfl,hbl,hsl]) (Lib.strCells_oneCell str) (QbF c str) (grownCap_ge _ _ _ _) (grownCap_le_maxLen _ _ _ _ hmx)
          (by have:=grownCap_ge c.w str.size 0 e';simp only[QAc,QzX,hsl,Yk,hzc];omega) hrun
        |slzero _ _ ba ht =>
         simp only[Qyx,Qyv,QyK]at *
         have hrun:=Lib.run_append_grow_string (P:=P) c.w t t' ty e' i z hu hu' hi hz ba 0 0 [] (by simp) (fun j v hv=>by simp at hv) str (by omega) (by simpa using h63) (by simpa using hfit 0 h0)
         simp only[Qyv,QA1]at hrun
         exact QcD hst hb h0 hbl hw (by rw[hfl,hbl,hsl]) (Lib.strCells_oneCell str) (QbF c str) (grownCap_ge _ _ _ _) (grownCap_le_maxLen _ _ _ _ hmx)
          (by have:=grownCap_ge c.w str.size 0 e';simp only[QAc,QzX,hsl,Yk,hzc];omega) hrun
        |sl _ _ _ B0 o0 cap0 f hsu hcap0 hmax0 hc hr ht =>
         obtain⟨⟨htl,htd⟩,htn⟩:=ht b rfl
         obtain⟨_,_,h3⟩:=htn _ _ _ hb
         obtain⟨rfl,hρ0,_,_,cur,hB0,hcur⟩:=h3 rfl
         have hxl:=flat_length hsu
         rw[QA3]at hxl hcur
         have hrow0:Row c B0 0 xs:=fun j a hj=>⟨f j,(hc j a hj).1.1,(hc j a hj).2,hr j a hj⟩
         obtain⟨olds,hol,hoc,hoo,hor⟩:=Z8 hrow0
         have hall:∀x∈xs++Q6 str,x.cells.length=1:=fun x hx=>(QzH.1 hx).elim (hsu x) (hw x)
         have hlenxy:(xs++Q6 str).length=xs.length+str.size:=by rw[Qza,hbl]
         by_cases hroom:xs.length+str.size<=cap0
         ·have hrun:=Lib.run_append_room_string (P:=P) c.w t t' ty e' i hu hu' hi hi1 B0 xs.length cap0 cur hB0 str hroom (by omega)
          let cur':=(cur.toList.take xs.length++Lib.strCells str++cur.toList.drop (xs.length+str.size)).toArray
          have hheap:(c.w.setRow B0 cur').heap[B0]? = some (.cells cur' e' (0,0)):=setRow_heap c.w B0 cur cur' e' (0,0) hB0
          have hsz:cur'.size=cap0 * 1:=by
           rw[QA3,<-hcur];simp only[cur',QzX,Qza,QzE,QzM,QzS,hsl];omega
          have htl':(cur.toList.take xs.length).length=xs.length:=by simp;omega
          have hold:∀j,j<xs.length * 1->cur'[j]? = cur[j]? := by
           intro j hj
           rw[QA3]at hj
           simp only[cur',Qym]
           rw[Qze,Qzc (by omega),Qzx hj];simp
          have hev:Ev c (c.turn (c.w.setRow B0 cur') b (.grow e' 1 (xs.length+str.size))) :=
           Ev.turn hst hb rfl hρ0 rfl rfl rfl (by simp[World.setRow]) (fun k hk=>Zy c.w B0 cur' k hk)
            (.inr ⟨_,rfl,by omega,fun h=>by omega,fun B' hB'=>.inl hB',fun B' cur2 hB' hc2=>by
             rw[hρ0]at hB';cases hB'
             rw[hB0]at hc2;cases hc2
             exact⟨cur',hheap,by rw[hsz,hcur,QA3],hold⟩⟩)
          have hst':=St.turn hst hb rfl hρ0 (fun k hk=>Zy c.w B0 cur' k hk) hev (by
           intro B' hB'
           simp only[Cx.turn]at hB'
           rw[hρ0]at hB';cases hB'
           exact⟨cur',hheap,by rw[hsz];exact QzK _ hroom⟩)
          refine⟨_,c.turn (c.w.setRow B0 cur') b (.grow e' 1 (xs.length+str.size)),hrun,hev,hst',rfl,?_⟩
          suffices hrel:Rel (c.turn (c.w.setRow B0 cur') b (.grow e' 1 (xs.length+str.size))) (.sl 1 (xs++Q6 str) (some b)) (.slice (some ⟨B0,0,none⟩) (xs++Q6 str).length cap0) by
           rw[hlenxy]at hrel;exact hrel
          refine Qaq hst' (by simp[Cx.turn,htl,hlenxy]) hρ0 hheap hsz (by omega) hmax0 hall ?_
          intro j a hj
          rw[Yn]at hj
          by_cases hj2:j<xs.length
          ·rw[Qzc (by omega)]at hj
           obtain⟨u,h4,h5,h6⟩:=hrow0 j a hj
           rw[Qyv,XC hB0]at h4
           exact⟨u,(hold j (by omega)).trans h4,h5,h6.ev hst hev⟩
          ·rw[Qzi (by omega),hxl]at hj
           obtain⟨u,hu2⟩:∃u,(Lib.strCells str)[j - xs.length]? = some u:=⟨_,Qzg (by have:=Qf hj;rw[hfl,hbl]at this;rw[hsl];exact this)⟩
           refine⟨u,?_,Lib.strCells_oneCell str u (Qzp hu2),(QbF c str _ a u hj hu2).ev hst hev⟩
           simp only[cur',Qym]
           rw[Qze,Qzi (by omega),htl',Qzc (Qf hu2)]
           exact hu2
         ·have hrun:=Lib.run_append_grow_string (P:=P) c.w t t' ty e' i z hu hu' hi hz ⟨B0,0,none⟩ xs.length cap0 olds (by rw[hol,hxl,hi1,QA3]) (fun j v hv=>by rw[addr_add];exact hoc j v hv) str (by omega) h63 (hfit cap0 (by omega))
          have:=QcD (P:=P) (cap':=grownCap c.w (xs.length+str.size) cap0 e') (news:=olds++Lib.strCells str) (rest:=Builtin.zeroCells z.cells (grownCap c.w (xs.length+str.size) cap0 e' - (xs.length+str.size))) (x:=Builtin.append_ #[t,t'] ty #[.slice (some ⟨B0,0,none⟩) xs.length cap0,.string str])
           hst hb (by omega:xs.length<xs.length+str.size) hlenxy hall (by rw[Yn,Qza,Qza,hol,hfl,hbl,hsl]) (fun u hu2=>(QzH.1 hu2).elim (hoo u) (Lib.strCells_oneCell str u)) ?_ (grownCap_ge _ _ _ _) (grownCap_le_maxLen _ _ _ _ hmx) ?_ ?_
          ·exact this
          ·intro j a u hj hu2
           rw[Yn]at hj
           by_cases hj2:j<xs.length
           ·rw[Qzc (by omega)]at hj hu2
            exact hor j a u hj hu2
           ·rw[Qzi (by omega)]at hj hu2
            rw[hxl]at hj
            rw[hol,hxl]at hu2
            exact QbF c str _ a u hj hu2
          ·have:=grownCap_ge c.w (xs.length+str.size) cap0 e'
           simp only[QAc,QzX,Qza,hol,hxl,hsl,Yk,hzc];omega
          ·rw[hrun]
           congr 3
           apply Array.ext'
           simp
       ·split at ha
        ·rename_i hh
         obtain⟨h0,rfl,rfl,rfl,rfl⟩:=hh
         cases ha
         have hs':=hs
         cases hs with
         |slnil _ _ ht=>exact⟨_,c,YA hu hu' hi none 0 0 (Qzl _) str h0,Ev.refl c,hst,rfl,hs'⟩
         |slzero _ _ ba ht=>exact⟨_,c,YA hu hu' hi (some ba) 0 0 (Qzl _) str h0,Ev.refl c,hst,rfl,hs'⟩
         |sl _ _ _ B0 o0 cap0 f hsu hcap0 hmax0 hc hr ht=>exact⟨_,c,YA hu hu' hi _ _ _ hcap0 str h0,Ev.refl c,hst,rfl,hs'⟩
        ·cases ha
      ·cases ha
     ·cases ha
    ·cases ha
   ·cases ha
  ·cases ha
 ·cases ha
def Qce(l:List UInt8):List AV:=l.map fun b=>.v (.int .u8 (b.toNat:Nat))
theorem Qn5(s:ByteArray):Q6 s=Qce s.data.toList:=rfl
def Qcx:List AV->Option (List UInt8)
 |[]=>some []
 | .v (.int .u8 n)::r=>if 0<=n/\n<256 then(Qcx r).map (UInt8.ofNat n.toNat::·)else none
 |_=>none
theorem Qi1:∀{xs:List AV} {l:List UInt8},Qcx xs=some l->xs=Qce l
 |[],l,h=>by simp only[Qcx,Qyp]at h;subst h;rfl
 |a::r,l,h=>by
  unfold Qcx at h
  split at h
  ·rename_i h0;cases h0
  ·rename_i n r' h0
   cases h0
   split at h
   ·rename_i hn
    simp only[Qzo]at h
    obtain⟨m,h1,rfl⟩:=h
    rw[Qi1 h1]
    show _=AV.v (.int .u8 ((UInt8.ofNat n.toNat).toNat:Nat))::Qce m
    have:((UInt8.ofNat n.toNat).toNat:Int)=n:=by rw[UInt8.toNat_ofNat'];omega
    rw[this]
   ·cases h
  ·cases h
theorem QeV:∀l:List UInt8,Qcx (Qce l)=some l
 |[]=>rfl
 |b::l=>by
  show Qcx (AV.v (.int .u8 ((b.toNat:Nat):Int))::Qce l)=_
  have hb:=b.toNat_lt
  rw[Qcx,Qzh (by omega),QeV l,Int.toNat_natCast]
  simp
def QbP(x:AV):Option AV :=
 match x with
 | .sl s (y::ys) own=>some (.spt s (y::ys) own)
 | .v (.slice none 0 0)=>some (.v (.pointer none))
 |_=>none
theorem QhH{P:Program}{c:Cx}{ts:Array TypeId}{ty:TypeId}{x r:AV}{u:Value}(ha:QbP x=some r)(hx:Rel c x u):∃y,(Builtin.unsafeSliceData_ ts ty #[u]).run P c.w = .ok y c.w/\Rel c r y:=by
 unfold QbP at ha
 split at ha
 ·rename_i s y ys own
  cases ha
  have hx':=hx
  cases hx with
  |sl _ _ _ B o cap f hsu hcap hmax hc hr ht =>
   exact⟨_,Lib.run_unsafeSliceData_row c.w ts ty _ _ cap (by simp at hcap;omega),.spt _ _ _ _ _ _ hx'⟩
 ·cases ha
  cases hx
  exact⟨_,Lib.run_unsafeSliceData_nil c.w ts ty 0 0,.v _⟩
 ·cases ha
def ZF(P:Program)(pt:TypeId)(x n:AV)(h:AH):Option (AV×AH) :=
 match x,n with
 | .spt s xs (some b),.v (.int .i64 n)=>match h[b]?,Qcx xs,P.underlying pt with
  |some (.grow e s' k),some l,some (.pointer e')=>if s=1/\s'=1/\k=xs.length/\0<xs.length/\n=xs.length/\e'=e/\P.cellsOf e=1/\xs.length<=9223372036854775807 then some (.v (.string ⟨l.toArray⟩),h.set b .gone)else none
  |_,_,_=>none
 | .v (.pointer none),.v (.int .i64 n)=>if n=0 then some (.v (.string .empty),h)else none
 |_,_=>none
theorem QkT(w:World)(p:Addr)(n k:Nat)(h:k≠p.block):(w.freeze p n).heap[k]? = w.heap[k]? := by
 unfold World.freeze
 split
 ·rfl
 ·simp only[Array.getElem?_modify]
  rw[Qzf (fun e=>h e.symm)]
theorem Qmj(w:World)(p:Addr)(n:Nat){cur:Array Value}{e:TypeId}{fr:Nat×Nat}(h:w.heap[p.block]? = some (.cells cur e fr)):∃fr',(w.freeze p n).heap[p.block]? = some (.cells cur e fr'):=by
 unfold World.freeze
 split
 ·exact⟨fr,h⟩
 ·simp only[Array.getElem?_modify,QAj,h,Qyl]
  exact⟨_,rfl⟩
theorem QeW{P:Program}{c:Cx}(hst:St c){pt it ty:TypeId}{x n r:AV}{h':AH}{u v:Value}(ha:ZF P pt x n c.h=some (r,h'))(hx:Rel c x u)(hn:Rel c n v) :
  ∃y c',(Builtin.unsafeString_ #[pt,it] ty #[u,v]).run P c.w = .ok y c'.w/\Ev c c'/\St c'/\c'.h=h'/\Rel c' r y:=by
 unfold ZF at ha
 split at ha
 ·rename_i s xs b n
  cases hn
  split at ha
  ·rename_i e s' k l e' hb hl hpt
   split at ha
   ·rename_i hh
    obtain⟨rfl,rfl,rfl,h0,rfl,rfl,hc1,h63⟩:=hh
    cases ha
    cases hx with
    |spt _ _ _ p nn kk hsl =>
     cases hsl with
     |slnil=>simp at h0
     |slzero=>simp at h0
     |sl _ _ _ B o cap f hsu hcap hmax hc hr ht =>
      obtain⟨⟨htl,htd⟩,htn⟩:=ht b rfl
      obtain⟨_,_,h3⟩:=htn _ _ _ hb
      obtain⟨rfl,hρ,_,_,cur,hB,hcur⟩:=h3 rfl
      have hxl:=Qi1 hl
      have hll:l.length=xs.length:=by rw[hxl];simp[Qce]
      have hfl:flat xs=Qce l:=by
       rw[hxl]
       clear hl hxl hll hr hc hsu h0 hb hcap ht htn h3 h63
       induction l with
       |nil=>rfl
       |cons b l ih =>
        show flat (AV.v (.int .u8 ((b.toNat:Nat):Int))::Qce l)=_
        rw[QQ,ih];rfl
      have hrun:=Lib.run_unsafeString_row (P:=P) c.w pt it ty e' hpt hc1 B cur.size (by simp[World.shape?,hB]) l (by intro hnil;rw[hnil]at hll;simp at hll;omega) (by omega) (by omega) (fun j x hj=>by
       have hj2:(flat xs)[j]? = some (AV.v (.int .u8 ((x.toNat:Nat):Int))):=by rw[hfl];simp only[Qce,QzN,hj,Qyl]
       obtain⟨h4,_⟩:=hc j _ hj2
       have h5:=hr j _ hj2
       have h6:f j = .int .u8 ((x.toNat:Nat):Int):=by
        generalize f j=u at h5
        cases h5;rfl
       rw[addr_add,h4.1,h6])
      rw[hll]at hrun
      have hold:∀k,k≠B->(c.w.freeze ⟨B,0,none⟩ xs.length).heap[k]? = c.w.heap[k]? := fun k hk=>QkT c.w ⟨B,0,none⟩ _ k hk
      obtain⟨fr',hnew⟩:=Qmj c.w ⟨B,0,none⟩ xs.length hB
      have hsz:(c.w.freeze ⟨B,0,none⟩ xs.length).heap.size=c.w.heap.size:=by unfold World.freeze;split <;> simp
      have hos:(c.w.freeze ⟨B,0,none⟩ xs.length).os=c.w.os/\(c.w.freeze ⟨B,0,none⟩ xs.length).tape=c.w.tape/\(c.w.freeze ⟨B,0,none⟩ xs.length).output=c.w.output:=by unfold World.freeze;split <;> exact⟨rfl,rfl,rfl⟩
      have hev:Ev c (c.turn (c.w.freeze ⟨B,0,none⟩ xs.length) b .gone) :=
       Ev.turn hst hb rfl hρ hos.1 hos.2.1 hos.2.2 hsz hold (.inl ⟨rfl,fun B' cur' h5 h6=>by
        rw[hρ]at h5;cases h5
        rw[hB]at h6;cases h6
        exact⟨cur,fr',hnew,fun _ _=>rfl⟩⟩)
      exact⟨_,c.turn (c.w.freeze ⟨B,0,none⟩ xs.length) b .gone,hrun,hev,St.turn hst hb rfl hρ hold hev trivial,rfl,.v _⟩
   ·cases ha
  ·cases ha
 ·rename_i n
  cases hx;cases hn
  split at ha
  ·rename_i hz
   subst hz
   cases ha
   exact⟨_,c,Lib.run_unsafeString_none c.w pt it ty none,Ev.refl c,hst,rfl,.v _⟩
  ·cases ha
 ·cases ha
def Qkr(P:Program)(t:TypeId)(x:AV)(h:AH):Option (AV×AH) :=
 match x with
 | .mp id=>match h[id]? with
  |some (.map _)=>match P.underlying t with
   |some (.map _ _)=>some (.tup [],h.set id (.map []))
   |_=>none
  |_=>none
 | .arr id lo len=>match Q3 P t with
  |some (e,k)=>match P.info? e with
   |some i=>match i.zero with
    |some z=>match h[id]? with
     |some (.cells ty s xs) =>
      if s=1/\k=1/\z.oneCell'=true/\lo+len<=xs.length then
       some (.tup [],h.set id (.cells ty s (xs.take lo++List.replicate len (.v z)++xs.drop (lo+len))))else none
     |_=>none
    |none=>none
   |none=>none
  |none=>none
 |_=>none
theorem QrU{z:Value}(h:z.oneCell'=true)(n:Nat):(Builtin.zeroCells z.cells n).toList=List.replicate n z:=by
 have e:z.cells=#[z]:=by cases z <;> first|rfl|cases h
 rw[e]
 apply QzY
 intro i
 simp only[Builtin.zeroCells,Array.toList_map,Array.toList_range,QzN,List.getElem?_range,QAE]
 by_cases hi:i<n
 ·simp[hi,Nat.mod_one]
 ·simp[hi]
theorem Qjx(z:Value):∀n:Nat,flat (List.replicate n (AV.v z))=List.replicate n (AV.v z)
 |0=>rfl
 |n+1=>by rw[List.replicate_succ,QQ,Qjx z n];rfl
theorem set_self{h:AH}{id:Nat}{b:AB}(hb:h[id]? = some b):h.set id b=h:=by
 apply QzY
 intro i
 by_cases hi:id=i
 ·subst hi;rw[Qzj (Qf hb),hb]
 ·rw[Qzd hi]
theorem Ql9{P:Program}{c:Cx}(hst:St c){t ty:TypeId}{x r:AV}{h':AH}{ux:Value}(ha:Qkr P t x c.h=some (r,h'))(hx:Rel c x ux) :
  ∃y c',(Builtin.clear_ #[t] ty #[ux]).run P c.w = .ok y c'.w/\Ev c c'/\St c'/\c'.h=h'/\Rel c' r y:=by
 unfold Qkr at ha
 have htup:∀c':Cx,Rel c' (.tup []) (.tuple #[]):=fun c'=>.tup [] #[] rfl fun j a u h=>by simp at h
 split at ha
 ·rename_i id
  split at ha
  ·rename_i es hb
   split at ha
   ·rename_i kt et hu
    cases ha
    cases hx with
    |mp _ x hid ho h1 =>
     obtain⟨B,hρ,rfl⟩:=h1.1 _ hb
     obtain⟨B',ents,clock,h2,h3,h4,h5⟩:=hst.blocks id _ hb
     rw[hρ]at h2;cases h2
     have hlt:B<c.w.heap.size:=(Qzs.1 h3).1
     let w':World:={c.w with heap:=c.w.heap.setIfInBounds B (.map #[] clock)}
     have hold:∀k,k≠B->w'.heap[k]? = c.w.heap[k]? := fun k hk=>by simp only[w'];rw[Qz2 (fun e=>hk e.symm)]
     have hnew:w'.heap[B]? = some (.map #[] clock):=by simp only[w'];rw[Qz9 hlt]
     have hev:Ev c (c.turn w' id (.map [])):=Ev.turn hst hb rfl hρ rfl rfl rfl (by simp[w']) hold ⟨_,rfl,rfl⟩
     refine⟨.tuple #[],c.turn w' id (.map []),?_,hev,St.turn hst hb rfl hρ hold hev ⟨B,#[],clock,hρ,hnew,rfl,fun j kv e h6 h7=>by simp at h6⟩,rfl,htup _⟩
     have hm:(getObj B).run P c.w = .ok (.map ents clock) c.w:=by simp[getObj,Sem.run,h3]
     have hs:(setObj B (.map #[] clock)).run P c.w = .ok () w':=by simp[setObj,Sem.run,h3,w']
     simp[Builtin.clear_,underlying,hu,hm,hs]
     rfl
   ·cases ha
  ·cases ha
 ·rename_i id lo len
  split at ha
  ·rename_i e k he
   obtain⟨hu,hsz⟩:=X8 he
   split at ha
   ·rename_i i hi
    split at ha
    ·rename_i z hz
     split at ha
     ·rename_i ty1 s xs hb
      split at ha
      ·rename_i hh
       obtain⟨rfl,rfl,hz1,hl⟩:=hh
       cases ha
       obtain⟨B,cap,cur,hρ,rfl,hlc,hmax,hB,hfit⟩:=QhD (x:=.arr id lo len) rfl hx hb
       by_cases hn:len=0
       ·subst hn
        refine⟨.tuple #[],c,?_,Ev.refl c,hst,?_,htup _⟩
        ·simp[Builtin.clear_,underlying,hu]
        ·rw[List.replicate_zero,QyM,QyI,Qz1]
         exact(set_self hb).symm
       ·have hys:∀y∈List.replicate len (AV.v z),y.cells.length=1:=fun y hy=>by rw[QAn hy];rfl
        have hfit':lo * 1+(List.replicate len z).length<=cur.size:=by
         rw[QAr];omega
        have hst1:=run_storeCells_at P B (lo * 1) ty1 (List.replicate len z) 0 cur c.w hB (by simpa using hfit') (fun v hv=>by rw[QAn hv];exact hz1)
        rw[QyI]at hst1
        obtain⟨k1,k2,k3,k4⟩:=QhG (ys:=List.replicate len (AV.v z)) (news:=List.replicate len z) hst hb hρ hB (by omega) hys (by rw[Qjx,QAr,QAr])
         (fun v hv=>by rw[QAn hv];exact hz1) (fun j a u h1 h2=>by
          rw[Qjx]at h1
          rw[QAn (Qzp h1),QAn (Qzp h2)]
          exact .v z) hfit'
        refine⟨.tuple #[],_,?_,k1,k2,by simp[Cx.turn,QAr],htup _⟩
        have hzr:(zeroValue e).run P c.w = .ok z c.w:=by simp[zeroValue,typeInfo,hi,hz]
        have hzc:=QrU hz1 len
        obtain⟨m,rfl⟩:∃m,len=m+1:=⟨len - 1,by omega⟩
        simp only[Builtin.clear_,Qym,Qyj,Sem.run_bind,underlying,run_program,Result.andThen_ok,hu,Sem.run_pure,hzr,hzc,hst1]
        rfl
      ·cases ha
     ·cases ha
    ·cases ha
   ·cases ha
  ·cases ha
 ·cases ha
def Qaf(P:Program)(t:TypeId)(x k v:AV)(h:AH):Option AH :=
 match QbL P t with
 |some (d,_) =>
  match x,k with
  | .mp id,.v kv=>match h[id]? with
   |some (.map es)=>match updA d kv v es with
    |some es'=>some (h.set id (.map es'))
    |none=>none
   |_=>none
  |_,_=>none
 |none=>none
theorem run_setObj_map{P:Program}{w:World}{r:Nat}{es:Array MapEntry}{k:Nat}{o:Obj}(h:w.heap[r]? = some (.map es k)):(setObj r o).run P w = .ok () {w with heap:=w.heap.setIfInBounds r o}:=by
 simp[setObj,Sem.run,h]
theorem QcV{P:Program}{c:Cx}(hst:St c){t:TypeId}{x k v:AV}{h':AH}{ux uk uv:Value}(ha:Qaf P t x k v c.h=some h')(hx:Rel c x ux)(hk:Rel c k uk)(hv:Rel c v uv) :
  ∃c',(Instr.mapUpdate t ux uk uv).run P c.w = .ok () c'.w/\Ev c c'/\St c'/\c'.h=h':=by
 unfold Qaf at ha
 cases hm:QbL P t with
 |none=>simp[hm]at ha
 |some de =>
  obtain⟨d,e⟩:=de
  obtain⟨kt,hu,hkt,hd⟩:=QfB hm
  simp only[hm]at ha
  split at ha
  ·rename_i id kv
   cases hk
   split at ha
   ·rename_i es hb
    split at ha
    ·rename_i es' hup
     cases ha
     cases hx with
     |mp _ x hid ho h1 =>
      obtain⟨B,hρ,rfl⟩:=h1.1 _ hb
      obtain⟨B',ents,clock,h2,h3,h4,h5⟩:=hst.blocks id _ hb
      rw[hρ]at h2;cases h2
      have hlt:B<c.w.heap.size:=(Qzs.1 h3).1
      have hrm:RelM c es ents.toList:=⟨by simpa using h4,fun j kv e h6 h7=>h5 j kv e h6 (by simpa using h7)⟩
      -- whatever the new entries are
      have fin:∀(ents':Array MapEntry) (clock':Nat),RelM c es' ents'.toList->∃c',({c.w with heap:=c.w.heap.setIfInBounds B (.map ents' clock')}:World)=c'.w/\Ev c c'/\St c'/\c'.h=c.h.set id (.map es'):=by
       intro ents' clock' hr'
       let w':World:={c.w with heap:=c.w.heap.setIfInBounds B (.map ents' clock')}
       have hold:∀k,k≠B->w'.heap[k]? = c.w.heap[k]? := fun k hk=>by simp only[w'];rw[Qz2 (fun e=>hk e.symm)]
       have hnew:w'.heap[B]? = some (.map ents' clock'):=by simp only[w'];rw[Qz9 hlt]
       have hev:Ev c (c.turn w' id (.map es')):=Ev.turn hst hb rfl hρ rfl rfl rfl (by simp[w']) hold ⟨_,rfl,rfl⟩
       refine⟨c.turn w' id (.map es'),rfl,hev,St.turn hst hb rfl hρ hold hev ?_,rfl⟩
       refine⟨B,ents',clock',hρ,hnew,by simpa using hr'.1,fun j kv e h6 h7=>?_⟩
       obtain⟨h8,h9⟩:=hr'.2 j kv e h6 (by simpa using h7)
       exact⟨h8,h9.ev hst hev⟩
      rcases QlT hv clock 0 hrm hup with⟨hf,hr⟩|⟨j,v0,e0,hf,he0,hs,hr⟩
      ·obtain⟨c',h6,h7⟩:=fin (ents.push {key:=uk,val:=uv,born:=clock}) (clock+1) (by simpa using hr)
       refine⟨c',?_,h7⟩
       rw[<-h6]
       simp[Instr.mapUpdate,underlying,hu,run_getObj_map h3,QaV hkt hd,Instr.findKey,hkt,hf,run_setObj_map h3]
      ·obtain⟨c',h6,h7⟩:=fin (ents.modify j fun e=>{e with key:=uk,val:=uv}) clock (by simpa using hr)
       refine⟨c',?_,h7⟩
       rw[<-h6]
       have he0':ents[j]? = some e0:=by simpa using he0
       have hbits:Instr.sameBits 10000 e0.key uk=true:=QlC hs
       rw[Qyv]at hf
       simp[Instr.mapUpdate,underlying,hu,run_getObj_map h3,QaV hkt hd,Instr.findKey,hkt,hf,he0',Instr.keyThatStays,hbits,run_setObj_map h3]
    ·cases ha
   ·cases ha
  ·cases ha
theorem Qeu{P:Program}{c:Cx}(hst:St c)(t:TypeId)(r:Option Value)(hr:∀v,r=some v->(∃k e,P.underlying t=some (.map k e))/\∃q n,v = .int q n) :
  ∃c',(Instr.makeMap t r).run P c.w = .ok (.map (some c.w.heap.size)) c'.w/\Ev c c'/\St c'/\c'.h=c.h++[.map []]/\Rel c' (.mp c.h.length) (.map (some c.w.heap.size)):=by
 have hg:Grows c.w (c.w.alloc (.map #[] 0)):=Grows.alloc _ _
 have ho:∀B,some c.w.heap.size=some B->c.w.heap.size<=B:=fun B h=>by cases h;exact Qzl _
 have hev:=Ev.add hst hg (.map []) (some c.w.heap.size) ho
 have hρ:(c.add (c.w.alloc (.map #[] 0)) (.map []) (some c.w.heap.size)).ρ c.h.length=some c.w.heap.size:=by simp[Cx.add]
 refine⟨c.add (c.w.alloc (.map #[] 0)) (.map []) (some c.w.heap.size),?_,hev,St.add hst hg _ _ ho ?_,rfl,.mp _ _ (by simp[Cx.add]) rfl ⟨fun es _=>⟨_,hρ,rfl⟩,fun i hi=>by simp[Cx.add]at hi,fun s p hi=>by simp[Cx.add]at hi⟩⟩
 ·cases r with
  |none=>rfl
  |some v =>
   obtain⟨⟨k,e,hu⟩,q,n,rfl⟩:=hr v rfl
   simp[Instr.makeMap,underlying,hu,asInt,asIntOf,Cx.add]
 ·exact⟨_,#[],0,hρ,QO _ _,rfl,fun j kv e h=>by simp at h⟩
theorem Qc3{P:Program}{w:World}{r:Nat}{s:ByteArray}{p:Nat}(h:w.heap[r]? = some (.stringIter s p)):(getObj r).run P w = .ok (.stringIter s p) w:=by
 simp[getObj,Sem.run,h]
theorem QhE{P:Program}{w:World}{r:Nat}{s:ByteArray}{p:Nat}{o:Obj}(h:w.heap[r]? = some (.stringIter s p)):(setObj r o).run P w = .ok () {w with heap:=w.heap.setIfInBounds r o}:=by
 simp[setObj,Sem.run,h]
theorem QmK{P:Program}{c:Cx}(hst:St c){t:TypeId}(ht:P.underlying t=some .string)(s:ByteArray) :
  ∃c',(Instr.range t (.string s)).run P c.w = .ok (.pointer (some ⟨c.w.heap.size,0,none⟩)) c'.w/\Ev c c'/\St c'/\c'.h=c.h++[.iter s 0]/\Rel c' (.mp c.h.length) (.pointer (some ⟨c.w.heap.size,0,none⟩)):=by
 have hg:Grows c.w (c.w.alloc (.stringIter s 0)):=Grows.alloc _ _
 have ho:∀B,some c.w.heap.size=some B->c.w.heap.size<=B:=fun B h=>by cases h;exact Qzl _
 have hev:=Ev.add hst hg (.iter s 0) (some c.w.heap.size) ho
 have hρ:(c.add (c.w.alloc (.stringIter s 0)) (.iter s 0) (some c.w.heap.size)).ρ c.h.length=some c.w.heap.size:=by simp[Cx.add]
 refine⟨c.add (c.w.alloc (.stringIter s 0)) (.iter s 0) (some c.w.heap.size),?_,hev,St.add hst hg _ _ ho ?_,rfl,.mp _ _ (by simp[Cx.add]) rfl ⟨fun es hi=>by simp[Cx.add]at hi,fun i hi=>by simp[Cx.add]at hi,fun s' p' _=>⟨_,hρ,rfl⟩⟩⟩
 ·simp[Instr.range,underlying,ht,Cx.add]
 ·exact⟨_,hρ,QO _ _⟩
def QdR(x:AV)(h:AH):Option (AV×AH) :=
 match x with
 | .mp id=>match h[id]? with
  |some (.iter s p)=>if p<s.size then some (.tup [.v (.bool true),.v (goInt p),.v (.int .i32 (Utf8.decode s p).1)],h.set id (.iter s (p+(Utf8.decode s p).2)))else some (.tup [.v (.bool false)],h)
  |_=>none
 |_=>none
theorem QsK{c:Cx}{a:AV}{u:Value}(h1:Rel c a u):Rel c (.tup [a]) (.tuple #[u]):=by
 refine .tup _ _ rfl fun j x y hx hy=>?_
 match j,hx,hy with
 |0,hx,hy=>simp at hx hy;subst hx;subst hy;exact h1
 |j+1,hx,hy=>simp at hx
theorem QsL{c:Cx}{a b d:AV}{u v z:Value}(h1:Rel c a u)(h2:Rel c b v)(h3:Rel c d z):Rel c (.tup [a,b,d]) (.tuple #[u,v,z]):=by
 refine .tup _ _ rfl fun j x y hx hy=>?_
 match j,hx,hy with
 |0,hx,hy=>simp at hx hy;subst hx;subst hy;exact h1
 |1,hx,hy=>simp at hx hy;subst hx;subst hy;exact h2
 |2,hx,hy=>simp at hx hy;subst hx;subst hy;exact h3
 |j+3,hx,hy=>simp at hx
theorem QoG{P:Program}{c:Cx}(hst:St c){x r:AV}{h':AH}{u:Value}(ha:QdR x c.h=some (r,h'))(hx:Rel c x u)(ty:TypeId) :
  ∃y c',(Instr.next u true ty).run P c.w = .ok y c'.w/\Ev c c'/\St c'/\c'.h=h'/\Rel c' r y:=by
 unfold QdR at ha
 split at ha
 ·rename_i id
  split at ha
  ·rename_i s p hb
   cases hx with
   |mp _ x hid ho h1 =>
    obtain⟨B,hρ,rfl⟩:=h1.2.2 _ _ hb
    obtain⟨B',h2,h3⟩:=hst.blocks id _ hb
    rw[hρ]at h2;cases h2
    have hlt:B<c.w.heap.size:=(Qzs.1 h3).1
    split at ha
    ·rename_i hp
     cases ha
     let w':World:={c.w with heap:=c.w.heap.setIfInBounds B (.stringIter s (p+(Utf8.decode s p).2))}
     have hold:∀k,k≠B->w'.heap[k]? = c.w.heap[k]? := fun k hk=>by simp only[w'];rw[Qz2 (fun e=>hk e.symm)]
     have hnew:w'.heap[B]? = some (.stringIter s (p+(Utf8.decode s p).2)):=by simp only[w'];rw[Qz9 hlt]
     have hev:Ev c (c.turn w' id (.iter s (p+(Utf8.decode s p).2))):=Ev.turn hst hb rfl hρ rfl rfl rfl (by simp[w']) hold ⟨_,rfl,rfl⟩
     refine⟨_,c.turn w' id (.iter s (p+(Utf8.decode s p).2)),?_,hev,St.turn hst hb rfl hρ hold hev ⟨B,hρ,hnew⟩,rfl,QsL (.v _) (.v _) (.v _)⟩
     simp[Instr.next,Qc3 h3,hp,QhE h3,Cx.turn,w']
    ·rename_i hp
     cases ha
     refine⟨_,c,?_,Ev.refl c,hst,rfl,QsK (.v _)⟩
     simp[Instr.next,Qc3 h3,hp]
  ·cases ha
 ·cases ha
def intsOf:List AV->Option (List Int)
 |[]=>some []
 | .v (.int .u8 n)::l=>(intsOf l).map (n::·)
 |_=>none
theorem Qk3:∀{l:List AV} {ns:List Int},intsOf l=some ns->l=ns.map fun n=>.v (.int .u8 n)
 |[],ns,h=>by simp only[intsOf,Qyp]at h;subst h;rfl
 |a::l,ns,h=>by
  unfold intsOf at h
  split at h
  ·rename_i h0;cases h0
  ·rename_i n l' h0
   cases h0
   simp only[Qzo]at h
   obtain⟨ms,h1,rfl⟩:=h
   rw[Qk3 h1];rfl
  ·cases h
def QpJ(P:Program)(s d:TypeId):Bool:=match P.underlying s,P.underlying d with
 |some (.slice e),some .string=>(match P.underlying e with|some (.int .u8)=>true|_=>false)
 |_,_=>false
def Qig(P:Program)(s d:TypeId)(x:AV)(h:AH):Option AV:=match QpJ P s d,Qbd 1 h x with
 |true,some ys=>(intsOf ys).map fun ns=>.v (.string (strOfNums ns))
 |_,_=>none
theorem Ql7{P:Program}{c:Cx}(hst:St c){s d:TypeId}{x r:AV}{u:Value}(ha:Qig P s d x c.h=some r)(hx:Rel c x u):∃y,(convert s d u).run P c.w = .ok y c.w/\Rel c r y:=by
 unfold Qig at ha
 split at ha
 ·rename_i ys hb hys
  simp only[Qzo]at ha
  obtain⟨ns,hns,rfl⟩:=ha
  have hyl:=Qk3 hns
  unfold QpJ at hb
  split at hb
  ·rename_i e hs hd
   split at hb
   ·rename_i he
    obtain⟨_,h1|⟨B,o,cap,rfl,hrow,_,_⟩⟩:=QhJ hst hys hx
    ·obtain⟨hu,hnil⟩:=h1
     have hn0:ns=[]:=by rw[hnil]at hns;simpa [intsOf]using hns.symm
     subst hn0
     rcases hu with rfl|⟨ad,rfl⟩
     ·exact⟨_,run_convert_bytes_nil c.w s e hs he 0 0 d hd,.v _⟩
     ·refine⟨.string (strOfNums []),?_,.v _⟩
      rw[run_convert_bytes_string c.w s d e _ 0 0 hs he hd,run_bytesToString c.w ad 0 0 [] (by rfl)]
      rfl
    ·have hlen:ys.length=ns.length:=by rw[hyl,QzJ]
     have hfl:flat ys=ns.map fun n=>AV.v (.int .u8 n):=by
      rw[hyl]
      clear hyl hns hys hrow hx hlen
      induction ns with
      |nil=>rfl
      |cons n ns ih=>simp only[Qyy,QQ,ih];rfl
     refine⟨_,run_convert_bytes_arg c.w s e hs he B o ys.length cap ns hlen.symm (fun i hi=>?_) d hd,.v _⟩
     have hin:i<ns.length:=by omega
     obtain⟨v,h1,_,h3⟩:=hrow i (.v (.int .u8 ns[i])) (by rw[hfl,QzN,Qzg hin];rfl)
     cases h3
     rw[h1,QzQ,Qzg hin];rfl
   ·cases hb
  ·cases hb
 ·cases ha
def Qm1(P:Program)(t:TypeId)(l c:AV)(h:AH):Option (AV×AH) :=
 match l,c with
 | .v (.int _ m),.v (.int _ n)=>match Q3 P t with
  |some (e,k)=>match P.info? e with
   |some i=>match i.zero with
    |some z=>if 0<m/\m=n/\(i.bytes:Int) * n<=281474976710656/\n<=maxLen/\i.size=1/\k=1/\z.oneCell'=true then some (.arr h.length 0 m.toNat,h++[.cells e 1 (List.replicate m.toNat (.v z))])else none
    |none=>none
   |none=>none
  |none=>none
 |_,_=>none
theorem QqV{z:Value}(h:z.oneCell'=true):z.cells=#[z]:=by
 cases z <;> first|rfl|cases h
theorem QdJ(z:Value):∀n:Nat,flat (List.replicate n (AV.v z))=List.replicate n (AV.v z)
 |0=>rfl
 |n+1=>by rw[List.replicate_succ,QQ,QdJ z n];rfl
theorem Qmz{P:Program}{c:Cx}(hst:St c){t:TypeId}{l n r:AV}{h':AH}{ul un:Value}(ha:Qm1 P t l n c.h=some (r,h'))(hl:Rel c l ul)(hn:Rel c n un) :
  ∃y c',(Instr.makeSlice t ul un).run P c.w = .ok y c'.w/\Ev c c'/\St c'/\c'.h=h'/\Rel c' r y:=by
 unfold Qm1 at ha
 split at ha
 ·rename_i q1 m q2 n
  cases hl;cases hn
  split at ha
  ·rename_i e k he
   obtain⟨hu,hsz⟩:=X8 he
   split at ha
   ·rename_i i hi
    split at ha
    ·rename_i z hz
     split at ha
     ·rename_i hh
      obtain⟨h0,rfl,hb,hm,h1,rfl,hz1⟩:=hh
      cases ha
      have h63:m<=9223372036854775807:=by simp only[maxLen]at hm;omega
      have hrun:=run_make (P:=P) c.w t e i z hu hi hz q1 q2 m m (by omega) (Int.le_refl _) hb h63
      rw[h1,QA3,QqV hz1]at hrun
      have hg:Grows c.w (c.w.alloc (.cells (madeCells #[z] m.toNat) e)):=Grows.alloc _ _
      have ho:∀B,some c.w.heap.size=some B->c.w.heap.size<=B:=fun B h=>by cases h;exact Qzl _
      have hev:=Ev.add hst hg (.cells e 1 (List.replicate m.toNat (.v z))) (some c.w.heap.size) ho
      have hρ:(c.add (c.w.alloc (.cells (madeCells #[z] m.toNat) e)) (.cells e 1 (List.replicate m.toNat (.v z))) (some c.w.heap.size)).ρ c.h.length=some c.w.heap.size:=by simp[Cx.add]
      have hheap:(c.w.alloc (.cells (madeCells #[z] m.toNat) e)).heap[c.w.heap.size]? = some (.cells (madeCells #[z] m.toNat) e (0,0)):=QO c.w _
      have hst':=St.add hst hg (.cells e 1 (List.replicate m.toNat (.v z))) (some c.w.heap.size) ho ⟨_,_,hρ,hheap,fun x hx=>by rw[QAn hx];rfl,fun j a ha=>by
       rw[QdJ]at ha
       have hlt:=Qf ha
       rw[QAr]at hlt
       have e1:a = .v z:=QAn (Qzp ha)
       subst e1
       refine⟨z,?_,hz1,.v z⟩
       rw[<-QAd,toList_madeCells_one,QAE,Qzh hlt]⟩
      refine⟨_,_,hrun,hev,hst',rfl,.arr _ _ _ _ (by simp[Cx.add]) rfl fun ty s xs hg2=>?_⟩
      simp[Cx.add]at hg2
      obtain⟨rfl,rfl,rfl⟩:=hg2
      refine⟨_,m.toNat,hρ,by simp,Qzl _,by simp only[maxLen]at hm ⊢;omega,_,hheap,by rw[size_madeCells];omega⟩
     ·cases ha
    ·cases ha
   ·cases ha
  ·cases ha
 ·cases ha
def QrK(P:Program)(t:TypeId):Bool:=match P.underlying t with|some (.map _ _)=>true|_=>false
def aop(P:Program)(ev:Operand->AV)(ty:TypeId)(h:AH):Op->Option (AV×AH)
 | .move x | .assign x=>some (ev x,h)
 | .pick c a b=>match ev c with
  | .v (.bool t)=>some (if t then ev a else ev b,h)
  |_=>none
 | .alloc t=>match Xi P t with
  |some z=>if z.Qxu=true then some (.ptr h.length 0 0,h++[.cells t z.cells.length [z]])else none
  |none=>none
 | .box t x=>if (ev x).Qxu=true then some (.ptr h.length 0 0,h++[.cells t (ev x).cells.length [ev x]])else none
 | .build t parts=>(Qif P t (parts.toList.map fun p=>(p.1,ev p.2))).map (·,h)
 | .buildSlice t len parts=>QT P t len (parts.toList.map fun p=>(p.1,ev p.2)) h
 | .load t a=>(Xt P t (ev a) h).map (·,h)
 | .store t a x=>(Zt P t (ev a) (ev x) h).map (.v undef,·)
 | .binOp op t x y _=>(aBin P op t x y (ev x) (ev y) h).map (·,h)
 | .unOp op _ x=>match ev x with
  | .v a=>(pv P (Op.unary op a)).map (.v ·,h)
  |_=>none
 | .convert s d x=>match ev x with
  | .v a=>(pv P (convert s d a)).map (.v ·,h)
  | .ptr id k off=>(QbH P s d id k off h).map (·,h)
  |y=>(Qig P s d y h).map (·,h)
 | .makeFunc f a b=>some (.fn f (a.toList.map ev) (b.toList.map ev),h)
 | .makeInterface t x=>match P.underlying t with
  |some (.interface _)=>none
  |some _=>some (.ifc t (ev x),h)
  |none=>none
 | .makeMap t r=>match r.map ev with
  |none=>some (.mp h.length,h++[.map []])
  |some (.v (.int _ _))=>if QrK P t then some (.mp h.length,h++[.map []])else none
  |_=>none
 | .makeSlice t l c=>match QrZ P t (ev l) (ev c) h with
  |some x=>some x
  |none=>Qm1 P t (ev l) (ev c) h
 | .slice t x lo hi mx=>match mx with
  |none=>(QbO P t (ev x) (lo.map ev) (hi.map ev) h).map (·,h)
  |some m=>Qi8 P t (ev x) (lo.map ev) (hi.map ev) (some (ev m)) h
 | .fieldAddr t x i=>(Qm P t (ev x) i h).map (·,h)
 | .field t x i=>(Qm0 P t (ev x) i).map (·,h)
 | .indexAddr t x i=>(QM P t (ev x) (ev i) h).map (·,h)
 | .index t x i=>match ev x,ev i with
  | .v a,.v b=>(pv P (Instr.index t a b)).map (.v ·,h)
  |_,_=>none
 | .lookup t x k ok=>(Qbl P t (ev x) (ev k) ok h).map (·,h)
 | .mapUpdate t m k x=>(Qaf P t (ev m) (ev k) (ev x) h).map (.v undef,·)
 | .insert t m k x=>(Qaf P t (ev m) (ev k) (ev x) h).map (.v undef,·)
 | .extract t i=>(Qbg (ev t) i).map (·,h)
 | .nilCheck x=>if QR h (ev x)=true then some (ev x,h)else none
 | .typeAssert x xt t ok=>(Qi6 P (ev x) xt t ok).map (·,h)
 | .range t x=>match P.underlying t,ev x with
  |some .string,.v (.string s)=>some (.mp h.length,h++[.iter s 0])
  |_,_=>none
 | .next it true=>QdR (ev it) h
 | .call c=>match c.callee with
  | .builtin .len=>match c.args.toList,c.argTypes.toList with
   |[x],[t]=>(aLen P t ty (ev x) h).map (·,h)
   |_,_=>none
  | .builtin .append=>match c.args.toList,c.argTypes.toList with
   |[x,y],[t,u]=>QbG P t u (ev x) (ev y) h
   |_,_=>none
  | .builtin .cap=>match c.args.toList,c.argTypes.toList with
   |[x],[t]=>(aCap P t ty (ev x) h).map (·,h)
   |_,_=>none
  | .builtin .unsafeSliceData=>match c.args.toList with
   |[x]=>(QbP (ev x)).map (·,h)
   |_=>none
  | .builtin .unsafeString=>match c.args.toList,c.argTypes.toList with
   |[x,y],[t,_]=>ZF P t (ev x) (ev y) h
   |_,_=>none
  | .builtin .copy=>match c.args.toList,c.argTypes.toList with
   |[x,y],[t,_]=>QtE P t (ev x) (ev y) h
   |_,_=>none
  | .builtin .clear=>match c.args.toList,c.argTypes.toList with
   |[x],[t]=>Qkr P t (ev x) h
   |_,_=>none
  | .builtin .min=>match c.args.toList.map ev with
   |[.v a,.v b]=>(pv P (Builtin.min_ c.argTypes ty #[a,b])).map (.v ·,h)
   |_=>none
  | .builtin .max=>match c.args.toList.map ev with
   |[.v a,.v b]=>(pv P (Builtin.max_ c.argTypes ty #[a,b])).map (.v ·,h)
   |_=>none
  |_=>none
 |_=>none
def Qas(P:Program)(o:Oper)(ρ:Operand->Value)(c:Cx)(r:AV)(h':AH):Prop :=
 ∃c',Ev c c'/\St c'/\c'.h=h'/\((∃x,(execOp ρ o).run P c.w = .ok (.value x) c'.w/\Rel c' r x)\/((execOp ρ o).run P c.w = .ok .skip c'.w/\Rel c' r undef))
theorem Qas.pure{P:Program}{o:Oper}{ρ:Operand->Value}{c:Cx}(hst:St c){r:AV}{x:Value}(hrun:(execOp ρ o).run P c.w = .ok (.value x) c.w)(hr:Rel c r x):Qas P o ρ c r c.h :=
 ⟨c,Ev.refl c,hst,rfl,.inl ⟨x,hrun,hr⟩⟩
theorem Qdq{c:Cx}{ev:Operand->AV}{ρ:Operand->Value}(hev:∀x,Rel c (ev x) (ρ x))(parts:Array (Nat×Operand)) :
  (parts.toList.map fun p=>(p.1,ev p.2)).map (·.1)=(parts.map fun(i,x)=>(i,ρ x)).toList.map (·.1) /\
  RelL c ((parts.toList.map fun p=>(p.1,ev p.2)).map (·.2)) ((parts.map fun(i,x)=>(i,ρ x)).toList.map (·.2)).toArray:=by
 refine⟨by simp,by simp,fun j a u ha hu=>?_⟩
 simp only[QAu,QzN,Qzo,QAd]at ha
 obtain⟨p,hp,rfl⟩:=ha
 simp[hp]at hu
 subst hu
 exact hev p.2
theorem Qj0{c:Cx}{ev:Operand->AV}{ρ:Operand->Value}(hev:∀x,Rel c (ev x) (ρ x))(xs:Array Operand):RelL c (xs.toList.map ev) (xs.map ρ):=by
 refine⟨by simp,fun j a u ha hu=>?_⟩
 simp only[QzN,Qzo,QAd]at ha
 obtain⟨p,hp,rfl⟩:=ha
 simp[hp]at hu
 subst hu
 exact hev p
theorem QeG{c:Cx}{ev:Operand->AV}{ρ:Operand->Value}(hev:∀x,Rel c (ev x) (ρ x))(x:Option Operand):RelO c (x.map ev) (x.map ρ):=by
 cases x with
 |none=>trivial
 |some x=>exact hev x
theorem QaR{α:Type}{a:Array α}{x y:α}(h:a.toList=[x,y]):a=#[x,y]:=by
 apply Array.ext';simpa using h
theorem Qcl{α:Type}{a:Array α}{x:α}(h:a.toList=[x]):a=#[x]:=by
 apply Array.ext';simpa using h
theorem Qpu{P:Program}{o:Oper}{c:Cx}(hst:St c){ev:Operand->AV}{ρ:Operand->Value}(hev:∀x,Rel c (ev x) (ρ x)){r:AV}{h':AH}(ha:aop P ev o.type c.h o.op=some (r,h')):Qas P o ρ c r h':=by
 have val:∀{x:Value} {s:Sem Value},execOp ρ o=(do pure (.value (<-s)))->s.run P c.w = .ok x c.w->(execOp ρ o).run P c.w = .ok (.value x) c.w:=by
  intro x s h1 h2;rw[h1];simp[h2]
 have val':∀{x:Value} {s:Sem Value} {w:World},execOp ρ o=(do pure (.value (<-s)))->s.run P c.w = .ok x w->(execOp ρ o).run P c.w = .ok (.value x) w:=by
  intro x s w h1 h2;rw[h1];simp[h2]
 have unit':∀{s:Sem Unit} {w:World},execOp ρ o=(do s;pure .skip)->s.run P c.w = .ok () w->(execOp ρ o).run P c.w = .ok .skip w:=by
  intro s w h1 h2;rw[h1];simp[h2]
 cases hop:o.op with
 |move x=>simp only[aop,hop]at ha;cases ha;exact Qas.pure hst (x:=ρ x) (by simp[execOp,hop]) (hev x)
 |assign x=>simp only[aop,hop]at ha;cases ha;exact Qas.pure hst (x:=ρ x) (by simp[execOp,hop]) (hev x)
 |pick q a b =>
  simp only[aop,hop]at ha
  split at ha
  ·rename_i t hq
   cases ha
   have h1:=hev q
   rw[hq]at h1
   generalize hu:ρ q=u at h1
   cases h1
   refine Qas.pure hst (x:=if t then ρ a else ρ b) (by simp[execOp,hop,hu,asBool]) ?_
   cases t
   ·exact hev b
   ·exact hev a
  ·cases ha
 |alloc t =>
  simp only[aop,hop]at ha
  split at ha
  ·rename_i z hz
   split at ha
   ·rename_i h1
    cases ha
    obtain⟨c',hrun,h2,h3,h4,h5⟩:=Ql4 (P:=P) hst hz h1
    exact⟨c',h2,h3,h4,.inl ⟨_,val' (by simp[execOp,hop]) hrun,h5⟩⟩
   ·cases ha
  ·cases ha
 |box t x =>
  simp only[aop,hop]at ha
  split at ha
  ·rename_i h1
   cases ha
   obtain⟨c',hrun,h2,h3,h4,h5⟩:=QkF (P:=P) (ty:=t) hst (hev x) h1
   exact⟨c',h2,h3,h4,.inl ⟨_,val' (by simp[execOp,hop]) hrun,h5⟩⟩
  ·cases ha
 |build t parts =>
  simp only[aop,hop,Qzo]at ha
  obtain⟨a,ha,he⟩:=ha
  cases he
  obtain⟨h1,h2⟩:=Qdq hev parts
  obtain⟨y,hrun,hr⟩:=Ql5 ha h1 h2
  exact Qas.pure hst (val (by simp[execOp,hop]) hrun) hr
 |buildSlice t len parts =>
  simp only[aop,hop]at ha
  obtain⟨h1,h2⟩:=Qdq hev parts
  obtain⟨y,c',hrun,h3,h4,h5,h6⟩:=QfQ hst ha h1 h2
  exact⟨c',h3,h4,h5,.inl ⟨_,val' (by simp[execOp,hop]) hrun,h6⟩⟩
 |load t a =>
  simp only[aop,hop,Qzo]at ha
  obtain⟨x,ha,he⟩:=ha
  cases he
  obtain⟨y,hrun,hr⟩:=Qgp hst ha (hev a)
  exact Qas.pure hst (val (by simp[execOp,hop]) hrun) hr
 |store t a x =>
  simp only[aop,hop,Qzo]at ha
  obtain⟨h2,ha,he⟩:=ha
  cases he
  obtain⟨c',hrun,h3,h4,h5⟩:=Qkt hst ha (hev a) (hev x)
  exact⟨c',h3,h4,h5,.inr ⟨unit' (by simp[execOp,hop]) hrun,.v _⟩⟩
 |binOp op t x y yt =>
  simp only[aop,hop,Qzo]at ha
  obtain⟨a,ha,he⟩:=ha
  cases he
  obtain⟨z,hrun,hr⟩:=QpG hst ha (hev x) (hev y)
  exact Qas.pure hst (val (by simp[execOp,hop]) hrun) hr
 |nilCheck x =>
  simp only[aop,hop]at ha
  split at ha
  ·rename_i hn
   cases ha
   obtain⟨a,hu⟩:=QjO hn (hev x)
   exact Qas.pure hst (x:=ρ x) (by simp[execOp,hop,hu]) (hev x)
  ·cases ha
 |typeAssert x xt t ok =>
  simp only[aop,hop,Qzo]at ha
  obtain⟨y,ha,he⟩:=ha
  cases he
  obtain⟨z,hrun,hr⟩:=QkA (P:=P) (c:=c) (xt:=xt) ha (hev x)
  exact Qas.pure hst (val (by simp[execOp,hop]) hrun) hr
 |range t x =>
  simp only[aop,hop]at ha
  split at ha
  ·rename_i s ht hx
   cases ha
   have h1:=hev x
   rw[hx]at h1
   generalize hu:ρ x=u at h1
   cases h1
   obtain⟨c',hrun,h3,h4,h5,h6⟩:=QmK (P:=P) hst ht s
   exact⟨c',h3,h4,h5,.inl ⟨_,val' (by simp[execOp,hop,hu]) hrun,h6⟩⟩
  ·cases ha
 |next it b =>
  cases b with
  |false=>simp[aop,hop]at ha
  |true =>
   simp only[aop,hop]at ha
   obtain⟨y,c',hrun,h3,h4,h5,h6⟩:=QoG (P:=P) hst ha (hev it) o.type
   exact⟨c',h3,h4,h5,.inl ⟨_,val' (by simp[execOp,hop]) hrun,h6⟩⟩
 |unOp op t x =>
  simp only[aop,hop]at ha
  split at ha
  ·rename_i a hx
   simp only[Qzo]at ha
   obtain⟨y,ha,he⟩:=ha
   cases he
   have h1:=hev x
   rw[hx]at h1
   generalize hu:ρ x=u at h1
   cases h1
   exact Qas.pure hst (val (by simp[execOp,hop,hu]) (QbE ha _)) (.v _)
  ·cases ha
 |convert s d x =>
  simp only[aop,hop]at ha
  split at ha
  ·rename_i a hx
   simp only[Qzo]at ha
   obtain⟨y,ha,he⟩:=ha
   cases he
   have h1:=hev x
   rw[hx]at h1
   generalize hu:ρ x=u at h1
   cases h1
   exact Qas.pure hst (val (by simp[execOp,hop,hu]) (QbE ha _)) (.v _)
  ·rename_i id k off hx
   simp only[Qzo]at ha
   obtain⟨y,ha,he⟩:=ha
   cases he
   have h1:=hev x
   rw[hx]at h1
   obtain⟨z,hrun,hr⟩:=QlS (P:=P) hst ha h1
   exact Qas.pure hst (val (by simp[execOp,hop]) hrun) hr
  ·simp only[Qzo]at ha
   obtain⟨y,ha,he⟩:=ha
   cases he
   obtain⟨z,hrun,hr⟩:=Ql7 (P:=P) hst ha (hev x)
   exact Qas.pure hst (val (by simp[execOp,hop]) hrun) hr
 |makeFunc f a b =>
  simp only[aop,hop]at ha
  cases ha
  have h1:=Qj0 hev a
  have h2:=Qj0 hev b
  exact Qas.pure hst (x:=.func f (a.map ρ) (b.map ρ)) (by simp[execOp,hop,Instr.makeFunc]) (.fn f _ _ _ _ h1.1 h2.1 h1.2 h2.2)
 |makeInterface t x =>
  simp only[aop,hop]at ha
  split at ha
  ·cases ha
  ·rename_i d hd hu
   cases ha
   refine Qas.pure hst (x:=.iface t (ρ x)) (val (s:=Instr.makeInterface t (ρ x)) (by simp[execOp,hop]) ?_) (.ifc t _ _ (hev x))
   cases d <;> first|(exact(hd _ rfl).elim)|simp[Instr.makeInterface,underlying,hu]
  ·cases ha
 |makeMap t r =>
  simp only[aop,hop]at ha
  split at ha
  ·rename_i hr
   cases ha
   cases r with
   |none =>
    obtain⟨c',hrun,h2,h3,h4,h5⟩:=Qeu (P:=P) hst t none (fun v h=>by cases h)
    exact⟨c',h2,h3,h4,.inl ⟨_,val' (by simp[execOp,hop]) hrun,h5⟩⟩
   |some x=>simp at hr
  ·rename_i q n hr
   split at ha
   ·rename_i hm
    cases ha
    cases r with
    |none=>simp at hr
    |some x =>
     simp only[Qyl,Qyp]at hr
     have h1:=hev x
     rw[hr]at h1
     generalize hu:ρ x=u at h1
     cases h1
     obtain⟨c',hrun,h2,h3,h4,h5⟩:=Qeu (P:=P) hst t (some (.int q n)) (fun v h=>by
      cases h
      refine⟨?_,q,n,rfl⟩
      unfold QrK at hm
      split at hm
      ·rename_i k e hu';exact⟨k,e,hu'⟩
      ·cases hm)
     exact⟨c',h2,h3,h4,.inl ⟨_,val' (by simp[execOp,hop,hu]) hrun,h5⟩⟩
   ·cases ha
  ·cases ha
 |makeSlice t l n =>
  simp only[aop,hop]at ha
  split at ha
  ·rename_i x hm
   cases ha
   obtain⟨y,c',hrun,h2,h3,h4,h5⟩:=QoA hst hm (hev l) (hev n)
   exact⟨c',h2,h3,h4,.inl ⟨_,val' (by simp[execOp,hop]) hrun,h5⟩⟩
  ·obtain⟨y,c',hrun,h2,h3,h4,h5⟩:=Qmz hst ha (hev l) (hev n)
   exact⟨c',h2,h3,h4,.inl ⟨_,val' (by simp[execOp,hop]) hrun,h5⟩⟩
 |slice t x lo hi mx =>
  simp only[aop,hop]at ha
  cases mx with
  |some m =>
   simp only at ha
   obtain⟨y,c',hrun,h2,h3,h4,h5⟩:=QlJ hst ha (hev x) (QeG hev lo) (QeG hev hi) (QeG hev (some m))
   exact⟨c',h2,h3,h4,.inl ⟨_,val' (by simp[execOp,hop]) hrun,h5⟩⟩
  |none =>
   simp only[Qzo]at ha
   obtain⟨y,ha,he⟩:=ha
   cases he
   obtain⟨y,hrun,hr⟩:=QmQ hst ha (hev x) (QeG hev lo) (QeG hev hi)
   exact Qas.pure hst (val (by simp[execOp,hop]) hrun) hr
 |fieldAddr t x i =>
  simp only[aop,hop,Qzo]at ha
  obtain⟨y,ha,he⟩:=ha
  cases he
  obtain⟨y,hrun,hr⟩:=QgW ha (hev x)
  exact Qas.pure hst (val (by simp[execOp,hop]) hrun) hr
 |field t x i =>
  simp only[aop,hop,Qzo]at ha
  obtain⟨y,ha,he⟩:=ha
  cases he
  obtain⟨y,hrun,hr⟩:=Qmh ha (hev x)
  exact Qas.pure hst (val (by simp[execOp,hop]) hrun) hr
 |indexAddr t x i =>
  simp only[aop,hop,Qzo]at ha
  obtain⟨y,ha,he⟩:=ha
  cases he
  obtain⟨y,hrun,hr⟩:=Qg8 ha (hev x) (hev i)
  exact Qas.pure hst (val (by simp[execOp,hop]) hrun) hr
 |index t x i =>
  simp only[aop,hop]at ha
  split at ha
  ·rename_i a b hx hi
   simp only[Qzo]at ha
   obtain⟨y,ha,he⟩:=ha
   cases he
   have h1:=hev x
   rw[hx]at h1
   have h2:=hev i
   rw[hi]at h2
   generalize hu:ρ x=u at h1
   generalize hu2:ρ i=u2 at h2
   cases h1;cases h2
   exact Qas.pure hst (val (by simp[execOp,hop,hu,hu2]) (QbE ha _)) (.v _)
  ·cases ha
 |lookup t x k ok =>
  simp only[aop,hop,Qzo]at ha
  obtain⟨y,ha,he⟩:=ha
  cases he
  obtain⟨y,hrun,hr⟩:=Qld hst ha (hev x) (hev k)
  exact Qas.pure hst (val (by simp[execOp,hop]) hrun) hr
 |mapUpdate t m k x =>
  simp only[aop,hop,Qzo]at ha
  obtain⟨h2,ha,he⟩:=ha
  cases he
  obtain⟨c',hrun,h3,h4,h5⟩:=QcV hst ha (hev m) (hev k) (hev x)
  exact⟨c',h3,h4,h5,.inr ⟨unit' (by simp[execOp,hop]) hrun,.v _⟩⟩
 |insert t m k x =>
  simp only[aop,hop,Qzo]at ha
  obtain⟨h2,ha,he⟩:=ha
  cases he
  obtain⟨c',hrun,h3,h4,h5⟩:=QcV hst ha (hev m) (hev k) (hev x)
  exact⟨c',h3,h4,h5,.inr ⟨unit' (by simp[execOp,hop]) hrun,.v _⟩⟩
 |extract t i =>
  simp only[aop,hop,Qzo]at ha
  obtain⟨y,ha,he⟩:=ha
  cases he
  obtain⟨y,hrun,hr⟩:=Qjt ha (hev t)
  exact Qas.pure hst (val (by simp[execOp,hop]) hrun) hr
 |call q =>
  obtain⟨callee,args,argTypes⟩:=q
  cases callee with
  |builtin b =>
   cases b <;> simp only[aop,hop]at ha <;> try (cases ha;done)
   case append =>
    split at ha
    ·rename_i x y t u hx ht
     have e1:=QaR hx
     have e2:=QaR ht
     subst e1;subst e2
     obtain⟨y,c',hrun,h3,h4,h5,h6⟩:=Qky (ty:=o.type) hst ha (hev x) (hev y)
     exact⟨c',h3,h4,h5,.inl ⟨y,by simp[execOp,hop,resolve,invoke,builtin,hrun],h6⟩⟩
    ·cases ha
   case cap =>
    split at ha
    ·rename_i x t hx ht
     simp only[Qzo]at ha
     obtain⟨z,ha,he⟩:=ha
     cases he
     have e1:=Qcl hx
     have e2:=Qcl ht
     subst e1;subst e2
     obtain⟨y,hrun,hr⟩:=QpK (ty:=o.type) ha (hev x)
     exact Qas.pure hst (x:=y) (by simp[execOp,hop,resolve,invoke,builtin,hrun]) hr
    ·cases ha
   case copy =>
    split at ha
    ·rename_i x y t u hx ht
     have e1:=QaR hx
     have e2:=QaR ht
     subst e1;subst e2
     obtain⟨z,c',hrun,h3,h4,h5,h6⟩:=Qoe (t':=u) (ty:=o.type) hst ha (hev x) (hev y)
     exact⟨c',h3,h4,h5,.inl ⟨z,by simp[execOp,hop,resolve,invoke,builtin,hrun],h6⟩⟩
    ·cases ha
   case clear =>
    split at ha
    ·rename_i x t hx ht
     have e1:=Qcl hx
     have e2:=Qcl ht
     subst e1;subst e2
     obtain⟨z,c',hrun,h3,h4,h5,h6⟩:=Ql9 (ty:=o.type) hst ha (hev x)
     exact⟨c',h3,h4,h5,.inl ⟨z,by simp[execOp,hop,resolve,invoke,builtin,hrun],h6⟩⟩
    ·cases ha
   case len =>
    split at ha
    ·rename_i x t hx ht
     simp only[Qzo]at ha
     obtain⟨y,ha,he⟩:=ha
     cases he
     have e1:=Qcl hx
     have e2:=Qcl ht
     subst e1;subst e2
     obtain⟨y,hrun,hr⟩:=QqA hst ha (hev x)
     exact Qas.pure hst (by simp[execOp,hop,resolve,invoke,builtin,hrun]) hr
    ·cases ha
   case max =>
    split at ha
    ·rename_i a b hab
     simp only[Qzo]at ha
     obtain⟨y,ha,he⟩:=ha
     cases he
     obtain⟨x,y',hx⟩:∃x y',args.toList=[x,y']:=by
      have:=QzP List.length hab
      simp at this
      match hl:args.toList with
      |[x,y']=>exact⟨x,y',rfl⟩
      |[]=>rw[hl]at hab;simp at hab
      |[_]=>rw[hl]at hab;simp at hab
      |_::_::_::_=>rw[hl]at hab;simp at hab
     rw[hx]at hab
     simp only[Qyy,QyC,List.cons.injEq,QyT]at hab
     have e1:=QaR hx
     subst e1
     have h1:=hev x
     have h2:=hev y'
     rw[hab.1]at h1
     rw[hab.2]at h2
     generalize hu:ρ x=u at h1
     generalize hu2:ρ y'=u2 at h2
     cases h1;cases h2
     exact Qas.pure hst (by simp[execOp,hop,resolve,invoke,builtin,hu,hu2,QbE ha]) (.v _)
    ·cases ha
   case min =>
    split at ha
    ·rename_i a b hab
     simp only[Qzo]at ha
     obtain⟨y,ha,he⟩:=ha
     cases he
     obtain⟨x,y',hx⟩:∃x y',args.toList=[x,y']:=by
      match hl:args.toList with
      |[x,y']=>exact⟨x,y',rfl⟩
      |[]=>rw[hl]at hab;simp at hab
      |[_]=>rw[hl]at hab;simp at hab
      |_::_::_::_=>rw[hl]at hab;simp at hab
     rw[hx]at hab
     simp only[Qyy,QyC,List.cons.injEq,QyT]at hab
     have e1:=QaR hx
     subst e1
     have h1:=hev x
     have h2:=hev y'
     rw[hab.1]at h1
     rw[hab.2]at h2
     generalize hu:ρ x=u at h1
     generalize hu2:ρ y'=u2 at h2
     cases h1;cases h2
     exact Qas.pure hst (by simp[execOp,hop,resolve,invoke,builtin,hu,hu2,QbE ha]) (.v _)
    ·cases ha
   case unsafeSliceData =>
    split at ha
    ·rename_i x hx
     simp only[Qzo]at ha
     obtain⟨y,ha,he⟩:=ha
     cases he
     have e1:=Qcl hx
     subst e1
     obtain⟨y,hrun,hr⟩:=QhH (P:=P) (c:=c) (ts:=argTypes) (ty:=o.type) ha (hev x)
     exact Qas.pure hst (by simp[execOp,hop,resolve,invoke,builtin,hrun]) hr
    ·cases ha
   case unsafeString =>
    split at ha
    ·rename_i x y t u hx ht
     have e1:=QaR hx
     have e2:=QaR ht
     subst e1;subst e2
     obtain⟨y,c',hrun,h3,h4,h5,h6⟩:=QeW (it:=u) (ty:=o.type) hst ha (hev x) (hev y)
     exact⟨c',h3,h4,h5,.inl ⟨y,by simp[execOp,hop,resolve,invoke,builtin,hrun],h6⟩⟩
    ·cases ha
  |value f=>simp only[aop,hop]at ha;cases ha
  |invoke a b=>simp only[aop,hop]at ha;cases ha
 |_=>simp only[aop,hop]at ha;cases ha
def aopR(P:Program)(ev:Operand->AV)(h:AH):Op->Option (AV×AH)
 | .call c=>match c.callee with
  | .builtin .append=>match c.args.toList,c.argTypes.toList with
   |[x,y],[t,u]=>match ev y with
    | .v (.int _ k)=>match ev x with
     | .v (.slice none 0 0)=>Qgm P t u k h
     |s=>Qi5 P t u s k h
    | .v (.string str)=>Qda P t u (ev x) str h
    |z=>match ev x with
     | .arr id lo len=>Qc9 P t u id lo len z h
     |s=>Qd7 P t u s z h
   |_,_=>none
  |_=>none
 |_=>none
theorem Qn3{P:Program}{o:Oper}{c:Cx}(hst:St c){ev:Operand->AV}{ρ:Operand->Value}(hev:∀x,Rel c (ev x) (ρ x)){r:AV}{h':AH}(ha:aopR P ev c.h o.op=some (r,h')):Qas P o ρ c r h':=by
 cases hop:o.op with
 |call q =>
  obtain⟨callee,args,argTypes⟩:=q
  cases callee with
  |builtin b =>
   cases b <;> simp only[aopR,hop]at ha <;> try (cases ha;done)
   case append =>
    split at ha
    ·rename_i x y t u hx ht
     have e1:=QaR hx
     have e2:=QaR ht
     subst e1;subst e2
     split at ha
     ·rename_i q k hy
      have h1:=hev y
      rw[hy]at h1
      generalize hu:ρ y=uy at h1
      cases h1
      split at ha
      ·rename_i hx0
       have h2:=hev x
       rw[hx0]at h2
       generalize hu2:ρ x=ux at h2
       cases h2
       obtain⟨z,c',hrun,h3,h4,h5,h6⟩:=QhX (ty:=o.type) (q:=q) hst ha
       exact⟨c',h3,h4,h5,.inl ⟨z,by simp[execOp,hop,resolve,invoke,builtin,hu,hu2,hrun],h6⟩⟩
      ·obtain⟨z,c',hrun,h3,h4,h5,h6⟩:=Qjc (ty:=o.type) (q:=q) hst ha (hev x)
       exact⟨c',h3,h4,h5,.inl ⟨z,by simp[execOp,hop,resolve,invoke,builtin,hu,hrun],h6⟩⟩
     ·rename_i str hy
      have h1:=hev y
      rw[hy]at h1
      generalize hu:ρ y=uy at h1
      cases h1
      obtain⟨z,c',hrun,h3,h4,h5,h6⟩:=Qjb (ty:=o.type) hst ha (hev x)
      exact⟨c',h3,h4,h5,.inl ⟨z,by simp[execOp,hop,resolve,invoke,builtin,hu,hrun],h6⟩⟩
     ·split at ha
      ·rename_i hx0
       obtain⟨y,c',hrun,h3,h4,h5,h6⟩:=Qja (ty:=o.type) hst ha (hx0▸hev x) (hev y)
       exact⟨c',h3,h4,h5,.inl ⟨y,by simp[execOp,hop,resolve,invoke,builtin,hrun],h6⟩⟩
      ·obtain⟨y,c',hrun,h3,h4,h5,h6⟩:=Qcb (ty:=o.type) hst ha (hev x) (hev y)
       exact⟨c',h3,h4,h5,.inl ⟨y,by simp[execOp,hop,resolve,invoke,builtin,hrun],h6⟩⟩
    ·cases ha
  |_=>simp[aopR,hop]at ha
 |_=>simp[aopR,hop]at ha
def Qn(ops:Array Oper)(tm:Nat->AV)(o:Oper):Option Bool :=
 match o.guard with
 |none=>some true
 |some (j,want)=>match (ops[j]?).bind (·.dst)with
  |some d=>match tm d with
   | .v (.bool b)=>some (b==want)
   | .v _=>some false
   |_=>none
  |none=>some false
theorem Q7{N:Nat}{base:Bs×Fence}{c:Cx}{s:AS}{a:Act}(hr:SR N base c s a){ops:Array Oper}{o:Oper}{b:Bool}(h:Qn ops s.tm o=some b):Region.wanted o (yielded ops a.tmps)=b:=by
 unfold Qn at h
 unfold Region.wanted yielded
 cases hg:o.guard with
 |none=>simp only[hg]at h;cases h;rfl
 |some jw =>
  obtain⟨j,want⟩:=jw
  simp only[hg]at h ⊢
  cases hd:(ops[j]?).bind (·.dst)with
  |none=>simp only[hd]at h;cases h;rfl
  |some d =>
   simp only[hd,Qyo]at h ⊢
   have h1:=hr.tm d
   rw[Qzr]at h1
   cases ht:s.tm d with
   |v x =>
    rw[ht]at h1
    simp only[ht]at h
    cases hx:a.tmps[d]? with
    |none =>
     rw[hx]at h1
     simp only[Option.getD_none]at h1
     have hxu:x=undef:=by generalize hu:undef=u at h1;cases h1;rfl
     subst hxu
     simp only[undef]at h
     cases h
     rfl
    |some y =>
     rw[hx]at h1
     simp only[QA6]at h1
     have hxu:x=y:=by cases h1;rfl
     subst hxu
     cases x <;> simp only[Qyp]at h <;> subst h <;> rfl
   |_=>simp only[ht]at h;cases h
def Yx(K:AS->Prop)(E:AV->AS->Prop)(N:Nat)(s:AS)(d:Option Tmp):AOut->AH->Prop
 | .ret r,h'=>K (AS.put N {s with h:=h'} d r)
 | .panic r,h'=>E r {s with h:=h'}
def Qa2(P:Program)(ev:Operand->AV):Op->Bool
 | .binOp op t x y _=>(match op with | .eql | .neq=>true|_=>false)&&(match ev x,ev y with | .sl _ [] _,.v (.slice none 0 0)=>true|_,_=>false)&&(match P.underlying t with|some (.slice _)=>true|_=>false)
 |_=>false
def RowW(N e n:Nat)(s:AS)(d:Option Tmp)(K:AS->Prop):Prop :=
 K (AS.put N {s with h:=s.h++[.grow e n 0]} d (.sl n [] (some s.h.length)))\/K (AS.put N {s with h:=s.h++[.dead]} d (.sl n [] (some s.h.length)))
def OpW(P:Program)(N:Nat)(o:Oper)(s:AS)(K:AS->Prop)(E:AV->AS->Prop):Prop :=
 match o.op with
 | .buildSlice t 0 ps =>
  match Q3 P t,ps.toList with
  |some (e,n),[]=>QT P t 0 [] s.h=some (.sl n [] (some s.h.length),s.h++[.grow e n 0])/\RowW N e n s o.dst K
  |_,_=>False
 | .call q =>
  match q.callee with
  | .value f=>FunW P (s.ev f) (q.args.toList.map s.ev) s.h (Yx K E N s o.dst)
  |_=>match aop P s.ev o.type s.h o.op with
   |some (r,h')=>K (AS.put N {s with h:=h'} o.dst r)
   |none=>match aopR P s.ev s.h o.op with
    |some (r,h')=>K (AS.put N {s with h:=h'} o.dst r)
    |none=>False
 | .panic x=>match s.ev x with
  | .ifc t y=>E (.ifc t y) s
  |_=>False
 |op=>match aop P s.ev o.type s.h op with
  |some (r,h')=>K (AS.put N {s with h:=h'} o.dst r)
  |none=>Qa2 P s.ev op=true/\∀b,K (AS.put N s o.dst (.v (.bool b)))
theorem Qlk{P:Program}{c:Cx}{ev:Operand->AV}{ρ:Operand->Value}(hev:∀x,Rel c (ev x) (ρ x)){o:Oper}(h:Qa2 P ev o.op=true):∃b,(execOp ρ o).run P c.w = .ok (.value (.bool b)) c.w:=by
 cases ho:o.op with
 |binOp op t x y yt =>
  rw[ho]at h
  simp only[Qa2,Qzk]at h
  obtain⟨⟨h1,h2⟩,h3⟩:=h
  split at h2
  ·rename_i s own e1 e2
   have hx:=hev x
   have hy:=hev y
   rw[e1]at hx
   rw[e2]at hy
   generalize hux:ρ x=u at hx
   generalize huy:ρ y=v at hy
   cases hy
   split at h3
   ·rename_i e hu
    have heq:∃b,(Op.equal t u (.slice none 0 0)).run P c.w = .ok b c.w:=by
     suffices h:∀d,∃b,(Op.equalIn (d+1) t u (.slice none 0 0)).run P c.w = .ok b c.w from h 9999
     intro d
     cases hx with
     |slnil=>exact⟨true,by simp[Op.equalIn,underlying,hu]⟩
     |slzero=>exact⟨false,by simp[Op.equalIn,underlying,hu]⟩
     |sl=>exact⟨false,by simp[Op.equalIn,underlying,hu]⟩
    obtain⟨b,hb⟩:=heq
    have hsl:∃a n k,u = .slice a n k:=by cases hx <;> exact⟨_,_,_,rfl⟩
    obtain⟨a,n,k,rfl⟩:=hsl
    cases op <;> simp only[Qyn]at h1
    ·exact⟨b,by cases a <;> simp[execOp,ho,hux,huy,eqGuard,binOp,hb]⟩
    ·exact⟨!b,by cases a <;> simp[execOp,ho,hux,huy,eqGuard,binOp,hb]⟩
   ·cases h3
  ·cases h2
 |_=>rw[ho]at h;simp[Qa2]at h
theorem QcY{P:Program}{N:Nat}{base:Bs×Fence}{o:Oper}{s:AS}{K:AS->Prop}{E:AV->AS->Prop}(H:OpW P N o s K E){F:Fence}{n:Nat}{c:Cx}{a:Act}(hF:WF F)(hst:St c)(hr:SR N base c s a)
  {next:Act->World->Prop} {Qx:Exit->Act->World->Prop} (hK:∀s' c' a',K s'->Ev c c'->St c'->SR N base c' s' a'->next a' c'.w)
  (hE:∀r s' c' x,E r s'->Ev c c'->St c'->SR N base c' s' a->Rel c' r x->Qx (.panic [{v:=x,recovered:=false}]) a c'.w):o.wpIn F n P a c.w next Qx:=by
 have hev:∀x,Rel c (s.ev x) (a.eval x):=hr.eval
 -- an operation of its own
 have plain:(∀q,o.op ≠ .defer q)->∀{r h'},aop P s.ev o.type s.h o.op=some (r,h')->K (AS.put N {s with h:=h'} o.dst r)->o.wpIn F n P a c.w next Qx:=by
  intro hd r h' ha hk
  rw[<-hr.h]at ha
  obtain⟨c',h1,h2,h3,h4⟩:=Qpu hst hev ha
  refine⟨fun f _=>hF.fn f,?_⟩
  rw[Oper.semAt_eq _ _ _ hd]
  subst h3
  rcases h4 with⟨x,hrun,hx⟩|⟨hrun,hx⟩
  ·rw[hrun];exact hK _ c' _ hk h1 h2 (hr.put hst h1 o.dst hx)
  ·rw[hrun];exact hK _ c' _ hk h1 h2 (hr.put hst h1 o.dst hx)
 unfold OpW at H
 split at H
 ·rename_i t ps hop
  split at H
  ·rename_i e n he hps
   have hps':ps=#[]:=by apply Array.ext';simpa using hps
   subst hps'
   obtain⟨ha,hk|hk⟩:=H
   ·exact plain (fun q=>by rw[hop];intro h;cases h) (r:=.sl n [] (some s.h.length)) (h':=s.h++[.grow e n 0]) (by rw[hop];simpa [aop]using ha) hk
   ·refine⟨fun f _=>hF.fn f,?_⟩
    rw[Oper.semAt_eq _ _ _ (fun q=>by rw[hop];intro h;cases h)]
    obtain⟨hu,hsz⟩:=X8 he
    have hrun:(execOp a.eval o).run P c.w = .ok (.value (.slice (some ⟨c.w.heap.size,0,none⟩) 0 0)) (c.w.alloc (.cells #[] e)):=by
     simp[execOp,hop,Qd2 hu hsz c.w]
    rw[hrun]
    have hg:=Grows.alloc c.w (.cells #[] e)
    have ho:∀B,(none:Option Nat)=some B->c.w.heap.size<=B:=fun B h=>by cases h
    have hev':=Ev.add hst hg .dead none ho
    have hst':St (c.add (c.w.alloc (.cells #[] e)) .dead none):=St.add hst hg _ _ ho trivial
    refine hK _ (c.add (c.w.alloc (.cells #[] e)) .dead none) _ (by rw[<-hr.h]at hk;exact hk) hev' hst' (hr.put hst hev' o.dst ?_)
    refine .slzero _ _ _ fun b hb=>?_
    cases hb
    refine⟨by simp[Cx.add],fun e2 s2 n2 hg2=>?_⟩
    simp[Cx.add]at hg2
  ·exact H.elim
 ·rename_i q hop
  split at H
  ·rename_i f hcal
   refine⟨fun f _=>hF.fn f,?_⟩
   rw[Oper.semAt_eq _ _ _ (fun q=>by rw[hop];intro h;cases h)]
   have hrun:(execOp a.eval o).run P c.w=((do let d<-Deferred.ofValue (a.eval f) (q.args.map a.eval);invoke d.target d.args:Sem Next)).run P c.w:=by
    simp[execOp,hop,resolve,hcal]
   rw[hrun]
   refine H F n c _ _ hF hst hr.h (hev f) (Qj0 hev q.args) o a next Qx ?_ ?_
   ·intro r c' x hk h1 h2 hx
    exact hK _ c' _ hk h1 h2 (hr.put hst h1 o.dst hx)
   ·intro r c' x he h1 h2 hx
    exact hE r _ c' x he h1 h2 ⟨rfl,hr.size,QzL hr.above h1.size,hr.defers.ev h1,RoundOk.ev h1 hr.round,fun t=>(hr.tm t).ev hst h1⟩ hx
  ·split at H
   ·rename_i r h' ha
    exact plain (fun q=>by rw[hop];intro h;cases h) ha H
   ·split at H
    ·rename_i r h' ha
     rw[<-hr.h]at ha
     obtain⟨c',h1,h2,h3,h4⟩:=Qn3 hst hev ha
     refine⟨fun f _=>hF.fn f,?_⟩
     rw[Oper.semAt_eq _ _ _ (fun q=>by rw[hop];intro h;cases h)]
     subst h3
     rcases h4 with⟨x,hrun,hx⟩|⟨hrun,hx⟩
     ·rw[hrun];exact hK _ c' _ H h1 h2 (hr.put hst h1 o.dst hx)
     ·rw[hrun];exact hK _ c' _ H h1 h2 (hr.put hst h1 o.dst hx)
    ·exact H.elim
 ·rename_i x hop
  split at H
  ·rename_i t y hx
   have h1:=hev x
   rw[hx]at h1
   generalize hu:a.eval x=u at h1
   cases h1 with
   |ifc t y u h2 =>
    refine⟨fun f _=>hF.fn f,?_⟩
    rw[Oper.semAt_eq _ _ _ (fun q=>by rw[hop];intro h;cases h)]
    have hrun:(execOp a.eval o).run P c.w = .halt (.panic (.iface t u)) c.w:=by
     simp[execOp,hop,Instr.panic,hu]
    rw[hrun]
    exact hE _ s c _ H (Ev.refl c) hst hr (.ifc t y u h2)
  ·exact H.elim
 ·rename_i op hnb hnc hnp
  split at H
  ·rename_i r h' ha
   refine plain (fun q hq=>?_) ha H
   rw[hq]at ha
   simp[aop]at ha
  ·obtain⟨hq,hk⟩:=H
   obtain⟨b,hrun⟩:=Qlk hev hq
   refine⟨fun f _=>hF.fn f,?_⟩
   rw[Oper.semAt_eq _ _ _ (fun q hq'=>by rw[hq']at hq;simp[Qa2]at hq),hrun]
   have hp:=hr.put hst (Ev.refl c) o.dst (.v (.bool b))
   rw[hr.h]at hp
   exact hK _ c _ (hk b) (Ev.refl c) hst hp
def OpsW(P:Program)(N:Nat)(ops:Array Oper):List Oper->(AS->Prop)->(AV->AS->Prop)->AS->Prop
 |[],Q,E,s=>Q s
 |o::rest,Q,E,s =>
  match Qn ops s.tm o with
  |some true=>OpW P N o s (OpsW P N ops rest Q E) E
  |some false=>OpsW P N ops rest Q E (AS.put N s o.dst (.v undef))
  |none=>False
theorem Qfc{P:Program}{N:Nat}{base:Bs×Fence}{ops:Array Oper}{Q:AS->Prop}{E:AV->AS->Prop}{F:Fence}{n:Nat}(hF:WF F){Qx:Exit->Act->World->Prop}:∀(l:List Oper) (k:Nat) (s:AS) (c:Cx) (a:Act),(∀j,l[j]? = ops[k+j]?) ->
  OpsW P N ops l Q E s->St c->SR N base c s a->(∀s' c' a',Q s'->Ev c c'->St c'->SR N base c' s' a'->Qx .normal a' c'.w) ->
  (∀r s' c' a' x,E r s'->Ev c c'->St c'->SR N base c' s' a'->Rel c' r x->Qx (.panic [{v:=x,recovered:=false}]) a' c'.w)->wpOpsIn F n P ops Qx (List.range' k l.length) a c.w
 |[],k,s,c,a,hl,H,hst,hr,hQ,hE=>by
  simp only[Qyx,List.range'_zero,wpOpsIn]
  exact hQ s c a H (Ev.refl c) hst hr
 |o::l,k,s,c,a,hl,H,hst,hr,hQ,hE=>by
  have h0:ops[k]? = some o:=by simpa using(hl 0).symm
  have hl':∀j,l[j]? = ops[k+1+j]? := fun j=>by have:=hl (j+1);simpa [QAA,QBi 1 j]using this
  simp only[Qyw,List.range'_succ,wpOpsIn,h0]
  simp only[OpsW]at H
  split at H
  ·rename_i hw
   rw[Q7 hr hw]
   simp only[QAj]
   refine QcY H hF hst hr ?_ ?_
   ·intro s' c' a' hK h1 h2 h3
    exact Qfc hF l (k+1) s' c' a' hl' hK h2 h3 (fun s2 c2 a2 q e2 t2 r2=>hQ s2 c2 a2 q (Ev.trans hst h1 e2) t2 r2) (fun r s2 c2 a2 x q e2 t2 r2=>hE r s2 c2 a2 x q (Ev.trans hst h1 e2) t2 r2)
   ·intro r s' c' x he h1 h2 h3 hx
    exact hE r s' c' a x he h1 h2 h3 hx
  ·rename_i hw
   rw[Q7 hr hw]
   simp only[Qyn,Qz5]
   refine⟨fun f _=>hF.fn f,?_⟩
   have hr':=hr.put hst (Ev.refl c) o.dst (.v undef)
   rw[hr.h]at hr'
   exact Qfc hF l (k+1) _ c _ hl' H hst hr' hQ hE
  ·exact H.elim
theorem Qai{P:Program}{N:Nat}{Q:AExit->AS->Prop}{s:AS}{id:Nat}{ops:Array Oper}(H:OpsW P N ops ops.toList (fun s'=>Q .normal s') (fun r s'=>Q (.panic r) s') s):Xs P N (.region id ops false) Q s:=by
 intro F n base c a hF hst hr R hR
 refine wpIn_region ?_
 rw[QAy,<-QzS]
 refine Qfc hF ops.toList 0 s c a (by simp) H hst hr ?_ ?_
 ·intro s' c' a' hQ h1 h2 h3
  exact hR _ s' c' a' _ hQ h1 h2 h3 rfl
 ·intro r s' c' a' x hQ h1 h2 h3 hx
  exact hR _ s' c' a' _ hQ h1 h2 h3 ⟨x,rfl,hx⟩
end Go.Proofs.YtenheconhibonaaGreatDoor.Ab

