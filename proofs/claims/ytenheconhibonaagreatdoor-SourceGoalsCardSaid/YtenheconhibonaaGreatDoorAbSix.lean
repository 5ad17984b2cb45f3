/-
  An abstract program logic, contracts of functions, and laws of terms and rules (part 6).
-/
import Derived.Test.YtenheconhibonaaGreatDoorAbTwo
import Derived.Test.YtenheconhibonaaGreatDoorAbFive
import Derived.Test.YtenheconhibonaaGreatDoorAbFour
set_option linter.unusedVariables false
set_option linter.unusedSimpArgs false
set_option maxHeartbeats 4000000
set_option maxRecDepth 4000
namespace Go.Proofs.YtenheconhibonaaGreatDoor.Ab
open Go.Proofs
def tkv(k i:Int)(x:List UInt8):AV:=.agg [.i k,.i i,.v (.string (mkB x))]
def zTok:AV:=.agg [.i 0,.i 0,.v (.string {data:=#[]})]
theorem Qgh(n:Nat)(k i:Int)(x:List UInt8):Below n (tkv k i x):=.agg _ fun a ha=>by
 simp only[QwS,Qw4,QxK]at ha
 rcases ha with rfl|rfl|rfl <;> exact .v _
theorem Qej{n:Nat}{t:AV}(ht:Below n t)(a b:Int):Below n (.tup [t,.i a,.i b]):=.tup _ fun x hx=>by
 simp only[QwS,Qw4,QxK]at hx
 rcases hx with rfl|rfl|rfl
 ·exact ht
 ·exact .v _
 ·exact .v _
def rdT(k:Nat):Int×List UInt8 ⊕ Int->AV
 | .inl (kd,x)=>.tup [tkv kd k x,.i ((k+x.length:Nat):Int),.i 0]
 | .inr e=>.tup [zTok,.i k,.i e]
theorem Qsp:zTok=tkv 0 0 []:=rfl
theorem ZI(n k:Nat)(r:Int×List UInt8 ⊕ Int):Below n (rdT k r):=by
 cases r with
 |inl p=>exact Qej (Qgh n _ _ _) _ _
 |inr e=>exact Qej (Qsp▸Qgh n _ _ _) _ _
theorem Qle(c:UInt8):(clsN (c.toNat:Nat)=2/\isL c=true/\97<=c.toNat)\/(clsN (c.toNat:Nat)=3/\isL c=true/\¬97<=c.toNat)\/(clsN (c.toNat:Nat)=4/\isL c=false/\isD c=true)\/((clsN (c.toNat:Nat)=0\/clsN (c.toNat:Nat)=1)/\isL c=false/\isD c=false):=by
 have hc:=c.toNat_lt
 unfold clsN isL isD
 simp only[Qw1,decide_eq_false_iff_not]
 repeat' split
 all_goals omega
section
variable(l:List UInt8)(hl:l.length<=16384)(k:Nat)(h:AH)
include hl
theorem Qpo(hk:k=l.length):QT Tryz.prog 177 [.v (.string (mkB l)),.i k] h fun o h'=>o = .ret (rdT k (ZK (l.drop k)))/\h'=h:=by
 have _hu:=hl
 have hsl:=fun b=>ZU Tryz.prog 9 3 (by kernel_rfl) b
 have z1:(((k:Nat):Int)==((l.length:Nat):Int))=true:=by rw[hk];simp
 have e:rdT k (ZK (l.drop k)) = .tup [tkv 0 k [],.i k,.i 0]:=by rw[hk,Qxb];rfl
 rw[e]
 refine Qb Tryz.func177 rfl Tryz.call177 Tryz.ntmps177 Tryz.results177 (by simp) ?_
 repeat refine Qn ?_;simp only[go_sem,seval,hsl,Xk,z1]
 exact Qc (htake _ _) (.keep (Qej (Qgh _ _ _ _) _ _)) ⟨rfl,rfl⟩
theorem Qnb(hk:k<l.length)(hL:isL l[k]=true):QT Tryz.prog 177 [.v (.string (mkB l)),.i k] h fun o h'=>o = .ret (rdT k (ZK (l.drop k)))/\h'=h:=by
 have hsl:=fun b=>ZU Tryz.prog 9 3 (by kernel_rfl) b
 have z1:(((k:Nat):Int)==((l.length:Nat):Int))=false:=by simp;omega
 have hix:=QaH Tryz.prog 9 (by kernel_rfl) (mkB l) k (by rw[Xk];exact hk)
 rw[Qbf l k hk]at hix
 have cp:=Qdm (((l[k]).toNat:Nat):Int)
 have cr:=Qjx l hl isW 2 QsA k (by omega)
 have hd:=drop_cons hk
 have hn:((l.drop k).takeWhile isW).length<=l.length - k:=by rw[<-Qxi];exact(Qyv _).length_le
 obtain⟨w,hw⟩:∃w,w=(l.drop k).takeWhile isW:=⟨_,rfl⟩
 rw[<-hw]at cr hn
 have ht:ZK (l.drop k)=if 40<w.length then .inr 7 else .inl (if 97<=l[k].toNat then 1 else 2,w):=by rw[hw,hd,ZK,QwN hL]
 have w1:IntKind.i64.wrap (((k+w.length:Nat):Int) - ((k:Nat):Int))=((w.length:Nat):Int):=by rw[Yg (by omega)];omega
 have hsp:=QdD Tryz.prog 9 (by kernel_rfl) (mkB l) (some (.i64,(k:Nat))) (some (.i64,(k+w.length:Nat))) k (k+w.length) ⟨by omega,by rw[Xk];omega,by omega⟩ ⟨by omega,by omega,by omega⟩
 simp only[QvR]at hsp
 have hwt:(l.drop k).take w.length=w:=by rw[hw];exact(QyC.1 (Qyv isW)).symm
 rw[Qc5 l k _ (by omega),hwt]at hsp
 have hcl:=Qle l[k]
 have q23:((2:Int)==3)=false:=rfl
 have q32:((3:Int)==2)=false:=rfl
 rw[ht]
 by_cases h40:40<w.length
 ·have y1:((w.length:Nat):Int)>40:=by omega
  have y2:(40:Int)<((w.length:Nat):Int):=by omega
  rw[QwN h40]
  by_cases h97:97<=l[k].toNat
  ·have c2:clsN (((l[k]).toNat:Nat):Int)=2:=by rcases hcl with⟨a,b,c⟩|⟨a,b,c⟩|⟨a,b,c⟩|⟨a,b,c⟩ <;> first|exact a|omega|exact absurd (b.symm.trans hL) (by decide)
   rw[c2]at cp
   refine Qb Tryz.func177 rfl Tryz.call177 Tryz.ntmps177 Tryz.results177 (by simp) ?_
   repeat (first|refine Qy cp ?_|refine Qy cr ?_|refine Qn ?_);simp only[go_sem,seval,hsl,Xk,z1,hix,w1,y1,q23]
   exact Qc (htake _ _) (.keep (ZI _ _ (.inr 7))) ⟨rfl,rfl⟩
  ·have c2:clsN (((l[k]).toNat:Nat):Int)=3:=by rcases hcl with⟨a,b,c⟩|⟨a,b,c⟩|⟨a,b,c⟩|⟨a,b,c⟩ <;> first|exact a|omega|exact absurd (b.symm.trans hL) (by decide)
   rw[c2]at cp
   refine Qb Tryz.func177 rfl Tryz.call177 Tryz.ntmps177 Tryz.results177 (by simp) ?_
   repeat (first|refine Qy cp ?_|refine Qy cr ?_|refine Qn ?_);simp only[go_sem,seval,hsl,Xk,z1,hix,w1,y1,q32]
   exact Qc (htake _ _) (.keep (ZI _ _ (.inr 7))) ⟨rfl,rfl⟩
 ·have y1:¬((w.length:Nat):Int)>40:=by omega
  have y2:¬(40:Int)<((w.length:Nat):Int):=by omega
  rw[QwJ h40]
  by_cases h97:97<=l[k].toNat
  ·have c2:clsN (((l[k]).toNat:Nat):Int)=2:=by rcases hcl with⟨a,b,c⟩|⟨a,b,c⟩|⟨a,b,c⟩|⟨a,b,c⟩ <;> first|exact a|omega|exact absurd (b.symm.trans hL) (by decide)
   rw[c2]at cp
   rw[QwN h97]
   refine Qb Tryz.func177 rfl Tryz.call177 Tryz.ntmps177 Tryz.results177 (by simp) ?_
   repeat (first|refine Qy cp ?_|refine Qy cr ?_|refine Qn ?_);simp only[go_sem,seval,Qbt,hsl,Xk,z1,hix,w1,y1,hsp,q23]
   exact Qc (htake _ _) (.keep (ZI _ k (.inl (1,w)))) ⟨rfl,rfl⟩
  ·have c2:clsN (((l[k]).toNat:Nat):Int)=3:=by rcases hcl with⟨a,b,c⟩|⟨a,b,c⟩|⟨a,b,c⟩|⟨a,b,c⟩ <;> first|exact a|omega|exact absurd (b.symm.trans hL) (by decide)
   rw[c2]at cp
   rw[QwJ h97]
   refine Qb Tryz.func177 rfl Tryz.call177 Tryz.ntmps177 Tryz.results177 (by simp) ?_
   repeat (first|refine Qy cp ?_|refine Qy cr ?_|refine Qn ?_);simp only[go_sem,seval,Qbt,hsl,Xk,z1,hix,w1,y1,hsp,q32]
   exact Qc (htake _ _) (.keep (ZI _ k (.inl (2,w)))) ⟨rfl,rfl⟩
theorem Qpq(hk:k<l.length)(hL:isL l[k]=false)(hD:isD l[k]=false)(hG:Qbs h):QT Tryz.prog 177 [.v (.string (mkB l)),.i k] h fun o h'=>o = .ret (rdT k (ZK (l.drop k)))/\h'=h:=by
 have hsl:=fun b=>ZU Tryz.prog 9 3 (by kernel_rfl) b
 have z1:(((k:Nat):Int)==((l.length:Nat):Int))=false:=by simp;omega
 have hix:=QaH Tryz.prog 9 (by kernel_rfl) (mkB l) k (by rw[Xk];exact hk)
 rw[Qbf l k hk]at hix
 have cp:=Qdm (((l[k]).toNat:Nat):Int)
 have hd:=drop_cons hk
 have cs:=fun b=>QkY l hl k (by omega) (h++[b]) (hG.app [b])
 have ht:ZK (l.drop k)=match Qgg (l.drop k)with|some x=>.inl (4,x)|none=>.inr 16:=by rw[hd,ZK,QwJ (by rw[hL];decide),QwJ (by rw[hD];decide)];rfl
 have hcl:=Qle l[k]
 have c0:clsN (((l[k]).toNat:Nat):Int)=0\/clsN (((l[k]).toNat:Nat):Int)=1:=by rcases hcl with⟨a,b,c⟩|⟨a,b,c⟩|⟨a,b,c⟩|⟨a,b,c⟩ <;> first|exact a|exact absurd (b.symm.trans hL) (by decide)|exact absurd (c.symm.trans hD) (by decide)
 generalize hcn:clsN (((l[k]).toNat:Nat):Int)=cn at *
 clear hcl
 have u2:(cn==2)=false:=by simp;omega
 have u3:(cn==3)=false:=by simp;omega
 have u4:(cn==4)=false:=by simp;omega
 rw[ht]
 cases hs:Qgg (l.drop k)with
 |none =>
  rw[hs]at cs
  have hq:((mkB []).toList==({data:=#[]}:ByteArray).toList)=true:=by rw[Qha,Lib.toList_data];rfl
  simp only[Option.getD_none]at cs
  refine Qb Tryz.func177 rfl Tryz.call177 Tryz.ntmps177 Tryz.results177 (by simp) ?_
  repeat (first|refine Qy cp ?_|refine FunW.QuW (cs _) ?_|refine Qn ?_);simp only[go_sem,seval,hsl,Xk,z1,hix,u2,u3,u4,hq]
  exact Qc (htake _ _) (.keep (ZI _ _ (.inr 16))) ⟨rfl,rfl⟩
 |some x =>
  rw[hs]at cs
  obtain⟨x1,x3,xp⟩:=QjL hs
  rw[Qh5,QxL]at xp
  have xl:x.length<=l.length - k:=by have:=Qxm List.length xp;rw[Qw9,Qxi]at this;omega
  have hq:((mkB x).toList==({data:=#[]}:ByteArray).toList)=false:=by
   rw[Qha,QxU]
   intro e
   have:=Qxm List.length e
   rw[Lib.toList_data,show({data:=#[]}:ByteArray).data.toList.length=0 from rfl]at this
   omega
  simp only[Qyo]at cs
  have w1:IntKind.i64.wrap (((k:Nat):Int)+((x.length:Nat):Int))=((k+x.length:Nat):Int):=by rw[Yg (by omega)];omega
  have hsp:=QdD Tryz.prog 9 (by kernel_rfl) (mkB l) (some (.i64,(k:Nat))) (some (.i64,(k+x.length:Nat))) k (k+x.length) ⟨by omega,by rw[Xk];omega,by omega⟩ ⟨by omega,by omega,by omega⟩
  simp only[QvR]at hsp
  rw[Qc5 l k _ (by omega),xp]at hsp
  refine Qb Tryz.func177 rfl Tryz.call177 Tryz.ntmps177 Tryz.results177 (by simp) ?_
  repeat (first|refine Qy cp ?_|refine FunW.QuW (cs _) ?_|refine Qn ?_);simp only[go_sem,seval,Qbt,hsl,Xk,z1,hix,u2,u3,u4,hq,w1,hsp]
  exact Qc (htake _ _) (.keep (ZI _ _ (.inl (4,x)))) ⟨rfl,rfl⟩
end
end Go.Proofs.YtenheconhibonaaGreatDoor.Ab
namespace Go.Proofs.YtenheconhibonaaGreatDoor.Ab
open Go.Proofs
theorem Quu {n : Int} (h : 0 <= n /\ n <= 255) : IntKind.u8.wrap n = n := IntWalk.u8_in n h
theorem Quc (n : Int) (hn : 0 <= n /\ n < 256) : pv Tryz.prog (convert 5 3 (.int .u8 n)) = some (.int .i64 n) := by
  have : pv Tryz.prog (convert 5 3 (.int .u8 n)) = some (.int .i64 (IntKind.i64.wrap n)) := by kernel_rfl
  rw [this, Yg (by omega)]
theorem QjE (q : List UInt8) : ∃ j, j <= q.length /\ XP false q = q.drop j := by
  have : ∀ (b : Bool) (q : List UInt8), ∃ j, j <= q.length /\ XP b q = q.drop j := fun b q => by
    induction q generalizing b with
    | nil => exact ⟨0, QwP _, by cases b <;> rfl⟩
    | cons c r ih =>
      cases b with
      | true =>
        rw [XP]
        split
        · obtain ⟨j, h1, h2⟩ := ih false; exact ⟨j + 1, by simp; omega, by rw [h2]; rfl⟩
        · obtain ⟨j, h1, h2⟩ := ih true; exact ⟨j + 1, by simp; omega, by rw [h2]; rfl⟩
      | false =>
        rw [XP]
        split
        · obtain ⟨j, h1, h2⟩ := ih false; exact ⟨j + 1, by simp; omega, by rw [h2]; rfl⟩
        · split
          · obtain ⟨j, h1, h2⟩ := ih true; exact ⟨j + 1, by simp; omega, by rw [h2]; rfl⟩
          · exact ⟨0, Qw3 _, rfl⟩
  exact this false q
section
variable (l : List UInt8) (hl : l.length <= 16384) (k : Nat) (h : AH)
include hl
theorem Qpp (hk : k < l.length) (hD : isD l[k] = true) : QT Tryz.prog 177 [.v (.string (mkB l)), .i k] h fun o h' => o = .ret (rdT k (ZK (l.drop k))) /\ h' = h := by
  have hsl := fun b => ZU Tryz.prog 9 3 (by kernel_rfl) b
  have z1 : (((k : Nat) : Int) == ((l.length : Nat) : Int)) = false := by simp; omega
  have hix := QaH Tryz.prog 9 (by kernel_rfl) (mkB l) k (by rw [Xk]; exact hk)
  rw [Qbf l k hk] at hix
  have cp := Qdm (((l[k]).toNat : Nat) : Int)
  have cr := Qjx l hl isD 4 QnH k (by omega)
  have hd := drop_cons hk
  have hn : ((l.drop k).takeWhile isD).length <= l.length - k := by rw [<- Qxi]; exact (Qyv _).length_le
  obtain ⟨w, hw⟩ : ∃ w, w = (l.drop k).takeWhile isD := ⟨_, rfl⟩
  rw [<- hw] at cr hn
  have hL : isL l[k] = false := by rcases Qle l[k] with ⟨a, b, c⟩ | ⟨a, b, c⟩ | ⟨a, b, c⟩ | ⟨a, b, c⟩
                                   · exact absurd ((QnH l[k]).2 hD) (by omega)
                                   · exact absurd ((QnH l[k]).2 hD) (by omega)
                                   · exact b
                                   · exact b
  have c4 : clsN (((l[k]).toNat : Nat) : Int) = 4 := by rcases Qle l[k] with ⟨a, b, c⟩ | ⟨a, b, c⟩ | ⟨a, b, c⟩ | ⟨a, b, c⟩ <;> first | exact a | exact absurd (b.symm.trans hL) (by decide) | exact absurd (c.symm.trans hD) (by decide)
  rw [c4] at cp
  have ht : ZK (l.drop k) = if 2147483648 < numVal w then .inr 5 else .inl (3, w) := by rw [hw, hd, ZK, QwJ (by rw [hL]; decide), QwN hD]
  have hsp := QdD Tryz.prog 9 (by kernel_rfl) (mkB l) (some (.i64, (k : Nat))) (some (.i64, (k + w.length : Nat))) k (k + w.length) ⟨by omega, by rw [Xk]; omega, by omega⟩ ⟨by omega, by omega, by omega⟩
  simp only [QvR] at hsp
  have hwt : (l.drop k).take w.length = w := by rw [hw]; exact (QyC.1 (Qyv isD)).symm
  rw [Qc5 l k _ (by omega), hwt] at hsp
  have q42 : ((4 : Int) == 2) = false := rfl
  have q43 : ((4 : Int) == 3) = false := rfl
  have hwd : ∀ (j : Nat) (hj : j < w.length), l[k + j]'(by omega) = w[j] /\ isD w[j] = true := fun j hj => by
    constructor
    · have : (l.drop k)[j]? = w[j]? := by
        conv => rhs; rw [<- hwt, Qyf, QwN hj]
      rw [Qxl, QwK (by omega), QwK hj] at this
      exact Qyb this
    · have : ∀ c ∈ w, isD c = true := fun c hc => by
        rw [hw] at hc
        exact Qxc.1 List.all_takeWhile c hc
      exact this _ (Qxk hj)
  rw [ht]
  refine Qb Tryz.func177 rfl Tryz.call177 Tryz.ntmps177 Tryz.results177 (by simp) ?_
  repeat (first | refine Qy cp ?_ | refine Qy cr ?_ | refine Qn ?_); simp only [go_sem, seval, hsl, Xk, z1, hix, q42, q43]
  obtain ⟨I, hI⟩ : ∃ I : Nat -> AS -> Prop, I = fun m' s => ∃ j : Nat, m' = w.length - j /\ j <= w.length /\ numVal (w.take j) <= 2147483648 /\ s.tm 0 = .v (.string (mkB l)) /\ s.tm 1 = .i k /\ s.tm 4 = .ptr h.length 0 0 /\ s.tm 5 = .i ((k + w.length : Nat) : Int) /\ s.tm 7 = .i (numVal (w.take j) : Nat) /\ s.tm 8 = .i ((k + j : Nat) : Int) /\ s.h = h ++ [.cells 127 3 [.agg [.i 3, .i k, .v (.string { data := #[] })]]] := ⟨_, rfl⟩; refine QZ I ?_ (m := w.length) ?_
  · intro m' s hs; rw [hI] at hs; obtain ⟨tm, hp⟩ := s; dsimp only at hs; obtain ⟨j, rfl, hj, hv, t0, t1, t4, t5, t7, t8, rfl⟩ := hs
    by_cases hlt : j < w.length
    · have y1 : (((k + j : Nat) : Int) < ((k + w.length : Nat) : Int)) := by omega
      obtain ⟨d1, d2⟩ := hwd j hlt
      have hix2 := QaH Tryz.prog 9 (by kernel_rfl) (mkB l) (k + j) (by rw [Xk]; omega)
      rw [Qbf l (k + j) (by omega), d1] at hix2
      have hcd : 48 <= (w[j]).toNat /\ (w[j]).toNat <= 57 := by unfold isD at d2; simpa using d2
      obtain ⟨n1, n2⟩ := QfX hlt
      generalize hnv : numVal (w.take j) = v at *
      have w1 : IntKind.i64.wrap (10 * ((v : Nat) : Int)) = ((10 * v : Nat) : Int) := by rw [Yg (by omega)]; omega
      have w2 : IntKind.u8.wrap ((((w[j]).toNat : Nat) : Int) - 48) = (((w[j]).toNat - 48 : Nat) : Int) := by rw [Quu (by omega)]; omega
      have w3 := Quc (((w[j]).toNat - 48 : Nat) : Int) (by omega)
      have w4 : IntKind.i64.wrap (((10 * v : Nat) : Int) + (((w[j]).toNat - 48 : Nat) : Int)) = ((numVal (w.take (j + 1)) : Nat) : Int) := by rw [Yg (by omega)]; omega
      have w5 : IntKind.i64.wrap (((k + j : Nat) : Int) + 1) = ((k + (j + 1) : Nat) : Int) := by rw [Yg (by omega)]; omega
      by_cases hb : 2147483648 < numVal (w.take (j + 1))
      · have y2 : ((numVal (w.take (j + 1)) : Nat) : Int) > 2147483648 := by omega
        have y3 : (2147483648 : Int) < ((numVal (w.take (j + 1)) : Nat) : Int) := by omega
        rw [show (if 2147483648 < numVal w then (Sum.inr 5 : Int × List UInt8 ⊕ Int) else .inl (3, w)) = .inr 5 from QwN (by omega)]
        repeat refine Qn ?_; simp only [go_sem, seval, t0, t1, t4, t5, t7, t8, y1, hix2, w1, w2, w3, w4, y2]
        exact Qc (htake _ _) (.keep (ZI _ k (.inr 5))) ⟨rfl, rfl⟩
      · have y2 : ¬ ((numVal (w.take (j + 1)) : Nat) : Int) > 2147483648 := by omega
        have y3 : ¬ (2147483648 : Int) < ((numVal (w.take (j + 1)) : Nat) : Int) := by omega
        repeat refine Qn ?_; simp only [go_sem, seval, t0, t5, t7, t8, y1, hix2, w1, w2, w3, w4, y2, w5]
        refine Xo.mk (m' := w.length - (j + 1)) (by omega) ?_
        rw [hI]
        exact ⟨j + 1, rfl, hlt, by omega, t0, t1, t4, t5, rfl, rfl, rfl⟩
    · have hjl : j = w.length := by omega
      have y1 : ¬ (((k + j : Nat) : Int) < ((k + w.length : Nat) : Int)) := by omega
      rw [hjl, QwH] at hv
      repeat refine Qn ?_; simp only [go_sem, seval, Qbt, t0, t1, t4, t5, t8, y1, hsp]
      exact Qc (htake _ _) (.keep (ZI _ k (.inl (3, w)))) ⟨by rw [show (if 2147483648 < numVal w then (Sum.inr 5 : Int × List UInt8 ⊕ Int) else .inl (3, w)) = .inl (3, w) from QwJ (by omega)]; rfl, rfl⟩
  · rw [hI]
    refine ⟨0, rfl, Qw3 _, by simp [numVal], rfl, rfl, rfl, rfl, rfl, rfl, rfl⟩
theorem Qna (hk : k <= l.length) (hG : Qbs h) : QT Tryz.prog 177 [.v (.string (mkB l)), .i k] h fun o h' => o = .ret (rdT k (ZK (l.drop k))) /\ h' = h := by
  by_cases e : k = l.length
  · exact Qpo l hl k h e
  · have hlt : k < l.length := by omega
    by_cases hL : isL l[k] = true
    · exact Qnb l hl k h hlt hL
    · by_cases hD : isD l[k] = true
      · exact Qpp l hl k h hlt hD
      · exact Qpq l hl k h hlt (by simpa using hL) (by simpa using hD) hG
def QkH (tot : Nat) (q : List UInt8) : AV := rdT (tot - (XP false q).length) (ZK (XP false q))
theorem Qqh (hk : k <= l.length) (hG : Qbs h) : QT Tryz.prog 164 [.v (.string (mkB l)), .i k] h fun o h' => o = .ret (QkH l.length (l.drop k)) /\ h' = h := by
  have hsl := fun b => ZU Tryz.prog 9 3 (by kernel_rfl) b
  have z1 : ¬ ((k : Nat) : Int) < 0 := by omega
  have z2 : ¬ ((l.length : Nat) : Int) < ((k : Nat) : Int) := by omega
  have z3 : ¬ ((k : Nat) : Int) > ((l.length : Nat) : Int) := by omega
  have z4 : ¬ ((l.length : Nat) : Int) > 16384 := by omega
  have z5 : ¬ (16384 : Int) < ((l.length : Nat) : Int) := by omega
  have cs := QmZ l hl k hk
  obtain ⟨j, j1, j2⟩ := QjE (l.drop k)
  have e1 : XP false (l.drop k) = l.drop (l.length - (XP false (l.drop k)).length) := by
    rw [Qxi] at j1
    rw [j2, QyN, Qxi]
    congr 1; omega
  have cr := fun b => Qna l hl (l.length - (XP false (l.drop k)).length) (h ++ [b]) (by omega) (hG.app [b])
  rw [<- e1] at cr
  have fin : ∀ n, Below n (QkH l.length (l.drop k)) := fun n => ZI _ _ _
  cases hr : ZK (XP false (l.drop k)) with
  | inl p =>
    obtain ⟨kd, x⟩ := p
    have e2 : QkH l.length (l.drop k) = rdT (l.length - (XP false (l.drop k)).length) (.inl (kd, x)) := by rw [QkH, hr]
    rw [e2] at fin ⊢
    rw [hr] at cr
    generalize l.length - (XP false (l.drop k)).length = i at *
    refine Qb Tryz.func164 rfl Tryz.call164 Tryz.ntmps164 Tryz.results164 (by simp) ?_
    repeat (first | refine Qy cs ?_ | refine FunW.QuW (cr _) ?_ | refine Qn ?_); simp only [go_sem, seval, hsl, Xk, z1, z2, z4, rdT, tkv]
    exact Qc (htake _ _) (.keep (fin _)) ⟨rfl, rfl⟩
  | inr e =>
    have e2 : QkH l.length (l.drop k) = rdT (l.length - (XP false (l.drop k)).length) (.inr e) := by rw [QkH, hr]
    rw [e2] at fin ⊢
    rw [hr] at cr
    generalize l.length - (XP false (l.drop k)).length = i at *
    refine Qb Tryz.func164 rfl Tryz.call164 Tryz.ntmps164 Tryz.results164 (by simp) ?_
    repeat (first | refine Qy cs ?_ | refine FunW.QuW (cr _) ?_ | refine Qn ?_); simp only [go_sem, seval, hsl, Xk, z1, z2, z4, rdT, zTok]
    exact Qc (htake _ _) (.keep (fin _)) ⟨rfl, rfl⟩
end
end Go.Proofs.YtenheconhibonaaGreatDoor.Ab
namespace Go.Proofs.YtenheconhibonaaGreatDoor.Ab
open Go.Proofs
def scR:List Tk ⊕ (Int×Int)->AV
 | .inl ts=>.tup [.sl 3 (tks ts) none,.i 0,.i 0]
 | .inr p=>.tup [.v (.slice none 0 0),.i p.1,.i p.2]
def scJ(ts:List Tk):List Tk ⊕ (Int×Int)->List Tk ⊕ (Int×Int)
 | .inl us=>.inl (ts++us)
 | .inr p=>.inr p
theorem Qjz(n:Nat)(r:List Tk ⊕ (Int×Int)):Below n (scR r):=by
 cases r with
 |inl ts =>
  refine .tup _ fun x hx=>?_
  simp only[QwS,Qw4,QxK]at hx
  rcases hx with rfl|rfl|rfl
  ·exact .sl 3 _ none (Qe3 _ _) (fun b hb=>by cases hb)
  ·exact .v _
  ·exact .v _
 |inr p =>
  refine .tup _ fun x hx=>?_
  simp only[QwS,Qw4,QxK]at hx
  rcases hx with rfl|rfl|rfl <;> exact .v _
theorem Qoy(l:List UInt8)(hl:16384<l.length)(h:AH):QT Tryz.prog 164 [.v (.string (mkB l)),.i 0] h fun o h'=>o = .ret (.tup [zTok,.i 0,.i 6])/\h'=h:=by
 have hsl:=fun b=>ZU Tryz.prog 9 3 (by kernel_rfl) b
 have z1:¬(0:Int)<0:=by omega
 have z2:¬((l.length:Nat):Int)<0:=by omega
 have z3:¬(0:Int)>((l.length:Nat):Int):=by omega
 have z4:((l.length:Nat):Int)>16384:=by omega
 have z5:(16384:Int)<((l.length:Nat):Int):=by omega
 refine Qb Tryz.func164 rfl Tryz.call164 Tryz.ntmps164 Tryz.results164 (by simp) ?_
 repeat refine Qn ?_;simp only[go_sem,seval,hsl,Xk,z1,z2,z4]
 exact Qc (htake _ _) (.keep (ZI _ 0 (.inr 6))) ⟨rfl,rfl⟩
theorem Ql2{q:List UInt8}{e:Int}(h:ZK q = .inr e):e≠0:=by
 cases q with
 |nil=>cases h
 |cons c r =>
  rw[ZK]at h
  split at h
  ·split at h
   ·cases h;decide
   ·cases h
  ·split at h
   ·split at h
    ·cases h;decide
    ·cases h
   ·split at h
    ·cases h
    ·cases h;decide
theorem QjA(l:List UInt8)(h:AH)(hG:Qbs h):QT Tryz.prog 141 [.v (.string (mkB l))] h fun o h'=>o = .ret (scR (ZV l))/\h'=h:=by
 by_cases hl:16384<l.length
 ·have cn:=fun L=>Qoy l hl (h++L)
  rw[ZV,QwN hl]
  have e2:((6:Int) != 0)=true:=rfl
  refine Qb Tryz.func141 rfl Tryz.call141 Tryz.ntmps141 Tryz.results141 (by simp) ?_
  iterate 6 (try (first|(((refine Qa fun K E hK hE=>?_));simp only[go_sem,seval])|((with_reducible refine hK _ ?_);clear hK)))
  refine YB 5 127 3 rfl ?_
  iterate 4 (try ((refine Qj ?_)))
  obtain⟨I,hI⟩:∃I:Nat->AS->Prop,I=fun m' s=>m'=0/\s.tm 0 = .v (.string (mkB l))/\s.tm 6 = .i 0/\s.h=h++[.grow 127 3 0]:=⟨_,rfl⟩;refine QZ I ?_ (m:=0) ?_
  ·intro m' s hs;rw[hI]at hs;obtain⟨tm,hp⟩:=s;dsimp only at hs;obtain⟨rfl,t0,t6,rfl⟩:=hs
   repeat first|(first|refine FunW.QuW (cn _) ?_|refine Qn ?_);simp only[go_sem,seval,t0,t6,zTok,e2]|refine hK _ ?_;clear hK
   exact Qc (htake _ _) (.keep (Qjz _ (.inr (0,6)))) ⟨rfl,rfl⟩
  ·rw[hI]
   exact⟨rfl,rfl,rfl,rfl⟩
 ·have hl2:l.length<=16384:=by omega
  rw[ZV,QwJ hl]
  generalize hR:Qbb l.length (l.length+1) l=R
  refine Qb Tryz.func141 rfl Tryz.call141 Tryz.ntmps141 Tryz.results141 (by simp) ?_
  iterate 6 (try (first|(((refine Qa fun K E hK hE=>?_));simp only[go_sem,seval])|((with_reducible refine hK _ ?_);clear hK)))
  refine YB 5 127 3 rfl ?_
  iterate 4 (try ((refine Qj ?_)))
  obtain⟨I,hI⟩:∃I:Nat->AS->Prop,I=fun m' s=>∃(ts:List Tk) (k:Nat) (G:AH),m'=l.length - k/\k<=l.length/\ts.length<=k/\(∃m,l.length - k<m/\scJ ts (Qbb l.length m (l.drop k))=R)/\s.tm 0 = .v (.string (mkB l))/\s.tm 5 = .sl 3 (tks ts) (some h.length)/\s.tm 6 = .i k/\s.h=h++(.grow 127 3 ts.length::G):=⟨_,rfl⟩;refine QZ I ?_ (m:=l.length) ?_
  ·intro m' s hs;rw[hI]at hs;obtain⟨tm,hp⟩:=s;dsimp only at hs;obtain⟨ts,k,G,rfl,hk,htl,⟨m,hm,hR2⟩,t0,t5,t6,rfl⟩:=hs
   have hm1:m=m - 1+1:=by omega
   rw[hm1,Qbb]at hR2
   have cn:=fun L=>Qqh l hl2 k (h++L) hk (hG.app L)
   obtain⟨j,j1,j2⟩:=QjE (l.drop k)
   have hsl:(XP false (l.drop k)).length<=l.length - k:=by rw[j2,Qxi,Qxi];omega
   have e1:XP false (l.drop k)=l.drop (l.length - (XP false (l.drop k)).length):=by
    rw[Qxi]at j1
    rw[j2,QyN,Qxi]
    congr 1;omega
   rw[QkH]at cn
   have x1:∀(Y:AH),(G++Y)[G.length]? = Y[0]? := fun Y=>Q8 _ _
   have x2:∀(Y:AH) k,(G++Y)[G.length+k]? = Y[k]? := fun Y k=>hget _ _ _
   have x3:∀(Y:AH) y,(G++Y).set G.length y=G++Y.set 0 y:=fun Y y=>Yd _ _ _
   have ev:(tks ts).length=ts.length:=Qei _
   cases ht:ZK (XP false (l.drop k))with
   |inr e =>
    rw[ht]at hR2 cn
    have hR3:Sum.inr (((l.length - (XP false (l.drop k)).length:Nat):Int),e)=R:=hR2
    subst hR3
    have he:(e != 0)=true:=by
     have:=Ql2 ht
     simpa using this
    repeat first|(first|refine FunW.QuW (cn _) ?_|refine Qn ?_);simp only[go_sem,seval,t0,t6,rdT,zTok,he]|refine hK _ ?_;clear hK
    exact Qc (htake _ _) (.keep (Qjz _ (.inr (_,e)))) ⟨rfl,rfl⟩
   |inl p =>
    obtain⟨kd,x⟩:=p
    rw[ht]at hR2 cn
    have hm2:(ts.length+1) * 32<=140737488355328:=by omega
    have hm3:ts.length+1<=maxLen:=by simp only[maxLen];omega
    have e0:((0:Int) != 0)=false:=rfl
    rcases Qik ht with⟨k0,hx1,hx2⟩|⟨k0,hx1,r,hx2⟩
    ·subst k0
     subst hx2
     have hR3:Sum.inl (ts++[⟨0,((l.length - (XP false (l.drop k)).length:Nat):Int),eB⟩])=R:=hR2
     subst hR3
     have z1:((0:Int)==0)=true:=rfl
     generalize l.length - (XP false (l.drop k)).length=i at *
     have evs:tks (ts++[⟨0,((i:Nat):Int),eB⟩])=tks ts++[.agg [.i 0,.i i,.v (.string (mkB []))]]:=by rw[tks,Qxs];rfl
     repeat first|(first|refine FunW.QuW (cn _) ?_|refine Qn ?_);simp only[go_sem,seval,t0,t5,t6,rdT,tkv,x1,x3,ev,hm2,hm3,QwM]|refine hK _ ?_;clear hK
     refine Qc (htake _ _) (r':=.tup [.sl 3 (tks ts++[.agg [.i 0,.i i,.v (.string (mkB []))]]) none,.i 0,.i 0]) (Frz.tup rfl fun j a a' h1 h2=>?_) ⟨by rw[scR,evs],rfl⟩
     match j,h1,h2 with
     |0,h1,h2=>cases h1;cases h2;exact .tok (by rw[<-evs];exact Qe3 _ _)
     |1,h1,h2=>cases h1;cases h2;exact .keep (.v _)
     |2,h1,h2=>cases h1;cases h2;exact .keep (.v _)
     |j+3,h1,h2=>simp at h1
    ·have hR3:scJ (ts++[⟨kd,((l.length - (XP false (l.drop k)).length:Nat):Int),mkB x⟩]) (Qbb l.length (m - 1) ((XP false (l.drop k)).drop x.length))=R:=by
      rw[<-hR2]
      show _=scJ ts (if kd=0 then _ else match Qbb l.length (m - 1) ((XP false (l.drop k)).drop x.length)with | .inl ts=>_ | .inr e=>_)
      rw[QwJ k0]
      cases Qbb l.length (m - 1) ((XP false (l.drop k)).drop x.length)with
      |inl us=>simp[scJ]
      |inr e=>rfl
     have hxl:0<x.length:=Qx9.2 hx1
     have hxr:x.length<=(XP false (l.drop k)).length:=by rw[hx2,QwG];omega
     have e9:(XP false (l.drop k)).drop x.length=l.drop (l.length - (XP false (l.drop k)).length+x.length):=by
      conv=>lhs;rw[e1]
      rw[QyN]
     rw[e9]at hR3
     generalize (XP false (l.drop k)).length=u at *
     have z1:(kd==0)=false:=by simpa using k0
     have evs:tks (ts++[⟨kd,((l.length - u:Nat):Int),mkB x⟩])=tks ts++[.agg [.i kd,.i ((l.length - u:Nat):Int),.v (.string (mkB x))]]:=by rw[tks,Qxs];rfl
     repeat first|(first|refine FunW.QuW (cn _) ?_|refine Qn ?_);simp only[go_sem,seval,t0,t5,t6,rdT,tkv,z1,x1,x3,ev,hm2,hm3,QwM]|refine hK _ ?_;clear hK
     refine Xo.mk (m':=l.length - (l.length - u+x.length)) (by omega) ?_
     rw[hI]
     refine⟨ts++[⟨kd,((l.length - u:Nat):Int),mkB x⟩],l.length - u+x.length,G++[.cells 127 3 [tkv kd ((l.length - u:Nat):Int) x]],rfl,by omega,by simp;omega,⟨m - 1,by omega,hR3⟩,t0,?_,rfl,?_⟩
     ·rw[evs];rfl
     ·rw[QwG];rfl
  ·rw[hI]
   exact⟨[],0,[],rfl,Qw3 _,QwP _,⟨l.length+1,by omega,by rw[<-hR];cases h0:Qbb l.length (l.length+1) l <;> simp[scJ,h0]⟩,rfl,rfl,rfl,rfl⟩
structure OneTk (tot:Nat) (t:Tk):Prop where
 int:t.kind=3->(∀c∈t.text.toList,isD c=true)/\numVal t.text.toList<=2147483648
 pos:0<=t.pos/\t.pos<=tot
 nam:t.kind=1->opB t.text=false
theorem Qqm{x:ByteArray}(h:opB x=true):∃c,x.toList=[c]/\isL c=false:=by
 rcases Qh3.1 h with h|h
 ·simp only[XK,QwS,Qw4,QxK]at h
  rcases h with h|h|h <;> exact⟨_,h,by decide⟩
 ·simp only[YA,QwS,Qw4,QxK]at h
  rcases h with h|h <;> exact⟨_,h,by decide⟩
theorem Qsg{q x:List UInt8}{k:Int}(h:ZK q = .inl (k,x)):(k=3->(∀c∈x,isD c=true)/\numVal x<=2147483648)/\(k=1->opB (mkB x)=false):=by
 cases q with
 |nil=>cases h;exact⟨fun e=>absurd e (by decide),fun e=>absurd e (by decide)⟩
 |cons c r =>
  rw[ZK]at h
  split at h
  ·rename_i hL
   split at h
   ·cases h
   ·cases h
    refine⟨fun e=>by split at e <;> exact absurd e (by decide),fun _=>?_⟩
    cases ho:opB (mkB ((c::r).takeWhile isW))with
    |false=>rfl
    |true =>
     obtain⟨d,h1,h2⟩:=Qqm ho
     have hw:isW c=true:=by unfold isW;rw[hL];rfl
     rw[Qha,Qym,QwN hw,List.cons.injEq]at h1
     rw[h1.1]at hL
     rw[hL]at h2;cases h2
  ·split at h
   ·split at h
    ·cases h
    ·rename_i hb
     cases h
     exact⟨fun _=>⟨fun d hd=>Qxc.1 List.all_takeWhile d hd,by omega⟩,fun e=>absurd e (by decide)⟩
   ·split at h
    ·cases h;exact⟨fun e=>absurd e (by decide),fun e=>absurd e (by decide)⟩
    ·cases h
theorem QlY(tot:Nat):∀(m:Nat) (q:List UInt8) (ts:List Tk),Qbb tot m q = .inl ts->q.length<m->(∀t∈ts,OneTk tot t)/\(∃a e,ts=a++[e]/\e.kind=0/\∀t∈a,t.kind≠0)/\ts.length<=q.length+1
 |0,_,_,_,h=>by omega
 |m+1,q,ts,h,hm=>by
  rw[Qbb]at h
  have hsk:=QcO false q
  cases ht:ZK (XP false q)with
  |inr e=>rw[ht]at h;cases h
  |inl p =>
   obtain⟨k,x⟩:=p
   rw[ht]at h
   simp only at h
   obtain⟨h1,h2⟩:=Qsg ht
   split at h
   ·rename_i k0
    cases h
    refine⟨fun t hm=>?_,⟨[],_,rfl,rfl,fun t h=>(Qw4 h).elim⟩,by simp⟩
    rw[QxG]at hm
    subst hm
    exact⟨fun e=>absurd (show(0:Int)=3 from e) (by decide),⟨by show(0:Int)<=((tot - _:Nat):Int);omega,by show((tot - _:Nat):Int)<=_;omega⟩,fun e=>absurd (show(0:Int)=1 from e) (by decide)⟩
   ·rename_i k0
    rcases Qik ht with⟨k1,_,_⟩|⟨k1,hx1,r,hx2⟩
    ·exact absurd k1 k0
    ·have hxl:0<x.length:=Qx9.2 hx1
     have hxr:x.length<=(XP false q).length:=by rw[hx2,QwG];omega
     cases hs:Qbb tot m ((XP false q).drop x.length)with
     |inr e=>rw[hs]at h;cases h
     |inl us =>
      rw[hs]at h
      cases h
      obtain⟨a1,⟨a,e,a2,a3,a4⟩,a5⟩:=QlY tot m _ us hs (by rw[Qxi];omega)
      rw[Qxi]at a5
      refine⟨fun t hm=>?_,⟨⟨k,_,mkB x⟩::a,e,by rw[a2];rfl,a3,fun t hm=>?_⟩,by simp only[Qv2];omega⟩
      ·rw[QwS]at hm
       rcases hm with rfl|hm
       ·exact⟨fun e=>by rw[Qha];exact h1 e,⟨by show(0:Int)<=((tot - _:Nat):Int);omega,by show((tot - _:Nat):Int)<=_;omega⟩,h2⟩
       ·exact a1 t hm
      ·rw[QwS]at hm
       rcases hm with rfl|hm
       ·exact k1
       ·exact a4 t hm
theorem QmY{l:List UInt8}{ts:List Tk}(h:ZV l = .inl ts):TkOk ts/\Wst ts ⟨ts,[]⟩/\ts.length<=1000000/\l.length<=16384:=by
 rw[ZV]at h
 split at h
 ·cases h
 ·rename_i hl
  obtain⟨h1,⟨a,e,h2,h3,h4⟩,h5⟩:=QlY l.length (l.length+1) l ts h (by omega)
  exact⟨⟨fun t ht=>(h1 t ht).int,fun t ht=>⟨(h1 t ht).pos.1,by have:=(h1 t ht).pos.2;omega⟩,fun t ht=>(h1 t ht).nam⟩,⟨⟨a,e,h2,h3,h4⟩,List.suffix_refl _,by simp⟩,by omega,by omega⟩
end Go.Proofs.YtenheconhibonaaGreatDoor.Ab
namespace Go.Proofs.YtenheconhibonaaGreatDoor.Ab
open Go.Proofs
theorem QjB(tot:Nat):∀(m:Nat) (q:List UInt8) (p:Int×Int),Qbb tot m q = .inr p->p.2≠0
 |0,_,_,h=>by cases h
 |m+1,q,p,h=>by
  rw[Qbb]at h
  cases ht:ZK (XP false q)with
  |inr e=>rw[ht]at h;cases h;exact Ql2 ht
  |inl y =>
   obtain⟨k,x⟩:=y
   rw[ht]at h
   simp only at h
   split at h
   ·cases h
   ·cases hs:Qbb tot m ((XP false q).drop x.length)with
    |inr e=>rw[hs]at h;cases h;exact QjB tot m _ _ hs
    |inl us=>rw[hs]at h;cases h
theorem QeC{l:List UInt8}{p:Int×Int}(h:ZV l = .inr p):p.2≠0:=by
 rw[ZV]at h
 split at h
 ·cases h;decide
 ·exact QjB _ _ _ _ h
theorem QjJ{l:List UInt8}{ts:List Tk}(hs:ZV l = .inl ts)(h:AH)(hG:Qbs h):QT Tryz.prog 106 [.v (.string (mkB l))] h fun o h'=>o = .ret (.agg [.sl 3 (tks ts) none,.i 0])/\h'=h:=by
 have cs:=fun L=>QjA l (h++L) (hG.app L)
 rw[hs,scR]at cs
 have e0:((0:Int) != 0)=false:=rfl
 refine Qb Tryz.func106 rfl Tryz.call106 Tryz.ntmps106 Tryz.results106 (by simp) ?_
 repeat (first|refine FunW.QuW (cs _) ?_|refine Qn ?_);simp only[go_sem,seval]
 refine Qc (htake _ _) (.keep (.agg _ fun a ha=>?_)) ⟨rfl,rfl⟩
 simp only[QwS,Qw4,QxK]at ha
 rcases ha with rfl|rfl
 ·exact .sl 3 _ none (Qe3 _ _) (fun b hb=>by cases hb)
 ·exact .v _
theorem Qm5{l:List UInt8}{p e:Int}(hs:ZV l = .inr (p,e))(h:AH)(hG:Qbs h):QT Tryz.prog 106 [.v (.string (mkB l))] h fun o h'=>o = .panic (Fl p e)/\h'=h:=by
 have cs:=fun L=>QjA l (h++L) (hG.app L)
 rw[hs,scR]at cs
 have e0:(e != 0)=true:=by simpa using QeC hs
 have hu:=Tryz.underlying155
 refine Qb Tryz.func106 rfl Tryz.call106 Tryz.ntmps106 Tryz.results106 (by simp) ?_
 repeat (first|refine FunW.QuW (cs _) ?_|refine Qn ?_);simp only[go_sem,seval,e0,hu]
 exact Qc (htake _ _) (.keep (QcC _ _ _)) ⟨rfl,rfl⟩
def P0(h:AH)(ts:List Tk):Pz:=⟨ts,h.length+2,h.length+4,h.length+3⟩
def hp0(h:AH)(ts:List Tk):AH:=ph (h++[iC 0,eC 0,.cells 117 4 [.agg [.sl 3 (tks ts) none,.i 0,.v (.slice none 0 0),.v (.map none)]]]++[.dead,.dead]) (P0 h ts) ⟨ts,[]⟩
theorem QtB(h:AH)(ts:List Tk)(x:AB):(P0 h ts).ok (h++[iC 0,eC 0,x]++[.dead,.dead]):=by
 refine⟨?_,?_,?_,?_,?_,?_⟩ <;> simp only[P0,QwG,Qv2,Qv3] <;> omega
theorem QqS(h:AH)(ts:List Tk):QT Tryz.prog 107 [.ptr (h.length+2) 0 0] (h++[iC 0,eC 0,.cells 117 4 [.agg [.sl 3 (tks ts) none,.i 0,.v (.slice none 0 0),.v (.map none)]]]) fun o h'=>o = .ret (.tup [])/\h'=hp0 h ts:=by
 have:=Qkd (X:=h++[iC 0,eC 0,.cells 117 4 [.agg [.sl 3 (tks ts) none,.i 0,.v (.slice none 0 0),.v (.map none)]]]) (P:=P0 h ts) (s:=⟨ts,[]⟩) (by
  show(h++_)[h.length+2]? = _
  rw[hget]
  simp only[P0,Qxy];rfl) (by simp[P0])
 refine this.mono ?_
 rintro o h' ⟨rfl,rfl⟩
 refine⟨rfl,?_⟩
 rw[hp0]
 congr 1
 simp[P0,Pz.to]
theorem panQ{P:Program}{rs:List ResultVar}{h H:AH}{Q:AOut->AH->Prop}{tm:Nat->AV}{p e a0 e0:Int}{k:Nat}(hP:P=Tryz.prog)(hk:H[k]? = some (iC a0))(hk1:H[k+1]? = some (eC e0))(hq:∀L,QS P rs h Q .ret ⟨tm,(H.set k (iC p)).set (k+1) (eC e)++L⟩) :
  Qe7 P rs h Q [(105,[.ptr k 0 0,.ptr (k+1) 0 0])] (.pan (Fl p e) false) ⟨tm,H⟩:=by
 subst hP
 simp only[Qe7]
 refine Z9.Qvv (Qo0 hk hk1 p e) ?_
 rintro m' h' ⟨rfl,L,rfl⟩
 exact hq L
theorem rtQ{P:Program}{rs:List ResultVar}{h H:AH}{Q:AOut->AH->Prop}{tm:Nat->AV}{k:Nat}(hP:P=Tryz.prog)(hq:QS P rs h Q .ret ⟨tm,H⟩) :
  Qe7 P rs h Q [(105,[.ptr k 0 0,.ptr (k+1) 0 0])] .ret ⟨tm,H⟩:=by
 subst hP
 simp only[Qe7]
 refine Z9.Qvv Qo1 ?_
 rintro m' h' ⟨rfl,rfl⟩
 exact hq
theorem Qnc(n:Nat)(a b:Int):Below n (.tup [.i a,.i b]):=.tup _ fun x hx=>by
 simp only[QwS,Qw4,QxK]at hx
 rcases hx with rfl|rfl <;> exact .v _
theorem Qo4{l:List UInt8}{p e:Int}(hs:ZV l = .inr (p,e))(fv:AV)(h:AH)(hG:Qbs h):QT Tryz.prog 65 [.v (.string (mkB l)),fv] h fun o h'=>o = .ret (.tup [.i p,.i e])/\h'=h:=by
 have cs:=fun L=>Qm5 hs (h++L) (hG.app L)
 refine Qao Tryz.func65 rfl Tryz.call65 Tryz.ntmps65 (Qxm Array.toList Tryz.results65) (by simp) ?_
 refine YP (Ys ?_)
 repeat refine Qn ?_;simp only[go_sem,seval]
 show DefW _ _ _ _ _ _
 refine YP (QbO 1 rfl rfl rfl ?_)
 simp only[go_sem,seval]
 refine⟨_,_,_,rfl,?_⟩
 show DefW _ _ _ _ _ _
 refine YP (Ys ?_)
 repeat (first|refine FunW.pan (FunW.call (cs _)) ?_|refine Qn ?_);simp only[go_sem,seval]
 simp only[AExit.QvJ,QjW]
 refine panQ (a0:=0) (e0:=0) rfl (by rw[Q8];rfl) (by rw[hget];rfl) fun L=>?_
 rw[Yd,hset]
 simp only[go_sem,seval,QwM]
 exact Qc (htake _ _) (.keep (Qnc _ _ _)) ⟨rfl,rfl⟩
section
variable{l:List UInt8}{ts:List Tk}(hs:ZV l = .inl ts)(fv:AV)(h:AH)(hG:Qbs h)(Ok:AH->Prop)(hOk:∀Y a b L,h.length+1<Y.length->Ok Y->Ok ((Y.set h.length a).set (h.length+1) b++L))
include hs hG hOk
theorem Qr4(HF:FunW Tryz.prog fv [.ptr (h.length+2) 0 0] (hp0 h ts) fun o h'=>o = .ret (.tup [])/\∃Y:{Y:AH // Y[h.length]? = some (iC 0)/\Y[h.length+1]? = some (eC 0)/\Ok Y},h'=Y.1) :
  QT Tryz.prog 65 [.v (.string (mkB l)),fv] h fun o h'=>o = .ret (.tup [.i 0,.i 0])/\∃Y:{Y:AH // Ok Y},h'=Y.1:=by
 have cs:=fun L=>QjJ hs (h++L) (hG.app L)
 have cc:=QqS h ts
 refine Qao Tryz.func65 rfl Tryz.call65 Tryz.ntmps65 (Qxm Array.toList Tryz.results65) (by simp) ?_
 refine YP (Ys ?_)
 repeat refine Qn ?_;simp only[go_sem,seval]
 show DefW _ _ _ _ _ _
 refine YP (QbO 1 rfl rfl rfl ?_)
 simp only[go_sem,seval]
 refine⟨_,_,_,rfl,?_⟩
 show DefW _ _ _ _ _ _
 refine YP (Ys ?_)
 repeat (first|refine FunW.QuW (cs _) ?_|refine Qn ?_);simp only[go_sem,seval]
 show DefW _ _ _ _ _ _
 refine YP (Ys ?_)
 repeat (first|refine FunW.QuW cc ?_|refine Qn ?_);simp only[go_sem,seval]
 show DefW _ _ _ _ _ _
 refine YP (Ys ?_)
 repeat (first|refine FunW.retE HF fun Y=>?_|refine Qn ?_);simp only[go_sem,seval]
 have hY:=Y.2
 generalize Y.1=Y1 at *
 obtain⟨y1,y2,y3⟩:=hY
 have l1:=Qv y1
 have l2:=Qv y2
 repeat refine Qn ?_;simp only[go_sem,seval]
 show DefW _ _ _ _ _ _
 refine Ys ?_
 have u1:∀y,(Y1.set h.length y)[h.length+1]? = some (eC 0):=fun y=>by rw[QwL (by omega)];exact y2
 have u2:∀y z,((Y1.set h.length y).set (h.length+1) z)[h.length]? = some y:=fun y z=>by rw[QwL (by omega),QwR l1]
 have u3:∀y z,((Y1.set h.length y).set (h.length+1) z)[h.length+1]? = some z:=fun y z=>QwR (by rw[QwZ];exact l2)
 repeat refine Qn ?_;simp only[go_sem,seval,y1,u1]
 simp only[QjW]
 refine rtQ rfl ?_
 simp only[go_sem,seval,u2,u3]
 have:=hOk Y1 (iC 0) (eC 0) [] l2 y3
 rw[Qwi]at this
 exact .inr ⟨rfl,⟨_,this⟩,rfl⟩
theorem Qqv{p e:Int}(HF:FunW Tryz.prog fv [.ptr (h.length+2) 0 0] (hp0 h ts) fun o h'=>o = .panic (Fl p e)/\∃Y:{Y:AH // Y[h.length]? = some (iC 0)/\Y[h.length+1]? = some (eC 0)/\Ok Y},h'=Y.1) :
  QT Tryz.prog 65 [.v (.string (mkB l)),fv] h fun o h'=>o = .ret (.tup [.i p,.i e])/\∃Y:{Y:AH // Ok Y},h'=Y.1:=by
 have cs:=fun L=>QjJ hs (h++L) (hG.app L)
 have cc:=QqS h ts
 refine Qao Tryz.func65 rfl Tryz.call65 Tryz.ntmps65 (Qxm Array.toList Tryz.results65) (by simp) ?_
 refine YP (Ys ?_)
 repeat refine Qn ?_;simp only[go_sem,seval]
 show DefW _ _ _ _ _ _
 refine YP (QbO 1 rfl rfl rfl ?_)
 simp only[go_sem,seval]
 refine⟨_,_,_,rfl,?_⟩
 show DefW _ _ _ _ _ _
 refine YP (Ys ?_)
 repeat (first|refine FunW.QuW (cs _) ?_|refine Qn ?_);simp only[go_sem,seval]
 show DefW _ _ _ _ _ _
 refine YP (Ys ?_)
 repeat (first|refine FunW.QuW cc ?_|refine Qn ?_);simp only[go_sem,seval]
 show DefW _ _ _ _ _ _
 refine YP (Ys ?_)
 repeat (first|refine FunW.panE HF fun Y=>?_|refine Qn ?_);simp only[go_sem,seval]
 have hY:=Y.2
 generalize Y.1=Y1 at *
 obtain⟨y1,y2,y3⟩:=hY
 have l1:=Qv y1
 have l2:=Qv y2
 simp only[AExit.QvJ,QjW]
 refine panQ rfl y1 y2 fun L=>?_
 have u2:∀y z,((Y1.set h.length y).set (h.length+1) z++L)[h.length]? = some y:=fun y z=>by rw[QwI (by simp only[QwZ];exact l1),QwL (by omega),QwR l1]
 have u3:∀y z,((Y1.set h.length y).set (h.length+1) z++L)[h.length+1]? = some z:=fun y z=>by rw[QwI (by simp only[QwZ];exact l2)];exact QwR (by rw[QwZ];exact l2)
 simp only[go_sem,seval,u2,u3]
 exact .inr ⟨rfl,⟨_,hOk Y1 (iC p) (eC e) L l2 y3⟩,rfl⟩
end
end Go.Proofs.YtenheconhibonaaGreatDoor.Ab
namespace Go.Proofs.YtenheconhibonaaGreatDoor.Ab
open Go.Proofs
theorem FunW.cl{P:Program}{f:FuncId}{args cap:List AV}{h:AH}{Q:AOut->AH->Prop}(H:QT P f (args++cap) h Q):FunW P (.fn (.func f) [] cap) args h Q:=FunW.fn (by rw[Qwg];exact H)
section
variable(l:List UInt8)(h:AH)(hG:Qbs h)
include hG
end
end Go.Proofs.YtenheconhibonaaGreatDoor.Ab
namespace Go.Proofs.YtenheconhibonaaGreatDoor.Ab
open Go.Proofs
def tvB(n:Nat)(l:List Int):Prop:=∀v∈l,0<=v/\v<n
theorem tvB.mono{n m:Nat}{l:List Int}(h:tvB n l)(hn:n<=m):tvB m l:=fun v hv=>by have:=h v hv;omega
theorem tvB.app{n:Nat}{l m:List Int}(h:tvB n l)(k:tvB n m):tvB n (l++m):=fun v hv=>(Qxf.1 hv).elim (h v) (k v)
theorem Qa9(n:Nat):tvB n []:=fun v hv=>(Qw4 hv).elim
def VbT(f:PS->PR T):Prop:=∀s t s2,f s = .ok t s2->s.names.length<=s2.names.length/\tvB s2.names.length t.vars/\tvB s2.names.length (Xd t.args)
theorem QcR{b:List UInt8}{s s2:PS}{u:Unit}(h:Z8 b s = .ok u s2):s2.names=s.names:=by
 unfold Z8 at h
 split at h
 ·cases h;rfl
 ·cases h
theorem QmG{s s2:PS}{x:ByteArray}(h:Qco s = .ok x s2):s2.names=s.names:=by
 unfold Qco at h
 split at h
 ·cases h
 ·split at h
  ·cases h
  ·cases h;rfl
theorem Ql5(t:T):Xd [t]=t.vars:=by simp[Xd]
section
variable{ex:PS->PR T}(H:VbT ex)
include H
theorem Qnr:∀(m:Nat) (l:List T) (s:PS) (a:List T) (s2:PS),tvB s.names.length (Xd l)->Zh ex m l s = .ok a s2->s.names.length<=s2.names.length/\tvB s2.names.length (Xd a)
 |0,_,_,_,_,_,h=>by cases h
 |m+1,l,s,a,s2,hl,h=>by
  rw[Zh]at h
  obtain⟨t,s1,h1,h⟩:=bind_ok h
  obtain⟨a1,a2,_⟩:=H s t s1 h1
  have hl2:tvB s1.names.length (Xd (l++[t])):=by rw[Z5,Ql5];exact(hl.mono a1).app a2
  split at h
  ·obtain⟨b1,b2⟩:=Qnr m (l++[t]) s1.nx a s2 hl2 h
   exact⟨Qw8 a1 b1,b2⟩
  ·obtain⟨u,s3,h3,h⟩:=bind_ok h
   have e:=QcR h3
   cases h
   rw[e];exact⟨a1,hl2⟩
theorem Qro{s s2:PS}{g:G}(h:ZH ex s = .ok g s2):s.names.length<=s2.names.length/\tvB s2.names.length (Xd g.args):=by
 rw[ZH]at h
 obtain⟨x,s1,h1,h⟩:=bind_ok h
 have e:=QmG h1
 split at h
 ·obtain⟨l,s3,h3,h⟩:=bind_ok h
  obtain⟨b1,b2⟩:=Qnr H _ [] s1.nx l s3 (by rw[Xd];exact Qa9 _) h3
  cases h
  exact⟨by rw[<-e];exact b1,b2⟩
 ·cases h
  exact⟨by rw[e];exact QwP _,by show tvB _ (Xd []);rw[Xd];exact Qa9 _⟩
theorem QsX:VbT (pOpT ex):=fun s t s2 h=>by
 unfold pOpT at h
 split at h
 ·cases h;exact⟨QwP _,by simp only[T.vars];exact Qa9 _,Qa9 _⟩
 ·split at h
  ·unfold pVari at h
   split at h
   ·rename_i hv
    cases h
    refine⟨QwP _,?_,Qa9 _⟩
    show tvB s.nx.names.length [_]
    intro v hm
    rw[QxG]at hm
    subst hm
    omega
   ·cases h
    refine⟨by show s.names.length<=(s.nx.names++[_]).length;rw[QwG];exact Nat.le_add_right _ _,?_,Qa9 _⟩
    show tvB (s.nx.names++[_]).length [_]
    intro v hm
    rw[QxG]at hm
    subst hm
    rw[QwG,Qyc]
    omega
  ·split at h
   ·obtain⟨a,s1,h1,h⟩:=bind_ok h
    obtain⟨b1,b2⟩:=Qro H h1
    cases h
    refine⟨b1,?_,b2⟩
    simp only[T.vars]
    exact b2
   ·split at h
    ·split at h
     ·cases h
     ·cases h;exact⟨QwP _,by simp only[T.vars];exact Qa9 _,Qa9 _⟩
    ·split at h
     ·obtain⟨t1,s1,h1,h⟩:=bind_ok h
      obtain⟨u,s3,h3,h⟩:=bind_ok h
      obtain⟨a1,a2⟩:=H _ _ _ h1
      have e:=QcR h3
      cases h
      rw[e];exact⟨a1,a2⟩
     ·cases h
end
theorem QiJ{op:PS->PR T}(H:VbT op)(ops:List (List UInt8)):∀(m:Nat) (t:T) (s:PS) (a:T) (s2:PS),tvB s.names.length t.vars->tvB s.names.length (Xd t.args)->XX op ops m t s = .ok a s2->s.names.length<=s2.names.length/\tvB s2.names.length a.vars/\tvB s2.names.length (Xd a.args)
 |0,t,s,a,s2,ht,hk,h=>by cases h;exact⟨QwP _,ht,hk⟩
 |m+1,t,s,a,s2,ht,hk,h=>by
  rw[XX]at h
  split at h
  ·obtain⟨u,s3,h3,h⟩:=bind_ok h
   obtain⟨a1,a2,_⟩:=H _ _ _ h3
   have a1':s.names.length<=s3.names.length:=a1
   have hv:tvB s3.names.length (Xd [t,u]):=by simp only[Xd,Qwi];exact(ht.mono a1').app a2
   obtain⟨b1,b2⟩:=QiJ H ops m (.mk 2 0 s.tk.text [t,u]) s3 a s2 (by simp only[T.vars];exact hv) hv h
   exact⟨Qw8 a1' b1,b2⟩
  ·cases h;exact⟨QwP _,ht,hk⟩
theorem Qld{op:PS->PR T}(H:VbT op)(ops:List (List UInt8)):VbT (XN op ops):=fun s t s2 h=>by
 rw[XN]at h
 obtain⟨u,s1,h1,h⟩:=bind_ok h
 obtain⟨a1,a2,a3⟩:=H _ _ _ h1
 obtain⟨b1,b2⟩:=QiJ H ops _ u s1 t s2 a2 a3 h
 exact⟨Qw8 a1 b1,b2⟩
theorem Qlk:∀n:Nat,VbT (YE n)
 |0=>fun s t s2 h=>by cases h
 |n+1=>Qld (Qld (QsX (Qlk n)) XK) YA
theorem Qig:VbT X7:=fun s t s2 h=>Qlk _ s t s2 h
theorem QoF{op:Int}{s s2:PS}{g:G}(h:Qcp op s = .ok g s2):s.names.length<=s2.names.length/\tvB s2.names.length (Xd g.args):=by
 rw[Qcp]at h
 obtain⟨u,s1,h1,h⟩:=bind_ok h
 obtain⟨t,s3,h3,h⟩:=bind_ok h
 obtain⟨w,s4,h4,h⟩:=bind_ok h
 obtain⟨a1,a2,_⟩:=Qig _ _ _ h3
 have e1:=QcR h1
 have e4:=QcR h4
 cases h
 rw[e4]
 exact⟨by rw[<-e1];exact a1,by show tvB _ (Xd [t]);rw[Ql5];exact a2⟩
theorem QpY{s s2:PS}{g:G}(h:Y9 s = .ok g s2):s.names.length<=s2.names.length/\tvB s2.names.length (Xd g.args):=by
 have e0:Xd []=[]:=rfl
 unfold Y9 at h
 split at h
 ·split at h
  ·cases h;exact⟨QwP _,by show tvB _ (Xd []);rw[e0];exact Qa9 _⟩
  ·split at h
   ·cases h;exact⟨QwP _,by show tvB _ (Xd []);rw[e0];exact Qa9 _⟩
   ·split at h
    ·exact QoF (s:=s.nx) h
    ·split at h
     ·exact QoF (s:=s.nx) h
     ·cases h
 ·obtain⟨t,s1,h1,h⟩:=bind_ok h
  obtain⟨a1,a2,a3⟩:=Qig _ _ _ h1
  split at h
  ·rename_i op turn hc
   obtain⟨u,s3,h3,h⟩:=bind_ok h
   obtain⟨b1,b2,_⟩:=Qig _ _ _ h3
   have b1':s1.names.length<=s3.names.length:=b1
   cases h
   refine⟨Qw8 a1 b1',?_⟩
   show tvB s2.names.length (Xd (if turn=true then[u,t]else[t,u]))
   split
   ·simp only[Xd,Qwi];exact b2.app (a2.mono b1')
   ·simp only[Xd,Qwi];exact(a2.mono b1').app b2
  ·split at h
   ·cases h
    exact⟨a1,a3⟩
   ·cases h
theorem Qku(l:List G)(g:G):XI (l++[g])=XI l++Xd g.args:=by simp[XI]
theorem Qi1(most:Nat):∀(m:Nat) (l:List G) (s:PS) (a:List G) (s2:PS),tvB s.names.length (XI l)->YS most m l s = .ok a s2->s.names.length<=s2.names.length/\tvB s2.names.length (XI a)
 |0,_,_,_,_,_,h=>by cases h
 |m+1,l,s,a,s2,hl,h=>by
  rw[YS]at h
  split at h
  ·cases h
  ·obtain⟨g,s1,h1,h⟩:=bind_ok h
   obtain⟨a1,a2⟩:=QpY h1
   have hl2:tvB s1.names.length (XI (l++[g])):=by rw[Qku];exact(hl.mono a1).app a2
   split at h
   ·cases h
   ·split at h
    ·obtain⟨b1,b2⟩:=Qi1 most m _ s1.nx a s2 hl2 h
     exact⟨Qw8 a1 b1,b2⟩
    ·cases h;exact⟨a1,hl2⟩
theorem Qp1{most:Nat}{s s2:PS}{a:List G}(h:QbF most s = .ok a s2):tvB s2.names.length (XI a):=(Qi1 most _ [] s a s2 (Qa9 _) h).2
end Go.Proofs.YtenheconhibonaaGreatDoor.Ab
namespace Go.Proofs.YtenheconhibonaaGreatDoor.Ab
open Go.Proofs
structure KpG (h:AH) (P:Pz) (o o2:Nat) (Y:AH):Prop where
 long:h.length<=Y.length
 out:∀i,i<h.length->i≠o->i≠o2->i≠P.i->i≠P.j->i≠P.g->Y[i]? = h[i]?
def GfQ(h:AH)(P:Pz)(o o2:Nat):PR (List G×List ByteArray)->AOut->AH->Prop
 | .ok q _,x,h'=>x = .ret (.tup [])/\∃Y:{Y:AH // KpG h P o o2 Y/\Y[o]? = some (.cells 23 1 [.sl 3 (lvG gv h.length q.1) none])/\At Y h.length (layG 69 h.length q.1)/\Y[o2]? = some (.cells 48 1 [.sl 1 (strs q.2) none])},h'=Y.1
 | .err p e,x,h'=>x = .panic (Fl p e)/\∃Y:{Y:AH // KpG h P o o2 Y/\Y[o2]? = h[o2]?},h'=Y.1
def qV(l:List G):List G:=l.map fun g=>⟨g.op,g.name,maps (fun v=>((plc (ded [] (XI l)) v:Nat):Int)) g.args⟩
def qN(s:PS)(l:List G):List ByteArray:=(ded [] (XI l)).map fun v=>s.names.getD v.toNat eB
theorem Qjr(s:PS):Qf3 s=(QbF 40 s).bind fun l s=>(pEnd s).bind fun _ s=>.ok (qV l,qN s l) s:=rfl
theorem QoY(l:List G):Xh gG [] l=(qV l,ded [] (XI l)):=by
 have:=QlA [] l []
 simp only[Qwi]at this
 exact this
mutual
theorem T.QvA:∀t:T,t.vars.length<=t.nds
 | .mk k i x l=>by
  have:=Qgm l
  simp only[T.vars,T.nds]
  split
  ·simp
  ·split
   ·omega
   ·simp
theorem Qgm:∀l:List T,(Xd l).length<=ndsL l
 |[]=>by simp[Xd]
 |t::l=>by
  have h1:=T.QvA t
  have h2:=Qgm l
  simp only[Xd,ndsL,QwG]
  omega
end
theorem QgY:∀l:List G,(XI l).length<=ndG l
 |[]=>QwP _
 |g::l=>by
  have h1:=Qgm g.args
  have h2:=QgY l
  have e:XI (g::l)=Xd g.args++XI l:=by simp[XI]
  rw[e,QwG,ndG];omega
section
variable{P:Pz}{s:PS}(hW:Wst P.all s){h:AH}(H:P.ok h)(hN:P.all.length<=1000000)(hD:TkOk P.all){o o2:Nat}(hol:o<h.length)(hoi:o≠P.i)(hoj:o≠P.j)(hog:o≠P.g)
 (hpl:o2<h.length) (hpi:o2≠P.i) (hpj:o2≠P.j) (hpg:o2≠P.g) (hoo:o≠o2)
include hW H hN hD hol hoi hoj hog hpl hpi hpj hpg hoo
theorem QkQ(hob:h[o]? = some (.cells 23 1 [nilV]))(hob2:h[o2]? = some (.cells 48 1 [nilV])):QT Tryz.prog 66 [.ptr P.i 0 0,.ptr o 0 0,.ptr o2 0 0] (ph h P s) (GfQ h P o o2 (Qf3 s)):=by
 have cg:=Qkt hW H hN hD 40 (by omega)
 rw[Qjr]
 cases hr:QbF 40 s with
 |err p e =>
  rw[hr]at cg
  have cg2:QT Tryz.prog 67 [.ptr P.i 0 0,.i 40] (ph h P s) fun o h'=>o = .panic (Fl p e)/\∃s2:PS,h'=ph h P s2:=cg
  refine Qb Tryz.func66 rfl Tryz.call66 Tryz.ntmps66 Tryz.results66 (by simp) ?_
  with_reducible repeat first|(first|refine Qa fun K E hK hE=>?_|refine FunW.panE (FunW.call cg2) fun r=>?_);simp only[go_sem,seval]|refine hE _ _ ?_
  exact .inr ⟨rfl,⟨_,⟨by rw[Xm];exact QwP _,fun i h1 h2 h3 h4 h5 h6=>by rw[QdA H h4 h5 h6]⟩,by rw[QdA H hpi hpj hpg]⟩,rfl⟩
 |ok l s2 =>
  rw[hr]at cg
  have cg2:QT Tryz.prog 67 [.ptr P.i 0 0,.i 40] (ph h P s) fun o h'=>o = .ret (.sl 3 (lvG gv h.length l) none)/\h'=ph h P s2++layG 69 h.length l:=cg
  have hW2:Wst P.all s2:=Kp.Ps.ok (n:=wdOf P.all) (Kp.goals_ps trivial 40) hW hr
  have hl0:=Qp0 hr
  have f1:=Xm h P s2
  obtain⟨X,hX⟩:∃X,X=(ph h P s2++layG 69 h.length l).set o (.cells 23 1 [.sl 3 (lvG gv h.length l) none]):=⟨_,rfl⟩
  have hXl:X.length=h.length+gsz l:=by rw[hX,QwZ,QwG,Xm,Y6]
  have g0:(ph h P s2++layG 69 h.length l)[o]? = some (.cells 23 1 [nilV]):=by rw[QwI (by omega),QdA H hoi hoj hog];exact hob
  have hXo:X[o]? = some (.cells 23 1 [.sl 3 (lvG gv h.length l) none]):=by rw[hX];exact QwR (by rw[QwG];omega)
  have hXi:X[P.i]? = some (pN P s2 (some P.g)):=by rw[hX,QwL hoi,QwI (by rw[f1];exact H.i),YI H];rfl
  have hXlow:∀i,i<h.length->i≠o->i≠P.i->i≠P.j->i≠P.g->X[i]? = h[i]? := fun i h1 h2 h3 h4 h5=>by rw[hX,QwL (Qya h2),QwI (by omega),QdA H h3 h4 h5]
  have hXA:At X h.length (layG 69 h.length l):=by
   have:=At.base (At.mid [] (layG 69 h.length l) [] rfl) f1
   rw[Qwg,Qwi]at this
   refine At.keep this fun i i1 i2=>?_
   rw[hX,QwL (by omega)]
  have hi3:=hXi
  rw[pN]at hi3
  by_cases hk:s2.tk.kind=0
  ·have ce:=QpT hW2 hXi hk
   have hE:((PR.ok l s2).bind fun l s=>(pEnd s).bind fun _ s=>PR.ok (qV l,qN s l) s) = .ok (qV l,qN s2 l) s2:=by
    have:pEnd s2 = .ok () s2:=by rw[pEnd,QwN hk]
    show(pEnd s2).bind _=_
    rw[this];rfl
   rw[hE]
   rw[hX]at ce hi3
   refine Qb Tryz.func66 rfl Tryz.call66 Tryz.ntmps66 Tryz.results66 (by simp) ?_
   iterate 6 (try (first|((first|(with_reducible (first|refine Qa fun K E hK hE=>?_|refine FunW.QuW cg2 ?_|refine FunW.QuW ce ?_)));simp only[go_sem,seval,g0,hi3])|((with_reducible refine hK _ ?_);clear hK)))
   rw[<-hX]
   have hXo2:X[o2]? = some (.cells 48 1 [nilV]):=by rw[hXlow o2 hpl (Qya hoo) hpi hpj hpg];exact hob2
   refine QaP o2 48 1 1 (.grow 9 1 0) (.inr ⟨_,rfl⟩) [nilV] [.sl 1 [] (some X.length)] 0 hXo2 rfl rfl (by simp[AV.cells]) ?_
   obtain⟨X2,hX2⟩:∃X2,X2=(X++[AB.grow 9 1 0]).set o2 (.cells 48 1 [.sl 1 [] (some X.length)]):=⟨_,rfl⟩
   rw[<-hX2]
   have hX2l:X2.length=X.length+1:=by rw[hX2,QwZ,QwG];rfl
   have hX2e:∀i,i<X.length->i≠o2->X2[i]? = X[i]? := fun i h1 h2=>by rw[hX2,QwL (Qya h2),QwI h1]
   have hX2p:X2[o2]? = some (.cells 48 1 [.sl 1 [] (some X.length)]):=by rw[hX2];exact QwR (by rw[QwG];omega)
   have hX2t:X2[X.length]? = some (.grow 9 1 0):=by rw[hX2,QwL (by omega),QwO (QwP _),Qxy];rfl
   iterate 2 (try (first|(((with_reducible refine Qa fun K E hK hE=>?_));simp only[go_sem,seval])|((with_reducible refine hK _ ?_);clear hK)))
   refine QaP X2.length 119 2 1 (.grow 3 1 0) (.inr ⟨_,rfl⟩) [.agg [.v (.map none),.v (.slice none 0 0)]] [.agg [.v (.map none),.sl 1 [] (some (X2.length+1))]] 1 (by rw[QwO (QwP _),Qxy];rfl) rfl (by rw[QwG];rfl) (by simp[AV.cells]) ?_
   have hZ:((X2++[AB.cells 119 2 [.agg [.v (.map none),.v (.slice none 0 0)]]])++[AB.grow 3 1 0]).set X2.length (AB.cells 119 2 [.agg [.v (.map none),.sl 1 [] (some (X2.length+1))]])=X2++[AB.cells 119 2 [.agg [.v (.map none),.sl 1 [] (some (X2.length+1))]],AB.grow 3 1 0]:=by
    rw[QwM,QxH _ _ (QwP _),Qxy];rfl
   have hN0:NSt (X2++[AB.cells 119 2 [.agg [.v (.map none),.sl 1 [] (some (X2.length+1))]],.grow 3 1 0]) X2.length []:=⟨.v (.map none),by rw[QwO (QwP _),Qxy];rfl,by rw[QwO (by omega),QxX];rfl,.inl ⟨rfl,rfl⟩⟩
   rw[hZ]
   obtain⟨Z0,hZ0⟩:∃Z0,Z0=X2++[AB.cells 119 2 [.agg [.v (.map none),.sl 1 [] (some (X2.length+1))]],AB.grow 3 1 0]:=⟨_,rfl⟩
   rw[<-hZ0]at hN0
   rw[<-hZ0]
   have hZl:Z0.length=X2.length+2:=by rw[hZ0,QwG];rfl
   have hZe:∀i,i<X2.length->Z0[i]? = X2[i]? := fun i h1=>by rw[hZ0,QwI h1]
   obtain⟨hok,hl40⟩:=Qmw hr
   have hps:∀g∈l,pss g.args:=fun g hg=>(Qlq (hok g hg)).1
   have hnd:∀m:List G,(∀g∈m,ndsL g.args<=200)->ndG m<=200 * m.length:=fun m=>by
    induction m with
    |nil=>intro _;exact QwP _
    |cons g m ih =>
     intro hm
     have h1:=hm g (by simp)
     have h2:=ih fun x hx=>hm x (by simp[hx])
     rw[ndG,Qv2];omega
   have hnl:=hnd l fun g hg=>(Qlq (hok g hg)).2
   have hZA:At Z0 h.length (layG 69 h.length l):=hXA.keep fun i i1 i2=>by rw[Y6]at i2;rw[hZe i (by omega),hX2e i (by omega) (by omega)]
   have hZo:Z0[o]? = some (.cells 23 1 [.sl 3 (lvG gv h.length l) none]):=by rw[hZe o (by omega),hX2e o (by omega) hoo];exact hXo
   have c1:=retQ (Qn1 l hps Z0 X2.length h.length [] (by omega) (by simp only[Qv3];omega) (by omega) (by omega) hN0 hZA)
   rw[Qth gv 3 h.length hl0]at c1
   with_reducible repeat first|(first|refine Qa fun K E hK hE=>?_|refine FunW.retE (FunW.call c1) fun Y=>?_);simp only[go_sem,seval,hZo]|refine hK _ ?_;clear hK
   have hY:=Y.2
   generalize Y.1=Y1 at *
   obtain⟨_,p1,n1,a1⟩:=hY
   rw[QoY]at n1 a1
   simp only at n1 a1
   obtain⟨toV,z1,z2,z3⟩:=n1
   have hvb:=Qp1 hr
   generalize hOr:ded [] (XI l)=ord at *
   have hord:∀v∈ord,0<=v/\v<s2.names.length:=fun v hv=>hvb v (by rw[<-hOr,Qd6]at hv;exact hv.resolve_left (Qw4))
   have hl1:X2.length+1<Y1.length:=Qv z2
   have hYe:∀i,i<X2.length->¬(h.length<=i/\i<h.length+gsz l)->Y1[i]? = X2[i]? := fun i h1 h2=>by rw[p1.out i h1 h2,hZe i h1]
   have hYi:Y1[P.i]? = some (pN P s2 (some P.g)):=by rw[hYe P.i (by have:=H.i;omega) (by have:=H.i;omega),hX2e P.i (by have:=H.i;omega) (Qya hpi)];exact hXi
   have hYo:Y1[o]? = some (.cells 23 1 [.sl 3 (lvG gv h.length l) none]):=by rw[hYe o (by omega) (by omega),hX2e o (by omega) hoo];exact hXo
   have hYp:Y1[o2]? = some (.cells 48 1 [.sl 1 [] (some X.length)]):=by rw[hYe o2 (by omega) (by omega)];exact hX2p
   have hYt:Y1[X.length]? = some (.grow 9 1 0):=by rw[hYe X.length (by omega) (by omega)];exact hX2t
   have hYk:KpG h P o o2 Y1:=⟨by omega,fun i h1 h2 h3 h4 h5 h6=>by rw[hYe i (by omega) (by omega),hX2e i (by omega) h3];exact hXlow i h1 h2 h4 h5 h6⟩
   have hqn:qN s2 l=ord.map fun v=>s2.names.getD v.toNat eB:=by rw[qN,hOr]
   have hnm:(qN s2 l).length=ord.length:=by rw[hqn,Qxj]
   have hob:ord.length<=1000000:=by
    have:=Y2 [] (XI l)
    have h3:(XI l).length<=ndG l:=QgY l
    rw[hOr]at this
    simp only[Qv3]at this
    omega
   simp only[Qo,QvP,QvQ,QvR,Xn,z1,Xn]
   iterate 1 (try (((with_reducible refine hK _ ?_);clear hK)))
   iterate 2 (try ((with_reducible refine Qj ?_)))
   obtain⟨I,hI⟩:∃I:Nat->AS->Prop,I=fun m' s=>∃j:Nat,m'=ord.length - j/\j<=ord.length/\s.h.length=Y1.length/\(∀i,i≠o2->i≠X.length->s.h[i]? = Y1[i]?)/\s.h[o2]? = some (.cells 48 1 [.sl 1 (strs ((qN s2 l).take j)) (some X.length)])/\s.h[X.length]? = some (.grow 9 1 j)/\s.tm 0 = .ptr P.i 0 0/\s.tm 2 = .ptr o2 0 0/\s.tm 16 = .sl 1 (ints ord) (some (X2.length+1))/\s.tm 17 = .i ord.length/\s.tm 18 = .i j:=⟨_,rfl⟩;refine QZ I ?_ (m:=ord.length) ?_
   ·intro m' s hs;rw[hI]at hs;obtain⟨tm,hp⟩:=s;dsimp only at hs;obtain⟨j,rfl,hj,hle,hfr,hs2,hst,t0,t2,t16,t17,t18⟩:=hs
    have hpi2:hp[P.i]? = some (pN P s2 (some P.g)):=by rw[hfr P.i (Qya hpi) (by have:=H.i;omega)];exact hYi
    rw[pN]at hpi2
    by_cases hlt:j<ord.length
    ·have y1:((j:Nat):Int)<((ord.length:Nat):Int):=by omega
     have hv:=hord _ (Qxk hlt)
     obtain⟨k,hk⟩:∃k:Nat,ord[j]=(k:Int):=⟨ord[j].toNat,by omega⟩
     have hat:(ints ord)[j]? = some (.i ((k:Nat):Int)):=by rw[<-hk];exact QeS hlt
     rw[hk]at hv
     have hkl:k<s2.names.length:=by omega
     have hnk:(strs s2.names)[k]? = some (.v (.string s2.names[k])):=by rw[strs,Qxd,QwK hkl];rfl
     have w1:IntKind.i64.wrap (((j:Nat):Int)+1)=((j+1:Nat):Int):=Xe (by omega)
     have htl:(strs ((qN s2 l).take j)).length=j:=by rw[ZW,Qw9,hnm];omega
     have hm1:(j+1) * 16<=140737488355328:=by omega
     have hm2:j+1<=maxLen:=by simp only[maxLen];omega
     have hX9:X.length<hp.length:=Qv hst
     have u1:∀y,(hp.set X.length y)[o2]? = some (.cells 48 1 [.sl 1 (strs ((qN s2 l).take j)) (some X.length)]):=fun y=>by rw[QwL (by omega)];exact hs2
     have hnext:strs ((qN s2 l).take (j+1))=strs ((qN s2 l).take j)++[.v (.string s2.names[k])]:=by
      rw[Qxq (by omega),Qdc]
      congr 1
      simp only[hqn,List.getElem_map,hk,Qws,strs,Qv4,Qv8]
      rw[Qxe,QwK hkl];rfl
     repeat first|(first|with_reducible (first|refine Qa fun K E hK hE=>?_|refine Ql fun K E hK hE=>?_)|refine Xu (id:=7) [(0,0),(1,0),(2,0),(3,0),(4,0),(5,0),(6,0),(7,0),(8,0),(9,2),(10,2)] mixed (by kernel_rfl) fun K hK=>?_);simp only[go_sem,seval,t0,t2,t16,t17,t18,y1,hat,hs2,hst,hpi2,hkl,hnk,ZW,htl,hm1,hm2,u1,w1]|with_reducible (first|refine Qf fun K hK=>?_|refine Qj ?_|refine Qw ?_|refine Qd ?_|refine Qt ?_|refine hK _ ?_;clear hK|refine Qi rfl ?_;simp only[↓reduceIte])
     refine Xo.mk (m':=ord.length - (j+1)) (by omega) ?_
     rw[hI]
     refine⟨j+1,rfl,hlt,by simp only[QwZ];exact hle,fun i h1 h2=>by rw[QwL (Qya h1),QwL (Qya h2)];exact hfr i h1 h2,?_,?_,t0,t2,t16,t17,rfl⟩
     ·rw[hnext];exact QwR (by rw[QwZ];omega)
     ·rw[QwL (by omega)];exact QwR hX9
    ·have hjl:j=ord.length:=by omega
     have y1:¬((j:Nat):Int)<((ord.length:Nat):Int):=by omega
     have hX9:X.length<hp.length:=Qv hst
     refine QiN o2 48 1 [.sl 1 (strs ((qN s2 l).take j)) (some X.length)] [.sl 1 (strs ((qN s2 l).take j)) none] 0
      (Wk.sl rfl (fun y hy=>by obtain⟨x,_,rfl⟩:=Qxa.1 hy;rfl) (WkL.refl _)) hs2 rfl rfl (fun x hx=>by rw[QxG]at hx;subst hx;rfl) ?_
     with_reducible repeat first|refine Qa fun K E hK hE=>?_;simp only[go_sem,seval,t17,t18,y1]|refine Qf fun K hK=>?_|refine Q3 ?_|refine QV ?_|refine QU ?_|refine hK _ ?_;clear hK|refine Qi rfl ?_;simp only[↓reduceIte,QvT]
     simp only[go_sem]
     have elv:lvG gv h.length (qV l)=lvG gv h.length l:=by
      have:=Qop QsJ h.length [] l
      rw[QoY]at this
      exact this
     have egs:gsz (qV l)=gsz l:=by
      have:=QhZ [] l
      rw[QoY]at this
      exact this
     have htk:(qN s2 l).take j=qN s2 l:=Qyq (by omega)
     refine .inr ⟨rfl,⟨_,⟨by rw[QwZ,hle];exact hYk.long,fun i h1 h2 h3 h4 h5 h6=>?_⟩,?_,?_,?_⟩,rfl⟩
     ·rw[QwL (Qya h3),hfr i h3 (by omega)];exact hYk.out i h1 h2 h3 h4 h5 h6
     ·rw[QwL (Qya hoo),hfr o hoo (by omega),elv];exact hYo
     ·refine a1.keep fun i i1 i2=>?_
      rw[Y6,egs]at i2
      rw[QwL (by omega),hfr i (by omega) (by omega)]
     ·rw[htk];exact QwR (by omega)
   ·rw[hI]
    exact⟨0,rfl,Qw3 _,rfl,fun _ _ _=>rfl,hYp,hYt,rfl,rfl,rfl,rfl,rfl⟩
  ·have ce:=Qrs hW2 hXi hk
   have hE:((PR.ok l s2).bind fun l s=>(pEnd s).bind fun _ s=>PR.ok (qV l,qN s l) s) = .err s2.tk.pos 16:=by
    have:pEnd s2 = .err s2.tk.pos 16:=by rw[pEnd,QwJ hk]
    show(pEnd s2).bind _=_
    rw[this];rfl
   rw[hE]
   rw[hX]at ce hi3
   refine Qb Tryz.func66 rfl Tryz.call66 Tryz.ntmps66 Tryz.results66 (by simp) ?_
   with_reducible repeat first|(first|refine Qa fun K E hK hE=>?_|refine FunW.QuW cg2 ?_|refine FunW.pan (FunW.call ce) ?_);simp only[go_sem,seval,g0,hi3]|refine hK _ ?_;clear hK|refine hE _ _ ?_
   refine .inr ⟨rfl,⟨_,?_⟩,rfl⟩
   rw[<-hX]
   exact⟨⟨by omega,fun i h1 h2 h3 h4 h5 h6=>hXlow i h1 h2 h4 h5 h6⟩,hXlow o2 hpl (Qya hoo) hpi hpj hpg⟩
end
end Go.Proofs.YtenheconhibonaaGreatDoor.Ab
namespace Go.Proofs.YtenheconhibonaaGreatDoor.Ab
open Go.Proofs
abbrev cG(v:AV):AB:=.cells 23 1 [v]
abbrev cS(v:AV):AB:=.cells 48 1 [v]
def Qf6(l:List UInt8):(List G×List ByteArray) ⊕ (Int×Int):=match ZV l with
 | .inr e=>.inr e
 | .inl ts=>match Qf3 ⟨ts,[]⟩with
  | .ok p _=>.inl p
  | .err p e=>.inr (p,e)
theorem QkK{all:List Tk}{s:PS}(hW:Wst all s){p e:Int}(h:Qf3 s = .err p e):e≠0:=Kp.Ps.err (n:=wdOf all) (Kp.query_ps trivial) hW h
def SqQ(h:AH):(List G×List ByteArray) ⊕ (Int×Int)->AOut->AH->Prop
 | .inl q,o,h'=>∃n,h.length<=n/\o = .ret (.tup [.sl 3 (lvG gv n q.1) none,.sl 1 (strs q.2) none,.i 0,.i 0])/\At h' n (layG 69 n q.1)/\h.length<=h'.length/\h'.take h.length=h
 | .inr e,o,h'=>o = .ret (.tup [nilV,nilV,.i e.1,.i e.2])/\h'=h
def sqR:(List G×List ByteArray) ⊕ (Int×Int)->AV
 | .inl q=>.tup [.sl 3 (vs G.goal q.1) none,.sl 1 (strs q.2) none,.i 0,.i 0]
 | .inr e=>.tup [nilV,nilV,.i e.1,.i e.2]
theorem QjH(n:Nat)(a b:Int):Below n (.tup [nilV,nilV,.i a,.i b]):=.tup _ fun x hx=>by
 simp only[QwS,Qw4,QxK]at hx
 rcases hx with rfl|rfl|rfl|rfl <;> exact .v _
theorem Qkb{P:Program}{f:FuncId}{args:List AV}{h:AH}{Q Q0:AOut->AH->Prop}(H:QT P f args h Q0)
  (hp:(∀(i:Nat) b,h[i]? = some b->b.Below h.length)->∀o h',Q0 o h'->Q o h'\/∃l l',o = .ret (.tup l)/\h.length<=h'.length/\(∀b∈h'.take h.length,b.Below h.length)/\l'.length=l.length/\(∀(j:Nat) a a',l[j]? = some a->l'[j]? = some a'->Melt h' h.length a a')/\Q (.ret (.tup l')) (h'.take h.length)):QT P f args h Q:=by
 refine⟨H.1,fun F n c vals hF hs hh hvs=>(H.2 F n c vals hF hs hh hvs).mono ?_⟩
 rintro e w' ⟨o,c',hQ,hev,hst,hw,hex⟩
 rcases hp (fun i b hb=>by subst hh;exact hs.below hb) o c'.h hQ with hq|⟨l,l',rfl,h1,h2,hl,h3,h4⟩
 ·exact⟨o,c',hq,hev,hst,hw,hex⟩
 ·obtain⟨x,rfl,hr⟩:=hex
  refine⟨.ret (.tup l'),c'.cut h.length,h4,hev.cut (by rw[hh];exact QwP _) h1,hst.cut h1 h2,hw,x,rfl,?_⟩
  cases hr with
  |tup _ cs hl' hr =>
   refine .tup _ cs (by omega) fun j a' u ha' hu=>?_
   obtain⟨a,ha⟩:∃a,l[j]? = some a:=⟨_,QwK (by rw[<-hl];exact Qv ha')⟩
   exact(h3 j a a' ha ha').rel hst h1 (hr j a u ha hu)
section
variable(l:List UInt8)(h:AH)(hG:Qbs h)
include hG
theorem QoZ:QT Tryz.prog 23 [.v (.string (mkB l))] h (SqQ h (Qf6 l)):=by
 rw[Qf6]
 cases hs:ZV l with
 |inr q =>
  obtain⟨p,e⟩:=q
  have cr:=fun fv L=>Qo4 hs fv (h++L) (hG.app L)
  have e0:(e != 0)=true:=by simpa using QeC hs
  refine Qb Tryz.func23 rfl Tryz.call23 Tryz.ntmps23 Tryz.results23 (by simp) ?_
  repeat first|(first|refine FunW.QuW (cr _ _) ?_|refine Qn ?_);simp only[go_sem,seval,e0]|refine hK _ ?_;clear hK
  exact Qc (htake _ _) (.keep (QjH _ _ _)) ⟨rfl,rfl⟩
 |inl ts =>
  obtain⟨hD,hW,hN,hl⟩:=QmY hs
  obtain⟨H,hH⟩:∃H,H=h++[cS nilV,cG nilV]:=⟨_,rfl⟩
  have hHl:H.length=h.length+2:=by rw[hH];simp
  have hHG:Qbs H:=by rw[hH];exact hG.app _
  have hPo:=QtB H ts (.cells 117 4 [.agg [.sl 3 (tks ts) none,.i 0,.v (.slice none 0 0),.v (.map none)]])
  have hout:∀i,i<h.length->(H++[iC 0,eC 0,.cells 117 4 [.agg [.sl 3 (tks ts) none,.i 0,.v (.slice none 0 0),.v (.map none)]]]++[.dead,.dead])[i]? = h[i]? := fun i hi=>by
   rw[QwM,QwI (by omega),hH,QwI hi]
  have hlen:(H++[iC 0,eC 0,.cells 117 4 [.agg [.sl 3 (tks ts) none,.i 0,.v (.slice none 0 0),.v (.map none)]]]++[AB.dead,.dead]).length=h.length+7:=by simp only[QwG,Qv2,Qv3,hHl]
  have cf:=QkQ (P:=P0 H ts) (s:=⟨ts,[]⟩) hW hPo hN hD (o:=h.length+1) (o2:=h.length) (by omega) (by simp only[P0];omega) (by simp only[P0];omega) (by simp only[P0];omega) (by omega) (by simp only[P0];omega) (by simp only[P0];omega) (by simp only[P0];omega) (by omega)
   (by rw[QwM,QwI (by omega),hH,hget];rfl) (by rw[QwM,QwI (by omega),hH,Q8];rfl)
  have hst:∀(K:AH->Prop) (Y:AH) a b L,H.length+1<Y.length->(∀i,i<h.length->Y[i]? = h[i]?)->∀i,i<h.length->((Y.set H.length a).set (H.length+1) b++L)[i]? = h[i]? := fun K Y a b L hl hy i hi=>by
   rw[QwI (by simp only[QwZ];omega),QwL (by omega),QwL (by omega)];exact hy i hi
  have hc0:∀Y,KpG (H++[iC 0,eC 0,.cells 117 4 [.agg [.sl 3 (tks ts) none,.i 0,.v (.slice none 0 0),.v (.map none)]]]++[AB.dead,.dead]) (P0 H ts) (h.length+1) h.length Y->Y[H.length]? = some (iC 0)/\Y[H.length+1]? = some (eC 0)/\h.length+7<=Y.length/\(∀i,i<h.length->Y[i]? = h[i]?):=fun Y hY=>by
   refine⟨?_,?_,by have:=hY.long;omega,fun i hi=>?_⟩
   ·rw[hY.out H.length (by omega) (by omega) (by omega) (by simp only[P0];omega) (by simp only[P0];omega) (by simp only[P0];omega),QwM,Q8];rfl
   ·rw[hY.out (H.length+1) (by omega) (by omega) (by omega) (by simp only[P0];omega) (by simp only[P0];omega) (by simp only[P0];omega),QwM,hget];rfl
   ·rw[hY.out i (by omega) (by omega) (by omega) (by simp only[P0];omega) (by simp only[P0];omega) (by simp only[P0];omega)];exact hout i hi
  cases hp:Qf3 ⟨ts,[]⟩with
  |err p e =>
   rw[hp]at cf
   have e0:(e != 0)=true:=by simpa using QkK hW hp
   have cr:=Qqv hs (.fn (.func 66) [] [.ptr (h.length+1) 0 0,.ptr h.length 0 0]) H hHG (fun Y=>h.length+2<=Y.length/\(∀i,i<h.length->Y[i]? = h[i]?)/\Y[h.length]? = some (cS nilV))
    (fun Y a b L hl hy=>⟨by simp only[QwG,QwZ];omega,hst (fun _=>True) Y a b L hl hy.2.1,by rw[QwI (by simp only[QwZ];omega),QwL (by omega),QwL (by omega)];exact hy.2.2⟩) (p:=p) (e:=e)
    (FunW.cl (cf.mono fun o h' q=>by
     obtain⟨q1,⟨Y,hY,hY2⟩,q2⟩:=q
     obtain⟨y1,y2,y3,y4⟩:=hc0 Y hY
     exact⟨q1,⟨Y,y1,y2,by omega,y4,by rw[hY2,QwM,QwI (by omega),hH,Q8];rfl⟩,q2⟩))
   rw[hH]at cr
   refine Qb Tryz.func23 rfl Tryz.call23 Tryz.ntmps23 Tryz.results23 (by simp) ?_
   repeat first|(first|refine FunW.retE (FunW.call cr) fun Y=>?_|refine Qn ?_);simp only[go_sem,seval,e0,QwG]|refine hK _ ?_;clear hK
   have hY:=Y.2
   generalize Y.1=Y1 at *
   obtain⟨y0,y1,y2⟩:=hY
   have u1:∀y,(Y1.set h.length y)[h.length]? = some y:=fun y=>QwR (by omega)
   have ht:∀y,(Y1.set h.length y).take h.length=h:=fun y=>QxE fun i=>by
    by_cases hi:i<h.length
    ·rw[Qw5 hi,QwL (by omega)];exact y1 i hi
    ·rw[List.getElem?_take_eq_none (by omega),Qxp (by omega)]
   simp only[Q6,Xx,↓reduceIte,Qv2,Qv3,Qv1,Qwn,QvP,Qwj,QvR,y2]
   repeat first|refine Qn ?_;simp only[go_sem,seval]|refine hK _ ?_;clear hK
   simp only[go_sem,seval,u1]
   refine Qc (ht _) (.keep (QjH _ _ _)) ?_
   simp only[hp];exact⟨rfl,rfl⟩
  |ok pg s2 =>
   rw[hp]at cf
   have e0:((0:Int) != 0)=false:=rfl
   have cr:=Qr4 hs (.fn (.func 66) [] [.ptr (h.length+1) 0 0,.ptr h.length 0 0]) H hHG (fun Y=>h.length+7<=Y.length/\(∀i,i<h.length->Y[i]? = h[i]?)/\Y[h.length+1]? = some (cG (.sl 3 (lvG gv (h.length+7) pg.1) none))/\At Y (h.length+7) (layG 69 (h.length+7) pg.1)/\Y[h.length]? = some (cS (.sl 1 (strs pg.2) none)))
    (fun Y a b L hl hy=>⟨by simp only[QwG,QwZ];omega,hst (fun _=>True) Y a b L hl hy.2.1,by rw[QwI (by simp only[QwZ];omega),QwL (by omega),QwL (by omega)];exact hy.2.2.1,
     (hy.2.2.2.1.keep fun i i1 i2=>by rw[QwL (by omega),QwL (by omega)]).app L,
     by rw[QwI (by simp only[QwZ];omega),QwL (by omega),QwL (by omega)];exact hy.2.2.2.2⟩)
    (FunW.cl (cf.mono fun o h' q=>by
     obtain⟨q1,⟨Y,hY,hY1,hY2,hY3⟩,q2⟩:=q
     rw[hlen]at hY1 hY2
     obtain⟨y1,y2,y3,y4⟩:=hc0 Y hY
     exact⟨q1,⟨Y,y1,y2,y3,y4,hY1,hY2,hY3⟩,q2⟩))
   rw[hH]at cr
   refine Qb Tryz.func23 rfl Tryz.call23 Tryz.ntmps23 Tryz.results23 (by simp) ?_
   repeat first|(first|refine FunW.retE (FunW.call cr) fun Y=>?_|refine QH (id:=5) [(0,0),(1,0),(2,0),(3,2),(4,0),(5,0)] mixed (by kernel_rfl) fun K hK=>?_|refine Qn ?_);simp only[go_sem,seval,QwG]|refine hK _ ?_;clear hK
   have hY:=Y.2
   generalize Y.1=Y1 at *
   obtain⟨y0,y1,y2,y3,y4⟩:=hY
   have u1:∀y,(Y1.set h.length y)[h.length]? = some y:=fun y=>QwR (by omega)
   have u2:∀y,(Y1.set h.length y)[h.length+1]? = some (cG (.sl 3 (lvG gv (h.length+7) pg.1) none)):=fun y=>by rw[QwL (by omega)];exact y2
   simp only[XV,Yn,Qv9,Qwa,QP,Qwb,↓reduceIte,Qv2,Qv3,Qv1,Qwn,QvP,Qwj,QvR,y2,y4]
   repeat first|refine Qn ?_;simp only[go_sem,seval]|refine hK _ ?_;clear hK
   simp only[go_sem,seval,u1]
   simp only[QjY,hp]
   refine .inr ⟨h.length+7,by omega,rfl,y3.keep fun i i1 i2=>?_,by rw[QwZ];omega,?_⟩
   ·rw[QwL (by omega)]
   ·exact QxE fun i=>by
     by_cases hi:i<h.length
     ·rw[Qw5 hi,QwL (by omega)];exact y1 i hi
     ·rw[List.getElem?_take_eq_none (by omega),Qxp (by omega)]
theorem QkL:QT Tryz.prog 23 [.v (.string (mkB l))] h fun o h'=>o = .ret (sqR (Qf6 l))/\h'=h:=by
 refine Qkb (QoZ l h hG) fun hbel o h' q=>?_
 cases hq:Qf6 l with
 |inr e=>rw[hq]at q;exact .inl q
 |inl g =>
  rw[hq]at q
  obtain⟨n,hn,rfl,hA,hl,ht⟩:=q
  refine .inr ⟨_,[.sl 3 (vs G.goal g.1) none,.sl 1 (strs g.2) none,.i 0,.i 0],rfl,hl,fun b hb=>?_,rfl,fun j a a' h1 h2=>?_,rfl,ht⟩
  ·rw[ht]at hb
   obtain⟨k,hk⟩:=List.mem_iff_getElem?.1 hb
   exact hbel k b hk
  ·match j,h1,h2 with
   |0,h1,h2 =>
    cases h1;cases h2
    obtain⟨e1,e2⟩:=QlG (m:=h.length) (w:=3) (vw:=gv) (vA:=G.goal) (fun _ _=>rfl) (fun _=>rfl) (fun n g hm hA j a a' h1 h3=>by
     match j,h1,h3 with
     |0,h1,h3=>cases h1;cases h3;exact .keep (.v _)
     |1,h1,h3=>cases h1;cases h3;exact .keep (.v _)
     |2,h1,h3=>cases h1;cases h3;exact Qot hm hA
     |j+3,h1,h3=>simp[gv,AV.cells]at h1) n g.1 hn hA
    exact .sl (by rw[QN,QaS]) (fun y hy=>by obtain⟨x,_,rfl⟩:=Qxa.1 hy;rfl) e1 e2
   |1,h1,h2=>cases h1;cases h2;exact .keep (.sl 1 _ none (QjK _ _) (fun b hb=>by cases hb))
   |2,h1,h2=>cases h1;cases h2;exact .keep (.v _)
   |3,h1,h2=>cases h1;cases h2;exact .keep (.v _)
   |j+4,h1,h2=>simp at h1
end
end Go.Proofs.YtenheconhibonaaGreatDoor.Ab
namespace Go.Proofs.YtenheconhibonaaGreatDoor.Ab
open Go.Proofs
theorem QpP(tot:Nat)(x w:List UInt8)(ts:List Tk)(N:List ByteArray):cmpOp ⟨symT tot x w::ts,N⟩=if x=[61]then some (3,false)else if x=[61,61]then some (5,false)else if x=[92,61]then some (6,false)else if x=[60]then some (7,false)else if x=[61,60]then some (8,false)else if x=[62]then some (7,true)else
  if x=[62,61]then some (8,true)else if x=[61,58,61]then some (9,false)else if x=[61,92,61]then some (10,false)else none:=by
 have e:(PS.tk ⟨symT tot x w::ts,N⟩).text.toList=x:=by show(mkB x).toList=x;rw[Qav]
 rw[cmpOp,QwJ (by show ¬(4:Int)=1;decide),QwJ (by show ¬(4:Int)≠4;decide),e]
theorem QsH{tot:Nat}{w:List UInt8}{ts:List Tk}{c:UInt8}{x:List UInt8}(hc:isW c=false)(h1:((c::x)==sLp)=false)(h2:XK.any (fun b=>(c::x)==b)=false)(h3:YA.any (fun b=>(c::x)==b)=false)(h4:∀N,cmpOp ⟨symT tot (c::x) w::ts,N⟩=none) :
  GA ((c::x)++w) (symT tot (c::x) w::ts):=by
 obtain⟨a1,a2,a3⟩:=QkX (tot:=tot) (w:=w) (ts:=ts) hc h1 h2 h3
 exact⟨a1,a2,a3,h4⟩
theorem QpW(tot:Nat)(w:List UInt8)(ts:List Tk):GA (44::w) (symT tot [44] w::ts):=QsH (x:=[]) (by decide) (by decide) (by decide) (by decide) fun N=>by rw[QpP];rfl
theorem QqV(p:Int):GA [] [⟨0,p,eB⟩]:=⟨⟨fun c q e=>(by cases e),fun N=>rfl⟩,fun N=>rfl,fun N=>rfl,fun N=>by rw[cmpOp,QwJ (by show ¬(0:Int)=1;decide),QwN (by show(0:Int)≠4;decide)]⟩
def Qb3:List G->List UInt8
 |[]=>[]
 |g::l=>44::32::(tG g++Qb3 l)
theorem QfK:∀(l:List G) (g:G) (acc:List G) (tot:Nat) (w:List UInt8) (ts:List Tk) (u:List Int),(∀x∈g::l,QL x=true)->Sc tot w ts->GA w ts->(∀N,PS.is ⟨ts,N⟩ Qa7=false)->okV u->(tG g).length+(Qb3 l).length+w.length<=tot->u.length+ndG (g::l)<=1000000 ->
  ∃ts',Sc tot (tG g++(Qb3 l++w)) ts'/\okV (Xh kG u (g::l)).2/\∀most m,acc.length+(g::l).length<=most->ts'.length<=m->YS most m acc ⟨ts',labs u⟩ = .ok (acc++(Xh kG u (g::l)).1) ⟨ts,labs (Xh kG u (g::l)).2⟩
 |[],g,acc,tot,w,ts,u,hr,h,ha,hc,hu,hl,hn=>by
  obtain⟨ts',h1,h2,h3⟩:=Qd1 (hr g (by simp)) h ha hu (by simp only[Qb3,Qv3]at hl;omega)
  rw[ndG,ndG]at hn
  have hk:=Qog (u:=u) (g:=g) (by omega) (hr g (by simp))
  refine⟨ts',h1,h2,fun most m hm hl2=>?_⟩
  obtain⟨m,rfl⟩:∃k,m=k+1:=⟨m - 1,by have:=Qx9.2 h1.ne;omega⟩
  simp only[Qv2,Qv3]at hm
  rw[YS,QwJ (by omega),h3]
  show(if QL (kG u g).1=false then _ else if PS.is ⟨ts,_⟩ Qa7=true then _ else _)=_
  rw[QwJ (by rw[hk];decide),QwJ (by rw[hc];decide)];rfl
 |x::l,g,acc,tot,w,ts,u,hr,h,ha,hc,hu,hl,hn=>by
  have hlen:(Qb3 (x::l)).length=2+(tG x).length+(Qb3 l).length:=by simp[Qb3];omega
  have e:∀r,Qb3 (x::l)++r=44::32::(tG x++(Qb3 l++r)):=fun r=>by simp[Qb3]
  rw[ndG]at hn
  have hk:=Qog (u:=u) (g:=g) (by omega) (hr g (by simp))
  have hkl:=QqY u g
  have hu1:okV (kG u g).2:=by
   obtain⟨_,_,h2,_⟩:=Qd1 (hr g (by simp)) (Sc.nil tot) (QqV _) hu (by simp only[Qv3];omega)
   exact h2
  obtain⟨ts1,h1,h2,h3⟩:=QfK l x (acc++[(kG u g).1]) tot w ts (kG u g).2 (fun y hy=>hr y (QxT _ hy)) h ha hc hu1 (by omega) (by omega)
  have hsc:=QlW (Sc.sp (c:=32) (by decide) h1)
  have hw1:(tG x++(Qb3 l++w)).length=(tG x).length+(Qb3 l).length+w.length:=by simp only[QwG];omega
  obtain⟨ts2,h4,_,h5⟩:=Qd1 (hr g (by simp)) hsc (QpW _ _ _) hu (by rw[Qv2,Qv2,hw1];omega)
  refine⟨ts2,by rw[e];exact h4,h2,fun most m hm hl2=>?_⟩
  obtain⟨m,rfl⟩:∃k,m=k+1:=⟨m - 1,by have:=Qx9.2 h4.ne;omega⟩
  have k2:=Qag tot [44] (32::(tG x++(Qb3 l++w))) ts1 (labs (kG u g).2)
  have hl3:=(QiZ _ (h4.wf (labs u)) _ _ h5).2
  simp only[Qv2]at hl3 hm
  rw[YS,QwJ (by omega),h5]
  show(if QL (kG u g).1=false then _ else if PS.is ⟨_,_⟩ Qa7=true then _ else _)=_
  rw[QwJ (by rw[hk];decide),QwN (by rw[k2];decide),knx h1.ne,h3 most m (by simp only[QwG,Qv2,Qv3];omega) (by omega),QwM]
  rfl
theorem QrN(g:G)(l:List G)(hr:∀x∈g::l,QL x=true):(jG (g::l)).data.toList=tG g++Qb3 l:=by
 have e:∀x∈g::l,txtG x=Qac x:=fun x hx=>by rw[txtG,QwN (hr x hx)]
 have ht:∀m:List G,(∀x∈m,txtG x=Qac x)->(X1 false (m.map txtG)).data.toList=Qb3 m:=fun m=>by
  induction m with
  |nil=>intro _;rfl
  |cons x m ih =>
   intro hm
   rw[List.map_cons,X1,XT,QwJ (by decide),XT,ih fun y hy=>hm y (QxT _ hy),hm x (by simp)]
   rfl
 rw[jG,List.map_cons,X1,XT,QwN rfl,ht l fun x hx=>e x (QxT _ hx),e g (by simp)]
 rfl
theorem QlB(l:List G):Xh kG [] l=(l.map (G.mapV fun n=>((plc (ded [] (Xd (Zt l))) n:Nat):Int)),ded [] (Xd (Zt l))):=by
 have e:(kG:List Int->G->G×List Int)=nG:=by funext u g;rfl
 have:=QlC [] l []
 rw[e]
 rwa [Qwi]at this
theorem YV:∀l:List G,XI l=Xd (Zt l)
 |[]=>rfl
 |g::l=>by
  rw[YZ,Z5,<-YV l]
  unfold XI
  rw[QyO]
theorem QoX(l:List G):qV l=l.map (G.mapV fun n=>((plc (ded [] (XI l)) n:Nat):Int)):=rfl
theorem Qmu(f:Int->Int)(l:List G):XI (l.map (G.mapV f))=(XI l).map f:=by
 rw[YV,YV,QiC,Qek]
theorem QhG{l:List G}{v:Int}:v∈ded [] (XI l)↔v∈XI l:=by rw[Qd6];simp
theorem Qli{f:Int->Int}{l:List G}(h:QpH f (ded [] (XI l))):ded [] (XI (l.map (G.mapV f)))=(ded [] (XI l)).map f:=by
 rw[Qmu]
 exact QnR (s:=[]) fun a ha b hb=>h a (QhG.2 ha) b (QhG.2 hb)
theorem Qtf{f:Int->Int}{l:List G}(h:QpH f (ded [] (XI l))):qV (l.map (G.mapV f))=qV l:=by
 rw[QoX,QoX,Qli h,QxV]
 refine QxB fun x hx=>?_
 show(x.mapV f).mapV _=_
 rw[G.Qve]
 have:∀v∈Xd x.args,((plc ((ded [] (XI l)).map f) (f v):Nat):Int)=((plc (ded [] (XI l)) v:Nat):Int):=fun v hv=>by
  have hm:v∈XI l:=by unfold XI;exact Qyn.2 ⟨x,hx,hv⟩
  rw[QoP fun a ha e=>h a ha v (QhG.2 hm) e]
 rw[G.mapV,G.mapV,Qd5 x.args this]
theorem QsO{l:List G}(hne:l≠[])(h40:l.length<=40)(hr:∀g∈l,QL g=true)(hs:(jG l).data.toList.length<=16384)(hn:ndG l<=1000000):Qf6 (jG l).data.toList = .inl (qV l,labs (ded [] (XI l))):=by
 obtain⟨g,l,rfl⟩:∃g m,l=g::m:=by
  cases l with
  |nil=>exact absurd rfl hne
  |cons g m=>exact⟨g,m,rfl⟩
 have et:=QrN g l hr
 rw[et]at hs ⊢
 obtain⟨tot,htot⟩:∃t,t=(tG g++Qb3 l).length:=⟨_,rfl⟩
 have hlen:(tG g).length+(Qb3 l).length=tot:=by rw[htot,QwG]
 obtain⟨ts,h1,_,h3⟩:=QfK l g [] tot [] _ [] hr (Sc.nil tot) (QqV _) (fun N=>rfl) (fun v hv=>by cases hv) (by simp only[Qv3];omega) (by simp only[Qv3];omega)
 rw[Qwi]at h1
 have hsc:ZV (tG g++Qb3 l) = .inl ts:=by
  rw[ZV,QwJ (by omega),<-htot]
  exact h1 _ (by omega)
 have h4:=h3 40 (ts.length+1) (by simpa using h40) (by omega)
 have e0:labs []=[]:=rfl
 rw[e0,Qwg]at h4
 rw[Qf6,hsc]
 have hq:Qf3 ⟨ts,[]⟩ = .ok (qV (Xh kG [] (g::l)).1,qN ⟨[⟨0,((tot:Nat):Int),eB⟩],labs (Xh kG [] (g::l)).2⟩ (Xh kG [] (g::l)).1) ⟨[⟨0,((tot:Nat):Int),eB⟩],labs (Xh kG [] (g::l)).2⟩:=by
  rw[Qjr,QbF]
  show(YS 40 (ts.length+1) [] ⟨ts,[]⟩).bind _=_
  rw[h4];rfl
 simp only[hq]
 have hk:=QlB (g::l)
 rw[<-YV]at hk
 rw[hk]
 have hinj:=Qr1 (ded [] (XI (g::l)))
 rw[Qtf hinj]
 congr 2
 unfold qN
 rw[Qli hinj,QxV,labs]
 refine QxB fun v hv=>?_
 have hlt:=Qjt hv
 show((ded [] (XI (g::l))).map labB).getD ((plc (ded [] (XI (g::l))) v:Nat):Int).toNat eB=labB v
 rw[Int.toNat_natCast,Qxe,Qxd,QwK hlt,Option.map_some,Qyo,QkN hv]
mutual
theorem T.QvB:∀t:T,t.Qu4=true->∀v∈t.vars,0<=v/\v<=1048576
 | .mk k i n l,h,v,hv=>by
  rw[T.Qu4]at h
  rw[T.vars]at hv
  by_cases k1:k=1
  ·rw[QwN k1]at hv
   rw[QwJ (by omega),QwN k1]at h
   simp only[QwQ,Qw1]at h
   rw[QxG.1 hv];exact h.1.1
  ·rw[QwJ k1]at hv
   by_cases k2:k=2
   ·rw[QwN k2]at hv
    rw[QwJ (by omega),QwJ k1,QwN k2]at h
    split at h
    ·cases h
    ·split at h
     ·cases h
     ·exact Qgn l h v hv
   ·rw[QwJ k2]at hv;cases hv
theorem Qgn:∀l:List T,Qby l=true->∀v∈Xd l,0<=v/\v<=1048576
 |[],_,v,hv=>by cases hv
 |t::l,h,v,hv=>by
  rw[Qby,QwQ]at h
  rw[Xd]at hv
  rcases Qxf.1 hv with hv|hv
  ·exact T.QvB t h.1 v hv
  ·exact Qgn l h.2 v hv
end
theorem QrW{u:List Int}{l:List T}(hf:Qby l=true)(hu:okV u):okV (nXs u l).2:=by
 rw[Qjh]
 intro v hv
 rcases Qd6.1 hv with h|h
 ·exact hu v h
 ·exact Qgn l hf v h
theorem empty_of{s:ByteArray}(h:Ym s=false):s≠{data:=#[]}:=by
 intro e;rw[e]at h;revert h;decide +kernel
theorem QqF{s:ByteArray}(h:Ym (QbG s)=false):QbG s=s/\s.data.toList.length<=16384:=by
 rw[QbG]at h ⊢
 by_cases hs:16384<s.size
 ·rw[QwN hs]at h
  exact absurd rfl (empty_of h)
 ·rw[QwJ hs]
  exact⟨rfl,by rw[<-Lib.size_eq];omega⟩
theorem QfG{l:List G}(h:Ym (Qa2 l)=false):l≠[]/\l.length<=40/\(∀g∈l,QL g=true)/\Qa2 l=jG l/\(jG l).data.toList.length<=16384:=by
 unfold Qa2 at h ⊢
 by_cases h1:40<l.length
 ·rw[QwN h1]at h;exact absurd rfl (empty_of h)
 ·rw[QwJ h1]at h ⊢
  by_cases h2:l.all QL=true
  ·rw[QwN h2]at h ⊢
   obtain⟨h3,h4⟩:=QqF h
   refine⟨?_,by omega,fun g hg=>Qxc.1 h2 g hg,h3,h4⟩
   intro e
   subst e
   exact absurd rfl (empty_of h)
  ·rw[QwJ h2]at h;exact absurd rfl (empty_of h)
theorem Qmv{l:List G}(h:Ym (Qa2 l)=false)(hn:ndG l<=1000000):Qf6 (Qa2 l).data.toList = .inl (qV l,labs (ded [] (XI l))):=by
 obtain⟨h1,h2,h3,h4,h5⟩:=QfG h
 rw[h4]
 exact QsO h1 h2 h3 h5 hn
def plcI(u:List Int)(n:Int):Int:=((plc u n:Nat):Int)
theorem QlS{n:Int}:∀{u:List Int} {k:Nat},(∀j,j<k->∀h:j<u.length,u[j]≠n)->k<=u.length->plc u n=k+plc (u.drop k) n
 |u,0,_,_=>by rw[Qv6,Qv1]
 |[],k+1,_,hk=>by simp at hk
 |a::u,k+1,h,hk=>by
  have h0:a≠n:=h 0 (by omega) (by simp)
  rw[List.drop_succ_cons,plc,QwJ h0,QlS (u:=u) (k:=k) (fun j hj hl=>by have:=h (j+1) (by omega) (by simpa using hl);simpa using this) (by simpa using hk)]
  omega
theorem QmM(u:List Int)(n:Int)(hb:u.length<=1000000)(hm:n∈u):Pure Tryz.prog 113 [.sl 1 (ints u) none,.i n] (.i (plcI u n)):=by
 intro h
 refine Qb Tryz.func113 rfl Tryz.call113 Tryz.ntmps113 Tryz.results113 (by simp) ?_
 with_reducible repeat first|refine Qa fun K E hK hE=>?_;simp only[Qh,Qe,Qk,OpW,aop,AS.ev,Qg,Qu,Nat.reduceLT]|refine Qf fun K hK=>?_|refine Qj ?_|refine hK _ ?_;clear hK
 obtain⟨I,hI⟩:∃I:Nat->AS->Prop,I=fun m' s=>∃k:Nat,m'=u.length - k/\k<=u.length/\(∀j,j<k->∀h:j<u.length,u[j]≠n)/\s.tm 0 = .sl 1 (ints u) none/\s.tm 1 = .i n/\s.tm 5 = .i k/\s.h=h:=⟨_,rfl⟩;refine QZ I ?_ (m:=u.length) ?_
 ·intro m' s hs;rw[hI]at hs;obtain⟨tm,hp⟩:=s;dsimp only at hs;obtain⟨k,rfl,hk,he,t0,t1,t5,rfl⟩:=hs
  by_cases hlt:k<u.length
  ·have hg:(ints u)[k]? = some (.i u[k]):=by rw[ints,Qxd,QwK hlt];rfl
   have z9:(k:Int)<u.length:=by omega
   by_cases q:u[k]=n
   ·have z:(u[k]==n)=true:=by simp[q]
    with_reducible repeat first|refine Qa fun K E hK hE=>?_;simp only[Qh,Qe,Qk,OpW,aop,AS.ev,Qg,Qr,Q6,↓reduceIte,Nat.reduceLT,Nat.reduceEqDiff,Qwn,QQ,QR,QJ,aBin,aLen,QvP,QvR,Q1,Q5,goInt,Qwl,Qws,Qwr,Xn,ti3,ei42,un42,t0,t1,t5,z9,hg,z,Xn]|refine Qf fun K hK=>?_|refine Qj ?_|refine Qp ?_|refine Qw ?_|refine Qd ?_|refine QB ?_|refine QF ?_|refine hK _ ?_;clear hK|refine Qi rfl ?_;simp only[↓reduceIte]
    simp only[QS,Qq,Qz,upd,↓reduceIte,QvV,QvZ]
    refine Qc (QsL _) (.keep (.v _)) ⟨?_,rfl⟩
    rw[plcI,QlS he hk,QwU hlt,plc,QwN q];rfl
   ·have z:(u[k]==n)=false:=by simp[q]
    with_reducible repeat first|(first|refine Qa fun K E hK hE=>?_|refine Ql fun K E hK hE=>?_);simp only[Qh,Qe,Qk,OpW,aop,AS.ev,Qg,Qu,Qr,Q6,↓reduceIte,Nat.reduceLT,Nat.reduceEqDiff,Qwn,QQ,QR,QJ,aBin,aLen,QvP,QvR,Q1,Q5,Yc,goInt,Qwl,Qws,Qwr,Xn,ti3,ei42,un42,t0,t1,t5,z9,hg,z,Xn]|refine Qf fun K hK=>?_|refine Qj ?_|refine Qw ?_|refine Qd ?_|refine Qt ?_|refine hK _ ?_;clear hK|refine Qi rfl ?_;simp only[↓reduceIte,QvT]
    refine Xo.mk (m':=u.length - (k+1)) (by omega) ?_
    rw[hI]
    refine⟨k+1,rfl,hlt,?_,t0,t1,?_,rfl⟩
    ·intro j hj hl
     by_cases hjk:j=k
     ·subst hjk;exact q
     ·exact he j (by omega) hl
    ·simp only[upd,↓reduceIte]
     rw[Xe (by omega)]
  ·exfalso
   obtain⟨j,hj,e⟩:=List.getElem_of_mem hm
   exact he j (by omega) hj e
 ·rw[hI]
  exact⟨0,by omega,Qw3 _,fun j hj=>by omega,rfl,rfl,rfl,rfl⟩
theorem QiB:∀{l:List G} {j:Nat} (hlt:j<l.length),∀v∈Xd (l[j]).args,v∈Xd (Zt l)
 |g::l,0,_,v,hv=>by rw[YZ,Z5];exact Qxf.2 (.inl (by simpa using hv))
 |g::l,j+1,h,v,hv=>by rw[YZ,Z5];exact Qxf.2 (.inr (QiB (l:=l) (j:=j) (by simpa using h) v (by simpa using hv)))
theorem QjS:∀{l:List T} {j:Nat} (hlt:j<l.length),∀v∈(l[j]).vars,v∈Xd l
 |t::l,0,_,v,hv=>by rw[Xd];exact Qxf.2 (.inl (by simpa using hv))
 |t::l,j+1,h,v,hv=>by rw[Xd];exact Qxf.2 (.inr (QjS (l:=l) (j:=j) (by simpa using h) v (by simpa using hv)))
theorem Qgz(u:List Int)(hu:u.length<=1000000):∀n,n<=1000000->∀l:List T,ndsL l<=n->(∀v∈Xd l,v∈u)->Pure Tryz.prog 71 [.sl 1 (ints u) none,.sl 4 (avs l) none] (.sl 4 (avs (maps (plcI u) l)) none):=by
 intro n
 induction n with
 |zero =>
  intro _ l hn hv h
  have hl:l=[]:=by
   cases l with
   |nil=>rfl
   |cons t l=>have:=T.Qu6 t;simp only[ndsL]at hn;omega
  subst hl
  refine Qb Tryz.func71 rfl Tryz.call71 Tryz.ntmps71 Tryz.results71 (by simp) ?_
  with_reducible repeat first|refine Qa fun K E hK hE=>?_;simp only[Qh,Qe,Qk,OpW,aop,AS.ev,Qg,Qu,XM,Nat.reduceLT]|refine Qf fun K hK=>?_|refine Qj ?_|refine hK _ ?_;clear hK
  refine YB 5 69 4 rfl ?_
  obtain⟨I,hI⟩:∃I:Nat->AS->Prop,I=fun m' s=>m'=0/\s.tm 1 = .sl 4 (avs []) none/\s.tm 5 = .sl 4 (avs []) (some h.length)/\s.tm 6 = .i 0/\s.h=h++[.grow 69 4 0]:=⟨_,rfl⟩;refine QZ I ?_ (m:=0) ?_
  ·intro m' s hs;rw[hI]at hs;obtain⟨tm,hp⟩:=s;dsimp only at hs;obtain⟨rfl,t1,t5,t6,rfl⟩:=hs
   have z9:¬(0:Int)<0:=by decide
   with_reducible repeat first|refine Qa fun K E hK hE=>?_;simp only[Qh,Qe,Qk,OpW,aop,AS.ev,Qg,Qr,↓reduceIte,Qv3,Nat.reduceLT,Nat.reduceEqDiff,aBin,aLen,QvR,Q5,goInt,Qwm,QwB,un44,t1,t5,t6,z9,Qj6]|refine Qf fun K hK=>?_|refine Qp ?_|refine Q3 ?_|refine Qd ?_|refine QV ?_|refine QU ?_|refine hK _ ?_;clear hK|clear hK;refine hK _ ?_;clear hK|refine Qi rfl ?_;simp only[↓reduceIte,QvT]
   simp only[QS,Qq,Qz,upd,↓reduceIte,QvV,QvZ]
   exact Qc (htake _ _) (.tok fun a ha=>by simp[flat]at ha) ⟨rfl,rfl⟩
  ·rw[hI]
   exact⟨rfl,rfl,rfl,rfl,rfl⟩
 |succ n ih =>
  intro hb l hn hv h
  have hll:=X5 l
  refine Qb Tryz.func71 rfl Tryz.call71 Tryz.ntmps71 Tryz.results71 (by simp) ?_
  with_reducible repeat first|refine Qa fun K E hK hE=>?_;simp only[Qh,Qe,Qk,OpW,aop,AS.ev,Qg,Qu,XM,Nat.reduceLT]|refine Qf fun K hK=>?_|refine Qj ?_|refine hK _ ?_;clear hK
  refine YB 5 69 4 rfl ?_
  obtain⟨I,hI⟩:∃I:Nat->AS->Prop,I=fun m' s=>∃(j:Nat) (L:AH),m'=l.length - j/\j<=l.length/\s.tm 0 = .sl 1 (ints u) none/\s.tm 1 = .sl 4 (avs l) none/\s.tm 5 = .sl 4 (avs (maps (plcI u) (l.take j))) (some h.length)/\s.tm 6 = .i j/\s.h=h++(.grow 69 4 j::L):=⟨_,rfl⟩;refine QZ I ?_ (m:=l.length) ?_
  ·intro m' s hs;rw[hI]at hs;obtain⟨tm,hp⟩:=s;dsimp only at hs;obtain⟨j,L,rfl,hj,t0,t1,t5,t6,rfl⟩:=hs
   by_cases hlt:j<l.length
   ·have hg:=Qaa hlt
    have z9:(j:Int)<l.length:=by omega
    have hml:(maps (plcI u) (l.take j)).length=j:=by rw[Qdv,Qxj,Qw9];omega
    have hb1:j+1<=maxLen:=by simp only[maxLen];omega
    have hb2:(j+1) * 56<=140737488355328:=by omega
    have fL:∀x:AB,(L++[x])[L.length]? = some x:=fun x=>List.getElem?_concat_length
    have fS:∀x y:AB,(L++[x]).set L.length y=L++[y]:=fun x y=>by rw[QxH _ _ (QwP _),Qxy];rfl
    obtain⟨t,et⟩:∃t,t=l[j]:=⟨_,rfl⟩
    have hvt:=QjS hlt
    have hts:=Qgx (g:=plcI u) hlt
    have hnt:t.nds<=n+1:=by rw[et];exact Qw8 (QaQ hlt) hn
    rw[<-et]at hg hvt hts
    have hnd:=T.Qu6 t
    have em:=T.map_eq (plcI u) t
    have ev:=T.Qvu t
    by_cases k1:t.kind=1
    ·have z1:(t.kind==1)=true:=by simp[k1]
     rw[QwN k1]at em ev
     have c:=QmM u t.int hu (hv _ (hvt _ (by rw[ev];simp)))
     with_reducible repeat first|(first|refine Qa fun K E hK hE=>?_|refine Ql fun K E hK hE=>?_|refine Qy c ?_);simp only[Qh,Qe,Qk,OpW,Q7,aop,undef,AS.ev,Qg,QX,Qu,Qr,AV.QuX,Qo,Q6,QD,Xx,Qv9,Qwa,QE,QA,QM,QP,Qwb,↓reduceIte,Qv2,Qv3,Nat.reduceAdd,Nat.reduceLT,Nat.reduceLeDiff,Nat.reduceEqDiff,Nat.reduceMul,Qv1,Qwe,Qwn,Qm,QQ,QR,Xf,QY,QJ,aBin,QW,aLen,Y4,Zj,Q8,hget,Yd,hset,hlen,happ,QvP,QvQ,Qwj,Qwk,QvR,Qv4,Qv8,Qwh,Qwg,Qv0,Qv7,QvY,Qv6,Q1,Q5,Yc,goInt,Qwl,QvX,Qws,Qwr,QvT,rng1,Xg,Nat.reducePow,T.QuV,T.QuY,QK,ti3,ei44,ai44,un44,ti69,XR,Yw,zi69,t0,t1,t5,t6,z9,hg,z1,QK,hml,hb1,hb2,fL,fS,T.QuV,T.QuY]|refine Qf fun K hK=>?_|refine Qj ?_|refine Qw ?_|refine Qd ?_|refine Qt ?_|refine hK _ ?_;clear hK|refine Qi rfl ?_;simp only[↓reduceIte]
     refine Xo.mk (m':=l.length - (j+1)) (by omega) ?_
     rw[hI]
     refine⟨j+1,_,rfl,hlt,t0,t1,?_,?_,rfl⟩
     ·simp only[upd,↓reduceIte,Nat.reduceEqDiff]
      rw[hts,Qcz,em];rfl
     ·simp only[upd,↓reduceIte]
      rw[Xe (by omega)]
    have z1:(t.kind==1)=false:=by simp[k1]
    rw[QwJ k1]at em ev
    by_cases k2:t.kind=2
    ·have z2:(t.kind==2)=true:=by simp[k2]
     rw[QwN k2]at em
     have hus:t.uses=t.args:=by rw[T.uses,QwN k2]
     rw[hus]at ev
     have c:=ih (by omega) t.args (by omega) (fun v hv'=>hv v (hvt v (by rw[ev];exact hv')))
     with_reducible repeat first|(first|refine Qa fun K E hK hE=>?_|refine Ql fun K E hK hE=>?_|refine Qy c ?_);simp only[Qh,Qe,Qk,OpW,Q7,aop,undef,AS.ev,Qg,QX,Qu,Qr,AV.QuX,Qo,XV,QD,Yn,Qv9,Qwa,QE,QA,QM,QP,Qwb,↓reduceIte,Qv2,Qv3,Nat.reduceAdd,Nat.reduceLT,Nat.reduceLeDiff,Nat.reduceEqDiff,Nat.reduceMul,Qv1,Qwe,Qwn,Qm,QQ,QR,Xf,QY,QJ,aBin,QW,aLen,Y4,Zj,Q8,hget,Yd,hset,hlen,happ,QvP,QvQ,Qwj,Qwk,QvR,Qv4,Qv8,Qwh,Qwg,Qwi,Qv0,Qv7,QvY,Qv6,Q1,Q5,Yc,goInt,Qwl,QvX,Qws,Qwr,QvT,rng1,Xg,Nat.reducePow,T.QuV,T.QuY,QK,ti3,ti44,ei44,ai44,un44,ti69,XR,Yh,zi69,t0,t1,t5,t6,z9,hg,z1,z2,QK,hml,hb1,hb2,fL,fS,T.QuV,T.QuY]|refine Qf fun K hK=>?_|refine Qj ?_|refine Qw ?_|refine Qd ?_|refine Qt ?_|refine hK _ ?_;clear hK|refine Qi rfl ?_;simp only[↓reduceIte,QvT]
     refine Xo.mk (m':=l.length - (j+1)) (by omega) ?_
     rw[hI]
     refine⟨j+1,_,rfl,hlt,t0,t1,?_,?_,rfl⟩
     ·simp only[upd,↓reduceIte,Nat.reduceEqDiff]
      rw[hts,Qcz,em];rfl
     ·simp only[upd,↓reduceIte]
      rw[Xe (by omega)]
    have z2:(t.kind==2)=false:=by simp[k2]
    rw[QwJ k2]at em
    with_reducible repeat first|(first|refine Qa fun K E hK hE=>?_|refine Ql fun K E hK hE=>?_);simp only[Qh,Qe,Qk,OpW,aop,undef,AS.ev,Qg,QX,Qu,Qr,AV.QuX,Qo,QD,Qv9,Qwa,QE,QA,QM,QP,Qwb,↓reduceIte,Qv2,Qv3,Nat.reduceAdd,Nat.reduceLT,Nat.reduceLeDiff,Nat.reduceEqDiff,Nat.reduceMul,Qv1,Qwe,Qwn,Qm,QQ,QR,Xf,QY,QJ,aBin,QW,aLen,Y4,Zj,Q8,hget,Yd,hset,hlen,happ,QvP,QvQ,Qwj,Qwk,QvR,Qv4,Qv8,Qwh,Q1,Q5,Yc,goInt,Qwl,QvX,Qws,Qwr,rng1,Xg,Nat.reducePow,T.QuV,T.QuY,QK,ti3,ei44,ai44,un44,ti69,XR,zi69,t1,t5,t6,z9,hg,z1,z2,QK,hml,hb1,hb2,fL,fS,T.QuV,T.QuY]|refine Qf fun K hK=>?_|refine Qj ?_|refine Qw ?_|refine Qd ?_|refine Qt ?_|refine hK _ ?_;clear hK|refine Qi rfl ?_;simp only[↓reduceIte,QvT]
    refine Xo.mk (m':=l.length - (j+1)) (by omega) ?_
    rw[hI]
    refine⟨j+1,_,rfl,hlt,t0,t1,?_,?_,rfl⟩
    ·simp only[upd,↓reduceIte,Nat.reduceEqDiff]
     rw[hts,Qcz,em];rfl
    ·simp only[upd,↓reduceIte]
     rw[Xe (by omega)]
   ·have z9:¬(j:Int)<l.length:=by omega
    have hjl:j=l.length:=by omega
    with_reducible repeat first|refine Qa fun K E hK hE=>?_;simp only[Qh,Qe,Qk,OpW,aop,AS.ev,Qg,Qr,↓reduceIte,Nat.reduceLT,Nat.reduceEqDiff,aBin,aLen,QvR,Q5,goInt,Qwm,QK,un44,t1,t5,t6,z9,QK]|refine Qf fun K hK=>?_|refine Qp ?_|refine Q3 ?_|refine Qd ?_|refine QV ?_|refine QU ?_|refine hK _ ?_;clear hK|clear hK;refine hK _ ?_;clear hK|refine Qi rfl ?_;simp only[↓reduceIte,QvT]
    simp only[QS,Qq,Qz,upd,↓reduceIte,QvV,QvZ];first|refine Qc (htake _ _) (.tok (QcA _ _)) ⟨by rw[hjl,QwH],rfl⟩|refine Qc QwH (.tok (QcA _ _)) ⟨by rw[hjl,QwH],rfl⟩
  ·rw[hI]
   exact⟨0,[],by omega,Qw3 _,rfl,rfl,rfl,rfl,rfl⟩
theorem QeM(l:List G)(u:List Int)(hu:u.length<=1000000)(hv:∀v∈Xd (Zt l),v∈u)(hn:gN l<=1000000):Pure Tryz.prog 25 [.sl 1 (ints u) none,.sl 3 (vs G.goal l) none] (.sl 3 (vs G.goal (l.map (G.mapV (plcI u)))) none):=by
 intro h
 have hll:=QfE l
 refine Qb Tryz.func25 rfl Tryz.call25 Tryz.ntmps25 Tryz.results25 (by simp) ?_
 with_reducible repeat first|refine Qa fun K E hK hE=>?_;simp only[Qh,Qe,Qk,OpW,aop,AS.ev,Qg,Qu,XM,Nat.reduceLT]|refine Qf fun K hK=>?_|refine Qj ?_|refine hK _ ?_;clear hK
 refine YB 5 53 3 rfl ?_
 simp only[XQ]
 obtain⟨I,hI⟩:∃I:Nat->AS->Prop,I=fun m' s=>∃j:Nat,m'=l.length - j/\j<=l.length/\s.tm 0 = .sl 1 (ints u) none/\s.tm 1 = .sl 3 (vs G.goal l) none/\s.tm 5 = .sl 3 (vs G.goal ((l.take j).map (G.mapV (plcI u)))) (some h.length)/\s.tm 6 = .i j/\s.h=h++[.grow 53 3 j]:=⟨_,rfl⟩;refine QZ I ?_ (m:=l.length) ?_
 ·intro m' s hs;rw[hI]at hs;obtain⟨tm,hp⟩:=s;dsimp only at hs;obtain⟨j,rfl,hj,t0,t1,t5,t6,rfl⟩:=hs
  by_cases hlt:j<l.length
  ·have hc:=Qgz u hu 1000000 (QwP _) l[j].args (Qw8 (QnY hlt) hn) fun v hv'=>hv v (QiB hlt v hv')
   have hml:((l.take j).map (G.mapV (plcI u))).length=j:=by rw[Qxj,Qw9];omega
   have hb1:j+1<=maxLen:=by simp only[maxLen];omega
   have hb2:(j+1) * 48<=140737488355328:=by omega
   repeat first|(first|with_reducible (first|refine Qa fun K E hK hE=>?_|refine Ql fun K E hK hE=>?_|refine QO hc ?_)|refine Xu (id:=5) [(0,0),(1,0),(2,0),(3,0),(4,0),(5,0),(6,0),(7,0),(8,0),(9,0),(10,0),(11,0),(12,0),(13,0),(14,0),(15,0),(16,0),(17,1),(18,0),(19,0),(20,2),(21,0)] mixed (by kernel_rfl) fun K hK=>?_);simp only[XQ,Xz,Yo,Qh,Qe,Qk,OpW,aop,AS.ev,Qg,Qu,Qr,AV.QuX,Qo,Q6,XV,QD,Qv9,Qwa,QE,QA,QM,QP,Qwb,↓reduceIte,Qv2,Qv3,Nat.reduceAdd,Nat.reduceLT,Nat.reduceLeDiff,Nat.reduceEqDiff,Nat.reduceMul,Qv1,Qwe,Qwn,Qm,QQ,QR,QJ,aBin,Zs,ZR,QW,aLen,Y4,Zj,Q8,Yd,QvP,QvQ,Qwj,QvR,QvS,Qv4,Qv8,Qwh,Qwg,Qwi,Qv0,Qv7,QvY,Qv6,Q5,Yc,goInt,Qwl,QvX,Qws,Qwr,QwD,rng1,Xg,Nat.reducePow,ti3,ti9,ei23,ai23,un23,ti44,YG,QaY,ZC,zi53,sp53,t0,t1,t5,t6,hlt,QN,QaK G.goal hlt,Q4,hml,hb1,hb2]|with_reducible (first|refine Qf fun K hK=>?_|refine Qj ?_|refine Qw ?_|refine Qd ?_|refine Qt ?_|refine hK _ ?_;clear hK|refine Qi rfl ?_;simp only[↓reduceIte])
   refine Xo.mk (m':=l.length - (j+1)) (by omega) ?_
   rw[hI]
   refine⟨j+1,rfl,hlt,t0,t1,?_,?_,rfl⟩
   ·simp only[upd,↓reduceIte,Nat.reduceEqDiff]
    rw[Qxq hlt,Qxs,QdR]
    rfl
   ·simp only[upd,↓reduceIte]
    rw[Xe (by omega)]
  ·have hjl:j=l.length:=by omega
   with_reducible repeat first|refine Qa fun K E hK hE=>?_;simp only[Qh,Qe,Qk,OpW,aop,AS.ev,Qg,Qr,↓reduceIte,Nat.reduceLT,Nat.reduceEqDiff,aBin,aLen,QvR,Q5,goInt,Qwm,QwD,un23,t1,t5,t6,hlt,QN]|refine Qf fun K hK=>?_|refine Qp ?_|refine Q3 ?_|refine Qd ?_|refine QV ?_|refine QU ?_|refine hK _ ?_;clear hK|clear hK;refine hK _ ?_;clear hK|refine Qi rfl ?_;simp only[↓reduceIte,QvT]
   simp only[QS,Qq,Qz,upd,↓reduceIte,QvV,QvZ];first|refine Qc (htake _ _) (.tok (Qel G.goal _ (Qbd _) _)) ⟨by rw[hjl,QwH],rfl⟩|refine Qc QwH (.tok (Qel G.goal _ (Qbd _) _)) ⟨by rw[hjl,QwH],rfl⟩
 ·rw[hI]
  exact⟨0,by omega,Qw3 _,rfl,rfl,rfl,rfl,rfl⟩
theorem QlK:∀l:List G,ndG l<=ndsG l
 |[]=>QwP _
 |g::l=>by rw[ndG,ndsG];have:=QlK l;omega
theorem Qff:∀l:List G,(Zt l).length<=ndG l
 |[]=>QwP _
 |g::l=>by
  rw[YZ,QwG,ndG]
  have h1:=Qff l
  have h2:=X5 g.args
  omega
theorem Qfg:∀l:List G,ndsL (Zt l)=ndG l
 |[]=>rfl
 |g::l=>by
  have:∀a b:List T,ndsL (a++b)=ndsL a+ndsL b:=fun a b=>by
   induction a with
   |nil=>simp[ndsL]
   |cons t a ih=>rw[Qwh,ndsL,ndsL,ih];omega
  rw[YZ,this,ndG,Qfg l]
theorem Qma{l:List G}{k:Nat}(h:k<l.length):Zt (l.take (k+1))=Zt (l.take k)++l[k].args:=by
 have:∀a b:List G,Zt (a++b)=Zt a++Zt b:=fun a b=>by
  induction a with
  |nil=>rfl
  |cons x a ih=>rw[Qwh,YZ,YZ,ih,QwM]
 rw[Qxq h,this]
 show _++(l[k].args++[])=_
 rw[Qwi]
theorem QlL:∀(l:List G) (k:Nat),ndG (l.take k)<=ndG l
 |[],k=>by rw[List.take_nil];exact QwP _
 |g::l,0=>Qw3 _
 |g::l,k+1=>by rw[List.take_succ_cons,ndG,ndG];have:=QlL l k;omega
theorem okG2:∀{l:List G} {u:List Int},(∀x∈l,QL x=true)->okV u->okV (Xh kG u l).2
 |[],_,_,hu=>hu
 |g::l,u,hr,hu=>okG2 (l:=l) (u:=(kG u g).2) (fun x hx=>hr x (QxT _ hx)) (QrW (QgX (hr g (by simp))).1 hu)
theorem Qt0(l:List G)(hl:l.length<=9223372036854775807)(hg:∀g∈l,g.ok)(h:AH)(hG:XE h)(hS:Qbs h):QT Tryz.prog 6 [.sl 3 (vs G.goal l) none] h fun o h'=>o = .ret (.b true)/\h'=h:=by
 have ce0:=Qer h hG
 have ce:=fun L=>Qer (h++L) (hG.app L)
 by_cases q2:(l.length:Int)>45
 ·refine Qb Tryz.func6 rfl Tryz.call6 Tryz.ntmps6 Tryz.results6 (by simp) ?_
  repeat first|(first|refine FunW.QuW ce0 ?_|refine Qn ?_);simp only[go_sem,seval,QN,q2]|refine hK _ ?_;clear hK
  exact .inr ⟨rfl,rfl⟩
 have c1:=QfH l 600 hg (by omega) (by omega) (by omega)
 cases q3:decide (QbH l 600<0)with
 |true =>
  rw[q3]at c1
  refine Qb Tryz.func6 rfl Tryz.call6 Tryz.ntmps6 Tryz.results6 (by simp) ?_
  repeat first|(first|refine Qy c1 ?_|refine FunW.QuW ce0 ?_|refine Qn ?_);simp only[go_sem,seval,QN,q2]|refine hK _ ?_;clear hK
  exact .inr ⟨rfl,rfl⟩
 |false =>
 rw[q3]at c1
 have q3':=of_decide_eq_false q3
 have hn:=QjT l 600 (by omega)
 have hn2:=QlK l
 have d3:=QgZ l (by omega) h hG
 obtain⟨s,hs⟩:∃s,s=Qa2 l:=⟨_,rfl⟩
 rw[<-hs]at d3
 cases he:Ym s with
 |true =>
  have z1:(s.toList==({data:=#[]}:ByteArray).toList)=true:=he
  refine Qb Tryz.func6 rfl Tryz.call6 Tryz.ntmps6 Tryz.results6 (by simp) ?_
  repeat first|(first|refine Qy c1 ?_|refine FunW.QuW d3 ?_|refine FunW.QuW ce0 ?_|refine Qn ?_);simp only[go_sem,seval,QN,q2,z1]|refine hK _ ?_;clear hK
  exact .inr ⟨rfl,rfl⟩
 |false =>
 have z1:(s.toList==({data:=#[]}:ByteArray).toList)=false:=he
 have cp:=QkL (Qa2 l).data.toList h hS
 rw[Qmv (hs▸he) (by omega),Qq3,<-hs]at cp
 obtain⟨V,hV⟩:∃V,V=ded [] (XI l):=⟨_,rfl⟩
 simp only[sqR]at cp
 rw[<-hV]at cp
 have hal:=Qff l
 have hVl:V.length<=600:=by
  have h1:=Y2 [] (XI l)
  have h2:(Xd (Zt l)).length<=ndsL (Zt l):=by
   have:∀l:List T,(Xd l).length<=ndsL l:=fun l=>by
    induction l with
    |nil=>exact QwP _
    |cons t l ih=>rw[Xd,ndsL,QwG];have:=T.Qu2 t;omega
   exact this _
  rw[YV]at h1
  rw[Qfg]at h2
  rw[hV,YV]
  simp only[Qv3]at h1
  omega
 have cv:=QgA (Zt l) (by rw[Qfg];omega)
 rw[<-YV,<-hV]at cv
 have cr:=QeM l V (by omega) (fun v hv=>by rw[hV,Qd6];exact .inr (by rw[YV];exact hv)) (by rw[Qkr];omega)
 have eq:l.map (G.mapV (plcI V))=qV l:=by rw[hV];rfl
 rw[eq]at cr
 have cq:=QgD (qV l) (by rw[Qkr,QoX,QlM,Qxj];omega)
 have hll:=Qlw V
 have hok:okV V:=by
  obtain⟨_,_,hr,_⟩:=QfG (hs▸he)
  have:=okG2 hr (u:=[]) (fun v hv=>by cases hv)
  rw[QlB,<-YV]at this
  rw[hV];exact this
 refine Qb Tryz.func6 rfl Tryz.call6 Tryz.ntmps6 Tryz.results6 (by simp) ?_
 iterate 25 (try (first|((first|(refine Qa fun K E hK hE=>?_)|(with_reducible (first|refine Qy c1 ?_|refine FunW.QuW d3 ?_|refine FunW.QuW cp ?_)));simp only[go_sem,seval,QN,q2,z1])|(refine Qf fun K hK=>?_)|(refine Qw ?_)|(refine Qd ?_)|((with_reducible refine hK _ ?_);clear hK)|(refine Qi rfl ?_;simp only[↓reduceIte,QvT])))
 refine YB 8 69 4 rfl ?_
 refine QiK (fun st=>st.tm 0 = .sl 3 (vs G.goal l) none/\st.tm 4 = .sl 3 (vs G.goal (qV l)) none/\st.tm 5 = .sl 1 (strs (labs V)) none/\st.tm 7 = .i 0/\st.tm 8 = .sl 4 (avs (Zt l)) (some h.length)/\st.h=h++[.grow 69 4 (Zt l).length]) ?_ ?_
 rotate_left
 ·repeat first|refine Qn ?_;simp only[go_sem,seval]|refine hK _ ?_;clear hK
  obtain⟨I,hI⟩:∃I:Nat->AS->Prop,I=fun m' s=>∃k:Nat,m'=l.length - k/\k<=l.length/\s.tm 0 = .sl 3 (vs G.goal l) none/\s.tm 4 = .sl 3 (vs G.goal (qV l)) none/\s.tm 5 = .sl 1 (strs (labs V)) none/\s.tm 7 = .i 0/\s.tm 8 = .sl 4 (avs (Zt (l.take k))) (some h.length)/\s.tm 9 = .i k/\s.h=h++[.grow 69 4 (Zt (l.take k)).length]:=⟨_,rfl⟩;refine QZ I ?_ (m:=l.length) ?_
  ·intro m' s hs;rw[hI]at hs;obtain⟨tm,hp⟩:=s;dsimp only at hs;obtain⟨k,rfl,hk,t0,t4,t5,t7,t8,t9,rfl⟩:=hs
   by_cases hlt:k<l.length
   ·have hgk:=QaK G.goal hlt
    have z9:(k:Int)<l.length:=by omega
    have e1:=Qma hlt
    have hb:=Qff (l.take (k+1))
    have hb0:=QlL l (k+1)
    rw[e1,QwG]at hb
    have hb1:(Zt (l.take k)).length+l[k].args.length<=maxLen:=by simp only[maxLen];omega
    have hb2:((Zt (l.take k)).length+l[k].args.length) * 56<=140737488355328:=by omega
    repeat first|refine Qn ?_;simp only[go_sem,seval,t0,t8,t9,z9,hgk,hb1,hb2,QN,Q4]|refine hK _ ?_;clear hK
    refine Xo.mk (m':=l.length - (k+1)) (by omega) ?_
    rw[hI]
    refine⟨k+1,rfl,hlt,t0,t4,t5,t7,?_,?_,by rw[e1,QwG]⟩
    ·rw[e1,Qcz];rfl
    ·simp only[upd,↓reduceIte]
     rw[Xe (by omega)]
   ·have z9:¬(k:Int)<l.length:=by omega
    have ek:Zt (l.take k)=Zt l:=by rw[show k=l.length by omega,QwH]
    rw[ek]at t8 ⊢
    repeat first|refine Qn ?_;simp only[go_sem,seval,t0,t9,z9,QN]|refine hK _ ?_;clear hK
    (try (refine hK _ ?_;rw[Yr]))
    exact⟨t0,t4,t5,t7,t8,rfl⟩
  ·rw[hI]
   exact⟨0,rfl,Qw3 _,rfl,rfl,rfl,rfl,rfl,rfl,rfl⟩
 rintro⟨tm,hp⟩ ⟨t0,t4,t5,t7,t8,rfl⟩
 dsimp only at t0 t4 t5 t7 t8
 refine QhB 8 t8 (Wk.sl rfl (fun y hy=>by rw[QbK]at hy;obtain⟨x,_,rfl⟩:=Qxa.1 hy;rw[T.QuV];rfl) (WkL.refl _)) ?_
 have u1:((0:Int) != 0)=false:=rfl
 have u2:(((V.length:Nat):Int) != ((V.length:Nat):Int))=false:=by simp
 have hls:(strs (labs V)).length=V.length:=by rw[ZW];exact hll
 iterate 3 (try (first|((first|(refine Qa fun K E hK hE=>?_)|(with_reducible refine Qy cv ?_));simp only[go_sem,seval])|((with_reducible refine hK _ ?_);clear hK)))
 refine QiK (fun st=>st.tm 5 = .sl 1 (strs (labs V)) none/\st.tm 10 = .sl 1 (ints V) none/\st.h=h++[.grow 69 4 (Zt l).length]) ?_ ?_
 rotate_left
 ·repeat first|(first|refine Qy cr ?_|refine Qy cq ?_|refine Qn ?_);simp only[go_sem,seval,t0,t4,t5,t7,hls]|refine hK _ ?_;clear hK
  (try (refine hK _ ?_;rw[Yr]))
  exact⟨t5,rfl,rfl⟩
 rintro⟨tm,hp⟩ ⟨t5,t10,rfl⟩
 dsimp only at t5 t10
 repeat first|refine Qn ?_;simp only[go_sem,seval]|refine hK _ ?_;clear hK
 obtain⟨I,hI⟩:∃I:Nat->AS->Prop,I=fun m' s=>∃j:Nat,m'=V.length - j/\j<=V.length/\s.tm 5 = .sl 1 (strs (labs V)) none/\s.tm 10 = .sl 1 (ints V) none/\s.tm 11 = .i j/\s.h=h++[.grow 69 4 (Zt l).length]:=⟨_,rfl⟩;refine QZ I ?_ (m:=V.length) ?_
 ·intro m' s hs;rw[hI]at hs;obtain⟨tm,hp⟩:=s;dsimp only at hs;obtain⟨j,rfl,hj,t5,t10,t11,rfl⟩:=hs
  by_cases hlt:j<V.length
  ·have y1:((j:Nat):Int)<((V.length:Nat):Int):=by omega
   have wj:IntKind.i64.wrap (((j:Nat):Int)+1)=((j+1:Nat):Int):=Xe (by omega)
   obtain⟨v0,v1⟩:=hok _ (Qxk hlt)
   have hg1:=QeS hlt
   have hlv:j<(labs V).length:=by rw[hll];exact hlt
   have hg2:(strs (labs V))[j]? = some (.v (.string (labB V[j]))):=by
    rw[strs,labs,QxV,Qxd,QwK hlt];rfl
   obtain⟨w,hw⟩:∃w:Nat,V[j]=(w:Int):=⟨(V[j]).toNat,by omega⟩
   have cl:=Qh9 w (by omega)
   have el:vOf (decN w)=labB V[j]:=by rw[labB,hw,Int.toNat_natCast]
   rw[el,<-hw]at cl
   have z2:((labB V[j]).toList==(labB V[j]).toList)=true:=by simp
   repeat first|(first|refine QO cl ?_|refine QH (id:=18) [(0,0),(1,0),(2,0),(3,0),(4,0),(5,0),(6,0),(7,0),(8,1),(9,0)] mixed (by kernel_rfl) fun K hK=>?_|refine Qn ?_);simp only[go_sem,seval,t5,t10,t11,y1,wj,hg1,hg2,hls]|refine hK _ ?_;clear hK
   refine Xo.mk (m':=V.length - (j+1)) (by omega) ?_
   rw[hI]
   exact⟨j+1,rfl,hlt,t5,t10,rfl,rfl⟩
  ·have y1:¬((j:Nat):Int)<((V.length:Nat):Int):=by omega
   repeat first|(first|refine FunW.QuW (ce _) ?_|refine Qn ?_);simp only[go_sem,seval,t10,t11,y1]|refine hK _ ?_;clear hK|clear hK;refine hK _ ?_;clear hK
   (refine Qc (htake _ _) (.keep (.v _)) ⟨rfl,rfl⟩)
 ·rw[hI]
  exact⟨0,rfl,Qw3 _,t5,t10,rfl,rfl⟩
theorem QhA{H:Type}{enc:TypeId×Value->H}{P:Program}{w:World}{base:Nat}{sp:Nat->Bool}{held:Bool}{fuel:Nat}{t e:TypeId}{n:Nat}{cs:List Value}{zs:List (List UInt8)}{p:List MemPlace}
  (ht:P.underlying t=some (.array n e)) (he:P.underlying e=some .string) (hce:P.cellsOf e=1) (hct:P.cellsOf t=n)
  (h:DataW.trod enc P w base sp held fuel t cs=some (.agg (zs.map fun z=>.lit (.string z)),p)):cs=zs.map fun z=>Value.string ⟨z.toArray⟩:=by
 cases fuel with
 |zero=>simp[DataW.trod]at h
 |succ fuel =>
  simp only[DataW.trod,ht,hce,hct,Qyx]at h
  split at h
  ·rename_i hl
   obtain⟨xs,hm,hx⟩:=QwT.1 h
   have hxs:xs.map (·.1)=zs.map fun z=>(DataW.lit (.string z):DataW H):=by
    have:=Qxm Prod.fst hx
    simpa using this
   have hxl:xs.length=n:=by simpa using Lib.mapM_length hm
   have hzl:zs.length=n:=by
    have:=Qxm List.length hxs
    simp at this
    omega
   apply QxE
   intro i
   by_cases hi:i<n
   ·obtain⟨b,hb,hf⟩:=Lib.mapM_at hm i i (by simp[hi])
    obtain⟨s,hc,rfl,_⟩:=DataW.trod_string he hf
    have h1:cs[i]? = some (.string s):=by
     have:=Qxm (·[0]?) hc
     simpa [Qyf,Qxl]using this
    have h2:(xs.map (·.1))[i]? = some (DataW.lit (.string s.data.toList):DataW H):=by simp[hb]
    rw[hxs]at h2
    simp only[Qxd,QwT,DataW.lit.injEq,Lit.string.injEq]at h2
    obtain⟨z',hz',hz2⟩:=h2
    have:s=⟨z'.toArray⟩:=by rw[hz2]
    simp[h1,hz',this]
   ·rw[Qxp (by omega),Qxp (by simp;omega)]
  ·cases h
theorem Qom{P:Program}{W:World}{nm:String}{zs:List (List UInt8)}{g:Nat}{t e:TypeId}{n:Nat}
  (hg:P.globalNamed nm=some g) (hty:(P.globals[g]?).map (·.type)=some t) (ht:P.underlying t=some (.array n e)) (he:P.underlying e=some .string) (hce:P.cellsOf e=1) (hct:P.cellsOf t=n)
  (h:laidMet P [(nm,.agg (zs.map fun z=>.lit (.string z)))] W):∃ty fr,W.heap[g]? = some (.cells (zs.map fun z=>Value.string ⟨z.toArray⟩).toArray ty fr):=by
 obtain⟨ps,⟨g',t',cs,fuel,p,q,hg',ht',hvar,hd,_,_⟩,_⟩:=h
 obtain rfl:=Qyb (hg.symm.trans hg')
 obtain rfl:=Qyb (hty.symm.trans ht')
 have:=QhA ht he hce hct hd
 refine QjR hg (cs:=(zs.map fun z=>Value.string ⟨z.toArray⟩).toArray) ?_
 rw[hvar,<-this]
end Go.Proofs.YtenheconhibonaaGreatDoor.Ab

