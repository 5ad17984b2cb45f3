/-
  An abstract program logic, contracts of functions, and laws of terms and rules (part 5).
-/
import Derived.Test.YticgcpebdldbgaaGreatDoorAbTwo
import Derived.Test.YticgcpebdldbgaaGreatDoorAbFour
import Derived.Test.YticgcpebdldbgaaGreatDoorAbThree
import Derived.Test.YticgcpebdldbgaaGreatDoorAbOne
set_option linter.unusedVariables false
set_option linter.unusedSimpArgs false
set_option maxHeartbeats 4000000
set_option maxRecDepth 4000
namespace Go.Proofs.YticgcpebdldbgaaGreatDoor.Ab
open Go.Proofs
def tkv(k i:Int)(x:List UInt8):AV:=.agg [.i k,.i i,.v (.string (mkB x))]
def zTok:AV:=.agg [.i 0,.i 0,.v (.string {data:=#[]})]
theorem QcW(n:Nat)(k i:Int)(x:List UInt8):Below n (tkv k i x):=.agg _ fun a ha=>by
 simp only[List.mem_cons,List.not_mem_nil,or_false]at ha
 rcases ha with rfl|rfl|rfl <;> exact .v _
theorem YY{n:Nat}{t:AV}(ht:Below n t)(a b:Int):Below n (.tup [t,.i a,.i b]):=.tup _ fun x hx=>by
 simp only[List.mem_cons,List.not_mem_nil,or_false]at hx
 rcases hx with rfl|rfl|rfl
 ·exact ht
 ·exact .v _
 ·exact .v _
def rdT(k:Nat):Int×List UInt8 ⊕ Int->AV
 | .inl (kd,x)=>.tup [tkv kd k x,.i ((k+x.length:Nat):Int),.i 0]
 | .inr e=>.tup [zTok,.i k,.i e]
theorem Qrn:zTok=tkv 0 0 []:=rfl
theorem Xf(n k:Nat)(r:Int×List UInt8 ⊕ Int):Below n (rdT k r):=by
 cases r with
 |inl p=>exact YY (QcW n _ _ _) _ _
 |inr e=>exact YY (Qrn▸QcW n _ _ _) _ _
theorem QkD(c:UInt8):(clsN (c.toNat:Nat)=2/\isL c=true/\97<=c.toNat)\/(clsN (c.toNat:Nat)=3/\isL c=true/\¬97<=c.toNat)\/(clsN (c.toNat:Nat)=4/\isL c=false/\isD c=true)\/((clsN (c.toNat:Nat)=0\/clsN (c.toNat:Nat)=1)/\isL c=false/\isD c=false):=by
 have hc:=c.toNat_lt
 unfold clsN isL isD
 simp only[decide_eq_true_eq,decide_eq_false_iff_not]
 repeat' split
 all_goals omega
section
variable(l:List UInt8)(hl:l.length<=16384)(k:Nat)(h:AH)
include hl
theorem QoA(hk:k=l.length):Qj Tryz.prog 105 [.v (.string (mkB l)),.i k] h fun o h'=>o = .ret (rdT k (XP (l.drop k)))/\h'=h:=by
 have _hu:=hl
 have hsl:=fun b=>XF Tryz.prog 9 3 (by kernel_rfl) b
 have z1:(((k:Nat):Int)==((l.length:Nat):Int))=true:=by rw[hk];simp
 have e:rdT k (XP (l.drop k)) = .tup [tkv 0 k [],.i k,.i 0]:=by rw[hk,List.drop_length];rfl
 rw[e]
 refine Qa Tryz.func105 rfl Tryz.call105 Tryz.ntmps105 Tryz.results105 (by simp) ?_
 repeat refine Qb ?_;simp only[go_sem,seval,hsl,Qg,z1]
 exact Qc (htake _ _) (.keep (YY (QcW _ _ _ _) _ _)) ⟨rfl,rfl⟩
theorem Qmy(hk:k<l.length)(hL:isL l[k]=true):Qj Tryz.prog 105 [.v (.string (mkB l)),.i k] h fun o h'=>o = .ret (rdT k (XP (l.drop k)))/\h'=h:=by
 have hsl:=fun b=>XF Tryz.prog 9 3 (by kernel_rfl) b
 have z1:(((k:Nat):Int)==((l.length:Nat):Int))=false:=by simp;omega
 have hix:=Xb Tryz.prog 9 (by kernel_rfl) (mkB l) k (by rw[Qg];exact hk)
 rw[Xy l k hk]at hix
 have cp:=Qcv (((l[k]).toNat:Nat):Int)
 have cr:=Qjd l hl isW 2 Qru k (by omega)
 have hd:=drop_cons hk
 have hn:((l.drop k).takeWhile isW).length<=l.length - k:=by rw[<-List.length_drop];exact(List.takeWhile_prefix _).length_le
 obtain⟨w,hw⟩:∃w,w=(l.drop k).takeWhile isW:=⟨_,rfl⟩
 rw[<-hw]at cr hn
 have ht:XP (l.drop k)=if 40<w.length then .inr 7 else .inl (if 97<=l[k].toNat then 1 else 2,w):=by rw[hw,hd,XP,if_pos hL]
 have w1:IntKind.i64.wrap (((k+w.length:Nat):Int) - ((k:Nat):Int))=((w.length:Nat):Int):=by rw[QO (by omega)];omega
 have hsp:=YL Tryz.prog 9 (by kernel_rfl) (mkB l) (some (.i64,(k:Nat))) (some (.i64,(k+w.length:Nat))) k (k+w.length) ⟨by omega,by rw[Qg];omega,by omega⟩ ⟨by omega,by omega,by omega⟩
 simp only[QuE]at hsp
 have hwt:(l.drop k).take w.length=w:=by rw[hw];exact(List.prefix_iff_eq_take.1 (List.takeWhile_prefix isW)).symm
 rw[X8 l k _ (by omega),hwt]at hsp
 have hcl:=QkD l[k]
 have q23:((2:Int)==3)=false:=rfl
 have q32:((3:Int)==2)=false:=rfl
 rw[ht]
 by_cases h40:40<w.length
 ·have y1:((w.length:Nat):Int)>40:=by omega
  have y2:(40:Int)<((w.length:Nat):Int):=by omega
  rw[if_pos h40]
  by_cases h97:97<=l[k].toNat
  ·have c2:clsN (((l[k]).toNat:Nat):Int)=2:=by rcases hcl with⟨a,b,c⟩|⟨a,b,c⟩|⟨a,b,c⟩|⟨a,b,c⟩ <;> first|exact a|omega|exact absurd (b.symm.trans hL) (by decide)
   rw[c2]at cp
   refine Qa Tryz.func105 rfl Tryz.call105 Tryz.ntmps105 Tryz.results105 (by simp) ?_
   repeat (first|refine Qd cp ?_|refine Qd cr ?_|refine Qb ?_);simp only[go_sem,seval,hsl,Qg,z1,hix,w1,y1,q23]
   exact Qc (htake _ _) (.keep (Xf _ _ (.inr 7))) ⟨rfl,rfl⟩
  ·have c2:clsN (((l[k]).toNat:Nat):Int)=3:=by rcases hcl with⟨a,b,c⟩|⟨a,b,c⟩|⟨a,b,c⟩|⟨a,b,c⟩ <;> first|exact a|omega|exact absurd (b.symm.trans hL) (by decide)
   rw[c2]at cp
   refine Qa Tryz.func105 rfl Tryz.call105 Tryz.ntmps105 Tryz.results105 (by simp) ?_
   repeat (first|refine Qd cp ?_|refine Qd cr ?_|refine Qb ?_);simp only[go_sem,seval,hsl,Qg,z1,hix,w1,y1,q32]
   exact Qc (htake _ _) (.keep (Xf _ _ (.inr 7))) ⟨rfl,rfl⟩
 ·have y1:¬((w.length:Nat):Int)>40:=by omega
  have y2:¬(40:Int)<((w.length:Nat):Int):=by omega
  rw[if_neg h40]
  by_cases h97:97<=l[k].toNat
  ·have c2:clsN (((l[k]).toNat:Nat):Int)=2:=by rcases hcl with⟨a,b,c⟩|⟨a,b,c⟩|⟨a,b,c⟩|⟨a,b,c⟩ <;> first|exact a|omega|exact absurd (b.symm.trans hL) (by decide)
   rw[c2]at cp
   rw[if_pos h97]
   refine Qa Tryz.func105 rfl Tryz.call105 Tryz.ntmps105 Tryz.results105 (by simp) ?_
   repeat (first|refine Qd cp ?_|refine Qd cr ?_|refine Qb ?_);simp only[go_sem,seval,Xx,hsl,Qg,z1,hix,w1,y1,hsp,q23]
   exact Qc (htake _ _) (.keep (Xf _ k (.inl (1,w)))) ⟨rfl,rfl⟩
  ·have c2:clsN (((l[k]).toNat:Nat):Int)=3:=by rcases hcl with⟨a,b,c⟩|⟨a,b,c⟩|⟨a,b,c⟩|⟨a,b,c⟩ <;> first|exact a|omega|exact absurd (b.symm.trans hL) (by decide)
   rw[c2]at cp
   rw[if_neg h97]
   refine Qa Tryz.func105 rfl Tryz.call105 Tryz.ntmps105 Tryz.results105 (by simp) ?_
   repeat (first|refine Qd cp ?_|refine Qd cr ?_|refine Qb ?_);simp only[go_sem,seval,Xx,hsl,Qg,z1,hix,w1,y1,hsp,q32]
   exact Qc (htake _ _) (.keep (Xf _ k (.inl (2,w)))) ⟨rfl,rfl⟩
theorem QoC(hk:k<l.length)(hL:isL l[k]=false)(hD:isD l[k]=false)(hG:Zf h):Qj Tryz.prog 105 [.v (.string (mkB l)),.i k] h fun o h'=>o = .ret (rdT k (XP (l.drop k)))/\h'=h:=by
 have hsl:=fun b=>XF Tryz.prog 9 3 (by kernel_rfl) b
 have z1:(((k:Nat):Int)==((l.length:Nat):Int))=false:=by simp;omega
 have hix:=Xb Tryz.prog 9 (by kernel_rfl) (mkB l) k (by rw[Qg];exact hk)
 rw[Xy l k hk]at hix
 have cp:=Qcv (((l[k]).toNat:Nat):Int)
 have hd:=drop_cons hk
 have cs:=fun b=>Qkr l hl k (by omega) (h++[b]) (hG.app [b])
 have ht:XP (l.drop k)=match Qd5 (l.drop k)with|some x=>.inl (4,x)|none=>.inr 16:=by rw[hd,XP,if_neg (by rw[hL];decide),if_neg (by rw[hD];decide)];rfl
 have hcl:=QkD l[k]
 have c0:clsN (((l[k]).toNat:Nat):Int)=0\/clsN (((l[k]).toNat:Nat):Int)=1:=by rcases hcl with⟨a,b,c⟩|⟨a,b,c⟩|⟨a,b,c⟩|⟨a,b,c⟩ <;> first|exact a|exact absurd (b.symm.trans hL) (by decide)|exact absurd (c.symm.trans hD) (by decide)
 generalize hcn:clsN (((l[k]).toNat:Nat):Int)=cn at *
 clear hcl
 have u2:(cn==2)=false:=by simp;omega
 have u3:(cn==3)=false:=by simp;omega
 have u4:(cn==4)=false:=by simp;omega
 rw[ht]
 cases hs:Qd5 (l.drop k)with
 |none =>
  rw[hs]at cs
  have hq:((mkB []).toList==({data:=#[]}:ByteArray).toList)=true:=by rw[QdJ,Lib.toList_data];rfl
  simp only[Option.getD_none]at cs
  refine Qa Tryz.func105 rfl Tryz.call105 Tryz.ntmps105 Tryz.results105 (by simp) ?_
  repeat (first|refine Qd cp ?_|refine FunW.QtJ (cs _) ?_|refine Qb ?_);simp only[go_sem,seval,hsl,Qg,z1,hix,u2,u3,u4,hq]
  exact Qc (htake _ _) (.keep (Xf _ _ (.inr 16))) ⟨rfl,rfl⟩
 |some x =>
  rw[hs]at cs
  obtain⟨x1,x3,xp⟩:=QfJ hs
  rw[QaO,beq_iff_eq]at xp
  have xl:x.length<=l.length - k:=by have:=congrArg List.length xp;rw[List.length_take,List.length_drop]at this;omega
  have hq:((mkB x).toList==({data:=#[]}:ByteArray).toList)=false:=by
   rw[QdJ,beq_eq_false_iff_ne]
   intro e
   have:=congrArg List.length e
   rw[Lib.toList_data,show({data:=#[]}:ByteArray).data.toList.length=0 from rfl]at this
   omega
  simp only[Option.getD_some]at cs
  have w1:IntKind.i64.wrap (((k:Nat):Int)+((x.length:Nat):Int))=((k+x.length:Nat):Int):=by rw[QO (by omega)];omega
  have hsp:=YL Tryz.prog 9 (by kernel_rfl) (mkB l) (some (.i64,(k:Nat))) (some (.i64,(k+x.length:Nat))) k (k+x.length) ⟨by omega,by rw[Qg];omega,by omega⟩ ⟨by omega,by omega,by omega⟩
  simp only[QuE]at hsp
  rw[X8 l k _ (by omega),xp]at hsp
  refine Qa Tryz.func105 rfl Tryz.call105 Tryz.ntmps105 Tryz.results105 (by simp) ?_
  repeat (first|refine Qd cp ?_|refine FunW.QtJ (cs _) ?_|refine Qb ?_);simp only[go_sem,seval,Xx,hsl,Qg,z1,hix,u2,u3,u4,hq,w1,hsp]
  exact Qc (htake _ _) (.keep (Xf _ _ (.inl (4,x)))) ⟨rfl,rfl⟩
end
end Go.Proofs.YticgcpebdldbgaaGreatDoor.Ab
set_option maxRecDepth 4000
namespace Go.Proofs.YticgcpebdldbgaaGreatDoor.Ab
open Go.Proofs
theorem Qrm {n : Int} (h : 0 <= n /\ n <= 255) : IntKind.u8.wrap n = n := IntWalk.u8_in n h
theorem Qra (n : Int) (hn : 0 <= n /\ n < 256) : pv Tryz.prog (convert 5 3 (.int .u8 n)) = some (.int .i64 n) := by
  have : pv Tryz.prog (convert 5 3 (.int .u8 n)) = some (.int .i64 (IntKind.i64.wrap n)) := by kernel_rfl
  rw [this, QO (by omega)]
theorem QcT (q : List UInt8) : ∃ j, j <= q.length /\ QJ false q = q.drop j := by
  have : ∀ (b : Bool) (q : List UInt8), ∃ j, j <= q.length /\ QJ b q = q.drop j := fun b q => by
    induction q generalizing b with
    | nil => exact ⟨0, Nat.le_refl _, by cases b <;> rfl⟩
    | cons c r ih =>
      cases b with
      | true =>
        rw [QJ]
        split
        · obtain ⟨j, h1, h2⟩ := ih false; exact ⟨j + 1, by simp; omega, by rw [h2]; rfl⟩
        · obtain ⟨j, h1, h2⟩ := ih true; exact ⟨j + 1, by simp; omega, by rw [h2]; rfl⟩
      | false =>
        rw [QJ]
        split
        · obtain ⟨j, h1, h2⟩ := ih false; exact ⟨j + 1, by simp; omega, by rw [h2]; rfl⟩
        · split
          · obtain ⟨j, h1, h2⟩ := ih true; exact ⟨j + 1, by simp; omega, by rw [h2]; rfl⟩
          · exact ⟨0, Nat.zero_le _, rfl⟩
  exact this false q
section
variable (l : List UInt8) (hl : l.length <= 16384) (k : Nat) (h : AH)
include hl
theorem QoB (hk : k < l.length) (hD : isD l[k] = true) : Qj Tryz.prog 105 [.v (.string (mkB l)), .i k] h fun o h' => o = .ret (rdT k (XP (l.drop k))) /\ h' = h := by
  have hsl := fun b => XF Tryz.prog 9 3 (by kernel_rfl) b
  have z1 : (((k : Nat) : Int) == ((l.length : Nat) : Int)) = false := by simp; omega
  have hix := Xb Tryz.prog 9 (by kernel_rfl) (mkB l) k (by rw [Qg]; exact hk)
  rw [Xy l k hk] at hix
  have cp := Qcv (((l[k]).toNat : Nat) : Int)
  have cr := Qjd l hl isD 4 Qm0 k (by omega)
  have hd := drop_cons hk
  have hn : ((l.drop k).takeWhile isD).length <= l.length - k := by rw [<- List.length_drop]; exact (List.takeWhile_prefix _).length_le
  obtain ⟨w, hw⟩ : ∃ w, w = (l.drop k).takeWhile isD := ⟨_, rfl⟩
  rw [<- hw] at cr hn
  have hL : isL l[k] = false := by rcases QkD l[k] with ⟨a, b, c⟩ | ⟨a, b, c⟩ | ⟨a, b, c⟩ | ⟨a, b, c⟩
                                   · exact absurd ((Qm0 l[k]).2 hD) (by omega)
                                   · exact absurd ((Qm0 l[k]).2 hD) (by omega)
                                   · exact b
                                   · exact b
  have c4 : clsN (((l[k]).toNat : Nat) : Int) = 4 := by rcases QkD l[k] with ⟨a, b, c⟩ | ⟨a, b, c⟩ | ⟨a, b, c⟩ | ⟨a, b, c⟩ <;> first | exact a | exact absurd (b.symm.trans hL) (by decide) | exact absurd (c.symm.trans hD) (by decide)
  rw [c4] at cp
  have ht : XP (l.drop k) = if 2147483648 < numVal w then .inr 5 else .inl (3, w) := by rw [hw, hd, XP, if_neg (by rw [hL]; decide), if_pos hD]
  have hsp := YL Tryz.prog 9 (by kernel_rfl) (mkB l) (some (.i64, (k : Nat))) (some (.i64, (k + w.length : Nat))) k (k + w.length) ⟨by omega, by rw [Qg]; omega, by omega⟩ ⟨by omega, by omega, by omega⟩
  simp only [QuE] at hsp
  have hwt : (l.drop k).take w.length = w := by rw [hw]; exact (List.prefix_iff_eq_take.1 (List.takeWhile_prefix isD)).symm
  rw [X8 l k _ (by omega), hwt] at hsp
  have q42 : ((4 : Int) == 2) = false := rfl
  have q43 : ((4 : Int) == 3) = false := rfl
  have hwd : ∀ (j : Nat) (hj : j < w.length), l[k + j]'(by omega) = w[j] /\ isD w[j] = true := fun j hj => by
    constructor
    · have : (l.drop k)[j]? = w[j]? := by
        conv => rhs; rw [<- hwt, List.getElem?_take, if_pos hj]
      rw [List.getElem?_drop, List.getElem?_eq_getElem (by omega), List.getElem?_eq_getElem hj] at this
      exact Option.some.inj this
    · have : ∀ c ∈ w, isD c = true := fun c hc => by
        rw [hw] at hc
        exact List.all_eq_true.1 List.all_takeWhile c hc
      exact this _ (List.getElem_mem hj)
  rw [ht]
  refine Qa Tryz.func105 rfl Tryz.call105 Tryz.ntmps105 Tryz.results105 (by simp) ?_
  repeat (first | refine Qd cp ?_ | refine Qd cr ?_ | refine Qb ?_); simp only [go_sem, seval, hsl, Qg, z1, hix, q42, q43]
  obtain ⟨I, hI⟩ : ∃ I : Nat -> AS -> Prop, I = fun m' s => ∃ j : Nat, m' = w.length - j /\ j <= w.length /\ numVal (w.take j) <= 2147483648 /\ s.tm 0 = .v (.string (mkB l)) /\ s.tm 1 = .i k /\ s.tm 4 = .ptr h.length 0 0 /\ s.tm 5 = .i ((k + w.length : Nat) : Int) /\ s.tm 7 = .i (numVal (w.take j) : Nat) /\ s.tm 8 = .i ((k + j : Nat) : Int) /\ s.h = h ++ [.cells 54 3 [.agg [.i 3, .i k, .v (.string { data := #[] })]]] := ⟨_, rfl⟩; refine Qi I ?_ (m := w.length) ?_
  · intro m' s hs; rw [hI] at hs; obtain ⟨tm, hp⟩ := s; dsimp only at hs; obtain ⟨j, rfl, hj, hv, t0, t1, t4, t5, t7, t8, rfl⟩ := hs
    by_cases hlt : j < w.length
    · have y1 : (((k + j : Nat) : Int) < ((k + w.length : Nat) : Int)) := by omega
      obtain ⟨d1, d2⟩ := hwd j hlt
      have hix2 := Xb Tryz.prog 9 (by kernel_rfl) (mkB l) (k + j) (by rw [Qg]; omega)
      rw [Xy l (k + j) (by omega), d1] at hix2
      have hcd : 48 <= (w[j]).toNat /\ (w[j]).toNat <= 57 := by unfold isD at d2; simpa using d2
      obtain ⟨n1, n2⟩ := QaM hlt
      generalize hnv : numVal (w.take j) = v at *
      have w1 : IntKind.i64.wrap (10 * ((v : Nat) : Int)) = ((10 * v : Nat) : Int) := by rw [QO (by omega)]; omega
      have w2 : IntKind.u8.wrap ((((w[j]).toNat : Nat) : Int) - 48) = (((w[j]).toNat - 48 : Nat) : Int) := by rw [Qrm (by omega)]; omega
      have w3 := Qra (((w[j]).toNat - 48 : Nat) : Int) (by omega)
      have w4 : IntKind.i64.wrap (((10 * v : Nat) : Int) + (((w[j]).toNat - 48 : Nat) : Int)) = ((numVal (w.take (j + 1)) : Nat) : Int) := by rw [QO (by omega)]; omega
      have w5 : IntKind.i64.wrap (((k + j : Nat) : Int) + 1) = ((k + (j + 1) : Nat) : Int) := by rw [QO (by omega)]; omega
      by_cases hb : 2147483648 < numVal (w.take (j + 1))
      · have y2 : ((numVal (w.take (j + 1)) : Nat) : Int) > 2147483648 := by omega
        have y3 : (2147483648 : Int) < ((numVal (w.take (j + 1)) : Nat) : Int) := by omega
        rw [show (if 2147483648 < numVal w then (Sum.inr 5 : Int × List UInt8 ⊕ Int) else .inl (3, w)) = .inr 5 from if_pos (by omega)]
        repeat refine Qb ?_; simp only [go_sem, seval, t0, t1, t4, t5, t7, t8, y1, hix2, w1, w2, w3, w4, y2]
        exact Qc (htake _ _) (.keep (Xf _ k (.inr 5))) ⟨rfl, rfl⟩
      · have y2 : ¬ ((numVal (w.take (j + 1)) : Nat) : Int) > 2147483648 := by omega
        have y3 : ¬ (2147483648 : Int) < ((numVal (w.take (j + 1)) : Nat) : Int) := by omega
        repeat refine Qb ?_; simp only [go_sem, seval, t0, t5, t7, t8, y1, hix2, w1, w2, w3, w4, y2, w5]
        refine Qv.mk (m' := w.length - (j + 1)) (by omega) ?_
        rw [hI]
        exact ⟨j + 1, rfl, hlt, by omega, t0, t1, t4, t5, rfl, rfl, rfl⟩
    · have hjl : j = w.length := by omega
      have y1 : ¬ (((k + j : Nat) : Int) < ((k + w.length : Nat) : Int)) := by omega
      rw [hjl, List.take_length] at hv
      repeat refine Qb ?_; simp only [go_sem, seval, Xx, t0, t1, t4, t5, t8, y1, hsp]
      exact Qc (htake _ _) (.keep (Xf _ k (.inl (3, w)))) ⟨by rw [show (if 2147483648 < numVal w then (Sum.inr 5 : Int × List UInt8 ⊕ Int) else .inl (3, w)) = .inl (3, w) from if_neg (by omega)]; rfl, rfl⟩
  · rw [hI]
    refine ⟨0, rfl, Nat.zero_le _, by simp [numVal], rfl, rfl, rfl, rfl, rfl, rfl, rfl⟩
theorem Qmx (hk : k <= l.length) (hG : Zf h) : Qj Tryz.prog 105 [.v (.string (mkB l)), .i k] h fun o h' => o = .ret (rdT k (XP (l.drop k))) /\ h' = h := by
  by_cases e : k = l.length
  · exact QoA l hl k h e
  · have hlt : k < l.length := by omega
    by_cases hL : isL l[k] = true
    · exact Qmy l hl k h hlt hL
    · by_cases hD : isD l[k] = true
      · exact QoB l hl k h hlt hD
      · exact QoC l hl k h hlt (by simpa using hL) (by simpa using hD) hG
def Qff (tot : Nat) (q : List UInt8) : AV := rdT (tot - (QJ false q).length) (XP (QJ false q))
theorem Qpn (hk : k <= l.length) (hG : Zf h) : Qj Tryz.prog 90 [.v (.string (mkB l)), .i k] h fun o h' => o = .ret (Qff l.length (l.drop k)) /\ h' = h := by
  have hsl := fun b => XF Tryz.prog 9 3 (by kernel_rfl) b
  have z1 : ¬ ((k : Nat) : Int) < 0 := by omega
  have z2 : ¬ ((l.length : Nat) : Int) < ((k : Nat) : Int) := by omega
  have z3 : ¬ ((k : Nat) : Int) > ((l.length : Nat) : Int) := by omega
  have z4 : ¬ ((l.length : Nat) : Int) > 16384 := by omega
  have z5 : ¬ (16384 : Int) < ((l.length : Nat) : Int) := by omega
  have cs := Qmo l hl k hk
  obtain ⟨j, j1, j2⟩ := QcT (l.drop k)
  have e1 : QJ false (l.drop k) = l.drop (l.length - (QJ false (l.drop k)).length) := by
    rw [List.length_drop] at j1
    rw [j2, List.drop_drop, List.length_drop]
    congr 1; omega
  have cr := fun b => Qmx l hl (l.length - (QJ false (l.drop k)).length) (h ++ [b]) (by omega) (hG.app [b])
  rw [<- e1] at cr
  have fin : ∀ n, Below n (Qff l.length (l.drop k)) := fun n => Xf _ _ _
  cases hr : XP (QJ false (l.drop k)) with
  | inl p =>
    obtain ⟨kd, x⟩ := p
    have e2 : Qff l.length (l.drop k) = rdT (l.length - (QJ false (l.drop k)).length) (.inl (kd, x)) := by rw [Qff, hr]
    rw [e2] at fin ⊢
    rw [hr] at cr
    generalize l.length - (QJ false (l.drop k)).length = i at *
    refine Qa Tryz.func90 rfl Tryz.call90 Tryz.ntmps90 Tryz.results90 (by simp) ?_
    repeat (first | refine Qd cs ?_ | refine FunW.QtJ (cr _) ?_ | refine Qb ?_); simp only [go_sem, seval, hsl, Qg, z1, z2, z4, rdT, tkv]
    exact Qc (htake _ _) (.keep (fin _)) ⟨rfl, rfl⟩
  | inr e =>
    have e2 : Qff l.length (l.drop k) = rdT (l.length - (QJ false (l.drop k)).length) (.inr e) := by rw [Qff, hr]
    rw [e2] at fin ⊢
    rw [hr] at cr
    generalize l.length - (QJ false (l.drop k)).length = i at *
    refine Qa Tryz.func90 rfl Tryz.call90 Tryz.ntmps90 Tryz.results90 (by simp) ?_
    repeat (first | refine Qd cs ?_ | refine FunW.QtJ (cr _) ?_ | refine Qb ?_); simp only [go_sem, seval, hsl, Qg, z1, z2, z4, rdT, zTok]
    exact Qc (htake _ _) (.keep (fin _)) ⟨rfl, rfl⟩
end
end Go.Proofs.YticgcpebdldbgaaGreatDoor.Ab
set_option maxRecDepth 4000
namespace Go.Proofs.YticgcpebdldbgaaGreatDoor.Ab
open Go.Proofs
def scR:List Tk ⊕ (Int×Int)->AV
 | .inl ts=>.tup [.sl 3 (tks ts) none,.i 0,.i 0]
 | .inr p=>.tup [.v (.slice none 0 0),.i p.1,.i p.2]
def scJ(ts:List Tk):List Tk ⊕ (Int×Int)->List Tk ⊕ (Int×Int)
 | .inl us=>.inl (ts++us)
 | .inr p=>.inr p
theorem QfE(n:Nat)(r:List Tk ⊕ (Int×Int)):Below n (scR r):=by
 cases r with
 |inl ts =>
  refine .tup _ fun x hx=>?_
  simp only[List.mem_cons,List.not_mem_nil,or_false]at hx
  rcases hx with rfl|rfl|rfl
  ·exact .sl 3 _ none (QaX _ _) (fun b hb=>by cases hb)
  ·exact .v _
  ·exact .v _
 |inr p =>
  refine .tup _ fun x hx=>?_
  simp only[List.mem_cons,List.not_mem_nil,or_false]at hx
  rcases hx with rfl|rfl|rfl <;> exact .v _
theorem QnK(l:List UInt8)(hl:16384<l.length)(h:AH):Qj Tryz.prog 90 [.v (.string (mkB l)),.i 0] h fun o h'=>o = .ret (.tup [zTok,.i 0,.i 6])/\h'=h:=by
 have hsl:=fun b=>XF Tryz.prog 9 3 (by kernel_rfl) b
 have z1:¬(0:Int)<0:=by omega
 have z2:¬((l.length:Nat):Int)<0:=by omega
 have z3:¬(0:Int)>((l.length:Nat):Int):=by omega
 have z4:((l.length:Nat):Int)>16384:=by omega
 have z5:(16384:Int)<((l.length:Nat):Int):=by omega
 refine Qa Tryz.func90 rfl Tryz.call90 Tryz.ntmps90 Tryz.results90 (by simp) ?_
 repeat refine Qb ?_;simp only[go_sem,seval,hsl,Qg,z1,z2,z4]
 exact Qc (htake _ _) (.keep (Xf _ 0 (.inr 6))) ⟨rfl,rfl⟩
theorem QhV{q:List UInt8}{e:Int}(h:XP q = .inr e):e≠0:=by
 cases q with
 |nil=>cases h
 |cons c r =>
  rw[XP]at h
  split at h
  ·split at h
   ·cases h;decide
   ·cases h
  ·split at h
   ·split at h
    ·cases h;decide
    ·cases h
   ·split at h
    ·cases h
    ·cases h;decide
theorem Qjh(l:List UInt8)(h:AH)(hG:Zf h):Qj Tryz.prog 66 [.v (.string (mkB l))] h fun o h'=>o = .ret (scR (XN l))/\h'=h:=by
 by_cases hl:16384<l.length
 ·have cn:=fun L=>QnK l hl (h++L)
  rw[XN,if_pos hl]
  have e2:((6:Int) != 0)=true:=rfl
  refine Qa Tryz.func66 rfl Tryz.call66 Tryz.ntmps66 Tryz.results66 (by simp) ?_
  iterate 6 (try (first|(((with_reducible refine Qf fun K E hK hE=>?_));simp only[go_sem,seval])|((with_reducible refine hK _ ?_);clear hK)))
  refine X7 5 54 3 rfl ?_
  iterate 4 (try ((with_reducible refine QI ?_)))
  obtain⟨I,hI⟩:∃I:Nat->AS->Prop,I=fun m' s=>m'=0/\s.tm 0 = .v (.string (mkB l))/\s.tm 6 = .i 0/\s.h=h++[.grow 54 3 0]:=⟨_,rfl⟩;refine Qi I ?_ (m:=0) ?_
  ·intro m' s hs;rw[hI]at hs;obtain⟨tm,hp⟩:=s;dsimp only at hs;obtain⟨rfl,t0,t6,rfl⟩:=hs
   repeat first|(first|refine FunW.QtJ (cn _) ?_|refine Qb ?_);simp only[go_sem,seval,t0,t6,zTok,e2]|refine hK _ ?_;clear hK
   exact Qc (htake _ _) (.keep (QfE _ (.inr (0,6)))) ⟨rfl,rfl⟩
  ·rw[hI]
   exact⟨rfl,rfl,rfl,rfl⟩
 ·have hl2:l.length<=16384:=by omega
  rw[XN,if_neg hl]
  generalize hR:ZG l.length (l.length+1) l=R
  refine Qa Tryz.func66 rfl Tryz.call66 Tryz.ntmps66 Tryz.results66 (by simp) ?_
  iterate 6 (try (first|(((with_reducible refine Qf fun K E hK hE=>?_));simp only[go_sem,seval])|((with_reducible refine hK _ ?_);clear hK)))
  refine X7 5 54 3 rfl ?_
  iterate 4 (try ((with_reducible refine QI ?_)))
  obtain⟨I,hI⟩:∃I:Nat->AS->Prop,I=fun m' s=>∃(ts:List Tk) (k:Nat) (G:AH),m'=l.length - k/\k<=l.length/\ts.length<=k/\(∃m,l.length - k<m/\scJ ts (ZG l.length m (l.drop k))=R)/\s.tm 0 = .v (.string (mkB l))/\s.tm 5 = .sl 3 (tks ts) (some h.length)/\s.tm 6 = .i k/\s.h=h++(.grow 54 3 ts.length::G):=⟨_,rfl⟩;refine Qi I ?_ (m:=l.length) ?_
  ·intro m' s hs;rw[hI]at hs;obtain⟨tm,hp⟩:=s;dsimp only at hs;obtain⟨ts,k,G,rfl,hk,htl,⟨m,hm,hR2⟩,t0,t5,t6,rfl⟩:=hs
   have hm1:m=m - 1+1:=by omega
   rw[hm1,ZG]at hR2
   have cn:=fun L=>Qpn l hl2 k (h++L) hk (hG.app L)
   obtain⟨j,j1,j2⟩:=QcT (l.drop k)
   have hsl:(QJ false (l.drop k)).length<=l.length - k:=by rw[j2,List.length_drop,List.length_drop];omega
   have e1:QJ false (l.drop k)=l.drop (l.length - (QJ false (l.drop k)).length):=by
    rw[List.length_drop]at j1
    rw[j2,List.drop_drop,List.length_drop]
    congr 1;omega
   rw[Qff]at cn
   have x1:∀(Y:AH),(G++Y)[G.length]? = Y[0]? := fun Y=>Y8 _ _
   have x2:∀(Y:AH) k,(G++Y)[G.length+k]? = Y[k]? := fun Y k=>hget _ _ _
   have x3:∀(Y:AH) y,(G++Y).set G.length y=G++Y.set 0 y:=fun Y y=>Qah _ _ _
   have ev:(tks ts).length=ts.length:=X4 _
   cases ht:XP (QJ false (l.drop k))with
   |inr e =>
    rw[ht]at hR2 cn
    have hR3:Sum.inr (((l.length - (QJ false (l.drop k)).length:Nat):Int),e)=R:=hR2
    subst hR3
    have he:(e != 0)=true:=by
     have:=QhV ht
     simpa using this
    repeat first|(first|refine FunW.QtJ (cn _) ?_|refine Qb ?_);simp only[go_sem,seval,t0,t6,rdT,zTok,he]|refine hK _ ?_;clear hK
    exact Qc (htake _ _) (.keep (QfE _ (.inr (_,e)))) ⟨rfl,rfl⟩
   |inl p =>
    obtain⟨kd,x⟩:=p
    rw[ht]at hR2 cn
    have hm2:(ts.length+1) * 32<=140737488355328:=by omega
    have hm3:ts.length+1<=maxLen:=by simp only[maxLen];omega
    have e0:((0:Int) != 0)=false:=rfl
    rcases QhW ht with⟨k0,hx1,hx2⟩|⟨k0,hx1,r,hx2⟩
    ·subst k0
     subst hx2
     have hR3:Sum.inl (ts++[⟨0,((l.length - (QJ false (l.drop k)).length:Nat):Int),eB⟩])=R:=hR2
     subst hR3
     have z1:((0:Int)==0)=true:=rfl
     generalize l.length - (QJ false (l.drop k)).length=i at *
     have evs:tks (ts++[⟨0,((i:Nat):Int),eB⟩])=tks ts++[.agg [.i 0,.i i,.v (.string (mkB []))]]:=by rw[tks,List.map_append];rfl
     repeat first|(first|refine FunW.QtJ (cn _) ?_|refine Qb ?_);simp only[go_sem,seval,t0,t5,t6,rdT,tkv,x1,x3,ev,hm2,hm3,List.append_assoc]|refine hK _ ?_;clear hK
     refine Qc (htake _ _) (r':=.tup [.sl 3 (tks ts++[.agg [.i 0,.i i,.v (.string (mkB []))]]) none,.i 0,.i 0]) (Frz.tup rfl fun j a a' h1 h2=>?_) ⟨by rw[scR,evs],rfl⟩
     match j,h1,h2 with
     |0,h1,h2=>cases h1;cases h2;exact .tok (by rw[<-evs];exact QaX _ _)
     |1,h1,h2=>cases h1;cases h2;exact .keep (.v _)
     |2,h1,h2=>cases h1;cases h2;exact .keep (.v _)
     |j+3,h1,h2=>simp at h1
    ·have hR3:scJ (ts++[⟨kd,((l.length - (QJ false (l.drop k)).length:Nat):Int),mkB x⟩]) (ZG l.length (m - 1) ((QJ false (l.drop k)).drop x.length))=R:=by
      rw[<-hR2]
      show _=scJ ts (if kd=0 then _ else match ZG l.length (m - 1) ((QJ false (l.drop k)).drop x.length)with | .inl ts=>_ | .inr e=>_)
      rw[if_neg k0]
      cases ZG l.length (m - 1) ((QJ false (l.drop k)).drop x.length)with
      |inl us=>simp[scJ]
      |inr e=>rfl
     have hxl:0<x.length:=List.length_pos_iff.2 hx1
     have hxr:x.length<=(QJ false (l.drop k)).length:=by rw[hx2,List.length_append];omega
     have e9:(QJ false (l.drop k)).drop x.length=l.drop (l.length - (QJ false (l.drop k)).length+x.length):=by
      conv=>lhs;rw[e1]
      rw[List.drop_drop]
     rw[e9]at hR3
     generalize (QJ false (l.drop k)).length=u at *
     have z1:(kd==0)=false:=by simpa using k0
     have evs:tks (ts++[⟨kd,((l.length - u:Nat):Int),mkB x⟩])=tks ts++[.agg [.i kd,.i ((l.length - u:Nat):Int),.v (.string (mkB x))]]:=by rw[tks,List.map_append];rfl
     repeat first|(first|refine FunW.QtJ (cn _) ?_|refine Qb ?_);simp only[go_sem,seval,t0,t5,t6,rdT,tkv,z1,x1,x3,ev,hm2,hm3,List.append_assoc]|refine hK _ ?_;clear hK
     refine Qv.mk (m':=l.length - (l.length - u+x.length)) (by omega) ?_
     rw[hI]
     refine⟨ts++[⟨kd,((l.length - u:Nat):Int),mkB x⟩],l.length - u+x.length,G++[.cells 54 3 [tkv kd ((l.length - u:Nat):Int) x]],rfl,by omega,by simp;omega,⟨m - 1,by omega,hR3⟩,t0,?_,rfl,?_⟩
     ·rw[evs];rfl
     ·rw[List.length_append];rfl
  ·rw[hI]
   exact⟨[],0,[],rfl,Nat.zero_le _,Nat.le_refl _,⟨l.length+1,by omega,by rw[<-hR];cases h0:ZG l.length (l.length+1) l <;> simp[scJ,h0]⟩,rfl,rfl,rfl,rfl⟩
end Go.Proofs.YticgcpebdldbgaaGreatDoor.Ab
set_option maxRecDepth 4000
namespace Go.Proofs.YticgcpebdldbgaaGreatDoor.Ab
open Go.Proofs
def lowB(c:UInt8):Bool:=decide (97<=c.toNat/\c.toNat<=122)
def upB(c:UInt8):Bool:=decide (65<=c.toNat/\c.toNat<=90\/c.toNat=95)
theorem Qe3(c:UInt8):isL c=(lowB c||upB c):=by
 unfold isL lowB upB
 rw[Bool.eq_iff_iff]
 simp only[decide_eq_true_eq,Bool.or_eq_true]
theorem ZZ(c:UInt8):Pure Tryz.prog 72 [.v (.int .u8 (c.toNat:Nat))] (.b (lowB c)):=by
 intro h
 have hc:=c.toNat_lt
 refine Qa Tryz.func72 rfl Tryz.call72 Tryz.ntmps72 Tryz.results72 (by simp) ?_
 by_cases h1:97<=c.toNat
 ·have y1:((c.toNat:Nat):Int)>=97:=by omega
  have y1':(97:Int)<=((c.toNat:Nat):Int):=by omega
  by_cases h2:c.toNat<=122
  ·have y2:((c.toNat:Nat):Int)<=122:=by omega
   have e:lowB c=true:=decide_eq_true ⟨h1,h2⟩
   repeat refine Qb ?_;simp only[go_sem,seval,y1,y2]
   (refine Qc List.take_length (.keep (.v _)) ⟨by rw[e],rfl⟩)
  ·have y2:¬((c.toNat:Nat):Int)<=122:=by omega
   have e:lowB c=false:=decide_eq_false (by omega)
   repeat refine Qb ?_;simp only[go_sem,seval,y1,y2]
   (refine Qc List.take_length (.keep (.v _)) ⟨by rw[e],rfl⟩)
 ·have y1:¬((c.toNat:Nat):Int)>=97:=by omega
  have y1':¬(97:Int)<=((c.toNat:Nat):Int):=by omega
  have e:lowB c=false:=decide_eq_false (by omega)
  repeat refine Qb ?_;simp only[go_sem,seval,y1]
  (refine Qc List.take_length (.keep (.v _)) ⟨by rw[e],rfl⟩)
theorem Zz(c:UInt8):Pure Tryz.prog 74 [.v (.int .u8 (c.toNat:Nat))] (.b (isD c)):=by
 intro h
 have hc:=c.toNat_lt
 refine Qa Tryz.func74 rfl Tryz.call74 Tryz.ntmps74 Tryz.results74 (by simp) ?_
 by_cases h1:48<=c.toNat
 ·have y1:((c.toNat:Nat):Int)>=48:=by omega
  have y1':(48:Int)<=((c.toNat:Nat):Int):=by omega
  by_cases h2:c.toNat<=57
  ·have y2:((c.toNat:Nat):Int)<=57:=by omega
   have e:isD c=true:=decide_eq_true ⟨h1,h2⟩
   repeat refine Qb ?_;simp only[go_sem,seval,y1,y2]
   (refine Qc List.take_length (.keep (.v _)) ⟨by rw[e],rfl⟩)
  ·have y2:¬((c.toNat:Nat):Int)<=57:=by omega
   have e:isD c=false:=decide_eq_false (by omega)
   repeat refine Qb ?_;simp only[go_sem,seval,y1,y2]
   (refine Qc List.take_length (.keep (.v _)) ⟨by rw[e],rfl⟩)
 ·have y1:¬((c.toNat:Nat):Int)>=48:=by omega
  have y1':¬(48:Int)<=((c.toNat:Nat):Int):=by omega
  have e:isD c=false:=decide_eq_false (by omega)
  repeat refine Qb ?_;simp only[go_sem,seval,y1]
  (refine Qc List.take_length (.keep (.v _)) ⟨by rw[e],rfl⟩)
theorem QaU(c:UInt8):Pure Tryz.prog 73 [.v (.int .u8 (c.toNat:Nat))] (.b (upB c)):=by
 intro h
 have hc:=c.toNat_lt
 refine Qa Tryz.func73 rfl Tryz.call73 Tryz.ntmps73 Tryz.results73 (by simp) ?_
 by_cases h1:65<=c.toNat
 ·have y1:((c.toNat:Nat):Int)>=65:=by omega
  have y1':(65:Int)<=((c.toNat:Nat):Int):=by omega
  by_cases h2:c.toNat<=90
  ·have y2:((c.toNat:Nat):Int)<=90:=by omega
   have e:upB c=true:=decide_eq_true (.inl ⟨h1,h2⟩)
   repeat refine Qb ?_;simp only[go_sem,seval,y1,y2]
   (refine Qc List.take_length (.keep (.v _)) ⟨by rw[e],rfl⟩)
  ·have y2:¬((c.toNat:Nat):Int)<=90:=by omega
   by_cases h3:c.toNat=95
   ·have y3:(((c.toNat:Nat):Int)==95)=true:=by simp;omega
    have e:upB c=true:=decide_eq_true (.inr h3)
    repeat refine Qb ?_;simp only[go_sem,seval,y1,y2,y3]
    (refine Qc List.take_length (.keep (.v _)) ⟨by rw[e],rfl⟩)
   ·have y3:(((c.toNat:Nat):Int)==95)=false:=by simp;omega
    have e:upB c=false:=decide_eq_false (by omega)
    repeat refine Qb ?_;simp only[go_sem,seval,y1,y2,y3]
    (refine Qc List.take_length (.keep (.v _)) ⟨by rw[e],rfl⟩)
 ·have y1:¬((c.toNat:Nat):Int)>=65:=by omega
  have y1':¬(65:Int)<=((c.toNat:Nat):Int):=by omega
  have y3:(((c.toNat:Nat):Int)==95)=false:=by simp;omega
  have e:upB c=false:=decide_eq_false (by omega)
  repeat refine Qb ?_;simp only[go_sem,seval,y1,y3]
  (refine Qc List.take_length (.keep (.v _)) ⟨by rw[e],rfl⟩)
theorem Qkl(c:UInt8):Pure Tryz.prog 92 [.v (.int .u8 (c.toNat:Nat))] (.b (isSp c)):=by
 intro h
 refine Qa Tryz.func92 rfl Tryz.call92 Tryz.ntmps92 Tryz.results92 (by simp) ?_
 by_cases h1:c.toNat=32
 ·have y1:(((c.toNat:Nat):Int)==32)=true:=by simp;omega
  have e:isSp c=true:=decide_eq_true (by omega)
  repeat refine Qb ?_;simp only[go_sem,seval,y1]
  (refine Qc List.take_length (.keep (.v _)) ⟨by rw[e],rfl⟩)
 ·have y1:(((c.toNat:Nat):Int)==32)=false:=by simp;omega
  by_cases h2:c.toNat=9
  ·have y2:(((c.toNat:Nat):Int)==9)=true:=by simp;omega
   have e:isSp c=true:=decide_eq_true (by omega)
   repeat refine Qb ?_;simp only[go_sem,seval,y1,y2]
   (refine Qc List.take_length (.keep (.v _)) ⟨by rw[e],rfl⟩)
  ·have y2:(((c.toNat:Nat):Int)==9)=false:=by simp;omega
   by_cases h3:c.toNat=10
   ·have y3:(((c.toNat:Nat):Int)==10)=true:=by simp;omega
    have e:isSp c=true:=decide_eq_true (by omega)
    repeat refine Qb ?_;simp only[go_sem,seval,y1,y2,y3]
    (refine Qc List.take_length (.keep (.v _)) ⟨by rw[e],rfl⟩)
   ·have y3:(((c.toNat:Nat):Int)==10)=false:=by simp;omega
    by_cases h4:c.toNat=13
    ·have y4:(((c.toNat:Nat):Int)==13)=true:=by simp;omega
     have e:isSp c=true:=decide_eq_true (by omega)
     repeat refine Qb ?_;simp only[go_sem,seval,y1,y2,y3,y4]
     (refine Qc List.take_length (.keep (.v _)) ⟨by rw[e],rfl⟩)
    ·have y4:(((c.toNat:Nat):Int)==13)=false:=by simp;omega
     have e:isSp c=false:=decide_eq_false (by omega)
     repeat refine Qb ?_;simp only[go_sem,seval,y1,y2,y3,y4]
     (refine Qc List.take_length (.keep (.v _)) ⟨by rw[e],rfl⟩)
section
variable(l:List UInt8)(hl:l.length<=16384)
include hl
theorem ZP(k:Nat)(hk:k<=l.length):Pure Tryz.prog 71 [.v (.string (mkB l)),.i k] (.i ((l.length - (QJ false (l.drop k)).length:Nat):Int)):=by
 intro h
 have hsl:=fun b=>XF Tryz.prog 9 3 (by kernel_rfl) b
 refine Qa Tryz.func71 rfl Tryz.call71 Tryz.ntmps71 Tryz.results71 (by simp) ?_
 repeat refine Qb ?_;simp only[go_sem,seval]
 obtain⟨I,hI⟩:∃I:Nat->AS->Prop,I=fun m' s=>∃j:Nat,m'=l.length - j/\j<=l.length/\QJ false (l.drop j)=QJ false (l.drop k)/\s.tm 0 = .v (.string (mkB l))/\s.tm 1 = .i j/\s.h=h:=⟨_,rfl⟩;refine Qi I ?_ (m:=l.length - k) ?_
 ·intro m' s hs;rw[hI]at hs;obtain⟨tm,hp⟩:=s;dsimp only at hs;obtain⟨j,rfl,hj,he,t0,t1,rfl⟩:=hs
  by_cases hlt:j<l.length
  ·have z1:(((j:Nat):Int)<((l.length:Nat):Int)):=by omega
   have hix:=Xb Tryz.prog 9 (by kernel_rfl) (mkB l) j (by rw[Qg];exact hlt)
   rw[Xy l j hlt]at hix
   have cp:=Qkl l[j]
   have hd:=drop_cons hlt
   rw[hd,QJ]at he
   cases hc:isSp l[j]with
   |true =>
    rw[hc]at cp
    rw[if_pos hc]at he
    repeat (first|refine Qd cp ?_|refine Qb ?_);simp only[go_sem,seval,t0,t1,hsl,Qg,z1,hix]
    refine Qv.mk (m':=l.length - (j+1)) (by omega) ?_
    rw[hI]
    refine⟨j+1,rfl,hlt,he,t0,?_,rfl⟩
    simp only[upd,↓reduceIte]
    rw[Qz (by omega)]
   |false =>
    rw[hc]at cp
    rw[if_neg (by rw[hc];decide)]at he
    by_cases h35:(l[j]).toNat=35
    ·rw[if_pos h35]at he
     have z3:((((l[j]).toNat:Nat):Int)==35)=true:=by rw[h35];rfl
     have hI0:=hI
     repeat (first|refine Qd cp ?_|refine Qb ?_);simp only[go_sem,seval,t0,t1,hsl,Qg,z1,hix,z3]
     obtain⟨I,hI⟩:∃I:Nat->AS->Prop,I=fun m' s=>∃i:Nat,m'=l.length - i/\i<=l.length/\j<=i/\(i=j\/QJ true (l.drop i)=QJ false (l.drop k))/\s.tm 0 = .v (.string (mkB l))/\s.tm 1 = .i i/\s.h=hp:=⟨_,rfl⟩;refine Qi I ?_ (m:=l.length - j) ?_
     ·intro m' s hs;rw[hI]at hs;obtain⟨tm,hp⟩:=s;dsimp only at hs;obtain⟨i,rfl,hi,hji,he2,u0,u1,rfl⟩:=hs
      by_cases hlt2:i<l.length
      ·have y1:(((i:Nat):Int)<((l.length:Nat):Int)):=by omega
       have hix2:=Xb Tryz.prog 9 (by kernel_rfl) (mkB l) i (by rw[Qg];exact hlt2)
       rw[Xy l i hlt2]at hix2
       have hd2:=drop_cons hlt2
       by_cases h10:(l[i]).toNat=10
       ·have y2:((((l[i]).toNat:Nat):Int) != 10)=false:=by rw[h10];rfl
        have hne:i≠j:=by rintro rfl;omega
        have he3:=he2.resolve_left hne
        rw[hd2,QJ,if_pos h10]at he3
        repeat refine Qb ?_;simp only[go_sem,seval,u0,u1,hsl,Qg,y1,hix2,y2]
        refine Qv.mk (m':=l.length - i) (by omega) ?_
        rw[hI0]
        refine⟨i,rfl,hi,?_,u0,u1,rfl⟩
        rw[hd2,QJ,if_pos (show isSp l[i]=true by unfold isSp;exact decide_eq_true (by omega))];exact he3
       ·have y2:((((l[i]).toNat:Nat):Int) != 10)=true:=by simpa using fun e=>h10 (by omega)
        repeat refine Qb ?_;simp only[go_sem,seval,u0,u1,hsl,Qg,y1,hix2,y2]
        refine Qv.mk (m':=l.length - (i+1)) (by omega) ?_
        rw[hI]
        refine⟨i+1,rfl,hlt2,by omega,.inr ?_,u0,?_,rfl⟩
        ·rcases he2 with rfl|he2
         ·exact he
         ·rw[hd2,QJ,if_neg h10]at he2;exact he2
        ·simp only[upd,↓reduceIte]
         rw[Qz (by omega)]
      ·have hil:i=l.length:=by omega
       have y1:¬(((i:Nat):Int)<((l.length:Nat):Int)):=by omega
       have hne:i≠j:=by omega
       have he3:=he2.resolve_left hne
       repeat refine Qb ?_;simp only[go_sem,seval,u0,u1,hsl,Qg,y1]
       refine Qv.mk (m':=l.length - i) (by omega) ?_
       rw[hI0]
       refine⟨i,rfl,hi,?_,u0,u1,rfl⟩
       rw[hil,List.drop_length]at he3 ⊢
       rw[<-he3,QJ,QJ]
     ·rw[hI]
      exact⟨j,rfl,hj,Nat.le_refl _,.inl rfl,t0,t1,rfl⟩
    ·rw[if_neg h35]at he
     have z3:((((l[j]).toNat:Nat):Int)==35)=false:=by simpa using fun e=>h35 (by omega)
     repeat (first|refine Qd cp ?_|refine Qb ?_);simp only[go_sem,seval,t0,t1,hsl,Qg,z1,hix,z3]
     exact Qc List.take_length (.keep (.v _)) ⟨by rw[<-he,List.length_cons,List.length_drop];congr 3;omega,rfl⟩
  ·have hjl:j=l.length:=by omega
   have z1:¬(((j:Nat):Int)<((l.length:Nat):Int)):=by omega
   rw[hjl,List.drop_length,QJ]at he
   repeat refine Qb ?_;simp only[go_sem,seval,t0,t1,hsl,Qg,z1]
   exact Qc List.take_length (.keep (.v _)) ⟨by rw[<-he,hjl];rfl,rfl⟩
 ·rw[hI]
  exact⟨k,rfl,hk,rfl,rfl,rfl,rfl⟩
end
theorem Qko(l:List UInt8)(hd:∀c∈l,isD c=true)(hl:l.length<=16384):Pure Tryz.prog 75 [.v (.string (mkB l))] (.i (min (numVal l) 2147483649:Nat)):=by
 intro h
 have hsl:=fun b=>XF Tryz.prog 9 3 (by kernel_rfl) b
 refine Qa Tryz.func75 rfl Tryz.call75 Tryz.ntmps75 Tryz.results75 (by simp) ?_
 repeat refine Qb ?_;simp only[go_sem,seval]
 obtain⟨I,hI⟩:∃I:Nat->AS->Prop,I=fun m' s=>∃p:Nat,m'=l.length - p/\p<=l.length/\s.tm 0 = .v (.string (mkB l))/\s.tm 3 = .i (min (numVal (l.take p)) 2147483649:Nat)/\s.tm 4 = .i p/\s.h=h:=⟨_,rfl⟩;refine Qi I ?_ (m:=l.length) ?_
 ·intro m' s hs;rw[hI]at hs;obtain⟨tm,hp⟩:=s;dsimp only at hs;obtain⟨p,rfl,hp',t0,t3,t4,rfl⟩:=hs
  by_cases hlt:p<l.length
  ·have y1:(((p:Nat):Int)<((l.length:Nat):Int)):=by omega
   have hix:=Xb Tryz.prog 9 (by kernel_rfl) (mkB l) p (by rw[Qg];exact hlt)
   rw[Xy l p hlt]at hix
   have d2:=hd l[p] (List.getElem_mem hlt)
   have hcd:48<=(l[p]).toNat/\(l[p]).toNat<=57:=by unfold isD at d2;simpa using d2
   obtain⟨n1,n2⟩:=QaM hlt
   obtain⟨v,hv⟩:∃v,v=min (numVal (l.take p)) 2147483649:=⟨_,rfl⟩
   rw[<-hv]at t3
   have w1:IntKind.i64.wrap (((v:Nat):Int) * 10)=((v * 10:Nat):Int):=by rw[QO (by omega)];omega
   have w2:IntKind.u8.wrap ((((l[p]).toNat:Nat):Int) - 48)=(((l[p]).toNat - 48:Nat):Int):=by rw[Qrm (by omega)];omega
   have w3:=Qra (((l[p]).toNat - 48:Nat):Int) (by omega)
   have w4:IntKind.i64.wrap (((v * 10:Nat):Int)+(((l[p]).toNat - 48:Nat):Int))=((v * 10+((l[p]).toNat - 48):Nat):Int):=by rw[QO (by omega)];omega
   have w5:IntKind.i64.wrap (((p:Nat):Int)+1)=((p+1:Nat):Int):=Qz (by omega)
   repeat refine Qb ?_;simp only[go_sem,seval,t0,t3,t4,hsl,Qg,y1,hix,w1,w2,w3,w4,w5]
   refine Qv.mk (m':=l.length - (p+1)) (by omega) ?_
   rw[hI]
   refine⟨p+1,rfl,hlt,t0,?_,rfl,rfl⟩
   simp only[upd,↓reduceIte,Nat.reduceEqDiff]
   congr 3
   rw[n1]
   split <;> omega
  ·have y1:¬(((p:Nat):Int)<((l.length:Nat):Int)):=by omega
   have e:l.take p=l:=List.take_of_length_le (by omega)
   rw[e]at t3
   repeat refine Qb ?_;simp only[go_sem,seval,t0,t3,t4,hsl,Qg,y1]
   (refine Qc List.take_length (.keep (.v _)) ⟨rfl,rfl⟩)
 ·rw[hI]
  exact⟨0,rfl,Nat.zero_le _,rfl,rfl,rfl,rfl⟩
end Go.Proofs.YticgcpebdldbgaaGreatDoor.Ab
set_option maxRecDepth 4000
namespace Go.Proofs.YticgcpebdldbgaaGreatDoor.Ab
open Go.Proofs
def Yg:List (List UInt8):=[[64],[44],[46],[40],[41],[124],[47],[92],[43],[45],[42],[37],[61],[61,61],[92,61],[60],[61,60],[62],[62,61],[61,58,61],[61,92,61],[60,61,62],[61,61,62]]
def stepS(q b x:List UInt8):List UInt8:=if x.isPrefixOf q=true/\b.length<x.length then x else b
def Qc8(q:List UInt8)(m:List (List UInt8)):List UInt8:=m.foldl (stepS q) []
theorem QlC(q:List UInt8)(m:List (List UInt8))(x:List UInt8):Qc8 q (m++[x])=stepS q (Qc8 q m) x:=by rw[Qc8,List.foldl_append];rfl
theorem Qgu(q:List UInt8):∀(m:List (List UInt8)) (b:List UInt8),(m.foldl (stepS q) b=b\/(m.foldl (stepS q) b∈m/\(m.foldl (stepS q) b).isPrefixOf q=true))/\b.length<=(m.foldl (stepS q) b).length/\∀x∈m,x.isPrefixOf q=true->x.length<=(m.foldl (stepS q) b).length
 |[],b=>⟨.inl rfl,Nat.le_refl _,fun x h=>(List.not_mem_nil h).elim⟩
 |y::m,b=>by
  obtain⟨h1,h2,h3⟩:=Qgu q m (stepS q b y)
  rw[List.foldl_cons]
  have hb:b.length<=(stepS q b y).length:=by unfold stepS;split <;> omega
  have hy:y.isPrefixOf q=true->y.length<=(stepS q b y).length:=fun hp=>by
   unfold stepS;split
   ·exact Nat.le_refl _
   ·rename_i hc
    exact Nat.le_of_not_lt fun q=>hc ⟨hp,q⟩
  refine⟨?_,Nat.le_trans hb h2,fun x hx hp=>?_⟩
  ·rcases h1 with h1|⟨h1,h4⟩
   ·rw[h1]
    unfold stepS
    split
    ·rename_i hc;exact .inr ⟨by simp,hc.1⟩
    ·exact .inl rfl
   ·exact .inr ⟨List.mem_cons_of_mem _ h1,h4⟩
  ·rcases List.mem_cons.1 hx with rfl|hx
   ·exact Nat.le_trans (hy hp) h2
   ·exact h3 x hx hp
theorem pre_eq{a b q:List UInt8}(ha:a.isPrefixOf q=true)(hb:b.isPrefixOf q=true)(h:a.length=b.length):a=b:=by
 rw[QaO,beq_iff_eq]at ha hb
 rw[<-ha,<-hb,h]
theorem QpZ:(∀x∈Yg,x∈Q5)/\(∀x∈Q5,x∈Yg)/\Q5.Pairwise (fun a b=>b.length<=a.length)/\∀x∈Yg,0<x.length:=by decide
theorem QoW(q:List UInt8):Qc8 q Yg=(Qd5 q).getD []:=by
 obtain⟨p1,p2,p3,p4⟩:=QpZ
 obtain⟨h1,h2,h3⟩:=Qgu q Yg []
 change (Qc8 q Yg=[]\/(Qc8 q Yg∈Yg/\(Qc8 q Yg).isPrefixOf q=true))at h1
 change ∀x∈Yg,x.isPrefixOf q=true->x.length<=(Qc8 q Yg).length at h3
 generalize Qc8 q Yg=b at *
 cases hs:Qd5 q with
 |none =>
  rcases h1 with h1|⟨h1,h4⟩
  ·exact h1
  ·have:=(List.find?_eq_none.1 hs) b (p1 b h1)
   exact absurd h4 this
 |some x =>
  obtain⟨hx,l1,l2,hl,hno⟩:=List.find?_eq_some_iff_append.1 hs
  have hxm:x∈Q5:=by rw[hl];simp
  have hxb:=h3 x (p2 x hxm) hx
  rcases h1 with h1|⟨h1,h4⟩
  ·have:=p4 x (p2 x hxm)
   rw[h1]at hxb
   simp at hxb
   rw[hxb]at this
   simp at this
  ·have hbm:=p1 b h1
   have hle:b.length<=x.length:=by
    rw[hl]at hbm p3
    rcases List.mem_append.1 hbm with hb|hb
    ·have:=hno b hb
     rw[h4]at this
     cases this
    ·rcases List.mem_cons.1 hb with rfl|hb
     ·exact Nat.le_refl _
     ·have:=(List.pairwise_append.1 p3).2.1
      exact(List.pairwise_cons.1 this).1 b hb
   exact pre_eq h4 hx (Nat.le_antisymm hle hxb)
theorem Qml:Pure Tryz.prog 93 [] (.sl 1 (strs (Yg.map mkB)) none):=by
 intro h
 have r23:([0,1,2,3,4,5,6,7,8,9,10,11,12,13,14,15,16,17,18,19,20,21,22]:List Nat)=List.range 23:=by decide
 refine Qa Tryz.func93 rfl Tryz.call93 Tryz.ntmps93 Tryz.results93 (by simp) ?_
 repeat refine Qb ?_;simp only[go_sem,seval,r23]
 simp only[go_sem,upd];(refine Qc List.take_length (.keep (.sl 1 _ none (QbC _ (Yg.map mkB)) (fun b hb=>by cases hb))) ⟨rfl,rfl⟩)
theorem QdR(l:List UInt8)(hl:l.length<=16384)(k:Nat)(hk:k<=l.length):Pure Tryz.prog 76 [.v (.string (mkB l)),.i k] (.v (.string (mkB ((Qd5 (l.drop k)).getD [])))):=by
 intro h
 have hsl:=fun b=>XF Tryz.prog 9 3 (by kernel_rfl) b
 have z1:¬((k:Nat):Int)<0:=by omega
 have z2:¬((l.length:Nat):Int)<((k:Nat):Int):=by omega
 have z3:¬((k:Nat):Int)>((l.length:Nat):Int):=by omega
 have cs:=Qml
 have hlen2:(strs (Yg.map mkB)).length=Yg.length:=by rw[Xd,List.length_map]
 rw[<-QoW]
 have hm3:∀x∈Yg,x.length<=3:=by decide
 refine Qa Tryz.func76 rfl Tryz.call76 Tryz.ntmps76 Tryz.results76 (by simp) ?_
 repeat (first|refine Qd cs ?_|refine Qb ?_);simp only[go_sem,seval,hsl,Qg,z1,z2]
 obtain⟨I,hI⟩:∃I:Nat->AS->Prop,I=fun m' s=>∃j:Nat,m'=Yg.length - j/\j<=Yg.length/\s.tm 0 = .v (.string (mkB l))/\s.tm 1 = .i k/\s.tm 5 = .v (.string (mkB (Qc8 (l.drop k) (Yg.take j))))/\s.tm 6 = .sl 1 (strs (Yg.map mkB)) none/\s.tm 7 = .i j/\s.h=h:=⟨_,rfl⟩;refine Qi I ?_ (m:=Yg.length) ?_
 ·intro m' s hs;rw[hI]at hs;obtain⟨tm,hp⟩:=s;dsimp only at hs;obtain⟨j,rfl,hj,t0,t1,t5,t6,t7,rfl⟩:=hs
  by_cases hlt:j<Yg.length
  ·have y1:((j:Nat):Int)<((Yg.length:Nat):Int):=by omega
   have hat:(strs (Yg.map mkB))[j]? = some (.v (.string (mkB Yg[j]))):=by rw[strs,List.getElem?_map,List.getElem?_map,List.getElem?_eq_getElem hlt];rfl
   have hx3:=hm3 _ (List.getElem_mem hlt)
   have htk:Qc8 (l.drop k) (Yg.take (j+1))=stepS (l.drop k) (Qc8 (l.drop k) (Yg.take j)) Yg[j]:=by rw[List.take_succ_eq_append_getElem hlt,QlC]
   generalize hb:Qc8 (l.drop k) (Yg.take j)=b at *
   generalize Yg[j]=x at *
   have w1:IntKind.i64.wrap (((l.length:Nat):Int) - ((k:Nat):Int))=((l.length - k:Nat):Int):=by rw[QO (by omega)];omega
   have w2:IntKind.i64.wrap (((k:Nat):Int)+((x.length:Nat):Int))=((k+x.length:Nat):Int):=by rw[QO (by omega)];omega
   have w3:IntKind.i64.wrap (((j:Nat):Int)+1)=((j+1:Nat):Int):=Qz (by have:Yg.length=23:=rfl;omega)
   by_cases hle:x.length<=l.length - k
   ·have y2:((x.length:Nat):Int)<=((l.length - k:Nat):Int):=by omega
    have hsp:=YL Tryz.prog 9 (by kernel_rfl) (mkB l) (some (.i64,(k:Nat))) (some (.i64,(k+x.length:Nat))) k (k+x.length) ⟨by omega,by rw[Qg];omega,by omega⟩ ⟨by omega,by omega,by omega⟩
    simp only[QuE]at hsp
    have hq:(((mkB l).extract k (k+x.length)).toList==(mkB x).toList)=x.isPrefixOf (l.drop k):=by rw[Qde l k _ (by omega),QdJ,QaO]
    cases hc:x.isPrefixOf (l.drop k)with
    |true =>
     rw[hc]at hq
     by_cases hg:b.length<x.length
     ·have y4:((x.length:Nat):Int)>((b.length:Nat):Int):=by omega
      have y5:((b.length:Nat):Int)<((x.length:Nat):Int):=by omega
      repeat first|(first|refine Ql (id:=9) [(0,0),(1,0),(2,0),(3,0),(4,0),(5,0),(6,0),(7,0),(8,0),(9,0),(10,0),(11,0),(12,0),(13,0),(14,0),(15,0),(16,0),(17,0),(18,0),(19,0),(20,0),(21,0),(22,0),(23,0),(24,0)] mixed (by kernel_rfl) fun K hK=>?_|refine Qb ?_);simp only[go_sem,seval,Xx,t0,t1,t5,t6,t7,hsl,Qg,hlen2,y1,hat,w1,w2,w3,y2,hsp,hq,y4]|refine hK _ ?_;clear hK
      refine Qv.mk (m':=Yg.length - (j+1)) (by omega) ?_
      rw[hI]
      refine⟨j+1,rfl,hlt,t0,t1,?_,t6,rfl,rfl⟩
      rw[htk,stepS,if_pos ⟨hc,hg⟩];rfl
     ·have y4:¬((x.length:Nat):Int)>((b.length:Nat):Int):=by omega
      have y5:¬((b.length:Nat):Int)<((x.length:Nat):Int):=by omega
      repeat first|(first|refine Ql (id:=9) [(0,0),(1,0),(2,0),(3,0),(4,0),(5,0),(6,0),(7,0),(8,0),(9,0),(10,0),(11,0),(12,0),(13,0),(14,0),(15,0),(16,0),(17,0),(18,0),(19,0),(20,0),(21,0),(22,0),(23,0),(24,0)] mixed (by kernel_rfl) fun K hK=>?_|refine Qb ?_);simp only[go_sem,seval,Xx,t0,t1,t5,t6,t7,hsl,Qg,hlen2,y1,hat,w1,w2,w3,y2,hsp,hq,y4]|refine hK _ ?_;clear hK
      refine Qv.mk (m':=Yg.length - (j+1)) (by omega) ?_
      rw[hI]
      refine⟨j+1,rfl,hlt,t0,t1,?_,t6,rfl,rfl⟩
      rw[htk,stepS,if_neg (by rintro⟨_,q⟩;exact hg q)];exact t5
    |false =>
     rw[hc]at hq
     repeat first|(first|refine Ql (id:=9) [(0,0),(1,0),(2,0),(3,0),(4,0),(5,0),(6,0),(7,0),(8,0),(9,0),(10,0),(11,0),(12,0),(13,0),(14,0),(15,0),(16,0),(17,0),(18,0),(19,0),(20,0),(21,0),(22,0),(23,0),(24,0)] mixed (by kernel_rfl) fun K hK=>?_|refine Qb ?_);simp only[go_sem,seval,Xx,t0,t1,t6,t7,hsl,Qg,hlen2,y1,hat,w1,w2,w3,y2,hsp,hq]|refine hK _ ?_;clear hK
     refine Qv.mk (m':=Yg.length - (j+1)) (by omega) ?_
     rw[hI]
     refine⟨j+1,rfl,hlt,t0,t1,?_,t6,rfl,rfl⟩
     rw[htk,stepS,if_neg (by rintro⟨q,_⟩;rw[hc]at q;cases q)];exact t5
   ·have y2:¬((x.length:Nat):Int)<=((l.length - k:Nat):Int):=by omega
    have hc:x.isPrefixOf (l.drop k)=false:=by
     rw[QaO,beq_eq_false_iff_ne]
     intro e
     have:=congrArg List.length e
     rw[List.length_take,List.length_drop]at this
     omega
    repeat first|(first|refine Ql (id:=9) [(0,0),(1,0),(2,0),(3,0),(4,0),(5,0),(6,0),(7,0),(8,0),(9,0),(10,0),(11,0),(12,0),(13,0),(14,0),(15,0),(16,0),(17,0),(18,0),(19,0),(20,0),(21,0),(22,0),(23,0),(24,0)] mixed (by kernel_rfl) fun K hK=>?_|refine Qb ?_);simp only[go_sem,seval,t0,t1,t6,t7,hsl,Qg,hlen2,y1,hat,w1,w3,y2]|refine hK _ ?_;clear hK
    refine Qv.mk (m':=Yg.length - (j+1)) (by omega) ?_
    rw[hI]
    refine⟨j+1,rfl,hlt,t0,t1,?_,t6,rfl,rfl⟩
    rw[htk,stepS,if_neg (by rintro⟨q,_⟩;rw[hc]at q;cases q)];exact t5
  ·have hjl:j=Yg.length:=by omega
   have y1:¬((j:Nat):Int)<((Yg.length:Nat):Int):=by omega
   rw[hjl,List.take_length]at t5
   repeat refine Qb ?_;simp only[go_sem,seval,t5,t6,t7,hlen2,y1]
   (refine Qc List.take_length (.keep (.v _)) ⟨rfl,rfl⟩)
 ·rw[hI]
  exact⟨0,rfl,Nat.zero_le _,rfl,rfl,rfl,rfl,rfl,rfl⟩
end Go.Proofs.YticgcpebdldbgaaGreatDoor.Ab
set_option maxRecDepth 4000
namespace Go.Proofs.YticgcpebdldbgaaGreatDoor.Ab
open Go.Proofs
def rh(h:AH)(i g:Nat)(all:List Tk)(s:PS)(pos e:Int):AH:=hs2 h i (rdB all (some g) s pos e) g (gB s)
structure IG (h:AH) (i g:Nat):Prop where
 il:i<h.length
 gl:g<h.length
 ig:i≠g
theorem IG.app{h:AH}{i g:Nat}(H:IG h i g)(L:AH):IG (h++L) i g:=⟨by rw[List.length_append];have:=H.il;omega,by rw[List.length_append];have:=H.gl;omega,H.ig⟩
def R2(P:Program)(f:FuncId)(args:List AV)(i g:Nat)(all:List Tk)(s:PS)(r:AV)(s':PS)(pos e:Int):Prop :=
 ∀h:AH,IG h i g->Qj P f args (rh h i g all s 0 0) fun o h'=>o = .ret r/\h'=rh h i g all s' pos e
section
variable{h:AH}{i g:Nat}(H:IG h i g)(all:List Tk)(s:PS)(pos e:Int)
theorem YB(h:AH)(i g:Nat)(all:List Tk)(s:PS)(pos e:Int):(rh h i g all s pos e).length=h.length:=Y9 ..
theorem QaT(h:AH)(i g:Nat)(all:List Tk)(s:PS)(pos e:Int)(L:AH):(rh h i g all s pos e++L)[h.length]? = L[0]? := QkQ ..
theorem QcO(h:AH)(i g:Nat)(all:List Tk)(s:PS)(pos e:Int)(L:AH)(k:Nat):(rh h i g all s pos e++L)[h.length+k]? = L[k]? := QqV ..
theorem ZL(h:AH)(i g:Nat)(all:List Tk)(s:PS)(pos e:Int)(z:AB)(L:AH):(rh h i g all s pos e++L).set h.length z=rh h i g all s pos e++L.set 0 z:=QiH ..
theorem QaS(h:AH)(i g:Nat)(all:List Tk)(s:PS)(pos e:Int)(z:AB)(L:AH)(k:Nat):(rh h i g all s pos e++L).set (h.length+k) z=rh h i g all s pos e++L.set k z:=Qpc ..
include H
theorem Qb1(L:AH):rh (h++L) i g all s pos e=rh h i g all s pos e++L:=QjQ H.il H.gl _ _ L
theorem Qli:(rdB all (some g) s pos e).Below h.length:=Zy _ (fun k hk=>by cases hk;exact H.gl) _ _ _
theorem QB{s0:PS}{p0 e0:Int}{L:AH}{r r':AV}{Q:AV->AH->Prop}(hf:Frz (rh h i g all s pos e++L) h.length r r')(hq:Q r' (rh h i g all s pos e)):Leaves (rh h i g all s0 p0 e0) (rh h i g all s pos e++L) r Q :=
 Qdi H.ig (Qli H all s pos e) (show(gB s).Below h.length from trivial) hf hq
end
theorem R2.app{P:Program}{f:FuncId}{args:List AV}{i g:Nat}{all:List Tk}{s s':PS}{r:AV}{pos e:Int}(H:R2 P f args i g all s r s' pos e){h:AH}(HI:IG h i g)(L:AH) :
  Qj P f args (rh h i g all s 0 0++L) fun o h'=>o = .ret r/\h'=rh h i g all s' pos e++L:=by
 have:=H (h++L) (HI.app L)
 rwa [Qb1 HI,Qb1 HI]at this
theorem Qqh{h:AH}{i g:Nat}(hig:i≠g)(x y:AB):hs (h.set g y) i x=hs2 h i x g y:=by
 simp only[hs,hs2]
 rw[List.set_comm _ _ (fun e=>hig e.symm)]
theorem RC.two{P:Program}{f:FuncId}{args:List AV}{i g:Nat}{all:List Tk}{s s':PS}{r:AV}{pos e:Int}(H:RC P f args i (some g) (rdB all (some g) s 0 0) r (rdB all (some g) s' pos e))(hn:s'.names=s.names):R2 P f args i g all s r s' pos e:=by
 intro h HI
 have:=H (h.set g (gB s)) (by simpa using HI.il) (fun k hk=>by cases hk;simpa using HI.gl)
 rw[Qqh HI.ig,Qqh HI.ig]at this
 have e:gB s'=gB s:=by simp only[gB,hn]
 unfold rh
 rw[e];exact this
theorem QoG(H:AH)(m:Nat)(k n:Int):Frz H m (.agg [.i k,.i n,.v (.string {data:=#[]}),.v (.slice none 0 0)]) (T.mk k n eB []).av :=
 .agg rfl (Z8 (.keep (.v _)) (Z8 (.keep (.v _)) (Z8 (.keep (.v _)) (QeU (.nil 4)))))
theorem Qjt(l:List UInt8)(hd:∀c∈l,isD c=true)(hl:l.length<=1000000)(hb:numVal l<=2147483648):Pure Tryz.prog 56 [.v (.string (mkB l))] (.i (numVal l:Nat)):=by
 intro h
 have hsl:=fun b=>XF Tryz.prog 9 3 (by kernel_rfl) b
 refine Qa Tryz.func56 rfl Tryz.call56 Tryz.ntmps56 Tryz.results56 (by simp) ?_
 repeat refine Qb ?_;simp only[go_sem,seval]
 obtain⟨I,hI⟩:∃I:Nat->AS->Prop,I=fun m' s=>∃p:Nat,m'=l.length - p/\p<=l.length/\s.tm 0 = .v (.string (mkB l))/\s.tm 3 = .i (numVal (l.take p):Nat)/\s.tm 4 = .i p/\s.h=h:=⟨_,rfl⟩;refine Qi I ?_ (m:=l.length) ?_
 ·intro m' s hs;rw[hI]at hs;obtain⟨tm,hp⟩:=s;dsimp only at hs;obtain⟨p,rfl,hp',t0,t3,t4,rfl⟩:=hs
  by_cases hlt:p<l.length
  ·have y1:(((p:Nat):Int)<((l.length:Nat):Int)):=by omega
   have hix:=Xb Tryz.prog 9 (by kernel_rfl) (mkB l) p (by rw[Qg];exact hlt)
   rw[Xy l p hlt]at hix
   have d2:=hd l[p] (List.getElem_mem hlt)
   have hcd:48<=(l[p]).toNat/\(l[p]).toNat<=57:=by unfold isD at d2;simpa using d2
   obtain⟨n1,n2⟩:=QaM hlt
   obtain⟨v,hv⟩:∃v,v=numVal (l.take p):=⟨_,rfl⟩
   have w1:IntKind.i64.wrap (10 * ((v:Nat):Int))=((10 * v:Nat):Int):=by rw[QO (by omega)];omega
   have w2:IntKind.u8.wrap ((((l[p]).toNat:Nat):Int) - 48)=(((l[p]).toNat - 48:Nat):Int):=by rw[Qrm (by omega)];omega
   have w3:=Qra (((l[p]).toNat - 48:Nat):Int) (by omega)
   have w4:IntKind.i64.wrap (((10 * v:Nat):Int)+(((l[p]).toNat - 48:Nat):Int))=((10 * v+((l[p]).toNat - 48):Nat):Int):=by rw[QO (by omega)];omega
   have w5:IntKind.i64.wrap (((p:Nat):Int)+1)=((p+1:Nat):Int):=Qz (by omega)
   rw[<-hv]at t3
   repeat refine Qb ?_;simp only[go_sem,seval,t0,t3,t4,hsl,Qg,y1,hix,w1,w2,w3,w4,w5]
   refine Qv.mk (m':=l.length - (p+1)) (by omega) ?_
   rw[hI]
   refine⟨p+1,rfl,hlt,t0,?_,rfl,rfl⟩
   simp only[upd,↓reduceIte,Nat.reduceEqDiff]
   congr 3
   rw[n1]
   omega
  ·have y1:¬(((p:Nat):Int)<((l.length:Nat):Int)):=by omega
   have e:l.take p=l:=List.take_of_length_le (by omega)
   rw[e]at t3
   repeat refine Qb ?_;simp only[go_sem,seval,t0,t3,t4,hsl,Qg,y1]
   (refine Qc List.take_length (.keep (.v _)) ⟨rfl,rfl⟩)
 ·rw[hI]
  exact⟨0,rfl,Nat.zero_le _,rfl,rfl,rfl,rfl⟩
theorem strs_get{l:List ByteArray}{k:Nat}(h:k<l.length):(strs l)[k]? = some (.v (.string l[k])):=by
 rw[strs,List.getElem?_map,List.getElem?_eq_getElem h];rfl
theorem QpF{h:AH}{i g:Nat}(hi:i<h.length)(hig:i≠g)(all:List Tk)(q:PS)(pos e:Int)(L:AH):(hs2 h i (rdB all (some g) q pos e) g (gB q)++L)[i]? = some (.cells 69 5 [.agg [.sl 3 (tks all) none,.i ((all.length - q.toks.length:Nat):Int),.sl 1 (strs q.names) (some g),.i pos,.i e]]):=QiF hi hig _ _ L
theorem Qs4{h:AH}{i g:Nat}(hg:g<h.length)(all:List Tk)(q:PS)(pos e:Int)(L:AH):(hs2 h i (rdB all (some g) q pos e) g (gB q)++L)[g]? = some (.grow 9 1 q.names.length):=QiG hg _ _ L
def rawT:AV:=.agg [.i 0,.i 0,.v (.string {data:=#[]}),.v (.slice none 0 0)]
section
variable{all:List Tk}{q:PS}(hN:all.length<=1000000)(hS:q.names.length<all.length)(i g:Nat)(x:ByteArray)
include hN hS
theorem QpR:R2 Tryz.prog 125 [.ptr i 0 0,.v (.string x)] i g all q (pVari x q).1.av (pVari x q).2 0 0:=by
 intro h HI
 unfold rh
 have hi:=HI.il
 have hg:=HI.gl
 have hig:=HI.ig
 have f1:=fun x y=>Y9 h i x g y
 have f2:=QpF hi hig all q 0 0
 have f3:=Qs4 (i:=i) hg all q 0 0
 have f4:=fun x y L=>QkQ (h:=h) (i:=i) (j:=g) x y L
 have f6:=fun x y z L=>QiH (h:=h) (i:=i) (j:=g) x y z L
 have f7:=fun x y z L=>Qnl (h:=h) (j:=g) hi hig x y z L
 have f8:=fun x y z L=>Qnm (h:=h) (i:=i) hg x y z L
 have f9:=fun x y L=>QiF (h:=h) (j:=g) hi hig x y L
 have f10:=fun x y L=>QiG (h:=h) (i:=i) hg x y L
 have e95:(ByteArray.toList {data:=#[95]})=[95]:=by rw[Lib.toList_data]
 obtain⟨N,hNN⟩:∃N,N=(if nameAt q.names x<q.names.length/\x.toList≠[95]then nameAt q.names x else q.names.length):=⟨_,rfl⟩
 have hNl:N<=q.names.length:=by rw[hNN];split <;> omega
 have hno:∀j (hj:j<q.names.length),j<N->x.toList≠[95]->(q.names[j].toList==x.toList)=false:=fun j hj hlt hx=>by
  have h1:j<nameAt q.names x:=by
   rw[hNN]at hlt
   split at hlt
   ·exact hlt
   ·rename_i hc
    have:¬nameAt q.names x<q.names.length:=fun hk=>hc ⟨hk,hx⟩
    omega
  have:=List.not_of_lt_findIdx h1
  simpa using this
 refine Qa Tryz.func125 rfl Tryz.call125 Tryz.ntmps125 Tryz.results125 (by simp) ?_
 with_reducible repeat first|refine Qf fun K E hK hE=>?_;simp only[go_sem,seval,f1]|refine Qo fun K hK=>?_|refine QI ?_|refine hK _ ?_;clear hK
 obtain⟨I,hI⟩:∃I:Nat->AS->Prop,I=fun m' s=>∃j:Nat,m'=q.names.length - j/\j<=N/\s.tm 0 = .ptr i 0 0/\s.tm 1 = .v (.string x)/\s.tm 4 = .ptr h.length 0 0/\s.tm 5 = .i j/\s.h=hs2 h i (rdB all (some g) q 0 0) g (gB q)++[.cells 48 4 [rawT]]:=⟨_,rfl⟩;refine Qi I ?_ (m:=q.names.length) ?_
 ·intro m' s hs;rw[hI]at hs;obtain⟨tm,hp⟩:=s;dsimp only at hs;obtain⟨j,rfl,hj,t0,t1,t4,t5,rfl⟩:=hs
  have wj:IntKind.i64.wrap (((j:Nat):Int)+1)=((j+1:Nat):Int):=Qz (by omega)
  by_cases hjN:j<N
  ·have hlt:j<q.names.length:=by omega
   have y1:((j:Nat):Int)<((q.names.length:Nat):Int):=by omega
   have hat:=strs_get hlt
   by_cases hx:x.toList=[95]
   ·have z1:(x.toList==ByteArray.toList {data:=#[95]})=true:=by rw[e95,hx];rfl
    cases hz:(q.names[j].toList==x.toList)with
    |true =>
     with_reducible repeat first|(first|refine Qf fun K E hK hE=>?_|refine QC fun K E hK hE=>?_);simp only[go_sem,seval,t0,t1,t5,f2,Xd,y1,hat,hz,z1,wj]|refine Qo fun K hK=>?_|refine QI ?_|refine QR ?_|refine Qh ?_|refine Xm ?_|refine hK _ ?_;clear hK|refine Qk rfl ?_;simp only[↓reduceIte,QuG]
     refine Qv.mk (m':=q.names.length - (j+1)) (by omega) ?_
     rw[hI]
     exact⟨j+1,rfl,hjN,t0,t1,t4,rfl,rfl⟩
    |false =>
     with_reducible repeat first|(first|refine Qf fun K E hK hE=>?_|refine QC fun K E hK hE=>?_);simp only[go_sem,seval,t0,t1,t5,f2,Xd,y1,hat,hz,wj]|refine Qo fun K hK=>?_|refine QI ?_|refine QR ?_|refine Qh ?_|refine Xm ?_|refine hK _ ?_;clear hK|refine Qk rfl ?_;simp only[↓reduceIte,QuG]
     refine Qv.mk (m':=q.names.length - (j+1)) (by omega) ?_
     rw[hI]
     exact⟨j+1,rfl,hjN,t0,t1,t4,rfl,rfl⟩
   ·have hz:=hno j hlt hjN hx
    with_reducible repeat first|(first|refine Qf fun K E hK hE=>?_|refine QC fun K E hK hE=>?_);simp only[go_sem,seval,t0,t1,t5,f2,Xd,y1,hat,hz,wj]|refine Qo fun K hK=>?_|refine QI ?_|refine QR ?_|refine Qh ?_|refine Xm ?_|refine hK _ ?_;clear hK|refine Qk rfl ?_;simp only[↓reduceIte,QuG]
    refine Qv.mk (m':=q.names.length - (j+1)) (by omega) ?_
    rw[hI]
    exact⟨j+1,rfl,hjN,t0,t1,t4,rfl,rfl⟩
  ·have hjN2:j=N:=by omega
   subst hjN2
   by_cases hc:nameAt q.names x<q.names.length/\x.toList≠[95]
   ·rw[if_pos hc]at hNN
    have hlt:j<q.names.length:=by omega
    have y1:((j:Nat):Int)<((q.names.length:Nat):Int):=by omega
    have hat:=strs_get hlt
    have z1:(x.toList==ByteArray.toList {data:=#[95]})=false:=by rw[e95];simpa using hc.2
    have hz:(q.names[j].toList==x.toList)=true:=by
     subst hNN
     exact List.findIdx_getElem (p:=fun y:ByteArray=>y.toList==x.toList) (xs:=q.names) (w:=hc.1)
    have hv:pVari x q=(.mk 1 (j:Nat) eB [],q):=by unfold pVari;rw[if_pos hc,hNN]
    rw[hv]
    with_reducible repeat first|refine Qf fun K E hK hE=>?_;simp only[go_sem,seval,t0,t1,t4,t5,f2,f4,f6,rawT,Xd,y1,hat,hz,z1]|refine Qo fun K hK=>?_|refine QI ?_|refine Qal ?_|refine QR ?_|refine Qh ?_|refine QfL ?_|refine Qjq ?_|refine hK _ ?_;clear hK|refine Qk rfl ?_;simp only[↓reduceIte]
    simp only[go_sem,seval,t4,f4]
    refine Qdi (x':=rdB all (some g) q 0 0) (y':=gB q) hig (Zy _ (fun k hk=>by cases hk;exact hg) _ _ _) trivial (QoG _ _ _ _) ?_
    exact⟨rfl,rfl⟩
   ·rw[if_neg hc]at hNN
    have y1:¬((j:Nat):Int)<((q.names.length:Nat):Int):=by omega
    have hv:pVari x q=(.mk 1 (q.names.length:Nat) eB [],⟨q.toks,q.names++[x]⟩):=by unfold pVari;rw[if_neg hc]
    rw[hv]
    have hm:(q.names.length+1) * 16<=140737488355328:=by omega
    have hm2:q.names.length+1<=maxLen:=by simp only[maxLen];omega
    have hln:(strs q.names++[AV.v (.string x)]).length=q.names.length+1:=by rw[List.length_append,Xd];rfl
    have w1:IntKind.i64.wrap (((q.names.length+1:Nat):Int) - 1)=((q.names.length:Nat):Int):=by rw[QO (by omega)];omega
    have es:∀L,hs2 h i (.cells 69 5 [.agg [.sl 3 (tks all) none,.i ((all.length - q.toks.length:Nat):Int),.sl 1 (strs q.names++[.v (.string x)]) (some g),.i 0,.i 0]]) g (.grow 9 1 (q.names.length+1))++L=hs2 h i (rdB all (some g) ⟨q.toks,q.names++[x]⟩ 0 0) g (gB ⟨q.toks,q.names++[x]⟩)++L:=fun L=>by
     simp only[rdB,gB,QaW,QpY,Qvt,List.length_singleton]
    with_reducible repeat first|refine Qf fun K E hK hE=>?_;simp only[go_sem,seval,t0,t1,t4,t5,rdB,gB,f4,f6,f7,f8,f9,f10,rawT,Xd,y1,hm,hm2,hln,w1]|refine Qo fun K hK=>?_|refine Qal ?_|refine YS ?_|refine Qh ?_|refine Yv ?_|refine Yu ?_|refine hK _ ?_;clear hK|clear hK;refine hK _ ?_;clear hK|refine Qk rfl ?_;simp only[↓reduceIte,QuG]
    simp only[go_sem,seval,t4,f4]
    rw[es]
    refine Qdi (x':=rdB all (some g) ⟨q.toks,q.names++[x]⟩ 0 0) (y':=gB ⟨q.toks,q.names++[x]⟩) hig (Zy _ (fun k hk=>by cases hk;exact hg) _ _ _) trivial (QoG _ _ _ _) ?_
    exact⟨by rw[hv],by rw[hv]⟩
 ·rw[hI]
  exact⟨0,rfl,Nat.zero_le _,rfl,rfl,rfl,rfl,rfl⟩
end
end Go.Proofs.YticgcpebdldbgaaGreatDoor.Ab
set_option maxRecDepth 4000
namespace Go.Proofs.YticgcpebdldbgaaGreatDoor.Ab
open Go.Proofs
def QRd(all:List Tk)(i g:Nat)(f:FuncId)(q:PS->RR T)(N:Nat):Prop :=
 ∀s:PS,s.toks.length<N->Wst all s->R2 Tryz.prog f [.ptr i 0 0] i g all s (.tup [(q s).v.av,.b ((q s).e==0)]) (q s).s (q s).pos (q s).e
theorem QK{H:AH}{m:Nat}{a a':AV}(b:Bool)(h:Frz H m a a'):Frz H m (.tup [a,.b b]) (.tup [a',.b b]):=.tup rfl (Z8 h (QeU (.keep (.v _))))
theorem QjC(H:AH)(m:Nat)(x:ByteArray)(o:Int):Frz H m (.agg [.v (.string x),.v (.slice none 0 0)]) (G.atom ⟨o,x,[]⟩):=.agg rfl (Z8 (.keep (.v _)) (QeU (.nil 4)))
theorem QoU(H:AH)(m:Nat)(x:ByteArray)(o:Int)(l:List T)(k:Nat):Frz H m (.agg [.v (.string x),.sl 4 (avs l) (some k)]) (G.atom ⟨o,x,l⟩):=.agg rfl (Z8 (.keep (.v _)) (QeU (.tok (Qcq _ _))))
theorem Qke(b:List UInt8)(s:PS):(YJ b s).s.names=s.names:=by unfold YJ;split <;> rfl
theorem Qkc(s:PS):(Zl s).s.names=s.names:=by
 unfold Zl
 split
 ·rfl
 ·split <;> rfl
section
variable{all:List Tk}{i g:Nat}{qx:PS->RR T}{px:PS->PR T}{Nn:Nat}(HR:QRd all i g 84 qx Nn)(HQ:IsF qx px)(hEat:Eat 0 px)(hKp:Kp.Ps (wdOf all) px)(hN:all.length<=1000000)
section
variable{q:PS}(hW:Wst all q){h:AH}(HI:IG h i g)(L:AH)
include hW HI
theorem Qd2:Qj Tryz.prog 26 [.ptr i 0 0] (rh h i g all q 0 0++L) fun o h'=>o = .ret q.tk.av/\h'=rh h i g all q 0 0++L:=(RC.two (Qce hW i 0 0) rfl).app HI L
theorem risL(b:ByteArray):Qj Tryz.prog 52 [.ptr i 0 0,.v (.string b)] (rh h i g all q 0 0++L) fun o h'=>o = .ret (.b (q.is b.toList))/\h'=rh h i g all q 0 0++L:=(RC.two (Qqw hW i 0 0 b) rfl).app HI L
theorem Qbw(x c:Int):Qj Tryz.prog 33 [.ptr i 0 0,.i x,.i c] (rh h i g all q 0 0++L) fun o h'=>o = .ret (.b false)/\h'=rh h i g all q x c++L:=by
 have _u:=hW
 exact(RC.two (Qen i x c) rfl).app HI L
include hN
theorem Qax:Qj Tryz.prog 53 [.ptr i 0 0] (rh h i g all q 0 0++L) fun o h'=>o = .ret (.tup [])/\h'=rh h i g all q.nx 0 0++L:=(RC.two (QhO hW hN i 0 0) rfl).app HI L
theorem Qjf(b:ByteArray):Qj Tryz.prog 55 [.ptr i 0 0,.v (.string b)] (rh h i g all q 0 0++L) fun o h'=>o = .ret (.b ((YJ b.toList q).e==0))/\h'=rh h i g all (YJ b.toList q).s (YJ b.toList q).pos (YJ b.toList q).e++L:=(RC.two (QpS hW hN i b) (Qke _ _)).app HI L
theorem Qqy:Qj Tryz.prog 54 [.ptr i 0 0] (rh h i g all q 0 0++L) fun o h'=>o = .ret (.tup [.v (.string (Zl q).v),.b ((Zl q).e==0)])/\h'=rh h i g all (Zl q).s (Zl q).pos (Zl q).e++L:=(RC.two (QpJ hW hN i) (Qkc _)).app HI L
end
include HR HQ hEat hKp hN
theorem Qle{q:PS}(hs:q.toks.length<Nn+1)(hW:Wst all q):R2 Tryz.prog 94 [.ptr i 0 0] i g all q (.tup [(Qai qx q).v.atom,.b ((Qai qx q).e==0)]) (Qai qx q).s (Qai qx q).pos (Qai qx q).e:=by
 intro h HI
 have f1:=YB h i g all
 have f3:=QaT h i g all
 have f4:=QcO h i g all
 have f5:=ZL h i g all
 have f6:=QaS h i g all
 have cn:=Qqy hN hW HI
 unfold Qai
 have his:=QjZ q
 cases hn:Yz q with
 |err p e =>
  rw[hn]at his
  have hne:=his.2.1▸his.2.2
  have z:((Zl q).e==0)=false:=by simpa using hne
  rw[z]at cn
  rw[if_pos hne,z]
  refine Qa Tryz.func94 rfl Tryz.call94 Tryz.ntmps94 Tryz.results94 (by simp) ?_
  repeat first|(first|refine FunW.QtJ (cn _) ?_|refine Qb ?_);simp only[go_sem,seval,f1,f3,f5]|refine hK _ ?_;clear hK
  exact QB HI all _ _ _ (QK _ (QjC _ _ _ _)) ⟨rfl,rfl⟩
 |ok x s1 =>
  rw[hn]at his
  have hq:=RR.okE his
  have hW1:Wst all s1:=Kp.Ps.ok (n:=wdOf all) (Kp.name_ps trivial) hW hn
  have hl1:=(QbL q hW.wf x s1 hn).2
  have c1:=risL hW1 HI
  rw[hq]at cn ⊢
  rw[if_neg (by simp)]
  have e40:(ByteArray.toList {data:=#[40]})=sLp:=by rw[Lib.toList_data];rfl
  cases hp:s1.is sLp with
  |false =>
   have c1:=fun L=>c1 L {data:=#[40]}
   rw[e40,hp]at c1
   rw[if_neg (by simp)]
   refine Qa Tryz.func94 rfl Tryz.call94 Tryz.ntmps94 Tryz.results94 (by simp) ?_
   repeat first|(first|refine FunW.QtJ (cn _) ?_|refine FunW.QtJ (c1 _) ?_|refine Qb ?_);simp only[go_sem,seval,f1,f3,f4,f5,f6]|refine hK _ ?_;clear hK
   exact QB HI all _ _ _ (QK _ (QjC _ _ _ _)) ⟨rfl,rfl⟩
  |true =>
   have c1:=fun L=>c1 L {data:=#[40]}
   rw[e40,hp]at c1
   rw[if_pos rfl]
   generalize hR:Qkb qx x s1.toks.length [] s1.nx=R
   refine Qa Tryz.func94 rfl Tryz.call94 Tryz.ntmps94 Tryz.results94 (by simp) ?_
   repeat first|(first|refine FunW.QtJ (cn _) ?_|refine FunW.QtJ (c1 _) ?_|refine Qb ?_);simp only[go_sem,seval,f1,f4,f6]|refine hK _ ?_;clear hK
   refine XD (h.length+1) 105 2 4 (.grow 48 4 0) (.inr ⟨_,rfl⟩) [.agg [.v (.string x),.v (.slice none 0 0)]] [.agg [.v (.string x),.sl 4 [] (some (h.length+2))]] 1 (by rw[f4];rfl) rfl (by rw[List.length_append,YB];rfl) (by simp[AV.cells]) ?_
   rw[List.append_assoc,f6]
   iterate 2 (try ((((with_reducible refine Qf fun K E hK hE=>?_));simp only[go_sem,seval])))
   have e41:(ByteArray.toList {data:=#[41]})=sRp:=by rw[Lib.toList_data];rfl
   have e44:(ByteArray.toList {data:=#[44]})=XG:=by rw[Lib.toList_data];rfl
   obtain⟨I,hI⟩:∃I:Nat->AS->Prop,I=fun m' s=>∃(b:Bool) (l:List T) (s2:PS) (Y:AH),m'=s2.toks.length/\Wst all s2/\l.length+s2.toks.length<=all.length/\(b=true->s2.tk.kind≠0/\s2.toks.length<Nn+1/\∃k,s2.toks.length<=k+1/\Qkb qx x k l s2.nx=R)/\(b=false->(⟨⟨0,x,l⟩,(YJ sRp s2).s,(YJ sRp s2).pos,(YJ sRp s2).e⟩:RR G)=R)/\s.tm 0 = .ptr i 0 0/\s.tm 2 = .ptr h.length 0 0/\s.tm 6 = .ptr (h.length+1) 0 0/\s.tm 7 = .b b /\
    s.h=rh h i g all s2 0 0++(cA0 :: .cells 105 2 [.agg [.v (.string x),.sl 4 (avs l) (some (h.length+2))]] :: .grow 48 4 l.length::Y):=⟨_,rfl⟩;refine Qi I ?_ (m:=s1.toks.length) ?_
   ·intro m' s hs;rw[hI]at hs;obtain⟨tm,hp⟩:=s;dsimp only at hs;obtain⟨b,l,s2,Y,rfl,hW2,hbd,hA,hB,t0,t2,t6,t7,rfl⟩:=hs
    cases b with
    |false =>
     have hR2:=hB rfl
     subst hR2
     have cw:=fun L=>Qjf hN hW2 HI L {data:=#[41]}
     rw[e41]at cw
     repeat first|refine Qb ?_;simp only[go_sem,seval,t7]|refine hK _ ?_;clear hK|clear hK;refine hK _ ?_;clear hK
     refine X6 (h.length+1) 6 0 0 (by rw[f4];rfl) (by exact t6) ?_
     simp only[f6,Qu6,Qu7]
     refine Qn (id:=15) [(0,1),(1,1),(2,2),(3,2),(4,0)] mixed (by kernel_rfl) fun K hK=>?_
     simp only[go_sem,seval,t0]
     repeat first|(first|refine QX (FunW.call (cw _)) Yi ?_|refine Qb ?_);simp only[go_sem,seval,t2,f3,f5]|refine hK _ ?_;clear hK
     exact QB HI all _ _ _ (QK _ (QoU _ _ _ _ _ _)) ⟨rfl,rfl⟩
    |true =>
     obtain⟨hk2,hl2,k,hk,hR2⟩:=hA rfl
     have hln2:=QW hW2.wf hk2
     have hpos:0<s2.nx.toks.length:=by
      have:=Qjv (YP hW2.wf)
      exact List.length_pos_iff.2 this
     obtain⟨k,rfl⟩:∃k',k=k'+1:=⟨k - 1,by omega⟩
     have cx:=Qax hN hW2 HI
     have ce:=(HR s2.nx (by omega) hW2.nx).app HI
     have hqx:=HQ s2.nx
     rw[Qkb]at hR2
     cases hpx:px s2.nx with
     |err p e =>
      rw[hpx]at hqx
      have hne:=hqx.2.1▸hqx.2.2
      have z:((qx s2.nx).e==0)=false:=by simpa using hne
      rw[if_pos hne]at hR2
      subst hR2
      rw[z]at ce
      have hu1:=T.QtK (qx s2.nx).v
      have hu2:=T.QtL (qx s2.nx).v
      rw[show(({v:=zGl,s:=(qx s2.nx).s,pos:=(qx s2.nx).pos,e:=(qx s2.nx).e}:RR G).e==0)=false from z]
      repeat first|(first|refine FunW.QtJ (cx _) ?_|refine FunW.QtJ (ce _) ?_|refine Qb ?_);simp only[go_sem,seval,t0,t2,t7,f1,f3,f4,f5,f6,hu1,hu2]|refine hK _ ?_;clear hK
      exact QB HI all _ _ _ (QK _ (QjC _ _ _ _)) ⟨rfl,rfl⟩
     |ok u s3 =>
      rw[hpx]at hqx
      have hq3:=RR.okE hqx
      have hW3:Wst all s3:=Kp.Ps.ok hKp hW2.nx hpx
      have hl3:=(hEat s2.nx hW2.nx.wf u s3 hpx).2
      rw[hq3]at ce hR2
      rw[if_neg (by simp)]at hR2
      have c4:=fun L=>risL hW3 HI L {data:=#[44]}
      rw[e44]at c4
      have hm:(l.length+1) * 56<=140737488355328:=by omega
      have hm2:l.length+1<=maxLen:=by simp only[maxLen];omega
      have ev:avs (l++[u])=avs l++[u.av]:=by rw[Qc6];rfl
      have hu1:=T.QtK u
      have hu2:=T.QtL u
      repeat first|(first|refine FunW.QtJ (cx _) ?_|refine FunW.QtJ (ce _) ?_|refine FunW.QtJ (c4 _) ?_|refine Qb ?_);simp only[go_sem,seval,t0,t6,t7,f1,f4,f6,hu1,hu2,hm,hm2]|refine hK _ ?_;clear hK
      refine Qv.mk (m':=s3.toks.length) (by omega) ?_
      rw[hI]
      refine⟨s3.is XG,l++[u],s3,Y++[.cells 48 4 [u.av]],rfl,hW3,by simp;omega,fun hc=>?_,fun hc=>?_,t0,t2,t6,rfl,?_⟩
      ·rw[if_pos hc]at hR2
       exact⟨by rw[QtM hc];decide,by omega,k,by omega,hR2⟩
      ·rw[if_neg (by rw[hc];simp)]at hR2
       exact hR2
      ·rw[ev,List.length_append];rfl
   ·rw[hI]
    refine⟨true,[],s1,[],rfl,hW1,by have:=hW1.suf.length_le;simpa using this,fun _=>⟨by rw[QtM hp];decide,by omega,s1.toks.length,by omega,hR⟩,fun h=>(by cases h),rfl,rfl,rfl,rfl,rfl⟩
end
end Go.Proofs.YticgcpebdldbgaaGreatDoor.Ab
set_option maxRecDepth 4000
namespace Go.Proofs.YticgcpebdldbgaaGreatDoor.Ab
open Go.Proofs
theorem QfO(H:AH)(m:Nat)(k n:Int):Frz H m (.agg [.i k,.i n,.v (.string {data:=#[]}),.v (.slice none 0 0)]) (T.mk k n eB []).av:=QoG H m k n
theorem Qje{all:List Tk}(hD:TkOk all)(hN:all.length<=1000000){q:PS}(hW:Wst all q)(hk:q.tk.kind=3)(hz:q.tk.text.toList.length<=1000000):Pure Tryz.prog 56 [.v (.string q.tk.text)] (.i (valT q.tk.text))/\0<=valT q.tk.text/\valT q.tk.text<=2147483648:=by
 obtain⟨h1,h2⟩:=hD.int _ (QcV hW) hk
 have:=Qjt q.tk.text.toList h1 hz h2
 rw[QgF]at this
 exact⟨this,by unfold valT;omega,by unfold valT;omega⟩
theorem Qpm{all:List Tk}{q:PS}(hW:Wst all q):q.names.length<all.length:=by
 have h1:=hW.nms
 have h2:=List.length_pos_iff.2 (Qjv hW.wf)
 omega
def TxOk(all:List Tk):Prop:=∀t∈all,t.text.toList.length<=1000000
section
variable{all:List Tk}{i g:Nat}{qx:PS->RR T}{px:PS->PR T}{Nn:Nat}(HR:QRd all i g 84 qx Nn)(HQ:IsF qx px)(hEat:Eat 0 px)(hKp:Kp.Ps (wdOf all) px)(hN:all.length<=1000000)(hD:TkOk all)(hX:TxOk all)
include HR HQ hEat hKp hN hD hX
theorem Qkj:QRd all i g 111 (qOp qx) (Nn+1):=by
 intro q hs hW h HI
 have f1:=YB h i g all
 have f3:=QaT h i g all
 have f4:=QcO h i g all
 have f5:=ZL h i g all
 have f6:=QaS h i g all
 have ct:=Qd2 hW HI
 have ct0:=ct []
 rw[List.append_nil]at ct0
 have cx:=Qax hN hW HI
 have e1:=Tk.QtK q.tk
 have e2:=Tk.QtL q.tk
 have hz:=hX _ (QcV hW)
 unfold qOp
 by_cases h3:q.tk.kind=3
 ·rw[if_pos h3]
  have z1:(q.tk.kind==3)=true:=by simpa using h3
  obtain⟨cv,v1,v2⟩:=Qje hD hN hW h3 hz
  refine Qa Tryz.func111 rfl Tryz.call111 Tryz.ntmps111 Tryz.results111 (by simp) ?_
  repeat first|(first|refine Qd cv ?_|refine FunW.QtJ (ct _) ?_|refine FunW.QtJ (cx _) ?_|refine Qb ?_);simp only[go_sem,seval,f1,f3,f4,f5,f6,e1,e2,z1]|refine hK _ ?_;clear hK
  exact QB HI all _ _ _ (QK _ (QfO _ _ _ _)) ⟨rfl,rfl⟩
 ·rw[if_neg h3]
  have z1:(q.tk.kind==3)=false:=by simpa using h3
  by_cases h2:q.tk.kind=2
  ·rw[if_pos h2]
   have z2:(q.tk.kind==2)=true:=by simpa using h2
   have cv:=(QpR hN (Qpm hW.nx) i g q.tk.text).app HI
   have u1:=T.QtK (pVari q.tk.text q.nx).1
   have u2:=T.QtL (pVari q.tk.text q.nx).1
   refine Qa Tryz.func111 rfl Tryz.call111 Tryz.ntmps111 Tryz.results111 (by simp) ?_
   repeat first|(first|refine FunW.QtJ (ct _) ?_|refine FunW.QtJ (cx _) ?_|refine FunW.QtJ (cv _) ?_|refine Qb ?_);simp only[go_sem,seval,f1,f3,f4,f5,f6,e1,e2,z1,z2,u1,u2]|refine hK _ ?_;clear hK
   exact QB HI all _ _ _ (QK _ (.keep (T.QtU _ _))) ⟨rfl,rfl⟩
  ·rw[if_neg h2]
   have z2:(q.tk.kind==2)=false:=by simpa using h2
   by_cases h1:q.tk.kind=1
   ·rw[if_pos h1]
    have z3:(q.tk.kind==1)=true:=by simpa using h1
    have ca:=(Qle HR HQ hEat hKp hN hs hW).app HI
    generalize Qai qx q=r at *
    have u1:r.v.atom.cells=[.v (.string r.v.name),.sl 4 (avs r.v.args) none]:=rfl
    have u2:r.v.atom.isAgg=true:=rfl
    refine Qa Tryz.func111 rfl Tryz.call111 Tryz.ntmps111 Tryz.results111 (by simp) ?_
    repeat first|(first|refine FunW.QtJ (ct _) ?_|refine FunW.QtJ (ca _) ?_|refine Qb ?_);simp only[go_sem,seval,f1,f3,f4,f5,f6,e1,e2,z1,z2,z3,u1,u2]|refine hK _ ?_;clear hK
    exact QB HI all _ _ _ (QK _ (.keep (T.QtU _ (.mk 2 0 r.v.name r.v.args)))) ⟨rfl,rfl⟩
   ·rw[if_neg h1]
    have z3:(q.tk.kind==1)=false:=by simpa using h1
    have e45:(ByteArray.toList {data:=#[45]})=Qb4:=by rw[Lib.toList_data];rfl
    have e40:(ByteArray.toList {data:=#[40]})=sLp:=by rw[Lib.toList_data];rfl
    have e41:(ByteArray.toList {data:=#[41]})=sRp:=by rw[Lib.toList_data];rfl
    have c45:=fun L=>risL hW HI L {data:=#[45]}
    have c40:=fun L=>risL hW HI L {data:=#[40]}
    rw[e45]at c45
    rw[e40]at c40
    cases hm:q.is Qb4 with
    |true =>
     rw[hm]at c45
     rw[if_pos rfl]
     have hn1:=QW hW.wf (by rw[QtM hm];decide)
     have ct2:=Qd2 hW.nx HI
     have cx2:=Qax hN hW.nx HI
     have k1:=Tk.QtK q.nx.tk
     have k2:=Tk.QtL q.nx.tk
     have hz2:=hX _ (QcV hW.nx)
     have hp:=hD.pos _ (QcV hW)
     have wp:IntKind.i64.wrap (q.tk.pos+1)=q.tk.pos+1:=QO (by omega)
     by_cases h4:q.nx.tk.kind=3
     ·have z4:(q.nx.tk.kind != 3)=false:=by simpa using h4
      by_cases h5:q.nx.tk.pos=q.tk.pos+1
      ·have z5:(q.nx.tk.pos != q.tk.pos+1)=false:=by simpa using h5
       rw[if_neg (by rintro(h|h);exact h h4;exact h h5)]
       obtain⟨cv,v1,v2⟩:=Qje hD hN hW.nx h4 hz2
       have wn:IntKind.i64.wrap (0 - valT q.nx.tk.text) = -valT q.nx.tk.text:=by rw[QO (by omega)];omega
       refine Qa Tryz.func111 rfl Tryz.call111 Tryz.ntmps111 Tryz.results111 (by simp) ?_
       repeat first|(first|refine Qd cv ?_|refine FunW.QtJ (ct _) ?_|refine FunW.QtJ (ct2 _) ?_|refine FunW.QtJ (cx _) ?_|refine FunW.QtJ (cx2 _) ?_|refine FunW.QtJ (c45 _) ?_|refine Qb ?_);simp only[go_sem,seval,f1,f3,f4,f5,f6,e1,e2,z1,z2,z3,k1,k2,z4,z5,wp,wn]|refine hK _ ?_;clear hK
       exact QB HI all _ _ _ (QK _ (QfO _ _ _ _)) ⟨rfl,rfl⟩
      ·have z5:(q.nx.tk.pos != q.tk.pos+1)=true:=by simpa using h5
       rw[if_pos (.inr h5)]
       have cf:=Qbw hW.nx HI
       refine Qa Tryz.func111 rfl Tryz.call111 Tryz.ntmps111 Tryz.results111 (by simp) ?_
       repeat first|(first|refine FunW.QtJ (ct _) ?_|refine FunW.QtJ (ct2 _) ?_|refine FunW.QtJ (cx _) ?_|refine FunW.QtJ (cf _ _ _) ?_|refine FunW.QtJ (c45 _) ?_|refine Qb ?_);simp only[go_sem,seval,f1,f3,f4,f5,f6,e1,e2,z1,z2,z3,k1,k2,z4,z5,wp]|refine hK _ ?_;clear hK
       exact QB HI all _ _ _ (QK _ (QfO _ _ _ _)) ⟨rfl,rfl⟩
     ·have z4:(q.nx.tk.kind != 3)=true:=by simpa using h4
      rw[if_pos (.inl h4)]
      have cf:=Qbw hW.nx HI
      refine Qa Tryz.func111 rfl Tryz.call111 Tryz.ntmps111 Tryz.results111 (by simp) ?_
      repeat first|(first|refine FunW.QtJ (ct _) ?_|refine FunW.QtJ (ct2 _) ?_|refine FunW.QtJ (cx _) ?_|refine FunW.QtJ (cf _ _ _) ?_|refine FunW.QtJ (c45 _) ?_|refine Qb ?_);simp only[go_sem,seval,f1,f3,f4,f5,f6,e1,e2,z1,z2,z3,k1,k2,z4]|refine hK _ ?_;clear hK
      exact QB HI all _ _ _ (QK _ (QfO _ _ _ _)) ⟨rfl,rfl⟩
    |false =>
     rw[hm]at c45
     rw[if_neg (by simp)]
     cases hp:q.is sLp with
     |true =>
      rw[hp]at c40
      rw[if_pos rfl]
      have hn1:=QW hW.wf (by rw[QtM hp];decide)
      have ce:=(HR q.nx (by omega) hW.nx).app HI
      have hqx:=HQ q.nx
      cases hpx:px q.nx with
      |err p e =>
       rw[hpx]at hqx
       have hne:=hqx.2.1▸hqx.2.2
       have z:((qx q.nx).e==0)=false:=by simpa using hne
       rw[if_pos hne]
       rw[z]at ce ⊢
       have u1:=T.QtK (qx q.nx).v
       have u2:=T.QtL (qx q.nx).v
       refine Qa Tryz.func111 rfl Tryz.call111 Tryz.ntmps111 Tryz.results111 (by simp) ?_
       repeat first|(first|refine FunW.QtJ (ct _) ?_|refine FunW.QtJ (cx _) ?_|refine FunW.QtJ (c45 _) ?_|refine FunW.QtJ (c40 _) ?_|refine FunW.QtJ (ce _) ?_|refine Qn (id:=21) [(0,0),(1,0),(2,0),(3,0),(4,1),(5,1),(6,2),(7,0)] mixed (by kernel_rfl) fun K hK=>?_|refine Qb ?_);simp only[go_sem,seval,f1,f4,f6,e1,e2,z1,z2,z3,u1,u2,f3,f5]|refine hK _ ?_;clear hK
       exact QB HI all _ _ _ (QK _ (.keep (T.QtU _ _))) ⟨rfl,rfl⟩
      |ok u s3 =>
       rw[hpx]at hqx
       have hq3:=RR.okE hqx
       have hW3:Wst all s3:=Kp.Ps.ok hKp hW.nx hpx
       rw[hq3]at ce ⊢
       rw[if_neg (by simp)]
       have cw:=fun L=>Qjf hN hW3 HI L {data:=#[41]}
       rw[e41]at cw
       have u1:=T.QtK u
       have u2:=T.QtL u
       refine Qa Tryz.func111 rfl Tryz.call111 Tryz.ntmps111 Tryz.results111 (by simp) ?_
       repeat first|(first|refine FunW.QtJ (ct _) ?_|refine FunW.QtJ (cx _) ?_|refine FunW.QtJ (c45 _) ?_|refine FunW.QtJ (c40 _) ?_|refine FunW.QtJ (ce _) ?_|refine Qb ?_);simp only[go_sem,seval,f1,f4,f6,e1,e2,z1,z2,z3,u1,u2]|refine hK _ ?_;clear hK
       refine X6 (h.length+2) 8 0 0 (by rw[f4];rfl) rfl ?_
       simp only[f6,Qu6,Qu7]
       refine Qn (id:=21) [(0,1),(1,1),(2,1),(3,1),(4,2),(5,1),(6,2),(7,0)] mixed (by kernel_rfl) fun K hK=>?_
       simp only[go_sem,seval,u1,u2]
       repeat first|(first|refine QX (FunW.call (cw _)) Yi ?_|refine Qb ?_);simp only[go_sem,seval,f3,f5,u1,u2]|refine hK _ ?_;clear hK
       exact QB HI all _ _ _ (QK _ (.keep (T.QtU _ _))) ⟨rfl,rfl⟩
     |false =>
      rw[hp]at c40
      rw[if_neg (by simp)]
      have cf:=Qbw hW HI
      refine Qa Tryz.func111 rfl Tryz.call111 Tryz.ntmps111 Tryz.results111 (by simp) ?_
      repeat first|(first|refine FunW.QtJ (ct _) ?_|refine FunW.QtJ (cf _ _ _) ?_|refine FunW.QtJ (c45 _) ?_|refine FunW.QtJ (c40 _) ?_|refine Qb ?_);simp only[go_sem,seval,f1,f3,f4,f5,f6,e1,e2,z1,z2,z3]|refine hK _ ?_;clear hK
      exact QB HI all _ _ _ (QK _ (QfO _ _ _ _)) ⟨rfl,rfl⟩
end
end Go.Proofs.YticgcpebdldbgaaGreatDoor.Ab
set_option maxRecDepth 4000
namespace Go.Proofs.YticgcpebdldbgaaGreatDoor.Ab
open Go.Proofs
abbrev cT0:AB:=.cells 48 4 [.agg [.i 0,.i 0,.v (.string {data:=#[]}),.v (.slice none 0 0)]]
section
variable{all:List Tk}{i g:Nat}{qo:PS->RR T}{po:PS->PR T}{Nn:Nat}(HO:QRd all i g 111 qo Nn)(HQ:IsF qo po)(hEat:Eat 0 po)(hKp:Kp.Ps (wdOf all) po)(hN:all.length<=1000000)
include HO HQ hEat hKp hN
theorem Qkk:QRd all i g 99 (QdN qo Xo) Nn:=by
 intro q hs hW h HI
 have f1:=YB h i g all
 have f3:=QaT h i g all
 have f4:=QcO h i g all
 have f5:=ZL h i g all
 have f6:=QaS h i g all
 have e42:(ByteArray.toList {data:=#[42]})=[42]:=by rw[Lib.toList_data]
 have e47:(ByteArray.toList {data:=#[47]})=[47]:=by rw[Lib.toList_data]
 have e37:(ByteArray.toList {data:=#[37]})=[37]:=by rw[Lib.toList_data]
 have c0:=(HO q hs hW).app HI
 unfold QdN
 generalize hR:YE qo Xo (qo q).s.toks.length (qo q)=R
 have hok:(qo q).e≠0\/(∃u s2,qo q=⟨u,s2,0,0⟩/\Wst all s2/\s2.toks.length<=q.toks.length):=by
  have h1:=HQ q
  cases hp:po q with
  |err p e=>rw[hp]at h1;exact .inl (h1.2.1▸h1.2.2)
  |ok u s2=>rw[hp]at h1;exact .inr ⟨u,s2,h1,Kp.Ps.ok hKp hW hp,(hEat q hW.wf u s2 hp).2⟩
 generalize qo q=r0 at *
 have u1:=T.QtK r0.v
 have u2:=T.QtL r0.v
 refine Qa Tryz.func99 rfl Tryz.call99 Tryz.ntmps99 Tryz.results99 (by simp) ?_
 repeat first|(first|refine FunW.QtJ (c0 _) ?_|refine Qb ?_);simp only[go_sem,seval,f1,f4,f6,u1,u2]|refine hK _ ?_;clear hK
 obtain⟨I,hI⟩:∃I:Nat->AS->Prop,I=fun m' s=>∃(r:RR T) (Y:AH),m'=(if r.e=0 then r.s.toks.length else 0)/\(r.e≠0\/∃u s2,r=⟨u,s2,0,0⟩/\Wst all s2/\s2.toks.length<=q.toks.length)/\(∃k,(r.e=0->r.s.toks.length<=k)/\YE qo Xo k r=R)/\s.tm 0 = .ptr i 0 0/\s.tm 2 = .ptr h.length 0 0/\s.tm 4 = .ptr (h.length+1) 0 0/\s.tm 5 = .b (r.e==0)/\s.h=rh h i g all r.s r.pos r.e++(cT0 :: .cells 48 4 [r.v.av]::Y):=⟨_,rfl⟩;refine Qi I ?_ (m:=if r0.e=0 then r0.s.toks.length else 0) ?_
 ·intro m' s hs;rw[hI]at hs;obtain⟨tm,hp⟩:=s;dsimp only at hs;obtain⟨r,Y,rfl,hr,⟨k,hk,hR2⟩,t0,t2,t4,t5,rfl⟩:=hs
  have v1:=T.QtK r.v
  have v2:=T.QtL r.v
  rcases hr with hr|⟨u,s2,rfl,hW2,hl2⟩
  ·rw[Qda _ _ _ hr]at hR2
   subst hR2
   have z:(r.e==0)=false:=by simpa using hr
   rw[z]at t5
   repeat first|refine Qb ?_;simp only[go_sem,seval,t2,t4,t5,f3,f4,f5,v1,v2]|refine hK _ ?_;clear hK|clear hK;refine hK _ ?_;clear hK
   exact QB HI all _ _ _ (QK _ (.keep (T.QtU _ _))) ⟨by rw[z],rfl⟩
  ·have hk:s2.toks.length<=k:=hk rfl
   simp only at v1 v2
   have c42:=fun L=>risL hW2 HI L {data:=#[42]}
   rw[e42]at c42
   have c47:=fun L=>risL hW2 HI L {data:=#[47]}
   rw[e47]at c47
   have c37:=fun L=>risL hW2 HI L {data:=#[37]}
   rw[e37]at c37
   have hone:s2.oneOf Xo=(s2.is [42]||(s2.is [47]||(s2.is [37]||false))):=rfl
   (with_reducible refine Qo fun K hK=>?_)
   refine Qw (fun s=>s.tm 25 = .b (s2.oneOf Xo)/\s.tm 0 = .ptr i 0 0/\s.tm 2 = .ptr h.length 0 0/\s.tm 4 = .ptr (h.length+1) 0 0/\s.tm 5 = .b true/\s.h=rh h i g all s2 0 0++(cT0 :: .cells 48 4 [u.av]::Y)) ?_ ?_
   ·rintro⟨tm,hp⟩ ⟨tc,t0,t2,t4,t5,rfl⟩
    dsimp only at tc t0 t2 t4 t5
    cases ho:s2.oneOf Xo with
    |false =>
     rw[ho]at tc
     have hR3:R=⟨u,s2,0,0⟩:=by
      rw[<-hR2]
      cases k with
      |zero=>rfl
      |succ k=>rw[YE,if_neg (by simp),if_neg (by simp only;rw[ho];simp)]
     subst hR3
     refine Qk (by exact tc) ?_
     simp only[↓reduceIte,QuG]
     repeat first|refine Qb ?_;simp only[go_sem,seval,t2,t4,t5,f3,f4,f5,v1,v2]|refine hK _ ?_;clear hK|clear hK;refine hK _ ?_;clear hK
     exact QB HI all _ _ _ (QK _ (.keep (T.QtU _ _))) ⟨rfl,rfl⟩
    |true =>
     rw[ho]at tc
     have hln:=QW hW2.wf (by rw[Qas ho];decide)
     have hpos:=List.length_pos_iff.2 (Qjv (YP hW2.wf))
     obtain⟨k,rfl⟩:∃k',k=k'+1:=⟨k - 1,by omega⟩
     rw[YE,if_neg (by simp),if_pos (by simp only;rw[ho])]at hR2
     simp only at hR2
     have ct:=Qd2 hW2 HI
     have cx:=Qax hN hW2 HI
     have co:=(HO s2.nx (by omega) hW2.nx).app HI
     have e1:=Tk.QtK s2.tk
     have e2:=Tk.QtL s2.tk
     have hok2:(qo s2.nx).e≠0\/(∃w s3,qo s2.nx=⟨w,s3,0,0⟩/\Wst all s3/\s3.toks.length<=s2.nx.toks.length):=by
      have h1:=HQ s2.nx
      cases hp:po s2.nx with
      |err p e=>rw[hp]at h1;exact .inl (h1.2.1▸h1.2.2)
      |ok w s3=>rw[hp]at h1;exact .inr ⟨w,s3,h1,Kp.Ps.ok hKp hW2.nx hp,(hEat s2.nx hW2.nx.wf w s3 hp).2⟩
     generalize qo s2.nx=y at *
     have w1:=T.QtK y.v
     have w2:=T.QtL y.v
     refine Qk (by exact tc) ?_
     simp only[↓reduceIte]
     repeat first|(first|refine FunW.QtJ (ct _) ?_|refine FunW.QtJ (cx _) ?_|refine FunW.QtJ (co _) ?_|refine Qb ?_);simp only[go_sem,seval,t0,t4,f1,f4,f6,v1,v2,e1,e2,w1,w2]|refine hK _ ?_;clear hK
     refine Qv.mk (m':=if y.e=0 then y.s.toks.length else 0) ?_ ?_
     ·rcases hok2 with he|⟨w,s3,rfl,_,h3⟩
      ·simp only[if_neg he,if_true];omega
      ·simp only[if_true];omega
     rw[hI]
     refine⟨⟨.mk 2 0 s2.tk.text [u,y.v],y.s,y.pos,y.e⟩,Y++[.cells 48 4 [y.v.av]],rfl,?_,⟨k,?_,hR2⟩,t0,t2,t4,rfl,?_⟩
     ·rcases hok2 with he|⟨w,s3,rfl,h3,h4⟩
      ·exact .inl he
      ·exact .inr ⟨_,s3,rfl,h3,by omega⟩
     ·intro he
      rcases hok2 with he2|⟨w,s3,rfl,h3,h4⟩
      ·exact absurd he he2
      ·simp only;omega
     ·rfl
   ·skip
    cases h42:s2.is [42]with
    |true =>
     rw[h42]at c42
     repeat first|refine owN ?_|(first|refine FunW.QtJ (c42 _) ?_|refine owK fun K hK=>?_|refine nwcS fun K hK=>?_|refine nwcR fun K hK=>?_|refine Qb ?_);simp only[go_sem,seval,t0,t5]|refine hK _ ?_;clear hK
     exact⟨by rw[hone,h42];rfl,t0,t2,t4,t5,rfl⟩
    |false =>
     rw[h42]at c42
     cases h47:s2.is [47]with
     |true =>
      rw[h47]at c47
      repeat first|refine owN ?_|(first|refine FunW.QtJ (c42 _) ?_|refine FunW.QtJ (c47 _) ?_|refine owK fun K hK=>?_|refine nwcS fun K hK=>?_|refine nwcR fun K hK=>?_|refine Qb ?_);simp only[go_sem,seval,t0,t5]|refine hK _ ?_;clear hK
      exact⟨by rw[hone,h42,h47];rfl,t0,t2,t4,t5,rfl⟩
     |false =>
      rw[h47]at c47
      cases h37:s2.is [37]with
      |true =>
       rw[h37]at c37
       repeat first|refine owN ?_|(first|refine FunW.QtJ (c42 _) ?_|refine FunW.QtJ (c47 _) ?_|refine FunW.QtJ (c37 _) ?_|refine owK fun K hK=>?_|refine nwcS fun K hK=>?_|refine nwcR fun K hK=>?_|refine Qb ?_);simp only[go_sem,seval,t0,t5]|refine hK _ ?_;clear hK
       exact⟨by rw[hone,h42,h47,h37];rfl,t0,t2,t4,t5,rfl⟩
      |false =>
       rw[h37]at c37
       repeat first|refine owN ?_|(first|refine FunW.QtJ (c42 _) ?_|refine FunW.QtJ (c47 _) ?_|refine FunW.QtJ (c37 _) ?_|refine owK fun K hK=>?_|refine nwcS fun K hK=>?_|refine nwcR fun K hK=>?_|refine Qb ?_);simp only[go_sem,seval,t0,t5]|refine hK _ ?_;clear hK
       exact⟨by rw[hone,h42,h47,h37];rfl,t0,t2,t4,t5,rfl⟩
 ·rw[hI]
  refine⟨r0,[],rfl,?_,⟨_,fun _=>Nat.le_refl _,hR⟩,rfl,rfl,rfl,rfl,rfl⟩
  rcases hok with he|⟨u,s2,rfl,h1,h2⟩
  ·exact .inl he
  ·exact .inr ⟨_,_,rfl,h1,h2⟩
end
section
variable{all:List Tk}{i g:Nat}{qo:PS->RR T}{po:PS->PR T}{Nn:Nat}(HO:QRd all i g 99 qo Nn)(HQ:IsF qo po)(hEat:Eat 0 po)(hKp:Kp.Ps (wdOf all) po)(hN:all.length<=1000000)
include HO HQ hEat hKp hN
theorem Qki:QRd all i g 84 (QdN qo Yl) Nn:=by
 intro q hs hW h HI
 have f1:=YB h i g all
 have f3:=QaT h i g all
 have f4:=QcO h i g all
 have f5:=ZL h i g all
 have f6:=QaS h i g all
 have e43:(ByteArray.toList {data:=#[43]})=[43]:=by rw[Lib.toList_data]
 have e45:(ByteArray.toList {data:=#[45]})=[45]:=by rw[Lib.toList_data]
 have c0:=(HO q hs hW).app HI
 unfold QdN
 generalize hR:YE qo Yl (qo q).s.toks.length (qo q)=R
 have hok:(qo q).e≠0\/(∃u s2,qo q=⟨u,s2,0,0⟩/\Wst all s2/\s2.toks.length<=q.toks.length):=by
  have h1:=HQ q
  cases hp:po q with
  |err p e=>rw[hp]at h1;exact .inl (h1.2.1▸h1.2.2)
  |ok u s2=>rw[hp]at h1;exact .inr ⟨u,s2,h1,Kp.Ps.ok hKp hW hp,(hEat q hW.wf u s2 hp).2⟩
 generalize qo q=r0 at *
 have u1:=T.QtK r0.v
 have u2:=T.QtL r0.v
 refine Qa Tryz.func84 rfl Tryz.call84 Tryz.ntmps84 Tryz.results84 (by simp) ?_
 repeat first|(first|refine FunW.QtJ (c0 _) ?_|refine Qb ?_);simp only[go_sem,seval,f1,f4,f6,u1,u2]|refine hK _ ?_;clear hK
 obtain⟨I,hI⟩:∃I:Nat->AS->Prop,I=fun m' s=>∃(r:RR T) (Y:AH),m'=(if r.e=0 then r.s.toks.length else 0)/\(r.e≠0\/∃u s2,r=⟨u,s2,0,0⟩/\Wst all s2/\s2.toks.length<=q.toks.length)/\(∃k,(r.e=0->r.s.toks.length<=k)/\YE qo Yl k r=R)/\s.tm 0 = .ptr i 0 0/\s.tm 2 = .ptr h.length 0 0/\s.tm 4 = .ptr (h.length+1) 0 0/\s.tm 5 = .b (r.e==0)/\s.h=rh h i g all r.s r.pos r.e++(cT0 :: .cells 48 4 [r.v.av]::Y):=⟨_,rfl⟩;refine Qi I ?_ (m:=if r0.e=0 then r0.s.toks.length else 0) ?_
 ·intro m' s hs;rw[hI]at hs;obtain⟨tm,hp⟩:=s;dsimp only at hs;obtain⟨r,Y,rfl,hr,⟨k,hk,hR2⟩,t0,t2,t4,t5,rfl⟩:=hs
  have v1:=T.QtK r.v
  have v2:=T.QtL r.v
  rcases hr with hr|⟨u,s2,rfl,hW2,hl2⟩
  ·rw[Qda _ _ _ hr]at hR2
   subst hR2
   have z:(r.e==0)=false:=by simpa using hr
   rw[z]at t5
   repeat first|refine Qb ?_;simp only[go_sem,seval,t2,t4,t5,f3,f4,f5,v1,v2]|refine hK _ ?_;clear hK|clear hK;refine hK _ ?_;clear hK
   exact QB HI all _ _ _ (QK _ (.keep (T.QtU _ _))) ⟨by rw[z],rfl⟩
  ·have hk:s2.toks.length<=k:=hk rfl
   simp only at v1 v2
   have c43:=fun L=>risL hW2 HI L {data:=#[43]}
   rw[e43]at c43
   have c45:=fun L=>risL hW2 HI L {data:=#[45]}
   rw[e45]at c45
   have hone:s2.oneOf Yl=(s2.is [43]||(s2.is [45]||false)):=rfl
   (with_reducible refine Qo fun K hK=>?_)
   refine Qw (fun s=>s.tm 21 = .b (s2.oneOf Yl)/\s.tm 0 = .ptr i 0 0/\s.tm 2 = .ptr h.length 0 0/\s.tm 4 = .ptr (h.length+1) 0 0/\s.tm 5 = .b true/\s.h=rh h i g all s2 0 0++(cT0 :: .cells 48 4 [u.av]::Y)) ?_ ?_
   ·rintro⟨tm,hp⟩ ⟨tc,t0,t2,t4,t5,rfl⟩
    dsimp only at tc t0 t2 t4 t5
    cases ho:s2.oneOf Yl with
    |false =>
     rw[ho]at tc
     have hR3:R=⟨u,s2,0,0⟩:=by
      rw[<-hR2]
      cases k with
      |zero=>rfl
      |succ k=>rw[YE,if_neg (by simp),if_neg (by simp only;rw[ho];simp)]
     subst hR3
     refine Qk (by exact tc) ?_
     simp only[↓reduceIte,QuG]
     repeat first|refine Qb ?_;simp only[go_sem,seval,t2,t4,t5,f3,f4,f5,v1,v2]|refine hK _ ?_;clear hK|clear hK;refine hK _ ?_;clear hK
     exact QB HI all _ _ _ (QK _ (.keep (T.QtU _ _))) ⟨rfl,rfl⟩
    |true =>
     rw[ho]at tc
     have hln:=QW hW2.wf (by rw[Qas ho];decide)
     have hpos:=List.length_pos_iff.2 (Qjv (YP hW2.wf))
     obtain⟨k,rfl⟩:∃k',k=k'+1:=⟨k - 1,by omega⟩
     rw[YE,if_neg (by simp),if_pos (by simp only;rw[ho])]at hR2
     simp only at hR2
     have ct:=Qd2 hW2 HI
     have cx:=Qax hN hW2 HI
     have co:=(HO s2.nx (by omega) hW2.nx).app HI
     have e1:=Tk.QtK s2.tk
     have e2:=Tk.QtL s2.tk
     have hok2:(qo s2.nx).e≠0\/(∃w s3,qo s2.nx=⟨w,s3,0,0⟩/\Wst all s3/\s3.toks.length<=s2.nx.toks.length):=by
      have h1:=HQ s2.nx
      cases hp:po s2.nx with
      |err p e=>rw[hp]at h1;exact .inl (h1.2.1▸h1.2.2)
      |ok w s3=>rw[hp]at h1;exact .inr ⟨w,s3,h1,Kp.Ps.ok hKp hW2.nx hp,(hEat s2.nx hW2.nx.wf w s3 hp).2⟩
     generalize qo s2.nx=y at *
     have w1:=T.QtK y.v
     have w2:=T.QtL y.v
     refine Qk (by exact tc) ?_
     simp only[↓reduceIte]
     repeat first|(first|refine FunW.QtJ (ct _) ?_|refine FunW.QtJ (cx _) ?_|refine FunW.QtJ (co _) ?_|refine Qb ?_);simp only[go_sem,seval,t0,t4,f1,f4,f6,v1,v2,e1,e2,w1,w2]|refine hK _ ?_;clear hK
     refine Qv.mk (m':=if y.e=0 then y.s.toks.length else 0) ?_ ?_
     ·rcases hok2 with he|⟨w,s3,rfl,_,h3⟩
      ·simp only[if_neg he,if_true];omega
      ·simp only[if_true];omega
     rw[hI]
     refine⟨⟨.mk 2 0 s2.tk.text [u,y.v],y.s,y.pos,y.e⟩,Y++[.cells 48 4 [y.v.av]],rfl,?_,⟨k,?_,hR2⟩,t0,t2,t4,rfl,?_⟩
     ·rcases hok2 with he|⟨w,s3,rfl,h3,h4⟩
      ·exact .inl he
      ·exact .inr ⟨_,s3,rfl,h3,by omega⟩
     ·intro he
      rcases hok2 with he2|⟨w,s3,rfl,h3,h4⟩
      ·exact absurd he he2
      ·simp only;omega
     ·rfl
   ·skip
    cases h43:s2.is [43]with
    |true =>
     rw[h43]at c43
     repeat first|refine owN ?_|(first|refine FunW.QtJ (c43 _) ?_|refine owK fun K hK=>?_|refine nwcS fun K hK=>?_|refine nwcR fun K hK=>?_|refine Qb ?_);simp only[go_sem,seval,t0,t5]|refine hK _ ?_;clear hK
     exact⟨by rw[hone,h43];rfl,t0,t2,t4,t5,rfl⟩
    |false =>
     rw[h43]at c43
     cases h45:s2.is [45]with
     |true =>
      rw[h45]at c45
      repeat first|refine owN ?_|(first|refine FunW.QtJ (c43 _) ?_|refine FunW.QtJ (c45 _) ?_|refine owK fun K hK=>?_|refine nwcS fun K hK=>?_|refine nwcR fun K hK=>?_|refine Qb ?_);simp only[go_sem,seval,t0,t5]|refine hK _ ?_;clear hK
      exact⟨by rw[hone,h43,h45];rfl,t0,t2,t4,t5,rfl⟩
     |false =>
      rw[h45]at c45
      repeat first|refine owN ?_|(first|refine FunW.QtJ (c43 _) ?_|refine FunW.QtJ (c45 _) ?_|refine owK fun K hK=>?_|refine nwcS fun K hK=>?_|refine nwcR fun K hK=>?_|refine Qb ?_);simp only[go_sem,seval,t0,t5]|refine hK _ ?_;clear hK
      exact⟨by rw[hone,h43,h45];rfl,t0,t2,t4,t5,rfl⟩
 ·rw[hI]
  refine⟨r0,[],rfl,?_,⟨_,fun _=>Nat.le_refl _,hR⟩,rfl,rfl,rfl,rfl,rfl⟩
  rcases hok with he|⟨u,s2,rfl,h1,h2⟩
  ·exact .inl he
  ·exact .inr ⟨_,_,rfl,h1,h2⟩
end
theorem Qlh{all:List Tk}(i g:Nat)(hN:all.length<=1000000)(hD:TkOk all)(hX:TxOk all):∀n,QRd all i g 84 (QpE n) n
 |0=>fun s hs=>by omega
 |n+1=>by
  have ih:=Qlh i g hN hD hX n
  have ho:=Qkj ih (QeP n) ((ZV n).less (Nat.zero_le _)) (Kp.exprT_ps trivial n) hN hD hX
  have hp:=Qkk ho (Qq4 (QeP n)) ((Qfo ((ZV n).less (Nat.zero_le _))).less (Nat.zero_le _)) (Kp.opT_ps trivial (Kp.exprT_ps trivial n)) hN
  exact Qki hp (Qhf (Qq4 (QeP n)) Xo) ((Qbe (Qfo ((ZV n).less (Nat.zero_le _))) Xo).less (Nat.zero_le _)) (Kp.chain_ps trivial (Kp.opT_ps trivial (Kp.exprT_ps trivial n)) Xo) hN
theorem Qep{all:List Tk}(i g:Nat)(hN:all.length<=1000000)(hD:TkOk all)(hX:TxOk all){q:PS}(hW:Wst all q):R2 Tryz.prog 84 [.ptr i 0 0] i g all q (.tup [(X5 q).v.av,.b ((X5 q).e==0)]) (X5 q).s (X5 q).pos (X5 q).e:=Qlh i g hN hD hX _ q (Nat.lt_succ_self _) hW
end Go.Proofs.YticgcpebdldbgaaGreatDoor.Ab
set_option maxRecDepth 4000
namespace Go.Proofs.YticgcpebdldbgaaGreatDoor.Ab
open Go.Proofs
def cmpR (s : PS) : Int × Bool := match Zu s with
  | some p => p
  | none => (0, false)
theorem Qo1 : ∀ b1 b2 b3 b4 b5 b6 b7 b8 b9 : Bool, b1 = true \/ b1 = false /\ b2 = true \/ b1 = false /\ b2 = false /\ b3 = true \/ b1 = false /\ b2 = false /\ b3 = false /\ b4 = true \/ b1 = false /\ b2 = false /\ b3 = false /\ b4 = false /\ b5 = true \/ b1 = false /\ b2 = false /\ b3 = false /\ b4 = false /\ b5 = false /\ b6 = true \/ b1 = false /\ b2 = false /\ b3 = false /\ b4 = false /\ b5 = false /\ b6 = false /\ b7 = true \/ b1 = false /\ b2 = false /\ b3 = false /\ b4 = false /\ b5 = false /\ b6 = false /\ b7 = false /\ b8 = true \/ b1 = false /\ b2 = false /\ b3 = false /\ b4 = false /\ b5 = false /\ b6 = false /\ b7 = false /\ b8 = false /\ b9 = true \/ b1 = false /\ b2 = false /\ b3 = false /\ b4 = false /\ b5 = false /\ b6 = false /\ b7 = false /\ b8 = false /\ b9 = false := by
  intro b1 b2 b3 b4 b5 b6 b7 b8 b9
  cases b1 <;> simp
  cases b2 <;> simp
  cases b3 <;> simp
  cases b4 <;> simp
  cases b5 <;> simp
  cases b6 <;> simp
  cases b7 <;> simp
  cases b8 <;> simp
theorem Qm4 {q : PS} (hk : q.tk.kind = 4) {b1 b2 b3 b4 b5 b6 b7 b8 b9 : Bool} (w1 : (q.tk.text.toList = [61]) = (b1 = true)) (w2 : (q.tk.text.toList = [61, 61]) = (b2 = true)) (w3 : (q.tk.text.toList = [92, 61]) = (b3 = true)) (w4 : (q.tk.text.toList = [60]) = (b4 = true)) (w5 : (q.tk.text.toList = [61, 60]) = (b5 = true)) (w6 : (q.tk.text.toList = [62]) = (b6 = true)) (w7 : (q.tk.text.toList = [62, 61]) = (b7 = true)) (w8 : (q.tk.text.toList = [61, 58, 61]) = (b8 = true)) (w9 : (q.tk.text.toList = [61, 92, 61]) = (b9 = true)) : cmpR q = (if b1 = true then (3, false) else if b2 = true then (5, false) else if b3 = true then (6, false) else if b4 = true then (7, false) else if b5 = true then (8, false) else if b6 = true then (7, true) else if b7 = true then (8, true) else if b8 = true then (9, false) else if b9 = true then (10, false) else (0, false)) := by
  unfold cmpR Zu
  rw [if_neg (by rw [hk]; decide), if_neg (by simpa using hk)]
  simp only [w1, w2, w3, w4, w5, w6, w7, w8, w9]
  repeat' split
  all_goals first | rfl | simp_all
section
variable {all : List Tk} {i g : Nat} (hN : all.length <= 1000000)
theorem Qog {q : PS} (hW : Wst all q) {h : AH} (HI : IG h i g) (L : AH) : Qj Tryz.prog 85 [.ptr i 0 0] (rh h i g all q 0 0 ++ L) fun o h' => o = .ret (.tup [.i (cmpR q).1, .b (cmpR q).2]) /\ h' = rh h i g all q 0 0 ++ L := by
  have cw := (RC.two (QpT (tok := some g) hW i 0 0 { data := #[105, 115] }) rfl).app HI L
  have ct := Qd2 hW HI L
  have e1 := Tk.QtK q.tk
  have e2 := Tk.QtL q.tk
  by_cases h1 : q.tk.kind = 1
  · have z4 : (q.tk.kind != 4) = true := by rw [h1]; rfl
    by_cases hi : q.tk.text.toList = [105, 115]
    · have e : q.wrd (ByteArray.toList { data := #[105, 115] }) = true := by rw [PS.wrd, h1, Lib.toList_data { data := #[105, 115] }, hi]; rfl
      have ec : cmpR q = (4, false) := by unfold cmpR Zu; rw [if_pos h1, if_pos hi]
      rw [e] at cw
      rw [ec]
      refine Qa Tryz.func85 rfl Tryz.call85 Tryz.ntmps85 Tryz.results85 (by simp) ?_
      repeat (first | refine FunW.QtJ cw ?_ | refine Qb ?_); simp only [go_sem, seval]
      exact .inr ⟨rfl, rfl⟩
    · have e : q.wrd (ByteArray.toList { data := #[105, 115] }) = false := by rw [PS.wrd, h1, Lib.toList_data { data := #[105, 115] }]; simpa using hi
      have ec : cmpR q = (0, false) := by unfold cmpR Zu; rw [if_pos h1, if_neg hi]
      rw [e] at cw
      rw [ec]
      refine Qa Tryz.func85 rfl Tryz.call85 Tryz.ntmps85 Tryz.results85 (by simp) ?_
      repeat (first | refine FunW.QtJ cw ?_ | refine FunW.QtJ ct ?_ | refine Qb ?_); simp only [go_sem, seval, e1, e2, z4]
      exact .inr ⟨rfl, rfl⟩
  · have e : q.wrd (ByteArray.toList { data := #[105, 115] }) = false := by rw [PS.wrd, show (q.tk.kind == 1) = false by simpa using h1]; rfl
    rw [e] at cw
    by_cases h4 : q.tk.kind = 4
    · have z4 : (q.tk.kind != 4) = false := by rw [h4]; rfl
      obtain ⟨b1, u1⟩ : ∃ b, (q.tk.text.toList == ByteArray.toList { data := #[61] }) = b := ⟨_, rfl⟩
      obtain ⟨b2, u2⟩ : ∃ b, (q.tk.text.toList == ByteArray.toList { data := #[61, 61] }) = b := ⟨_, rfl⟩
      obtain ⟨b3, u3⟩ : ∃ b, (q.tk.text.toList == ByteArray.toList { data := #[92, 61] }) = b := ⟨_, rfl⟩
      obtain ⟨b4, u4⟩ : ∃ b, (q.tk.text.toList == ByteArray.toList { data := #[60] }) = b := ⟨_, rfl⟩
      obtain ⟨b5, u5⟩ : ∃ b, (q.tk.text.toList == ByteArray.toList { data := #[61, 60] }) = b := ⟨_, rfl⟩
      obtain ⟨b6, u6⟩ : ∃ b, (q.tk.text.toList == ByteArray.toList { data := #[62] }) = b := ⟨_, rfl⟩
      obtain ⟨b7, u7⟩ : ∃ b, (q.tk.text.toList == ByteArray.toList { data := #[62, 61] }) = b := ⟨_, rfl⟩
      obtain ⟨b8, u8⟩ : ∃ b, (q.tk.text.toList == ByteArray.toList { data := #[61, 58, 61] }) = b := ⟨_, rfl⟩
      obtain ⟨b9, u9⟩ : ∃ b, (q.tk.text.toList == ByteArray.toList { data := #[61, 92, 61] }) = b := ⟨_, rfl⟩
      have w1 : (q.tk.text.toList = [61]) = (b1 = true) := by rw [<- u1, Lib.toList_data { data := #[61] }]; simp
      have w2 : (q.tk.text.toList = [61, 61]) = (b2 = true) := by rw [<- u2, Lib.toList_data { data := #[61, 61] }]; simp
      have w3 : (q.tk.text.toList = [92, 61]) = (b3 = true) := by rw [<- u3, Lib.toList_data { data := #[92, 61] }]; simp
      have w4 : (q.tk.text.toList = [60]) = (b4 = true) := by rw [<- u4, Lib.toList_data { data := #[60] }]; simp
      have w5 : (q.tk.text.toList = [61, 60]) = (b5 = true) := by rw [<- u5, Lib.toList_data { data := #[61, 60] }]; simp
      have w6 : (q.tk.text.toList = [62]) = (b6 = true) := by rw [<- u6, Lib.toList_data { data := #[62] }]; simp
      have w7 : (q.tk.text.toList = [62, 61]) = (b7 = true) := by rw [<- u7, Lib.toList_data { data := #[62, 61] }]; simp
      have w8 : (q.tk.text.toList = [61, 58, 61]) = (b8 = true) := by rw [<- u8, Lib.toList_data { data := #[61, 58, 61] }]; simp
      have w9 : (q.tk.text.toList = [61, 92, 61]) = (b9 = true) := by rw [<- u9, Lib.toList_data { data := #[61, 92, 61] }]; simp
      rw [Qm4 h4 w1 w2 w3 w4 w5 w6 w7 w8 w9]
      rcases Qo1 b1 b2 b3 b4 b5 b6 b7 b8 b9 with rfl | ⟨rfl, rfl⟩ | ⟨rfl, rfl, rfl⟩ | ⟨rfl, rfl, rfl, rfl⟩ | ⟨rfl, rfl, rfl, rfl, rfl⟩ | ⟨rfl, rfl, rfl, rfl, rfl, rfl⟩ | ⟨rfl, rfl, rfl, rfl, rfl, rfl, rfl⟩ | ⟨rfl, rfl, rfl, rfl, rfl, rfl, rfl, rfl⟩ | ⟨rfl, rfl, rfl, rfl, rfl, rfl, rfl, rfl, rfl⟩ | ⟨rfl, rfl, rfl, rfl, rfl, rfl, rfl, rfl, rfl⟩ <;>
      (refine Qa Tryz.func85 rfl Tryz.call85 Tryz.ntmps85 Tryz.results85 (by simp) ?_
       repeat (first | refine FunW.QtJ cw ?_ | refine FunW.QtJ ct ?_ | refine Qb ?_); simp only [go_sem, seval, e1, e2, z4, u1, u2, u3, u4, u5, u6, u7, u8, u9]
       exact .inr ⟨rfl, rfl⟩)
    · have z4 : (q.tk.kind != 4) = true := by simpa using h4
      have ec : cmpR q = (0, false) := by unfold cmpR Zu; rw [if_neg h1, if_pos h4]
      rw [ec]
      refine Qa Tryz.func85 rfl Tryz.call85 Tryz.ntmps85 Tryz.results85 (by simp) ?_
      repeat (first | refine FunW.QtJ cw ?_ | refine FunW.QtJ ct ?_ | refine Qb ?_); simp only [go_sem, seval, e1, e2, z4]
      exact .inr ⟨rfl, rfl⟩
end
end Go.Proofs.YticgcpebdldbgaaGreatDoor.Ab
set_option maxRecDepth 4000
namespace Go.Proofs.YticgcpebdldbgaaGreatDoor.Ab
open Go.Proofs
abbrev cG0:AB:=.cells 46 3 [.agg [.i 0,.v (.string {data:=#[]}),.v (.slice none 0 0)]]
theorem QaG(H:AH)(m:Nat)(o:Int)(x:ByteArray):Frz H m (.agg [.i o,.v (.string x),.v (.slice none 0 0)]) (G.goal ⟨o,x,[]⟩):=.agg rfl (Z8 (.keep (.v _)) (Z8 (.keep (.v _)) (QeU (.nil 4))))
theorem Qbh(H:AH)(m:Nat)(a:G):Frz H m a.goal a.goal:=.keep (.agg _ fun x hx=>by
 simp only[List.mem_cons,List.not_mem_nil,or_false]at hx
 rcases hx with rfl|rfl|rfl
 ·exact .v _
 ·exact .v _
 ·exact Qak _ _)
theorem Qm2{s:PS}{o:Int}{t:Bool}(h:Zu s=some (o,t)):o≠0:=by
 unfold Zu at h
 repeat' split at h
 all_goals first|(cases h;decide)|cases h
section
variable{all:List Tk}{i g:Nat}(hN:all.length<=1000000)(hD:TkOk all)(hX:TxOk all)
include hN hD hX
theorem QfB{q:PS}(hW:Wst all q):(∃r,X5 q=r/\r.e≠0)\/∃u s2,X5 q=⟨u,s2,0,0⟩/\Wst all s2/\s2.toks.length<=q.toks.length:=by
 have h1:=Qdu q
 cases hp:Xk q with
 |err p e=>rw[hp]at h1;exact .inl ⟨_,rfl,h1.2.1▸h1.2.2⟩
 |ok u s2 =>
  rw[hp]at h1
  exact .inr ⟨u,s2,h1,Kp.Ps.ok (n:=wdOf all) (Kp.termT_ps trivial) hW hp,((Ze.less (Nat.zero_le _)) q hW.wf u s2 hp).2⟩
theorem Qor{q:PS}(hW:Wst all q):R2 Tryz.prog 61 [.ptr i 0 0] i g all q (.tup [(Qf2 q).v.goal,.b ((Qf2 q).e==0)]) (Qf2 q).s (Qf2 q).pos (Qf2 q).e:=by
 intro h HI
 have f1:=YB h i g all
 have f3:=QaT h i g all
 have f4:=QcO h i g all
 have f5:=ZL h i g all
 have f6:=QaS h i g all
 have ct:=Qd2 hW HI
 have cx:=Qax hN hW HI
 have cf:=Qbw hW HI
 have e1:=Tk.QtK q.tk
 have e2:=Tk.QtL q.tk
 have cr:=ZE q.tk.text
 have e40:(ByteArray.toList {data:=#[40]})=sLp:=by rw[Lib.toList_data];rfl
 have e41:(ByteArray.toList {data:=#[41]})=sRp:=by rw[Lib.toList_data];rfl
 unfold Qf2
 by_cases hk:q.tk.kind=1/\resB q.tk.text=true
 ·rw[if_pos hk]
  rw[hk.2]at cr
  have z1:(q.tk.kind==1)=true:=by simpa using hk.1
  obtain⟨b1,u1⟩:∃b,(q.tk.text.toList==ByteArray.toList {data:=#[116,114,117,101]})=b:=⟨_,rfl⟩
  have w1:(q.tk.text.toList=[116,114,117,101])=(b1=true):=by rw[<-u1,Lib.toList_data {data:=#[116,114,117,101]}];simp
  obtain⟨b2,u2⟩:∃b,(q.tk.text.toList==ByteArray.toList {data:=#[102,97,105,108]})=b:=⟨_,rfl⟩
  have w2:(q.tk.text.toList=[102,97,105,108])=(b2=true):=by rw[<-u2,Lib.toList_data {data:=#[102,97,105,108]}];simp
  obtain⟨b3,u3⟩:∃b,(q.tk.text.toList==ByteArray.toList {data:=#[105,110,116]})=b:=⟨_,rfl⟩
  have w3:(q.tk.text.toList=[105,110,116])=(b3=true):=by rw[<-u3,Lib.toList_data {data:=#[105,110,116]}];simp
  obtain⟨b4,u4⟩:∃b,(q.tk.text.toList==ByteArray.toList {data:=#[103,114,111,117,110,100]})=b:=⟨_,rfl⟩
  have w4:(q.tk.text.toList=[103,114,111,117,110,100])=(b4=true):=by rw[<-u4,Lib.toList_data {data:=#[103,114,111,117,110,100]}];simp
  simp only[w1,w2,w3,w4]
  cases b1 with
  |true =>
   rw[if_pos rfl]
   refine Qa Tryz.func61 rfl Tryz.call61 Tryz.ntmps61 Tryz.results61 (by simp) ?_
   repeat first|(first|refine Qd cr ?_|refine FunW.QtJ (ct _) ?_|refine FunW.QtJ (cx _) ?_|refine Qb ?_);simp only[go_sem,seval,f1,f3,f4,f5,f6,e1,e2,z1,u1]|refine hK _ ?_;clear hK
   exact QB HI all _ _ _ (QK _ (QaG _ _ _ _)) ⟨rfl,rfl⟩
  |false =>
   rw[if_neg (by simp)]
   cases b2 with
   |true =>
    rw[if_pos rfl]
    refine Qa Tryz.func61 rfl Tryz.call61 Tryz.ntmps61 Tryz.results61 (by simp) ?_
    repeat first|(first|refine Qd cr ?_|refine FunW.QtJ (ct _) ?_|refine FunW.QtJ (cx _) ?_|refine Qb ?_);simp only[go_sem,seval,f1,f3,f4,f5,f6,e1,e2,z1,u1,u2]|refine hK _ ?_;clear hK
    exact QB HI all _ _ _ (QK _ (QaG _ _ _ _)) ⟨rfl,rfl⟩
   |false =>
    rw[if_neg (by simp)]
    by_cases h34:b3=false/\b4=false
    ·obtain⟨rfl,rfl⟩:=h34
     rw[if_neg (by simp),if_neg (by simp)]
     refine Qa Tryz.func61 rfl Tryz.call61 Tryz.ntmps61 Tryz.results61 (by simp) ?_
     repeat first|(first|refine Qd cr ?_|refine FunW.QtJ (ct _) ?_|refine FunW.QtJ (cf _ _ _) ?_|refine Qb ?_);simp only[go_sem,seval,f1,f3,f4,f5,f6,e1,e2,z1,u1,u2,u3,u4]|refine hK _ ?_;clear hK
     exact QB HI all _ _ _ (QK _ (QaG _ _ _ _)) ⟨rfl,rfl⟩
    ·obtain⟨op,hop⟩:∃op:Int,op=(if b3=true then 11 else 12):=⟨_,rfl⟩
     have hq:(if b3=true then qOne 11 q.nx else if b4=true then qOne 12 q.nx else⟨zGl,q,q.tk.pos,7⟩)=qOne op q.nx:=by
      cases b3 with
      |true=>rw[hop];rfl
      |false=>cases b4 with
       |true=>rw[hop];rfl
       |false=>exact absurd ⟨rfl,rfl⟩ h34
     rw[hq]
     have hln:=QW hW.wf (by rw[hk.1];decide)
     have cw:=fun L=>Qjf hN hW.nx HI L {data:=#[40]}
     rw[e40]at cw
     unfold qOne
     obtain⟨W,hWW⟩:∃W:AS->Prop,W=fun s=>s.tm 0 = .ptr i 0 0/\s.tm 2 = .ptr h.length 0 0/\s.tm 5 = .ptr (h.length+2) 0 0/\s.h=rh h i g all q 0 0++[cG0,.cells 54 3 [q.tk.av],.cells 46 3 [.agg [.i op,.v (.string {data:=#[]}),.v (.slice none 0 0)]]]:=⟨_,rfl⟩
     refine Qa Tryz.func61 rfl Tryz.call61 Tryz.ntmps61 Tryz.results61 (by simp) ?_
     iterate 12 (try (first|((first|(with_reducible (first|refine Qf fun K E hK hE=>?_|refine Qd cr ?_|refine FunW.QtJ (ct _) ?_)));simp only[go_sem,seval,f1,f4,f6,e1,e2,z1])|(with_reducible refine Qo fun K hK=>?_)|((with_reducible refine hK _ ?_);clear hK)|(refine Qk rfl ?_;simp only[↓reduceIte])))
     refine Qw W ?_ ?_
     ·rintro⟨tm,hp⟩ hw
      rw[hWW]at hw
      obtain⟨t0,t2,t5,rfl⟩:=hw
      dsimp only at t0 t2 t5
      have hwi:=Qdw sLp q.nx
      cases hwt:Xl sLp q.nx with
      |err p e =>
       rw[hwt]at hwi
       have hne:=hwi.2.1▸hwi.2.2
       have z:((YJ sLp q.nx).e==0)=false:=by simpa using hne
       rw[if_pos hne]
       rw[z]at cw
       repeat first|(first|refine FunW.QtJ (cx _) ?_|refine FunW.QtJ (cw _) ?_|refine Qb ?_);simp only[go_sem,seval,f3,f5,t0,t2]|refine hK _ ?_;clear hK
       exact QB HI all _ _ _ (QK _ (QaG _ _ _ _)) ⟨by rw[z] <;> rfl,rfl⟩
      |ok v s1 =>
       rw[hwt]at hwi
       have hq1:=RR.okE hwi
       have hW1:Wst all s1:=Kp.Ps.ok (n:=wdOf all) (Kp.want_ps trivial _) hW.nx hwt
       rw[hq1]at cw ⊢
       rw[if_neg (by simp)]
       have ce:=(Qep i g hN hD hX hW1).app HI
       rcases QfB hN hD hX hW1 with⟨r,hr,hne⟩|⟨u,s2,hr,hW2,hl2⟩
       ·simp only[hr]at ce ⊢
        have z:(r.e==0)=false:=by simpa using hne
        rw[if_pos hne]
        rw[z]at ce
        have v1:=T.QtK r.v
        have v2:=T.QtL r.v
        repeat first|(first|refine FunW.QtJ (cx _) ?_|refine FunW.QtJ (cw _) ?_|refine FunW.QtJ (ce _) ?_|refine Ql (id:=21) [(0,0),(1,0),(2,0),(3,0),(4,1),(5,1),(6,2),(7,0)] mixed (by kernel_rfl) fun K hK=>?_|refine Qb ?_);simp only[go_sem,seval,f1,f3,f4,f5,f6,t0,t2,t5,v1,v2]|refine hK _ ?_;clear hK
        exact QB HI all _ _ _ (QK _ (Qbh _ _ ⟨op,eB,[r.v]⟩)) ⟨by rw[z] <;> rfl,rfl⟩
       ·simp only[hr]at ce ⊢
        rw[if_neg (by simp)]
        have cw2:=fun L=>Qjf hN hW2 HI L {data:=#[41]}
        rw[e41]at cw2
        have v1:=T.QtK u
        have v2:=T.QtL u
        repeat first|(first|refine FunW.QtJ (cx _) ?_|refine FunW.QtJ (cw _) ?_|refine FunW.QtJ (ce _) ?_|refine Qb ?_);simp only[go_sem,seval,f1,f4,f6,t0,t5,v1,v2]|refine hK _ ?_;clear hK
        refine X6 (h.length+2) 5 0 0 (by rw[f4];rfl) (by exact t5) ?_
        simp only[f6,Qu6,Qu7]
        refine Qn (id:=21) [(0,1),(1,1),(2,1),(3,1),(4,2),(5,1),(6,2),(7,0)] mixed (by kernel_rfl) fun K hK=>?_
        simp only[go_sem,seval,t0]
        repeat first|(first|refine QX (FunW.call (cw2 _)) Yi ?_|refine Qb ?_);simp only[go_sem,seval,f3,f5,t2]|refine hK _ ?_;clear hK
        exact QB HI all _ _ _ (QK _ (Qbh _ _ ⟨op,eB,[u]⟩)) ⟨rfl,rfl⟩
     ·cases b3 with
      |true =>
       repeat first|refine Qb ?_;simp only[go_sem,seval,f4,f6,e1,u1,u2,u3]|refine hK _ ?_;clear hK
       (try (refine hK _ ?_;rw[Qp]))
       rw[hWW]
       exact⟨rfl,rfl,rfl,by rw[hop];rfl⟩
      |false =>
       cases b4 with
       |true =>
        repeat first|refine Qb ?_;simp only[go_sem,seval,f4,f6,e1,u1,u2,u3,u4]|refine hK _ ?_;clear hK
        (try (refine hK _ ?_;rw[Qp]))
        rw[hWW]
        exact⟨rfl,rfl,rfl,by rw[hop];rfl⟩
       |false=>exact absurd ⟨rfl,rfl⟩ h34
 ·rw[if_neg hk]
  have hkk:(q.tk.kind==1)=false\/((q.tk.kind==1)=true/\resB q.tk.text=false):=by
   cases h1:(q.tk.kind==1)with
   |false=>exact .inl rfl
   |true=>exact .inr ⟨rfl,by cases h2:resB q.tk.text with
    |false=>rfl
    |true=>exact absurd ⟨by simpa using h1,h2⟩ hk⟩
  obtain⟨W,hWW⟩:∃W:AS->Prop,W=fun s=>s.tm 0 = .ptr i 0 0/\s.tm 2 = .ptr h.length 0 0/\s.tm 4 = .ptr (h.length+1) 0 0/\s.h=rh h i g all q 0 0++[cG0,.cells 54 3 [q.tk.av]]:=⟨_,rfl⟩
  refine Qa Tryz.func61 rfl Tryz.call61 Tryz.ntmps61 Tryz.results61 (by simp) ?_
  iterate 5 (try (first|((first|(with_reducible (first|refine Qf fun K E hK hE=>?_|refine FunW.QtJ (ct _) ?_)));simp only[go_sem,seval,f1,f4,f6,e1,e2])|((with_reducible refine hK _ ?_);clear hK)))
  refine Qw W ?_ ?_
  ·rintro⟨tm,hp⟩ hw
   rw[hWW]at hw
   obtain⟨t0,t2,t4,rfl⟩:=hw
   dsimp only at t0 t2 t4
   have ce:=(Qep i g hN hD hX hW).app HI
   rcases QfB hN hD hX hW with⟨r,hr,hne⟩|⟨u,s2,hr,hW2,hl2⟩
   ·simp only[hr]at ce ⊢
    have z:(r.e==0)=false:=by simpa using hne
    rw[if_pos hne]
    rw[z]at ce
    have v1:=T.QtK r.v
    have v2:=T.QtL r.v
    repeat first|(first|refine FunW.QtJ (ce _) ?_|refine Qb ?_);simp only[go_sem,seval,f1,f3,f4,f5,f6,t0,t2,v1,v2]|refine hK _ ?_;clear hK
    exact QB HI all _ _ _ (QK _ (QaG _ _ _ _)) ⟨by rw[z] <;> rfl,rfl⟩
   ·simp only[hr]at ce ⊢
    rw[if_neg (by simp)]
    have v1:=T.QtK u
    have v2:=T.QtL u
    have cc:=Qog hW2 HI
    cases hc:Zu s2 with
    |none =>
     have ec:cmpR s2=(0,false):=by unfold cmpR;rw[hc]
     rw[ec]at cc
     have ct2:=Qd2 hW2 HI
     have cf2:=Qbw hW2 HI
     have k1:=Tk.QtK s2.tk
     have k2:=Tk.QtL s2.tk
     by_cases h1:q.tk.kind=1
     ·have z1:(q.tk.kind != 1)=false:=by simpa using h1
      by_cases h2:u.name.toList=q.tk.text.toList
      ·have z2:(u.name.toList==q.tk.text.toList)=true:=by simpa using h2
       rw[if_pos ⟨h1,h2⟩]
       repeat first|(first|refine FunW.QtJ (ce _) ?_|refine FunW.QtJ (cc _) ?_|refine Qb ?_);simp only[go_sem,seval,f1,f3,f4,f5,f6,t0,t2,t4,v1,v2,e1,z1,z2]|refine hK _ ?_;clear hK
       exact QB HI all _ _ _ (QK _ (Qbh _ _ ⟨0,u.name,u.args⟩)) ⟨rfl,rfl⟩
      ·have z2:(u.name.toList==q.tk.text.toList)=false:=by simpa using h2
       rw[if_neg (fun h=>h2 h.2)]
       repeat first|(first|refine FunW.QtJ (ce _) ?_|refine FunW.QtJ (cc _) ?_|refine FunW.QtJ (ct2 _) ?_|refine FunW.QtJ (cf2 _ _ _) ?_|refine Qb ?_);simp only[go_sem,seval,f1,f3,f4,f5,f6,t0,t2,t4,v1,v2,e1,z1,z2,k1,k2]|refine hK _ ?_;clear hK
       exact QB HI all _ _ _ (QK _ (QaG _ _ _ _)) ⟨rfl,rfl⟩
     ·have z1:(q.tk.kind != 1)=true:=by simpa using h1
      rw[if_neg (fun h=>h1 h.1)]
      repeat first|(first|refine FunW.QtJ (ce _) ?_|refine FunW.QtJ (cc _) ?_|refine FunW.QtJ (ct2 _) ?_|refine FunW.QtJ (cf2 _ _ _) ?_|refine Qb ?_);simp only[go_sem,seval,f1,f3,f4,f5,f6,t0,t2,t4,v1,v2,e1,z1,k1,k2]|refine hK _ ?_;clear hK
      exact QB HI all _ _ _ (QK _ (QaG _ _ _ _)) ⟨rfl,rfl⟩
    |some ot =>
     obtain⟨o,t⟩:=ot
     have ec:cmpR s2=(o,t):=by unfold cmpR;rw[hc]
     rw[ec]at cc
     have zo:(o==0)=false:=by simpa using Qm2 hc
     have cx2:=Qax hN hW2 HI
     have ce2:=(Qep i g hN hD hX hW2.nx).app HI
     generalize X5 s2.nx=y at *
     have y1:=T.QtK y.v
     have y2:=T.QtL y.v
     cases t with
     |true =>
      repeat first|(first|refine FunW.QtJ (ce _) ?_|refine FunW.QtJ (cc _) ?_|refine FunW.QtJ (cx2 _) ?_|refine FunW.QtJ (ce2 _) ?_|refine Qb ?_);simp only[go_sem,seval,f1,f3,f4,f5,f6,t0,t2,v1,v2,zo,y1,y2]|refine hK _ ?_;clear hK
      exact QB HI all _ _ _ (QK _ (Qbh _ _ ⟨o,eB,[y.v,u]⟩)) ⟨rfl,rfl⟩
     |false =>
      repeat first|(first|refine FunW.QtJ (ce _) ?_|refine FunW.QtJ (cc _) ?_|refine FunW.QtJ (cx2 _) ?_|refine FunW.QtJ (ce2 _) ?_|refine Qb ?_);simp only[go_sem,seval,f1,f3,f4,f5,f6,t0,t2,v1,v2,zo,y1,y2]|refine hK _ ?_;clear hK
      exact QB HI all _ _ _ (QK _ (Qbh _ _ ⟨o,eB,[u,y.v]⟩)) ⟨rfl,rfl⟩
  ·rcases hkk with hk1|⟨hk1,hk2⟩
   ·repeat first|refine Qb ?_;simp only[go_sem,seval,f4,e1,hk1]|refine hK _ ?_;clear hK
    (try (refine hK _ ?_;rw[Qp]))
    rw[hWW]
    exact⟨rfl,rfl,rfl,rfl⟩
   ·rw[hk2]at cr
    repeat first|(first|refine Qd cr ?_|refine Qb ?_);simp only[go_sem,seval,f4,e1,hk1]|refine hK _ ?_;clear hK
    (try (refine hK _ ?_;rw[Qp]))
    rw[hWW]
    exact⟨rfl,rfl,rfl,rfl⟩
end
end Go.Proofs.YticgcpebdldbgaaGreatDoor.Ab
set_option maxRecDepth 4000
namespace Go.Proofs.YticgcpebdldbgaaGreatDoor.Ab
open Go.Proofs
def i64(n:Int):Prop := -9223372036854775808<=n/\n<=9223372036854775807
mutual
def T.ok:T->Prop
 | .mk k i n l=>i64 k/\i64 i/\n.size<=9223372036854775807/\oks l
def oks:List T->Prop
 |[]=>True
 |t::l=>t.ok/\oks l
end
theorem T.ok_eq(t:T):t.ok↔i64 t.kind/\i64 t.int/\t.name.size<=9223372036854775807/\oks t.args:=by cases t;simp only[T.ok,T.kind,T.int,T.name,T.args]
theorem Qj4:∀{l:List T} {k:Nat} (h:k<l.length),oks l->(l[k]).ok
 |t::l,0,_,h=>h.1
 |t::l,k+1,h,ho=>Qj4 (l:=l) (by simpa using h) ho.2
def G.ok(g:G):Prop:=i64 g.op/\g.name.size<=9223372036854775807/\oks g.args
mutual
def T.QtP:T->Bool
 | .mk k i n l =>
  if k=0 then decide (-2147483648<=i/\i<=2147483648)&&Zv n&&l.isEmpty else
  if k=1 then decide (0<=i/\i<=1048576)&&Zv n&&l.isEmpty else
  if k=2 then(if i≠0\/6<l.length then false else if (!ZY n&&!(opB n&&decide (l.length=2)))=true then false else YA l)else false
def YA:List T->Bool
 |[]=>true
 |t::l=>t.QtP&&YA l
end
theorem T.QtS(t:T):t.QtP=if t.kind=0 then decide (-2147483648<=t.int/\t.int<=2147483648)&&Zv t.name&&t.args.isEmpty else
  if t.kind=1 then decide (0<=t.int/\t.int<=1048576)&&Zv t.name&&t.args.isEmpty else
  if t.kind=2 then(if t.int≠0\/6<t.args.length then false else if (!ZY t.name&&!(opB t.name&&decide (t.args.length=2)))=true then false else YA t.args)else false:=by
 cases t;rw[T.QtP];rfl
theorem QjL{l:List T}{k:Nat}(h:k<l.length):YA (l.drop k)=((l[k]).QtP&&YA (l.drop (k+1))):=by
 rw[List.drop_eq_getElem_cons h];simp only[YA]
theorem QeM{p q:Prop}[Decidable p][Decidable q]:(decide p&&decide q)=decide (p/\q):=by
 by_cases hp:p <;> by_cases hq:q <;> simp[hp,hq]
mutual
theorem T.Qt0:∀(t:T) (b d:Int),(t.run b d).1=(t.QtP&&decide ((t.size:Int)<=b/\(t.dep:Int)<=d))/\((t.run b d).1=true->(t.run b d).2=b - t.size)
 | .mk k i n l,b,d=>by
  have hs:=size_pos (.mk k i n l)
  have hd:1<=(T.mk k i n l).dep:=by rw[T.Qup];omega
  rw[T.run,T.QtP]
  by_cases h1:b - 1<0\/d<1
  ·rw[if_pos h1,decide_eq_false (show ¬(((T.mk k i n l).size:Int)<=b/\((T.mk k i n l).dep:Int)<=d) by omega),Bool.and_false]
   exact⟨rfl,fun h=>by cases h⟩
  rw[if_neg h1]
  have one:k≠2->(T.mk k i n l).size=1/\(T.mk k i n l).dep=1:=fun h=>by simp only[T.size,T.dep,if_neg h];exact⟨trivial,trivial⟩
  by_cases k0:k=0
  ·obtain⟨e1,e2⟩:=one (by omega)
   rw[if_pos k0,if_pos k0,e1,e2,decide_eq_true (show((1:Nat):Int)<=b/\((1:Nat):Int)<=d by omega),Bool.and_true]
   exact⟨rfl,fun _=>rfl⟩
  rw[if_neg k0,if_neg k0]
  by_cases k1:k=1
  ·obtain⟨e1,e2⟩:=one (by omega)
   rw[if_pos k1,if_pos k1,e1,e2,decide_eq_true (show((1:Nat):Int)<=b/\((1:Nat):Int)<=d by omega),Bool.and_true]
   exact⟨rfl,fun _=>rfl⟩
  rw[if_neg k1,if_neg k1]
  by_cases k2:k=2
  ·rw[if_pos k2,if_pos k2]
   by_cases h2:i≠0\/6<l.length
   ·rw[if_pos h2,if_pos h2];exact⟨rfl,fun h=>by cases h⟩
   rw[if_neg h2,if_neg h2]
   by_cases h3:(!ZY n&&!(opB n&&decide (l.length=2)))=true
   ·rw[if_pos h3,if_pos h3];exact⟨rfl,fun h=>by cases h⟩
   rw[if_neg h3,if_neg h3]
   have e1:(T.mk k i n l).size=1+sizes l:=by simp only[T.size,if_pos k2]
   have e2:(T.mk k i n l).dep=1+deps l:=by simp only[T.dep,if_pos k2]
   obtain⟨r1,r2⟩:=Z1 l (b - 1) (d - 1) (by omega) (by omega)
   rw[e1,e2]
   refine⟨?_,fun h=>by rw[r2 h];omega⟩
   rw[r1]
   congr 1
   exact decide_eq_decide.2 (by omega)
  ·rw[if_neg k2,if_neg k2];exact⟨rfl,fun h=>by cases h⟩
theorem Z1:∀(l:List T) (b d:Int),0<=b->0<=d->(runL l b d).1=(YA l&&decide ((sizes l:Int)<=b/\(deps l:Int)<=d))/\((runL l b d).1=true->(runL l b d).2=b - sizes l)
 |[],b,d,hb,hd=>by
  rw[runL,YA,sizes,deps,decide_eq_true (show((0:Nat):Int)<=b/\((0:Nat):Int)<=d by omega)]
  exact⟨rfl,fun _=>by omega⟩
 |t::l,b,d,hb,hd=>by
  obtain⟨r1,r2⟩:=T.Qt0 t b d
  rw[runL,YA,sizes,deps]
  by_cases h:(t.run b d).1=true
  ·rw[if_pos h]
   have e:=r2 h
   rw[r1,Bool.and_eq_true,decide_eq_true_eq]at h
   obtain⟨hf,h1,h2⟩:=h
   obtain⟨q1,q2⟩:=Z1 l (t.run b d).2 d (by omega) hd
   rw[hf,Bool.true_and]
   refine⟨?_,fun h=>by rw[q2 h];omega⟩
   rw[q1]
   congr 1
   exact decide_eq_decide.2 (by omega)
  ·rw[if_neg h]
   refine⟨?_,fun h=>by cases h⟩
   rw[r1]at h
   cases hf:t.QtP with
   |false=>rfl
   |true =>
    rw[hf,Bool.true_and,decide_eq_true_eq]at h
    rw[decide_eq_false (by omega),Bool.and_false]
end
theorem T.Quj(t:T):(t.run 200 20).1=(t.QtP&&(decide (t.size<=200)&&decide (t.dep<=20))):=by
 rw[(T.Qt0 t 200 20).1,QeM]
 congr 1
 exact decide_eq_decide.2 (by omega)
def rargs:List T->Nat->Bool
 |[],n=>decide (n<=200)
 |t::l,n=>(t.run 200 20).1&&rargs l (n+t.size)
theorem Qld:∀(l:List T) (n:Nat),200<n->rargs l n=false
 |[],n,h=>by rw[rargs,decide_eq_false (by omega)]
 |t::l,n,h=>by rw[rargs,Qld l _ (by omega),Bool.and_false]
theorem Qi6:∀(l:List T) (n:Nat),n<=200->rargs l n=(runL l (200 - n) 20).1
 |[],n,h=>by rw[rargs,runL,decide_eq_true h]
 |t::l,n,h=>by
  obtain⟨r1,_⟩:=T.Qt0 t 200 20
  obtain⟨q1,q2⟩:=T.Qt0 t (200 - n) 20
  rw[rargs,runL,r1]
  by_cases hq:(t.run (200 - n) 20).1=true
  ·rw[if_pos hq,q2 hq]
   rw[q1,Bool.and_eq_true,decide_eq_true_eq]at hq
   rw[hq.1,decide_eq_true (by omega),Bool.true_and,Bool.true_and,Qi6 l (n+t.size) (by omega)]
   congr 2;omega
  ·rw[if_neg hq]
   rw[q1]at hq
   cases hf:t.QtP with
   |false=>rfl
   |true =>
    rw[hf,Bool.true_and,decide_eq_true_eq]at hq
    by_cases h2:n+t.size<=200
    ·rw[decide_eq_false (by omega)];rfl
    ·rw[Qld l _ (by omega),Bool.and_false]
theorem Qoe(l:List T):rargs l 0=(runL l 200 20).1:=by
 have:=Qi6 l 0 (by omega)
 simpa using this
mutual
theorem T.Qt4:∀t:T,t.size<=t.nds
 | .mk k i n l=>by
  simp only[T.size,T.nds]
  have:=QfG l
  split <;> omega
theorem QfG:∀l:List T,sizes l<=ndsL l
 |[]=>Nat.le_refl _
 |t::l=>by
  simp only[sizes,ndsL]
  have:=T.Qt4 t
  have:=QfG l
  omega
end
theorem Qo3(t:T)(k0:t.kind=0):Pure Tryz.prog 114 [t.av] (.b t.QtP):=by
 intro h
 have z0:(t.kind==0)=true:=by simp[k0]
 by_cases c1:t.int >= -2147483648
 rotate_left
 ·have e1:¬-2147483648<=t.int:=by omega
  have R:t.QtP=false:=by
   rw[T.QtS,if_pos k0];simp[e1]
  rw[R]
  refine Qa Tryz.func114 rfl Tryz.call114 Tryz.ntmps114 Tryz.results114 (by simp) ?_
  repeat refine Qb ?_;simp only[go_sem,seval,z0,c1]
  (refine Qc (htake _ _) (.keep (.v _)) ⟨rfl,rfl⟩)
 have e1 : -2147483648<=t.int:=by omega
 by_cases c2:t.int<=2147483648
 rotate_left
 ·skip
  have R:t.QtP=false:=by
   rw[T.QtS,if_pos k0];simp[e1,c2]
  rw[R]
  refine Qa Tryz.func114 rfl Tryz.call114 Tryz.ntmps114 Tryz.results114 (by simp) ?_
  repeat refine Qb ?_;simp only[go_sem,seval,z0,c1,c2]
  (refine Qc (htake _ _) (.keep (.v _)) ⟨rfl,rfl⟩)
 cases c3:Zv t.name with
 |false =>
  have c3':(t.name.toList==({data:=#[]}:ByteArray).toList)=false:=c3
  have R:t.QtP=false:=by
   rw[T.QtS,if_pos k0];simp[e1,c2,c3]
  rw[R]
  refine Qa Tryz.func114 rfl Tryz.call114 Tryz.ntmps114 Tryz.results114 (by simp) ?_
  repeat refine Qb ?_;simp only[go_sem,seval,z0,c1,c2,c3']
  (refine Qc (htake _ _) (.keep (.v _)) ⟨rfl,rfl⟩)
 |true =>
  have c3':(t.name.toList==({data:=#[]}:ByteArray).toList)=true:=c3
  cases hl:t.args with
  |nil =>
   have c4:((0:Int)==0)=true:=rfl
   have R:t.QtP=true:=by
    rw[T.QtS,if_pos k0];simp[e1,c2,c3,hl]
   rw[R]
   refine Qa Tryz.func114 rfl Tryz.call114 Tryz.ntmps114 Tryz.results114 (by simp) ?_
   repeat refine Qb ?_;simp only[go_sem,seval,z0,c1,c2,c3',hl,QeC]
   (refine Qc (htake _ _) (.keep (.v _)) ⟨rfl,rfl⟩)
  |cons a l =>
   have c4:(((l.length+1:Nat):Int)==0)=false:=by simp;omega
   have R:t.QtP=false:=by
    rw[T.QtS,if_pos k0];simp[e1,c2,c3,hl]
   rw[R]
   refine Qa Tryz.func114 rfl Tryz.call114 Tryz.ntmps114 Tryz.results114 (by simp) ?_
   repeat refine Qb ?_;simp only[go_sem,seval,z0,c1,c2,c3',hl,c4]
   (refine Qc (htake _ _) (.keep (.v _)) ⟨rfl,rfl⟩)
theorem Qo4(t:T)(k1:t.kind=1):Pure Tryz.prog 114 [t.av] (.b t.QtP):=by
 intro h
 have k0:¬t.kind=0:=by omega
 have z0:(t.kind==0)=false:=by simp[k1]
 have z1:(t.kind==1)=true:=by simp[k1]
 by_cases c1:t.int>=0
 rotate_left
 ·have e1:¬0<=t.int:=by omega
  have R:t.QtP=false:=by
   rw[T.QtS,if_neg k0,if_pos k1];simp[e1]
  rw[R]
  refine Qa Tryz.func114 rfl Tryz.call114 Tryz.ntmps114 Tryz.results114 (by simp) ?_
  repeat refine Qb ?_;simp only[go_sem,seval,z0,z1,c1]
  (refine Qc (htake _ _) (.keep (.v _)) ⟨rfl,rfl⟩)
 have e1:0<=t.int:=by omega
 by_cases c2:t.int<=1048576
 rotate_left
 ·skip
  have R:t.QtP=false:=by
   rw[T.QtS,if_neg k0,if_pos k1];simp[e1,c2]
  rw[R]
  refine Qa Tryz.func114 rfl Tryz.call114 Tryz.ntmps114 Tryz.results114 (by simp) ?_
  repeat refine Qb ?_;simp only[go_sem,seval,z0,z1,c1,c2]
  (refine Qc (htake _ _) (.keep (.v _)) ⟨rfl,rfl⟩)
 cases c3:Zv t.name with
 |false =>
  have c3':(t.name.toList==({data:=#[]}:ByteArray).toList)=false:=c3
  have R:t.QtP=false:=by
   rw[T.QtS,if_neg k0,if_pos k1];simp[e1,c2,c3]
  rw[R]
  refine Qa Tryz.func114 rfl Tryz.call114 Tryz.ntmps114 Tryz.results114 (by simp) ?_
  repeat refine Qb ?_;simp only[go_sem,seval,z0,z1,c1,c2,c3']
  (refine Qc (htake _ _) (.keep (.v _)) ⟨rfl,rfl⟩)
 |true =>
  have c3':(t.name.toList==({data:=#[]}:ByteArray).toList)=true:=c3
  cases hl:t.args with
  |nil =>
   have c4:((0:Int)==0)=true:=rfl
   have R:t.QtP=true:=by
    rw[T.QtS,if_neg k0,if_pos k1];simp[e1,c2,c3,hl]
   rw[R]
   refine Qa Tryz.func114 rfl Tryz.call114 Tryz.ntmps114 Tryz.results114 (by simp) ?_
   repeat refine Qb ?_;simp only[go_sem,seval,z0,z1,c1,c2,c3',hl,QeC]
   (refine Qc (htake _ _) (.keep (.v _)) ⟨rfl,rfl⟩)
  |cons a l =>
   have c4:(((l.length+1:Nat):Int)==0)=false:=by simp;omega
   have R:t.QtP=false:=by
    rw[T.QtS,if_neg k0,if_pos k1];simp[e1,c2,c3,hl]
   rw[R]
   refine Qa Tryz.func114 rfl Tryz.call114 Tryz.ntmps114 Tryz.results114 (by simp) ?_
   repeat refine Qb ?_;simp only[go_sem,seval,z0,z1,c1,c2,c3',hl,c4]
   (refine Qc (htake _ _) (.keep (.v _)) ⟨rfl,rfl⟩)
theorem QlP(t:T)(k0:¬t.kind=0)(k1:¬t.kind=1)(k2:¬t.kind=2):Pure Tryz.prog 114 [t.av] (.b t.QtP):=by
 intro h
 have z0:(t.kind==0)=false:=by simp[k0]
 have z1:(t.kind==1)=false:=by simp[k1]
 have z2:(t.kind==2)=false:=by simp[k2]
 have R:t.QtP=false:=by
  rw[T.QtS,if_neg k0,if_neg k1,if_neg k2]
 rw[R]
 refine Qa Tryz.func114 rfl Tryz.call114 Tryz.ntmps114 Tryz.results114 (by simp) ?_
 repeat refine Qb ?_;simp only[go_sem,seval,z0,z1,z2]
 (refine Qc (htake _ _) (.keep (.v _)) ⟨rfl,rfl⟩)
theorem Qo2(n:Nat)(hb:n<=1000000)(ih:∀t:T,t.nds<=n->t.ok->Pure Tryz.prog 114 [t.av] (.b t.QtP))(t:T)(hn:t.nds<=n+1)(ho:t.ok)(k2:t.kind=2) :
  Pure Tryz.prog 114 [t.av] (.b t.QtP):=by
 intro h
 have k0:¬t.kind=0:=by omega
 have k1:¬t.kind=1:=by omega
 have z0:(t.kind==0)=false:=by simp[k2]
 have z1:(t.kind==1)=false:=by simp[k2]
 have z2:(t.kind==2)=true:=by simp[k2]
 obtain⟨o1,o2,o3,o4⟩:=(T.ok_eq t).1 ho
 have hnd:=T.QtW t
 have hll:=XE t.args
 have co:=Qd1 t.name
 have cr:Pure Tryz.prog 100 [.v (.string t.name)] (.b (ZY t.name)):=QcK t.name (by simp only[maxLen];omega)
 refine Qa Tryz.func114 rfl Tryz.call114 Tryz.ntmps114 Tryz.results114 (by simp) ?_
 iterate 15 (try (first|(((with_reducible refine Qf fun K E hK hE=>?_));simp only[go_sem,seval,z0,z1,z2])|(with_reducible (first|refine Qo fun K hK=>?_|refine QI ?_))|((with_reducible refine hK _ ?_);clear hK)|(refine Qk rfl ?_;simp only[↓reduceIte,QuG])))
 refine Qw (fun s=>s.tm 3 = .b (opB t.name&&decide (t.args.length=2))/\s.tm 1 = .ptr h.length 0 0/\s.h=h++[.cells 48 4 [t.av]]) ?_ ?_
 rotate_left
 ·cases ho:opB t.name with
  |false =>
   rw[ho]at co
   repeat first|(first|refine Qd co ?_|refine Qb ?_);simp only[go_sem,seval]|refine hK _ ?_;clear hK
   exact⟨rfl,rfl,rfl⟩
  |true =>
   rw[ho]at co
   by_cases hl2:t.args.length=2
   ·have h2:((t.args.length:Int)==2)=true:=by rw[hl2];rfl
    rw[decide_eq_true hl2]
    repeat first|(first|refine Qd co ?_|refine Qb ?_);simp only[go_sem,seval,h2]|refine hK _ ?_;clear hK
    exact⟨rfl,rfl,rfl⟩
   ·have h2:((t.args.length:Int)==2)=false:=by rw[beq_eq_false_iff_ne];omega
    rw[decide_eq_false hl2]
    repeat first|(first|refine Qd co ?_|refine Qb ?_);simp only[go_sem,seval,h2]|refine hK _ ?_;clear hK
    exact⟨rfl,rfl,rfl⟩
 rintro⟨tm,hp⟩ ⟨t3,t1,hh⟩
 dsimp only at t3 t1 hh
 subst hh
 obtain⟨p,ep⟩:∃p,p=(opB t.name&&decide (t.args.length=2)):=⟨_,rfl⟩
 rw[<-ep]at t3
 have RR:t.QtP=if t.int≠0\/6<t.args.length then false else if (!ZY t.name&&!p)=true then false else YA t.args:=by rw[T.QtS,if_neg k0,if_neg k1,if_pos k2,<-ep]
 refine Qw (fun s=>t.QtP=YA t.args/\t.args.length<=6/\s.tm 1 = .ptr h.length 0 0/\s.h=h++[.cells 48 4 [t.av]]) ?_ ?_
 rotate_left
 ·by_cases i0:t.int=0
  rotate_left
  ·have y0:(t.int != 0)=true:=by simp[i0]
   have R:t.QtP=false:=by rw[RR,if_pos (.inl i0)]
   rw[R]
   repeat first|refine Qb ?_;simp only[go_sem,seval,t1,y0]|refine hK _ ?_;clear hK
   (refine Qc (htake _ _) (.keep (.v _)) ⟨rfl,rfl⟩)
  have y0:(t.int != 0)=false:=by simp[i0]
  cases p with
  |true =>
   have hl2:t.args.length=2:=by
    have:=ep.symm;rw[Bool.and_eq_true,decide_eq_true_eq]at this;exact this.2
   have R:t.QtP=YA t.args:=by rw[RR,if_neg (by omega),if_neg (by simp)]
   repeat first|refine Qb ?_;simp only[go_sem,seval,t1,t3,y0]|refine hK _ ?_;clear hK
   exact⟨R,by omega,t1,rfl⟩
  |false =>
   cases hr:ZY t.name with
   |false =>
    rw[hr]at cr
    have R:t.QtP=false:=by rw[RR];split;rfl;rw[if_pos (by rw[hr];rfl)]
    rw[R]
    repeat first|(first|refine Qd cr ?_|refine Qb ?_);simp only[go_sem,seval,t1,t3,y0]|refine hK _ ?_;clear hK
    (refine Qc (htake _ _) (.keep (.v _)) ⟨rfl,rfl⟩)
   |true =>
    rw[hr]at cr
    by_cases a6:t.args.length>6
    ·have y6:(t.args.length:Int)>6:=by omega
     have R:t.QtP=false:=by rw[RR,if_pos (.inr a6)]
     rw[R]
     repeat first|(first|refine Qd cr ?_|refine Qb ?_);simp only[go_sem,seval,t1,t3,y0,y6]|refine hK _ ?_;clear hK
     (refine Qc (htake _ _) (.keep (.v _)) ⟨rfl,rfl⟩)
    ·have y6:¬(t.args.length:Int)>6:=by omega
     have R:t.QtP=YA t.args:=by rw[RR,if_neg (by omega),if_neg (by rw[hr];simp)]
     repeat first|(first|refine Qd cr ?_|refine Qb ?_);simp only[go_sem,seval,t1,t3,y0,y6]|refine hK _ ?_;clear hK
     exact⟨R,by omega,t1,rfl⟩
 rintro⟨tm,hp⟩ ⟨R,hl6,t1,hh⟩
 dsimp only at t1 hh
 subst hh
 rw[R]
 repeat first|refine Qb ?_;simp only[go_sem,seval]|refine hK _ ?_;clear hK
 obtain⟨I,hI⟩:∃I:Nat->AS->Prop,I=fun m' s=>∃(k:Nat),m'=t.args.length - k/\k<=t.args.length/\YA t.args=YA (t.args.drop k)/\s.tm 1 = .ptr h.length 0 0/\s.tm 4 = .i k/\s.h=h++[AB.cells 48 4 [t.av]]:=⟨_,rfl⟩;refine Qi I ?_ (m:=t.args.length) ?_
 ·intro m' s hs;rw[hI]at hs;obtain⟨tm,hp⟩:=s;dsimp only at hs;obtain⟨k,rfl,hk,he,t1,t4,rfl⟩:=hs
  by_cases hlt:k<t.args.length
  ·have hg:=ZD hlt
   have z9:(k:Int)<t.args.length:=by omega
   have c:=ih t.args[k] (by have:=Zp hlt;omega) (Qj4 hlt o4)
   rw[QjL hlt]at he
   cases hr:(t.args[k]).QtP with
   |true =>
    rw[hr]at c he
    repeat first|(first|refine Qd c ?_|refine Qb ?_);simp only[go_sem,seval,t1,t4,z9,hg]|refine hK _ ?_;clear hK
    refine Qv.mk (m':=t.args.length - (k+1)) (by omega) ?_
    rw[hI]
    refine⟨k+1,rfl,hlt,by rw[he];rfl,t1,?_,rfl⟩
    simp only[upd,↓reduceIte]
    rw[Qz (by omega)]
   |false =>
    rw[hr]at c he
    repeat first|(first|refine Qd c ?_|refine Qb ?_);simp only[go_sem,seval,t1,t4,z9,hg]|refine hK _ ?_;clear hK
    (refine Qc (htake _ _) (.keep (.v _)) ⟨by rw[he];rfl,rfl⟩)
  ·have z9:¬(k:Int)<t.args.length:=by omega
   have hkl:k=t.args.length:=by omega
   rw[hkl,List.drop_length]at he
   repeat first|refine Qb ?_;simp only[go_sem,seval,t1,t4,z9]|refine hK _ ?_;clear hK|clear hK;refine hK _ ?_;clear hK
   (refine Qc (htake _ _) (.keep (.v _)) ⟨by rw[he];rfl,rfl⟩)
 ·rw[hI]
  exact⟨0,by omega,Nat.zero_le _,by rw[List.drop_zero],t1,rfl,rfl⟩
theorem Qi7(n:Nat):n<=1000000->∀t:T,t.nds<=n->t.ok->Pure Tryz.prog 114 [t.av] (.b t.QtP):=by
 induction n with
 |zero=>intro _ t hn _;have:=T.QtW t;omega
 |succ n ih =>
  intro hb t hn ho
  by_cases k0:t.kind=0
  ·exact Qo3 t k0
  by_cases k1:t.kind=1
  ·exact Qo4 t k1
  by_cases k2:t.kind=2
  ·exact Qo2 n (by omega) (ih (by omega)) t hn ho k2
  ·exact QlP t k0 k1 k2
theorem Qf3(t:T)(hn:t.nds<=1000000)(ho:t.ok):Pure Tryz.prog 101 [t.av] (.b (t.run 200 20).1):=by
 intro h
 have hs:=T.Qt4 t
 have c1:=Qi7 1000000 (Nat.le_refl _) t hn ho
 have c2:=QdO 1000000 t (by omega) (Nat.le_refl _)
 have c3:=QhI 1000000 t (by omega) (Nat.le_refl _)
 rw[T.Quj]
 cases hf:t.QtP with
 |false =>
  rw[hf]at c1
  refine Qa Tryz.func101 rfl Tryz.call101 Tryz.ntmps101 Tryz.results101 (by simp) ?_
  repeat (first|refine Qd c1 ?_|refine Qb ?_);simp only[go_sem,seval]
  (refine Qc (htake _ _) (.keep (.v _)) ⟨rfl,rfl⟩)
 |true =>
  rw[hf]at c1
  by_cases q1:t.size<=200
  ·have z1:(t.size:Int)<=200:=by omega
   by_cases q2:t.dep<=20
   ·have z2:(t.dep:Int)<=20:=by omega
    rw[decide_eq_true q1,decide_eq_true q2]
    refine Qa Tryz.func101 rfl Tryz.call101 Tryz.ntmps101 Tryz.results101 (by simp) ?_
    repeat (first|refine Qd c1 ?_|refine Qd c2 ?_|refine Qd c3 ?_|refine Qb ?_);simp only[go_sem,seval,z1,z2]
    (refine Qc (htake _ _) (.keep (.v _)) ⟨rfl,rfl⟩)
   ·have z2:¬(t.dep:Int)<=20:=by omega
    rw[decide_eq_true q1,decide_eq_false q2]
    refine Qa Tryz.func101 rfl Tryz.call101 Tryz.ntmps101 Tryz.results101 (by simp) ?_
    repeat (first|refine Qd c1 ?_|refine Qd c2 ?_|refine Qd c3 ?_|refine Qb ?_);simp only[go_sem,seval,z1,z2]
    (refine Qc (htake _ _) (.keep (.v _)) ⟨rfl,rfl⟩)
  ·have z1:¬(t.size:Int)<=200:=by omega
   rw[decide_eq_false q1]
   refine Qa Tryz.func101 rfl Tryz.call101 Tryz.ntmps101 Tryz.results101 (by simp) ?_
   repeat (first|refine Qd c1 ?_|refine Qd c2 ?_|refine Qb ?_);simp only[go_sem,seval,z1]
   (refine Qc (htake _ _) (.keep (.v _)) ⟨rfl,rfl⟩)
theorem Qav(l:List T)(hn:ndsL l<=1000000)(ho:oks l):Pure Tryz.prog 88 [.sl 4 (avs l) none] (.b (runL l 200 20).1):=by
 intro h
 have hll:=XE l
 rw[<-Qoe]
 refine Qa Tryz.func88 rfl Tryz.call88 Tryz.ntmps88 Tryz.results88 (by simp) ?_
 repeat refine Qb ?_;simp only[go_sem,seval]
 obtain⟨I,hI⟩:∃I:Nat->AS->Prop,I=fun m' s=>∃(k n:Nat),m'=l.length - k/\k<=l.length/\n+sizes (l.drop k)<=1000000/\rargs l 0=rargs (l.drop k) n/\s.tm 0 = .sl 4 (avs l) none/\s.tm 3 = .i n/\s.tm 4 = .i k/\s.h=h:=⟨_,rfl⟩;refine Qi I ?_ (m:=l.length) ?_
 ·intro m' s hs;rw[hI]at hs;obtain⟨tm,hp⟩:=s;dsimp only at hs;obtain⟨k,n,rfl,hk,hs,he,t0,t3,t4,rfl⟩:=hs
  by_cases hlt:k<l.length
  ·have hg:=ZD hlt
   have z9:(k:Int)<l.length:=by omega
   have hnk:(l[k]).nds<=1000000:=by have:=Zp hlt;omega
   have c:=Qf3 l[k] hnk (Qj4 hlt ho)
   have c2:=QdO 1000000 l[k] (by have:=T.Qt4 l[k];omega) (Nat.le_refl _)
   rw[List.drop_eq_getElem_cons hlt,rargs]at he
   rw[List.drop_eq_getElem_cons hlt,sizes]at hs
   have hw:IntKind.i64.wrap ((n:Int)+((l[k]).size:Nat))=((n+(l[k]).size:Nat):Int):=by rw[QO (by omega)];omega
   cases hr:((l[k]).run 200 20).1 with
   |true =>
    rw[hr]at c he
    repeat (first|refine Qd c ?_|refine Qd c2 ?_|refine Qb ?_);simp only[go_sem,seval,t0,t3,t4,z9,hg,hw]
    refine Qv.mk (m':=l.length - (k+1)) (by omega) ?_
    rw[hI]
    refine⟨k+1,n+(l[k]).size,rfl,hlt,by omega,by rw[he];rfl,t0,rfl,?_,rfl⟩
    simp only[upd,↓reduceIte]
    rw[Qz (by omega)]
   |false =>
    rw[hr]at c he
    repeat (first|refine Qd c ?_|refine Qb ?_);simp only[go_sem,seval,t0,t4,z9,hg]
    exact Qc (Qnp _) (.keep (.v _)) ⟨by rw[he];rfl,rfl⟩
  ·have z9:¬(k:Int)<l.length:=by omega
   have hkl:k=l.length:=by omega
   rw[hkl,List.drop_length,rargs]at he
   by_cases q:n<=200
   ·have z1:(n:Int)<=200:=by omega
    repeat refine Qb ?_;simp only[go_sem,seval,t0,t3,t4,z9,z1]
    exact Qc (Qnp _) (.keep (.v _)) ⟨by rw[he,decide_eq_true q],rfl⟩
   ·have z1:¬(n:Int)<=200:=by omega
    repeat refine Qb ?_;simp only[go_sem,seval,t0,t3,t4,z9,z1]
    exact Qc (Qnp _) (.keep (.v _)) ⟨by rw[he,decide_eq_false q],rfl⟩
 ·rw[hI]
  exact⟨0,0,by omega,Nat.zero_le _,by have:=QfG l;simp only[QuT];omega,by rw[List.drop_zero],rfl,rfl,rfl,rfl⟩
theorem Qaw(g:G)(hn:ndsL g.args<=1000000)(ho:g.ok):Pure Tryz.prog 86 [g.atom] (.b (QA g)):=by
 intro h
 obtain⟨o1,o2,o3⟩:=ho
 have cr:Pure Tryz.prog 100 [.v (.string g.name)] (.b (ZY g.name)):=QcK g.name (by simp only[maxLen];omega)
 have ca:=Qav g.args hn o3
 cases hr:ZY g.name with
 |false =>
  rw[hr]at cr
  refine Qa Tryz.func86 rfl Tryz.call86 Tryz.ntmps86 Tryz.results86 (by simp) ?_
  repeat (first|refine Qd cr ?_|refine Qb ?_);simp only[go_sem,seval,YR]
  (refine Qc (htake _ _) (.keep (.v _)) ⟨by rw[QA,hr];rfl,rfl⟩)
 |true =>
  rw[hr]at cr
  by_cases q:g.args.length<=6
  ·have z:(g.args.length:Int)<=6:=by omega
   refine Qa Tryz.func86 rfl Tryz.call86 Tryz.ntmps86 Tryz.results86 (by simp) ?_
   repeat (first|refine Qd cr ?_|refine Qd ca ?_|refine Qb ?_);simp only[go_sem,seval,YR,z]
   (refine Qc (htake _ _) (.keep (.v _)) ⟨by rw[QA,hr,decide_eq_true q];rfl,rfl⟩)
  ·have z:¬(g.args.length:Int)<=6:=by omega
   refine Qa Tryz.func86 rfl Tryz.call86 Tryz.ntmps86 Tryz.results86 (by simp) ?_
   repeat (first|refine Qd cr ?_|refine Qb ?_);simp only[go_sem,seval,YR,z]
   (refine Qc (htake _ _) (.keep (.v _)) ⟨by rw[QA,hr,decide_eq_false q];rfl,rfl⟩)
def YF(op:Int):Int:=if op=1\/op=2 then 0 else if op=11\/op=12 then 1 else if 2<op/\op<11 then 2 else -1
theorem QlA(op:Int):Pure Tryz.prog 87 [.i op] (.i (YF op)):=by
 intro h
 by_cases k1:op=1
 ·have z1:(op==1)=true:=by simp[k1]
  have R:YF op=0:=by simp[YF,k1]
  rw[R]
  refine Qa Tryz.func87 rfl Tryz.call87 Tryz.ntmps87 Tryz.results87 (by simp) ?_
  repeat refine Qb ?_;simp only[go_sem,seval,z1]
  (refine Qc List.take_length (.keep (.v _)) ⟨rfl,rfl⟩)
 have z1:(op==1)=false:=by simp[k1]
 by_cases k2:op=2
 ·have z2:(op==2)=true:=by simp[k2]
  have R:YF op=0:=by simp[YF,k2]
  rw[R]
  refine Qa Tryz.func87 rfl Tryz.call87 Tryz.ntmps87 Tryz.results87 (by simp) ?_
  repeat refine Qb ?_;simp only[go_sem,seval,z1,z2]
  (refine Qc List.take_length (.keep (.v _)) ⟨rfl,rfl⟩)
 have z2:(op==2)=false:=by simp[k2]
 by_cases k11:op=11
 ·have z11:(op==11)=true:=by simp[k11]
  have R:YF op=1:=by simp[YF,k11]
  rw[R]
  refine Qa Tryz.func87 rfl Tryz.call87 Tryz.ntmps87 Tryz.results87 (by simp) ?_
  repeat refine Qb ?_;simp only[go_sem,seval,z1,z2,z11]
  (refine Qc List.take_length (.keep (.v _)) ⟨rfl,rfl⟩)
 have z11:(op==11)=false:=by simp[k11]
 by_cases k12:op=12
 ·have z12:(op==12)=true:=by simp[k12]
  have R:YF op=1:=by simp[YF,k12]
  rw[R]
  refine Qa Tryz.func87 rfl Tryz.call87 Tryz.ntmps87 Tryz.results87 (by simp) ?_
  repeat refine Qb ?_;simp only[go_sem,seval,z1,z2,z11,z12]
  (refine Qc List.take_length (.keep (.v _)) ⟨rfl,rfl⟩)
 have z12:(op==12)=false:=by simp[k12]
 by_cases g1:op>2
 ·by_cases g2:op<11
  ·have R:YF op=2:=by rw[YF,if_neg (by omega),if_neg (by omega),if_pos (by omega)]
   rw[R]
   refine Qa Tryz.func87 rfl Tryz.call87 Tryz.ntmps87 Tryz.results87 (by simp) ?_
   repeat refine Qb ?_;simp only[go_sem,seval,z1,z2,z11,z12,g1,g2]
   (refine Qc List.take_length (.keep (.v _)) ⟨rfl,rfl⟩)
  ·have R:YF op = -1:=by rw[YF,if_neg (by omega),if_neg (by omega),if_neg (by omega)]
   rw[R]
   refine Qa Tryz.func87 rfl Tryz.call87 Tryz.ntmps87 Tryz.results87 (by simp) ?_
   repeat refine Qb ?_;simp only[go_sem,seval,z1,z2,z11,z12,g1,g2]
   (refine Qc List.take_length (.keep (.v _)) ⟨rfl,rfl⟩)
 ·have R:YF op = -1:=by rw[YF,if_neg (by omega),if_neg (by omega),if_neg (by omega)]
  rw[R]
  refine Qa Tryz.func87 rfl Tryz.call87 Tryz.ntmps87 Tryz.results87 (by simp) ?_
  repeat refine Qb ?_;simp only[go_sem,seval,z1,z2,z11,z12,g1]
  (refine Qc List.take_length (.keep (.v _)) ⟨rfl,rfl⟩)
theorem Qlz(op:Int)(n:Nat):decide (YF op=(n:Int))=(decide (0<op/\op<=12)&&decide ((n:Int)=QaF op)):=by
  rw[QeM]
  apply decide_eq_decide.2
  rw[YF,QaF]
  by_cases h1:op=1\/op=2
  ·rw[if_pos h1,if_pos h1];omega
  rw[if_neg h1,if_neg h1]
  by_cases h2:op=11\/op=12
  ·rw[if_pos h2,if_pos h2];omega
  rw[if_neg h2,if_neg h2]
  split <;> omega
theorem Qds(g:G)(hn:ndsL g.args<=1000000)(ho:g.ok):Pure Tryz.prog 62 [g.goal] (.b (Qu g)):=by
  intro h
  by_cases k0:g.op=0
  ·have z0:(g.op==0)=true:=by simp[k0]
   have c:=Qaw ⟨0,g.name,g.args⟩ hn ⟨by show i64 0;unfold i64;omega,ho.2.1,ho.2.2⟩
   rw[show G.atom ⟨0,g.name,g.args⟩=AV.agg [.v (.string g.name),.sl 4 (avs g.args) none]from rfl]at c
   rw[Qu,if_pos k0]
   refine Qa Tryz.func62 rfl Tryz.call62 Tryz.ntmps62 Tryz.results62 (by simp) ?_
   repeat (first|refine Qd c ?_|refine Qb ?_);simp only[go_sem,seval,Q2,z0]
   (refine Qc (htake _ _) (.keep (.v _)) ⟨rfl,rfl⟩)
  have z0:(g.op==0)=false:=by simp[k0]
  have ca:=Qav g.args hn ho.2.2
  have cy:=QlA g.op
  have key:=Qlz g.op g.args.length
  have R:Qu g=(Zv g.name&&(decide (YF g.op=(g.args.length:Int))&&(runL g.args 200 20).1)):=by
   rw[Qu,if_neg k0,key]
   cases Zv g.name <;> cases decide (0<g.op/\g.op<=12) <;> simp
  rw[R]
  cases c3:Zv g.name with
  |false =>
   have c3':(g.name.toList==({data:=#[]}:ByteArray).toList)=false:=c3
   refine Qa Tryz.func62 rfl Tryz.call62 Tryz.ntmps62 Tryz.results62 (by simp) ?_
   repeat first|(first|refine Ql (id:=3) [(0,0),(1,0),(2,0),(3,0),(4,0),(5,0),(6,1),(7,0),(8,0),(9,0),(10,0),(11,0),(12,0),(13,0),(14,0),(15,1),(16,0),(17,0)] mixed (by kernel_rfl) fun K hK=>?_|refine Qb ?_);simp only[go_sem,seval,Q2,z0,c3']|refine hK _ ?_;clear hK
   (refine Qc (htake _ _) (.keep (.v _)) ⟨rfl,rfl⟩)
  |true =>
   have c3':(g.name.toList==({data:=#[]}:ByteArray).toList)=true:=c3
   by_cases q:YF g.op=(g.args.length:Int)
   ·have q':(YF g.op==(g.args.length:Int))=true:=by simp[q]
    rw[decide_eq_true q]
    refine Qa Tryz.func62 rfl Tryz.call62 Tryz.ntmps62 Tryz.results62 (by simp) ?_
    repeat first|(first|refine XW ca ?_|refine XW cy ?_|refine Ql (id:=3) [(0,0),(1,0),(2,0),(3,0),(4,0),(5,0),(6,1),(7,0),(8,0),(9,0),(10,0),(11,0),(12,0),(13,0),(14,0),(15,1),(16,0),(17,0)] mixed (by kernel_rfl) fun K hK=>?_|refine Qb ?_);simp only[go_sem,seval,Q2,z0,c3',q']|refine hK _ ?_;clear hK
    (refine Qc (htake _ _) (.keep (.v _)) ⟨rfl,rfl⟩)
   ·have q':(YF g.op==(g.args.length:Int))=false:=by simp[q]
    rw[decide_eq_false q]
    refine Qa Tryz.func62 rfl Tryz.call62 Tryz.ntmps62 Tryz.results62 (by simp) ?_
    repeat first|(first|refine XW cy ?_|refine Ql (id:=3) [(0,0),(1,0),(2,0),(3,0),(4,0),(5,0),(6,1),(7,0),(8,0),(9,0),(10,0),(11,0),(12,0),(13,0),(14,0),(15,1),(16,0),(17,0)] mixed (by kernel_rfl) fun K hK=>?_|refine Qb ?_);simp only[go_sem,seval,Q2,z0,c3',q']|refine hK _ ?_;clear hK
    (refine Qc (htake _ _) (.keep (.v _)) ⟨rfl,rfl⟩)
end Go.Proofs.YticgcpebdldbgaaGreatDoor.Ab
set_option maxRecDepth 4000
namespace Go.Proofs.YticgcpebdldbgaaGreatDoor.Ab
open Go.Proofs
theorem QnI:∀a b:List T,ndsL (a++b)=ndsL a+ndsL b
 |[],b=>by rw[List.nil_append,ndsL,Nat.zero_add]
 |t::a,b=>by rw[List.cons_append,ndsL,ndsL,QnI a b];omega
theorem Qqo:∀{a b:List T},oks a->oks b->oks (a++b)
 |[],_,_,h=>h
 |t::a,b,h1,h2=>by
  rw[oks]at h1
  rw[List.cons_append,oks]
  exact⟨h1.1,Qqo h1.2 h2⟩
def QmF(all:List Tk)(ex:PS->PR T):Prop:=∀s,Wst all s->∀t s2,ex s = .ok t s2->t.ok/\t.nds+s2.toks.length<=s.toks.length
section
variable{all:List Tk}(hN:all.length<=1000000)(hD:TkOk all)(hX:TxOk all)
include hX in
theorem Qlp{s:PS}(hW:Wst all s):s.tk.text.size<=9223372036854775807:=by
 have h:=hX _ (QcV hW)
 have:s.tk.text.size=s.tk.text.toList.length:=by rw[Lib.toList_data];show s.tk.text.data.size=_;simp
 omega
include hD in
theorem Qnq{s:PS}(hW:Wst all s)(hk:s.tk.kind=3):0<=valT s.tk.text/\valT s.tk.text<=2147483648:=by
 have h2:=(hD.int _ (QcV hW) hk).2
 exact⟨by unfold valT;omega,by unfold valT;omega⟩
theorem Qm3{s:PS}{o:Int}{t:Bool}(h:Zu s=some (o,t)):0<=o/\o<=12:=by
 unfold Zu at h
 repeat' split at h
 all_goals first|(cases h;decide)|cases h
theorem QnH{k i:Int}{n:ByteArray}{l:List T}(hk:0<=k/\k<=2)(hi : -2147483648<=i/\i<=2147483648)(hn:n.size<=9223372036854775807)(hl:oks l):(T.mk k i n l).ok:=by
 rw[T.ok]
 exact⟨⟨by omega,by omega⟩,⟨by omega,by omega⟩,hn,hl⟩
theorem Qb9:eB.size<=9223372036854775807:=by decide
variable{ex:PS->PR T}(H:QmF all ex)(hKp:Kp.Ps (wdOf all) ex)
include H hKp
theorem Qh7:∀(m:Nat) (l:List T) (s:PS),Wst all s->oks l->∀a s2,Yn ex m l s = .ok a s2->oks a/\ndsL a+s2.toks.length<=ndsL l+s.toks.length
 |0,_,s,_,_,a,s2,e=>by cases e
 |m+1,l,s,hW,hl,a,s2,e=>by
  rw[Yn]at e
  obtain⟨t,s1,h1,h2⟩:=bind_ok e
  obtain⟨g1,g2⟩:=H s hW t s1 h1
  have hW1:Wst all s1:=Kp.Ps.ok hKp hW h1
  have ho:oks (l++[t]):=Qqo hl (by rw[oks,oks];exact⟨g1,trivial⟩)
  have hn:ndsL (l++[t])=ndsL l+t.nds:=by rw[QnI];rfl
  split at h2
  ·obtain⟨i1,i2⟩:=Qh7 m _ s1.nx hW1.nx ho a s2 h2
   have:=QmB hW1.wf
   exact⟨i1,by omega⟩
  ·obtain⟨u,s3,h3,h4⟩:=bind_ok h2
   cases h4
   have:=(ZO _ s1 hW1.wf u _ h3).2
   exact⟨ho,by omega⟩
include hX in
theorem Qia{s:PS}(hW:Wst all s){a:G}{s2:PS}(e:X3 ex s = .ok a s2):a.ok/\1+ndsL a.args+s2.toks.length<=s.toks.length:=by
 rw[X3]at e
 obtain⟨x,s1,h1,h2⟩:=bind_ok e
 have hW1:Wst all s1:=Kp.Ps.ok (n:=wdOf all) (Kp.name_ps trivial) hW h1
 have l1:=(QbL s hW.wf x s1 h1).2
 have hx:x.size<=9223372036854775807:=by
  unfold Yz at h1
  split at h1
  ·cases h1
  ·split at h1
   ·cases h1
   ·cases h1;exact Qlp hX hW
 split at h2
 ·obtain⟨l,s3,h3,h4⟩:=bind_ok h2
  cases h4
  obtain⟨i1,i2⟩:=Qh7 H hKp _ [] s1.nx hW1.nx (by rw[oks];trivial) l _ h3
  have:=QmB hW1.wf
  rw[show ndsL []=0 from rfl]at i2
  exact⟨⟨⟨by show -9223372036854775808<=(0:Int);omega,by show(0:Int)<=9223372036854775807;omega⟩,hx,i1⟩,by show 1+ndsL l+_<=_;omega⟩
 ·cases h2
  exact⟨⟨⟨by show -9223372036854775808<=(0:Int);omega,by show(0:Int)<=9223372036854775807;omega⟩,hx,by show oks [];rw[oks];trivial⟩,by show 1+ndsL []+_<=_;rw[show ndsL []=0 from rfl];omega⟩
include hN hD hX in
theorem Qpr:QmF all (pOpT ex):=fun s hW t s2 e=>by
 have hnil:oks ([]:List T):=by rw[oks];trivial
 rw[pOpT]at e
 split at e
 ·rename_i h
  cases e
  have hv:=Qnq hD hW h
  exact⟨QnH (by omega) (by omega) Qb9 hnil,by have:=QW hW.wf (by rw[h];decide);rw[T.nds];show 1+0+_<=_;omega⟩
 split at e
 ·rename_i h
  cases e
  have hk:s.tk.kind≠0:=by rw[h];decide
  have ht:=Qc1 s.tk.text s.nx
  have hl:=QW hW.wf hk
  have hnm:=hW.nms
  have hb:∃k:Nat,k<=s.names.length/\(pVari s.tk.text s.nx).1 = .mk 1 (k:Nat) eB []:=by
   unfold pVari
   split
   ·rename_i hc;exact⟨_,Nat.le_of_lt hc.1,rfl⟩
   ·exact⟨_,Nat.le_refl _,rfl⟩
  obtain⟨k,k1,k2⟩:=hb
  rw[k2,ht]
  exact⟨QnH (by omega) (by omega) Qb9 hnil,by rw[T.nds];show 1+0+_<=_;omega⟩
 split at e
 ·obtain⟨g,s1,h1,h2⟩:=bind_ok e
  cases h2
  obtain⟨a1,a2⟩:=Qia hX H hKp hW h1
  exact⟨QnH (by omega) (by omega) a1.2.1 a1.2.2,by rw[T.nds];exact a2⟩
 split at e
 ·rename_i h
  split at e
  ·cases e
  ·rename_i hn
   cases e
   have h3:s.nx.tk.kind=3:=by
    by_cases q:s.nx.tk.kind=3
    ·exact q
    ·exact absurd (.inl q) hn
   have hv:=Qnq hD hW.nx h3
   have hl:=QW hW.wf (by rw[QtM h];decide)
   have hl2:=QW hW.nx.wf (by rw[h3];decide)
   exact⟨QnH (by omega) (by omega) Qb9 hnil,by rw[T.nds];show 1+0+_<=_;omega⟩
 split at e
 ·rename_i h
  have hl:=QW hW.wf (by rw[QtM h];decide)
  obtain⟨u,s1,h1,h2⟩:=bind_ok e
  obtain⟨g1,g2⟩:=H s.nx hW.nx u s1 h1
  have hW1:Wst all s1:=Kp.Ps.ok hKp hW.nx h1
  obtain⟨v,s3,h3,h4⟩:=bind_ok h2
  cases h4
  have:=(ZO _ s1 hW1.wf v _ h3).2
  exact⟨g1,by omega⟩
 ·cases e
include hX in
theorem QeG(ops:List (List UInt8)):∀(m:Nat) (t:T) (s:PS),Wst all s->t.ok->∀a s2,Xh ex ops m t s = .ok a s2->a.ok/\a.nds+s2.toks.length<=t.nds+s.toks.length
 |0,t,s,hW,ht,a,s2,e=>by cases e;exact⟨ht,Nat.le_refl _⟩
 |m+1,t,s,hW,ht,a,s2,e=>by
  rw[Xh]at e
  split at e
  ·rename_i hc
   obtain⟨u,s1,h1,h2⟩:=bind_ok e
   obtain⟨g1,g2⟩:=H s.nx hW.nx u s1 h1
   have hW1:Wst all s1:=Kp.Ps.ok hKp hW.nx h1
   have hl:=QW hW.wf (by rw[Qas hc];decide)
   obtain⟨i1,i2⟩:=QeG ops m _ s1 hW1 (QnH (by omega) (by omega) (Qlp hX hW) (by rw[oks,oks,oks];exact⟨ht,g1,trivial⟩)) a s2 h2
   rw[T.nds,ndsL,ndsL,ndsL]at i2
   exact⟨i1,by omega⟩
  ·cases e;exact⟨ht,Nat.le_refl _⟩
include hX in
theorem Qgl(ops:List (List UInt8)):QmF all (XA ex ops):=fun s hW t s2 e=>by
 rw[XA]at e
 obtain⟨u,s1,h1,h2⟩:=bind_ok e
 obtain⟨g1,g2⟩:=H s hW u s1 h1
 have hW1:Wst all s1:=Kp.Ps.ok hKp hW h1
 obtain⟨i1,i2⟩:=QeG hX H hKp ops _ u s1 hW1 g1 t s2 h2
 exact⟨i1,by omega⟩
end
section
variable{all:List Tk}(hN:all.length<=1000000)(hD:TkOk all)(hX:TxOk all)
include hN hD hX
theorem Qit:∀n,QmF all (XK n)
 |0=>fun s hW t s2 e=>by cases e
 |n+1=>by
  have k1:=Kp.opT_ps (n:=wdOf all) trivial (Kp.exprT_ps trivial n)
  exact Qgl hX (Qgl hX (Qpr hN hD hX (Qit n) (Kp.exprT_ps trivial n)) k1 Xo) (Kp.chain_ps trivial k1 Xo) Yl
theorem QcU:QmF all Xk:=fun s hW t s2 e=>Qit hN hD hX _ s hW t s2 e
theorem QlB{s:PS}(hW:Wst all s){a:G}{s2:PS}(e:X3 Xk s = .ok a s2):a.ok/\ndsL a.args<=1000000:=by
 obtain⟨h1,h2⟩:=Qia hX (QcU hN hD hX) (Kp.termT_ps trivial) hW e
 have:=hW.suf.length_le
 exact⟨h1,by omega⟩
theorem Qnh{s:PS}(hW:Wst all s){a:G}{s2:PS}(e:Zg s = .ok a s2):a.ok/\ndsL a.args<=1000000:=by
 have hsl:=hW.suf.length_le
 have hnil:oks ([]:List T):=by rw[oks];trivial
 have hi:∀o:Int,0<=o->o<=12->i64 o:=fun o h1 h2=>⟨by omega,by omega⟩
 have hone:∀(op:Int) (s:PS),Wst all s->0<=op->op<=12->Qa2 op s = .ok a s2->a.ok/\ndsL a.args<=1000000:=fun op s hW h0 h1 e=>by
  rw[Qa2]at e
  obtain⟨u,s1,e1,e2⟩:=bind_ok e
  have hW1:Wst all s1:=Kp.Ps.ok (n:=wdOf all) (Kp.want_ps trivial _) hW e1
  obtain⟨t,s3,e3,e4⟩:=bind_ok e2
  obtain⟨g1,g2⟩:=QcU hN hD hX s1 hW1 t s3 e3
  obtain⟨v,s4,e5,e6⟩:=bind_ok e4
  cases e6
  have:=hW1.suf.length_le
  exact⟨⟨hi _ h0 h1,Qb9,by rw[oks,oks];exact⟨g1,trivial⟩⟩,by show ndsL [t]<=_;rw[ndsL,ndsL];omega⟩
 rw[Zg]at e
 split at e
 ·split at e
  ·cases e;exact⟨⟨hi 1 (by omega) (by omega),Qb9,hnil⟩,Nat.zero_le _⟩
  ·split at e
   ·cases e;exact⟨⟨hi 2 (by omega) (by omega),Qb9,hnil⟩,Nat.zero_le _⟩
   ·split at e
    ·exact hone 11 _ hW.nx (by omega) (by omega) e
    ·split at e
     ·exact hone 12 _ hW.nx (by omega) (by omega) e
     ·cases e
 ·obtain⟨t,s1,e1,e2⟩:=bind_ok e
  have hW1:Wst all s1:=Kp.Ps.ok (n:=wdOf all) (Kp.termT_ps trivial) hW e1
  obtain⟨g1,g2⟩:=QcU hN hD hX s hW t s1 e1
  split at e2
  ·rename_i op turn hc
   obtain⟨u,s3,e3,e4⟩:=bind_ok e2
   cases e4
   obtain⟨g3,g4⟩:=QcU hN hD hX s1.nx hW1.nx u _ e3
   have hle:=QmB hW1.wf
   have ho:=Qm3 hc
   refine⟨⟨hi _ ho.1 ho.2,Qb9,?_⟩,?_⟩
   ·show oks (if turn=true then[u,t]else[t,u])
    split <;> (rw[oks,oks,oks];first|exact⟨g3,g1,trivial⟩|exact⟨g1,g3,trivial⟩)
   ·show ndsL (if turn=true then[u,t]else[t,u])<=_
    split <;> (rw[ndsL,ndsL,ndsL];omega)
  ·split at e2
   ·cases e2
    have h1:=(T.ok_eq t).1 g1
    rw[T.QtW]at g2
    exact⟨⟨hi 0 (by omega) (by omega),h1.2.2.1,h1.2.2.2⟩,by show ndsL t.args<=_;omega⟩
   ·cases e2
end
end Go.Proofs.YticgcpebdldbgaaGreatDoor.Ab
set_option maxRecDepth 4000
namespace Go.Proofs.YticgcpebdldbgaaGreatDoor.Ab
open Go.Proofs
theorem Qq5{A N:AH}{n k:Nat}(hn:A.length=n)(hb:∀b∈A,b.Below n){ty s:Nat}{xs:List AV}(hk:N[k]? = some (.cells ty s xs))(hc:∀y∈xs,y.cells.length=s)(hx:∀a∈flat xs,Below n a)(m:Nat) :
  Pack n (fun i=>if i<n then i else n+k) (A++N) (A++[.cells ty s xs])/\Pk n (fun i=>if i<n then i else n+k) (A++[.cells ty s xs]) (.arr (n+k) 0 m) (.arr n 0 m):=by
 have hl:(A++[AB.cells ty s xs]).length=n+1:=by rw[List.length_append,hn];rfl
 refine⟨⟨by omega,by rw[List.length_append];omega,fun i hi=>if_pos hi,fun i hi=>?_,fun i b hi h=>?_,fun i h1 h2=>by show n<=if i<n then i else n+k;rw[if_neg (by omega)];omega,fun i j h1 h2 h3 h4 _=>by omega,fun i b h1 h2=>?_⟩,.arr (by show n+k=if n<n then n else n+k;rw[if_neg (Nat.lt_irrefl _)]) (Nat.le_refl _) (by omega)⟩
 ·rw[List.getElem?_append_left (by omega),List.getElem?_append_left (by omega)]
 ·rw[List.getElem?_append_left (by omega)]at h
  exact hb b (List.mem_of_getElem? h)
 ·have hin:i=n:=by
   have:=Qe h2
   omega
  subst hin
  rw[List.getElem?_append_right (by omega),hn,Nat.sub_self]at h2
  cases h2
  refine .inr ⟨ty,s,xs,xs,rfl,?_,hc,Nat.le_refl _,fun j a a' e1 e2=>?_⟩
  ·show(A++N)[if i<i then i else i+k]? = _
   rw[if_neg (Nat.lt_irrefl _),List.getElem?_append_right (by omega),hn,Nat.add_sub_cancel_left]
   exact hk
  ·rw[e1]at e2
   cases e2
   exact .keep (hx a (List.mem_of_getElem? e1))
def RwQ(h:AH)(i g:Nat)(all:List Tk)(vw:G->AV)(ty w:Nat):PR (List G)->AOut->AH->Prop
 | .ok l s,o,h'=>o = .ret (.tup [.arr h.length 0 l.length,.b true])/\h'=rh h i g all s 0 0++[.cells ty w (vs vw l)]
 | .err p e,o,h'=>o = .ret (.tup [.v (.slice none 0 0),.b false])/\∃s,h'=rh h i g all s p e
def RwC(h:AH)(i g:Nat)(all:List Tk)(vw:G->AV)(ty w:Nat):PR (List G)->AOut->AH->Prop
 | .ok l s,o,h'=>∃Y k,o = .ret (.tup [.arr (h.length+k) 0 l.length,.b true])/\h'=rh h i g all s 0 0++Y/\Y[k]? = some (.cells ty w (vs vw l))
 | .err p e,o,h'=>o = .ret (.tup [.v (.slice none 0 0),.b false])/\∃s,h'=rh h i g all s p e
theorem Qqv{h:AH}{i g:Nat}(HI:IG h i g)(all:List Tk)(s s2:PS)(hb:∀(k:Nat) b,(rh h i g all s 0 0)[k]? = some b->b.Below h.length):∀b∈rh h i g all s2 0 0,b.Below h.length:=fun b hb2=>by
 obtain⟨k,hk⟩:=Yt hb2
 have hlt:=Qe hk
 rw[YB]at hlt
 unfold rh at hk hb
 by_cases h1:g=k
 ·subst h1;rw[Qho hlt]at hk;cases hk;exact trivial
 ·by_cases h2:i=k
  ·subst h2;rw[Qhn hlt HI.ig]at hk;cases hk;exact Qli HI all _ _ _
  ·rw[QeZ _ _ h2 h1]at hk
   exact hb k b (by rw[QeZ _ _ h2 h1];exact hk)
theorem Qeq{f:FuncId}{args:List AV}{h:AH}{i g:Nat}{all:List Tk}{s:PS}(HI:IG h i g){vw:G->AV}{ty w:Nat}(hw:∀a,(vw a).cells.length=w)(hv:∀n a,∀x∈(vw a).cells,Below n x){r:PR (List G)}(C:Qj Tryz.prog f args (rh h i g all s 0 0) (RwC h i g all vw ty w r)):Qj Tryz.prog f args (rh h i g all s 0 0) (RwQ h i g all vw ty w r):=by
 refine Zk C fun hb0 o h' hQ=>?_
 cases r with
 |err p e=>exact .inl hQ
 |ok l s2 =>
  rw[YB]at hb0 ⊢
  obtain⟨Y,k,rfl,rfl,hk⟩:=hQ
  obtain⟨K,hp⟩:=Qq5 (YB h i g all s2 0 0) (Qqv HI all s s2 hb0) hk (fun y hy=>by obtain⟨x,_,rfl⟩:=List.mem_map.1 hy;exact hw x) (fun a ha=>by
   obtain⟨x,hx,hxa⟩:=List.mem_flatMap.1 ha
   obtain⟨y,_,rfl⟩:=List.mem_map.1 hx
   exact hv _ y a hxa) l.length
  exact .inr ⟨_,.tup [.arr h.length 0 l.length,.b true],_,_,rfl,K,.tup rfl fun j a a' h1 h2=>(by
   match j,h1,h2 with
   |0,h1,h2=>cases h1;cases h2;exact hp
   |1,h1,h2=>cases h1;cases h2;exact .keep (.v _)
   |j+2,h1,h2=>simp at h1),rfl,rfl⟩
def rowV(w d k:Nat)(l:List G):AV:=if l.isEmpty then .sl w [] (some d)else .arr k 0 l.length
theorem G.Qt6(a:G):a.goal.cells=[.i a.op,.v (.string a.name),.sl 4 (avs a.args) none]:=rfl
theorem G.Qt7(a:G):a.atom.cells=[.v (.string a.name),.sl 4 (avs a.args) none]:=rfl
section
variable{all:List Tk}{i g:Nat}(hN:all.length<=1000000)(hD:TkOk all)(hX:TxOk all)
include hN hD hX
theorem QgS(most:Nat)(hmost:most<=100){q:PS}(hW:Wst all q){h:AH}(HI:IG h i g):Qj Tryz.prog 32 [.ptr i 0 0,.i (most:Nat)] (rh h i g all q 0 0) (RwC h i g all G.goal 46 3 (Xp most q)):=by
 have f1:=YB h i g all
 have f3:=QaT h i g all
 have f4:=QcO h i g all
 have f5:=ZL h i g all
 have f6:=QaS h i g all
 have e44:(ByteArray.toList {data:=#[44]})=XG:=by rw[Lib.toList_data];rfl
 generalize hR:Xp most q=R
 unfold Xp at hR
 refine Qa Tryz.func32 rfl Tryz.call32 Tryz.ntmps32 Tryz.results32 (by simp) ?_
 repeat first|refine Qb ?_;simp only[go_sem,seval]|refine hK _ ?_;clear hK
 refine QdB 6 3 rfl ?_
 obtain⟨I,hI⟩:∃I:Nat->AS->Prop,I=fun m' s=>∃(l:List G) (s2:PS) (Y:AH) (k:Nat),m'=s2.toks.length/\Wst all s2/\l.length<=100/\(∃k,s2.toks.length+1<=k/\XL most k l s2=R)/\(l≠[]->Y[k]? = some (.cells 46 3 (vs G.goal l)))/\s.tm 0 = .ptr i 0 0/\s.tm 1 = .i (most:Nat)/\s.tm 6=rowV 3 h.length (h.length+(k+1)) l/\s.h=rh h i g all s2 0 0++(.dead::Y):=⟨_,rfl⟩;refine Qi I ?_ (m:=q.toks.length) ?_
 ·intro m' s hs;rw[hI]at hs;obtain⟨tm,hp⟩:=s;dsimp only at hs;obtain⟨l,s2,Y,k,rfl,hW2,hl100,⟨j,hj,hR2⟩,hY,t0,t1,t6,rfl⟩:=hs
  obtain⟨j,rfl⟩:∃j',j=j'+1:=⟨j - 1,by omega⟩
  have ct:=Qd2 hW2 HI
  have cf:=Qbw hW2 HI
  have e1:=Tk.QtK s2.tk
  have e2:=Tk.QtL s2.tk
  iterate 4 (try (first|((first|(with_reducible (first|refine Qf fun K E hK hE=>?_|refine FunW.QtJ (ct _) ?_)));simp only[go_sem,seval,t0,e1,e2])|(with_reducible refine QI ?_)|((with_reducible refine hK _ ?_);clear hK)))
  refine Qw (fun s=>(¬most<=l.length)/\s.tm 0 = .ptr i 0 0/\s.tm 1 = .i (most:Nat)/\s.tm 6=rowV 3 h.length (h.length+(k+1)) l/\s.tm 7 = .i s2.tk.pos/\s.h=rh h i g all s2 0 0++(.dead::Y)) ?_ ?_
  ·rintro⟨tm,hp⟩ ⟨hfull,t0,t1,t6,t7,rfl⟩
   dsimp only at t0 t1 t6 t7
   rw[XL,if_neg hfull]at hR2
   have ce:=(Qor hN hD hX hW2).app HI
   have his:=QqS s2
   cases hp:Zg s2 with
   |err x c =>
    rw[hp]at hR2 his
    have hRR:R = .err x c:=hR2.symm
    subst hRR
    obtain⟨i1,i2,i3⟩:=his
    have z:((Qf2 s2).e==0)=false:=by rw[i2];simpa using i3
    rw[z,i1,i2]at ce
    generalize Qf2 s2=r at *
    have k1:r.v.goal.isAgg=true:=rfl
    have k2:=G.Qt6 r.v
    repeat first|(first|refine FunW.QtJ (ce _) ?_|refine Qb ?_);simp only[go_sem,seval,f1,f4,f6,t0,k1,k2]|refine hK _ ?_;clear hK
    exact QB HI all _ _ _ (QK _ (.keep (.v _))) ⟨rfl,r.s,rfl⟩
   |ok a s3 =>
    rw[hp]at hR2 his
    have hq3:=RR.okE his
    obtain⟨g1,g2⟩:=Qnh hN hD hX hW2 hp
    have hW3:Wst all s3:=Kp.Ps.ok (n:=wdOf all) (Kp.goalT_ps trivial) hW2 hp
    have hl3:=(QeW s2 hW2.wf a s3 hp).2
    have cR:=Qds a g2 g1
    have k1:a.goal.isAgg=true:=rfl
    have k2:=G.Qt6 a
    rw[hq3]at ce
    have hR3:(if Qu a=false then PR.err s2.tk.pos 6 else if s3.is XG=true then XL most j (l++[a]) s3.nx else .ok (l++[a]) s3)=R:=hR2
    cases hc:Qu a with
    |false =>
     rw[if_pos hc]at hR3
     subst hR3
     rw[hc]at cR
     have cf3:=Qbw hW3 HI
     repeat first|(first|refine Qd cR ?_|refine FunW.QtJ (ce _) ?_|refine FunW.QtJ (cf3 _ _ _) ?_|refine Qb ?_);simp only[go_sem,seval,f1,f4,f6,t0,t7,k1,k2]|refine hK _ ?_;clear hK
     exact QB HI all _ _ _ (QK _ (.keep (.v _))) ⟨rfl,s3,rfl⟩
    |true =>
     rw[if_neg (by rw[hc];simp)]at hR3
     rw[hc]at cR
     iterate 18 (try (first|((first|(with_reducible (first|refine Qf fun K E hK hE=>?_|refine Qd cR ?_|refine FunW.QtJ (ce _) ?_)));simp only[go_sem,seval,f1,f4,f6,t0,k1,k2])|(with_reducible (first|refine Qo fun K hK=>?_|refine QR ?_|refine Qh ?_))|((with_reducible refine hK _ ?_);clear hK)|(refine Qk rfl ?_;simp only[↓reduceIte,QuG])))
     refine Qw (fun s=>∃(Z:AH) (k:Nat),Z[k]? = some (.cells 46 3 (vs G.goal (l++[a])))/\s.tm 0 = .ptr i 0 0/\s.tm 1 = .i (most:Nat)/\s.tm 6 = .arr (h.length+(k+1)) 0 (l.length+1)/\s.h=rh h i g all s3 0 0++(.dead::Z)) ?_ ?_
     ·rintro⟨tm,hp⟩ ⟨Z,k,hZ,t0,t1,t6,rfl⟩
      dsimp only at t0 t1 t6
      have c4:=fun L=>risL hW3 HI L {data:=#[44]}
      rw[e44]at c4
      cases hcm:s3.is XG with
      |true =>
       rw[if_pos hcm]at hR3
       rw[hcm]at c4
       have hln:=QW hW3.wf (by rw[QtM hcm];decide)
       have cx:=Qax hN hW3 HI
       repeat first|(first|refine FunW.QtJ (c4 _) ?_|refine FunW.QtJ (cx _) ?_|refine Qb ?_);simp only[go_sem,seval,t0]|refine hK _ ?_;clear hK
       refine Qv.mk (m':=s3.nx.toks.length) (by omega) ?_
       rw[hI]
       refine⟨l++[a],s3.nx,Z,k,rfl,hW3.nx,by simp;omega,⟨j,by omega,hR3⟩,fun _=>hZ,t0,t1,?_,rfl⟩
       rw[rowV,if_neg (by simp),List.length_append]
       exact t6
      |false =>
       rw[if_neg (by rw[hcm];simp)]at hR3
       subst hR3
       rw[hcm]at c4
       repeat first|(first|refine FunW.QtJ (c4 _) ?_|refine Qb ?_);simp only[go_sem,seval,t0,t6]|refine hK _ ?_;clear hK
       exact .inr ⟨.dead::Z,k+1,by rw[List.length_append];rfl,rfl,hZ⟩
     ·have ev:vs G.goal (l++[a])=vs G.goal l++[a.goal]:=by rw[QbD];rfl
      have evl:(vs G.goal l).length=l.length:=QS _ _
      have hm:(l.length+1) * 48<=140737488355328:=by omega
      have hm2:l.length+1<=maxLen:=by simp only[maxLen];omega
      rcases l with _|⟨b,l⟩
      ·rw[rowV,List.isEmpty_nil,if_pos rfl]at t6
       repeat first|refine Qb ?_;simp only[go_sem,seval,aopR,Qay,f1,f3,f4,t6,k1,k2]|refine hK _ ?_;clear hK
       (try (refine hK _ ?_;rw[Qp]))
       exact⟨_,Y.length+1,by rw[List.getElem?_append_right (by omega),Nat.add_sub_cancel_left];rfl,t0,t1,rfl,rfl⟩
      ·rw[rowV,List.isEmpty_cons,if_neg (by simp)]at t6
       have y1:∀Z:AH,(Y++Z)[k]? = some (.cells 46 3 (vs G.goal (b::l))):=fun Z=>by rw[List.getElem?_append_left (Qe (hY (by simp)))];exact hY (by simp)
       have y2:∀(Z:AH) x,(Y++Z).set k x=Y.set k x++Z:=fun Z x=>List.set_append_left _ _ (Qe (hY (by simp)))
       rw[List.length_cons]at hm hm2
       repeat first|refine Qb ?_;simp only[go_sem,seval,aopR,Z6,f1,f4,f6,t6,k1,k2,y1,y2,evl,hm,hm2]|refine hK _ ?_;clear hK
       (try (refine hK _ ?_;rw[Qp]))
       exact⟨_,Y.length+1,by rw[List.getElem?_append_right (by rw[List.length_set];omega),List.length_set,Nat.add_sub_cancel_left,ev];rfl,t0,t1,rfl,rfl⟩
  ·rcases l with _|⟨a,l⟩
   ·rw[rowV,List.isEmpty_nil,if_pos rfl]at t6
    by_cases hf:most<=([]:List G).length
    ·rw[XL,if_pos hf]at hR2
     subst hR2
     have z1:(0:Int)>=((most:Nat):Int):=by rw[List.length_nil]at hf;omega
     repeat first|(first|refine FunW.QtJ (cf _ _ _) ?_|refine Qb ?_);simp only[go_sem,seval,t0,t1,t6,z1]|refine hK _ ?_;clear hK
     exact QB HI all _ _ _ (QK _ (.keep (.v _))) ⟨rfl,s2,rfl⟩
    ·have z1:¬(0:Int)>=((most:Nat):Int):=by rw[List.length_nil]at hf;omega
     repeat first|refine Qb ?_;simp only[go_sem,seval,t1,t6,z1]|refine hK _ ?_;clear hK
     (try (refine hK _ ?_;rw[Qp]))
     exact⟨hf,t0,t1,t6,rfl,rfl⟩
   ·rw[rowV,List.isEmpty_cons,if_neg (by simp)]at t6
    have y0:=hY (by simp)
    by_cases hf:most<=(a::l).length
    ·rw[XL,if_pos hf]at hR2
     subst hR2
     have z1:(((l.length+1:Nat)):Int)>=((most:Nat):Int):=by rw[List.length_cons]at hf;omega
     repeat first|(first|refine FunW.QtJ (cf _ _ _) ?_|refine Qb ?_);simp only[go_sem,seval,f4,t0,t1,t6,y0,z1]|refine hK _ ?_;clear hK
     exact QB HI all _ _ _ (QK _ (.keep (.v _))) ⟨rfl,s2,rfl⟩
    ·have z1:¬(((l.length+1:Nat)):Int)>=((most:Nat):Int):=by rw[List.length_cons]at hf;omega
     repeat first|refine Qb ?_;simp only[go_sem,seval,f4,t1,t6,y0,z1]|refine hK _ ?_;clear hK
     (try (refine hK _ ?_;rw[Qp]))
     exact⟨hf,t0,t1,t6,rfl,rfl⟩
 ·rw[hI]
  exact⟨[],q,[],0,rfl,hW,by simp,⟨_,Nat.le_refl _,hR⟩,fun h=>absurd rfl h,rfl,rfl,by rw[rowV,List.isEmpty_nil,if_pos rfl];show AV.sl 3 [] (some (rh h i g all q 0 0).length)=_;rw[YB],rfl⟩
end
section
variable{all:List Tk}{i g:Nat}(hN:all.length<=1000000)(hD:TkOk all)(hX:TxOk all)
include hN hD hX
theorem Qmb{q:PS}(hW:Wst all q):R2 Tryz.prog 94 [.ptr i 0 0] i g all q (.tup [(Qai X5 q).v.atom,.b ((Qai X5 q).e==0)]) (Qai X5 q).s (Qai X5 q).pos (Qai X5 q).e :=
 Qle (px:=Xk) (Nn:=q.toks.length) (fun s _ hWs=>Qep i g hN hD hX hWs) Qdu (Ze.less (Nat.zero_le _)) (Kp.termT_ps trivial) hN (Nat.lt_succ_self _) hW
theorem QgU(pre:Nat)(hpre:pre<=100){q:PS}(hW:Wst all q){h:AH}(HI:IG h i g):Qj Tryz.prog 78 [.ptr i 0 0,.i (pre:Nat)] (rh h i g all q 0 0) (RwC h i g all G.atom 105 2 (XB pre q)):=by
 have f1:=YB h i g all
 have f3:=QaT h i g all
 have f4:=QcO h i g all
 have f5:=ZL h i g all
 have f6:=QaS h i g all
 have e44:(ByteArray.toList {data:=#[44]})=XG:=by rw[Lib.toList_data];rfl
 generalize hR:XB pre q=R
 unfold XB at hR
 refine Qa Tryz.func78 rfl Tryz.call78 Tryz.ntmps78 Tryz.results78 (by simp) ?_
 repeat first|refine Qb ?_;simp only[go_sem,seval]|refine hK _ ?_;clear hK
 refine QdB 6 2 rfl ?_
 obtain⟨I,hI⟩:∃I:Nat->AS->Prop,I=fun m' s=>∃(l:List G) (s2:PS) (Y:AH) (k:Nat),m'=s2.toks.length/\Wst all s2/\l.length<=100/\(∃k,s2.toks.length+1<=k/\XS pre k l s2=R)/\(l≠[]->Y[k]? = some (.cells 105 2 (vs G.atom l)))/\s.tm 0 = .ptr i 0 0/\s.tm 1 = .i (pre:Nat)/\s.tm 6=rowV 2 h.length (h.length+(k+1)) l/\s.h=rh h i g all s2 0 0++(.dead::Y):=⟨_,rfl⟩;refine Qi I ?_ (m:=q.toks.length) ?_
 ·intro m' s hs;rw[hI]at hs;obtain⟨tm,hp⟩:=s;dsimp only at hs;obtain⟨l,s2,Y,k,rfl,hW2,hl100,⟨j,hj,hR2⟩,hY,t0,t1,t6,rfl⟩:=hs
  obtain⟨j,rfl⟩:∃j',j=j'+1:=⟨j - 1,by omega⟩
  have ct:=Qd2 hW2 HI
  have cf:=Qbw hW2 HI
  have e1:=Tk.QtK s2.tk
  have e2:=Tk.QtL s2.tk
  have wp0:IntKind.i64.wrap (((pre:Nat):Int)+0)=((pre:Nat):Int):=by rw[Int.add_zero,QO (by omega)]
  have wp1:∀n:Nat,n<=100->IntKind.i64.wrap (((pre:Nat):Int)+((n+1:Nat):Int))=((pre+(n+1):Nat):Int):=fun n hn=>by rw[QO (by omega)];omega
  iterate 4 (try (first|((first|(with_reducible (first|refine Qf fun K E hK hE=>?_|refine FunW.QtJ (ct _) ?_)));simp only[go_sem,seval,t0,e1,e2])|(with_reducible refine QI ?_)|((with_reducible refine hK _ ?_);clear hK)))
  refine Qw (fun s=>(¬4<=pre+l.length)/\s.tm 0 = .ptr i 0 0/\s.tm 1 = .i (pre:Nat)/\s.tm 6=rowV 2 h.length (h.length+(k+1)) l/\s.tm 7 = .i s2.tk.pos/\s.h=rh h i g all s2 0 0++(.dead::Y)) ?_ ?_
  ·rintro⟨tm,hp⟩ ⟨hfull,t0,t1,t6,t7,rfl⟩
   dsimp only at t0 t1 t6 t7
   rw[XS,if_neg hfull]at hR2
   have ce:=(Qmb hN hD hX hW2).app HI
   have his:=QmR Qdu s2
   cases hp:X3 Xk s2 with
   |err x c =>
    rw[hp]at hR2 his
    have hRR:R = .err x c:=hR2.symm
    subst hRR
    obtain⟨i1,i2,i3⟩:=his
    have z:((Qai X5 s2).e==0)=false:=by rw[i2];simpa using i3
    rw[z,i1,i2]at ce
    generalize Qai X5 s2=r at *
    have k1:r.v.atom.isAgg=true:=rfl
    have k2:=G.Qt7 r.v
    repeat first|(first|refine FunW.QtJ (ce _) ?_|refine Qb ?_);simp only[go_sem,seval,f1,f4,f6,t0,k1,k2]|refine hK _ ?_;clear hK
    exact QB HI all _ _ _ (QK _ (.keep (.v _))) ⟨rfl,r.s,rfl⟩
   |ok a s3 =>
    rw[hp]at hR2 his
    have hq3:=RR.okE his
    obtain⟨g1,g2⟩:=QlB hN hD hX hW2 hp
    have hW3:Wst all s3:=Kp.Ps.ok (n:=wdOf all) (Kp.atom_ps trivial (Kp.termT_ps trivial)) hW2 hp
    have hl3:=((Qd9 (Ze.less (Nat.zero_le _))) s2 hW2.wf a s3 hp).2
    have cR:=Qaw a g2 g1
    have k1:a.atom.isAgg=true:=rfl
    have k2:=G.Qt7 a
    rw[hq3]at ce
    have hR3:(if QA a=false then PR.err s2.tk.pos 6 else if s3.is XG=true then XS pre j (l++[a]) s3.nx else .ok (l++[a]) s3)=R:=hR2
    cases hc:QA a with
    |false =>
     rw[if_pos hc]at hR3
     subst hR3
     rw[hc]at cR
     have cf3:=Qbw hW3 HI
     repeat first|(first|refine Qd cR ?_|refine FunW.QtJ (ce _) ?_|refine FunW.QtJ (cf3 _ _ _) ?_|refine Qb ?_);simp only[go_sem,seval,f1,f4,f6,t0,t7,k1,k2]|refine hK _ ?_;clear hK
     exact QB HI all _ _ _ (QK _ (.keep (.v _))) ⟨rfl,s3,rfl⟩
    |true =>
     rw[if_neg (by rw[hc];simp)]at hR3
     rw[hc]at cR
     iterate 18 (try (first|((first|(with_reducible (first|refine Qf fun K E hK hE=>?_|refine Qd cR ?_|refine FunW.QtJ (ce _) ?_)));simp only[go_sem,seval,f1,f4,f6,t0,k1,k2])|(with_reducible (first|refine Qo fun K hK=>?_|refine QR ?_|refine Qh ?_))|((with_reducible refine hK _ ?_);clear hK)|(refine Qk rfl ?_;simp only[↓reduceIte,QuG])))
     refine Qw (fun s=>∃(Z:AH) (k:Nat),Z[k]? = some (.cells 105 2 (vs G.atom (l++[a])))/\s.tm 0 = .ptr i 0 0/\s.tm 1 = .i (pre:Nat)/\s.tm 6 = .arr (h.length+(k+1)) 0 (l.length+1)/\s.h=rh h i g all s3 0 0++(.dead::Z)) ?_ ?_
     ·rintro⟨tm,hp⟩ ⟨Z,k,hZ,t0,t1,t6,rfl⟩
      dsimp only at t0 t1 t6
      have c4:=fun L=>risL hW3 HI L {data:=#[44]}
      rw[e44]at c4
      cases hcm:s3.is XG with
      |true =>
       rw[if_pos hcm]at hR3
       rw[hcm]at c4
       have hln:=QW hW3.wf (by rw[QtM hcm];decide)
       have cx:=Qax hN hW3 HI
       repeat first|(first|refine FunW.QtJ (c4 _) ?_|refine FunW.QtJ (cx _) ?_|refine Qb ?_);simp only[go_sem,seval,t0]|refine hK _ ?_;clear hK
       refine Qv.mk (m':=s3.nx.toks.length) (by omega) ?_
       rw[hI]
       refine⟨l++[a],s3.nx,Z,k,rfl,hW3.nx,by simp;omega,⟨j,by omega,hR3⟩,fun _=>hZ,t0,t1,?_,rfl⟩
       rw[rowV,if_neg (by simp),List.length_append]
       exact t6
      |false =>
       rw[if_neg (by rw[hcm];simp)]at hR3
       subst hR3
       rw[hcm]at c4
       repeat first|(first|refine FunW.QtJ (c4 _) ?_|refine Qb ?_);simp only[go_sem,seval,t0,t6]|refine hK _ ?_;clear hK
       exact .inr ⟨.dead::Z,k+1,by rw[List.length_append];rfl,rfl,hZ⟩
     ·have ev:vs G.atom (l++[a])=vs G.atom l++[a.atom]:=by rw[QbD];rfl
      have evl:(vs G.atom l).length=l.length:=QS _ _
      have hm:(l.length+1) * 40<=140737488355328:=by omega
      have hm2:l.length+1<=maxLen:=by simp only[maxLen];omega
      rcases l with _|⟨b,l⟩
      ·rw[rowV,List.isEmpty_nil,if_pos rfl]at t6
       repeat first|refine Qb ?_;simp only[go_sem,seval,aopR,Qay,f1,f3,f4,t6,k1,k2]|refine hK _ ?_;clear hK
       (try (refine hK _ ?_;rw[Qp]))
       exact⟨_,Y.length+1,by rw[List.getElem?_append_right (by omega),Nat.add_sub_cancel_left];rfl,t0,t1,rfl,rfl⟩
      ·rw[rowV,List.isEmpty_cons,if_neg (by simp)]at t6
       have y1:∀Z:AH,(Y++Z)[k]? = some (.cells 105 2 (vs G.atom (b::l))):=fun Z=>by rw[List.getElem?_append_left (Qe (hY (by simp)))];exact hY (by simp)
       have y2:∀(Z:AH) x,(Y++Z).set k x=Y.set k x++Z:=fun Z x=>List.set_append_left _ _ (Qe (hY (by simp)))
       rw[List.length_cons]at hm hm2
       repeat first|refine Qb ?_;simp only[go_sem,seval,aopR,Z6,f1,f4,f6,t6,k1,k2,y1,y2,evl,hm,hm2]|refine hK _ ?_;clear hK
       (try (refine hK _ ?_;rw[Qp]))
       exact⟨_,Y.length+1,by rw[List.getElem?_append_right (by rw[List.length_set];omega),List.length_set,Nat.add_sub_cancel_left,ev];rfl,t0,t1,rfl,rfl⟩
  ·rcases l with _|⟨a,l⟩
   ·rw[rowV,List.isEmpty_nil,if_pos rfl]at t6
    by_cases hf:4<=pre+([]:List G).length
    ·rw[XS,if_pos hf]at hR2
     subst hR2
     have z1:((pre:Nat):Int)>=4:=by rw[List.length_nil]at hf;omega
     repeat first|(first|refine FunW.QtJ (cf _ _ _) ?_|refine Qb ?_);simp only[go_sem,seval,t0,t1,t6,z1,wp0]|refine hK _ ?_;clear hK
     exact QB HI all _ _ _ (QK _ (.keep (.v _))) ⟨rfl,s2,rfl⟩
    ·have z1:¬((pre:Nat):Int)>=4:=by rw[List.length_nil]at hf;omega
     repeat first|refine Qb ?_;simp only[go_sem,seval,t1,t6,z1,wp0]|refine hK _ ?_;clear hK
     (try (refine hK _ ?_;rw[Qp]))
     exact⟨hf,t0,t1,t6,rfl,rfl⟩
   ·rw[rowV,List.isEmpty_cons,if_neg (by simp)]at t6
    have y0:=hY (by simp)
    by_cases hf:4<=pre+(a::l).length
    ·rw[XS,if_pos hf]at hR2
     subst hR2
     have z1:((pre+(l.length+1):Nat):Int)>=4:=by rw[List.length_cons]at hf;omega
     repeat first|(first|refine FunW.QtJ (cf _ _ _) ?_|refine Qb ?_);simp only[go_sem,seval,f4,t0,t1,t6,y0,z1,wp1 l.length (by rw[QuP]at hl100;omega)]|refine hK _ ?_;clear hK
     exact QB HI all _ _ _ (QK _ (.keep (.v _))) ⟨rfl,s2,rfl⟩
    ·have z1:¬((pre+(l.length+1):Nat):Int)>=4:=by rw[List.length_cons]at hf;omega
     repeat first|refine Qb ?_;simp only[go_sem,seval,f4,t1,t6,y0,z1,wp1 l.length (by rw[QuP]at hl100;omega)]|refine hK _ ?_;clear hK
     (try (refine hK _ ?_;rw[Qp]))
     exact⟨hf,t0,t1,t6,rfl,rfl⟩
 ·rw[hI]
  exact⟨[],q,[],0,rfl,hW,by simp,⟨_,Nat.le_refl _,hR⟩,fun h=>absurd rfl h,rfl,rfl,by rw[rowV,List.isEmpty_nil,if_pos rfl];show AV.sl 2 [] (some (rh h i g all q 0 0).length)=_;rw[YB],rfl⟩
end
end Go.Proofs.YticgcpebdldbgaaGreatDoor.Ab
set_option maxRecDepth 4000
namespace Go.Proofs.YticgcpebdldbgaaGreatDoor.Ab
open Go.Proofs
mutual
theorem T.Qun:∀t:T,t.QtP=true->t.nds=t.size
 | .mk k i n l,h=>by
  simp only[T.QtP]at h
  simp only[T.nds,T.size]
  split at h
  ·rename_i k0
   simp only[Bool.and_eq_true,List.isEmpty_iff]at h
   rw[if_neg (by omega),h.2];rfl
  ·split at h
   ·rename_i k0 k1
    simp only[Bool.and_eq_true,List.isEmpty_iff]at h
    rw[if_neg (by omega),h.2];rfl
   ·split at h
    ·rename_i k2
     split at h
     ·cases h
     ·split at h
      ·cases h
      ·rw[if_pos k2,Qcy l h]
    ·cases h
theorem Qcy:∀l:List T,YA l=true->ndsL l=sizes l
 |[],_=>rfl
 |t::l,h=>by
  simp only[YA,Bool.and_eq_true]at h
  simp only[ndsL,sizes]
  rw[T.Qun t h.1,Qcy l h.2]
end
structure RlPre (r:Rl):Prop where
 ka:atomsOk r.keep
 ra:atomsOk r.remove
 ga:goalsOk r.guard
 ba:goalsOk r.body
 h1:1<=r.keep.length+r.remove.length
 h4:r.keep.length+r.remove.length<=4
 g12:r.guard.length<=12
 b12:r.body.length<=12
theorem QfK{name:ByteArray}{keep remove:List G}{s:PS}{r:Rl}{s2:PS}(h:YH name keep remove s = .ok r s2)(hk:atomsOk keep)(hr:atomsOk remove)(h1:1<=keep.length+remove.length)(h4:keep.length+remove.length<=4):RlPre r:=by
 have hb:∀b:List G,goalsOk b/\b.length<=12->goalsOk (match b with|[x]=>if x.op=1 then[]else b|_=>b)/\(match b with|[x]=>if x.op=1 then[]else b|_=>b).length<=12:=fun b hb=>by
  split
  ·split
   ·exact⟨fun _ h=>(List.not_mem_nil h).elim,by decide⟩
   ·exact hb
  ·exact hb
 unfold YH at h
 simp only at h
 obtain⟨b,s1,e1,h⟩:=bind_ok h
 have g1:=Qam e1
 split at h
 ·obtain⟨b2,s3,e2,h⟩:=bind_ok h
  have g2:=Qam e2
  obtain⟨u,s4,e3,h⟩:=bind_ok h
  cases h
  exact⟨hk,hr,g1.1,(hb b2 g2).1,h1,h4,g1.2,(hb b2 g2).2⟩
 ·obtain⟨u,s4,e3,h⟩:=bind_ok h
  cases h
  exact⟨hk,hr,fun _ h=>(List.not_mem_nil h).elim,(hb b g1).1,h1,h4,Nat.zero_le _,(hb b g1).2⟩
theorem Qid{name:ByteArray}{s:PS}{r:Rl}{s2:PS}(h:Qi1 name s = .ok r s2):RlPre r:=by
 rw[Qi1]at h
 obtain⟨f,s1,e1,h⟩:=bind_ok h
 obtain⟨f1,f2,f3⟩:=Qao e1
 have no:atomsOk []:=fun _ h=>(List.not_mem_nil h).elim
 rw[Ql7]at h
 split at h
 ·exact QfK h no f1 (by simp;omega) (by simp;omega)
 split at h
 ·exact QfK h f1 no (by simp;omega) (by simp;omega)
 split at h
 ·obtain⟨rem,s3,e2,h⟩:=bind_ok h
  obtain⟨r1,r2,r3⟩:=Qao e2
  obtain⟨u,s4,e3,h⟩:=bind_ok h
  exact QfK h f1 r1 (by omega) (by omega)
 ·cases h
theorem QgL{s:PS}{r:Rl}{s2:PS}(h:Ya s = .ok r s2):RlPre r:=by
 rw[Qau]at h
 split at h
 ·obtain⟨x,s1,e1,h⟩:=bind_ok h
  exact Qid h
 ·exact Qid h
def rowW(id:Nat)(l:List G):AV:=if l.isEmpty then .v (.slice none 0 0)else .arr id 0 l.length
def blkW(vw:G->AV)(ty w:Nat)(l:List G):AB:=if l.isEmpty then .dead else .cells ty w (vs vw l)
abbrev blkA(l:List G):AB:=blkW G.atom 105 2 l
abbrev blkG(l:List G):AB:=blkW G.goal 46 3 l
def Q7(b:Nat)(r:Rl):AV:=.agg [.v (.string r.name),rowW b r.keep,rowW (b+1) r.remove,rowW (b+2) r.guard,rowW (b+3) r.body,.i 0]
def layW(r:Rl):AH:=[blkA r.keep,blkA r.remove,blkG r.guard,blkG r.body]
def RowP(Y:AH)(b:Nat)(vw:G->AV)(ty w:Nat)(l:List G)(v:AV)(k:Nat):Prop:=(l=[]/\v = .v (.slice none 0 0))\/(l≠[]/\v = .arr (b+k) 0 l.length/\Y[k]? = some (.cells ty w (vs vw l)))
def vwOk(vw:G->AV)(w:Nat):Prop:=(∀a,(vw a).cells.length=w)/\∀n a,∀x∈(vw a).cells,Below n x
theorem Qa9:vwOk G.atom 2:=⟨fun _=>rfl,fun n a x hx=>by
 rw[G.Qt7]at hx
 simp only[List.mem_cons,List.not_mem_nil,or_false]at hx
 rcases hx with rfl|rfl
 ·exact .v _
 ·exact Qak _ _⟩
theorem Qbi:vwOk G.goal 3:=⟨fun _=>rfl,fun n a x hx=>by
 rw[G.Qt6]at hx
 simp only[List.mem_cons,List.not_mem_nil,or_false]at hx
 rcases hx with rfl|rfl|rfl
 ·exact .v _
 ·exact .v _
 ·exact Qak _ _⟩
theorem Qeo{n:Nat}{τ:Nat->Nat}{A N h2:AH}(hn:A.length=n){vw:G->AV}{ty w:Nat}(hv:vwOk vw w){l:List G}{v:AV}{k i:Nat}(h:RowP N n vw ty w l v k)(hi:τ i=n+k) :
  blkW vw ty w l = .dead\/∃ty' s xs ys,blkW vw ty w l = .cells ty' s ys/\(A++N)[τ i]? = some (.cells ty' s xs)/\(∀y∈ys,y.cells.length=s)/\(flat ys).length<=(flat xs).length/\∀(j:Nat) a a',(flat xs)[j]? = some a->(flat ys)[j]? = some a'->Pk n τ h2 a a':=by
 rcases h with⟨rfl,_⟩|⟨hl,_,hk⟩
 ·exact .inl rfl
 ·refine .inr ⟨ty,w,vs vw l,vs vw l,?_,?_,fun y hy=>?_,Nat.le_refl _,fun j a a' e1 e2=>?_⟩
  ·cases l with
   |nil=>exact absurd rfl hl
   |cons a l=>rfl
  ·rw[hi,List.getElem?_append_right (by omega),hn,Nat.add_sub_cancel_left];exact hk
  ·obtain⟨x,_,rfl⟩:=List.mem_map.1 hy;exact hv.1 x
  ·rw[e1]at e2
   cases e2
   refine .keep ?_
   obtain⟨x,hx,hxa⟩:=List.mem_flatMap.1 (List.mem_of_getElem? e1)
   obtain⟨y,_,rfl⟩:=List.mem_map.1 hx
   exact hv.2 _ y a hxa
theorem rowP_val{n:Nat}{τ:Nat->Nat}{N h2:AH}{vw:G->AV}{ty w:Nat}{l:List G}{v:AV}{k i:Nat}(h:RowP N n vw ty w l v k)(hi:τ i=n+k)(h1:n<=i)(h3:i<h2.length):Pk n τ h2 v (rowW i l):=by
 rcases h with⟨rfl,rfl⟩|⟨hl,rfl,hk⟩
 ·exact .keep (.v _)
 ·have e:rowW i l = .arr i 0 l.length:=by
   cases l with
   |nil=>exact absurd rfl hl
   |cons a l=>rfl
  rw[e]
  exact .arr hi.symm h1 h3
def tau4(n k1 k2 k3 k4:Nat):Nat->Nat:=fun i=>if i<n then i else n+(if i=n then k1 else if i=n+1 then k2 else if i=n+2 then k3 else k4)
theorem QsX{A N:AH}{n:Nat}(hn:A.length=n)(hb:∀b∈A,b.Below n){r:Rl}{vk vr vg vb:AV}{k1 k2 k3 k4:Nat}(hne:k1≠k2/\k1≠k3/\k1≠k4/\k2≠k3/\k2≠k4/\k3≠k4)
  (h1:RowP N n G.atom 105 2 r.keep vk k1) (h2:RowP N n G.atom 105 2 r.remove vr k2) (h3:RowP N n G.goal 46 3 r.guard vg k3) (h4:RowP N n G.goal 46 3 r.body vb k4) :
  Pack n (tau4 n k1 k2 k3 k4) (A++N) (A++layW r)/\Pk n (tau4 n k1 k2 k3 k4) (A++layW r) (.agg [.v (.string r.name),vk,vr,vg,vb,.i 0]) (Q7 n r):=by
 have hl:(A++layW r).length=n+4:=by rw[List.length_append,hn];rfl
 have t0:tau4 n k1 k2 k3 k4 n=n+k1:=by unfold tau4;rw[if_neg (by omega),if_pos rfl]
 have t1:tau4 n k1 k2 k3 k4 (n+1)=n+k2:=by unfold tau4;rw[if_neg (by omega),if_neg (by omega),if_pos rfl]
 have t2:tau4 n k1 k2 k3 k4 (n+2)=n+k3:=by unfold tau4;rw[if_neg (by omega),if_neg (by omega),if_neg (by omega),if_pos rfl]
 have t3:tau4 n k1 k2 k3 k4 (n+3)=n+k4:=by unfold tau4;rw[if_neg (by omega),if_neg (by omega),if_neg (by omega),if_neg (by omega)]
 have four:∀i,n<=i->i<(A++layW r).length->i=n\/i=n+1\/i=n+2\/i=n+3:=fun i q1 q2=>by omega
 refine⟨⟨by omega,by rw[List.length_append];omega,fun i hi=>if_pos hi,fun i hi=>?_,fun i b hi h=>?_,fun i q1 q2=>?_,fun i j q1 q2 q3 q4 he=>?_,fun i b q1 q2=>?_⟩,.agg rfl fun j a a' e1 e2=>?_⟩
 ·rw[List.getElem?_append_left (by omega),List.getElem?_append_left (by omega)]
 ·rw[List.getElem?_append_left (by omega)]at h
  exact hb b (List.mem_of_getElem? h)
 ·rcases four i q1 q2 with rfl|rfl|rfl|rfl
  ·omega
  ·omega
  ·omega
  ·omega
 ·rcases four i q1 q2 with rfl|rfl|rfl|rfl <;> rcases four j q3 q4 with rfl|rfl|rfl|rfl <;> simp only[t0,t1,t2,t3]at he <;> omega
 ·have hlt:=Qe q2
  rcases four i q1 hlt with rfl|rfl|rfl|rfl
  ·rw[List.getElem?_append_right (by omega),hn,Nat.sub_self]at q2
   cases q2
   exact Qeo hn Qa9 h1 t0
  ·rw[List.getElem?_append_right (by omega),hn,Nat.add_sub_cancel_left]at q2
   cases q2
   exact Qeo hn Qa9 h2 t1
  ·rw[List.getElem?_append_right (by omega),hn,Nat.add_sub_cancel_left]at q2
   cases q2
   exact Qeo hn Qbi h3 t2
  ·rw[List.getElem?_append_right (by omega),hn,Nat.add_sub_cancel_left]at q2
   cases q2
   exact Qeo hn Qbi h4 t3
 ·match j,e1,e2 with
  |0,e1,e2=>cases e1;cases e2;exact .keep (.v _)
  |1,e1,e2=>cases e1;cases e2;exact rowP_val h1 t0 (by omega) (by omega)
  |2,e1,e2=>cases e1;cases e2;exact rowP_val h2 t1 (by omega) (by omega)
  |3,e1,e2=>cases e1;cases e2;exact rowP_val h3 t2 (by omega) (by omega)
  |4,e1,e2=>cases e1;cases e2;exact rowP_val h4 t3 (by omega) (by omega)
  |5,e1,e2=>cases e1;cases e2;exact .keep (.v _)
  |j+6,e1,e2=>simp at e1
def c1ok(y:AV):Prop:=y.cells=[y]/\y.isAgg=false/\y.cell1=true
def errW(v:AV):Prop:=∃x a b c d,v = .agg [.v (.string x),a,b,c,d,.i 0]/\c1ok a/\c1ok b/\c1ok c/\c1ok d
def PtQ(h:AH)(i g:Nat)(all:List Tk):PR Rl->AOut->AH->Prop
 | .ok r s,o,h'=>o = .ret (.tup [Q7 h.length r,.b true])/\h'=rh h i g all s 0 0++layW r
 | .err p e,o,h'=>∃v s Y,errW v/\o = .ret (.tup [v,.b false])/\h'=rh h i g all s p e++Y
def PtC(h:AH)(i g:Nat)(all:List Tk):PR Rl->AOut->AH->Prop
 | .ok r s,o,h'=>∃Y vk vr vg vb k1 k2 k3 k4,(k1≠k2/\k1≠k3/\k1≠k4/\k2≠k3/\k2≠k4/\k3≠k4)/\RowP Y h.length G.atom 105 2 r.keep vk k1/\RowP Y h.length G.atom 105 2 r.remove vr k2/\RowP Y h.length G.goal 46 3 r.guard vg k3/\RowP Y h.length G.goal 46 3 r.body vb k4 /\
   o = .ret (.tup [.agg [.v (.string r.name),vk,vr,vg,vb,.i 0],.b true])/\h'=rh h i g all s 0 0++Y
 | .err p e,o,h'=>∃v s Y,errW v/\o = .ret (.tup [v,.b false])/\h'=rh h i g all s p e++Y
theorem QpA{f:FuncId}{args:List AV}{h:AH}{i g:Nat}{all:List Tk}{s:PS}(HI:IG h i g){r:PR Rl}(C:Qj Tryz.prog f args (rh h i g all s 0 0) (PtC h i g all r)):Qj Tryz.prog f args (rh h i g all s 0 0) (PtQ h i g all r):=by
 refine Zk C fun hb0 o h' hQ=>?_
 cases r with
 |err p e=>exact .inl hQ
 |ok r s2 =>
  rw[YB]at hb0 ⊢
  obtain⟨Y,vk,vr,vg,vb,k1,k2,k3,k4,hne,h1,h2,h3,h4,rfl,rfl⟩:=hQ
  obtain⟨K,hp⟩:=QsX (YB h i g all s2 0 0) (Qqv HI all s s2 hb0) hne h1 h2 h3 h4
  exact .inr ⟨_,.tup [Q7 h.length r,.b true],_,_,rfl,K,.tup rfl fun j a a' e1 e2=>(by
   match j,e1,e2 with
   |0,e1,e2=>cases e1;cases e2;exact hp
   |1,e1,e2=>cases e1;cases e2;exact .keep (.v _)
   |j+2,e1,e2=>simp at e1),rfl,rfl⟩
end Go.Proofs.YticgcpebdldbgaaGreatDoor.Ab
set_option maxRecDepth 4000
namespace Go.Proofs.YticgcpebdldbgaaGreatDoor.Ab
open Go.Proofs
abbrev cR0:AB:=.cells 40 6 [.agg [.v (.string {data:=#[]}),.v (.slice none 0 0),.v (.slice none 0 0),.v (.slice none 0 0),.v (.slice none 0 0),.i 0]]
abbrev cRl(x:ByteArray)(k r g b:AV):AB:=.cells 40 6 [.agg [.v (.string x),k,r,g,b,.i 0]]
def RowY(Y:AH)(b:Nat)(vw:G->AV)(ty w:Nat)(l:List G)(v:AV)(k:Nat):Prop:=(l=[]/\v=nilV)\/(l≠[]/\v = .arr (b+(k+3)) 0 l.length/\Y[k]? = some (.cells ty w (vs vw l)))
theorem RowY.up{Y:AH}{b:Nat}{vw:G->AV}{ty w:Nat}{l:List G}{v:AV}{k:Nat}(h:RowY Y b vw ty w l v k)(A B C:AB):RowP (A::B::C::Y) b vw ty w l v (k+3):=h
theorem RowY.ext{Y:AH}{b:Nat}{vw:G->AV}{ty w:Nat}{l:List G}{v:AV}{k:Nat}(h:RowY Y b vw ty w l v k)(Z:AH):RowY (Y++Z) b vw ty w l v k:=by
 rcases h with h|⟨h1,h2,h3⟩
 ·exact .inl h
 ·exact .inr ⟨h1,h2,by rw[List.getElem?_append_left (Qe h3)];exact h3⟩
theorem RowY.cell{Y:AH}{b:Nat}{vw:G->AV}{ty w:Nat}{l:List G}{v:AV}{k:Nat}(h:RowY Y b vw ty w l v k):v.cells=[v]/\v.isAgg=false/\v.cell1=true:=by
 rcases h with⟨_,rfl⟩|⟨_,rfl,_⟩
 ·exact⟨rfl,rfl,rfl⟩
 ·exact⟨rfl,rfl,rfl⟩
theorem RowY.nil(Y:AH)(b:Nat)(vw:G->AV)(ty w k:Nat):RowY Y b vw ty w [] nilV k:=.inl ⟨rfl,rfl⟩
theorem RowY.new(Y:AH)(b:Nat)(vw:G->AV)(ty w:Nat){l:List G}(hl:l≠[])(Z:AH):RowY (Y++(.cells ty w (vs vw l)::Z)) b vw ty w l (.arr (b+(Y.length+3)) 0 l.length) Y.length:=.inr ⟨hl,rfl,by rw[List.getElem?_append_right (Nat.le_refl _),Nat.sub_self];rfl⟩
def QmU(b:List G):List G:=match b with|[y]=>if y.op=1 then[]else b|_=>b
def tFin(x:ByteArray)(keep remove g b:List G)(s:PS):PR Rl:=(Xl sDot s).bind fun _ s=>.ok ⟨x,keep,remove,g,QmU b,0⟩ s
theorem Qpv(x:ByteArray)(keep remove:List G)(s:PS):YH x keep remove s=(Xp 12 s).bind fun b s=>if s.is sBar then(Xp 12 s.nx).bind fun b2 s=>tFin x keep remove b b2 s else tFin x keep remove [] b s:=rfl
theorem QiC{most:Nat}{s:PS}{a:List G}{s2:PS}(h:Xp most s = .ok a s2):a≠[]:=by
 have:=(QaH most _ [] s a s2 (fun _ h=>(List.not_mem_nil h).elim) h).2.2
 intro e
 rw[e]at this
 simp at this
theorem Qbf(x:ByteArray)(a b c d:AV)(ha:c1ok a)(hb:c1ok b)(hc:c1ok c)(hd:c1ok d):errW (.agg [.v (.string x),a,b,c,d,.i 0]):=⟨x,a,b,c,d,rfl,ha,hb,hc,hd⟩
section
variable{all:List Tk}{i g:Nat}(hN:all.length<=1000000)(hD:TkOk all)(hX:TxOk all)
include hN hD hX
section
variable{q:PS}(hW:Wst all q){h:AH}(HI:IG h i g)(L:AH)
include hW HI
theorem Qja(pre:Nat)(hpre:pre<=100){l:List G}{s2:PS}(e:XB pre q = .ok l s2){k:Nat}(hk:k=h.length+L.length):Qj Tryz.prog 78 [.ptr i 0 0,.i (pre:Nat)] (rh h i g all q 0 0++L) fun o h'=>o = .ret (.tup [.arr k 0 l.length,.b true])/\h'=rh h i g all s2 0 0++(L++[.cells 105 2 (vs G.atom l)]):=by
 have:=Qeq (HI.app L) Qa9.1 Qa9.2 (QgU hN hD hX pre hpre hW (HI.app L))
 rw[e,Qb1 HI]at this
 subst hk
 exact this.mono fun o h' q=>by simpa only[RwQ,Qb1 HI,Qvt,List.append_assoc]using q
theorem QgT(pre:Nat)(hpre:pre<=100){p c:Int}(e:XB pre q = .err p c):Qj Tryz.prog 78 [.ptr i 0 0,.i (pre:Nat)] (rh h i g all q 0 0++L) fun o h'=>o = .ret (.tup [.v (.slice none 0 0),.b false])/\∃s:PS,h'=rh h i g all s p c++L:=by
 have:=Qeq (HI.app L) Qa9.1 Qa9.2 (QgU hN hD hX pre hpre hW (HI.app L))
 rw[e,Qb1 HI]at this
 exact this.mono fun o h' q=>by simpa only[RwQ,Qb1 HI]using q
theorem Qi9(most:Nat)(hm:most<=100){l:List G}{s2:PS}(e:Xp most q = .ok l s2){k:Nat}(hk:k=h.length+L.length):Qj Tryz.prog 32 [.ptr i 0 0,.i (most:Nat)] (rh h i g all q 0 0++L) fun o h'=>o = .ret (.tup [.arr k 0 l.length,.b true])/\h'=rh h i g all s2 0 0++(L++[.cells 46 3 (vs G.goal l)]):=by
 have:=Qeq (HI.app L) Qbi.1 Qbi.2 (QgS hN hD hX most hm hW (HI.app L))
 rw[e,Qb1 HI]at this
 subst hk
 exact this.mono fun o h' q=>by simpa only[RwQ,Qb1 HI,Qvt,List.append_assoc]using q
theorem QgR(most:Nat)(hm:most<=100){p c:Int}(e:Xp most q = .err p c):Qj Tryz.prog 32 [.ptr i 0 0,.i (most:Nat)] (rh h i g all q 0 0++L) fun o h'=>o = .ret (.tup [.v (.slice none 0 0),.b false])/\∃s:PS,h'=rh h i g all s p c++L:=by
 have:=Qeq (HI.app L) Qbi.1 Qbi.2 (QgS hN hD hX most hm hW (HI.app L))
 rw[e,Qb1 HI]at this
 exact this.mono fun o h' q=>by simpa only[RwQ,Qb1 HI]using q
end
theorem Qn1{q:PS}(hW:Wst all q){h:AH}(HI:IG h i g):Qj Tryz.prog 57 [.ptr i 0 0] (rh h i g all q 0 0) (PtC h i g all (Ya q)):=by
 have f1:=YB h i g all
 have f3:=QaT h i g all
 have f4:=QcO h i g all
 have f5:=ZL h i g all
 have f6:=QaS h i g all
 have ct:=Qd2 hW HI
 have e1:=Tk.QtK q.tk
 have e2:=Tk.QtL q.tk
 have k1:=Tk.QtK q.nx.tk
 have k2:=Tk.QtL q.nx.tk
 have e64:(ByteArray.toList {data:=#[64]})=sAt:=by rw[Lib.toList_data];rfl
 obtain⟨d1,d2⟩:=QgX hW
 obtain⟨d3,d4⟩:=QgX hW.nx
 have fi:∀L:AH,(rh h i g all q 0 0++L)[i]? = some (.cells 69 5 [.agg [.sl 3 (tks all) none,.i ((all.length - q.toks.length:Nat):Int),.sl 1 (strs q.names) (some g),.i 0,.i 0]]):=QpF HI.il HI.ig all q 0 0
 obtain⟨c,hc⟩:∃c:Bool,c=((q.tk.kind==1)&&((q.nx.tk.kind==4)&&(q.nx.tk.text.toList==ByteArray.toList {data:=#[64]}))):=⟨_,rfl⟩
 have hcs:c=true↔(q.tk.kind=1/\q.nx.is sAt=true):=by
  rw[hc,e64,PS.is];simp
 have hcase:(c=false)\/(c=true/\∃p e,Yz q = .err p e)\/(c=true/\∃x s1,Yz q = .ok x s1):=by
  cases c with
  |false=>exact .inl rfl
  |true =>
   cases hp:Yz q with
   |err p e=>exact .inr (.inl ⟨rfl,p,e,rfl⟩)
   |ok x s1=>exact .inr (.inr ⟨rfl,x,s1,rfl⟩)
 obtain⟨x,s1,hx⟩:∃(x:ByteArray) (s1:PS),(c=false->x=eB/\s1=q)/\(∀y z,c=true->Yz q = .ok y z->x=y/\s1=z.nx):=by
  cases c with
  |false=>exact⟨eB,q,fun _=>⟨rfl,rfl⟩,fun _ _ h=>(by cases h)⟩
  |true =>
   cases hp:Yz q with
   |err p e=>exact⟨eB,q,fun h=>(by cases h),fun y z _ h2=>(by cases h2)⟩
   |ok y z=>exact⟨y,z.nx,fun h=>(by cases h),fun y2 z2 _ h2=>(by cases h2;exact⟨rfl,rfl⟩)⟩
 obtain⟨N0,hN0⟩:∃N0:Prop,N0=¬(c=true/\∃p e,Yz q = .err p e):=⟨_,rfl⟩
 have hbody:N0->Ya q=Qi1 x s1/\Wst all s1:=fun hn=>by
  rw[hN0]at hn
  rcases hcase with h0|⟨h0,p,e,h1⟩|⟨h0,y,z,h1⟩
  ·obtain⟨rfl,rfl⟩:=hx.1 h0
   rw[Qau,if_neg (fun hh=>by rw[hcs.2 hh]at h0;cases h0)]
   exact⟨rfl,hW⟩
  ·exact absurd ⟨h0,p,e,h1⟩ hn
  ·obtain⟨rfl,rfl⟩:=hx.2 y z h0 h1
   rw[Qau,if_pos (hcs.1 h0),h1]
   exact⟨rfl,(Kp.Ps.ok (n:=wdOf all) (Kp.name_ps trivial) hW h1).nx⟩
 generalize hR:Ya q=R at *
 refine Qa Tryz.func57 rfl Tryz.call57 Tryz.ntmps57 Tryz.results57 (by simp) ?_
 iterate 4 (try (first|(((with_reducible refine Qf fun K E hK hE=>?_));simp only[go_sem,seval,f1,f4,f6])|((with_reducible refine hK _ ?_);clear hK)))
 refine Qw (fun s=>N0/\s.tm 0 = .ptr i 0 0/\s.tm 2 = .ptr h.length 0 0/\s.tm 4 = .ptr (h.length+1) 0 0/\s.h=rh h i g all s1 0 0++[cR0,cRl x nilV nilV nilV nilV,.cells 54 3 [q.tk.av]]) ?_ ?_
 ·rintro⟨tm,hp⟩ ⟨hn,t0,t2,t4,rfl⟩
  dsimp only at t0 t2 t4
  obtain⟨hRb,hW1⟩:=hbody hn
  rw[Qi1]at hRb
  cases hh:XB 0 s1 with
  |err p e =>
   have hRR:R = .err p e:=by rw[hRb,hh];rfl
   subst hRR
   have ch:=fun L=>QgT hN hD hX hW1 HI L 0 (by omega) hh
   simp only[Qvo]at ch
   repeat first|(first|refine FunW.retE (FunW.call (ch _)) fun r=>?_|refine Qb ?_);simp only[go_sem,seval,f3,f4,f5,t0,t2,t4]|refine hK _ ?_;clear hK
   exact .inr ⟨_,_,_,Qbf _ _ _ _ _ ⟨rfl,rfl,rfl⟩ ⟨rfl,rfl,rfl⟩ ⟨rfl,rfl,rfl⟩ ⟨rfl,rfl,rfl⟩,rfl,rfl⟩
  |ok first s2 =>
   have hRr:R=Ql7 x first s2:=by rw[hRb,hh];rfl
   have hW2:Wst all s2:=Kp.Ps.ok (n:=wdOf all) (Kp.heads_ps trivial 0) hW1 hh
   obtain⟨_,hf4,hf0⟩:=Qao hh
   have hfn:first≠[]:=List.length_pos_iff.1 hf0
   have ch:=fun(a b c:AB)=>Qja hN hD hX hW1 HI [a,b,c] 0 (by omega) hh (k:=h.length+3) rfl
   simp only[Qvo]at ch
   iterate 10 (try (first|((first|(with_reducible (first|refine Qf fun K E hK hE=>?_|refine FunW.QtJ (ch _ _ _) ?_)));simp only[go_sem,seval,t0])|(with_reducible (first|refine Qo fun K hK=>?_|refine QR ?_|refine Qh ?_))|((with_reducible refine hK _ ?_);clear hK)|(refine Qk rfl ?_;simp only[↓reduceIte,QuG])))
   refine Qw (fun s=>∃(keep remove:List G) (vk vr:AV) (k1 k2:Nat) (s3:PS) (Y:AH),(YH x keep remove s3.nx=R/\Wst all s3/\s3.tk.kind≠0)/\(k1≠k2/\(k1<Y.length\/Y.length+10<=k1)/\(k2<Y.length\/Y.length+10<=k2))/\RowY Y h.length G.atom 105 2 keep vk k1/\RowY Y h.length G.atom 105 2 remove vr k2 /\
    s.tm 0 = .ptr i 0 0/\s.tm 2 = .ptr h.length 0 0/\s.tm 4 = .ptr (h.length+1) 0 0/\s.h=rh h i g all s3 0 0++(cR0::cRl x vk vr nilV nilV :: .cells 54 3 [q.tk.av]::Y)) ?_ ?_
   ·rintro⟨tm,hp⟩ ⟨keep,remove,vk,vr,k1,k2,s3,Y,⟨hRt,hW3,hk3⟩,hkk,hvk,hvr,t0,t2,t4,rfl⟩
    dsimp only at t0 t2 t4
    obtain⟨ck1,ck2,ck3⟩:=hvk.cell
    obtain⟨cr1,cr2,cr3⟩:=hvr.cell
    have cx:=Qax hN hW3 HI
    have e12:((12:Nat):Int)=12:=rfl
    rw[Qpv]at hRt
    cases hg:Xp 12 s3.nx with
    |err p e =>
     rw[hg]at hRt
     have hRR:R = .err p e:=hRt.symm
     subst hRR
     have cg:=fun L=>QgR hN hD hX hW3.nx HI L 12 (by omega) hg
     simp only[e12]at cg
     repeat first|(first|refine FunW.QtJ (cx _) ?_|refine FunW.retE (FunW.call (cg _)) fun r=>?_|refine Qb ?_);simp only[go_sem,seval,f3,f4,f5,f6,t0,t2,t4,ck3,cr3]|refine hK _ ?_;clear hK
     exact .inr ⟨_,_,_,Qbf _ _ _ _ _ hvk.cell hvr.cell ⟨rfl,rfl,rfl⟩ ⟨rfl,rfl,rfl⟩,rfl,rfl⟩
    |ok b s4 =>
     rw[hg]at hRt
     have hRt2:(if s4.is sBar then(Xp 12 s4.nx).bind fun b2 s=>tFin x keep remove b b2 s else tFin x keep remove [] b s4)=R:=hRt
     have hW4:Wst all s4:=Kp.Ps.ok (n:=wdOf all) (Kp.goals_ps trivial 12) hW3.nx hg
     have hbn:=QiC hg
     have hb12:=(Qam hg).2
     have cg:=fun(a1 a2 a3:AB)=>Qi9 hN hD hX hW3.nx HI (a1::a2::a3::Y) 12 (by omega) hg (k:=h.length+(Y.length+3)) rfl
     simp only[e12]at cg
     iterate 6 (try (first|((first|(with_reducible (first|refine Qf fun K E hK hE=>?_|refine FunW.QtJ (cx _) ?_|refine FunW.QtJ (cg _ _ _) ?_)));simp only[go_sem,seval,f4,f6,t0,t4])|((with_reducible refine hK _ ?_);clear hK)))
     refine Qw (fun s=>s.tm 0 = .ptr i 0 0/\s.tm 2 = .ptr h.length 0 0/\s.tm 4 = .ptr (h.length+1) 0 0/\((∃(p e:Int) (s5:PS) (Z:AH) (vg vb:AV),R = .err p e/\c1ok vg/\c1ok vb/\s.tm 9 = .b false/\s.h=rh h i g all s5 p e++(cR0::cRl x vk vr vg vb :: .cells 54 3 [q.tk.av]::Z)) \/
      (∃(gd bd:List G) (vg vb:AV) (k3 k4:Nat) (s5:PS) (Z:AH),tFin x keep remove gd bd s5=R/\Wst all s5/\(k1≠k2/\k1≠k3/\k1≠k4/\k2≠k3/\k2≠k4/\k3≠k4)/\RowY Z h.length G.atom 105 2 keep vk k1/\RowY Z h.length G.atom 105 2 remove vr k2/\RowY Z h.length G.goal 46 3 gd vg k3/\bd≠[]/\vb = .arr (h.length+(k4+3)) 0 bd.length/\Z[k4]? = some (.cells 46 3 (vs G.goal bd))/\s.tm 9 = .b true/\s.h=rh h i g all s5 0 0++(cR0::cRl x vk vr vg vb :: .cells 54 3 [q.tk.av]::Z)))) ?_ ?_
     ·rintro⟨tm,hp⟩ ⟨t0,t2,t4,hh3⟩
      rcases hh3 with⟨p,e,s5,Z,vg,vb,hRR,cg1,cb1,t9,rfl⟩|⟨gd,bd,vg,vb,k3,k4,s5,Z,hRF,hW5,hne,q1,q2,q3,hbd,hvb,hZ,t9,rfl⟩
      ·subst hRR
       dsimp only at t0 t2 t4 t9
       repeat first|refine Qb ?_;simp only[go_sem,seval,f3,f4,f5,t2,t4,t9,ck3,cr3,cg1.2.2,cb1.2.2]|refine hK _ ?_;clear hK
       exact .inr ⟨_,_,_,Qbf _ _ _ _ _ hvk.cell hvr.cell cg1 cb1,rfl,rfl⟩
      ·dsimp only at t0 t2 t4 t9
       obtain⟨cg1,cg2,cg3⟩:=q3.cell
       subst hvb
       have e46:(ByteArray.toList {data:=#[46]})=sDot:=by rw[Lib.toList_data];rfl
       have cw:=fun L=>Qjf hN hW5 HI L {data:=#[46]}
       rw[e46]at cw
       have hwi:=Qdw sDot s5
       rw[tFin]at hRF
       cases hwt:Xl sDot s5 with
       |err p e =>
        rw[hwt]at hwi hRF
        have hRR:R = .err p e:=hRF.symm
        subst hRR
        obtain⟨i1,i2,i3⟩:=hwi
        have zz:((YJ sDot s5).e==0)=false:=by rw[i2];simpa using i3
        rw[zz,i1,i2]at cw
        repeat first|(first|refine FunW.QtJ (cw _) ?_|refine Qb ?_);simp only[go_sem,seval,f3,f4,f5,t0,t2,t4,t9,ck3,cr3,cg3]|refine hK _ ?_;clear hK
        exact .inr ⟨_,_,_,Qbf _ _ _ _ _ hvk.cell hvr.cell q3.cell ⟨rfl,rfl,rfl⟩,rfl,rfl⟩
       |ok u s6 =>
        rw[hwt]at hwi hRF
        have hq6:=RR.okE hwi
        rw[hq6]at cw
        have y4:∀A B C:AB,(A::B::C::Z)[k4+3]? = some (.cells 46 3 (vs G.goal bd)):=fun A B C=>hZ
        have fin:∀(bd2:List G) (vb:AV),QmU bd=bd2->(∀A B:AB,RowP (A::B :: .cells 54 3 [q.tk.av]::Z) h.length G.goal 46 3 bd2 vb (k4+3)) ->
          ∀B:AB,PtC h i g all R (.ret (.tup [.agg [.v (.string x),vk,vr,vg,vb,.i 0],.b true])) (rh h i g all s6 0 0++(.cells 40 6 [.agg [.v (.string x),vk,vr,vg,vb,.i 0]]::B :: .cells 54 3 [q.tk.av]::Z)):=fun bd2 vb e1 e2 B=>by
         have hRR:R = .ok ⟨x,keep,remove,gd,bd2,0⟩ s6:=by rw[<-hRF,<-e1];rfl
         rw[hRR]
         exact⟨_,vk,vr,vg,vb,k1+3,k2+3,k3+3,k4+3,⟨by omega,by omega,by omega,by omega,by omega,by omega⟩,q1.up _ _ _,q2.up _ _ _,q3.up _ _ _,e2 _ B,rfl,rfl⟩
        have hrowb:∀A B C:AB,RowP (A::B::C::Z) h.length G.goal 46 3 bd (.arr (h.length+(k4+3)) 0 bd.length) (k4+3):=fun A B C=>.inr ⟨hbd,rfl,hZ⟩
        have hcs3:(bd.length≠1/\QmU bd=bd)\/∃y,bd=[y]:=by
         rcases bd with _|⟨y,_|⟨y2,l2⟩⟩
         ·exact absurd rfl hbd
         ·exact .inr ⟨y,rfl⟩
         ·exact .inl ⟨by simp,rfl⟩
        rcases hcs3 with⟨hb1,hb2⟩|⟨y,rfl⟩
        ·have z1:(((bd.length:Nat):Int)==1)=false:=by simp;omega
         repeat first|(first|refine FunW.QtJ (cw _) ?_|refine Qb ?_);simp only[go_sem,seval,f3,f4,f5,t0,t2,t4,t9,ck3,cr3,cg3,y4,z1]|refine hK _ ?_;clear hK
         exact .inr (fin _ _ hb2 (fun _ _=>hrowb _ _ _) _)
        ·have v0:(vs G.goal [y])[0]? = some y.goal:=rfl
         have v1:=G.Qt6 y
         have v2:y.goal.isAgg=true:=rfl
         have n1:((1:Nat):Int)=1:=rfl
         have n2:(0:Int)<1:=by decide
         by_cases hop:y.op=1
         ·have z2:(y.op==1)=true:=by simpa using hop
          repeat first|(first|refine FunW.QtJ (cw _) ?_|refine Qb ?_);simp only[go_sem,seval,f3,f4,f5,f6,t0,t2,t4,t9,ck3,cr3,cg3,y4,v0,v1,n1,n2,z2]|refine hK _ ?_;clear hK
          exact .inr (fin [] _ (by unfold QmU;simp only[if_pos hop]) (fun _ _=>.inl ⟨rfl,rfl⟩) _)
         ·have z2:(y.op==1)=false:=by simpa using hop
          repeat first|(first|refine FunW.QtJ (cw _) ?_|refine Qb ?_);simp only[go_sem,seval,f3,f4,f5,t0,t2,t4,t9,ck3,cr3,cg3,y4,v0,v1,n1,n2,z2]|refine hK _ ?_;clear hK
          exact .inr (fin [y] _ (by unfold QmU;simp only[if_neg hop]) (fun _ _=>hrowb _ _ _) _)
     ·have e124:(ByteArray.toList {data:=#[124]})=sBar:=by rw[Lib.toList_data];rfl
      have c5:=fun L=>risL hW4 HI L {data:=#[124]}
      rw[e124]at c5
      obtain⟨hk1,hk2,hk3n⟩:=hkk
      cases hbar:s4.is sBar with
      |false =>
       rw[if_neg (by rw[hbar];simp)]at hRt2
       rw[hbar]at c5
       repeat first|(first|refine FunW.QtJ (c5 _) ?_|refine Qb ?_);simp only[go_sem,seval,t0]|refine hK _ ?_;clear hK
       exact⟨t0,t2,t4,.inr ⟨[],b,nilV,_,Y.length+1,Y.length,s4,Y++[_],hRt2,hW4,⟨hk1,by omega,by omega,by omega,by omega,by omega⟩,hvk.ext _,hvr.ext _,RowY.nil _ _ _ _ _ _,hbn,rfl,by rw[List.getElem?_append_right (Nat.le_refl _),Nat.sub_self];rfl,rfl,rfl⟩⟩
      |true =>
       rw[if_pos hbar]at hRt2
       rw[hbar]at c5
       have cx4:=Qax hN hW4 HI
       cases hg2:Xp 12 s4.nx with
       |err p e =>
        have hRR:R = .err p e:=by rw[<-hRt2,hg2];rfl
        have cg2:=fun L=>QgR hN hD hX hW4.nx HI L 12 (by omega) hg2
        simp only[e12]at cg2
        repeat first|(first|refine FunW.QtJ (c5 _) ?_|refine FunW.QtJ (cx4 _) ?_|refine FunW.retE (FunW.call (cg2 _)) fun r=>?_|refine Qb ?_);simp only[go_sem,seval,f4,f6,t0,t4]|refine hK _ ?_;clear hK
        exact⟨t0,t2,t4,.inl ⟨p,e,r,_,_,_,hRR,⟨rfl,rfl,rfl⟩,⟨rfl,rfl,rfl⟩,rfl,rfl⟩⟩
       |ok b2 s6 =>
        have hRR:tFin x keep remove b b2 s6=R:=by rw[<-hRt2,hg2];rfl
        have hW6:Wst all s6:=Kp.Ps.ok (n:=wdOf all) (Kp.goals_ps trivial 12) hW4.nx hg2
        have cg2:=fun(a1 a2 a3 a4:AB)=>Qi9 hN hD hX hW4.nx HI (a1::a2::a3::(Y++[a4])) 12 (by omega) hg2 (k:=h.length+(Y.length+1+3)) (by simp only[QuP,Qvt,QuQ])
        simp only[e12,Qu4,List.append_assoc,Qu3]at cg2
        repeat first|(first|refine FunW.QtJ (c5 _) ?_|refine FunW.QtJ (cx4 _) ?_|refine FunW.QtJ (cg2 _ _ _ _) ?_|refine Qb ?_);simp only[go_sem,seval,f4,f6,t0,t4]|refine hK _ ?_;clear hK
        exact⟨t0,t2,t4,.inr ⟨b,b2,_,_,Y.length,Y.length+1,s6,Y++[_,_],hRR,hW6,⟨hk1,by omega,by omega,by omega,by omega,by omega⟩,hvk.ext _,hvr.ext _,.inr ⟨hbn,rfl,by rw[List.getElem?_append_right (Nat.le_refl _),Nat.sub_self];rfl⟩,QiC hg2,rfl,by rw[List.getElem?_append_right (by omega),Nat.add_sub_cancel_left];rfl,rfl,rfl⟩⟩
   ·have e1s:(ByteArray.toList {data:=#[60,61,62]})=ZM:=by rw[Lib.toList_data];rfl
    have e2s:(ByteArray.toList {data:=#[61,61,62]})=Qd4:=by rw[Lib.toList_data];rfl
    have e3s:(ByteArray.toList {data:=#[92]})=Qd3:=by rw[Lib.toList_data];rfl
    have c1:=fun L=>risL hW2 HI L {data:=#[60,61,62]}
    have c2:=fun L=>risL hW2 HI L {data:=#[61,61,62]}
    have c3:=fun L=>risL hW2 HI L {data:=#[92]}
    rw[e1s]at c1
    rw[e2s]at c2
    rw[e3s]at c3
    rw[Ql7]at hRr
    cases hs1:s2.is ZM with
    |true =>
     rw[if_pos hs1]at hRr
     rw[hs1]at c1
     repeat first|(first|refine FunW.QtJ (c1 _) ?_|refine Qb ?_);simp only[go_sem,seval,f4,f6,t0,t4]|refine hK _ ?_;clear hK
     exact⟨[],first,nilV,_,11,0,s2,[_],⟨hRr.symm,hW2,by rw[QtM hs1];decide⟩,⟨by decide,.inr (Nat.le_refl _),.inl (Nat.lt_succ_self _)⟩,RowY.nil _ _ _ _ _ _,.inr ⟨hfn,rfl,rfl⟩,t0,t2,t4,rfl⟩
    |false =>
     rw[if_neg (by rw[hs1];simp)]at hRr
     rw[hs1]at c1
     cases hs2:s2.is Qd4 with
     |true =>
      rw[if_pos hs2]at hRr
      rw[hs2]at c2
      repeat first|(first|refine FunW.QtJ (c1 _) ?_|refine FunW.QtJ (c2 _) ?_|refine Qb ?_);simp only[go_sem,seval,f4,f6,t0,t4]|refine hK _ ?_;clear hK
      exact⟨first,[],_,nilV,0,11,s2,[_],⟨hRr.symm,hW2,by rw[QtM hs2];decide⟩,⟨by decide,.inl (Nat.lt_succ_self _),.inr (Nat.le_refl _)⟩,.inr ⟨hfn,rfl,rfl⟩,RowY.nil _ _ _ _ _ _,t0,t2,t4,rfl⟩
     |false =>
      rw[if_neg (by rw[hs2];simp)]at hRr
      rw[hs2]at c2
      cases hs3:s2.is Qd3 with
      |false =>
       rw[if_neg (by rw[hs3];simp)]at hRr
       subst hRr
       rw[hs3]at c3
       have ct2:=Qd2 hW2 HI
       have cf2:=Qbw hW2 HI
       have m1:=Tk.QtK s2.tk
       have m2:=Tk.QtL s2.tk
       repeat first|(first|refine FunW.QtJ (c1 _) ?_|refine FunW.QtJ (c2 _) ?_|refine FunW.QtJ (c3 _) ?_|refine Qb ?_);simp only[go_sem,seval,t0]|refine hK _ ?_;clear hK
       refine X6 (h.length+1) 4 0 0 (by rw[f4];rfl) (by exact t4) ?_
       simp only[f6,Qu6,Qu7]
       refine Qn (id:=12) [(0,1),(1,1),(2,1),(3,2),(4,1),(5,2),(6,2),(7,0)] mixed (by kernel_rfl) fun K hK=>?_
       simp only[go_sem,seval,t0]
       repeat first|(first|refine QX (FunW.call (ct2 _)) Yi ?_|refine QX (FunW.call (cf2 _ _ _)) Yi ?_|refine Qb ?_);simp only[go_sem,seval,f3,f5,t2,m1,m2]|refine hK _ ?_;clear hK
       exact .inr ⟨_,_,_,Qbf _ _ _ _ _ ⟨rfl,rfl,rfl⟩ ⟨rfl,rfl,rfl⟩ ⟨rfl,rfl,rfl⟩ ⟨rfl,rfl,rfl⟩,rfl,rfl⟩
      |true =>
       rw[if_pos hs3]at hRr
       rw[hs3]at c3
       have cx2:=Qax hN hW2 HI
       have hln2:=QW hW2.wf (by rw[QtM hs3];decide)
       cases hh2:XB first.length s2.nx with
       |err p e =>
        have hRR:R = .err p e:=by rw[hRr,hh2];rfl
        subst hRR
        have ch2:=fun L=>QgT hN hD hX hW2.nx HI L first.length (by omega) hh2
        repeat first|(first|refine FunW.QtJ (c1 _) ?_|refine FunW.QtJ (c2 _) ?_|refine FunW.QtJ (c3 _) ?_|refine FunW.QtJ (cx2 _) ?_|refine FunW.retE (FunW.call (ch2 _)) fun r=>?_|refine Qb ?_);simp only[go_sem,seval,f3,f4,f5,f6,t0,t2,t4]|refine hK _ ?_;clear hK
        exact .inr ⟨_,_,_,Qbf _ _ _ _ _ ⟨rfl,rfl,rfl⟩ ⟨rfl,rfl,rfl⟩ ⟨rfl,rfl,rfl⟩ ⟨rfl,rfl,rfl⟩,rfl,rfl⟩
       |ok rem s3 =>
        have hRw:R=(Xl ZM s3).bind fun _ s=>YH x first rem s:=by rw[hRr,hh2];rfl
        have hW3:Wst all s3:=Kp.Ps.ok (n:=wdOf all) (Kp.heads_ps trivial _) hW2.nx hh2
        obtain⟨_,hr4,hr0⟩:=Qao hh2
        have hrn:rem≠[]:=List.length_pos_iff.1 hr0
        have ch2:=fun(a b c d:AB)=>Qja hN hD hX hW2.nx HI [a,b,c,d] first.length (by omega) hh2 (k:=h.length+4) rfl
        have c4:=fun L=>risL hW3 HI L {data:=#[60,61,62]}
        rw[e1s]at c4
        rw[Xl]at hRw
        cases hs4:s3.is ZM with
        |true =>
         rw[if_pos hs4]at hRw
         rw[hs4]at c4
         repeat first|(first|refine FunW.QtJ (c1 _) ?_|refine FunW.QtJ (c2 _) ?_|refine FunW.QtJ (c3 _) ?_|refine FunW.QtJ (cx2 _) ?_|refine FunW.QtJ (ch2 _ _ _ _) ?_|refine FunW.QtJ (c4 _) ?_|refine Qb ?_);simp only[go_sem,seval,f4,f6,t0,t4]|refine hK _ ?_;clear hK
         exact⟨first,rem,_,_,0,1,s3,[_,_],⟨hRw.symm,hW3,by rw[QtM hs4];decide⟩,⟨by decide,.inl (by show 0<2;decide),.inl (by show 1<2;decide)⟩,.inr ⟨hfn,rfl,rfl⟩,.inr ⟨hrn,rfl,rfl⟩,t0,t2,t4,rfl⟩
        |false =>
         rw[if_neg (by rw[hs4];simp)]at hRw
         subst hRw
         rw[hs4]at c4
         have ct3:=Qd2 hW3 HI
         have cf3:=Qbw hW3 HI
         have m1:=Tk.QtK s3.tk
         have m2:=Tk.QtL s3.tk
         repeat first|(first|refine FunW.QtJ (c1 _) ?_|refine FunW.QtJ (c2 _) ?_|refine FunW.QtJ (c3 _) ?_|refine FunW.QtJ (cx2 _) ?_|refine FunW.QtJ (ch2 _ _ _ _) ?_|refine FunW.QtJ (c4 _) ?_|refine Qb ?_);simp only[go_sem,seval,f4,f6,t0,t4]|refine hK _ ?_;clear hK
         refine X6 (h.length+1) 4 0 0 (by rw[f4];rfl) (by exact t4) ?_
         simp only[f6,Qu6,Qu7]
         refine Qn (id:=24) [(0,1),(1,1),(2,1),(3,2),(4,1),(5,2),(6,2),(7,0)] mixed (by kernel_rfl) fun K hK=>?_
         simp only[go_sem,seval,t0]
         repeat first|(first|refine QX (FunW.call (ct3 _)) Yi ?_|refine QX (FunW.call (cf3 _ _ _)) Yi ?_|refine Qb ?_);simp only[go_sem,seval,f3,f5,t2,m1,m2]|refine hK _ ?_;clear hK
         exact .inr ⟨_,_,_,Qbf _ _ _ _ _ ⟨rfl,rfl,rfl⟩ ⟨rfl,rfl,rfl⟩ ⟨rfl,rfl,rfl⟩ ⟨rfl,rfl,rfl⟩,rfl,rfl⟩
 ·iterate 3 (try (first|((first|(with_reducible (first|refine Qf fun K E hK hE=>?_|refine FunW.QtJ (ct _) ?_)));simp only[go_sem,seval,f1,f4,f6,e1,e2])|((with_reducible refine hK _ ?_);clear hK)))
  refine Qw (fun s=>s.tm 45 = .b c/\s.tm 0 = .ptr i 0 0/\s.tm 2 = .ptr h.length 0 0/\s.tm 4 = .ptr (h.length+1) 0 0/\s.h=rh h i g all q 0 0++[cR0,cRl eB nilV nilV nilV nilV,.cells 54 3 [q.tk.av]]) ?_ ?_
  ·rintro⟨tm,hp⟩ ⟨tc,t0,t2,t4,rfl⟩
   dsimp only at tc t0 t2 t4
   have cn:=Qqy hN hW HI
   have his:=QjZ q
   rcases hcase with h0|⟨h0,p,e,h1⟩|⟨h0,y,z,h1⟩
   ·rw[h0]at tc
    obtain⟨rfl,rfl⟩:=hx.1 h0
    refine Qk (by exact tc) ?_
    simp only[↓reduceIte,QuG]
    repeat first|refine Qb ?_;simp only[go_sem,seval]|refine hK _ ?_;clear hK
    exact⟨by rw[hN0,h0];simp,t0,t2,t4,rfl⟩
   ·rw[h1]at his
    have hRR:R = .err p e:=by rw[<-hR,Qau,if_pos (hcs.1 h0),h1];rfl
    subst hRR
    rw[h0]at tc
    obtain⟨i1,i2,i3⟩:=his
    have zz:((Zl q).e==0)=false:=by rw[i2];simpa using i3
    rw[zz,i1,i2]at cn
    refine Qk (by exact tc) ?_
    simp only[↓reduceIte]
    repeat first|(first|refine FunW.QtJ (cn _) ?_|refine Qb ?_);simp only[go_sem,seval,f3,f4,f5,t0,t2,t4]|refine hK _ ?_;clear hK
    exact .inr ⟨_,_,_,Qbf _ _ _ _ _ ⟨rfl,rfl,rfl⟩ ⟨rfl,rfl,rfl⟩ ⟨rfl,rfl,rfl⟩ ⟨rfl,rfl,rfl⟩,rfl,rfl⟩
   ·rw[h1]at his
    have hq:=RR.okE his
    rw[h0]at tc
    obtain⟨rfl,rfl⟩:=hx.2 y z h0 h1
    have hWz:Wst all z:=Kp.Ps.ok (n:=wdOf all) (Kp.name_ps trivial) hW h1
    have cx:=Qax hN hWz HI
    rw[hq]at cn
    refine Qk (by exact tc) ?_
    simp only[↓reduceIte]
    repeat first|(first|refine FunW.QtJ (cn _) ?_|refine FunW.QtJ (cx _) ?_|refine Qb ?_);simp only[go_sem,seval,f4,f6,t0,t4]|refine hK _ ?_;clear hK
    exact⟨(by rw[hN0];rintro⟨_,p,e,h2⟩;rw[h1]at h2;cases h2),t0,t2,t4,rfl⟩
  ·cases b1:(q.tk.kind==1)with
   |false =>
    have hcv:c=false:=by rw[hc,b1];rfl
    first|refine Ql (id:=3) [(0,0),(1,0),(2,0),(3,0),(4,0),(5,0),(6,0),(7,0),(8,0),(9,0),(10,0),(11,0),(12,0),(13,0),(14,0),(15,0),(16,0),(17,0),(18,0),(19,0),(20,0),(21,0),(22,0),(23,0),(24,0),(25,0),(26,0),(27,0),(28,0),(29,0),(30,0),(31,0),(32,0)] mixed (by kernel_rfl) fun K hK=>?_|refine Qn (id:=3) [(0,0),(1,0),(2,0),(3,0),(4,0),(5,0),(6,0),(7,0),(8,0),(9,0),(10,0),(11,0),(12,0),(13,0),(14,0),(15,0),(16,0),(17,0),(18,0),(19,0),(20,0),(21,0),(22,0),(23,0),(24,0),(25,0),(26,0),(27,0),(28,0),(29,0),(30,0),(31,0),(32,0)] mixed (by kernel_rfl) fun K hK=>?_
    (try simp only[QuL]);refine Xn 8 (fun K1 hK1=>?_);simp only[go_sem,seval,f4,e1,b1];refine hK1 _ ?_;clear hK1
    (try simp only[QuL,QuT]);refine Xn 8 (fun K1 hK1=>?_);simp only[go_sem,seval];refine hK1 _ ?_;clear hK1
    (try simp only[QuL,QuT]);refine Xn 8 (fun K1 hK1=>?_);simp only[go_sem,seval];refine hK1 _ ?_;clear hK1
    (try simp only[QuL,QuT])
    simp only[go_sem,seval]
    refine hK _ ?_
    rw[Qp]
    exact⟨by rw[hcv];rfl,rfl,rfl,rfl,rfl⟩
   |true =>
    have hkq:q.tk.kind=1:=by simpa using b1
    have hln:=QW hW.wf (by rw[hkq];decide)
    have hsu:=hW.suf.length_le
    have wn:IntKind.i64.wrap (((all.length - q.toks.length:Nat):Int)+1)=((all.length - q.nx.toks.length:Nat):Int):=by rw[Qz (by omega)];congr 1;omega
    cases b2:(q.nx.tk.kind==4)with
    |false =>
     have hcv:c=false:=by rw[hc,b1,b2];rfl
     first|refine Ql (id:=3) [(0,0),(1,0),(2,0),(3,0),(4,0),(5,0),(6,0),(7,0),(8,0),(9,0),(10,0),(11,0),(12,0),(13,0),(14,0),(15,0),(16,0),(17,0),(18,0),(19,0),(20,0),(21,0),(22,0),(23,0),(24,0),(25,0),(26,0),(27,0),(28,0),(29,0),(30,0),(31,0),(32,0)] mixed (by kernel_rfl) fun K hK=>?_|refine Qn (id:=3) [(0,0),(1,0),(2,0),(3,0),(4,0),(5,0),(6,0),(7,0),(8,0),(9,0),(10,0),(11,0),(12,0),(13,0),(14,0),(15,0),(16,0),(17,0),(18,0),(19,0),(20,0),(21,0),(22,0),(23,0),(24,0),(25,0),(26,0),(27,0),(28,0),(29,0),(30,0),(31,0),(32,0)] mixed (by kernel_rfl) fun K hK=>?_
     (try simp only[QuL]);refine Xn 8 (fun K1 hK1=>?_);simp only[go_sem,seval,f4,fi,e1,b1];refine hK1 _ ?_;clear hK1
     (try simp only[QuL,QuT]);refine Xn 8 (fun K1 hK1=>?_);simp only[go_sem,seval,fi,k1,d3,d4,X4,wn];refine hK1 _ ?_;clear hK1
     (try simp only[QuL,QuT]);refine Xn 8 (fun K1 hK1=>?_);simp only[go_sem,seval,b2];refine hK1 _ ?_;clear hK1
     (try simp only[QuL,QuT])
     simp only[go_sem,seval]
     refine hK _ ?_
     rw[Qp]
     exact⟨by rw[hcv];rfl,rfl,rfl,rfl,rfl⟩
    |true =>
     have hcv:c=(q.nx.tk.text.toList==ByteArray.toList {data:=#[64]}):=by rw[hc,b1,b2];rfl
     first|refine Ql (id:=3) [(0,0),(1,0),(2,0),(3,0),(4,0),(5,0),(6,0),(7,0),(8,0),(9,0),(10,0),(11,0),(12,0),(13,0),(14,0),(15,0),(16,0),(17,0),(18,0),(19,0),(20,0),(21,0),(22,0),(23,0),(24,0),(25,0),(26,0),(27,0),(28,0),(29,0),(30,0),(31,0),(32,0)] mixed (by kernel_rfl) fun K hK=>?_|refine Qn (id:=3) [(0,0),(1,0),(2,0),(3,0),(4,0),(5,0),(6,0),(7,0),(8,0),(9,0),(10,0),(11,0),(12,0),(13,0),(14,0),(15,0),(16,0),(17,0),(18,0),(19,0),(20,0),(21,0),(22,0),(23,0),(24,0),(25,0),(26,0),(27,0),(28,0),(29,0),(30,0),(31,0),(32,0)] mixed (by kernel_rfl) fun K hK=>?_
     (try simp only[QuL]);refine Xn 8 (fun K1 hK1=>?_);simp only[go_sem,seval,f4,fi,e1,b1];refine hK1 _ ?_;clear hK1
     (try simp only[QuL,QuT]);refine Xn 8 (fun K1 hK1=>?_);simp only[go_sem,seval,fi,k1,d3,d4,X4,wn];refine hK1 _ ?_;clear hK1
     (try simp only[QuL,QuT]);refine Xn 8 (fun K1 hK1=>?_);simp only[go_sem,seval,fi,b2];refine hK1 _ ?_;clear hK1
     (try simp only[QuL,QuT])
     simp only[go_sem,seval,fi,k1,d3,d4,X4,wn]
     refine hK _ ?_
     rw[Qp]
     exact⟨by rw[hcv];rfl,rfl,rfl,rfl,rfl⟩
end
end Go.Proofs.YticgcpebdldbgaaGreatDoor.Ab
set_option maxRecDepth 4000
namespace Go.Proofs.YticgcpebdldbgaaGreatDoor.Ab
open Go.Proofs
mutual
theorem T.QtT:∀(t:T),t.vars.length<=t.nds
 | .mk k i n l=>by
  simp only[T.vars,T.nds]
  split
  ·simp
  ·split
   ·have:=QdV l;omega
   ·simp
theorem QdV:∀(l:List T),(QG l).length<=ndsL l
 |[]=>by simp[QG,ndsL]
 |t::l=>by
  have h1:=T.QtT t
  have h2:=QdV l
  simp only[QG,ndsL,Qvt];omega
end
theorem Qo9(u:List Int)(own:Option Nat)(n:Int)(hb:u.length<=1000000):Pure Tryz.prog 103 [.sl 1 (ints u) own,.i n] (.b (decide (n∈u))):=by
 intro h
 refine Qa Tryz.func103 rfl Tryz.call103 Tryz.ntmps103 Tryz.results103 (by simp) ?_
 repeat refine Qb ?_;simp only[go_sem,seval]
 obtain⟨I,hI⟩:∃I:Nat->AS->Prop,I=fun m' s=>∃j:Nat,m'=u.length - j/\j<=u.length/\(n∈u↔n∈u.drop j)/\s.tm 0 = .sl 1 (ints u) own/\s.tm 1 = .i n/\s.tm 5 = .i j/\s.h=h:=⟨_,rfl⟩;refine Qi I ?_ (m:=u.length) ?_
 ·intro m' s hs;rw[hI]at hs;obtain⟨tm,hp⟩:=s;dsimp only at hs;obtain⟨j,rfl,hj,he,t0,t1,t5,rfl⟩:=hs
  by_cases hlt:j<u.length
  ·rw[List.drop_eq_getElem_cons hlt,List.mem_cons]at he
   by_cases hz:u[j]=n
   ·have hb1:(u[j]==n)=true:=by simpa using hz
    have hm:n∈u:=he.2 (.inl hz.symm)
    repeat refine Qb ?_;simp only[go_sem,seval,t0,t1,t5,hlt,QbJ hlt,hb1]
    exact Qc List.take_length (.keep (.v _)) ⟨by rw[decide_eq_true hm],rfl⟩
   ·have hb1:(u[j]==n)=false:=by simpa using hz
    repeat refine Qb ?_;simp only[go_sem,seval,t0,t1,t5,hlt,QbJ hlt,hb1]
    refine Qv.mk (m':=u.length - (j+1)) (by omega) ?_
    rw[hI]
    refine⟨j+1,rfl,hlt,he.trans ⟨fun h=>h.elim (fun e=>absurd e.symm hz) id,.inr⟩,t0,t1,?_,rfl⟩
    simp only[upd,↓reduceIte]
    rw[Qz (by omega)]
  ·have hjl:j=u.length:=by omega
   rw[hjl,List.drop_length]at he
   have hm:¬n∈u:=fun h=>by simpa using he.1 h
   repeat refine Qb ?_;simp only[go_sem,seval,t0,t5,hlt]
   exact Qc List.take_length (.keep (.v _)) ⟨by rw[decide_eq_false hm],rfl⟩
 ·rw[hI]
  exact⟨0,by omega,Nat.zero_le _,by simp,rfl,rfl,rfl,rfl⟩
theorem QiW(t:T):ndsL t.uses<=ndsL t.args:=by
 unfold T.uses
 split
 ·exact Nat.le_refl _
 ·simp[ndsL]
structure TokGr (H:Nat->AH) (m k e s:Nat):Prop where
 len:∀n,(H n).length=m
 lt:k<m
 get:∀n,(H n)[k]? = some (.grow e s n)
 set:∀n n',(H n).set k (.grow e s n')=H n'
theorem TokGr.old{H:Nat->AH}{m k e s:Nat}(V:TokGr H m k e s):∀n n' (i:Nat) b,(H n')[i]? = some b->(H n)[i]? = some b\/b.Below m:=by
 intro n n' i b hb
 rw[<-V.set n n']at hb
 by_cases hi:k=i
 ·subst hi
  rw[List.getElem?_set_self (by rw[V.len];exact V.lt)]at hb
  cases hb
  exact .inr trivial
 ·rw[List.getElem?_set_ne hi]at hb
  exact .inl hb
theorem Qdj{σ:Type}{H:σ->AH}{m:Nat}(hm:∀s,(H s).length=m)(hH:∀s s' (i:Nat) b,(H s')[i]? = some b->(H s)[i]? = some b\/b.Below m){s s2:σ}{L own:AH}{r r':AV}{Q:AV->AH->Prop}
  (hf:Frz (H s2++(L++own)) (m+L.length) r r') (hq:Q r' (H s2++L)):Leaves (H s++L) (H s2++(L++own)) r Q:=by
 have ht:(H s2++(L++own)).take (m+L.length)=H s2++L:=by
  rw[<-List.append_assoc,<-hm s2,<-List.length_append,List.take_left]
 refine .inl ⟨m+L.length,r',by rw[List.length_append,hm];exact Nat.le_refl _,by simp[hm],.inr fun i b hb=>?_,hf,by rw[ht];exact hq⟩
 rw[ht]at hb
 rcases Nat.lt_or_ge i m with hi|hi
 ·rw[List.getElem?_append_left (by rw[hm];exact hi)]at hb
  rcases hH s s2 i b hb with h|h
  ·exact .inl (by rw[List.getElem?_append_left (by rw[hm];exact hi)];exact h)
  ·exact .inr (h.mono (by omega))
 ·rw[List.getElem?_append_right (by rw[hm];exact hi),hm]at hb
  exact .inl (by rw[List.getElem?_append_right (by rw[hm];exact hi),hm];exact hb)
theorem T.Quw(t:T):t.vars=if t.kind=1 then[t.int]else QG t.uses:=by
 cases t with|mk k i n l =>
 show T.vars (.mk k i n l)=if k=1 then[i]else QG (if k=2 then l else[])
 simp only[T.vars]
 by_cases h1:k=1
 ·rw[if_pos h1,if_pos h1]
 ·rw[if_neg h1,if_neg h1]
  by_cases h2:k=2
  ·rw[if_pos h2,if_pos h2]
  ·rw[if_neg h2,if_neg h2];rfl
theorem QaQ{H:Nat->AH}{m k:Nat}(V:TokGr H m k 3 1):∀n,n<=1000000->∀(t:T) (u:List Int) (L:AH),t.nds<=n->u.length+t.nds<=1000000 ->
  Qj Tryz.prog 89 [.sl 1 (ints u) (some k),t.av] (H u.length++L) fun o h'=>o = .ret (.sl 1 (ints (ded u t.vars)) (some k))/\h'=H (ded u t.vars).length++L
 |0,_,t,_,_,hn,_=>by have:=T.QtW t;omega
 |n+1,hb,t,u,L,hn,hu=>by
  have e:=T.Quw t
  have hnd:=T.QtW t
  have hm:=V.len
  have gk:∀(n:Nat) (L:AH) (k:Nat),(H n++L)[m+k]? = L[k]? := fun u L k=>by rw[<-hm u];exact hget _ _ _
  have sk:∀(n:Nat) (L:AH) (k:Nat) (b:AB),(H n++L).set (m+k) b=H n++L.set k b:=fun u L k b=>by rw[<-hm u];exact hset _ _ _ _
  have gt:∀(n:Nat) (L:AH),(H n++L)[k]? = some (.grow 3 1 n):=fun n L=>by rw[List.getElem?_append_left (by rw[hm];exact V.lt)];exact V.get n
  have st:∀(n n':Nat) (L:AH),(H n++L).set k (.grow 3 1 n')=H n'++L:=fun n n' L=>by rw[List.set_append_left _ _ (by rw[hm];exact V.lt),V.set]
  have ca:=Qbv t
  have ch:=Qo9 u (some k) t.int (by omega)
  have hlu:=XE t.uses
  have hul:=QiW t
  by_cases h1:t.kind=1
  ·have b1:(t.kind==1)=true:=by simpa using h1
   have hus:t.uses=[]:=by unfold T.uses;rw[if_neg (by omega)]
   rw[if_pos h1]at e
   by_cases hmem:t.int∈u
   ·have hed:ded u t.vars=ded u (QG (t.uses.drop 0)):=by rw[e,hus];exact if_pos hmem
    have hlen':u.length+ndsL (t.uses.drop 0)<=1000000:=by rw[List.drop_zero];omega
    rw[decide_eq_true hmem]at ch
    refine Qa Tryz.func89 rfl Tryz.call89 Tryz.ntmps89 Tryz.results89 (by simp) ?_
    repeat (first|refine Qd ca ?_|refine Qd ch ?_|refine Qb ?_);simp only[go_sem,seval,b1,hm,gk]
    obtain⟨I,hI⟩:∃I:Nat->AS->Prop,I=fun m' s=>∃(j:Nat) (v:List Int) (M:AH),m'=t.uses.length - j/\j<=t.uses.length/\ded u t.vars=ded v (QG (t.uses.drop j))/\v.length+ndsL (t.uses.drop j)<=1000000/\s.tm 0 = .sl 1 (ints v) (some k)/\s.tm 5 = .sl 4 (avs t.uses) none/\s.tm 6 = .i j/\s.h=H v.length++(L++M):=⟨_,rfl⟩;refine Qi I ?_ (m:=t.uses.length) ?_
    ·intro m' s hs;rw[hI]at hs;obtain⟨tm,hp⟩:=s;dsimp only at hs;obtain⟨j,v,M,rfl,hj,hw,hv,t0,t5,t6,rfl⟩:=hs
     by_cases hlt:j<t.uses.length
     ·rw[List.drop_eq_getElem_cons hlt]at hw hv
      simp only[QG,Q1]at hw
      simp only[ndsL]at hv
      have hcc:=fun L=>QaQ V n (by omega) t.uses[j] v L (Nat.le_trans (Zp hlt) (by omega)) (by omega)
      have hdl:=Xq v (t.uses[j]).vars
      have hvl:=T.QtT t.uses[j]
      repeat (first|refine FunW.QtJ (hcc _) ?_|refine Qb ?_);simp only[go_sem,seval,t0,t5,t6,hlt,ZD hlt]
      refine Qv.mk (m':=t.uses.length - (j+1)) (by omega) ?_
      rw[hI]
      refine⟨j+1,_,_,rfl,hlt,hw,by omega,rfl,t5,?_,rfl⟩
      simp only[upd,↓reduceIte]
      rw[Qz (by omega)]
     ·have hjl:j=t.uses.length:=by omega
      rw[hjl,List.drop_length]at hw
      simp only[QG,ded]at hw
      repeat refine Qb ?_;simp only[go_sem,seval,t0,t5,t6,hlt]
      exact Qdj V.len V.old (.keep (.sl 1 _ _ (Qbm _ _) (fun b hb=>by cases hb;have:=V.lt;omega))) ⟨by rw[hw],by rw[hw]⟩
    ·rw[hI]
     exact⟨0,_,_,by omega,Nat.zero_le _,hed,hlen',rfl,rfl,rfl,rfl⟩
   ·have hed:ded u t.vars=ded (u++[t.int]) (QG (t.uses.drop 0)):=by rw[e,hus];exact if_neg hmem
    have hlen':(u++[t.int]).length+ndsL (t.uses.drop 0)<=1000000:=by rw[hus,List.length_append];simp only[List.drop_nil,ndsL,List.length_singleton];omega
    rw[decide_eq_false hmem]at ch
    have hb1:u.length+1<=maxLen:=by simp only[maxLen];omega
    have hb2:(u.length+1) * 8<=140737488355328:=by omega
    refine Qa Tryz.func89 rfl Tryz.call89 Tryz.ntmps89 Tryz.results89 (by simp) ?_
    repeat (first|refine Qd ca ?_|refine Qd ch ?_|refine Qb ?_);simp only[go_sem,seval,b1,hm,gk,gt,st,hb1,hb2]
    obtain⟨I,hI⟩:∃I:Nat->AS->Prop,I=fun m' s=>∃(j:Nat) (v:List Int) (M:AH),m'=t.uses.length - j/\j<=t.uses.length/\ded u t.vars=ded v (QG (t.uses.drop j))/\v.length+ndsL (t.uses.drop j)<=1000000/\s.tm 0 = .sl 1 (ints v) (some k)/\s.tm 5 = .sl 4 (avs t.uses) none/\s.tm 6 = .i j/\s.h=H v.length++(L++M):=⟨_,rfl⟩;refine Qi I ?_ (m:=t.uses.length) ?_
    ·intro m' s hs;rw[hI]at hs;obtain⟨tm,hp⟩:=s;dsimp only at hs;obtain⟨j,v,M,rfl,hj,hw,hv,t0,t5,t6,rfl⟩:=hs
     by_cases hlt:j<t.uses.length
     ·rw[List.drop_eq_getElem_cons hlt]at hw hv
      simp only[QG,Q1]at hw
      simp only[ndsL]at hv
      have hcc:=fun L=>QaQ V n (by omega) t.uses[j] v L (Nat.le_trans (Zp hlt) (by omega)) (by omega)
      have hdl:=Xq v (t.uses[j]).vars
      have hvl:=T.QtT t.uses[j]
      repeat (first|refine FunW.QtJ (hcc _) ?_|refine Qb ?_);simp only[go_sem,seval,t0,t5,t6,hlt,ZD hlt]
      refine Qv.mk (m':=t.uses.length - (j+1)) (by omega) ?_
      rw[hI]
      refine⟨j+1,_,_,rfl,hlt,hw,by omega,rfl,t5,?_,rfl⟩
      simp only[upd,↓reduceIte]
      rw[Qz (by omega)]
     ·have hjl:j=t.uses.length:=by omega
      rw[hjl,List.drop_length]at hw
      simp only[QG,ded]at hw
      repeat refine Qb ?_;simp only[go_sem,seval,t0,t5,t6,hlt]
      exact Qdj V.len V.old (.keep (.sl 1 _ _ (Qbm _ _) (fun b hb=>by cases hb;have:=V.lt;omega))) ⟨by rw[hw],by rw[hw]⟩
    ·rw[hI]
     exact⟨0,_,_,by omega,Nat.zero_le _,hed,hlen',by rw[Qe2,QkU];rfl,rfl,rfl,by rw[List.length_append];rfl⟩
  ·have b1:(t.kind==1)=false:=by simpa using h1
   rw[if_neg h1]at e
   have hed:ded u t.vars=ded u (QG (t.uses.drop 0)):=by rw[e,List.drop_zero]
   have hlen':u.length+ndsL (t.uses.drop 0)<=1000000:=by rw[List.drop_zero];omega
   refine Qa Tryz.func89 rfl Tryz.call89 Tryz.ntmps89 Tryz.results89 (by simp) ?_
   repeat (first|refine Qd ca ?_|refine Qb ?_);simp only[go_sem,seval,b1,hm,gk]
   obtain⟨I,hI⟩:∃I:Nat->AS->Prop,I=fun m' s=>∃(j:Nat) (v:List Int) (M:AH),m'=t.uses.length - j/\j<=t.uses.length/\ded u t.vars=ded v (QG (t.uses.drop j))/\v.length+ndsL (t.uses.drop j)<=1000000/\s.tm 0 = .sl 1 (ints v) (some k)/\s.tm 5 = .sl 4 (avs t.uses) none/\s.tm 6 = .i j/\s.h=H v.length++(L++M):=⟨_,rfl⟩;refine Qi I ?_ (m:=t.uses.length) ?_
   ·intro m' s hs;rw[hI]at hs;obtain⟨tm,hp⟩:=s;dsimp only at hs;obtain⟨j,v,M,rfl,hj,hw,hv,t0,t5,t6,rfl⟩:=hs
    by_cases hlt:j<t.uses.length
    ·rw[List.drop_eq_getElem_cons hlt]at hw hv
     simp only[QG,Q1]at hw
     simp only[ndsL]at hv
     have hcc:=fun L=>QaQ V n (by omega) t.uses[j] v L (Nat.le_trans (Zp hlt) (by omega)) (by omega)
     have hdl:=Xq v (t.uses[j]).vars
     have hvl:=T.QtT t.uses[j]
     repeat (first|refine FunW.QtJ (hcc _) ?_|refine Qb ?_);simp only[go_sem,seval,t0,t5,t6,hlt,ZD hlt]
     refine Qv.mk (m':=t.uses.length - (j+1)) (by omega) ?_
     rw[hI]
     refine⟨j+1,_,_,rfl,hlt,hw,by omega,rfl,t5,?_,rfl⟩
     simp only[upd,↓reduceIte]
     rw[Qz (by omega)]
    ·have hjl:j=t.uses.length:=by omega
     rw[hjl,List.drop_length]at hw
     simp only[QG,ded]at hw
     repeat refine Qb ?_;simp only[go_sem,seval,t0,t5,t6,hlt]
     exact Qdj V.len V.old (.keep (.sl 1 _ _ (Qbm _ _) (fun b hb=>by cases hb;have:=V.lt;omega))) ⟨by rw[hw],by rw[hw]⟩
   ·rw[hI]
    exact⟨0,_,_,by omega,Nat.zero_le _,hed,hlen',rfl,rfl,rfl,rfl⟩
theorem Qoz(h:AH)(e s:Nat):TokGr (fun n=>h++[.grow e s n]) (h.length+1) h.length e s where
 len:=fun n=>by simp
 lt:=by omega
 get:=fun n=>by rw[Y8];rfl
 set:=fun n n'=>by rw[Qah];rfl
theorem QhK(t:T)(hn:t.nds<=1000000):Pure Tryz.prog 63 [t.av] (.sl 1 (ints (ded [] t.vars)) none):=by
 intro h
 refine Qa Tryz.func63 rfl Tryz.call63 Tryz.ntmps63 Tryz.results63 (by simp) ?_
 repeat refine Qb ?_;simp only[go_sem,seval]
 refine QjN 3 1 ?_
 have hcc:=QaQ (Qoz (h++[.cells 48 4 [t.av]]) 3 1) 1000000 (Nat.le_refl _) t [] [] hn (by simpa using hn)
 simp only[List.append_assoc,Qu4,Qu3,Qu5,Qpe,QuQ]at hcc
 (try simp only[QuP,QuQ,QuO,hlen,happ,Qu4,Qu3])
 (try simp only[hlen,QuP,QuQ,QuO]at hcc)
 repeat (first|refine FunW.QtJ hcc ?_|refine Qb ?_);simp only[go_sem,seval]
 (refine Qc (htake _ _) (.tok (Qbm _ _)) ⟨rfl,rfl⟩)
theorem Qm9:∀(l a s:List Int),ded s (ded a l)=ded (ded s a) l
 |[],a,s=>rfl
 |x::l,a,s=>by
  show ded s (ded (ins a x) l)=ded (ins (ded s a) x) l
  rw[Qm9 l (ins a x) s]
  congr 1
  unfold ins
  by_cases hx:x∈a
  ·rw[if_pos hx,if_pos (Za.2 (.inr hx))]
  ·rw[if_neg hx,Q1]
   show ded (ins (ded s a) x) []=_
   rfl
def plcR(u:List Int)(n:Int):Int:=if n∈u then((plc u n:Nat):Int)else -1
theorem Qi4{n:Int}:∀{u:List Int} {k:Nat},(∀j,j<k->∀h:j<u.length,u[j]≠n)->k<=u.length->plc u n=k+plc (u.drop k) n
 |u,0,_,_=>by rw[List.drop_zero,Nat.zero_add]
 |[],k+1,_,hk=>by simp at hk
 |a::u,k+1,h,hk=>by
  have h0:a≠n:=h 0 (by omega) (by simp)
  rw[List.drop_succ_cons,plc,if_neg h0,Qi4 (u:=u) (k:=k) (fun j hj hl=>by have:=h (j+1) (by omega) (by simpa using hl);simpa using this) (by simpa using hk)]
  omega
theorem QdL(u:List Int)(own:Option Nat)(n:Int)(hb:u.length<=1000000):Pure Tryz.prog 64 [.sl 1 (ints u) own,.i n] (.i (plcR u n)):=by
 intro h
 refine Qa Tryz.func64 rfl Tryz.call64 Tryz.ntmps64 Tryz.results64 (by simp) ?_
 repeat refine Qb ?_;simp only[go_sem,seval]
 obtain⟨I,hI⟩:∃I:Nat->AS->Prop,I=fun m' s=>∃k:Nat,m'=u.length - k/\k<=u.length/\(∀j,j<k->∀h:j<u.length,u[j]≠n)/\s.tm 0 = .sl 1 (ints u) own/\s.tm 1 = .i n/\s.tm 5 = .i k/\s.h=h:=⟨_,rfl⟩;refine Qi I ?_ (m:=u.length) ?_
 ·intro m' s hs;rw[hI]at hs;obtain⟨tm,hp⟩:=s;dsimp only at hs;obtain⟨k,rfl,hk,he,t0,t1,t5,rfl⟩:=hs
  by_cases hlt:k<u.length
  ·have hg:=QbJ hlt
   have z9:(k:Int)<u.length:=by omega
   by_cases q:u[k]=n
   ·have z:(u[k]==n)=true:=by simp[q]
    repeat refine Qb ?_;simp only[go_sem,seval,t0,t1,t5,z9,hg,z]
    (refine Qc List.take_length (.keep (.v _)) ⟨by rw[plcR,if_pos (q▸List.getElem_mem hlt),Qi4 he hk,List.drop_eq_getElem_cons hlt,plc,if_pos q];rfl,rfl⟩)
   ·have z:(u[k]==n)=false:=by simp[q]
    have wk:IntKind.i64.wrap (((k:Nat):Int)+1)=((k+1:Nat):Int):=Qz (by omega)
    repeat refine Qb ?_;simp only[go_sem,seval,t0,t1,t5,z9,hg,z,wk]
    refine Qv.mk (m':=u.length - (k+1)) (by omega) ?_
    rw[hI]
    refine⟨k+1,rfl,hlt,?_,t0,t1,rfl,rfl⟩
    intro j hj hl
    by_cases hjk:j=k
    ·subst hjk;exact q
    ·exact he j (by omega) hl
  ·have z9:¬(k:Int)<u.length:=by omega
   have hm:n∉u:=fun hm=>by
    obtain⟨j,hj,e⟩:=List.getElem_of_mem hm
    exact he j (by omega) hj e
   repeat refine Qb ?_;simp only[go_sem,seval,t0,t5,z9]
   (refine Qc List.take_length (.keep (.v _)) ⟨by rw[plcR,if_neg hm],rfl⟩)
 ·rw[hI]
  exact⟨0,by omega,Nat.zero_le _,fun j hj=>by omega,rfl,rfl,rfl,rfl⟩
def plcN(u:List Int)(n:Int):Int:=((plc u n:Nat):Int)
theorem Qr5(f:Int->Int){t:T}(h:t.ps):t.map f = .mk t.kind (if t.kind=1 then f t.int else t.int) t.name (maps f t.args)/\pss t.args/\(∀v∈QG t.args,v∈t.vars)/\(t.kind=1->t.int∈t.vars):=by
 obtain⟨k,i,n,l⟩:=t
 rw[T.ps]at h
 obtain⟨h1,h2,h3⟩:=h
 rw[T.map]
 show _/\pss l/\(∀v∈QG l,v∈T.vars (.mk k i n l))/\(k=1->i∈T.vars (.mk k i n l))
 rw[T.vars]
 refine⟨?_,h3,?_,?_⟩
 ·by_cases k1:k=1
  ·have:l=[]:=h2 (by omega)
   subst this
   rw[if_pos k1]
   show _=T.mk k (if k=1 then f i else i) n []
   rw[if_pos k1]
  ·rw[if_neg k1]
   show _=T.mk k (if k=1 then f i else i) n (maps f l)
   rw[if_neg k1]
   by_cases k2:k=2
   ·rw[if_pos k2]
   ·rw[if_neg k2,h2 k2];rfl
 ·intro v hv
  by_cases k2:k=2
  ·rw[if_neg (by omega),if_pos k2];exact hv
  ·rw[h2 k2]at hv;cases hv
 ·intro k1;rw[if_pos k1];simp
theorem Qg1:∀{l:List T} {j:Nat} (hlt:j<l.length),∀v∈(l[j]).vars,v∈QG l
 |t::l,0,_,v,hv=>by rw[QG];exact List.mem_append.2 (.inl (by simpa using hv))
 |t::l,j+1,h,v,hv=>by rw[QG];exact List.mem_append.2 (.inr (Qg1 (l:=l) (j:=j) (by simpa using h) v (by simpa using hv)))
theorem Qlc:∀{l:List T} {j:Nat} (hlt:j<l.length),pss l->(l[j]).ps
 |t::l,0,_,h=>by rw[pss]at h;exact h.1
 |t::l,j+1,hl,h=>by rw[pss]at h;exact Qlc (l:=l) (j:=j) (by simpa using hl) h.2
theorem Qpj(f:Int->Int):∀l:List T,maps f l=l.map (T.map f)
 |[]=>rfl
 |t::l=>by rw[maps,Qpj f l];rfl
theorem QlX{f:Int->Int}{l:List T}{j:Nat}(h:j<l.length):maps f (l.take (j+1))=maps f (l.take j)++[(l[j]).map f]:=by
 rw[Qpj,Qpj,List.take_succ_eq_append_getElem h,List.map_append];rfl
theorem Qad(u:List Int)(own:Option Nat)(hu:u.length<=1000000):∀n,n<=1000000->∀l:List T,ndsL l<=n->pss l->(∀v∈QG l,v∈u)->Pure Tryz.prog 35 [.sl 1 (ints u) own,.sl 4 (avs l) none] (.sl 4 (avs (maps (plcN u) l)) none):=by
 intro n
 induction n with
 |zero =>
  intro _ l hn hp hv h
  have hl:l=[]:=by
   cases l with
   |nil=>rfl
   |cons t l=>have:=T.QtW t;simp only[ndsL]at hn;omega
  subst hl
  refine Qa Tryz.func35 rfl Tryz.call35 Tryz.ntmps35 Tryz.results35 (by simp) ?_
  repeat refine Qb ?_;simp only[go_sem,seval]
  refine X7 5 48 4 rfl ?_
  repeat refine Qb ?_;simp only[go_sem,seval]
  obtain⟨I,hI⟩:∃I:Nat->AS->Prop,I=fun m' s=>m'=0/\s.tm 1 = .sl 4 (avs []) none/\s.tm 5 = .sl 4 (avs []) (some h.length)/\s.tm 6 = .i 0/\s.h=h++[.grow 48 4 0]:=⟨_,rfl⟩;refine Qi I ?_ (m:=0) ?_
  ·intro m' s hs;rw[hI]at hs;obtain⟨tm,hp⟩:=s;dsimp only at hs;obtain⟨rfl,t1,t5,t6,rfl⟩:=hs
   have z9:¬(0:Int)<0:=by decide
   repeat refine Qb ?_;simp only[go_sem,seval,t1,t5,t6,z9,QeC]
   exact Qc (htake _ _) (.tok fun a ha=>by simp[flat]at ha) ⟨rfl,rfl⟩
  ·rw[hI]
   exact⟨rfl,rfl,rfl,rfl,rfl⟩
 |succ n ih =>
  intro hb l hn hp hv h
  have hll:=XE l
  refine Qa Tryz.func35 rfl Tryz.call35 Tryz.ntmps35 Tryz.results35 (by simp) ?_
  repeat refine Qb ?_;simp only[go_sem,seval]
  refine X7 5 48 4 rfl ?_
  repeat refine Qb ?_;simp only[go_sem,seval]
  obtain⟨I,hI⟩:∃I:Nat->AS->Prop,I=fun m' s=>∃(j:Nat) (L:AH),m'=l.length - j/\j<=l.length/\s.tm 0 = .sl 1 (ints u) own/\s.tm 1 = .sl 4 (avs l) none/\s.tm 5 = .sl 4 (avs (maps (plcN u) (l.take j))) (some h.length)/\s.tm 6 = .i j/\s.h=h++(.grow 48 4 j::L):=⟨_,rfl⟩;refine Qi I ?_ (m:=l.length) ?_
  ·intro m' s hs;rw[hI]at hs;obtain⟨tm,hp⟩:=s;dsimp only at hs;obtain⟨j,L,rfl,hj,t0,t1,t5,t6,rfl⟩:=hs
   by_cases hlt:j<l.length
   ·have hg:=ZD hlt
    have z9:(j:Int)<l.length:=by omega
    have hml:(maps (plcN u) (l.take j)).length=j:=by rw[Qpj,List.length_map,List.length_take];omega
    have hb1:j+1<=maxLen:=by simp only[maxLen];omega
    have hb2:(j+1) * 56<=140737488355328:=by omega
    have wj:IntKind.i64.wrap (((j:Nat):Int)+1)=((j+1:Nat):Int):=Qz (by omega)
    have fL:∀x:AB,(L++[x])[L.length]? = some x:=fun x=>List.getElem?_concat_length
    have fS:∀x y:AB,(L++[x]).set L.length y=L++[y]:=fun x y=>by rw[List.set_append_right _ _ (Nat.le_refl _),Nat.sub_self];rfl
    obtain⟨t,et⟩:∃t,t=l[j]:=⟨_,rfl⟩
    have hvt:=Qg1 hlt
    have hts:=QlX (f:=plcN u) hlt
    have hpt:=Qlc hlt hp
    have hnt:t.nds<=n+1:=by rw[et];exact Nat.le_trans (Zp hlt) hn
    rw[<-et]at hg hvt hts hpt
    have hnd:=T.QtW t
    obtain⟨em,hpa,hva,hvi⟩:=Qr5 (plcN u) hpt
    have c2:=ih (by omega) t.args (by omega) hpa (fun v hv'=>hv v (hvt v (hva v hv')))
    by_cases k1:t.kind=1
    ·have z1:(t.kind==1)=true:=by simp[k1]
     rw[if_pos k1]at em
     have c:=QdL u own t.int hu
     have hmem:=hv _ (hvt _ (hvi k1))
     rw[plcR,if_pos hmem]at c
     repeat (first|refine Qd c ?_|refine Qd c2 ?_|refine Qb ?_);simp only[go_sem,seval,t0,t1,t5,t6,z9,hg,z1,hml,hb1,hb2,fL,fS,wj]
     refine Qv.mk (m':=l.length - (j+1)) (by omega) ?_
     rw[hI]
     refine⟨j+1,_,rfl,hlt,t0,t1,?_,rfl,rfl⟩
     rw[hts,Qc6,em];rfl
    ·have z1:(t.kind==1)=false:=by simp[k1]
     rw[if_neg k1]at em
     repeat (first|refine Qd c2 ?_|refine Qb ?_);simp only[go_sem,seval,t0,t1,t5,t6,z9,hg,z1,hml,hb1,hb2,fL,fS,wj]
     refine Qv.mk (m':=l.length - (j+1)) (by omega) ?_
     rw[hI]
     refine⟨j+1,_,rfl,hlt,t0,t1,?_,rfl,rfl⟩
     rw[hts,Qc6,em];rfl
   ·have z9:¬(j:Int)<l.length:=by omega
    have hjl:j=l.length:=by omega
    repeat refine Qb ?_;simp only[go_sem,seval,t1,t5,t6,z9]
    (refine Qc (htake _ _) (.tok (Qcq _ _)) ⟨by rw[hjl,List.take_length],rfl⟩)
  ·rw[hI]
   exact⟨0,[],by omega,Nat.zero_le _,rfl,rfl,rfl,rfl,rfl⟩
theorem Qi0{H:Nat->AH}{m k:Nat}(V:TokGr H m k 3 1)(l:List T)(u:List Int)(L:AH)(hb:u.length+ndsL l<=1000000) :
  Qj Tryz.prog 34 [.sl 1 (ints u) (some k),.sl 4 (avs l) none] (H u.length++L) fun o h'=>o = .ret (.sl 1 (ints (ded u (QG l))) (some k))/\h'=H (ded u (QG l)).length++L:=by
 have hm:=V.len
 have gk:∀(n:Nat) (L:AH) (k:Nat),(H n++L)[m+k]? = L[k]? := fun u L k=>by rw[<-hm u];exact hget _ _ _
 have sk:∀(n:Nat) (L:AH) (k:Nat) (b:AB),(H n++L).set (m+k) b=H n++L.set k b:=fun u L k b=>by rw[<-hm u];exact hset _ _ _ _
 have gt:∀(n:Nat) (L:AH),(H n++L)[k]? = some (.grow 3 1 n):=fun n L=>by rw[List.getElem?_append_left (by rw[hm];exact V.lt)];exact V.get n
 have st:∀(n n':Nat) (L:AH),(H n++L).set k (.grow 3 1 n')=H n'++L:=fun n n' L=>by rw[List.set_append_left _ _ (by rw[hm];exact V.lt),V.set]
 have hll:=XE l
 refine Qa Tryz.func34 rfl Tryz.call34 Tryz.ntmps34 Tryz.results34 (by simp) ?_
 repeat refine Qb ?_;simp only[go_sem,seval]
 obtain⟨I,hI⟩:∃I:Nat->AS->Prop,I=fun m' s=>∃(j:Nat) (v:List Int),m'=l.length - j/\j<=l.length/\ded v (QG (l.drop j))=ded u (QG l)/\v.length+ndsL (l.drop j)<=1000000/\s.tm 0 = .sl 1 (ints v) (some k)/\s.tm 1 = .sl 4 (avs l) none/\s.tm 5 = .i j/\s.h=H v.length++L:=⟨_,rfl⟩;refine Qi I ?_ (m:=l.length) ?_
 ·intro m' s hs;rw[hI]at hs;obtain⟨tm,hp⟩:=s;dsimp only at hs;obtain⟨j,v,rfl,hj,he,hvb,t0,t1,t5,rfl⟩:=hs
  by_cases hlt:j<l.length
  ·have wj:IntKind.i64.wrap (((j:Nat):Int)+1)=((j+1:Nat):Int):=Qz (by omega)
   rw[List.drop_eq_getElem_cons hlt,QG,Q1]at he
   rw[List.drop_eq_getElem_cons hlt,ndsL]at hvb
   have cv:=QhK l[j] (by omega)
   have hwl:=Xq [] (l[j]).vars
   have hwl2:=T.QtT l[j]
   have e2:ded v (ded [] (l[j]).vars)=ded v (l[j]).vars:=Qm9 _ [] v
   rw[List.length_nil]at hwl
   generalize hw:ded [] (l[j]).vars=w at *
   repeat (first|refine Qd cv ?_|refine Qb ?_);simp only[go_sem,seval,t1,t5,hlt,ZD hlt]
   have hIo:=hI
   obtain⟨I,hI⟩:∃I:Nat->AS->Prop,I=fun m' s=>∃(p:Nat) (x:List Int),m'=w.length - p/\p<=w.length/\ded x (w.drop p)=ded v w/\x.length+(w.length - p)+ndsL (l.drop (j+1))<=1000000/\s.tm 0 = .sl 1 (ints x) (some k)/\s.tm 1 = .sl 4 (avs l) none/\s.tm 5 = .i j/\s.tm 6 = .sl 1 (ints w) none/\s.tm 7 = .i p/\s.h=H x.length++L:=⟨_,rfl⟩;refine Qi I ?_ (m:=w.length) ?_
   ·intro m' s hs;rw[hI]at hs;obtain⟨tm,hp⟩:=s;dsimp only at hs;obtain⟨p,x,rfl,hp,hx,hxb,t0,t1,t5,t6,t7,rfl⟩:=hs
    by_cases hlp:p<w.length
    ·have wp:IntKind.i64.wrap (((p:Nat):Int)+1)=((p+1:Nat):Int):=Qz (by omega)
     have cp:=QdL x (some k) w[p] (by omega)
     rw[List.drop_eq_getElem_cons hlp]at hx
     have hb1:x.length+1<=maxLen:=by simp only[maxLen];omega
     have hb2:(x.length+1) * 8<=140737488355328:=by omega
     by_cases hmem:w[p]∈x
     ·have hx2:ded x (w.drop (p+1))=ded v w:=by rw[<-hx,ded];show _=ded (ins x w[p]) _;rw[ins,if_pos hmem]
      rw[plcR,if_pos hmem]at cp
      have z:¬((plc x w[p]:Nat):Int)<0:=by omega
      repeat (first|refine Qd cp ?_|refine Qb ?_);simp only[go_sem,seval,t0,t6,t7,hlp,QbJ hlp,z,wp]
      refine Qv.mk (m':=w.length - (p+1)) (by omega) ?_
      rw[hI]
      exact⟨p+1,x,rfl,hlp,hx2,by omega,t0,t1,t5,t6,rfl,rfl⟩
     ·have hx2:ded (x++[w[p]]) (w.drop (p+1))=ded v w:=by rw[<-hx,ded];show _=ded (ins x w[p]) _;rw[ins,if_neg hmem]
      rw[plcR,if_neg hmem]at cp
      have z:(-1:Int)<0:=by decide
      repeat (first|refine Qd cp ?_|refine Qb ?_);simp only[go_sem,seval,t0,t6,t7,hlp,QbJ hlp,z,wp,gt,st,hb1,hb2]
      refine Qv.mk (m':=w.length - (p+1)) (by omega) ?_
      rw[hI]
      exact⟨p+1,x++[w[p]],rfl,hlp,hx2,by rw[List.length_append,List.length_singleton];omega,by rw[Qe2,QkU];rfl,t1,t5,t6,rfl,by rw[List.length_append];rfl⟩
    ·have hpl:p=w.length:=by omega
     have hx2:x=ded v w:=by rw[<-hx,hpl,List.drop_length];rfl
     repeat refine Qb ?_;simp only[go_sem,seval,t5,t6,t7,hlp,wj]
     refine Qv.mk (m':=l.length - (j+1)) (by omega) ?_
     rw[hIo]
     refine⟨j+1,x,rfl,hlt,?_,by omega,t0,t1,rfl,rfl⟩
     rw[hx2,e2];exact he
   ·rw[hI]
    exact⟨0,v,rfl,Nat.zero_le _,rfl,by omega,t0,t1,t5,rfl,rfl,rfl⟩
  ·have hjl:j=l.length:=by omega
   rw[hjl,List.drop_length]at he
   simp only[QG,ded]at he
   repeat refine Qb ?_;simp only[go_sem,seval,t0,t1,t5,hlt]
   exact .inr ⟨by rw[he],by rw[he]⟩
 ·rw[hI]
  exact⟨0,u,by omega,Nat.zero_le _,rfl,by simpa using hb,rfl,rfl,rfl,rfl⟩
structure OneTk (tot:Nat) (t:Tk):Prop where
 int:t.kind=3->(∀c∈t.text.toList,isD c=true)/\numVal t.text.toList<=2147483648
 pos:0<=t.pos/\t.pos<=tot
 nam:t.kind=1->opB t.text=false
theorem Qpt{x:ByteArray}(h:opB x=true):∃c,x.toList=[c]/\isL c=false:=by
 rcases QhC.1 h with h|h
 ·simp only[Xo,List.mem_cons,List.not_mem_nil,or_false]at h
  rcases h with h|h|h <;> exact⟨_,h,by decide⟩
 ·simp only[Yl,List.mem_cons,List.not_mem_nil,or_false]at h
  rcases h with h|h <;> exact⟨_,h,by decide⟩
theorem Qri{q x:List UInt8}{k:Int}(h:XP q = .inl (k,x)):(k=3->(∀c∈x,isD c=true)/\numVal x<=2147483648)/\(k=1->opB (mkB x)=false):=by
 cases q with
 |nil=>cases h;exact⟨fun e=>absurd e (by decide),fun e=>absurd e (by decide)⟩
 |cons c r =>
  rw[XP]at h
  split at h
  ·rename_i hL
   split at h
   ·cases h
   ·cases h
    refine⟨fun e=>by split at e <;> exact absurd e (by decide),fun _=>?_⟩
    cases ho:opB (mkB ((c::r).takeWhile isW))with
    |false=>rfl
    |true =>
     obtain⟨d,h1,h2⟩:=Qpt ho
     have hw:isW c=true:=by unfold isW;rw[hL];rfl
     rw[QdJ,List.takeWhile_cons,if_pos hw,List.cons.injEq]at h1
     rw[h1.1]at hL
     rw[hL]at h2;cases h2
  ·split at h
   ·split at h
    ·cases h
    ·rename_i hb
     cases h
     exact⟨fun _=>⟨fun d hd=>List.all_eq_true.1 List.all_takeWhile d hd,by omega⟩,fun e=>absurd e (by decide)⟩
   ·split at h
    ·cases h;exact⟨fun e=>absurd e (by decide),fun e=>absurd e (by decide)⟩
    ·cases h
theorem Qll(tot:Nat):∀(m:Nat) (q:List UInt8) (ts:List Tk),ZG tot m q = .inl ts->q.length<m->(∀t∈ts,OneTk tot t)/\(∃a e,ts=a++[e]/\e.kind=0/\∀t∈a,t.kind≠0)/\ts.length<=q.length+1
 |0,_,_,_,h=>by omega
 |m+1,q,ts,h,hm=>by
  rw[ZG]at h
  have hsk:=QbS false q
  cases ht:XP (QJ false q)with
  |inr e=>rw[ht]at h;cases h
  |inl p =>
   obtain⟨k,x⟩:=p
   rw[ht]at h
   simp only at h
   obtain⟨h1,h2⟩:=Qri ht
   split at h
   ·rename_i k0
    cases h
    refine⟨fun t hm=>?_,⟨[],_,rfl,rfl,fun t h=>(List.not_mem_nil h).elim⟩,by simp⟩
    rw[List.mem_singleton]at hm
    subst hm
    exact⟨fun e=>absurd (show(0:Int)=3 from e) (by decide),⟨by show(0:Int)<=((tot - _:Nat):Int);omega,by show((tot - _:Nat):Int)<=_;omega⟩,fun e=>absurd (show(0:Int)=1 from e) (by decide)⟩
   ·rename_i k0
    rcases QhW ht with⟨k1,_,_⟩|⟨k1,hx1,r,hx2⟩
    ·exact absurd k1 k0
    ·have hxl:0<x.length:=List.length_pos_iff.2 hx1
     have hxr:x.length<=(QJ false q).length:=by rw[hx2,List.length_append];omega
     cases hs:ZG tot m ((QJ false q).drop x.length)with
     |inr e=>rw[hs]at h;cases h
     |inl us =>
      rw[hs]at h
      cases h
      obtain⟨a1,⟨a,e,a2,a3,a4⟩,a5⟩:=Qll tot m _ us hs (by rw[List.length_drop];omega)
      rw[List.length_drop]at a5
      refine⟨fun t hm=>?_,⟨⟨k,_,mkB x⟩::a,e,by rw[a2];rfl,a3,fun t hm=>?_⟩,by simp only[QuP];omega⟩
      ·rw[List.mem_cons]at hm
       rcases hm with rfl|hm
       ·exact⟨fun e=>by rw[QdJ];exact h1 e,⟨by show(0:Int)<=((tot - _:Nat):Int);omega,by show((tot - _:Nat):Int)<=_;omega⟩,h2⟩
       ·exact a1 t hm
      ·rw[List.mem_cons]at hm
       rcases hm with rfl|hm
       ·exact k1
       ·exact a4 t hm
theorem QbR{l:List UInt8}{ts:List Tk}(h:XN l = .inl ts):TkOk ts/\Wst ts ⟨ts,[]⟩/\ts.length<=1000000/\l.length<=16384:=by
 rw[XN]at h
 split at h
 ·cases h
 ·rename_i hl
  obtain⟨h1,⟨a,e,h2,h3,h4⟩,h5⟩:=Qll l.length (l.length+1) l ts h (by omega)
  exact⟨⟨fun t ht=>(h1 t ht).int,fun t ht=>⟨(h1 t ht).pos.1,by have:=(h1 t ht).pos.2;omega⟩,fun t ht=>(h1 t ht).nam⟩,⟨⟨a,e,h2,h3,h4⟩,List.suffix_refl _,by simp⟩,by omega,by omega⟩
end Go.Proofs.YticgcpebdldbgaaGreatDoor.Ab
set_option maxRecDepth 4000
namespace Go.Proofs.YticgcpebdldbgaaGreatDoor.Ab
open Go.Proofs
theorem Qji(tot:Nat):∀(m:Nat) (q:List UInt8) (p:Int×Int),ZG tot m q = .inr p->p.2≠0
 |0,_,_,h=>by cases h
 |m+1,q,p,h=>by
  rw[ZG]at h
  cases ht:XP (QJ false q)with
  |inr e=>rw[ht]at h;cases h;exact QhV ht
  |inl y =>
   obtain⟨k,x⟩:=y
   rw[ht]at h
   simp only at h
   split at h
   ·cases h
   ·cases hs:ZG tot m ((QJ false q).drop x.length)with
    |inr e=>rw[hs]at h;cases h;exact Qji tot m _ _ hs
    |inl us=>rw[hs]at h;cases h
theorem ZB{l:List UInt8}{p:Int×Int}(h:XN l = .inr p):p.2≠0:=by
 rw[XN]at h
 split at h
 ·cases h;decide
 ·exact Qji _ _ _ _ h
theorem Qjp{l:List UInt8}{ts:List Tk}(hs:XN l = .inl ts)(h:AH)(hG:Zf h):Qj Tryz.prog 40 [.v (.string (mkB l))] h fun o h'=>o = .ret (.agg [.sl 3 (tks ts) none,.i 0])/\h'=h:=by
 have cs:=fun L=>Qjh l (h++L) (hG.app L)
 rw[hs,scR]at cs
 have e0:((0:Int) != 0)=false:=rfl
 refine Qa Tryz.func40 rfl Tryz.call40 Tryz.ntmps40 Tryz.results40 (by simp) ?_
 repeat (first|refine FunW.QtJ (cs _) ?_|refine Qb ?_);simp only[go_sem,seval]
 refine Qc (htake _ _) (.keep (.agg _ fun a ha=>?_)) ⟨rfl,rfl⟩
 simp only[List.mem_cons,List.not_mem_nil,or_false]at ha
 rcases ha with rfl|rfl
 ·exact .sl 3 _ none (QaX _ _) (fun b hb=>by cases hb)
 ·exact .v _
theorem Qms{l:List UInt8}{p e:Int}(hs:XN l = .inr (p,e))(h:AH)(hG:Zf h):Qj Tryz.prog 40 [.v (.string (mkB l))] h fun o h'=>o = .panic (Fl p e)/\h'=h:=by
 have cs:=fun L=>Qjh l (h++L) (hG.app L)
 rw[hs,scR]at cs
 have e0:(e != 0)=true:=by simpa using ZB hs
 have hu:=Tryz.underlying90
 refine Qa Tryz.func40 rfl Tryz.call40 Tryz.ntmps40 Tryz.results40 (by simp) ?_
 repeat (first|refine FunW.QtJ (cs _) ?_|refine Qb ?_);simp only[go_sem,seval,e0,hu]
 exact Qc (htake _ _) (.keep (QbG _ _ _)) ⟨rfl,rfl⟩
def P0(h:AH)(ts:List Tk):Pz:=⟨ts,h.length+2,h.length+4,h.length+3⟩
def hp0(h:AH)(ts:List Tk):AH:=ph (h++[iC 0,eC 0,.cells 61 4 [.agg [.sl 3 (tks ts) none,.i 0,.v (.slice none 0 0),.v (.map none)]]]++[.dead,.dead]) (P0 h ts) ⟨ts,[]⟩
theorem QqG(h:AH)(ts:List Tk)(x:AB):(P0 h ts).ok (h++[iC 0,eC 0,x]++[.dead,.dead]):=by
 refine⟨?_,?_,?_,?_,?_,?_⟩ <;> simp only[P0,Qvt,QuP,QuQ] <;> omega
theorem Qp7(h:AH)(ts:List Tk):Qj Tryz.prog 41 [.ptr (h.length+2) 0 0] (h++[iC 0,eC 0,.cells 61 4 [.agg [.sl 3 (tks ts) none,.i 0,.v (.slice none 0 0),.v (.map none)]]]) fun o h'=>o = .ret (.tup [])/\h'=hp0 h ts:=by
 have:=QjG (X:=h++[iC 0,eC 0,.cells 61 4 [.agg [.sl 3 (tks ts) none,.i 0,.v (.slice none 0 0),.v (.map none)]]]) (P:=P0 h ts) (s:=⟨ts,[]⟩) (by
  show(h++_)[h.length+2]? = _
  rw[hget]
  simp only[P0,Nat.sub_self];rfl) (by simp[P0])
 refine this.mono ?_
 rintro o h' ⟨rfl,rfl⟩
 refine⟨rfl,?_⟩
 rw[hp0]
 congr 1
 simp[P0,Pz.to]
theorem panQ{P:Program}{rs:List ResultVar}{h H:AH}{Q:AOut->AH->Prop}{tm:Nat->AV}{p e a0 e0:Int}{k:Nat}(hP:P=Tryz.prog)(hk:H[k]? = some (iC a0))(hk1:H[k+1]? = some (eC e0))(hq:∀L,Qc2 P rs h Q .ret ⟨tm,(H.set k (iC p)).set (k+1) (eC e)++L⟩) :
  Qg3 P rs h Q [(39,[.ptr k 0 0,.ptr (k+1) 0 0])] (.pan (Fl p e) false) ⟨tm,H⟩:=by
 subst hP
 simp only[Qg3]
 refine QaZ.mono (Qoi hk hk1 p e) ?_
 rintro m' h' ⟨rfl,L,rfl⟩
 exact hq L
theorem rtQ{P:Program}{rs:List ResultVar}{h H:AH}{Q:AOut->AH->Prop}{tm:Nat->AV}{k:Nat}(hP:P=Tryz.prog)(hq:Qc2 P rs h Q .ret ⟨tm,H⟩) :
  Qg3 P rs h Q [(39,[.ptr k 0 0,.ptr (k+1) 0 0])] .ret ⟨tm,H⟩:=by
 subst hP
 simp only[Qg3]
 refine QaZ.mono Qoj ?_
 rintro m' h' ⟨rfl,rfl⟩
 exact hq
theorem Qmz(n:Nat)(a b:Int):Below n (.tup [.i a,.i b]):=.tup _ fun x hx=>by
 simp only[List.mem_cons,List.not_mem_nil,or_false]at hx
 rcases hx with rfl|rfl <;> exact .v _
theorem Qfw{l:List UInt8}{p e:Int}(hs:XN l = .inr (p,e))(fv:AV)(h:AH)(hG:Zf h):Qj Tryz.prog 17 [.v (.string (mkB l)),fv] h fun o h'=>o = .ret (.tup [.i p,.i e])/\h'=h:=by
 have cs:=fun L=>Qms hs (h++L) (hG.app L)
 refine Qaf Tryz.func17 rfl Tryz.call17 Tryz.ntmps17 (congrArg Array.toList Tryz.results17) (by simp) ?_
 refine Yx (Yc ?_)
 repeat refine Qb ?_;simp only[go_sem,seval]
 show DefW _ _ _ _ _ _
 refine Yx (Qb8 1 rfl rfl rfl ?_)
 simp only[go_sem,seval]
 refine⟨_,_,_,rfl,?_⟩
 show DefW _ _ _ _ _ _
 refine Yx (Yc ?_)
 repeat (first|refine FunW.pan (FunW.call (cs _)) ?_|refine Qb ?_);simp only[go_sem,seval]
 simp only[AExit.Quv,QmE]
 refine panQ (a0:=0) (e0:=0) rfl (by rw[Y8];rfl) (by rw[hget];rfl) fun L=>?_
 rw[Qah,hset]
 simp only[go_sem,seval,List.append_assoc]
 exact Qc (htake _ _) (.keep (Qmz _ _ _)) ⟨rfl,rfl⟩
section
variable{l:List UInt8}{ts:List Tk}(hs:XN l = .inl ts)(fv:AV)(h:AH)(hG:Zf h)(Ok:AH->Prop)(hOk:∀Y a b L,h.length+1<Y.length->Ok Y->Ok ((Y.set h.length a).set (h.length+1) b++L))
include hs hG hOk
theorem Qkg(HF:FunW Tryz.prog fv [.ptr (h.length+2) 0 0] (hp0 h ts) fun o h'=>o = .ret (.tup [])/\∃Y:{Y:AH // Y[h.length]? = some (iC 0)/\Y[h.length+1]? = some (eC 0)/\Ok Y},h'=Y.1) :
  Qj Tryz.prog 17 [.v (.string (mkB l)),fv] h fun o h'=>o = .ret (.tup [.i 0,.i 0])/\∃Y:{Y:AH // Ok Y},h'=Y.1:=by
 have cs:=fun L=>Qjp hs (h++L) (hG.app L)
 have cc:=Qp7 h ts
 refine Qaf Tryz.func17 rfl Tryz.call17 Tryz.ntmps17 (congrArg Array.toList Tryz.results17) (by simp) ?_
 refine Yx (Yc ?_)
 repeat refine Qb ?_;simp only[go_sem,seval]
 show DefW _ _ _ _ _ _
 refine Yx (Qb8 1 rfl rfl rfl ?_)
 simp only[go_sem,seval]
 refine⟨_,_,_,rfl,?_⟩
 show DefW _ _ _ _ _ _
 refine Yx (Yc ?_)
 repeat (first|refine FunW.QtJ (cs _) ?_|refine Qb ?_);simp only[go_sem,seval]
 show DefW _ _ _ _ _ _
 refine Yx (Yc ?_)
 repeat (first|refine FunW.QtJ cc ?_|refine Qb ?_);simp only[go_sem,seval]
 show DefW _ _ _ _ _ _
 refine Yx (Yc ?_)
 repeat (first|refine FunW.retE HF fun Y=>?_|refine Qb ?_);simp only[go_sem,seval]
 have hY:=Y.2
 generalize Y.1=Y1 at *
 obtain⟨y1,y2,y3⟩:=hY
 have l1:=Qe y1
 have l2:=Qe y2
 repeat refine Qb ?_;simp only[go_sem,seval]
 show DefW _ _ _ _ _ _
 refine Yc ?_
 have u1:∀y,(Y1.set h.length y)[h.length+1]? = some (eC 0):=fun y=>by rw[List.getElem?_set_ne (by omega)];exact y2
 have u2:∀y z,((Y1.set h.length y).set (h.length+1) z)[h.length]? = some y:=fun y z=>by rw[List.getElem?_set_ne (by omega),List.getElem?_set_self l1]
 have u3:∀y z,((Y1.set h.length y).set (h.length+1) z)[h.length+1]? = some z:=fun y z=>List.getElem?_set_self (by rw[List.length_set];exact l2)
 repeat refine Qb ?_;simp only[go_sem,seval,y1,u1]
 simp only[QmE]
 refine rtQ rfl ?_
 simp only[go_sem,seval,u2,u3]
 have:=hOk Y1 (iC 0) (eC 0) [] l2 y3
 rw[List.append_nil]at this
 exact .inr ⟨rfl,⟨_,this⟩,rfl⟩
theorem QhH{p e:Int}(HF:FunW Tryz.prog fv [.ptr (h.length+2) 0 0] (hp0 h ts) fun o h'=>o = .panic (Fl p e)/\∃Y:{Y:AH // Y[h.length]? = some (iC 0)/\Y[h.length+1]? = some (eC 0)/\Ok Y},h'=Y.1) :
  Qj Tryz.prog 17 [.v (.string (mkB l)),fv] h fun o h'=>o = .ret (.tup [.i p,.i e])/\∃Y:{Y:AH // Ok Y},h'=Y.1:=by
 have cs:=fun L=>Qjp hs (h++L) (hG.app L)
 have cc:=Qp7 h ts
 refine Qaf Tryz.func17 rfl Tryz.call17 Tryz.ntmps17 (congrArg Array.toList Tryz.results17) (by simp) ?_
 refine Yx (Yc ?_)
 repeat refine Qb ?_;simp only[go_sem,seval]
 show DefW _ _ _ _ _ _
 refine Yx (Qb8 1 rfl rfl rfl ?_)
 simp only[go_sem,seval]
 refine⟨_,_,_,rfl,?_⟩
 show DefW _ _ _ _ _ _
 refine Yx (Yc ?_)
 repeat (first|refine FunW.QtJ (cs _) ?_|refine Qb ?_);simp only[go_sem,seval]
 show DefW _ _ _ _ _ _
 refine Yx (Yc ?_)
 repeat (first|refine FunW.QtJ cc ?_|refine Qb ?_);simp only[go_sem,seval]
 show DefW _ _ _ _ _ _
 refine Yx (Yc ?_)
 repeat (first|refine FunW.panE HF fun Y=>?_|refine Qb ?_);simp only[go_sem,seval]
 have hY:=Y.2
 generalize Y.1=Y1 at *
 obtain⟨y1,y2,y3⟩:=hY
 have l1:=Qe y1
 have l2:=Qe y2
 simp only[AExit.Quv,QmE]
 refine panQ rfl y1 y2 fun L=>?_
 have u2:∀y z,((Y1.set h.length y).set (h.length+1) z++L)[h.length]? = some y:=fun y z=>by rw[List.getElem?_append_left (by simp only[List.length_set];exact l1),List.getElem?_set_ne (by omega),List.getElem?_set_self l1]
 have u3:∀y z,((Y1.set h.length y).set (h.length+1) z++L)[h.length+1]? = some z:=fun y z=>by rw[List.getElem?_append_left (by simp only[List.length_set];exact l2)];exact List.getElem?_set_self (by rw[List.length_set];exact l2)
 simp only[go_sem,seval,u2,u3]
 exact .inr ⟨rfl,⟨_,hOk Y1 (iC p) (eC e) L l2 y3⟩,rfl⟩
end
end Go.Proofs.YticgcpebdldbgaaGreatDoor.Ab
set_option maxRecDepth 4000
namespace Go.Proofs.YticgcpebdldbgaaGreatDoor.Ab
open Go.Proofs
theorem FunW.cl{P:Program}{f:FuncId}{args cap:List AV}{h:AH}{Q:AOut->AH->Prop}(H:Qj P f (args++cap) h Q):FunW P (.fn (.func f) [] cap) args h Q:=FunW.fn (by rw[List.nil_append];exact H)
def psR:Pg ⊕ (Int×Int)->AV
 | .inl p=>.tup [p.av,.i 0,.i 0]
 | .inr e=>.tup [(⟨[],[]⟩:Pg).av,.i e.1,.i e.2]
theorem Qqs(n:Nat)(p:Pg):Below n p.av:=.agg _ fun a ha=>by
 simp only[List.mem_cons,List.not_mem_nil,or_false]at ha
 rcases ha with rfl|rfl
 ·exact QbU Dc.av n 2 (fun d=>Dc.bel n d) _
 ·exact QbU Rl.av n 6 (fun r=>Rl.bel n r) _
theorem Qn5(n:Nat)(r:Pg ⊕ (Int×Int)):Below n (psR r):=by
 cases r with
 |inl p=>exact YY (Qqs n p) _ _
 |inr e=>exact YY (Qqs n _) _ _
theorem Qn6{H:AH}{m:Nat}(p e:Int):Frz H m (.tup [.agg [.v (.slice none 0 0),.v (.slice none 0 0)],.i p,.i e]) (psR (.inr (p,e))):=by
 refine .tup rfl fun j a a' h1 h2=>?_
 match j,h1,h2 with
 |0,h1,h2 =>
  cases h1;cases h2
  refine .agg rfl fun j a a' h1 h2=>?_
  match j,h1,h2 with
  |0,h1,h2=>cases h1;cases h2;exact .nil 2
  |1,h1,h2=>cases h1;cases h2;exact .nil 6
  |j+2,h1,h2=>simp at h1
 |1,h1,h2=>cases h1;cases h2;exact .keep (.v _)
 |2,h1,h2=>cases h1;cases h2;exact .keep (.v _)
 |j+3,h1,h2=>simp at h1
abbrev rZ0:AB:=.cells 40 6 [.agg [.v (.string {data:=#[]}),nilV,nilV,nilV,nilV,.i 0]]
def rsR:Rl ⊕ (Int×Int)->AV
 | .inl r=>.tup [r.av,.i 0,.i 0]
 | .inr e=>.tup [(⟨eB,[],[],[],[],0⟩:Rl).av,.i e.1,.i e.2]
theorem Qqx(n:Nat)(r:Rl):Below n r.av:=.agg _ fun a ha=>Rl.bel n r a (by rw[Rl.cells];exact ha)
theorem Qjb(n:Nat)(r:Rl ⊕ (Int×Int)):Below n (rsR r):=by
 cases r with
 |inl p=>exact YY (Qqx n p) _ _
 |inr e=>exact YY (Qqx n _) _ _
theorem QfA{H:AH}{m:Nat}(p e:Int):Frz H m (.tup [.agg [.v (.string {data:=#[]}),nilV,nilV,nilV,nilV,.i 0],.i p,.i e]) (rsR (.inr (p,e))):=by
 refine .tup rfl fun j a a' h1 h2=>?_
 match j,h1,h2 with
 |0,h1,h2 =>
  cases h1;cases h2
  refine .agg rfl fun j a a' h1 h2=>?_
  match j,h1,h2 with
  |0,h1,h2=>cases h1;cases h2;exact .keep (.v _)
  |1,h1,h2=>cases h1;cases h2;exact .nil 2
  |2,h1,h2=>cases h1;cases h2;exact .nil 2
  |3,h1,h2=>cases h1;cases h2;exact .nil 3
  |4,h1,h2=>cases h1;cases h2;exact .nil 3
  |5,h1,h2=>cases h1;cases h2;exact .keep (.v _)
  |j+6,h1,h2=>simp at h1
 |1,h1,h2=>cases h1;cases h2;exact .keep (.v _)
 |2,h1,h2=>cases h1;cases h2;exact .keep (.v _)
 |j+3,h1,h2=>simp at h1
theorem QnX{all:List Tk}{s:PS}(hW:Wst all s){p e:Int}(h:Z9 s = .err p e):e≠0:=Kp.Ps.err (n:=wdOf all) (Kp.one_ps trivial) hW h
theorem Ql6{all:List Tk}{s:PS}(hW:Wst all s){p e:Int}(h:Qj6 s = .err p e):e≠0:=Kp.Ps.err (n:=wdOf all) (Kp.prog_ps trivial) hW h
section
variable(l:List UInt8)(h:AH)(hG:Zf h)
include hG
theorem Qdo:Qj Tryz.prog 7 [.v (.string (mkB l))] h fun o h'=>o = .ret (psR (Qla l))/\h'=h:=by
 rw[Qla]
 cases hs:XN l with
 |inr q =>
  obtain⟨p,e⟩:=q
  have cr:=fun fv L=>Qfw hs fv (h++L) (hG.app L)
  have e0:(e != 0)=true:=by simpa using ZB hs
  refine Qa Tryz.func7 rfl Tryz.call7 Tryz.ntmps7 Tryz.results7 (by simp) ?_
  repeat first|(first|refine FunW.QtJ (cr _ _) ?_|refine Qb ?_);simp only[go_sem,seval,e0]|refine hK _ ?_;clear hK
  exact Qc (htake _ _) (Qn6 _ _) ⟨rfl,rfl⟩
 |inl ts =>
  obtain⟨hD,hW,hN,hl⟩:=QbR hs
  obtain⟨H,hH⟩:∃H,H=h++[pgB nilV nilV,pgB nilV nilV]:=⟨_,rfl⟩
  have hHl:H.length=h.length+2:=by rw[hH];simp
  have hHG:Zf H:=by rw[hH];exact hG.app _
  have hPo:=QqG H ts (.cells 61 4 [.agg [.sl 3 (tks ts) none,.i 0,.v (.slice none 0 0),.v (.map none)]])
  have hout:∀i,i<h.length->(H++[iC 0,eC 0,.cells 61 4 [.agg [.sl 3 (tks ts) none,.i 0,.v (.slice none 0 0),.v (.map none)]]]++[.dead,.dead])[i]? = h[i]? := fun i hi=>by
   rw[List.append_assoc,List.getElem?_append_left (by omega),hH,List.getElem?_append_left hi]
  have hlen:(H++[iC 0,eC 0,.cells 61 4 [.agg [.sl 3 (tks ts) none,.i 0,.v (.slice none 0 0),.v (.map none)]]]++[AB.dead,.dead]).length=h.length+7:=by simp only[Qvt,QuP,QuQ,hHl]
  have cf:=Qma (P:=P0 H ts) (s:=⟨ts,[]⟩) hW hPo hN hD (o:=h.length+1) (by omega) (by simp only[P0];omega) (by simp only[P0];omega) (by simp only[P0];omega)
   (by rw[List.append_assoc,List.getElem?_append_left (by omega),hH,hget];rfl)
  have hst:∀(K:AH->Prop) (Y:AH) a b L,H.length+1<Y.length->(∀i,i<h.length->Y[i]? = h[i]?)->∀i,i<h.length->((Y.set H.length a).set (H.length+1) b++L)[i]? = h[i]? := fun K Y a b L hl hy i hi=>by
   rw[List.getElem?_append_left (by simp only[List.length_set];omega),List.getElem?_set_ne (by omega),List.getElem?_set_ne (by omega)];exact hy i hi
  have hc0:∀Y,KpO (H++[iC 0,eC 0,.cells 61 4 [.agg [.sl 3 (tks ts) none,.i 0,.v (.slice none 0 0),.v (.map none)]]]++[AB.dead,.dead]) (P0 H ts) (h.length+1) Y->Y[H.length]? = some (iC 0)/\Y[H.length+1]? = some (eC 0)/\h.length+7<=Y.length/\(∀i,i<h.length->Y[i]? = h[i]?)/\Y[h.length]? = some (pgB nilV nilV):=fun Y hY=>by
   refine⟨?_,?_,by have:=hY.long;omega,fun i hi=>?_,?_⟩
   ·rw[hY.out H.length (by omega) (by omega) (by simp only[P0];omega) (by simp only[P0];omega) (by simp only[P0];omega),List.append_assoc,Y8];rfl
   ·rw[hY.out (H.length+1) (by omega) (by omega) (by simp only[P0];omega) (by simp only[P0];omega) (by simp only[P0];omega),List.append_assoc,hget];rfl
   ·rw[hY.out i (by omega) (by omega) (by simp only[P0];omega) (by simp only[P0];omega) (by simp only[P0];omega)];exact hout i hi
   ·rw[hY.out h.length (by omega) (by omega) (by simp only[P0];omega) (by simp only[P0];omega) (by simp only[P0];omega),List.append_assoc,List.getElem?_append_left (by omega),hH,Y8];rfl
  cases hp:Qj6 ⟨ts,[]⟩with
  |err p e =>
   rw[hp]at cf
   have e0:(e != 0)=true:=by simpa using Ql6 hW hp
   have cr:=QhH hs (.fn (.func 18) [] [.ptr (h.length+1) 0 0]) H hHG (fun Y=>h.length+2<=Y.length/\(∀i,i<h.length->Y[i]? = h[i]?)/\Y[h.length]? = some (pgB nilV nilV))
    (fun Y a b L hl hy=>⟨by simp only[Qvt,List.length_set];omega,hst (fun _=>True) Y a b L hl hy.2.1,by rw[List.getElem?_append_left (by simp only[List.length_set];omega),List.getElem?_set_ne (by omega),List.getElem?_set_ne (by omega)];exact hy.2.2⟩) (p:=p) (e:=e)
    (FunW.cl (cf.mono fun o h' q=>by
     obtain⟨q1,⟨Y,hY⟩,q2⟩:=q
     obtain⟨y1,y2,y3,y4,y5⟩:=hc0 Y hY
     exact⟨q1,⟨Y,y1,y2,by omega,y4,y5⟩,q2⟩))
   rw[hH]at cr
   refine Qa Tryz.func7 rfl Tryz.call7 Tryz.ntmps7 Tryz.results7 (by simp) ?_
   repeat first|(first|refine FunW.retE (FunW.call cr) fun Y=>?_|refine Qb ?_);simp only[go_sem,seval,e0,Qvt]|refine hK _ ?_;clear hK
   have hY:=Y.2
   generalize Y.1=Y1 at *
   obtain⟨y0,y1,y2⟩:=hY
   have u1:∀y,(Y1.set h.length y)[h.length]? = some y:=fun y=>List.getElem?_set_self (by omega)
   have ht:∀y,(Y1.set h.length y).take h.length=h:=fun y=>List.ext_getElem? fun i=>by
    by_cases hi:i<h.length
    ·rw[List.getElem?_take_of_lt hi,List.getElem?_set_ne (by omega)];exact y1 i hi
    ·rw[List.getElem?_take_eq_none (by omega),List.getElem?_eq_none (by omega)]
   simp only[Xt,XZ,↓reduceIte,QuP,QuQ,Nat.reduceAdd,QuO,Qva,QuC,Qu6,QuE,y2]
   repeat first|refine Qb ?_;simp only[go_sem,seval]|refine hK _ ?_;clear hK
   simp only[go_sem,seval,u1]
   exact Qc (ht _) (Qn6 _ _) ⟨by simp only[hp],rfl⟩
  |ok pg s2 =>
   rw[hp]at cf
   have e0:((0:Int) != 0)=false:=rfl
   obtain⟨D,hDe⟩:∃D,D=pgB (.sl 2 (vs Dc.av pg.decls) none) (.sl 6 (vs Rl.av pg.rules) none):=⟨_,rfl⟩
   have cr:=Qkg hs (.fn (.func 18) [] [.ptr (h.length+1) 0 0]) H hHG (fun Y=>h.length+2<=Y.length/\(∀i,i<h.length->Y[i]? = h[i]?)/\Y[h.length]? = some (pgB nilV nilV)/\Y[h.length+1]? = some D)
    (fun Y a b L hl hy=>⟨by simp only[Qvt,List.length_set];omega,hst (fun _=>True) Y a b L hl hy.2.1,by rw[List.getElem?_append_left (by simp only[List.length_set];omega),List.getElem?_set_ne (by omega),List.getElem?_set_ne (by omega)];exact hy.2.2.1,by rw[List.getElem?_append_left (by simp only[List.length_set];omega),List.getElem?_set_ne (by omega),List.getElem?_set_ne (by omega)];exact hy.2.2.2⟩)
    (FunW.cl (cf.mono fun o h' q=>by
     obtain⟨q1,⟨Y,hY,hY2⟩,q2⟩:=q
     obtain⟨y1,y2,y3,y4,y5⟩:=hc0 Y hY
     exact⟨q1,⟨Y,y1,y2,by omega,y4,y5,by rw[hDe];exact hY2⟩,q2⟩))
   rw[hH]at cr
   refine Qa Tryz.func7 rfl Tryz.call7 Tryz.ntmps7 Tryz.results7 (by simp) ?_
   repeat first|(first|refine FunW.retE (FunW.call cr) fun Y=>?_|refine Qb ?_);simp only[go_sem,seval,Qvt]|refine hK _ ?_;clear hK
   have hY:=Y.2
   generalize Y.1=Y1 at *
   obtain⟨y0,y1,y2,y3⟩:=hY
   rw[hDe]at y3
   have u1:∀y,(Y1.set h.length y)[h.length]? = some y:=fun y=>List.getElem?_set_self (by omega)
   have ht:∀y,(Y1.set h.length y).take h.length=h:=fun y=>List.ext_getElem? fun i=>by
    by_cases hi:i<h.length
    ·rw[List.getElem?_take_of_lt hi,List.getElem?_set_ne (by omega)];exact y1 i hi
    ·rw[List.getElem?_take_eq_none (by omega),List.getElem?_eq_none (by omega)]
   simp only[Xt,XZ,QuW,QuX,QaC,QuY,↓reduceIte,QuP,QuQ,Nat.reduceAdd,QuO,Qva,QuC,Qu6,QuE,y2,y3]
   repeat first|refine Qb ?_;simp only[go_sem,seval]|refine hK _ ?_;clear hK
   simp only[go_sem,seval,u1]
   exact Qc (ht _) (.keep (Qn5 _ (.inl pg))) ⟨by simp only[hp];rfl,rfl⟩
theorem Qf1:Qj Tryz.prog 14 [.v (.string (mkB l))] h fun o h'=>o = .ret (rsR (Qfs l))/\h'=h:=by
 rw[Qfs]
 cases hs:XN l with
 |inr q =>
  obtain⟨p,e⟩:=q
  have cr:=fun fv L=>Qfw hs fv (h++L) (hG.app L)
  have e0:(e != 0)=true:=by simpa using ZB hs
  refine Qa Tryz.func14 rfl Tryz.call14 Tryz.ntmps14 Tryz.results14 (by simp) ?_
  repeat first|(first|refine FunW.QtJ (cr _ _) ?_|refine Qb ?_);simp only[go_sem,seval,e0]|refine hK _ ?_;clear hK
  exact Qc (htake _ _) (QfA _ _) ⟨rfl,rfl⟩
 |inl ts =>
  obtain⟨hD,hW,hN,hl⟩:=QbR hs
  obtain⟨H,hH⟩:∃H,H=h++[rZ0,rZ0]:=⟨_,rfl⟩
  have hHl:H.length=h.length+2:=by rw[hH];simp
  have hHG:Zf H:=by rw[hH];exact hG.app _
  have hPo:=QqG H ts (.cells 61 4 [.agg [.sl 3 (tks ts) none,.i 0,.v (.slice none 0 0),.v (.map none)]])
  have hout:∀i,i<h.length->(H++[iC 0,eC 0,.cells 61 4 [.agg [.sl 3 (tks ts) none,.i 0,.v (.slice none 0 0),.v (.map none)]]]++[.dead,.dead])[i]? = h[i]? := fun i hi=>by
   rw[List.append_assoc,List.getElem?_append_left (by omega),hH,List.getElem?_append_left hi]
  have hlen:(H++[iC 0,eC 0,.cells 61 4 [.agg [.sl 3 (tks ts) none,.i 0,.v (.slice none 0 0),.v (.map none)]]]++[AB.dead,.dead]).length=h.length+7:=by simp only[Qvt,QuP,QuQ,hHl]
  have cf:=Qmn (P:=P0 H ts) (s:=⟨ts,[]⟩) hW hPo hN hD (o:=h.length+1) (by omega) (by simp only[P0];omega) (by simp only[P0];omega) (by simp only[P0];omega)
   (by rw[List.append_assoc,List.getElem?_append_left (by omega),hH,hget];rfl)
  have hst:∀(K:AH->Prop) (Y:AH) a b L,H.length+1<Y.length->(∀i,i<h.length->Y[i]? = h[i]?)->∀i,i<h.length->((Y.set H.length a).set (H.length+1) b++L)[i]? = h[i]? := fun K Y a b L hl hy i hi=>by
   rw[List.getElem?_append_left (by simp only[List.length_set];omega),List.getElem?_set_ne (by omega),List.getElem?_set_ne (by omega)];exact hy i hi
  have hc0:∀Y,KpO (H++[iC 0,eC 0,.cells 61 4 [.agg [.sl 3 (tks ts) none,.i 0,.v (.slice none 0 0),.v (.map none)]]]++[AB.dead,.dead]) (P0 H ts) (h.length+1) Y->Y[H.length]? = some (iC 0)/\Y[H.length+1]? = some (eC 0)/\h.length+7<=Y.length/\(∀i,i<h.length->Y[i]? = h[i]?)/\Y[h.length]? = some (rZ0):=fun Y hY=>by
   refine⟨?_,?_,by have:=hY.long;omega,fun i hi=>?_,?_⟩
   ·rw[hY.out H.length (by omega) (by omega) (by simp only[P0];omega) (by simp only[P0];omega) (by simp only[P0];omega),List.append_assoc,Y8];rfl
   ·rw[hY.out (H.length+1) (by omega) (by omega) (by simp only[P0];omega) (by simp only[P0];omega) (by simp only[P0];omega),List.append_assoc,hget];rfl
   ·rw[hY.out i (by omega) (by omega) (by simp only[P0];omega) (by simp only[P0];omega) (by simp only[P0];omega)];exact hout i hi
   ·rw[hY.out h.length (by omega) (by omega) (by simp only[P0];omega) (by simp only[P0];omega) (by simp only[P0];omega),List.append_assoc,List.getElem?_append_left (by omega),hH,Y8];rfl
  cases hp:Z9 ⟨ts,[]⟩with
  |err p e =>
   rw[hp]at cf
   have e0:(e != 0)=true:=by simpa using QnX hW hp
   have cr:=QhH hs (.fn (.func 37) [] [.ptr (h.length+1) 0 0]) H hHG (fun Y=>h.length+2<=Y.length/\(∀i,i<h.length->Y[i]? = h[i]?)/\Y[h.length]? = some (rZ0))
    (fun Y a b L hl hy=>⟨by simp only[Qvt,List.length_set];omega,hst (fun _=>True) Y a b L hl hy.2.1,by rw[List.getElem?_append_left (by simp only[List.length_set];omega),List.getElem?_set_ne (by omega),List.getElem?_set_ne (by omega)];exact hy.2.2⟩) (p:=p) (e:=e)
    (FunW.cl (cf.mono fun o h' q=>by
     obtain⟨q1,⟨Y,hY⟩,q2⟩:=q
     obtain⟨y1,y2,y3,y4,y5⟩:=hc0 Y hY
     exact⟨q1,⟨Y,y1,y2,by omega,y4,y5⟩,q2⟩))
   rw[hH]at cr
   refine Qa Tryz.func14 rfl Tryz.call14 Tryz.ntmps14 Tryz.results14 (by simp) ?_
   repeat first|(first|refine FunW.retE (FunW.call cr) fun Y=>?_|refine Qb ?_);simp only[go_sem,seval,e0,Qvt]|refine hK _ ?_;clear hK
   have hY:=Y.2
   generalize Y.1=Y1 at *
   obtain⟨y0,y1,y2⟩:=hY
   have u1:∀y,(Y1.set h.length y)[h.length]? = some y:=fun y=>List.getElem?_set_self (by omega)
   have ht:∀y,(Y1.set h.length y).take h.length=h:=fun y=>List.ext_getElem? fun i=>by
    by_cases hi:i<h.length
    ·rw[List.getElem?_take_of_lt hi,List.getElem?_set_ne (by omega)];exact y1 i hi
    ·rw[List.getElem?_take_eq_none (by omega),List.getElem?_eq_none (by omega)]
   simp only[Xt,XZ,↓reduceIte,QuP,QuQ,Nat.reduceAdd,QuO,Qva,QuC,Qu6,QuE,y2]
   repeat first|refine Qb ?_;simp only[go_sem,seval]|refine hK _ ?_;clear hK
   simp only[go_sem,seval,u1]
   exact Qc (ht _) (QfA _ _) ⟨by simp only[hp],rfl⟩
  |ok pg s2 =>
   rw[hp]at cf
   have e0:((0:Int) != 0)=false:=rfl
   obtain⟨D,hDe⟩:∃D,D=AB.cells 40 6 [pg.av]:=⟨_,rfl⟩
   have cr:=Qkg hs (.fn (.func 37) [] [.ptr (h.length+1) 0 0]) H hHG (fun Y=>h.length+2<=Y.length/\(∀i,i<h.length->Y[i]? = h[i]?)/\Y[h.length]? = some (rZ0)/\Y[h.length+1]? = some D)
    (fun Y a b L hl hy=>⟨by simp only[Qvt,List.length_set];omega,hst (fun _=>True) Y a b L hl hy.2.1,by rw[List.getElem?_append_left (by simp only[List.length_set];omega),List.getElem?_set_ne (by omega),List.getElem?_set_ne (by omega)];exact hy.2.2.1,by rw[List.getElem?_append_left (by simp only[List.length_set];omega),List.getElem?_set_ne (by omega),List.getElem?_set_ne (by omega)];exact hy.2.2.2⟩)
    (FunW.cl (cf.mono fun o h' q=>by
     obtain⟨q1,⟨Y,hY,hY2⟩,q2⟩:=q
     obtain⟨y1,y2,y3,y4,y5⟩:=hc0 Y hY
     exact⟨q1,⟨Y,y1,y2,by omega,y4,y5,by rw[hDe];exact hY2⟩,q2⟩))
   rw[hH]at cr
   refine Qa Tryz.func14 rfl Tryz.call14 Tryz.ntmps14 Tryz.results14 (by simp) ?_
   repeat first|(first|refine FunW.retE (FunW.call cr) fun Y=>?_|refine Qb ?_);simp only[go_sem,seval,Qvt]|refine hK _ ?_;clear hK
   have hY:=Y.2
   generalize Y.1=Y1 at *
   obtain⟨y0,y1,y2,y3⟩:=hY
   rw[hDe]at y3
   have u1:∀y,(Y1.set h.length y)[h.length]? = some y:=fun y=>List.getElem?_set_self (by omega)
   have ht:∀y,(Y1.set h.length y).take h.length=h:=fun y=>List.ext_getElem? fun i=>by
    by_cases hi:i<h.length
    ·rw[List.getElem?_take_of_lt hi,List.getElem?_set_ne (by omega)];exact y1 i hi
    ·rw[List.getElem?_take_eq_none (by omega),List.getElem?_eq_none (by omega)]
   have rc:=Rl.cells pg
   have ri:=Rl.isAgg pg
   simp only[Xt,XZ,QuW,QuX,Zs,ZU,QaC,QuY,↓reduceIte,QuP,QuQ,Nat.reduceAdd,QuO,Qva,QuC,Qu6,QuE,y2,y3,rc,ri]
   repeat first|refine Qb ?_;simp only[go_sem,seval]|refine hK _ ?_;clear hK
   simp only[go_sem,seval,u1,rc,ri]
   exact Qc (ht _) (.keep (Qjb _ (.inl pg))) ⟨by simp only[hp];rfl,rfl⟩
end
end Go.Proofs.YticgcpebdldbgaaGreatDoor.Ab
set_option maxRecDepth 4000
namespace Go.Proofs.YticgcpebdldbgaaGreatDoor.Ab
open Go.Proofs
def tvB(n:Nat)(l:List Int):Prop:=∀v∈l,0<=v/\v<n
theorem tvB.mono{n m:Nat}{l:List Int}(h:tvB n l)(hn:n<=m):tvB m l:=fun v hv=>by have:=h v hv;omega
theorem tvB.app{n:Nat}{l m:List Int}(h:tvB n l)(k:tvB n m):tvB n (l++m):=fun v hv=>(List.mem_append.1 hv).elim (h v) (k v)
theorem Z3(n:Nat):tvB n []:=fun v hv=>(List.not_mem_nil hv).elim
def VbT(f:PS->PR T):Prop:=∀s t s2,f s = .ok t s2->s.names.length<=s2.names.length/\tvB s2.names.length t.vars/\tvB s2.names.length (QG t.args)
theorem QbV{b:List UInt8}{s s2:PS}{u:Unit}(h:Xl b s = .ok u s2):s2.names=s.names:=by
 unfold Xl at h
 split at h
 ·cases h;rfl
 ·cases h
theorem QlY{s s2:PS}{x:ByteArray}(h:Yz s = .ok x s2):s2.names=s.names:=by
 unfold Yz at h
 split at h
 ·cases h
 ·split at h
  ·cases h
  ·cases h;rfl
theorem Qlt(t:T):QG [t]=t.vars:=by simp[QG]
section
variable{ex:PS->PR T}(H:VbT ex)
include H
theorem QmP:∀(m:Nat) (l:List T) (s:PS) (a:List T) (s2:PS),tvB s.names.length (QG l)->Yn ex m l s = .ok a s2->s.names.length<=s2.names.length/\tvB s2.names.length (QG a)
 |0,_,_,_,_,_,h=>by cases h
 |m+1,l,s,a,s2,hl,h=>by
  rw[Yn]at h
  obtain⟨t,s1,h1,h⟩:=bind_ok h
  obtain⟨a1,a2,_⟩:=H s t s1 h1
  have hl2:tvB s1.names.length (QG (l++[t])):=by rw[QdU,Qlt];exact(hl.mono a1).app a2
  split at h
  ·obtain⟨b1,b2⟩:=QmP m (l++[t]) s1.nx a s2 hl2 h
   exact⟨Nat.le_trans a1 b1,b2⟩
  ·obtain⟨u,s3,h3,h⟩:=bind_ok h
   have e:=QbV h3
   cases h
   rw[e];exact⟨a1,hl2⟩
theorem QqM{s s2:PS}{g:G}(h:X3 ex s = .ok g s2):s.names.length<=s2.names.length/\tvB s2.names.length (QG g.args):=by
 rw[X3]at h
 obtain⟨x,s1,h1,h⟩:=bind_ok h
 have e:=QlY h1
 split at h
 ·obtain⟨l,s3,h3,h⟩:=bind_ok h
  obtain⟨b1,b2⟩:=QmP H _ [] s1.nx l s3 (by rw[QG];exact Z3 _) h3
  cases h
  exact⟨by rw[<-e];exact b1,b2⟩
 ·cases h
  exact⟨by rw[e];exact Nat.le_refl _,by show tvB _ (QG []);rw[QG];exact Z3 _⟩
theorem Qr8:VbT (pOpT ex):=fun s t s2 h=>by
 unfold pOpT at h
 split at h
 ·cases h;exact⟨Nat.le_refl _,by simp only[T.vars];exact Z3 _,Z3 _⟩
 ·split at h
  ·unfold pVari at h
   split at h
   ·rename_i hv
    cases h
    refine⟨Nat.le_refl _,?_,Z3 _⟩
    show tvB s.nx.names.length [_]
    intro v hm
    rw[List.mem_singleton]at hm
    subst hm
    omega
   ·cases h
    refine⟨by show s.names.length<=(s.nx.names++[_]).length;rw[List.length_append];exact Nat.le_add_right _ _,?_,Z3 _⟩
    show tvB (s.nx.names++[_]).length [_]
    intro v hm
    rw[List.mem_singleton]at hm
    subst hm
    rw[List.length_append,List.length_singleton]
    omega
  ·split at h
   ·obtain⟨a,s1,h1,h⟩:=bind_ok h
    obtain⟨b1,b2⟩:=QqM H h1
    cases h
    refine⟨b1,?_,b2⟩
    simp only[T.vars]
    exact b2
   ·split at h
    ·split at h
     ·cases h
     ·cases h;exact⟨Nat.le_refl _,by simp only[T.vars];exact Z3 _,Z3 _⟩
    ·split at h
     ·obtain⟨t1,s1,h1,h⟩:=bind_ok h
      obtain⟨u,s3,h3,h⟩:=bind_ok h
      obtain⟨a1,a2⟩:=H _ _ _ h1
      have e:=QbV h3
      cases h
      rw[e];exact⟨a1,a2⟩
     ·cases h
end
theorem Qiq{op:PS->PR T}(H:VbT op)(ops:List (List UInt8)):∀(m:Nat) (t:T) (s:PS) (a:T) (s2:PS),tvB s.names.length t.vars->tvB s.names.length (QG t.args)->Xh op ops m t s = .ok a s2->s.names.length<=s2.names.length/\tvB s2.names.length a.vars/\tvB s2.names.length (QG a.args)
 |0,t,s,a,s2,ht,hk,h=>by cases h;exact⟨Nat.le_refl _,ht,hk⟩
 |m+1,t,s,a,s2,ht,hk,h=>by
  rw[Xh]at h
  split at h
  ·obtain⟨u,s3,h3,h⟩:=bind_ok h
   obtain⟨a1,a2,_⟩:=H _ _ _ h3
   have a1':s.names.length<=s3.names.length:=a1
   have hv:tvB s3.names.length (QG [t,u]):=by simp only[QG,Qu5];exact(ht.mono a1').app a2
   obtain⟨b1,b2⟩:=Qiq H ops m (.mk 2 0 s.tk.text [t,u]) s3 a s2 (by simp only[T.vars];exact hv) hv h
   exact⟨Nat.le_trans a1' b1,b2⟩
  ·cases h;exact⟨Nat.le_refl _,ht,hk⟩
theorem QkC{op:PS->PR T}(H:VbT op)(ops:List (List UInt8)):VbT (XA op ops):=fun s t s2 h=>by
 rw[XA]at h
 obtain⟨u,s1,h1,h⟩:=bind_ok h
 obtain⟨a1,a2,a3⟩:=H _ _ _ h1
 obtain⟨b1,b2⟩:=Qiq H ops _ u s1 t s2 a2 a3 h
 exact⟨Nat.le_trans a1 b1,b2⟩
theorem QkG:∀n:Nat,VbT (XK n)
 |0=>fun s t s2 h=>by cases h
 |n+1=>QkC (QkC (Qr8 (QkG n)) Xo) Yl
theorem QhS:VbT Xk:=fun s t s2 h=>QkG _ s t s2 h
theorem QnT{op:Int}{s s2:PS}{g:G}(h:Qa2 op s = .ok g s2):s.names.length<=s2.names.length/\tvB s2.names.length (QG g.args):=by
 rw[Qa2]at h
 obtain⟨u,s1,h1,h⟩:=bind_ok h
 obtain⟨t,s3,h3,h⟩:=bind_ok h
 obtain⟨w,s4,h4,h⟩:=bind_ok h
 obtain⟨a1,a2,_⟩:=QhS _ _ _ h3
 have e1:=QbV h1
 have e4:=QbV h4
 cases h
 rw[e4]
 exact⟨by rw[<-e1];exact a1,by show tvB _ (QG [t]);rw[Qlt];exact a2⟩
theorem Qo6{s s2:PS}{g:G}(h:Zg s = .ok g s2):s.names.length<=s2.names.length/\tvB s2.names.length (QG g.args):=by
 have e0:QG []=[]:=rfl
 unfold Zg at h
 split at h
 ·split at h
  ·cases h;exact⟨Nat.le_refl _,by show tvB _ (QG []);rw[e0];exact Z3 _⟩
  ·split at h
   ·cases h;exact⟨Nat.le_refl _,by show tvB _ (QG []);rw[e0];exact Z3 _⟩
   ·split at h
    ·exact QnT (s:=s.nx) h
    ·split at h
     ·exact QnT (s:=s.nx) h
     ·cases h
 ·obtain⟨t,s1,h1,h⟩:=bind_ok h
  obtain⟨a1,a2,a3⟩:=QhS _ _ _ h1
  split at h
  ·rename_i op turn hc
   obtain⟨u,s3,h3,h⟩:=bind_ok h
   obtain⟨b1,b2,_⟩:=QhS _ _ _ h3
   have b1':s1.names.length<=s3.names.length:=b1
   cases h
   refine⟨Nat.le_trans a1 b1',?_⟩
   show tvB s2.names.length (QG (if turn=true then[u,t]else[t,u]))
   split
   ·simp only[QG,Qu5];exact b2.app (a2.mono b1')
   ·simp only[QG,Qu5];exact(a2.mono b1').app b2
  ·split at h
   ·cases h
    exact⟨a1,a3⟩
   ·cases h
theorem QjP(l:List G)(g:G):Qy (l++[g])=Qy l++QG g.args:=by simp[Qy]
theorem QiA(most:Nat):∀(m:Nat) (l:List G) (s:PS) (a:List G) (s2:PS),tvB s.names.length (Qy l)->XL most m l s = .ok a s2->s.names.length<=s2.names.length/\tvB s2.names.length (Qy a)
 |0,_,_,_,_,_,h=>by cases h
 |m+1,l,s,a,s2,hl,h=>by
  rw[XL]at h
  split at h
  ·cases h
  ·obtain⟨g,s1,h1,h⟩:=bind_ok h
   obtain⟨a1,a2⟩:=Qo6 h1
   have hl2:tvB s1.names.length (Qy (l++[g])):=by rw[QjP];exact(hl.mono a1).app a2
   split at h
   ·cases h
   ·split at h
    ·obtain⟨b1,b2⟩:=QiA most m _ s1.nx a s2 hl2 h
     exact⟨Nat.le_trans a1 b1,b2⟩
    ·cases h;exact⟨a1,hl2⟩
theorem Qo8{most:Nat}{s s2:PS}{a:List G}(h:Xp most s = .ok a s2):tvB s2.names.length (Qy a):=(QiA most _ [] s a s2 (Z3 _) h).2
end Go.Proofs.YticgcpebdldbgaaGreatDoor.Ab

