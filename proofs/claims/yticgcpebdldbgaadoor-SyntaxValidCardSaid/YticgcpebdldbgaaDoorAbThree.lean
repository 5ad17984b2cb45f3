/-
  An abstract program logic, contracts of functions, and laws of terms and rules (part 3).
-/
import Derived.Test.YticgcpebdldbgaaDoorAbTwo
import Derived.Lib.ConvBytes
import Derived.Lib.AtoiErrMem
import Derived.ProofKit
import Derived.WalkKit
import Derived.OpenShut
import Derived.LaidSub
import Derived.Lib.LaidTab
import Derived.Lib.ItoaNum
import Derived.Lib.ItoaMem
import Derived.Lib.AtoiTie
import Derived.RecoverIn
set_option linter.unusedVariables false
set_option linter.unusedSimpArgs false
set_option maxHeartbeats 4000000
set_option maxRecDepth 4000
namespace Go.Proofs.YticgcpebdldbgaaDoor.Ab
open Go.Proofs Go.RowKit
def opB (s:ByteArray):Bool:=(s.toList==({data:=#[43]}:ByteArray).toList)||(s.toList==({data:=#[45]}:ByteArray).toList)||(s.toList==({data:=#[42]}:ByteArray).toList)||(s.toList==({data:=#[47]}:ByteArray).toList)||(s.toList==({data:=#[37]}:ByteArray).toList)
theorem Qdn (s:ByteArray):Pure Tryd.prog 92 [.v (.string s)] (.b (opB s)):=by
 intro h
 cases d0:(s.toList==({data:=#[43]}:ByteArray).toList) with
 |true =>
  refine Qe Tryd.func92 rfl Tryd.call92 Tryd.ntmps92 (congrArg Array.toList Tryd.results92) (by simp) ?_
  iterate 3 (try (first|(((with_reducible refine Qa fun K E hK hE=>?_));simp -implicitDefEqProofs only [Xb,Xh,Qd,OpW,aop,AS.ev,Q8,Yf,Nat.reduceLT])|(with_reducible refine Qf fun K hK=>?_)|((with_reducible refine hK _ ?_);clear hK)))
  (with_reducible refine Qk fun K E hK hE=>?_)
  (try simp only [QrA]);refine QA 4 (fun K1 hK1=>?_);simp -implicitDefEqProofs only [Qc,Qd,OpW,aop,undef,AS.ev,Qq,↓reduceIte,aBin,d0,seval];refine hK1 _ ?_;clear hK1
  (try simp only [Qq8,Qrg]);refine QA 4 (fun K1 hK1=>?_);simp -implicitDefEqProofs only [Qc,Qd,OpW,aop,undef,AS.ev,↓reduceIte,seval];refine hK1 _ ?_;clear hK1
  (try simp only [Qq8,Qrg]);refine QA 4 (fun K1 hK1=>?_);simp -implicitDefEqProofs only [Qc,Qd,OpW,aop,undef,AS.ev,↓reduceIte,seval];refine hK1 _ ?_;clear hK1
  (try simp only [Qq8,Qrg]);refine QA 4 (fun K1 hK1=>?_);simp -implicitDefEqProofs only [Qc,Qd,OpW,aop,undef,AS.ev,↓reduceIte,seval];refine hK1 _ ?_;clear hK1
  (try simp only [Qq8,Qrg])
  simp -implicitDefEqProofs only [Qc,Qd,OpW,aop,undef,AS.ev,↓reduceIte,seval]
  repeat (first|(with_reducible (first|refine Ql ?_|refine Qb ?_))|((with_reducible refine hK _ ?_);clear hK))
  simp only [QF,Qn,Qr,upd,↓reduceIte,Qq5,Qq9];first|refine Qi (htake _ _) (.keep (.v _)) ⟨by simp only [opB,d0,Bool.true_or],rfl⟩|refine Qi List.take_length (.keep (.v _)) ⟨by simp only [opB,d0,Bool.true_or],rfl⟩
 |false =>
  cases d1:(s.toList==({data:=#[45]}:ByteArray).toList) with
  |true =>
   refine Qe Tryd.func92 rfl Tryd.call92 Tryd.ntmps92 (congrArg Array.toList Tryd.results92) (by simp) ?_
   iterate 3 (try (first|(((with_reducible refine Qa fun K E hK hE=>?_));simp -implicitDefEqProofs only [Xb,Xh,Qd,OpW,aop,AS.ev,Q8,Yf,Nat.reduceLT])|(with_reducible refine Qf fun K hK=>?_)|((with_reducible refine hK _ ?_);clear hK)))
   (with_reducible refine Qk fun K E hK hE=>?_)
   (try simp only [QrA]);refine QA 4 (fun K1 hK1=>?_);simp -implicitDefEqProofs only [Qc,Qd,OpW,aop,undef,AS.ev,Qq,↓reduceIte,aBin,d0,seval];refine hK1 _ ?_;clear hK1
   (try simp only [Qq8,Qrg]);refine QA 4 (fun K1 hK1=>?_);simp -implicitDefEqProofs only [Qc,Qd,OpW,aop,undef,AS.ev,↓reduceIte,aBin,d1,seval];refine hK1 _ ?_;clear hK1
   (try simp only [Qq8,Qrg]);refine QA 4 (fun K1 hK1=>?_);simp -implicitDefEqProofs only [Qc,Qd,OpW,aop,undef,AS.ev,↓reduceIte,seval];refine hK1 _ ?_;clear hK1
   (try simp only [Qq8,Qrg]);refine QA 4 (fun K1 hK1=>?_);simp -implicitDefEqProofs only [Qc,Qd,OpW,aop,undef,AS.ev,↓reduceIte,seval];refine hK1 _ ?_;clear hK1
   (try simp only [Qq8,Qrg])
   simp -implicitDefEqProofs only [Qc,Qd,OpW,aop,undef,AS.ev,↓reduceIte,seval]
   repeat (first|(with_reducible (first|refine Ql ?_|refine Qb ?_))|((with_reducible refine hK _ ?_);clear hK))
   simp only [QF,Qn,Qr,upd,↓reduceIte,Qq5,Qq9];first|refine Qi (htake _ _) (.keep (.v _)) ⟨by simp only [opB,d0,d1,Bool.or_true,Bool.true_or],rfl⟩|refine Qi List.take_length (.keep (.v _)) ⟨by simp only [opB,d0,d1,Bool.or_true,Bool.true_or],rfl⟩
  |false =>
   cases d2:(s.toList==({data:=#[42]}:ByteArray).toList) with
   |true =>
    refine Qe Tryd.func92 rfl Tryd.call92 Tryd.ntmps92 (congrArg Array.toList Tryd.results92) (by simp) ?_
    iterate 3 (try (first|(((with_reducible refine Qa fun K E hK hE=>?_));simp -implicitDefEqProofs only [Xb,Xh,Qd,OpW,aop,AS.ev,Q8,Yf,Nat.reduceLT])|(with_reducible refine Qf fun K hK=>?_)|((with_reducible refine hK _ ?_);clear hK)))
    (with_reducible refine Qk fun K E hK hE=>?_)
    (try simp only [QrA]);refine QA 4 (fun K1 hK1=>?_);simp -implicitDefEqProofs only [Qc,Qd,OpW,aop,undef,AS.ev,Qq,↓reduceIte,aBin,d0,seval];refine hK1 _ ?_;clear hK1
    (try simp only [Qq8,Qrg]);refine QA 4 (fun K1 hK1=>?_);simp -implicitDefEqProofs only [Qc,Qd,OpW,aop,undef,AS.ev,Qq,↓reduceIte,aBin,d1,seval];refine hK1 _ ?_;clear hK1
    (try simp only [Qq8,Qrg]);refine QA 4 (fun K1 hK1=>?_);simp -implicitDefEqProofs only [Qc,Qd,OpW,aop,undef,AS.ev,↓reduceIte,aBin,d2,seval];refine hK1 _ ?_;clear hK1
    (try simp only [Qq8,Qrg]);refine QA 4 (fun K1 hK1=>?_);simp -implicitDefEqProofs only [Qc,Qd,OpW,aop,undef,AS.ev,↓reduceIte,seval];refine hK1 _ ?_;clear hK1
    (try simp only [Qq8,Qrg])
    simp -implicitDefEqProofs only [Qc,Qd,OpW,aop,undef,AS.ev,↓reduceIte,seval]
    repeat (first|(with_reducible (first|refine Ql ?_|refine Qb ?_))|((with_reducible refine hK _ ?_);clear hK))
    simp only [QF,Qn,Qr,upd,↓reduceIte,Qq5,Qq9];first|refine Qi (htake _ _) (.keep (.v _)) ⟨by simp only [opB,d0,d1,d2,Bool.or_false,Bool.or_true,Bool.true_or],rfl⟩|refine Qi List.take_length (.keep (.v _)) ⟨by simp only [opB,d0,d1,d2,Bool.or_false,Bool.or_true,Bool.true_or],rfl⟩
   |false =>
    cases d3:(s.toList==({data:=#[47]}:ByteArray).toList) with
    |true =>
     refine Qe Tryd.func92 rfl Tryd.call92 Tryd.ntmps92 (congrArg Array.toList Tryd.results92) (by simp) ?_
     iterate 3 (try (first|(((with_reducible refine Qa fun K E hK hE=>?_));simp -implicitDefEqProofs only [Xb,Xh,Qd,OpW,aop,AS.ev,Q8,Yf,Nat.reduceLT])|(with_reducible refine Qf fun K hK=>?_)|((with_reducible refine hK _ ?_);clear hK)))
     (with_reducible refine Qk fun K E hK hE=>?_)
     (try simp only [QrA]);refine QA 4 (fun K1 hK1=>?_);simp -implicitDefEqProofs only [Qc,Qd,OpW,aop,undef,AS.ev,Qq,↓reduceIte,aBin,d0,seval];refine hK1 _ ?_;clear hK1
     (try simp only [Qq8,Qrg]);refine QA 4 (fun K1 hK1=>?_);simp -implicitDefEqProofs only [Qc,Qd,OpW,aop,undef,AS.ev,Qq,↓reduceIte,aBin,d1,seval];refine hK1 _ ?_;clear hK1
     (try simp only [Qq8,Qrg]);refine QA 4 (fun K1 hK1=>?_);simp -implicitDefEqProofs only [Qc,Qd,OpW,aop,undef,AS.ev,Qq,↓reduceIte,aBin,d2,seval];refine hK1 _ ?_;clear hK1
     (try simp only [Qq8,Qrg]);refine QA 4 (fun K1 hK1=>?_);simp -implicitDefEqProofs only [Qc,Qd,OpW,aop,undef,AS.ev,↓reduceIte,aBin,d3,seval];refine hK1 _ ?_;clear hK1
     (try simp only [Qq8,Qrg])
     simp -implicitDefEqProofs only [Qc,Qd,OpW,aop,undef,AS.ev,↓reduceIte,seval]
     repeat (first|(with_reducible (first|refine Ql ?_|refine Qb ?_))|((with_reducible refine hK _ ?_);clear hK))
     simp only [QF,Qn,Qr,upd,↓reduceIte,Qq5,Qq9];first|refine Qi (htake _ _) (.keep (.v _)) ⟨by simp only [opB,d0,d1,d2,d3,Bool.or_false,Bool.or_true,Bool.true_or],rfl⟩|refine Qi List.take_length (.keep (.v _)) ⟨by simp only [opB,d0,d1,d2,d3,Bool.or_false,Bool.or_true,Bool.true_or],rfl⟩
    |false =>
     cases d4:(s.toList==({data:=#[37]}:ByteArray).toList) with
     |true =>
      refine Qe Tryd.func92 rfl Tryd.call92 Tryd.ntmps92 (congrArg Array.toList Tryd.results92) (by simp) ?_
      iterate 3 (try (first|(((with_reducible refine Qa fun K E hK hE=>?_));simp -implicitDefEqProofs only [Xb,Xh,Qd,OpW,aop,AS.ev,Q8,Yf,Nat.reduceLT])|(with_reducible refine Qf fun K hK=>?_)|((with_reducible refine hK _ ?_);clear hK)))
      (with_reducible refine Qk fun K E hK hE=>?_)
      (try simp only [QrA]);refine QA 4 (fun K1 hK1=>?_);simp -implicitDefEqProofs only [Qc,Qd,OpW,aop,undef,AS.ev,Qq,↓reduceIte,aBin,d0,seval];refine hK1 _ ?_;clear hK1
      (try simp only [Qq8,Qrg]);refine QA 4 (fun K1 hK1=>?_);simp -implicitDefEqProofs only [Qc,Qd,OpW,aop,undef,AS.ev,Qq,↓reduceIte,aBin,d1,seval];refine hK1 _ ?_;clear hK1
      (try simp only [Qq8,Qrg]);refine QA 4 (fun K1 hK1=>?_);simp -implicitDefEqProofs only [Qc,Qd,OpW,aop,undef,AS.ev,Qq,↓reduceIte,aBin,d2,seval];refine hK1 _ ?_;clear hK1
      (try simp only [Qq8,Qrg]);refine QA 4 (fun K1 hK1=>?_);simp -implicitDefEqProofs only [Qc,Qd,OpW,aop,undef,AS.ev,Qq,↓reduceIte,aBin,d3,seval];refine hK1 _ ?_;clear hK1
      (try simp only [Qq8,Qrg])
      simp -implicitDefEqProofs only [Qc,Qd,OpW,aop,AS.ev,↓reduceIte,aBin,d4,seval]
      repeat (first|(with_reducible (first|refine Ql ?_|refine Qb ?_))|((with_reducible refine hK _ ?_);clear hK))
      simp only [QF,Qn,Qr,upd,↓reduceIte,Qq5,Qq9];first|refine Qi (htake _ _) (.keep (.v _)) ⟨by simp only [opB,d0,d1,d2,d3,d4,Bool.or_false,Bool.or_true],rfl⟩|refine Qi List.take_length (.keep (.v _)) ⟨by simp only [opB,d0,d1,d2,d3,d4,Bool.or_false,Bool.or_true],rfl⟩
     |false =>
      refine Qe Tryd.func92 rfl Tryd.call92 Tryd.ntmps92 (congrArg Array.toList Tryd.results92) (by simp) ?_
      iterate 3 (try (first|(((with_reducible refine Qa fun K E hK hE=>?_));simp -implicitDefEqProofs only [Xb,Xh,Qd,OpW,aop,AS.ev,Q8,Yf,Nat.reduceLT])|(with_reducible refine Qf fun K hK=>?_)|((with_reducible refine hK _ ?_);clear hK)))
      (with_reducible refine Qk fun K E hK hE=>?_)
      (try simp only [QrA]);refine QA 4 (fun K1 hK1=>?_);simp -implicitDefEqProofs only [Qc,Qd,OpW,aop,undef,AS.ev,Qq,↓reduceIte,aBin,d0,seval];refine hK1 _ ?_;clear hK1
      (try simp only [Qq8,Qrg]);refine QA 4 (fun K1 hK1=>?_);simp -implicitDefEqProofs only [Qc,Qd,OpW,aop,undef,AS.ev,Qq,↓reduceIte,aBin,d1,seval];refine hK1 _ ?_;clear hK1
      (try simp only [Qq8,Qrg]);refine QA 4 (fun K1 hK1=>?_);simp -implicitDefEqProofs only [Qc,Qd,OpW,aop,undef,AS.ev,Qq,↓reduceIte,aBin,d2,seval];refine hK1 _ ?_;clear hK1
      (try simp only [Qq8,Qrg]);refine QA 4 (fun K1 hK1=>?_);simp -implicitDefEqProofs only [Qc,Qd,OpW,aop,undef,AS.ev,Qq,↓reduceIte,aBin,d3,seval];refine hK1 _ ?_;clear hK1
      (try simp only [Qq8,Qrg])
      simp -implicitDefEqProofs only [Qc,Qd,OpW,aop,AS.ev,↓reduceIte,aBin,d4,seval]
      repeat (first|(with_reducible (first|refine Ql ?_|refine Qb ?_))|((with_reducible refine hK _ ?_);clear hK))
      simp only [QF,Qn,Qr,upd,↓reduceIte,Qq5,Qq9];first|refine Qi (htake _ _) (.keep (.v _)) ⟨by simp only [opB,d0,d1,d2,d3,d4,Bool.or_false],rfl⟩|refine Qi List.take_length (.keep (.v _)) ⟨by simp only [opB,d0,d1,d2,d3,d4,Bool.or_false],rfl⟩
theorem Qor:∀ n:Fin 256,decide (0≤Lib.indexByte [43,45,42,47,37] (UInt8.ofNat n.val))=(([UInt8.ofNat n.val]==[43])||([UInt8.ofNat n.val]==[45])||([UInt8.ofNat n.val]==[42])||([UInt8.ofNat n.val]==[47])||([UInt8.ofNat n.val]==[37])):=by decide +kernel
theorem Qpd (c:UInt8):decide (0≤Lib.indexByte [43,45,42,47,37] c)=opB {data:=#[c]}:=by
 have:=Qor ⟨c.toNat,c.toNat_lt⟩
 simp only [UInt8.ofNat_toNat] at this
 rw [this,opB]
 simp only [Lib.toList_data]
theorem Qf6 (c:UInt8):Pure Tryd.prog 87 [.v (.string {data:=#[43,45,42,47,37]}),.v (.string {data:=#[c]})] (.b (opB {data:=#[c]})):=by
 rw [← Qpd]
 exact Qnl (vs:=[.string {data:=#[43,45,42,47,37]},.string {data:=#[c]}]) Tryd.call87 fun w=>(Tryd.strings_Contains_one _ c w).mono (by rintro e w' ⟨rfl,rfl⟩;exact ⟨_,rfl,Go.RowKit.Below.refl _ _,fun _=>.v _⟩)
theorem one_byte {s:ByteArray} (h:s.size=1):∃ c,s={data:=#[c]}:=by
 obtain ⟨⟨l⟩⟩:=s
 match l,h with
 |[c],_=>exact ⟨c,rfl⟩
theorem Qgn {s:ByteArray} (h:s.size≠1):opB s=false:=by
 have:∀ c:UInt8,(s.toList==[c])=false:=fun c=>by
  rw [Lib.toList_data,beq_eq_false_iff_ne]
  intro e
  exact h (by rw [Lib.size_eq,e];rfl)
 have t:∀ c:UInt8,({data:=#[c]}:ByteArray).toList=[c]:=fun c=>Lib.toList_data _
 simp only [opB,t,this,Bool.or_false]
theorem Qci (s:ByteArray):Pure Tryd.prog 75 [.v (.string s)] (.b (opB s)):=by
 intro h
 have hsl:=fun b=>Zz Tryd.prog 9 3 (by kernel_rfl) b
 by_cases n1:s.size=1
 ·have m1:((s.size:Int)==1)=true:=by simp [n1]
  obtain ⟨c,rfl⟩:=one_byte n1
  have cc:=Qf6 c
  refine Qe Tryd.func75 rfl Tryd.call75 Tryd.ntmps75 (congrArg Array.toList Tryd.results75) (by simp) ?_
  repeat (first|((first|(with_reducible (first|refine Qa fun K E hK hE=>?_|refine Qz cc ?_)));simp -implicitDefEqProofs only [Qc,Qd,OpW,QE,aop,undef,AS.ev,Qq,↓reduceIte,aBin,aLen,goInt,hsl,m1,seval])|(with_reducible refine Ql ?_)|((with_reducible refine hK _ ?_);clear hK))
  simp only [QF,Qn,Qr,upd,↓reduceIte,Qq5,Qq9];first|refine Qi (htake _ _) (.keep (.v _)) ⟨rfl,rfl⟩|refine Qi List.take_length (.keep (.v _)) ⟨rfl,rfl⟩
 ·have m1:((s.size:Int)==1)=false:=by simp;omega
  refine Qe Tryd.func75 rfl Tryd.call75 Tryd.ntmps75 (congrArg Array.toList Tryd.results75) (by simp) ?_
  repeat (first|(((with_reducible refine Qa fun K E hK hE=>?_));simp -implicitDefEqProofs only [Qc,Qd,OpW,aop,undef,AS.ev,Qq,↓reduceIte,aBin,aLen,goInt,hsl,m1,seval])|(with_reducible refine Ql ?_)|((with_reducible refine hK _ ?_);clear hK))
  simp only [QF,Qn,Qr,upd,↓reduceIte,Qq5,Qq9];first|refine Qi (htake _ _) (.keep (.v _)) ⟨by rw [Qgn n1],rfl⟩|refine Qi List.take_length (.keep (.v _)) ⟨by rw [Qgn n1],rfl⟩
end Go.Proofs.YticgcpebdldbgaaDoor.Ab
namespace Go.Proofs.YticgcpebdldbgaaDoor.Ab
def hs (h:AH) (i:Nat) (x:AB):AH:=h.set i x
section
variable {h:AH} {i:Nat} (hi:i<h.length)
theorem Qcc (h:AH) (i:Nat) (x:AB):(hs h i x).length=h.length:=by simp [hs]
include hi
theorem Qo3 (x:AB):(hs h i x)[i]? = some x:=by simp [hs,hi]
theorem Qle (x:AB) (L:AH):(hs h i x++L)[i]? = some x:=by rw [List.getElem?_append_left (by rw [Qcc];exact hi)];exact Qo3 hi x
theorem Qo4 (x y:AB):(hs h i x).set i y=hs h i y:=by have _u:=hi;simp [hs]
theorem Qlf (x y:AB) (L:AH):(hs h i x++L).set i y=hs h i y++L:=by rw [List.set_append_left _ _ (by rw [Qcc];exact hi),Qo4 hi]
theorem QnM (x:AB) (L:AH):hs (h++L) i x=hs h i x++L:=by simp only [hs];rw [List.set_append_left _ _ hi]
omit hi
theorem Qlg (x:AB) (L:AH):(hs h i x++L)[h.length]? = L[0]? := by rw [← Qcc h i x];exact Z4 _ _
theorem Qog {x:AB} (hx:h[i]? = some x):hs h i x=h:=by
 apply List.ext_getElem?
 intro j
 simp only [hs,List.getElem?_set]
 split
 ·rename_i hj;subst hj;rw [hx];simp [Qt hx]
 ·rfl
end
def Chg (P:Program) (f:FuncId) (args:List AV) (i:Nat) (x:AB) (r:AV) (y:AB):Prop :=
 ∀ h:AH,i<h.length→QJ P f args (hs h i x) fun o h'=>o = .ret r∧h'=hs h i y
theorem Chg.app {P:Program} {f:FuncId} {args:List AV} {i:Nat} {x y:AB} {r:AV} (H:Chg P f args i x r y) {h:AH} (hi:i<h.length) (L:AH) :
  QJ P f args (hs h i x++L) fun o h'=>o = .ret r∧h'=hs h i y++L:=by
 have:=H (h++L) (by rw [List.length_append];omega)
 rwa [QnM hi,QnM hi] at this
theorem XA {h:AH} {i:Nat} {x y:AB} {L:AH} {r r':AV} {Q:AV→AH→Prop} (hy:y.Below h.length) (hf:Frz (hs h i y++L) h.length r r') (hq:Q r' (hs h i y)):Leaves (hs h i x) (hs h i y++L) r Q:=by
 have ht:(hs h i y++L).take h.length=hs h i y:=by rw [← Qcc h i y];exact htake _ _
 refine .inl ⟨h.length,r',by rw [Qcc];exact Nat.le_refl _,by rw [List.length_append,Qcc];omega,.inr fun k b hb=>?_,hf,by rw [ht];exact hq⟩
 rw [ht] at hb
 simp only [hs,List.getElem?_set] at hb ⊢
 by_cases hk:i=k
 ·subst hk
  simp only [if_true] at hb ⊢
  split at hb
  ·cases hb;exact .inr hy
  ·cases hb
 ·rw [if_neg hk] at hb ⊢
  exact .inl hb
def hs2 (h:AH) (i:Nat) (x:AB) (j:Nat) (y:AB):AH:=(h.set i x).set j y
section
variable {h:AH} {i j:Nat} (hi:i<h.length) (hj:j<h.length) (hij:i≠j)
include hi hj in
theorem Qld (x y:AB) (L:AH):hs2 (h++L) i x j y=hs2 h i x j y++L:=by
 simp only [hs2]
 rw [List.set_append_left _ _ hi,List.set_append_left _ _ (by simpa using hj)]
end
def Chg2 (P:Program) (f:FuncId) (args:List AV) (i:Nat) (x:AB) (j:Nat) (y:AB) (r:AV) (x' y':AB):Prop :=
 ∀ h:AH,i<h.length→j<h.length→QJ P f args (hs2 h i x j y) fun o h'=>o = .ret r∧h'=hs2 h i x' j y'
theorem Chg2.app {P:Program} {f:FuncId} {args:List AV} {i j:Nat} {x y x' y':AB} {r:AV} (H:Chg2 P f args i x j y r x' y') {h:AH} (hi:i<h.length) (hj:j<h.length) (L:AH) :
  QJ P f args (hs2 h i x j y++L) fun o h'=>o = .ret r∧h'=hs2 h i x' j y'++L:=by
 have:=H (h++L) (by rw [List.length_append];omega) (by rw [List.length_append];omega)
 rwa [Qld hi hj,Qld hi hj] at this
end Go.Proofs.YticgcpebdldbgaaDoor.Ab
set_option maxRecDepth 4000
namespace Go.Proofs.YticgcpebdldbgaaDoor.Ab
open Go.Proofs
def ZJ (s:ByteArray):Bool:=decide (QcX 1 s)&&!resB s
def Zj (s:ByteArray):Bool:=s.toList==({data:=#[]}:ByteArray).toList
mutual
def T.run:T→Int→Int→Bool×Int
 | .mk k i n l,b,d =>
  if b - 1<0∨d<1 then (false,b - 1) else
  if k=0 then (decide (-2147483648≤i∧i≤2147483648)&&Zj n&&l.isEmpty,b - 1) else
  if k=1 then (decide (0≤i∧i≤1048576)&&Zj n&&l.isEmpty,b - 1) else
  if k=2 then (if i≠0∨6<l.length then (false,b - 1) else if (!ZJ n&&!(opB n&&decide (l.length=2)))=true then (false,b - 1) else runL l (b - 1) (d - 1)) else (false,b - 1)
def runL:List T→Int→Int→Bool×Int
 |[],b,d=>(true,b)
 |t::l,b,d=>if (t.run b d).1=true then runL l (t.run b d).2 d else (false,(t.run b d).2)
end
theorem T.run_eq (t:T) (b d:Int):t.run b d=if b - 1<0∨d<1 then (false,b - 1) else
  if t.kind=0 then (decide (-2147483648≤t.int∧t.int≤2147483648)&&Zj t.name&&t.args.isEmpty,b - 1) else
  if t.kind=1 then (decide (0≤t.int∧t.int≤1048576)&&Zj t.name&&t.args.isEmpty,b - 1) else
  if t.kind=2 then (if t.int≠0∨6<t.args.length then (false,b - 1) else if (!ZJ t.name&&!(opB t.name&&decide (t.args.length=2)))=true then (false,b - 1) else runL t.args (b - 1) (d - 1)) else (false,b - 1):=by
 cases t;rw [T.run];rfl
theorem Qmb {l:List T} {k:Nat} (h:k<l.length) (b d:Int):runL (l.drop k) b d=if ((l[k]).run b d).1=true then runL (l.drop (k+1)) ((l[k]).run b d).2 d else (false,((l[k]).run b d).2):=by
 rw [List.drop_eq_getElem_cons h];simp only [runL]
def bud (b:Int):AB:=.cells 121 1 [.agg [.i b]]
theorem Qky (d:Int) (ih:∀ (t:T) (b:Int) (i:Nat),-1≤b→b≤1000→Chg Tryd.prog 88 [.ptr i 0 0,t.av,.i d] i (bud b) (.b (t.run b d).1) (bud (t.run b d).2))
  (l:List T) (hl:l.length≤1000) (b:Int) (i:Nat) (hb : -1≤b∧b≤1000) (hr:∀ (t:T) (b:Int),-1≤b∧b≤1000→(t.run b d).1=true → -1≤(t.run b d).2∧(t.run b d).2≤1000) :
  Chg Tryd.prog 76 [.ptr i 0 0,.sl 4 (avs l) none,.i d] i (bud b) (.b (runL l b d).1) (bud (runL l b d).2):=by
 intro h hi
 have f1:=fun x=>Qcc h i x
 refine Qe Tryd.func76 rfl Tryd.call76 Tryd.ntmps76 (congrArg Array.toList Tryd.results76) (by simp) ?_
 repeat (first|(((with_reducible refine Qa fun K E hK hE=>?_));simp -implicitDefEqProofs only [Qc,Qd,OpW,aop,undef,AS.ev,Qq,↓reduceIte,aLen,goInt,un50,seval])|(with_reducible (first|refine Qf fun K hK=>?_|refine Qj ?_))|((with_reducible refine hK _ ?_);clear hK))
 obtain ⟨I,hI⟩:∃ I:Nat→AS→Prop,I=fun m' s=>∃ (k:Nat) (b':Int),m'=l.length - k∧k≤l.length∧(-1≤b'∧b'≤1000)∧runL l b d=runL (l.drop k) b' d∧s.tm 0 = .ptr i 0 0∧s.tm 1 = .sl 4 (avs l) none∧s.tm 2 = .i d∧s.tm 9 = .i l.length∧s.tm 10 = .i k∧s.h=hs h i (bud b'):=⟨_,rfl⟩;refine QO I ?_ (m:=l.length) ?_
 ·intro m' s hs;rw [hI] at hs;obtain ⟨tm,hp⟩:=s;dsimp only at hs;obtain ⟨k,b',rfl,hk,hb',he,t0,t1,t2,t9,t10,rfl⟩:=hs
  by_cases hlt:k<l.length
  ·have hg:=Qay hlt
   have c:=ih l[k] b' i hb'.1 hb'.2 h hi
   rw [Qmb hlt] at he
   cases hr1:((l[k]).run b' d).1 with
   |true =>
    rw [hr1] at c he
    repeat (first|((first|(with_reducible (first|refine Qa fun K E hK hE=>?_|refine Qk fun K E hK hE=>?_|refine FunW.ret (FunW.call c) ?_)));simp -implicitDefEqProofs only [Qc,Qd,OpW,QE,aop,AS.ev,↓reduceIte,Qw,Qv,QK,aBin,ei50,ti54,t0,t1,t2,t9,t10,hlt,hg,seval])|(with_reducible (first|refine Qf fun K hK=>?_|refine Qj ?_|refine Qm ?_|refine Qb ?_|refine Qo ?_))|((with_reducible refine hK _ ?_);clear hK)|(refine Qh rfl ?_;simp only [↓reduceIte,Qq3]))
    refine Xi.mk (m':=l.length - (k+1)) (by omega) ?_
    rw [hI]
    refine ⟨k+1,_,rfl,hlt,hr _ _ hb' hr1,by rw [he,if_pos rfl],t0,t1,t2,t9,?_,rfl⟩
    simp only [upd,↓reduceIte]
    rw [Xk (by omega)]
   |false =>
    rw [hr1] at c he
    rw [if_neg (by simp)] at he
    repeat (first|((first|(with_reducible (first|refine Qa fun K E hK hE=>?_|refine FunW.ret (FunW.call c) ?_)));simp -implicitDefEqProofs only [Qc,Qd,OpW,QE,aop,AS.ev,↓reduceIte,Qw,Qv,QK,aBin,ei50,ti54,t0,t1,t2,t9,t10,hlt,hg,seval])|(with_reducible (first|refine Qf fun K hK=>?_|refine Qj ?_|refine Ql ?_|refine Qm ?_|refine Qb ?_|refine Qu ?_|refine Qy ?_))|((with_reducible refine hK _ ?_);clear hK)|(refine Qh rfl ?_;simp only [↓reduceIte]))
    simp only [QF,Qn,Qr,upd,↓reduceIte,Qq5,Qq9]
    rw [he]
    exact .inr ⟨rfl,rfl⟩
  ·have hkn:k=l.length:=by omega
   subst hkn
   rw [List.drop_length] at he
   repeat (first|(((with_reducible refine Qa fun K E hK hE=>?_));simp -implicitDefEqProofs only [Qc,Qd,OpW,aop,AS.ev,Nat.reduceLT,aBin,t9,t10,hlt])|(with_reducible (first|refine Qf fun K hK=>?_|refine Ql ?_|refine QG ?_|refine Qb ?_|refine QD ?_|refine QC ?_))|((with_reducible refine hK _ ?_);clear hK)|(clear hK;(with_reducible refine hK _ ?_);clear hK)|(refine Qh rfl ?_;simp only [↓reduceIte,Qq3]))
   simp only [QF,Qn,Qr,upd,↓reduceIte,Qq5,Qq9]
   rw [he]
   exact .inr ⟨rfl,rfl⟩
 ·rw [hI]
  exact ⟨0,b,rfl,by omega,hb,rfl,rfl,rfl,rfl,rfl,rfl,rfl⟩
mutual
theorem T.Qqv:∀ (t:T) (b d:Int),-1≤b∧b≤1000→(t.run b d).1=true → -1≤(t.run b d).2∧(t.run b d).2≤1000
 | .mk k i n l,b,d,hb,h=>by
  rw [T.run] at h ⊢
  split at h
  ·cases h
  rename_i hn
  rw [if_neg hn]
  split at h
  ·rename_i hk;rw [if_pos hk];exact ⟨by simp only;omega,by simp only;omega⟩
  rename_i hk;rw [if_neg hk]
  split at h
  ·rename_i hk;rw [if_pos hk];exact ⟨by simp only;omega,by simp only;omega⟩
  rename_i hk;rw [if_neg hk]
  split at h
  ·rename_i hk2
   rw [if_pos hk2]
   split at h
   ·cases h
   rename_i hk;rw [if_neg hk]
   split at h
   ·cases h
   rename_i hk;rw [if_neg hk]
   exact Qjk l _ _ (by omega) h
  ·cases h
theorem Qjk:∀ (l:List T) (b d:Int),-1≤b∧b≤1000→(runL l b d).1=true → -1≤(runL l b d).2∧(runL l b d).2≤1000
 |[],b,d,hb,h=>by simpa only [runL] using hb
 |t::l,b,d,hb,h=>by
  rw [runL] at h ⊢
  split at h
  ·rename_i ht
   rw [if_pos ht]
   exact Qjk l _ _ (T.Qqv t b d hb ht) h
  ·cases h
end
theorem Xx (n:Nat) (b:Int):(bud b).Below n:=fun a ha=>by
 simp [flat,AV.cells] at ha
 subst ha;exact .v _
theorem Qmp:∀ (dn:Nat) (t:T) (b:Int) (i:Nat),dn≤1000 → -1≤b→b≤1000→Chg Tryd.prog 88 [.ptr i 0 0,t.av,.i (dn:Int)] i (bud b) (.b (t.run b dn).1) (bud (t.run b dn).2):=by
 intro dn
 induction dn with
 |zero =>
  intro t b i hdn hb0 hb1 h hi
  have w1:IntKind.i64.wrap (b - 1)=b - 1:=XR (by omega)
  have f1:=fun x L=>Qle hi x L
  have f2:=fun x y L=>Qlf hi x y L
  have f3:=fun x L=>Qlg (h:=h) (i:=i) x L
  have f4:=fun x=>Qcc h i x
  have fb:∀ b,bud b = .cells 121 1 [.agg [.i b]]:=fun _=>rfl
  by_cases m0:b - 1<0
  ·have hn:(b - 1<0∨((0:Nat):Int)<1):=.inl m0
   have R:t.run b ((0:Nat):Int)=(false,b - 1):=by
    rw [T.run_eq,if_pos hn]
   rw [R]
   refine Qe Tryd.func88 rfl Tryd.call88 Tryd.ntmps88 (congrArg Array.toList Tryd.results88) (by simp) ?_
   repeat (first|(((with_reducible refine Qa fun K E hK hE=>?_));simp -implicitDefEqProofs only [Qc,Qd,OpW,aop,undef,AS.ev,Qq,AV.Qp8,↓reduceIte,Qg,Qw,Qv,QB,Qp,aBin,ti3,Yi,Qs,w1,f1,f2,f4,fb,m0,seval])|(with_reducible (first|refine Qf fun K hK=>?_|refine Ql ?_|refine Qu ?_))|((with_reducible refine hK _ ?_);clear hK)|(refine Qh rfl ?_;simp only [↓reduceIte]))
   simp only [QF,Qn,Qr,upd,↓reduceIte,Qq5,Qq9]
   exact XA (Xx _ _) (.keep (.v _)) ⟨rfl,rfl⟩
  ·have hn:(b - 1<0∨((0:Nat):Int)<1):=.inr (by omega)
   have d0:(0:Int)<1:=by omega
   have R:t.run b ((0:Nat):Int)=(false,b - 1):=by
    rw [T.run_eq,if_pos hn]
   rw [R]
   refine Qe Tryd.func88 rfl Tryd.call88 Tryd.ntmps88 (congrArg Array.toList Tryd.results88) (by simp) ?_
   repeat (first|(((with_reducible refine Qa fun K E hK hE=>?_));simp -implicitDefEqProofs only [Qc,Qd,OpW,aop,undef,AS.ev,Qq,AV.Qp8,↓reduceIte,Qg,Qw,Qv,QB,Qp,aBin,ti3,Yi,Qs,w1,f1,f2,f4,fb,m0,d0,seval])|(with_reducible (first|refine Qf fun K hK=>?_|refine Ql ?_|refine Qu ?_))|((with_reducible refine hK _ ?_);clear hK)|(refine Qh rfl ?_;simp only [↓reduceIte]))
   simp only [QF,Qn,Qr,upd,↓reduceIte,Qq5,Qq9]
   exact XA (Xx _ _) (.keep (.v _)) ⟨rfl,rfl⟩
 |succ dn ih =>
  intro t b i hdn hb0 hb1 h hi
  have w1:IntKind.i64.wrap (b - 1)=b - 1:=XR (by omega)
  have f1:=fun x L=>Qle hi x L
  have f2:=fun x y L=>Qlf hi x y L
  have f3:=fun x L=>Qlg (h:=h) (i:=i) x L
  have f4:=fun x=>Qcc h i x
  have fb:∀ b,bud b = .cells 121 1 [.agg [.i b]]:=fun _=>rfl
  have wd:IntKind.i64.wrap (((dn+1:Nat):Int) - 1)=(dn:Int):=by rw [XR (by omega)];omega
  by_cases m0:b - 1<0
  ·have hn:(b - 1<0∨((dn+1:Nat):Int)<1):=.inl m0
   have R:t.run b ((dn+1:Nat):Int)=(false,b - 1):=by
    rw [T.run_eq,if_pos hn]
   rw [R]
   refine Qe Tryd.func88 rfl Tryd.call88 Tryd.ntmps88 (congrArg Array.toList Tryd.results88) (by simp) ?_
   repeat (first|(((with_reducible refine Qa fun K E hK hE=>?_));simp -implicitDefEqProofs only [Qc,Qd,OpW,aop,undef,AS.ev,Qq,AV.Qp8,↓reduceIte,Qg,Qw,Qv,QB,Qp,aBin,ti3,Yi,Qs,w1,f1,f2,f4,fb,m0,seval])|(with_reducible (first|refine Qf fun K hK=>?_|refine Ql ?_|refine Qu ?_))|((with_reducible refine hK _ ?_);clear hK)|(refine Qh rfl ?_;simp only [↓reduceIte]))
   simp only [QF,Qn,Qr,upd,↓reduceIte,Qq5,Qq9]
   exact XA (Xx _ _) (.keep (.v _)) ⟨rfl,rfl⟩
  have d0:¬ ((dn+1:Nat):Int)<1:=by omega
  have hn:¬ (b - 1<0∨((dn+1:Nat):Int)<1):=by omega
  by_cases k0:t.kind=0
  ·have z0:(t.kind==0)=true:=by simp [k0]
   by_cases c1:t.int ≥ -2147483648
   rotate_left
   ·have e1:¬ -2147483648≤t.int:=by omega
    have R:t.run b ((dn+1:Nat):Int)=(false,b - 1):=by
     rw [T.run_eq,if_neg hn,if_pos k0];simp [e1]
    rw [R]
    refine Qe Tryd.func88 rfl Tryd.call88 Tryd.ntmps88 (congrArg Array.toList Tryd.results88) (by simp) ?_
    repeat (first|(((with_reducible refine Qa fun K E hK hE=>?_));simp -implicitDefEqProofs only [Qc,Qd,OpW,aop,undef,AS.ev,Qq,AV.Qp8,↓reduceIte,Qg,Qw,Qv,QB,Qp,aBin,ti3,Xy,Xz,Yi,Qs,w1,f1,f2,f3,f4,fb,m0,d0,z0,c1,seval])|(with_reducible (first|refine Qf fun K hK=>?_|refine Qj ?_|refine Ql ?_|refine Qm ?_|refine Qb ?_|refine Qu ?_|refine Qy ?_))|((with_reducible refine hK _ ?_);clear hK)|(refine Qh rfl ?_;simp only [↓reduceIte,Qq3]))
    simp only [QF,Qn,Qr,upd,↓reduceIte,Qq5,Qq9]
    exact XA (Xx _ _) (.keep (.v _)) ⟨rfl,rfl⟩
   have e1 : -2147483648≤t.int:=by omega
   by_cases c2:t.int≤2147483648
   rotate_left
   ·skip
    have R:t.run b ((dn+1:Nat):Int)=(false,b - 1):=by
     rw [T.run_eq,if_neg hn,if_pos k0];simp [e1,c2]
    rw [R]
    refine Qe Tryd.func88 rfl Tryd.call88 Tryd.ntmps88 (congrArg Array.toList Tryd.results88) (by simp) ?_
    repeat (first|(((with_reducible refine Qa fun K E hK hE=>?_));simp -implicitDefEqProofs only [Qc,Qd,OpW,aop,undef,AS.ev,Qq,AV.Qp8,↓reduceIte,Qg,Qw,Qv,QB,Qp,aBin,ti3,Xy,Xz,Yi,Qs,w1,f1,f2,f3,f4,fb,m0,d0,z0,c1,c2,seval])|(with_reducible (first|refine Qf fun K hK=>?_|refine Qj ?_|refine Ql ?_|refine Qm ?_|refine Qb ?_|refine Qu ?_|refine Qy ?_))|((with_reducible refine hK _ ?_);clear hK)|(refine Qh rfl ?_;simp only [↓reduceIte,Qq3]))
    simp only [QF,Qn,Qr,upd,↓reduceIte,Qq5,Qq9]
    exact XA (Xx _ _) (.keep (.v _)) ⟨rfl,rfl⟩
   cases c3:Zj t.name with
   |false =>
    have c3':(t.name.toList==({data:=#[]}:ByteArray).toList)=false:=c3
    have R:t.run b ((dn+1:Nat):Int)=(false,b - 1):=by
     rw [T.run_eq,if_neg hn,if_pos k0];simp [e1,c2,c3]
    rw [R]
    refine Qe Tryd.func88 rfl Tryd.call88 Tryd.ntmps88 (congrArg Array.toList Tryd.results88) (by simp) ?_
    repeat (first|(((with_reducible refine Qa fun K E hK hE=>?_));simp -implicitDefEqProofs only [Qc,Qd,OpW,aop,undef,AS.ev,Qq,AV.Qp8,↓reduceIte,Qg,Qw,Qv,QB,Qp,aBin,ti3,ti9,Xy,Xz,Yj,Yi,Qs,w1,f1,f2,f3,f4,fb,m0,d0,z0,c1,c2,c3',seval])|(with_reducible (first|refine Qf fun K hK=>?_|refine Qj ?_|refine Ql ?_|refine Qm ?_|refine Qb ?_|refine Qu ?_|refine Qy ?_))|((with_reducible refine hK _ ?_);clear hK)|(refine Qh rfl ?_;simp only [↓reduceIte,Qq3]))
    simp only [QF,Qn,Qr,upd,↓reduceIte,Qq5,Qq9]
    exact XA (Xx _ _) (.keep (.v _)) ⟨rfl,rfl⟩
   |true =>
    have c3':(t.name.toList==({data:=#[]}:ByteArray).toList)=true:=c3
    cases hl:t.args with
    |nil =>
     have c4:((0:Int)==0)=true:=rfl
     have R:t.run b ((dn+1:Nat):Int)=(true,b - 1):=by
      rw [T.run_eq,if_neg hn,if_pos k0];simp [e1,c2,c3,hl]
     rw [R]
     refine Qe Tryd.func88 rfl Tryd.call88 Tryd.ntmps88 (congrArg Array.toList Tryd.results88) (by simp) ?_
     repeat (first|(((with_reducible refine Qa fun K E hK hE=>?_));simp -implicitDefEqProofs only [Qc,Qd,OpW,aop,undef,AS.ev,Qq,AV.Qp8,↓reduceIte,Qg,Qw,Qv,QB,Qp,aBin,aLen,goInt,ti3,ti9,ti50,un50,Xy,Xz,Yj,Yk,Yi,Qs,w1,f1,f2,f3,f4,fb,m0,d0,z0,c1,c2,c3',hl,Qf1,seval])|(with_reducible (first|refine Qf fun K hK=>?_|refine Qj ?_|refine Ql ?_|refine Qm ?_|refine Qb ?_|refine Qu ?_|refine Qy ?_))|((with_reducible refine hK _ ?_);clear hK)|(refine Qh rfl ?_;simp only [↓reduceIte,Qq3]))
     simp only [QF,Qn,Qr,upd,↓reduceIte,Qq5,Qq9]
     exact XA (Xx _ _) (.keep (.v _)) ⟨rfl,rfl⟩
    |cons a l =>
     have c4:(((l.length+1:Nat):Int)==0)=false:=by simp;omega
     have R:t.run b ((dn+1:Nat):Int)=(false,b - 1):=by
      rw [T.run_eq,if_neg hn,if_pos k0];simp [e1,c2,c3,hl]
     rw [R]
     refine Qe Tryd.func88 rfl Tryd.call88 Tryd.ntmps88 (congrArg Array.toList Tryd.results88) (by simp) ?_
     repeat (first|(((with_reducible refine Qa fun K E hK hE=>?_));simp -implicitDefEqProofs only [Qc,Qd,OpW,aop,undef,AS.ev,Qq,AV.Qp8,↓reduceIte,Qg,Qw,Qv,QB,Qp,aBin,aLen,goInt,ti3,ti9,ti50,un50,Xy,Xz,Yj,Yk,Yi,Qs,w1,f1,f2,f3,f4,fb,m0,d0,z0,c1,c2,c3',hl,c4,seval])|(with_reducible (first|refine Qf fun K hK=>?_|refine Qj ?_|refine Ql ?_|refine Qm ?_|refine Qb ?_|refine Qu ?_|refine Qy ?_))|((with_reducible refine hK _ ?_);clear hK)|(refine Qh rfl ?_;simp only [↓reduceIte,Qq3]))
     simp only [QF,Qn,Qr,upd,↓reduceIte,Qq5,Qq9]
     exact XA (Xx _ _) (.keep (.v _)) ⟨rfl,rfl⟩
  have z0:(t.kind==0)=false:=by simp [k0]
  by_cases k1:t.kind=1
  ·have z1:(t.kind==1)=true:=by simp [k1]
   by_cases c1:t.int≥0
   rotate_left
   ·have e1:¬ 0≤t.int:=by omega
    have R:t.run b ((dn+1:Nat):Int)=(false,b - 1):=by
     rw [T.run_eq,if_neg hn,if_neg k0,if_pos k1];simp [e1]
    rw [R]
    refine Qe Tryd.func88 rfl Tryd.call88 Tryd.ntmps88 (congrArg Array.toList Tryd.results88) (by simp) ?_
    repeat (first|(((with_reducible refine Qa fun K E hK hE=>?_));simp -implicitDefEqProofs only [Qc,Qd,OpW,aop,undef,AS.ev,Qq,AV.Qp8,↓reduceIte,Qg,Qw,Qv,QB,Qp,aBin,ti3,Xy,Xz,Yi,Qs,w1,f1,f2,f3,f4,fb,m0,d0,z0,z1,c1,seval])|(with_reducible (first|refine Qf fun K hK=>?_|refine Qj ?_|refine Ql ?_|refine Qm ?_|refine Qb ?_|refine Qu ?_|refine Qy ?_))|((with_reducible refine hK _ ?_);clear hK)|(refine Qh rfl ?_;simp only [↓reduceIte,Qq3]))
    simp only [QF,Qn,Qr,upd,↓reduceIte,Qq5,Qq9]
    exact XA (Xx _ _) (.keep (.v _)) ⟨rfl,rfl⟩
   have e1:0≤t.int:=by omega
   by_cases c2:t.int≤1048576
   rotate_left
   ·skip
    have R:t.run b ((dn+1:Nat):Int)=(false,b - 1):=by
     rw [T.run_eq,if_neg hn,if_neg k0,if_pos k1];simp [e1,c2]
    rw [R]
    refine Qe Tryd.func88 rfl Tryd.call88 Tryd.ntmps88 (congrArg Array.toList Tryd.results88) (by simp) ?_
    repeat (first|(((with_reducible refine Qa fun K E hK hE=>?_));simp -implicitDefEqProofs only [Qc,Qd,OpW,aop,undef,AS.ev,Qq,AV.Qp8,↓reduceIte,Qg,Qw,Qv,QB,Qp,aBin,ti3,Xy,Xz,Yi,Qs,w1,f1,f2,f3,f4,fb,m0,d0,z0,z1,c1,c2,seval])|(with_reducible (first|refine Qf fun K hK=>?_|refine Qj ?_|refine Ql ?_|refine Qm ?_|refine Qb ?_|refine Qu ?_|refine Qy ?_))|((with_reducible refine hK _ ?_);clear hK)|(refine Qh rfl ?_;simp only [↓reduceIte,Qq3]))
    simp only [QF,Qn,Qr,upd,↓reduceIte,Qq5,Qq9]
    exact XA (Xx _ _) (.keep (.v _)) ⟨rfl,rfl⟩
   cases c3:Zj t.name with
   |false =>
    have c3':(t.name.toList==({data:=#[]}:ByteArray).toList)=false:=c3
    have R:t.run b ((dn+1:Nat):Int)=(false,b - 1):=by
     rw [T.run_eq,if_neg hn,if_neg k0,if_pos k1];simp [e1,c2,c3]
    rw [R]
    refine Qe Tryd.func88 rfl Tryd.call88 Tryd.ntmps88 (congrArg Array.toList Tryd.results88) (by simp) ?_
    repeat (first|(((with_reducible refine Qa fun K E hK hE=>?_));simp -implicitDefEqProofs only [Qc,Qd,OpW,aop,undef,AS.ev,Qq,AV.Qp8,↓reduceIte,Qg,Qw,Qv,QB,Qp,aBin,ti3,ti9,Xy,Xz,Yj,Yi,Qs,w1,f1,f2,f3,f4,fb,m0,d0,z0,z1,c1,c2,c3',seval])|(with_reducible (first|refine Qf fun K hK=>?_|refine Qj ?_|refine Ql ?_|refine Qm ?_|refine Qb ?_|refine Qu ?_|refine Qy ?_))|((with_reducible refine hK _ ?_);clear hK)|(refine Qh rfl ?_;simp only [↓reduceIte,Qq3]))
    simp only [QF,Qn,Qr,upd,↓reduceIte,Qq5,Qq9]
    exact XA (Xx _ _) (.keep (.v _)) ⟨rfl,rfl⟩
   |true =>
    have c3':(t.name.toList==({data:=#[]}:ByteArray).toList)=true:=c3
    cases hl:t.args with
    |nil =>
     have c4:((0:Int)==0)=true:=rfl
     have R:t.run b ((dn+1:Nat):Int)=(true,b - 1):=by
      rw [T.run_eq,if_neg hn,if_neg k0,if_pos k1];simp [e1,c2,c3,hl]
     rw [R]
     refine Qe Tryd.func88 rfl Tryd.call88 Tryd.ntmps88 (congrArg Array.toList Tryd.results88) (by simp) ?_
     repeat (first|(((with_reducible refine Qa fun K E hK hE=>?_));simp -implicitDefEqProofs only [Qc,Qd,OpW,aop,undef,AS.ev,Qq,AV.Qp8,↓reduceIte,Qg,Qw,Qv,QB,Qp,aBin,aLen,goInt,ti3,ti9,ti50,un50,Xy,Xz,Yj,Yk,Yi,Qs,w1,f1,f2,f3,f4,fb,m0,d0,z0,z1,c1,c2,c3',hl,Qf1,seval])|(with_reducible (first|refine Qf fun K hK=>?_|refine Qj ?_|refine Ql ?_|refine Qm ?_|refine Qb ?_|refine Qu ?_|refine Qy ?_))|((with_reducible refine hK _ ?_);clear hK)|(refine Qh rfl ?_;simp only [↓reduceIte,Qq3]))
     simp only [QF,Qn,Qr,upd,↓reduceIte,Qq5,Qq9]
     exact XA (Xx _ _) (.keep (.v _)) ⟨rfl,rfl⟩
    |cons a l =>
     have c4:(((l.length+1:Nat):Int)==0)=false:=by simp;omega
     have R:t.run b ((dn+1:Nat):Int)=(false,b - 1):=by
      rw [T.run_eq,if_neg hn,if_neg k0,if_pos k1];simp [e1,c2,c3,hl]
     rw [R]
     refine Qe Tryd.func88 rfl Tryd.call88 Tryd.ntmps88 (congrArg Array.toList Tryd.results88) (by simp) ?_
     repeat (first|(((with_reducible refine Qa fun K E hK hE=>?_));simp -implicitDefEqProofs only [Qc,Qd,OpW,aop,undef,AS.ev,Qq,AV.Qp8,↓reduceIte,Qg,Qw,Qv,QB,Qp,aBin,aLen,goInt,ti3,ti9,ti50,un50,Xy,Xz,Yj,Yk,Yi,Qs,w1,f1,f2,f3,f4,fb,m0,d0,z0,z1,c1,c2,c3',hl,c4,seval])|(with_reducible (first|refine Qf fun K hK=>?_|refine Qj ?_|refine Ql ?_|refine Qm ?_|refine Qb ?_|refine Qu ?_|refine Qy ?_))|((with_reducible refine hK _ ?_);clear hK)|(refine Qh rfl ?_;simp only [↓reduceIte,Qq3]))
     simp only [QF,Qn,Qr,upd,↓reduceIte,Qq5,Qq9]
     exact XA (Xx _ _) (.keep (.v _)) ⟨rfl,rfl⟩
  have z1:(t.kind==1)=false:=by simp [k1]
  by_cases k2:t.kind=2
  rotate_left
  ·have z2:(t.kind==2)=false:=by simp [k2]
   have R:t.run b ((dn+1:Nat):Int)=(false,b - 1):=by
    rw [T.run_eq,if_neg hn,if_neg k0,if_neg k1,if_neg k2]
   rw [R]
   refine Qe Tryd.func88 rfl Tryd.call88 Tryd.ntmps88 (congrArg Array.toList Tryd.results88) (by simp) ?_
   repeat (first|(((with_reducible refine Qa fun K E hK hE=>?_));simp -implicitDefEqProofs only [Qc,Qd,OpW,aop,undef,AS.ev,Qq,AV.Qp8,↓reduceIte,Qg,Qw,Qv,QB,Qp,aBin,ti3,Xy,Yi,Qs,w1,f1,f2,f3,f4,fb,m0,d0,z0,z1,z2,seval])|(with_reducible (first|refine Qf fun K hK=>?_|refine Qj ?_|refine Ql ?_|refine Qm ?_|refine Qb ?_|refine Qo ?_))|((with_reducible refine hK _ ?_);clear hK)|(refine Qh rfl ?_;simp only [↓reduceIte,Qq3]))
   simp only [QF,Qn,Qr,upd,↓reduceIte,Qq5,Qq9]
   exact XA (Xx _ _) (.keep (.v _)) ⟨rfl,rfl⟩
  have z2:(t.kind==2)=true:=by simp [k2]
  by_cases i0:t.int=0
  rotate_left
  ·have y0:(t.int != 0)=true:=by simp [i0]
   have R:t.run b ((dn+1:Nat):Int)=(false,b - 1):=by
    rw [T.run_eq,if_neg hn,if_neg k0,if_neg k1,if_pos k2,if_pos (.inl i0)]
   rw [R]
   refine Qe Tryd.func88 rfl Tryd.call88 Tryd.ntmps88 (congrArg Array.toList Tryd.results88) (by simp) ?_
   repeat (first|(((with_reducible refine Qa fun K E hK hE=>?_));simp -implicitDefEqProofs only [Qc,Qd,OpW,aop,undef,AS.ev,Qq,AV.Qp8,↓reduceIte,Qg,Qw,Qv,QB,Qp,aBin,ti3,Xy,Xz,Yi,Qs,w1,f1,f2,f3,f4,fb,m0,d0,z0,z1,z2,y0,seval])|(with_reducible (first|refine Qf fun K hK=>?_|refine Qj ?_|refine Ql ?_|refine Qm ?_|refine Qb ?_|refine Qu ?_|refine Qy ?_))|((with_reducible refine hK _ ?_);clear hK)|(refine Qh rfl ?_;simp only [↓reduceIte,Qq3]))
   simp only [QF,Qn,Qr,upd,↓reduceIte,Qq5,Qq9]
   exact XA (Xx _ _) (.keep (.v _)) ⟨rfl,rfl⟩
  have y0:(t.int != 0)=false:=by simp [i0]
  by_cases a6:t.args.length>6
  ·have y6:(t.args.length:Int)>6:=by omega
   have R:t.run b ((dn+1:Nat):Int)=(false,b - 1):=by
    rw [T.run_eq,if_neg hn,if_neg k0,if_neg k1,if_pos k2,if_pos (.inr a6)]
   rw [R]
   refine Qe Tryd.func88 rfl Tryd.call88 Tryd.ntmps88 (congrArg Array.toList Tryd.results88) (by simp) ?_
   repeat (first|(((with_reducible refine Qa fun K E hK hE=>?_));simp -implicitDefEqProofs only [Qc,Qd,OpW,aop,undef,AS.ev,Qq,AV.Qp8,↓reduceIte,Qg,Qw,Qv,QB,Qp,aBin,aLen,goInt,ti3,ti50,un50,Xy,Xz,Yk,Yi,Qs,w1,f1,f2,f3,f4,fb,m0,d0,z0,z1,z2,y0,y6,seval])|(with_reducible (first|refine Qf fun K hK=>?_|refine Qj ?_|refine Ql ?_|refine Qm ?_|refine Qb ?_|refine Qu ?_|refine Qy ?_))|((with_reducible refine hK _ ?_);clear hK)|(refine Qh rfl ?_;simp only [↓reduceIte,Qq3]))
   simp only [QF,Qn,Qr,upd,↓reduceIte,Qq5,Qq9]
   exact XA (Xx _ _) (.keep (.v _)) ⟨rfl,rfl⟩
  have y6:¬ (t.args.length:Int)>6:=by omega
  have a6':¬ 6<t.args.length:=a6
  have cr:=QfH t.name
  have co:=Qci t.name
  have er:(decide (QcX 1 t.name)&&!resB t.name)=ZJ t.name:=rfl
  rw [er] at cr
  have hind:=fun b2 hb=>Qky dn (fun t b i h0 h1=>ih t b i (by omega) h0 h1) t.args (by omega) b2 i hb (fun t b hb h=>T.Qqv t b dn hb h)
  have ca:=(hind (b - 1) (by omega)).app hi [.cells 54 4 [t.av]]
  rw [fb,fb] at ca
  cases hr:ZJ t.name with
  |true =>
   rw [hr] at cr
   have R:t.run b ((dn+1:Nat):Int)=runL t.args (b - 1) (dn:Int):=by
    rw [T.run_eq,if_neg hn,if_neg k0,if_neg k1,if_pos k2,if_neg (show ¬ (t.int≠0∨6<t.args.length) by omega),hr,if_neg (by simp)];rw [show (((dn+1:Nat):Int) - 1)=(dn:Int) by omega]
   rw [R]
   refine Qe Tryd.func88 rfl Tryd.call88 Tryd.ntmps88 (congrArg Array.toList Tryd.results88) (by simp) ?_
   repeat (first|((first|(with_reducible (first|refine Qa fun K E hK hE=>?_|refine Qz cr ?_|refine FunW.ret (FunW.call ca) ?_)));simp -implicitDefEqProofs only [Qc,Qd,OpW,QE,aop,undef,AS.ev,Qq,AV.Qp8,↓reduceIte,Qg,Qw,Qv,QB,Qp,aBin,aLen,goInt,ti3,ti9,ti50,un50,Xy,Xz,Yj,Yk,Yi,Qs,w1,f1,f2,f3,f4,fb,m0,d0,z0,z1,z2,y0,y6,wd,seval])|(with_reducible (first|refine Qf fun K hK=>?_|refine Qj ?_|refine Ql ?_|refine Qm ?_|refine Qb ?_|refine Qu ?_|refine Qy ?_))|((with_reducible refine hK _ ?_);clear hK)|(refine Qh rfl ?_;simp only [↓reduceIte,Qq3]))
   simp only [QF,Qn,Qr,upd,↓reduceIte,Qq5,Qq9]
   exact XA (Xx _ _) (.keep (.v _)) ⟨rfl,rfl⟩
  |false =>
   rw [hr] at cr
   cases ho:opB t.name with
   |false =>
    rw [ho] at co
    have R:t.run b ((dn+1:Nat):Int)=(false,b - 1):=by
     rw [T.run_eq,if_neg hn,if_neg k0,if_neg k1,if_pos k2,if_neg (show ¬ (t.int≠0∨6<t.args.length) by omega),hr,ho,if_pos (by simp)]
    rw [R]
    refine Qe Tryd.func88 rfl Tryd.call88 Tryd.ntmps88 (congrArg Array.toList Tryd.results88) (by simp) ?_
    repeat (first|((first|(with_reducible (first|refine Qa fun K E hK hE=>?_|refine Qz cr ?_|refine Qz co ?_)));simp -implicitDefEqProofs only [Qc,Qd,OpW,QE,aop,undef,AS.ev,Qq,AV.Qp8,↓reduceIte,Qg,Qw,Qv,QB,Qp,aBin,aLen,goInt,ti3,ti9,ti50,un50,Xy,Xz,Yj,Yk,Yi,Qs,w1,f1,f2,f3,f4,fb,m0,d0,z0,z1,z2,y0,y6,seval])|(with_reducible (first|refine Qf fun K hK=>?_|refine Qj ?_|refine Ql ?_|refine Qm ?_|refine Qb ?_|refine Qu ?_|refine Qy ?_))|((with_reducible refine hK _ ?_);clear hK)|(refine Qh rfl ?_;simp only [↓reduceIte,Qq3]))
    simp only [QF,Qn,Qr,upd,↓reduceIte,Qq5,Qq9]
    exact XA (Xx _ _) (.keep (.v _)) ⟨rfl,rfl⟩
   |true =>
    rw [ho] at co
    by_cases l2:t.args.length=2
    ·have z3:((t.args.length:Int)==2)=true:=by simp [l2]
     have R:t.run b ((dn+1:Nat):Int)=runL t.args (b - 1) (dn:Int):=by
      rw [T.run_eq,if_neg hn,if_neg k0,if_neg k1,if_pos k2,if_neg (show ¬ (t.int≠0∨6<t.args.length) by omega),hr,ho,if_neg (by simp [l2])];rw [show (((dn+1:Nat):Int) - 1)=(dn:Int) by omega]
     rw [R]
     refine Qe Tryd.func88 rfl Tryd.call88 Tryd.ntmps88 (congrArg Array.toList Tryd.results88) (by simp) ?_
     repeat (first|((first|(with_reducible (first|refine Qa fun K E hK hE=>?_|refine Qz cr ?_|refine Qz co ?_|refine FunW.ret (FunW.call ca) ?_)));simp -implicitDefEqProofs only [Qc,Qd,OpW,QE,aop,undef,AS.ev,Qq,AV.Qp8,↓reduceIte,Qg,Qw,Qv,QB,Qp,aBin,aLen,goInt,ti3,ti9,ti50,un50,Xy,Xz,Yj,Yk,Yi,Qs,w1,f1,f2,f3,f4,fb,m0,d0,z0,z1,z2,y0,y6,z3,wd,seval])|(with_reducible (first|refine Qf fun K hK=>?_|refine Qj ?_|refine Ql ?_|refine Qm ?_|refine Qb ?_|refine Qu ?_|refine Qy ?_))|((with_reducible refine hK _ ?_);clear hK)|(refine Qh rfl ?_;simp only [↓reduceIte,Qq3]))
     simp only [QF,Qn,Qr,upd,↓reduceIte,Qq5,Qq9]
     exact XA (Xx _ _) (.keep (.v _)) ⟨rfl,rfl⟩
    ·have z3:((t.args.length:Int)==2)=false:=by simp;omega
     have R:t.run b ((dn+1:Nat):Int)=(false,b - 1):=by
      rw [T.run_eq,if_neg hn,if_neg k0,if_neg k1,if_pos k2,if_neg (show ¬ (t.int≠0∨6<t.args.length) by omega),hr,ho,if_pos (by simp [l2])]
     rw [R]
     refine Qe Tryd.func88 rfl Tryd.call88 Tryd.ntmps88 (congrArg Array.toList Tryd.results88) (by simp) ?_
     repeat (first|((first|(with_reducible (first|refine Qa fun K E hK hE=>?_|refine Qz cr ?_|refine Qz co ?_)));simp -implicitDefEqProofs only [Qc,Qd,OpW,QE,aop,undef,AS.ev,Qq,AV.Qp8,↓reduceIte,Qg,Qw,Qv,QB,Qp,aBin,aLen,goInt,ti3,ti9,ti50,un50,Xy,Xz,Yj,Yk,Yi,Qs,w1,f1,f2,f3,f4,fb,m0,d0,z0,z1,z2,y0,y6,z3,seval])|(with_reducible (first|refine Qf fun K hK=>?_|refine Qj ?_|refine Ql ?_|refine Qm ?_|refine Qb ?_|refine Qu ?_|refine Qy ?_))|((with_reducible refine hK _ ?_);clear hK)|(refine Qh rfl ?_;simp only [↓reduceIte,Qq3]))
     simp only [QF,Qn,Qr,upd,↓reduceIte,Qq5,Qq9]
     exact XA (Xx _ _) (.keep (.v _)) ⟨rfl,rfl⟩
end Go.Proofs.YticgcpebdldbgaaDoor.Ab
namespace Go.Proofs.YticgcpebdldbgaaDoor.Ab
theorem XG {P:Program} {N c:Nat} {fv:AV} {args:List AV} {s:AS} {d:Option Tmp} {K:AS→Prop} {r:AV} {h':AH} (H:FunW P fv args s.h fun o h2=>o = .ret r∧h2=h') (hk:c=3→Keep s.h h') (k:K (AS.put N {s with h:=h'} d r)):Qn0 P N c fv args s d K:=⟨r,h',H,hk,k⟩
def vs {X:Type} (f:X→AV) (l:List X):List AV:=l.map f
section
variable {X:Type} (f:X→AV)
theorem Y5 (l:List X):(vs f l).length=l.length:=List.length_map _
theorem QhO {l:List X} {k:Nat} (h:k<l.length):(vs f l)[k]? = some (f l[k]):=by
 rw [vs,List.getElem?_map,List.getElem?_eq_getElem h];rfl
theorem QhN (l m:List X):vs f (l++m)=vs f l++vs f m:=List.map_append
theorem QoK (x:X) (l:List X):vs f (x::l)=f x::vs f l:=rfl
theorem Qmr (n:Nat) (hf:∀ x,∀ a∈(f x).cells,Below n a) (l:List X):∀ a∈flat (vs f l),Below n a:=by
 intro a ha
 simp only [flat,vs,List.mem_flatMap,List.mem_map] at ha
 obtain ⟨x,⟨b,_,rfl⟩,hx⟩:=ha
 exact hf b a hx
theorem Qbv (n s:Nat) (hf:∀ x,∀ a∈(f x).cells,Below n a) (l:List X):Below n (.sl s (vs f l) none):=.sl s _ none (Qmr f n hf l) (fun b hb=>by cases hb)
end
structure G where
 op:Int
 name:ByteArray
 args:List T
def G.atom (g:G):AV:=.agg [.v (.string g.name),.sl 4 (avs g.args) none]
def G.goal (g:G):AV:=.agg [.v (.int .i64 g.op),.v (.string g.name),.sl 4 (avs g.args) none]
theorem YO (g:G):g.atom.cells=[.v (.string g.name),.sl 4 (avs g.args) none]:=rfl
theorem Q7 (g:G):g.goal.cells=[.v (.int .i64 g.op),.v (.string g.name),.sl 4 (avs g.args) none]:=rfl
theorem QiL (n:Nat) (g:G):∀ a∈g.atom.cells,Below n a:=by
 intro a ha
 rw [YO] at ha
 simp only [List.mem_cons,List.not_mem_nil,or_false] at ha
 rcases ha with rfl|rfl
 ·exact .v _
 ·exact QdN _ _
theorem QiX (n:Nat) (g:G):∀ a∈g.goal.cells,Below n a:=by
 intro a ha
 rw [Q7] at ha
 simp only [List.mem_cons,List.not_mem_nil,or_false] at ha
 rcases ha with rfl|rfl|rfl
 ·exact .v _
 ·exact .v _
 ·exact QdN _ _
structure Rl where
 name:ByteArray
 keep:List G
 remove:List G
 guard:List G
 body:List G
 vars:Int
def Rl.av (r:Rl):AV:=.agg [.v (.string r.name),.sl 2 (vs G.atom r.keep) none,.sl 2 (vs G.atom r.remove) none,.sl 3 (vs G.goal r.guard) none,.sl 3 (vs G.goal r.body) none,.v (.int .i64 r.vars)]
theorem Rl.cells (r:Rl):r.av.cells=[.v (.string r.name),.sl 2 (vs G.atom r.keep) none,.sl 2 (vs G.atom r.remove) none,.sl 3 (vs G.goal r.guard) none,.sl 3 (vs G.goal r.body) none,.v (.int .i64 r.vars)]:=rfl
theorem Rl.isAgg (r:Rl):r.av.isAgg=true:=rfl
structure Ky where
 name:ByteArray
 arity:Int
 pos:List Int
def Ky.av (k:Ky):AV:=.agg [.v (.string k.name),.v (.int .i64 k.arity),.sl 1 (ints k.pos) none]
theorem Ky.cells (k:Ky):k.av.cells=[.v (.string k.name),.v (.int .i64 k.arity),.sl 1 (ints k.pos) none]:=rfl
theorem Ky.isAgg (k:Ky):k.av.isAgg=true:=rfl
theorem QmY (n:Nat) (l:List Int):Below n (.sl 1 (ints l) none):=.sl 1 _ none (Qan n l) (fun b hb=>by cases hb)
theorem Ky.bel (n:Nat) (k:Ky):∀ a∈k.av.cells,Below n a:=by
 intro a ha
 rw [Ky.cells] at ha
 simp only [List.mem_cons,List.not_mem_nil,or_false] at ha
 rcases ha with rfl|rfl|rfl
 ·exact .v _
 ·exact .v _
 ·exact QmY _ _
theorem Ky.below (n:Nat) (k:Ky):Below n k.av:=.agg _ (Ky.bel n k)
structure It where
 id:Int
 atom:G
def It.av (x:It):AV:=.agg [.v (.int .i64 x.id),.v (.string x.atom.name),.sl 4 (avs x.atom.args) none]
theorem It.cells (x:It):x.av.cells=[.v (.int .i64 x.id),.v (.string x.atom.name),.sl 4 (avs x.atom.args) none]:=rfl
theorem It.isAgg (x:It):x.av.isAgg=true:=rfl
theorem Rl.bel (n:Nat) (r:Rl):∀ a∈r.av.cells,Below n a:=by
 intro a ha
 rw [Rl.cells] at ha
 simp only [List.mem_cons,List.not_mem_nil,or_false] at ha
 rcases ha with rfl|rfl|rfl|rfl|rfl|rfl
 ·exact .v _
 ·exact Qbv _ _ _ (QiL _) _
 ·exact Qbv _ _ _ (QiL _) _
 ·exact Qbv _ _ _ (QiX _) _
 ·exact Qbv _ _ _ (QiX _) _
 ·exact .v _
structure Dc where
 name:ByteArray
 arity:Int
def Dc.av (d:Dc):AV:=.agg [.v (.string d.name),.v (.int .i64 d.arity)]
theorem Dc.cells (d:Dc):d.av.cells=[.v (.string d.name),.v (.int .i64 d.arity)]:=rfl
theorem Dc.isAgg (d:Dc):d.av.isAgg=true:=rfl
theorem Dc.bel (n:Nat) (d:Dc):∀ a∈d.av.cells,Below n a:=by
 intro a ha
 rw [Dc.cells] at ha
 simp only [List.mem_cons,List.not_mem_nil,or_false] at ha
 rcases ha with rfl|rfl <;> exact .v _
structure Pg where
 decls:List Dc
 rules:List Rl
def Pg.av (p:Pg):AV:=.agg [.sl 2 (vs Dc.av p.decls) none,.sl 6 (vs Rl.av p.rules) none]
theorem Pg.cells (p:Pg):p.av.cells=[.sl 2 (vs Dc.av p.decls) none,.sl 6 (vs Rl.av p.rules) none]:=rfl
theorem Pg.isAgg (p:Pg):p.av.isAgg=true:=rfl
end Go.Proofs.YticgcpebdldbgaaDoor.Ab
set_option maxRecDepth 4000
namespace Go.Proofs.YticgcpebdldbgaaDoor.Ab
open Go.Proofs
theorem Chg.at {P:Program} {f:FuncId} {args:List AV} {i:Nat} {x y:AB} {r:AV} (H:Chg P f args i x r y) {h:AH} (hx:h[i]? = some x):QJ P f args h fun o h'=>o = .ret r∧h'=h.set i y:=by
 have:=H h (Qt hx)
 rwa [Qog hx] at this
theorem QnF (l:List T) (hl:l.length≤1000) (h:AH) (i:Nat) (hx:h[i]? = some (.cells 121 1 [.agg [.i 200]])):QJ Tryd.prog 76 [.ptr i 0 0,.sl 4 (avs l) none,.i 20] h
  fun o h'=>o = .ret (.b (runL l 200 20).1)∧h'=h.set i (.cells 121 1 [.agg [.i (runL l 200 20).2]]) :=
 (Qky 20 (fun t b i h0 h1=>Qmp 20 t b i (by omega) h0 h1) l hl 200 i (by omega) (fun t b hb h=>T.Qqv t b 20 hb h)).at hx
def QP (g:G):Bool:=ZJ g.name&&(decide (g.args.length≤6)&&(runL g.args 200 20).1)
theorem QbD (g:G):Pure Tryd.prog 62 [g.atom] (.b (QP g)):=by
 intro h
 have cr:=QfH g.name
 have er:(decide (QcX 1 g.name)&&!resB g.name)=ZJ g.name:=rfl
 rw [er] at cr
 cases hr:ZJ g.name with
 |false =>
  rw [hr] at cr
  refine Qe Tryd.func62 rfl Tryd.call62 Tryd.ntmps62 (congrArg Array.toList Tryd.results62) (by simp) ?_
  repeat (first|((first|(with_reducible (first|refine Qa fun K E hK hE=>?_|refine Qz cr ?_)));simp -implicitDefEqProofs only [Qc,Qd,OpW,QE,aop,undef,AS.ev,Qq,AV.Qp8,↓reduceIte,Qg,Qw,Qv,Xf,Xu,ti9,Qc2,QhP,QhG,YO,seval])|(with_reducible refine Ql ?_)|((with_reducible refine hK _ ?_);clear hK))
  simp only [QF,Qn,Qr,upd,↓reduceIte,Qq5,Qq9];first|refine Qi (htake _ _) (.keep (.v _)) ⟨by rw [QP,hr];rfl,rfl⟩|refine Qi List.take_length (.keep (.v _)) ⟨by rw [QP,hr];rfl,rfl⟩
 |true =>
  rw [hr] at cr
  by_cases hl:(g.args.length:Int)≤6
  ·have hl':decide (g.args.length≤6)=true:=decide_eq_true (by omega)
   have ca:=QnF g.args (by omega) (h++[.cells 72 2 [g.atom],.cells 121 1 [.agg [.i 200]]]) (h.length+1) (by rw [hget];rfl)
   rw [hset] at ca
   refine Qe Tryd.func62 rfl Tryd.call62 Tryd.ntmps62 (congrArg Array.toList Tryd.results62) (by simp) ?_
   repeat (first|((first|(with_reducible (first|refine Qa fun K E hK hE=>?_|refine Qz cr ?_|refine FunW.ret (FunW.call ca) ?_)));simp -implicitDefEqProofs only [Qc,Qd,OpW,QE,aop,undef,AS.ev,Qq,AV.Qp8,↓reduceIte,Qg,Qw,Qv,aBin,Xf,Xu,aLen,goInt,ti9,ti50,un50,Qc2,Zs,QhP,QhG,YO,hl,seval])|(with_reducible refine Ql ?_)|((with_reducible refine hK _ ?_);clear hK))
   simp only [QF,Qn,Qr,upd,↓reduceIte,Qq5,Qq9];first|refine Qi (htake _ _) (.keep (.v _)) ⟨by rw [QP,hr,hl'];rfl,rfl⟩|refine Qi List.take_length (.keep (.v _)) ⟨by rw [QP,hr,hl'];rfl,rfl⟩
  ·have hl':decide (g.args.length≤6)=false:=decide_eq_false (by omega)
   refine Qe Tryd.func62 rfl Tryd.call62 Tryd.ntmps62 (congrArg Array.toList Tryd.results62) (by simp) ?_
   repeat (first|((first|(with_reducible (first|refine Qa fun K E hK hE=>?_|refine Qz cr ?_)));simp -implicitDefEqProofs only [Qc,Qd,OpW,QE,aop,undef,AS.ev,Qq,AV.Qp8,↓reduceIte,Qg,Qw,Qv,aBin,Xf,Xu,aLen,goInt,ti9,ti50,un50,Qc2,Zs,QhP,QhG,YO,hl,seval])|(with_reducible refine Ql ?_)|((with_reducible refine hK _ ?_);clear hK))
   simp only [QF,Qn,Qr,upd,↓reduceIte,Qq5,Qq9];first|refine Qi (htake _ _) (.keep (.v _)) ⟨by rw [QP,hr,hl'];rfl,rfl⟩|refine Qi List.take_length (.keep (.v _)) ⟨by rw [QP,hr,hl'];rfl,rfl⟩
def QaD (op:Int):Int:=if op=1∨op=2 then 0 else if op=11∨op=12 then 1 else 2
def QU (g:G):Bool:=if g.op=0 then QP ⟨0,g.name,g.args⟩ else
 decide (0<g.op∧g.op≤12)&&(Zj g.name&&(decide ((g.args.length:Int)=QaD g.op)&&(runL g.args 200 20).1))
mutual
/-- the occurrences of variables -/
def T.vars:T→List Int
 | .mk k i _ l=>if k=1 then [i] else if k=2 then Q4 l else []
def Q4:List T→List Int
 |[]=>[]
 |t::l=>t.vars++Q4 l
end
theorem Qae:∀ l r:List T,Q4 (l++r)=Q4 l++Q4 r
 |[],r=>rfl
 |t::l,r=>by simp only [Qrr,Q4,Qae l r,List.append_assoc]
def ins (s:List Int) (n:Int):List Int:=if n∈s then s else s++[n]
def ded:List Int→List Int→List Int
 |s,[]=>s
 |s,n::l=>ded (ins s n) l
theorem Yh:∀ s l r:List Int,ded s (l++r)=ded (ded s l) r
 |s,[],r=>rfl
 |s,n::l,r=>by simp only [Qrr,ded,Yh]
theorem Qoi (s:List Int) (n:Int):∃ r,ins s n=s++r:=by
 unfold ins
 split
 ·exact ⟨[],by simp⟩
 ·exact ⟨[n],rfl⟩
theorem Qa0:∀ s l:List Int,∃ r,ded s l=s++r
 |s,[]=>⟨[],by simp [ded]⟩
 |s,n::l=>by
  obtain ⟨r,h⟩:=Qoi s n
  obtain ⟨r',h'⟩:=Qa0 (ins s n) l
  exact ⟨r++r',by rw [ded,h',h,List.append_assoc]⟩
theorem Qij {s:List Int} {n v:Int}:v∈ins s n↔v∈s∨v=n:=by
 unfold ins
 split
 ·rename_i h
  exact ⟨.inl,fun h'=>h'.elim id (fun e=>e▸h)⟩
 ·simp
theorem Qii:∀ {s l:List Int} {v:Int},v∈ded s l↔v∈s∨v∈l
 |s,[],v=>by simp [ded]
 |s,n::l,v=>by
  simp only [ded,Qii (l:=l),Qij,List.mem_cons,or_assoc]
theorem QjP (s:List Int) (n:Int):(ins s n).length≤s.length+1:=by
 unfold ins
 split
 ·omega
 ·simp
theorem Zy:∀ s l:List Int,(ded s l).length≤s.length+l.length
 |s,[]=>by simp [ded]
 |s,n::l=>by
  have h1:=Zy (ins s n) l
  have h2:=QjP s n
  simp only [ded,Qrc]
  omega
def plc:List Int→Int→Nat
 |[],_=>0
 |a::l,n=>if a=n then 0 else plc l n+1
theorem QcR {n:Int}:∀ {s:List Int} (r:List Int),n∈s→plc (s++r) n=plc s n
 |a::s,r,h=>by
  simp only [Qrr,plc]
  split
  ·rfl
  ·rename_i hne
   rw [QcR r (by rcases List.mem_cons.1 h with h|h;exact absurd h.symm hne;exact h)]
theorem QbB {n:Int} {s:List Int} (r:List Int) (h:n∉s):plc (s++n::r) n=s.length:=by
 induction s with
 |nil=>simp [plc]
 |cons a s ih =>
  simp only [List.mem_cons,not_or] at h
  simp only [Qrr,plc,if_neg (fun e:a=n=>h.1 e.symm),ih h.2,Qrc]
theorem QlU {n:Int}:∀ {s:List Int},n∈s→plc s n<s.length
 |a::s,h=>by
  simp only [plc,Qrc]
  split
  ·omega
  ·rename_i hne
   have:=QlU (s:=s) (n:=n) (by rcases List.mem_cons.1 h with h|h;exact absurd h.symm hne;exact h)
   omega
mutual
def T.dep:T→Nat
 | .mk k _ _ l=>1+(if k=2 then deps l else 0)
def deps:List T→Nat
 |[]=>0
 |t::l=>max t.dep (deps l)
end
theorem T.QqM (t:T):t.dep=1+deps t.uses:=by
 cases t with|mk k i n l =>
 show T.dep (.mk k i n l)=1+deps (if k=2 then l else [])
 simp only [T.dep]
 by_cases h:k=2
 ·simp [h]
 ·simp [h,deps]
theorem QdV:∀ l r:List T,deps (l++r)=max (deps l) (deps r)
 |[],r=>by simp [deps]
 |t::l,r=>by simp only [Qrr,deps,QdV l r];omega
theorem QeN {l:List T} {k:Nat} (h:k<l.length):deps (l.take (k+1))=max (deps (l.take k)) (l[k]).dep:=by
 rw [List.take_succ_eq_append_getElem h,QdV];simp [deps]
mutual
theorem T.Qqw:∀ t:T,t.dep≤t.size
 | .mk k i n l=>by
  simp only [T.dep,T.size]
  have:=Qfi l
  split <;> omega
theorem Qfi:∀ l:List T,deps l≤sizes l
 |[]=>Nat.le_refl _
 |t::l=>by
  simp only [deps,sizes]
  have:=T.Qqw t
  have:=Qfi l
  omega
end
theorem Qbf (t:T):Pure Tryd.prog 82 [t.av] (.sl 4 (avs t.uses) none):=by
 intro h
 refine Qe Tryd.func82 rfl Tryd.call82 Tryd.ntmps82 (congrArg Array.toList Tryd.results82) (by simp) ?_
 by_cases hk:t.kind=2
 ·have hb:(t.kind==2)=true:=by simpa using hk
  repeat (first|(((with_reducible refine Qa fun K E hK hE=>?_));simp -implicitDefEqProofs only [Qc,Qd,OpW,aop,undef,AS.ev,Qq,AV.Qp8,↓reduceIte,Qg,Qw,Qv,aBin,ti3,ti50,Xy,Yk,hb,seval])|(with_reducible (first|refine Qf fun K hK=>?_|refine Ql ?_|refine Qu ?_))|((with_reducible refine hK _ ?_);clear hK)|(refine Qh rfl ?_;simp only [↓reduceIte]))
  simp only [QF,Qn,Qr,upd,↓reduceIte,Qq5,Qq9]
  refine Qi (htake _ _) (.keep (QdN _ _)) ⟨by rw [T.uses,if_pos hk],rfl⟩
 ·have hb:(t.kind==2)=false:=by simpa using hk
  repeat (first|(((with_reducible refine Qa fun K E hK hE=>?_));simp -implicitDefEqProofs only [Qc,Qd,OpW,aop,undef,AS.ev,Qq,AV.Qp8,↓reduceIte,Qg,Qw,Qv,aBin,ti3,Xy,hb,seval])|(with_reducible (first|refine Qf fun K hK=>?_|refine Ql ?_|refine Qm ?_|refine Qb ?_))|((with_reducible refine hK _ ?_);clear hK)|(refine Qh rfl ?_;simp only [↓reduceIte,Qq3]))
  simp only [QF,Qn,Qr,upd,↓reduceIte,Qq5,Qq9]
  refine Qi (htake _ _) (.nil 4) ⟨by rw [T.uses,if_neg hk];rfl,rfl⟩
theorem Qmo {t:T} {k:Nat} (h:k<t.uses.length):(t.uses[k]).size<t.size:=by
 have h1:=Qbj h
 have h2:=Qcv t.uses (k+1)
 have h3:=T.size_eq t
 omega
theorem Qdb (n:Nat):∀ t:T,t.size≤n→n≤1000000→Pure Tryd.prog 67 [t.av] (.i (t.size:Nat)):=by
 induction n with
 |zero=>intro t h;have:=size_pos t;omega
 |succ n ih =>
  intro t hn hb h
  have hsz:=T.size_eq t
  have hll:=Qba t.uses
  have c0:=Qbf t
  refine Qe Tryd.func67 rfl Tryd.call67 Tryd.ntmps67 (congrArg Array.toList Tryd.results67) (by simp) ?_
  repeat (first|((first|(with_reducible (first|refine Qa fun K E hK hE=>?_|refine Qz c0 ?_)));simp -implicitDefEqProofs only [Qc,Qd,OpW,QE,aop,undef,AS.ev,Qq,AV.Qp8,↓reduceIte,Qw,Qv,ti54,seval])|(with_reducible (first|refine Qf fun K hK=>?_|refine Qj ?_))|((with_reducible refine hK _ ?_);clear hK))
  obtain ⟨I,hI⟩:∃ I:Nat→AS→Prop,I=fun m' s=>∃ (k:Nat) (L:AH),m'=t.uses.length - k∧k≤t.uses.length∧s.tm 3 = .i ((1+sizes (t.uses.take k):Nat):Int)∧s.tm 4 = .sl 4 (avs t.uses) none∧s.tm 5 = .i k∧s.h=h++L:=⟨_,rfl⟩;refine QO I ?_ (m:=t.uses.length) ?_
  ·intro m' s hs;rw [hI] at hs;obtain ⟨tm,hp⟩:=s;dsimp only at hs;obtain ⟨k,L,rfl,hk,t3,t4,t5,rfl⟩:=hs
   by_cases hlt:k<t.uses.length
   ·have hts:=Qbj hlt
    have htl:=Qcv t.uses (k+1)
    have c:=ih t.uses[k] (by have:=Qmo hlt;omega) (by omega)
    repeat (first|((first|(with_reducible (first|refine Qa fun K E hK hE=>?_|refine Qk fun K E hK hE=>?_|refine Qz c ?_)));simp -implicitDefEqProofs only [Qc,Qd,OpW,QE,aop,AS.ev,↓reduceIte,Qw,Qv,QK,aBin,aLen,goInt,ei50,un50,ti54,hlt,t3,t4,t5,Qay hlt,seval])|(with_reducible (first|refine Qf fun K hK=>?_|refine Qj ?_|refine Qm ?_|refine Qb ?_|refine Qo ?_))|((with_reducible refine hK _ ?_);clear hK)|(refine Qh rfl ?_;simp only [↓reduceIte]))
    refine Xi.mk (m':=t.uses.length - (k+1)) (by omega) ?_
    rw [hI]
    refine ⟨k+1,_,rfl,hlt,?_,t4,?_,rfl⟩
    ·simp only [upd,↓reduceIte,Nat.reduceEqDiff]
     rw [XR (by omega)]
     congr 2;omega
    ·simp only [upd,↓reduceIte]
     rw [Xk (by omega)]
   ·have hkl:k=t.uses.length:=by omega
    repeat (first|(((with_reducible refine Qa fun K E hK hE=>?_));simp -implicitDefEqProofs only [Qc,Qd,OpW,aop,AS.ev,↓reduceIte,aBin,aLen,goInt,un50,hlt,t3,t4,t5,seval])|(with_reducible (first|refine Qf fun K hK=>?_|refine Ql ?_|refine QG ?_|refine Qb ?_|refine QD ?_|refine QC ?_))|((with_reducible refine hK _ ?_);clear hK)|(clear hK;(with_reducible refine hK _ ?_);clear hK)|(refine Qh rfl ?_;simp only [↓reduceIte,Qq3]))
    simp only [QF,Qn,Qr,upd,↓reduceIte,Qq5,Qq9]
    refine Qi (htake _ _) (.keep (.v _)) ⟨?_,rfl⟩
    rw [hkl,List.take_length,hsz]
  ·rw [hI]
   exact ⟨0,[.cells 54 4 [t.av]],by omega,Nat.zero_le _,rfl,rfl,rfl,rfl⟩
theorem Qgt (n:Nat):∀ t:T,t.size≤n→n≤1000000→Pure Tryd.prog 81 [t.av] (.i (t.dep:Nat)):=by
 induction n with
 |zero=>intro t h;have:=size_pos t;omega
 |succ n ih =>
  intro t hn hb h
  have hsz:=T.size_eq t
  have hll:=Qba t.uses
  have hde:=T.QqM t
  have hds:=T.Qqw t
  have c0:=Qbf t
  refine Qe Tryd.func81 rfl Tryd.call81 Tryd.ntmps81 (congrArg Array.toList Tryd.results81) (by simp) ?_
  repeat (first|((first|(with_reducible (first|refine Qa fun K E hK hE=>?_|refine Qz c0 ?_)));simp -implicitDefEqProofs only [Qc,Qd,OpW,QE,aop,undef,AS.ev,Qq,AV.Qp8,↓reduceIte,Qw,Qv,ti54,seval])|(with_reducible (first|refine Qf fun K hK=>?_|refine Qj ?_))|((with_reducible refine hK _ ?_);clear hK))
  obtain ⟨I,hI⟩:∃ I:Nat→AS→Prop,I=fun m' s=>∃ (k:Nat) (L:AH),m'=t.uses.length - k∧k≤t.uses.length∧s.tm 3 = .i ((deps (t.uses.take k):Nat):Int)∧s.tm 4 = .sl 4 (avs t.uses) none∧s.tm 5 = .i k∧s.h=h++L:=⟨_,rfl⟩;refine QO I ?_ (m:=t.uses.length) ?_
  ·intro m' s hs;rw [hI] at hs;obtain ⟨tm,hp⟩:=s;dsimp only at hs;obtain ⟨k,L,rfl,hk,t3,t4,t5,rfl⟩:=hs
   by_cases hlt:k<t.uses.length
   ·have hts:=QeN hlt
    have c:=ih t.uses[k] (by have:=Qmo hlt;omega) (by omega)
    repeat (first|((first|(with_reducible (first|refine Qa fun K E hK hE=>?_|refine Qk fun K E hK hE=>?_|refine Qz c ?_)));simp -implicitDefEqProofs only [Qc,Qd,OpW,QE,aop,AS.ev,↓reduceIte,Qw,Qv,QK,aBin,aLen,goInt,ei50,un50,ti54,hlt,t3,t4,t5,Qay hlt,seval])|(with_reducible (first|refine Qf fun K hK=>?_|refine Qj ?_|refine Qm ?_|refine Qb ?_|refine Qo ?_))|((with_reducible refine hK _ ?_);clear hK)|(refine Qh rfl ?_;simp only [↓reduceIte]))
    refine Xi.mk (m':=t.uses.length - (k+1)) (by omega) ?_
    rw [hI]
    refine ⟨k+1,_,rfl,hlt,?_,t4,?_,rfl⟩
    ·simp only [upd,↓reduceIte,Nat.reduceEqDiff]
     rw [hts]
     congr 2
     split <;> omega
    ·simp only [upd,↓reduceIte]
     rw [Xk (by omega)]
   ·have hkl:k=t.uses.length:=by omega
    have hd2:deps (t.uses.take k)=deps t.uses:=by rw [hkl,List.take_length]
    rw [hd2] at t3
    repeat (first|(((with_reducible refine Qa fun K E hK hE=>?_));simp -implicitDefEqProofs only [Qc,Qd,OpW,aop,AS.ev,↓reduceIte,aBin,aLen,goInt,un50,hlt,t3,t4,t5,seval])|(with_reducible (first|refine Qf fun K hK=>?_|refine Ql ?_|refine QG ?_|refine Qb ?_|refine QD ?_|refine QC ?_))|((with_reducible refine hK _ ?_);clear hK)|(clear hK;(with_reducible refine hK _ ?_);clear hK)|(refine Qh rfl ?_;simp only [↓reduceIte,Qq3]))
    simp only [QF,Qn,Qr,upd,↓reduceIte,Qq5,Qq9]
    refine Qi (htake _ _) (.keep (.v _)) ⟨?_,rfl⟩
    rw [Xk (by omega),hde,Nat.add_comm]
  ·rw [hI]
   exact ⟨0,[.cells 54 4 [t.av]],by omega,Nat.zero_le _,rfl,rfl,rfl,rfl⟩
mutual
def T.map (g:Int→Int):T→T
 | .mk k i n l=>if k=1 then .mk k (g i) n l else if k=2 then .mk k i n (maps g l) else .mk k i n l
def maps (g:Int→Int):List T→List T
 |[]=>[]
 |t::l=>t.map g::maps g l
end
mutual
def T.mapS {σ:Type} (g:σ→Int→Int×σ):σ→T→T×σ
 |s,.mk k i n l=>if k=1 then (.mk k (g s i).1 n l,(g s i).2) else if k=2 then (.mk k i n (Xt g s l).1,(Xt g s l).2) else (.mk k i n l,s)
def Xt {σ:Type} (g:σ→Int→Int×σ):σ→List T→List T×σ
 |s,[]=>([],s)
 |s,t::l=>((T.mapS g s t).1::(Xt g (T.mapS g s t).2 l).1,(Xt g (T.mapS g s t).2 l).2)
end
theorem T.QqB {σ:Type} (g:σ→Int→Int×σ) (s:σ) (t:T):T.mapS g s t=if t.kind=1 then (.mk t.kind (g s t.int).1 t.name t.args,(g s t.int).2) else if t.kind=2 then (.mk t.kind t.int t.name (Xt g s t.args).1,(Xt g s t.args).2) else (t,s):=by
 cases t;simp only [T.mapS,T.kind,T.int,T.name,T.args];rfl
theorem Qc9 {σ:Type} (g:σ→Int→Int×σ):∀ (s:σ) (l r:List T),Xt g s (l++r)=((Xt g s l).1++(Xt g (Xt g s l).2 r).1,(Xt g (Xt g s l).2 r).2)
 |s,[],r=>by simp [Xt]
 |s,t::l,r=>by simp only [Qrr,Xt,Qc9 g _ l r]
theorem ZI {σ:Type} (g:σ→Int→Int×σ):∀ (s:σ) (l:List T),(Xt g s l).1.length=l.length
 |s,[]=>by simp [Xt]
 |s,t::l=>by simp only [Xt,Qrc,ZI g _ l]
theorem QjU {σ:Type} (g:σ→Int→Int×σ) (s:σ) {l:List T} {k:Nat} (h:k<l.length) :
  (Xt g s (l.take (k+1))).1=(Xt g s (l.take k)).1++[(T.mapS g (Xt g s (l.take k)).2 l[k]).1]∧(Xt g s (l.take (k+1))).2=(T.mapS g (Xt g s (l.take k)).2 l[k]).2:=by
 rw [List.take_succ_eq_append_getElem h,Qc9]
 exact ⟨by simp [Xt],by simp [Xt]⟩
def gNum:List Int→Int→Int×List Int:=fun s n=>((plc (ins s n) n:Nat),ins s n)
mutual
theorem T.QqC:∀ (s:List Int) (t:T) (r:List Int),T.mapS gNum s t=(t.map fun n=>((plc (ded s t.vars++r) n:Nat):Int),ded s t.vars)
 |s,.mk k i n l,r=>by
  simp only [T.mapS,T.map,T.vars]
  split
  ·rename_i h
   simp only [gNum,ded]
   rw [QcR r (Qij.2 (.inr rfl))]
  ·split
   ·rw [QcO s l r]
   ·rfl
theorem QcO:∀ (s:List Int) (l:List T) (r:List Int),Xt gNum s l=(maps (fun n=>((plc (ded s (Q4 l)++r) n:Nat):Int)) l,ded s (Q4 l))
 |s,[],r=>rfl
 |s,t::l,r=>by
  obtain ⟨q,hq⟩:=Qa0 (ded s t.vars) (Q4 l)
  simp only [Xt,maps,Q4]
  rw [T.QqC s t (q++r)]
  simp only
  rw [QcO _ l r]
  simp only [Yh,hq,List.append_assoc]
end
def Qao (s:List Int):List (Int×AV):=s.zipIdx.map fun p=>(p.1,AV.v (.int .i64 ((p.2:Nat):Int)))
theorem Qim (s:List Int) (n:Int):Qao (s++[n])=Qao s++[(n,.v (.int .i64 s.length))]:=by
 simp [Qao,List.zipIdx_append]
theorem QlI (n:Int):∀ (s:List Int),Qgb n (Qao s)=if n∈s then some (.v (.int .i64 (plc s n:Nat))) else none:=by
 have gen:∀ (s:List Int) (k:Nat),Qgb n ((s.zipIdx k).map fun p=>(p.1,AV.v (.int .i64 ((p.2:Nat):Int))))=if n∈s then some (.v (.int .i64 ((k+plc s n:Nat):Int))) else none:=by
  intro s
  induction s with
  |nil=>intro k;rfl
  |cons a s ih =>
   intro k
   simp only [List.zipIdx_cons,Qre,Qgb,ih]
   by_cases h:n=a
   ·subst h;simp [plc]
   ·rw [if_neg h]
    simp only [List.mem_cons,h,false_or,plc,if_neg (fun e:a=n=>h e.symm)]
    split
    ·congr 3;omega
    ·rfl
 intro s
 have:=gen s 0
 simpa [Qao] using this
def Xl {X σ:Type} (g:σ→X→X×σ):σ→List X→List X×σ
 |s,[]=>([],s)
 |s,x::l=>((g s x).1::(Xl g (g s x).2 l).1,(Xl g (g s x).2 l).2)
def mapB (s:List Int):AB:=.map (imap (Qao s))
theorem Qc6 {X σ:Type} (g:σ→X→X×σ):∀ (s:σ) (l r:List X),Xl g s (l++r)=((Xl g s l).1++(Xl g (Xl g s l).2 r).1,(Xl g (Xl g s l).2 r).2)
 |s,[],r=>by simp [Xl]
 |s,x::l,r=>by simp only [Qrr,Xl,Qc6 g _ l r]
mutual
theorem T.map_map (f g:Int→Int):∀ t:T,(t.map f).map g=t.map fun n=>g (f n)
 | .mk k i n l=>by
  simp only [T.map]
  by_cases h1:k=1
  ·simp [h1,T.map]
  ·by_cases h2:k=2
   ·simp only [if_neg h1,if_pos h2,T.map];rw [Qhf f g l]
   ·simp [h1,h2,T.map]
theorem Qhf (f g:Int→Int):∀ l:List T,maps g (maps f l)=maps (fun n=>g (f n)) l
 |[]=>rfl
 |t::l=>by rw [maps,maps,maps,T.map_map f g t,Qhf f g l]
end
def mkB (l:List UInt8):ByteArray:=⟨l.toArray⟩
def isD (c:UInt8):Bool:=decide (48≤c.toNat∧c.toNat≤57)
def isL (c:UInt8):Bool:=decide (97≤c.toNat∧c.toNat≤122∨65≤c.toNat∧c.toNat≤90∨c.toNat=95)
def isW (c:UInt8):Bool:=isL c||isD c
def numVal (l:List UInt8):Nat:=l.foldl (fun n c=>10 * n+(c.toNat - 48)) 0
def eB:ByteArray:={data:=#[]}
structure Tk where
  kind : Int
  pos : Int
  text : ByteArray
structure PS where
  toks : List Tk
  names : List ByteArray
inductive PR (α : Type) where
  | ok (a : α) (s : PS)
  | err (pos e : Int)
def PR.bind {α β : Type} (x : PR α) (f : α → PS → PR β) : PR β := match x with
  | .ok a s => f a s
  | .err p e => .err p e
def PS.tk (s : PS) : Tk := s.toks.headD ⟨0, 0, eB⟩
def PS.nx (s : PS) : PS := ⟨match s.toks with | _ :: u :: r => u :: r | l => l, s.names⟩
def PS.is (s : PS) (b : List UInt8) : Bool := (s.tk.kind == 4) && (s.tk.text.toList == b)
def PS.oneOf (s : PS) (l : List (List UInt8)) : Bool := l.any s.is
def XU (b : List UInt8) (s : PS) : PR Unit := if s.is b then .ok () s.nx else .err s.tk.pos 16
def ZY (s : PS) : PR ByteArray := if s.tk.kind ≠ 1 then .err s.tk.pos 16 else if resB s.tk.text then .err s.tk.pos 7 else .ok s.tk.text s.nx
def nameAt (l : List ByteArray) (x : ByteArray) : Nat := l.findIdx fun y => y.toList == x.toList
def pVari (x : ByteArray) (s : PS) : T × PS :=
  if nameAt s.names x < s.names.length ∧ x.toList ≠ [95] then (.mk 1 (nameAt s.names x : Nat) eB [], s) else (.mk 1 (s.names.length : Nat) eB [], ⟨s.toks, s.names ++ [x]⟩)
def valT (x : ByteArray) : Int := (numVal x.toList : Nat)
def sAt : List UInt8 := [64]
def YV : List UInt8 := [44]
def sDot : List UInt8 := [46]
def sLp : List UInt8 := [40]
def sRp : List UInt8 := [41]
def sBar : List UInt8 := [124]
def Qet : List UInt8 := [47]
def QeX : List UInt8 := [92]
def Qes : List UInt8 := [45]
def Qat : List UInt8 := [60, 61, 62]
def QeZ : List UInt8 := [61, 61, 62]
def YE : List (List UInt8) := [[42], [47], [37]]
def ZW : List (List UInt8) := [[43], [45]]
def Zb (ex : PS → PR T) : Nat → List T → PS → PR (List T)
  | 0, _, s => .err s.tk.pos 16
  | m + 1, l, s => (ex s).bind fun t s => if s.is YV then Zb ex m (l ++ [t]) s.nx else (XU sRp s).bind fun _ s => .ok (l ++ [t]) s
def Zc (ex : PS → PR T) (s : PS) : PR G := (ZY s).bind fun x s => if s.is sLp then (Zb ex s.toks.length [] s.nx).bind fun l s => .ok ⟨0, x, l⟩ s else .ok ⟨0, x, []⟩ s
def pOpT (ex : PS → PR T) (s : PS) : PR T :=
  if s.tk.kind = 3 then .ok (.mk 0 (valT s.tk.text) eB []) s.nx else
  if s.tk.kind = 2 then .ok (pVari s.tk.text s.nx).1 (pVari s.tk.text s.nx).2 else
  if s.tk.kind = 1 then (Zc ex s).bind fun a s => .ok (.mk 2 0 a.name a.args) s else
  if s.is Qes then (if s.nx.tk.kind ≠ 3 ∨ s.nx.tk.pos ≠ s.tk.pos + 1 then .err s.nx.tk.pos 16 else .ok (.mk 0 (-valT s.nx.tk.text) eB []) s.nx.nx) else
  if s.is sLp then (ex s.nx).bind fun t s => (XU sRp s).bind fun _ s => .ok t s else .err s.tk.pos 16
def XM (op : PS → PR T) (ops : List (List UInt8)) : Nat → T → PS → PR T
  | 0, t, s => .ok t s
  | m + 1, t, s => if s.oneOf ops then (op s.nx).bind fun u s2 => XM op ops m (.mk 2 0 s.tk.text [t, u]) s2 else .ok t s
def X5 (op : PS → PR T) (ops : List (List UInt8)) (s : PS) : PR T := (op s).bind fun t s => XM op ops s.toks.length t s
def X6 : Nat → PS → PR T
  | 0, s => .err s.tk.pos 16
  | n + 1, s => X5 (X5 (pOpT (X6 n)) YE) ZW s
def X1 (s : PS) : PR T := X6 (s.toks.length + 1) s
def Qb2 (s : PS) : Option (Int × Bool) :=
  if s.tk.kind = 1 then (if s.tk.text.toList = [105, 115] then some (4, false) else none) else
  if s.tk.kind ≠ 4 then none else
  if s.tk.text.toList = [61] then some (3, false) else if s.tk.text.toList = [61, 61] then some (5, false) else if s.tk.text.toList = [92, 61] then some (6, false) else
  if s.tk.text.toList = [60] then some (7, false) else if s.tk.text.toList = [61, 60] then some (8, false) else if s.tk.text.toList = [62] then some (7, true) else
  if s.tk.text.toList = [62, 61] then some (8, true) else if s.tk.text.toList = [61, 58, 61] then some (9, false) else if s.tk.text.toList = [61, 92, 61] then some (10, false) else none
def Qcj (op : Int) (s : PS) : PR G := (XU sLp s).bind fun _ s => (X1 s).bind fun t s => (XU sRp s).bind fun _ s => .ok ⟨op, eB, [t]⟩ s
def Qap (s : PS) : PR G :=
  if s.tk.kind = 1 ∧ resB s.tk.text = true then
    (if s.tk.text.toList = [116, 114, 117, 101] then .ok ⟨1, eB, []⟩ s.nx else if s.tk.text.toList = [102, 97, 105, 108] then .ok ⟨2, eB, []⟩ s.nx else
     if s.tk.text.toList = [105, 110, 116] then Qcj 11 s.nx else if s.tk.text.toList = [103, 114, 111, 117, 110, 100] then Qcj 12 s.nx else .err s.tk.pos 7)
  else (X1 s).bind fun t s2 => match Qb2 s2 with
    | some (op, turn) => (X1 s2.nx).bind fun u s3 => .ok ⟨op, eB, if turn then [u, t] else [t, u]⟩ s3
    | none => if s.tk.kind = 1 ∧ t.name.toList = s.tk.text.toList then .ok ⟨0, t.name, t.args⟩ s2 else .err s2.tk.pos 16
def YB (most : Nat) : Nat → List G → PS → PR (List G)
  | 0, _, s => .err s.tk.pos 16
  | m + 1, l, s => if most ≤ l.length then .err s.tk.pos 6 else (Qap s).bind fun g s2 =>
      if QU g = false then .err s.tk.pos 6 else if s2.is YV then YB most m (l ++ [g]) s2.nx else .ok (l ++ [g]) s2
def Yo (most : Nat) (s : PS) : PR (List G) := YB most (s.toks.length + 1) [] s
def YW (pre : Nat) : Nat → List G → PS → PR (List G)
  | 0, _, s => .err s.tk.pos 16
  | m + 1, l, s => if 4 ≤ pre + l.length then .err s.tk.pos 6 else (Zc X1 s).bind fun g s2 =>
      if QP g = false then .err s.tk.pos 6 else if s2.is YV then YW pre m (l ++ [g]) s2.nx else .ok (l ++ [g]) s2
def Yp (pre : Nat) (s : PS) : PR (List G) := YW pre (s.toks.length + 1) [] s
def Zm (name : ByteArray) (keep remove : List G) (s : PS) : PR Rl := (Yo 12 s).bind fun b s =>
  let fin (g b : List G) (s : PS) : PR Rl := (XU sDot s).bind fun _ s => .ok ⟨name, keep, remove, g, match b with | [x] => if x.op = 1 then [] else b | _ => b, 0⟩ s
  if s.is sBar then (Yo 12 s.nx).bind fun b2 s => fin b b2 s else fin [] b s
def Zl (s : PS) : PR Rl :=
  let body (name : ByteArray) (s : PS) : PR Rl := (Yp 0 s).bind fun first s =>
    if s.is Qat then Zm name [] first s.nx else if s.is QeZ then Zm name first [] s.nx else
    if s.is QeX then (Yp first.length s.nx).bind fun rem s => (XU Qat s).bind fun _ s => Zm name first rem s else .err s.tk.pos 16
  if s.tk.kind = 1 ∧ s.nx.is sAt = true then (ZY s).bind fun x s => body x s.nx else body eB s
def Rl.allV (r : Rl) : List Int := (r.keep ++ r.remove ++ r.guard ++ r.body).flatMap fun g => Q4 g.args
def Rl.numd (r : Rl) : Rl :=
  let f := fun v => ((plc (ded [] r.allV) v : Nat) : Int)
  let m := List.map fun g : G => (⟨g.op, g.name, maps f g.args⟩ : G)
  ⟨r.name, m r.keep, m r.remove, m r.guard, m r.body, (ded [] r.allV).length⟩
def ZZ (s : PS) : PR Rl := (Zl ⟨s.toks, []⟩).bind fun r s => .ok r.numd s
def Z8 : Nat → List Dc → PS → PR (List Dc)
  | 0, _, s => .err s.tk.pos 16
  | m + 1, l, s => if 30 ≤ l.length then .err s.tk.pos 6 else (ZY s).bind fun x s => (XU Qet s).bind fun _ s =>
      if s.tk.kind ≠ 3 then .err s.tk.pos 16 else if valT s.tk.text > 6 then .err s.tk.pos 6 else
      if s.nx.is YV then Z8 m (l ++ [⟨x, valT s.tk.text⟩]) s.nx.nx else (XU sDot s.nx).bind fun _ s2 => .ok (l ++ [⟨x, valT s.tk.text⟩]) s2
def QmE : List UInt8 := [99, 111, 110, 115, 116, 114, 97, 105, 110, 116]
def Zt : Nat → List Dc → PS → PR (List Dc)
  | 0, l, s => .ok l s
  | m + 1, l, s => if s.tk.kind = 1 ∧ s.tk.text.toList = QmE then (Z8 (s.toks.length + 1) l s.nx).bind fun l s => Zt m l s else .ok l s
def Z1 : Nat → List Rl → PS → PR (List Rl)
  | 0, l, s => .ok l s
  | m + 1, l, s => if s.tk.kind = 0 then .ok l s else if 40 ≤ l.length then .err s.tk.pos 6 else (ZZ s).bind fun r s => Z1 m (l ++ [r]) s
def Qeh (s : PS) : PR Pg := (Zt (s.toks.length + 1) [] s).bind fun d s => (Z1 (s.toks.length + 1) [] s).bind fun r s => .ok ⟨d, r⟩ s
def pEnd (s : PS) : PR Unit := if s.tk.kind = 0 then .ok () s else .err s.tk.pos 16
def QL (l : List G) : List Int := l.flatMap fun g => Q4 g.args
def QfC (s : PS) : PR (List G × List ByteArray) := (Yo 40 s).bind fun l s => (pEnd s).bind fun _ s =>
  .ok (l.map fun g => ⟨g.op, g.name, maps (fun v => ((plc (ded [] (QL l)) v : Nat) : Int) ) g.args⟩, (ded [] (QL l)).map fun v => s.names.getD v.toNat eB) s
def isSp (c:UInt8):Bool:=decide (c.toNat=32∨c.toNat=9∨c.toNat=10∨c.toNat=13)
def Xw:Bool→List UInt8→List UInt8
 |_,[]=>[]
 |true,c::r=>if c.toNat=10 then Xw false r else Xw true r
 |false,c::r=>if isSp c then Xw false r else if c.toNat=35 then Xw true r else c::r
def XB:List (List UInt8):=[[61,58,61],[61,92,61],[60,61,62],[61,61,62],[61,61],[92,61],[61,60],[62,61],[64],[44],[46],[40],[41],[124],[47],[92],[43],[45],[42],[37],[61],[60],[62]]
def Qkh (l:List UInt8):Option (List UInt8):=XB.find? fun x=>x.isPrefixOf l
def ZL (l:List UInt8):Int×List UInt8 ⊕ Int:=match l with
 |[]=>.inl (0,[])
 |c::r =>
  if isL c then (if 40<((c::r).takeWhile isW).length then .inr 7 else .inl (if 97≤c.toNat then 1 else 2,(c::r).takeWhile isW)) else
  if isD c then (if 2147483648<numVal ((c::r).takeWhile isD) then .inr 5 else .inl (3,(c::r).takeWhile isD)) else
  match Qkh (c::r) with
  |some x=>.inl (4,x)
  |none=>.inr 16
def QaM (tot:Nat):Nat→List UInt8→List Tk ⊕ (Int×Int)
 |0,_=>.inl []
 |m+1,l=>match ZL (Xw false l) with
  | .inr e=>.inr (((tot - (Xw false l).length:Nat):Int),e)
  | .inl (k,x)=>if k=0 then .inl [⟨0,((tot - (Xw false l).length:Nat):Int),eB⟩] else
   match QaM tot m ((Xw false l).drop x.length) with
   | .inl ts=>.inl (⟨k,((tot - (Xw false l).length:Nat):Int),mkB x⟩::ts)
   | .inr e=>.inr e
def Ya (l:List UInt8):List Tk ⊕ (Int×Int):=if 16384<l.length then .inr (0,6) else QaM l.length (l.length+1) l
theorem Qcw:∀ (b:Bool) (l:List UInt8),(Xw b l).length≤l.length
 |_,[]=>by rw [Xw];exact Nat.le_refl _
 |true,c::r=>by
  rw [Xw,List.length_cons]
  split
  ·exact Nat.le_succ_of_le (Qcw false r)
  ·exact Nat.le_succ_of_le (Qcw true r)
 |false,c::r=>by
  rw [Xw]
  split
  ·exact Nat.le_succ_of_le (Qcw false r)
  ·split
   ·exact Nat.le_succ_of_le (Qcw true r)
   ·exact Nat.le_refl _
theorem QhJ {l x:List UInt8} (h:Qkh l=some x):0<x.length∧x.length≤3∧x.isPrefixOf l=true:=by
 have h1:=List.mem_of_find?_eq_some h
 have h2:=List.find?_some h
 refine ⟨?_,?_,h2⟩
 ·have:∀ x∈XB,0<x.length:=by decide
  exact this x h1
 ·have:∀ x∈XB,x.length≤3:=by decide
  exact this x h1
def PS.wf (s:PS):Prop:=∃ l e,s.toks=l++[e]∧e.kind=0∧∀ t∈l,t.kind≠0
theorem Zr {s:PS} (h:s.wf):s.nx.wf:=by
 obtain ⟨l,e,hl,he,ha⟩:=h
 cases l with
 |nil=>exact ⟨[],e,by simp only [PS.nx,hl,Qrq],he,ha⟩
 |cons t l =>
  have e2:s.nx.toks=l++[e]:=by
   cases l with
   |nil=>simp only [PS.nx,hl,Qrr,Qrq]
   |cons u l=>simp only [PS.nx,hl,Qrr]
  exact ⟨l,e,e2,he,fun x hx=>ha x (by simp [hx])⟩
theorem Qp6 {s:PS} (h:s.wf) (hk:s.tk.kind≠0):s.toks=s.tk::s.nx.toks:=by
 obtain ⟨l,e,hl,he,ha⟩:=h
 cases l with
 |nil =>
  have:s.tk=e:=by simp only [PS.tk,hl,Qrq,List.headD_cons]
  rw [this] at hk;exact absurd he hk
 |cons t l =>
  have e1:s.tk=t:=by simp only [PS.tk,hl,Qrr,List.headD_cons]
  have e2:s.nx.toks=l++[e]:=by
   cases l with
   |nil=>simp only [PS.nx,hl,Qrr,Qrq]
   |cons u l=>simp only [PS.nx,hl,Qrr]
  rw [e1,e2,hl];rfl
theorem XJ {s:PS} (h:s.wf) (hk:s.tk.kind≠0):s.nx.toks.length+1=s.toks.length:=by
 rw [Qp6 h hk];rfl
theorem QoL {s:PS} (h:s.wf):s.nx.toks.length≤s.toks.length:=by
 by_cases hk:s.tk.kind=0
 ·unfold PS.nx
  split
  ·rename_i he;rw [he];simp
  ·exact Nat.le_refl _
 ·have:=XJ h hk;omega
theorem Qqb {s:PS} {b:List UInt8} (h:s.is b=true):s.tk.kind=4:=by
 simp only [PS.is,Bool.and_eq_true,beq_iff_eq] at h;exact h.1
theorem Qfz {s:PS} {l:List (List UInt8)} (h:s.oneOf l=true):s.tk.kind=4:=by
 rw [PS.oneOf,List.any_eq_true] at h
 obtain ⟨b,_,hb⟩:=h
 exact Qqb hb
theorem bind_ok {α β:Type} {x:PR α} {f:α→PS→PR β} {b:β} {s2:PS} (h:x.bind f = .ok b s2):∃ a s,x = .ok a s∧f a s = .ok b s2:=by
 cases x with
 |ok a s=>exact ⟨a,s,rfl,h⟩
 |err p e=>cases h
def Eat {α:Type} (k:Nat) (f:PS→PR α):Prop:=∀ s,s.wf→∀ a s2,f s = .ok a s2→s2.wf∧s2.toks.length+k≤s.toks.length
theorem Eat.less {α:Type} {j k:Nat} {f:PS→PR α} (h:Eat k f) (hj:j≤k):Eat j f:=fun s hs a s2 e=>by
 obtain ⟨h1,h2⟩:=h s hs a s2 e
 exact ⟨h1,by omega⟩
theorem QaP (b:List UInt8):Eat 1 (XU b):=fun s hs a s2 e=>by
 unfold XU at e
 split at e
 ·rename_i h
  cases e
  exact ⟨Zr hs,Nat.le_of_eq (XJ hs (by rw [Qqb h];decide))⟩
 ·cases e
theorem QdA:Eat 1 ZY:=fun s hs a s2 e=>by
 unfold ZY at e
 split at e
 ·cases e
 ·rename_i h
  split at e
  ·cases e
  ·cases e
   exact ⟨Zr hs,Nat.le_of_eq (XJ hs (by omega))⟩
theorem QiK {ex:PS→PR T} (H:Eat 0 ex):∀ (m:Nat) (l:List T),Eat 1 (Zb ex m l)
 |0,_=>fun s _ a s2 e=>by cases e
 |m+1,l=>fun s hs a s2 e=>by
  rw [Zb] at e
  obtain ⟨t,s1,h1,h2⟩:=bind_ok e
  obtain ⟨w1,l1⟩:=H s hs t s1 h1
  split at h2
  ·rename_i hc
   have hl:=XJ w1 (by rw [Qqb hc];decide)
   obtain ⟨w2,l2⟩:=QiK H m _ s1.nx (Zr w1) a s2 h2
   exact ⟨w2,by omega⟩
  ·obtain ⟨u,s3,h3,h4⟩:=bind_ok h2
   cases h4
   obtain ⟨w2,l2⟩:=QaP _ s1 w1 u _ h3
   exact ⟨w2,by omega⟩
theorem QfY {ex:PS→PR T} (H:Eat 0 ex):Eat 1 (Zc ex):=fun s hs a s2 e=>by
 rw [Zc] at e
 obtain ⟨x,s1,h1,h2⟩:=bind_ok e
 obtain ⟨w1,l1⟩:=QdA s hs x s1 h1
 split at h2
 ·rename_i hc
  have hl:=XJ w1 (by rw [Qqb hc];decide)
  obtain ⟨l,s3,h3,h4⟩:=bind_ok h2
  cases h4
  obtain ⟨w2,l2⟩:=QiK H _ _ s1.nx (Zr w1) l _ h3
  exact ⟨w2,by omega⟩
 ·cases h2
  exact ⟨w1,l1⟩
theorem QeD (x:ByteArray) (s:PS):(pVari x s).2.toks=s.toks:=by unfold pVari;split <;> rfl
theorem Qis {ex:PS→PR T} (H:Eat 0 ex):Eat 1 (pOpT ex):=fun s hs a s2 e=>by
 rw [pOpT] at e
 split at e
 ·rename_i h
  cases e
  exact ⟨Zr hs,Nat.le_of_eq (XJ hs (by omega))⟩
 split at e
 ·rename_i h
  cases e
  have ht:=QeD s.tk.text s.nx
  refine ⟨?_,by rw [ht];exact Nat.le_of_eq (XJ hs (by omega))⟩
  obtain ⟨l,e',h1,h2,h3⟩:=Zr hs
  exact ⟨l,e',by rw [ht];exact h1,h2,h3⟩
 split at e
 ·obtain ⟨g,s1,h1,h2⟩:=bind_ok e
  cases h2
  exact QfY H s hs g _ h1
 split at e
 ·rename_i h
  split at e
  ·cases e
  ·rename_i hn
   cases e
   have hl:=XJ hs (by rw [Qqb h];decide)
   have hle:=QoL (Zr hs)
   exact ⟨Zr (Zr hs),by omega⟩
 split at e
 ·rename_i h
  have hl:=XJ hs (by rw [Qqb h];decide)
  obtain ⟨t,s1,h1,h2⟩:=bind_ok e
  obtain ⟨w1,l1⟩:=H s.nx (Zr hs) t s1 h1
  obtain ⟨u,s3,h3,h4⟩:=bind_ok h2
  cases h4
  obtain ⟨w2,l2⟩:=QaP _ s1 w1 u _ h3
  exact ⟨w2,by omega⟩
 ·cases e
theorem Qe9 {op:PS→PR T} (H:Eat 0 op) (ops:List (List UInt8)):∀ (m:Nat) (t:T),Eat 0 (XM op ops m t)
 |0,t=>fun s hs a s2 e=>by cases e;exact ⟨hs,Nat.le_refl _⟩
 |m+1,t=>fun s hs a s2 e=>by
  rw [XM] at e
  split at e
  ·rename_i h
   have hl:=XJ hs (by rw [Qfz h];decide)
   obtain ⟨u,s1,h1,h2⟩:=bind_ok e
   obtain ⟨w1,l1⟩:=H s.nx (Zr hs) u s1 h1
   obtain ⟨w2,l2⟩:=Qe9 H ops m _ s1 w1 a s2 h2
   exact ⟨w2,by omega⟩
  ·cases e;exact ⟨hs,Nat.le_refl _⟩
theorem Qb0 {op:PS→PR T} {k:Nat} (H:Eat k op) (ops:List (List UInt8)):Eat k (X5 op ops):=fun s hs a s2 e=>by
 rw [X5] at e
 obtain ⟨t,s1,h1,h2⟩:=bind_ok e
 obtain ⟨w1,l1⟩:=H s hs t s1 h1
 obtain ⟨w2,l2⟩:=Qe9 (H.less (Nat.zero_le _)) ops _ t s1 w1 a s2 h2
 exact ⟨w2,by omega⟩
theorem Qb6:∀ n,Eat 1 (X6 n)
 |0=>fun s _ a s2 e=>by cases e
 |n+1=>Qb0 (Qb0 (Qis ((Qb6 n).less (Nat.zero_le _))) YE) ZW
theorem bind_congr {α β:Type} {x:PR α} {f g:α→PS→PR β} (h:∀ a s,x = .ok a s→f a s=g a s):x.bind f=x.bind g:=by
 cases x with
 |ok a s=>exact h a s rfl
 |err p e=>rfl
theorem QgM {ex ex':PS→PR T} (H:Eat 0 ex) {N:Nat} (hx:∀ s,s.wf→s.toks.length≤N→ex s=ex' s):∀ (m m':Nat) (l:List T) (s:PS),s.wf→s.toks.length≤N→s.toks.length<m→s.toks.length<m'→Zb ex m l s=Zb ex' m' l s
 |0,_,_,_,_,_,h,_=>by omega
 |_,0,_,_,_,_,_,h=>by omega
 |m+1,m'+1,l,s,hs,hN,h,h'=>by
  rw [Zb,Zb,← hx s hs hN]
  refine bind_congr fun t s1 h1=>?_
  obtain ⟨w1,l1⟩:=H s hs t s1 h1
  split
  ·rename_i hc
   have hl:=XJ w1 (by rw [Qqb hc];decide)
   exact QgM H hx m m' _ s1.nx (Zr w1) (by omega) (by omega) (by omega)
  ·rfl
theorem QbF {op op':PS→PR T} (H:Eat 0 op) (ops:List (List UInt8)) {N:Nat} (hx:∀ s,s.wf→s.toks.length≤N→op s=op' s):∀ (m m':Nat) (t:T) (s:PS),s.wf→s.toks.length≤N+1→s.toks.length≤m→s.toks.length≤m'→XM op ops m t s=XM op' ops m' t s
 |0,m',t,s,hs,hN,h,_=>by
  obtain ⟨l,e,hl,_⟩:=hs
  rw [hl] at h;simp at h
 |m+1,0,t,s,hs,hN,_,h=>by
  obtain ⟨l,e,hl,_⟩:=hs
  rw [hl] at h;simp at h
 |m+1,m'+1,t,s,hs,hN,h,h'=>by
  rw [XM,XM]
  split
  ·rename_i hc
   have hl:=XJ hs (by rw [Qfz hc];decide)
   rw [← hx s.nx (Zr hs) (by omega)]
   refine bind_congr fun u s1 h1=>?_
   obtain ⟨w1,l1⟩:=H s.nx (Zr hs) u s1 h1
   exact QbF H ops hx m m' _ s1 w1 (by omega) (by omega) (by omega)
  ·rfl
theorem QjM:∀ (N n n':Nat),N<n→N<n'→∀ s,s.wf→s.toks.length≤N→X6 n s=X6 n' s:=by
 intro N
 induction N with
 |zero=>intro n n' _ _ s hs h;obtain ⟨l,e,hl,_⟩:=hs;rw [hl] at h;simp at h
 |succ N ih =>
  intro n n' hn hn' s hs h
  obtain ⟨a,rfl⟩:∃ a,n=a+1:=⟨n - 1,by omega⟩
  obtain ⟨a',rfl⟩:∃ a',n'=a'+1:=⟨n' - 1,by omega⟩
  have hE:=(Qb6 a).less (Nat.zero_le 1)
  have hop:∀ s,s.wf→s.toks.length≤N+1→pOpT (X6 a) s=pOpT (X6 a') s:=fun s hs h=>by
   rw [pOpT,pOpT]
   split
   ·rfl
   split
   ·rfl
   split
   ·rename_i hk
    congr 1
    rw [Zc,Zc]
    refine bind_congr fun x s1 h1=>?_
    obtain ⟨w1,l1⟩:=QdA s hs x s1 h1
    split
    ·rename_i hc
     have hl:=XJ w1 (by rw [Qqb hc];decide)
     rw [QgM hE (ex':=X6 a') (N:=N) (fun s hs h=>ih a a' (by omega) (by omega) s hs h) s1.toks.length s1.toks.length [] s1.nx (Zr w1) (by omega) (by omega) (by omega)]
    ·rfl
   split
   ·rfl
   split
   ·rename_i hc
    have hl:=XJ hs (by rw [Qqb hc];decide)
    rw [ih a a' (by omega) (by omega) s.nx (Zr hs) (by omega)]
   ·rfl
  have hO:=(Qis hE).less (Nat.zero_le 1)
  have hmul:∀ s,s.wf→s.toks.length≤N+1→X5 (pOpT (X6 a)) YE s=X5 (pOpT (X6 a')) YE s:=fun s hs h=>by
   rw [X5,X5,← hop s hs h]
   refine bind_congr fun t s1 h1=>?_
   obtain ⟨w1,l1⟩:=hO s hs t s1 h1
   exact QbF hO YE hop _ _ t s1 w1 (by omega) (by omega) (by omega)
  have hM:=Qb0 hO YE
  show (X5 (pOpT (X6 a)) YE s).bind (fun t s=>XM (X5 (pOpT (X6 a)) YE) ZW s.toks.length t s)=(X5 (pOpT (X6 a')) YE s).bind (fun t s=>XM (X5 (pOpT (X6 a')) YE) ZW s.toks.length t s)
  rw [← hmul s hs h]
  refine bind_congr fun t s1 h1=>?_
  obtain ⟨w1,l1⟩:=hM s hs t s1 h1
  exact QbF hM ZW hmul _ _ t s1 w1 (by omega) (by omega) (by omega)
theorem Qau:Eat 1 X1:=fun s hs a s2 e=>Qb6 _ s hs a s2 e
theorem Qki {n:Nat} {s:PS} (hs:s.wf) (hn:s.toks.length<n):X6 n s=X1 s:=QjM s.toks.length n _ hn (Nat.lt_succ_self _) s hs (Nat.le_refl _)
theorem Qja (op:Int):Eat 1 (Qcj op):=fun s hs a s2 e=>by
 rw [Qcj] at e
 obtain ⟨u,s1,h1,e⟩:=bind_ok e
 obtain ⟨t,s3,h3,e⟩:=bind_ok e
 obtain ⟨v,s4,h4,e⟩:=bind_ok e
 cases e
 obtain ⟨w1,l1⟩:=QaP _ s hs u s1 h1
 obtain ⟨w2,l2⟩:=Qau s1 w1 t s3 h3
 obtain ⟨w3,l3⟩:=QaP _ s3 w2 v _ h4
 exact ⟨w3,by omega⟩
theorem Qfc {s:PS} {x:Int×Bool} (h:Qb2 s=some x):s.tk.kind≠0:=by
 unfold Qb2 at h
 split at h
 ·omega
 ·split at h
  ·cases h
  ·omega
theorem Qg1:Eat 1 Qap:=fun s hs a s2 e=>by
 rw [Qap] at e
 split at e
 ·rename_i hk
  have hl:=XJ hs (by omega)
  have hw:=Zr hs
  split at e
  ·cases e;exact ⟨hw,by omega⟩
  split at e
  ·cases e;exact ⟨hw,by omega⟩
  split at e
  ·obtain ⟨h1,h2⟩:=Qja 11 s.nx hw a s2 e
   exact ⟨h1,by omega⟩
  split at e
  ·obtain ⟨h1,h2⟩:=Qja 12 s.nx hw a s2 e
   exact ⟨h1,by omega⟩
  ·cases e
 ·obtain ⟨t,s1,h1,e⟩:=bind_ok e
  obtain ⟨w1,l1⟩:=Qau s hs t s1 h1
  cases hc:Qb2 s1 with
  |some x =>
   obtain ⟨op,turn⟩:=x
   rw [hc] at e
   simp only at e
   have hl:=XJ w1 (Qfc hc)
   obtain ⟨u,s3,h3,e⟩:=bind_ok e
   cases e
   obtain ⟨w2,l2⟩:=Qau s1.nx (Zr w1) u _ h3
   exact ⟨w2,by omega⟩
  |none =>
   rw [hc] at e
   simp only at e
   split at e
   ·cases e;exact ⟨w1,l1⟩
   ·cases e
theorem Qfo (most:Nat):∀ (m:Nat) (l:List G),Eat 1 (YB most m l)
 |0,_=>fun s _ a s2 e=>by cases e
 |m+1,l=>fun s hs a s2 e=>by
  rw [YB] at e
  split at e
  ·cases e
  ·obtain ⟨g,s1,h1,e⟩:=bind_ok e
   obtain ⟨w1,l1⟩:=Qg1 s hs g s1 h1
   split at e
   ·cases e
   ·split at e
    ·rename_i hc
     have hl:=XJ w1 (by rw [Qqb hc];decide)
     obtain ⟨w2,l2⟩:=Qfo most m _ s1.nx (Zr w1) a s2 e
     exact ⟨w2,by omega⟩
    ·cases e;exact ⟨w1,l1⟩
theorem Qg6 (most:Nat):Eat 1 (Yo most):=fun s hs a s2 e=>Qfo most _ [] s hs a s2 e
theorem Qfs (pre:Nat):∀ (m:Nat) (l:List G),Eat 1 (YW pre m l)
 |0,_=>fun s _ a s2 e=>by cases e
 |m+1,l=>fun s hs a s2 e=>by
  rw [YW] at e
  split at e
  ·cases e
  ·obtain ⟨g,s1,h1,e⟩:=bind_ok e
   obtain ⟨w1,l1⟩:=QfY (Qau.less (Nat.zero_le 1)) s hs g s1 h1
   split at e
   ·cases e
   ·split at e
    ·rename_i hc
     have hl:=XJ w1 (by rw [Qqb hc];decide)
     obtain ⟨w2,l2⟩:=Qfs pre m _ s1.nx (Zr w1) a s2 e
     exact ⟨w2,by omega⟩
    ·cases e;exact ⟨w1,l1⟩
theorem Qg8 (pre:Nat):Eat 1 (Yp pre):=fun s hs a s2 e=>Qfs pre _ [] s hs a s2 e
theorem QgA (name:ByteArray) (keep remove:List G):Eat 1 (Zm name keep remove):=fun s hs a s2 e=>by
 unfold Zm at e
 simp only at e
 obtain ⟨b,s1,h1,e⟩:=bind_ok e
 obtain ⟨w1,l1⟩:=Qg6 12 s hs b s1 h1
 split at e
 ·rename_i hc
  have hl:=XJ w1 (by rw [Qqb hc];decide)
  obtain ⟨b2,s3,h3,e⟩:=bind_ok e
  obtain ⟨w2,l2⟩:=Qg6 12 s1.nx (Zr w1) b2 s3 h3
  obtain ⟨u,s4,h4,e⟩:=bind_ok e
  cases e
  obtain ⟨w3,l3⟩:=QaP _ s3 w2 u _ h4
  exact ⟨w3,by omega⟩
 ·obtain ⟨u,s4,h4,e⟩:=bind_ok e
  cases e
  obtain ⟨w3,l3⟩:=QaP _ s1 w1 u _ h4
  exact ⟨w3,by omega⟩
theorem QlR:Eat 1 Zl:=fun s hs a s2 e=>by
 have body:∀ (name:ByteArray),Eat 1 fun s=>(Yp 0 s).bind fun first s =>
   if s.is Qat then Zm name [] first s.nx else if s.is QeZ then Zm name first [] s.nx else
   if s.is QeX then (Yp first.length s.nx).bind fun rem s=>(XU Qat s).bind fun _ s=>Zm name first rem s else .err s.tk.pos 16:=fun name s hs a s2 e=>by
  simp only at e
  obtain ⟨f,s1,h1,e⟩:=bind_ok e
  obtain ⟨w1,l1⟩:=Qg8 0 s hs f s1 h1
  split at e
  ·rename_i hc
   have hl:=XJ w1 (by rw [Qqb hc];decide)
   obtain ⟨w2,l2⟩:=QgA name [] f s1.nx (Zr w1) a s2 e
   exact ⟨w2,by omega⟩
  split at e
  ·rename_i hc
   have hl:=XJ w1 (by rw [Qqb hc];decide)
   obtain ⟨w2,l2⟩:=QgA name f [] s1.nx (Zr w1) a s2 e
   exact ⟨w2,by omega⟩
  split at e
  ·rename_i hc
   have hl:=XJ w1 (by rw [Qqb hc];decide)
   obtain ⟨r,s3,h3,e⟩:=bind_ok e
   obtain ⟨w2,l2⟩:=Qg8 _ s1.nx (Zr w1) r s3 h3
   obtain ⟨u,s4,h4,e⟩:=bind_ok e
   obtain ⟨w3,l3⟩:=QaP _ s3 w2 u s4 h4
   obtain ⟨w4,l4⟩:=QgA name f r s4 w3 a s2 e
   exact ⟨w4,by omega⟩
  ·cases e
 unfold Zl at e
 simp only at e
 split at e
 ·obtain ⟨x,s1,h1,e⟩:=bind_ok e
  obtain ⟨w1,l1⟩:=QdA s hs x s1 h1
  have hle:=QoL w1
  obtain ⟨w2,l2⟩:=body x s1.nx (Zr w1) a s2 e
  exact ⟨w2,by omega⟩
 ·exact body eB s hs a s2 e
theorem Qnu:Eat 1 ZZ:=fun s hs a s2 e=>by
 rw [ZZ] at e
 obtain ⟨r,s1,h1,e⟩:=bind_ok e
 cases e
 exact QlR ⟨s.toks,[]⟩ hs r _ h1
def tkS (t u:Tk):Prop:=t.kind=u.kind∧t.text=u.text
def lSim:List Tk→List Tk→Prop
 |[],[]=>True
 |t::l,u::m=>tkS t u∧(∀ t2 u2,l.head? = some t2→m.head? = some u2→t2.kind=3→t.kind=4∧t.text.toList=Qes→(t2.pos=t.pos+1↔u2.pos=u.pos+1))∧lSim l m
 |_,_=>False
def Ends (r:List Tk):Prop:=∃ e,r=[e]∧e.kind=0∧e.text=eB
structure Sm (r:List Tk) (s s':PS):Prop where
 ex:∃ l m e,s.toks=l++[e]∧(e.kind=0∧e.text=eB)∧(∀ t∈l,t.kind≠0)∧s'.toks=m++r∧lSim l m
 w:s'.wf
 n:s.names=s'.names
theorem Sm.wf {r:List Tk} {s s':PS} (h:Sm r s s'):s.wf:=by
 obtain ⟨l,m,e,h1,h2,h3,_⟩:=h.ex
 exact ⟨l,e,h1,h2.1,h3⟩
def Lv (r:List Tk) (s:PS):Prop:=1<s.toks.length∨Ends r
def RelP {α:Type} (r:List Tk) (x y:PR α):Prop:=match x with
 | .ok a s2=>Lv r s2→∃ s2',y = .ok a s2'∧Sm r s2 s2'
 | .err _ e=>Ends r→∃ p,y = .err p e
theorem Sm.tk {r:List Tk} {s s':PS} (h:Sm r s s') (hl:Lv r s):tkS s.tk s'.tk:=by
 obtain ⟨l,m,e,h1,h2,h3,h4,h5⟩:=h.ex
 cases l with
 |nil =>
  cases m with
  |cons u m=>exact h5.elim
  |nil =>
   rcases hl with hl|⟨e',rfl,he',hx'⟩
   ·rw [h1] at hl;simp at hl
   ·have a1:s.tk=e:=by simp only [PS.tk,h1,Qrq,List.headD_cons]
    have a2:s'.tk=e':=by simp only [PS.tk,h4,Qrq,List.headD_cons]
    rw [a1,a2]
    exact ⟨by rw [h2.1,he'],by rw [h2.2,hx']⟩
 |cons t l =>
  cases m with
  |nil=>exact h5.elim
  |cons u m =>
   have a1:s.tk=t:=by simp only [PS.tk,h1,Qrr,List.headD_cons]
   have a2:s'.tk=u:=by simp only [PS.tk,h4,Qrr,List.headD_cons]
   rw [a1,a2];exact h5.1
theorem Sm.ne {r:List Tk} {s s':PS} (h:Sm r s s'):r≠[]:=by
 intro hr
 obtain ⟨l,m,e,h1,h2,h3,h4,h5⟩:=h.ex
 obtain ⟨l',e',g1,g2,g3⟩:=h.w
 subst hr
 rw [List.append_nil] at h4
 rw [h4] at g1
 have key:∀ (l m:List Tk),lSim l m→(∀ t∈l,t.kind≠0)→∀ u∈m,u.kind≠0:=by
  intro l
  induction l with
  |nil=>intro m h _ u hu;cases m with
   |nil=>cases hu
   |cons=>exact h.elim
  |cons t l ih =>
   intro m h ha u hu
   cases m with
   |nil=>exact h.elim
   |cons v m =>
    rcases List.mem_cons.1 hu with rfl|hu
    ·rw [← h.1.1];exact ha t (by simp)
    ·exact ih m h.2.2 (fun x hx=>ha x (by simp [hx])) u hu
 exact key l m h5 h3 e' (by rw [g1];simp) g2
theorem Qgl {s:PS} {t:Tk} {l:List Tk} (h:s.toks=t::l) (hl:l≠[]):s.nx.toks=l:=by
 cases l with
 |nil=>exact absurd rfl hl
 |cons u l=>simp only [PS.nx,h]
theorem QnR {s:PS} {t:Tk} (h:s.toks=[t]):s.nx.toks=[t]:=by simp only [PS.nx,h]
theorem Sm.nx {r:List Tk} {s s':PS} (h:Sm r s s') (hl:Lv r s):Sm r s.nx s'.nx:=by
 have hne:=h.ne
 refine ⟨?_,Zr h.w,h.n⟩
 obtain ⟨l,m,e,h1,h2,h3,h4,h5⟩:=h.ex
 cases l with
 |nil =>
  cases m with
  |cons u m=>exact h5.elim
  |nil =>
   rcases hl with hl|⟨e',rfl,he'⟩
   ·rw [h1] at hl;simp at hl
   ·exact ⟨[],[],e,QnR h1,h2,h3,QnR h4,trivial⟩
 |cons t l =>
  cases m with
  |nil=>exact h5.elim
  |cons u m=>exact ⟨l,m,e,Qgl h1 (by simp),h2,fun x hx=>h3 x (by simp [hx]),Qgl h4 (by simp [hne]),h5.2.2⟩
theorem Sm.is {r:List Tk} {s s':PS} (h:Sm r s s') (hl:Lv r s) (b:List UInt8):s'.is b=s.is b:=by
 obtain ⟨h1,h2⟩:=h.tk hl
 rw [PS.is,PS.is,h1,h2]
theorem Sm.oneOf {r:List Tk} {s s':PS} (h:Sm r s s') (hl:Lv r s) (l:List (List UInt8)):s'.oneOf l=s.oneOf l:=by
 have:s'.is=s.is:=funext fun b=>h.is hl b
 rw [PS.oneOf,PS.oneOf,this]
def PS.far (s:PS):Prop:=s.nx.tk.kind≠3∨s.nx.tk.pos≠s.tk.pos+1
theorem Sm.far {r:List Tk} {s s':PS} (h:Sm r s s') (hk:s.tk.kind=4∧s.tk.text.toList=Qes):(s.far∧(Ends r→s'.far))∨(s.far↔s'.far):=by
 have hne:=h.ne
 obtain ⟨l,m,e,h1,h2,h3,h4,h5⟩:=h.ex
 cases l with
 |nil =>
  have a1:s.tk=e:=by simp only [PS.tk,h1,Qrq,List.headD_cons]
  rw [a1,h2.1] at hk;cases hk.1
 |cons t l =>
  cases m with
  |nil=>exact h5.elim
  |cons u m =>
   have a1:s.tk=t:=by simp only [PS.tk,h1,Qrr,List.headD_cons]
   have a2:s'.tk=u:=by simp only [PS.tk,h4,Qrr,List.headD_cons]
   have b1:s.nx.toks=l++[e]:=Qgl h1 (by simp)
   have b2:s'.nx.toks=m++r:=Qgl h4 (by simp [hne])
   cases l with
   |nil =>
    cases m with
    |cons=>exact h5.2.2.elim
    |nil =>
     have c1:s.nx.tk=e:=by simp only [PS.tk,b1,Qrq,List.headD_cons]
     refine .inl ⟨.inl (by rw [c1,h2.1];decide),fun ⟨e',he,h6,_⟩=>.inl ?_⟩
     have c2:s'.nx.tk=e':=by simp only [PS.tk,b2,he,Qrq,List.headD_cons]
     rw [c2,h6];decide
   |cons t2 l =>
    cases m with
    |nil=>exact h5.2.2.elim
    |cons u2 m =>
     have c1:s.nx.tk=t2:=by simp only [PS.tk,b1,Qrr,List.headD_cons]
     have c2:s'.nx.tk=u2:=by simp only [PS.tk,b2,Qrr,List.headD_cons]
     refine .inr ?_
     rw [PS.far,PS.far,a1,a2,c1,c2,← h5.2.2.1.1]
     rw [a1] at hk
     by_cases k3:t2.kind=3
     ·have:=h5.2.1 t2 u2 rfl rfl k3 hk
      simp only [k3,ne_eq,not_true_eq_false,false_or,this]
     ·simp [k3]
def RelQ {α:Type} (r:List Tk) (x y:PR α):Prop:=match x with
 | .ok a s2=>∃ s2',y = .ok a s2'∧Sm r s2 s2'
 | .err _ e=>Ends r→∃ p,y = .err p e
theorem RelQ.p {α:Type} {r:List Tk} {x y:PR α} (h:RelQ r x y):RelP r x y:=by
 cases x with
 |ok a s2=>exact fun _=>h
 |err p e=>exact h
theorem Eat.z {α:Type} {f:PS→PR α} (h:Eat 1 f):Eat 0 f:=h.less (Nat.zero_le 1)
def Qnh (name:ByteArray) (first:List G) (s:PS):PR Rl:=if s.is Qat then Zm name [] first s.nx else if s.is QeZ then Zm name first [] s.nx else
  if s.is QeX then (Yp first.length s.nx).bind fun rem s=>(XU Qat s).bind fun _ s=>Zm name first rem s else .err s.tk.pos 16
def Qj3 (name:ByteArray) (s:PS):PR Rl:=(Yp 0 s).bind fun first s=>Qnh name first s
theorem Qem (s:PS):Zl s=if s.tk.kind=1∧s.nx.is sAt=true then (ZY s).bind fun x s=>Qj3 x s.nx else Qj3 eB s:=rfl
theorem Sm.names {r:List Tk} {s s':PS} (h:Sm r s s') (l:List ByteArray):Sm r ⟨s.toks,l⟩ ⟨s'.toks,l⟩:=⟨h.ex,h.w,rfl⟩
theorem Qm4 {m:List Tk} (h:lSim [] m):m=[]:=by
 cases m with
 |nil=>rfl
 |cons=>exact h.elim
theorem Sm.all {r:List Tk} {s s':PS} (h:Sm r s s') (h1:s.toks.length≤1):s'.toks=r∧s.tk.kind=0:=by
 obtain ⟨l,m,e,a1,a2,a3,a4,a5⟩:=h.ex
 cases l with
 |nil =>
  have:=Qm4 a5
  subst this
  exact ⟨a4,by simp only [PS.tk,a1,Qrq,List.headD_cons];exact a2.1⟩
 |cons t l=>rw [a1] at h1;simp at h1
theorem Sm.end {r:List Tk} {s s':PS} (h:Sm r s s') (h1:s.tk.kind=0):s.toks.length≤1:=by
 obtain ⟨l,m,e,a1,a2,a3,a4,a5⟩:=h.ex
 cases l with
 |nil=>rw [a1];simp
 |cons t l =>
  have:s.tk=t:=by simp only [PS.tk,a1,Qrr,List.headD_cons]
  rw [this] at h1
  exact absurd h1 (a3 t (by simp))
def noSym (d:UInt8):Bool:=XB.all fun x=>!x.contains d
structure Stop (d:UInt8):Prop where
 w:isW d=false
 g:isD d=false
 s:noSym d=true
theorem Qmj {l x:List UInt8} {k:Int} (h:ZL l = .inl (k,x)):(k=0∧l=[]∧x=[])∨(k≠0∧x≠[]∧∃ r,l=x++r):=by
 cases l with
 |nil =>
  rw [ZL] at h
  cases h
  exact .inl ⟨rfl,rfl,rfl⟩
 |cons c r =>
  have tw:∀ (p:UInt8→Bool),p c=true→(c::r).takeWhile p≠[]∧∃ s,c::r=(c::r).takeWhile p++s:=fun p hp =>
   ⟨by rw [List.takeWhile_cons,if_pos hp];simp,(c::r).dropWhile p,(List.takeWhile_append_dropWhile).symm⟩
  refine .inr ?_
  rw [ZL] at h
  split at h
  ·rename_i hL
   split at h
   ·cases h
   ·have e:=Sum.inl.inj h
    have e1:=(Prod.mk.inj e).1
    have e2:=(Prod.mk.inj e).2
    obtain ⟨a1,a2⟩:=tw isW (by simp [isW,hL])
    refine ⟨?_,by rw [← e2];exact a1,by rw [← e2];exact a2⟩
    rw [← e1];split <;> decide
  split at h
  ·rename_i hD
   split at h
   ·cases h
   ·have e:=Sum.inl.inj h
    have e1:=(Prod.mk.inj e).1
    have e2:=(Prod.mk.inj e).2
    obtain ⟨a1,a2⟩:=tw isD hD
    exact ⟨by rw [← e1];decide,by rw [← e2];exact a1,by rw [← e2];exact a2⟩
  ·split at h
   ·rename_i y hy
    have e:=Sum.inl.inj h
    have e1:=(Prod.mk.inj e).1
    have e2:=(Prod.mk.inj e).2
    subst e2
    obtain ⟨a1,a2,a3⟩:=QhJ hy
    refine ⟨by rw [← e1];decide,by intro q;rw [q] at a1;simp at a1,?_⟩
    obtain ⟨s,hs⟩:=List.isPrefixOf_iff_prefix.1 a3
    exact ⟨s,hs.symm⟩
   ·cases h
def QaT (l:List UInt8):Pg ⊕ (Int×Int):=match Ya l with
 | .inr e=>.inr e
 | .inl ts=>match Qeh ⟨ts,[]⟩ with
  | .ok p _=>.inl p
  | .err p e=>.inr (p,e)
def near (t u:Tk):Prop:=t.text.toList=Qes∧u.kind=3∧u.pos=t.pos+1
instance (t u:Tk):Decidable (near t u):=inferInstanceAs (Decidable (_∧_∧_))
def seps:List (List UInt8):=[[32],[9,10],[13,32],[32,35,120,10],[32,32]]
inductive Spr:Option Tk→List Tk→List UInt8→Prop where
 |nil (p:Option Tk):Spr p [] []
 |first (t:Tk) (l:List Tk) (w:List UInt8):Spr (some t) l w→Spr none (t::l) (t.text.toList++w)
 |near (p t:Tk) (l:List Tk) (w:List UInt8):near p t→Spr (some t) l w→Spr (some p) (t::l) (t.text.toList++w)
 |far (p t:Tk) (l:List Tk) (d w:List UInt8):¬ near p t→d∈seps→Spr (some t) l w→Spr (some p) (t::l) (d++(t.text.toList++w))
end Go.Proofs.YticgcpebdldbgaaDoor.Ab
set_option maxRecDepth 4000
set_option linter.unusedSectionVars false
namespace Go.Proofs.YticgcpebdldbgaaDoor.Ab
open Go.Proofs
def In (n:Int) (p:Int):Prop:=0≤p∧p≤n
def PS.inn (n:Int) (s:PS):Prop:=∀ t∈s.toks,In n t.pos
def PsOk {α:Type} (n:Int) (x:PR α):Prop:=match x with
 | .ok _ s2=>s2.inn n
 | .err p _=>In n p
def Ps {α:Type} (n:Int) (f:PS→PR α):Prop:=∀ s,s.inn n→PsOk n (f s)
theorem Qam {n:Int} {s:PS} (h:s.inn n):s.nx.inn n:=by
 unfold PS.nx
 split
 ·rename_i t u r e
  intro x hx
  exact h x (by rw [e];exact List.mem_cons_of_mem _ hx)
 ·exact h
theorem Qc5 {n:Int} (hn:0≤n) {s:PS} (h:s.inn n):In n s.tk.pos:=by
 unfold PS.tk
 cases e:s.toks with
 |nil=>exact ⟨Int.le_refl _,hn⟩
 |cons t l=>exact h t (by rw [e];simp)
theorem XT {α:Type} {n:Int} (f:PS→α):Ps n fun s=>.ok (f s) s:=fun s h=>h
theorem XN {α:Type} {n:Int} (hn:0≤n) (e:Int):Ps n fun s=>(.err s.tk.pos e:PR α):=fun s h=>Qc5 hn h
theorem QaJ {α β:Type} {n:Int} {F:PS→PR α} {f:PS→α→PS→PR β} (hF:Ps n F) (hf:∀ s0,s0.inn n→∀ a,Ps n (f s0 a)):Ps n fun s=>(F s).bind (f s):=fun s h=>by
 have h1:=hF s h
 show PsOk n ((F s).bind (f s))
 cases e:F s with
 |ok a s2=>rw [e] at h1;exact hf s h a s2 h1
 |err p c=>rw [e] at h1;exact h1
theorem QV {α β:Type} {n:Int} {F:PS→PR α} {f:PS→α→PS→PR β} (hF:Ps n F) (hf:∀ s0 a,Ps n (f s0 a)):Ps n fun s=>(F s).bind (f s):=QaJ hF fun s0 _=>hf s0
theorem Qeo {α:Type} {n p:Int} (h:In n p) (e:Int):Ps n fun _=>(.err p e:PR α):=fun _ _=>h
theorem Q5 {α:Type} {n:Int} {c:PS→Prop} [∀ s,Decidable (c s)] {f g:PS→PR α} (hf:Ps n f) (hg:Ps n g):Ps n fun s=>if c s then f s else g s:=fun s h=>by
 show PsOk n (if c s then f s else g s)
 split
 ·exact hf s h
 ·exact hg s h
theorem X7 {α:Type} {n:Int} {f:PS→PR α} (hf:Ps n f):Ps n fun s=>f s.nx:=fun s h=>hf s.nx (Qam h)
theorem YZ {α:Type} {n:Int} {f:PS→PS→PR α} (hf:∀ s0,Ps n (f s0)):Ps n fun s=>f s s:=fun s h=>hf s s h
variable {n:Int} (hn:0≤n)
include hn
theorem Yt (b:List UInt8):Ps n (XU b):=Q5 (c:=fun s=>s.is b=true) (X7 (XT fun _=>())) (XN hn 16)
theorem name_ps:Ps n ZY:=Q5 (c:=fun s=>s.tk.kind≠1) (XN hn 16) (Q5 (c:=fun s=>resB s.tk.text=true) (XN hn 7) fun s h=>Qam h)
theorem QdM {ex:PS→PR T} (H:Ps n ex):∀ (m:Nat) (l:List T),Ps n (Zb ex m l)
 |0,_=>XN hn 16
 |m+1,l=>QV H fun _ t=>Q5 (c:=fun s=>s.is YV=true) (X7 (QdM H m _)) (QV (Yt hn _) fun _ _=>XT _)
theorem atom_ps {ex:PS→PR T} (H:Ps n ex):Ps n (Zc ex):=QV (name_ps hn) fun _ x=>Q5 (c:=fun s=>s.is sLp=true) (YZ (f:=fun s0 s=>(Zb ex s0.toks.length [] s.nx).bind fun l s=>.ok (⟨0,x,l⟩:G) s) fun s0=>QV (X7 (QdM hn H _ _)) fun _ _=>XT fun _=>_) (XT _)
theorem opT_ps {ex:PS→PR T} (H:Ps n ex):Ps n (pOpT ex) :=
 Q5 (c:=fun s=>s.tk.kind=3) (fun s h=>Qam h) (Q5 (c:=fun s=>s.tk.kind=2) (fun s h=>by
  show (pVari s.tk.text s.nx).2.inn n
  intro t ht
  rw [QeD] at ht
  exact Qam h t ht) (Q5 (c:=fun s=>s.tk.kind=1) (QV (atom_ps hn H) fun _ _=>XT _)
  (Q5 (c:=fun s=>s.is Qes=true) (Q5 (c:=fun s=>s.nx.tk.kind≠3∨s.nx.tk.pos≠s.tk.pos+1) (fun s h=>Qc5 hn (Qam h)) fun s h=>Qam (Qam h))
  (Q5 (c:=fun s=>s.is sLp=true) (QV (X7 H) fun _ t=>QV (Yt hn _) fun _ _=>XT _) (XN hn 16)))))
theorem QaY {op:PS→PR T} (H:Ps n op) (ops:List (List UInt8)):∀ (m:Nat) (t:T),Ps n (XM op ops m t)
 |0,t=>XT fun _=>t
 |m+1,t=>Q5 (c:=fun s=>s.oneOf ops=true) (QV (f:=fun s u s2=>XM op ops m (.mk 2 0 s.tk.text [t,u]) s2) (X7 H) fun _ _=>QaY H ops m _) (XT fun _=>t)
theorem chain_ps {op:PS→PR T} (H:Ps n op) (ops:List (List UInt8)):Ps n (X5 op ops):=QV H fun _ t=>YZ (f:=fun s0 s=>XM op ops s0.toks.length t s) fun s0=>QaY hn H ops _ t
theorem exprT_ps:∀ m,Ps n (X6 m)
 |0=>XN hn 16
 |m+1=>chain_ps hn (chain_ps hn (opT_ps hn (exprT_ps m)) YE) ZW
theorem termT_ps:Ps n X1:=YZ (f:=fun s0 s=>X6 (s0.toks.length+1) s) fun s0=>exprT_ps hn _
theorem Qeg (op:Int):Ps n (Qcj op):=QV (Yt hn _) fun _ _=>QV (termT_ps hn) fun _ _=>QV (Yt hn _) fun _ _=>XT _
theorem goalT_ps:Ps n Qap:=Q5 (c:=fun s=>s.tk.kind=1∧resB s.tk.text=true)
 (Q5 (c:=fun s=>s.tk.text.toList=[116,114,117,101]) (X7 (XT fun _=>_)) (Q5 (c:=fun s=>s.tk.text.toList=[102,97,105,108]) (X7 (XT fun _=>_))
  (Q5 (c:=fun s=>s.tk.text.toList=[105,110,116]) (X7 (Qeg hn _)) (Q5 (c:=fun s=>s.tk.text.toList=[103,114,111,117,110,100]) (X7 (Qeg hn _)) (XN hn 7)))))
 (QV (termT_ps hn) fun s t s2 h=>by
  cases hc:Qb2 s2 with
  |some x =>
   obtain ⟨op,turn⟩:=x
   simp only
   exact (QV (f:=fun _ u s3=>.ok (⟨op,eB,if turn then [u,t] else [t,u]⟩:G) s3) (X7 (termT_ps hn)) fun _ _=>XT fun _=>_) s2 h
  |none =>
   simp only
   by_cases hc:s.tk.kind=1∧t.name.toList=s.tk.text.toList
   ·rw [if_pos hc];exact h
   ·rw [if_neg hc];exact Qc5 hn h)
theorem Qa5 (most:Nat):∀ (m:Nat) (l:List G),Ps n (YB most m l)
 |0,_=>XN hn 16
 |m+1,l=>Q5 (c:=fun _=>most≤l.length) (XN hn 6) (QaJ (goalT_ps hn) fun s0 h0 g=>Q5 (c:=fun _=>QU g=false) (Qeo (Qc5 hn h0) 6) (Q5 (c:=fun s=>s.is YV=true) (X7 (Qa5 most m _)) (XT _)))
theorem goals_ps (most:Nat):Ps n (Yo most):=YZ (f:=fun s0 s=>YB most (s0.toks.length+1) [] s) fun s0=>Qa5 hn most _ _
theorem Qa7 (pre:Nat):∀ (m:Nat) (l:List G),Ps n (YW pre m l)
 |0,_=>XN hn 16
 |m+1,l=>Q5 (c:=fun _=>4≤pre+l.length) (XN hn 6) (QaJ (atom_ps hn (termT_ps hn)) fun s0 h0 g=>Q5 (c:=fun _=>QP g=false) (Qeo (Qc5 hn h0) 6) (Q5 (c:=fun s=>s.is YV=true) (X7 (Qa7 pre m _)) (XT _)))
theorem heads_ps (pre:Nat):Ps n (Yp pre):=YZ (f:=fun s0 s=>YW pre (s0.toks.length+1) [] s) fun s0=>Qa7 hn pre _ _
theorem QbS (name:ByteArray) (keep remove:List G):Ps n (Zm name keep remove) :=
 QV (goals_ps hn 12) fun _ b=>Q5 (c:=fun s=>s.is sBar=true) (QV (X7 (goals_ps hn 12)) fun _ b2=>QV (Yt hn _) fun _ _=>XT _) (QV (Yt hn _) fun _ _=>XT _)
theorem QiB (name:ByteArray) (first:List G):Ps n (Qnh name first) :=
 Q5 (c:=fun s=>s.is Qat=true) (X7 (QbS hn _ _ _)) (Q5 (c:=fun s=>s.is QeZ=true) (X7 (QbS hn _ _ _)) (Q5 (c:=fun s=>s.is QeX=true) (QV (X7 (heads_ps hn _)) fun _ _=>QV (Yt hn _) fun _ _=>QbS hn _ _ _) (XN hn 16)))
theorem QdP (name:ByteArray):Ps n (Qj3 name):=QV (heads_ps hn 0) fun _ f=>QiB hn name f
theorem Qgo:Ps n Zl:=fun s h=>by
 rw [Qem]
 exact (Q5 (c:=fun s=>s.tk.kind=1∧s.nx.is sAt=true) (QV (name_ps hn) fun _ x=>X7 (QdP hn x)) (QdP hn eB)) s h
theorem rule_ps:Ps n ZZ:=fun s h=>(QV (F:=fun s=>Zl ⟨s.toks,[]⟩) (f:=fun _ r s=>.ok r.numd s) (fun s h=>Qgo hn ⟨s.toks,[]⟩ h) fun _ _=>XT fun _=>_) s h
theorem Qb4:∀ (m:Nat) (l:List Dc),Ps n (Z8 m l)
 |0,_=>XN hn 16
 |m+1,l=>Q5 (c:=fun _=>30≤l.length) (XN hn 6) (QV (name_ps hn) fun _ x=>QV (Yt hn _) fun _ _ =>
   Q5 (c:=fun s=>s.tk.kind≠3) (XN hn 16) (Q5 (c:=fun s=>valT s.tk.text>6) (XN hn 6)
   (Q5 (c:=fun s=>s.nx.is YV=true) (YZ (f:=fun s0 s=>Z8 m (l++[⟨x,valT s0.tk.text⟩]) s.nx.nx) fun s0=>X7 (X7 (Qb4 m _)))
    (YZ (f:=fun s0 s=>(XU sDot s.nx).bind fun _ s2=>.ok (l++[⟨x,valT s0.tk.text⟩]) s2) fun s0=>QV (X7 (Yt hn _)) fun _ _=>XT fun _=>_))))
theorem decls_ps:∀ (m:Nat) (l:List Dc),Ps n (Zt m l)
 |0,l=>XT fun _=>l
 |m+1,l=>Q5 (c:=fun s=>s.tk.kind=1∧s.tk.text.toList=QmE) (YZ (f:=fun s0 s=>(Z8 (s0.toks.length+1) l s.nx).bind fun l s=>Zt m l s) fun s0=>QV (X7 (Qb4 hn _ l)) fun _ d=>decls_ps m d) (XT fun _=>l)
theorem Qcs:∀ (m:Nat) (l:List Rl),Ps n (Z1 m l)
 |0,l=>XT fun _=>l
 |m+1,l=>Q5 (c:=fun s=>s.tk.kind=0) (XT fun _=>l) (Q5 (c:=fun _=>40≤l.length) (XN hn 6) (QV (rule_ps hn) fun _ r=>Qcs m _))
theorem prog_ps:Ps n Qeh:=QV (F:=fun s=>Zt (s.toks.length+1) [] s) (YZ (f:=fun s0 s=>Zt (s0.toks.length+1) [] s) fun s0=>decls_ps hn _ _) fun _ d =>
 QV (F:=fun s=>Z1 (s.toks.length+1) [] s) (YZ (f:=fun s0 s=>Z1 (s0.toks.length+1) [] s) fun s0=>Qcs hn _ _) fun _ r=>XT fun _=>_
end Go.Proofs.YticgcpebdldbgaaDoor.Ab
set_option maxRecDepth 4000
set_option linter.unusedSectionVars false
namespace Go.Proofs.YticgcpebdldbgaaDoor.Ab
open Go.Proofs
structure Wd where
 W:PS→Prop
 nx:∀ s,W s→W s.nx
 vr:∀ s,W s→s.tk.kind=2→W (pVari s.tk.text s.nx).2
 cl:∀ s,W s→W ⟨s.toks,[]⟩
namespace Kp
def In (n:Wd) (p:Int):Prop:=True
def inn (n:Wd) (s:PS):Prop:=n.W s
def PsOk {α:Type} (n:Wd) (x:PR α):Prop:=match x with
 | .ok _ s2=>n.W s2
 | .err _ e=>e≠0
def Ps {α:Type} (n:Wd) (f:PS→PR α):Prop:=∀ s,n.W s→PsOk n (f s)
theorem Ps.ok {α:Type} {n:Wd} {f:PS→PR α} (H:Ps n f) {s:PS} (h:n.W s) {a:α} {s2:PS} (e:f s = .ok a s2):n.W s2:=by
 have:=H s h
 rw [e] at this
 exact this
theorem Ps.err {α:Type} {n:Wd} {f:PS→PR α} (H:Ps n f) {s:PS} (h:n.W s) {p c:Int} (e:f s = .err p c):c≠0:=by
 have:=H s h
 rw [e] at this
 exact this
theorem Qam {n:Wd} {s:PS} (h:n.W s):n.W s.nx:=n.nx s h
theorem Qc5 {n:Wd} (hn:True) {s:PS} (h:n.W s):In n s.tk.pos:=trivial
theorem XT {α:Type} {n:Wd} (f:PS→α):Ps n fun s=>.ok (f s) s:=fun s h=>h
theorem XN {α:Type} {n:Wd} (hn:True) (e:Int) (he:e≠0:=by decide):Ps n fun s=>(.err s.tk.pos e:PR α):=fun s h=>he
theorem QaJ {α β:Type} {n:Wd} {F:PS→PR α} {f:PS→α→PS→PR β} (hF:Ps n F) (hf:∀ s0,n.W s0→∀ a,Ps n (f s0 a)):Ps n fun s=>(F s).bind (f s):=fun s h=>by
 have h1:=hF s h
 show PsOk n ((F s).bind (f s))
 cases e:F s with
 |ok a s2=>rw [e] at h1;exact hf s h a s2 h1
 |err p c=>rw [e] at h1;exact h1
theorem QV {α β:Type} {n:Wd} {F:PS→PR α} {f:PS→α→PS→PR β} (hF:Ps n F) (hf:∀ s0 a,Ps n (f s0 a)):Ps n fun s=>(F s).bind (f s):=QaJ hF fun s0 _=>hf s0
theorem Qeo {α:Type} {n:Wd} {p:Int} (h:In n p) (e:Int) (he:e≠0:=by decide):Ps n fun _=>(.err p e:PR α):=fun _ _=>he
theorem Q5 {α:Type} {n:Wd} {c:PS→Prop} [∀ s,Decidable (c s)] {f g:PS→PR α} (hf:Ps n f) (hg:Ps n g):Ps n fun s=>if c s then f s else g s:=fun s h=>by
 show PsOk n (if c s then f s else g s)
 split
 ·exact hf s h
 ·exact hg s h
theorem X7 {α:Type} {n:Wd} {f:PS→PR α} (hf:Ps n f):Ps n fun s=>f s.nx:=fun s h=>hf s.nx (Qam h)
theorem YZ {α:Type} {n:Wd} {f:PS→PS→PR α} (hf:∀ s0,Ps n (f s0)):Ps n fun s=>f s s:=fun s h=>hf s s h
variable {n:Wd} (hn:True)
include hn
theorem Yt (b:List UInt8):Ps n (XU b):=Q5 (c:=fun s=>s.is b=true) (X7 (XT fun _=>())) (XN hn 16)
theorem name_ps:Ps n ZY:=Q5 (c:=fun s=>s.tk.kind≠1) (XN hn 16) (Q5 (c:=fun s=>resB s.tk.text=true) (XN hn 7) fun s h=>Qam h)
theorem QdM {ex:PS→PR T} (H:Ps n ex):∀ (m:Nat) (l:List T),Ps n (Zb ex m l)
 |0,_=>XN hn 16
 |m+1,l=>QV H fun _ t=>Q5 (c:=fun s=>s.is YV=true) (X7 (QdM H m _)) (QV (Yt hn _) fun _ _=>XT _)
theorem atom_ps {ex:PS→PR T} (H:Ps n ex):Ps n (Zc ex):=QV (name_ps hn) fun _ x=>Q5 (c:=fun s=>s.is sLp=true) (YZ (f:=fun s0 s=>(Zb ex s0.toks.length [] s.nx).bind fun l s=>.ok (⟨0,x,l⟩:G) s) fun s0=>QV (X7 (QdM hn H _ _)) fun _ _=>XT fun _=>_) (XT _)
theorem Qpa:Ps n fun s=>if s.nx.tk.kind≠3∨s.nx.tk.pos≠s.tk.pos+1 then (.err s.nx.tk.pos 16:PR T) else .ok (.mk 0 (-valT s.nx.tk.text) eB []) s.nx.nx:=fun s h=>by
 have _u:=hn
 show PsOk n (if s.nx.tk.kind≠3∨s.nx.tk.pos≠s.tk.pos+1 then _ else _)
 split
 ·show (16:Int)≠0;decide
 ·exact Qam (Qam h)
theorem opT_ps {ex:PS→PR T} (H:Ps n ex):Ps n (pOpT ex) :=
 Q5 (c:=fun s=>s.tk.kind=3) (fun s h=>Qam h) (fun s h=>by
  show PsOk n (if s.tk.kind=2 then _ else _)
  by_cases hk:s.tk.kind=2
  ·rw [if_pos hk];exact n.vr s h hk
  ·rw [if_neg hk]
   by_cases h1:s.tk.kind=1
   ·rw [if_pos h1]
    exact (QV (F:=Zc ex) (f:=fun _ a s=>(.ok (.mk 2 0 a.name a.args) s:PR T)) (atom_ps hn H) fun _ _=>XT fun _=>_) s h
   ·rw [if_neg h1]
    by_cases h2:s.is Qes=true
    ·rw [if_pos h2];exact Qpa hn s h
    ·rw [if_neg h2]
     by_cases h3:s.is sLp=true
     ·rw [if_pos h3]
      exact (QV (F:=fun s=>ex s.nx) (f:=fun _ t s=>(XU sRp s).bind fun _ s=>(.ok t s:PR T)) (X7 H) fun _ t=>QV (F:=XU sRp) (f:=fun _ _ s=>(.ok t s:PR T)) (Yt hn _) fun _ _=>XT fun _=>t) s h
     ·rw [if_neg h3];show (16:Int)≠0;decide)
theorem QaY {op:PS→PR T} (H:Ps n op) (ops:List (List UInt8)):∀ (m:Nat) (t:T),Ps n (XM op ops m t)
 |0,t=>XT fun _=>t
 |m+1,t=>Q5 (c:=fun s=>s.oneOf ops=true) (QV (f:=fun s u s2=>XM op ops m (.mk 2 0 s.tk.text [t,u]) s2) (X7 H) fun _ _=>QaY H ops m _) (XT fun _=>t)
theorem chain_ps {op:PS→PR T} (H:Ps n op) (ops:List (List UInt8)):Ps n (X5 op ops):=QV H fun _ t=>YZ (f:=fun s0 s=>XM op ops s0.toks.length t s) fun s0=>QaY hn H ops _ t
theorem exprT_ps:∀ m,Ps n (X6 m)
 |0=>XN hn 16
 |m+1=>chain_ps hn (chain_ps hn (opT_ps hn (exprT_ps m)) YE) ZW
theorem termT_ps:Ps n X1:=YZ (f:=fun s0 s=>X6 (s0.toks.length+1) s) fun s0=>exprT_ps hn _
theorem Qeg (op:Int):Ps n (Qcj op):=QV (Yt hn _) fun _ _=>QV (termT_ps hn) fun _ _=>QV (Yt hn _) fun _ _=>XT _
theorem goalT_ps:Ps n Qap:=Q5 (c:=fun s=>s.tk.kind=1∧resB s.tk.text=true)
 (Q5 (c:=fun s=>s.tk.text.toList=[116,114,117,101]) (X7 (XT fun _=>_)) (Q5 (c:=fun s=>s.tk.text.toList=[102,97,105,108]) (X7 (XT fun _=>_))
  (Q5 (c:=fun s=>s.tk.text.toList=[105,110,116]) (X7 (Qeg hn _)) (Q5 (c:=fun s=>s.tk.text.toList=[103,114,111,117,110,100]) (X7 (Qeg hn _)) (XN hn 7)))))
 (QV (termT_ps hn) fun s t s2 h=>by
  cases hc:Qb2 s2 with
  |some x =>
   obtain ⟨op,turn⟩:=x
   simp only
   exact (QV (f:=fun _ u s3=>.ok (⟨op,eB,if turn then [u,t] else [t,u]⟩:G) s3) (X7 (termT_ps hn)) fun _ _=>XT fun _=>_) s2 h
  |none =>
   simp only
   by_cases hc:s.tk.kind=1∧t.name.toList=s.tk.text.toList
   ·rw [if_pos hc];exact h
   ·rw [if_neg hc];exact (by decide:(16:Int)≠0))
theorem Qa5 (most:Nat):∀ (m:Nat) (l:List G),Ps n (YB most m l)
 |0,_=>XN hn 16
 |m+1,l=>Q5 (c:=fun _=>most≤l.length) (XN hn 6) (QaJ (goalT_ps hn) fun s0 h0 g=>Q5 (c:=fun _=>QU g=false) (Qeo (Qc5 hn h0) 6) (Q5 (c:=fun s=>s.is YV=true) (X7 (Qa5 most m _)) (XT _)))
theorem goals_ps (most:Nat):Ps n (Yo most):=YZ (f:=fun s0 s=>YB most (s0.toks.length+1) [] s) fun s0=>Qa5 hn most _ _
theorem Qa7 (pre:Nat):∀ (m:Nat) (l:List G),Ps n (YW pre m l)
 |0,_=>XN hn 16
 |m+1,l=>Q5 (c:=fun _=>4≤pre+l.length) (XN hn 6) (QaJ (atom_ps hn (termT_ps hn)) fun s0 h0 g=>Q5 (c:=fun _=>QP g=false) (Qeo (Qc5 hn h0) 6) (Q5 (c:=fun s=>s.is YV=true) (X7 (Qa7 pre m _)) (XT _)))
theorem heads_ps (pre:Nat):Ps n (Yp pre):=YZ (f:=fun s0 s=>YW pre (s0.toks.length+1) [] s) fun s0=>Qa7 hn pre _ _
theorem QbS (name:ByteArray) (keep remove:List G):Ps n (Zm name keep remove) :=
 QV (goals_ps hn 12) fun _ b=>Q5 (c:=fun s=>s.is sBar=true) (QV (X7 (goals_ps hn 12)) fun _ b2=>QV (Yt hn _) fun _ _=>XT _) (QV (Yt hn _) fun _ _=>XT _)
theorem QiB (name:ByteArray) (first:List G):Ps n (Qnh name first) :=
 Q5 (c:=fun s=>s.is Qat=true) (X7 (QbS hn _ _ _)) (Q5 (c:=fun s=>s.is QeZ=true) (X7 (QbS hn _ _ _)) (Q5 (c:=fun s=>s.is QeX=true) (QV (X7 (heads_ps hn _)) fun _ _=>QV (Yt hn _) fun _ _=>QbS hn _ _ _) (XN hn 16)))
theorem QdP (name:ByteArray):Ps n (Qj3 name):=QV (heads_ps hn 0) fun _ f=>QiB hn name f
theorem Qgo:Ps n Zl:=fun s h=>by
 rw [Qem]
 exact (Q5 (c:=fun s=>s.tk.kind=1∧s.nx.is sAt=true) (QV (name_ps hn) fun _ x=>X7 (QdP hn x)) (QdP hn eB)) s h
theorem rule_ps:Ps n ZZ:=fun s h=>(QV (F:=fun s=>Zl ⟨s.toks,[]⟩) (f:=fun _ r s=>.ok r.numd s) (fun s h=>Qgo hn ⟨s.toks,[]⟩ (n.cl s h)) fun _ _=>XT fun _=>_) s h
theorem Qb4:∀ (m:Nat) (l:List Dc),Ps n (Z8 m l)
 |0,_=>XN hn 16
 |m+1,l=>Q5 (c:=fun _=>30≤l.length) (XN hn 6) (QV (name_ps hn) fun _ x=>QV (Yt hn _) fun _ _ =>
   Q5 (c:=fun s=>s.tk.kind≠3) (XN hn 16) (Q5 (c:=fun s=>valT s.tk.text>6) (XN hn 6)
   (Q5 (c:=fun s=>s.nx.is YV=true) (YZ (f:=fun s0 s=>Z8 m (l++[⟨x,valT s0.tk.text⟩]) s.nx.nx) fun s0=>X7 (X7 (Qb4 m _)))
    (YZ (f:=fun s0 s=>(XU sDot s.nx).bind fun _ s2=>.ok (l++[⟨x,valT s0.tk.text⟩]) s2) fun s0=>QV (X7 (Yt hn _)) fun _ _=>XT fun _=>_))))
theorem decls_ps:∀ (m:Nat) (l:List Dc),Ps n (Zt m l)
 |0,l=>XT fun _=>l
 |m+1,l=>Q5 (c:=fun s=>s.tk.kind=1∧s.tk.text.toList=QmE) (YZ (f:=fun s0 s=>(Z8 (s0.toks.length+1) l s.nx).bind fun l s=>Zt m l s) fun s0=>QV (X7 (Qb4 hn _ l)) fun _ d=>decls_ps m d) (XT fun _=>l)
theorem Qcs:∀ (m:Nat) (l:List Rl),Ps n (Z1 m l)
 |0,l=>XT fun _=>l
 |m+1,l=>Q5 (c:=fun s=>s.tk.kind=0) (XT fun _=>l) (Q5 (c:=fun _=>40≤l.length) (XN hn 6) (QV (rule_ps hn) fun _ r=>Qcs m _))
theorem prog_ps:Ps n Qeh:=QV (F:=fun s=>Zt (s.toks.length+1) [] s) (YZ (f:=fun s0 s=>Zt (s0.toks.length+1) [] s) fun s0=>decls_ps hn _ _) fun _ d =>
 QV (F:=fun s=>Z1 (s.toks.length+1) [] s) (YZ (f:=fun s0 s=>Z1 (s0.toks.length+1) [] s) fun s0=>Qcs hn _ _) fun _ r=>XT fun _=>_
theorem QoY:Ps n pEnd:=Q5 (c:=fun s=>s.tk.kind=0) (XT fun _=>()) (XN hn 16)
theorem query_ps:Ps n QfC:=QV (goals_ps hn 40) fun _ l=>QV (QoY hn) fun _ _=>XT fun _=>_
end Kp
theorem QnX (s:PS):s.nx.toks <:+ s.toks:=by
 unfold PS.nx
 split
 ·rename_i t u r e;rw [e];exact List.suffix_cons _ _
 ·exact List.suffix_refl _
theorem Qkq (x:ByteArray) (s:PS):(pVari x s).2.names.length≤s.names.length+1:=by
 unfold pVari
 split
 ·exact Nat.le_succ _
 ·simp
theorem Qms {s s':PS} (e:s.toks=s'.toks) (h:s.wf):s'.wf:=by
 obtain ⟨l,x,h1,h2,h3⟩:=h
 exact ⟨l,x,e▸h1,h2,h3⟩
structure Wst (all:List Tk) (s:PS):Prop where
 wf:s.wf
 suf:s.toks <:+ all
 nms:s.names.length+s.toks.length≤all.length
theorem Wst.nx {all:List Tk} {s:PS} (h:Wst all s):Wst all s.nx :=
 ⟨Zr h.wf,(QnX s).trans h.suf,by have:=QoL h.wf;have:=h.nms;show s.names.length+_≤_;omega⟩
theorem Wst.vr {all:List Tk} {s:PS} (h:Wst all s) (hk:s.tk.kind≠0):Wst all (pVari s.tk.text s.nx).2:=by
 have e:=QeD s.tk.text s.nx
 refine ⟨Qms e.symm (Zr h.wf),by rw [e];exact (QnX s).trans h.suf,?_⟩
 have h1:=Qkq s.tk.text s.nx
 have h2:=XJ h.wf hk
 have h3:=h.nms
 have h4:s.nx.names=s.names:=rfl
 rw [e];rw [h4] at h1;omega
def wdOf (all:List Tk):Wd:=⟨Wst all,fun s h=>h.nx,fun s h hk=>h.vr (by rw [hk];decide),fun s h=>⟨Qms rfl h.wf,h.suf,by have:=h.suf.length_le;simpa using this⟩⟩
end Go.Proofs.YticgcpebdldbgaaDoor.Ab
namespace Go.Proofs.YticgcpebdldbgaaDoor.Ab
theorem Qn3 {c:Cx} (hs:St c) {s:Nat} {k:AB} (hk:k = .dead∨∃ e,k = .grow e s 0):Ev c (c.add c.w k none)∧St (c.add c.w k none):=by
 have hg:=Grows.refl c.w
 have ho:∀ B,(none:Option Nat)=some B→c.w.heap.size≤B:=fun B h=>by cases h
 have hρ:(c.add c.w k none).ρ c.h.length=none:=by simp [Cx.add]
 refine ⟨Ev.add hs hg k none ho,St.add hs hg _ _ ho ?_⟩
 rcases hk with rfl|⟨e,rfl⟩
 ·trivial
 ·exact fun B hB=>by rw [hρ] at hB;cases hB
theorem QoH {c:Cx} (hst:St c) {id ty n s:Nat} {k:AB} (hk:k = .dead∨∃ e,k = .grow e s 0) {xs xs':List AV} {j:Nat} (hb:c.h[id]? = some (.cells ty n xs)) (hj:(flat xs)[j]? = some (.v (.slice none 0 0)))
  (hf:flat xs'=(flat xs).set j (.sl s [] (some c.h.length))) (hc:∀ x∈xs',x.cells.length=n) :
  ∃ c2,Ev c c2∧St c2∧c2.h=(c.h++[k]).set id (AB.cells ty n xs')∧c2.w=c.w:=by
 obtain ⟨hev,hst1⟩:=Qn3 hst hk
 have hlt:=Qt hb
 have hb1:(c.add c.w k none).h[id]? = some (.cells ty n xs):=by
  simp only [Cx.add];rw [List.getElem?_append_left hlt];exact hb
 obtain ⟨B,cur,hρ,hcur,h3,h4⟩:=hst1.blocks id _ hb1
 have hev2:=Ev.turn (b':=.cells ty n xs') hst1 hb1 rfl hρ (w:=c.w) rfl rfl rfl rfl (fun _ _=>rfl) (.inr ⟨_,rfl,rfl,fun _ cur _ h=>⟨cur,h,rfl⟩⟩)
 have htok:((c.add c.w k none).turn c.w id (.cells ty n xs')).tokNil c.h.length s:=by
  refine ⟨by simp [Cx.turn,Cx.add],fun e2 s2 n2 hg2=>?_⟩
  simp only [Cx.turn,Cx.add] at hg2
  rw [List.getElem?_set_ne (by omega),List.getElem?_append_right (Nat.le_refl _),Nat.sub_self] at hg2
  rcases hk with rfl|⟨e,rfl⟩
  ·simp at hg2
  ·simp at hg2
   exact ⟨hg2.2.1.symm,fun _=>by simp [Cx.turn,Cx.add]⟩
 have hst2:=St.turn (b':=.cells ty n xs') hst1 hb1 rfl hρ (w:=c.w) (fun _ _=>rfl) hev2 ⟨B,cur,hρ,hcur,hc,by
  intro i a' hi
  rw [hf] at hi
  by_cases e:j=i
  ·subst e
   rw [List.getElem?_set_self (Qt hj)] at hi
   cases hi
   obtain ⟨u,g1,g2,g3⟩:=h4 j _ hj
   cases g3
   exact ⟨_,g1,g2,.slnil _ _ fun b hb=>by cases hb;exact htok⟩
  ·rw [List.getElem?_set_ne e] at hi
   obtain ⟨u,g1,g2,g3⟩:=h4 i _ hi
   exact ⟨u,g1,g2,g3.ev hst1 hev2⟩⟩
 exact ⟨_,Ev.trans hst hev hev2,hst2,rfl,rfl⟩
theorem Yr {P:Program} {N:Nat} {code:Code} {Q:AExit→AS→Prop} {tm:Nat→AV} {h:AH} (id ty n s:Nat) (k:AB) (hk:k = .dead∨∃ e,k = .grow e s 0) (xs xs':List AV) (j:Nat) (hb:h[id]? = some (.cells ty n xs))
  (hj:(flat xs)[j]? = some (.v (.slice none 0 0))) (hf:flat xs'=(flat xs).set j (.sl s [] (some h.length))) (hc:∀ x∈xs',x.cells.length=n)
  (H:XF P N code Q ⟨tm,(h++[k]).set id (AB.cells ty n xs')⟩):XF P N code Q ⟨tm,h⟩:=by
 intro F m base c a hF hst hr R hR
 have hh:c.h=h:=hr.h
 subst hh
 obtain ⟨c2,hev,hst2,hh2,hw⟩:=QoH hst hk hb hj hf hc
 rw [← hw]
 exact H F m base c2 a hF hst2 ⟨hh2,hr.size,Nat.le_trans hr.above hev.size,hr.defers.ev hev,RoundOk.ev hev hr.round,fun t=>(hr.tm t).ev hst hev⟩ R fun e' s' c' a' ex hq h1 h2 h3 h4=>hR e' s' c' a' ex hq (Ev.trans hst hev h1) h2 h3 h4
def ArrW (P:Program) (N:Nat) (ops:Array Oper) (o:Oper) (K:AS→Prop) (s:AS):Prop :=
 match Qd ops s.tm o with
 |some true=>(match o.op with
  | .buildSlice t len ps=>(match Xa P t with
   |some (e,n)=>(QH P t len (ps.toList.map fun p=>(p.1,s.ev p.2)) s.h).isSome=true∧K (AS.put N {s with h:=s.h++[.cells e n (ps.toList.map fun p=>s.ev p.2)]} o.dst (.arr s.h.length 0 len))
   |none=>False)
  |_=>False)
 |some false=>K (AS.put N s o.dst (.v undef))
 |none=>False
theorem Qdl {P:Program} {N:Nat} {Q:AExit→AS→Prop} {s:AS} {id:Nat} {ops:Array Oper} (i:Nat) {o:Oper} (ho:ops.toList[i]? = some o)
  (H:∀ (K:AS→Prop) (E:AV→AS→Prop),(∀ s,Q .normal s→K s)→(∀ r s,Q (.panic r) s→E r s)→OpsW P N ops (ops.toList.take i) (ArrW P N ops o (OpsW P N ops (ops.toList.drop (i+1)) K E)) E s):XF P N (.region id ops false) Q s:=by
 intro F n base c a hF hst hr R hR
 refine wpIn_region ?_
 have hlt:=Qt ho
 have hH:=H (fun s'=>Q .normal s') (fun r s'=>Q (.panic r) s') (fun _ h=>h) (fun _ _ h=>h)
 have hi:(ops.toList.take i).length=i:=by rw [List.length_take];omega
 have hrange:List.range ops.size=List.range' 0 (ops.toList.take i).length++(i::(List.range' (i+1) (ops.toList.drop (i+1)).length++[])):=by
  rw [hi,List.append_nil,List.length_drop,List.range_eq_range',← Array.length_toList]
  have:ops.toList.length=i+(1+(ops.toList.length - (i+1))):=by omega
  conv=>lhs;rw [this]
  rw [← List.range'_append_1,Nat.zero_add,← List.range'_append_1]
  rfl
 have hget:∀ j,(ops.toList.drop (i+1))[j]? = ops[i+1+j]? := fun j=>by rw [List.getElem?_drop];simp
 rw [hrange]
 refine Qbe hF (ops.toList.take i) 0 s c a (fun j hj=>by rw [List.getElem?_take,if_pos (by omega)];simp) hH hst hr ?_ ?_
 ·intro s1 c1 a1 h1 h2 h3 h4
  have h0:ops[i]? = some o:=by rw [← ho];simp
  have hrest:∀ s2 c2 a2,OpsW P N ops (ops.toList.drop (i+1)) (fun s'=>Q .normal s') (fun r s'=>Q (.panic r) s') s2→Ev c c2→St c2→SR N (base,F) c2 s2 a2→wpOpsIn F n P ops R (List.range' (i+1) (ops.toList.drop (i+1)).length++[]) a2 c2.w:=by
   intro s2 c2 a2 hq he2 hst2 hr2
   refine Qbe hF _ (i+1) s2 c2 a2 (fun j _=>hget j) hq hst2 hr2 ?_ ?_
   ·intro s' c' a' hQ k1 k2 k3
    simp only [wpOpsIn]
    exact hR _ s' c' a' _ hQ (Ev.trans hst he2 k1) k2 k3 rfl
   ·intro r s' c' a' x hQ k1 k2 k3 hx
    exact hR _ s' c' a' _ hQ (Ev.trans hst he2 k1) k2 k3 ⟨x,rfl,hx⟩
  simp only [wpOpsIn,h0]
  unfold ArrW at h1
  split at h1
  ·rename_i hw
   rw [Xd h4 hw]
   simp only [if_true]
   split at h1
   ·rename_i t len ps hop
    split at h1
    ·rename_i e m he
     exact Qe2 hop he h1.1 h1.2 hF h3 h4 fun s' c' a' hK k1 k2 k3=>hrest s' c' a' hK (Ev.trans hst h2 k1) k2 k3
    ·exact h1.elim
   ·exact h1.elim
  ·rename_i hw
   rw [Xd h4 hw]
   simp only [Qq3,if_false]
   refine ⟨fun f _=>hF.fn f,?_⟩
   have hr':=h4.put h3 (Ev.refl c1) o.dst (.v undef)
   rw [h4.h] at hr'
   exact hrest _ c1 _ h1 h2 h3 hr'
  ·exact h1.elim
 ·intro r s' c' a' x hQ h1 h2 h3 hx
  exact hR _ s' c' a' _ hQ h1 h2 h3 ⟨x,rfl,hx⟩
theorem YQ {P:Program} {N:Nat} {Q:AExit→AS→Prop} {s:AS} {id:Nat} {ops:Array Oper} {y:Code} (i:Nat) {o:Oper} (ho:ops.toList[i]? = some o)
  (H:∀ (K:AS→Prop) (E:AV→AS→Prop),(∀ s,XF P N y Q s→K s)→(∀ r s,Q (.panic r) s→E r s)→OpsW P N ops (ops.toList.take i) (ArrW P N ops o (OpsW P N ops (ops.toList.drop (i+1)) K E)) E s):XF P N (.seq (.region id ops false) y) Q s :=
 Qal (Qdl i ho (fun K E hK hE=>H K E hK hE))
theorem Ev.Qqx {c c':Cx} (hev:Ev (c.cut 0) c') {B:Nat} (h:B<c.w.heap.size):c'.w.heap[B]? = c.w.heap[B]? :=
 hev.frame B h fun ⟨id,b,hb,_⟩=>by simp [Cx.cut] at hb
inductive Melt (h:AH) (m:Nat):AV→AV→Prop
 |keep {a:AV} (hb:Below m a):Melt h m a a
 |nil (s:Nat):Melt h m (.v (.slice none 0 0)) (.sl s [] none)
 |agg {l l':List AV} (hl:l'.length=l.length) (hp:∀ (j:Nat) a a',l[j]? = some a→l'[j]? = some a'→Melt h m a a'):Melt h m (.agg l) (.agg l')
 |sl {s:Nat} {xs ys:List AV} {own:Option Nat} (hl:ys.length=xs.length) (hs:∀ y∈ys,y.cells.length=s) (hf:(flat ys).length=(flat xs).length)
   (hp:∀ (j:Nat) a a',(flat xs)[j]? = some a→(flat ys)[j]? = some a'→Melt h m a a'):Melt h m (.sl s xs own) (.sl s ys none)
 |arr {id len s:Nat} {ty:TypeId} {xs ys:List AV} (hi:m≤id) (hg:h[id]? = some (.cells ty s xs)) (hl:ys.length=len) (hs:∀ y∈ys,y.cells.length=s) (hf:(flat ys).length≤(flat xs).length)
   (hp:∀ (j:Nat) a a',(flat xs)[j]? = some a→(flat ys)[j]? = some a'→Melt h m a a'):Melt h m (.arr id 0 len) (.sl s ys none)
theorem Melt.rel {c:Cx} (hs:St c) {m:Nat} (hm:m≤c.h.length) {a a':AV} (h:Melt c.h m a a'):∀ {x:Value},Rel c a x→Rel (c.cut m) a' x:=by
 induction h with
 |keep hb=>exact fun hr=>hr.cut hm hb
 |nil s=>intro x hr;cases hr;exact .slnil s none fun b hb=>by cases hb
 |@agg l l' hl _ ih =>
  intro x hr
  cases hr with
  |agg _ cs hl' hr =>
   refine .agg _ cs (by omega) fun j a' u ha' hu=>?_
   obtain ⟨a,ha⟩:∃ a,l[j]? = some a:=⟨_,List.getElem?_eq_getElem (by rw [← hl];exact Qt ha')⟩
   exact ih j a a' ha ha' (hr j a u ha hu)
 |@sl s xs ys own hl hs' hf _ ih =>
  intro x hr
  have old:∀ (j:Nat) a',(flat ys)[j]? = some a'→∃ a,(flat xs)[j]? = some a:=fun j a' ha=>⟨_,List.getElem?_eq_getElem (by rw [← hf];exact Qt ha)⟩
  cases hr with
  |slnil _ _ ht =>
   cases ys with
   |nil=>exact .slnil s none fun b hb=>by cases hb
   |cons y ys=>simp at hl
  |slzero _ _ ba ht =>
   cases ys with
   |nil=>exact .slzero s none ba fun b hb=>by cases hb
   |cons y ys=>simp at hl
  |sl _ _ _ B o cap f hs0 hcap hmax hc hr ht =>
   rw [← hl] at hcap ⊢
   refine .sl s ys none B o cap f hs' hcap hmax (fun j a' ha=>?_) (fun j a' ha=>?_) fun b hb=>by cases hb
   ·obtain ⟨a,h1⟩:=old j a' ha
    exact ⟨⟨(hc j a h1).1.1,QdC (hc j a h1).1.2⟩,(hc j a h1).2⟩
   ·obtain ⟨a,h1⟩:=old j a' ha
    exact ih j a a' h1 ha (hr j a h1)
 |@arr id len s ty xs ys hi hg hl hs' hf _ ih =>
  intro x hr
  have old:∀ (j:Nat) a',(flat ys)[j]? = some a'→∃ a,(flat xs)[j]? = some a:=fun j a' ha=>⟨_,List.getElem?_eq_getElem (Nat.lt_of_lt_of_le (Qt ha) hf)⟩
  cases hr with
  |arr _ _ _ x hid ho h1 =>
   obtain ⟨B,cap,hρ,rfl,h2,h3,_⟩:=h1 _ _ _ hg
   obtain ⟨B',cur,g1,g2,g3,g4⟩:=hs.blocks id _ hg
   rw [hρ] at g1;cases g1
   subst hl
   rw [Nat.zero_mul]
   refine .sl s ys none B 0 cap (fun j=>cur.getD j undef) hs' h2 h3 (fun j a' ha=>?_) (fun j a' ha=>?_) fun b hb=>by cases hb
   ·obtain ⟨a,h4⟩:=old j a' ha
    obtain ⟨u,h5,h6,h7⟩:=g4 j a h4
    have e:cur.getD j undef=u:=by rw [Array.getD_eq_getD_getElem?,h5];rfl
    show (c.cut m).cellP B (0+j) (cur.getD j undef)∧(cur.getD j undef).oneCell'=true
    rw [e]
    refine ⟨⟨by show c.w.cell? _=_;rw [Nat.zero_add,Xq g2];exact h5,hs.lt hg rfl hρ,fun id' b' hb' hl' hρ'=>?_⟩,h6⟩
    obtain ⟨hlt,hb2⟩:=YF hb'
    have:=hs.inj id' id b' _ B hb2 hg hl' rfl hρ' hρ
    omega
   ·obtain ⟨a,h4⟩:=old j a' ha
    obtain ⟨u,h5,h6,h7⟩:=g4 j a h4
    have e:cur.getD j undef=u:=by rw [Array.getD_eq_getD_getElem?,h5];rfl
    show Rel (c.cut m) a' (cur.getD j undef)
    rw [e]
    exact ih j a a' h4 ha h7
theorem Qe8 {P:Program} {f:FuncId} {args args':List AV} {h:AH} {v:Value} (hl:args'.length=args.length) (hm:∀ (j:Nat) a a',args[j]? = some a→args'[j]? = some a'→Melt h 0 a a')
  (H:QJ P f args' [] fun o h'=>o = .ret (.v v)∧h'=[]):QJ P f args h fun o h'=>o = .ret (.v v)∧h'=h:=by
 refine ⟨H.1,fun F n c vals hF hs hh hvs=>?_⟩
 subst hh
 have hst0:St (c.cut 0):=hs.cut (Nat.zero_le _) (by simp)
 have hargs:RelL (c.cut 0) args' vals:=by
  refine ⟨hvs.1.trans hl.symm,fun j a' u h1 h2=>?_⟩
  obtain ⟨a,ha⟩:∃ a,args[j]? = some a:=⟨_,List.getElem?_eq_getElem (by rw [← hl];exact Qt h1)⟩
  exact (hm j a a' ha h1).rel hs (Nat.zero_le _) (hvs.2 j a u ha h2)
 refine (H.2 F n (c.cut 0) vals hF hst0 (by simp [Cx.cut]) hargs).mono ?_
 rintro e w' ⟨o,c',⟨rfl,hh'⟩,hev,hst,hw,hex⟩
 obtain ⟨x,rfl,hr⟩:=hex
 cases hr
 have hmem:∀ {B:Nat},B<c.w.heap.size→c'.w.heap[B]? = c.w.heap[B]? := fun h=>hev.Qqx h
 let c2:Cx:={ρ:=c.ρ,h:=c.h,w:=c'.w}
 have hlt0:∀ {i B0:Nat} {b:AB},c.h[i]? = some b→b.live=true→c.ρ i=some B0→B0<c.w.heap.size:=fun h1 h2 h3=>hs.lt h1 h2 h3
 have hm:∀ {B0:Nat} {o:Obj},c.w.heap[B0]? = some o→c2.w.heap[B0]? = some o:=fun {B0 o} h=>(hmem (Array.getElem?_eq_some_iff.1 h).1).trans h
 have hev2:Ev c c2:=by
  refine ⟨hev.os,hev.tape,hev.output,hev.size,Nat.le_refl _,fun B0 h1 _=>hmem h1,fun id b hb=>⟨b,hb,?_⟩,fun id B0 b h1 h2 hl h3=>?_⟩
  ·cases b with
   |cells ty s xs=>exact .inr ⟨xs,rfl,rfl,fun B cur hρ hc=>⟨cur,hm hc,rfl⟩⟩
   |grow e s n=>exact .inr ⟨n,rfl,Nat.le_refl _,fun _=>rfl,fun B hB=>.inl hB,fun B cur hρ hc=>⟨cur,hm hc,rfl,fun _ _=>rfl⟩⟩
   |map es=>exact ⟨es,rfl,rfl⟩
   |loop i=>exact ⟨i,rfl,rfl⟩
   |iter s p=>exact ⟨p,rfl,rfl⟩
   |glob g cs ty fr=>exact ⟨rfl,rfl,fun B hρ=>hmem (hlt0 hb rfl hρ)⟩
   |dead=>rfl
   |gone=>rfl
  ·have:=Qt h2
   simp only [c2] at this
   omega
 have hst2:St c2:=⟨fun id b hb=>(hs.blocks id b hb).ev hs hev2 rfl fun B0 hl hρ=>hmem (hlt0 hb hl hρ),hs.inj⟩
 exact ⟨.ret (.v v),c2,⟨rfl,rfl⟩,hev2,hst2,hw,_,rfl,.v _⟩
theorem QjB {P:Program} {f:FuncId} {args:List AV} {h:AH} {Q Q0:AOut→AH→Prop} (H:QJ P f args h Q0)
  (hp:(∀ (i:Nat) b,h[i]? = some b→b.Below h.length)→∀ o h',Q0 o h'→Q o h'∨∃ r r',o = .ret r∧h.length≤h'.length∧(∀ b∈h'.take h.length,b.Below h.length)∧Melt h' h.length r r'∧Q (.ret r') (h'.take h.length)):QJ P f args h Q:=by
 refine ⟨H.1,fun F n c vals hF hs hh hvs=>(H.2 F n c vals hF hs hh hvs).mono ?_⟩
 rintro e w' ⟨o,c',hQ,hev,hst,hw,hex⟩
 rcases hp (fun i b hb=>by subst hh;exact hs.below hb) o c'.h hQ with hq|⟨r,r',rfl,h1,h2,h3,h4⟩
 ·exact ⟨o,c',hq,hev,hst,hw,hex⟩
 ·obtain ⟨x,rfl,hr⟩:=hex
  exact ⟨.ret r',c'.cut h.length,h4,hev.cut (by rw [hh];exact Nat.le_refl _) h1,hst.cut h1 h2,hw,x,rfl,h3.rel hst h1 hr⟩
end Go.Proofs.YticgcpebdldbgaaDoor.Ab
namespace Go.Proofs.YticgcpebdldbgaaDoor.Ab
inductive Pk (n:Nat) (τ:Nat→Nat) (h2:AH):AV→AV→Prop
 |keep {a:AV} (hb:Below n a):Pk n τ h2 a a
 |agg {l l':List AV} (hl:l'.length=l.length) (hp:∀ (j:Nat) a a',l[j]? = some a→l'[j]? = some a'→Pk n τ h2 a a'):Pk n τ h2 (.agg l) (.agg l')
 |tup {l l':List AV} (hl:l'.length=l.length) (hp:∀ (j:Nat) a a',l[j]? = some a→l'[j]? = some a'→Pk n τ h2 a a'):Pk n τ h2 (.tup l) (.tup l')
 |sl {s:Nat} {xs ys:List AV} {own:Option Nat} (hl:ys.length=xs.length) (hs:∀ y∈ys,y.cells.length=s) (hf:(flat ys).length=(flat xs).length)
   (hp:∀ (j:Nat) a a',(flat xs)[j]? = some a→(flat ys)[j]? = some a'→Pk n τ h2 a a'):Pk n τ h2 (.sl s xs own) (.sl s ys none)
 |arr {id old lo len:Nat} (ho:old=τ id) (hi:n≤id) (hl:id<h2.length):Pk n τ h2 (.arr old lo len) (.arr id lo len)
structure Pack (n:Nat) (τ:Nat→Nat) (h h2:AH):Prop where
 len:n≤h2.length
 len':n≤h.length
 id:∀ i,i<n→τ i=i
 old:∀ i,i<n→h2[i]? = h[i]?
 below:∀ (i:Nat) b,i<n→h[i]? = some b→b.Below n
 lo:∀ i,n≤i→i<h2.length→n≤τ i
 inj:∀ i j,n≤i→i<h2.length→n≤j→j<h2.length→τ i=τ j→i=j
 new:∀ (i:Nat) b,n≤i→h2[i]? = some b→b = .dead∨∃ ty s xs ys,b = .cells ty s ys∧h[τ i]? = some (.cells ty s xs)∧(∀ y∈ys,y.cells.length=s)∧(flat ys).length≤(flat xs).length ∧
  ∀ (j:Nat) a a',(flat xs)[j]? = some a→(flat ys)[j]? = some a'→Pk n τ h2 a a'
def Cx.pack (c:Cx) (τ:Nat→Nat) (h2:AH):Cx:={ρ:=fun i=>c.ρ (τ i),h:=h2,w:=c.w}
section
variable {c:Cx} {n:Nat} {τ:Nat→Nat} {h2:AH} (K:Pack n τ c.h h2)
include K
theorem Pack.get {i:Nat} {b:AB} (hb:h2[i]? = some b):(i<n∧c.h[i]? = some b∧τ i=i∧b.Below n)∨(n≤i∧(b = .dead∨∃ ty s xs ys,b = .cells ty s ys∧c.h[τ i]? = some (.cells ty s xs)∧(∀ y∈ys,y.cells.length=s)∧(flat ys).length≤(flat xs).length ∧
  ∀ (j:Nat) a a',(flat xs)[j]? = some a→(flat ys)[j]? = some a'→Pk n τ h2 a a')):=by
 rcases Nat.lt_or_ge i n with h|h
 ·have:=K.old i h
  rw [hb] at this
  exact .inl ⟨h,this.symm,K.id i h,K.below i b h this.symm⟩
 ·exact .inr ⟨h,K.new i b h hb⟩
theorem Pack.low {i:Nat} {b:AB} (hi:i<n) (hb:c.h[i]? = some b):h2[i]? = some b:=(K.old i hi).trans hb
theorem Pack.live {i:Nat} {b:AB} (hb:h2[i]? = some b) (hl:b.live=true):∃ b',c.h[τ i]? = some b'∧b'.live=true∧(b'=b∨∃ ty s xs,b' = .cells ty s xs):=by
 rcases K.get hb with ⟨_,h1,h3,_⟩|⟨_,rfl|⟨ty,s,xs,ys,rfl,h1,_⟩⟩
 ·exact ⟨b,by rw [h3];exact h1,hl,.inl rfl⟩
 ·cases hl
 ·exact ⟨_,h1,rfl,.inr ⟨_,_,_,rfl⟩⟩
theorem Pack.prot {B o:Nat} (h:c.prot B o):(c.pack τ h2).prot B o:=by
 refine ⟨h.1,fun id b hb hl hρ=>?_⟩
 obtain ⟨b',h1,h3,h4⟩:=K.live hb hl
 have h5:=h.2 (τ id) b' h1 h3 hρ
 rcases h4 with rfl|⟨ty,s,xs,rfl⟩
 ·exact h5
 ·rcases h5 with ⟨_,_,_,h5,_⟩|⟨_,_,_,_,h5⟩ <;> cases h5
theorem Pack.ρ {i:Nat} (hi:i<n):(c.pack τ h2).ρ i=c.ρ i:=by show c.ρ (τ i)=c.ρ i;rw [K.id i hi]
theorem Pack.back {i:Nat} {b:AB} (hi:i<n) (hb:(c.pack τ h2).h[i]? = some b):c.h[i]? = some b:=(K.old i hi).symm.trans hb
theorem Pack.keep {a:AV} {x:Value} (h:Rel c a x) (hb:Below n a):Rel (c.pack τ h2) a x:=by
 have hlt:∀ {i:Nat},i<n→i<(c.pack τ h2).h.length:=fun h=>Nat.lt_of_lt_of_le h K.len
 induction h with
 |v x=>exact .v x
 |junk x=>exact .junk x
 |agg l cs hl _ ih=>cases hb with|agg _ h=>exact .agg l cs hl fun j a u h1 h2=>ih j a u h1 h2 (h a (List.mem_of_getElem? h1))
 |tup l cs hl _ ih=>cases hb with|tup _ h=>exact .tup l cs hl fun j a u h1 h2=>ih j a u h1 h2 (h a (List.mem_of_getElem? h1))
 |slnil s own ht =>
  cases hb with
  |sl _ _ _ h hown =>
   refine .slnil s own fun b hb=>⟨hlt (hown b hb),fun e s' m hg=>?_⟩
   rw [K.ρ (hown b hb)]
   exact (ht b hb).2 e s' m (K.back (hown b hb) hg)
 |slzero s own ba ht =>
  cases hb with
  |sl _ _ _ h hown =>
   refine .slzero s own ba fun b hb=>⟨hlt (hown b hb),fun e s' m hg=>?_⟩
   rw [K.ρ (hown b hb)]
   exact (ht b hb).2 e s' m (K.back (hown b hb) hg)
 |sl s xs own B o cap f hs hcap hmax hc _ ht ih =>
  cases hb with
  |sl _ _ _ h hown =>
   refine .sl s xs own B o cap f hs hcap hmax (fun j a hj=>⟨⟨(hc j a hj).1.1,K.prot (hc j a hj).1.2⟩,(hc j a hj).2⟩) (fun j a hj=>ih j a hj (h a (List.mem_of_getElem? hj)))
    fun b hb=>⟨⟨hlt (hown b hb),let ⟨x,g1,g2⟩:=(ht b hb).1.2;⟨x,K.low (hown b hb) g1,g2⟩⟩,fun e s' m hg=>?_⟩
   rw [K.ρ (hown b hb)]
   exact (ht b hb).2 e s' m (K.back (hown b hb) hg)
 |pin s xs k off B o f hs hc _ ih =>
  cases hb with
  |pin _ _ _ _ h =>
   exact .pin s xs k off B o f hs (fun j a hj=>⟨⟨(hc j a hj).1.1,K.prot (hc j a hj).1.2⟩,(hc j a hj).2⟩) (fun j a hj=>ih j a hj (h a (List.mem_of_getElem? hj)))
 |ptr id k off x hid ho h1 =>
  cases hb with
  |ptr _ _ _ h=>exact .ptr id k off x (hlt h) ho fun ty s xs hg=>by rw [K.ρ h];exact h1 ty s xs (K.back h hg)
 |arr id lo len x hid ho h1 =>
  cases hb with
  |arr _ _ _ h=>exact .arr id lo len x (hlt h) ho fun ty s xs hg=>by rw [K.ρ h];exact h1 ty s xs (K.back h hg)
 |row id lo len cap x hid ho h1 =>
  cases hb with
  |row _ _ _ _ h=>exact .row id lo len cap x (hlt h) ho fun ty s xs hg=>by rw [K.ρ h];exact h1 ty s xs (K.back h hg)
 |mp id x hid ho h1 =>
  cases hb with
  |mp _ h=>exact .mp id x (hlt h) ho ⟨fun es hg=>by rw [K.ρ h];exact h1.1 es (K.back h hg),fun i hg=>by rw [K.ρ h];exact h1.2.1 i (K.back h hg),fun s p hg=>by rw [K.ρ h];exact h1.2.2 s p (K.back h hg)⟩
 |fn f first cap vs ws e1 e2 _ _ ih1 ih2 =>
  cases hb with
  |fn _ _ _ h1 h2=>exact .fn f first cap vs ws e1 e2 (fun j a u h3 h4=>ih1 j a u h3 h4 (h1 a (List.mem_of_getElem? h3))) (fun j a u h3 h4=>ih2 j a u h3 h4 (h2 a (List.mem_of_getElem? h3)))
 |ifc t a u _ ih=>cases hb with|ifc _ _ h=>exact .ifc t a u (ih h)
 |spt s xs own p n k _ ih=>cases hb with|spt _ _ _ h=>exact .spt s xs own p n k (ih h)
theorem Pack.rel {a a':AV} (h:Pk n τ h2 a a'):∀ {x:Value},Rel c a x→Rel (c.pack τ h2) a' x:=by
 induction h with
 |keep hb=>exact fun hr=>K.keep hr hb
 |@agg l l' hl _ ih =>
  intro x hr
  cases hr with
  |agg _ cs hl' hr =>
   refine .agg _ cs (by omega) fun j a' u ha' hu=>?_
   obtain ⟨a,ha⟩:∃ a,l[j]? = some a:=⟨_,List.getElem?_eq_getElem (by rw [← hl];exact Qt ha')⟩
   exact ih j a a' ha ha' (hr j a u ha hu)
 |@tup l l' hl _ ih =>
  intro x hr
  cases hr with
  |tup _ cs hl' hr =>
   refine .tup _ cs (by omega) fun j a' u ha' hu=>?_
   obtain ⟨a,ha⟩:∃ a,l[j]? = some a:=⟨_,List.getElem?_eq_getElem (by rw [← hl];exact Qt ha')⟩
   exact ih j a a' ha ha' (hr j a u ha hu)
 |@sl s xs ys own hl hs' hf _ ih =>
  intro x hr
  have old:∀ (j:Nat) a',(flat ys)[j]? = some a'→∃ a,(flat xs)[j]? = some a:=fun j a' ha=>⟨_,List.getElem?_eq_getElem (by rw [← hf];exact Qt ha)⟩
  cases hr with
  |slnil _ _ ht =>
   cases ys with
   |nil=>exact .slnil s none fun b hb=>by cases hb
   |cons y ys=>simp at hl
  |slzero _ _ ba ht =>
   cases ys with
   |nil=>exact .slzero s none ba fun b hb=>by cases hb
   |cons y ys=>simp at hl
  |sl _ _ _ B o cap f hs0 hcap hmax hc hr ht =>
   rw [← hl] at hcap ⊢
   refine .sl s ys none B o cap f hs' hcap hmax (fun j a' ha=>?_) (fun j a' ha=>?_) fun b hb=>by cases hb
   ·obtain ⟨a,h1⟩:=old j a' ha
    exact ⟨⟨(hc j a h1).1.1,K.prot (hc j a h1).1.2⟩,(hc j a h1).2⟩
   ·obtain ⟨a,h1⟩:=old j a' ha
    exact ih j a a' h1 ha (hr j a h1)
 |@arr id old lo len ho hi hl =>
  intro x hr
  subst ho
  cases hr with
  |arr _ _ _ x hid ho h1 =>
   refine .arr id lo len x hl ho fun ty s ys hg=>?_
   rcases K.get hg with ⟨h,_⟩|⟨_,e|⟨ty',s',xs,ys',e,h3,_⟩⟩
   ·omega
   ·cases e
   ·cases e
    exact h1 _ _ _ h3
theorem Pack.st (hs:St c):St (c.pack τ h2):=by
 refine ⟨fun id b hb=>?_,fun i j a b B hi hj hla hlb hρi hρj=>?_⟩
 ·rcases K.get hb with ⟨h1,h3,h4,hbl⟩|⟨h1,rfl|⟨ty,s,xs,ys,rfl,h3,h4,h5,h6⟩⟩
  ·have h0:=hs.blocks id b h3
   have hρ:=K.ρ h1
   cases b with
   |cells ty s xs =>
    obtain ⟨B,cur,g1,g2,g3,g4⟩:=h0
    exact ⟨B,cur,hρ.trans g1,g2,g3,fun j a hj=>let ⟨u,h5,h6,h7⟩:=g4 j a hj;⟨u,h5,h6,K.keep h7 (hbl a (List.mem_of_getElem? hj))⟩⟩
   |grow e s m=>exact fun B hB=>h0 B (hρ.symm.trans hB)
   |map es =>
    obtain ⟨B,ents,clock,g1,g2,g3,g4⟩:=h0
    exact ⟨B,ents,clock,hρ.trans g1,g2,g3,fun j kv e hj he=>⟨(g4 j kv e hj he).1,K.keep (g4 j kv e hj he).2 (hbl kv (List.mem_of_getElem? hj))⟩⟩
   |loop i =>
    obtain ⟨B,r,g1,g2,g3,g4⟩:=h0
    exact ⟨B,r,hρ.trans g1,g2,g3,fun t=>K.keep (g4 t) (hbl t)⟩
   |iter s p =>
    obtain ⟨B,g1,g2⟩:=h0
    exact ⟨B,hρ.trans g1,g2⟩
   |glob g cs ty fr=>exact ⟨hρ.trans h0.1,h0.2⟩
   |dead=>trivial
   |gone=>trivial
  ·trivial
  ·obtain ⟨B,cur,g1,g2,g3,g4⟩:=hs.blocks _ _ h3
   refine ⟨B,cur,g1,g2,h4,fun j a' hj=>?_⟩
   obtain ⟨a,ha⟩:∃ a,(flat xs)[j]? = some a:=⟨_,List.getElem?_eq_getElem (Nat.lt_of_lt_of_le (Qt hj) h5)⟩
   obtain ⟨u,k1,k2,k3⟩:=g4 j a ha
   exact ⟨u,k1,k2,K.rel (h6 j a a' ha hj) k3⟩
 ·obtain ⟨a',h1,h3,_⟩:=K.live hi hla
  obtain ⟨b',h4,h5,_⟩:=K.live hj hlb
  have h6:=hs.inj (τ i) (τ j) a' b' B h1 h4 h3 h5 hρi hρj
  rcases K.get hi with ⟨g1,_,g2,_⟩|⟨g1,_⟩
  ·rcases K.get hj with ⟨g3,_,g4,_⟩|⟨g3,_⟩
   ·omega
   ·have:=K.lo j g3 (Qt hj);omega
  ·rcases K.get hj with ⟨g3,_,g4,_⟩|⟨g3,_⟩
   ·have:=K.lo i g1 (Qt hi);omega
   ·exact K.inj i j g1 (Qt hi) g3 (Qt hj) h6
theorem Pack.ev {c0:Cx} (hn:c0.h.length=n) (hev:Ev c0 c):Ev c0 (c.pack τ h2):=by
 subst hn
 refine ⟨hev.os,hev.tape,hev.output,hev.size,K.len,hev.frame,fun id b hb=>?_,fun id B b h1 h3 hl hρ=>?_⟩
 ·obtain ⟨b',hb',hk⟩:=hev.kin id b hb
  have hi:=Qt hb
  have hρ:=K.ρ hi
  refine ⟨b',K.low hi hb',?_⟩
  cases b <;> simp only [Kin,hρ] at hk ⊢ <;> exact hk
 ·obtain ⟨b',h4,h5,_⟩:=K.live h3 hl
  rcases hev.fresh (τ id) B b' (K.lo id h1 (Qt h3)) h4 h5 hρ with h6|⟨i,ty,s,xs,a1,a2,a3⟩
  ·exact .inl h6
  ·exact .inr ⟨i,ty,s,xs,a1,a2,K.low (Qt a1) a3⟩
end
theorem Qak {P:Program} {f:FuncId} {args:List AV} {h:AH} {Q Q0:AOut→AH→Prop} (H:QJ P f args h Q0)
  (hp:(∀ (i:Nat) b,h[i]? = some b→b.Below h.length)→∀ o h',Q0 o h'→Q o h'∨∃ r r2 τ h2,o = .ret r∧Pack h.length τ h' h2∧Pk h.length τ h2 r r2∧Q (.ret r2) h2):QJ P f args h Q:=by
 refine ⟨H.1,fun F n c vals hF hs hh hvs=>(H.2 F n c vals hF hs hh hvs).mono ?_⟩
 rintro e w' ⟨o,c',hQ,hev,hst,hw,hex⟩
 rcases hp (fun i b hb=>by subst hh;exact hs.below hb) o c'.h hQ with hq|⟨r,r2,τ,h2,rfl,K,hk,hq⟩
 ·exact ⟨o,c',hq,hev,hst,hw,hex⟩
 ·obtain ⟨x,rfl,hr⟩:=hex
  exact ⟨.ret r2,c'.pack τ h2,hq,K.ev (by rw [hh]) hev,K.st hst,hw,x,rfl,K.rel hk hr⟩
end Go.Proofs.YticgcpebdldbgaaDoor.Ab
namespace Go.Proofs.YticgcpebdldbgaaDoor.Ab
mutual
def T.sz:T→Nat
 | .mk _ _ _ bs=>szs bs
def szs:List T→Nat
 |[]=>0
 |t::l=>t.sz+1+szs l
end
def T.lv (n:Nat):T→AV
 | .mk k i s bs=>.agg [.v (.int .i64 k),.v (.int .i64 i),.v (.string s),if bs.isEmpty then .v (.slice none 0 0) else .arr (n+szs bs - 1) 0 bs.length]
def lvs (n:Nat):List T→List AV
 |[]=>[]
 |t::l=>t.lv n::lvs (n+t.sz+1) l
def lsl (n:Nat) (bs:List T):AV:=if bs.isEmpty then .v (.slice none 0 0) else .arr (n+szs bs - 1) 0 bs.length
mutual
/-- the blocks of a term from n on: behind the blocks of each argument one that is dead,behind the last the row of the arguments -/
def T.lay (tt:TypeId) (n:Nat):T→AH
 | .mk _ _ _ bs=>lays tt n (.cells tt 4 (lvs n bs)) bs
def lays (tt:TypeId) (n:Nat) (r:AB):List T→AH
 |[]=>[]
 |t::l=>t.lay tt n++(if l.isEmpty then r else .dead)::lays tt (n+t.sz+1) r l
end
def layA (tt:TypeId) (n:Nat) (bs:List T):AH:=lays tt n (.cells tt 4 (lvs n bs)) bs
theorem T.Qqu (n:Nat) (t:T):t.lv n = .agg [.v (.int .i64 t.kind),.v (.int .i64 t.int),.v (.string t.name),lsl n t.args]:=by cases t;rfl
theorem T.Qqk (tt:TypeId) (n:Nat) (t:T):t.lay tt n=layA tt n t.args:=by cases t;rw [T.lay];rfl
theorem T.Qqo (t:T):t.sz=szs t.args:=by cases t;rw [T.sz];rfl
theorem T.Qqd (n:Nat) (t:T):(t.lv n).cells=[.v (.int .i64 t.kind),.v (.int .i64 t.int),.v (.string t.name),lsl n t.args]:=by rw [T.Qqu];rfl
theorem T.Qqf (n:Nat) (t:T):(t.lv n).isAgg=true:=by rw [T.Qqu];rfl
theorem QR (n:Nat) (bs:List T):(lsl n bs).cell1=true:=by unfold lsl;split <;> rfl
theorem Qd8 (n:Nat) (bs:List T):(lsl n bs).cells=[lsl n bs]:=by unfold lsl;split <;> rfl
theorem Qd9 (n:Nat) (bs:List T):(lsl n bs).isAgg=false:=by unfold lsl;split <;> rfl
theorem T.Qqi (n:Nat) (t:T):(t.lv n).cells.length=4:=by rw [T.Qqd];rfl
theorem Za:∀ (n:Nat) (l:List T),(lvs n l).length=l.length
 |_,[]=>rfl
 |n,t::l=>by rw [lvs,List.length_cons,Za];rfl
theorem Qi6:∀ (n:Nat) (l:List T),∀ y∈lvs n l,y.cells.length=4
 |_,[],y,h=>by simp [lvs] at h
 |n,t::l,y,h=>by
  rw [lvs,List.mem_cons] at h
  rcases h with rfl|h
  ·exact T.Qqi _ _
  ·exact Qi6 _ l y h
theorem YA:∀ (l m:List T),szs (l++m)=szs l+szs m
 |[],m=>by simp [szs]
 |t::l,m=>by rw [List.cons_append,szs,szs,YA l m];omega
theorem QoE (t:T):szs [t]=t.sz+1:=by simp [szs]
theorem QcN:∀ (n:Nat) (l m:List T),lvs n (l++m)=lvs n l++lvs (n+szs l) m
 |n,[],m=>by simp [lvs,szs]
 |n,t::l,m=>by
  rw [List.cons_append,lvs,lvs,QcN _ l m,szs]
  simp only [Qrr]
  rw [show n+t.sz+1+szs l=n+(t.sz+1+szs l) by omega]
mutual
theorem T.Qqc (tt:TypeId):∀ (n:Nat) (t:T),(t.lay tt n).length=t.sz
 |n,.mk _ _ _ bs=>by rw [T.lay,T.sz];exact YS tt n _ bs
theorem YS (tt:TypeId):∀ (n:Nat) (r:AB) (l:List T),(lays tt n r l).length=szs l
 |n,r,[]=>by rw [lays,szs];rfl
 |n,r,t::l=>by rw [lays,szs,List.length_append,List.length_cons,T.Qqc tt n t,YS tt _ r l];omega
end
theorem XZ (tt:TypeId) (n:Nat) (l:List T):(layA tt n l).length=szs l:=YS tt n _ l
theorem Qcd (tt:TypeId):∀ (n:Nat) (r:AB) (l:List T) (u:T),lays tt n r (l++[u])=lays tt n .dead l++(u.lay tt (n+szs l)++[r])
 |n,r,[],u=>by simp [lays,szs]
 |n,r,t::l,u=>by
  have e:(l++[u]).isEmpty=false:=by cases l <;> rfl
  rw [List.cons_append,lays,lays,Qcd tt _ r l u,e,szs]
  simp only [Qq3,if_false,ite_self,List.append_assoc,Qrr]
  rw [show n+t.sz+1+szs l=n+(t.sz+1+szs l) by omega]
theorem QaE (tt:TypeId):∀ (n:Nat) (r:AB) (l:List T) (u:T) (m:List T),lays tt n r (l++u::m)=lays tt n .dead l++lays tt (n+szs l) r (u::m)
 |n,r,[],u,m=>by simp [lays,szs]
 |n,r,t::l,u,m=>by
  have e:(l++u::m).isEmpty=false:=by cases l <;> rfl
  rw [List.cons_append,lays,QaE tt _ r l u m,e]
  conv=>rhs;rw [lays]
  rw [szs]
  simp only [Qq3,if_false,ite_self,List.append_assoc,Qrr]
  rw [show n+t.sz+1+szs l=n+(t.sz+1+szs l) by omega]
theorem QbR {l:List T} (h:l≠[]):0<szs l:=by
 cases l with
 |nil=>exact (h rfl).elim
 |cons t l=>rw [szs];omega
theorem Qhc (tt:TypeId) (n:Nat) (l:List T) (u:T):layA tt n (l++[u])=lays tt n .dead l++(u.lay tt (n+szs l)++[.cells tt 4 (lvs n l++[u.lv (n+szs l)])]):=by
 rw [layA,Qcd,QcN];rfl
theorem Qa8 (tt:TypeId) (n:Nat) (r:AB) (l:List T) (h:l≠[]):(lays tt n r l)[szs l - 1]? = some r∧(lays tt n r l).set (szs l - 1) .dead=lays tt n .dead l:=by
 obtain ⟨l,u,rfl⟩:∃ l' u,l=l'++[u]:=⟨_,_,(List.dropLast_concat_getLast h).symm⟩
 rw [Qcd,Qcd,← List.append_assoc,← List.append_assoc,YA,QoE]
 have e:szs l+(u.sz+1) - 1=(lays tt n .dead l++u.lay tt (n+szs l)).length:=by rw [List.length_append,YS,T.Qqc];omega
 rw [e]
 constructor
 ·rw [List.getElem?_append_right (Nat.le_refl _),Nat.sub_self];rfl
 ·rw [List.set_append_right _ _ (Nat.le_refl _),Nat.sub_self];rfl
theorem Qhb (tt:TypeId) (n:Nat) (l:List T) (h:l≠[]):(layA tt n l)[szs l - 1]? = some (.cells tt 4 (lvs n l))∧(layA tt n l).set (szs l - 1) .dead=lays tt n .dead l:=Qa8 tt n _ l h
theorem Qk7 {R:AV→AV→Prop}:∀ {xs ys:List AV},xs.length=ys.length→(∀ (j:Nat) x y,xs[j]? = some x→ys[j]? = some y→x.cells.length=y.cells.length∧∀ (i:Nat) a b,x.cells[i]? = some a→y.cells[i]? = some b→R a b) →
  (flat ys).length=(flat xs).length∧∀ (j:Nat) a b,(flat xs)[j]? = some a→(flat ys)[j]? = some b→R a b
 |[],[],_,_=>⟨rfl,fun j a b h=>by simp [flat] at h⟩
 |[],y::ys,h,_=>by simp at h
 |x::xs,[],h,_=>by simp at h
 |x::xs,y::ys,h,hp=>by
  obtain ⟨h1,h2⟩:=hp 0 x y rfl rfl
  obtain ⟨h3,h4⟩:=Qk7 (xs:=xs) (ys:=ys) (by simpa using h) fun j x y hx hy=>hp (j+1) x y (by simpa using hx) (by simpa using hy)
  refine ⟨by rw [Q2,Q2,List.length_append,List.length_append,h1,h3],fun j a b ha hb=>?_⟩
  rw [Q2,List.getElem?_append] at ha hb
  rw [← h1] at hb
  split at ha
  ·rename_i hj;rw [if_pos hj] at hb;exact h2 j a b ha hb
  ·rename_i hj;rw [if_neg hj] at hb;exact h4 _ a b ha hb
def At (h:AH) (n:Nat) (L:AH):Prop:=∀ (j:Nat) b,L[j]? = some b→b.live=true→h[n+j]? = some b
theorem At.mid (A L B:AH) {n:Nat} (hn:A.length=n):At (A++(L++B)) n L:=fun j b hb _=>by
 subst hn
 rw [List.getElem?_append_right (by omega),Nat.add_sub_cancel_left,List.getElem?_append_left (Qt hb)];exact hb
theorem At.left {h:AH} {n:Nat} {L M:AH} (H:At h n (L++M)):At h n L:=fun j b hb hl=>H j b (by rw [List.getElem?_append_left (Qt hb)];exact hb) hl
theorem At.right {h:AH} {n:Nat} {L M:AH} (H:At h n (L++M)) {m:Nat} (hm:m=n+L.length):At h m M:=fun j b hb hl=>by
 have:=H (L.length+j) b (by rw [List.getElem?_append_right (by omega),Nat.add_sub_cancel_left];exact hb) hl
 subst hm
 rw [Nat.add_assoc];exact this
theorem At.both {h:AH} {n:Nat} {L M:AH} (H1:At h n L) (H2:At h (n+L.length) M):At h n (L++M):=fun j b hb hl=>by
 rw [List.getElem?_append] at hb
 split at hb
 ·exact H1 j b hb hl
 ·rename_i hj
  have:=H2 _ b hb hl
  rw [show n+L.length+(j - L.length)=n+j by omega] at this
  exact this
theorem At.cons {h:AH} {n:Nat} {x:AB} {M:AH} (H1:x.live=true→h[n]? = some x) (H2:At h (n+1) M):At h n (x::M):=fun j b hb hl=>by
 cases j with
 |zero=>cases hb;exact H1 hl
 |succ j =>
  have:=H2 j b hb hl
  rw [show n+1+j=n+(j+1) by omega] at this
  exact this
theorem At.nil (h:AH) (n:Nat):At h n []:=fun j b hb=>by simp at hb
theorem At.app {h:AH} {n:Nat} {L:AH} (H:At h n L) (M:AH):At (h++M) n L:=fun j b hb hl=>by
 have:=H j b hb hl
 rw [List.getElem?_append_left (Qt this)];exact this
theorem At.get {h:AH} {n:Nat} {L:AH} (H:At h n L) {j:Nat} {b:AB} (hb:L[j]? = some b) (hl:b.live=true) {k:Nat} (hk:k=n+j):h[k]? = some b:=by subst hk;exact H j b hb hl
theorem At.all (L:AH):At L 0 L:=fun j b hb _=>by rw [Nat.zero_add];exact hb
theorem At.tail {x:AB} {L M:AH} {k:Nat} (H:At L k M):At (x::L) (k+1) M:=fun j b hb hl=>by
 have:=H j b hb hl
 rw [show k+1+j=(k+j)+1 by omega,List.getElem?_cons_succ];exact this
theorem At.off {A L M:AH} {n k:Nat} (H:At L k M) (hA:n=A.length+k) (B:AH):At (A++(L++B)) n M:=fun j b hb hl=>by
 have h1:=H j b hb hl
 have:=Qt h1
 rw [List.getElem?_append_right (by omega),List.getElem?_append_left (by omega),show n+j - A.length=k+j by omega];exact h1
theorem At.set {h:AH} {n:Nat} {L:AH} (H:At h n L) {k:Nat} {x:AB} (hk:∀ b,L[k - n]? = some b→n≤k→b.live=false):At (h.set k x) n L:=fun j b hb hl=>by
 have h1:=H j b hb hl
 rw [List.getElem?_set_ne]
 ·exact h1
 ·intro e
  have:=hk b (by rw [show k - n=j by omega];exact hb) (by omega)
  rw [this] at hl;cases hl
theorem Qi7 {tt:TypeId} {h:AH} {m:Nat} (n:Nat) (bs:List T) (hm:m≤n) (H:At h n (lays tt n (.cells tt 4 (lvs n bs)) bs))
  (hpt:(flat (avs bs)).length=(flat (lvs n bs)).length∧∀ (j:Nat) a a',(flat (lvs n bs))[j]? = some a→(flat (avs bs))[j]? = some a'→Melt h m a a'):Melt h m (lsl n bs) (.sl 4 (avs bs) none):=by
 cases bs with
 |nil=>exact .nil 4
 |cons t bs =>
  have hne:t::bs≠[]:=by simp
  have hl:=(Qa8 tt n (.cells tt 4 (lvs n (t::bs))) (t::bs) hne).1
  have hp:=QbR hne
  show Melt h m (.arr (n+szs (t::bs) - 1) 0 (t::bs).length) _
  refine .arr (by omega) (H.get hl rfl (by omega)) (Qe3 _) (fun y hy=>?_) (Nat.le_of_eq hpt.1) hpt.2
  rw [Qf0] at hy
  obtain ⟨u,_,rfl⟩:=List.mem_map.1 hy
  rw [T.Qp9];rfl
section
variable {tt:TypeId} {h:AH} {m:Nat}
mutual
theorem T.QqX:∀ (t:T) (n:Nat),m≤n→At h n (t.lay tt n)→∀ (j:Nat) a a',(t.lv n).cells[j]? = some a→t.av.cells[j]? = some a'→Melt h m a a'
 | .mk k i s bs,n,hm,H,j,a,a',h1,h2=>by
  rw [T.lay] at H
  have h3:=Qi7 n bs hm H (Qih bs n _ hm H)
  rw [T.Qqd] at h1
  rw [T.Qp9] at h2
  match j,h1,h2 with
  |0,h1,h2=>cases h1;cases h2;exact .keep (.v _)
  |1,h1,h2=>cases h1;cases h2;exact .keep (.v _)
  |2,h1,h2=>cases h1;cases h2;exact .keep (.v _)
  |3,h1,h2=>cases h1;cases h2;exact h3
  |j+4,h1,h2=>simp at h1
theorem Qih:∀ (bs:List T) (n:Nat) (r:AB),m≤n→At h n (lays tt n r bs)→(flat (avs bs)).length=(flat (lvs n bs)).length∧∀ (j:Nat) a a',(flat (lvs n bs))[j]? = some a→(flat (avs bs))[j]? = some a'→Melt h m a a'
 |[],n,r,hm,H=>⟨rfl,fun j a a' h1=>by simp [lvs,flat] at h1⟩
 |t::bs,n,r,hm,H=>by
  rw [lays] at H
  have h1:=T.QqX t n hm H.left
  have h2:At h (n+t.sz+1) (lays tt (n+t.sz+1) r bs):=by
   have:=H.right (m:=n+t.sz) (by rw [T.Qqc])
   exact At.right (L:=[if bs.isEmpty then r else .dead]) this rfl
  obtain ⟨h3,h4⟩:=Qih bs (n+t.sz+1) r (Nat.le_trans hm (by omega)) h2
  have hc:t.av.cells.length=(t.lv n).cells.length:=by rw [T.Qp9,T.Qqd];rfl
  refine ⟨by rw [avs,lvs,Q2,Q2,List.length_append,List.length_append,h3,hc],fun j a a' ha hb=>?_⟩
  rw [lvs,Q2,List.getElem?_append] at ha
  rw [avs,Q2,List.getElem?_append,hc] at hb
  split at ha
  ·rename_i hj
   rw [if_pos hj] at hb
   exact h1 j a a' ha hb
  ·rename_i hj
   rw [if_neg hj] at hb
   exact h4 _ a a' ha hb
end
theorem Qec {n:Nat} {bs:List T} (hm:m≤n) (H:At h n (layA tt n bs)):Melt h m (lsl n bs) (.sl 4 (avs bs) none):=Qi7 n bs hm H (Qih bs n _ hm H)
end
def PkB (n:Nat) (τ:Nat→Nat) (h2:AH) (b b':AB):Prop:=b' = .dead∨∃ ty s xs ys,b' = .cells ty s ys∧b = .cells ty s xs∧(∀ y∈ys,y.cells.length=s)∧(flat ys).length≤(flat xs).length ∧
  ∀ (j:Nat) a a',(flat xs)[j]? = some a→(flat ys)[j]? = some a'→Pk n τ h2 a a'
def Sh (n:Nat) (τ:Nat→Nat) (h2:AH) (m m' len:Nat):Prop:=n≤m'∧m'+len≤h2.length∧∀ j,j<len→τ (m'+j)=m+j
theorem Sh.sub {n:Nat} {τ:Nat→Nat} {h2:AH} {m m' len:Nat} (H:Sh n τ h2 m m' len) {k l:Nat} (hl:k+l≤len) {a b:Nat} (ha:a=m+k) (hb:b=m'+k):Sh n τ h2 a b l:=by
 subst ha;subst hb
 obtain ⟨h1,h3,h4⟩:=H
 exact ⟨by omega,by omega,fun j hj=>by rw [Nat.add_assoc,h4 _ (by omega),Nat.add_assoc]⟩
theorem Qjg {n:Nat} {τ:Nat→Nat} {h2:AH} {m m':Nat} {bs:List T} (H:Sh n τ h2 m m' (szs bs)):Pk n τ h2 (lsl m bs) (lsl m' bs):=by
 unfold lsl
 cases bs with
 |nil=>exact .keep (.v _)
 |cons t bs =>
  have hp:0<szs (t::bs):=QbR (by simp)
  obtain ⟨h1,h3,h4⟩:=H
  refine .arr ?_ (by omega) (by omega)
  have:=h4 (szs (t::bs) - 1) (by omega)
  rw [show m'+szs (t::bs) - 1=m'+(szs (t::bs) - 1) by omega,this];omega
theorem T.Qql {n:Nat} {τ:Nat→Nat} {h2:AH} {m m':Nat} {t:T} (H:Sh n τ h2 m m' t.sz):∀ (j:Nat) a a',(t.lv m).cells[j]? = some a→(t.lv m').cells[j]? = some a'→Pk n τ h2 a a':=by
 intro j a a' h1 h3
 rw [T.Qqd] at h1 h3
 match j,h1,h3 with
 |0,h1,h3=>cases h1;cases h3;exact .keep (.v _)
 |1,h1,h3=>cases h1;cases h3;exact .keep (.v _)
 |2,h1,h3=>cases h1;cases h3;exact .keep (.v _)
 |3,h1,h3=>cases h1;cases h3;exact Qjg (by rw [← T.Qqo];exact H)
 |j+4,h1,h3=>simp at h1
theorem T.pk {n:Nat} {τ:Nat→Nat} {h2:AH} {m m':Nat} {t:T} (H:Sh n τ h2 m m' t.sz):Pk n τ h2 (t.lv m) (t.lv m'):=by
 have:=T.Qql H
 rw [T.Qqd,T.Qqd] at this
 rw [T.Qqu,T.Qqu]
 exact .agg rfl this
theorem QlT {n:Nat} {τ:Nat→Nat} {h2:AH}:∀ {m m':Nat} {bs:List T},Sh n τ h2 m m' (szs bs)→(flat (lvs m' bs)).length=(flat (lvs m bs)).length∧∀ (j:Nat) a a',(flat (lvs m bs))[j]? = some a→(flat (lvs m' bs))[j]? = some a'→Pk n τ h2 a a'
 |m,m',[],H=>⟨rfl,fun j a a' h1=>by simp [lvs,flat] at h1⟩
 |m,m',t::bs,H=>by
  rw [szs] at H
  have h1:=T.Qql (H.sub (k:=0) (l:=t.sz) (by omega) rfl rfl)
  obtain ⟨h3,h4⟩:=QlT (bs:=bs) (H.sub (k:=t.sz+1) (l:=szs bs) (a:=m+t.sz+1) (b:=m'+t.sz+1) (by omega) (by omega) (by omega))
  have hc:(t.lv m').cells.length=(t.lv m).cells.length:=by rw [T.Qqi,T.Qqi]
  refine ⟨by rw [lvs,lvs,Q2,Q2,List.length_append,List.length_append,h3,hc],fun j a a' ha hb=>?_⟩
  rw [lvs,Q2,List.getElem?_append] at ha hb
  rw [hc] at hb
  split at ha
  ·rename_i hj
   rw [if_pos hj] at hb
   exact h1 j a a' ha hb
  ·rename_i hj
   rw [if_neg hj] at hb
   exact h4 _ a a' ha hb
theorem Qix {n:Nat} {τ:Nat→Nat} {h2:AH} {tt:TypeId} {m m':Nat} {bs:List T} (H:Sh n τ h2 m m' (szs bs)):PkB n τ h2 (.cells tt 4 (lvs m bs)) (.cells tt 4 (lvs m' bs)) :=
 .inr ⟨tt,4,_,_,rfl,rfl,Qi6 _ _,Nat.le_of_eq (QlT H).1,(QlT H).2⟩
mutual
theorem T.pkB {n:Nat} {τ:Nat→Nat} {h2:AH} {tt:TypeId}:∀ {m m':Nat} (t:T),Sh n τ h2 m m' t.sz→∀ (j:Nat) b b',(t.lay tt m)[j]? = some b→(t.lay tt m')[j]? = some b'→PkB n τ h2 b b'
 |m,m',.mk k i s bs,H,j,b,b',h1,h3=>by
  rw [T.sz] at H
  rw [T.lay] at h1 h3
  exact Qdy bs (Qix H) H j b b' h1 h3
theorem Qdy {n:Nat} {τ:Nat→Nat} {h2:AH} {tt:TypeId} {r r':AB}:∀ {m m':Nat} (bs:List T),PkB n τ h2 r r'→Sh n τ h2 m m' (szs bs)→∀ (j:Nat) b b',(lays tt m r bs)[j]? = some b→(lays tt m' r' bs)[j]? = some b'→PkB n τ h2 b b'
 |m,m',[],hr,H,j,b,b',h1,h3=>by simp [lays] at h1
 |m,m',t::bs,hr,H,j,b,b',h1,h3=>by
  rw [szs] at H
  rw [lays,List.getElem?_append,T.Qqc] at h1 h3
  split at h1
  ·rename_i hj
   rw [if_pos hj] at h3
   exact T.pkB t (H.sub (k:=0) (l:=t.sz) (by omega) rfl rfl) j b b' h1 h3
  ·rename_i hj
   rw [if_neg hj] at h3
   cases hk:j - t.sz with
   |zero =>
    rw [hk,List.getElem?_cons_zero] at h1 h3
    cases h1;cases h3
    split
    ·exact hr
    ·exact .inl rfl
   |succ k =>
    rw [hk,List.getElem?_cons_succ] at h1 h3
    exact Qdy bs hr (H.sub (k:=t.sz+1) (l:=szs bs) (a:=m+t.sz+1) (b:=m'+t.sz+1) (by omega) (by omega) (by omega)) k b b' h1 h3
end
theorem Qjc {A N L':AH} {n:Nat} {τ:Nat→Nat} (hn:A.length=n) (hb:∀ b∈A,b.Below n) (hid:∀ i,i<n→τ i=i) (hlo:∀ i,n≤i→i<n+L'.length→n≤τ i)
  (hin:∀ i j,n≤i→i<n+L'.length→n≤j→j<n+L'.length→τ i=τ j→i=j)
  (hB:∀ (j:Nat) b',L'[j]? = some b'→b' = .dead∨∃ b,(A++N)[τ (n+j)]? = some b∧PkB n τ (A++L') b b'):Pack n τ (A++N) (A++L'):=by
 have hl:(A++L').length=n+L'.length:=by rw [List.length_append,hn]
 refine ⟨by omega,by rw [List.length_append];omega,hid,fun i hi=>?_,fun i b hi hg=>?_,fun i h1 h3=>hlo i h1 (by omega),fun i j h1 h2 h3 h4 he=>hin i j h1 (by omega) h3 (by omega) he,fun i b h1 hg=>?_⟩
 ·rw [List.getElem?_append_left (by omega),List.getElem?_append_left (by omega)]
 ·rw [List.getElem?_append_left (by omega)] at hg
  exact hb b (List.mem_of_getElem? hg)
 ·rw [List.getElem?_append_right (by omega),hn] at hg
  rcases hB (i - n) b hg with h3|⟨b0,h3,h4⟩
  ·exact .inl h3
  ·rw [show n+(i - n)=i by omega] at h3
   rcases h4 with h4|⟨ty,s,xs,ys,rfl,rfl,h5,h6,h7⟩
   ·exact .inl h4
   ·exact .inr ⟨ty,s,xs,ys,rfl,h3,h5,h6,h7⟩
def tauG (n g:Nat):Nat→Nat:=fun i=>if i<n then i else i+g
theorem shG {A L':AH} {n:Nat} (hn:A.length=n) (g:Nat):Sh n (tauG n g) (A++L') (n+g) n L'.length :=
 ⟨Nat.le_refl _,by rw [List.length_append];omega,fun j hj=>by unfold tauG;rw [if_neg (by omega)];omega⟩
theorem QfD {A N C L':AH} {n g:Nat} (hn:A.length=n) (hb:∀ b∈A,b.Below n) (hC:C.length=L'.length) (hN:At N g C)
  (hP:Sh n (tauG n g) (A++L') (n+g) n L'.length→∀ (j:Nat) b b',C[j]? = some b→L'[j]? = some b'→PkB n (tauG n g) (A++L') b b') (hlive:∀ (j:Nat) b b',C[j]? = some b→L'[j]? = some b'→b.live=false→b' = .dead):Pack n (tauG n g) (A++N) (A++L'):=by
 refine Qjc hn hb (fun i hi=>by unfold tauG;rw [if_pos hi]) (fun i h1 _=>by unfold tauG;rw [if_neg (by omega)];omega) (fun i j h1 _ h3 _ he=>?_) fun j b' hj=>?_
 ·unfold tauG at he
  rw [if_neg (by omega),if_neg (by omega)] at he
  omega
 ·obtain ⟨b,hb1⟩:∃ b,C[j]? = some b:=⟨_,List.getElem?_eq_getElem (by have:=Qt hj;omega)⟩
  cases hl:b.live with
  |false=>exact .inl (hlive j b b' hb1 hj hl)
  |true =>
   refine .inr ⟨b,?_,hP (shG hn g) j b b' hb1 hj⟩
   have:=hN j b hb1 hl
   unfold tauG
   rw [if_neg (by omega),List.getElem?_append_right (by omega),show n+j+g - A.length=g+j by omega];exact this
mutual
theorem T.Qqq {tt:TypeId}:∀ {m m':Nat} (t:T) (j:Nat) (b b':AB),(t.lay tt m)[j]? = some b→(t.lay tt m')[j]? = some b'→b.live=false→b' = .dead
 |m,m',.mk k i s bs,j,b,b',h1,h2,hl=>by
  rw [T.lay] at h1 h2
  exact Qd6 bs (fun h=>by cases h) j b b' h1 h2 hl
theorem Qd6 {tt:TypeId} {r r':AB}:∀ {m m':Nat} (bs:List T),(r.live=false→r' = .dead)→∀ (j:Nat) (b b':AB),(lays tt m r bs)[j]? = some b→(lays tt m' r' bs)[j]? = some b'→b.live=false→b' = .dead
 |m,m',[],hr,j,b,b',h1,h2,hl=>by simp [lays] at h1
 |m,m',t::bs,hr,j,b,b',h1,h2,hl=>by
  rw [lays,List.getElem?_append,T.Qqc] at h1 h2
  split at h1
  ·rename_i hj
   rw [if_pos hj] at h2
   exact T.Qqq t j b b' h1 h2 hl
  ·rename_i hj
   rw [if_neg hj] at h2
   cases hk:j - t.sz with
   |zero =>
    rw [hk,List.getElem?_cons_zero] at h1 h2
    cases h1;cases h2
    split
    ·rename_i he
     rw [if_pos he] at hl
     exact hr hl
    ·rfl
   |succ k =>
    rw [hk,List.getElem?_cons_succ] at h1 h2
    exact Qd6 bs hr k b b' h1 h2 hl
end
theorem Qha {tt:TypeId} {m m':Nat} (bs:List T) (j:Nat) (b b':AB) (h1:(layA tt m bs)[j]? = some b) (h2:(layA tt m' bs)[j]? = some b') (hl:b.live=false):b' = .dead:=Qd6 bs (fun h=>by cases h) j b b' h1 h2 hl
theorem Qni {tt:TypeId} {A N:AH} {n:Nat} (hn:A.length=n) (hb:∀ b∈A,b.Below n) (g:Nat) (bs:List T) (hN:At N g (layA tt (n+g) bs)) :
  Pack n (tauG n g) (A++N) (A++layA tt n bs)∧Pk n (tauG n g) (A++layA tt n bs) (lsl (n+g) bs) (lsl n bs):=by
 have hsh:=shG (L':=layA tt n bs) hn g
 rw [XZ] at hsh
 refine ⟨QfD hn hb (by rw [XZ,XZ]) hN (fun h j b b' h1 h2=>Qdy bs (Qix hsh) hsh j b b' h1 h2) (fun j b b' h1 h2 hl=>Qha bs j b b' h1 h2 hl),Qjg hsh⟩
theorem QpY {tt:TypeId} {A N:AH} {n:Nat} (hn:A.length=n) (hb:∀ b∈A,b.Below n) (g:Nat) (t:T) (hN:At N g (t.lay tt (n+g))) :
  Pack n (tauG n g) (A++N) (A++t.lay tt n)∧Pk n (tauG n g) (A++t.lay tt n) (t.lv (n+g)) (t.lv n):=by
 have hsh:=shG (L':=t.lay tt n) hn g
 rw [T.Qqc] at hsh
 rw [T.Qqk] at hN
 have:=Qni (tt:=tt) hn hb g t.args hN
 rw [← T.Qqk] at this
 exact ⟨this.1,T.pk hsh⟩
end Go.Proofs.YticgcpebdldbgaaDoor.Ab
namespace Go.Proofs.YticgcpebdldbgaaDoor.Ab
def smap (l:List (ByteArray×AV)):List (Value×AV):=l.map fun p=>(.string p.1,p.2)
def sget (x:ByteArray):List (ByteArray×AV)→Option AV
 |[]=>none
 |p::l=>if x=p.1 then some p.2 else sget x l
def supd (x:ByteArray) (v:AV):List (ByteArray×AV)→List (ByteArray×AV)
 |[]=>[(x,v)]
 |p::l=>if x=p.1 then (x,v)::l else p::supd x v l
theorem QoS (a b:ByteArray):(a==b)=decide (a=b):=by
 have h:(a==b)=true↔a=b:=by
  obtain ⟨x⟩:=a
  obtain ⟨y⟩:=b
  constructor
  ·intro h
   have e:x=y:=by simpa using (show (x==y)=true from h)
   rw [e]
  ·intro h
   cases h
   show (x==x)=true
   simp
 by_cases e:a=b
 ·rw [decide_eq_true e];exact h.2 e
 ·rw [decide_eq_false e]
  cases hb:a==b with
  |false=>rfl
  |true=>exact (e (h.1 hb)).elim
theorem Qjl (a b:ByteArray):Instr.sameNow .string (.string a) (.string b)=some (decide (a=b)):=by
 rw [← QoS];rfl
theorem QgZ (x:ByteArray):∀ l:List (ByteArray×AV),Qf8 .string (.string x) (smap l)=some (sget x l)
 |[]=>rfl
 |p::l=>by
  have e:smap (p::l)=(.string p.1,p.2)::smap l:=rfl
  rw [e]
  simp only [Qf8,sget,Qjl]
  by_cases hk:x=p.1
  ·simp only [hk,Qrv,if_true]
  ·simp only [hk,Qrw,if_false];exact QgZ x l
theorem Qjq (x:ByteArray) (v:AV):∀ l:List (ByteArray×AV),updA .string (.string x) v (smap l)=some (smap (supd x v l))
 |[]=>rfl
 |p::l=>by
  have e:smap (p::l)=(.string p.1,p.2)::smap l:=rfl
  rw [e]
  simp only [updA,supd,Qjl]
  by_cases hk:x=p.1
  ·simp only [hk,Qrv,if_true];rfl
  ·simp only [hk,Qrw,if_false,Qjq x v l];rfl
theorem QhA (x y:ByteArray) (v:AV):∀ l:List (ByteArray×AV),sget y (supd x v l)=if y=x then some v else sget y l
 |[]=>rfl
 |p::l=>by
  simp only [supd]
  split
  ·rename_i h
   subst h
   simp only [sget]
   split <;> rfl
  ·rename_i h
   simp only [sget,QhA x y v l]
   by_cases hy:y=p.1
   ·rw [if_pos hy,if_pos hy,if_neg (by rintro rfl;exact h hy)]
   ·rw [if_neg hy,if_neg hy]
theorem Qkd (l:List (ByteArray×AV)) (n:Nat) (h:∀ p∈l,Below n p.2):(AB.map (smap l)).Below n:=by
 intro kv hkv
 simp only [smap,List.mem_map] at hkv
 obtain ⟨p,hp,rfl⟩:=hkv
 exact h p hp
end Go.Proofs.YticgcpebdldbgaaDoor.Ab
namespace Go.Proofs.YticgcpebdldbgaaDoor.Ab
open Go.ChangeShapes Go.WideShapes Go.ChangeAt Go.RowKit
def base0 (W:World):Cx:=⟨fun _=>none,[],W⟩
theorem QaO {H:Type} {enc:TypeId×Value→H} {P:Program} (hl:laidOutB P=true) {W W':World} (hb:Go.RowKit.Below W.heap.size W W') {sp:Nat→Bool} :
  ∀ (ts:List TypeId) (vs:List Value) (ds:List (DataW H)) (ps:List MemPlace),(∀ t∈ts,P.readableRec t=true∧t<P.types.size)→DataW.TrodAll enc P W 0 (fun _=>true) true ts vs ds ps →
   (∀ x∈ps,x.block<W.heap.size∧sp x.block=true)→DataW.TrodAll enc P W' 0 sp true ts vs ds ps
 |[],vs,ds,ps,_,h,_=>by
  obtain ⟨rfl,rfl,rfl⟩:=trodAll_nil h
  exact trodAll_mk0
 |t::ts,vs,ds,ps,hp,h,hlt=>by
  obtain ⟨v,vs',d,ds',p,q,rfl,rfl,rfl,h1,h2⟩:=trodAll_cons h
  obtain ⟨h3,h4⟩:=hp t (by simp)
  exact trodAll_cons_mk (WideElems.Trod_stays hl h3 h4 h1 (fun x hx=>hb.same (hlt x (by simp [hx])).1) (fun x hx=>(hlt x (by simp [hx])).2))
   (QaO hl hb ts vs' ds' q (fun t ht=>hp t (by simp [ht])) h2 (fun x hx=>hlt x (by simp [hx])))
theorem Qdg {H:Type} {enc:TypeId×Value→H} {P:Program} {W:World} {base:Nat} {sp:Nat→Bool} {held:Bool} :
  ∀ {ts:List TypeId} {vs:List Value} {ds:List (DataW H)} {ps:List MemPlace} {ts':List TypeId} {vs':List Value} {ds':List (DataW H)} {ps':List MemPlace},
   DataW.TrodAll enc P W base sp held ts vs ds ps→DataW.TrodAll enc P W base sp held ts' vs' ds' ps'→DataW.TrodAll enc P W base sp held (ts++ts') (vs++vs') (ds++ds') (ps++ps')
 |[],_,_,_,_,_,_,_,h,h'=>by
  obtain ⟨rfl,rfl,rfl⟩:=trodAll_nil h
  exact h'
 |t::ts,_,_,_,_,_,_,_,h,h'=>by
  obtain ⟨v,vs',d,ds',p,q,rfl,rfl,rfl,h1,h2⟩:=trodAll_cons h
  have:=trodAll_cons_mk h1 (Qdg h2 h')
  simpa [List.append_assoc] using this
theorem Qj5 {H:Type} {enc:TypeId×Value→H} {P:Program} {fn:Func} {s:ChangeSpec} {apart fresh handsOn again:Bool} {W W':World} {args:Array Value} {ds gs:List (DataW H)} {before:List MemPlace} {tb:TypeId}
  (hl:laidOutB P=true) (hvars:s.vars=[]) (hr:fn.resultTypes=#[tb]) (hb:P.underlying tb=some .bool) (hp:∀ t∈fn.params.toList,P.readableRec t=true∧t<P.types.size)
  (hW:DataW.Whole enc P fn.params.toList s.vars apart W args.toList ds gs before) (hs:s.fn H (ds++gs)={results:=[.lit (.bool true)],args:=ds}) (hbel:Go.RowKit.Below W.heap.size W W') :
  s.post enc P fn apart fresh handsOn again W args (.bool true) W':=by
 have hlt:∀ x∈before,x.block<W.heap.size:=fun x hx=>by simpa using hW.lt x hx
 have hW0:=hW
 obtain ⟨p,q,hA,hV,rfl,hfz,hnd⟩:=hW
 rw [hvars] at hV
 have hV0:=hV
 obtain ⟨rfl,rfl⟩:=trodVars_none hV
 simp only [Qrs] at hlt hfz hnd hW0 hs
 have hres:∀ (b:Nat) (sp:Nat→Bool) (hd:Bool),DataW.TrodAll enc P W' b sp hd fn.resultTypes.toList ((Value.bool true).resultList fn.resultTypes.size) [.lit (.bool true)] []:=fun b sp hd=>by
  rw [hr]
  exact trodAll_mk1 (shut_bool hb true)
 have hvs:∀ sp:Nat→Bool,DataW.TrodVars enc P W' sp s.vars [] []:=fun sp=>by rw [hvars];rfl
 refine ⟨ds,[],p,[],p,[],by simpa using hW0,?_,?_,?_,?_,fun _=>⟨?_,?_⟩⟩
 ·rw [List.append_nil,hs];exact hres _ _ _
 ·rw [List.append_nil,hs]
  exact QaO hl hbel _ _ _ _ hp hA fun x hx=>⟨hlt x hx,by simpa using hlt x hx⟩
 ·rw [List.append_nil,hs];exact hvs _
 ·exact hbel.frame _
 ·intro j t r hj hv
  rw [hr] at hj hv
  match j,hj,hv with
  |0,hj,hv =>
   simp only [Qq2,QqZ,Qq5] at hj
   have hv':r = .bool true:=by
    have:(some (Value.bool true))=some r:=hv
    cases this;rfl
   subst hj;subst hv'
   exact okWide_bool_mk hb true
  |j+1,hj,hv=>simp at hj
 ·have hA':=QaO (sp:=fun _=>true) hl hbel _ _ _ _ hp hA fun x hx=>⟨hlt x hx,rfl⟩
  refine ⟨_,[],[]++p,⟨[]++p,[],Qdg (hres 0 _ true) hA',hvs _,by simp,?_,?_⟩,?_⟩
  ·intro b off hm
   have hm':MemPlace.cell b off∈p:=by simpa using hm
   exact (hbel.frozen (p:=⟨b,off,none⟩) (hlt _ hm')).trans (hfz b off hm')
  ·intro ha
   simpa using hnd ha
  ·intro x hx _
   simpa using hx
theorem Qnp (c:Cx):RelL c [] #[]:=⟨rfl,fun j a u h=>by simp at h⟩
theorem Ql5 {c:Cx} {a:AV} {asx:List AV} {u:Value} {us:List Value} (h:Rel c a u) (hs:RelL c asx us.toArray):RelL c (a::asx) (u::us).toArray:=by
 refine ⟨by have:=hs.1;simp at this ⊢;exact this,fun j x v hx hv=>?_⟩
 cases j with
 |zero=>simp at hx hv;subst hx;subst hv;exact h
 |succ j=>exact hs.2 j x v (by simpa using hx) (by simpa using hv)
end Go.Proofs.YticgcpebdldbgaaDoor.Ab
namespace Go.Proofs.YticgcpebdldbgaaDoor.Ab
open Go.RowKit
def HasG (h:AH) (g:Nat) (cs:Array Value):Prop:=∃ (i:Nat) (ty:TypeId) (fr:Nat×Nat),h[i]? = some (.glob g cs ty fr)
theorem HasG.app {h:AH} {g:Nat} {cs:Array Value} (H:HasG h g cs) (l:AH):HasG (h++l) g cs:=let ⟨i,ty,fr,e⟩:=H;⟨i,ty,fr,hext e l⟩
theorem HasG.world {c:Cx} (hst:St c) {g:Nat} {cs:Array Value} (H:HasG c.h g cs):∃ ty fr,c.w.heap[g]? = some (.cells cs ty fr) :=
 let ⟨i,ty,fr,e⟩:=H;⟨ty,fr,(hst.blocks i _ e).2⟩
theorem HasG.kin {c c':Cx} (hev:Ev c c') {g:Nat} {cs:Array Value} (H:HasG c.h g cs):HasG c'.h g cs:=by
 obtain ⟨i,ty,fr,e⟩:=H
 obtain ⟨b',hb,hk⟩:=hev.kin i _ e
 simp only [Kin] at hk
 obtain ⟨rfl,_⟩:=hk
 exact ⟨i,ty,fr,hb⟩
structure GV where
 g:Nat
 cs:Array Value
 ty:TypeId
 fr:Nat×Nat
def GV.blk (x:GV):AB:=.glob x.g x.cs x.ty x.fr
def QdO (W:World) (gs:List GV):Cx:=⟨fun id=>(gs[id]?).map (·.g),gs.map GV.blk,W⟩
theorem QaW {W:World} {gs:List GV} {id:Nat} {b:AB} (h:(QdO W gs).h[id]? = some b):∃ x,gs[id]? = some x∧b=x.blk∧(QdO W gs).ρ id=some x.g:=by
 simp only [QdO,List.getElem?_map,Option.map_eq_some_iff] at h ⊢
 obtain ⟨x,hx,rfl⟩:=h
 exact ⟨x,hx,rfl,x,hx,rfl⟩
theorem QlF {l:List Nat} (hn:l.Nodup) {i j a:Nat} (hi:l[i]? = some a) (hj:l[j]? = some a):i=j:=by
 have hp:=List.pairwise_iff_getElem.1 hn
 obtain ⟨li,ei⟩:=List.getElem?_eq_some_iff.1 hi
 obtain ⟨lj,ej⟩:=List.getElem?_eq_some_iff.1 hj
 rcases Nat.lt_trichotomy i j with h|h|h
 ·exact absurd (ei.trans ej.symm) (hp i j li lj h)
 ·exact h
 ·exact absurd (ej.trans ei.symm) (hp j i lj li h)
theorem Qny {W:World} {gs:List GV} (hw:∀ x∈gs,W.heap[x.g]? = some (.cells x.cs x.ty x.fr)) (hn:(gs.map (·.g)).Nodup):St (QdO W gs):=by
 refine ⟨fun id b h=>?_,fun i j a b B hi hj _ _ hρi hρj=>?_⟩
 ·obtain ⟨x,hx,rfl,hρ⟩:=QaW h
  exact ⟨hρ,hw x (List.mem_of_getElem? hx)⟩
 ·obtain ⟨x,hx,rfl,hρ⟩:=QaW hi
  obtain ⟨y,hy,rfl,hρ'⟩:=QaW hj
  have e:x.g=y.g:=(Option.some.inj (hρ.symm.trans hρi)).trans (Option.some.inj (hρ'.symm.trans hρj)).symm
  have e1:(gs.map (·.g))[i]? = some x.g:=by rw [List.getElem?_map,hx];rfl
  have e2:(gs.map (·.g))[j]? = some x.g:=by rw [List.getElem?_map,hy,e];rfl
  exact QlF hn e1 e2
theorem QgP {W:World} {gs:List GV} {c:Cx} (hw:∀ x∈gs,W.heap[x.g]? = some (.cells x.cs x.ty x.fr)) (hst:St c) (h:Ev (QdO W gs) c):Go.RowKit.Below W.heap.size W c.w:=by
 refine ⟨h.os,h.tape,h.output,h.size,fun k hk=>?_⟩
 by_cases ho:(QdO W gs).owns k
 ·obtain ⟨id,b,hb,_,hρ⟩:=ho
  obtain ⟨x,hx,rfl,hρ'⟩:=QaW hb
  obtain rfl:=Option.some.inj (hρ.symm.trans hρ')
  obtain ⟨b',hb',hk'⟩:=h.kin id _ hb
  simp only [GV.blk,Kin] at hk'
  obtain ⟨rfl,_⟩:=hk'
  rw [(hst.blocks id _ hb').2,hw x (List.mem_of_getElem? hx)]
 ·exact h.frame k hk ho
theorem Ql6 {W:World} {gs:List GV} {a:AV} {u:Value} (h:Rel (base0 W) a u):Rel (QdO W gs) a u:=by
 have hp:∀ {B o:Nat} {u:Value},(base0 W).cellP B o u→(QdO W gs).cellP B o u:=fun {B o u} h=>⟨h.1,h.2.1,fun id b hb hl hρ=>.inr (by
  obtain ⟨x,_,rfl,_⟩:=QaW hb
  exact ⟨_,_,_,_,rfl⟩)⟩
 induction h with
 |v x=>exact .v x
 |junk x=>exact .junk x
 |agg l cs hl h ih=>exact .agg l cs hl ih
 |tup l cs hl h ih=>exact .tup l cs hl ih
 |slnil s own ht=>exact .slnil s own fun b hb=>absurd (ht b hb).1 (by simp [base0])
 |slzero s own ba ht=>exact .slzero s own ba fun b hb=>absurd (ht b hb).1 (by simp [base0])
 |sl s xs own B o cap f hs hcap hmax hc hr ht ih=>exact .sl s xs own B o cap f hs hcap hmax (fun j a hj=>⟨hp (hc j a hj).1,(hc j a hj).2⟩) ih fun b hb=>absurd (ht b hb).1.1 (by simp [base0])
 |pin s xs k off B o f hs hc hr ih=>exact .pin s xs k off B o f hs (fun j a hj=>⟨hp (hc j a hj).1,(hc j a hj).2⟩) ih
 |ptr id k off x hid=>exact absurd hid (by simp [base0])
 |arr id lo len x hid=>exact absurd hid (by simp [base0])
 |row id lo len cap x hid=>exact absurd hid (by simp [base0])
 |mp id x hid=>exact absurd hid (by simp [base0])
 |fn f first cap vs ws h1 h2 hv hw ihv ihw=>exact .fn f first cap vs ws h1 h2 ihv ihw
 |ifc t a u h ih=>exact .ifc t a u ih
 |spt s xs own p n k h ih=>exact .spt s xs own p n k ih
theorem Qj8 {W:World} {gs:List GV} {asx:List AV} {args:Array Value} (h:RelL (base0 W) asx args):RelL (QdO W gs) asx args:=⟨h.1,fun j a u e1 e2=>Ql6 (h.2 j a u e1 e2)⟩
theorem QjR {P:Program} {f:FuncId} {asx:List AV} {W:World} {args:Array Value} {gs:List GV} (hw:∀ x∈gs,W.heap[x.g]? = some (.cells x.cs x.ty x.fr)) (hn:(gs.map (·.g)).Nodup)
  (hc:QJ P f asx (gs.map GV.blk) fun o h'=>o = .ret (.v (.bool true))∧h'=gs.map GV.blk) (hr:RelL (QdO W gs) asx args) :
  Calls P f args W fun e W'=>e = .returned (.bool true)∧Go.RowKit.Below W.heap.size W W':=by
 refine callsIn_wide.1 ((hc.2 Fence.wide 0 (QdO W gs) args WF.wide (Qny hw hn) rfl hr).mono ?_)
 rintro e w' ⟨o,c',⟨rfl,hh⟩,hev,hst,rfl,hend⟩
 obtain ⟨x,rfl,hx⟩:=hend
 cases hx
 exact ⟨rfl,QgP hw hst hev⟩
theorem Qm5 {P:Program} {W:World} {l:List (String×DataW Unit)} (h:laidMetH P l W) {x:String×DataW Unit} (hf:((l.filter fun x=>x.2.handleName?.isNone).filter fun y=>y.1==x.1)=[x]):laidMet P [x] W:=by
 have:=(laidMetH_iff.1 h).1.filter fun y=>y.1==x.1
 rwa [hf] at this
theorem Qmq {P:Program} {W:World} {nm:String} {g:Nat} {cs:Array Value} (hn:P.globalNamed nm=some g) (h:W.var? P nm=some cs):∃ ty fr,W.heap[g]? = some (.cells cs ty fr):=by
 simp only [World.var?,hn,Qq4] at h
 split at h
 ·rename_i cs' ty fr e
  cases h
  exact ⟨ty,fr,e⟩
 ·cases h
end Go.Proofs.YticgcpebdldbgaaDoor.Ab
namespace Go.Proofs.YticgcpebdldbgaaDoor.Ab
def Qo2 (l:Nat) (J:Act→World→Prop) (Q:Exit→Act→World→Prop):Exit→Act→World→Prop
 | .goto l',a,w=>l'=l∧J a w
 |e,a,w=>Q e a w
theorem Qdp {F:Fence} {n:Nat} {P:Program} {Q:Exit→Act→World→Prop} {a:Act} {w:World} {c rest:Code} (l:Nat) (J:Nat→Act→World→Prop) (hf:findLabel c l=some rest)
  (first:c.wpIn F n P (Qo2 l (fun a w=>∃ m,J m a w) Q) a w) (pass:∀ m a w,J m a w→rest.wpIn F n P (Qo2 l (fun a w=>∃ m',m'<m∧J m' a w) Q) a w):(Code.scope c).wpIn F n P Q a w:=by
 intro b k cs hro hb hr
 have h0:(lone (b.atR a (.code (.scope c)::k)) cs w).fenced P F:=fenced_calm hb hr rfl
 have hg:gotoIn l (.inScope c::k)=some (.code rest :: .inScope c::k):=by simp [gotoIn,hf]
 have hx:∀ id,exitTo id (.inScope c::k)=exitTo id k:=fun id=>by simp [exitTo]
 have key:∀ (M m:Nat) a w,m<M→J m a w→∃ e a' w',Q e a' w'∧ArrivesIn (fun x=>x.fenced P F) P (lone (b.atR a (.code rest :: .inScope c::k)) cs w) b k cs e a' w':=by
  intro M
  induction M with
  |zero=>intro m a w hm;omega
  |succ M ih =>
   intro m a w hm hJ
   obtain ⟨e,a₁,w₁,hq,harr⟩:=pass m a w hJ b (.inScope c::k) cs hro hb hr
   cases e with
   |normal=>exact ⟨.normal,a₁,w₁,hq,StepsIn.trans harr (.one (fenced_calm hb hr rfl) QaN)⟩
   |exit id=>exact ⟨.exit id,a₁,w₁,hq,fun k' hk=>harr.1 k' (by rw [hx];exact hk),fun hr' hk=>harr.2 hr' (by rw [hx];exact hk)⟩
   |goto l' =>
    obtain ⟨rfl,m',hlt,hJ'⟩:=hq
    obtain ⟨e₂,a₂,w₂,hq₂,harr₂⟩:=ih m' a₁ w₁ (by omega) hJ'
    exact ⟨e₂,a₂,w₂,hq₂,.of_steps (harr.1 _ hg) harr₂⟩
   |ret=>exact ⟨_,a₁,w₁,hq,harr⟩
   |panic ch=>exact ⟨_,a₁,w₁,hq,harr⟩
   |outgrown=>exact ⟨_,a₁,w₁,hq,harr⟩
 obtain ⟨e,a₁,w₁,hq,harr⟩:=first b (.inScope c::k) cs hro hb hr
 cases e with
 |normal=>exact ⟨.normal,a₁,w₁,hq,.head h0 XI (StepsIn.trans harr (.one (fenced_calm hb hr rfl) QaN))⟩
 |exit id =>
  exact ⟨.exit id,a₁,w₁,hq,fun k' hk=>.head h0 XI (harr.1 k' (by rw [hx];exact hk)),
   fun hr' hk=>let ⟨k₁,h1,h2⟩:=harr.2 hr' (by rw [hx];exact hk);⟨k₁,h1,.head h0 XI h2⟩⟩
 |goto l' =>
  obtain ⟨rfl,m,hJ'⟩:=hq
  obtain ⟨e₂,a₂,w₂,hq₂,harr₂⟩:=key (m+1) m a₁ w₁ (by omega) hJ'
  exact ⟨e₂,a₂,w₂,hq₂,.of_steps (.head h0 XI (harr.1 _ hg)) harr₂⟩
 |ret=>exact ⟨_,a₁,w₁,hq,.of_steps (.one h0 XI) harr⟩
 |panic ch=>exact ⟨_,a₁,w₁,hq,.of_steps (.one h0 XI) harr⟩
 |outgrown=>exact ⟨_,a₁,w₁,hq,.of_steps (.one h0 XI) harr⟩
def ZR (P:Program) (N l:Nat) (J:AS→Prop) (code:Code) (Q:AExit→AS→Prop) (s:AS):Prop :=
 ∀ (F:Fence) (n:Nat) (base:Bs) (c:Cx) (a:Act),WF F→St c→SR N (base,F) c s a →
  ∀ R:Exit→Act→World→Prop,(∀ e s' c' a' e',Q e s'→Ev c c'→St c'→SR N (base,F) c' s' a'→ExC c' e e'→R e' a' c'.w) →
   (∀ s' c' a',J s'→Ev c c'→St c'→SR N (base,F) c' s' a'→R (.goto l) a' c'.w)→code.wpIn F n P R a c.w
section
variable {P:Program} {N l:Nat} {J:AS→Prop} {Q:AExit→AS→Prop} {s:AS}
theorem QcF {x:Code} (h:XF P N x Q s):ZR P N l J x Q s:=fun F n base c a hF hs hr R hR _=>h F n base c a hF hs hr R hR
theorem QjF (h:J s):ZR P N l J (.goto l) Q s:=fun F n base c a hF hs hr R _ hJ=>wpIn_goto (hJ s c a h (Ev.refl c) hs hr)
theorem Yu {x y:Code} (h:XF P N x (AExit.then (ZR P N l J y Q) Q) s):ZR P N l J (.seq x y) Q s:=by
 intro F n base c a hF hs hr R hR hJ
 refine wpIn_seq (h F n base c a hF hs hr _ ?_)
 intro e s' c' a' e' hQ hev hst hsr hex
 cases e with
 |normal =>
  cases hex
  exact hQ F n base c' a' hF hst hsr R (fun e s2 c2 a2 e2 hQ2 hev2 hst2 hsr2 hex2=>hR e s2 c2 a2 e2 hQ2 (Ev.trans hs hev hev2) hst2 hsr2 hex2) fun s2 c2 a2 h2 hev2 hst2 hsr2=>hJ s2 c2 a2 h2 (Ev.trans hs hev hev2) hst2 hsr2
 |exit id=>cases hex;exact hR _ s' c' a' _ hQ hev hst hsr rfl
 |ret=>cases hex;exact hR _ s' c' a' _ hQ hev hst hsr rfl
 |panic av=>obtain ⟨x,rfl,hx⟩:=hex;exact hR _ s' c' a' _ hQ hev hst hsr ⟨x,rfl,hx⟩
theorem Qfe {x y:Code} (h:ZR P N l J x (AExit.then (ZR P N l J y Q) Q) s):ZR P N l J (.seq x y) Q s:=by
 intro F n base c a hF hs hr R hR hJ
 refine wpIn_seq (h F n base c a hF hs hr _ ?_ ?_)
 ·intro e s' c' a' e' hQ hev hst hsr hex
  cases e with
  |normal =>
   cases hex
   exact hQ F n base c' a' hF hst hsr R (fun e s2 c2 a2 e2 hQ2 hev2 hst2 hsr2 hex2=>hR e s2 c2 a2 e2 hQ2 (Ev.trans hs hev hev2) hst2 hsr2 hex2) fun s2 c2 a2 h2 hev2 hst2 hsr2=>hJ s2 c2 a2 h2 (Ev.trans hs hev hev2) hst2 hsr2
  |exit id=>cases hex;exact hR _ s' c' a' _ hQ hev hst hsr rfl
  |ret=>cases hex;exact hR _ s' c' a' _ hQ hev hst hsr rfl
  |panic av=>obtain ⟨x,rfl,hx⟩:=hex;exact hR _ s' c' a' _ hQ hev hst hsr ⟨x,rfl,hx⟩
 ·intro s' c' a' h1 hev hst hsr
  exact hJ s' c' a' h1 hev hst hsr
theorem Qfd {o:Operand} {x y:Code} {t:Bool} (ho:s.ev o = .v (.bool t)) (h:ZR P N l J (if t then x else y) Q s):ZR P N l J (.cond o x y) Q s:=by
 intro F n base c a hF hs hr R hR hJ
 have he:=hr.eval o
 rw [ho] at he
 have hx:a.eval o = .bool t:=by
  generalize a.eval o=u at he
  cases he;rfl
 exact wpIn_cond hx (h F n base c a hF hs hr R hR hJ)
theorem QdR {id:Nat} {x:Code} (h:ZR P N l J x (AExit.inBlock id Q) s):ZR P N l J (.block id x) Q s:=by
 intro F n base c a hF hs hr R hR hJ
 refine wpIn_block (h F n base c a hF hs hr _ ?_ ?_)
 ·intro e s' c' a' e' hQ hev hst hsr hex
  cases e with
  |normal=>cases hex;exact hR _ s' c' a' _ hQ hev hst hsr rfl
  |exit i =>
   cases hex
   simp only [Exit.inBlock]
   simp only [AExit.inBlock] at hQ
   split
   ·rename_i hi;rw [if_pos hi] at hQ;exact hR _ s' c' a' _ hQ hev hst hsr rfl
   ·rename_i hi;rw [if_neg hi] at hQ;exact hR _ s' c' a' _ hQ hev hst hsr rfl
  |ret=>cases hex;exact hR _ s' c' a' _ hQ hev hst hsr rfl
  |panic av=>obtain ⟨x,rfl,hx⟩:=hex;exact hR _ s' c' a' _ hQ hev hst hsr ⟨x,rfl,hx⟩
 ·intro s' c' a' h1 hev hst hsr
  exact hJ s' c' a' h1 hev hst hsr
theorem QjG {x:Code} (I:Nat→AS→Prop) (h:∀ m s,I m s→ZR P N l J x (AExit.then (Xi I m) Q) s) {m:Nat} (h0:I m s):ZR P N l J (.loop x) Q s:=by
 intro F n base c a hF hs hr R hR hJ
 have key:∀ (k m:Nat) (s:AS) (c:Cx) (a:Act),m<k→I m s→St c→SR N (base,F) c s a →
   (∀ e s' c' a' e',Q e s'→Ev c c'→St c'→SR N (base,F) c' s' a'→ExC c' e e'→R e' a' c'.w)→(∀ s' c' a',J s'→Ev c c'→St c'→SR N (base,F) c' s' a'→R (.goto l) a' c'.w)→Code.roundsIn F n P x R k a c.w:=by
  intro k
  induction k with
  |zero=>intro m _ _ _ hm;omega
  |succ k ih =>
   intro m s c a hm hI hs hr hR hJ
   rw [roundsIn_succ]
   refine h m s hI F n base c a hF hs hr _ ?_ ?_
   ·intro e s' c' a' e' hQ hev hst hsr hex
    cases e with
    |normal =>
     cases hex
     obtain ⟨m',hlt,hI'⟩:=hQ
     exact ih m' s' c' a' (by omega) hI' hst hsr (fun e s2 c2 a2 e2 hQ2 hev2 hst2 hsr2 hex2=>hR e s2 c2 a2 e2 hQ2 (Ev.trans hs hev hev2) hst2 hsr2 hex2) fun s2 c2 a2 h2 hev2 hst2 hsr2=>hJ s2 c2 a2 h2 (Ev.trans hs hev hev2) hst2 hsr2
    |exit id=>cases hex;exact hR _ s' c' a' _ hQ hev hst hsr rfl
    |ret=>cases hex;exact hR _ s' c' a' _ hQ hev hst hsr rfl
    |panic av=>obtain ⟨x,rfl,hx⟩:=hex;exact hR _ s' c' a' _ hQ hev hst hsr ⟨x,rfl,hx⟩
   ·intro s' c' a' h1 hev hst hsr
    exact hJ s' c' a' h1 hev hst hsr
 exact wpIn_loop_rounds (m+1) (key (m+1) m s c a (by omega) h0 hs hr hR hJ)
end
theorem ZR.mono {P:Program} {N l:Nat} {J J':AS→Prop} {x:Code} {Q:AExit→AS→Prop} {s:AS} (H:ZR P N l J x Q s) (h:∀ s,J s→J' s):ZR P N l J' x Q s :=
 fun F n base c a hF hs hr R hR hJ=>H F n base c a hF hs hr R hR fun s' c' a' h1=>hJ s' c' a' (h s' h1)
theorem QjE {P:Program} {N l:Nat} {J:AS→Prop} {x:Code} {Q:AExit→AS→Prop} {tm:Nat→AV} {h:AH} (H:ZR P N l J x Q ⟨tm,h++[.dead]⟩):ZR P N l J x Q ⟨tm,h⟩:=by
 intro F n base c a hF hst hr R hR hJ
 have hh:c.h=h:=hr.h
 subst hh
 have hg:=Grows.refl c.w
 have hev:=Ev.add hst hg .dead none (fun B h=>by cases h)
 have hst2:St (c.add c.w .dead none):=St.add hst hg .dead none (fun B h=>by cases h) trivial
 refine H F n base (c.add c.w .dead none) a hF hst2 ⟨rfl,hr.size,hr.above,hr.defers.ev hev,RoundOk.ev hev hr.round,fun t=>(hr.tm t).ev hst hev⟩ R (fun e' s' c' a' ex hq h1 h2 h3 h4=>hR e' s' c' a' ex hq (Ev.trans hst hev h1) h2 h3 h4) fun s' c' a' hq h1 h2 h3=>hJ s' c' a' hq (Ev.trans hst hev h1) h2 h3
theorem QdS {P:Program} {N:Nat} {c rest:Code} {Q:AExit→AS→Prop} {s:AS} (l:Nat) (I:Nat→AS→Prop) (hf:findLabel c l=some rest) (first:ZR P N l (fun s=>∃ m,I m s) c Q s)
  (pass:∀ m s,I m s→ZR P N l (Xi I m) rest Q s):XF P N (.scope c) Q s:=by
 intro F n base c0 a hF hs hr R hR
 refine Qdp l (fun m a w=>∃ s' c',c'.w=w∧I m s'∧Ev c0 c'∧St c'∧SR N (base,F) c' s' a) hf (first F n base c0 a hF hs hr _ ?_ ?_) ?_
 ·intro e s' c' a' e' hQ hev hst hsr hex
  cases e with
  |normal=>cases hex;exact hR _ s' c' a' _ hQ hev hst hsr rfl
  |exit id=>cases hex;exact hR _ s' c' a' _ hQ hev hst hsr rfl
  |ret=>cases hex;exact hR _ s' c' a' _ hQ hev hst hsr rfl
  |panic av=>obtain ⟨x,rfl,hx⟩:=hex;exact hR _ s' c' a' _ hQ hev hst hsr ⟨x,rfl,hx⟩
 ·rintro s' c' a' ⟨m,hI⟩ hev hst hsr
  exact ⟨rfl,m,s',c',rfl,hI,hev,hst,hsr⟩
 ·rintro m a1 w1 ⟨s1,c1,rfl,hI,hev1,hst1,hsr1⟩
  refine pass m s1 hI F n base c1 a1 hF hst1 hsr1 _ ?_ ?_
  ·intro e s' c' a' e' hQ hev hst hsr hex
   have hev':=Ev.trans hs hev1 hev
   cases e with
   |normal=>cases hex;exact hR _ s' c' a' _ hQ hev' hst hsr rfl
   |exit id=>cases hex;exact hR _ s' c' a' _ hQ hev' hst hsr rfl
   |ret=>cases hex;exact hR _ s' c' a' _ hQ hev' hst hsr rfl
   |panic av=>obtain ⟨x,rfl,hx⟩:=hex;exact hR _ s' c' a' _ hQ hev' hst hsr ⟨x,rfl,hx⟩
  ·rintro s' c' a' ⟨m',hlt,hI'⟩ hev hst hsr
   exact ⟨rfl,m',hlt,s',c',rfl,hI',Ev.trans hs hev1 hev,hst,hsr⟩
theorem QgW {P:Program} {N:Nat} {c x:Code} {Q:AExit→AS→Prop} {s:AS} (l:Nat) (I:Nat→AS→Prop) (hf:findLabel c l=some (.seq .skip x))
  (first:(∀ s,(∃ m,I m s)→ZR P N l (fun s=>∃ m,I m s) x Q s)→ZR P N l (fun s=>∃ m,I m s) c Q s)
  (pass:∀ m s,I m s→ZR P N l (Xi I m) x Q s):XF P N (.scope c) Q s :=
 QdS l I hf (first fun s ⟨m,h⟩=>(pass m s h).mono fun _ ⟨m',_,h'⟩=>⟨m',h'⟩) fun m s h=>Yu (Qm (pass m s h))
end Go.Proofs.YticgcpebdldbgaaDoor.Ab
namespace Go.Proofs.YticgcpebdldbgaaDoor.Ab
theorem Qk9 {P:Program} {c:Cx} (hst:St c) {g:Nat} {cs:Array Value} (hg:HasG c.h g cs) {t:TypeId} (ht:Xn P t=some (true,cs.size)) (h1:cs.toList.all Value.oneCell'=true) :
  (Instr.loadAt t (.pointer (some ⟨g,0,none⟩))).run P c.w = .ok (.agg cs) c.w:=by
 obtain ⟨ty,fr,hc⟩:=hg.world hst
 obtain ⟨hagg,hsize⟩:=ZU ht c.w
 have hcell:∀ j,j<cs.size→c.w.cell? ((⟨g,0,none⟩:Addr).add j)=some (cs.getD j undef):=fun j hj=>by
  rw [addr_add,Nat.zero_add,Xq hc,Array.getD_eq_getD_getElem?,Array.getElem?_eq_getElem hj];rfl
 have hr:=run_loadCells (P:=P) c.w ⟨g,0,none⟩ cs.size (fun j=>cs.getD j undef) hcell
 simp only [Instr.loadAt,Instr.sureAddr,loadVar,Sem.run_bind,Sem.run_pure,Result.andThen_ok,hagg,hsize,Sem.run_ite,if_true,hr]
 congr 2
 apply Array.ext
 ·simp
 ·intro i h2 h3
  simp [Array.getD_eq_getD_getElem?,Array.getElem?_eq_getElem h3]
def QmA (P:Program) (N:Nat) (ops:Array Oper) (o:Oper) (K:AS→Prop) (s:AS):Prop :=
 match Qd ops s.tm o with
 |some true=>(match o.op with
  | .load t x=>∃ g cs,s.ev x = .v (.pointer (some ⟨g,0,none⟩))∧HasG s.h g cs∧Xn P t=some (true,cs.size)∧cs.toList.all Value.oneCell'=true∧K (AS.put N s o.dst (.v (.agg cs)))
  |_=>False)
 |some false=>K (AS.put N s o.dst (.v undef))
 |none=>False
theorem Qh8 {P:Program} {N:Nat} {base:Bs×Fence} {o:Oper} {s:AS} {t:TypeId} {x:Operand} {g:Nat} {cs:Array Value} (hop:o.op = .load t x) (hx:s.ev x = .v (.pointer (some ⟨g,0,none⟩))) (hg:HasG s.h g cs) (ht:Xn P t=some (true,cs.size)) (h1:cs.toList.all Value.oneCell'=true) {K:AS→Prop}
  (H:K (AS.put N s o.dst (.v (.agg cs)))) {F:Fence} {n:Nat} {c:Cx} {a:Act} (hF:WF F) (hst:St c) (hr:SR N base c s a)
  {next:Act→World→Prop} {Qx:Exit→Act→World→Prop} (hK:∀ s' c' a',K s'→Ev c c'→St c'→SR N base c' s' a'→next a' c'.w):o.wpIn F n P a c.w next Qx:=by
 refine ⟨fun f _=>hF.fn f,?_⟩
 rw [Oper.semAt_eq _ _ _ (fun q=>by rw [hop];intro h;cases h)]
 have he:=hr.eval x
 rw [hx] at he
 have hu:a.eval x = .pointer (some ⟨g,0,none⟩):=by
  generalize a.eval x=u at he
  cases he;rfl
 have hl:=Qk9 (P:=P) hst (by rw [hr.h];exact hg) ht h1
 have hrun':(execOp a.eval o).run P c.w = .ok (.value (.agg cs)) c.w:=by
  simp only [execOp,hop,hu,Sem.run_bind,hl,Result.andThen_ok,Sem.run_pure]
 rw [hrun']
 have hp:=hr.put hst (Ev.refl c) o.dst (.v (.agg cs))
 rw [hr.h] at hp
 exact hK _ c _ H (Ev.refl c) hst hp
theorem QcG {P:Program} {N:Nat} {Q:AExit→AS→Prop} {s:AS} {id:Nat} {ops:Array Oper} (i:Nat) {o:Oper} (ho:ops.toList[i]? = some o)
  (H:∀ (K:AS→Prop) (E:AV→AS→Prop),(∀ s,Q .normal s→K s)→(∀ r s,Q (.panic r) s→E r s)→OpsW P N ops (ops.toList.take i) (QmA P N ops o (OpsW P N ops (ops.toList.drop (i+1)) K E)) E s):XF P N (.region id ops false) Q s:=by
 intro F n base c a hF hst hr R hR
 refine wpIn_region ?_
 have hlt:=Qt ho
 have hH:=H (fun s'=>Q .normal s') (fun r s'=>Q (.panic r) s') (fun _ h=>h) (fun _ _ h=>h)
 have hi:(ops.toList.take i).length=i:=by rw [List.length_take];omega
 have hrange:List.range ops.size=List.range' 0 (ops.toList.take i).length++(i::(List.range' (i+1) (ops.toList.drop (i+1)).length++[])):=by
  rw [hi,List.append_nil,List.length_drop,List.range_eq_range',← Array.length_toList]
  have:ops.toList.length=i+(1+(ops.toList.length - (i+1))):=by omega
  conv=>lhs;rw [this]
  rw [← List.range'_append_1,Nat.zero_add,← List.range'_append_1]
  rfl
 have hget:∀ j,(ops.toList.drop (i+1))[j]? = ops[i+1+j]? := fun j=>by rw [List.getElem?_drop];simp
 rw [hrange]
 refine Qbe hF (ops.toList.take i) 0 s c a (fun j hj=>by rw [List.getElem?_take,if_pos (by omega)];simp) hH hst hr ?_ ?_
 ·intro s1 c1 a1 h1 h2 h3 h4
  have h0:ops[i]? = some o:=by rw [← ho];simp
  have hrest:∀ s2 c2 a2,OpsW P N ops (ops.toList.drop (i+1)) (fun s'=>Q .normal s') (fun r s'=>Q (.panic r) s') s2→Ev c c2→St c2→SR N (base,F) c2 s2 a2→wpOpsIn F n P ops R (List.range' (i+1) (ops.toList.drop (i+1)).length++[]) a2 c2.w:=by
   intro s2 c2 a2 hq he2 hst2 hr2
   refine Qbe hF _ (i+1) s2 c2 a2 (fun j _=>hget j) hq hst2 hr2 ?_ ?_
   ·intro s' c' a' hQ k1 k2 k3
    simp only [wpOpsIn]
    exact hR _ s' c' a' _ hQ (Ev.trans hst he2 k1) k2 k3 rfl
   ·intro r s' c' a' x hQ k1 k2 k3 hx
    exact hR _ s' c' a' _ hQ (Ev.trans hst he2 k1) k2 k3 ⟨x,rfl,hx⟩
  simp only [wpOpsIn,h0]
  unfold QmA at h1
  split at h1
  ·rename_i hw
   rw [Xd h4 hw]
   simp only [if_true]
   split at h1
   ·rename_i t x hop
    obtain ⟨g,cs,g1,g2,g3,g4,g5⟩:=h1
    exact Qh8 hop g1 g2 g3 g4 g5 hF h3 h4 fun s' c' a' hK k1 k2 k3=>hrest s' c' a' hK (Ev.trans hst h2 k1) k2 k3
   ·exact h1.elim
  ·rename_i hw
   rw [Xd h4 hw]
   simp only [Qq3,if_false]
   refine ⟨fun f _=>hF.fn f,?_⟩
   have hr':=h4.put h3 (Ev.refl c1) o.dst (.v undef)
   rw [h4.h] at hr'
   exact hrest _ c1 _ h1 h2 h3 hr'
  ·exact h1.elim
 ·intro r s' c' a' x hQ h1 h2 h3 hx
  exact hR _ s' c' a' _ hQ h1 h2 h3 ⟨x,rfl,hx⟩
theorem QeM {P:Program} {N:Nat} {Q:AExit→AS→Prop} {s:AS} {id:Nat} {ops:Array Oper} {y:Code} (i:Nat) {o:Oper} (ho:ops.toList[i]? = some o)
  (H:∀ (K:AS→Prop) (E:AV→AS→Prop),(∀ s,XF P N y Q s→K s)→(∀ r s,Q (.panic r) s→E r s)→OpsW P N ops (ops.toList.take i) (QmA P N ops o (OpsW P N ops (ops.toList.drop (i+1)) K E)) E s):XF P N (.seq (.region id ops false) y) Q s :=
 Qal (QcG i ho (fun K E hK hE=>H K E hK hE))
end Go.Proofs.YticgcpebdldbgaaDoor.Ab
namespace Go.Proofs.YticgcpebdldbgaaDoor.Ab
open Go.Lib
theorem QnG {a b:ByteArray} (h:a.data.toList=b.data.toList):a=b:=by
 obtain ⟨a⟩:=a;obtain ⟨b⟩:=b
 congr 1
 exact Array.toList_inj.1 h
end Go.Proofs.YticgcpebdldbgaaDoor.Ab
set_option maxRecDepth 4000
namespace Go.Proofs.YticgcpebdldbgaaDoor.Ab
open Go.Proofs
structure Pz where
 all:List Tk
 i:Nat
 j:Nat
 g:Nat
def Tk.av (t:Tk):AV:=.agg [.i t.kind,.i t.pos,.v (.string t.text)]
def tks (l:List Tk):List AV:=l.map Tk.av
def strs (l:List ByteArray):List AV:=l.map fun s=>.v (.string s)
theorem YK (l:List ByteArray):(strs l).length=l.length:=List.length_map _
theorem QbQ (l m:List ByteArray):strs (l++m)=strs l++strs m:=List.map_append
theorem Qbu (l:List Tk):(tks l).length=l.length:=List.length_map _
theorem Qey (n:Nat) (l:List ByteArray):∀ a∈flat (strs l),Below n a:=by
 intro a ha
 simp only [flat,strs,List.mem_flatMap,List.mem_map] at ha
 obtain ⟨x,⟨y,_,rfl⟩,hx⟩:=ha
 simp only [AV.cells,List.mem_singleton] at hx
 subst hx
 exact .v _
theorem Qcy (n:Nat) (l:List Tk):∀ a∈flat (tks l),Below n a:=by
 intro a ha
 simp only [flat,tks,List.mem_flatMap,List.mem_map] at ha
 obtain ⟨x,⟨y,_,rfl⟩,hx⟩:=ha
 simp only [Tk.av,AV.cells,List.mem_cons,List.not_mem_nil,or_false] at hx
 rcases hx with rfl|rfl|rfl <;> exact .v _
theorem Tk.Qp9 (t:Tk):t.av.cells=[.i t.kind,.i t.pos,.v (.string t.text)]:=rfl
theorem Tk.Qqa (t:Tk):t.av.isAgg=true:=rfl
def Qfu (m:List (ByteArray×AV)) (p:ByteArray×Nat):List (ByteArray×AV):=if p.1.toList≠[95]∧(sget p.1 m).isSome=true then m else supd p.1 (.i (p.2:Nat)) m
def kn (names:List ByteArray):List (ByteArray×AV):=names.zipIdx.foldl Qfu []
theorem Qlq (names:List ByteArray) (x:ByteArray):kn (names++[x])=Qfu (kn names) (x,names.length):=by
 rw [kn,List.zipIdx_append,List.foldl_append,Nat.zero_add];rfl
theorem Qgg (l m:List ByteArray) (x:ByteArray):nameAt (l++m) x=if nameAt l x<l.length then nameAt l x else l.length+nameAt m x:=by
 unfold nameAt
 rw [List.findIdx_append]
 split
 ·rfl
 ·omega
theorem toList_inj {x y:ByteArray} (h:x.toList=y.toList):x=y:=by
 rw [Lib.toList_data,Lib.toList_data] at h
 exact QnG h
theorem Qi3 (x:ByteArray) (hx:x.toList≠[95]):∀ (n:Nat) (names:List ByteArray),names.length=n→sget x (kn names)=if nameAt names x<names.length then some (.i (nameAt names x:Nat)) else none
 |0,names,h=>by
  obtain rfl:=List.eq_nil_of_length_eq_zero h
  rfl
 |n+1,names,h=>by
  have hne:names≠[]:=by rintro rfl;cases h
  obtain ⟨l,y,rfl⟩:∃ l' u,names=l'++[u]:=⟨_,_,(List.dropLast_concat_getLast hne).symm⟩
  have hl:l.length=n:=by simpa using h
  have ih:=Qi3 x hx n l hl
  rw [Qlq,Qgg,List.length_append,List.length_singleton]
  have h1:nameAt [y] x=if y=x then 0 else 1:=by
   unfold nameAt
   rw [List.findIdx_cons,List.findIdx_nil]
   by_cases e:y=x
   ·subst e;simp
   ·rw [if_neg e,show (y.toList==x.toList)=false by simpa using fun q=>e (toList_inj q)];rfl
  unfold Qfu
  by_cases hc:y.toList≠[95]∧(sget y (kn l)).isSome=true
  ·rw [if_pos hc,ih]
   by_cases hf:nameAt l x<l.length
   ·simp only [if_pos hf];rw [if_pos (by omega)]
   ·simp only [if_neg hf,h1]
    by_cases e:y=x
    ·subst e
     rw [ih,if_neg hf] at hc
     exact absurd hc.2 (by simp)
    ·rw [if_neg e,if_neg (by omega)]
  ·rw [if_neg hc,QhA,ih]
   by_cases hf:nameAt l x<l.length
   ·simp only [if_pos hf]
    rw [if_pos (show nameAt l x<l.length+1 by omega)]
    by_cases e:x=y
    ·subst e
     exact absurd ⟨hx,by rw [ih,if_pos hf];rfl⟩ hc
    ·rw [if_neg e]
   ·simp only [if_neg hf,h1]
    by_cases e:x=y
    ·subst e;simp only [if_true];rw [if_pos (by omega)];rfl
    ·have e2:¬ y=x:=fun q=>e q.symm
     simp only [if_neg e,if_neg e2]
     rw [if_neg (by omega)]
theorem Qol (names:List ByteArray):∀ p∈kn names,∃ k:Nat,p.2 = .i k:=by
 have hsup:∀ (x:ByteArray) (k:Nat) (m:List (ByteArray×AV)),(∀ p∈m,∃ k:Nat,p.2 = .i k)→∀ p∈supd x (.i k) m,∃ k:Nat,p.2 = .i k:=by
  intro x k m
  induction m with
  |nil=>intro _ p hp;simp only [supd,List.mem_singleton] at hp;subst hp;exact ⟨k,rfl⟩
  |cons q m ih =>
   intro hm p hp
   simp only [supd] at hp
   split at hp
   ·rcases List.mem_cons.1 hp with rfl|hp
    ·exact ⟨k,rfl⟩
    ·exact hm p (List.mem_cons_of_mem _ hp)
   ·rcases List.mem_cons.1 hp with rfl|hp
    ·exact hm p (List.mem_cons_self ..)
    ·exact ih (fun p hp=>hm p (List.mem_cons_of_mem _ hp)) p hp
 have key:∀ (l:List (ByteArray×Nat)) (m:List (ByteArray×AV)),(∀ p∈m,∃ k:Nat,p.2 = .i k)→∀ p∈l.foldl Qfu m,∃ k:Nat,p.2 = .i k:=by
  intro l
  induction l with
  |nil=>intro m hm;exact hm
  |cons q l ih =>
   intro m hm
   rw [List.foldl_cons]
   refine ih _ ?_
   unfold Qfu
   split
   ·exact hm
   ·exact hsup _ _ _ hm
 exact key _ [] (by simp)
def pB (P:Pz) (s:PS):AB:=.cells 66 4 [.agg [.sl 3 (tks P.all) none,.i ((P.all.length - s.toks.length:Nat):Int),.sl 1 (strs s.names) (some P.g),.mp P.j]]
def kB (s:PS):AB:=.map (smap (kn s.names))
def gB (s:PS):AB:=.grow 9 1 s.names.length
def ph (h:AH) (P:Pz) (s:PS):AH:=((h.set P.i (pB P s)).set P.j (kB s)).set P.g (gB s)
structure Pz.ok (P:Pz) (h:AH):Prop where
 i:P.i<h.length
 j:P.j<h.length
 g:P.g<h.length
 ij:P.i≠P.j
 ig:P.i≠P.g
 jg:P.j≠P.g
theorem Pz.ok.app {P:Pz} {h:AH} (H:P.ok h) (L:AH):P.ok (h++L):=⟨by rw [List.length_append];have:=H.i;omega,by rw [List.length_append];have:=H.j;omega,by rw [List.length_append];have:=H.g;omega,H.ij,H.ig,H.jg⟩
theorem QS (h:AH) (P:Pz) (s:PS):(ph h P s).length=h.length:=by simp [ph]
section
variable {h:AH} {P:Pz} (H:P.ok h)
include H
theorem Q1 (s:PS) (L:AH):ph (h++L) P s=ph h P s++L:=by
 unfold ph
 rw [List.set_append_left _ _ H.i,List.set_append_left _ _ (by simpa using H.j),List.set_append_left _ _ (by simpa using H.g)]
theorem XS (s:PS):(ph h P s)[P.i]? = some (pB P s):=by
 unfold ph
 rw [List.getElem?_set_ne (Ne.symm H.ig),List.getElem?_set_ne (Ne.symm H.ij),List.getElem?_set_self H.i]
theorem Qot (s:PS):(ph h P s)[P.j]? = some (kB s):=by
 unfold ph
 rw [List.getElem?_set_ne (Ne.symm H.jg),List.getElem?_set_self (by simpa using H.j)]
theorem QpZ (s:PS):(ph h P s)[P.g]? = some (gB s):=by
 unfold ph
 rw [List.getElem?_set_self (by simpa using H.g)]
theorem ph_i (s:PS) (L:AH):(ph h P s++L)[P.i]? = some (pB P s):=by rw [List.getElem?_append_left (by rw [QS];exact H.i)];exact XS H s
theorem Qou {s s':PS} (hn:s'.names=s.names):(ph h P s).set P.i (pB P s')=ph h P s':=by
 unfold ph
 rw [List.set_comm _ _ (Ne.symm H.ig),List.set_comm _ _ (Ne.symm H.ij),List.set_set]
 simp only [kB,gB,hn]
theorem Qpf {s s':PS} (hn:s'.names=s.names) (L:AH):(ph h P s++L).set P.i (pB P s')=ph h P s'++L:=by
 rw [List.set_append_left _ _ (by rw [QS];exact H.i),Qou H hn]
theorem Zn {s:PS} {k:Nat} (h1:k≠P.i) (h2:k≠P.j) (h3:k≠P.g):(ph h P s)[k]? = h[k]? := by
 have _u:=H
 unfold ph
 rw [List.getElem?_set_ne (Ne.symm h3),List.getElem?_set_ne (Ne.symm h2),List.getElem?_set_ne (Ne.symm h1)]
theorem Qng (s:PS):(pB P s).Below h.length:=by
 intro a ha
 simp only [flat,List.flatMap_cons,List.flatMap_nil,Qrs,AV.cells,List.mem_cons,List.not_mem_nil,or_false] at ha
 rcases ha with rfl|rfl|rfl|rfl
 ·exact .sl 3 _ none (Qcy _ _) (fun b hb=>by cases hb)
 ·exact .v _
 ·exact .sl 1 _ _ (Qey _ _) (fun b hb=>by cases hb;exact H.g)
 ·exact .mp _ H.j
theorem Qi2 (s:PS) (n:Nat):(kB s).Below n:=Qkd _ _ fun p hp=>by
 have _u:=H
 obtain ⟨k,e⟩:=Qol s.names p hp
 rw [e];exact .v _
theorem Qbs {s:PS} {s0:PS} {k:Nat} {b:AB} (hb:(ph h P s)[k]? = some b):(ph h P s0)[k]? = some b∨b.Below h.length:=by
 by_cases h1:k=P.i
 ·subst h1;rw [XS H] at hb;cases hb;exact .inr (Qng H s)
 ·by_cases h2:k=P.j
  ·subst h2;rw [Qot H] at hb;cases hb;exact .inr (Qi2 H s _)
  ·by_cases h3:k=P.g
   ·subst h3;rw [QpZ H] at hb;cases hb;exact .inr trivial
   ·rw [Zn H h1 h2 h3] at hb ⊢;exact .inl hb
theorem Xg {s s':PS} {L:AH} {r r':AV} {Q:AV→AH→Prop} (hf:Frz (ph h P s'++L) h.length r r') (hq:Q r' (ph h P s')):Leaves (ph h P s) (ph h P s'++L) r Q:=by
 have e:(ph h P s'++L).take h.length=ph h P s':=by rw [← QS h P s',List.take_left]
 refine .inl ⟨h.length,r',by rw [QS];exact Nat.le_refl _,by rw [List.length_append,QS];omega,.inr fun k b hk=>?_,hf,by rw [e];exact hq⟩
 rw [e] at hk
 exact Qbs H hk
end
theorem Xr (h:AH) (P:Pz) (s:PS) (L:AH):(ph h P s++L)[h.length]? = L[0]? := by rw [← QS h P s];exact Z4 _ _
theorem XY (h:AH) (P:Pz) (s:PS) (L:AH) (k:Nat):(ph h P s++L)[h.length+k]? = L[k]? := by rw [← QS h P s];exact hget _ _ _
theorem Xe (h:AH) (P:Pz) (s:PS) (y:AB) (L:AH):(ph h P s++L).set h.length y=ph h P s++L.set 0 y:=by rw [← QS h P s];exact QbK _ _ _
theorem XC (h:AH) (P:Pz) (s:PS) (y:AB) (L:AH) (k:Nat):(ph h P s++L).set (h.length+k) y=ph h P s++L.set k y:=by rw [← QS h P s];exact hset _ _ _ _
end Go.Proofs.YticgcpebdldbgaaDoor.Ab
set_option maxRecDepth 4000
namespace Go.Proofs.YticgcpebdldbgaaDoor.Ab
open Go.Proofs
theorem Qcx (n:Nat) (t:Tk):Below n t.av:=.agg _ fun a ha=>by
 simp only [List.mem_cons,List.not_mem_nil,or_false] at ha
 rcases ha with rfl|rfl|rfl <;> exact .v _
theorem QnA {s:PS} (h:s.wf):s.toks≠[]:=by
 obtain ⟨l,e,hl,_⟩:=h
 rw [hl];simp
theorem Qmf {all:List Tk} {s:PS} (hW:Wst all s):all.length - s.toks.length<all.length∧(tks all)[all.length - s.toks.length]? = some s.tk.av:=by
 obtain ⟨pre,hp⟩:=hW.suf
 cases ht:s.toks with
 |nil=>exact absurd ht (QnA hW.wf)
 |cons t r =>
  rw [ht] at hp
  have e:s.tk=t:=by unfold PS.tk;rw [ht];rfl
  subst hp
  have hl:(pre++t::r).length - (t::r).length=pre.length:=by rw [List.length_append];omega
  rw [hl,e]
  refine ⟨by rw [List.length_append,List.length_cons];omega,?_⟩
  rw [tks,List.getElem?_map,List.getElem?_append_right (Nat.le_refl _),Nat.sub_self];rfl
section
variable {P:Pz} {s:PS} (hW:Wst P.all s) {X:AH} (hX:X[P.i]? = some (pB P s))
include hW hX
theorem QnS (L:AH):(X++L)[P.i]? = some (pB P s):=by have _u:=hW;rw [List.getElem?_append_left (Qt hX)];exact hX
theorem XE:QJ Tryd.prog 18 [.ptr P.i 0 0] X fun o h'=>o = .ret s.tk.av∧h'=X:=by
 obtain ⟨h1,h2⟩:=Qmf hW
 have hi:=QnS hW hX
 have hi0:=hX
 rw [pB] at hi0
 simp only [pB] at hi
 have e1:=Tk.Qp9 s.tk
 have e2:=Tk.Qqa s.tk
 generalize P.all.length - s.toks.length=k at *
 refine Qe Tryd.func18 rfl Tryd.call18 Tryd.ntmps18 (congrArg Array.toList Tryd.results18) (by simp) ?_
 repeat (first|((first|(with_reducible refine Qa fun K E hK hE=>?_)|(refine Xj (id:=1) [(0,0),(1,0),(2,0),(3,0),(4,0),(5,0),(6,0),(7,0),(8,0),(9,0),(10,2)] mixed (by kernel_rfl) fun K hK=>?_));simp -implicitDefEqProofs only [Qc,Qd,OpW,aop,undef,AS.ev,Qq,AV.Qp8,↓reduceIte,Qg,Qw,Qv,QB,Qp,QK,ti3,ti37,ei37,ti60,zi60,QgY,Qfl,Qs,hi,h1,h2,Qbu,e1,e2,seval])|(with_reducible refine Ql ?_)|((with_reducible refine hK _ ?_);clear hK))
 simp -implicitDefEqProofs only [Qc,↓reduceIte,Qw,Qv,ti60,Qw,Qv,e1,e2,QF,Qn,Qr,Qq9,seval]
 exact Qi (htake _ _) (.keep (Qcx _ _)) ⟨rfl,rfl⟩
end
def Fl (p e:Int):AV:=.ifc 87 (.agg [.i p,.i e])
theorem Qbm (n:Nat) (p e:Int):Below n (Fl p e):=.ifc _ _ (.agg _ fun a ha=>by
 simp only [List.mem_cons,List.not_mem_nil,or_false] at ha
 rcases ha with rfl|rfl <;> exact .v _)
theorem Yw (t:Tk) (e:Int) (a:AV) (X:AH):QJ Tryd.prog 37 [a,t.av,.i e] X fun o h'=>o = .panic (Fl t.pos e)∧h'=X:=by
 have e1:=Tk.Qp9 t
 have e2:=Tk.Qqa t
 have hu:=Tryd.underlying87
 refine Qe Tryd.func37 rfl Tryd.call37 Tryd.ntmps37 (congrArg Array.toList Tryd.results37) (by simp) ?_
 repeat (first|((first|(with_reducible (first|refine Qa fun K E hK hE=>?_|refine Qk fun K E hK hE=>?_)));simp -implicitDefEqProofs only [Qc,Qd,OpW,aop,undef,AS.ev,Qq,AV.Qp8,↓reduceIte,Qg,Qw,Qv,Xf,Xu,ti3,Yc,zi87,sp87,e1,hu,seval])|((with_reducible refine hK _ ?_);clear hK)|(with_reducible refine hE _ _ ?_))
 exact Qi (htake _ _) (.keep (Qbm _ _ _)) ⟨rfl,rfl⟩
section
variable {P:Pz} {s:PS} (hW:Wst P.all s) {X:AH} (hX:X[P.i]? = some (pB P s))
include hW hX
theorem nextL (L:AH):QJ Tryd.prog 18 [.ptr P.i 0 0] (X++L) fun o h'=>o = .ret s.tk.av∧h'=X++L:=XE hW (QnS hW hX L)
theorem Qlo (b:ByteArray):QJ Tryd.prog 60 [.ptr P.i 0 0,.v (.string b)] X fun o h'=>o = .ret (.b (s.is b.toList))∧h'=X:=by
 have cn:=XE hW hX
 have cl:=nextL hW hX
 have e1:=Tk.Qp9 s.tk
 have e2:=Tk.Qqa s.tk
 refine Qe Tryd.func60 rfl Tryd.call60 Tryd.ntmps60 (congrArg Array.toList Tryd.results60) (by simp) ?_
 by_cases hk:s.tk.kind=4
 ·have z1:(s.tk.kind==4)=true:=by simpa using hk
  repeat (first|((first|(with_reducible (first|refine Qa fun K E hK hE=>?_|refine FunW.ret (FunW.call cn) ?_)));simp -implicitDefEqProofs only [Qc,Qd,OpW,QE,aop,undef,AS.ev,Qq,AV.Qp8,↓reduceIte,Qg,Qw,Qv,QB,Qp,aBin,ti3,ti9,ti60,QQ,Xc,zi60,e1,e2,z1,seval])|(with_reducible refine Ql ?_)|((with_reducible refine hK _ ?_);clear hK))
  simp only [QF,Qn,Qr,upd,↓reduceIte,Qq5,Qq9]
  exact Qi (htake _ _) (.keep (.v _)) ⟨by rw [PS.is,z1,Bool.true_and],rfl⟩
 ·have z1:(s.tk.kind==4)=false:=by simpa using hk
  repeat (first|((first|(with_reducible (first|refine Qa fun K E hK hE=>?_|refine FunW.ret (FunW.call cn) ?_)));simp -implicitDefEqProofs only [Qc,Qd,OpW,QE,aop,undef,AS.ev,Qq,AV.Qp8,↓reduceIte,Qg,Qw,Qv,QB,Qp,aBin,ti3,ti60,QQ,zi60,e1,e2,z1,seval])|(with_reducible refine Ql ?_)|((with_reducible refine hK _ ?_);clear hK))
  simp only [QF,Qn,Qr,upd,↓reduceIte,Qq5,Qq9]
  exact Qi (htake _ _) (.keep (.v _)) ⟨by rw [PS.is,z1,Bool.false_and],rfl⟩
end
end Go.Proofs.YticgcpebdldbgaaDoor.Ab
set_option maxRecDepth 4000
namespace Go.Proofs.YticgcpebdldbgaaDoor.Ab
open Go.Proofs
theorem FunW.pan {P:Program} {fv:AV} {args:List AV} {h h':AH} {r:AV} {Q:AOut→AH→Prop} (H:FunW P fv args h fun o h2=>o = .panic r∧h2=h') (k:Q (.panic r) h'):FunW P fv args h Q:=H.mono (by rintro _ _ ⟨rfl,rfl⟩;exact k)
theorem FunW.panE {P:Program} {α:Type} {fv:AV} {args:List AV} {h:AH} {h':α→AH} {r:AV} {Q:AOut→AH→Prop} (H:FunW P fv args h fun o h2=>o = .panic r∧∃ x,h2=h' x) (k:∀ x,Q (.panic r) (h' x)):FunW P fv args h Q:=H.mono (by rintro _ _ ⟨rfl,x,rfl⟩;exact k x)
theorem PS.Qqb {s:PS} {b:List UInt8} (h:s.is b=true):s.tk.kind≠0:=by
 simp only [PS.is,Bool.and_eq_true,beq_iff_eq] at h;rw [h.1];decide
section
variable {P:Pz} {s:PS} (hW:Wst P.all s) {h:AH} (H:P.ok h) (hN:P.all.length≤1000000)
include hW H hN
theorem Qo6 (hk:s.tk.kind≠0):IntKind.i64.wrap (((P.all.length - s.toks.length:Nat):Int)+1)=((P.all.length - s.nx.toks.length:Nat):Int):=by
 have h1:=XJ hW.wf hk
 have h2:=hW.suf.length_le
 have _u:=H
 rw [Xk (by omega)]
 congr 1;omega
theorem QlN (hk:s.tk.kind≠0) (L:AH):(ph h P s++L).set P.i (.cells 66 4 [.agg [.sl 3 (tks P.all) none,.v (.int .i64 (IntKind.i64.wrap (((P.all.length - s.toks.length:Nat):Int)+1))),.sl 1 (strs s.names) (some P.g),.mp P.j]])=ph h P s.nx++L:=by
 rw [Qo6 hW H hN hk]
 exact Qpf H (s:=s) (s':=s.nx) rfl L
theorem Xm:QJ Tryd.prog 34 [.ptr P.i 0 0] (ph h P s) fun o h'=>o = .ret s.tk.av∧h'=ph h P s.nx:=by
 have hX:=XS H s
 have hi:=ph_i H s
 have hp:=fun hk=>QlN hW H hN hk
 simp only [pB] at hi
 have cl:=nextL hW hX
 have e1:=Tk.Qp9 s.tk
 have e2:=Tk.Qqa s.tk
 have f1:=QS h P s
 have f2:=QS h P s.nx
 have f3:=Xr h P
 have f4:=XY h P
 have f5:=Xe h P
 have f6:=XC h P
 by_cases hk:s.tk.kind=0
 ·have z1:(s.tk.kind != 0)=false:=by simpa using hk
  have en:s.nx.toks=s.toks:=by
   obtain ⟨l,e,hl,he,ha⟩:=hW.wf
   cases l with
   |nil=>simp only [PS.nx,hl,Qrq]
   |cons t l =>
    have:s.tk=t:=by simp only [PS.tk,hl,Qrr,List.headD_cons]
    exact absurd (this▸hk) (ha t (by simp))
  have es:s.nx=s:=by
   show PS.mk _ s.names=s
   have:s=⟨s.toks,s.names⟩:=rfl
   rw [this];exact congrArg (fun x=>PS.mk x s.names) en
  rw [es]
  refine Qe Tryd.func34 rfl Tryd.call34 Tryd.ntmps34 (congrArg Array.toList Tryd.results34) (by simp) ?_
  repeat (first|((first|(with_reducible (first|refine Qa fun K E hK hE=>?_|refine Qk fun K E hK hE=>?_|refine FunW.ret (FunW.call (cl _)) ?_)));simp -implicitDefEqProofs only [Qc,Qd,OpW,QE,aop,undef,AS.ev,Qq,AV.Qp8,↓reduceIte,Qg,Qw,Qv,QB,Qp,aBin,ti3,ti60,QQ,zi60,f1,f3,f4,f5,f6,e1,e2,z1,seval])|(with_reducible (first|refine Qf fun K hK=>?_|refine Qj ?_|refine Ql ?_|refine QaA ?_|refine QbG ?_|refine Qm ?_|refine QG ?_|refine Qb ?_|refine Qu ?_|refine QD ?_|refine Qo ?_|refine Qy ?_|refine QC ?_|refine QW rfl ?_))|(with_reducible (first|refine hK _ ?_|(clear hK;refine hK _ ?_)|(clear hK;clear hK;refine hK _ ?_)|(clear hK;clear hK;clear hK;refine hK _ ?_));clear hK)|(refine Qh rfl ?_;simp only [↓reduceIte,Qq3])|(with_reducible (first|refine hE _ _ ?_|refine QM ?_|refine Q6 ?_))|(intro (b:Bool);cases b))
  simp -implicitDefEqProofs only [Qc,↓reduceIte,Qw,Qv,ti60,Qw,Qv,f3,e1,e2,QF,Qn,Qr,Qq9,seval]
  have:=Xg H (s:=s) (s':=s) (L:=[.cells 60 3 [s.tk.av],.cells 60 3 [s.tk.av]]) (r:=s.tk.av) (r':=s.tk.av) (Q:=fun r h'=>AOut.ret r = .ret s.tk.av∧h'=ph h P s) (.keep (Qcx _ _)) ⟨rfl,rfl⟩
  exact this
 ·have z1:(s.tk.kind != 0)=true:=by simpa using hk
  have hp':=hp hk
  refine Qe Tryd.func34 rfl Tryd.call34 Tryd.ntmps34 (congrArg Array.toList Tryd.results34) (by simp) ?_
  repeat (first|((first|(with_reducible (first|refine Qa fun K E hK hE=>?_|refine Qk fun K E hK hE=>?_|refine FunW.ret (FunW.call (cl _)) ?_)));simp -implicitDefEqProofs only [Qc,Qd,OpW,QE,aop,undef,AS.ev,Qq,AV.Qp8,↓reduceIte,Qg,Qw,Qv,QB,Qp,aBin,ti3,ti60,QQ,zi60,Qfl,Qs,f1,f3,f4,f5,f6,e1,e2,z1,hi,hp',seval])|(with_reducible (first|refine Qf fun K hK=>?_|refine Qj ?_|refine Ql ?_|refine QaA ?_|refine QbG ?_|refine Qm ?_|refine QG ?_|refine Qb ?_|refine Qu ?_|refine QD ?_|refine Qo ?_|refine Qy ?_|refine QC ?_|refine QW rfl ?_))|(with_reducible (first|refine hK _ ?_|(clear hK;refine hK _ ?_)|(clear hK;clear hK;refine hK _ ?_)|(clear hK;clear hK;clear hK;refine hK _ ?_));clear hK)|(refine Qh rfl ?_;simp only [↓reduceIte])|(with_reducible (first|refine hE _ _ ?_|refine QM ?_|refine Q6 ?_))|(intro (b:Bool);cases b))
  simp -implicitDefEqProofs only [Qc,↓reduceIte,Qw,Qv,ti60,Qw,Qv,f3,e1,e2,QF,Qn,Qr,Qq9,seval]
  exact Xg H (s:=s) (s':=s.nx) (.keep (Qcx _ _)) ⟨rfl,rfl⟩
end
end Go.Proofs.YticgcpebdldbgaaDoor.Ab
namespace Go.Proofs.YticgcpebdldbgaaDoor.Ab
abbrev DA:=FuncId×List AV
def RelD (c:Cx) (d:DA) (x:Deferred):Prop:=∃ caps,x.target = .fn (.func d.1) caps∧RelL c d.2 (x.args++caps)
theorem RelD.ev {c c':Cx} (hs:St c) (h:Ev c c') {d:DA} {x:Deferred} (hr:RelD c d x):RelD c' d x :=
 let ⟨caps,e,r⟩:=hr;⟨caps,e,r.ev hs h⟩
inductive Ent where
 |mark (D:Nat)
 |call (d:DA) (x:Deferred)
def Ent.dfr:Ent→Deferred
 | .mark D=>Qi8 D
 | .call _ x=>x
def Ent.da:Ent→Option DA
 | .mark _=>none
 | .call d _=>some d
def Ent.mk? : Ent→Option Nat
 | .mark D=>some D
 | .call _ _=>none
def Ent.ok (c:Cx) (lo:Nat):Ent→Prop
 | .mark D=>lo≤D∧c.w.heap[D]? = some (.deferred (some []))∧¬ c.owns D
 | .call d x=>RelD c d x
theorem Ent.ok.ev {c c':Cx} (hs:St c) (h:Ev c c') {lo:Nat} {e:Ent} (hk:e.ok c lo):e.ok c' lo:=by
 cases e with
 |mark D =>
  obtain ⟨h1,h2,h3⟩:=hk
  have hlt:=(Array.getElem?_eq_some_iff.1 h2).1
  exact ⟨h1,(h.frame D hlt h3).trans h2,fun ho=>h3 (h.owns hlt ho)⟩
 |call d x=>exact RelD.ev hs h hk
def DefsOk (c:Cx) (lo:Nat) (ds:List DA) (l:List Deferred):Prop :=
 ∃ es:List Ent,l=es.map Ent.dfr∧ds=es.filterMap Ent.da∧(es.filterMap Ent.mk?).Nodup∧∀ e∈es,e.ok c lo
theorem DefsOk.ev {c c':Cx} (hs:St c) (h:Ev c c') {lo:Nat} {ds:List DA} {l:List Deferred} (hd:DefsOk c lo ds l):DefsOk c' lo ds l :=
 let ⟨es,h1,h2,h3,h4⟩:=hd;⟨es,h1,h2,h3,fun e he=>(h4 e he).ev hs h⟩
theorem Qly (Ds:List Nat):(Ds.map Ent.mark).map Ent.dfr=Ds.map Qi8:=by rw [List.map_map];rfl
theorem Qm8 (Ds:List Nat):(Ds.map Ent.mark).filterMap Ent.da=[]:=by
 induction Ds with
 |nil=>rfl
 |cons D Ds ih=>rw [List.map_cons,List.filterMap_cons,ih];rfl
theorem Qm9 (Ds:List Nat):(Ds.map Ent.mark).filterMap Ent.mk? = Ds:=by
 induction Ds with
 |nil=>rfl
 |cons D Ds ih=>rw [List.map_cons,List.filterMap_cons,ih];rfl
theorem DefsOk.marks {c c':Cx} (hs:St c) (h:Ev c c') {lo:Nat} {ds:List DA} {l l':List Deferred} (hlo:lo≤c.w.heap.size) (hd:DefsOk c lo ds l) (hd':DefOk c' ⟨c.w.heap.size,l⟩ l'):DefsOk c' lo ds l':=by
 obtain ⟨Ds,f1,f2,f3⟩:=hd'
 obtain ⟨es,e1,e2,e3,e4⟩:=hd
 refine ⟨Ds.map Ent.mark++es,?_,?_,?_,?_⟩
 ·rw [f1,List.map_append,Qly,e1]
 ·rw [List.filterMap_append,Qm8,List.nil_append,e2]
 ·rw [List.filterMap_append,Qm9,List.nodup_append]
  refine ⟨f2,e3,fun a ha b hb hab=>?_⟩
  subst hab
  have g1:=(f3 a ha).1
  simp only [List.mem_filterMap] at hb
  obtain ⟨e,he,hm⟩:=hb
  cases e with
  |call d x=>cases hm
  |mark D =>
   simp only [Ent.mk?,Qq5] at hm
   subst hm
   have:=(Array.getElem?_eq_some_iff.1 (e4 _ he).2.1).1
   simp only at g1
   omega
 ·intro e he
  rcases List.mem_append.1 he with he|he
  ·obtain ⟨D,hD,rfl⟩:=List.mem_map.1 he
   obtain ⟨g1,g2,g3⟩:=f3 D hD
   exact ⟨Nat.le_trans hlo g1,g2,g3⟩
  ·exact (e4 e he).ev hs h
structure SRd (N lo:Nat) (c:Cx) (s:AS) (a:Act) (ds:List DA):Prop where
 h:c.h=s.h
 size:a.tmps.size=N
 above:lo≤c.w.heap.size
 defs:DefsOk c lo ds a.defers
 tm:∀ t,Rel c (s.tm t) (a.tmps.getD t undef)
theorem SRd.sr {N lo:Nat} {c:Cx} {s:AS} {a:Act} {ds:List DA} (h:SRd N lo c s a ds) {F:Fence} (hro:F.round=none):SR N (⟨c.w.heap.size,a.defers⟩,F) c s a :=
 ⟨h.h,h.size,Nat.le_refl _,⟨[],rfl,List.nodup_nil,fun D hD=>by cases hD⟩,fun l hl=>(by rw [hro] at hl;cases hl),h.tm⟩
theorem SRd.Qqy {N lo:Nat} {c c':Cx} {s s':AS} {a a':Act} {ds:List DA} {F:Fence} (hs:St c) (h:SRd N lo c s a ds) (hev:Ev c c') (hr:SR N (⟨c.w.heap.size,a.defers⟩,F) c' s' a'):SRd N lo c' s' a' ds :=
 ⟨hr.h,hr.size,Nat.le_trans h.above hev.size,h.defs.marks hs hev h.above hr.defers,hr.tm⟩
def DefW (P:Program) (N:Nat) (code:Code) (Q:AExit→AS→List DA→Prop) (s:AS) (ds:List DA):Prop :=
 ∀ (F:Fence) (n lo:Nat) (c:Cx) (a:Act),WF F→F.round=none→St c→SRd N lo c s a ds →
  ∀ R:Exit→Act→World→Prop,(∀ e s' ds' c' a' e',Q e s' ds'→Ev c c'→St c'→SRd N lo c' s' a' ds'→ExC c' e e'→R e' a' c'.w)→code.wpIn F n P R a c.w
section rules
variable {P:Program} {N:Nat} {Q:AExit→AS→List DA→Prop} {s:AS} {ds:List DA}
theorem Yv {code:Code} (H:XF P N code (fun e s'=>Q e s' ds) s):DefW P N code Q s ds:=by
 intro F n lo c a hF hro hst hr R hR
 refine H F n ⟨c.w.heap.size,a.defers⟩ c a hF hst (hr.sr hro) R fun e s' c' a' e' hQ hev hst' hsr hex=>?_
 exact hR e s' ds c' a' e' hQ hev hst' (hr.Qqy hst hev hsr) hex
def AExit.QqS (K:AS→List DA→Prop) (Q:AExit→AS→List DA→Prop):AExit→AS→List DA→Prop
 | .normal,s,ds=>K s ds
 |e,s,ds=>Q e s ds
theorem YR {x y:Code} (h:DefW P N x (AExit.QqS (fun s ds=>DefW P N y Q s ds) Q) s ds):DefW P N (.seq x y) Q s ds:=by
 intro F n lo c a hF hro hs hr R hR
 refine wpIn_seq (h F n lo c a hF hro hs hr _ ?_)
 intro e s' ds' c' a' e' hQ hev hst hsr hex
 cases e with
 |normal =>
  cases hex
  exact hQ F n lo c' a' hF hro hst hsr R fun e s2 ds2 c2 a2 e2 hQ2 hev2 hst2 hsr2 hex2=>hR e s2 ds2 c2 a2 e2 hQ2 (Ev.trans hs hev hev2) hst2 hsr2 hex2
 |exit id=>cases hex;exact hR _ s' ds' c' a' _ hQ hev hst hsr rfl
 |ret=>cases hex;exact hR _ s' ds' c' a' _ hQ hev hst hsr rfl
 |panic av=>obtain ⟨x,rfl,hx⟩:=hex;exact hR _ s' ds' c' a' _ hQ hev hst hsr ⟨x,rfl,hx⟩
theorem QbH {id:Nat} {ops:Array Oper} (i:Nat) {o:Oper} {cl:Call} {f:Operand} (ho:ops.toList[i]? = some o) (hop:o.op = .defer cl) (hcl:cl.callee = .value f)
  (H:OpsW P N ops (ops.toList.take i) (fun s1=>Qd ops s1.tm o=some true∧∃ g first cap,s1.ev f = .fn (.func g) first cap ∧
   OpsW P N ops (ops.toList.drop (i+1)) (fun s2=>Q .normal s2 ((g,first++cl.args.toList.map s1.ev++cap)::ds)) (fun r s2=>Q (.panic r) s2 ((g,first++cl.args.toList.map s1.ev++cap)::ds)) (AS.put N s1 o.dst (.v undef)))
   (fun r s1=>Q (.panic r) s1 ds) s):DefW P N (.region id ops false) Q s ds:=by
 intro F n lo c a hF hro hst hr R hR
 refine wpIn_region ?_
 have hlt:=Qt ho
 have hi:(ops.toList.take i).length=i:=by rw [List.length_take];omega
 have hrange:List.range ops.size=List.range' 0 (ops.toList.take i).length++(i::(List.range' (i+1) (ops.toList.drop (i+1)).length++[])):=by
  rw [hi,List.append_nil,List.length_drop,List.range_eq_range',← Array.length_toList]
  have:ops.toList.length=i+(1+(ops.toList.length - (i+1))):=by omega
  conv=>lhs;rw [this]
  rw [← List.range'_append_1,Nat.zero_add,← List.range'_append_1]
  rfl
 have hget:∀ j,(ops.toList.drop (i+1))[j]? = ops[i+1+j]? := fun j=>by rw [List.getElem?_drop];simp
 rw [hrange]
 refine Qbe hF (ops.toList.take i) 0 s c a (fun j hj=>by rw [List.getElem?_take,if_pos (by omega)];simp) H hst (hr.sr hro) ?_ ?_
 ·intro s1 c1 a1 h1 h2 h3 h4
  have h0:ops[i]? = some o:=by rw [← ho];simp
  obtain ⟨hw,g,first,cap,hf,hpost⟩:=h1
  simp only [wpOpsIn,h0]
  rw [Xd h4 hw]
  simp only [if_true]
  have hr1:=hr.Qqy hst h2 h4
  have hfv:=h4.eval f
  rw [hf] at hfv
  obtain ⟨vs,ws,hae,hv1,hv2⟩:∃ vs ws,a1.eval f = .func (.func g) vs ws∧RelL c1 first vs∧RelL c1 cap ws:=by
   generalize a1.eval f=u at hfv
   cases hfv with
   |fn _ _ _ vs ws e1 e2 g1 g2=>exact ⟨vs,ws,rfl,⟨e1,g1⟩,⟨e2,g2⟩⟩
  have hargs:RelL c1 (cl.args.toList.map s1.ev) (cl.args.map a1.eval):=by
   refine ⟨by simp,fun j x u hx hu=>?_⟩
   rw [List.getElem?_map] at hx
   rw [Array.getElem?_map] at hu
   cases hj:cl.args[j]? with
   |none=>simp [hj] at hu
   |some q =>
    simp only [hj,Qq1,Qq5] at hu
    simp only [Array.getElem?_toList,hj,Qq1,Qq5] at hx
    subst hx;subst hu
    exact h4.eval q
  have hD:RelD c1 (g,first++cl.args.toList.map s1.ev++cap) ⟨.fn (.func g) ws,vs++cl.args.map a1.eval⟩:=⟨ws,rfl,RelL.append (RelL.append hv1 hargs) hv2⟩
  have hrun:(execOp a1.eval o).run P c1.w = .ok (.defer ⟨.fn (.func g) ws,vs++cl.args.map a1.eval⟩) c1.w:=by
   simp only [execOp,hop,resolve,hcl,hae,Deferred.ofValue,Sem.run_bind,Sem.run_pure,Result.andThen_ok]
  refine ⟨fun f _=>hF.fn f,?_⟩
  rw [hro,Oper.semAt_none,hrun,Oper.uponIn_defer]
  have hput:=h4.put h3 (Ev.refl c1) o.dst (.v undef)
  rw [h4.h] at hput
  have hd2:DefsOk c1 lo ((g,first++cl.args.toList.map s1.ev++cap)::ds) (⟨.fn (.func g) ws,vs++cl.args.map a1.eval⟩::a1.defers):=by
   obtain ⟨es,e1,e2,e3,e4⟩:=hr1.defs
   refine ⟨.call _ ⟨.fn (.func g) ws,vs++cl.args.map a1.eval⟩::es,by rw [e1];rfl,by rw [e2];rfl,e3,fun e he=>?_⟩
   rcases List.mem_cons.1 he with rfl|he
   ·exact hD
   ·exact e4 e he
  have hdf:((({a1 with defers:=⟨.fn (.func g) ws,vs++cl.args.map a1.eval⟩::a1.defers}:Act).put o.dst undef)).defers=⟨.fn (.func g) ws,vs++cl.args.map a1.eval⟩::a1.defers:=by
   cases o.dst <;> rfl
  have htm:((({a1 with defers:=⟨.fn (.func g) ws,vs++cl.args.map a1.eval⟩::a1.defers}:Act).put o.dst undef)).tmps=(a1.put o.dst undef).tmps:=by
   cases o.dst <;> rfl
  have hr2:SRd N lo c1 (AS.put N s1 o.dst (.v undef)) (({a1 with defers:=⟨.fn (.func g) ws,vs++cl.args.map a1.eval⟩::a1.defers}:Act).put o.dst undef) ((g,first++cl.args.toList.map s1.ev++cap)::ds) :=
   ⟨hput.h,by rw [htm];exact hput.size,hr1.above,by rw [hdf];exact hd2,fun t=>by rw [htm];exact hput.tm t⟩
  refine Qbe hF _ (i+1) _ c1 _ (fun j _=>hget j) hpost h3 (hr2.sr hro) ?_ ?_
  ·intro s' c' a' hQ k1 k2 k3
   simp only [wpOpsIn]
   exact hR _ s' _ c' a' _ hQ (Ev.trans hst h2 k1) k2 (hr2.Qqy h3 k1 k3) rfl
  ·intro r s' c' a' x hQ k1 k2 k3 hx
   exact hR _ s' _ c' a' _ hQ (Ev.trans hst h2 k1) k2 (hr2.Qqy h3 k1 k3) ⟨x,rfl,hx⟩
 ·intro r s' c' a' x hQ h1 h2 h3 hx
  exact hR _ s' ds c' a' _ hQ h1 h2 (hr.Qqy hst h1 h3) ⟨x,rfl,hx⟩
end rules
inductive AMode where
 |ret
 |pan (v:AV) (recovered:Bool)
def MdC (c:Cx):AMode→FrameMode→Prop
 | .ret,u=>u = .returning
 | .pan v b,u=>∃ x,u = .panicking [{v:=x,recovered:=b}]∧Rel c v x
theorem MdC.ev {c c':Cx} (hs:St c) (h:Ev c c') {m:AMode} {u:FrameMode} (hm:MdC c m u):MdC c' m u:=by
 cases m with
 |ret=>exact hm
 |pan v b=>obtain ⟨x,e,r⟩:=hm;exact ⟨x,e,r.ev hs h⟩
theorem MdC.run {c:Cx} {m:AMode} {u:FrameMode} (hm:MdC c m u):u ≠ .run:=by
 cases m with
 |ret=>rw [show u = .returning from hm];simp
 |pan v b=>obtain ⟨x,e,r⟩:=hm;rw [e];simp
def AMode.settle:AMode→AMode
 | .pan _ true=>.ret
 |m=>m
theorem MdC.settle {c:Cx} {m:AMode} {u:FrameMode} (hm:MdC c m u):MdC c m.settle (Go.settle u):=by
 cases m with
 |ret=>rw [show u = .returning from hm];rfl
 |pan v b =>
  obtain ⟨x,rfl,r⟩:=hm
  cases b with
  |true=>rfl
  |false=>exact ⟨x,rfl,r⟩
def QaQ (P:Program) (f:FuncId) (args:List AV) (h:AH) (m:AMode) (Q:AMode→AH→Prop):Prop :=
 (∀ vals w,(callFunc f vals).run P w = .ok (.enter f vals) w) ∧
 ∀ (F:Fence) (n:Nat) (c:Cx) (vals:Array Value) (u:FrameMode),WF F→F.round=none→St c→c.h=h→RelL c args vals→MdC c m u →
  CallsDIn F n P f vals u c.w fun e u' w'=>∃ x m' c',e = .returned x∧Q m' c'.h∧Ev c c'∧St c'∧c'.w=w'∧MdC c' m' u'
def QfN (P:Program) (rs:List ResultVar) (h:AH) (Q:AOut→AH→Prop):List DA→AMode→AS→Prop
 |[],.ret,s=>QF P rs h Q .ret s
 |[],.pan v _,s=>QF P rs h Q (.panic v) s
 |d::ds,m,s=>QaQ P d.1 d.2 s.h m fun m' h'=>QfN P rs h Q ds m'.settle ⟨s.tm,h'⟩
structure Out (N:Nat) (c:Cx) (s:AS) (tmps:Array Value):Prop where
 h:c.h=s.h
 size:tmps.size=N
 tm:∀ t,Rel c (s.tm t) (tmps.getD t undef)
theorem Qbl {P:Program} {F:Fence} (hF:WF F) (hro:F.round=none) {n:Nat} {fn:Func} {tmps:Array Value} {rs:List ResultVar} (hrs:fn.results.toList=rs) {Q:AOut→AH→Prop} {c0:Cx} (hs0:St c0) :
  ∀ (es:List Ent) (c:Cx) (s:AS) (m:AMode) (u:FrameMode),Ev c0 c→St c→Out fn.ntmps c s tmps→(es.filterMap Ent.mk?).Nodup→(∀ e∈es,e.ok c c0.w.heap.size)→MdC c m u→(∀ v,m ≠ .pan v true) →
   QfN P rs c0.h Q (es.filterMap Ent.da) m s →
   LeavesInM F n P fn tmps (fun e w'=>∃ o c',Q o c'.h∧Ev c0 c'∧St c'∧c'.w=w'∧EndC c' o e) (es.map Ent.dfr) u c.w
 |[],c,s,m,u,hev,hst,hout,_,_,hm,hnr,H=>by
  have hsr:SR fn.ntmps (⟨0,[]⟩,F) c s {tmps:=tmps,defers:=[]}:=⟨hout.h,hout.size,Nat.zero_le _,⟨[],rfl,List.nodup_nil,fun D h=>by cases h⟩,fun l hl=>(by rw [hro] at hl;cases hl),hout.tm⟩
  cases m with
  |ret =>
   rw [show u = .returning from hm]
   obtain ⟨r,hres,hl⟩:=(show QF P rs c0.h Q .ret s from H)
   subst hrs
   obtain ⟨x,hrun,hx⟩:=QaL hst hsr hres
   rw [← hout.h] at hl
   obtain ⟨c3,r',h1,h2,h3,h4,h5⟩:=ZH hs0 hst hev hx hl
   exact ⟨x,hrun,.ret r',c3,h1,h2,h3,h4,x,rfl,h5⟩
  |pan v b =>
   obtain ⟨x,rfl,hx⟩:=hm
   have hl:Leaves c0.h s.h v fun r h'=>Q (.panic r) h':=H
   rw [← hout.h] at hl
   obtain ⟨c3,r',h1,h2,h3,h4,h5⟩:=ZH hs0 hst hev hx hl
   cases b with
   |true=>exact absurd rfl (hnr v)
   |false=>exact ⟨.panic r',c3,h1,h2,h3,h4,x,rfl,h5⟩
 | .mark D::es,c,s,m,u,hev,hst,hout,hnd,hok,hm,hnr,H=>by
  obtain ⟨hD1,hD2,hD3⟩:=hok (.mark D) (by simp)
  simp only [Qre,LeavesInM]
  refine ⟨hm.run,.inl ⟨D,_,rfl,Zu hD2,?_⟩⟩
  have hnd':=List.nodup_cons.1 (show (D::es.filterMap Ent.mk?).Nodup from hnd)
  have hold:∀ k,k≠D→({c.w with heap:=c.w.heap.setIfInBounds D (.deferred none)}:World).heap[k]? = c.w.heap[k]? := fun k hk=>by
   show (c.w.heap.setIfInBounds D _)[k]? = _
   rw [Array.getElem?_setIfInBounds_ne (fun e=>hk e.symm)]
  have hsz:({c.w with heap:=c.w.heap.setIfInBounds D (.deferred none)}:World).heap.size=c.w.heap.size:=by simp
  have hidle:∀ k,({c.w with heap:=c.w.heap.setIfInBounds D (.deferred none)}:World).heap[k]? = c.w.heap[k]? ∨ (c0.w.heap.size≤k∧¬ c.owns k∧∃ o,c.w.heap[k]? = some (.deferred o)):=fun k=>by
   by_cases hk:k=D
   ·subst hk;exact .inr ⟨hD1,hD3,_,hD2⟩
   ·exact .inl (hold k hk)
  have hcells:∀ (k:Nat) cs t fr,c.w.heap[k]? = some (Obj.cells cs t fr)→({c.w with heap:=c.w.heap.setIfInBounds D (.deferred none)}:World).heap[k]? = c.w.heap[k]? := fun k cs t fr hk=>by
   rcases hidle k with h|⟨_,_,o,h⟩
   ·exact h
   ·rw [hk] at h;cases h
  have hst2:=hst.idle hsz fun k o hk=>by
   rcases hidle k with h|⟨_,_,d,h⟩
   ·exact .inl (h.trans hk)
   ·rw [hk] at h;cases h;exact .inr ⟨d,rfl⟩
  have hrel:∀ a x,Rel c a x→Rel (c.to {c.w with heap:=c.w.heap.setIfInBounds D (.deferred none)}) a x:=fun a x hax=>hax.idle hsz hcells
  refine Qbl hF hro hrs hs0 es (c.to _) s m u (Ev.idle hst hev rfl rfl rfl hsz hidle) hst2 ⟨hout.h,hout.size,fun t=>hrel _ _ (hout.tm t)⟩ hnd'.2 (fun e he=>?_) ?_ hnr H
  ·have:=hok e (by simp [he])
   cases e with
   |mark D' =>
    obtain ⟨g1,g2,g3⟩:=this
    have hne:D'≠D:=fun h=>hnd'.1 (by subst h;exact List.mem_filterMap.2 ⟨_,he,rfl⟩)
    exact ⟨g1,(hold D' hne).trans g2,g3⟩
   |call d x =>
    obtain ⟨caps,e,r⟩:=this
    exact ⟨caps,e,r.1,fun j a u h1 h2=>hrel _ _ (r.2 j a u h1 h2)⟩
  ·cases m with
   |ret=>exact hm
   |pan v b=>obtain ⟨x,e,r⟩:=hm;exact ⟨x,e,hrel _ _ r⟩
 | .call d x::es,c,s,m,u,hev,hst,hout,hnd,hok,hm,hnr,H=>by
  obtain ⟨caps,htar,hargs⟩:=hok (.call d x) (by simp)
  obtain ⟨hcall,hbody⟩:=(show QaQ P d.1 d.2 s.h m fun m' h'=>QfN P rs c0.h Q (es.filterMap Ent.da) m'.settle ⟨s.tm,h'⟩ from H)
  simp only [Qre,LeavesInM,Ent.dfr]
  refine ⟨hm.run,.inr ⟨fun hd=>by simp [hF.depth] at hd,_,_,d.1,x.args++caps,htar,by rw [htar];simp only [invoke,hcall],fun _ _=>hF.fn _,?_⟩⟩
  refine (hbody F (n - 1) c _ u hF hro hst hout.h hargs hm).mono ?_
  rintro e u' w' ⟨y,m',c',rfl,hQ,hev',hst',rfl,hm'⟩
  refine Qbl hF hro hrs hs0 es c' ⟨s.tm,c'.h⟩ m'.settle (Go.settle u') (Ev.trans hs0 hev hev') hst' ⟨rfl,hout.size,fun t=>(hout.tm t).ev hst hev'⟩ hnd (fun e he=>(hok e (by simp [he])).ev hst hev') hm'.settle (fun v h=>?_) hQ
  cases m' with
  |ret=>cases h
  |pan v' b=>cases b <;> cases h
def Qku (P:Program) (rs:List ResultVar) (h:AH) (Q:AOut→AH→Prop):AExit→AS→List DA→Prop
 | .normal,s,ds | .ret,s,ds=>QfN P rs h Q ds .ret s
 | .panic v,s,ds=>QfN P rs h Q ds (.pan v false) s
 | .exit _,_,_=>False
theorem Qaf {P:Program} {f:FuncId} {fn:Func} {code:Code} {args:List AV} {h:AH} {Q:AOut→AH→Prop} (hf:P.funcs[f]? = some fn) (hb:fn.body=some code)
  (hcall:∀ vals w,(callFunc f vals).run P w = .ok (.enter f vals) w) {N:Nat} (hN:fn.ntmps=N) {rs:List ResultVar} (hrs:fn.results.toList=rs) (hn:args.length≤N) (H:DefW P N code (Qku P rs h Q) ⟨Qq args,h⟩ []):QJ P f args h Q:=by
 subst hN
 refine ⟨hcall,fun F n c vals hF hs hh hvals=>Qaz ?_⟩
 subst hh
 refine callsIn_of_wp_marks hf hb (hF.plain.fn f) ?_
 have hsr:SRd fn.ntmps c.w.heap.size c ⟨Qq args,c.h⟩ {tmps:=vals++Array.replicate (fn.ntmps - vals.size) undef,defers:=[]} []:=by
  refine ⟨rfl,by have:=hvals.1;simp;omega,Nat.le_refl _,⟨[],rfl,rfl,List.nodup_nil,fun e h=>by cases h⟩,fun t=>?_⟩
  simp only [Qq]
  rw [Array.getD_eq_getD_getElem?,Array.getElem?_append,List.getD_eq_getElem?_getD]
  have hsz:=hvals.1
  by_cases ht:t<vals.size
  ·rw [if_pos ht]
   obtain ⟨u,hu⟩:∃ u,vals[t]? = some u:=⟨_,Array.getElem?_eq_getElem ht⟩
   obtain ⟨a,ha⟩:∃ a,args[t]? = some a:=⟨_,List.getElem?_eq_getElem (by omega)⟩
   rw [hu,ha]
   exact hvals.2 t a u ha hu
  ·rw [if_neg ht,List.getElem?_eq_none (by omega),Array.getElem?_replicate]
   split
   ·exact .v _
   ·exact .v _
 refine H F.plain n c.w.heap.size c _ hF.plain rfl hs hsr _ ?_
 intro e s' ds' c' a' e' hQ hev hst hr hex
 obtain ⟨es,e1,e2,e3,e4⟩:=hr.defs
 subst e2
 have hout:Out fn.ntmps c' s' a'.tmps:=⟨hr.h,hr.size,hr.tm⟩
 have key:=fun (m:AMode) (u:FrameMode) (hm:MdC c' m u) (hnr:∀ v,m ≠ .pan v true) H=>e1▸Qbl (P:=P) hF.plain rfl (n:=n) (fn:=fn) (tmps:=a'.tmps) hrs (Q:=Q) hs es c' s' m u hev hst hout e3 e4 hm hnr H
 cases e with
 |normal=>cases hex;exact key .ret .returning rfl (fun v h=>by cases h) hQ
 |ret=>cases hex;exact key .ret .returning rfl (fun v h=>by cases h) hQ
 |panic av =>
  obtain ⟨x,rfl,hx⟩:=hex
  exact key (.pan av false) _ ⟨x,rfl,hx⟩ (fun v h=>by cases h) hQ
 |exit id=>exact hQ.elim
theorem Qa6 {P:Program} {F:Fence} {n:Nat} {fn:Func} {tmps:Array Value} {R:Ending→World→Prop}:∀ (ds:List Deferred) (u:FrameMode) (w:World) (fr:Frame)
  (cs:List Frame),fr.mode=u→fr.defers=ds→fr.tmps=tmps→P.funcs[fr.fn]? = some fn→fr.kind = .deferred→F.fn fr.fn→F.room (cs.length+1+n)→LeavesInM F n P fn tmps R ds u w →
  ∃ e w' fr',R e w'∧ComesIn (Machine.fenced P F) P (lone fr cs w) (lone fr' cs w') e∧fr'.fn=fr.fn∧fr'.kind = .deferred∧fr'.going P w' e:=by
 intro ds
 induction ds with
 |nil =>
  intro u w fr cs hu hd ht hf hk _ _ h
  cases u with
  |run=>exact h.elim
  |returning =>
   obtain ⟨v,hr,hR⟩:=h
   exact ⟨.returned v,w,fr,hR,StepsIn.refl _,rfl,hk,hu,hd,fn,hf,ht▸hr⟩
  |panicking chain=>exact ⟨.panicked chain,w,fr,h,StepsIn.refl _,rfl,hk,hu,hd,fn,hf⟩
 |cons d ds ih =>
  intro u w fr cs hu hd ht hf hk hb hroom h
  obtain ⟨hrun,h⟩:=h
  rcases h with ⟨r,w',htar,htake,hrest⟩|⟨hn,fv,cap,f,args,htar,hinv,hlead,hFf,hcall⟩
  ·have h1:=step_collected (cs:=cs) (hu▸hrun) hd htar htake
   have i1:(lone fr cs w).fenced P F:=fenced_out hb hroom (hu▸hrun) hd (fun g hg=>by rw [htar] at hg;simp [Target.leads] at hg)
   obtain ⟨e',w'',fr',hR',hs',hfn',hl'⟩:=ih u w' {fr with defers:=[]++ds} cs hu rfl ht hf hk hb hroom hrest
   exact ⟨e',w'',fr',hR',ComesIn.of_steps (.one i1 h1) hs',hfn',hl'⟩
  ·have h1:=step_defer (cs:=cs) (hu▸hrun) hd htar hinv
   have i1:(lone fr cs w).fenced P F:=fenced_out hb hroom (hu▸hrun) hd hlead
   have hroom':F.room (({fr with defers:=ds}::cs).length+1+(n - 1)):=Fence.room_enter hroom hn
   obtain ⟨e,u',w',frX,hR,hsteps,hkX,hfX,hgo⟩:=hcall {fr with defers:=ds} cs hu hroom'
   cases e with
   |outgrown=>exact ⟨.outgrown,w',fr,hR,Outgrown.of_steps (.one h1) hsteps,rfl,hk,trivial⟩
   |returned v =>
    have i2:(lone frX ({{fr with defers:=ds} with mode:=u'}::cs) w').fenced P F:=fenced_going (n:=n - 1) (hfX▸hFf) hroom' hgo
    have h2:=step_going_returned (c:={{fr with defers:=ds} with mode:=u'}) (cs:=cs) hkX hgo
    obtain ⟨e',w'',fr',hR',hs',hfn',hl'⟩:=ih (Go.settle u') w' {{{fr with defers:=ds} with mode:=u'} with mode:=Go.settle u'} cs rfl rfl ht hf hk hb hroom hR
    exact ⟨e',w'',fr',hR',ComesIn.of_steps (.head i1 h1 (StepsIn.trans hsteps (.one i2 h2))) hs',hfn',hl'⟩
   |panicked chain =>
    have i2:(lone frX ({{fr with defers:=ds} with mode:=u'}::cs) w').fenced P F:=fenced_going (n:=n - 1) (hfX▸hFf) hroom' hgo
    have h2:=step_going_panicked (c:={{fr with defers:=ds} with mode:=u'}) (cs:=cs) hgo
    obtain ⟨e',w'',fr',hR',hs',hfn',hl'⟩:=ih (raised u' chain) w' {{{fr with defers:=ds} with mode:=u'} with mode:=raised u' chain} cs rfl rfl ht hf hk hb hroom hR
    exact ⟨e',w'',fr',hR',ComesIn.of_steps (.head i1 h1 (StepsIn.trans hsteps (.one i2 h2))) hs',hfn',hl'⟩
end Go.Proofs.YticgcpebdldbgaaDoor.Ab
namespace Go.Proofs.YticgcpebdldbgaaDoor.Ab
theorem QaX {P:Program} {F:Fence} {n:Nat} {f:FuncId} {fn:Func} {c:Code} {args:Array Value} {u:FrameMode} {w:World} {R:Ending→World→Prop} {u2:FrameMode}
  (hf:P.funcs[f]? = some fn) (hb:fn.body=some c) (hF:F.fn f)
  (h:∀ (c₀:Frame) (cs:List Frame),c₀.mode=u→c.wpSIn F n P (fun e a' cs' w'=>cs'={c₀ with mode:=u2}::cs∧bodyPostM F n P fn R e a' w') {tmps:=args++Array.replicate (fn.ntmps - args.size) undef,defers:=[]} (c₀::cs) w) (hro:F.round=none) :
  CallsDIn F n P f args u w fun e u' w'=>u'=u2∧R e w':=by
 refine ⟨hF,fun c₀ cs hu hr=>?_⟩
 let b:Frame:={(default:Frame) with fn:=f,kind:=.deferred,roundOf:=none}
 have henter:Frame.enter P f args .deferred =
   b.atR {tmps:=args++Array.replicate (fn.ntmps - args.size) undef,defers:=[]} [.code c]:=by
  simp [Frame.enter,Frame.atR,hf,hb,b]
 obtain ⟨e,a',cs',w',hlen,⟨rfl,hq⟩,harr⟩:=h c₀ cs hu b [] rfl rfl hF hr
 have hr':F.room (({c₀ with mode:=u2}::cs).length+1+n):=hr
 rw [← henter] at harr
 cases e with
 |normal =>
  obtain ⟨e',w'',fr',hR,hs,hfn,hk,hl⟩:=Qa6 a'.defers .returning w' {b.atR a' [] with mode:=.returning} ({c₀ with mode:=u2}::cs) rfl rfl rfl hf rfl hF hr' hq
  exact ⟨e',u2,w'',fr',⟨rfl,hR⟩,ComesIn.of_steps (StepsIn.trans harr (.one (fenced_calm (fr:=b.atR a' []) hF hr' rfl) (stepR_end rfl))) hs,hk,hfn,hl⟩
 |ret =>
  obtain ⟨todo,hs₀⟩:=harr.1 rfl
  obtain ⟨e',w'',fr',hR,hs,hfn,hk,hl⟩:=Qa6 a'.defers .returning w' {b.atR a' todo with mode:=.returning} ({c₀ with mode:=u2}::cs) rfl rfl rfl hf rfl hF hr' hq
  exact ⟨e',u2,w'',fr',⟨rfl,hR⟩,ComesIn.of_steps hs₀ hs,hk,hfn,hl⟩
 |panic chain =>
  obtain ⟨todo,hs₀⟩:=harr
  obtain ⟨e',w'',fr',hR,hs,hfn,hk,hl⟩:=Qa6 a'.defers (.panicking chain) w' {b.atR a' todo with mode:=.panicking chain} ({c₀ with mode:=u2}::cs) rfl rfl rfl hf rfl hF hr' hq
  exact ⟨e',u2,w'',fr',⟨rfl,hR⟩,ComesIn.of_steps hs₀ hs,hk,hfn,hl⟩
 |exit id=>exact hq.elim
 |goto l=>exact hq.elim
 |outgrown=>exact ⟨.outgrown,u2,w',b,⟨rfl,hq⟩,harr.resolve_left (by simp [b]),rfl,rfl,trivial⟩
def recV:AMode→AV
 | .pan v false=>v
 |_=>.v .nilIface
def recM:AMode→AMode
 | .pan v false=>.pan v true
 |m=>m
theorem Qbx {P:Program} {f:FuncId} {fn:Func} {id x y:Nat} {t1 t2:TypeId} {p1 p2:String} {a1 a2:Array Edge} {rest:Code} {args:List AV} {h:AH} {Q:AH→Prop} (hf:P.funcs[f]? = some fn)
  (hb:fn.body=some (.seq (.region id #[{dst:=some x,op:=.call ⟨.builtin .recover,#[],#[]⟩,type:=t1,pos:=p1,after:=a1,guard:=none},{dst:=some y,op:=.assign (.tmp x),type:=t2,pos:=p2,after:=a2,guard:=none}] false) rest))
  (hcall:∀ vals w,(callFunc f vals).run P w = .ok (.enter f vals) w) {N:Nat} (hN:fn.ntmps=N) {rs:List ResultVar} (hrs:fn.results.toList=rs) (hn:args.length≤N) (hx:x<N) (hy:y<N) (m:AMode)
  (H:XF P N rest (QF P rs h fun o h'=>(∃ r,o = .ret r)∧Q h') ⟨upd (upd (Qq args) x (recV m)) y (recV m),h⟩):QaQ P f args h m fun m' h'=>m'=recM m∧Q h':=by
 subst hN
 refine ⟨hcall,fun F n c vals u hF hro hs hh hvals hm=>?_⟩
 subst hh
 have hsr0:SRd fn.ntmps c.w.heap.size c ⟨Qq args,c.h⟩ {tmps:=vals++Array.replicate (fn.ntmps - vals.size) undef,defers:=[]} []:=by
  refine ⟨rfl,by have:=hvals.1;simp;omega,Nat.le_refl _,⟨[],rfl,rfl,List.nodup_nil,fun e h=>by cases h⟩,fun t=>?_⟩
  simp only [Qq]
  rw [Array.getD_eq_getD_getElem?,Array.getElem?_append,List.getD_eq_getElem?_getD]
  have hsz:=hvals.1
  by_cases ht:t<vals.size
  ·rw [if_pos ht]
   obtain ⟨u,hu⟩:∃ u,vals[t]? = some u:=⟨_,Array.getElem?_eq_getElem ht⟩
   obtain ⟨a,ha⟩:∃ a,args[t]? = some a:=⟨_,List.getElem?_eq_getElem (by omega)⟩
   rw [hu,ha]
   exact hvals.2 t a u ha hu
  ·rw [if_neg ht,List.getElem?_eq_none (by omega),Array.getElem?_replicate]
   split
   ·exact .v _
   ·exact .v _
 -- what recover does to the frame below
 obtain ⟨rv,u2,hrel,hm2,hrec⟩:∃ (rv:Value) (u2:FrameMode),Rel c (recV m) rv∧MdC c (recM m) u2∧∀ (c₀:Frame) (cs:List Frame),c₀.mode=u →
   (recoverD (c₀::cs)=some (rv,{c₀ with mode:=u2}::cs))∨(recoverD (c₀::cs)=none∧rv = .nilIface∧({c₀ with mode:=u2}:Frame)=c₀):=by
  cases m with
  |ret =>
   obtain rfl:u = .returning:=hm
   refine ⟨.nilIface,.returning,.v _,rfl,fun c₀ cs hu=>.inr ⟨?_,rfl,by rw [← hu]⟩⟩
   simp only [recoverD,hu]
  |pan v b =>
   obtain ⟨xv,rfl,hv⟩:=hm
   cases b with
   |false =>
    refine ⟨xv,_,hv,⟨xv,rfl,hv⟩,fun c₀ cs hu=>.inl ?_⟩
    simp only [recoverD,hu]
   |true =>
    refine ⟨.nilIface,_,.v _,⟨xv,rfl,hv⟩,fun c₀ cs hu=>.inr ⟨?_,rfl,by rw [← hu]⟩⟩
    simp only [recoverD,hu]
 have hsr:SRd fn.ntmps c.w.heap.size c ⟨upd (upd (Qq args) x (recV m)) y (recV m),c.h⟩ (((⟨vals++Array.replicate (fn.ntmps - vals.size) undef,[]⟩:Act).put (some x) rv).put (some y) rv) []:=by
  have s1:=(hsr0.sr hro).put hs (Ev.refl c) (some x) hrel
  have s2:=s1.put hs (Ev.refl c) (some y) hrel
  have s3:=hsr0.Qqy hs (Ev.refl c) s2
  simp only [AS.put,if_pos hx,if_pos hy] at s3
  exact s3
 refine (QaX (u2:=u2) (R:=fun e w'=>∃ (o:AOut) (c':Cx),((∃ r,o=AOut.ret r)∧Q c'.h)∧Ev c c'∧St c'∧c'.w=w'∧EndC c' o e) hf hb (hF.fn f) (fun c₀ cs hu=>?_) hro).mono ?_
 ·apply wpSIn_seq
  apply wpSIn_region
  have hput:∀ cs',cs'=({c₀ with mode:=u2}:Frame)::cs→rest.wpSIn F n P (fun e a' cs'' w'=>cs''={c₀ with mode:=u2}::cs∧bodyPostM F n P fn (fun e w'=>∃ (o:AOut) (c':Cx),((∃ r,o=AOut.ret r)∧Q c'.h)∧Ev c c'∧St c'∧c'.w=w'∧EndC c' o e) e a' w')
    (((⟨vals++Array.replicate (fn.ntmps - vals.size) undef,[]⟩:Act).put (some x) rv).put (some y) rv) cs' c.w:=by
   rintro cs' rfl
   refine wpSIn_of_wpIn hro ?_
   refine Yv (H.mono fun e s hq=>(by cases e <;> exact hq:Qku P rs c.h (fun o h'=>(∃ r,o=AOut.ret r)∧Q h') e s [])) F n c.w.heap.size c _ hF hro hs hsr _ ?_
   intro e s' ds' c' a' e' hQ hev hst hr hex
   obtain ⟨es,e1,e2,e3,e4⟩:=hr.defs
   subst e2
   have hout:Out fn.ntmps c' s' a'.tmps:=⟨hr.h,hr.size,hr.tm⟩
   have key:=fun (m:AMode) (u:FrameMode) (hm:MdC c' m u) (hnr:∀ v,m ≠ .pan v true) H=>e1▸Qbl (P:=P) hF hro (n:=n) (fn:=fn) (tmps:=a'.tmps) hrs (Q:=fun o h'=>(∃ r,o=AOut.ret r)∧Q h') hs es c' s' m u hev hst hout e3 e4 hm hnr H
   refine ⟨rfl,?_⟩
   cases e with
   |normal=>cases hex;exact key .ret .returning rfl (fun v h=>by cases h) hQ
   |ret=>cases hex;exact key .ret .returning rfl (fun v h=>by cases h) hQ
   |panic av =>
    obtain ⟨x,rfl,hx⟩:=hex
    exact key (.pan av false) _ ⟨x,rfl,hx⟩ (fun v h=>by cases h) hQ
   |exit id=>exact hQ.elim
  have r2:((⟨vals++Array.replicate (fn.ntmps - vals.size) undef,[]⟩:Act).put (some x) rv).eval (.tmp x)=rv:=by
   have hlt:x<(vals++Array.replicate (fn.ntmps - vals.size) undef).size:=by have:=hsr0.size;simp only at this;omega
   simp only [Array.size_append,Array.size_replicate] at hlt
   simp [Act.put,Act.eval]
   intro h;omega
  have hlt2:x<vals.size+(fn.ntmps - vals.size):=by omega
  show wpOpsSIn F n P _ _ [0,1] _ _ _
  rcases hrec c₀ cs hu with hr|⟨hr,rfl,hc⟩
  ·simp [wpOpsSIn,Region.wanted,execOp,go_sem,resolve,invoke,hr,hF.fn,Exit.thenS,hlt2]
   exact hput _ rfl
  ·simp [wpOpsSIn,Region.wanted,execOp,go_sem,resolve,invoke,hr,hF.fn,Exit.thenS,hlt2]
   exact hput _ (by rw [hc])
 ·rintro e u' w' ⟨rfl,o,c',⟨⟨r,rfl⟩,hQ⟩,hev,hst',rfl,xx,rfl,hx'⟩
  exact ⟨xx,recM m,c',rfl,⟨rfl,hQ⟩,hev,hst',rfl,hm2.ev hs hev⟩
end Go.Proofs.YticgcpebdldbgaaDoor.Ab
set_option maxRecDepth 4000
namespace Go.Proofs.YticgcpebdldbgaaDoor.Ab
open Go.Proofs
section
variable {P:Pz} {s:PS} (hW:Wst P.all s) {h:AH} (H:P.ok h) (hN:P.all.length≤1000000)
include hW H hN
theorem Qgz (b:ByteArray) (hb:s.is b.toList=true):QJ Tryd.prog 39 [.ptr P.i 0 0,.v (.string b)] (ph h P s) fun o h'=>o = .ret (.b true)∧h'=ph h P s.nx:=by
 have hX:=XS H s
 have hi:=ph_i H s
 have hp':=QlN hW H hN (PS.Qqb hb)
 have hp0:=hp' []
 have hi0:=hX
 rw [pB] at hi0
 simp only [pB] at hi
 simp only [Qrs] at hp0
 have ci:=Qlo hW hX b
 rw [hb] at ci
 refine Qe Tryd.func39 rfl Tryd.call39 Tryd.ntmps39 (congrArg Array.toList Tryd.results39) (by simp) ?_
 repeat (first|((first|(with_reducible (first|refine Qa fun K E hK hE=>?_|refine FunW.ret (FunW.call ci) ?_)));simp -implicitDefEqProofs only [Qc,Qd,OpW,QE,aop,undef,AS.ev,Qq,AV.Qp8,↓reduceIte,Qg,Qw,Qv,QB,Qp,aBin,ti3,Qfl,Qs,hi0,hp0,seval])|(with_reducible (first|refine Qf fun K hK=>?_|refine Ql ?_|refine Qu ?_))|((with_reducible refine hK _ ?_);clear hK)|(refine Qh rfl ?_;simp only [↓reduceIte]))
 simp -implicitDefEqProofs only [Yq,↓reduceIte,Qq5,QF,Qn,Qr,Qq9]
 exact .inr ⟨rfl,rfl⟩
theorem QiE (b:ByteArray) (hb:s.is b.toList=false):QJ Tryd.prog 39 [.ptr P.i 0 0,.v (.string b)] (ph h P s) fun o h'=>o = .ret (.b false)∧h'=ph h P s:=by
 have _u:=hN
 have hX:=XS H s
 have ci:=Qlo hW hX b
 rw [hb] at ci
 refine Qe Tryd.func39 rfl Tryd.call39 Tryd.ntmps39 (congrArg Array.toList Tryd.results39) (by simp) ?_
 repeat (first|((first|(with_reducible (first|refine Qa fun K E hK hE=>?_|refine FunW.ret (FunW.call ci) ?_)));simp -implicitDefEqProofs only [Qc,Qd,OpW,QE,aop,undef,AS.ev,Qq,↓reduceIte,seval])|(with_reducible (first|refine Qf fun K hK=>?_|refine Ql ?_|refine Qm ?_|refine Qb ?_))|((with_reducible refine hK _ ?_);clear hK)|(refine Qh rfl ?_;simp only [↓reduceIte,Qq3]))
 simp -implicitDefEqProofs only [Yq,↓reduceIte,Qq5,QF,Qn,Qr,Qq9]
 exact .inr ⟨rfl,rfl⟩
theorem QjL (b:ByteArray) (hb:s.is b.toList=true):QJ Tryd.prog 36 [.ptr P.i 0 0,.v (.string b)] (ph h P s) fun o h'=>o = .ret (.tup [])∧h'=ph h P s.nx:=by
 have cs:=Qgz hW H hN b hb
 refine Qe Tryd.func36 rfl Tryd.call36 Tryd.ntmps36 (congrArg Array.toList Tryd.results36) (by simp) ?_
 repeat (first|((first|(with_reducible (first|refine Qa fun K E hK hE=>?_|refine FunW.ret (FunW.call cs) ?_)));simp -implicitDefEqProofs only [Qc,Qd,OpW,QE,aop,undef,AS.ev,Qq,↓reduceIte,seval])|(with_reducible refine Qm ?_)|((with_reducible refine hK _ ?_);clear hK)|(refine Qh rfl ?_;simp only [↓reduceIte,Qq3]))
 simp -implicitDefEqProofs only [Qq1,Qq5,List.mapM_nil,Option.pure_def,Qq1,QF,Qn,Qq9]
 exact .inr ⟨rfl,rfl⟩
theorem Qk5 (b:ByteArray) (hb:s.is b.toList=false):QJ Tryd.prog 36 [.ptr P.i 0 0,.v (.string b)] (ph h P s) fun o h'=>o = .panic (Fl s.tk.pos 16)∧h'=ph h P s:=by
 have cs:=QiE hW H hN b hb
 have cn:=XE hW (XS H s)
 have cf:=Yw s.tk 16
 refine Qe Tryd.func36 rfl Tryd.call36 Tryd.ntmps36 (congrArg Array.toList Tryd.results36) (by simp) ?_
 repeat (first|((first|(with_reducible (first|refine Qa fun K E hK hE=>?_|refine Qk fun K E hK hE=>?_|refine FunW.ret (FunW.call cs) ?_|refine FunW.ret (FunW.call cn) ?_|refine FunW.pan (FunW.call (cf _ _)) ?_)));simp -implicitDefEqProofs only [Qc,Qd,OpW,QE,aop,undef,AS.ev,Qq,↓reduceIte,seval])|((with_reducible refine hK _ ?_);clear hK)|(refine Qh rfl ?_;simp only [↓reduceIte])|(with_reducible refine hE _ _ ?_))
 exact .inr ⟨rfl,rfl⟩
theorem Qnt (n m:Int) (hm:¬ m≤n):QJ Tryd.prog 19 [.ptr P.i 0 0,.i n,.i m] (ph h P s) fun o h'=>o = .ret (.tup [])∧h'=ph h P s:=by
 have _u:=hN
 have _v:=hW
 have _w:=H
 have z1:¬ n≥m:=hm
 refine Qe Tryd.func19 rfl Tryd.call19 Tryd.ntmps19 (congrArg Array.toList Tryd.results19) (by simp) ?_
 repeat (first|(((with_reducible refine Qa fun K E hK hE=>?_));simp -implicitDefEqProofs only [Qc,Qd,OpW,aop,undef,AS.ev,Qq,↓reduceIte,aBin,hm,seval])|(with_reducible refine Qm ?_)|((with_reducible refine hK _ ?_);clear hK)|(refine Qh rfl ?_;simp only [↓reduceIte,Qq3]))
 simp -implicitDefEqProofs only [Qq1,Qq5,List.mapM_nil,Option.pure_def,Qq1,QF,Qn,Qq9]
 exact .inr ⟨rfl,rfl⟩
theorem QoD (n m:Int) (hm:m≤n):QJ Tryd.prog 19 [.ptr P.i 0 0,.i n,.i m] (ph h P s) fun o h'=>o = .panic (Fl s.tk.pos 6)∧h'=ph h P s:=by
 have _u:=hN
 have z1:n≥m:=hm
 have cn:=XE hW (XS H s)
 have cf:=Yw s.tk 6
 refine Qe Tryd.func19 rfl Tryd.call19 Tryd.ntmps19 (congrArg Array.toList Tryd.results19) (by simp) ?_
 repeat (first|((first|(with_reducible (first|refine Qa fun K E hK hE=>?_|refine Qk fun K E hK hE=>?_|refine FunW.ret (FunW.call cn) ?_|refine FunW.pan (FunW.call (cf _ _)) ?_)));simp -implicitDefEqProofs only [Qc,Qd,OpW,QE,aop,undef,AS.ev,Qq,↓reduceIte,aBin,hm,seval])|((with_reducible refine hK _ ?_);clear hK)|(refine Qh rfl ?_;simp only [↓reduceIte])|(with_reducible refine hE _ _ ?_))
 exact .inr ⟨rfl,rfl⟩
theorem Qhh:QJ Tryd.prog 35 [.ptr P.i 0 0] (ph h P s) fun o h'=>match ZY s with
  | .ok x s2=>o = .ret (.v (.string x))∧h'=ph h P s2
  | .err p e=>o = .panic (Fl p e)∧∃ s2,h'=ph h P s2:=by
 have ct:=Xm hW H hN
 have e1:=Tk.Qp9 s.tk
 have e2:=Tk.Qqa s.tk
 have f1:=QS h P s.nx
 have f3:=Xr h P
 have f4:=XY h P
 have f5:=Xe h P
 have f6:=XC h P
 unfold ZY
 by_cases h1:s.tk.kind=1
 ·rw [if_neg (by simpa using h1)]
  have z1:(s.tk.kind != 1)=false:=by simpa using h1
  have cr:=Qcr s.tk.text
  cases hr:resB s.tk.text with
  |true =>
   rw [if_pos rfl]
   rw [hr] at cr
   have cf:=Yw s.tk 7
   refine Qe Tryd.func35 rfl Tryd.call35 Tryd.ntmps35 (congrArg Array.toList Tryd.results35) (by simp) ?_
   repeat (first|((first|(with_reducible (first|refine Qa fun K E hK hE=>?_|refine Qk fun K E hK hE=>?_|refine FunW.ret (FunW.call ct) ?_|refine Qz cr ?_|refine FunW.pan (FunW.call (cf _ _)) ?_)));simp -implicitDefEqProofs only [Qc,Qd,OpW,QE,aop,undef,AS.ev,Qq,AV.Qp8,↓reduceIte,Qg,Qw,Qv,QB,Qp,aBin,ti3,ti9,ti60,QQ,Xc,zi60,e1,e2,f1,f3,f5,z1,seval])|(with_reducible (first|refine Qf fun K hK=>?_|refine Qj ?_))|((with_reducible refine hK _ ?_);clear hK)|(refine Qh rfl ?_;simp only [↓reduceIte,Qq3])|(with_reducible (first|refine hE _ _ ?_|refine QM ?_|refine Q6 ?_)))
   exact Xg H (s:=s) (s':=s.nx) (.keep (Qbm _ _ _)) ⟨rfl,_,rfl⟩
  |false =>
   rw [if_neg (by simp)]
   rw [hr] at cr
   refine Qe Tryd.func35 rfl Tryd.call35 Tryd.ntmps35 (congrArg Array.toList Tryd.results35) (by simp) ?_
   repeat (first|((first|(with_reducible (first|refine Qa fun K E hK hE=>?_|refine FunW.ret (FunW.call ct) ?_|refine Qz cr ?_)));simp -implicitDefEqProofs only [Qc,Qd,OpW,QE,aop,undef,AS.ev,Qq,AV.Qp8,↓reduceIte,Qg,Qw,Qv,QB,Qp,aBin,ti3,ti9,ti60,QQ,Xc,zi60,e1,e2,f1,f3,f5,z1,seval])|(with_reducible (first|refine Qf fun K hK=>?_|refine Qj ?_|refine Ql ?_|refine Qm ?_|refine Qb ?_|refine Qo ?_))|((with_reducible refine hK _ ?_);clear hK)|(refine Qh rfl ?_;simp only [↓reduceIte,Qq3]))
   simp -implicitDefEqProofs only [Yq,↓reduceIte,Qq5,QF,Qn,Qr,Qq9]
   exact Xg H (s:=s) (s':=s.nx) (.keep (.v _)) ⟨rfl,rfl⟩
 ·rw [if_pos h1]
  have z1:(s.tk.kind != 1)=true:=by simpa using h1
  have cf:=Yw s.tk 16
  refine Qe Tryd.func35 rfl Tryd.call35 Tryd.ntmps35 (congrArg Array.toList Tryd.results35) (by simp) ?_
  repeat (first|((first|(with_reducible (first|refine Qa fun K E hK hE=>?_|refine Qk fun K E hK hE=>?_|refine FunW.ret (FunW.call ct) ?_|refine FunW.pan (FunW.call (cf _ _)) ?_)));simp -implicitDefEqProofs only [Qc,Qd,OpW,QE,aop,undef,AS.ev,Qq,AV.Qp8,↓reduceIte,Qg,Qw,Qv,QB,Qp,aBin,ti3,ti60,QQ,zi60,e1,e2,f1,f3,f5,z1,seval])|(with_reducible (first|refine Qf fun K hK=>?_|refine Qj ?_))|((with_reducible refine hK _ ?_);clear hK)|(refine Qh rfl ?_;simp only [↓reduceIte])|(with_reducible (first|refine hE _ _ ?_|refine QM ?_|refine Q6 ?_)))
  exact Xg H (s:=s) (s':=s.nx) (.keep (Qbm _ _ _)) ⟨rfl,_,rfl⟩
end
end Go.Proofs.YticgcpebdldbgaaDoor.Ab
set_option maxRecDepth 4000
namespace Go.Proofs.YticgcpebdldbgaaDoor.Ab
open Go.Proofs
def clsN (c:Int):Int:=if c=32∨c=9∨c=13∨c=10 then 1 else if 97≤c∧c≤122 then 2 else if (65≤c∧c≤90)∨c=95 then 3 else if 48≤c∧c≤57 then 4 else 0
theorem QpC (c:Int) (hc:c=32):Pure Tryd.prog 96 [.v (.int .u8 c)] (.i (clsN c)):=by
 intro h
 have e0:clsN c=1:=by simp only [clsN];repeat' (first|rw [if_pos (by omega)]|rw [if_neg (by omega)])
 have b32:(c==32)=true:=by simp;omega
 have b9:(c==9)=false:=by simp;omega
 have b13:(c==13)=false:=by simp;omega
 have b10:(c==10)=false:=by simp;omega
 have b95:(c==95)=false:=by simp;omega
 have g97:¬ 97≤c:=by omega
 have l122:c≤122:=by omega
 have g65:¬ 65≤c:=by omega
 have l90:c≤90:=by omega
 have g48:¬ 48≤c:=by omega
 have l57:c≤57:=by omega
 refine Qe Tryd.func96 rfl Tryd.call96 Tryd.ntmps96 (congrArg Array.toList Tryd.results96) (by simp) ?_
 repeat (first|(((with_reducible refine Qa fun K E hK hE=>?_));simp -implicitDefEqProofs only [Qc,Qd,OpW,aop,undef,AS.ev,Qq,↓reduceIte,aBin,b32,seval])|(with_reducible (first|refine Qf fun K hK=>?_|refine Qj ?_|refine Ql ?_|refine Qm ?_|refine Qb ?_|refine Qu ?_|refine Qy ?_))|((with_reducible refine hK _ ?_);clear hK)|(refine Qh rfl ?_;simp only [↓reduceIte]))
 simp only [QF,Qn,Qr,upd,↓reduceIte,Qq5,Qq9];first|refine Qi (htake _ _) (.keep (.v _)) ⟨by rw [e0],rfl⟩|refine Qi List.take_length (.keep (.v _)) ⟨by rw [e0],rfl⟩
theorem QpD (c:Int) (hc:c=9):Pure Tryd.prog 96 [.v (.int .u8 c)] (.i (clsN c)):=by
 intro h
 have e0:clsN c=1:=by simp only [clsN];repeat' (first|rw [if_pos (by omega)]|rw [if_neg (by omega)])
 have b32:(c==32)=false:=by simp;omega
 have b9:(c==9)=true:=by simp;omega
 have b13:(c==13)=false:=by simp;omega
 have b10:(c==10)=false:=by simp;omega
 have b95:(c==95)=false:=by simp;omega
 have g97:¬ 97≤c:=by omega
 have l122:c≤122:=by omega
 have g65:¬ 65≤c:=by omega
 have l90:c≤90:=by omega
 have g48:¬ 48≤c:=by omega
 have l57:c≤57:=by omega
 refine Qe Tryd.func96 rfl Tryd.call96 Tryd.ntmps96 (congrArg Array.toList Tryd.results96) (by simp) ?_
 repeat (first|(((with_reducible refine Qa fun K E hK hE=>?_));simp -implicitDefEqProofs only [Qc,Qd,OpW,aop,undef,AS.ev,Qq,↓reduceIte,aBin,b32,b9,seval])|(with_reducible (first|refine Qf fun K hK=>?_|refine Qj ?_|refine Ql ?_|refine Qm ?_|refine Qb ?_|refine Qu ?_|refine Qy ?_))|((with_reducible refine hK _ ?_);clear hK)|(refine Qh rfl ?_;simp only [↓reduceIte,Qq3]))
 simp only [QF,Qn,Qr,upd,↓reduceIte,Qq5,Qq9];first|refine Qi (htake _ _) (.keep (.v _)) ⟨by rw [e0],rfl⟩|refine Qi List.take_length (.keep (.v _)) ⟨by rw [e0],rfl⟩
theorem QpE (c:Int) (hc:c=13):Pure Tryd.prog 96 [.v (.int .u8 c)] (.i (clsN c)):=by
 intro h
 have e0:clsN c=1:=by simp only [clsN];repeat' (first|rw [if_pos (by omega)]|rw [if_neg (by omega)])
 have b32:(c==32)=false:=by simp;omega
 have b9:(c==9)=false:=by simp;omega
 have b13:(c==13)=true:=by simp;omega
 have b10:(c==10)=false:=by simp;omega
 have b95:(c==95)=false:=by simp;omega
 have g97:¬ 97≤c:=by omega
 have l122:c≤122:=by omega
 have g65:¬ 65≤c:=by omega
 have l90:c≤90:=by omega
 have g48:¬ 48≤c:=by omega
 have l57:c≤57:=by omega
 refine Qe Tryd.func96 rfl Tryd.call96 Tryd.ntmps96 (congrArg Array.toList Tryd.results96) (by simp) ?_
 repeat (first|(((with_reducible refine Qa fun K E hK hE=>?_));simp -implicitDefEqProofs only [Qc,Qd,OpW,aop,undef,AS.ev,Qq,↓reduceIte,aBin,b32,b9,b13,seval])|(with_reducible (first|refine Qf fun K hK=>?_|refine Qj ?_|refine Ql ?_|refine Qm ?_|refine Qb ?_|refine Qu ?_|refine Qy ?_))|((with_reducible refine hK _ ?_);clear hK)|(refine Qh rfl ?_;simp only [↓reduceIte,Qq3]))
 simp only [QF,Qn,Qr,upd,↓reduceIte,Qq5,Qq9];first|refine Qi (htake _ _) (.keep (.v _)) ⟨by rw [e0],rfl⟩|refine Qi List.take_length (.keep (.v _)) ⟨by rw [e0],rfl⟩
theorem QpF (c:Int) (hc:c=10):Pure Tryd.prog 96 [.v (.int .u8 c)] (.i (clsN c)):=by
 intro h
 have e0:clsN c=1:=by simp only [clsN];repeat' (first|rw [if_pos (by omega)]|rw [if_neg (by omega)])
 have b32:(c==32)=false:=by simp;omega
 have b9:(c==9)=false:=by simp;omega
 have b13:(c==13)=false:=by simp;omega
 have b10:(c==10)=true:=by simp;omega
 have b95:(c==95)=false:=by simp;omega
 have g97:¬ 97≤c:=by omega
 have l122:c≤122:=by omega
 have g65:¬ 65≤c:=by omega
 have l90:c≤90:=by omega
 have g48:¬ 48≤c:=by omega
 have l57:c≤57:=by omega
 refine Qe Tryd.func96 rfl Tryd.call96 Tryd.ntmps96 (congrArg Array.toList Tryd.results96) (by simp) ?_
 repeat (first|((first|(with_reducible (first|refine Qa fun K E hK hE=>?_|refine Qk fun K E hK hE=>?_)));simp -implicitDefEqProofs only [Qc,Qd,OpW,aop,undef,AS.ev,Qq,↓reduceIte,aBin,b32,b9,b13,b10,seval])|(with_reducible (first|refine Qf fun K hK=>?_|refine Qj ?_|refine Ql ?_|refine Qb ?_|refine Qu ?_|refine Qy ?_))|((with_reducible refine hK _ ?_);clear hK)|(refine Qh rfl ?_;simp only [↓reduceIte,Qq3]))
 simp only [QF,Qn,Qr,upd,↓reduceIte,Qq5,Qq9];first|refine Qi (htake _ _) (.keep (.v _)) ⟨by rw [e0],rfl⟩|refine Qi List.take_length (.keep (.v _)) ⟨by rw [e0],rfl⟩
theorem QpG (c:Int) (hc:97≤c∧c≤122):Pure Tryd.prog 96 [.v (.int .u8 c)] (.i (clsN c)):=by
 intro h
 have e0:clsN c=2:=by simp only [clsN];repeat' (first|rw [if_pos (by omega)]|rw [if_neg (by omega)])
 have b32:(c==32)=false:=by simp;omega
 have b9:(c==9)=false:=by simp;omega
 have b13:(c==13)=false:=by simp;omega
 have b10:(c==10)=false:=by simp;omega
 have b95:(c==95)=false:=by simp;omega
 have g97:97≤c:=by omega
 have l122:c≤122:=by omega
 have g65:65≤c:=by omega
 have l90:¬ c≤90:=by omega
 have g48:48≤c:=by omega
 have l57:¬ c≤57:=by omega
 refine Qe Tryd.func96 rfl Tryd.call96 Tryd.ntmps96 (congrArg Array.toList Tryd.results96) (by simp) ?_
 repeat (first|((first|(with_reducible (first|refine Qa fun K E hK hE=>?_|refine Qk fun K E hK hE=>?_)));simp -implicitDefEqProofs only [Qc,Qd,OpW,aop,undef,AS.ev,Qq,↓reduceIte,aBin,b32,b9,b13,b10,g97,l122,seval])|(with_reducible (first|refine Qf fun K hK=>?_|refine Qj ?_|refine Ql ?_|refine Qb ?_|refine Qu ?_|refine Qy ?_))|((with_reducible refine hK _ ?_);clear hK)|(refine Qh rfl ?_;simp only [↓reduceIte,Qq3]))
 simp only [QF,Qn,Qr,upd,↓reduceIte,Qq5,Qq9];first|refine Qi (htake _ _) (.keep (.v _)) ⟨by rw [e0],rfl⟩|refine Qi List.take_length (.keep (.v _)) ⟨by rw [e0],rfl⟩
theorem QpH (c:Int) (hc:65≤c∧c≤90):Pure Tryd.prog 96 [.v (.int .u8 c)] (.i (clsN c)):=by
 intro h
 have e0:clsN c=3:=by simp only [clsN];repeat' (first|rw [if_pos (by omega)]|rw [if_neg (by omega)])
 have b32:(c==32)=false:=by simp;omega
 have b9:(c==9)=false:=by simp;omega
 have b13:(c==13)=false:=by simp;omega
 have b10:(c==10)=false:=by simp;omega
 have b95:(c==95)=false:=by simp;omega
 have g97:¬ 97≤c:=by omega
 have l122:c≤122:=by omega
 have g65:65≤c:=by omega
 have l90:c≤90:=by omega
 have g48:48≤c:=by omega
 have l57:¬ c≤57:=by omega
 refine Qe Tryd.func96 rfl Tryd.call96 Tryd.ntmps96 (congrArg Array.toList Tryd.results96) (by simp) ?_
 repeat (first|((first|(with_reducible (first|refine Qa fun K E hK hE=>?_|refine Qk fun K E hK hE=>?_)));simp -implicitDefEqProofs only [Qc,Qd,OpW,aop,undef,AS.ev,Qq,↓reduceIte,aBin,b32,b9,b13,b10,g97,g65,l90,seval])|(with_reducible (first|refine Qf fun K hK=>?_|refine Qj ?_|refine Ql ?_|refine Qm ?_|refine Qb ?_|refine Qu ?_|refine Qy ?_))|((with_reducible refine hK _ ?_);clear hK)|(refine Qh rfl ?_;simp only [↓reduceIte,Qq3]))
 simp only [QF,Qn,Qr,upd,↓reduceIte,Qq5,Qq9];first|refine Qi (htake _ _) (.keep (.v _)) ⟨by rw [e0],rfl⟩|refine Qi List.take_length (.keep (.v _)) ⟨by rw [e0],rfl⟩
theorem QpI (c:Int) (hc:c=95):Pure Tryd.prog 96 [.v (.int .u8 c)] (.i (clsN c)):=by
 intro h
 have e0:clsN c=3:=by simp only [clsN];repeat' (first|rw [if_pos (by omega)]|rw [if_neg (by omega)])
 have b32:(c==32)=false:=by simp;omega
 have b9:(c==9)=false:=by simp;omega
 have b13:(c==13)=false:=by simp;omega
 have b10:(c==10)=false:=by simp;omega
 have b95:(c==95)=true:=by simp;omega
 have g97:¬ 97≤c:=by omega
 have l122:c≤122:=by omega
 have g65:65≤c:=by omega
 have l90:¬ c≤90:=by omega
 have g48:48≤c:=by omega
 have l57:¬ c≤57:=by omega
 refine Qe Tryd.func96 rfl Tryd.call96 Tryd.ntmps96 (congrArg Array.toList Tryd.results96) (by simp) ?_
 repeat (first|((first|(with_reducible (first|refine Qa fun K E hK hE=>?_|refine Qk fun K E hK hE=>?_)));simp -implicitDefEqProofs only [Qc,Qd,OpW,aop,undef,AS.ev,Qq,↓reduceIte,aBin,b32,b9,b13,b10,b95,g97,g65,l90,seval])|(with_reducible (first|refine Qf fun K hK=>?_|refine Qj ?_|refine Ql ?_|refine Qb ?_|refine Qu ?_|refine Qy ?_))|((with_reducible refine hK _ ?_);clear hK)|(refine Qh rfl ?_;simp only [↓reduceIte,Qq3]))
 simp only [QF,Qn,Qr,upd,↓reduceIte,Qq5,Qq9];first|refine Qi (htake _ _) (.keep (.v _)) ⟨by rw [e0],rfl⟩|refine Qi List.take_length (.keep (.v _)) ⟨by rw [e0],rfl⟩
theorem QpJ (c:Int) (hc:48≤c∧c≤57):Pure Tryd.prog 96 [.v (.int .u8 c)] (.i (clsN c)):=by
 intro h
 have e0:clsN c=4:=by simp only [clsN];repeat' (first|rw [if_pos (by omega)]|rw [if_neg (by omega)])
 have b32:(c==32)=false:=by simp;omega
 have b9:(c==9)=false:=by simp;omega
 have b13:(c==13)=false:=by simp;omega
 have b10:(c==10)=false:=by simp;omega
 have b95:(c==95)=false:=by simp;omega
 have g97:¬ 97≤c:=by omega
 have l122:c≤122:=by omega
 have g65:¬ 65≤c:=by omega
 have l90:c≤90:=by omega
 have g48:48≤c:=by omega
 have l57:c≤57:=by omega
 refine Qe Tryd.func96 rfl Tryd.call96 Tryd.ntmps96 (congrArg Array.toList Tryd.results96) (by simp) ?_
 repeat (first|((first|(with_reducible (first|refine Qa fun K E hK hE=>?_|refine Qk fun K E hK hE=>?_)));simp -implicitDefEqProofs only [Qc,Qd,OpW,aop,undef,AS.ev,Qq,↓reduceIte,aBin,b32,b9,b13,b10,b95,g97,g65,g48,l57,seval])|(with_reducible (first|refine Qf fun K hK=>?_|refine Qj ?_|refine Ql ?_|refine Qb ?_|refine Qu ?_|refine Qy ?_))|((with_reducible refine hK _ ?_);clear hK)|(refine Qh rfl ?_;simp only [↓reduceIte,Qq3]))
 simp only [QF,Qn,Qr,upd,↓reduceIte,Qq5,Qq9];first|refine Qi (htake _ _) (.keep (.v _)) ⟨by rw [e0],rfl⟩|refine Qi List.take_length (.keep (.v _)) ⟨by rw [e0],rfl⟩
theorem QpK (c:Int) (hc:c<48∧c≠32∧c≠9∧c≠13∧c≠10):Pure Tryd.prog 96 [.v (.int .u8 c)] (.i (clsN c)):=by
 intro h
 have e0:clsN c=0:=by simp only [clsN];repeat' (first|rw [if_pos (by omega)]|rw [if_neg (by omega)])
 have b32:(c==32)=false:=by simp;omega
 have b9:(c==9)=false:=by simp;omega
 have b13:(c==13)=false:=by simp;omega
 have b10:(c==10)=false:=by simp;omega
 have b95:(c==95)=false:=by simp;omega
 have g97:¬ 97≤c:=by omega
 have l122:c≤122:=by omega
 have g65:¬ 65≤c:=by omega
 have l90:c≤90:=by omega
 have g48:¬ 48≤c:=by omega
 have l57:c≤57:=by omega
 refine Qe Tryd.func96 rfl Tryd.call96 Tryd.ntmps96 (congrArg Array.toList Tryd.results96) (by simp) ?_
 repeat (first|((first|(with_reducible (first|refine Qa fun K E hK hE=>?_|refine Qk fun K E hK hE=>?_)));simp -implicitDefEqProofs only [Qc,Qd,OpW,aop,undef,AS.ev,Qq,↓reduceIte,aBin,b32,b9,b13,b10,b95,g97,g65,g48,seval])|(with_reducible (first|refine Qf fun K hK=>?_|refine Qj ?_|refine Ql ?_|refine Qm ?_|refine Qb ?_|refine Qo ?_))|((with_reducible refine hK _ ?_);clear hK)|(refine Qh rfl ?_;simp only [↓reduceIte,Qq3]))
 simp only [QF,Qn,Qr,upd,↓reduceIte,Qq5,Qq9];first|refine Qi (htake _ _) (.keep (.v _)) ⟨by rw [e0],rfl⟩|refine Qi List.take_length (.keep (.v _)) ⟨by rw [e0],rfl⟩
theorem QpL (c:Int) (hc:58≤c∧c≤64):Pure Tryd.prog 96 [.v (.int .u8 c)] (.i (clsN c)):=by
 intro h
 have e0:clsN c=0:=by simp only [clsN];repeat' (first|rw [if_pos (by omega)]|rw [if_neg (by omega)])
 have b32:(c==32)=false:=by simp;omega
 have b9:(c==9)=false:=by simp;omega
 have b13:(c==13)=false:=by simp;omega
 have b10:(c==10)=false:=by simp;omega
 have b95:(c==95)=false:=by simp;omega
 have g97:¬ 97≤c:=by omega
 have l122:c≤122:=by omega
 have g65:¬ 65≤c:=by omega
 have l90:c≤90:=by omega
 have g48:48≤c:=by omega
 have l57:¬ c≤57:=by omega
 refine Qe Tryd.func96 rfl Tryd.call96 Tryd.ntmps96 (congrArg Array.toList Tryd.results96) (by simp) ?_
 repeat (first|((first|(with_reducible (first|refine Qa fun K E hK hE=>?_|refine Qk fun K E hK hE=>?_)));simp -implicitDefEqProofs only [Qc,Qd,OpW,aop,undef,AS.ev,Qq,↓reduceIte,aBin,b32,b9,b13,b10,b95,g97,g65,g48,l57,seval])|(with_reducible (first|refine Qf fun K hK=>?_|refine Qj ?_|refine Ql ?_|refine Qm ?_|refine Qb ?_|refine Qo ?_))|((with_reducible refine hK _ ?_);clear hK)|(refine Qh rfl ?_;simp only [↓reduceIte,Qq3]))
 simp only [QF,Qn,Qr,upd,↓reduceIte,Qq5,Qq9];first|refine Qi (htake _ _) (.keep (.v _)) ⟨by rw [e0],rfl⟩|refine Qi List.take_length (.keep (.v _)) ⟨by rw [e0],rfl⟩
theorem QoU (c:Int) (hc:91≤c∧c≤94):Pure Tryd.prog 96 [.v (.int .u8 c)] (.i (clsN c)):=by
 intro h
 have e0:clsN c=0:=by simp only [clsN];repeat' (first|rw [if_pos (by omega)]|rw [if_neg (by omega)])
 have b32:(c==32)=false:=by simp;omega
 have b9:(c==9)=false:=by simp;omega
 have b13:(c==13)=false:=by simp;omega
 have b10:(c==10)=false:=by simp;omega
 have b95:(c==95)=false:=by simp;omega
 have g97:¬ 97≤c:=by omega
 have l122:c≤122:=by omega
 have g65:65≤c:=by omega
 have l90:¬ c≤90:=by omega
 have g48:48≤c:=by omega
 have l57:¬ c≤57:=by omega
 refine Qe Tryd.func96 rfl Tryd.call96 Tryd.ntmps96 (congrArg Array.toList Tryd.results96) (by simp) ?_
 repeat (first|((first|(with_reducible (first|refine Qa fun K E hK hE=>?_|refine Qk fun K E hK hE=>?_)));simp -implicitDefEqProofs only [Qc,Qd,OpW,aop,undef,AS.ev,Qq,↓reduceIte,aBin,b32,b9,b13,b10,b95,g97,g65,l90,g48,l57,seval])|(with_reducible (first|refine Qf fun K hK=>?_|refine Qj ?_|refine Ql ?_|refine Qm ?_|refine Qb ?_|refine Qo ?_))|((with_reducible refine hK _ ?_);clear hK)|(refine Qh rfl ?_;simp only [↓reduceIte,Qq3]))
 simp only [QF,Qn,Qr,upd,↓reduceIte,Qq5,Qq9];first|refine Qi (htake _ _) (.keep (.v _)) ⟨by rw [e0],rfl⟩|refine Qi List.take_length (.keep (.v _)) ⟨by rw [e0],rfl⟩
theorem QoV (c:Int) (hc:c=96):Pure Tryd.prog 96 [.v (.int .u8 c)] (.i (clsN c)):=by
 intro h
 have e0:clsN c=0:=by simp only [clsN];repeat' (first|rw [if_pos (by omega)]|rw [if_neg (by omega)])
 have b32:(c==32)=false:=by simp;omega
 have b9:(c==9)=false:=by simp;omega
 have b13:(c==13)=false:=by simp;omega
 have b10:(c==10)=false:=by simp;omega
 have b95:(c==95)=false:=by simp;omega
 have g97:¬ 97≤c:=by omega
 have l122:c≤122:=by omega
 have g65:65≤c:=by omega
 have l90:¬ c≤90:=by omega
 have g48:48≤c:=by omega
 have l57:¬ c≤57:=by omega
 refine Qe Tryd.func96 rfl Tryd.call96 Tryd.ntmps96 (congrArg Array.toList Tryd.results96) (by simp) ?_
 repeat (first|((first|(with_reducible (first|refine Qa fun K E hK hE=>?_|refine Qk fun K E hK hE=>?_)));simp -implicitDefEqProofs only [Qc,Qd,OpW,aop,undef,AS.ev,Qq,↓reduceIte,aBin,b32,b9,b13,b10,b95,g97,g65,l90,g48,l57,seval])|(with_reducible (first|refine Qf fun K hK=>?_|refine Qj ?_|refine Ql ?_|refine Qm ?_|refine Qb ?_|refine Qo ?_))|((with_reducible refine hK _ ?_);clear hK)|(refine Qh rfl ?_;simp only [↓reduceIte,Qq3]))
 simp only [QF,Qn,Qr,upd,↓reduceIte,Qq5,Qq9];first|refine Qi (htake _ _) (.keep (.v _)) ⟨by rw [e0],rfl⟩|refine Qi List.take_length (.keep (.v _)) ⟨by rw [e0],rfl⟩
theorem QoW (c:Int) (hc:122<c):Pure Tryd.prog 96 [.v (.int .u8 c)] (.i (clsN c)):=by
 intro h
 have e0:clsN c=0:=by simp only [clsN];repeat' (first|rw [if_pos (by omega)]|rw [if_neg (by omega)])
 have b32:(c==32)=false:=by simp;omega
 have b9:(c==9)=false:=by simp;omega
 have b13:(c==13)=false:=by simp;omega
 have b10:(c==10)=false:=by simp;omega
 have b95:(c==95)=false:=by simp;omega
 have g97:97≤c:=by omega
 have l122:¬ c≤122:=by omega
 have g65:65≤c:=by omega
 have l90:¬ c≤90:=by omega
 have g48:48≤c:=by omega
 have l57:¬ c≤57:=by omega
 refine Qe Tryd.func96 rfl Tryd.call96 Tryd.ntmps96 (congrArg Array.toList Tryd.results96) (by simp) ?_
 repeat (first|((first|(with_reducible (first|refine Qa fun K E hK hE=>?_|refine Qk fun K E hK hE=>?_)));simp -implicitDefEqProofs only [Qc,Qd,OpW,aop,undef,AS.ev,Qq,↓reduceIte,aBin,b32,b9,b13,b10,b95,g97,l122,g65,l90,g48,l57,seval])|(with_reducible (first|refine Qf fun K hK=>?_|refine Qj ?_|refine Ql ?_|refine Qm ?_|refine Qb ?_|refine Qo ?_))|((with_reducible refine hK _ ?_);clear hK)|(refine Qh rfl ?_;simp only [↓reduceIte,Qq3]))
 simp only [QF,Qn,Qr,upd,↓reduceIte,Qq5,Qq9];first|refine Qi (htake _ _) (.keep (.v _)) ⟨by rw [e0],rfl⟩|refine Qi List.take_length (.keep (.v _)) ⟨by rw [e0],rfl⟩
theorem Qb1 (c:Int):Pure Tryd.prog 96 [.v (.int .u8 c)] (.i (clsN c)):=by
 have hcs:c=32∨c=9∨c=13∨c=10∨97≤c∧c≤122∨65≤c∧c≤90∨c=95∨48≤c∧c≤57∨c<48∧c≠32∧c≠9∧c≠13∧c≠10∨58≤c∧c≤64∨91≤c∧c≤94∨c=96∨122<c:=by omega
 rcases hcs with h|h|h|h|h|h|h|h|h|h|h|h|h
 ·exact QpC c h
 ·exact QpD c h
 ·exact QpE c h
 ·exact QpF c h
 ·exact QpG c h
 ·exact QpH c h
 ·exact QpI c h
 ·exact QpJ c h
 ·exact QpK c h
 ·exact QpL c h
 ·exact QoU c h
 ·exact QoV c h
 ·exact QoW c h
end Go.Proofs.YticgcpebdldbgaaDoor.Ab
set_option maxRecDepth 4000
namespace Go.Proofs.YticgcpebdldbgaaDoor.Ab
open Go.Proofs
theorem Q3 (l:List UInt8):(mkB l).size=l.length:=by show l.toArray.size=_;simp
theorem QlC (l:List UInt8):(mkB l).data.toList=l:=by simp [mkB]
theorem Qgf (s:ByteArray):mkB s.data.toList=s:=QnG (by rw [QlC])
theorem Qfw (l:List UInt8):(mkB l).toList=l:=by rw [Lib.toList_data,QlC]
theorem Z6 (l:List UInt8) (i:Nat) (h:i<l.length):byteAt (mkB l) i=((l[i]).toNat:Nat):=by
 unfold byteAt;rw [QlC,List.getD_eq_getElem?_getD,List.getElem?_eq_getElem h];rfl
theorem Qk0 (c:UInt8):(clsN (c.toNat:Nat)==1)=isSp c:=by
 unfold clsN isSp
 by_cases h:((c.toNat:Nat):Int)=32∨((c.toNat:Nat):Int)=9∨((c.toNat:Nat):Int)=13∨((c.toNat:Nat):Int)=10
 ·rw [if_pos h,decide_eq_true (by omega)];rfl
 ·rw [if_neg h,decide_eq_false (by omega)]
  repeat' split
  all_goals rfl
theorem QoT (c:UInt8):(2≤clsN (c.toNat:Nat))↔isW c=true:=by
 have hc:=c.toNat_lt
 unfold clsN isW isL isD
 simp only [Bool.or_eq_true,decide_eq_true_eq]
 repeat' split
 all_goals omega
theorem QkZ (c:UInt8):(4≤clsN (c.toNat:Nat))↔isD c=true:=by
 have hc:=c.toNat_lt
 unfold clsN isD
 simp only [decide_eq_true_eq]
 repeat' split
 all_goals omega
theorem drop_cons {l:List UInt8} {k:Nat} (h:k<l.length):l.drop k=l[k]::l.drop (k+1):=List.drop_eq_getElem_cons h
section
variable (l:List UInt8) (hl:l.length≤16384)
include hl
theorem Qhv (p:UInt8→Bool) (least:Int) (hcl:∀ c:UInt8,(least≤clsN (c.toNat:Nat))↔p c=true) (k:Nat) (hk:k≤l.length) :
  Pure Tryd.prog 97 [.v (.string (mkB l)),.i k,.i least] (.i ((k+((l.drop k).takeWhile p).length:Nat):Int)):=by
 intro h
 have hsl:=fun b=>Zz Tryd.prog 9 3 (by kernel_rfl) b
 refine Qe Tryd.func97 rfl Tryd.call97 Tryd.ntmps97 (congrArg Array.toList Tryd.results97) (by simp) ?_
 repeat (first|(((with_reducible refine Qa fun K E hK hE=>?_));simp -implicitDefEqProofs only [Xb,Xh,Qd,OpW,aop,AS.ev,Q8,QbN,Nat.reduceLT])|(with_reducible (first|refine Qf fun K hK=>?_|refine Qj ?_))|((with_reducible refine hK _ ?_);clear hK))
 obtain ⟨I,hI⟩:∃ I:Nat→AS→Prop,I=fun m' s=>∃ j:Nat,m'=l.length - j∧j≤l.length∧j+((l.drop j).takeWhile p).length=k+((l.drop k).takeWhile p).length∧s.tm 0 = .v (.string (mkB l))∧s.tm 1 = .i j∧s.tm 2 = .i least∧s.h=h:=⟨_,rfl⟩;refine QO I ?_ (m:=l.length - k) ?_
 ·intro m' s hs;rw [hI] at hs;obtain ⟨tm,hp⟩:=s;dsimp only at hs;obtain ⟨j,rfl,hj,he,t0,t1,t2,rfl⟩:=hs
  by_cases hlt:j<l.length
  ·have z1:(((j:Nat):Int)<((l.length:Nat):Int)):=by omega
   have hix:=Zo Tryd.prog 9 (by kernel_rfl) (mkB l) j (by rw [Q3];exact hlt)
   rw [Z6 l j hlt] at hix
   have cp:=Qb1 (((l[j]).toNat:Nat):Int)
   rw [drop_cons hlt,List.takeWhile_cons] at he
   by_cases hc:p l[j]=true
   ·rw [if_pos hc,List.length_cons] at he
    have z2:least≤clsN (((l[j]).toNat:Nat):Int):=(hcl _).2 hc
    repeat (first|((first|(with_reducible (first|refine Qa fun K E hK hE=>?_|refine Qk fun K E hK hE=>?_|refine Qz cp ?_)));simp -implicitDefEqProofs only [Qc,Qd,OpW,QE,aop,AS.ev,↓reduceIte,aBin,aLen,goInt,t0,t1,t2,hsl,Q3,z1,hix,z2,seval])|(with_reducible (first|refine Qf fun K hK=>?_|refine Qj ?_|refine Qm ?_|refine Qb ?_|refine Qo ?_))|((with_reducible refine hK _ ?_);clear hK)|(refine Qh rfl ?_;simp only [↓reduceIte]))
    refine Xi.mk (m':=l.length - (j+1)) (by omega) ?_
    rw [hI]
    refine ⟨j+1,rfl,hlt,by omega,t0,?_,t2,rfl⟩
    simp only [upd,↓reduceIte]
    rw [Xk (by omega)]
   ·rw [if_neg hc,List.length_nil] at he
    have z2:¬ least≤clsN (((l[j]).toNat:Nat):Int):=fun q=>hc ((hcl _).1 q)
    repeat (first|((first|(with_reducible (first|refine Qa fun K E hK hE=>?_|refine Qz cp ?_)));simp -implicitDefEqProofs only [Qc,Qd,OpW,QE,aop,AS.ev,↓reduceIte,aBin,aLen,goInt,t0,t1,t2,hsl,Q3,z1,hix,z2,seval])|(with_reducible (first|refine Qf fun K hK=>?_|refine Ql ?_|refine QG ?_|refine Qb ?_|refine QD ?_|refine QC ?_))|((with_reducible refine hK _ ?_);clear hK)|(clear hK;(with_reducible refine hK _ ?_);clear hK)|(refine Qh rfl ?_;simp only [↓reduceIte,Qq3]))
    simp only [QF,Qn,Qr,upd,↓reduceIte,Qq5,Qq9]
    exact Qi List.take_length (.keep (.v _)) ⟨by rw [← he];rfl,rfl⟩
  ·have hjl:j=l.length:=by omega
   have z1:¬ (((j:Nat):Int)<((l.length:Nat):Int)):=by omega
   rw [hjl,List.drop_length] at he
   repeat (first|(((with_reducible refine Qa fun K E hK hE=>?_));simp -implicitDefEqProofs only [Qc,Qd,OpW,aop,undef,AS.ev,↓reduceIte,aBin,aLen,goInt,t0,t1,hsl,Q3,z1,seval])|(with_reducible (first|refine Qf fun K hK=>?_|refine Ql ?_|refine QG ?_|refine Qb ?_|refine QD ?_|refine QC ?_))|((with_reducible refine hK _ ?_);clear hK)|(clear hK;(with_reducible refine hK _ ?_);clear hK)|(refine Qh rfl ?_;simp only [↓reduceIte,Qq3]))
   simp only [QF,Qn,Qr,upd,↓reduceIte,Qq5,Qq9]
   exact Qi List.take_length (.keep (.v _)) ⟨by rw [← he,hjl];rfl,rfl⟩
 ·rw [hI]
  exact ⟨k,rfl,hk,rfl,rfl,rfl,rfl,rfl⟩
theorem Qkc (k:Nat) (hk:k≤l.length):Pure Tryd.prog 90 [.v (.string (mkB l)),.i k] (.i ((l.length - (Xw false (l.drop k)).length:Nat):Int)):=by
 intro h
 have hsl:=fun b=>Zz Tryd.prog 9 3 (by kernel_rfl) b
 refine Qe Tryd.func90 rfl Tryd.call90 Tryd.ntmps90 (congrArg Array.toList Tryd.results90) (by simp) ?_
 repeat (first|(((with_reducible refine Qa fun K E hK hE=>?_));simp -implicitDefEqProofs only [Xb,Xh,Qd,OpW,aop,AS.ev,Q8,QbN,Nat.reduceLT])|(with_reducible (first|refine Qf fun K hK=>?_|refine Qj ?_))|((with_reducible refine hK _ ?_);clear hK))
 obtain ⟨I,hI⟩:∃ I:Nat→AS→Prop,I=fun m' s=>∃ j:Nat,m'=l.length - j∧j≤l.length∧Xw false (l.drop j)=Xw false (l.drop k)∧s.tm 0 = .v (.string (mkB l))∧s.tm 1 = .i j∧s.h=h:=⟨_,rfl⟩;refine QO I ?_ (m:=l.length - k) ?_
 ·intro m' s hs;rw [hI] at hs;obtain ⟨tm,hp⟩:=s;dsimp only at hs;obtain ⟨j,rfl,hj,he,t0,t1,rfl⟩:=hs
  by_cases hlt:j<l.length
  ·have z1:(((j:Nat):Int)<((l.length:Nat):Int)):=by omega
   have hix:=Zo Tryd.prog 9 (by kernel_rfl) (mkB l) j (by rw [Q3];exact hlt)
   rw [Z6 l j hlt] at hix
   have cp:=Qb1 (((l[j]).toNat:Nat):Int)
   have hd:=drop_cons hlt
   rw [hd,Xw] at he
   by_cases hc:isSp l[j]=true
   ·rw [if_pos hc] at he
    have z2:(clsN (((l[j]).toNat:Nat):Int)==1)=true:=by rw [Qk0];exact hc
    repeat (first|((first|(with_reducible (first|refine Qa fun K E hK hE=>?_|refine Qk fun K E hK hE=>?_|refine Qz cp ?_)));simp -implicitDefEqProofs only [Qc,Qd,OpW,QE,aop,AS.ev,↓reduceIte,aBin,aLen,goInt,t0,t1,hsl,Q3,z1,hix,z2,seval])|(with_reducible (first|refine Qf fun K hK=>?_|refine Qj ?_|refine Qm ?_|refine Qb ?_|refine Qo ?_))|((with_reducible refine hK _ ?_);clear hK)|(refine Qh rfl ?_;simp only [↓reduceIte]))
    refine Xi.mk (m':=l.length - (j+1)) (by omega) ?_
    rw [hI]
    refine ⟨j+1,rfl,hlt,he,t0,?_,rfl⟩
    simp only [upd,↓reduceIte]
    rw [Xk (by omega)]
   ·rw [if_neg hc] at he
    have z2:(clsN (((l[j]).toNat:Nat):Int)==1)=false:=by rw [Qk0];simpa using hc
    by_cases h35:(l[j]).toNat=35
    ·rw [if_pos h35] at he
     have z3:((((l[j]).toNat:Nat):Int)==35)=true:=by rw [h35];rfl
     have hI0:=hI
     repeat (first|((first|(with_reducible (first|refine Qa fun K E hK hE=>?_|refine Qz cp ?_)));simp -implicitDefEqProofs only [Qc,Qd,OpW,QE,aop,AS.ev,↓reduceIte,aBin,aLen,goInt,t0,t1,hsl,Q3,z1,hix,z2,z3,seval])|(with_reducible (first|refine Qf fun K hK=>?_|refine Qj ?_|refine Qm ?_|refine Qb ?_))|((with_reducible refine hK _ ?_);clear hK)|(refine Qh rfl ?_;simp only [↓reduceIte,Qq3]))
     obtain ⟨I,hI⟩:∃ I:Nat→AS→Prop,I=fun m' s=>∃ i:Nat,m'=l.length - i∧i≤l.length∧j≤i∧(i=j∨Xw true (l.drop i)=Xw false (l.drop k))∧s.tm 0 = .v (.string (mkB l))∧s.tm 1 = .i i∧s.h=hp:=⟨_,rfl⟩;refine QO I ?_ (m:=l.length - j) ?_
     ·intro m' s hs;rw [hI] at hs;obtain ⟨tm,hp⟩:=s;dsimp only at hs;obtain ⟨i,rfl,hi,hji,he2,u0,u1,rfl⟩:=hs
      by_cases hlt2:i<l.length
      ·have y1:(((i:Nat):Int)<((l.length:Nat):Int)):=by omega
       have hix2:=Zo Tryd.prog 9 (by kernel_rfl) (mkB l) i (by rw [Q3];exact hlt2)
       rw [Z6 l i hlt2] at hix2
       have hd2:=drop_cons hlt2
       by_cases h10:(l[i]).toNat=10
       ·have y2:((((l[i]).toNat:Nat):Int) != 10)=false:=by rw [h10];rfl
        have hne:i≠j:=by rintro rfl;omega
        have he3:=he2.resolve_left hne
        rw [hd2,Xw,if_pos h10] at he3
        repeat (first|(((with_reducible refine Qa fun K E hK hE=>?_));simp -implicitDefEqProofs only [Qc,Qd,OpW,aop,AS.ev,↓reduceIte,aBin,aLen,goInt,u0,u1,hsl,Q3,y1,hix2,y2,seval])|(with_reducible (first|refine Qf fun K hK=>?_|refine QG ?_|refine Qb ?_|refine QD ?_|refine Qo ?_|refine QC ?_))|((with_reducible refine hK _ ?_);clear hK)|(refine Qh rfl ?_;simp only [↓reduceIte,Qq3]))
        refine Xi.mk (m':=l.length - i) (by omega) ?_
        rw [hI0]
        refine ⟨i,rfl,hi,?_,u0,u1,rfl⟩
        rw [hd2,Xw,if_pos (show isSp l[i]=true by unfold isSp;exact decide_eq_true (by omega))];exact he3
       ·have y2:((((l[i]).toNat:Nat):Int) != 10)=true:=by simpa using fun e=>h10 (by omega)
        repeat (first|((first|(with_reducible (first|refine Qa fun K E hK hE=>?_|refine Qk fun K E hK hE=>?_)));simp -implicitDefEqProofs only [Qc,Qd,OpW,aop,AS.ev,↓reduceIte,aBin,aLen,goInt,u0,u1,hsl,Q3,y1,hix2,y2,seval])|(with_reducible (first|refine Qf fun K hK=>?_|refine Qj ?_|refine Qm ?_|refine Qb ?_|refine Qo ?_))|((with_reducible refine hK _ ?_);clear hK)|(refine Qh rfl ?_;simp only [↓reduceIte]))
        refine Xi.mk (m':=l.length - (i+1)) (by omega) ?_
        rw [hI]
        refine ⟨i+1,rfl,hlt2,by omega,.inr ?_,u0,?_,rfl⟩
        ·rcases he2 with rfl|he2
         ·exact he
         ·rw [hd2,Xw,if_neg h10] at he2;exact he2
        ·simp only [upd,↓reduceIte]
         rw [Xk (by omega)]
      ·have hil:i=l.length:=by omega
       have y1:¬ (((i:Nat):Int)<((l.length:Nat):Int)):=by omega
       have hne:i≠j:=by omega
       have he3:=he2.resolve_left hne
       repeat (first|(((with_reducible refine Qa fun K E hK hE=>?_));simp -implicitDefEqProofs only [Qc,Qd,OpW,aop,undef,AS.ev,↓reduceIte,aBin,aLen,goInt,u0,u1,hsl,Q3,y1,seval])|(with_reducible (first|refine Qf fun K hK=>?_|refine QG ?_|refine Qb ?_|refine QD ?_|refine Qo ?_|refine QC ?_))|((with_reducible refine hK _ ?_);clear hK)|(refine Qh rfl ?_;simp only [↓reduceIte,Qq3]))
       refine Xi.mk (m':=l.length - i) (by omega) ?_
       rw [hI0]
       refine ⟨i,rfl,hi,?_,u0,u1,rfl⟩
       rw [hil,List.drop_length] at he3 ⊢
       rw [← he3,Xw,Xw]
     ·rw [hI]
      exact ⟨j,rfl,hj,Nat.le_refl _,.inl rfl,t0,t1,rfl⟩
    ·rw [if_neg h35] at he
     have z3:((((l[j]).toNat:Nat):Int)==35)=false:=by simpa using fun e=>h35 (by omega)
     repeat (first|((first|(with_reducible (first|refine Qa fun K E hK hE=>?_|refine Qz cp ?_)));simp -implicitDefEqProofs only [Qc,Qd,OpW,QE,aop,AS.ev,↓reduceIte,aBin,aLen,goInt,t0,t1,hsl,Q3,z1,hix,z2,z3,seval])|(with_reducible (first|refine Qf fun K hK=>?_|refine Qj ?_|refine Ql ?_|refine Qm ?_|refine Qb ?_|refine Qu ?_|refine Qy ?_))|((with_reducible refine hK _ ?_);clear hK)|(refine Qh rfl ?_;simp only [↓reduceIte,Qq3]))
     simp only [QF,Qn,Qr,upd,↓reduceIte,Qq5,Qq9]
     exact Qi List.take_length (.keep (.v _)) ⟨by rw [← he,List.length_cons,List.length_drop];congr 3;omega,rfl⟩
  ·have hjl:j=l.length:=by omega
   have z1:¬ (((j:Nat):Int)<((l.length:Nat):Int)):=by omega
   rw [hjl,List.drop_length,Xw] at he
   repeat (first|(((with_reducible refine Qa fun K E hK hE=>?_));simp -implicitDefEqProofs only [Qc,Qd,OpW,aop,AS.ev,↓reduceIte,aBin,aLen,goInt,t0,t1,hsl,Q3,z1,seval])|(with_reducible (first|refine Qf fun K hK=>?_|refine Ql ?_|refine QG ?_|refine Qb ?_|refine QD ?_|refine QC ?_))|((with_reducible refine hK _ ?_);clear hK)|(clear hK;(with_reducible refine hK _ ?_);clear hK)|(refine Qh rfl ?_;simp only [↓reduceIte,Qq3]))
   simp only [QF,Qn,Qr,upd,↓reduceIte,Qq5,Qq9]
   exact Qi List.take_length (.keep (.v _)) ⟨by rw [← he,hjl];rfl,rfl⟩
 ·rw [hI]
  exact ⟨k,rfl,hk,rfl,rfl,rfl,rfl⟩
end
end Go.Proofs.YticgcpebdldbgaaDoor.Ab

