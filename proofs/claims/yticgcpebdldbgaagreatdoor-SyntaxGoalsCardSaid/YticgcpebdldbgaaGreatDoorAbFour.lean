/-
  An abstract program logic, contracts of functions, and laws of terms and rules (part 4).
-/
import Derived.Test.YticgcpebdldbgaaGreatDoorAbTwo
import Derived.Test.YticgcpebdldbgaaGreatDoorAbThree
set_option linter.unusedVariables false
set_option linter.unusedSimpArgs false
set_option maxHeartbeats 4000000
set_option maxRecDepth 4000
namespace Go.Proofs.YticgcpebdldbgaaGreatDoor.Ab
open Go.Proofs
def MQ(h:AH)(P:Pz)(s:PS):Option (Int×Bool)->AOut->AH->Prop
 |some (op,sw),o,h'=>o = .ret (.tup [.i op,.b sw,.b true])/\h'=ph h P s.nx
 |none,o,h'=>o = .ret (.tup [.i 0,.b false,.b false])/\h'=ph h P s
section
variable{P:Pz}{s:PS}(hW:Wst P.all s){h:AH}(H:P.ok h)(hN:P.all.length<=1000000)
include hW H hN
omit hW H hN in
theorem Zb(n:Nat)(a:Int)(b c:Bool):Below n (.tup [.i a,.b b,.b c]):=.tup _ fun x hx=>by
 simp only[QuL,QuS,Qvz]at hx
 rcases hx with rfl|rfl|rfl <;> exact .v _
theorem QqR(hk:s.tk.kind=1)(hx:s.tk.text.toList=[105,115]):QA Tryz.prog 81 [.ptr P.i 0 0] (ph h P s) (MQ h P s (some (4,false))):=by
 have f1:=Xv h P
 have f3:=Yu h P
 have f4:=Zh h P
 have f5:=X7 h P
 have f6:=YB h P
 have hi:=ph_i H s
 have hi0:=YW H s
 have hin:=ph_i H s.nx
 simp only[pB]at hi hi0 hin
 have cn:=YD hW (YW H s)
 have ct:=fun L=>Yq hW (H.app L) hN
 simp only[XH H]at ct
 have e1:=Tk.QsS s.tk
 have e2:=Tk.QsT s.tk
 have z1:(s.tk.kind==1)=true:=by simpa using hk
 have z2:(s.tk.text.toList==({data:=#[105,115]}:ByteArray).toList)=true:=by rw[hx,Lib.toList_data];rfl
 refine Qa Tryz.func81 rfl Tryz.call81 Tryz.ntmps81 Tryz.results81 (by simp) ?_
 repeat (first|refine FunW.QsR cn ?_|refine FunW.QsR (ct _) ?_|refine Qb ?_);simp only[go_sem,seval,f1,f3,f5,hi,hi0,e1,e2,z1,z2]
 exact Yc H (s:=s) (s':=s.nx) (.keep (Zb _ _ _ _)) ⟨rfl,rfl⟩
theorem Qon(hk:s.tk.kind=1)(hx:s.tk.text.toList≠[105,115]):QA Tryz.prog 81 [.ptr P.i 0 0] (ph h P s) (MQ h P s (none)):=by
 have f1:=Xv h P
 have f3:=Yu h P
 have f4:=Zh h P
 have f5:=X7 h P
 have f6:=YB h P
 have hi:=ph_i H s
 have hi0:=YW H s
 have hin:=ph_i H s.nx
 simp only[pB]at hi hi0 hin
 have cn:=YD hW (YW H s)
 have ct:=fun L=>Yq hW (H.app L) hN
 simp only[XH H]at ct
 have e1:=Tk.QsS s.tk
 have e2:=Tk.QsT s.tk
 have z1:(s.tk.kind==1)=true:=by simpa using hk
 have z2:(s.tk.text.toList==({data:=#[105,115]}:ByteArray).toList)=false:=by rw[Lib.toList_data ({data:=#[105,115]}:ByteArray)];simpa using hx
 have z3:(s.tk.kind != 4)=true:=by rw[hk];rfl
 refine Qa Tryz.func81 rfl Tryz.call81 Tryz.ntmps81 Tryz.results81 (by simp) ?_
 repeat (first|refine FunW.QsR cn ?_|refine Qb ?_);simp only[go_sem,seval,f1,f3,f5,hi0,e1,e2,z1,z2,z3]
 exact Yc H (s:=s) (s':=s) (.keep (Zb _ _ _ _)) ⟨rfl,rfl⟩
theorem QmB(hk:s.tk.kind≠1)(hk4:s.tk.kind≠4):QA Tryz.prog 81 [.ptr P.i 0 0] (ph h P s) (MQ h P s (none)):=by
 have f1:=Xv h P
 have f3:=Yu h P
 have f4:=Zh h P
 have f5:=X7 h P
 have f6:=YB h P
 have hi:=ph_i H s
 have hi0:=YW H s
 have hin:=ph_i H s.nx
 simp only[pB]at hi hi0 hin
 have cn:=YD hW (YW H s)
 have ct:=fun L=>Yq hW (H.app L) hN
 simp only[XH H]at ct
 have e1:=Tk.QsS s.tk
 have e2:=Tk.QsT s.tk
 have z1:(s.tk.kind==1)=false:=by simpa using hk
 have z3:(s.tk.kind != 4)=true:=by simpa using hk4
 refine Qa Tryz.func81 rfl Tryz.call81 Tryz.ntmps81 Tryz.results81 (by simp) ?_
 repeat (first|refine FunW.QsR cn ?_|refine Qb ?_);simp only[go_sem,seval,f1,f3,f5,hi0,e1,e2,z1,z3]
 exact Yc H (s:=s) (s':=s) (.keep (Zb _ _ _ _)) ⟨rfl,rfl⟩
theorem QrU(hk:s.tk.kind=4)(hx:s.tk.text.toList=[61]):QA Tryz.prog 81 [.ptr P.i 0 0] (ph h P s) (MQ h P s (some (3,false))):=by
 have f1:=Xv h P
 have f3:=Yu h P
 have f4:=Zh h P
 have f5:=X7 h P
 have f6:=YB h P
 have hi:=ph_i H s
 have hi0:=YW H s
 have hin:=ph_i H s.nx
 simp only[pB]at hi hi0 hin
 have cn:=YD hW (YW H s)
 have ct:=fun L=>Yq hW (H.app L) hN
 simp only[XH H]at ct
 have e1:=Tk.QsS s.tk
 have e2:=Tk.QsT s.tk
 have z1:(s.tk.kind==1)=false:=by rw[hk];rfl
 have z3:(s.tk.kind != 4)=false:=by rw[hk];rfl
 have y0:(s.tk.text.toList==({data:=#[61]}:ByteArray).toList)=true:=by rw[hx,Lib.toList_data];rfl
 refine Qa Tryz.func81 rfl Tryz.call81 Tryz.ntmps81 Tryz.results81 (by simp) ?_
 repeat first|(first|refine FunW.QsR cn ?_|refine FunW.QsR (ct _) ?_|refine Qb ?_);simp only[go_sem,seval,f1,f3,f5,hi0,e1,e2,z1,z3,y0,hi,f4,f6,hin]|refine hK _ ?_;clear hK|clear hK;clear hK;refine hK _ ?_;clear hK
 exact Yc H (s:=s) (s':=s.nx) (.keep (Zb _ _ _ _)) ⟨rfl,rfl⟩
theorem QrV(hk:s.tk.kind=4)(hx:s.tk.text.toList=[61,61]):QA Tryz.prog 81 [.ptr P.i 0 0] (ph h P s) (MQ h P s (some (5,false))):=by
 have f1:=Xv h P
 have f3:=Yu h P
 have f4:=Zh h P
 have f5:=X7 h P
 have f6:=YB h P
 have hi:=ph_i H s
 have hi0:=YW H s
 have hin:=ph_i H s.nx
 simp only[pB]at hi hi0 hin
 have cn:=YD hW (YW H s)
 have ct:=fun L=>Yq hW (H.app L) hN
 simp only[XH H]at ct
 have e1:=Tk.QsS s.tk
 have e2:=Tk.QsT s.tk
 have z1:(s.tk.kind==1)=false:=by rw[hk];rfl
 have z3:(s.tk.kind != 4)=false:=by rw[hk];rfl
 have y0:(s.tk.text.toList==({data:=#[61]}:ByteArray).toList)=false:=by rw[hx,Lib.toList_data];rfl
 have y1:(s.tk.text.toList==({data:=#[61,61]}:ByteArray).toList)=true:=by rw[hx,Lib.toList_data];rfl
 refine Qa Tryz.func81 rfl Tryz.call81 Tryz.ntmps81 Tryz.results81 (by simp) ?_
 repeat first|(first|refine FunW.QsR cn ?_|refine FunW.QsR (ct _) ?_|refine Qb ?_);simp only[go_sem,seval,f1,f3,f5,hi0,e1,e2,z1,z3,y0,y1,hi,f4,f6,hin]|refine hK _ ?_;clear hK|clear hK;clear hK;clear hK;refine hK _ ?_;clear hK
 exact Yc H (s:=s) (s':=s.nx) (.keep (Zb _ _ _ _)) ⟨rfl,rfl⟩
theorem QrW(hk:s.tk.kind=4)(hx:s.tk.text.toList=[92,61]):QA Tryz.prog 81 [.ptr P.i 0 0] (ph h P s) (MQ h P s (some (6,false))):=by
 have f1:=Xv h P
 have f3:=Yu h P
 have f4:=Zh h P
 have f5:=X7 h P
 have f6:=YB h P
 have hi:=ph_i H s
 have hi0:=YW H s
 have hin:=ph_i H s.nx
 simp only[pB]at hi hi0 hin
 have cn:=YD hW (YW H s)
 have ct:=fun L=>Yq hW (H.app L) hN
 simp only[XH H]at ct
 have e1:=Tk.QsS s.tk
 have e2:=Tk.QsT s.tk
 have z1:(s.tk.kind==1)=false:=by rw[hk];rfl
 have z3:(s.tk.kind != 4)=false:=by rw[hk];rfl
 have y0:(s.tk.text.toList==({data:=#[61]}:ByteArray).toList)=false:=by rw[hx,Lib.toList_data];rfl
 have y1:(s.tk.text.toList==({data:=#[61,61]}:ByteArray).toList)=false:=by rw[hx,Lib.toList_data];rfl
 have y2:(s.tk.text.toList==({data:=#[92,61]}:ByteArray).toList)=true:=by rw[hx,Lib.toList_data];rfl
 refine Qa Tryz.func81 rfl Tryz.call81 Tryz.ntmps81 Tryz.results81 (by simp) ?_
 repeat first|(first|refine FunW.QsR cn ?_|refine FunW.QsR (ct _) ?_|refine Qb ?_);simp only[go_sem,seval,f1,f3,f5,hi0,e1,e2,z1,z3,y0,y1,y2,hi,f4,f6,hin]|refine hK _ ?_;clear hK
 exact Yc H (s:=s) (s':=s.nx) (.keep (Zb _ _ _ _)) ⟨rfl,rfl⟩
theorem QrX(hk:s.tk.kind=4)(hx:s.tk.text.toList=[62]):QA Tryz.prog 81 [.ptr P.i 0 0] (ph h P s) (MQ h P s (some (7,true))):=by
 have f1:=Xv h P
 have f3:=Yu h P
 have f4:=Zh h P
 have f5:=X7 h P
 have f6:=YB h P
 have hi:=ph_i H s
 have hi0:=YW H s
 have hin:=ph_i H s.nx
 simp only[pB]at hi hi0 hin
 have cn:=YD hW (YW H s)
 have ct:=fun L=>Yq hW (H.app L) hN
 simp only[XH H]at ct
 have e1:=Tk.QsS s.tk
 have e2:=Tk.QsT s.tk
 have z1:(s.tk.kind==1)=false:=by rw[hk];rfl
 have z3:(s.tk.kind != 4)=false:=by rw[hk];rfl
 have y0:(s.tk.text.toList==({data:=#[61]}:ByteArray).toList)=false:=by rw[hx,Lib.toList_data];rfl
 have y1:(s.tk.text.toList==({data:=#[61,61]}:ByteArray).toList)=false:=by rw[hx,Lib.toList_data];rfl
 have y2:(s.tk.text.toList==({data:=#[92,61]}:ByteArray).toList)=false:=by rw[hx,Lib.toList_data];rfl
 have y3:(s.tk.text.toList==({data:=#[62]}:ByteArray).toList)=true:=by rw[hx,Lib.toList_data];rfl
 refine Qa Tryz.func81 rfl Tryz.call81 Tryz.ntmps81 Tryz.results81 (by simp) ?_
 repeat first|(first|refine FunW.QsR cn ?_|refine FunW.QsR (ct _) ?_|refine Qb ?_);simp only[go_sem,seval,f1,f3,f5,hi0,e1,e2,z1,z3,y0,y1,y2,y3,hi,f4,f6,hin]|refine hK _ ?_;clear hK
 exact Yc H (s:=s) (s':=s.nx) (.keep (Zb _ _ _ _)) ⟨rfl,rfl⟩
theorem QrY(hk:s.tk.kind=4)(hx:s.tk.text.toList=[60]):QA Tryz.prog 81 [.ptr P.i 0 0] (ph h P s) (MQ h P s (some (7,false))):=by
 have f1:=Xv h P
 have f3:=Yu h P
 have f4:=Zh h P
 have f5:=X7 h P
 have f6:=YB h P
 have hi:=ph_i H s
 have hi0:=YW H s
 have hin:=ph_i H s.nx
 simp only[pB]at hi hi0 hin
 have cn:=YD hW (YW H s)
 have ct:=fun L=>Yq hW (H.app L) hN
 simp only[XH H]at ct
 have e1:=Tk.QsS s.tk
 have e2:=Tk.QsT s.tk
 have z1:(s.tk.kind==1)=false:=by rw[hk];rfl
 have z3:(s.tk.kind != 4)=false:=by rw[hk];rfl
 have y0:(s.tk.text.toList==({data:=#[61]}:ByteArray).toList)=false:=by rw[hx,Lib.toList_data];rfl
 have y1:(s.tk.text.toList==({data:=#[61,61]}:ByteArray).toList)=false:=by rw[hx,Lib.toList_data];rfl
 have y2:(s.tk.text.toList==({data:=#[92,61]}:ByteArray).toList)=false:=by rw[hx,Lib.toList_data];rfl
 have y3:(s.tk.text.toList==({data:=#[62]}:ByteArray).toList)=false:=by rw[hx,Lib.toList_data];rfl
 have y4:(s.tk.text.toList==({data:=#[60]}:ByteArray).toList)=true:=by rw[hx,Lib.toList_data];rfl
 refine Qa Tryz.func81 rfl Tryz.call81 Tryz.ntmps81 Tryz.results81 (by simp) ?_
 repeat first|(first|refine FunW.QsR cn ?_|refine FunW.QsR (ct _) ?_|refine Qb ?_);simp only[go_sem,seval,f1,f3,f5,hi0,e1,e2,z1,z3,y0,y1,y2,y3,y4,hi,f4,f6,hin]|refine hK _ ?_;clear hK
 exact Yc H (s:=s) (s':=s.nx) (.keep (Zb _ _ _ _)) ⟨rfl,rfl⟩
theorem QrZ(hk:s.tk.kind=4)(hx:s.tk.text.toList=[62,61]):QA Tryz.prog 81 [.ptr P.i 0 0] (ph h P s) (MQ h P s (some (8,true))):=by
 have f1:=Xv h P
 have f3:=Yu h P
 have f4:=Zh h P
 have f5:=X7 h P
 have f6:=YB h P
 have hi:=ph_i H s
 have hi0:=YW H s
 have hin:=ph_i H s.nx
 simp only[pB]at hi hi0 hin
 have cn:=YD hW (YW H s)
 have ct:=fun L=>Yq hW (H.app L) hN
 simp only[XH H]at ct
 have e1:=Tk.QsS s.tk
 have e2:=Tk.QsT s.tk
 have z1:(s.tk.kind==1)=false:=by rw[hk];rfl
 have z3:(s.tk.kind != 4)=false:=by rw[hk];rfl
 have y0:(s.tk.text.toList==({data:=#[61]}:ByteArray).toList)=false:=by rw[hx,Lib.toList_data];rfl
 have y1:(s.tk.text.toList==({data:=#[61,61]}:ByteArray).toList)=false:=by rw[hx,Lib.toList_data];rfl
 have y2:(s.tk.text.toList==({data:=#[92,61]}:ByteArray).toList)=false:=by rw[hx,Lib.toList_data];rfl
 have y3:(s.tk.text.toList==({data:=#[62]}:ByteArray).toList)=false:=by rw[hx,Lib.toList_data];rfl
 have y4:(s.tk.text.toList==({data:=#[60]}:ByteArray).toList)=false:=by rw[hx,Lib.toList_data];rfl
 have y5:(s.tk.text.toList==({data:=#[62,61]}:ByteArray).toList)=true:=by rw[hx,Lib.toList_data];rfl
 refine Qa Tryz.func81 rfl Tryz.call81 Tryz.ntmps81 Tryz.results81 (by simp) ?_
 repeat first|(first|refine FunW.QsR cn ?_|refine FunW.QsR (ct _) ?_|refine Qb ?_);simp only[go_sem,seval,f1,f3,f5,hi0,e1,e2,z1,z3,y0,y1,y2,y3,y4,y5,hi,f4,f6,hin]|refine hK _ ?_;clear hK|clear hK;clear hK;clear hK;refine hK _ ?_;clear hK
 exact Yc H (s:=s) (s':=s.nx) (.keep (Zb _ _ _ _)) ⟨rfl,rfl⟩
theorem Qr0(hk:s.tk.kind=4)(hx:s.tk.text.toList=[61,60]):QA Tryz.prog 81 [.ptr P.i 0 0] (ph h P s) (MQ h P s (some (8,false))):=by
 have f1:=Xv h P
 have f3:=Yu h P
 have f4:=Zh h P
 have f5:=X7 h P
 have f6:=YB h P
 have hi:=ph_i H s
 have hi0:=YW H s
 have hin:=ph_i H s.nx
 simp only[pB]at hi hi0 hin
 have cn:=YD hW (YW H s)
 have ct:=fun L=>Yq hW (H.app L) hN
 simp only[XH H]at ct
 have e1:=Tk.QsS s.tk
 have e2:=Tk.QsT s.tk
 have z1:(s.tk.kind==1)=false:=by rw[hk];rfl
 have z3:(s.tk.kind != 4)=false:=by rw[hk];rfl
 have y0:(s.tk.text.toList==({data:=#[61]}:ByteArray).toList)=false:=by rw[hx,Lib.toList_data];rfl
 have y1:(s.tk.text.toList==({data:=#[61,61]}:ByteArray).toList)=false:=by rw[hx,Lib.toList_data];rfl
 have y2:(s.tk.text.toList==({data:=#[92,61]}:ByteArray).toList)=false:=by rw[hx,Lib.toList_data];rfl
 have y3:(s.tk.text.toList==({data:=#[62]}:ByteArray).toList)=false:=by rw[hx,Lib.toList_data];rfl
 have y4:(s.tk.text.toList==({data:=#[60]}:ByteArray).toList)=false:=by rw[hx,Lib.toList_data];rfl
 have y5:(s.tk.text.toList==({data:=#[62,61]}:ByteArray).toList)=false:=by rw[hx,Lib.toList_data];rfl
 have y6:(s.tk.text.toList==({data:=#[61,60]}:ByteArray).toList)=true:=by rw[hx,Lib.toList_data];rfl
 refine Qa Tryz.func81 rfl Tryz.call81 Tryz.ntmps81 Tryz.results81 (by simp) ?_
 repeat first|(first|refine FunW.QsR cn ?_|refine FunW.QsR (ct _) ?_|refine Qb ?_);simp only[go_sem,seval,f1,f3,f5,hi0,e1,e2,z1,z3,y0,y1,y2,y3,y4,y5,y6,hi,f4,f6,hin]|refine hK _ ?_;clear hK|clear hK;clear hK;clear hK;refine hK _ ?_;clear hK
 exact Yc H (s:=s) (s':=s.nx) (.keep (Zb _ _ _ _)) ⟨rfl,rfl⟩
theorem Qr1(hk:s.tk.kind=4)(hx:s.tk.text.toList=[61,58,61]):QA Tryz.prog 81 [.ptr P.i 0 0] (ph h P s) (MQ h P s (some (9,false))):=by
 have f1:=Xv h P
 have f3:=Yu h P
 have f4:=Zh h P
 have f5:=X7 h P
 have f6:=YB h P
 have hi:=ph_i H s
 have hi0:=YW H s
 have hin:=ph_i H s.nx
 simp only[pB]at hi hi0 hin
 have cn:=YD hW (YW H s)
 have ct:=fun L=>Yq hW (H.app L) hN
 simp only[XH H]at ct
 have e1:=Tk.QsS s.tk
 have e2:=Tk.QsT s.tk
 have z1:(s.tk.kind==1)=false:=by rw[hk];rfl
 have z3:(s.tk.kind != 4)=false:=by rw[hk];rfl
 have y0:(s.tk.text.toList==({data:=#[61]}:ByteArray).toList)=false:=by rw[hx,Lib.toList_data];rfl
 have y1:(s.tk.text.toList==({data:=#[61,61]}:ByteArray).toList)=false:=by rw[hx,Lib.toList_data];rfl
 have y2:(s.tk.text.toList==({data:=#[92,61]}:ByteArray).toList)=false:=by rw[hx,Lib.toList_data];rfl
 have y3:(s.tk.text.toList==({data:=#[62]}:ByteArray).toList)=false:=by rw[hx,Lib.toList_data];rfl
 have y4:(s.tk.text.toList==({data:=#[60]}:ByteArray).toList)=false:=by rw[hx,Lib.toList_data];rfl
 have y5:(s.tk.text.toList==({data:=#[62,61]}:ByteArray).toList)=false:=by rw[hx,Lib.toList_data];rfl
 have y6:(s.tk.text.toList==({data:=#[61,60]}:ByteArray).toList)=false:=by rw[hx,Lib.toList_data];rfl
 have y7:(s.tk.text.toList==({data:=#[61,58,61]}:ByteArray).toList)=true:=by rw[hx,Lib.toList_data];rfl
 refine Qa Tryz.func81 rfl Tryz.call81 Tryz.ntmps81 Tryz.results81 (by simp) ?_
 repeat first|(first|refine FunW.QsR cn ?_|refine FunW.QsR (ct _) ?_|refine Qb ?_);simp only[go_sem,seval,f1,f3,f5,hi0,e1,e2,z1,z3,y0,y1,y2,y3,y4,y5,y6,y7,hi,f4,f6,hin]|refine hK _ ?_;clear hK|clear hK;clear hK;refine hK _ ?_;clear hK
 exact Yc H (s:=s) (s':=s.nx) (.keep (Zb _ _ _ _)) ⟨rfl,rfl⟩
theorem Qr2(hk:s.tk.kind=4)(hx:s.tk.text.toList=[61,92,61]):QA Tryz.prog 81 [.ptr P.i 0 0] (ph h P s) (MQ h P s (some (10,false))):=by
 have f1:=Xv h P
 have f3:=Yu h P
 have f4:=Zh h P
 have f5:=X7 h P
 have f6:=YB h P
 have hi:=ph_i H s
 have hi0:=YW H s
 have hin:=ph_i H s.nx
 simp only[pB]at hi hi0 hin
 have cn:=YD hW (YW H s)
 have ct:=fun L=>Yq hW (H.app L) hN
 simp only[XH H]at ct
 have e1:=Tk.QsS s.tk
 have e2:=Tk.QsT s.tk
 have z1:(s.tk.kind==1)=false:=by rw[hk];rfl
 have z3:(s.tk.kind != 4)=false:=by rw[hk];rfl
 have y0:(s.tk.text.toList==({data:=#[61]}:ByteArray).toList)=false:=by rw[hx,Lib.toList_data];rfl
 have y1:(s.tk.text.toList==({data:=#[61,61]}:ByteArray).toList)=false:=by rw[hx,Lib.toList_data];rfl
 have y2:(s.tk.text.toList==({data:=#[92,61]}:ByteArray).toList)=false:=by rw[hx,Lib.toList_data];rfl
 have y3:(s.tk.text.toList==({data:=#[62]}:ByteArray).toList)=false:=by rw[hx,Lib.toList_data];rfl
 have y4:(s.tk.text.toList==({data:=#[60]}:ByteArray).toList)=false:=by rw[hx,Lib.toList_data];rfl
 have y5:(s.tk.text.toList==({data:=#[62,61]}:ByteArray).toList)=false:=by rw[hx,Lib.toList_data];rfl
 have y6:(s.tk.text.toList==({data:=#[61,60]}:ByteArray).toList)=false:=by rw[hx,Lib.toList_data];rfl
 have y7:(s.tk.text.toList==({data:=#[61,58,61]}:ByteArray).toList)=false:=by rw[hx,Lib.toList_data];rfl
 have y8:(s.tk.text.toList==({data:=#[61,92,61]}:ByteArray).toList)=true:=by rw[hx,Lib.toList_data];rfl
 refine Qa Tryz.func81 rfl Tryz.call81 Tryz.ntmps81 Tryz.results81 (by simp) ?_
 repeat first|(first|refine FunW.QsR cn ?_|refine FunW.QsR (ct _) ?_|refine Qb ?_);simp only[go_sem,seval,f1,f3,f5,hi0,e1,e2,z1,z3,y0,y1,y2,y3,y4,y5,y6,y7,y8,hi,f4,f6,hin]|refine hK _ ?_;clear hK|clear hK;refine hK _ ?_;clear hK
 exact Yc H (s:=s) (s':=s.nx) (.keep (Zb _ _ _ _)) ⟨rfl,rfl⟩
theorem Qom(hk:s.tk.kind=4)(h0:s.tk.text.toList≠[61])(h1:s.tk.text.toList≠[61,61])(h2:s.tk.text.toList≠[92,61])(h3:s.tk.text.toList≠[62])(h4:s.tk.text.toList≠[60])(h5:s.tk.text.toList≠[62,61])(h6:s.tk.text.toList≠[61,60])(h7:s.tk.text.toList≠[61,58,61])(h8:s.tk.text.toList≠[61,92,61]):QA Tryz.prog 81 [.ptr P.i 0 0] (ph h P s) (MQ h P s (none)):=by
 have f1:=Xv h P
 have f3:=Yu h P
 have f4:=Zh h P
 have f5:=X7 h P
 have f6:=YB h P
 have hi:=ph_i H s
 have hi0:=YW H s
 have hin:=ph_i H s.nx
 simp only[pB]at hi hi0 hin
 have cn:=YD hW (YW H s)
 have ct:=fun L=>Yq hW (H.app L) hN
 simp only[XH H]at ct
 have e1:=Tk.QsS s.tk
 have e2:=Tk.QsT s.tk
 have z1:(s.tk.kind==1)=false:=by rw[hk];rfl
 have z3:(s.tk.kind != 4)=false:=by rw[hk];rfl
 have y0:(s.tk.text.toList==({data:=#[61]}:ByteArray).toList)=false:=by rw[Lib.toList_data ({data:=#[61]}:ByteArray)];simpa using h0
 have y1:(s.tk.text.toList==({data:=#[61,61]}:ByteArray).toList)=false:=by rw[Lib.toList_data ({data:=#[61,61]}:ByteArray)];simpa using h1
 have y2:(s.tk.text.toList==({data:=#[92,61]}:ByteArray).toList)=false:=by rw[Lib.toList_data ({data:=#[92,61]}:ByteArray)];simpa using h2
 have y3:(s.tk.text.toList==({data:=#[62]}:ByteArray).toList)=false:=by rw[Lib.toList_data ({data:=#[62]}:ByteArray)];simpa using h3
 have y4:(s.tk.text.toList==({data:=#[60]}:ByteArray).toList)=false:=by rw[Lib.toList_data ({data:=#[60]}:ByteArray)];simpa using h4
 have y5:(s.tk.text.toList==({data:=#[62,61]}:ByteArray).toList)=false:=by rw[Lib.toList_data ({data:=#[62,61]}:ByteArray)];simpa using h5
 have y6:(s.tk.text.toList==({data:=#[61,60]}:ByteArray).toList)=false:=by rw[Lib.toList_data ({data:=#[61,60]}:ByteArray)];simpa using h6
 have y7:(s.tk.text.toList==({data:=#[61,58,61]}:ByteArray).toList)=false:=by rw[Lib.toList_data ({data:=#[61,58,61]}:ByteArray)];simpa using h7
 have y8:(s.tk.text.toList==({data:=#[61,92,61]}:ByteArray).toList)=false:=by rw[Lib.toList_data ({data:=#[61,92,61]}:ByteArray)];simpa using h8
 refine Qa Tryz.func81 rfl Tryz.call81 Tryz.ntmps81 Tryz.results81 (by simp) ?_
 repeat first|(first|refine FunW.QsR cn ?_|refine Qb ?_);simp only[go_sem,seval,f1,f3,f5,hi0,e1,e2,z1,z3,y0,y1,y2,y3,y4,y5,y6,y7,y8,f4,f6,hi,hin]|refine hK _ ?_;clear hK
 exact Yc H (s:=s) (s':=s) (.keep (Zb _ _ _ _)) ⟨rfl,rfl⟩
theorem Qe7:QA Tryz.prog 81 [.ptr P.i 0 0] (ph h P s) (MQ h P s (QaP s)):=by
 unfold QaP
 by_cases hk:s.tk.kind=1
 ·rw[QuH hk]
  by_cases hx:s.tk.text.toList=[105,115]
  ·rw[QuH hx];exact QqR hW H hN hk hx
  ·rw[QuE hx];exact Qon hW H hN hk hx
 rw[QuE hk]
 by_cases hk4:s.tk.kind=4
 case neg=>rw[QuH hk4];exact QmB hW H hN hk hk4
 rw[QuE (by simpa using hk4)]
 by_cases h0:s.tk.text.toList=[61]
 ·rw[QuH h0];exact QrU hW H hN hk4 h0
 rw[QuE h0]
 by_cases h1:s.tk.text.toList=[61,61]
 ·rw[QuH h1];exact QrV hW H hN hk4 h1
 rw[QuE h1]
 by_cases h2:s.tk.text.toList=[92,61]
 ·rw[QuH h2];exact QrW hW H hN hk4 h2
 rw[QuE h2]
 by_cases h4:s.tk.text.toList=[60]
 ·rw[QuH h4];exact QrY hW H hN hk4 h4
 rw[QuE h4]
 by_cases h6:s.tk.text.toList=[61,60]
 ·rw[QuH h6];exact Qr0 hW H hN hk4 h6
 rw[QuE h6]
 by_cases h3:s.tk.text.toList=[62]
 ·rw[QuH h3];exact QrX hW H hN hk4 h3
 rw[QuE h3]
 by_cases h5:s.tk.text.toList=[62,61]
 ·rw[QuH h5];exact QrZ hW H hN hk4 h5
 rw[QuE h5]
 by_cases h7:s.tk.text.toList=[61,58,61]
 ·rw[QuH h7];exact Qr1 hW H hN hk4 h7
 rw[QuE h7]
 by_cases h8:s.tk.text.toList=[61,92,61]
 ·rw[QuH h8];exact Qr2 hW H hN hk4 h8
 rw[QuE h8]
 exact Qom hW H hN hk4 h0 h1 h2 h3 h4 h5 h6 h7 h8
end
end Go.Proofs.YticgcpebdldbgaaGreatDoor.Ab
namespace Go.Proofs.YticgcpebdldbgaaGreatDoor.Ab
theorem QoE(tt:TypeId)(n:Nat)(x y:T):layA tt n [x,y]=x.lay tt n++(.dead::(y.lay tt (n+x.sz+1)++[.cells tt 4 [x.lv n,y.lv (n+x.sz+1)]])):=by
 simp only[layA,lays,lvs,Qum,Qul,QtJ,Qvy,QvB]
def tauT(n px sx pd py sy pr:Nat):Nat->Nat:=fun i=>if i<n then i else if i<n+sx then px+(i - n)else if i=n+sx then pd else if i<n+sx+1+sy then py+(i - n - sx - 1)else pr+(i - (n+sx+1+sy))
theorem Qqp{tt:TypeId}{A N:AH}{n:Nat}(hn:A.length=n)(hb:∀b∈A,b.Below n)(x y:T){px pd py pr:Nat}(h1:n<=px)(h2:n<=py)(h3:n<=pd)
  (ho:(px+x.sz<=pd/\pd<py/\py+y.sz<=pr)\/(py+y.sz<=pd/\pd<px/\px+x.sz<=pr)) (hx:At (A++N) px (x.lay tt px)) (hy:At (A++N) py (y.lay tt py)) (hr:(A++N)[pr]? = some (.cells tt 4 [x.lv px,y.lv py])) :
  Pack n (tauT n px x.sz pd py y.sz pr) (A++N) (A++layA tt n [x,y])/\Pk n (tauT n px x.sz pd py y.sz pr) (A++layA tt n [x,y]) (.arr pr 0 2) (lsl n [x,y]):=by
 have hlen:(layA tt n [x,y]).length=x.sz+1+(y.sz+1):=by rw[Zi];simp only[szs];try omega
 have hL:(A++layA tt n [x,y]).length=n+(x.sz+1+(y.sz+1)):=by rw[Quw,hlen,hn]
 have shx:Sh n (tauT n px x.sz pd py y.sz pr) (A++layA tt n [x,y]) px n x.sz:=⟨QuD _,by omega,fun j hj=>by unfold tauT;rw[QuE (by omega),QuH (by omega)];omega⟩
 have shy:Sh n (tauT n px x.sz pd py y.sz pr) (A++layA tt n [x,y]) py (n+x.sz+1) y.sz:=⟨by omega,by omega,fun j hj=>by unfold tauT;rw[QuE (by omega),QuE (by omega),QuE (by omega),QuH (by omega)];omega⟩
 have cl:∀i,n<=i->i<n+(x.sz+1+(y.sz+1))->(i<n+x.sz/\tauT n px x.sz pd py y.sz pr i=px+(i - n))\/(i=n+x.sz/\tauT n px x.sz pd py y.sz pr i=pd) \/
   (n+x.sz<i/\i<n+x.sz+1+y.sz/\tauT n px x.sz pd py y.sz pr i=py+(i - n - x.sz - 1))\/(i=n+x.sz+1+y.sz/\tauT n px x.sz pd py y.sz pr i=pr):=by
  intro i hi hi2
  by_cases a1:i<n+x.sz
  ·exact .inl ⟨a1,by unfold tauT;rw[QuE (by omega),QuH a1]⟩
  ·by_cases a2:i=n+x.sz
   ·exact .inr (.inl ⟨a2,by unfold tauT;rw[QuE (by omega),QuE a1,QuH a2]⟩)
   ·by_cases a3:i<n+x.sz+1+y.sz
    ·exact .inr (.inr (.inl ⟨by omega,a3,by unfold tauT;rw[QuE (by omega),QuE a1,QuE a2,QuH a3]⟩))
    ·refine .inr (.inr (.inr ⟨by omega,?_⟩))
     unfold tauT
     rw[QuE (by omega),QuE a1,QuE a2,QuE a3]
     omega
 have tr:tauT n px x.sz pd py y.sz pr (n+x.sz+1+y.sz)=pr:=by
  rcases cl (n+x.sz+1+y.sz) (by omega) (by omega)with h|h|h|h <;> omega
 refine⟨QkD hn hb (fun i hi=>by unfold tauT;rw[QuH hi]) (fun i hi hi2=>?_) (fun i j hi hi2 hj hj2 he=>?_) fun j b' hj=>?_,?_⟩
 ·rcases cl i hi (by omega)with h|h|h|h <;> omega
 ·rw[hlen]at hi2 hj2
  rcases cl i hi hi2 with h|h|h|h <;> rcases cl j hj hj2 with k|k|k|k <;> omega
 ·have hjl:=Qf hj
  rw[hlen]at hjl
  rw[QoE,Qu0,T.QsW]at hj
  split at hj
  ·rename_i hlt
   obtain⟨b,hbb⟩:∃b,(x.lay tt px)[j]? = some b:=⟨_,QuC (by rw[T.QsW];exact hlt)⟩
   cases hl:b.live with
   |false=>exact .inl (T.Qtb x j b b' hbb hj hl)
   |true =>
    refine .inr ⟨b,?_,T.pkB x shx j b b' hbb hj⟩
    rw[shx.2.2 j hlt]
    exact hx j b hbb hl
  ·rename_i hge
   cases hk:j - x.sz with
   |zero =>
    rw[hk,QtF]at hj
    cases hj
    exact .inl rfl
   |succ k =>
    rw[hk,QtG,Qu0,T.QsW]at hj
    split at hj
    ·rename_i hlt
     obtain⟨b,hbb⟩:∃b,(y.lay tt py)[k]? = some b:=⟨_,QuC (by rw[T.QsW];exact hlt)⟩
     cases hl:b.live with
     |false=>exact .inl (T.Qtb y k b b' hbb hj hl)
     |true =>
      refine .inr ⟨b,?_,T.pkB y shy k b b' hbb hj⟩
      rw[show n+j=n+x.sz+1+k by omega,shy.2.2 k hlt]
      exact hy k b hbb hl
    ·rename_i hge2
     have hk2:k=y.sz:=by omega
     subst hk2
     rw[Qu9,QtF]at hj
     cases hj
     refine .inr ⟨_,by rw[show n+j=n+x.sz+1+y.sz by omega,tr];exact hr,.inr ⟨tt,4,_,_,rfl,rfl,?_,?_⟩⟩
     ·intro z hz
      simp only[QuL,QuS,Qvz]at hz
      rcases hz with rfl|rfl <;> exact T.Qs3 _ _
     ·have:=QmG (R:=Pk n (tauT n px x.sz pd py y.sz pr) (A++layA tt n [x,y])) (xs:=[x.lv px,y.lv py]) (ys:=[x.lv n,y.lv (n+x.sz+1)]) rfl fun i u v hu hv=>by
       match i,hu,hv with
       |0,hu,hv=>cases hu;cases hv;exact⟨by rw[T.Qs3,T.Qs3],T.Qs7 shx⟩
       |1,hu,hv=>cases hu;cases hv;exact⟨by rw[T.Qs3,T.Qs3],T.Qs7 shy⟩
       |i+2,hu,hv=>simp at hu
      exact⟨Qwg this.1,this.2⟩
 ·show Pk _ _ _ _ (.arr (n+szs [x,y] - 1) 0 2)
  have e:n+szs [x,y] - 1=n+x.sz+1+y.sz:=by simp only[szs];omega
  rw[e]
  exact .arr tr.symm (by omega) (by omega)
end Go.Proofs.YticgcpebdldbgaaGreatDoor.Ab
namespace Go.Proofs.YticgcpebdldbgaaGreatDoor.Ab
open Go.Proofs
def gv(n:Nat)(g:G):AV:=.agg [.i g.op,.v (.string g.name),lsl n g.args]
abbrev zg:AV:=.agg [.i 0,.v (.string {data:=#[]}),.v (.slice none 0 0)]
def WC(g:Nat)(h:AH)(P:Pz):PR G->AOut->AH->Prop
 | .ok a s,o,h'=>o = .ret (.tup [gv (h.length+g) a,.b true])/\∃N,h'=ph h P s++N/\At N g (layA 48 (h.length+g) a.args)
 | .err p e,o,h'=>o = .panic (Fl p e)/\∃s,h'=ph h P s
def WQ(h:AH)(P:Pz):PR G->AOut->AH->Prop
 | .ok a s,o,h'=>o = .ret (.tup [gv h.length a,.b true])/\h'=ph h P s++layA 48 h.length a.args
 | .err p e,o,h'=>o = .panic (Fl p e)/\∃s,h'=ph h P s
theorem Qqs{n:Nat}{τ:Nat->Nat}{h2:AH}{m':Nat}{g:G}{y:AV}(hy:Pk n τ h2 y (lsl m' g.args)):Pk n τ h2 (.agg [.i g.op,.v (.string g.name),y]) (gv m' g):=.agg rfl fun j a a' h1 h2=>by
 match j,h1,h2 with
 |0,h1,h2=>cases h1;cases h2;exact .keep (.v _)
 |1,h1,h2=>cases h1;cases h2;exact .keep (.v _)
 |2,h1,h2=>cases h1;cases h2;exact hy
 |j+3,h1,h2=>simp at h1
theorem Qpr{P:Pz}{f:FuncId}{args:List AV}{h:AH}{s:PS}(H:P.ok h)(g:Nat){r:PR G}(C:QA Tryz.prog f args (ph h P s) (WC g h P r)):QA Tryz.prog f args (ph h P s) (WQ h P r):=by
 refine Qa4 C fun hb0 o h' hQ=>?_
 cases r with
 |err p e=>exact .inl hQ
 |ok t s2 =>
  obtain⟨rfl,N,rfl,hN⟩:=hQ
  rw[Xv]at hb0 ⊢
  have hb:∀b∈ph h P s2,b.Below h.length:=fun b hb=>by
   obtain⟨k,hk⟩:=Qaa hb
   rcases QcH H (s0:=s) hk with h1|h1
   ·exact hb0 k b h1
   ·exact h1
  obtain⟨K,hk⟩:=QoX (Xv h P s2) hb g t.args hN
  refine .inr ⟨_,.tup [gv h.length t,.b true],_,_,rfl,K,.tup rfl fun j a a' h1 h2=>?_,rfl,rfl⟩
  match j,h1,h2 with
  |0,h1,h2=>cases h1;cases h2;exact Qqs hk
  |1,h1,h2=>cases h1;cases h2;exact .keep (.v _)
  |j+2,h1,h2=>simp at h1
theorem Qk1(n:Nat)(b:Bool):Below n (.tup [zg,.b b]):=.tup _ fun x hx=>by
 simp only[QuL,QuS,Qvz]at hx
 rcases hx with rfl|rfl
 ·exact .agg _ fun x hx=>by
   simp only[QuL,QuS,Qvz]at hx
   rcases hx with rfl|rfl|rfl <;> exact .v _
 ·exact .v _
section
variable{P:Pz}{s:PS}(hW:Wst P.all s){h:AH}(H:P.ok h)(hN:P.all.length<=1000000)(hD:TkOk P.all)
include hW H hN hD
theorem Qpp(hk:s.tk.kind≠1):QA Tryz.prog 79 [.ptr P.i 0 0] (ph h P s) fun o h'=>o = .ret (.tup [zg,.b false])/\h'=ph h P s:=by
 have _hu:=hN;have _hv:=hD
 have f1:=Xv h P
 have f3:=Yu h P
 have f4:=Zh h P
 have f5:=X7 h P
 have f6:=YB h P
 have hi:=ph_i H s
 simp only[pB]at hi
 have cn:=nextL hW (YW H s)
 have e1:=Tk.QsS s.tk
 have e2:=Tk.QsT s.tk
 have z1:(s.tk.kind != 1)=true:=by simpa using hk
 refine Qa Tryz.func79 rfl Tryz.call79 Tryz.ntmps79 Tryz.results79 (by simp) ?_
 repeat (first|refine FunW.QsR (cn _) ?_|refine Qb ?_);simp only[go_sem,seval,f1,f3,f4,f5,f6,hi,e1,e2,z1]
 exact Yc H (s:=s) (s':=s) (.keep (Qk1 _ _)) ⟨rfl,rfl⟩
end
end Go.Proofs.YticgcpebdldbgaaGreatDoor.Ab
namespace Go.Proofs.YticgcpebdldbgaaGreatDoor.Ab
open Go.Proofs
section
variable{P:Pz}{s:PS}(hW:Wst P.all s){h:AH}(H:P.ok h)(hN:P.all.length<=1000000)(hD:TkOk P.all)
include hW H hN hD
theorem Qn9(hk:s.tk.kind=1)(h0:s.tk.text.toList≠[116,114,117,101])(h1:s.tk.text.toList≠[102,97,105,108])(h2:s.tk.text.toList≠[105,110,116])(h3:s.tk.text.toList≠[103,114,111,117,110,100]):QA Tryz.prog 79 [.ptr P.i 0 0] (ph h P s) fun o h'=>o = .ret (.tup [zg,.b false])/\h'=ph h P s:=by
 have _hu:=hD
 have f1:=Xv h P
 have f3:=Yu h P
 have f4:=Zh h P
 have f5:=X7 h P
 have f6:=YB h P
 have hi:=ph_i H s
 have hin:=ph_i H s.nx
 simp only[pB]at hi hin
 have cn:=nextL hW (YW H s)
 have ct:=fun L=>Yq hW (H.app L) hN
 simp only[XH H]at ct
 have e1:=Tk.QsS s.tk
 have e2:=Tk.QsT s.tk
 have z1:(s.tk.kind != 1)=false:=by rw[hk];rfl
 have y0:(s.tk.text.toList==({data:=#[116,114,117,101]}:ByteArray).toList)=false:=by rw[Lib.toList_data ({data:=#[116,114,117,101]}:ByteArray)];simpa using h0
 have y1:(s.tk.text.toList==({data:=#[102,97,105,108]}:ByteArray).toList)=false:=by rw[Lib.toList_data ({data:=#[102,97,105,108]}:ByteArray)];simpa using h1
 have y2:(s.tk.text.toList==({data:=#[105,110,116]}:ByteArray).toList)=false:=by rw[Lib.toList_data ({data:=#[105,110,116]}:ByteArray)];simpa using h2
 have y3:(s.tk.text.toList==({data:=#[103,114,111,117,110,100]}:ByteArray).toList)=false:=by rw[Lib.toList_data ({data:=#[103,114,111,117,110,100]}:ByteArray)];simpa using h3
 refine Qa Tryz.func79 rfl Tryz.call79 Tryz.ntmps79 Tryz.results79 (by simp) ?_
 repeat (first|refine FunW.QsR (cn _) ?_|refine Qb ?_);simp only[go_sem,seval,f1,f3,f4,f5,f6,hi,e1,e2,z1,y0,y1,y2,y3]
 exact Yc H (s:=s) (s':=s) (.keep (Qk1 _ _)) ⟨rfl,rfl⟩
theorem Qob(hk:s.tk.kind=1)(hx:s.tk.text.toList=[116,114,117,101]):QA Tryz.prog 79 [.ptr P.i 0 0] (ph h P s) (WC 3 h P (.ok ⟨1,eB,[]⟩ s.nx)):=by
 have _hu:=hD
 have f1:=Xv h P
 have f3:=Yu h P
 have f4:=Zh h P
 have f5:=X7 h P
 have f6:=YB h P
 have hi:=ph_i H s
 have hin:=ph_i H s.nx
 simp only[pB]at hi hin
 have cn:=nextL hW (YW H s)
 have ct:=fun L=>Yq hW (H.app L) hN
 simp only[XH H]at ct
 have e1:=Tk.QsS s.tk
 have e2:=Tk.QsT s.tk
 have z1:(s.tk.kind != 1)=false:=by rw[hk];rfl
 have o1:((1:Int)==11)=false:=by decide
 have o2:((1:Int)==12)=false:=by decide
 have y0:(s.tk.text.toList==({data:=#[116,114,117,101]}:ByteArray).toList)=true:=by rw[hx,Lib.toList_data];rfl
 refine Qa Tryz.func79 rfl Tryz.call79 Tryz.ntmps79 Tryz.results79 (by simp) ?_
 repeat (first|refine FunW.QsR (cn _) ?_|refine FunW.QsR (ct _) ?_|refine Qb ?_);simp only[go_sem,seval,f1,f3,f4,f5,f6,hi,e1,e2,z1,o1,o2,y0]
 exact .inr ⟨rfl,_,rfl,QgQ _ _⟩
theorem Qn8(hk:s.tk.kind=1)(hx:s.tk.text.toList=[102,97,105,108]):QA Tryz.prog 79 [.ptr P.i 0 0] (ph h P s) (WC 3 h P (.ok ⟨2,eB,[]⟩ s.nx)):=by
 have _hu:=hD
 have f1:=Xv h P
 have f3:=Yu h P
 have f4:=Zh h P
 have f5:=X7 h P
 have f6:=YB h P
 have hi:=ph_i H s
 have hin:=ph_i H s.nx
 simp only[pB]at hi hin
 have cn:=nextL hW (YW H s)
 have ct:=fun L=>Yq hW (H.app L) hN
 simp only[XH H]at ct
 have e1:=Tk.QsS s.tk
 have e2:=Tk.QsT s.tk
 have z1:(s.tk.kind != 1)=false:=by rw[hk];rfl
 have o1:((2:Int)==11)=false:=by decide
 have o2:((2:Int)==12)=false:=by decide
 have y0:(s.tk.text.toList==({data:=#[116,114,117,101]}:ByteArray).toList)=false:=by rw[hx,Lib.toList_data];rfl
 have y1:(s.tk.text.toList==({data:=#[102,97,105,108]}:ByteArray).toList)=true:=by rw[hx,Lib.toList_data];rfl
 refine Qa Tryz.func79 rfl Tryz.call79 Tryz.ntmps79 Tryz.results79 (by simp) ?_
 repeat (first|refine FunW.QsR (cn _) ?_|refine FunW.QsR (ct _) ?_|refine Qb ?_);simp only[go_sem,seval,f1,f3,f4,f5,f6,hi,e1,e2,z1,o1,o2,y0,y1]
 exact .inr ⟨rfl,_,rfl,QgQ _ _⟩
theorem Qpo(hk:s.tk.kind=1)(hx:s.tk.text.toList=[105,110,116]):QA Tryz.prog 79 [.ptr P.i 0 0] (ph h P s) (WC 3 h P (Qb6 11 s.nx)):=by
 have f1:=Xv h P
 have f3:=Yu h P
 have f4:=Zh h P
 have f5:=X7 h P
 have f6:=YB h P
 have hi:=ph_i H s
 have hin:=ph_i H s.nx
 simp only[pB]at hi hin
 have cn:=nextL hW (YW H s)
 have ct:=fun L=>Yq hW (H.app L) hN
 simp only[XH H]at ct
 have e1:=Tk.QsS s.tk
 have e2:=Tk.QsT s.tk
 have z1:(s.tk.kind != 1)=false:=by rw[hk];rfl
 have o1:((11:Int)==11)=true:=by decide
 have o2:((11:Int)==12)=false:=by decide
 have y0:(s.tk.text.toList==({data:=#[116,114,117,101]}:ByteArray).toList)=false:=by rw[hx,Lib.toList_data];rfl
 have y1:(s.tk.text.toList==({data:=#[102,97,105,108]}:ByteArray).toList)=false:=by rw[hx,Lib.toList_data];rfl
 have y2:(s.tk.text.toList==({data:=#[105,110,116]}:ByteArray).toList)=true:=by rw[hx,Lib.toList_data];rfl
 have hWn:=hW.nx
 have HR:=QhX hN hD
 rw[Qb6,YM]
 cases hl:s.nx.is sLp with
 |false =>
  rw[QuE (by simp)]
  have ce:=fun L=>Zp hWn H hN L {data:=#[40]} (by rw[Lib.toList_data];exact hl)
  refine Qa Tryz.func79 rfl Tryz.call79 Tryz.ntmps79 Tryz.results79 (by simp) ?_
  repeat first|(first|refine FunW.QsR (cn _) ?_|refine FunW.QsR (ct _) ?_|refine FunW.pan (FunW.call (ce _)) ?_|refine Qb ?_);simp only[go_sem,seval,f1,f4,f6,hi,hin,e1,e2,z1,y0,y1,y2]|refine hK _ ?_;clear hK
  exact Xw H s s.nx _ _ _ ⟨rfl,_,rfl⟩
 |true =>
  rw[QuH rfl]
  have ce:=fun L=>YL hWn H hN L {data:=#[40]} (by rw[Lib.toList_data];exact hl)
  have hWm:=hWn.nx
  have him:=ph_i H s.nx.nx
  simp only[pB]at him
  have hlm:s.nx.nx.toks.length<1000001:=by have:=hWm.suf.length_le;omega
  show QA _ _ _ _ (WC 3 h P ((YP s.nx.nx).bind fun t s=>(YM sRp s).bind fun _ s=>.ok ⟨11,eB,[t]⟩ s))
  cases hr:YP s.nx.nx with
  |err p e =>
   have cx:=fun L=>TRd.err HR hlm hWm H hr L
   refine Qa Tryz.func79 rfl Tryz.call79 Tryz.ntmps79 Tryz.results79 (by simp) ?_
   repeat first|(first|refine FunW.QsR (cn _) ?_|refine FunW.QsR (ct _) ?_|refine FunW.QsR (ce _) ?_|refine FunW.panE (FunW.call (cx _)) fun r=>?_|refine Qb ?_);simp only[go_sem,seval,f1,f4,f6,hi,hin,e1,e2,z1,y0,y1,y2]|refine hK _ ?_;clear hK
   exact Xw H s r _ _ _ ⟨rfl,_,rfl⟩
  |ok t s1 =>
   have cx:=fun(c d e:AB)=>TRd.ok HR hlm hWm H hr [c,d,e] (k:=h.length+3) rfl
   simp only[Qt7,Qt6]at cx
   have hW1:Wst P.all s1:=Kp.Ps.ok (n:=wdOf P.all) (Kp.termT_ps trivial) hWm hr
   have hi1:=ph_i H s1
   simp only[pB]at hi1
   have e5:=T.QsX (h.length+3) t
   have e6:=T.QsZ (h.length+3) t
   have hat:∀(c d e:AB),At (c::d::e::(t.lay 48 (h.length+3)++[.cells 48 4 [t.lv (h.length+3)]])) 3 (layA 48 (h.length+3) [t]):=fun c d e=>by
    have:layA 48 (h.length+3) [t]=t.lay 48 (h.length+3)++[.cells 48 4 [t.lv (h.length+3)]]:=by simp[layA,lays,lvs]
    rw[this]
    exact At.tail (At.tail (At.tail (At.all _)))
   have hls:lsl (h.length+3) [t] = .arr (h.length+((t.lay 48 (h.length+3)).length+1+1+1)) 0 1:=by
    rw[T.QsW]
    show AV.arr (h.length+3+szs [t] - 1) 0 1=_
    simp only[szs]
    congr 1;omega
   simp only[PR.bind,YM]
   cases hp2:s1.is sRp with
   |false =>
    rw[QuE (by simp)]
    have ce2:=fun L=>Zp hW1 H hN L {data:=#[41]} (by rw[Lib.toList_data];exact hp2)
    refine Qa Tryz.func79 rfl Tryz.call79 Tryz.ntmps79 Tryz.results79 (by simp) ?_
    repeat first|(first|refine FunW.QsR (cn _) ?_|refine FunW.QsR (ct _) ?_|refine Qb ?_);simp only[go_sem,seval,f1,f4,f6,hi,hin,e1,e2,z1,y0,y1,y2]|refine hK _ ?_;clear hK
    refine FunW.QsR (ce _) ?_
    simp only[go_sem,seval]
    refine Z6 2 rfl fun K E hK hE=>?_
    simp only[QtQ,QtX,QtO,QtW]
    simp only[go_sem,seval]
    with_reducible repeat refine FunW.QsR (cx _ _ _) ?_;simp only[go_sem,seval]
    simp only[ArrW]
    simp only[go_sem,seval,f1,f4,f6,e5,Xt,QvU]
    repeat first|(first|refine FunW.pan (FunW.call (ce2 _)) ?_|refine Qb ?_);simp only[go_sem,seval,hi1]|refine hK _ ?_;clear hK
    exact Xw H s s1 _ _ _ ⟨rfl,_,rfl⟩
   |true =>
    rw[QuH rfl]
    have ce2:=fun L=>YL hW1 H hN L {data:=#[41]} (by rw[Lib.toList_data];exact hp2)
    refine Qa Tryz.func79 rfl Tryz.call79 Tryz.ntmps79 Tryz.results79 (by simp) ?_
    repeat first|(first|refine FunW.QsR (cn _) ?_|refine FunW.QsR (ct _) ?_|refine Qb ?_);simp only[go_sem,seval,f1,f4,f6,hi,hin,e1,e2,z1,y0,y1,y2]|refine hK _ ?_;clear hK
    refine FunW.QsR (ce _) ?_
    simp only[go_sem,seval]
    refine Z6 2 rfl fun K E hK hE=>?_
    simp only[QtQ,QtX,QtO,QtW]
    simp only[go_sem,seval]
    with_reducible repeat refine FunW.QsR (cx _ _ _) ?_;simp only[go_sem,seval]
    simp only[ArrW]
    simp only[go_sem,seval,f1,f4,f6,e5,Xt,QvU]
    repeat first|(first|refine FunW.QsR (ce2 _) ?_|refine Qb ?_);simp only[go_sem,seval,f3,f4,f5,hi1]|refine hK _ ?_;clear hK
    refine .inr ⟨?_,_,rfl,hat _ _ _⟩
    rw[gv,hls];rfl
theorem Qj7(hk:s.tk.kind=1)(hx:s.tk.text.toList=[103,114,111,117,110,100]):QA Tryz.prog 79 [.ptr P.i 0 0] (ph h P s) (WC 3 h P (Qb6 12 s.nx)):=by
 have f1:=Xv h P
 have f3:=Yu h P
 have f4:=Zh h P
 have f5:=X7 h P
 have f6:=YB h P
 have hi:=ph_i H s
 have hin:=ph_i H s.nx
 simp only[pB]at hi hin
 have cn:=nextL hW (YW H s)
 have ct:=fun L=>Yq hW (H.app L) hN
 simp only[XH H]at ct
 have e1:=Tk.QsS s.tk
 have e2:=Tk.QsT s.tk
 have z1:(s.tk.kind != 1)=false:=by rw[hk];rfl
 have o1:((12:Int)==11)=false:=by decide
 have o2:((12:Int)==12)=true:=by decide
 have y0:(s.tk.text.toList==({data:=#[116,114,117,101]}:ByteArray).toList)=false:=by rw[hx,Lib.toList_data];rfl
 have y1:(s.tk.text.toList==({data:=#[102,97,105,108]}:ByteArray).toList)=false:=by rw[hx,Lib.toList_data];rfl
 have y2:(s.tk.text.toList==({data:=#[105,110,116]}:ByteArray).toList)=false:=by rw[hx,Lib.toList_data];rfl
 have y3:(s.tk.text.toList==({data:=#[103,114,111,117,110,100]}:ByteArray).toList)=true:=by rw[hx,Lib.toList_data];rfl
 have hWn:=hW.nx
 have HR:=QhX hN hD
 rw[Qb6,YM]
 cases hl:s.nx.is sLp with
 |false =>
  rw[QuE (by simp)]
  have ce:=fun L=>Zp hWn H hN L {data:=#[40]} (by rw[Lib.toList_data];exact hl)
  refine Qa Tryz.func79 rfl Tryz.call79 Tryz.ntmps79 Tryz.results79 (by simp) ?_
  repeat first|(first|refine FunW.QsR (cn _) ?_|refine FunW.QsR (ct _) ?_|refine FunW.pan (FunW.call (ce _)) ?_|refine Qb ?_);simp only[go_sem,seval,f1,f4,f6,hi,hin,e1,e2,z1,o1,y0,y1,y2,y3]|refine hK _ ?_;clear hK
  exact Xw H s s.nx _ _ _ ⟨rfl,_,rfl⟩
 |true =>
  rw[QuH rfl]
  have ce:=fun L=>YL hWn H hN L {data:=#[40]} (by rw[Lib.toList_data];exact hl)
  have hWm:=hWn.nx
  have him:=ph_i H s.nx.nx
  simp only[pB]at him
  have hlm:s.nx.nx.toks.length<1000001:=by have:=hWm.suf.length_le;omega
  show QA _ _ _ _ (WC 3 h P ((YP s.nx.nx).bind fun t s=>(YM sRp s).bind fun _ s=>.ok ⟨12,eB,[t]⟩ s))
  cases hr:YP s.nx.nx with
  |err p e =>
   have cx:=fun L=>TRd.err HR hlm hWm H hr L
   refine Qa Tryz.func79 rfl Tryz.call79 Tryz.ntmps79 Tryz.results79 (by simp) ?_
   repeat first|(first|refine FunW.QsR (cn _) ?_|refine FunW.QsR (ct _) ?_|refine FunW.QsR (ce _) ?_|refine FunW.panE (FunW.call (cx _)) fun r=>?_|refine Qb ?_);simp only[go_sem,seval,f1,f4,f6,hi,hin,e1,e2,z1,o1,y0,y1,y2,y3]|refine hK _ ?_;clear hK
   exact Xw H s r _ _ _ ⟨rfl,_,rfl⟩
  |ok t s1 =>
   have cx:=fun(c d e:AB)=>TRd.ok HR hlm hWm H hr [c,d,e] (k:=h.length+3) rfl
   simp only[Qt7,Qt6]at cx
   have hW1:Wst P.all s1:=Kp.Ps.ok (n:=wdOf P.all) (Kp.termT_ps trivial) hWm hr
   have hi1:=ph_i H s1
   simp only[pB]at hi1
   have e5:=T.QsX (h.length+3) t
   have e6:=T.QsZ (h.length+3) t
   have hat:∀(c d e:AB),At (c::d::e::(t.lay 48 (h.length+3)++[.cells 48 4 [t.lv (h.length+3)]])) 3 (layA 48 (h.length+3) [t]):=fun c d e=>by
    have:layA 48 (h.length+3) [t]=t.lay 48 (h.length+3)++[.cells 48 4 [t.lv (h.length+3)]]:=by simp[layA,lays,lvs]
    rw[this]
    exact At.tail (At.tail (At.tail (At.all _)))
   have hls:lsl (h.length+3) [t] = .arr (h.length+((t.lay 48 (h.length+3)).length+1+1+1)) 0 1:=by
    rw[T.QsW]
    show AV.arr (h.length+3+szs [t] - 1) 0 1=_
    simp only[szs]
    congr 1;omega
   simp only[PR.bind,YM]
   cases hp2:s1.is sRp with
   |false =>
    rw[QuE (by simp)]
    have ce2:=fun L=>Zp hW1 H hN L {data:=#[41]} (by rw[Lib.toList_data];exact hp2)
    refine Qa Tryz.func79 rfl Tryz.call79 Tryz.ntmps79 Tryz.results79 (by simp) ?_
    repeat first|(first|refine FunW.QsR (cn _) ?_|refine FunW.QsR (ct _) ?_|refine Qb ?_);simp only[go_sem,seval,f1,f4,f6,hi,hin,e1,e2,z1,o1,y0,y1,y2,y3]|refine hK _ ?_;clear hK
    refine FunW.QsR (ce _) ?_
    simp only[go_sem,seval]
    refine Z6 2 rfl fun K E hK hE=>?_
    simp only[QtQ,QtX,QtO,QtW]
    simp only[go_sem,seval]
    with_reducible repeat refine FunW.QsR (cx _ _ _) ?_;simp only[go_sem,seval]
    simp only[ArrW]
    simp only[go_sem,seval,f1,f4,f6,e5,Xt,QvU]
    repeat first|(first|refine FunW.pan (FunW.call (ce2 _)) ?_|refine Qb ?_);simp only[go_sem,seval,hi1]|refine hK _ ?_;clear hK
    exact Xw H s s1 _ _ _ ⟨rfl,_,rfl⟩
   |true =>
    rw[QuH rfl]
    have ce2:=fun L=>YL hW1 H hN L {data:=#[41]} (by rw[Lib.toList_data];exact hp2)
    refine Qa Tryz.func79 rfl Tryz.call79 Tryz.ntmps79 Tryz.results79 (by simp) ?_
    repeat first|(first|refine FunW.QsR (cn _) ?_|refine FunW.QsR (ct _) ?_|refine Qb ?_);simp only[go_sem,seval,f1,f4,f6,hi,hin,e1,e2,z1,o1,y0,y1,y2,y3]|refine hK _ ?_;clear hK
    refine FunW.QsR (ce _) ?_
    simp only[go_sem,seval]
    refine Z6 2 rfl fun K E hK hE=>?_
    simp only[QtQ,QtX,QtO,QtW]
    simp only[go_sem,seval]
    with_reducible repeat refine FunW.QsR (cx _ _ _) ?_;simp only[go_sem,seval]
    simp only[ArrW]
    simp only[go_sem,seval,f1,f4,f6,e5,Xt,QvU]
    repeat first|(first|refine FunW.QsR (ce2 _) ?_|refine Qb ?_);simp only[go_sem,seval,f3,f4,f5,hi1]|refine hK _ ?_;clear hK
    refine .inr ⟨?_,_,rfl,hat _ _ _⟩
    rw[gv,hls];rfl
end
end Go.Proofs.YticgcpebdldbgaaGreatDoor.Ab
namespace Go.Proofs.YticgcpebdldbgaaGreatDoor.Ab
open Go.Proofs
theorem Qqi{s:PS}{b:List UInt8}(h:s.is b=true):s.tk.text.toList=b:=by
 simp only[PS.is,QuR,Qvx]at h;exact h.2
theorem QlE{s:PS}{l:List (List UInt8)}(h:s.oneOf l=true):s.tk.text.toList∈l:=by
 rw[PS.oneOf,QwC]at h
 obtain⟨b,hb,h⟩:=h
 rw[Qqi h];exact hb
theorem QoT{ex:PS->PR T}{s:PS}{t:T}{s2:PS}(h:pOpT ex s = .ok t s2)(hk:s.tk.kind=1):t.name=s.tk.text:=by
 rw[pOpT,QuE (by omega),QuE (by omega),QuH hk]at h
 obtain⟨a,s1,h1,h⟩:=bind_ok h
 cases h
 rw[ZU]at h1
 obtain⟨x,s3,h3,h1⟩:=bind_ok h1
 have hx:x=s.tk.text:=by
  rw[QaC]at h3
  split at h3
  ·cases h3
  ·split at h3
   ·cases h3
   ·cases h3;rfl
 split at h1
 ·obtain⟨l,s4,h4,h1⟩:=bind_ok h1
  cases h1
  exact hx
 ·cases h1
  exact hx
theorem Qe4{op:PS->PR T}{ops:List (List UInt8)}:∀(m:Nat) (t:T) (s:PS) (t2:T) (s2:PS),YA op ops m t s = .ok t2 s2->t2.name=t.name\/t2.name.toList∈ops
 |0,t,s,t2,s2,h=>by cases h;exact .inl rfl
 |m+1,t,s,t2,s2,h=>by
  rw[YA]at h
  split at h
  ·rename_i hc
   obtain⟨u,s1,h1,h⟩:=bind_ok h
   rcases Qe4 m _ s1 t2 s2 h with h|h
   ·exact .inr (by rw[h];exact QlE hc)
   ·exact .inr h
  ·cases h;exact .inl rfl
theorem Qgx{op:PS->PR T}{ops:List (List UInt8)}{s:PS}{t:T}{s2:PS}(h:YV op ops s = .ok t s2):∃t1 s1,op s = .ok t1 s1/\(t.name=t1.name\/t.name.toList∈ops):=by
 rw[YV]at h
 obtain⟨t1,s1,h1,h⟩:=bind_ok h
 exact⟨t1,s1,h1,Qe4 _ t1 s1 t s2 h⟩
theorem QnT{s:PS}{t:T}{s2:PS}(h:YP s = .ok t s2)(hk:s.tk.kind=1):t.name=s.tk.text\/t.name.toList∈YJ\/t.name.toList∈ZY:=by
 rw[YP,Zf]at h
 obtain⟨t1,s1,h1,h2⟩:=Qgx h
 obtain⟨t3,s3,h3,h4⟩:=Qgx h1
 have h5:=QoT h3 hk
 rcases h2 with h2|h2
 ·rw[h2]
  rcases h4 with h4|h4
  ·exact .inl (by rw[h4,h5])
  ·exact .inr (.inl h4)
 ·exact .inr (.inr h2)
theorem Qpn{s:PS}(hk:s.tk.kind=1)(hr:resB s.tk.text=true):YP s = .err s.tk.pos 7:=by
 rw[YP,Zf,YV,YV,pOpT,QuE (by omega),QuE (by omega),QuH hk,ZU,QaC,QuE (by omega),QuH hr]
 rfl
def Qnr(s:PS):PR G :=
 if s.tk.kind=1/\s.tk.text.toList=[116,114,117,101]then .ok ⟨1,eB,[]⟩ s.nx else if s.tk.kind=1/\s.tk.text.toList=[102,97,105,108]then .ok ⟨2,eB,[]⟩ s.nx else
 if s.tk.kind=1/\s.tk.text.toList=[105,110,116]then Qb6 11 s.nx else if s.tk.kind=1/\s.tk.text.toList=[103,114,111,117,110,100]then Qb6 12 s.nx else
 (YP s).bind fun t s2=>match QaP s2 with
  |some (op,turn)=>(YP s2.nx).bind fun u s3=>.ok ⟨op,eB,if turn then[u,t]else[t,u]⟩ s3
  |none=>if s.tk.kind≠1\/opB t.name=true then .err s2.tk.pos 16 else .ok ⟨0,t.name,t.args⟩ s2
theorem QhC{x:ByteArray}:opB x=true↔x.toList∈YJ\/x.toList∈ZY:=by
 simp only[opB,YJ,ZY,QvC,Qvx,Lib.toList_data,QuL,QuS,Qvz]
 constructor
 ·intro h
  rcases h with(((h|h)|h)|h)|h <;> simp[h]
 ·intro h
  rcases h with(h|h|h)|h|h <;> simp[h]
theorem QkK{x:ByteArray}(h:x.toList=[116,114,117,101]\/x.toList=[102,97,105,108]\/x.toList=[105,110,116]\/x.toList=[103,114,111,117,110,100]):resB x=true:=by
 simp only[resB,Lib.toList_data]at h ⊢
 rcases h with h|h|h|h <;> rw[h] <;> decide
theorem Qot{s:PS}(hop:s.tk.kind=1->opB s.tk.text=false):Qnr s=QaD s:=by
 rw[Qnr,QaD]
 by_cases hk:s.tk.kind=1
 ·simp only[hk,Que,not_true_eq_false,ne_eq,false_or]
  cases hr:resB s.tk.text with
  |true =>
   rw[QuH rfl,Qpn hk hr]
   rfl
  |false =>
   have no:∀b,(s.tk.text.toList=b->resB s.tk.text=true)->¬s.tk.text.toList=b:=fun b h q=>by rw[h q]at hr;cases hr
   rw[QuE (no _ fun q=>QkK (.inl q)),QuE (no _ fun q=>QkK (.inr (.inl q))),QuE (no _ fun q=>QkK (.inr (.inr (.inl q)))),QuE (no _ fun q=>QkK (.inr (.inr (.inr q)))),QuE (by decide)]
   refine bind_congr fun t s1 h1=>?_
   cases QaP s1 with
   |some x=>rfl
   |none =>
    simp only
    have ht:=QnT h1 hk
    by_cases ho:opB t.name=true
    ·rw[QuH ho,QuE]
     intro q
     have:opB s.tk.text=true:=QhC.2 (by rw[<-q];exact QhC.1 ho)
     rw[hop hk]at this;cases this
    ·rw[QuE ho,QuH]
     rcases ht with ht|ht
     ·rw[ht]
     ·exact absurd (QhC.2 ht) ho
 ·simp only[hk,false_and,Qvy,ne_eq,not_false_eq_true,true_or,QvB]
  exact bind_congr fun t s1 _=>by cases QaP s1 <;> rfl
end Go.Proofs.YticgcpebdldbgaaGreatDoor.Ab
namespace Go.Proofs.YticgcpebdldbgaaGreatDoor.Ab
open Go.Proofs
theorem Qig{P:Program}{N:Nat}{f:FuncId}{args:List AV}{s:AS}{d:Option Tmp}{K:AS->Prop}{r:AV}(H:∀hx,Keep s.h hx->QA P f args hx fun o h'=>o = .ret r/\h'=hx)(k:K (AS.put N s d r)):QpW P N (.fn (.func f) [] []) args s d K:=⟨r,fun hx hk=>FunW.call (H hx hk),k⟩
def LQ(h:AH)(P:Pz):PR G->AOut->AH->Prop
 | .ok a s,o,h'=>o = .ret (gv h.length a)/\h'=ph h P s++layA 48 h.length a.args
 | .err p e,o,h'=>o = .panic (Fl p e)/\∃s,h'=ph h P s
def LC(h:AH)(P:Pz):PR G->AOut->AH->Prop
 | .ok a s,o,h'=>(∃g y N,o = .ret (.agg [.i a.op,.v (.string a.name),lsl (h.length+g) a.args])/\h'=ph h P s++N/\At N g (layA 48 (h.length+g) a.args)/\y=g) \/
   ∃(x y:T) (px pd py pr:Nat) (N:AH),a.args=[x,y]/\o = .ret (.agg [.i a.op,.v (.string a.name),.arr pr 0 2])/\h'=ph h P s++N/\h.length<=px/\h.length<=py/\h.length<=pd /\
    ((px+x.sz<=pd/\pd<py/\py+y.sz<=pr)\/(py+y.sz<=pd/\pd<px/\px+x.sz<=pr))/\At h' px (x.lay 48 px)/\At h' py (y.lay 48 py)/\h'[pr]? = some (.cells 48 4 [x.lv px,y.lv py])
 | .err p e,o,h'=>o = .panic (Fl p e)/\∃s,h'=ph h P s
theorem Qkw{P:Pz}{f:FuncId}{args:List AV}{h:AH}{s:PS}(H:P.ok h){r:PR G}(C:QA Tryz.prog f args (ph h P s) (LC h P r)):QA Tryz.prog f args (ph h P s) (LQ h P r):=by
 refine Qa4 C fun hb0 o h' hQ=>?_
 cases r with
 |err p e=>exact .inl hQ
 |ok t s2 =>
  have hb:∀b∈ph h P s2,b.Below h.length:=fun b hb=>by
   rw[Xv]at hb0
   obtain⟨k,hk⟩:=Qaa hb
   rcases QcH H (s0:=s) hk with h1|h1
   ·exact hb0 k b h1
   ·exact h1
  rw[Xv]
  rcases hQ with⟨g,_,N,rfl,rfl,hN,_⟩|⟨x,y,px,pd,py,pr,N,ha,rfl,rfl,h1,h2,h3,h4,h5,h6,h7⟩
  ·obtain⟨K,hk⟩:=QoX (Xv h P s2) hb g t.args hN
   exact .inr ⟨_,gv h.length t,_,_,rfl,K,Qqs hk,rfl,rfl⟩
  ·obtain⟨K,hk⟩:=Qqp (Xv h P s2) hb x y h1 h2 h3 h4 h5 h6 h7
   rw[<-ha]at K hk
   exact .inr ⟨_,gv h.length t,_,_,rfl,K,Qqs hk,rfl,rfl⟩
theorem At.base{A N M:AH}{n k:Nat}(H:At N k M)(hA:A.length=n):At (A++N) (n+k) M:=fun j b hb hl=>by
 have:=H j b hb hl
 rw[QuB (by omega),hA,show n+k+j - n=k+j by omega];exact this
theorem QpE{P:Pz}{h:AH}{s3:PS}(c d e f:AB)(t u:T)(op:Int)(sw:Bool):LC h P (.ok ⟨op,eB,if sw then[u,t]else[t,u]⟩ s3)
  (.ret (.agg [.v (.int .i64 op),.v (.string {data:=#[]}),.arr (h.length+((t.lay 48 (h.length+2)).length+((u.lay 48 (h.length+2+t.sz+1)).length+1+1)+1+1)) 0 2]))
  (ph h P s3++(c::d::(t.lay 48 (h.length+2)++(e::(u.lay 48 (h.length+2+t.sz+1)++[f,.cells 48 4 (if sw then[u.lv (h.length+2+t.sz+1),t.lv (h.length+2)]else[t.lv (h.length+2),u.lv (h.length+2+t.sz+1)])]))))):=by
 have l1:=T.QsW 48 (h.length+2) t
 have l2:=T.QsW 48 (h.length+2+t.sz+1) u
 have a1:At (ph h P s3++(c::d::(t.lay 48 (h.length+2)++(e::(u.lay 48 (h.length+2+t.sz+1)++[f,.cells 48 4 (if sw then[u.lv (h.length+2+t.sz+1),t.lv (h.length+2)]else[t.lv (h.length+2),u.lv (h.length+2+t.sz+1)])]))))) (h.length+2) (t.lay 48 (h.length+2)) :=
  At.base (At.mid [c,d] _ _ rfl) (Xv h P s3)
 have a2:At (ph h P s3++(c::d::(t.lay 48 (h.length+2)++(e::(u.lay 48 (h.length+2+t.sz+1)++[f,.cells 48 4 (if sw then[u.lv (h.length+2+t.sz+1),t.lv (h.length+2)]else[t.lv (h.length+2),u.lv (h.length+2+t.sz+1)])]))))) (h.length+2+t.sz+1) (u.lay 48 (h.length+2+t.sz+1)):=by
  have:=At.base (At.mid (c::d::(t.lay 48 (h.length+2)++[e])) (u.lay 48 (h.length+2+t.sz+1)) [f,.cells 48 4 (if sw then[u.lv (h.length+2+t.sz+1),t.lv (h.length+2)]else[t.lv (h.length+2),u.lv (h.length+2+t.sz+1)])] (n:=2+t.sz+1) (by simp only[QtS,Quw,QtT,l1];omega)) (Xv h P s3)
  rw[show h.length+(2+t.sz+1)=h.length+2+t.sz+1 by omega]at this
  simpa only[Qt7,Quz,Qt6]using this
 have a3:(ph h P s3++(c::d::(t.lay 48 (h.length+2)++(e::(u.lay 48 (h.length+2+t.sz+1)++[f,.cells 48 4 (if sw then[u.lv (h.length+2+t.sz+1),t.lv (h.length+2)]else[t.lv (h.length+2),u.lv (h.length+2+t.sz+1)])])))))[h.length+((t.lay 48 (h.length+2)).length+((u.lay 48 (h.length+2+t.sz+1)).length+1+1)+1+1)]? = some (.cells 48 4 (if sw then[u.lv (h.length+2+t.sz+1),t.lv (h.length+2)]else[t.lv (h.length+2),u.lv (h.length+2+t.sz+1)])):=by
  rw[Zh]
  simp only[QtG]
  rw[hget]
  simp only[QtG]
  rw[hget]
  rfl
 cases sw with
 |false=>exact .inr ⟨t,u,h.length+2,h.length+2+t.sz,h.length+2+t.sz+1,_,_,rfl,rfl,rfl,by omega,by omega,by omega,.inl ⟨by omega,by omega,by omega⟩,a1,a2,a3⟩
 |true=>exact .inr ⟨u,t,h.length+2+t.sz+1,h.length+2+t.sz,h.length+2,_,_,rfl,rfl,rfl,by omega,by omega,by omega,.inr ⟨by omega,by omega,by omega⟩,a2,a1,a3⟩
section
variable{P:Pz}{s:PS}(hW:Wst P.all s){h:AH}(H:P.ok h)(hN:P.all.length<=1000000)(hD:TkOk P.all)
include hW H hN hD
theorem Qdh{r:PR G}(hw:∀L:AH,QA Tryz.prog 79 [.ptr P.i 0 0] (ph (h++L) P s) (WC 3 (h++L) P r)):QA Tryz.prog 58 [.ptr P.i 0 0] (ph h P s) (LQ h P r):=by
 have _u:=hN
 have _v:=hD
 have _w:=hW
 have cw:=fun L=>Qpr (H.app L) 3 (hw L)
 have f1:=Xv h P
 have f3:=Yu h P
 have f4:=Zh h P
 have f5:=X7 h P
 have f6:=YB h P
 refine Qkw H ?_
 cases r with
 |err p e =>
  have cw':∀L,QA Tryz.prog 79 [.ptr P.i 0 0] (ph h P s++L) fun o h'=>o = .panic (Fl p e)/\∃s1:PS,h'=ph h P s1++L:=fun L=>by
   have:=cw L
   rw[XH H]at this
   exact this.mono fun o h' q=>by simpa only[WQ,XH H]using q
  refine Qa Tryz.func58 rfl Tryz.call58 Tryz.ntmps58 Tryz.results58 (by simp) ?_
  repeat (first|refine FunW.panE (FunW.call (cw' _)) fun r=>?_|refine Qb ?_);simp only[go_sem,seval,f1]
  exact Xw H s r _ _ _ ⟨rfl,_,rfl⟩
 |ok a s1 =>
  have cw':∀c:AB,QA Tryz.prog 79 [.ptr P.i 0 0] (ph h P s++[c]) fun o h'=>o = .ret (.tup [gv (h.length+1) a,.b true])/\h'=ph h P s1++(c::layA 48 (h.length+1) a.args):=fun c=>by
   have:=cw [c]
   rw[XH H]at this
   exact this.mono fun o h' q=>by simpa only[WQ,XH H,Quw,QtS,QtT,Quz,Qt7,Qt6]using q
  simp only[gv]at cw'
  have e5:=Qft (h.length+1) a.args
  have e6:=Qfu (h.length+1) a.args
  refine Qa Tryz.func58 rfl Tryz.call58 Tryz.ntmps58 Tryz.results58 (by simp) ?_
  repeat (first|refine FunW.QsR (cw' _) ?_|refine Qb ?_);simp only[go_sem,seval,f1,f3,f4,f5,f6,Xt]
  exact .inr (.inl ⟨1,1,_,rfl,rfl,At.mid [_] _ _ rfl,rfl⟩)
theorem QmK(hw:∀L:AH,QA Tryz.prog 79 [.ptr P.i 0 0] (ph h P s++L) fun o h'=>o = .ret (.tup [zg,.b false])/\h'=ph h P s++L) :
  QA Tryz.prog 58 [.ptr P.i 0 0] (ph h P s) (LQ h P ((YP s).bind fun t s2=>match QaP s2 with
   |some (op,turn)=>(YP s2.nx).bind fun u s3=>.ok ⟨op,eB,if turn then[u,t]else[t,u]⟩ s3
   |none=>if s.tk.kind≠1\/opB t.name=true then .err s2.tk.pos 16 else .ok ⟨0,t.name,t.args⟩ s2)):=by
 have f1:=Xv h P
 have f3:=Yu h P
 have f4:=Zh h P
 have f5:=X7 h P
 have f6:=YB h P
 have hi:=ph_i H s
 simp only[pB]at hi
 have cn:=nextL hW (YW H s)
 have e1:=Tk.QsS s.tk
 have e2:=Tk.QsT s.tk
 have HR:=QhX hN hD
 have hls:s.toks.length<1000001:=by have:=hW.suf.length_le;omega
 refine Qkw H ?_
 cases hr:YP s with
 |err p e =>
  have cx:=fun L=>TRd.err HR hls hW H hr L
  refine Qa Tryz.func58 rfl Tryz.call58 Tryz.ntmps58 Tryz.results58 (by simp) ?_
  repeat first|(first|refine FunW.QsR (hw _) ?_|refine FunW.QsR (cn _) ?_|refine FunW.panE (FunW.call (cx _)) fun r=>?_|refine Qb ?_);simp only[go_sem,seval,f1,f4,f6,hi,e1,e2]|refine hK _ ?_;clear hK
  exact Xw H s r _ _ _ ⟨rfl,_,rfl⟩
 |ok t s2 =>
  have cx:=fun(c d:AB)=>TRd.ok HR hls hW H hr [c,d] (k:=h.length+2) rfl
  simp only[Qt7,Qt6]at cx
  have hW2:Wst P.all s2:=Kp.Ps.ok (n:=wdOf P.all) (Kp.termT_ps trivial) hW hr
  have hi2:=ph_i H s2
  simp only[pB]at hi2
  have e3:=T.QsX (h.length+2) t
  have e4:=T.QsZ (h.length+2) t
  have cm:=fun L=>Qe7 hW2 (H.app L) hN
  show QA _ _ _ _ (LC h P (match QaP s2 with
   |some (op,turn)=>(YP s2.nx).bind fun u s3=>.ok ⟨op,eB,if turn then[u,t]else[t,u]⟩ s3
   |none=>if s.tk.kind≠1\/opB t.name=true then .err s2.tk.pos 16 else .ok ⟨0,t.name,t.args⟩ s2))
  cases hc:QaP s2 with
  |none =>
   rw[hc]at cm
   have cm':∀L,QA Tryz.prog 81 [.ptr P.i 0 0] (ph h P s2++L) fun o h'=>o = .ret (.tup [.i 0,.b false,.b false])/\h'=ph h P s2++L:=fun L=>by
    have:=cm L
    rw[XH H]at this
    exact this.mono fun o h' q=>by simpa only[MQ,XH H]using q
   have cn2:=nextL hW2 (YW H s2)
   have cf:=ZS s2.tk 16
   by_cases hk:s.tk.kind=1
   ·have z1:(s.tk.kind==1)=true:=by simpa using hk
    have co:=Qdm t.name
    cases hop:opB t.name with
    |true =>
     rw[hop]at co
     simp only[or_true,QvB]
     refine Qa Tryz.func58 rfl Tryz.call58 Tryz.ntmps58 Tryz.results58 (by simp) ?_
     repeat first|(first|refine FunW.QsR (hw _) ?_|refine FunW.QsR (cn _) ?_|refine FunW.QsR (cx _ _) ?_|refine FunW.QsR (cm' _) ?_|refine Qe co ?_|refine Qb ?_);simp only[go_sem,seval,f1,f4,f6,hi,e1,e2,e3,e4,Xt,z1]|refine hK _ ?_;clear hK
     refine XV 7 [(0,1),(1,0),(2,0),(3,1),(4,0),(5,0),(6,0)] mixed rfl rfl rfl (by kernel_rfl) (fun v h'=>v=Fl s2.tk.pos 16/\∃L,h'=ph h P s2++L) ?_ ?_
     ·rintro tm v h' ⟨rfl,L,rfl⟩
      exact Xw H s s2 _ _ _ ⟨rfl,_,rfl⟩
     ·simp only[go_sem,seval,hi2]
      refine Qig (fun hx hkp=>YD hW2 (hkp _ _ (ph_i H s2 _) (fun _ _ _ q=>by unfold pB at q;cases q))) ?_
      simp only[go_sem,seval]
      exact fun _=>(FunW.call (cf _ _)).mono (by rintro _ _ ⟨rfl,rfl⟩;exact⟨_,rfl,rfl,_,rfl⟩)
    |false =>
     rw[hop]at co
     simp only[hk,ne_eq,not_true_eq_false,QtJ,or_self,Qvy]
     have e5:=Qft (h.length+2) t.args
     have e6:=Qfu (h.length+2) t.args
     have hat:∀(c d:AB) X,At (c::d::(t.lay 48 (h.length+2)++X)) 2 (layA 48 (h.length+2) t.args):=fun c d X=>by rw[T.Qs6];exact At.mid [c,d] _ _ rfl
     refine Qa Tryz.func58 rfl Tryz.call58 Tryz.ntmps58 Tryz.results58 (by simp) ?_
     repeat first|(first|refine FunW.QsR (hw _) ?_|refine FunW.QsR (cn _) ?_|refine FunW.QsR (cx _ _) ?_|refine FunW.QsR (cm' _) ?_|refine Qe co ?_|refine Qb ?_);simp only[go_sem,seval,f1,f3,f4,f5,f6,hi,e1,e2,e3,e4,e5,Xt,z1]|refine hK _ ?_;clear hK
     exact .inr (.inl ⟨2,2,_,rfl,rfl,hat _ _ _,rfl⟩)
   ·have z1:(s.tk.kind==1)=false:=by simpa using hk
    rw[QuH (.inl hk)]
    refine Qa Tryz.func58 rfl Tryz.call58 Tryz.ntmps58 Tryz.results58 (by simp) ?_
    repeat first|(first|refine FunW.QsR (hw _) ?_|refine FunW.QsR (cn _) ?_|refine FunW.QsR (cx _ _) ?_|refine FunW.QsR (cm' _) ?_|refine Qb ?_);simp only[go_sem,seval,f1,f4,f6,hi,e1,e2,e3,e4,Xt,z1]|refine hK _ ?_;clear hK
    refine XV 7 [(0,1),(1,0),(2,0),(3,1),(4,0),(5,0),(6,0)] mixed rfl rfl rfl (by kernel_rfl) (fun v h'=>v=Fl s2.tk.pos 16/\∃L,h'=ph h P s2++L) ?_ ?_
    ·rintro tm v h' ⟨rfl,L,rfl⟩
     exact Xw H s s2 _ _ _ ⟨rfl,_,rfl⟩
    ·simp only[go_sem,seval,hi2]
     refine Qig (fun hx hkp=>YD hW2 (hkp _ _ (ph_i H s2 _) (fun _ _ _ q=>by unfold pB at q;cases q))) ?_
     simp only[go_sem,seval]
     exact fun _=>(FunW.call (cf _ _)).mono (by rintro _ _ ⟨rfl,rfl⟩;exact⟨_,rfl,rfl,_,rfl⟩)
  |some x =>
   obtain⟨op,turn⟩:=x
   rw[hc]at cm
   have cm':∀L,QA Tryz.prog 81 [.ptr P.i 0 0] (ph h P s2++L) fun o h'=>o = .ret (.tup [.i op,.b turn,.b true])/\h'=ph h P s2.nx++L:=fun L=>by
    have:=cm L
    rw[XH H]at this
    exact this.mono fun o h' q=>by simpa only[MQ,XH H]using q
   have hkc:s2.tk.kind≠0:=Qgy hc
   have hWn:=hW2.nx
   have hin:=ph_i H s2.nx
   simp only[pB]at hin
   have hln:s2.nx.toks.length<1000001:=by have:=hWn.suf.length_le;omega
   show QA _ _ _ _ (LC h P ((YP s2.nx).bind fun u s3=>.ok ⟨op,eB,if turn then[u,t]else[t,u]⟩ s3))
   cases hr2:YP s2.nx with
   |err p e =>
    have cy:=fun L=>TRd.err HR hln hWn H hr2 L
    refine Qa Tryz.func58 rfl Tryz.call58 Tryz.ntmps58 Tryz.results58 (by simp) ?_
    repeat first|(first|refine FunW.QsR (hw _) ?_|refine FunW.QsR (cn _) ?_|refine FunW.QsR (cx _ _) ?_|refine FunW.QsR (cm' _) ?_|refine FunW.panE (FunW.call (cy _)) fun r=>?_|refine Qb ?_);simp only[go_sem,seval,f1,f4,f6,hi,e1,e2,e3,e4,Xt]|refine hK _ ?_;clear hK
    exact Xw H s r _ _ _ ⟨rfl,_,rfl⟩
   |ok u s3 =>
    have cy:=fun(c d f:AB)=>TRd.ok HR hln hWn H hr2 (c::d::(t.lay 48 (h.length+2)++[f])) (k:=h.length+2+t.sz+1) (by simp only[QtS,Quw,T.QsW,QtT];omega)
    simp only[Qt7,Quz,Qt6]at cy
    have e5:=T.QsX (h.length+2+t.sz+1) u
    have e6:=T.QsZ (h.length+2+t.sz+1) u
    have g1:∀(X:AH),(t.lay 48 (h.length+2)++X)[(t.lay 48 (h.length+2)).length]? = X[0]? := fun X=>X8 _ _
    have g2:∀(X:AH) (y:AB),(t.lay 48 (h.length+2)++X).set (t.lay 48 (h.length+2)).length y=t.lay 48 (h.length+2)++X.set 0 y:=fun X y=>Yh _ _ _
    have g3:∀(X:AH),(u.lay 48 (h.length+2+t.sz+1)++X)[(u.lay 48 (h.length+2+t.sz+1)).length]? = X[0]? := fun X=>X8 _ _
    have g4:∀(X:AH) (y:AB),(u.lay 48 (h.length+2+t.sz+1)++X).set (u.lay 48 (h.length+2+t.sz+1)).length y=u.lay 48 (h.length+2+t.sz+1)++X.set 0 y:=fun X y=>Yh _ _ _
    cases turn with
    |false =>
     refine Qa Tryz.func58 rfl Tryz.call58 Tryz.ntmps58 Tryz.results58 (by simp) ?_
     repeat first|(first|refine FunW.QsR (hw _) ?_|refine FunW.QsR (cn _) ?_|refine FunW.QsR (cx _ _) ?_|refine FunW.QsR (cm' _) ?_|refine Qb ?_);simp only[go_sem,seval,f1,f4,f6,hi,e1,e2,e3,e4,Xt,Quz,g1,g2]|refine hK _ ?_;clear hK
     refine FunW.QsR (cy _ _ _) ?_
     simp only[go_sem,seval,f1,f4,f6,e5,e6,Xt,Quz,g3,g4]
     iterate 7 (try (first|(((refine Qd fun K E hK hE=>?_));simp only[go_sem,seval])|(refine Qq fun K hK=>?_)|(refine QE ?_)|(refine Qg ?_)|((with_reducible refine hK _ ?_);clear hK)|(refine Qm rfl ?_;simp only[↓reduceIte,QtJ])))
     refine Z6 3 rfl fun K E hK hE=>?_
     simp only[QtQ,QtX,QtO,QtW]
     simp only[go_sem,seval,f4,e3,e4,e5,e6,g1,g3]
     simp only[ArrW]
     simp only[go_sem,seval,f1,f3,f5,e3,e5,Xt,Quz,QvU]
     repeat first|refine Qb ?_;simp only[go_sem,seval]|refine hK _ ?_;clear hK
     simp only[go_sem,seval,f3]
     exact .inr (QpE _ _ _ _ t u op false)
    |true =>
     refine Qa Tryz.func58 rfl Tryz.call58 Tryz.ntmps58 Tryz.results58 (by simp) ?_
     repeat first|(first|refine FunW.QsR (hw _) ?_|refine FunW.QsR (cn _) ?_|refine FunW.QsR (cx _ _) ?_|refine FunW.QsR (cm' _) ?_|refine Qb ?_);simp only[go_sem,seval,f1,f4,f6,hi,e1,e2,e3,e4,Xt,Quz,g1,g2]|refine hK _ ?_;clear hK
     refine FunW.QsR (cy _ _ _) ?_
     simp only[go_sem,seval,f1,f4,f6,e5,e6,Xt,Quz,g3,g4]
     iterate 8 (try (first|((first|(refine Qd fun K E hK hE=>?_)|(refine Qj fun K E hK hE=>?_));simp only[go_sem,seval,f4,f6,e3,e4,e5,e6,Xt,g1,g2,g3,g4])|(refine Qq fun K hK=>?_)|(refine Qg ?_)|((with_reducible refine hK _ ?_);clear hK)|(refine Qm rfl ?_;simp only[↓reduceIte])))
     refine Z6 3 rfl fun K E hK hE=>?_
     simp only[QtQ,QtX,QtO,QtW]
     simp only[go_sem,seval,f4,e3,e4,e5,e6,g1,g3]
     simp only[ArrW]
     simp only[go_sem,seval,f1,f3,f5,e3,e5,Xt,Quz,QvU]
     repeat first|refine Qb ?_;simp only[go_sem,seval]|refine hK _ ?_;clear hK
     simp only[go_sem,seval,f3]
     exact .inr (QpE _ _ _ _ t u op true)
end
end Go.Proofs.YticgcpebdldbgaaGreatDoor.Ab
namespace Go.Proofs.YticgcpebdldbgaaGreatDoor.Ab
open Go.Proofs
theorem Qgj(g:G):Pure Tryz.prog 59 [g.goal] (.b (XI g)):=by
 intro h
 refine Qa Tryz.func59 rfl Tryz.call59 Tryz.ntmps59 Tryz.results59 (by simp) ?_
 iterate 4 (try (first|(((with_reducible refine Qd fun K E hK hE=>?_));simp only[go_sem,seval,Yk])|((with_reducible refine hK _ ?_);clear hK)))
 refine Yb (fun s=>g.op≠0/\s.tm 1 = .ptr h.length 0 0/\s.tm 3 = .i (QbK g.op)/\s.h=h++[.cells 46 3 [g.goal]]) ?_ ?_
 ·rintro⟨tm,hp⟩ ⟨k0,t1,t3,hh⟩
  dsimp only at t1 t3 hh
  subst hh
  cases p0:decide (g.op>0)
  ·skip
   have R:XI g=false:=by
    rw[XI,QuE k0,QuM (by simp at p0;omega)];rfl
   repeat first|refine owN ?_|(first|refine owK fun K hK=>?_|refine nwcS fun K hK=>?_|refine nwcR fun K hK=>?_|refine Qb ?_);simp only[go_sem,seval,Yk,t1,p0]|refine hK _ ?_;clear hK
   (refine Qc (htake _ _) (.keep (.v _)) ⟨by rw[R],rfl⟩)
  cases p1:decide (g.op<=12)
  ·skip
   have R:XI g=false:=by
    rw[XI,QuE k0,QuM (by simp at p1;omega)];rfl
   repeat first|refine owN ?_|(first|refine owK fun K hK=>?_|refine nwcS fun K hK=>?_|refine nwcR fun K hK=>?_|refine Qb ?_);simp only[go_sem,seval,Yk,t1,p0,p1]|refine hK _ ?_;clear hK
   (refine Qc (htake _ _) (.keep (.v _)) ⟨by rw[R],rfl⟩)
  have p2:decide (0<g.op/\g.op<=12)=true:=QuU ⟨Qwo p0,Qwo p1⟩
  cases c3:QaQ g.name
  ·have c3':(g.name.toList==({data:=#[]}:ByteArray).toList)=false:=c3
   have R:XI g=false:=by
    rw[XI,QuE k0,p2,c3];rfl
   repeat first|refine owN ?_|(first|refine owK fun K hK=>?_|refine nwcS fun K hK=>?_|refine nwcR fun K hK=>?_|refine Qb ?_);simp only[go_sem,seval,Yk,t1,p0,p1,c3']|refine hK _ ?_;clear hK
   (refine Qc (htake _ _) (.keep (.v _)) ⟨by rw[R],rfl⟩)
  have c3':(g.name.toList==({data:=#[]}:ByteArray).toList)=true:=c3
  cases c4:((g.args.length:Int)==QbK g.op)
  ·have c5:decide ((g.args.length:Int)=QbK g.op)=false:=QuM (by simpa using c4)
   have R:XI g=false:=by
    rw[XI,QuE k0,p2,c3,c5];rfl
   repeat first|refine owN ?_|(first|refine owK fun K hK=>?_|refine nwcS fun K hK=>?_|refine nwcR fun K hK=>?_|refine Qb ?_);simp only[go_sem,seval,Yk,t1,p0,p1,c3',t3,c4]|refine hK _ ?_;clear hK
   (refine Qc (htake _ _) (.keep (.v _)) ⟨by rw[R],rfl⟩)
  have c5:decide ((g.args.length:Int)=QbK g.op)=true:=QuU (by simpa using c4)
  have c6:(g.args.length:Int)<=2:=by
   have c7:(g.args.length:Int)=QbK g.op:=by simpa using c4
   rw[c7,QbK];split <;> (try split) <;> decide
  have ca:=Qps g.args (by omega) (h++[.cells 46 3 [g.goal],.cells 127 1 [.agg [.i 200]]]) (h.length+1) (by rw[hget];rfl)
  rw[hset]at ca
  have R:XI g=(runL g.args 200 20).1:=by
   rw[XI,QuE k0,p2,c3,c5];rfl
  repeat first|refine owN ?_|(first|refine FunW.QsR ca ?_|refine owK fun K hK=>?_|refine nwcS fun K hK=>?_|refine nwcR fun K hK=>?_|refine Qb ?_);simp only[go_sem,seval,Yk,t1,p0,p1,c3',t3,c4]|refine hK _ ?_;clear hK
  (refine Qc (htake _ _) (.keep (.v _)) ⟨by rw[R],rfl⟩)
 ·by_cases k0:g.op=0
  ·have c:=QcS ⟨0,g.name,g.args⟩
   rw[show G.atom ⟨0,g.name,g.args⟩=AV.agg [.v (.string g.name),.sl 4 (avs g.args) none]from rfl]at c
   have R:XI g=Ye ⟨0,g.name,g.args⟩:=by
    rw[XI,QuH k0]
   have z0:(g.op==0)=true:=by simp[k0]
   repeat first|(first|refine Qe c ?_|refine Qb ?_);simp only[go_sem,seval,Yk,z0]|refine hK _ ?_;clear hK
   (refine Qc (htake _ _) (.keep (.v _)) ⟨by rw[R],rfl⟩)
  have z0:(g.op==0)=false:=by simp[k0]
  by_cases k1:g.op=1
  ·have z1:(g.op==1)=true:=by simp[k1]
   have gn:QbK g.op=0:=by simp[QbK,k1]
   repeat first|refine Qb ?_;simp only[go_sem,seval,Yk,z0,z1]|refine hK _ ?_;clear hK
   exact⟨k0,rfl,by rw[gn];rfl,rfl⟩
  have z1:(g.op==1)=false:=by simp[k1]
  by_cases k2:g.op=2
  ·have z2:(g.op==2)=true:=by simp[k2]
   have gn:QbK g.op=0:=by simp[QbK,k2]
   repeat first|refine Qb ?_;simp only[go_sem,seval,Yk,z0,z1,z2]|refine hK _ ?_;clear hK
   exact⟨k0,rfl,by rw[gn];rfl,rfl⟩
  have z2:(g.op==2)=false:=by simp[k2]
  by_cases k11:g.op=11
  ·have z11:(g.op==11)=true:=by simp[k11]
   have gn:QbK g.op=1:=by simp[QbK,k11]
   repeat first|refine Qb ?_;simp only[go_sem,seval,Yk,z0,z1,z2,z11]|refine hK _ ?_;clear hK
   exact⟨k0,rfl,by rw[gn];rfl,rfl⟩
  have z11:(g.op==11)=false:=by simp[k11]
  by_cases k12:g.op=12
  ·have z12:(g.op==12)=true:=by simp[k12]
   have gn:QbK g.op=1:=by simp[QbK,k12]
   repeat first|refine Qb ?_;simp only[go_sem,seval,Yk,z0,z1,z2,z11,z12]|refine hK _ ?_;clear hK
   exact⟨k0,rfl,by rw[gn];rfl,rfl⟩
  have z12:(g.op==12)=false:=by simp[k12]
  have gn:QbK g.op=2:=by simp[QbK,k1,k2,k11,k12]
  repeat first|refine Qb ?_;simp only[go_sem,seval,Yk,z0,z1,z2,z11,z12]|refine hK _ ?_;clear hK
  exact⟨k0,rfl,by rw[gn];rfl,rfl⟩
theorem Qiq{P:Pz}{s:PS}(hW:Wst P.all s){h:AH}(H:P.ok h)(hN:P.all.length<=1000000)(hD:TkOk P.all):QA Tryz.prog 58 [.ptr P.i 0 0] (ph h P s) (LQ h P (QaD s)):=by
 rw[<-Qot (fun hk=>hD.nam _ (QdA hW) hk)]
 unfold Qnr
 have rest:=QmK hW H hN hD
 have fin:(∀L:AH,QA Tryz.prog 79 [.ptr P.i 0 0] (ph (h++L) P s) fun o h'=>o = .ret (.tup [zg,.b false])/\h'=ph (h++L) P s)->_:=fun q=>rest fun L=>by
  have:=q L
  simpa only[XH H]using this
 by_cases hk:s.tk.kind=1
 ·by_cases h0:s.tk.text.toList=[116,114,117,101]
  ·rw[QuH ⟨hk,h0⟩];exact Qdh hW H hN hD fun L=>Qob hW (H.app L) hN hD hk h0
  ·rw[QuE (fun q=>h0 q.2)]
   by_cases h1:s.tk.text.toList=[102,97,105,108]
   ·rw[QuH ⟨hk,h1⟩];exact Qdh hW H hN hD fun L=>Qn8 hW (H.app L) hN hD hk h1
   ·rw[QuE (fun q=>h1 q.2)]
    by_cases h2:s.tk.text.toList=[105,110,116]
    ·rw[QuH ⟨hk,h2⟩];exact Qdh hW H hN hD fun L=>Qpo hW (H.app L) hN hD hk h2
    ·rw[QuE (fun q=>h2 q.2)]
     by_cases h3:s.tk.text.toList=[103,114,111,117,110,100]
     ·rw[QuH ⟨hk,h3⟩];exact Qdh hW H hN hD fun L=>Qj7 hW (H.app L) hN hD hk h3
     ·rw[QuE (fun q=>h3 q.2)]
      exact fin fun L=>Qn9 hW (H.app L) hN hD hk h0 h1 h2 h3
 ·rw[QuE (fun q=>hk q.1),QuE (fun q=>hk q.1),QuE (fun q=>hk q.1),QuE (fun q=>hk q.1)]
  exact fin fun L=>Qpp hW (H.app L) hN hD hk
def gsz:List G->Nat
 |[]=>0
 |g::l=>szs g.args+2+gsz l
def lvG(vw:Nat->G->AV)(n:Nat):List G->List AV
 |[]=>[]
 |g::l=>vw (n+1) g::lvG vw (n+szs g.args+2) l
def layG(tt:TypeId)(n:Nat):List G->AH
 |[]=>[]
 |g::l=>.dead::(layA tt (n+1) g.args++(.dead::layG tt (n+szs g.args+2) l))
theorem Qap:∀l m:List G,gsz (l++m)=gsz l+gsz m
 |[],m=>by simp[gsz]
 |g::l,m=>by rw[Qt7,gsz,gsz,Qap l m];omega
theorem ZM(vw:Nat->G->AV):∀(n:Nat) (l:List G),(lvG vw n l).length=l.length
 |_,[]=>rfl
 |n,g::l=>by rw[lvG,QtS,ZM];rfl
theorem Xd(tt:TypeId):∀(n:Nat) (l:List G),(layG tt n l).length=gsz l
 |_,[]=>rfl
 |n,g::l=>by rw[layG,QtS,Quw,QtS,Zi,Xd,gsz];omega
theorem Qht(vw:Nat->G->AV):∀(n:Nat) (l:List G) (g:G),lvG vw n (l++[g])=lvG vw n l++[vw (n+gsz l+1) g]
 |n,[],g=>by simp[lvG,gsz]
 |n,a::l,g=>by
  rw[Qt7,lvG,lvG,Qht vw _ l g,gsz,Qt7]
  rw[show n+szs a.args+2+gsz l+1=n+(szs a.args+2+gsz l)+1 by omega]
theorem Qfp(tt:TypeId):∀(n:Nat) (l:List G) (g:G),layG tt n (l++[g])=layG tt n l++(.dead::(layA tt (n+gsz l+1) g.args++[.dead]))
 |n,[],g=>by simp[layG,gsz]
 |n,a::l,g=>by
  rw[Qt7,layG,layG,Qfp tt _ l g,gsz]
  rw[show n+szs a.args+2+gsz l+1=n+(szs a.args+2+gsz l)+1 by omega]
  simp only[Qt7,Quz]
theorem QiD{tt:TypeId}:∀{m m':Nat} (l:List G) (j:Nat) (b b':AB),(layG tt m l)[j]? = some b->(layG tt m' l)[j]? = some b'->b.live=false->b' = .dead
 |m,m',[],j,b,b',h1,h2,hl=>by simp[layG]at h1
 |m,m',g::l,j,b,b',h1,h2,hl=>by
  rw[layG]at h1 h2
  cases j with
  |zero=>cases h1;cases h2;rfl
  |succ j =>
   rw[QtG,Qu0,Zi]at h1 h2
   split at h1
   ·rename_i hj
    rw[QuH hj]at h2
    exact QiA g.args j b b' h1 h2 hl
   ·rename_i hj
    rw[QuE hj]at h2
    cases hk:j - szs g.args with
    |zero=>rw[hk]at h1 h2;cases h1;cases h2;rfl
    |succ k =>
     rw[hk,QtG]at h1 h2
     exact QiD l k b b' h1 h2 hl
theorem Qkv{n:Nat}{τ:Nat->Nat}{h2:AH}{tt:TypeId}:∀{m m':Nat} (l:List G),Sh n τ h2 m m' (gsz l)->∀(j:Nat) b b',(layG tt m l)[j]? = some b->(layG tt m' l)[j]? = some b'->PkB n τ h2 b b'
 |m,m',[],H,j,b,b',h1,h3=>by simp[layG]at h1
 |m,m',g::l,H,j,b,b',h1,h3=>by
  rw[gsz]at H
  rw[layG]at h1 h3
  cases j with
  |zero=>cases h1;cases h3;exact .inl rfl
  |succ j =>
   rw[QtG,Qu0,Zi]at h1 h3
   split at h1
   ·rename_i hj
    rw[QuH hj]at h3
    have hs:=H.sub (k:=1) (l:=szs g.args) (a:=m+1) (b:=m'+1) (by omega) rfl rfl
    exact QeM g.args (QjP hs) hs j b b' h1 h3
   ·rename_i hj
    rw[QuE hj]at h3
    cases hk:j - szs g.args with
    |zero=>rw[hk]at h1 h3;cases h1;cases h3;exact .inl rfl
    |succ k =>
     rw[hk,QtG]at h1 h3
     exact Qkv l (H.sub (k:=szs g.args+2) (l:=gsz l) (a:=m+szs g.args+2) (b:=m'+szs g.args+2) (by omega) (by omega) (by omega)) k b b' h1 h3
theorem QpF{n:Nat}{τ:Nat->Nat}{h2:AH}{vw:Nat->G->AV}{w:Nat}(hw:∀m g,(vw m g).cells.length=w)(hp:∀m m' g,Sh n τ h2 m m' (szs g.args)->∀(j:Nat) a a',(vw m g).cells[j]? = some a->(vw m' g).cells[j]? = some a'->Pk n τ h2 a a') :
  ∀{m m':Nat} (l:List G),Sh n τ h2 m m' (gsz l)->(∀y∈lvG vw m' l,y.cells.length=w)/\(flat (lvG vw m' l)).length=(flat (lvG vw m l)).length/\∀(j:Nat) a a',(flat (lvG vw m l))[j]? = some a->(flat (lvG vw m' l))[j]? = some a'->Pk n τ h2 a a'
 |m,m',[],H=>⟨by simp[lvG],rfl,fun j a a' h1=>by simp[lvG,flat]at h1⟩
 |m,m',g::l,H=>by
  rw[gsz]at H
  have h1:=hp (m+1) (m'+1) g (H.sub (k:=1) (l:=szs g.args) (by omega) rfl rfl)
  obtain⟨h3,h4,h5⟩:=QpF hw hp l (H.sub (k:=szs g.args+2) (l:=gsz l) (a:=m+szs g.args+2) (b:=m'+szs g.args+2) (by omega) (by omega) (by omega))
  refine⟨fun y hy=>?_,?_,fun j a a' ha hb=>?_⟩
  ·rw[lvG,QuL]at hy
   rcases hy with rfl|hy
   ·exact hw _ _
   ·exact h3 y hy
  ·rw[lvG,lvG,XK,XK,Quw,Quw,h4,hw,hw]
  ·rw[lvG,XK,Qu0,hw]at ha hb
   split at ha
   ·rename_i hj;rw[QuH hj]at hb;exact h1 j a a' ha hb
   ·rename_i hj;rw[QuE hj]at hb;exact h5 _ a a' ha hb
theorem Qr5{tt:TypeId}{A N:AH}{n:Nat}(hn:A.length=n)(hb:∀b∈A,b.Below n)(g:Nat)(l:List G){vw:Nat->G->AV}{w:Nat}(hw:∀m g,(vw m g).cells.length=w)
  (hp:∀(τ:Nat->Nat) (h2:AH) m m' g,Sh n τ h2 m m' (szs g.args)->∀(j:Nat) a a',(vw m g).cells[j]? = some a->(vw m' g).cells[j]? = some a'->Pk n τ h2 a a') (own:Option Nat) (hN:At N g (layG tt (n+g) l)) :
  Pack n (tauG n g) (A++N) (A++layG tt n l)/\Pk n (tauG n g) (A++layG tt n l) (.sl w (lvG vw (n+g) l) own) (.sl w (lvG vw n l) none):=by
 have hsh:=shG (L':=layG tt n l) hn g
 rw[Xd]at hsh
 obtain⟨h1,h2,h3⟩:=QpF hw (hp _ _) l hsh
 exact⟨QgS hn hb (by rw[Xd,Xd]) hN (fun h j b b' h1 h2=>Qkv l hsh j b b' h1 h2) (fun j b b' h1 h2 hl=>QiD l j b b' h1 h2 hl),.sl (by rw[ZM,ZM]) h1 h2 h3⟩
theorem Qqd(m:Nat)(g:G):(gv m g).cells.length=3:=rfl
theorem Qr3{n:Nat}{τ:Nat->Nat}{h2:AH}{m m':Nat}{g:G}(H:Sh n τ h2 m m' (szs g.args)):∀(j:Nat) a a',(gv m g).cells[j]? = some a->(gv m' g).cells[j]? = some a'->Pk n τ h2 a a':=fun j a a' h1 h3=>by
 match j,h1,h3 with
 |0,h1,h3=>cases h1;cases h3;exact .keep (.v _)
 |1,h1,h3=>cases h1;cases h3;exact .keep (.v _)
 |2,h1,h3=>cases h1;cases h3;exact QkG H
 |j+3,h1,h3=>simp[gv,AV.cells]at h1
def av(n:Nat)(g:G):AV:=.agg [.v (.string g.name),lsl n g.args]
theorem Qp5(m:Nat)(g:G):(av m g).cells.length=2:=rfl
theorem QrJ{n:Nat}{τ:Nat->Nat}{h2:AH}{m m':Nat}{g:G}(H:Sh n τ h2 m m' (szs g.args)):∀(j:Nat) a a',(av m g).cells[j]? = some a->(av m' g).cells[j]? = some a'->Pk n τ h2 a a':=fun j a a' h1 h3=>by
 match j,h1,h3 with
 |0,h1,h3=>cases h1;cases h3;exact .keep (.v _)
 |1,h1,h3=>cases h1;cases h3;exact QkG H
 |j+2,h1,h3=>simp[av,AV.cells]at h1
theorem Qgi(g:G){n:Nat}{h:AH}(hA:At h n (layA 48 n g.args)):QA Tryz.prog 59 [gv n g] h fun o h'=>o = .ret (.b (XI g))/\h'=h:=by
 refine Qgt (args':=[g.goal]) rfl (fun j a a' h1 h2=>?_) (Qgj g [])
 match j,h1,h2 with
 |0,h1,h2 =>
  cases h1;cases h2
  refine .agg rfl fun j a a' h1 h2=>?_
  match j,h1,h2 with
  |0,h1,h2=>cases h1;cases h2;exact .keep (.v _)
  |1,h1,h2=>cases h1;cases h2;exact .keep (.v _)
  |2,h1,h2=>cases h1;cases h2;exact Qfy (QuG _) hA
  |j+3,h1,h2=>simp at h1
 |j+1,h1,h2=>simp at h1
theorem Qgh(g:G){n:Nat}{h:AH}(hA:At h n (layA 48 n g.args)):QA Tryz.prog 70 [av n g] h fun o h'=>o = .ret (.b (Ye g))/\h'=h:=by
 refine Qgt (args':=[g.atom]) rfl (fun j a a' h1 h2=>?_) (QcS g [])
 match j,h1,h2 with
 |0,h1,h2 =>
  cases h1;cases h2
  refine .agg rfl fun j a a' h1 h2=>?_
  match j,h1,h2 with
  |0,h1,h2=>cases h1;cases h2;exact .keep (.v _)
  |1,h1,h2=>cases h1;cases h2;exact Qfy (QuG _) hA
  |j+2,h1,h2=>simp at h1
 |j+1,h1,h2=>simp at h1
end Go.Proofs.YticgcpebdldbgaaGreatDoor.Ab
namespace Go.Proofs.YticgcpebdldbgaaGreatDoor.Ab
open Go.Proofs
def GsQ(h:AH)(P:Pz)(vw:Nat->G->AV)(w:Nat):PR (List G)->AOut->AH->Prop
 | .ok l s,o,h'=>o = .ret (.sl w (lvG vw h.length l) none)/\h'=ph h P s++layG 48 h.length l
 | .err p e,o,h'=>o = .panic (Fl p e)/\∃s,h'=ph h P s
def GsC(h:AH)(P:Pz)(vw:Nat->G->AV)(w:Nat):PR (List G)->AOut->AH->Prop
 | .ok l s,o,h'=>∃own N,o = .ret (.sl w (lvG vw (h.length+1) l) own)/\h'=ph h P s++N/\At N 1 (layG 48 (h.length+1) l)
 | .err p e,o,h'=>o = .panic (Fl p e)/\∃s,h'=ph h P s
theorem Qkn{P:Pz}{f:FuncId}{args:List AV}{h:AH}{s:PS}(H:P.ok h){vw:Nat->G->AV}{w:Nat}(hw:∀m g,(vw m g).cells.length=w)
  (hp:∀(τ:Nat->Nat) (h2:AH) m m' g,Sh h.length τ h2 m m' (szs g.args)->∀(j:Nat) a a',(vw m g).cells[j]? = some a->(vw m' g).cells[j]? = some a'->Pk h.length τ h2 a a') {r:PR (List G)} (C:QA Tryz.prog f args (ph h P s) (GsC h P vw w r)):QA Tryz.prog f args (ph h P s) (GsQ h P vw w r):=by
 refine Qa4 C fun hb0 o h' hQ=>?_
 cases r with
 |err p e=>exact .inl hQ
 |ok t s2 =>
  have hb:∀b∈ph h P s2,b.Below h.length:=fun b hb=>by
   rw[Xv]at hb0
   obtain⟨k,hk⟩:=Qaa hb
   rcases QcH H (s0:=s) hk with h1|h1
   ·exact hb0 k b h1
   ·exact h1
  rw[Xv]
  obtain⟨own,N,rfl,rfl,hN⟩:=hQ
  obtain⟨K,hk⟩:=Qr5 (Xv h P s2) hb 1 t hw hp own hN
  exact .inr ⟨_,_,_,_,rfl,K,hk,rfl,rfl⟩
section
variable{P:Pz}{s:PS}(hW:Wst P.all s){h:AH}(H:P.ok h)(hN:P.all.length<=1000000)(hD:TkOk P.all)(L:AH)
include hW H hN
theorem QfL(n m:Int)(hm:¬m<=n):QA Tryz.prog 21 [.ptr P.i 0 0,.i n,.i m] (ph h P s++L) fun o h'=>o = .ret (.tup [])/\h'=ph h P s++L:=by
 have:=Qpc hW (H.app L) hN n m hm
 simpa only[XH H]using this
theorem QhQ(n m:Int)(hm:m<=n):QA Tryz.prog 21 [.ptr P.i 0 0,.i n,.i m] (ph h P s++L) fun o h'=>o = .panic (Fl s.tk.pos 6)/\h'=ph h P s++L:=by
 have:=Qqx hW (H.app L) hN n m hm
 simpa only[XH H]using this
include hD
theorem Qqc{g:G}{s2:PS}(e:QaD s = .ok g s2){k:Nat}(hk:k=h.length+L.length):QA Tryz.prog 58 [.ptr P.i 0 0] (ph h P s++L) fun o h'=>o = .ret (gv k g)/\h'=ph h P s2++(L++layA 48 k g.args):=by
 have:=Qiq hW (H.app L) hN hD
 rw[e,XH H]at this
 subst hk
 exact this.mono fun o h' q=>by simpa only[LQ,XH H,Quw,Quz]using q
theorem Qov{p c:Int}(e:QaD s = .err p c):QA Tryz.prog 58 [.ptr P.i 0 0] (ph h P s++L) fun o h'=>o = .panic (Fl p c)/\∃s2:PS,h'=ph h P s2++L:=by
 have:=Qiq hW (H.app L) hN hD
 rw[e,XH H]at this
 exact this.mono fun o h' q=>by simpa only[LQ,XH H]using q
end
section
variable{P:Pz}{s:PS}(hW:Wst P.all s){h:AH}(H:P.ok h)(hN:P.all.length<=1000000)(hD:TkOk P.all)
include hW H hN hD
theorem QmM(most:Nat)(hmost:most<=100):QA Tryz.prog 29 [.ptr P.i 0 0,.i (most:Nat)] (ph h P s) (GsC h P gv 3 (Y8 most s)):=by
 have f1:=Xv h P
 have f3:=Yu h P
 have f4:=Zh h P
 have f5:=X7 h P
 have f6:=YB h P
 generalize hR:Y8 most s=R
 rw[Y8]at hR
 refine Qa Tryz.func29 rfl Tryz.call29 Tryz.ntmps29 Tryz.results29 (by simp) ?_
 repeat refine Qb ?_;simp only[go_sem,seval]
 refine Zu 5 46 3 rfl ?_
 obtain⟨I,hI⟩:∃I:Nat->AS->Prop,I=fun m' s=>∃(l:List G) (s2:PS) (X:AH),m'=s2.toks.length/\Wst P.all s2/\l.length<=most/\(∃k,s2.toks.length+1<=k/\Zg most k l s2=R)/\X.length=gsz l/\At X 0 (layG 48 (h.length+1) l)/\s.tm 0 = .ptr P.i 0 0/\s.tm 1 = .i (most:Nat)/\s.tm 5 = .sl 3 (lvG gv (h.length+1) l) (some h.length) /\
  s.h=ph h P s2++(.grow 46 3 l.length::X):=⟨_,rfl⟩;refine QD I ?_ (m:=s.toks.length) ?_
 ·intro m' s hs;rw[hI]at hs;obtain⟨tm,hp⟩:=s;dsimp only at hs;obtain⟨l,s2,X,rfl,hW2,hlm,⟨k,hk,hR2⟩,hX,hAt,t0,t1,t5,rfl⟩:=hs
  have hk1:k=k - 1+1:=by omega
  have hi2:=ph_i H s2
  simp only[pB]at hi2
  have elen:(lvG gv (h.length+1) l).length=l.length:=ZM gv (h.length+1) l
  by_cases hm:most<=l.length
  ·have hRR:R = .err s2.tk.pos 6:=by rw[<-hR2,hk1,Zg,QuH hm]
   subst hRR
   have cr:=fun L=>QhQ hW2 H hN L (l.length:Nat) (most:Nat) (by omega)
   repeat (first|refine FunW.pan (FunW.call (cr _)) ?_|refine Qb ?_);simp only[go_sem,seval,t0,t1,t5,hi2,elen]
   exact Xw H s s2 _ _ _ ⟨rfl,_,rfl⟩
  ·have cr:=fun L=>QfL hW2 H hN L (l.length:Nat) (most:Nat) (by omega)
   have cn:=nextL hW2 (YW H s2)
   have e1:=Tk.QsS s2.tk
   have e2:=Tk.QsT s2.tk
   have x1:∀(Y:AH),(X++Y)[X.length]? = Y[0]? := fun Y=>X8 _ _
   have x2:∀(Y:AH) k,(X++Y)[X.length+k]? = Y[k]? := fun Y k=>hget _ _ _
   have x3:∀(Y:AH) y,(X++Y).set X.length y=X++Y.set 0 y:=fun Y y=>Yh _ _ _
   have x4:∀(Y:AH) k y,(X++Y).set (X.length+k) y=X++Y.set k y:=fun Y k y=>hset _ _ _ _
   cases hr:QaD s2 with
   |err p e =>
    have hRR:R = .err p e:=by rw[<-hR2,hk1,Zg,QuE hm,hr];rfl
    subst hRR
    have cg:=fun L=>Qov hW2 H hN hD L hr
    repeat (first|refine FunW.QsR (cr _) ?_|refine FunW.QsR (cn _) ?_|refine FunW.panE (FunW.call (cg _)) fun r=>?_|refine Qb ?_);simp only[go_sem,seval,t0,t1,t5,hi2,elen,e1,e2,f1,f4,f6,x1,x3]
    exact Xw H s r _ _ _ ⟨rfl,_,rfl⟩
   |ok g s3 =>
    have hW3:Wst P.all s3:=Kp.Ps.ok (n:=wdOf P.all) (Kp.goalT_ps trivial) hW2 hr
    have hl3:=(Qfi s2 hW2.wf g s3 hr).2
    have hi3:=ph_i H s3
    simp only[pB]at hi3
    have cg:=fun c d=>Qqc hW2 H hN hD (c::(X++[d])) hr (k:=h.length+1+gsz l+1) (by simp only[QtS,Quw,QtT,hX];omega)
    simp only[Qt7,Quz,Qt6]at cg
    have cR:∀(c d:AB) (Y:AH),QA Tryz.prog 59 [gv (h.length+1+gsz l+1) g] (ph h P s3++(c::(X++(d::(layA 48 (h.length+1+gsz l+1) g.args++Y))))) fun o h'=>o = .ret (.b (XI g))/\h'=ph h P s3++(c::(X++(d::(layA 48 (h.length+1+gsz l+1) g.args++Y)))):=fun c d Y=>Qgi g (by
     have:=At.base (At.mid (c::(X++[d])) (layA 48 (h.length+1+gsz l+1) g.args) Y (n:=1+gsz l+1) (by simp only[QtS,Quw,QtT,hX];omega)) (Xv h P s3)
     rw[show h.length+(1+gsz l+1)=h.length+1+gsz l+1 by omega]at this
     simpa only[Qt7,Quz,Qt6]using this)
    have e3:(gv (h.length+1+gsz l+1) g).cells=[.i g.op,.v (.string g.name),lsl (h.length+1+gsz l+1) g.args]:=rfl
    have e4:(gv (h.length+1+gsz l+1) g).isAgg=true:=rfl
    have y1:∀(Y:AH),(layA 48 (h.length+1+gsz l+1) g.args++Y)[(layA 48 (h.length+1+gsz l+1) g.args).length]? = Y[0]? := fun Y=>X8 _ _
    have y2:∀(Y:AH) y,(layA 48 (h.length+1+gsz l+1) g.args++Y).set (layA 48 (h.length+1+gsz l+1) g.args).length y=layA 48 (h.length+1+gsz l+1) g.args++Y.set 0 y:=fun Y y=>Yh _ _ _
    cases hg:XI g with
    |false =>
     have hRR:R = .err s2.tk.pos 6:=by rw[<-hR2,hk1,Zg,QuE hm,hr];show(if XI g=false then _ else _)=_;rw[QuH hg]
     subst hRR
     have cf:=ZS s2.tk 6
     rw[hg]at cR
     repeat (first|refine FunW.QsR (cr _) ?_|refine FunW.QsR (cn _) ?_|refine FunW.QsR (cg _ _) ?_|refine FunW.QsR (cR _ _ _) ?_|refine Qb ?_);simp only[go_sem,seval,t0,t1,t5,hi2,elen,e1,e2,e3,e4,f1,f4,f6,x1,x2,x3,x4,y1,y2,Xt,Quz]
     refine XV 4 [(0,1),(1,0),(2,0),(3,0)] mixed rfl rfl rfl (by kernel_rfl) (fun v h'=>v=Fl s2.tk.pos 6/\∃L,h'=ph h P s3++L) ?_ ?_
     ·rintro tm v h' ⟨rfl,L,rfl⟩
      exact Xw H s s3 _ _ _ ⟨rfl,_,rfl⟩
     ·simp only[go_sem,seval,t0,hi3,e1,e2,f4,x1]
      exact fun _=>(FunW.call (cf _ _)).mono (by rintro _ _ ⟨rfl,rfl⟩;exact⟨_,rfl,rfl,_,rfl⟩)
    |true =>
     rw[hg]at cR
     have hm1:(l.length+1) * 48<=140737488355328:=by omega
     have hm2:l.length+1<=maxLen:=by simp only[maxLen];omega
     have hR3:(if s3.is Zt=true then Zg most (k - 1) (l++[g]) s3.nx else PR.ok (l++[g]) s3)=R:=by
      rw[<-hR2,hk1,Zg,QuE hm,hr]
      show _=(if XI g=false then _ else _)
      rw[hg];rfl
     have hX2:∀c d:AB,(X++(c::(layA 48 (h.length+1+gsz l+1) g.args++[d]))).length=gsz (l++[g]):=fun c d=>by
      simp only[Quw,QtS,QtT,Zi,hX,Qap,gsz];try omega
     have hA2:∀c d:AB,At (X++(c::(layA 48 (h.length+1+gsz l+1) g.args++[d]))) 0 (layG 48 (h.length+1) (l++[g])):=fun c d=>by
      rw[Qfp]
      refine At.both (hAt.app _) (At.cons (fun q=>by cases q) ?_)
      rw[Xd]
      have:=At.mid (X++[c]) (layA 48 (h.length+1+gsz l+1) g.args) [d] (n:=0+gsz l+1) (by simp only[Quw,QtS,QtT,hX];omega)
      refine At.both ?_ (At.cons (fun q=>by cases q) (At.nil _ _))
      simpa only[Quz,Qt7,Qt6]using this
     have elv:=Qht gv (h.length+1) l g
     cases hc:s3.is Zt with
     |true =>
      have cs:=fun L=>QaB hW3 H hN L {data:=#[44]} (by rw[Lib.toList_data];exact hc)
      rw[hc,QuH rfl]at hR3
      have hln3:=Yg hW3.wf (PS.QsV hc)
      repeat (first|refine FunW.QsR (cr _) ?_|refine FunW.QsR (cn _) ?_|refine FunW.QsR (cg _ _) ?_|refine FunW.QsR (cR _ _ _) ?_|refine FunW.QsR (cs _) ?_|refine Qb ?_);simp only[go_sem,seval,t0,t1,t5,hi2,hi3,elen,e1,e2,e3,e4,f1,f3,f4,f5,f6,x1,x2,x3,x4,y1,y2,Xt,Quz,hm1,hm2]
      refine XB.mk (m':=s3.nx.toks.length) (by omega) ?_
      rw[hI]
      refine⟨l++[g],s3.nx,X++(.cells 54 3 [s2.tk.av]::(layA 48 (h.length+1+gsz l+1) g.args++[.cells 46 3 [gv (h.length+1+gsz l+1) g]])),rfl,hW3.nx,by simp;omega,⟨k - 1,by omega,hR3⟩,hX2 _ _,hA2 _ _,t0,t1,?_,?_⟩
      ·rw[elv];rfl
      ·rw[Quw];rfl
     |false =>
      have cs:=fun L=>Qa2 hW3 H hN L {data:=#[44]} (by rw[Lib.toList_data];exact hc)
      rw[hc,QuE (by simp)]at hR3
      subst hR3
      repeat (first|refine FunW.QsR (cr _) ?_|refine FunW.QsR (cn _) ?_|refine FunW.QsR (cg _ _) ?_|refine FunW.QsR (cR _ _ _) ?_|refine FunW.QsR (cs _) ?_|refine Qb ?_);simp only[go_sem,seval,t0,t1,t5,hi2,hi3,elen,e1,e2,e3,e4,f1,f3,f4,f5,f6,x1,x2,x3,x4,y1,y2,Xt,Quz,hm1,hm2]
      rw[<-elv]
      exact .inr ⟨_,_,rfl,rfl,At.tail (hA2 _ _)⟩
 ·rw[hI]
  exact⟨[],s,[],rfl,hW,QuG _,⟨_,QuD _,hR⟩,rfl,At.nil _ _,rfl,rfl,by simp only[upd,↓reduceIte,Xv];rfl,rfl⟩
end
end Go.Proofs.YticgcpebdldbgaaGreatDoor.Ab
namespace Go.Proofs.YticgcpebdldbgaaGreatDoor.Ab
open Go.Proofs
section
variable{P:Pz}{s:PS}(hW:Wst P.all s){h:AH}(H:P.ok h)(hN:P.all.length<=1000000)(hD:TkOk P.all)(L:AH)
include hW H hN hD
theorem Qp3{g:G}{s2:PS}(e:ZU YP s = .ok g s2){k:Nat}(hk:k=h.length+L.length):QA Tryz.prog 69 [.ptr P.i 0 0] (ph h P s++L) fun o h'=>o = .ret (av k g)/\h'=ph h P s2++(L++layA 48 k g.args):=by
 have:=Qid hN hD hW (H.app L)
 rw[e,XH H]at this
 subst hk
 exact this.mono fun o h' q=>by simpa only[GQ,av,XH H,Quw,Quz]using q
theorem Qoj{p c:Int}(e:ZU YP s = .err p c):QA Tryz.prog 69 [.ptr P.i 0 0] (ph h P s++L) fun o h'=>o = .panic (Fl p c)/\∃s2:PS,h'=ph h P s2++L:=by
 have:=Qid hN hD hW (H.app L)
 rw[e,XH H]at this
 exact this.mono fun o h' q=>by simpa only[GQ,XH H]using q
end
section
variable{P:Pz}{s:PS}(hW:Wst P.all s){h:AH}(H:P.ok h)(hN:P.all.length<=1000000)(hD:TkOk P.all)
include hW H hN hD
theorem QmN(pre:Nat)(hpre:pre<=100):QA Tryz.prog 49 [.ptr P.i 0 0,.i (pre:Nat)] (ph h P s) (GsC h P av 2 (ZO pre s)):=by
 have f1:=Xv h P
 have f3:=Yu h P
 have f4:=Zh h P
 have f5:=X7 h P
 have f6:=YB h P
 generalize hR:ZO pre s=R
 rw[ZO]at hR
 refine Qa Tryz.func49 rfl Tryz.call49 Tryz.ntmps49 Tryz.results49 (by simp) ?_
 repeat refine Qb ?_;simp only[go_sem,seval]
 refine Zu 5 105 2 rfl ?_
 obtain⟨I,hI⟩:∃I:Nat->AS->Prop,I=fun m' s=>∃(l:List G) (s2:PS) (X:AH),m'=s2.toks.length/\Wst P.all s2/\l.length<=4/\(∃k,s2.toks.length+1<=k/\Qab pre k l s2=R)/\X.length=gsz l/\At X 0 (layG 48 (h.length+1) l)/\s.tm 0 = .ptr P.i 0 0/\s.tm 1 = .i (pre:Nat)/\s.tm 5 = .sl 2 (lvG av (h.length+1) l) (some h.length) /\
  s.h=ph h P s2++(.grow 105 2 l.length::X):=⟨_,rfl⟩;refine QD I ?_ (m:=s.toks.length) ?_
 ·intro m' s hs;rw[hI]at hs;obtain⟨tm,hp⟩:=s;dsimp only at hs;obtain⟨l,s2,X,rfl,hW2,hlm,⟨k,hk,hR2⟩,hX,hAt,t0,t1,t5,rfl⟩:=hs
  have hk1:k=k - 1+1:=by omega
  have hi2:=ph_i H s2
  simp only[pB]at hi2
  have elen:(lvG av (h.length+1) l).length=l.length:=ZM av (h.length+1) l
  have w1:IntKind.i64.wrap ((pre:Nat)+(l.length:Nat):Int)=((pre+l.length:Nat):Int):=by rw[Ya (by omega)];omega
  by_cases hm:4<=pre+l.length
  ·have hRR:R = .err s2.tk.pos 6:=by rw[<-hR2,hk1,Qab,QuH hm]
   subst hRR
   have cr:=fun L=>QhQ hW2 H hN L ((pre+l.length:Nat):Int) 4 (by omega)
   repeat (first|refine FunW.pan (FunW.call (cr _)) ?_|refine Qb ?_);simp only[go_sem,seval,t0,t1,t5,w1,hi2,elen]
   exact Xw H s s2 _ _ _ ⟨rfl,_,rfl⟩
  ·have cr:=fun L=>QfL hW2 H hN L ((pre+l.length:Nat):Int) 4 (by omega)
   have cn:=nextL hW2 (YW H s2)
   have e1:=Tk.QsS s2.tk
   have e2:=Tk.QsT s2.tk
   have x1:∀(Y:AH),(X++Y)[X.length]? = Y[0]? := fun Y=>X8 _ _
   have x2:∀(Y:AH) k,(X++Y)[X.length+k]? = Y[k]? := fun Y k=>hget _ _ _
   have x3:∀(Y:AH) y,(X++Y).set X.length y=X++Y.set 0 y:=fun Y y=>Yh _ _ _
   have x4:∀(Y:AH) k y,(X++Y).set (X.length+k) y=X++Y.set k y:=fun Y k y=>hset _ _ _ _
   cases hr:ZU YP s2 with
   |err p e =>
    have hRR:R = .err p e:=by rw[<-hR2,hk1,Qab,QuE hm,hr];rfl
    subst hRR
    have cg:=fun L=>Qoj hW2 H hN hD L hr
    repeat (first|refine FunW.QsR (cr _) ?_|refine FunW.QsR (cn _) ?_|refine FunW.panE (FunW.call (cg _)) fun r=>?_|refine Qb ?_);simp only[go_sem,seval,t0,t1,t5,w1,hi2,elen,e1,e2,f1,f4,f6,x1,x3]
    exact Xw H s r _ _ _ ⟨rfl,_,rfl⟩
   |ok g s3 =>
    have hW3:Wst P.all s3:=Kp.Ps.ok (n:=wdOf P.all) (Kp.atom_ps trivial (Kp.termT_ps trivial)) hW2 hr
    have hl3:=(Qhf (Qbi.less (by omega)) s2 hW2.wf g s3 hr).2
    have hi3:=ph_i H s3
    simp only[pB]at hi3
    have cg:=fun c d=>Qp3 hW2 H hN hD (c::(X++[d])) hr (k:=h.length+1+gsz l+1) (by simp only[QtS,Quw,QtT,hX];omega)
    simp only[Qt7,Quz,Qt6]at cg
    have cR:∀(c d:AB) (Y:AH),QA Tryz.prog 70 [av (h.length+1+gsz l+1) g] (ph h P s3++(c::(X++(d::(layA 48 (h.length+1+gsz l+1) g.args++Y))))) fun o h'=>o = .ret (.b (Ye g))/\h'=ph h P s3++(c::(X++(d::(layA 48 (h.length+1+gsz l+1) g.args++Y)))):=fun c d Y=>Qgh g (by
     have:=At.base (At.mid (c::(X++[d])) (layA 48 (h.length+1+gsz l+1) g.args) Y (n:=1+gsz l+1) (by simp only[QtS,Quw,QtT,hX];omega)) (Xv h P s3)
     rw[show h.length+(1+gsz l+1)=h.length+1+gsz l+1 by omega]at this
     simpa only[Qt7,Quz,Qt6]using this)
    have e3:(av (h.length+1+gsz l+1) g).cells=[.v (.string g.name),lsl (h.length+1+gsz l+1) g.args]:=rfl
    have e4:(av (h.length+1+gsz l+1) g).isAgg=true:=rfl
    have y1:∀(Y:AH),(layA 48 (h.length+1+gsz l+1) g.args++Y)[(layA 48 (h.length+1+gsz l+1) g.args).length]? = Y[0]? := fun Y=>X8 _ _
    have y2:∀(Y:AH) y,(layA 48 (h.length+1+gsz l+1) g.args++Y).set (layA 48 (h.length+1+gsz l+1) g.args).length y=layA 48 (h.length+1+gsz l+1) g.args++Y.set 0 y:=fun Y y=>Yh _ _ _
    cases hg:Ye g with
    |false =>
     have hRR:R = .err s2.tk.pos 6:=by rw[<-hR2,hk1,Qab,QuE hm,hr];show(if Ye g=false then _ else _)=_;rw[QuH hg]
     subst hRR
     have cf:=ZS s2.tk 6
     rw[hg]at cR
     repeat (first|refine FunW.QsR (cr _) ?_|refine FunW.QsR (cn _) ?_|refine FunW.QsR (cg _ _) ?_|refine FunW.QsR (cR _ _ _) ?_|refine Qb ?_);simp only[go_sem,seval,t0,t1,t5,w1,hi2,elen,e1,e2,e3,e4,f1,f4,f6,x1,x2,x3,x4,y1,y2,Xt,Quz]
     refine XV 4 [(0,1),(1,0),(2,0),(3,0)] mixed rfl rfl rfl (by kernel_rfl) (fun v h'=>v=Fl s2.tk.pos 6/\∃L,h'=ph h P s3++L) ?_ ?_
     ·rintro tm v h' ⟨rfl,L,rfl⟩
      exact Xw H s s3 _ _ _ ⟨rfl,_,rfl⟩
     ·simp only[go_sem,seval,t0,hi3,e1,e2,f4,x1]
      exact fun _=>(FunW.call (cf _ _)).mono (by rintro _ _ ⟨rfl,rfl⟩;exact⟨_,rfl,rfl,_,rfl⟩)
    |true =>
     rw[hg]at cR
     have hm1:(l.length+1) * 40<=140737488355328:=by omega
     have hm2:l.length+1<=maxLen:=by simp only[maxLen];omega
     have hR3:(if s3.is Zt=true then Qab pre (k - 1) (l++[g]) s3.nx else PR.ok (l++[g]) s3)=R:=by
      rw[<-hR2,hk1,Qab,QuE hm,hr]
      show _=(if Ye g=false then _ else _)
      rw[hg];rfl
     have hX2:∀c d:AB,(X++(c::(layA 48 (h.length+1+gsz l+1) g.args++[d]))).length=gsz (l++[g]):=fun c d=>by
      simp only[Quw,QtS,QtT,Zi,hX,Qap,gsz];try omega
     have hA2:∀c d:AB,At (X++(c::(layA 48 (h.length+1+gsz l+1) g.args++[d]))) 0 (layG 48 (h.length+1) (l++[g])):=fun c d=>by
      rw[Qfp]
      refine At.both (hAt.app _) (At.cons (fun q=>by cases q) ?_)
      rw[Xd]
      have:=At.mid (X++[c]) (layA 48 (h.length+1+gsz l+1) g.args) [d] (n:=0+gsz l+1) (by simp only[Quw,QtS,QtT,hX];omega)
      refine At.both ?_ (At.cons (fun q=>by cases q) (At.nil _ _))
      simpa only[Quz,Qt7,Qt6]using this
     have elv:=Qht av (h.length+1) l g
     cases hc:s3.is Zt with
     |true =>
      have cs:=fun L=>QaB hW3 H hN L {data:=#[44]} (by rw[Lib.toList_data];exact hc)
      rw[hc,QuH rfl]at hR3
      have hln3:=Yg hW3.wf (PS.QsV hc)
      repeat (first|refine FunW.QsR (cr _) ?_|refine FunW.QsR (cn _) ?_|refine FunW.QsR (cg _ _) ?_|refine FunW.QsR (cR _ _ _) ?_|refine FunW.QsR (cs _) ?_|refine Qb ?_);simp only[go_sem,seval,t0,t1,t5,w1,hi2,hi3,elen,e1,e2,e3,e4,f1,f3,f4,f5,f6,x1,x2,x3,x4,y1,y2,Xt,Quz,hm1,hm2]
      refine XB.mk (m':=s3.nx.toks.length) (by omega) ?_
      rw[hI]
      refine⟨l++[g],s3.nx,X++(.cells 54 3 [s2.tk.av]::(layA 48 (h.length+1+gsz l+1) g.args++[.cells 105 2 [av (h.length+1+gsz l+1) g]])),rfl,hW3.nx,by simp;omega,⟨k - 1,by omega,hR3⟩,hX2 _ _,hA2 _ _,t0,t1,?_,?_⟩
      ·rw[elv];rfl
      ·rw[Quw];rfl
     |false =>
      have cs:=fun L=>Qa2 hW3 H hN L {data:=#[44]} (by rw[Lib.toList_data];exact hc)
      rw[hc,QuE (by simp)]at hR3
      subst hR3
      repeat (first|refine FunW.QsR (cr _) ?_|refine FunW.QsR (cn _) ?_|refine FunW.QsR (cg _ _) ?_|refine FunW.QsR (cR _ _ _) ?_|refine FunW.QsR (cs _) ?_|refine Qb ?_);simp only[go_sem,seval,t0,t1,t5,w1,hi2,hi3,elen,e1,e2,e3,e4,f1,f3,f4,f5,f6,x1,x2,x3,x4,y1,y2,Xt,Quz,hm1,hm2]
      rw[<-elv]
      exact .inr ⟨_,_,rfl,rfl,At.tail (hA2 _ _)⟩
 ·rw[hI]
  exact⟨[],s,[],rfl,hW,QuG _,⟨_,QuD _,hR⟩,rfl,At.nil _ _,rfl,rfl,by simp only[upd,↓reduceIte,Xv];rfl,rfl⟩
theorem QdS(most:Nat)(hmost:most<=100):QA Tryz.prog 29 [.ptr P.i 0 0,.i (most:Nat)] (ph h P s) (GsQ h P gv 3 (Y8 most s)) :=
 Qkn H Qqd (fun _ _ _ _ _ h=>Qr3 h) (QmM hW H hN hD most hmost)
theorem QgK(pre:Nat)(hpre:pre<=100):QA Tryz.prog 49 [.ptr P.i 0 0,.i (pre:Nat)] (ph h P s) (GsQ h P av 2 (ZO pre s)) :=
 Qkn H Qp5 (fun _ _ _ _ _ h=>QrJ h) (QmN hW H hN hD pre hpre)
end
end Go.Proofs.YticgcpebdldbgaaGreatDoor.Ab
namespace Go.Proofs.YticgcpebdldbgaaGreatDoor.Ab
open Go.Proofs
mutual
/-- a parsed term: what is no operator and no name has no arguments -/
def T.ps:T->Prop
 | .mk k _ _ bs=>(k=0\/k=1\/k=2)/\(k≠2->bs=[])/\pss bs
def pss:List T->Prop
 |[]=>True
 |t::l=>t.ps/\pss l
end
theorem Qnx:∀{l:List T} {k:Nat} (h:k<l.length),pss l->(l[k]).ps
 |t::l,0,_,hp=>by rw[pss]at hp;exact hp.1
 |t::l,k+1,h,hp=>by rw[pss]at hp;exact Qnx (l:=l) (by simpa using h) hp.2
theorem T.QtC{t:T}(h:t.ps):(t.kind=0\/t.kind=1\/t.kind=2)/\(t.kind≠2->t.args=[])/\pss t.args:=by
 cases t;rw[T.ps]at h;exact h
section
variable{σ:Type}(g:σ->Int->Int×σ)
mutual
theorem T.Qtu:∀(s:σ) (t:T),(T.mapS g s t).1.sz=t.sz
 |s,.mk k i n l=>by
  simp only[T.mapS]
  split
  ·rfl
  ·split
   ·show szs (Yw g s l).1=szs l;exact ZT s l
   ·rfl
theorem ZT:∀(s:σ) (l:List T),szs (Yw g s l).1=szs l
 |s,[]=>by simp[Yw]
 |s,t::l=>by simp only[Yw,szs,T.Qtu s t,ZT _ l]
end
theorem Qfw(n:Nat)(s:σ)(l:List T):lsl n (Yw g s l).1=lsl n l:=by
 unfold lsl
 rw[ZT,QaS]
 cases l with
 |nil=>simp[Yw]
 |cons t l=>simp[Yw]
end
theorem QqI{X:AH}{tt:TypeId}{n:Nat}{r:AB}{l:List T}(h:At X n (lays tt n r l))(hl:l≠[])(hr:r.live=true):At X n (lays tt n .dead l)/\X[n+szs l - 1]? = some r:=by
 obtain⟨h1,h2⟩:=Qcm tt n r l hl
 have hp:=Qc5 hl
 refine⟨?_,h.get h1 hr (by omega)⟩
 rw[<-h2]
 intro j b hb hlv
 by_cases e:szs l - 1=j
 ·subst e
  rw[QuF (by rw[Z9];omega)]at hb
  cases hb;cases hlv
 ·rw[Quy e]at hb
  exact h j b hb hlv
theorem Qry{X:AH}{tt:TypeId}{n:Nat}{r:AB}{l:List T}(h:At X n (lays tt n .dead l))(hl:l≠[])(hr:X[n+szs l - 1]? = some r):At X n (lays tt n r l):=by
 obtain⟨h1,h2⟩:=Qcm tt n r l hl
 have hp:=Qc5 hl
 intro j b hb hlv
 by_cases e:szs l - 1=j
 ·subst e
  rw[h1]at hb;cases hb
  rw[show n+(szs l - 1)=n+szs l - 1 by omega];exact hr
 ·rw[<-h2]at h
  exact h j b (by rw[Quy e];exact hb) hlv
theorem Qp1{X X':AH}{tt:TypeId}{n:Nat}{l m:List T}{u u':T}(hX:At X n (lays tt n .dead (l++u::m)))(hsz:u'.sz=u.sz)(hu:At X' (n+szs l) (u'.lay tt (n+szs l)))
  (hout:∀j,n<=j->j<n+szs (l++u::m)->¬(n+szs l<=j/\j<n+szs l+u.sz)->X'[j]? = X[j]?):At X' n (lays tt n .dead (l++u'::m)):=by
 intro j b hb hl
 have hlen:szs (l++u::m)=szs l+(u.sz+1+szs m):=by rw[ZX,szs]
 have hjl:=Qf hb
 rw[Z9,ZX,szs,hsz]at hjl
 rw[QbN,lays,Qu0,Z9]at hb
 split at hb
 ·rename_i hj
  rw[hout (n+j) (by omega) (by omega) (by omega)]
  exact hX j b (by rw[QbN,Qu0,Z9,QuH hj];exact hb) hl
 ·rename_i hj
  rw[Qu0,T.QsW,hsz]at hb
  split at hb
  ·rename_i hj2
   have:=hu (j - szs l) b hb hl
   rwa [show n+szs l+(j - szs l)=n+j by omega]at this
  ·rename_i hj2
   rw[hout (n+j) (by omega) (by omega) (by omega)]
   refine hX j b ?_ hl
   rw[QbN,lays,Qu0,Z9,QuE hj,Qu0,T.QsW,QuE hj2]
   exact hb
theorem Qm0{tt:TypeId}{n:Nat}{r:AB}{l m:List T}{u u':T}(h:u'.args=u.args):lays tt n r (l++u'::m)=lays tt n r (l++u::m):=by
 have h1:∀k,u'.lay tt k=u.lay tt k:=fun k=>by rw[T.Qs6,T.Qs6,h]
 have h2:u'.sz=u.sz:=by rw[T.Qta,T.Qta,h]
 rw[QbN,QbN,lays,lays,h1,h2]
theorem Qfv(n:Nat)(l m:List T)(u:T):lvs n (l++u::m)=lvs n l++(u.lv (n+szs l)::lvs (n+szs l+u.sz+1) m):=by rw[QdW,lvs]
theorem QoF{n:Nat}{l m:List T}{u u':T}(h:∀k,u'.lv k=u.lv k)(hs:u'.sz=u.sz):lvs n (l++u'::m)=lvs n (l++u::m):=by rw[Qfv,Qfv,h,hs]
theorem Qre(n:Nat)(l m:List T)(u:T):(lvs n (l++u::m))[l.length]? = some (u.lv (n+szs l)):=by
 rw[Qfv,QuB (by rw[Qaq];exact QuD _),Qaq,Qu9];rfl
theorem Qm3{n:Nat}{l m:List T}{u u':T}(hs:u'.sz=u.sz):(lvs n (l++u::m)).set l.length (u'.lv (n+szs l))=lvs n (l++u'::m):=by
 rw[Qfv,Qfv,hs,Qva _ _ (by rw[Qaq];exact QuD _),Qaq,Qu9];rfl
def NSt(X:AH)(q:Nat)(ord:List Int):Prop:=∃toV,X[q]? = some (.cells 80 2 [.agg [toV,.sl 1 (ints ord) (some (q+1))]])/\X[q+1]? = some (.grow 3 1 ord.length) /\
 ((toV = .v (.map none)/\ord=[])\/∃m,toV = .mp m/\q+1<m/\X[m]? = some (mapB ord))
structure NumP (X X':AH) (q n w:Nat):Prop where
 long:X.length<=X'.length
 out:∀j,j<q->¬(n<=j/\j<n+w)->X'[j]? = X[j]?
theorem NumP.refl(X:AH)(q n w:Nat):NumP X X q n w:=⟨QuD _,fun _ _ _=>rfl⟩
theorem NumP.trans{X Y Z:AH}{q n w a b:Nat}(h:NumP X Y q n w)(k:NumP Y Z q a b)(ha:n<=a)(hb:a+b<=n+w):NumP X Z q n w :=
 ⟨Qu1 h.long k.long,fun j hj hn=>(k.out j hj (by omega)).trans (h.out j hj hn)⟩
theorem NSt.app{X:AH}{q:Nat}{ord:List Int}(h:NSt X q ord)(L:AH):NSt (X++L) q ord:=by
 obtain⟨toV,h1,h2,h3⟩:=h
 refine⟨toV,hext h1 L,hext h2 L,h3.imp id ?_⟩
 rintro⟨m,e,h4,h5⟩
 exact⟨m,e,h4,hext h5 L⟩
end Go.Proofs.YticgcpebdldbgaaGreatDoor.Ab
namespace Go.Proofs.YticgcpebdldbgaaGreatDoor.Ab
open Go.Proofs
theorem FunW.retE{P:Program}{α:Type}{fv:AV}{args:List AV}{h:AH}{h':α->AH}{r:AV}{Q:AOut->AH->Prop}(H:FunW P fv args h fun o h2=>o = .ret r/\∃x,h2=h' x)(k:∀x,Q (.ret r) (h' x)):FunW P fv args h Q:=H.mono (by rintro _ _ ⟨rfl,x,rfl⟩;exact k x)
theorem Qqg(s:List Int)(v:Int):(ins s v).length<=s.length+1:=by
 unfold ins
 split
 ·omega
 ·simp
mutual
theorem T.Qtv:∀(s:List Int) (t:T),(T.mapS gNum s t).2.length<=s.length+t.nds
 |s,.mk k i n l=>by
  simp only[T.mapS,T.nds]
  split
  ·have:=Qqg s i
   show(ins s i).length<=_
   omega
  ·split
   ·have:=Qdl s l
    show(Yw gNum s l).2.length<=_
    omega
   ·show s.length<=_;omega
theorem Qdl:∀(s:List Int) (l:List T),(Yw gNum s l).2.length<=s.length+ndsL l
 |s,[]=>by simp[Yw]
 |s,t::l=>by
  simp only[Yw,ndsL]
  have h1:=T.Qtv s t
  have h2:=Qdl (T.mapS gNum s t).2 l
  omega
end
theorem Qm4{s:List Int}{u:T}(hp:u.ps)(hk:u.kind≠1):T.mapS gNum s u=(.mk u.kind u.int u.name (Yw gNum s u.args).1,(Yw gNum s u.args).2):=by
 obtain⟨h1,h2,_⟩:=T.QtC hp
 rw[T.Qtm,QuE hk]
 by_cases h3:u.kind=2
 ·rw[QuH h3]
 ·rw[QuE h3,h2 h3]
  cases u
  simp only[T.args,T.kind]at h2 h3
  rw[h2 h3];rfl
theorem Qc2:∀a b:List T,ndsL (a++b)=ndsL a+ndsL b
 |[],b=>by simp[ndsL]
 |t::a,b=>by rw[Qt7,ndsL,ndsL,Qc2 a b];omega
theorem Qlz(l:List T){j:Nat}(h:j<l.length):ndsL (l.take j)+l[j].nds<=ndsL l:=by
 have:=Qvq ndsL (Qvl j l)
 rw[Qc2,QuQ h,ndsL]at this
 omega
theorem Qng(l:List T)(j:Nat):ndsL (l.take j)<=ndsL l:=by
 have:=Qvq ndsL (Qvl j l)
 rw[Qc2]at this
 omega
theorem QqJ{X:AH}{tt:TypeId}{n:Nat}{r:AB}{l m:List T}{u:T}(h:At X n (lays tt n r (l++u::m))):At X (n+szs l) (u.lay tt (n+szs l)):=by
 rw[QbN,lays]at h
 exact(h.right (m:=n+szs l) (by rw[Z9])).left
def Cur(ord:List Int)(bs:List T)(j:Nat):List T:=(Yw gNum ord (bs.take j)).1++bs.drop j
theorem Qil(ord:List Int){bs:List T}{j:Nat}(hj:j<bs.length):Cur ord bs j=(Yw gNum ord (bs.take j)).1++bs[j]::bs.drop (j+1) /\
  Cur ord bs (j+1)=(Yw gNum ord (bs.take j)).1++(T.mapS gNum (Yw gNum ord (bs.take j)).2 bs[j]).1::bs.drop (j+1)/\(Yw gNum ord (bs.take (j+1))).2=(T.mapS gNum (Yw gNum ord (bs.take j)).2 bs[j]).2:=by
 obtain⟨h1,h2⟩:=Qlw gNum ord hj
 refine⟨by rw[Cur,QuQ hj],?_,h2⟩
 rw[Cur,h1,Quz];rfl
theorem Qjs(ord:List Int)(bs:List T)(j:Nat):szs (Cur ord bs j)=szs bs:=by
 rw[Cur,ZX,ZT,<-ZX,Qvl]
theorem NSt.set{X:AH}{q:Nat}{ord:List Int}(h:NSt X q ord){k:Nat}(hk:k<q)(y:AB):NSt (X.set k y) q ord:=by
 obtain⟨toV,h1,h2,h3⟩:=h
 refine⟨toV,by rw[Quy (by omega)];exact h1,by rw[Quy (by omega)];exact h2,h3.imp id ?_⟩
 rintro⟨m,e,h4,h5⟩
 exact⟨m,e,h4,by rw[Quy (by omega)];exact h5⟩
theorem NumP.set{X Y:AH}{q n w:Nat}(h:NumP X Y q n w){k:Nat}(hk:n<=k/\k<n+w)(y:AB):NumP X (Y.set k y) q n w :=
 ⟨by rw[QuI];exact h.long,fun j hj hn=>by rw[Quy (by omega)];exact h.out j hj hn⟩
theorem NumP.setA{X Y:AH}{q n w:Nat}(h:NumP X Y q n w){k:Nat}(hk:q<=k)(y:AB):NumP X (Y.set k y) q n w :=
 ⟨by rw[QuI];exact h.long,fun j hj hn=>by rw[Quy (by omega)];exact h.out j hj hn⟩
theorem NumP.app{X Y:AH}{q n w:Nat}(h:NumP X Y q n w)(L:AH)(hq:q<=Y.length):NumP X (Y++L) q n w :=
 ⟨by rw[Quw];exact Qu1 h.long (by omega),fun j hj hn=>by rw[Qux (by omega)];exact h.out j hj hn⟩
theorem At.Qtq{h:AH}{n:Nat}{L:AH}(H:At h n L){k:Nat}{x:AB}(hk:n+L.length<=k):At (h.set k x) n L:=H.set fun b hb _=>by
 have:=Qf hb
 omega
theorem QjJ{X0 Z:AH}{q n:Nat}{ord:List Int}{bs:List T}{j rid:Nat}(hlt:j<bs.length)(hrid:rid=n+szs bs - 1)(hq:n+szs bs<=q)(hP:NumP X0 Z q n (szs bs))(hS:NSt Z q (Yw gNum ord (bs.take (j+1))).2)
  (hA:At Z n (lays 48 n .dead (Cur ord bs j))) {c1:List T} (hc1:(Yw gNum ord (bs.take j)).1=c1) (hr:rid<Z.length) {v:Int} (ec':Cur ord bs (j+1)=c1++T.mk bs[j].kind v bs[j].name bs[j].args::bs.drop (j+1)) :
  NumP X0 (Z.set rid (.cells 48 4 ((lvs n (Cur ord bs j)).set j (.agg [.v (.int .i64 bs[j].kind),.v (.int .i64 v),.v (.string bs[j].name),lsl (n+szs c1) bs[j].args])))) q n (szs bs) /\
  NSt (Z.set rid (.cells 48 4 ((lvs n (Cur ord bs j)).set j (.agg [.v (.int .i64 bs[j].kind),.v (.int .i64 v),.v (.string bs[j].name),lsl (n+szs c1) bs[j].args])))) q (Yw gNum ord (bs.take (j+1))).2 /\
  At (Z.set rid (.cells 48 4 ((lvs n (Cur ord bs j)).set j (.agg [.v (.int .i64 bs[j].kind),.v (.int .i64 v),.v (.string bs[j].name),lsl (n+szs c1) bs[j].args])))) n (lays 48 n .dead (Cur ord bs (j+1))) /\
  (Z.set rid (.cells 48 4 ((lvs n (Cur ord bs j)).set j (.agg [.v (.int .i64 bs[j].kind),.v (.int .i64 v),.v (.string bs[j].name),lsl (n+szs c1) bs[j].args]))))[rid]? = some (.cells 48 4 (lvs n (Cur ord bs (j+1)))):=by
 have hne:bs≠[]:=by rintro rfl;simp at hlt
 have hp:=Qc5 hne
 obtain⟨ec,_,_⟩:=Qil ord hlt
 rw[hc1]at ec
 have hc1l:c1.length=j:=by rw[<-hc1,QaS,QuY];omega
 have hcs:=Qjs ord bs j
 refine⟨hP.set (by omega) _,hS.set (by omega) _,?_,?_⟩
 ·rw[ec',Qm0 (u:=bs[j]) (u':=T.mk bs[j].kind v bs[j].name bs[j].args) rfl,<-ec]
  refine hA.set fun b hb hn=>?_
  have hne2:Cur ord bs j≠[]:=by rw[ec];exact List.append_ne_nil_of_right_ne_nil _ (List.cons_ne_nil _ _)
  have h1:=(Qcm 48 n .dead _ hne2).1
  rw[hcs,show szs bs - 1=rid - n by omega,hb]at h1
  cases h1;rfl
 ·rw[QuF hr,ec',<-Qm3 (u:=bs[j]) (u':=T.mk bs[j].kind v bs[j].name bs[j].args) (by rw[T.Qta,T.Qta];rfl),<-ec,hc1l,T.Qtf]
  rfl
theorem QkA{X0 X:AH}{q n a w:Nat}{M:AH}(hM:M.length<=w)(hq:n+w<=q)(hqx:q<=X.length)(hP:NumP X0 X q n w)(hA:At X n M)(ha:q<=a)(A G C:AB)(L:AH) :
  NumP X0 ((((X.set a A).set (q+1) G).set q C)++L) q n w/\At ((((X.set a A).set (q+1) G).set q C)++L) n M:=by
 refine⟨NumP.app (((hP.setA ha A).setA (by omega) G).setA (QuD _) C) L (by simp only[QuI];exact hqx),?_⟩
 exact(((hA.Qtq (by omega)).Qtq (by omega)).Qtq (by omega)).app L
theorem Qri{X:AH}{q a:Nat}(A G C:AB)(L:AH)(h:q+1<X.length):((((X.set a A).set (q+1) G).set q C)++L)[q]? = some C/\((((X.set a A).set (q+1) G).set q C)++L)[q+1]? = some G /\
  (q+1<a->a<X.length->((((X.set a A).set (q+1) G).set q C)++L)[a]? = some A):=by
 refine⟨?_,?_,fun h1 h2=>?_⟩
 ·rw[Qux (by simp only[QuI];omega),QuF (by simp only[QuI];omega)]
 ·rw[Qux (by simp only[QuI];omega),Quy (by omega),QuF (by simp only[QuI];omega)]
 ·rw[Qux (by simp only[QuI];omega),Quy (by omega),Quy (by omega),QuF h2]
theorem QmU(l:List Int)(v:Int):ints (l++[v])=ints l++[.i v]:=by simp[ints]
theorem Qnj{X:AH}{q:Nat}(A c:AB)(v:Int)(h:q+1<X.length):NSt ((((X.set q A).set (q+1) (.grow 3 1 1)).set q (.cells 80 2 [.agg [.mp (X.length+1),.sl 1 (ints []++[.v (.int .i64 v)]) (some (q+1))]]))++[c,.map [(.int .i64 v,.v (.int .i64 0))]]) q ([]++[v]):=by
 obtain⟨b1,b2,_⟩:=Qri (X:=X) (q:=q) (a:=q) A (.grow 3 1 1) (.cells 80 2 [.agg [.mp (X.length+1),.sl 1 (ints []++[.v (.int .i64 v)]) (some (q+1))]]) [c,.map [(.int .i64 v,.v (.int .i64 0))]] h
 refine⟨_,b1,b2,.inr ⟨X.length+1,rfl,by omega,?_⟩⟩
 rw[QuB (by simp only[QuI];omega)]
 simp only[QuI,Qvc]
 rfl
theorem QoP{X:AH}{q m:Nat}{ord:List Int}(c:AB)(v:Int)(h:q+1<X.length)(hm:q+1<m)(hmX:m<X.length):NSt ((((X.set m (.map (imap (Qby ord++[(v,.v (.int .i64 ord.length))])))).set (q+1) (.grow 3 1 (ord.length+1))).set q (.cells 80 2 [.agg [.mp m,.sl 1 (ints ord++[.v (.int .i64 v)]) (some (q+1))]]))++[c]) q (ord++[v]):=by
 obtain⟨b1,b2,b3⟩:=Qri (X:=X) (q:=q) (a:=m) (.map (imap (Qby ord++[(v,.v (.int .i64 ord.length))]))) (.grow 3 1 (ord.length+1)) (.cells 80 2 [.agg [.mp m,.sl 1 (ints ord++[.v (.int .i64 v)]) (some (q+1))]]) [c] h
 refine⟨.mp m,?_,?_,.inr ⟨m,rfl,hm,?_⟩⟩
 ·rw[b1,QmU]
 ·rw[b2,Quw];rfl
 ·rw[b3 hm hmX,mapB,QjI]
def TmQ(X:AH)(q n:Nat)(ord:List Int)(bs:List T)(o:AOut)(h':AH):Prop:=o = .ret (.tup [])/\NumP X h' q n (szs bs)/\NSt h' q (Yw gNum ord bs).2/\At h' n (layA 48 n (Yw gNum ord bs).1)
theorem QnU(X:AH)(q n:Nat)(ord:List Int)(hS:NSt X q ord):QA Tryz.prog 60 [.ptr q 0 0,.v (.slice none 0 0)] X (TmQ X q n ord []):=by
 have hn:=fun t'=>Qdn Tryz.prog 44 t' 48 (by kernel_rfl)
 refine Qa Tryz.func60 rfl Tryz.call60 Tryz.ntmps60 Tryz.results60 (by simp) ?_
 repeat refine Qb ?_;simp only[go_sem,seval,hn]
 obtain⟨I,hI⟩:∃I:Nat->AS->Prop,I=fun m' s=>s.tm 9 = .i 0/\s.tm 10 = .i 0/\s.h=X:=⟨_,rfl⟩;refine QD I ?_ (m:=0) ?_
 ·intro m' s hs;rw[hI]at hs;obtain⟨tm,hp⟩:=s;dsimp only at hs;obtain⟨t9,t10,rfl⟩:=hs
  have z:¬((0:Int)<0):=by omega
  repeat refine Qb ?_;simp only[go_sem,seval,t9,t10,z]
  exact .inr ⟨rfl,NumP.refl _ _ _ _,by simpa [Yw]using hS,by simp only[Yw];exact QgQ _ _⟩
 ·rw[hI]
  exact⟨rfl,rfl,rfl⟩
section
variable{Nn:Nat}(IH:∀(bs:List T),szs bs<Nn->pss bs->∀(X:AH) (q n:Nat) (ord:List Int),ord.length+ndsL bs<=1000000000->n+szs bs<=q->q+1<X.length->NSt X q ord->At X n (layA 48 n bs)->QA Tryz.prog 60 [.ptr q 0 0,lsl n bs] X (TmQ X q n ord bs))
include IH
theorem Ql2(bs:List T)(hsz:szs bs<Nn+1)(hps:pss bs)(X0:AH)(q n:Nat)(ord:List Int)(hb:ord.length+ndsL bs<=1000000000)(hq:n+szs bs<=q)(hqx:q+1<X0.length)(hS0:NSt X0 q ord)(hA0:At X0 n (layA 48 n bs)) :
  QA Tryz.prog 60 [.ptr q 0 0,lsl n bs] X0 (TmQ X0 q n ord bs):=by
 by_cases hne:bs=[]
 ·subst hne;exact QnU X0 q n ord hS0
 obtain⟨hA1,hrow0⟩:=QqI hA0 hne rfl
 have hsp:=Qc5 hne
 obtain⟨rid,hrid⟩:∃rid,rid=n+szs bs - 1:=⟨_,rfl⟩
 have hbl:bs.length<=1000000000:=by
  have:bs.length<=ndsL bs:=YZ bs
  omega
 have hl0:lsl n bs = .arr rid 0 bs.length:=by rw[lsl,QuE (by simpa using hne),hrid]
 rw[hl0]
 rw[<-hrid]at hrow0
 have hg0:∀L:AH,(X0++L)[rid]? = some (.cells 48 4 (lvs n bs)):=fun L=>hext hrow0 L
 have hlv:=Qaq n bs
 refine Qa Tryz.func60 rfl Tryz.call60 Tryz.ntmps60 Tryz.results60 (by simp) ?_
 with_reducible repeat first|refine Qd fun K E hK hE=>?_;simp only[QQ,QB,QN,OpW,aop,undef,AS.ev,QO,Xu,XL,XJ,QtM,Qt5,↓reduceIte,Nat.reduceLT,aLen,QtH,goInt,un44,hrow0]|refine Qu ?_|refine hK _ ?_;clear hK
 obtain⟨I,hI⟩:∃I:Nat->AS->Prop,I=fun m' s=>∃(j:Nat),m'=bs.length - j/\j<=bs.length/\NumP X0 s.h q n (szs bs)/\NSt s.h q (Yw gNum ord (bs.take j)).2/\At s.h n (lays 48 n .dead (Cur ord bs j))/\s.h[rid]? = some (.cells 48 4 (lvs n (Cur ord bs j))) /\
  s.tm 0 = .ptr q 0 0/\s.tm 1 = .arr rid 0 bs.length/\s.tm 8 = .arr rid 0 bs.length/\s.tm 9 = .i bs.length/\s.tm 10 = .i j:=⟨_,rfl⟩;refine QD I ?_ (m:=bs.length) ?_
 ·intro m' s hs;rw[hI]at hs;obtain⟨tm,hp⟩:=s;dsimp only at hs;obtain⟨j,rfl,hj,hP,hS,hA,hrow,t0,t1,t8,t9,t10⟩:=hs
  by_cases hlt:j<bs.length
  ·have z1:(((j:Nat):Int)<((bs.length:Nat):Int)):=by omega
   obtain⟨ec,ec',eo⟩:=Qil ord hlt
   have hup:=Qnx hlt hps
   have hpl:=hP.long
   generalize hX:hp=X at *
   have hXl:q+1<X.length:=by omega
   generalize hc1:(Yw gNum ord (bs.take j)).1=c1 at *
   have hc1l:c1.length=j:=by rw[<-hc1,QaS,QuY];omega
   have hc1s:szs c1=szs (bs.take j):=by rw[<-hc1,ZT]
   generalize hord:(Yw gNum ord (bs.take j)).2=ordj at *
   have hol:ordj.length<=1000000000:=by
    have h1:=Qdl ord (bs.take j)
    have h2:ndsL (bs.take j)<=ndsL bs:=Qng bs j
    rw[hord]at h1;omega
   have hszu:szs (bs.take j)+(bs[j].sz+1+szs (bs.drop (j+1)))=szs bs:=by
    have:=Qvq szs (Qvl j bs)
    rw[ZX,QuQ hlt,szs]at this
    exact this
   have hu1:bs[j].sz=szs bs[j].args:=T.Qta _
   have hndu:bs[j].nds<=ndsL bs:=QaL hlt
   have hcl:(lvs n (Cur ord bs j)).length=bs.length:=by rw[Qaq,ec,Quw,QtS,QuX,hc1l];omega
   have hat:(lvs n (Cur ord bs j))[j]? = some (bs[j].lv (n+szs c1)):=by
    have:=Qre n c1 (bs.drop (j+1)) bs[j]
    rw[hc1l]at this
    rw[ec];exact this
   have e1:=T.QsX (n+szs c1) bs[j]
   have e2:=T.QsZ (n+szs c1) bs[j]
   have hrL:∀L:AH,(X++L)[rid]? = some (.cells 48 4 (lvs n (Cur ord bs j))):=fun L=>hext hrow L
   have wj:IntKind.i64.wrap (((j:Nat):Int)+1)=((j+1:Nat):Int):=XM (by omega)
   by_cases hk:bs[j].kind=1
   ·have z2:(bs[j].kind != 1)=false:=by simp[hk]
    have hmv:T.mapS gNum ordj bs[j]=(.mk bs[j].kind (plc (ins ordj bs[j].int) bs[j].int:Nat) bs[j].name bs[j].args,ins ordj bs[j].int):=by rw[T.Qtm,QuH hk];rfl
    rw[hmv]at ec' eo
    obtain⟨toV,s1,s2,s3⟩:=hS
    have g1:∀L:AH,(X++L)[q]? = _:=fun L=>hext s1 L
    have g2:∀L:AH,(X++L)[q+1]? = _:=fun L=>hext s2 L
    by_cases hf:bs[j].int∈ordj
    ·rcases s3 with⟨_,rfl⟩|⟨m,rfl,hm,s3⟩
     ·cases hf
     have hmX:=Qf s3
     have g3:∀L:AH,(X++L)[m]? = _:=fun L=>hext s3 L
     have hget1:=Qnl bs[j].int ordj
     rw[QuH hf]at hget1
     have hfind:=Qfe bs[j].int (Qby ordj)
     rw[hget1]at hfind
     repeat first|(first|with_reducible (first|refine Qd fun K E hK hE=>?_|refine Qj fun K E hK hE=>?_)|refine Qi (id:=5) [(0,0),(1,0),(2,0),(3,0),(4,0),(5,0),(6,0),(7,0),(8,0),(9,0),(10,0),(11,0)] mixed (by kernel_rfl) fun K hK=>?_);simp only[XT,XF,Yj,QQ,QB,QN,OpW,aop,undef,AS.ev,QO,Q9,Xu,XL,AV.QsU,QC,Xs,QI,Xz,QtZ,Qt0,QL,QM,Qw,Qt1,Qt2,↓reduceIte,QtS,QtT,Nat.reduceAdd,Nat.reduceLT,Nat.reduceLeDiff,Nat.reduceEqDiff,QtR,Qt4,Qud,Xg,Zl,Zq,YI,XR,Xa,aBin,Q7,Qa9,X8,Yh,QtF,QtG,Qt9,QtH,QtI,Qt7,Qt6,QtQ,QtX,QtO,QtW,YX,YC,YK,Y9,Qub,Qui,Quh,QtJ,ti3,ei44,ti48,YU,Y7,zi48,ti77,mi77,Qin,QS,t0,t1,t8,t9,t10,z1,z2,hrow,hrL,hat,e1,e2,Xt,g1,g3,hfind,mapB]|with_reducible (first|refine Qq fun K hK=>?_|refine Qu ?_|refine QE ?_|refine Qg ?_|refine Qn ?_|refine hK _ ?_;clear hK|refine Qm rfl ?_;simp only[↓reduceIte,QtJ])
     refine XB.mk (m':=bs.length - (j+1)) (by omega) ?_
     rw[hI]
     have hins:ins ordj bs[j].int=ordj:=by unfold ins;rw[QuH hf]
     rw[hins]at ec' eo
     obtain⟨r1,r2,r3,r4⟩:=QjJ (Z:=X++[.cells 48 4 [T.lv (n+szs c1) bs[j]]]) hlt hrid hq (hP.app _ (by omega)) (by rw[eo];exact NSt.app ⟨_,s1,s2,.inr ⟨m,rfl,hm,s3⟩⟩ _) (hA.app _) hc1 (Qf (hrL _)) ec'
     exact⟨j+1,rfl,by omega,r1,r2,r3,r4,t0,t1,t8,t9,by rw[wj];rfl⟩
    ·have hfl:Qhr bs[j].int (Qby ordj)=none:=by rw[Qnl,QuE hf]
     have hfind:=Qfe bs[j].int (Qby ordj)
     rw[hfl]at hfind
     have hins:ins ordj bs[j].int=ordj++[bs[j].int]:=by unfold ins;rw[QuE hf]
     have hplc:plc (ordj++[bs[j].int]) bs[j].int=ordj.length:=Qgd [] hf
     rw[hins,hplc]at ec' eo
     have hrq:rid<q:=by omega
     have hqX0:q<X.length:=by omega
     have ml1:1<=maxLen:=by decide
     have ml2:ordj.length+1<=maxLen:=by unfold maxLen;omega
     have ml3:(ordj.length+1) * 8<=140737488355328:=by omega
     have nM:pv Tryz.prog (do eqGuard .eql 77 (Operand.tmp 37) (Operand.const (Value.map none)) (.map none) (.map none);binOp .eql 77 (.map none) (.map none))=some (.bool true):=by kernel_rfl
     rcases s3 with⟨rfl,e0⟩|⟨m,rfl,hm,s3⟩
     ·subst e0
      have hupd:∀v,updA (.int .i64) (.int .i64 bs[j].int) v []=some [(.int .i64 bs[j].int,v)]:=fun _=>rfl
      have a_q:∀(Y L:AH),Y.length=X.length->(Y++L)[q]? = Y[q]? := fun Y L hY=>Qux (by omega)
      have s_q:∀(Y L:AH) (y:AB),Y.length=X.length->(Y++L).set q y=Y.set q y++L:=fun Y L y hY=>QuN _ _ (by omega)
      have i_q:∀(Y:AH) (y:AB),Y.length=X.length->(Y.set q y)[q]? = some y:=fun Y y hY=>QuF (by omega)
      have n_q_p:∀(Y:AH) (y:AB),(Y.set q y)[(q+1)]? = Y[(q+1)]? := fun Y y=>Quy (by omega)
      have n_q_r:∀(Y:AH) (y:AB),(Y.set q y)[rid]? = Y[rid]? := fun Y y=>Quy (by omega)
      have a_p:∀(Y L:AH),Y.length=X.length->(Y++L)[(q+1)]? = Y[(q+1)]? := fun Y L hY=>Qux (by omega)
      have s_p:∀(Y L:AH) (y:AB),Y.length=X.length->(Y++L).set (q+1) y=Y.set (q+1) y++L:=fun Y L y hY=>QuN _ _ (by omega)
      have i_p:∀(Y:AH) (y:AB),Y.length=X.length->(Y.set (q+1) y)[(q+1)]? = some y:=fun Y y hY=>QuF (by omega)
      have n_p_q:∀(Y:AH) (y:AB),(Y.set (q+1) y)[q]? = Y[q]? := fun Y y=>Quy (by omega)
      have n_p_r:∀(Y:AH) (y:AB),(Y.set (q+1) y)[rid]? = Y[rid]? := fun Y y=>Quy (by omega)
      have a_r:∀(Y L:AH),Y.length=X.length->(Y++L)[rid]? = Y[rid]? := fun Y L hY=>Qux (by omega)
      have s_r:∀(Y L:AH) (y:AB),Y.length=X.length->(Y++L).set rid y=Y.set rid y++L:=fun Y L y hY=>QuN _ _ (by omega)
      have i_r:∀(Y:AH) (y:AB),Y.length=X.length->(Y.set rid y)[rid]? = some y:=fun Y y hY=>QuF (by omega)
      have n_r_q:∀(Y:AH) (y:AB),(Y.set rid y)[q]? = Y[q]? := fun Y y=>Quy (by omega)
      have n_r_p:∀(Y:AH) (y:AB),(Y.set rid y)[(q+1)]? = Y[(q+1)]? := fun Y y=>Quy (by omega)
      have t_0:∀(Y L:AH),Y.length=X.length->(Y++L)[X.length]? = L[0]? := fun Y L hY=>by rw[<-hY];exact X8 _ _
      have t_k:∀(Y L:AH) (k:Nat),Y.length=X.length->(Y++L)[X.length+k]? = L[k]? := fun Y L k hY=>by rw[<-hY];exact hget _ _ _
      have u_0:∀(Y L:AH) (y:AB),Y.length=X.length->(Y++L).set X.length y=Y++L.set 0 y:=fun Y L y hY=>by rw[<-hY];exact Yh _ _ _
      have u_k:∀(Y L:AH) (k:Nat) (y:AB),Y.length=X.length->(Y++L).set (X.length+k) y=Y++L.set k y:=fun Y L k y hY=>by rw[<-hY];exact hset _ _ _ _
      repeat first|(first|with_reducible (first|refine Qd fun K E hK hE=>?_|refine Qj fun K E hK hE=>?_)|refine Qi (id:=5) [(0,0),(1,0),(2,0),(3,0),(4,0),(5,0),(6,0),(7,0),(8,0),(9,0),(10,0),(11,0)] mixed (by kernel_rfl) fun K hK=>?_|refine Qi (id:=10) [(0,0),(1,0),(2,0),(3,0),(4,0),(5,0),(6,0),(7,2)] mixed (by kernel_rfl) fun K hK=>?_|refine Qh (id:=11) [(0,0),(1,0),(2,0),(3,0),(4,0),(5,0),(6,0),(7,0),(8,2),(9,0),(10,0),(11,2)] mixed (by kernel_rfl) fun K hK=>?_);simp only[XT,XF,Yj,QQ,QB,QN,OpW,aop,undef,AS.ev,QO,Q9,Xu,XA,XL,AV.QsU,QC,Xs,Xe,Xi,QI,Xz,Xf,Xj,QtZ,Qt0,QL,QM,Qw,Xc,Xh,Qt1,Qt3,↓reduceIte,QtS,QtT,Nat.reduceAdd,Nat.reduceLT,Nat.reduceLeDiff,Nat.reduceEqDiff,Nat.reduceMul,QtR,Qt4,Que,Qud,Xg,Zl,Zq,YI,XR,Xa,aBin,Q7,QF,aLen,Yo,Y6,Qa9,Qan,hlen,happ,QtF,QtG,Qt9,Qua,QtH,Quk,QtI,QtU,QtY,Qt7,Qt6,Qt8,QtQ,QtX,QtO,QtW,YX,YC,YK,Y9,goInt,Qub,QtN,Qui,Quh,Qur,QtJ,rng1,XQ,Nat.reducePow,Qs,ti3,zi3,ei44,ti48,YU,Y7,zi48,ti77,mi77,ti78,ei78,ai78,un78,Qin,Qkg,QS,t0,t1,t8,t9,t10,z1,z2,hrow,hat,e1,e2,Xt,s2,g1,nM,hupd,QuI,ml1,a_q,s_q,i_q,n_q_p,n_q_r,a_p,s_p,n_p_q,n_p_r,a_r,s_r,t_0,t_k,u_0,u_k]|with_reducible (first|refine Qq fun K hK=>?_|refine Qu ?_|refine QE ?_|refine Qg ?_|refine Qn ?_|refine hK _ ?_;clear hK|refine Qm rfl ?_;simp only[↓reduceIte,QtJ])
      refine XB.mk (m':=bs.length - (j+1)) (by omega) ?_
      rw[hI]
      rw[<-QuN _ _ (by simp only[QuI];omega)]
      have hML:(lays 48 n .dead (Cur ord bs j)).length<=szs bs:=by rw[Z9,Qjs];exact QuD _
      obtain⟨b1,b2⟩:=QkA (a:=q) hML hq (by omega) hP hA (by omega) (.cells 80 2 [.agg [.mp (X.length+1),.sl 1 (ints []) (some (q+1))]]) (.grow 3 1 1) (.cells 80 2 [.agg [.mp (X.length+1),.sl 1 (ints []++[.v (.int .i64 bs[j].int)]) (some (q+1))]]) [.cells 48 4 [T.lv (n+szs c1) bs[j]],.map [(.int .i64 bs[j].int,.v (.int .i64 0))]]
      obtain⟨r1,r2,r3,r4⟩:=QjJ hlt hrid hq b1 (by rw[eo];exact Qnj (.cells 80 2 [.agg [.mp (X.length+1),.sl 1 (ints []) (some (q+1))]]) (.cells 48 4 [T.lv (n+szs c1) bs[j]]) _ (by omega)) b2 hc1 (by simp only[Quw,QuI];omega) ec'
      exact⟨j+1,rfl,by omega,r1,r2,r3,r4,t0,t1,t8,t9,by rw[wj];rfl⟩
     ·have hmX:=Qf s3
      have g3:∀L:AH,(X++L)[m]? = _:=fun L=>hext s3 L
      have hupd:=fun v=>QkX bs[j].int v (Qby ordj) hfl
      have nn:∀L:AH,notNil Tryz.prog 77 (X++L) (.mp m) (.map none)=true:=fun L=>by
       have hu:Tryz.prog.underlying 77=some (.map 3 3):=by kernel_rfl
       simp only[notNil,hu,g3 L,mapB]
      have a_q:∀(Y L:AH),Y.length=X.length->(Y++L)[q]? = Y[q]? := fun Y L hY=>Qux (by omega)
      have s_q:∀(Y L:AH) (y:AB),Y.length=X.length->(Y++L).set q y=Y.set q y++L:=fun Y L y hY=>QuN _ _ (by omega)
      have i_q:∀(Y:AH) (y:AB),Y.length=X.length->(Y.set q y)[q]? = some y:=fun Y y hY=>QuF (by omega)
      have n_q_p:∀(Y:AH) (y:AB),(Y.set q y)[(q+1)]? = Y[(q+1)]? := fun Y y=>Quy (by omega)
      have n_q_m:∀(Y:AH) (y:AB),(Y.set q y)[m]? = Y[m]? := fun Y y=>Quy (by omega)
      have n_q_r:∀(Y:AH) (y:AB),(Y.set q y)[rid]? = Y[rid]? := fun Y y=>Quy (by omega)
      have a_p:∀(Y L:AH),Y.length=X.length->(Y++L)[(q+1)]? = Y[(q+1)]? := fun Y L hY=>Qux (by omega)
      have s_p:∀(Y L:AH) (y:AB),Y.length=X.length->(Y++L).set (q+1) y=Y.set (q+1) y++L:=fun Y L y hY=>QuN _ _ (by omega)
      have i_p:∀(Y:AH) (y:AB),Y.length=X.length->(Y.set (q+1) y)[(q+1)]? = some y:=fun Y y hY=>QuF (by omega)
      have n_p_q:∀(Y:AH) (y:AB),(Y.set (q+1) y)[q]? = Y[q]? := fun Y y=>Quy (by omega)
      have n_p_m:∀(Y:AH) (y:AB),(Y.set (q+1) y)[m]? = Y[m]? := fun Y y=>Quy (by omega)
      have n_p_r:∀(Y:AH) (y:AB),(Y.set (q+1) y)[rid]? = Y[rid]? := fun Y y=>Quy (by omega)
      have a_m:∀(Y L:AH),Y.length=X.length->(Y++L)[m]? = Y[m]? := fun Y L hY=>Qux (by omega)
      have s_m:∀(Y L:AH) (y:AB),Y.length=X.length->(Y++L).set m y=Y.set m y++L:=fun Y L y hY=>QuN _ _ (by omega)
      have i_m:∀(Y:AH) (y:AB),Y.length=X.length->(Y.set m y)[m]? = some y:=fun Y y hY=>QuF (by omega)
      have n_m_q:∀(Y:AH) (y:AB),(Y.set m y)[q]? = Y[q]? := fun Y y=>Quy (by omega)
      have n_m_p:∀(Y:AH) (y:AB),(Y.set m y)[(q+1)]? = Y[(q+1)]? := fun Y y=>Quy (by omega)
      have n_m_r:∀(Y:AH) (y:AB),(Y.set m y)[rid]? = Y[rid]? := fun Y y=>Quy (by omega)
      have a_r:∀(Y L:AH),Y.length=X.length->(Y++L)[rid]? = Y[rid]? := fun Y L hY=>Qux (by omega)
      have s_r:∀(Y L:AH) (y:AB),Y.length=X.length->(Y++L).set rid y=Y.set rid y++L:=fun Y L y hY=>QuN _ _ (by omega)
      have i_r:∀(Y:AH) (y:AB),Y.length=X.length->(Y.set rid y)[rid]? = some y:=fun Y y hY=>QuF (by omega)
      have n_r_q:∀(Y:AH) (y:AB),(Y.set rid y)[q]? = Y[q]? := fun Y y=>Quy (by omega)
      have n_r_p:∀(Y:AH) (y:AB),(Y.set rid y)[(q+1)]? = Y[(q+1)]? := fun Y y=>Quy (by omega)
      have n_r_m:∀(Y:AH) (y:AB),(Y.set rid y)[m]? = Y[m]? := fun Y y=>Quy (by omega)
      have t_0:∀(Y L:AH),Y.length=X.length->(Y++L)[X.length]? = L[0]? := fun Y L hY=>by rw[<-hY];exact X8 _ _
      have t_k:∀(Y L:AH) (k:Nat),Y.length=X.length->(Y++L)[X.length+k]? = L[k]? := fun Y L k hY=>by rw[<-hY];exact hget _ _ _
      have u_0:∀(Y L:AH) (y:AB),Y.length=X.length->(Y++L).set X.length y=Y++L.set 0 y:=fun Y L y hY=>by rw[<-hY];exact Yh _ _ _
      have u_k:∀(Y L:AH) (k:Nat) (y:AB),Y.length=X.length->(Y++L).set (X.length+k) y=Y++L.set k y:=fun Y L k y hY=>by rw[<-hY];exact hset _ _ _ _
      repeat first|(first|with_reducible (first|refine Qd fun K E hK hE=>?_|refine Qj fun K E hK hE=>?_)|refine Qi (id:=5) [(0,0),(1,0),(2,0),(3,0),(4,0),(5,0),(6,0),(7,0),(8,0),(9,0),(10,0),(11,0)] mixed (by kernel_rfl) fun K hK=>?_|refine Qi (id:=10) [(0,0),(1,0),(2,0),(3,0),(4,0),(5,0),(6,0),(7,2)] mixed (by kernel_rfl) fun K hK=>?_|refine Qh (id:=11) [(0,0),(1,0),(2,0),(3,0),(4,0),(5,0),(6,0),(7,0),(8,2),(9,0),(10,0),(11,2)] mixed (by kernel_rfl) fun K hK=>?_);simp only[XT,XF,Yj,QQ,QB,QN,OpW,aop,undef,AS.ev,QO,Q9,Xu,XA,XL,AV.QsU,QC,Xs,Xe,QI,Xz,Xf,QtZ,Qt0,QL,QM,Qw,Xc,Qt1,Qt3,↓reduceIte,QtS,QtT,Nat.reduceAdd,Nat.reduceLT,Nat.reduceLeDiff,Nat.reduceEqDiff,Nat.reduceMul,QtR,Qt4,Qud,Xg,Zl,Zq,YI,XR,Xa,aBin,Q7,QF,aLen,Yo,Y6,Qa9,Qan,QtF,QtG,Qt9,QtH,QtI,QtU,QtY,Qt7,Qt6,Qt8,QtQ,QtX,QtO,QtW,YX,YC,YK,Y9,goInt,Qub,QtN,Qui,Quh,QtJ,rng1,XQ,Nat.reducePow,Qs,ti3,zi3,ei44,ti48,YU,Y7,zi48,ti77,mi77,ti78,ei78,ai78,un78,Qin,Qkg,QS,t0,t1,t8,t9,t10,z1,z2,hrow,hat,e1,e2,Xt,s1,s2,g1,g3,hfind,mapB,hupd,nn,QuI,ml2,ml3,a_q,s_q,n_q_r,a_p,s_p,n_p_q,n_p_r,s_m,n_m_q,n_m_p,n_m_r,a_r,s_r,t_0,u_0]|with_reducible (first|refine Qq fun K hK=>?_|refine Qu ?_|refine QE ?_|refine Qg ?_|refine Qn ?_|refine hK _ ?_;clear hK|refine Qm rfl ?_;simp only[↓reduceIte,QtJ])
      refine XB.mk (m':=bs.length - (j+1)) (by omega) ?_
      rw[hI]
      rw[<-QuN _ _ (by simp only[QuI];omega)]
      have hML:(lays 48 n .dead (Cur ord bs j)).length<=szs bs:=by rw[Z9,Qjs];exact QuD _
      obtain⟨b1,b2⟩:=QkA (a:=m) hML hq (by omega) hP hA (by omega) (.map (imap (Qby ordj++[(bs[j].int,.v (.int .i64 ordj.length))]))) (.grow 3 1 (ordj.length+1)) (.cells 80 2 [.agg [.mp m,.sl 1 (ints ordj++[.v (.int .i64 bs[j].int)]) (some (q+1))]]) [.cells 48 4 [T.lv (n+szs c1) bs[j]]]
      obtain⟨r1,r2,r3,r4⟩:=QjJ hlt hrid hq b1 (by rw[eo];exact QoP (.cells 48 4 [T.lv (n+szs c1) bs[j]]) _ (by omega) hm hmX) b2 hc1 (by simp only[Quw,QuI];omega) ec'
      exact⟨j+1,rfl,by omega,r1,r2,r3,r4,t0,t1,t8,t9,by rw[wj];rfl⟩
   ·have z2:(bs[j].kind != 1)=true:=by simpa using hk
    have hm:=Qm4 (s:=ordj) hup hk
    rw[hm]at ec' eo
    have hsub:At X (n+szs c1) (layA 48 (n+szs c1) bs[j].args):=by
     have:=QqJ (by rw[ec]at hA;exact hA)
     rwa [T.Qs6]at this
    have cI:∀c:AB,QA Tryz.prog 60 [.ptr q 0 0,lsl (n+szs c1) bs[j].args] (X++[c]) fun o h'=>o = .ret (.tup [])/\∃Y:{Y:AH // TmQ (X++[c]) q (n+szs c1) ordj bs[j].args (.ret (.tup [])) Y},h'=Y.1:=fun c =>
     (IH bs[j].args (by omega) (T.QtC hup).2.2 (X++[c]) q (n+szs c1) ordj (by
      have:=T.Qs4 bs[j]
      have h1:=Qdl ord (bs.take j)
      have h2:=Qlz bs hlt
      rw[hord]at h1
      omega) (by omega) (by rw[Quw];omega) (hS.app _) (hsub.app _)).mono fun o h' q=>by
       obtain⟨rfl,q2⟩:=q
       exact⟨rfl,⟨h',rfl,q2⟩,rfl⟩
    with_reducible repeat first|(first|refine Qd fun K E hK hE=>?_|refine Qj fun K E hK hE=>?_|refine FunW.retE (FunW.call (cI _)) fun Y=>?_);simp only[QQ,QB,QN,OpW,YH,aop,undef,AS.ev,QO,Q9,Xu,XL,AV.QsU,QC,QI,QtZ,Qt0,QL,QM,Qw,Qt1,↓reduceIte,QtS,QtT,Nat.reduceAdd,Nat.reduceLT,Nat.reduceEqDiff,QtR,Qt4,Qud,Xg,Zl,Zq,YI,XR,Xa,aBin,X8,Yh,QtF,QtG,Qt9,QtH,QtU,QtY,YX,YC,YK,Qub,Qui,Quh,ti3,ti44,ei44,ti48,YU,Zj,zi48,t0,t8,t9,t10,z1,z2,hrow,hat,e1,e2,Xt]|refine Qq fun K hK=>?_|refine Qu ?_|refine QE ?_|refine Xb ?_|refine Qg ?_|refine QK ?_|refine QJ ?_|refine hK _ ?_;clear hK|clear hK;refine hK _ ?_;clear hK|refine Qm rfl ?_;simp only[↓reduceIte]
    obtain⟨Y,hY⟩:=Y
    obtain⟨_,y1,y2,y3⟩:=hY
    with_reducible repeat refine Qd fun K E hK hE=>?_;simp only[XT,XF,Yj,QQ,QB,QN,OpW,YH,aop,undef,XU,Qul,Qum,X3,Xq,XD,AS.ev,QO,Q9,Xu,Xk,XC,QR,XA,Qz,Qy,Qt,XE,XL,XJ,QtM,Qt5,AV.QsU,QC,Xs,Xe,Q1,Q2,QY,Xi,Xo,QZ,QI,Xz,Xf,Q5,Q6,Q3,Xj,Xr,Q4,QtZ,Qt0,QL,QH,QM,Qw,QV,Qp,Qo,Qk,Xc,QW,QX,QT,Xh,Xn,QU,Qt1,Quo,Qup,Qt2,Qt3,↓reduceIte,QtS,QtT,Nat.reduceAdd,Nat.reduceLT,Nat.reduceLeDiff,Nat.reduceEqDiff,Nat.reduceSub,Nat.reduceMul,QtR,Qt4,Que,Quf,Qud,Ql,Qr,Xg,Zl,Zq,YI,XR,Xa,aBin,Q7,ZI,QF,aLen,Yo,Y6,Qa9,Qan,X8,hget,Yh,hset,hlen,happ,QtF,QtG,Quv,Qt9,Qua,QtH,Quk,QtK,Quj,QtL,Qug,QtI,QtU,QtY,Qt7,Qt6,Qt8,QtQ,QtX,QtO,QtW,ZG,YX,YC,YK,Y9,Yx,YF,YE,goInt,Qub,Quc,QtN,Quq,Qui,Int.toNat_zero,Int.toNat_one,Quh,Qut,Quu,Qur,QtJ,Qun,beq_true,beq_false,rng0,rng1,rng2,rng3,rng4,rng5,rng6,rng7,rng8,XQ,Nat.reducePow,QuG,QuT,T.QsS,T.QsT,QG,Qs,ti0,zi0,ti3,zi3,un3,ti4,zi4,un4,ti44,ei44,ai44,zi44,un44,ti48,YU,Y7,Zs,Zj,zi48,sp48,ti77,zi77,mi77,un77,ti78,ei78,ai78,zi78,un78,ti80,Qin,Qkg,zi80,sp80,QrA,QrF,QrD,QrB,Qus,Int.sub_zero,YG,QS,t10,wj]
    have hP2:NumP X Y q (n+szs c1) (szs bs[j].args):=⟨by have:=y1.long;rw[Quw]at this;omega,fun i hi hn=>by rw[y1.out i hi hn,Qux (by omega)]⟩
    refine XB.mk (m':=bs.length - (j+1)) (by omega) ?_
    rw[hI]
    refine⟨j+1,rfl,by omega,hP.trans hP2 (by omega) (by omega),by rw[eo];exact y2,?_,?_,t0,t1,t8,t9,by rw[wj];rfl⟩
    ·rw[ec']
     refine Qp1 (u:=bs[j]) (by rw[<-ec];exact hA) ?_ (by rw[T.Qs6];exact y3) fun i h1 h2 h3=>hP2.out i ?_ (by rw[<-hu1];exact h3)
     ·rw[T.Qta,T.Qta bs[j]];exact ZT _ _ _
     ·rw[ZX,szs]at h2;omega
    ·rw[ec',QoF (u:=bs[j]) (fun k=>by rw[T.Qtf,T.Qtf];exact Qvq _ (by simp only[T.args,T.kind,T.int,T.name,Qfw])) (by rw[T.Qta,T.Qta bs[j]];exact ZT _ _ _),<-ec,<-hrow]
     exact hP2.out rid (by omega) (by omega)
  ·have hjl:j=bs.length:=by omega
   have z1:¬(((j:Nat):Int)<((bs.length:Nat):Int)):=by omega
   with_reducible repeat first|refine Qd fun K E hK hE=>?_;simp only[QQ,QB,QN,OpW,aop,AS.ev,QO,Nat.reduceLT,aBin,QtH,YC,Quc,t9,t10,z1]|refine Qq fun K hK=>?_|refine Xb ?_|refine QK ?_|refine QJ ?_|refine hK _ ?_;clear hK|refine Qm rfl ?_;simp only[↓reduceIte,QtJ]
   simp only[QtH,QtL,List.mapM_nil,Option.pure_def,QtH,Qbm,Zr,QtP]
   subst hjl
   have hcur:Cur ord bs bs.length=(Yw gNum ord bs).1:=by rw[Cur,QuA,Qvb,Qt8]
   rw[QuA]at hS
   rw[hcur]at hA hrow
   refine .inr ⟨rfl,hP,hS,?_⟩
   have hne2:(Yw gNum ord bs).1≠[]:=fun e=>hne (Qwi (by rw[<-QaS gNum ord bs,e];rfl))
   exact Qry hA hne2 (by rw[ZT,<-hrid];exact hrow)
 ·rw[hI]
  have hcur:Cur ord bs 0=bs:=by simp[Cur,Yw]
  exact⟨0,rfl,QuG _,NumP.refl _ _ _ _,by simpa [Yw]using hS0,by rw[hcur];exact hA1,by rw[hcur];exact hrow0,rfl,rfl,rfl,rfl,rfl⟩
end
theorem Qea:∀(N:Nat) (bs:List T),szs bs<N->pss bs->∀(X:AH) (q n:Nat) (ord:List Int),ord.length+ndsL bs<=1000000000->n+szs bs<=q->q+1<X.length->NSt X q ord->At X n (layA 48 n bs)->QA Tryz.prog 60 [.ptr q 0 0,lsl n bs] X (TmQ X q n ord bs)
 |0,bs,h=>(Nat.not_lt_zero _ h).elim
 |N+1,bs,h=>fun hp X q n ord h1 h2 h3 h4 h5=>Ql2 (Qea N) bs h hp X q n ord h1 h2 h3 h4 h5
end Go.Proofs.YticgcpebdldbgaaGreatDoor.Ab
namespace Go.Proofs.YticgcpebdldbgaaGreatDoor.Ab
open Go.Proofs
theorem Qlu{X σ:Type}(g:σ->X->X×σ)(s:σ){l:List X}{k:Nat}(h:k<l.length) :
  (Ym g s (l.take (k+1))).1=(Ym g s (l.take k)).1++[(g (Ym g s (l.take k)).2 l[k]).1]/\(Ym g s (l.take (k+1))).2=(g (Ym g s (l.take k)).2 l[k]).2:=by
 rw[Qu4 h,Qej]
 exact⟨by simp[Ym],by simp[Ym]⟩
def gG(s:List Int)(g:G):G×List Int:=(⟨g.op,g.name,(Yw gNum s g.args).1⟩,(Yw gNum s g.args).2)
def ndG:List G->Nat
 |[]=>0
 |g::l=>ndsL g.args+ndG l
theorem QgP:∀a b:List G,ndG (a++b)=ndG a+ndG b
 |[],b=>by simp[ndG]
 |t::a,b=>by rw[Qt7,ndG,ndG,QgP a b];omega
theorem QiI(l:List G){j:Nat}(h:j<l.length):ndG (l.take j)+ndsL l[j].args<=ndG l:=by
 have:=Qvq ndG (Qvl j l)
 rw[QgP,QuQ h,ndG]at this
 omega
theorem QbQ:∀(s:List Int) (l:List G),(Ym gG s l).2.length<=s.length+ndG l
 |s,[]=>by simp[Ym]
 |s,g::l=>by
  have h1:=Qdl s g.args
  have h2:=QbQ (gG s g).2 l
  simp only[Ym,ndG]
  show _<=_
  have h3:(gG s g).2=(Yw gNum s g.args).2:=rfl
  rw[h3]at h2 ⊢
  omega
theorem ZH:∀(s:List Int) (l:List G),gsz (Ym gG s l).1=gsz l
 |s,[]=>rfl
 |s,g::l=>by
  simp only[Ym,gsz,ZH _ l]
  rw[show(gG s g).1.args=(Yw gNum s g.args).1 from rfl,ZT]
def CurG(ord:List Int)(bs:List G)(j:Nat):List G:=(Ym gG ord (bs.take j)).1++bs.drop j
theorem QgB(ord:List Int){bs:List G}{j:Nat}(hj:j<bs.length):CurG ord bs j=(Ym gG ord (bs.take j)).1++bs[j]::bs.drop (j+1) /\
  CurG ord bs (j+1)=(Ym gG ord (bs.take j)).1++(gG (Ym gG ord (bs.take j)).2 bs[j]).1::bs.drop (j+1)/\(Ym gG ord (bs.take (j+1))).2=(gG (Ym gG ord (bs.take j)).2 bs[j]).2:=by
 obtain⟨h1,h2⟩:=Qlu gG ord hj
 refine⟨by rw[CurG,QuQ hj],?_,h2⟩
 rw[CurG,h1,Quz];rfl
theorem Qhs(tt:TypeId):∀(n:Nat) (l:List G) (g:G) (m:List G),layG tt n (l++g::m)=layG tt n l++(.dead::(layA tt (n+gsz l+1) g.args++(.dead::layG tt (n+gsz l+szs g.args+2) m)))
 |n,[],g,m=>by simp[layG,gsz]
 |n,a::l,g,m=>by
  rw[Qt7,layG,layG,Qhs tt _ l g m,gsz]
  rw[show n+szs a.args+2+gsz l=n+(szs a.args+2+gsz l) by omega]
  simp only[Qt7,Quz]
theorem Qm2(vw:Nat->G->AV):∀(n:Nat) (l:List G) {j:Nat} (h:j<l.length),(lvG vw n l)[j]? = some (vw (n+gsz (l.take j)+1) l[j])
 |n,g::l,0,h=>by simp[lvG,gsz]
 |n,g::l,j+1,h=>by
  rw[lvG,QtG,Qm2 vw _ l (by simpa using h),List.take_succ_cons,gsz,List.getElem_cons_succ]
  rw[show n+szs g.args+2+gsz (l.take j)=n+(szs g.args+2+gsz (l.take j)) by omega]
theorem At.keep{X Y:AH}{n:Nat}{L:AH}(h:At X n L)(hk:∀i,n<=i->i<n+L.length->Y[i]? = X[i]?):At Y n L:=fun j b hb hl=>by
 rw[hk _ (by omega) (by have:=Qf hb;omega)];exact h j b hb hl
theorem at_g{X:AH}{tt:TypeId}{n:Nat}{l m:List G}{g:G}(h:At X n (layG tt n (l++g::m))):At X (n+gsz l+1) (layA tt (n+gsz l+1) g.args):=by
 rw[Qhs]at h
 have h1:=h.right (m:=n+gsz l) (by rw[Xd])
 exact(At.right (L:=[.dead]) h1 rfl).left
theorem Qmn{X Y:AH}{tt:TypeId}{n:Nat}{l m:List G}{g g':G}(h:At X n (layG tt n (l++g::m)))(hs:szs g'.args=szs g.args)(hg:At Y (n+gsz l+1) (layA tt (n+gsz l+1) g'.args))
  (hout:∀i,n<=i->i<n+gsz (l++g::m)->¬(n+gsz l+1<=i/\i<n+gsz l+1+szs g.args)->Y[i]? = X[i]?):At Y n (layG tt n (l++g'::m)):=by
 have hz:gsz (l++g::m)=gsz l+(szs g.args+2+gsz m):=by rw[Qap,gsz]
 rw[Qhs]at h ⊢
 have h1:=h.right (m:=n+gsz l) (by rw[Xd])
 have h0:At X (n+gsz l+1) (layA tt (n+gsz l+1) g.args++(.dead::layG tt (n+gsz l+szs g.args+2) m)):=At.right (L:=[.dead]) h1 rfl
 have h2:=h0.right (m:=n+gsz l+1+szs g.args) (by rw[Zi])
 have h3:At X (n+gsz l+1+szs g.args+1) (layG tt (n+gsz l+szs g.args+2) m):=At.right (L:=[.dead]) (M:=layG tt (n+gsz l+szs g.args+2) m) h2 rfl
 refine At.both (h.left.keep fun i h1 h2=>hout i h1 (by rw[Xd]at h2;omega) (by rw[Xd]at h2;omega)) ?_
 rw[Xd]
 refine At.cons (fun e=>by cases e) (At.both hg ?_)
 rw[Zi,hs]
 refine At.cons (fun e=>by cases e) (h3.keep fun i h1 h2=>hout i (by omega) (by rw[Xd]at h2;omega) (by omega))
def GnQ(X:AH)(q n:Nat)(ord:List Int)(l:List G)(o:AOut)(h':AH):Prop:=o = .ret (.tup [])/\NumP X h' q n (gsz l)/\NSt h' q (Ym gG ord l).2/\At h' n (layG 48 n (Ym gG ord l).1)
theorem Qgc(l:List G)(own:Option Nat)(hps:∀g∈l,pss g.args)(X0:AH)(q n:Nat)(ord:List Int)(hbl:l.length<=1000000000)(hb:ord.length+ndG l<=1000000000)(hq:n+gsz l<=q)(hqx:q+1<X0.length)(hS0:NSt X0 q ord)(hA0:At X0 n (layG 48 n l)) :
  QA Tryz.prog 31 [.ptr q 0 0,.sl 3 (lvG gv n l) own] X0 (GnQ X0 q n ord l):=by
 have hlv:=ZM gv n l
 refine Qa Tryz.func31 rfl Tryz.call31 Tryz.ntmps31 Tryz.results31 (by simp) ?_
 repeat refine Qb ?_;simp only[go_sem,seval,hlv]
 obtain⟨I,hI⟩:∃I:Nat->AS->Prop,I=fun m' s=>∃(j:Nat),m'=l.length - j/\j<=l.length/\NumP X0 s.h q n (gsz l)/\NSt s.h q (Ym gG ord (l.take j)).2/\At s.h n (layG 48 n (CurG ord l j)) /\
  s.tm 0 = .ptr q 0 0/\s.tm 6 = .sl 3 (lvG gv n l) own/\s.tm 7 = .i l.length/\s.tm 8 = .i j:=⟨_,rfl⟩;refine QD I ?_ (m:=l.length) ?_
 ·intro m' s hs;rw[hI]at hs;obtain⟨tm,hp⟩:=s;dsimp only at hs;obtain⟨j,rfl,hj,hP,hS,hA,t0,t6,t7,t8⟩:=hs
  by_cases hlt:j<l.length
  ·have z1:(((j:Nat):Int)<((l.length:Nat):Int)):=by omega
   obtain⟨ec,ec',eo⟩:=QgB ord hlt
   have hpl:=hP.long
   generalize hX:hp=X at *
   generalize hc1:(Ym gG ord (l.take j)).1=c1 at *
   have hc1s:gsz c1=gsz (l.take j):=by rw[<-hc1,ZH]
   generalize hord:(Ym gG ord (l.take j)).2=ordj at *
   have hol:ordj.length+ndsL l[j].args<=1000000000:=by
    have h1:=QbQ ord (l.take j)
    have h2:=QiI l hlt
    rw[hord]at h1;omega
   have hszu:gsz (l.take j)+(szs l[j].args+2+gsz (l.drop (j+1)))=gsz l:=by
    have:=Qvq gsz (Qvl j l)
    rw[Qap,QuQ hlt,gsz]at this
    exact this
   have hat:(lvG gv n l)[j]? = some (gv (n+gsz c1+1) l[j]):=by rw[Qm2 _ _ _ hlt,hc1s]
   have e1:(gv (n+gsz c1+1) l[j]).cells=[.i l[j].op,.v (.string l[j].name),lsl (n+gsz c1+1) l[j].args]:=rfl
   have e2:(gv (n+gsz c1+1) l[j]).isAgg=true:=rfl
   have wj:IntKind.i64.wrap (((j:Nat):Int)+1)=((j+1:Nat):Int):=XM (by omega)
   have hsub:At X (n+gsz c1+1) (layA 48 (n+gsz c1+1) l[j].args):=at_g (by rw[<-ec];exact hA)
   have cI:∀c:AB,QA Tryz.prog 60 [.ptr q 0 0,lsl (n+gsz c1+1) l[j].args] (X++[c]) fun o h'=>o = .ret (.tup [])/\∃Y:{Y:AH // TmQ (X++[c]) q (n+gsz c1+1) ordj l[j].args (.ret (.tup [])) Y},h'=Y.1:=fun c =>
    (Qea (szs l[j].args+1) l[j].args (by omega) (hps _ (Qvk hlt)) (X++[c]) q (n+gsz c1+1) ordj hol (by omega) (by rw[Quw];omega) (hS.app _) (hsub.app _)).mono fun o h' q=>by
      obtain⟨rfl,q2⟩:=q
      exact⟨rfl,⟨h',rfl,q2⟩,rfl⟩
   repeat (first|refine FunW.retE (FunW.call (cI _)) fun Y=>?_|refine Qb ?_);simp only[go_sem,seval,t0,t6,t7,t8,z1,hat,hlv,e1,e2,Xt]
   obtain⟨Y,hY⟩:=Y
   obtain⟨_,y1,y2,y3⟩:=hY
   repeat refine Qb ?_;simp only[go_sem,seval,t8,wj]
   have hP2:NumP X Y q (n+gsz c1+1) (szs l[j].args):=⟨by have:=y1.long;rw[Quw]at this;omega,fun i hi hn=>by rw[y1.out i hi hn,Qux (by omega)]⟩
   refine XB.mk (m':=l.length - (j+1)) (by omega) ?_
   rw[hI]
   refine⟨j+1,rfl,by omega,hP.trans hP2 (by omega) (by omega),by rw[eo];exact y2,?_,t0,t6,t7,by rw[wj];rfl⟩
   rw[ec']
   refine Qmn (g:=l[j]) (by rw[<-ec];exact hA) (ZT _ _ _) y3 fun i h1 h2 h3=>hP2.out i ?_ h3
   rw[Qap,gsz]at h2;omega
  ·have hjl:j=l.length:=by omega
   have z1:¬(((j:Nat):Int)<((l.length:Nat):Int)):=by omega
   repeat refine Qb ?_;simp only[go_sem,seval,t7,t8,z1]
   subst hjl
   have hcur:CurG ord l l.length=(Ym gG ord l).1:=by rw[CurG,QuA,Qvb,Qt8]
   rw[QuA]at hS
   rw[hcur]at hA
   exact .inr ⟨rfl,hP,hS,hA⟩
 ·rw[hI]
  have hcur:CurG ord l 0=l:=by simp[CurG,Ym]
  exact⟨0,rfl,QuG _,NumP.refl _ _ _ _,by simpa [Ym]using hS0,by rw[hcur];exact hA0,rfl,rfl,rfl,rfl⟩
theorem Qgb(l:List G)(own:Option Nat)(hps:∀g∈l,pss g.args)(X0:AH)(q n:Nat)(ord:List Int)(hbl:l.length<=1000000000)(hb:ord.length+ndG l<=1000000000)(hq:n+gsz l<=q)(hqx:q+1<X0.length)(hS0:NSt X0 q ord)(hA0:At X0 n (layG 48 n l)) :
  QA Tryz.prog 50 [.ptr q 0 0,.sl 2 (lvG av n l) own] X0 (GnQ X0 q n ord l):=by
 have hlv:=ZM av n l
 refine Qa Tryz.func50 rfl Tryz.call50 Tryz.ntmps50 Tryz.results50 (by simp) ?_
 repeat refine Qb ?_;simp only[go_sem,seval,hlv]
 obtain⟨I,hI⟩:∃I:Nat->AS->Prop,I=fun m' s=>∃(j:Nat),m'=l.length - j/\j<=l.length/\NumP X0 s.h q n (gsz l)/\NSt s.h q (Ym gG ord (l.take j)).2/\At s.h n (layG 48 n (CurG ord l j)) /\
  s.tm 0 = .ptr q 0 0/\s.tm 6 = .sl 2 (lvG av n l) own/\s.tm 7 = .i l.length/\s.tm 8 = .i j:=⟨_,rfl⟩;refine QD I ?_ (m:=l.length) ?_
 ·intro m' s hs;rw[hI]at hs;obtain⟨tm,hp⟩:=s;dsimp only at hs;obtain⟨j,rfl,hj,hP,hS,hA,t0,t6,t7,t8⟩:=hs
  by_cases hlt:j<l.length
  ·have z1:(((j:Nat):Int)<((l.length:Nat):Int)):=by omega
   obtain⟨ec,ec',eo⟩:=QgB ord hlt
   have hpl:=hP.long
   generalize hX:hp=X at *
   generalize hc1:(Ym gG ord (l.take j)).1=c1 at *
   have hc1s:gsz c1=gsz (l.take j):=by rw[<-hc1,ZH]
   generalize hord:(Ym gG ord (l.take j)).2=ordj at *
   have hol:ordj.length+ndsL l[j].args<=1000000000:=by
    have h1:=QbQ ord (l.take j)
    have h2:=QiI l hlt
    rw[hord]at h1;omega
   have hszu:gsz (l.take j)+(szs l[j].args+2+gsz (l.drop (j+1)))=gsz l:=by
    have:=Qvq gsz (Qvl j l)
    rw[Qap,QuQ hlt,gsz]at this
    exact this
   have hat:(lvG av n l)[j]? = some (av (n+gsz c1+1) l[j]):=by rw[Qm2 _ _ _ hlt,hc1s]
   have e1:(av (n+gsz c1+1) l[j]).cells=[.v (.string l[j].name),lsl (n+gsz c1+1) l[j].args]:=rfl
   have e2:(av (n+gsz c1+1) l[j]).isAgg=true:=rfl
   have wj:IntKind.i64.wrap (((j:Nat):Int)+1)=((j+1:Nat):Int):=XM (by omega)
   have hsub:At X (n+gsz c1+1) (layA 48 (n+gsz c1+1) l[j].args):=at_g (by rw[<-ec];exact hA)
   have cI:∀c:AB,QA Tryz.prog 60 [.ptr q 0 0,lsl (n+gsz c1+1) l[j].args] (X++[c]) fun o h'=>o = .ret (.tup [])/\∃Y:{Y:AH // TmQ (X++[c]) q (n+gsz c1+1) ordj l[j].args (.ret (.tup [])) Y},h'=Y.1:=fun c =>
    (Qea (szs l[j].args+1) l[j].args (by omega) (hps _ (Qvk hlt)) (X++[c]) q (n+gsz c1+1) ordj hol (by omega) (by rw[Quw];omega) (hS.app _) (hsub.app _)).mono fun o h' q=>by
      obtain⟨rfl,q2⟩:=q
      exact⟨rfl,⟨h',rfl,q2⟩,rfl⟩
   repeat (first|refine FunW.retE (FunW.call (cI _)) fun Y=>?_|refine Qb ?_);simp only[go_sem,seval,t0,t6,t7,t8,z1,hat,hlv,e1,e2,Xt]
   obtain⟨Y,hY⟩:=Y
   obtain⟨_,y1,y2,y3⟩:=hY
   repeat refine Qb ?_;simp only[go_sem,seval,t8,wj]
   have hP2:NumP X Y q (n+gsz c1+1) (szs l[j].args):=⟨by have:=y1.long;rw[Quw]at this;omega,fun i hi hn=>by rw[y1.out i hi hn,Qux (by omega)]⟩
   refine XB.mk (m':=l.length - (j+1)) (by omega) ?_
   rw[hI]
   refine⟨j+1,rfl,by omega,hP.trans hP2 (by omega) (by omega),by rw[eo];exact y2,?_,t0,t6,t7,by rw[wj];rfl⟩
   rw[ec']
   refine Qmn (g:=l[j]) (by rw[<-ec];exact hA) (ZT _ _ _) y3 fun i h1 h2 h3=>hP2.out i ?_ h3
   rw[Qap,gsz]at h2;omega
  ·have hjl:j=l.length:=by omega
   have z1:¬(((j:Nat):Int)<((l.length:Nat):Int)):=by omega
   repeat refine Qb ?_;simp only[go_sem,seval,t7,t8,z1]
   subst hjl
   have hcur:CurG ord l l.length=(Ym gG ord l).1:=by rw[CurG,QuA,Qvb,Qt8]
   rw[QuA]at hS
   rw[hcur]at hA
   exact .inr ⟨rfl,hP,hS,hA⟩
 ·rw[hI]
  have hcur:CurG ord l 0=l:=by simp[CurG,Ym]
  exact⟨0,rfl,QuG _,NumP.refl _ _ _ _,by simpa [Ym]using hS0,by rw[hcur];exact hA0,rfl,rfl,rfl,rfl⟩
theorem QrE{c:Cx}(hst:St c){id ty n:Nat}{xs xs':List AV}{j:Nat}{v w:AV}(hb:c.h[id]? = some (.cells ty n xs))(hj:(flat xs)[j]? = some v)(hf:flat xs'=(flat xs).set j w)(hw:Wk v w)(hc:∀x∈xs',x.cells.length=n) :
  ∃c2,Ev c c2/\St c2/\c2.h=c.h.set id (AB.cells ty n xs')/\c2.w=c.w:=by
 obtain⟨B,cur,hρ,hcur,h3,h4⟩:=hst.blocks id _ hb
 have hev2:=Ev.turn (b':=.cells ty n xs') hst hb rfl hρ (w:=c.w) rfl rfl rfl rfl (fun _ _=>rfl) (.inr ⟨_,rfl,rfl,fun _ cur _ h=>⟨cur,h,rfl⟩⟩)
 have hst2:=St.turn (b':=.cells ty n xs') hst hb rfl hρ (w:=c.w) (fun _ _=>rfl) hev2 ⟨B,cur,hρ,hcur,hc,by
  intro i a' hi
  rw[hf]at hi
  by_cases e:j=i
  ·subst e
   rw[QuF (Qf hj)]at hi
   cases hi
   obtain⟨u,g1,g2,g3⟩:=h4 j _ hj
   exact⟨_,g1,g2,(hw _ _ g3).ev hst hev2⟩
  ·rw[Quy e]at hi
   obtain⟨u,g1,g2,g3⟩:=h4 i _ hi
   exact⟨u,g1,g2,g3.ev hst hev2⟩⟩
 exact⟨_,hev2,hst2,rfl,rfl⟩
theorem Qcf{P:Program}{N:Nat}{code:Code}{Q:AExit->AS->Prop}{tm:Nat->AV}{h:AH}(id ty n:Nat)(xs xs':List AV)(j:Nat){v w:AV}(hw:Wk v w)(hb:h[id]? = some (.cells ty n xs))
  (hj:(flat xs)[j]? = some v) (hf:flat xs'=(flat xs).set j w) (hc:∀x∈xs',x.cells.length=n)
  (H:Yr P N code Q ⟨tm,h.set id (AB.cells ty n xs')⟩):Yr P N code Q ⟨tm,h⟩:=by
 intro F m base c a hF hst hr R hR
 have hh:c.h=h:=hr.h
 subst hh
 obtain⟨c2,hev,hst2,hh2,hw2⟩:=QrE hst hb hj hf hw hc
 rw[<-hw2]
 exact H F m base c2 a hF hst2 ⟨hh2,hr.size,Qu1 hr.above hev.size,hr.defers.ev hev,RoundOk.ev hev hr.round,fun t=>(hr.tm t).ev hst hev⟩ R fun e' s' c' a' ex hq h1 h2 h3 h4=>hR e' s' c' a' ex hq (Ev.trans hst hev h1) h2 h3 h4
def Pz.to(P:Pz)(n:Nat):Pz:=⟨P.all,P.i,P.j,n⟩
def pN(P:Pz)(s:PS)(own:Option Nat):AB:=.cells 61 4 [.agg [.sl 3 (tks P.all) none,.i ((P.all.length - s.toks.length:Nat):Int),.sl 1 (strs s.names) own,.mp P.j]]
structure PIn (P:Pz) (X:AH) (s:PS) (own:Option Nat) (m:List (ByteArray×AV)):Prop where
 i:X[P.i]? = some (pN P s own)
 j:X[P.j]? = some (.map (smap m))
theorem PIn.ok{P:Pz}{X:AH}{s:PS}{own:Option Nat}{m:List (ByteArray×AV)}(H:PIn P X s own m)(L:AH)(x:AB):(P.to X.length).ok (X++(x::L)):=by
 have h1:=Qf H.i
 have h2:=Qf H.j
 refine⟨by rw[Quw];simp only[Pz.to];omega,by rw[Quw];simp only[Pz.to];omega,by rw[Quw,QtS];simp only[Pz.to];omega,?_,?_,?_⟩
 ·intro e
  simp only[Pz.to]at e
  have h3:=H.i
  rw[e,H.j]at h3
  cases h3
 ·simp only[Pz.to];omega
 ·simp only[Pz.to];omega
theorem Qld{X:AH}{P:Pz}{s:PS}{own:Option Nat}{m:List (ByteArray×AV)}(H:PIn P X s own m):QA Tryz.prog 41 [.ptr P.i 0 0] X fun o h'=>o = .ret (.tup [])/\h'=ph (X++[.dead]) (P.to X.length) ⟨s.toks,[]⟩:=by
 have hi:=H.i
 have hj:=H.j
 have h1:=Qf hi
 have h2:=Qf hj
 have h3:P.i≠P.j:=(H.ok [] .dead).ij
 rw[pN]at hi
 have a1:∀(y:AB),(X.set P.i y)[P.i]? = some y:=fun y=>QuF (by omega)
 refine Qa Tryz.func41 rfl Tryz.call41 Tryz.ntmps41 Tryz.results41 (by simp) ?_
 iterate 3 (try (first|(((refine Qd fun K E hK hE=>?_));simp only[go_sem,seval,hi])|(refine Qq fun K hK=>?_)|((with_reducible refine hK _ ?_);clear hK)))
 refine YY P.i 61 4 1 (.grow 9 1 0) (.inr ⟨_,rfl⟩) [.agg [.sl 3 (tks P.all) none,.i ((P.all.length - s.toks.length:Nat):Int),.v (.slice none 0 0),.mp P.j]] [.agg [.sl 3 (tks P.all) none,.i ((P.all.length - s.toks.length:Nat):Int),.sl 1 [] (some X.length),.mp P.j]] 2 (a1 _) rfl (by simp[flat,AV.cells]) (by simp[AV.cells]) ?_
 rw[QuN _ _ (by rw[QuI];omega),Qwf]
 generalize hB:AB.cells 61 4 [.agg [.sl 3 (tks P.all) none,.i ((P.all.length - s.toks.length:Nat):Int),.sl 1 [] (some X.length),.mp P.j]]=B at *
 have b1:(X.set P.i B++[.grow 9 1 0])[P.i]? = some (AB.cells 61 4 [.agg [.sl 3 (tks P.all) none,.i ((P.all.length - s.toks.length:Nat):Int),.sl 1 [] (some X.length),.mp P.j]]):=by rw[Qux (by rw[QuI];omega),a1,hB]
 have b2:(X.set P.i B++[.grow 9 1 0])[P.j]? = some (.map (smap m)):=by rw[Qux (by rw[QuI];omega),Quy h3];exact hj
 have nn:notNil Tryz.prog 59 (X.set P.i B++[.grow 9 1 0]) (.mp P.j) (.map none)=true:=by
  have hu:Tryz.prog.underlying 59=some (.map 9 3):=by kernel_rfl
  simp only[notNil,hu,b2]
 repeat first|refine Qb ?_;simp only[go_sem,seval,Qh3,b1,b2,nn]|refine hK _ ?_;clear hK
 refine .inr ⟨rfl,?_⟩
 rw[QuN _ _ (by rw[QuI];omega)]
 unfold ph
 rw[QuN _ _ (by simp only[Pz.to];omega),QuN _ _ (by simp only[Pz.to,QuI];omega),Qva _ _ (by simp only[Pz.to,QuI];omega),<-hB]
 simp only[Pz.to,QuI,Qu9]
 rfl
theorem Qjq{X:AH}{P:Pz}{s:PS}(hi:X[P.i]? = some (.cells 61 4 [.agg [.sl 3 (tks P.all) none,.i ((P.all.length - s.toks.length:Nat):Int),.v (.slice none 0 0),.v (.map none)]]))(hj:P.j=X.length+1) :
  QA Tryz.prog 41 [.ptr P.i 0 0] X fun o h'=>o = .ret (.tup [])/\h'=ph (X++[.dead,.dead]) (P.to X.length) ⟨s.toks,[]⟩:=by
 have h1:=Qf hi
 have a1:∀(y:AB),(X.set P.i y)[P.i]? = some y:=fun y=>QuF (by omega)
 have nM:pv Tryz.prog (do eqGuard .eql 59 (Operand.tmp 8) (Operand.const (Value.map none)) (.map none) (.map none);binOp .eql 59 (.map none) (.map none))=some (.bool true):=by kernel_rfl
 refine Qa Tryz.func41 rfl Tryz.call41 Tryz.ntmps41 Tryz.results41 (by simp) ?_
 iterate 3 (try (first|(((with_reducible refine Qd fun K E hK hE=>?_));simp only[QQ,QB,QN,OpW,aop,undef,AS.ev,QO,Q9,QR,XL,XJ,QtM,AV.QsU,QC,Xs,QI,Xz,QtZ,Qt0,Qw,Qt1,↓reduceIte,QtS,QtT,Nat.reduceAdd,Nat.reduceLT,Nat.reduceLeDiff,Nat.reduceEqDiff,QtR,Qud,Xg,YI,XR,QtF,Qt9,QtH,Qt7,Qt6,QtQ,QtX,QtO,QtW,QtJ,ti33,Qpw,QS,hi])|(with_reducible refine Qq fun K hK=>?_)|((with_reducible refine hK _ ?_);clear hK)))
 refine YY P.i 61 4 1 (.grow 9 1 0) (.inr ⟨_,rfl⟩) [.agg [.sl 3 (tks P.all) none,.i ((P.all.length - s.toks.length:Nat):Int),.v (.slice none 0 0),.v (.map none)]] [.agg [.sl 3 (tks P.all) none,.i ((P.all.length - s.toks.length:Nat):Int),.sl 1 [] (some X.length),.v (.map none)]] 2 (a1 _) rfl (by simp[flat,AV.cells]) (by simp[AV.cells]) ?_
 rw[QuN _ _ (by rw[QuI];omega),Qwf]
 have b1:∀(B:AB) (L:AH),(X.set P.i B++L)[P.i]? = some B:=fun B L=>by rw[Qux (by rw[QuI];omega),a1]
 have b2:∀(B C:AB) (L:AH),(X.set P.i B++L).set P.i C=X.set P.i C++L:=fun B C L=>by rw[QuN _ _ (by rw[QuI];omega),Qwf]
 have b3:∀(B:AB) (L:AH) (k:Nat),(X.set P.i B++L)[X.length+k]? = L[k]? := fun B L k=>by rw[QuB (by rw[QuI];omega),QuI];congr 1;omega
 have b4:∀(B C:AB) (L:AH) (k:Nat),(X.set P.i B++L).set (X.length+k) C=X.set P.i B++L.set k C:=fun B C L k=>by rw[Qva _ _ (by rw[QuI];omega),QuI];congr 2;omega
 with_reducible repeat first|(first|refine Qd fun K E hK hE=>?_|refine Qj fun K E hK hE=>?_);simp only[QQ,QB,QN,OpW,aop,undef,AS.ev,QO,Q9,XA,XL,XJ,QtM,AV.QsU,QC,Xi,QI,Xj,QtZ,Qt0,Xh,Qt1,↓reduceIte,QtS,QtT,Nat.reduceAdd,Nat.reduceLT,Nat.reduceLeDiff,Nat.reduceEqDiff,QtR,Qud,Xg,Zl,Zq,YI,XR,aBin,happ,QtF,QtG,Qt9,Qua,QtH,Quk,Qt7,Qt6,Qt8,QtQ,QtX,QtO,QtW,QtJ,ti59,un59,Qpx,Qh3,QS,b1,b2,b3,b4,nM,QuI,Quw]|refine Qg ?_|refine hK _ ?_;clear hK|refine Qm rfl ?_;simp only[↓reduceIte]
 simp only[QtH,QtL,List.mapM_nil,Option.pure_def,QtH,Qbm,Zr,QtP]
 refine .inr ⟨rfl,?_⟩
 unfold ph
 rw[QuN _ _ (by simp only[Pz.to];omega),Qva _ _ (by simp only[Pz.to,QuI];omega),Qva _ _ (by simp only[Pz.to,QuI];omega)]
 simp only[Pz.to,QuI,Qu9,hj,Qvc]
 rfl
end Go.Proofs.YticgcpebdldbgaaGreatDoor.Ab
namespace Go.Proofs.YticgcpebdldbgaaGreatDoor.Ab
open Go.Proofs
section
variable{P:Pz}{s:PS}{own:Option Nat}(hW:Wst P.all s){X:AH}(hX:X[P.i]? = some (pN P s own))
include hW hX
theorem QpL(L:AH):(X++L)[P.i]? = some (pN P s own):=by have _u:=hW;rw[Qux (Qf hX)];exact hX
theorem QlA:QA Tryz.prog 20 [.ptr P.i 0 0] X fun o h'=>o = .ret s.tk.av/\h'=X:=by
 obtain⟨h1,h2⟩:=QkV hW
 have hi:=QpL hW hX
 have hi0:=hX
 rw[pN]at hi0
 simp only[pN]at hi
 have e1:=Tk.QsS s.tk
 have e2:=Tk.QsT s.tk
 generalize P.all.length - s.toks.length=k at *
 refine Qa Tryz.func20 rfl Tryz.call20 Tryz.ntmps20 Tryz.results20 (by simp) ?_
 repeat first|(first|refine Qi (id:=1) [(0,0),(1,0),(2,0),(3,0),(4,0),(5,0),(6,0),(7,0),(8,0),(9,0),(10,2)] mixed (by kernel_rfl) fun K hK=>?_|refine Qb ?_);simp only[go_sem,seval,hi,h1,h2,Qas,e1,e2]|refine hK _ ?_;clear hK
 exact Qc (htake _ _) (.keep (QcM _ _)) ⟨rfl,rfl⟩
theorem Qoo(hk:s.tk.kind=0):QA Tryz.prog 30 [.ptr P.i 0 0] X fun o h'=>o = .ret (.tup [])/\h'=X:=by
 have cn:=QlA hW hX
 have hi0:=hX
 rw[pN]at hi0
 have e1:=Tk.QsS s.tk
 have e2:=Tk.QsT s.tk
 have z1:(s.tk.kind != 0)=false:=by simpa using hk
 refine Qa Tryz.func30 rfl Tryz.call30 Tryz.ntmps30 Tryz.results30 (by simp) ?_
 repeat (first|refine FunW.QsR cn ?_|refine Qb ?_);simp only[go_sem,seval,e1,e2,z1]
 exact Qc (htake _ _) (.keep (.tup _ (by simp))) ⟨rfl,rfl⟩
theorem Qp6(hk:s.tk.kind≠0):QA Tryz.prog 30 [.ptr P.i 0 0] X fun o h'=>o = .panic (Fl s.tk.pos 16)/\h'=X:=by
 have cn:=QlA hW hX
 have hi0:=hX
 rw[pN]at hi0
 have e1:=Tk.QsS s.tk
 have e2:=Tk.QsT s.tk
 have z1:(s.tk.kind != 0)=true:=by simpa using hk
 have cf:=ZS s.tk 16
 refine Qa Tryz.func30 rfl Tryz.call30 Tryz.ntmps30 Tryz.results30 (by simp) ?_
 repeat (first|refine FunW.QsR cn ?_|refine FunW.pan (FunW.call (cf _ _)) ?_|refine Qb ?_);simp only[go_sem,seval,e1,e2,z1]
 exact Qc (htake _ _) (.keep (QcA _ _ _)) ⟨rfl,rfl⟩
theorem QnO(n m:Int)(hm:¬m<=n):QA Tryz.prog 21 [.ptr P.i 0 0,.i n,.i m] X fun o h'=>o = .ret (.tup [])/\h'=X:=by
 have _hu:=hW
 have _u:=hX
 have z1:¬n>=m:=hm
 refine Qa Tryz.func21 rfl Tryz.call21 Tryz.ntmps21 Tryz.results21 (by simp) ?_
 repeat refine Qb ?_;simp only[go_sem,seval,hm]
 exact .inr ⟨rfl,rfl⟩
theorem Qpb(n m:Int)(hm:m<=n):QA Tryz.prog 21 [.ptr P.i 0 0,.i n,.i m] X fun o h'=>o = .panic (Fl s.tk.pos 6)/\h'=X:=by
 have z1:n>=m:=hm
 have hi0:=hX
 rw[pN]at hi0
 have cn:=QlA hW hX
 have cf:=ZS s.tk 6
 refine Qa Tryz.func21 rfl Tryz.call21 Tryz.ntmps21 Tryz.results21 (by simp) ?_
 repeat (first|refine FunW.QsR cn ?_|refine FunW.pan (FunW.call (cf _ _)) ?_|refine Qb ?_);simp only[go_sem,seval,hm]
 exact .inr ⟨rfl,rfl⟩
end
theorem QhA(X:AH)(q n:Nat)(ord:List Int)(hS:NSt X q ord):QA Tryz.prog 31 [.ptr q 0 0,.v (.slice none 0 0)] X (GnQ X q n ord []):=by
 have hn:=fun t'=>Qdn Tryz.prog 32 t' 46 (by kernel_rfl)
 refine Qa Tryz.func31 rfl Tryz.call31 Tryz.ntmps31 Tryz.results31 (by simp) ?_
 repeat refine Qb ?_;simp only[go_sem,seval,hn]
 obtain⟨I,hI⟩:∃I:Nat->AS->Prop,I=fun m' s=>s.tm 7 = .i 0/\s.tm 8 = .i 0/\s.h=X:=⟨_,rfl⟩;refine QD I ?_ (m:=0) ?_
 ·intro m' s hs;rw[hI]at hs;obtain⟨tm,hp⟩:=s;dsimp only at hs;obtain⟨t9,t10,rfl⟩:=hs
  have z:¬((0:Int)<0):=by omega
  repeat refine Qb ?_;simp only[go_sem,seval,t9,t10,z]
  exact .inr ⟨rfl,NumP.refl _ _ _ _,hS,At.nil _ _⟩
 ·rw[hI]
  exact⟨rfl,rfl,rfl⟩
theorem Qhz(X:AH)(q n:Nat)(ord:List Int)(hS:NSt X q ord):QA Tryz.prog 50 [.ptr q 0 0,.v (.slice none 0 0)] X (GnQ X q n ord []):=by
 have hn:=fun t'=>Qdn Tryz.prog 38 t' 105 (by kernel_rfl)
 refine Qa Tryz.func50 rfl Tryz.call50 Tryz.ntmps50 Tryz.results50 (by simp) ?_
 repeat refine Qb ?_;simp only[go_sem,seval,hn]
 obtain⟨I,hI⟩:∃I:Nat->AS->Prop,I=fun m' s=>s.tm 7 = .i 0/\s.tm 8 = .i 0/\s.h=X:=⟨_,rfl⟩;refine QD I ?_ (m:=0) ?_
 ·intro m' s hs;rw[hI]at hs;obtain⟨tm,hp⟩:=s;dsimp only at hs;obtain⟨t9,t10,rfl⟩:=hs
  have z:¬((0:Int)<0):=by omega
  repeat refine Qb ?_;simp only[go_sem,seval,t9,t10,z]
  exact .inr ⟨rfl,NumP.refl _ _ _ _,hS,At.nil _ _⟩
 ·rw[hI]
  exact⟨rfl,rfl,rfl⟩
def sG(vw:Nat->G->AV)(w n:Nat)(l:List G):AV:=if l.isEmpty then .v (.slice none 0 0)else .sl w (lvG vw n l) none
theorem Qdw(vw:Nat->G->AV)(w n:Nat)(l:List G):(sG vw w n l).cell1=true:=by unfold sG;split <;> rfl
theorem QeP(vw:Nat->G->AV)(w n:Nat)(l:List G):(sG vw w n l).cells=[sG vw w n l]:=by unfold sG;split <;> rfl
theorem QeQ(vw:Nat->G->AV)(w n:Nat)(l:List G):(sG vw w n l).isAgg=false:=by unfold sG;split <;> rfl
theorem Qgl(vw:Nat->G->AV)(w n:Nat){l:List G}(h:l≠[]):sG vw w n l = .sl w (lvG vw n l) none:=by unfold sG;rw[QuE (by simpa using h)]
theorem Qrz(vw:Nat->G->AV)(w n:Nat):sG vw w n [] = .v (.slice none 0 0):=rfl
theorem Qfh(l:List G)(hps:∀g∈l,pss g.args)(X0:AH)(q n:Nat)(ord:List Int)(hbl:l.length<=1000000000)(hb:ord.length+ndG l<=1000000000)(hq:n+gsz l<=q)(hqx:q+1<X0.length)(hS0:NSt X0 q ord)(hA0:At X0 n (layG 48 n l)) :
  QA Tryz.prog 31 [.ptr q 0 0,sG gv 3 n l] X0 (GnQ X0 q n ord l):=by
 by_cases e:l=[]
 ·subst e;exact QhA X0 q n ord hS0
 ·rw[Qgl _ _ _ e];exact Qgc l none hps X0 q n ord hbl hb hq hqx hS0 hA0
theorem Qh8(l:List G)(hps:∀g∈l,pss g.args)(X0:AH)(q n:Nat)(ord:List Int)(hbl:l.length<=1000000000)(hb:ord.length+ndG l<=1000000000)(hq:n+gsz l<=q)(hqx:q+1<X0.length)(hS0:NSt X0 q ord)(hA0:At X0 n (layG 48 n l)) :
  QA Tryz.prog 50 [.ptr q 0 0,sG av 2 n l] X0 (GnQ X0 q n ord l):=by
 by_cases e:l=[]
 ·subst e;exact Qhz X0 q n ord hS0
 ·rw[Qgl _ _ _ e];exact Qgb l none hps X0 q n ord hbl hb hq hqx hS0 hA0
end Go.Proofs.YticgcpebdldbgaaGreatDoor.Ab
namespace Go.Proofs.YticgcpebdldbgaaGreatDoor.Ab
open Go.Proofs
def goalsOk(l:List G):Prop:=∀g∈l,XI g=true
def atomsOk(l:List G):Prop:=∀g∈l,Ye g=true
theorem QcY(most:Nat):∀(m:Nat) (l:List G) (s:PS) (a:List G) (s2:PS),goalsOk l->Zg most m l s = .ok a s2->goalsOk a/\a.length<=most/\l.length<a.length
 |0,_,_,_,_,_,h=>by cases h
 |m+1,l,s,a,s2,hl,h=>by
  rw[Zg]at h
  split at h
  ·cases h
  ·rename_i hm
   obtain⟨g,s1,h1,h⟩:=bind_ok h
   split at h
   ·cases h
   ·rename_i hg
    have hl2:goalsOk (l++[g]):=fun x hx=>by
     rcases Qvh.1 hx with hx|hx
     ·exact hl x hx
     ·rw[Qvt.1 hx];simpa using hg
    split at h
    ·obtain⟨a1,a2,a3⟩:=QcY most m _ _ a s2 hl2 h
     rw[Quw,QvE]at a3
     exact⟨a1,a2,by omega⟩
    ·cases h
     refine⟨hl2,?_,?_⟩ <;> rw[Quw,QvE] <;> omega
theorem QcC{most:Nat}{s:PS}{a:List G}{s2:PS}(h:Y8 most s = .ok a s2):goalsOk a/\a.length<=most:=by
 obtain⟨h1,h2,_⟩:=QcY most _ [] s a s2 (fun _ h=>(QuS h).elim) h
 exact⟨h1,h2⟩
theorem Qfk(pre:Nat):∀(m:Nat) (l:List G) (s:PS) (a:List G) (s2:PS),atomsOk l->Qab pre m l s = .ok a s2->atomsOk a/\pre+a.length<=4/\l.length<a.length
 |0,_,_,_,_,_,h=>by cases h
 |m+1,l,s,a,s2,hl,h=>by
  rw[Qab]at h
  split at h
  ·cases h
  ·rename_i hm
   obtain⟨g,s1,h1,h⟩:=bind_ok h
   split at h
   ·cases h
   ·rename_i hg
    have hl2:atomsOk (l++[g]):=fun x hx=>by
     rcases Qvh.1 hx with hx|hx
     ·exact hl x hx
     ·rw[Qvt.1 hx];simpa using hg
    split at h
    ·obtain⟨a1,a2,a3⟩:=Qfk pre m _ _ a s2 hl2 h
     rw[Quw,QvE]at a3
     exact⟨a1,a2,by omega⟩
    ·cases h
     refine⟨hl2,?_,?_⟩ <;> rw[Quw,QvE] <;> omega
theorem Qlq{pre:Nat}{s:PS}{a:List G}{s2:PS}(h:ZO pre s = .ok a s2):atomsOk a/\pre+a.length<=4/\0<a.length:=Qfk pre _ [] s a s2 (fun _ h=>(QuS h).elim) h
theorem Qpv{l:List T}(h:l.isEmpty=true):l=[]:=by cases l with|nil=>rfl|cons=>cases h
mutual
theorem T.QtD:∀(t:T) (b d:Int),(t.run b d).1=true->t.ps/\(t.nds:Int)<=b - (t.run b d).2/\0<=(t.run b d).2
 | .mk k i n l,b,d,h=>by
  rw[T.run]at h ⊢
  rw[T.ps,T.nds]
  split at h
  ·cases h
  ·rename_i h0
   rw[QuE h0]
   split at h
   ·rename_i h1
    rw[QuH h1]
    have hl:l=[]:=Qpv (by simp only[QuR]at h;exact h.2)
    subst hl
    refine⟨⟨.inl h1,fun _=>rfl,trivial⟩,?_,?_⟩
    ·simp only[ndsL];omega
    ·show 0<=b - 1;omega
   ·rename_i h1
    rw[QuE h1]
    split at h
    ·rename_i h2
     rw[QuH h2]
     have hl:l=[]:=Qpv (by simp only[QuR]at h;exact h.2)
     subst hl
     refine⟨⟨.inr (.inl h2),fun _=>rfl,trivial⟩,?_,?_⟩
     ·simp only[ndsL];omega
     ·show 0<=b - 1;omega
    ·rename_i h2
     rw[QuE h2]
     split at h
     ·rename_i h3
      rw[QuH h3]
      split at h
      ·cases h
      ·rename_i h4
       rw[QuE h4]
       split at h
       ·cases h
       ·rename_i h5
        rw[QuE h5]
        obtain⟨q1,q2,q3⟩:=Qj2 l (b - 1) (d - 1) (by omega) h
        refine⟨⟨.inr (.inr h3),fun e=>absurd h3 e,q1⟩,?_,q3⟩
        push_cast
        omega
     ·cases h
theorem Qj2:∀(l:List T) (b d:Int),0<=b->(runL l b d).1=true->pss l/\(ndsL l:Int)<=b - (runL l b d).2/\0<=(runL l b d).2
 |[],b,d,hb,h=>by simp only[runL,pss,ndsL];exact⟨trivial,by omega,hb⟩
 |t::l,b,d,hb,h=>by
  rw[runL]at h ⊢
  split at h
  ·rename_i h1
   rw[QuH h1]
   obtain⟨q1,q2,q3⟩:=T.QtD t b d h1
   obtain⟨r1,r2,r3⟩:=Qj2 l (t.run b d).2 d q3 h
   rw[pss,ndsL]
   exact⟨⟨q1,r1⟩,by push_cast;omega,r3⟩
  ·cases h
end
theorem Qj1{l:List T}(h:(runL l 200 20).1=true):pss l/\ndsL l<=200:=by
 obtain⟨h1,h2,h3⟩:=Qj2 l 200 20 (by omega) h
 exact⟨h1,by omega⟩
theorem QcB{g:G}(h:XI g=true):pss g.args/\ndsL g.args<=200:=by
 unfold XI at h
 split at h
 ·unfold Ye at h
  simp only[QuR]at h
  exact Qj1 h.2.2
 ·simp only[QuR]at h
  exact Qj1 h.2.2.2
theorem Qoi{g:G}(h:Ye g=true):pss g.args/\ndsL g.args<=200:=by
 unfold Ye at h
 simp only[QuR]at h
 exact Qj1 h.2.2
def SmG(l:List G):Prop:=(∀g∈l,pss g.args)/\ndG l<=2400/\l.length<=12
theorem QpQ{l:List G}(h:∀g∈l,pss g.args/\ndsL g.args<=200)(hl:l.length<=12):SmG l:=by
 refine⟨fun g hg=>(h g hg).1,?_,hl⟩
 have:∀m:List G,(∀g∈m,pss g.args/\ndsL g.args<=200)->ndG m<=200 * m.length:=fun m=>by
  induction m with
  |nil=>intro _;exact QuD _
  |cons g m ih =>
   intro hm
   have h1:=(hm g (by simp)).2
   have h2:=ih fun x hx=>hm x (by simp[hx])
   rw[ndG,QtS];omega
 have:=this l h
 omega
theorem Qi9{most:Nat}{s s2:PS}{l:List G}(hm:most<=12)(h:Y8 most s = .ok l s2):SmG l:=by
 obtain⟨h1,h2⟩:=QcC h
 exact QpQ (fun g hg=>QcB (h1 g hg)) (by omega)
theorem Qja{pre:Nat}{s s2:PS}{l:List G}(h:ZO pre s = .ok l s2):SmG l/\pre+l.length<=4/\0<l.length:=by
 obtain⟨h1,h2,h3⟩:=Qlq h
 exact⟨QpQ (fun g hg=>Qoi (h1 g hg)) (by omega),h2,h3⟩
theorem Qd9:SmG []:=⟨fun _ h=>by simp at h,QuG _,QuG _⟩
def mG(f:Int->Int)(l:List G):List G:=l.map fun g:G=>(⟨g.op,g.name,maps f g.args⟩:G)
theorem QcD:∀(s:List Int) (l:List G) (r:List Int),Ym gG s l=(mG (fun v=>((plc (ded s (XN l)++r) v:Nat):Int)) l,ded s (XN l))
 |s,[],r=>rfl
 |s,g::l,r=>by
  have e:XN (g::l)=Yd g.args++XN l:=by simp[XN]
  obtain⟨q,hq⟩:=QdP (ded s (Yd g.args)) (XN l)
  rw[Ym,gG,QdX s g.args (q++r)]
  simp only
  rw[QcD _ l r,e,Zo,hq]
  simp only[mG,QtU,Quz]
theorem QlD(r:Rl):r.numd=⟨r.name,(Ym gG [] r.keep).1,(Ym gG (Ym gG [] r.keep).2 r.remove).1,(Ym gG (Ym gG (Ym gG [] r.keep).2 r.remove).2 r.guard).1,
  (Ym gG (Ym gG (Ym gG (Ym gG [] r.keep).2 r.remove).2 r.guard).2 r.body).1,((Ym gG (Ym gG (Ym gG (Ym gG [] r.keep).2 r.remove).2 r.guard).2 r.body).2.length:Nat)⟩:=by
 have e:r.allV=XN r.keep++XN r.remove++XN r.guard++XN r.body:=by simp[Rl.allV,XN]
 obtain⟨q1,h1⟩:=QdP (ded [] (XN r.keep)) (XN r.remove)
 obtain⟨q2,h2⟩:=QdP (ded (ded [] (XN r.keep)) (XN r.remove)) (XN r.guard)
 obtain⟨q3,h3⟩:=QdP (ded (ded (ded [] (XN r.keep)) (XN r.remove)) (XN r.guard)) (XN r.body)
 have ea:ded [] r.allV=ded (ded (ded (ded [] (XN r.keep)) (XN r.remove)) (XN r.guard)) (XN r.body):=by rw[e,Zo,Zo,Zo]
 have hB:ded (ded (ded (ded [] (XN r.keep)) (XN r.remove)) (XN r.guard)) (XN r.body)=ded (ded [] (XN r.keep)) (XN r.remove)++(q2++q3):=by rw[h3,h2,Quz]
 have hA:ded (ded (ded (ded [] (XN r.keep)) (XN r.remove)) (XN r.guard)) (XN r.body)=ded [] (XN r.keep)++(q1++q2++q3):=by rw[h3,h2,h1,Quz,Quz,Quz]
 rw[Rl.numd,ea]
 rw[QcD [] r.keep (q1++q2++q3)]
 simp only
 rw[QcD _ r.remove (q2++q3)]
 simp only
 rw[QcD _ r.guard q3]
 simp only
 rw[QcD _ r.body []]
 simp only[mG,<-hA,<-hB,<-h3,Qt8]
end Go.Proofs.YticgcpebdldbgaaGreatDoor.Ab
namespace Go.Proofs.YticgcpebdldbgaaGreatDoor.Ab
open Go.Proofs
section
variable{P:Pz}{s:PS}{own:Option Nat}(hW:Wst P.all s){X:AH}(hX:X[P.i]? = some (pN P s own))(hN:P.all.length<=1000000)
include hW hX hN
theorem Qk3:QA Tryz.prog 48 [.ptr P.i 0 0] X fun o h'=>o = .ret s.nx.tk.av/\h'=X:=by
 have hi:=QpL hW hX
 have hi0:=hX
 rw[pN]at hi0
 simp only[pN]at hi
 have e1:=Tk.QsS s.nx.tk
 have e2:=Tk.QsT s.nx.tk
 obtain⟨h1,h2⟩:=QkV hW
 obtain⟨k,hk⟩:∃k,k=P.all.length - s.toks.length:=⟨_,rfl⟩
 obtain⟨j,hj,hjl,hat⟩:∃j:Nat,((if (P.all.length:Int) - 1<(k:Int)+1 then(P.all.length:Int) - 1 else(k:Int)+1)=j)/\j<P.all.length/\(tks P.all)[j]? = some s.nx.tk.av:=by
  obtain⟨pre,hp⟩:=hW.suf
  cases ht:s.toks with
  |nil=>exact absurd ht (Qjf hW.wf)
  |cons t r =>
   rw[ht]at hp
   have hkl:k=pre.length:=by rw[hk,ht,<-hp,Quw];omega
   have hal:P.all.length=pre.length+(r.length+1):=by rw[<-hp,Quw,QtS]
   cases r with
   |nil =>
    refine⟨pre.length,by rw[hkl,hal];simp only[QtT];rw[QuH (by omega)];omega,by omega,?_⟩
    rw[<-hp,tks,Qu2,QuB (QuD _),Qu9]
    simp[PS.nx,PS.tk,ht]
   |cons u r =>
    refine⟨pre.length+1,by rw[hkl,hal];simp only[QtS];rw[QuE (by omega)];omega,by rw[hal,QtS];omega,?_⟩
    rw[<-hp,tks,Qu2,QuB (by omega),Qvc]
    simp[PS.nx,PS.tk,ht]
 rw[<-hk]at hi hi0
 have w1:IntKind.i64.wrap ((k:Int)+1)=(k:Int)+1:=Ya ⟨by omega,by omega⟩
 have w2:IntKind.i64.wrap ((P.all.length:Int) - 1)=(P.all.length:Int) - 1:=Ya ⟨by omega,by omega⟩
 refine Qa Tryz.func48 rfl Tryz.call48 Tryz.ntmps48 Tryz.results48 (by simp) ?_
 repeat first|refine Qb ?_;simp only[go_sem,seval]|refine hK _ ?_;clear hK
 first|refine Qi (id:=1) [(0,0),(1,0),(2,0),(3,0),(4,0),(5,0),(6,0),(7,0),(8,0),(9,0),(10,0),(11,0),(12,0),(13,0),(14,0),(15,0),(16,0),(17,0),(18,2)] mixed (by kernel_rfl) fun K hK=>?_|refine Qh (id:=1) [(0,0),(1,0),(2,0),(3,0),(4,0),(5,0),(6,0),(7,0),(8,0),(9,0),(10,0),(11,0),(12,0),(13,0),(14,0),(15,0),(16,0),(17,0),(18,2)] mixed (by kernel_rfl) fun K hK=>?_
 (try simp only[QtO,QtW]);refine Qda 9 (fun K1 hK1=>?_);simp only[go_sem,seval,hi,w1];refine hK1 _ ?_;clear hK1
 (try simp only[QtO,QtW])
 simp only[go_sem,seval,hi,hat,hjl,Qas,e1,e2,w2,hj]
 repeat first|refine Qb ?_;simp only[go_sem,seval]|refine hK _ ?_;clear hK
 simp only[go_sem,seval,e1,e2]
 exact Qc (htake _ _) (.keep (QcM _ _)) ⟨rfl,rfl⟩
end
end Go.Proofs.YticgcpebdldbgaaGreatDoor.Ab
namespace Go.Proofs.YticgcpebdldbgaaGreatDoor.Ab
open Go.Proofs
theorem QeK{most:Nat}{s s2:PS}{l:List G}(h:Y8 most s = .ok l s2):l≠[]:=by
 obtain⟨_,_,h3⟩:=QcY most _ [] s l s2 (fun _ h=>(QuS h).elim) h
 rintro rfl
 simp at h3
def bodyT(name:ByteArray)(s:PS):PR Rl:=(ZO 0 s).bind fun first s =>
  if s.is QbD then QaI name [] first s.nx else if s.is Qgm then QaI name first [] s.nx else
  if s.is Qgk then(ZO first.length s.nx).bind fun rem s=>(YM QbD s).bind fun _ s=>QaI name first rem s else .err s.tk.pos 16
theorem QgR(s:PS):QaH s=if s.tk.kind=1/\s.nx.is sAt=true then(QaC s).bind fun x s=>bodyT x s.nx else bodyT eB s:=rfl
structure ErrY (X:AH) (P:Pz) (Y:AH):Prop where
 long:X.length<=Y.length
 out:∀i,i<X.length->i≠P.i->i≠P.j->Y[i]? = X[i]?
def RuQ(X:AH)(P:Pz):PR Rl->AOut->AH->Prop
 | .ok r s,o,h'=>o = .ret r.av/\h'=(X.set P.i (pN P s none)).set P.j (kB s)
 | .err p e,o,h'=>o = .panic (Fl p e)/\∃Y:{Y:AH // ErrY X P Y},h'=Y.1
def RuR(X:AH)(P:Pz)(r:Rl)(s:PS)(o:AOut)(h':AH):Prop:=∃nk nr ng nb,o = .ret (.agg [.v (.string r.name),sG av 2 nk r.keep,sG av 2 nr r.remove,sG gv 3 ng r.guard,sG gv 3 nb r.body,.i r.vars])/\X.length<=nk/\X.length<=nr/\X.length<=ng/\X.length<=nb /\
 At h' nk (layG 48 nk r.keep)/\At h' nr (layG 48 nr r.remove)/\At h' ng (layG 48 ng r.guard)/\At h' nb (layG 48 nb r.body)/\X.length<=h'.length/\h'.take X.length=(X.set P.i (pN P s none)).set P.j (kB s)
abbrev nilV:AV:=.v (.slice none 0 0)
def rB(name:ByteArray)(k r g b:AV):AB:=.cells 40 6 [.agg [.v (.string name),k,r,g,b,.i 0]]
theorem QaV{B:AH}{P2:Pz}{s s':PS}{a b a' b':AB}{M N L:AH}{n:Nat}(h:At (ph B P2 s++(a::b::M)) n L)(h1:B.length+2<=n)(h2:n+L.length<=B.length+2+M.length):At (ph B P2 s'++(a'::b'::(M++N))) n L:=by
 refine h.keep fun i i1 i2=>?_
 rw[QuB (by rw[Xv];omega),QuB (by rw[Xv];omega),Xv,Xv]
 obtain⟨k,hk⟩:∃k,i - B.length=k+1+1:=⟨i - B.length - 2,by omega⟩
 rw[hk]
 simp only[QtG]
 rw[Qux (by omega)]
def RH(B:AH)(P2:Pz)(X:AH)(s:PS)(r:Rl)(st:AS):Prop:=st.tm 0 = .ptr P2.i 0 0/\st.tm 2 = .ptr X.length 0 0/\st.tm 3 = .ptr B.length 0 0/\Wst P2.all s/\SmG r.keep/\SmG r.remove/\SmG r.guard/\SmG r.body/\∃nk nr ng nb x4 M,
 st.h=ph B P2 s++(rB r.name (sG av 2 nk r.keep) (sG av 2 nr r.remove) (sG gv 3 ng r.guard) (sG gv 3 nb r.body)::x4::M)/\At st.h nk (layG 48 nk r.keep)/\At st.h nr (layG 48 nr r.remove)/\At st.h ng (layG 48 ng r.guard)/\At st.h nb (layG 48 nb r.body) /\
 B.length+2<=nk/\nk+gsz r.keep<=nr/\nr+gsz r.remove<=ng/\ng+gsz r.guard<=nb/\nb+gsz r.body<=B.length+2+M.length
def Qlk(b:List G):List G:=match b with|[x]=>if x.op=1 then[]else b|_=>b
def finT(name:ByteArray)(keep remove g b:List G)(s:PS):PR Rl:=(YM sDot s).bind fun _ s=>.ok ⟨name,keep,remove,g,Qlk b,0⟩ s
theorem QkC(name:ByteArray)(keep remove:List G)(s:PS):QaI name keep remove s=(Y8 12 s).bind fun b s=>if s.is sBar then(Y8 12 s.nx).bind fun b2 s=>finT name keep remove b b2 s else finT name keep remove [] b s:=rfl
theorem retQ{f:FuncId}{args:List AV}{X:AH}{q n:Nat}{ord:List Int}{l:List G}(H:QA Tryz.prog f args X (GnQ X q n ord l)):QA Tryz.prog f args X fun o h'=>o = .ret (.tup [])/\∃Y:{Y:AH // GnQ X q n ord l (.ret (.tup [])) Y},h'=Y.1 :=
 H.mono fun o h' k=>by
  obtain⟨rfl,k2⟩:=k
  exact⟨rfl,⟨h',rfl,k2⟩,rfl⟩
theorem QpD{s:PS}{a b:List UInt8}(h:s.is a=true)(hab:(a==b)=false):s.is b=false:=by
 simp only[PS.is,QuR,Qvx]at h
 simp only[PS.is,h.1,h.2,hab,Qv6]
section
variable{P:Pz}{s:PS}(hW:Wst P.all s){h:AH}(H:P.ok h)(hN:P.all.length<=1000000)(hD:TkOk P.all)(L:AH)
include hW H hN hD
theorem QgI{pre:Nat}(hpre:pre<=100){p e:Int}(hr:ZO pre s = .err p e):QA Tryz.prog 49 [.ptr P.i 0 0,.i (pre:Nat)] (ph h P s++L) fun o h'=>o = .panic (Fl p e)/\∃s1:PS,h'=ph h P s1++L:=by
 have:=QgK hW (H.app L) hN hD pre hpre
 rw[hr]at this
 rw[XH H]at this
 exact this.mono fun o h' q=>by simpa only[GsQ,XH H]using q
theorem Qiu{pre:Nat}(hpre:pre<=100){l:List G}{s2:PS}(hr:ZO pre s = .ok l s2){k:Nat}(hk:k=h.length+L.length):QA Tryz.prog 49 [.ptr P.i 0 0,.i (pre:Nat)] (ph h P s++L) fun o h'=>o = .ret (.sl 2 (lvG av k l) none)/\h'=ph h P s2++(L++layG 48 k l):=by
 have:=QgK hW (H.app L) hN hD pre hpre
 rw[hr]at this
 subst hk
 rw[XH H]at this
 exact this.mono fun o h' q=>by simpa only[GsQ,XH H,Quw,Quz]using q
theorem QgF{most:Nat}(hm:most<=100){p e:Int}(hr:Y8 most s = .err p e):QA Tryz.prog 29 [.ptr P.i 0 0,.i (most:Nat)] (ph h P s++L) fun o h'=>o = .panic (Fl p e)/\∃s1:PS,h'=ph h P s1++L:=by
 have:=QdS hW (H.app L) hN hD most hm
 rw[hr]at this
 rw[XH H]at this
 exact this.mono fun o h' q=>by simpa only[GsQ,XH H]using q
theorem Qir{most:Nat}(hm:most<=100){l:List G}{s2:PS}(hr:Y8 most s = .ok l s2){k:Nat}(hk:k=h.length+L.length):QA Tryz.prog 29 [.ptr P.i 0 0,.i (most:Nat)] (ph h P s++L) fun o h'=>o = .ret (.sl 3 (lvG gv k l) none)/\h'=ph h P s2++(L++layG 48 k l):=by
 have:=QdS hW (H.app L) hN hD most hm
 rw[hr]at this
 subst hk
 rw[XH H]at this
 exact this.mono fun o h' q=>by simpa only[GsQ,XH H,Quw,Quz]using q
end
theorem Qhu{tt:TypeId}{h:AH}{m w:Nat}{vw:Nat->G->AV}{vA:G->AV}(hv:∀n g,(vw n g).cells.length=w)(hA:∀g,(vA g).cells.length=w)
  (hp:∀n g,m<=n->At h n (layA tt n g.args)->∀(j:Nat) a a',(vw n g).cells[j]? = some a->(vA g).cells[j]? = some a'->Melt h m a a'):∀(n:Nat) (l:List G),m<=n->At h n (layG tt n l) ->
  (flat (vs vA l)).length=(flat (lvG vw n l)).length/\∀(j:Nat) a a',(flat (lvG vw n l))[j]? = some a->(flat (vs vA l))[j]? = some a'->Melt h m a a'
 |n,[],_,_=>⟨rfl,fun j a a' h1=>by simp[lvG,flat]at h1⟩
 |n,g::l,hm,H=>by
  rw[layG]at H
  have h1:At h (n+1) (layA tt (n+1) g.args++(.dead::layG tt (n+szs g.args+2) l)):=At.right (L:=[.dead]) H rfl
  have h2:=h1.right (m:=n+1+szs g.args) (by rw[Zi])
  have h3:At h (n+szs g.args+2) (layG tt (n+szs g.args+2) l):=by
   have:=At.right (L:=[.dead]) (m:=n+1+szs g.args+1) h2 rfl
   rwa [show n+1+szs g.args+1=n+szs g.args+2 by omega]at this
  obtain⟨h4,h5⟩:=Qhu hv hA hp (n+szs g.args+2) l (by omega) h3
  rw[QqD,lvG]
  refine⟨by rw[XK,XK,Quw,Quw,h4,hv,hA],fun j a a' ha hb=>?_⟩
  rw[XK,Qu0,hv]at ha
  rw[XK,Qu0,hA]at hb
  split at ha
  ·rename_i hj;rw[QuH hj]at hb;exact hp _ g (by omega) h1.left j a a' ha hb
  ·rename_i hj;rw[QuE hj]at hb;exact h5 _ a a' ha hb
theorem Qm8{tt:TypeId}{h:AH}{m w n:Nat}{vw:Nat->G->AV}{vA:G->AV}(hv:∀n g,(vw n g).cells.length=w)(hA:∀g,(vA g).cells.length=w)
  (hp:∀n g,m<=n->At h n (layA tt n g.args)->∀(j:Nat) a a',(vw n g).cells[j]? = some a->(vA g).cells[j]? = some a'->Melt h m a a') (l:List G) (hm:m<=n) (H:At h n (layG tt n l)):Melt h m (sG vw w n l) (.sl w (vs vA l) none):=by
 cases l with
 |nil=>exact .nil w
 |cons g l =>
  obtain⟨h1,h2⟩:=Qhu hv hA hp n (g::l) hm H
  rw[Qgl vw w n (by simp)]
  refine .sl (by rw[Z5,ZM]) (fun y hy=>?_) h1 h2
  obtain⟨x,_,rfl⟩:=QuZ.1 hy
  exact hA x
theorem Qm6{tt:TypeId}{h:AH}{m n:Nat}(l:List G)(hm:m<=n)(H:At h n (layG tt n l)):Melt h m (sG av 2 n l) (.sl 2 (vs G.atom l) none) :=
 Qm8 (vw:=av) (vA:=G.atom) (fun _ _=>rfl) (fun _=>rfl) (fun n g hm hA j a a' h1 h3=>by
  match j,h1,h3 with
  |0,h1,h3=>cases h1;cases h3;exact .keep (.v _)
  |1,h1,h3=>cases h1;cases h3;exact Qfy hm hA
  |j+2,h1,h3=>simp[av,AV.cells]at h1) l hm H
theorem Qm7{tt:TypeId}{h:AH}{m n:Nat}(l:List G)(hm:m<=n)(H:At h n (layG tt n l)):Melt h m (sG gv 3 n l) (.sl 3 (vs G.goal l) none) :=
 Qm8 (vw:=gv) (vA:=G.goal) (fun _ _=>rfl) (fun _=>rfl) (fun n g hm hA j a a' h1 h3=>by
  match j,h1,h3 with
  |0,h1,h3=>cases h1;cases h3;exact .keep (.v _)
  |1,h1,h3=>cases h1;cases h3;exact .keep (.v _)
  |2,h1,h3=>cases h1;cases h3;exact Qfy hm hA
  |j+3,h1,h3=>simp[gv,AV.cells]at h1) l hm H
theorem QjD{vw:Nat->G->AV}(hv:∀n s g,vw n (gG s g).1=vw n g):∀(n:Nat) (s:List Int) (l:List G),lvG vw n (Ym gG s l).1=lvG vw n l
 |n,s,[]=>rfl
 |n,s,g::l=>by
  simp only[Ym,lvG]
  rw[hv,QjD hv _ _ l,show(gG s g).1.args=(Yw gNum s g.args).1 from rfl,ZT]
theorem QpP{vw:Nat->G->AV}(hv:∀n s g,vw n (gG s g).1=vw n g)(w n:Nat)(s:List Int)(l:List G):sG vw w n (Ym gG s l).1=sG vw w n l:=by
 cases l with
 |nil=>rfl
 |cons g l =>
  rw[Qgl vw w n (l:=g::l) (by simp),Qgl vw w n (l:=(Ym gG s (g::l)).1) (by simp[Ym]),QjD hv]
theorem QqK(n:Nat)(s:List Int)(g:G):av n (gG s g).1=av n g:=by simp only[av,gG,Qfw]
theorem Qpy(n:Nat)(s:List Int)(g:G):gv n (gG s g).1=gv n g:=by simp only[gv,gG,Qfw]
section
variable{P:Pz}{s:PS}{own:Option Nat}{m:List (ByteArray×AV)}{X:AH}(HP:PIn P X s own m)(hW:Wst P.all ⟨s.toks,[]⟩)(hN:P.all.length<=1000000)(hD:TkOk P.all)
include HP hW hN hD
theorem Qpe(Q:AOut->AH->Prop)(hQe:∀p e h',QbA s = .err p e->ErrY X P h'->Q (.panic (Fl p e)) h')(hQo:∀r s6 o h',QbA s = .ok r s6->RuR X P r s6 o h'->Q o h'):QA Tryz.prog 22 [.ptr P.i 0 0] X Q:=by
 have hz:∀z,PIn P (X++[z]) s own m:=fun z=>⟨by rw[Qux (Qf HP.i)];exact HP.i,by rw[Qux (Qf HP.j)];exact HP.j⟩
 obtain⟨Z,hZ⟩:∃Z,Z=rB {data:=#[]} nilV nilV nilV nilV:=⟨_,rfl⟩
 have cc:=Qld (hz Z)
 have HB:=(hz Z).ok [] .dead
 obtain⟨B,hB⟩:∃B,B=X++[Z]++[AB.dead]:=⟨_,rfl⟩
 have hBl:B.length=X.length+2:=by rw[hB];simp
 obtain⟨P2,hP2⟩:∃P2,P2=P.to (X++[Z]).length:=⟨_,rfl⟩
 rw[<-hB,<-hP2]at HB cc
 have ei:P2.i=P.i:=by rw[hP2];rfl
 have eall:P2.all=P.all:=by rw[hP2];rfl
 rw[<-ei]
 rw[<-eall]at hW hN hD
 rw[<-ei]at cc
 have f1:=Xv B P2
 have f3:=Yu B P2
 have f4:=Zh B P2
 have f5:=X7 B P2
 have f6:=YB B P2
 generalize hs0:(⟨s.toks,[]⟩:PS)=s0 at *
 have hEY:∀s' L,ErrY X P (ph B P2 s'++L):=fun s' L=>by
  have bg:P2.g=X.length+1:=by rw[hP2];simp[Pz.to]
  have ej:P2.j=P.j:=by rw[hP2];rfl
  refine⟨by rw[Quw,Xv];omega,fun i h1 h2 h3=>?_⟩
  rw[Qux (by rw[Xv];omega),Qaz HB (by rw[ei];exact h2) (by rw[ej];exact h3) (by omega),hB,Quz,Qux h1]
 have hErr:∀p e s' L,QaH s0 = .err p e->Q (.panic (Fl p e)) (ph B P2 s'++L):=fun p e s' L hh=>hQe p e _ (by rw[QbA,hs0,hh];rfl) (hEY s' L)
 have hX0:∀L,(ph B P2 s0++L)[P2.i]? = some (pN P2 s0 (some P2.g)):=fun L=>ph_i HB s0 L
 have ca:=fun L=>Qk3 hW (hX0 L) hN
 have cn:=fun L=>QlA hW (hX0 L)
 have hi:=ph_i HB s0
 simp only[pB]at hi
 have e1:=Tk.QsS s0.tk
 have e2:=Tk.QsT s0.tk
 have e3:=Tk.QsS s0.nx.tk
 have e4:=Tk.QsT s0.nx.tk
 rw[rB]at hZ
 subst hZ
 refine Qa Tryz.func22 rfl Tryz.call22 Tryz.ntmps22 Tryz.results22 (by simp) ?_
 iterate 7 (try (first|((first|(with_reducible (first|refine Qd fun K E hK hE=>?_|refine FunW.QsR cc ?_)));simp only[go_sem,seval,f1])|((with_reducible refine hK _ ?_);clear hK)))
 have hAt:s0.nx.is sAt=(s0.nx.tk.kind==4&&(s0.nx.tk.text.toList==sAt)):=rfl
 refine Yb (fun st=>∃name s1,QaH s0=bodyT name s1/\Wst P2.all s1/\st.tm 0 = .ptr P2.i 0 0/\st.tm 2 = .ptr X.length 0 0/\st.tm 3 = .ptr B.length 0 0/\∃x4,st.h=ph B P2 s1++[rB name nilV nilV nilV nilV,x4]) ?_ ?_
 ·rintro⟨tm,hp⟩ ⟨name,s1,hpart,hW1,t0,t2,t3,x4,rfl⟩
  simp only at t0 t2 t3
  have hErr2:∀p e s' L,bodyT name s1 = .err p e->Q (.panic (Fl p e)) (ph B P2 s'++L):=fun p e s' L hh=>hErr p e s' L (by rw[hpart,hh])
  clear hErr
  refine Yb (fun st=>st.tm 0 = .ptr P2.i 0 0/\st.tm 2 = .ptr X.length 0 0/\st.tm 3 = .ptr B.length 0 0/\∃l s2,ZO 0 s1 = .ok l s2/\st.tm 5 = .sl 2 (lvG av (B.length+2) l) none/\st.h=ph B P2 s2++(rB name nilV nilV nilV nilV::x4::layG 48 (B.length+2) l)) ?_ ?_
  ·rintro⟨tm,hp⟩ ⟨t0,t2,t3,l,s2,hr,t5,rfl⟩
   simp only at t0 t2 t3 t5
   obtain⟨hS1,hl4,hl0⟩:=Qja hr
   have hW2:Wst P2.all s2:=Kp.Ps.ok (n:=wdOf P2.all) (Kp.heads_ps trivial 0) hW1 hr
   have hB1:bodyT name s1=if s2.is QbD then QaI name [] l s2.nx else if s2.is Qgm then QaI name l [] s2.nx else
     if s2.is Qgk then(ZO l.length s2.nx).bind fun rem s=>(YM QbD s).bind fun _ s=>QaI name l rem s else .err s2.tk.pos 16:=by rw[bodyT,hr];rfl
   have hl1:l≠[]:=by rintro rfl;simp at hl0
   have hsl:=Qgl av 2 (B.length+2) hl1
   have hAl:∀(x y:AB) (M:AH) (s:PS),At (ph B P2 s++(x::y::(layG 48 (B.length+2) l++M))) (B.length+2) (layG 48 (B.length+2) l):=fun x y M s=>At.base (At.mid [x,y] _ M rfl) (Xv B P2 s)
   have hlvl:=ZM av (B.length+2) l
   have bSimp:({data:=#[60,61,62]}:ByteArray).toList=QbD:=tl QbD
   have bProp:({data:=#[61,61,62]}:ByteArray).toList=Qgm:=tl Qgm
   have bBack:({data:=#[92]}:ByteArray).toList=Qgk:=tl Qgk
   have hi2:=ph_i HB s2
   simp only[pB]at hi2
   refine Yb (fun st=>∃keep remove s3 nk nr x4 M,bodyT name s1=QaI name keep remove s3/\Wst P2.all s3/\SmG keep/\SmG remove/\st.tm 0 = .ptr P2.i 0 0/\st.tm 2 = .ptr X.length 0 0/\st.tm 3 = .ptr B.length 0 0 /\
    st.h=ph B P2 s3++(rB name (sG av 2 nk keep) (sG av 2 nr remove) nilV nilV::x4::M)/\At st.h nk (layG 48 nk keep)/\At st.h nr (layG 48 nr remove)/\B.length+2<=nk/\nk+gsz keep<=nr/\nr+gsz remove<=B.length+2+M.length) ?_ ?_
   ·rintro⟨tm,hp⟩ ⟨keep,remove,s3,nk,nr,x5,M,hb3,hW3,hSk,hSr,t0,t2,t3,hh,hAk,hAr,o1,o2,o3⟩
    simp only at t0 t2 t3 hh hAk hAr
    subst hh
    have hErr3:∀p e s' L,QaI name keep remove s3 = .err p e->Q (.panic (Fl p e)) (ph B P2 s'++L):=fun p e s' L hh=>hErr2 p e s' L (by rw[hb3,hh])
    refine Yb (fun st=>∃b s4,Y8 12 s3 = .ok b s4/\RH B P2 X s4 ⟨name,keep,remove,[],b,0⟩ st) ?_ ?_
    ·rintro⟨tm,hp⟩ ⟨b,s4,hr3,t0,t2,t3,hW4,hSk,hSr,_,hSb,nk,nr,ng,nb,x5,M,hh,hAk,hAr,hAg,hAb,o1,o2,o3,o4,o5⟩
     simp only at t0 t2 t3 hh hAk hAr hAg hAb o2 o3 o4 o5 hSk hSr hSb
     subst hh
     have hb0:=QeK hr3
     have hT:QaI name keep remove s3=if s4.is sBar then(Y8 12 s4.nx).bind fun b2 s=>finT name keep remove b b2 s else finT name keep remove [] b s4:=by rw[QkC,hr3];rfl
     have bBar:({data:=#[124]}:ByteArray).toList=sBar:=tl sBar
     have hi4:=ph_i HB s4
     simp only[pB]at hi4
     have hz0:gsz []=0:=rfl
     refine Yb (fun st=>∃g b2 s5,QaI name keep remove s3=finT name keep remove g b2 s5/\RH B P2 X s5 ⟨name,keep,remove,g,b2,0⟩ st) ?_ ?_
     ·rintro⟨tm,hp⟩ ⟨g,b2,s5,hT2,t0,t2,t3,hW5,hSk,hSr,hSg,hSb2,nk,nr,ng,nb,x6,M,hh,hAk,hAr,hAg,hAb,o1,o2,o3,o4,o5⟩
      simp only at t0 t2 t3 hh hAk hAr hAg hAb o2 o3 o4 o5 hSk hSr hSg hSb2
      subst hh
      have bDot:({data:=#[46]}:ByteArray).toList=sDot:=tl sDot
      have hi5:=ph_i HB s5
      simp only[pB]at hi5
      refine Yb (fun st=>s5.is sDot=true/\RH B P2 X s5.nx ⟨name,keep,remove,g,b2,0⟩ st) ?_ ?_
      ·rintro⟨tm,hp⟩ ⟨hdot,t0,t2,t3,hW6,hSk,hSr,hSg,hSb2,nk,nr,ng,nb,x6,M,hh,hAk,hAr,hAg,hAb,o1,o2,o3,o4,o5⟩
       simp only at t0 t2 t3 hh hAk hAr hAg hAb o2 o3 o4 o5 hSk hSr hSg hSb2
       subst hh
       have hT3:QaI name keep remove s3 = .ok ⟨name,keep,remove,g,Qlk b2,0⟩ s5.nx:=by rw[hT2,finT,YM,QuH hdot];rfl
       refine Yb (fun st=>∃r s6,QaI name keep remove s3 = .ok r s6/\r.vars=0/\RH B P2 X s6 r st) ?_ ?_
       ·rintro⟨tm,hp⟩ ⟨⟨name2,keep2,remove2,g2,b4,vars2⟩,s6,hT4,hv0,t0,t2,t3,hW7,hSk2,hSr2,hSg2,hSb4,nk,nr,ng,nb,x7,M,hh,hAk,hAr,hAg,hAb,o1,o2,o3,o4,o5⟩
        simp only at t0 t2 t3 hh hAk hAr hAg hAb o2 o3 o4 o5 hSk2 hSr2 hSg2 hSb4 hv0
        subst hv0
        have bi:P2.i<X.length:=by rw[ei];exact Qf HP.i
        have bj:P2.j<X.length:=by rw[hP2];exact Qf HP.j
        have bij:P2.i≠P2.j:=HB.ij
        have bg:P2.g=X.length+1:=by rw[hP2];simp[Pz.to]
        have hi6:=ph_i HB s6
        refine Qcf P2.i 61 4 [.agg [.sl 3 (tks P2.all) none,.i ((P2.all.length - s6.toks.length:Nat):Int),.sl 1 (strs s6.names) (some P2.g),.mp P2.j]] [.agg [.sl 3 (tks P2.all) none,.i ((P2.all.length - s6.toks.length:Nat):Int),.sl 1 (strs s6.names) none,.mp P2.j]] 2
         (Wk.sl rfl (fun y hy=>by obtain⟨x,_,rfl⟩:=QuZ.1 hy;rfl) (WkL.refl _)) (by rw[hh];exact hi6 _) rfl rfl (fun x hx=>by rw[Qvt]at hx;subst hx;rfl) ?_
        have hq0:hp.length=B.length+2+M.length:=by rw[hh,Quw,Xv];simp only[QtS];omega
        generalize hX9:hp.set P2.i _=X9 at *
        have hq:X9.length=B.length+2+M.length:=by rw[<-hX9,QuI,hq0]
        have hXo:∀i,i≠P2.i->X9[i]? = hp[i]? := fun i h=>by rw[<-hX9,Quy (Qvw h)]
        have hXi:X9[P2.i]? = some (pN P2 s6 none):=by rw[<-hX9,QuF (by omega)];rfl
        have hr0:X9[B.length]? = some (.cells 40 6 [.agg [.v (.string name2),sG av 2 nk keep2,sG av 2 nr remove2,sG gv 3 ng g2,sG gv 3 nb b4,.i 0]]):=by rw[hXo _ (by omega),hh,f3];rfl
        replace hAk:=hAk.keep (Y:=X9) fun i i1 i2=>hXo i (by omega)
        replace hAr:=hAr.keep (Y:=X9) fun i i1 i2=>hXo i (by omega)
        replace hAg:=hAg.keep (Y:=X9) fun i i1 i2=>hXo i (by omega)
        replace hAb:=hAb.keep (Y:=X9) fun i i1 i2=>hXo i (by omega)
        have hlow:∀i,i<X.length->X9[i]? = ((X.set P.i (pN P s6 none)).set P.j (kB s6))[i]? := fun i i1=>by
         have ej:P2.j=P.j:=by rw[hP2];rfl
         have ePN:pN P2 s6 none=pN P s6 none:=by rw[hP2];rfl
         rw[<-ei,<-ej,<-ePN]
         by_cases c1:i=P2.i
         ·subst c1
          rw[hXi,Quy (Qvw bij),QuF bi]
         ·rw[hXo i c1,hh,Qux (by rw[Xv];omega)]
          by_cases c2:i=P2.j
          ·subst c2
           rw[Qqq HB,QuF (by rw[QuI];exact bj)]
          ·rw[Qaz HB c1 c2 (by omega),Quy (Qvw c2),Quy (Qvw c1),hB,Quz,Qux i1]
        have hresX:X9[X.length]? = some (.cells 40 6 [.agg [.v (.string {data:=#[]}),nilV,nilV,nilV,nilV,.i 0]]):=by
         rw[hXo _ (by omega),hh,Qux (by rw[Xv];omega),Qaz HB (by omega) (by omega) (by omega),hB,Quz,X8];rfl
        obtain⟨q,hqq⟩:∃q,q=X9.length:=⟨_,rfl⟩
        have hrL:∀L:AH,(X9++L)[B.length]? = _:=fun L=>hext hr0 L
        iterate 2 (try (first|(((with_reducible refine Qd fun K E hK hE=>?_));simp only[go_sem,seval])|((with_reducible refine hK _ ?_);clear hK)))
        refine YY X9.length 80 2 1 (.grow 3 1 0) (.inr ⟨_,rfl⟩) [.agg [.v (.map none),.v (.slice none 0 0)]] [.agg [.v (.map none),.sl 1 [] (some (X9.length+1))]] 1 (by rw[QuB (QuD _),Qu9];rfl) rfl (by rw[Quw];rfl) (by simp[AV.cells]) ?_
        have hZ:((X9++[AB.cells 80 2 [.agg [.v (.map none),.v (.slice none 0 0)]]])++[AB.grow 3 1 0]).set X9.length (AB.cells 80 2 [.agg [.v (.map none),.sl 1 [] (some (X9.length+1))]])=X9++[AB.cells 80 2 [.agg [.v (.map none),.sl 1 [] (some (X9.length+1))]],AB.grow 3 1 0]:=by
         rw[Quz,Qva _ _ (QuD _),Qu9];rfl
        have hN0:NSt (X9++[AB.cells 80 2 [.agg [.v (.map none),.sl 1 [] (some (X9.length+1))]],.grow 3 1 0]) X9.length []:=⟨.v (.map none),by rw[QuB (QuD _),Qu9];rfl,by rw[QuB (by omega),Qvc];rfl,.inl ⟨rfl,rfl⟩⟩
        rw[hZ]
        obtain⟨Z0,hZ0⟩:∃Z0,Z0=X9++[AB.cells 80 2 [.agg [.v (.map none),.sl 1 [] (some (X9.length+1))]],AB.grow 3 1 0]:=⟨_,rfl⟩
        have hl0:X9.length+1<Z0.length:=by rw[hZ0,Quw];simp
        have hr1:Z0[B.length]? = some (.cells 40 6 [.agg [.v (.string name2),sG av 2 nk keep2,sG av 2 nr remove2,sG gv 3 ng g2,sG gv 3 nb b4,.i 0]]):=by rw[hZ0];exact hrL _
        have hA1:At Z0 nk (layG 48 nk keep2):=by rw[hZ0];exact hAk.app _
        have hA2:At Z0 nr (layG 48 nr remove2):=by rw[hZ0];exact hAr.app _
        have hA3:At Z0 ng (layG 48 ng g2):=by rw[hZ0];exact hAg.app _
        have hA4:At Z0 nb (layG 48 nb b4):=by rw[hZ0];exact hAb.app _
        rw[<-hZ0]at hN0
        rw[<-hZ0]
        have c1:=retQ (Qh8 keep2 hSk2.1 Z0 X9.length nk [] (by have:=hSk2.2.2;omega) (by have:=hSk2.2.1;simp only[QtT];omega) (by omega) hl0 hN0 hA1)
        have hlk:=QbQ [] keep2
        have hlr:=QbQ (Ym gG [] keep2).2 remove2
        have hlg:=QbQ (Ym gG (Ym gG [] keep2).2 remove2).2 g2
        have hnd1:=hSk2.2.1
        have hnd2:=hSr2.2.1
        have hnd3:=hSg2.2.1
        have hnd4:=hSb4.2.1
        simp only[QtT]at hlk
        repeat first|(first|refine FunW.retE (FunW.call c1) fun Y=>?_|refine Qb ?_);simp only[go_sem,seval,t3,hr1]|refine hK _ ?_;clear hK
        have hY:=Y.2
        generalize Y.1=Y1 at *
        obtain⟨_,p1,n1,a1⟩:=hY
        have l1:X9.length+1<Y1.length:=by have:=p1.long;omega
        have r1:Y1[B.length]? = some (.cells 40 6 [.agg [.v (.string name2),sG av 2 nk keep2,sG av 2 nr remove2,sG gv 3 ng g2,sG gv 3 nb b4,.i 0]]):=by rw[p1.out _ (by omega) (by omega)];exact hr1
        have b2:At Y1 nr (layG 48 nr remove2):=hA2.keep fun i i1 i2=>p1.out i (by rw[Xd]at i2;omega) (by rw[Xd]at i2;omega)
        have b3:At Y1 ng (layG 48 ng g2):=hA3.keep fun i i1 i2=>p1.out i (by rw[Xd]at i2;omega) (by rw[Xd]at i2;omega)
        have b5:At Y1 nb (layG 48 nb b4):=hA4.keep fun i i1 i2=>p1.out i (by rw[Xd]at i2;omega) (by rw[Xd]at i2;omega)
        have c2:=retQ (Qh8 remove2 hSr2.1 Y1 X9.length nr _ (by have:=hSr2.2.2;omega) (by omega) (by omega) l1 n1 b2)
        simp only[QC,QtF,QtG,QtH,r1]
        repeat first|(first|refine FunW.retE (FunW.call c2) fun Y=>?_|refine Qb ?_);simp only[go_sem,seval,t3]|refine hK _ ?_;clear hK
        have hY:=Y.2
        generalize Y.1=Y2 at *
        obtain⟨_,p2,n2,a2⟩:=hY
        have l2:X9.length+1<Y2.length:=by have:=p2.long;omega
        have r2:Y2[B.length]? = some (.cells 40 6 [.agg [.v (.string name2),sG av 2 nk keep2,sG av 2 nr remove2,sG gv 3 ng g2,sG gv 3 nb b4,.i 0]]):=by rw[p2.out _ (by omega) (by omega)];exact r1
        have d1:At Y2 nk (layG 48 nk (Ym gG [] keep2).1):=a1.keep fun i i1 i2=>p2.out i (by rw[Xd,ZH]at i2;omega) (by rw[Xd,ZH]at i2;omega)
        have d3:At Y2 ng (layG 48 ng g2):=b3.keep fun i i1 i2=>p2.out i (by rw[Xd]at i2;omega) (by rw[Xd]at i2;omega)
        have d4:At Y2 nb (layG 48 nb b4):=b5.keep fun i i1 i2=>p2.out i (by rw[Xd]at i2;omega) (by rw[Xd]at i2;omega)
        have c3:=retQ (Qfh g2 hSg2.1 Y2 X9.length ng _ (by have:=hSg2.2.2;omega) (by omega) (by omega) l2 n2 d3)
        simp only[QC,QtF,QtG,QtH,r2]
        repeat first|(first|refine FunW.retE (FunW.call c3) fun Y=>?_|refine Qb ?_);simp only[go_sem,seval,t3]|refine hK _ ?_;clear hK
        have hY:=Y.2
        generalize Y.1=Y3 at *
        obtain⟨_,p3,n3,a3⟩:=hY
        have l3:X9.length+1<Y3.length:=by have:=p3.long;omega
        have r3:Y3[B.length]? = some (.cells 40 6 [.agg [.v (.string name2),sG av 2 nk keep2,sG av 2 nr remove2,sG gv 3 ng g2,sG gv 3 nb b4,.i 0]]):=by rw[p3.out _ (by omega) (by omega)];exact r2
        have m1:At Y3 nk (layG 48 nk (Ym gG [] keep2).1):=d1.keep fun i i1 i2=>p3.out i (by rw[Xd,ZH]at i2;omega) (by rw[Xd,ZH]at i2;omega)
        have m2:=a2.keep (Y:=Y3) fun i i1 i2=>p3.out i (by rw[Xd,ZH]at i2;omega) (by rw[Xd,ZH]at i2;omega)
        have m4:At Y3 nb (layG 48 nb b4):=d4.keep fun i i1 i2=>p3.out i (by rw[Xd]at i2;omega) (by rw[Xd]at i2;omega)
        have c4:=retQ (Qfh b4 hSb4.1 Y3 X9.length nb _ (by have:=hSb4.2.2;omega) (by omega) (by omega) l3 n3 m4)
        simp only[QC,QtF,QtG,QtH,r3]
        repeat first|(first|refine FunW.retE (FunW.call c4) fun Y=>?_|refine Qb ?_);simp only[go_sem,seval,t3]|refine hK _ ?_;clear hK
        have hY:=Y.2
        generalize Y.1=Y4 at *
        obtain⟨_,p4,n4,a4⟩:=hY
        have hb4l:=QbQ (Ym gG (Ym gG (Ym gG [] keep2).2 remove2).2 g2).2 b4
        have w1:=m1.keep (Y:=Y4) fun i i1 i2=>p4.out i (by rw[Xd,ZH]at i2;omega) (by rw[Xd,ZH]at i2;omega)
        have w2:=m2.keep (Y:=Y4) fun i i1 i2=>p4.out i (by rw[Xd,ZH]at i2;omega) (by rw[Xd,ZH]at i2;omega)
        have w3:=a3.keep (Y:=Y4) fun i i1 i2=>p4.out i (by rw[Xd,ZH]at i2;omega) (by rw[Xd,ZH]at i2;omega)
        have r4:Y4[B.length]? = some (.cells 40 6 [.agg [.v (.string name2),sG av 2 nk keep2,sG av 2 nr remove2,sG gv 3 ng g2,sG gv 3 nb b4,.i 0]]):=by rw[p4.out _ (by omega) (by omega)];exact r3
        have rlow:∀i,i<B.length->Y4[i]? = X9[i]? := fun i i1=>by
         rw[p4.out i (by omega) (by omega),p3.out i (by omega) (by omega),p2.out i (by omega) (by omega),p1.out i (by omega) (by omega),hZ0,Qux (by omega)]
        have rX:Y4[X.length]? = some (.cells 40 6 [.agg [.v (.string {data:=#[]}),nilV,nilV,nilV,nilV,.i 0]]):=by rw[rlow _ (by omega)];exact hresX
        obtain⟨toV,z1,z2,z3⟩:=n4
        have l4:B.length+2<=Y4.length:=by have:=Qf z1;omega
        have u1:∀y,(Y4.set B.length y)[B.length]? = some y:=fun y=>QuF (by omega)
        have u2:∀y,(Y4.set B.length y)[X.length]? = some (.cells 40 6 [.agg [.v (.string {data:=#[]}),nilV,nilV,nilV,nilV,.i 0]]):=fun y=>by rw[Quy (by omega)];exact rX
        have u3:∀y z,((Y4.set B.length y).set X.length z)[X.length]? = some z:=fun y z=>QuF (by rw[QuI];omega)
        simp only[QC,Xs,QI,Xz,QtZ,Qt0,QL,Qt1,↓reduceIte,QtS,QtT,Nat.reduceAdd,Nat.reduceLeDiff,Nat.reduceEqDiff,QtR,Qud,QtF,QtG,Qt9,QtH,Qt7,Qt6,Qt8,QtQ,QtX,QtO,QtW,QtJ,Qs,r4,z1,Qs]
        repeat first|refine Qb ?_;simp only[go_sem,seval,t2,t3,u1,u2,Qdw]|refine hK _ ?_;clear hK
        simp only[go_sem,seval,t2,u3]
        have nl:=QlD ⟨name2,keep2,remove2,g2,b4,0⟩
        have hsx:∀(y z:AB) (i:Nat),i≠B.length->i≠X.length->((Y4.set B.length y).set X.length z)[i]? = Y4[i]? := fun y z i i1 i2=>by rw[Quy (Qvw i2),Quy (Qvw i1)]
        refine .inr (hQo _ s6 _ _ (by rw[QbA,hs0,hpart,hb3,hT4];rfl) ?_)
        rw[nl]
        exact⟨nk,nr,ng,nb,by simp only[QpP QqK,QpP Qpy],by omega,by omega,by omega,by omega,w1.keep fun i i1 i2=>hsx _ _ i (by omega) (by omega),w2.keep fun i i1 i2=>hsx _ _ i (by omega) (by omega),w3.keep fun i i1 i2=>hsx _ _ i (by omega) (by omega),a4.keep fun i i1 i2=>hsx _ _ i (by omega) (by omega),by simp only[QuI];omega,Qvs fun i=>by
         by_cases i1:i<X.length
         ·rw[QuW i1,hsx _ _ i (by omega) (by omega),rlow i (by omega),hlow i i1]
         ·rw[QvX (by omega),Qvf (by simp only[QuI];omega)]⟩
       ·have hnl:=fun t'=>Qdn Tryz.prog 32 t' 46 (by kernel_rfl)
        rcases b2 with _|⟨x,_|⟨y,l⟩⟩
        ·simp only[Qrz]
         have z0:((0:Int)==1)=false:=rfl
         repeat first|refine Qb ?_;simp only[go_sem,seval,t3,rB,f3,hnl,z0]|refine hK _ ?_;clear hK
         exact⟨_,_,hT3,rfl,t0,t2,t3,hW6,hSk,hSr,hSg,Qd9,nk,nr,ng,nb,x6,M,rfl,hAk,hAr,hAg,At.nil _ _,o1,o2,o3,o4,o5⟩
        ·have hv:sG gv 3 nb [x] = .sl 3 [gv (nb+1) x] none:=rfl
         have e7:(gv (nb+1) x).cells=[.i x.op,.v (.string x.name),lsl (nb+1) x.args]:=rfl
         have e8:(gv (nb+1) x).isAgg=true:=rfl
         have u1:((((1:Nat):Int))==1)=true:=rfl
         have u2:(0:Int)<((1:Nat):Int):=by decide
         by_cases hx1:x.op=1
         ·have z1:(x.op==1)=true:=by simpa using hx1
          repeat first|refine Qb ?_;simp only[go_sem,seval,t3,rB,f3,f5,hv,e7,z1,u1,u2]|refine hK _ ?_;clear hK
          have hd:Qlk [x]=[]:=by simp[Qlk,hx1]
          rw[hd]at hT3
          have q1:nk+(layG 48 nk keep).length<=B.length+2+M.length:=by rw[Xd];omega
          have q2:nr+(layG 48 nr remove).length<=B.length+2+M.length:=by rw[Xd];omega
          have q3:ng+(layG 48 ng g).length<=B.length+2+M.length:=by rw[Xd];omega
          have q5:B.length+2<=nr:=by omega
          have q6:B.length+2<=ng:=by omega
          have q7:nb+gsz []<=B.length+2+M.length:=by rw[hz0];omega
          have k1:=fun x y=>QaV (s':=s5.nx) (a':=x) (b':=y) (N:=[]) hAk o1 q1
          have k2:=fun x y=>QaV (s':=s5.nx) (a':=x) (b':=y) (N:=[]) hAr q5 q2
          have k3:=fun x y=>QaV (s':=s5.nx) (a':=x) (b':=y) (N:=[]) hAg q6 q3
          rw[Qt8]at k1 k2 k3
          exact⟨_,_,hT3,rfl,t0,t2,t3,hW6,hSk,hSr,hSg,Qd9,nk,nr,ng,nb,x6,M,rfl,k1 _ _,k2 _ _,k3 _ _,At.nil _ _,o1,o2,o3,o4,q7⟩
         ·have z1:(x.op==1)=false:=by simpa using hx1
          repeat first|refine Qb ?_;simp only[go_sem,seval,t3,rB,f3,hv,e7,z1,u1,u2]|refine hK _ ?_;clear hK
          have hd:Qlk [x]=[x]:=by simp[Qlk,hx1]
          rw[hd]at hT3
          exact⟨_,_,hT3,rfl,t0,t2,t3,hW6,hSk,hSr,hSg,hSb2,nk,nr,ng,nb,x6,M,rfl,hAk,hAr,hAg,hAb,o1,o2,o3,o4,o5⟩
        ·have hv:sG gv 3 nb (x::y::l) = .sl 3 (lvG gv nb (x::y::l)) none:=rfl
         have hvl:=ZM gv nb (x::y::l)
         have z1:(((l.length+1+1:Nat):Int)==1)=false:=QvQ.2 (by omega)
         have u2:(0:Int)<((l.length+1+1:Nat):Int):=by omega
         repeat first|refine Qb ?_;simp only[go_sem,seval,t3,rB,f3,hv,hvl,z1]|refine hK _ ?_;clear hK
         exact⟨_,_,hT3,rfl,t0,t2,t3,hW6,hSk,hSr,hSg,hSb2,nk,nr,ng,nb,x6,M,rfl,hAk,hAr,hAg,hAb,o1,o2,o3,o4,o5⟩
      ·cases p1:s5.is sDot with
       |true =>
        have cx:=fun L=>YL hW5 HB hN L {data:=#[46]} (by rw[bDot];exact p1)
        repeat first|(first|refine FunW.QsR (cx _) ?_|refine Qb ?_);simp only[go_sem,seval,t0,rB,hi5]|refine hK _ ?_;clear hK
        have q1:nk+(layG 48 nk keep).length<=B.length+2+M.length:=by rw[Xd];omega
        have q2:nr+(layG 48 nr remove).length<=B.length+2+M.length:=by rw[Xd];omega
        have q3:ng+(layG 48 ng g).length<=B.length+2+M.length:=by rw[Xd];omega
        have q4:nb+(layG 48 nb b2).length<=B.length+2+M.length:=by rw[Xd];omega
        have q5:B.length+2<=nr:=by omega
        have q6:B.length+2<=ng:=by omega
        have q7:B.length+2<=nb:=by omega
        have k1:=fun x y=>QaV (s':=s5.nx) (a':=x) (b':=y) (N:=[]) hAk o1 q1
        have k2:=fun x y=>QaV (s':=s5.nx) (a':=x) (b':=y) (N:=[]) hAr q5 q2
        have k3:=fun x y=>QaV (s':=s5.nx) (a':=x) (b':=y) (N:=[]) hAg q6 q3
        have k4:=fun x y=>QaV (s':=s5.nx) (a':=x) (b':=y) (N:=[]) hAb q7 q4
        rw[Qt8]at k1 k2 k3 k4
        exact⟨rfl,t0,t2,t3,hW5.nx,hSk,hSr,hSg,hSb2,nk,nr,ng,nb,x6,M,rfl,k1 _ _,k2 _ _,k3 _ _,k4 _ _,o1,o2,o3,o4,o5⟩
       |false =>
        have cx:=fun L=>Zp hW5 HB hN L {data:=#[46]} (by rw[bDot];exact p1)
        repeat first|(first|refine FunW.pan (FunW.call (cx _)) ?_|refine Qb ?_);simp only[go_sem,seval,t0,rB,hi5]|refine hK _ ?_;clear hK
        exact .inr (hErr3 _ _ _ _ (by rw[hT2,finT,YM,QuE (by rw[p1];decide)];rfl))
     ·cases p1:s4.is sBar with
      |false =>
       rw[p1]at hT
       have cs:=fun L=>Qa2 hW4 HB hN L {data:=#[124]} (by rw[bBar];exact p1)
       repeat first|(first|refine FunW.QsR (cs _) ?_|refine Qb ?_);simp only[go_sem,seval,t0,rB,hi4]|refine hK _ ?_;clear hK
       exact⟨[],b,s4,by rw[hT];rfl,t0,t2,t3,hW4,hSk,hSr,Qd9,hSb,nk,nr,ng,nb,x5,M,rfl,hAk,hAr,hAg,hAb,o1,o2,o3,o4,o5⟩
      |true =>
       rw[p1]at hT
       have cs:=fun L=>QaB hW4 HB hN L {data:=#[124]} (by rw[bBar];exact p1)
       have hi5:=ph_i HB s4.nx
       simp only[pB]at hi5
       cases hr4:Y8 12 s4.nx with
       |err p e =>
        have cg:=fun L=>QgF hW4.nx HB hN hD L (most:=12) (by omega) hr4
        simp only[show((12:Nat):Int)=12 from rfl]at cg
        repeat first|(first|refine FunW.QsR (cs _) ?_|refine Qb ?_);simp only[go_sem,seval,t0,rB,hi4]|refine hK _ ?_;clear hK
        refine XV 3 [(0,0),(1,0),(2,0),(4,0)] mixed rfl rfl rfl (by kernel_rfl) (fun v h'=>v=Fl p e/\∃s' L,h'=ph B P2 s'++L) ?_ ?_
        ·rintro tm v h' ⟨rfl,s',L,rfl⟩
         exact .inr (hErr3 _ _ _ _ (by rw[hT];show(Y8 12 s4.nx).bind _=_;rw[hr4];rfl))
        ·simp only[go_sem,seval,t0,t3,f3]
         exact fun _=>(FunW.call (cg _)).mono (by rintro _ _ ⟨rfl,x,rfl⟩;exact⟨_,rfl,rfl,_,_,rfl⟩)
       |ok b2 s5 =>
        have hW5:Wst P2.all s5:=Kp.Ps.ok (n:=wdOf P2.all) (Kp.goals_ps trivial 12) hW4.nx hr4
        have cg:=fun c d=>Qir hW4.nx HB hN hD (c::d::M) (most:=12) (by omega) hr4 (k:=B.length+2+M.length) (by simp only[QtS];omega)
        simp only[show((12:Nat):Int)=12 from rfl,Qt7]at cg
        repeat first|(first|refine FunW.QsR (cs _) ?_|refine Qb ?_);simp only[go_sem,seval,t0,rB,hi4]|refine hK _ ?_;clear hK
        have q1:nk+(layG 48 nk keep).length<=B.length+2+M.length:=by rw[Xd];omega
        have q2:nr+(layG 48 nr remove).length<=B.length+2+M.length:=by rw[Xd];omega
        have q3:nb+(layG 48 nb b).length<=B.length+2+M.length:=by rw[Xd];omega
        have q4:B.length+2+M.length+gsz b2<=B.length+2+(M++layG 48 (B.length+2+M.length) b2).length:=by rw[Quw,Xd];omega
        have hb20:=QeK hr4
        have q5:B.length+2<=nr:=by omega
        have q6:B.length+2<=nb:=by omega
        have q7:nr+gsz remove<=nb:=by omega
        have q8:nb+gsz b<=B.length+2+M.length:=o5
        have hAb2:∀(x y:AB),At (ph B P2 s5++(x::y::(M++layG 48 (B.length+2+M.length) b2))) (B.length+2+M.length) (layG 48 (B.length+2+M.length) b2):=fun x y=>by
         have:=At.base (At.mid (x::y::M) (layG 48 (B.length+2+M.length) b2) [] (n:=2+M.length) (by simp only[QtS];omega)) (Xv B P2 s5)
         rw[show B.length+(2+M.length)=B.length+2+M.length by omega,Qt8]at this
         exact this
        have fin:∀tm':Nat->AV,tm' 0 = .ptr P2.i 0 0->tm' 2 = .ptr X.length 0 0->tm' 3 = .ptr B.length 0 0->∃g b6 s6,QaI name keep remove s3=finT name keep remove g b6 s6/\RH B P2 X s6 ⟨name,keep,remove,g,b6,0⟩ ⟨tm',ph B P2 s5++(AB.cells 40 6 [.agg [.v (.string name),sG av 2 nk keep,sG av 2 nr remove,sG gv 3 nb b,.sl 3 (lvG gv (B.length+2+M.length) b2) none,.i 0]]::x5::(M++layG 48 (B.length+2+M.length) b2))⟩:=fun tm' k0 k2 k3 =>
         ⟨b,b2,s5,by rw[hT];show(Y8 12 s4.nx).bind _=_;rw[hr4];rfl,k0,k2,k3,hW5,hSk,hSr,hSb,Qi9 (QuD _) hr4,nk,nr,nb,B.length+2+M.length,x5,M++layG 48 (B.length+2+M.length) b2,
          by rw[Qgl gv 3 _ hb20];rfl,QaV hAk o1 q1,QaV hAr q5 q2,QaV hAb q6 q3,hAb2 _ _,o1,o2,q7,q8,q4⟩
        refine ZK (.node [(2,0)] 3 0 (.leaf [(3,2),(0,0),(1,0),(4,0),(5,2),(6,0),(7,2)]) (.node [(0,0)] 3 1 (.leaf [(3,2),(1,0),(4,0),(5,2),(6,0),(7,2)]) (.node [(1,0)] 3 4 (.leaf [(3,2),(4,0),(5,2),(6,0),(7,2)]) (.leaf [(4,0),(3,2),(5,2),(6,0),(7,2)])))) mixed (by kernel_rfl) (fun K2 hK2=>?_)
        simp only[OT.walk]
        simp only[go_sem,seval,t0,t3,f3]
        refine⟨?_,?_,?_,?_⟩
        ·refine Yt (FunW.call (cg _ _)) Qah ?_
         simp only[go_sem,seval,t3,f3,f5,QeP,QeQ,Qdw]
         refine hK2 _ (fin _ ?_ ?_ ?_) <;> assumption
        ·refine Yt (FunW.call (cg _ _)) Qah ?_
         simp only[go_sem,seval,t3,f3,f5,QeP,QeQ,Qdw]
         refine hK2 _ (fin _ ?_ ?_ ?_) <;> assumption
        ·refine Yt (FunW.call (cg _ _)) Qah ?_
         simp only[go_sem,seval,t3,f3,f5,QeP,QeQ,Qdw]
         refine hK2 _ (fin _ ?_ ?_ ?_) <;> assumption
        ·refine Yt (FunW.call (cg _ _)) Qah ?_
         simp only[go_sem,seval,t3,f3,f5,QeP,QeQ,Qdw]
         refine hK2 _ (fin _ ?_ ?_ ?_) <;> assumption
    ·cases hr3:Y8 12 s3 with
     |err p e =>
      have cg:=fun L=>QgF hW3 HB hN hD L (most:=12) (by omega) hr3
      simp only[show((12:Nat):Int)=12 from rfl]at cg
      repeat first|(first|refine FunW.panE (FunW.call (cg _)) fun r=>?_|refine Qb ?_);simp only[go_sem,seval,t0,rB]|refine hK _ ?_;clear hK
      exact .inr (hErr3 _ _ _ _ (by rw[QkC,hr3];rfl))
     |ok b s4 =>
      obtain⟨hSb,hb0⟩:SmG b/\b≠[]:=⟨Qi9 (QuD _) hr3,QeK hr3⟩
      have hW4:Wst P2.all s4:=Kp.Ps.ok (n:=wdOf P2.all) (Kp.goals_ps trivial 12) hW3 hr3
      have cg:=fun c d=>Qir hW3 HB hN hD (c::d::M) (most:=12) (by omega) hr3 (k:=B.length+2+M.length) (by simp only[QtS];omega)
      simp only[show((12:Nat):Int)=12 from rfl,Qt7]at cg
      repeat first|(first|refine FunW.QsR (cg _ _) ?_|refine Qb ?_);simp only[go_sem,seval,t0,t3,rB,f3,f5]|refine hK _ ?_;clear hK
      have hAb:∀(x y:AB),At (ph B P2 s4++(x::y::(M++layG 48 (B.length+2+M.length) b))) (B.length+2+M.length) (layG 48 (B.length+2+M.length) b):=fun x y=>by
       have:=At.base (At.mid (x::y::M) (layG 48 (B.length+2+M.length) b) [] (n:=2+M.length) (by simp only[QtS];omega)) (Xv B P2 s4)
       rw[show B.length+(2+M.length)=B.length+2+M.length by omega,Qt8]at this
       exact this
      have q1:nk+(layG 48 nk keep).length<=B.length+2+M.length:=by rw[Xd];omega
      have q2:nr+(layG 48 nr remove).length<=B.length+2+M.length:=by rw[Xd];omega
      have q3:B.length+2+M.length+gsz b<=B.length+2+(M++layG 48 (B.length+2+M.length) b).length:=by rw[Quw,Xd];omega
      refine⟨b,s4,rfl,t0,t2,t3,hW4,hSk,hSr,Qd9,hSb,nk,nr,B.length+2+M.length,B.length+2+M.length,x5,M++layG 48 (B.length+2+M.length) b,?_,QaV hAk o1 q1,QaV hAr (by omega) q2,At.nil _ _,hAb _ _,o1,o2,o3,QuD _,q3⟩
      show _=ph B P2 s4++(rB name _ _ _ (sG gv 3 _ b)::_)
      rw[Qgl gv 3 _ hb0];rfl
   ·cases p1:s2.is Qgm with
    |true =>
     have p3:s2.is QbD=false:=QpD p1 (by decide)
     rw[p3,p1]at hB1
     have cs:=fun L=>QaB hW2 HB hN L {data:=#[61,61,62]} (by rw[bProp];exact p1)
     have hi3:=ph_i HB s2.nx
     simp only[pB]at hi3
     repeat first|(first|refine FunW.QsR (cs _) ?_|refine Qb ?_);simp only[go_sem,seval,t0,t3,t5,rB,f3,f5,hi2]|refine hK _ ?_;clear hK
     exact⟨l,[],s2.nx,B.length+2,B.length+2+gsz l,x4,layG 48 (B.length+2) l,by rw[hB1];rfl,hW2.nx,hS1,Qd9,t0,t2,t3,by rw[hsl];rfl,by have:=hAl (rB name (.sl 2 (lvG av (B.length+2) l) none) nilV nilV nilV) x4 [] s2.nx;rw[Qt8]at this;exact this,At.nil _ _,QuD _,QuD _,by rw[Xd];exact QuD _⟩
    |false =>
     have cs:=fun L=>Qa2 hW2 HB hN L {data:=#[61,61,62]} (by rw[bProp];exact p1)
     cases p2:s2.is Qgk with
     |true =>
      have p3:s2.is QbD=false:=QpD p2 (by decide)
      rw[p3,p1,p2]at hB1
      have cs2:=fun L=>QaB hW2 HB hN L {data:=#[92]} (by rw[bBack];exact p2)
      have hi3:=ph_i HB s2.nx
      simp only[pB]at hi3
      cases hr2:ZO l.length s2.nx with
      |err p e =>
       have ch:=fun L=>QgI hW2.nx HB hN hD L (by omega) hr2
       repeat first|(first|refine FunW.QsR (cs _) ?_|refine FunW.QsR (cs2 _) ?_|refine FunW.panE (FunW.call (ch _)) fun r=>?_|refine Qb ?_);simp only[go_sem,seval,t0,t5,rB,hi2,hlvl]|refine hK _ ?_;clear hK
       exact .inr (hErr2 _ _ _ _ (by rw[hB1];show(ZO l.length s2.nx).bind _=_;rw[hr2];rfl))
      |ok rem s4 =>
       have ch:=fun c d=>Qiu hW2.nx HB hN hD (c::d::layG 48 (B.length+2) l) (by omega) hr2 (k:=B.length+2+gsz l) (by rw[QtS,QtS,Xd];omega)
       simp only[Qt7]at ch
       have hW4:Wst P2.all s4:=Kp.Ps.ok (n:=wdOf P2.all) (Kp.heads_ps trivial l.length) hW2.nx hr2
       have hi4:=ph_i HB s4
       simp only[pB]at hi4
       cases p5:s4.is QbD with
       |true =>
        have cx:=fun L=>YL hW4 HB hN L {data:=#[60,61,62]} (by rw[bSimp];exact p5)
        repeat first|(first|refine FunW.QsR (cs _) ?_|refine FunW.QsR (cs2 _) ?_|refine FunW.QsR (ch _ _) ?_|refine FunW.QsR (cx _) ?_|refine Qb ?_);simp only[go_sem,seval,t0,t3,t5,rB,f3,f5,hi2,hi4,hlvl]|refine hK _ ?_;clear hK
        obtain⟨hS2,hm4,hm0⟩:=Qja hr2
        have hsl2:=Qgl av 2 (B.length+2+gsz l) (l:=rem) (by rintro rfl;simp at hm0)
        refine⟨l,rem,s4.nx,B.length+2,B.length+2+gsz l,x4,layG 48 (B.length+2) l++layG 48 (B.length+2+gsz l) rem,?_,hW4.nx,hS1,hS2,t0,t2,t3,by rw[hsl,hsl2];rfl,hAl (rB name (.sl 2 (lvG av (B.length+2) l) none) (.sl 2 (lvG av (B.length+2+gsz l) rem) none) nilV nilV) x4 _ s4.nx,?_,QuD _,QuD _,by rw[Quw,Xd,Xd];omega⟩
        ·rw[hB1];show(ZO l.length s2.nx).bind _=_;rw[hr2];show(YM QbD s4).bind _=_;rw[YM,QuH p5];rfl
        ·have:=At.base (At.mid (rB name (.sl 2 (lvG av (B.length+2) l) none) (.sl 2 (lvG av (B.length+2+gsz l) rem) none) nilV nilV::x4::layG 48 (B.length+2) l) (layG 48 (B.length+2+gsz l) rem) [] (n:=2+gsz l) (by rw[QtS,QtS,Xd];omega)) (Xv B P2 s4.nx)
         rw[show B.length+(2+gsz l)=B.length+2+gsz l by omega,Qt8]at this
         exact this
       |false =>
        have cx:=fun L=>Zp hW4 HB hN L {data:=#[60,61,62]} (by rw[bSimp];exact p5)
        repeat first|(first|refine FunW.QsR (cs _) ?_|refine FunW.QsR (cs2 _) ?_|refine FunW.QsR (ch _ _) ?_|refine FunW.pan (FunW.call (cx _)) ?_|refine Qb ?_);simp only[go_sem,seval,t0,t3,t5,rB,f3,f5,hi2,hi4,hlvl]|refine hK _ ?_;clear hK
        exact .inr (hErr2 _ _ _ _ (by rw[hB1];show(ZO l.length s2.nx).bind _=_;rw[hr2];show(YM QbD s4).bind _=_;rw[YM,QuE (by rw[p5];decide)];rfl))
     |false =>
      have cs2:=fun L=>Qa2 hW2 HB hN L {data:=#[92]} (by rw[bBack];exact p2)
      rw[p1,p2]at hB1
      cases p3:s2.is QbD with
      |true =>
       rw[p3]at hB1
       have cx:=fun L=>YL hW2 HB hN L {data:=#[60,61,62]} (by rw[bSimp];exact p3)
       have hi3:=ph_i HB s2.nx
       simp only[pB]at hi3
       repeat first|(first|refine FunW.QsR (cs _) ?_|refine FunW.QsR (cs2 _) ?_|refine FunW.QsR (cx _) ?_|refine Qb ?_);simp only[go_sem,seval,t0,t3,t5,rB,f3,f5,hi2]|refine hK _ ?_;clear hK
       exact⟨[],l,s2.nx,B.length+2,B.length+2,x4,layG 48 (B.length+2) l,by rw[hB1];rfl,hW2.nx,Qd9,hS1,t0,t2,t3,by rw[hsl];rfl,At.nil _ _,by have:=hAl (rB name nilV (.sl 2 (lvG av (B.length+2) l) none) nilV nilV) x4 [] s2.nx;rw[Qt8]at this;exact this,QuD _,QuD _,by rw[Xd];exact QuD _⟩
      |false =>
       rw[p3]at hB1
       have cx:=fun L=>Zp hW2 HB hN L {data:=#[60,61,62]} (by rw[bSimp];exact p3)
       repeat first|(first|refine FunW.QsR (cs _) ?_|refine FunW.QsR (cs2 _) ?_|refine FunW.pan (FunW.call (cx _)) ?_|refine Qb ?_);simp only[go_sem,seval,t0,rB,hi2]|refine hK _ ?_;clear hK
       exact .inr (hErr2 _ _ _ _ (by rw[hB1];rfl))
  ·cases hr:ZO 0 s1 with
   |err p e =>
    have ch:=fun L=>QgI hW1 HB hN hD L (by omega) hr
    repeat first|(first|refine FunW.panE (FunW.call (ch _)) fun r=>?_|refine Qb ?_);simp only[go_sem,seval,t0]|refine hK _ ?_;clear hK
    exact .inr (hErr2 _ _ _ _ (by rw[bodyT,hr];rfl))
   |ok l s2 =>
    have ch:=fun c=>Qiu hW1 HB hN hD [rB name nilV nilV nilV nilV,c] (by omega) hr (k:=B.length+2) rfl
    simp only[Qt7,Qt6]at ch
    repeat first|(first|refine FunW.QsR (ch _) ?_|refine Qb ?_);simp only[go_sem,seval,t0]|refine hK _ ?_;clear hK
    exact⟨t0,t2,t3,l,s2,rfl,rfl,rfl⟩
 ·iterate 3 (try (first|((first|(with_reducible (first|refine Qd fun K E hK hE=>?_|refine FunW.QsR (ca _) ?_)));simp only[go_sem,seval,hi,f1,f4,f6,e3,e4])|((with_reducible refine hK _ ?_);clear hK)))
  refine Yb (fun st=>st.tm 0 = .ptr P2.i 0 0/\st.tm 2 = .ptr X.length 0 0/\st.tm 3 = .ptr B.length 0 0/\st.tm 28 = .b (s0.tk.kind==1&&s0.nx.is sAt)/\∃x4,st.h=ph B P2 s0++[rB {data:=#[]} nilV nilV nilV nilV,x4]) ?_ ?_
  ·rintro⟨tm,hp⟩ ⟨t0,t2,t3,t28,x4,rfl⟩
   simp only at t0 t2 t3 t28
   cases hc:(s0.tk.kind==1&&s0.nx.is sAt)with
   |false =>
    rw[hc]at t28
    have hpart:QaH s0=bodyT eB s0:=by
     rw[QgR,QuE]
     rintro⟨h1,h2⟩
     rw[h1,h2]at hc
     exact absurd hc (by decide)
    refine Qm (t:=false) t28 ?_
    simp only[QtJ,Qvy]
    repeat first|refine Qb ?_;simp only[go_sem,seval]|refine hK _ ?_;clear hK
    exact⟨_,s0,hpart,hW,t0,t2,t3,_,rfl⟩
   |true =>
    rw[hc]at t28
    simp only[QuR,Qvx]at hc
    have hpart:QaH s0=(QaC s0).bind fun x s=>bodyT x s.nx:=by rw[QgR,QuH hc]
    cases hn:QaC s0 with
    |err p e =>
     have cm:=fun L=>Qhx hW HB hN L hn
     refine Qm (t:=true) t28 ?_
     simp only[QvB]
     repeat first|(first|refine FunW.panE (FunW.call (cm _)) fun r=>?_|refine Qb ?_);simp only[go_sem,seval,t0,rB,hi]|refine hK _ ?_;clear hK
     exact .inr (hErr _ _ _ _ (by rw[hpart,hn];rfl))
    |ok x s1 =>
     have cm:=fun L=>QjH hW HB hN L hn
     have hi1:=ph_i HB s1
     simp only[pB]at hi1
     have hs1:s1=s0.nx:=by
      unfold QaC at hn
      split at hn
      ·cases hn
      ·split at hn
       ·cases hn
       ·cases hn;rfl
     subst hs1
     have cx:=fun L=>YL hW.nx HB hN L {data:=#[64]} (by rw[show({data:=#[64]}:ByteArray).toList=sAt from tl sAt];exact hc.2)
     refine Qm (t:=true) t28 ?_
     simp only[QvB]
     repeat first|(first|refine FunW.QsR (cm _) ?_|refine FunW.QsR (cx _) ?_|refine Qb ?_);simp only[go_sem,seval,t0,t3,rB,f3,f5,hi,hi1]|refine hK _ ?_;clear hK
     exact⟨x,s0.nx.nx,by rw[hpart,hn];rfl,hW.nx.nx,t0,t2,t3,_,rfl⟩
  ·by_cases k1:s0.tk.kind=1
   ·have z1:(s0.tk.kind==1)=true:=by simpa using k1
    by_cases k2:s0.nx.tk.kind=4
    ·have z2:(s0.nx.tk.kind==4)=true:=by simpa using k2
     repeat first|(first|refine FunW.QsR (cn _) ?_|refine Qb ?_);simp only[go_sem,seval,hi,f4,e1,e2,e3,z1,z2]|refine hK _ ?_;clear hK
     exact⟨rfl,rfl,rfl,by rw[hAt,z1,z2,<-tl sAt];rfl,_,rfl⟩
    ·have z2:(s0.nx.tk.kind==4)=false:=by simpa using k2
     repeat first|(first|refine FunW.QsR (cn _) ?_|refine Qb ?_);simp only[go_sem,seval,hi,f4,e1,e2,e3,z1,z2]|refine hK _ ?_;clear hK
     exact⟨rfl,rfl,rfl,by rw[hAt,z1,z2];rfl,_,rfl⟩
   ·have z1:(s0.tk.kind==1)=false:=by simpa using k1
    repeat first|(first|refine FunW.QsR (cn _) ?_|refine Qb ?_);simp only[go_sem,seval,hi,e1,e2,z1]|refine hK _ ?_;clear hK
    exact⟨rfl,rfl,rfl,by rw[z1,Qwl];rfl,_,rfl⟩
theorem QnQ:QA Tryz.prog 22 [.ptr P.i 0 0] X (RuQ X P (QbA s)):=by
 refine Qlb (Q0:=fun o h'=>(∃p e,QbA s = .err p e/\ErrY X P h'/\o = .panic (Fl p e))\/∃r s6,QbA s = .ok r s6/\RuR X P r s6 o h') (Qpe HP hW hN hD _ (fun p e h' h k=>.inl ⟨p,e,h,k,rfl⟩) fun r s6 o h' h k=>.inr ⟨r,s6,h,k⟩) fun hbel o h' h=>?_
 rcases h with⟨p,e,h,hy,rfl⟩|⟨r,s6,h,nk,nr,ng,nb,rfl,e1,e2,e3,e4,a1,a2,a3,a4,hl,ht⟩
 ·rw[h];exact .inl ⟨rfl,⟨h',hy⟩,rfl⟩
 ·rw[h]
  refine .inr ⟨_,r.av,rfl,hl,fun b hb=>?_,?_,rfl,ht⟩
  ·rw[ht]at hb
   obtain⟨k,hk⟩:=List.mem_iff_getElem?.1 hb
   have hj:=Qf HP.j
   have hi:=Qf HP.i
   by_cases c1:k=P.j
   ·subst c1
    rw[QuF (by rw[QuI];exact hj)]at hk
    cases hk
    exact Qkt (HP.ok [] .dead) s6 _
   ·rw[Quy (Qvw c1)]at hk
    by_cases c2:k=P.i
    ·subst c2
     rw[QuF hi]at hk
     cases hk
     intro a ha
     simp only[flat,Qwc,QwB,Qt8,AV.cells,QuL,QuS,Qvz]at ha
     rcases ha with rfl|rfl|rfl|rfl
     ·exact .sl 3 _ none (Qb0 _ _) (fun b hb=>by cases hb)
     ·exact .v _
     ·exact .sl 1 _ _ (QbE _ _) (fun b hb=>by cases hb)
     ·exact .mp _ hj
    ·rw[Quy (Qvw c2)]at hk
     exact hbel k b hk
  ·refine .agg rfl fun j a a' h1 h2=>?_
   match j,h1,h2 with
   |0,h1,h2=>cases h1;cases h2;exact .keep (.v _)
   |1,h1,h2=>cases h1;cases h2;exact Qm6 _ e1 a1
   |2,h1,h2=>cases h1;cases h2;exact Qm6 _ e2 a2
   |3,h1,h2=>cases h1;cases h2;exact Qm7 _ e3 a3
   |4,h1,h2=>cases h1;cases h2;exact Qm7 _ e4 a4
   |5,h1,h2=>cases h1;cases h2;exact .keep (.v _)
   |j+6,h1,h2=>simp at h1
end
end Go.Proofs.YticgcpebdldbgaaGreatDoor.Ab
namespace Go.Proofs.YticgcpebdldbgaaGreatDoor.Ab
open Go.Proofs
def DcQ(h:AH)(P:Pz):PR (List Dc)->AOut->AH->Prop
 | .ok l s,o,h'=>o = .ret (.sl 2 (vs Dc.av l) none)/\h'=ph h P s
 | .err p e,o,h'=>o = .panic (Fl p e)/\∃s,h'=ph h P s
theorem QmC(n:Nat)(l:List Dc):∀a∈flat (vs Dc.av l),Below n a:=Qn6 Dc.av n (fun d=>Dc.bel n d) l
section
variable{P:Pz}{s:PS}(hW:Wst P.all s){h:AH}(H:P.ok h)(hN:P.all.length<=1000000)(hD:TkOk P.all)
include hW H hN hD
theorem Qli:QA Tryz.prog 19 [.ptr P.i 0 0] (ph h P s) (DcQ h P (Qa0 (s.toks.length+1) [] s)):=by
 have f1:=Xv h P
 have f3:=Yu h P
 have f4:=Zh h P
 have f5:=X7 h P
 have f6:=YB h P
 have hi0:=YW H s
 have hi:=ph_i H s
 simp only[pB]at hi hi0
 have cn0:=fun L=>nextL hW (YW H s) L
 have g1:=Tk.QsS s.tk
 have g2:=Tk.QsT s.tk
 have bSl:({data:=#[47]}:ByteArray).toList=QfP:=tl QfP
 have bCo:({data:=#[44]}:ByteArray).toList=Zt:=tl Zt
 have bDo:({data:=#[46]}:ByteArray).toList=sDot:=tl sDot
 generalize hR:Qa0 (s.toks.length+1) [] s=R
 refine Qa Tryz.func19 rfl Tryz.call19 Tryz.ntmps19 Tryz.results19 (by simp) ?_
 iterate 4 (try (first|(((with_reducible refine Qd fun K E hK hE=>?_));simp only[go_sem,seval])|((with_reducible refine hK _ ?_);clear hK)))
 refine Zu 3 75 2 rfl ?_
 repeat first|(first|refine FunW.QsR (cn0 _) ?_|refine Qb ?_);simp only[go_sem,seval,f1,f4,f6,hi,g1,g2]|refine hK _ ?_;clear hK
 obtain⟨I,hI⟩:∃I:Nat->AS->Prop,I=fun m' s=>∃(l:List Dc) (s2:PS) (X:AH) (id:Nat),m'=s2.toks.length/\Wst P.all s2/\l.length<=30/\(∃k,s2.toks.length+1<=k/\Qa0 k l s2=R)/\X[id]? = some (.cells 54 3 [s2.tk.av])/\s.tm 0 = .ptr P.i 0 0/\s.tm 3 = .sl 2 (vs Dc.av l) (some h.length)/\s.tm 4 = .ptr (h.length+(id+1)) 0 0 /\
  s.h=ph h P s2++(.grow 75 2 l.length::X):=⟨_,rfl⟩;refine QD I ?_ (m:=s.toks.length) ?_
 ·intro m' s hs;rw[hI]at hs;obtain⟨tm,hp⟩:=s;dsimp only at hs;obtain⟨l,s2,X,id,rfl,hW2,hl30,⟨k,hk,hR2⟩,hX,t0,t3,t4,rfl⟩:=hs
  have hk1:k=k - 1+1:=by omega
  have e1:=Tk.QsS s2.tk
  have e2:=Tk.QsT s2.tk
  have hXa:=fun Y=>hext hX Y
  have hi2:=ph_i H s2
  simp only[pB]at hi2
  rw[hk1,Qa0]at hR2
  by_cases hc:s2.tk.kind=1/\s2.tk.text.toList=Qol
  ·rw[QuH hc]at hR2
   have z1:(s2.tk.kind==1)=true:=by simpa using hc.1
   have z2:(s2.tk.text.toList==({data:=#[99,111,110,115,116,114,97,105,110,116]}:ByteArray).toList)=true:=by rw[hc.2,Lib.toList_data];rfl
   have ct:=fun L=>Yq hW2 (H.app L) hN
   simp only[XH H]at ct
   have hI0:=hI
   have hln:=Yg hW2.wf (by rw[hc.1];decide)
   generalize hRi:Qb5 (s2.toks.length+1) l s2.nx=Ri at *
   repeat first|(first|refine FunW.QsR (ct _) ?_|refine Qb ?_);simp only[go_sem,seval,t0,t4,f4,hX,hi2,e1,z1,z2]|refine hK _ ?_;clear hK
   obtain⟨I,hI⟩:∃I:Nat->AS->Prop,I=fun m' s=>∃(l3:List Dc) (s3:PS) (G:AH),m'=s3.toks.length/\Wst P.all s3/\l3.length<=30/\(∃k,s3.toks.length+1<=k/\Qb5 k l3 s3=Ri)/\s3.toks.length+1<=s2.toks.length/\G[id]? = some (.cells 54 3 [s2.tk.av])/\s.tm 0 = .ptr P.i 0 0/\s.tm 3 = .sl 2 (vs Dc.av l3) (some h.length)/\s.tm 4 = .ptr (h.length+(id+1)) 0 0 /\
    s.h=ph h P s3++(.grow 75 2 l3.length::G):=⟨_,rfl⟩;refine QD I ?_ (m:=s2.nx.toks.length) ?_
   ·intro m' s hs;rw[hI]at hs;obtain⟨tm,hp⟩:=s;dsimp only at hs;obtain⟨l3,s3,G,rfl,hW3,hl3,⟨k3,hk3,hR3⟩,hlt3,hG,u0,u3,u4,rfl⟩:=hs
    have hk4:k3=k3 - 1+1:=by omega
    rw[hk4,Qb5]at hR3
    have hi3:=ph_i H s3
    have hi4:=ph_i H s3.nx
    have hi5:=ph_i H s3.nx.nx
    have hi6:=ph_i H s3.nx.nx.nx
    simp only[pB]at hi3 hi4 hi5 hi6
    have hG0:=fun Y=>hext hG Y
    have ev:(vs Dc.av l3).length=l3.length:=Z5 _ _
    have e3:=Tk.QsS s3.nx.nx.tk
    have e4:=Tk.QsT s3.nx.nx.tk
    have e5:=Tk.QsS s2.tk
    have e6:=Tk.QsT s2.tk
    have x1:∀(Y:AH),(G++Y)[G.length]? = Y[0]? := fun Y=>X8 _ _
    have x2:∀(Y:AH) k,(G++Y)[G.length+k]? = Y[k]? := fun Y k=>hget _ _ _
    have x3:∀(Y:AH) y,(G++Y).set G.length y=G++Y.set 0 y:=fun Y y=>Yh _ _ _
    have x4:∀(Y:AH) k y,(G++Y).set (G.length+k) y=G++Y.set k y:=fun Y k y=>hset _ _ _ _
    by_cases hm:30<=l3.length
    ·rw[QuH hm]at hR3
     have cr:=fun L=>QhQ hW3 H hN L ((l3.length:Nat):Int) 30 (by omega)
     repeat first|(first|refine FunW.pan (FunW.call (cr _)) ?_|refine Qb ?_);simp only[go_sem,seval,u0,u3,ev,hi3]|refine hK _ ?_;clear hK
     subst hR3
     subst hR2
     exact Xw H s s3 _ _ _ ⟨rfl,_,rfl⟩
    ·have cr:=fun L=>QfL hW3 H hN L ((l3.length:Nat):Int) 30 (by omega)
     rw[QuE hm]at hR3
     cases hn:QaC s3 with
     |err p e =>
      rw[hn]at hR3
      have hR4:PR.err p e=Ri:=hR3
      have cm:=fun L=>Qhx hW3 H hN L hn
      repeat first|(first|refine FunW.QsR (cr _) ?_|refine FunW.panE (FunW.call (cm _)) fun r=>?_|refine Qb ?_);simp only[go_sem,seval,u0,u3,ev,hi3]|refine hK _ ?_;clear hK
      subst hR4
      subst hR2
      exact Xw H s r _ _ _ ⟨rfl,_,rfl⟩
     |ok x s4 =>
      have cm:=fun L=>QjH hW3 H hN L hn
      rw[hn]at hR3
      have hk1s:s3.tk.kind=1/\s4=s3.nx:=by
       unfold QaC at hn
       split at hn
       ·cases hn
       ·rename_i h1
        split at hn
        ·cases hn
        ·cases hn;exact⟨by simpa using h1,rfl⟩
      obtain⟨hk1s,rfl⟩:=hk1s
      have hl1:=Yg hW3.wf (by rw[hk1s];decide)
      have hW4:=hW3.nx
      cases hsl:s3.nx.is QfP with
      |false =>
       have hR4:PR.err s3.nx.tk.pos 16=Ri:=by rw[<-hR3];show _=(YM QfP s3.nx).bind _;rw[YM,QuE (by rw[hsl];decide)];rfl
       have cx:=fun L=>Zp hW4 H hN L {data:=#[47]} (by rw[bSl];exact hsl)
       repeat first|(first|refine FunW.QsR (cr _) ?_|refine FunW.QsR (cm _) ?_|refine FunW.pan (FunW.call (cx _)) ?_|refine Qb ?_);simp only[go_sem,seval,u0,u3,f1,f4,f6,x1,x3,ev,hi3,hi4,Quz]|refine hK _ ?_;clear hK
       subst hR4
       subst hR2
       exact Xw H s s3.nx _ _ _ ⟨rfl,_,rfl⟩
      |true =>
       have hl2:=Yg hW4.wf (PS.QsV hsl)
       have hW5:=hW4.nx
       have cx:=fun L=>YL hW4 H hN L {data:=#[47]} (by rw[bSl];exact hsl)
       have ct3:=fun L=>Yq hW5 (H.app L) hN
       simp only[XH H]at ct3
       have hR4:(if s3.nx.nx.tk.kind≠3 then PR.err s3.nx.nx.tk.pos 16 else if valT s3.nx.nx.tk.text>6 then .err s3.nx.nx.tk.pos 6 else
         if s3.nx.nx.nx.is Zt then Qb5 (k3 - 1) (l3++[⟨x,valT s3.nx.nx.tk.text⟩]) s3.nx.nx.nx.nx else(YM sDot s3.nx.nx.nx).bind fun _ s2=>.ok (l3++[⟨x,valT s3.nx.nx.tk.text⟩]) s2)=Ri:=by
        have hw:YM QfP s3.nx = .ok () s3.nx.nx:=by rw[YM,QuH hsl]
        rw[<-hR3];show _=(YM QfP s3.nx).bind _;rw[hw];rfl
       clear hR3
       by_cases h3:s3.nx.nx.tk.kind=3
       ·rw[QuE (by simpa using h3)]at hR4
        have y1:(s3.nx.nx.tk.kind != 3)=false:=by simpa using h3
        have hl5:=Yg hW5.wf (by rw[h3];decide)
        obtain⟨cv,v0,v1⟩:=QjB hD hW5 h3
        have hW6:=hW5.nx
        by_cases h6:valT s3.nx.nx.tk.text>6
        ·rw[QuH h6]at hR4
         have y2:(6:Int)<valT s3.nx.nx.tk.text:=h6
         have cf:=ZS s3.nx.nx.tk 6
         repeat first|(first|refine FunW.QsR (cr _) ?_|refine FunW.QsR (cm _) ?_|refine FunW.QsR (cx _) ?_|refine FunW.QsR (ct3 _) ?_|refine Qe cv ?_|refine Qb ?_);simp only[go_sem,seval,u0,u3,f1,f4,f6,x1,x2,x3,x4,ev,hi3,hi4,hi5,e3,e4,Quz,y1,y2]|refine hK _ ?_;clear hK
         subst hR4
         subst hR2
         refine XV 4 [(0,0),(1,0),(2,0),(3,0)] mixed rfl rfl rfl (by kernel_rfl) (fun v h'=>v=Fl s3.nx.nx.tk.pos 6/\∃L,h'=ph h P s3.nx.nx.nx++L) ?_ ?_
         ·rintro tm v h' ⟨rfl,L,rfl⟩
          exact Xw H s s3.nx.nx.nx _ _ _ ⟨rfl,_,rfl⟩
         ·simp only[go_sem,seval,u0,f4,x2,hi6,e3,e4]
          exact fun _=>(FunW.call (cf _ _)).mono (by rintro _ _ ⟨rfl,rfl⟩;exact⟨_,rfl,rfl,_,rfl⟩)
        ·rw[QuE h6]at hR4
         have y2:¬(6:Int)<valT s3.nx.nx.tk.text:=h6
         have hm1:(l3.length+1) * 24<=140737488355328:=by omega
         have hm2:l3.length+1<=maxLen:=by simp only[maxLen];omega
         have evs:vs Dc.av (l3++[⟨x,valT s3.nx.nx.tk.text⟩])=vs Dc.av l3++[.agg [.v (.string x),.i (valT s3.nx.nx.tk.text)]]:=by rw[QdF];rfl
         cases hco:s3.nx.nx.nx.is Zt with
         |true =>
          rw[hco,QuH rfl]at hR4
          have hl6:=Yg hW6.wf (PS.QsV hco)
          have cs:=fun L=>QaB hW6 H hN L {data:=#[44]} (by rw[bCo];exact hco)
          repeat first|(first|refine FunW.QsR (cr _) ?_|refine FunW.QsR (cm _) ?_|refine FunW.QsR (cx _) ?_|refine FunW.QsR (ct3 _) ?_|refine Qe cv ?_|refine FunW.QsR (cs _) ?_|refine Qb ?_);simp only[go_sem,seval,u0,u3,f1,f3,f4,f5,f6,x1,x2,x3,x4,ev,hi3,hi4,hi5,hi6,e3,e4,Quz,y1,y2,hm1,hm2]|refine hK _ ?_;clear hK
          refine XB.mk (m':=s3.nx.nx.nx.nx.toks.length) (by omega) ?_
          rw[hI]
          refine⟨l3++[⟨x,valT s3.nx.nx.tk.text⟩],s3.nx.nx.nx.nx,G++[.cells 75 2 [.agg [.v (.string x),.i (valT s3.nx.nx.tk.text)]],.cells 54 3 [s3.nx.nx.tk.av]],rfl,hW6.nx,by simp;omega,⟨k3 - 1,by omega,hR4⟩,by omega,hG0 _,u0,?_,u4,?_⟩
          ·rw[evs];rfl
          ·rw[Quw];rfl
         |false =>
          rw[hco,QuE (by decide)]at hR4
          have cs:=fun L=>Qa2 hW6 H hN L {data:=#[44]} (by rw[bCo];exact hco)
          cases hdo:s3.nx.nx.nx.is sDot with
          |false =>
           have hR5:PR.err s3.nx.nx.nx.tk.pos 16=Ri:=by rw[<-hR4,YM,QuE (by rw[hdo];decide)];rfl
           have cd:=fun L=>Zp hW6 H hN L {data:=#[46]} (by rw[bDo];exact hdo)
           repeat first|(first|refine FunW.QsR (cr _) ?_|refine FunW.QsR (cm _) ?_|refine FunW.QsR (cx _) ?_|refine FunW.QsR (ct3 _) ?_|refine Qe cv ?_|refine FunW.QsR (cs _) ?_|refine FunW.pan (FunW.call (cd _)) ?_|refine Qb ?_);simp only[go_sem,seval,u0,u3,f1,f3,f4,f5,f6,x1,x2,x3,x4,ev,hi3,hi4,hi5,hi6,e3,e4,Quz,y1,y2,hm1,hm2]|refine hK _ ?_;clear hK
           subst hR5
           subst hR2
           exact Xw H s s3.nx.nx.nx _ _ _ ⟨rfl,_,rfl⟩
          |true =>
           have hR5:PR.ok (l3++[⟨x,valT s3.nx.nx.tk.text⟩]) s3.nx.nx.nx.nx=Ri:=by rw[<-hR4,YM,QuH hdo];rfl
           subst hR5
           have hR6:Qa0 (k - 1) (l3++[⟨x,valT s3.nx.nx.tk.text⟩]) s3.nx.nx.nx.nx=R:=hR2
           have hl6:=Yg hW6.wf (PS.QsV hdo)
           have cd:=fun L=>YL hW6 H hN L {data:=#[46]} (by rw[bDo];exact hdo)
           have hi7:=ph_i H s3.nx.nx.nx.nx
           simp only[pB]at hi7
           have e7:=Tk.QsS s3.nx.nx.nx.nx.tk
           have e8:=Tk.QsT s3.nx.nx.nx.nx.tk
           have cn7:=fun L=>nextL hW6.nx (YW H s3.nx.nx.nx.nx) L
           repeat first|(first|refine FunW.QsR (cr _) ?_|refine FunW.QsR (cm _) ?_|refine FunW.QsR (cx _) ?_|refine FunW.QsR (ct3 _) ?_|refine Qe cv ?_|refine FunW.QsR (cs _) ?_|refine FunW.QsR (cd _) ?_|refine FunW.QsR (cn7 _) ?_|refine Qb ?_);simp only[go_sem,seval,u0,u3,u4,f1,f3,f4,f5,f6,x1,x2,x3,x4,ev,hG0,hi3,hi4,hi5,hi6,e3,e4,e5,e6,Quz,y1,y2,hm1,hm2,hi7,e7,e8]|refine hK _ ?_;clear hK
           refine XB.mk (m':=s3.nx.nx.nx.nx.toks.length) (by omega) ?_
           rw[hI0]
           refine⟨l3++[⟨x,valT s3.nx.nx.tk.text⟩],s3.nx.nx.nx.nx,G++[.cells 75 2 [.agg [.v (.string x),.i (valT s3.nx.nx.tk.text)]],.cells 54 3 [s3.nx.nx.tk.av],.cells 54 3 [s3.nx.nx.nx.nx.tk.av]],G.length+2,rfl,hW6.nx,by simp;omega,⟨k - 1,by omega,hR6⟩,hget _ _ _,u0,?_,?_,?_⟩
           ·rw[evs];rfl
           ·rfl
           ·rw[Quw];rfl
       ·rw[QuH h3]at hR4
        have y1:(s3.nx.nx.tk.kind != 3)=true:=by simpa using h3
        have cf:=ZS s3.nx.nx.tk 16
        repeat first|(first|refine FunW.QsR (cr _) ?_|refine FunW.QsR (cm _) ?_|refine FunW.QsR (cx _) ?_|refine FunW.QsR (ct3 _) ?_|refine Qb ?_);simp only[go_sem,seval,u0,u3,f1,f4,f6,x1,x2,x3,x4,ev,hi3,hi4,hi5,e3,e4,Quz,y1]|refine hK _ ?_;clear hK
        subst hR4
        subst hR2
        refine XV 4 [(0,0),(1,0),(2,0),(3,0)] mixed rfl rfl rfl (by kernel_rfl) (fun v h'=>v=Fl s3.nx.nx.tk.pos 16/\∃L,h'=ph h P s3.nx.nx.nx++L) ?_ ?_
        ·rintro tm v h' ⟨rfl,L,rfl⟩
         exact Xw H s s3.nx.nx.nx _ _ _ ⟨rfl,_,rfl⟩
        ·simp only[go_sem,seval,u0,f4,x2,hi6,e3,e4]
         exact fun _=>(FunW.call (cf _ _)).mono (by rintro _ _ ⟨rfl,rfl⟩;exact⟨_,rfl,rfl,_,rfl⟩)
   ·rw[hI]
    exact⟨l,s2.nx,X,rfl,hW2.nx,hl30,⟨s2.toks.length+1,by omega,hRi⟩,by omega,hX,t0,t3,t4,rfl⟩
  ·rw[QuE hc]at hR2
   subst hR2
   by_cases hk1:s2.tk.kind=1
   ·have z1:(s2.tk.kind==1)=true:=by simpa using hk1
    have z2:(s2.tk.text.toList==({data:=#[99,111,110,115,116,114,97,105,110,116]}:ByteArray).toList)=false:=by
     rw[Lib.toList_data ({data:=#[99,111,110,115,116,114,97,105,110,116]}:ByteArray)]
     exact QvQ.2 fun q=>hc ⟨hk1,q⟩
    repeat first|refine Qb ?_;simp only[go_sem,seval,t3,t4,f4,hX,e1,z1,z2]|refine hK _ ?_;clear hK|clear hK;refine hK _ ?_;clear hK
    exact Yc H (s:=s) (s':=s2) (Frz.tok (QmC _ _)) ⟨rfl,rfl⟩
   ·have z1:(s2.tk.kind==1)=false:=by simpa using hk1
    repeat first|refine Qb ?_;simp only[go_sem,seval,t3,t4,f4,hX,e1,z1]|refine hK _ ?_;clear hK|clear hK;refine hK _ ?_;clear hK
    exact Yc H (s:=s) (s':=s2) (Frz.tok (QmC _ _)) ⟨rfl,rfl⟩
 ·rw[hI]
  exact⟨[],s,[.cells 54 3 [s.tk.av]],0,rfl,hW,QuG _,⟨_,QuD _,hR⟩,rfl,rfl,rfl,rfl,rfl⟩
end
end Go.Proofs.YticgcpebdldbgaaGreatDoor.Ab
namespace Go.Proofs.YticgcpebdldbgaaGreatDoor.Ab
open Go.Proofs
structure KpO (h:AH) (P:Pz) (o:Nat) (Y:AH):Prop where
 long:h.length<=Y.length
 out:∀i,i<h.length->i≠o->i≠P.i->i≠P.j->i≠P.g->Y[i]? = h[i]?
abbrev pgB(d r:AV):AB:=.cells 26 2 [.agg [d,r]]
def PgQ(h:AH)(P:Pz)(o:Nat):PR Pg->AOut->AH->Prop
 | .ok pg _,x,h'=>x = .ret (.tup [])/\∃Y:{Y:AH // KpO h P o Y/\Y[o]? = some (pgB (.sl 2 (vs Dc.av pg.decls) none) (.sl 6 (vs Rl.av pg.rules) none))},h'=Y.1
 | .err p e,x,h'=>x = .panic (Fl p e)/\∃Y:{Y:AH // KpO h P o Y},h'=Y.1
section
variable{P:Pz}{s:PS}(hW:Wst P.all s){h:AH}(H:P.ok h)(hN:P.all.length<=1000000)(hD:TkOk P.all){o:Nat}(hol:o<h.length)(hoi:o≠P.i)(hoj:o≠P.j)(hog:o≠P.g)
include hW H hN hD hol hoi hoj hog
omit hW hN hD hol hoi hoj hog in
theorem Qrb(s':PS)(L:AH):KpO h P o (ph h P s'++L):=⟨by rw[Quw,Xv];omega,fun i h1 h2 h3 h4 h5=>by rw[Qux (by rw[Xv];exact h1),Qaz H h3 h4 h5]⟩
theorem QlK(hob:h[o]? = some (pgB nilV nilV)):QA Tryz.prog 18 [.ptr P.i 0 0,.ptr o 0 0] (ph h P s) (PgQ h P o (QjN s)):=by
 have cd:=Qli hW H hN hD
 rw[QjN]
 cases hd:Qa0 (s.toks.length+1) [] s with
 |err p e =>
  rw[hd]at cd
  have cd2:QA Tryz.prog 19 [.ptr P.i 0 0] (ph h P s) fun x h'=>x = .panic (Fl p e)/\∃s1:PS,h'=ph h P s1:=cd
  refine Qa Tryz.func18 rfl Tryz.call18 Tryz.ntmps18 Tryz.results18 (by simp) ?_
  repeat first|(first|refine FunW.panE (FunW.call cd2) fun r=>?_|refine Qb ?_);simp only[go_sem,seval]|refine hK _ ?_;clear hK
  have:=Qrb (o:=o) H r []
  rw[Qt8]at this
  exact .inr ⟨rfl,⟨_,this⟩,rfl⟩
 |ok d s1 =>
  rw[hd]at cd
  have cd2:QA Tryz.prog 19 [.ptr P.i 0 0] (ph h P s) fun x h'=>x = .ret (.sl 2 (vs Dc.av d) none)/\h'=ph h P s1:=cd
  have hW1:Wst P.all s1:=Kp.Ps.ok (n:=wdOf P.all) (Kp.decls_ps trivial _ _) hW hd
  have ho1:(ph h P s1)[o]? = some (pgB nilV nilV):=by rw[Qaz H hoi hoj hog];exact hob
  generalize hRr:((PR.ok d s1).bind fun d s=>(QbB (s.toks.length+1) [] s).bind fun r s=>PR.ok (⟨d,r⟩:Pg) s)=R
  have hR0:((QbB (s1.toks.length+1) [] s1).bind fun r s=>PR.ok (⟨d,r⟩:Pg) s)=R:=hRr
  clear hRr
  refine Qa Tryz.func18 rfl Tryz.call18 Tryz.ntmps18 Tryz.results18 (by simp) ?_
  iterate 3 (try (first|((first|(with_reducible (first|refine Qd fun K E hK hE=>?_|refine FunW.QsR cd2 ?_)));simp only[go_sem,seval,ho1])|((with_reducible refine hK _ ?_);clear hK)))
  refine YY o 26 2 6 (.grow 40 6 0) (.inr ⟨_,rfl⟩) [.agg [.sl 2 (vs Dc.av d) none,nilV]] [.agg [.sl 2 (vs Dc.av d) none,.sl 6 [] (some h.length)]] 1 (QuF (by rw[Xv];exact hol)) rfl (by simp[flat,AV.cells,Xv]) (by simp[AV.cells]) ?_
  iterate 1 (try ((with_reducible refine Qu ?_)))
  obtain⟨I,hI⟩:∃I:Nat->AS->Prop,I=fun m' s=>∃(rs:List Rl) (s2:PS) (own:Option Nat) (m:List (ByteArray×AV)),m'=s2.toks.length/\Wst P.all s2/\rs.length<=40/\(∃k,s2.toks.length+1<=k/\((QbB k rs s2).bind fun r s=>PR.ok (⟨d,r⟩:Pg) s)=R)/\KpO h P o s.h/\PIn P s.h s2 own m/\s.h[o]? = some (pgB (.sl 2 (vs Dc.av d) none) (.sl 6 (vs Rl.av rs) (some h.length)))/\s.h[h.length]? = some (.grow 40 6 rs.length)/\s.tm 0 = .ptr P.i 0 0/\s.tm 1 = .ptr o 0 0:=⟨_,rfl⟩;refine QD I ?_ (m:=s1.toks.length) ?_
  ·intro m' s hs;rw[hI]at hs;obtain⟨tm,hp⟩:=s;dsimp only at hs;obtain⟨rs,s2,own,m,rfl,hW2,hl40,⟨k,hk,hR2⟩,hkp,hpin,hob2,htk,t0,t1⟩:=hs
   have hk1:k=k - 1+1:=by omega
   have hpl:=Qf htk
   have hWc:Wst P.all ⟨s2.toks,[]⟩:=⟨hW2.wf,hW2.suf,by have:=hW2.nms;simp only[QtT];omega⟩
   have hoh:o≠h.length:=by omega
   rw[hk1,QbB]at hR2
   have e1:=Tk.QsS s2.tk
   have e2:=Tk.QsT s2.tk
   have hi2:=hpin.i
   rw[pN]at hi2
   by_cases h0:s2.tk.kind=0
   ·rw[QuH h0]at hR2
    subst hR2
    refine Qcf o 26 2 [.agg [.sl 2 (vs Dc.av d) none,.sl 6 (vs Rl.av rs) (some h.length)]] [.agg [.sl 2 (vs Dc.av d) none,.sl 6 (vs Rl.av rs) none]] 1
     (Wk.sl rfl (fun y hy=>by obtain⟨x,_,rfl⟩:=QuZ.1 hy;rfl) (WkL.refl _)) hob2 rfl rfl (fun x hx=>by rw[Qvt]at hx;subst hx;rfl) ?_
    have hX2:(hp.set o (pgB (.sl 2 (vs Dc.av d) none) (.sl 6 (vs Rl.av rs) none)))[P.i]? = some (pN P s2 own):=by rw[Quy hoi];exact hpin.i
    have cn:=QlA hW2 hX2
    have hi3:=hX2
    rw[pN]at hi3
    have z1:(s2.tk.kind != 0)=false:=by simpa using h0
    repeat first|(first|refine FunW.QsR cn ?_|refine Qb ?_);simp only[go_sem,seval,t0,hi3,e1,e2,z1]|refine hK _ ?_;clear hK
    exact .inr ⟨rfl,⟨_,⟨by rw[QuI];exact hkp.long,fun i h1 h2 h3 h4 h5=>by rw[Quy (Qvw h2)];exact hkp.out i h1 h2 h3 h4 h5⟩,QuF (by omega)⟩,rfl⟩
   ·rw[QuE h0]at hR2
    have z1:(s2.tk.kind != 0)=true:=by simpa using h0
    have cn:=QlA hW2 hpin.i
    have ev:(vs Rl.av rs).length=rs.length:=Z5 _ _
    by_cases hm:40<=rs.length
    ·rw[QuH hm]at hR2
     subst hR2
     have cr:=Qpb hW2 hpin.i ((rs.length:Nat):Int) 40 (by omega)
     repeat first|(first|refine FunW.QsR cn ?_|refine Qb ?_);simp only[go_sem,seval,t0,hi2,e1,e2,z1]|refine hK _ ?_;clear hK
     refine XV 6 [(0,0),(1,0),(2,0),(3,0),(4,0),(5,0)] mixed rfl rfl rfl (by kernel_rfl) (fun v h'=>v=Fl s2.tk.pos 6/\h'=hp) ?_ ?_
     ·rintro tm v h' ⟨rfl,rfl⟩
      exact .inr ⟨rfl,⟨_,hkp⟩,rfl⟩
     ·simp only[go_sem,seval,t0,t1,hi2,hob2,ev]
      exact fun _=>(FunW.call cr).mono (by rintro _ _ ⟨rfl,rfl⟩;exact⟨_,rfl,rfl,rfl⟩)
    ·rw[QuE hm]at hR2
     have cr:=QnO hW2 hpin.i ((rs.length:Nat):Int) 40 (by omega)
     have cR:=QnQ hpin hWc hN hD
     repeat first|(first|refine FunW.QsR cn ?_|refine Qb ?_);simp only[go_sem,seval,t0,hi2,e1,e2,z1]|refine hK _ ?_;clear hK
     first|refine Qi (id:=2) [(0,0),(1,0),(2,0),(3,0),(4,0),(5,0),(6,2)] mixed (by kernel_rfl) fun K hK=>?_|refine Qh (id:=2) [(0,0),(1,0),(2,0),(3,0),(4,0),(5,0),(6,2)] mixed (by kernel_rfl) fun K hK=>?_
     simp only[go_sem,seval,t0,t1,hi2,hob2,ev]
     refine Yt (FunW.call cr) Qah ?_
     simp only[XT,QO,Nat.reduceLT]
     cases hr:QbA s2 with
     |err p e =>
      rw[hr]at cR hR2
      have hR3:PR.err p e=R:=hR2
      subst hR3
      have cR2:QA Tryz.prog 22 [.ptr P.i 0 0] hp fun o h'=>o = .panic (Fl p e)/\∃Y:{Y:AH // ErrY hp P Y},h'=Y.1:=cR
      refine hK _ ?_
      clear hK
      repeat first|refine Qb ?_;simp only[go_sem,seval]|refine hK _ ?_;clear hK
      refine XV 3 [(0,0),(1,0),(2,0)] mixed rfl rfl rfl (by kernel_rfl) (fun v h'=>v=Fl p e/\∃Y:{Y:AH // ErrY hp P Y},h'=Y.1) ?_ ?_
      ·rintro tm v h' ⟨rfl,⟨Y,hY⟩,rfl⟩
       exact .inr ⟨rfl,⟨h',Qu1 hkp.long hY.long,fun i h1 h2 h3 h4 h5=>by rw[hY.out i (by have:=hkp.long;omega) h3 h4];exact hkp.out i h1 h2 h3 h4 h5⟩,rfl⟩
      ·simp only[go_sem,seval,t0,t1,hob2]
       exact fun _=>(FunW.call cR2).mono (by rintro _ _ ⟨rfl,x,rfl⟩;exact⟨_,rfl,rfl,x,rfl⟩)
     |ok r s6 =>
      rw[hr]at cR hR2
      have hR3:((QbB (k - 1) (rs++[r]) s6).bind fun r s=>PR.ok (⟨d,r⟩:Pg) s)=R:=hR2
      have hW6:Wst P.all s6:=Kp.Ps.ok (n:=wdOf P.all) (Kp.rule_ps trivial) hW2 hr
      have hl6:=(Qpd s2 hW2.wf r s6 hr).2
      have cR2:QA Tryz.prog 22 [.ptr P.i 0 0] hp fun o h'=>o = .ret r.av/\h'=(hp.set P.i (pN P s6 none)).set P.j (kB s6):=cR
      have pil:=Qf hpin.i
      have pjl:=Qf hpin.j
      have pij:P.i≠P.j:=H.ij
      generalize hX:(hp.set P.i (pN P s6 none)).set P.j (kB s6)=X at *
      have hXo:X[o]? = some (pgB (.sl 2 (vs Dc.av d) none) (.sl 6 (vs Rl.av rs) (some h.length))):=by rw[<-hX,Quy (Qvw hoj),Quy (Qvw hoi)];exact hob2
      have hXt:X[h.length]? = some (.grow 40 6 rs.length):=by rw[<-hX,Quy (by have:=H.j;omega),Quy (by have:=H.i;omega)];exact htk
      have hXs:∀y,(X.set h.length y)[o]? = some (pgB (.sl 2 (vs Dc.av d) none) (.sl 6 (vs Rl.av rs) (some h.length))):=fun y=>by rw[Quy (Qvw hoh)];exact hXo
      have hXl:X.length=hp.length:=by rw[<-hX,QuI,QuI]
      have rc:=Rl.cells r
      have ri:=Rl.isAgg r
      have hm1:(rs.length+1) * 120<=140737488355328:=by omega
      have hm2:rs.length+1<=maxLen:=by simp only[maxLen];omega
      have evs:vs Rl.av (rs++[r])=vs Rl.av rs++[r.av]:=by rw[QdF];rfl
      have fin:∀tm':Nat->AV,tm' 0 = .ptr P.i 0 0->tm' 1 = .ptr o 0 0->XB I s2.toks.length ⟨tm',(X.set h.length (.grow 40 6 (rs.length+1))).set o (pgB (.sl 2 (vs Dc.av d) none) (.sl 6 (vs Rl.av rs++[r.av]) (some h.length)))⟩:=fun tm' k0 k1=>by
       have hYi:((X.set h.length (.grow 40 6 (rs.length+1))).set o (pgB (.sl 2 (vs Dc.av d) none) (.sl 6 (vs Rl.av rs++[r.av]) (some h.length))))[P.i]? = some (pN P s6 none):=by
        rw[Quy hoi,Quy (by have:=H.i;omega),<-hX,Quy (Qvw pij),QuF pil]
       have hYj:((X.set h.length (.grow 40 6 (rs.length+1))).set o (pgB (.sl 2 (vs Dc.av d) none) (.sl 6 (vs Rl.av rs++[r.av]) (some h.length))))[P.j]? = some (kB s6):=by
        rw[Quy hoj,Quy (by have:=H.j;omega),<-hX,QuF (by rw[QuI];exact pjl)]
       refine XB.mk (m':=s6.toks.length) (by omega) ?_
       rw[hI]
       refine⟨rs++[r],s6,none,kn s6.names,rfl,hW6,by simp;omega,⟨k - 1,by omega,hR3⟩,⟨by simp only[QuI,hXl];exact hkp.long,fun i h1 h2 h3 h4 h5=>?_⟩,⟨hYi,hYj⟩,?_,?_,k0,k1⟩
       ·rw[Quy (Qvw h2),Quy (by omega),<-hX,Quy (Qvw h4),Quy (Qvw h3)];exact hkp.out i h1 h2 h3 h4 h5
       ·rw[evs];exact QuF (by simp only[QuI,hXl];omega)
       ·rw[Quw,Quy hoh,QuF (by rw[hXl];exact hpl)];rfl
      refine hK _ ?_
      clear hK
      repeat first|refine Qb ?_;simp only[go_sem,seval]|refine hK _ ?_;clear hK
      refine ZK (.node [(2,0)] 3 0 (.leaf [(3,2),(0,0),(1,0),(4,0),(5,2),(6,0),(7,2)]) (.node [(0,0)] 3 1 (.leaf [(3,2),(1,0),(4,0),(5,2),(6,0),(7,2)]) (.leaf [(1,0),(3,2),(4,0),(5,2),(6,0),(7,2)]))) mixed (by kernel_rfl) (fun K2 hK2=>?_)
      simp only[OT.walk]
      simp only[go_sem,seval,t0,t1,hob2]
      refine⟨?_,?_⟩
      ·refine Yt (FunW.call cR2) Qah ?_
       simp only[go_sem,seval,t1,hXo,hXt,hXs,rc,hm1,hm2,ev]
       refine hK2 _ (fin _ ?_ ?_) <;> assumption
      ·refine⟨?_,?_⟩
       ·refine Yt (FunW.call cR2) Qah ?_
        simp only[go_sem,seval,t1,hXo,hXt,hXs,rc,hm1,hm2,ev]
        refine hK2 _ (fin _ ?_ ?_) <;> assumption
       ·refine Yt (FunW.call cR2) Qah ?_
        simp only[go_sem,seval,t1,hXt,hXs,rc,hm1,hm2,ev]
        refine hK2 _ (fin _ ?_ ?_) <;> assumption
  ·rw[hI]
   have hg:∀i (y z:AB),i≠o->i<h.length->(((ph h P s1).set o y++[AB.grow 40 6 0]).set o z)[i]? = (ph h P s1)[i]? := fun i y z h1 h2=>by
    rw[Quy (Qvw h1),Qux (by rw[QuI,Xv];exact h2),Quy (Qvw h1)]
   refine⟨[],s1,some P.g,kn s1.names,rfl,hW1,QuG _,⟨_,QuD _,hR0⟩,⟨by simp only[QuI,Quw,Xv];omega,fun i h1 h2 h3 h4 h5=>?_⟩,⟨?_,?_⟩,?_,?_,rfl,rfl⟩
   ·rw[hg i _ _ h2 h1,Qaz H h3 h4 h5]
   ·rw[hg _ _ _ (Qvw hoi) H.i,YW H];rfl
   ·rw[hg _ _ _ (Qvw hoj) H.j,Qqq H];rfl
   ·exact QuF (by simp only[QuI,Quw,Xv];omega)
   ·rw[Quy (by omega)]
    have e:((ph h P s1).set o (AB.cells 26 2 [.agg [.sl 2 (vs Dc.av d) none,nilV]])).length=h.length:=by rw[QuI,Xv]
    rw[<-e,QuB (QuD _),Qu9];rfl
end
end Go.Proofs.YticgcpebdldbgaaGreatDoor.Ab
namespace Go.Proofs.YticgcpebdldbgaaGreatDoor.Ab
open Go.Proofs
section
variable{P:Pz}{s:PS}(hW:Wst P.all s){h:AH}(H:P.ok h)(hN:P.all.length<=1000000)(hD:TkOk P.all){o:Nat}(hol:o<h.length)(hoi:o≠P.i)(hoj:o≠P.j)(hog:o≠P.g)
include hW H hN hD hol hoi hoj hog
end
end Go.Proofs.YticgcpebdldbgaaGreatDoor.Ab
namespace Go.Proofs.YticgcpebdldbgaaGreatDoor.Ab
theorem Qbn{P:Program}{N:Nat}{x:Code}{Q:AExit->AS->Prop}{tm:Nat->AV}{h:AH}(id d k off:Nat){ty s:Nat}{xs:List AV}(hb:h[id]? = some (.cells ty s xs))(hd:tm d = .ptr id k off)
  (H:Yr P N x Q ⟨upd tm d (.pin s xs k off),h.set id .dead⟩):Yr P N x Q ⟨tm,h⟩:=by
 intro F n base c a hF hst hr R hR
 have hh:c.h=h:=hr.h
 subst hh
 have hev:=Ev.kill hb
 have hst2:=hst.kill hb
 refine H F n base (c.kill id) a hF hst2 ⟨rfl,hr.size,hr.above,hr.defers.ev hev,RoundOk.ev hev hr.round,fun t=>?_⟩ R fun e' s' c' a' ex hq h1 h2 h3 h4=>hR e' s' c' a' ex hq (Ev.trans hst hev h1) h2 h3 h4
 show Rel (c.kill id) (if t=d then .pin s xs k off else tm t) _
 split
 ·rename_i ht
  subst ht
  have h0:=hr.tm t
  rw[show(AS.mk tm c.h).tm t=tm t from rfl,hd]at h0
  generalize a.tmps.getD t undef=u at h0
  cases h0 with
  |ptr _ _ _ x hid ho h1 =>
   obtain⟨B,hρ,rfl⟩:=h1 _ _ _ hb
   obtain⟨h4,f,h5⟩:=Qet hst hb hρ
   have:=Rel.pin (c:=c.kill id) s xs k off B 0 f h4 (fun j a hj=>(h5 j a hj).1) (fun j a hj=>(h5 j a hj).2)
   rwa [QtR]at this
 ·exact(hr.tm t).ev hst hev
open Go.Proofs
theorem Qb2.mono{P:Program}{f:FuncId}{args:List AV}{h:AH}{m:AMode}{Q Q':AMode->AH->Prop}(H:Qb2 P f args h m Q)(hq:∀m' h',Q m' h'->Q' m' h'):Qb2 P f args h m Q' :=
 ⟨H.1,fun F n c vals u hF hro hs hh hvals hm=>(H.2 F n c vals u hF hro hs hh hvals hm).mono fun e u' w' ⟨x,m',c',h1,h2,h3⟩=>⟨x,m',c',h1,hq _ _ h2,h3⟩⟩
abbrev iC(n:Int):AB:=.cells 3 1 [.i n]
abbrev eC(n:Int):AB:=.cells 27 1 [.i n]
theorem QnF{h:AH}{k:Nat}:Qb2 Tryz.prog 39 [.ptr k 0 0,.ptr (k+1) 0 0] h .ret fun m' h'=>m' = .ret/\h'=h:=by
 refine Qb2.mono (QcP (Q:=fun h'=>h'=h) Tryz.func39 rfl Tryz.call39 Tryz.ntmps39 (Qvq Array.toList Tryz.results39) (by simp) (by decide) (by decide) .ret ?_) (fun m' h' q=>q)
 have hn2:∀xo yo,pv Tryz.prog (do eqGuard .neq 20 xo yo .nilIface .nilIface;binOp .neq 20 .nilIface .nilIface)=some (.bool false):=fun xo yo=>by
  cases xo <;> cases yo <;> kernel_rfl
 repeat refine Qb ?_;simp only[go_sem,seval,recV,hn2]
 exact .inr ⟨⟨_,rfl⟩,rfl⟩
theorem QnE{h:AH}{k:Nat}{a0 e0:Int}(hk:h[k]? = some (iC a0))(hk1:h[k+1]? = some (eC e0))(p e:Int):Qb2 Tryz.prog 39 [.ptr k 0 0,.ptr (k+1) 0 0] h (.pan (Fl p e) false) fun m' h'=>m' = .pan (Fl p e) true/\∃L,h'=(h.set k (iC p)).set (k+1) (eC e)++L:=by
 refine Qb2.mono (QcP (Q:=fun h'=>∃L,h'=(h.set k (iC p)).set (k+1) (eC e)++L) Tryz.func39 rfl Tryz.call39 Tryz.ntmps39 (Qvq Array.toList Tryz.results39) (by simp) (by decide) (by decide) (.pan (Fl p e) false) ?_) (fun m' h' q=>q)
 have hn:∀H,notNil Tryz.prog 20 H (.ifc 90 (.agg [.i p,.i e])) .nilIface=true:=fun H=>by kernel_rfl
 have ha:Qg8 Tryz.prog (.ifc 90 (.agg [.i p,.i e])) 20 90 true=some (.tup [.agg [.i p,.i e],.v (.bool true)]):=by kernel_rfl
 have l1:=Qf hk
 have l2:=Qf hk1
 have g1:∀L,(h++L)[k]? = some (iC a0):=fun L=>hext hk L
 have g2:∀L y,((h++L).set k y)[k+1]? = some (eC e0):=fun L y=>by rw[Quy (by omega)];exact hext hk1 L
 repeat refine Qb ?_;simp only[go_sem,seval,recV,Fl,hn,ha]
 refine Qbn h.length 3 0 0 (ty:=90) (s:=2) (xs:=[.agg [.i p,.i e]]) (by rw[QuB (QuD _),Qu9];rfl) rfl ?_
 have g3:(h++[AB.cells 90 2 [.agg [.i p,.i e]]]).set h.length .dead=h++[.dead]:=by rw[Qva _ _ (QuD _),Qu9];rfl
 rw[g3]
 repeat first|(first|refine Qh (id:=5) [(0,1),(1,1),(2,1),(3,1),(4,2),(5,2)] mixed (by kernel_rfl) fun K hK=>?_|refine Qb ?_);simp only[go_sem,seval,g1,g2]|refine hK _ ?_;clear hK
 simp only[go_sem]
 refine .inr ⟨⟨_,rfl⟩,[.dead],?_⟩
 rw[QuN _ _ l1,QuN _ _ (by rw[QuI];exact l2)]
def symC:Array Value:=(Yn.map fun x=>Value.string (mkB x)).toArray
def QaN(h:AH):Prop:=HasG h 0 symC
theorem Qo2(j:Nat)(h:j<Yn.length):pv Tryz.prog (Instr.index 158 (.agg symC) (.int .i64 (j:Int)))=some (.string (mkB Yn[j])):=by
 have h23:j<23:=h
 have key:∀m:Fin 23,pv Tryz.prog (Instr.index 158 (.agg symC) (.int .i64 ((m:Nat):Int)))=some (.string (mkB (Yn[(m:Nat)]'m.isLt))):=by
  have hx:∀(m:Fin 23),(match pv Tryz.prog (Instr.index 158 (.agg symC) (.int .i64 ((m:Nat):Int)))with|some (.string b)=>b.data.toList==Yn[(m:Nat)]'m.isLt|_=>false)=true:=by decide +kernel
  intro m
  have:=hx m
  split at this
  ·rename_i b hb
   rw[hb]
   rw[show b=mkB (Yn[(m:Nat)]'m.isLt)from by rw[<-Qvx.1 this];exact(Qhv b).symm]
  ·cases this
 exact key ⟨j,h23⟩
theorem QbT(x l:List UInt8):x.isPrefixOf l=(l.take x.length==x):=by
 rw[Bool.eq_iff_iff,List.isPrefixOf_iff_prefix,Qvx,QvV]
 exact eq_comm
theorem QdQ(l:List UInt8)(k n:Nat)(h:k+n<=l.length):((mkB l).extract k (k+n)).toList=(l.drop k).take n:=by
 rw[Lib.toList_data,ByteArray.data_extract,mkB]
 simp only[Array.toList_extract,List.extract_eq_take_drop]
 rw[Qvc]
theorem ZP(l:List UInt8)(k n:Nat)(h:k+n<=l.length):(mkB l).extract k (k+n)=mkB ((l.drop k).take n):=by
 apply toList_inj
 rw[QdQ l k n h,Qen]
theorem Qj6(l:List UInt8)(hl:l.length<=16384)(k:Nat)(hk:k<=l.length)(h:AH)(hG:QaN h) :
  QA Tryz.prog 118 [.v (.string (mkB l)),.i k] h fun o h'=>o = .ret (.v (.string (mkB ((QeH (l.drop k)).getD []))))/\h'=h:=by
 have hsl:=fun b=>Y5 Tryz.prog 9 3 (by kernel_rfl) b
 have z1:¬((k:Nat):Int)<0:=by omega
 have z2:¬((l.length:Nat):Int)<((k:Nat):Int):=by omega
 have z3:¬((k:Nat):Int)>((l.length:Nat):Int):=by omega
 refine Qa Tryz.func118 rfl Tryz.call118 Tryz.ntmps118 Tryz.results118 (by simp) ?_
 iterate 10 (try (first|(((with_reducible refine Qd fun K E hK hE=>?_));simp only[go_sem,seval,hsl,Qv,z1,z2])|(with_reducible (first|refine Qq fun K hK=>?_|refine QE ?_|refine Qg ?_))|((with_reducible refine hK _ ?_);clear hK)|(refine Qm rfl ?_;simp only[↓reduceIte,QtJ])))
 refine Qf8 0 rfl fun K E hK hE=>?_
 simp only[go_sem,seval,Qoe]
 refine⟨_,symC,rfl,hG,rfl,rfl,?_⟩
 refine hK _ ?_
 clear hK hE
 iterate 1 (try ((with_reducible refine Qu ?_)))
 obtain⟨I,hI⟩:∃I:Nat->AS->Prop,I=fun m' s=>∃j:Nat,m'=Yn.length - j/\j<=Yn.length/\(Yn.drop j).find? (fun x=>x.isPrefixOf (l.drop k))=QeH (l.drop k)/\s.tm 0 = .v (.string (mkB l))/\s.tm 1 = .i k/\s.tm 15 = .v (.agg symC)/\s.tm 16 = .i j/\s.h=h:=⟨_,rfl⟩;refine QD I ?_ (m:=Yn.length) ?_
 ·intro m' s hs;rw[hI]at hs;obtain⟨tm,hp⟩:=s;dsimp only at hs;obtain⟨j,rfl,hj,he,t0,t1,t15,t16,rfl⟩:=hs
  by_cases hlt:j<Yn.length
  ·have y1:((j:Nat):Int)<23:=by have:Yn.length=23:=rfl;omega
   have hix:=Qo2 j hlt
   have hx3:Yn[j].length<=3:=by have:∀x∈Yn,x.length<=3:=(by decide);exact this _ (Qvk hlt)
   rw[QuQ hlt,List.find?_cons]at he
   generalize hx:Yn[j]=x at *
   have w1:IntKind.i64.wrap (((l.length:Nat):Int) - ((k:Nat):Int))=((l.length - k:Nat):Int):=by rw[Ya (by omega)];omega
   have w2:IntKind.i64.wrap (((k:Nat):Int)+((x.length:Nat):Int))=((k+x.length:Nat):Int):=by rw[Ya (by omega)];omega
   have w3:IntKind.i64.wrap (((j:Nat):Int)+1)=((j+1:Nat):Int):=XM (by omega)
   by_cases hle:x.length<=l.length - k
   ·have y2:((x.length:Nat):Int)<=((l.length - k:Nat):Int):=by omega
    have y3:((l.length - k:Nat):Int)>=((x.length:Nat):Int):=by omega
    have hsp:=Qai Tryz.prog 9 (by kernel_rfl) (mkB l) (some (.i64,(k:Nat))) (some (.i64,(k+x.length:Nat))) k (k+x.length) ⟨by omega,by rw[Qv];omega,by omega⟩ ⟨by omega,by omega,by omega⟩
    simp only[QtH]at hsp
    have hq:(((mkB l).extract k (k+x.length)).toList==(mkB x).toList)=x.isPrefixOf (l.drop k):=by rw[QdQ l k _ (by omega),Qen,QbT]
    cases hc:x.isPrefixOf (l.drop k)with
    |true =>
     rw[hc]at hq he
     repeat first|refine Qb ?_;simp only[go_sem,seval,YS,t0,t1,t15,t16,hsl,Qv,y1,y2,hix,w1,w2,hsp,hq]|refine hK _ ?_;clear hK
     exact Qc QuA (.keep (.v _)) ⟨by rw[<-he];rfl,rfl⟩
    |false =>
     rw[hc]at hq he
     repeat first|refine Qb ?_;simp only[go_sem,seval,YS,t0,t1,t15,t16,hsl,Qv,y1,y2,hix,w1,w2,w3,hsp,hq]|refine hK _ ?_;clear hK
     refine XB.mk (m':=Yn.length - (j+1)) (by omega) ?_
     rw[hI]
     exact⟨j+1,rfl,by omega,he,t0,t1,t15,rfl,rfl⟩
   ·have y2:¬((x.length:Nat):Int)<=((l.length - k:Nat):Int):=by omega
    have y3:¬((l.length - k:Nat):Int)>=((x.length:Nat):Int):=by omega
    have hc:x.isPrefixOf (l.drop k)=false:=by
     rw[QbT,QvQ]
     intro e
     have:=Qvq List.length e
     rw[QuY,QuX]at this
     omega
    rw[hc]at he
    repeat first|refine Qb ?_;simp only[go_sem,seval,t0,t1,t15,t16,hsl,Qv,y1,y2,hix,w1,w3]|refine hK _ ?_;clear hK
    refine XB.mk (m':=Yn.length - (j+1)) (by omega) ?_
    rw[hI]
    exact⟨j+1,rfl,by omega,he,t0,t1,t15,rfl,rfl⟩
  ·have hjl:j=Yn.length:=by omega
   have y1:¬((j:Nat):Int)<23:=by have:Yn.length=23:=rfl;omega
   rw[hjl,Qvb,List.find?_nil]at he
   repeat first|refine Qb ?_;simp only[go_sem,seval,t16,y1]|refine hK _ ?_;clear hK|clear hK;refine hK _ ?_;clear hK
   exact Qc QuA (.keep (.v _)) ⟨by rw[<-he];rfl,rfl⟩
 ·rw[hI]
  exact⟨0,rfl,QuG _,rfl,rfl,rfl,rfl,rfl,rfl⟩
end Go.Proofs.YticgcpebdldbgaaGreatDoor.Ab
namespace Go.Proofs.YticgcpebdldbgaaGreatDoor.Ab
open Go.Proofs
def tkv(k i:Int)(x:List UInt8):AV:=.agg [.i k,.i i,.v (.string (mkB x))]
def zTok:AV:=.agg [.i 0,.i 0,.v (.string {data:=#[]})]
theorem QdB(n:Nat)(k i:Int)(x:List UInt8):Below n (tkv k i x):=.agg _ fun a ha=>by
 simp only[QuL,QuS,Qvz]at ha
 rcases ha with rfl|rfl|rfl <;> exact .v _
theorem Qa6{n:Nat}{t:AV}(ht:Below n t)(a b:Int):Below n (.tup [t,.i a,.i b]):=.tup _ fun x hx=>by
 simp only[QuL,QuS,Qvz]at hx
 rcases hx with rfl|rfl|rfl
 ·exact ht
 ·exact .v _
 ·exact .v _
def rdT(k:Nat):Int×List UInt8 ⊕ Int->AV
 | .inl (kd,x)=>.tup [tkv kd k x,.i ((k+x.length:Nat):Int),.i 0]
 | .inr e=>.tup [zTok,.i k,.i e]
theorem QqF:zTok=tkv 0 0 []:=rfl
theorem Yz(n k:Nat)(r:Int×List UInt8 ⊕ Int):Below n (rdT k r):=by
 cases r with
 |inl p=>exact Qa6 (QdB n _ _ _) _ _
 |inr e=>exact Qa6 (QqF▸QdB n _ _ _) _ _
theorem Qkd(c:UInt8):(clsN (c.toNat:Nat)=2/\isL c=true/\97<=c.toNat)\/(clsN (c.toNat:Nat)=3/\isL c=true/\¬97<=c.toNat)\/(clsN (c.toNat:Nat)=4/\isL c=false/\isD c=true)\/((clsN (c.toNat:Nat)=0\/clsN (c.toNat:Nat)=1)/\isL c=false/\isD c=false):=by
 have hc:=c.toNat_lt
 unfold clsN isL isD
 simp only[Qvi,decide_eq_false_iff_not]
 repeat' split
 all_goals omega
section
variable(l:List UInt8)(hl:l.length<=16384)(k:Nat)(h:AH)
include hl
theorem QnX(hk:k=l.length):QA Tryz.prog 105 [.v (.string (mkB l)),.i k] h fun o h'=>o = .ret (rdT k (Zn (l.drop k)))/\h'=h:=by
 have _hu:=hl
 have hsl:=fun b=>Y5 Tryz.prog 9 3 (by kernel_rfl) b
 have z1:(((k:Nat):Int)==((l.length:Nat):Int))=true:=by rw[hk];simp
 have e:rdT k (Zn (l.drop k)) = .tup [tkv 0 k [],.i k,.i 0]:=by rw[hk,Qvb];rfl
 rw[e]
 refine Qa Tryz.func105 rfl Tryz.call105 Tryz.ntmps105 Tryz.results105 (by simp) ?_
 repeat refine Qb ?_;simp only[go_sem,seval,hsl,Qv,z1]
 exact Qc (htake _ _) (.keep (Qa6 (QdB _ _ _ _) _ _)) ⟨rfl,rfl⟩
theorem Ql6(hk:k<l.length)(hL:isL l[k]=true):QA Tryz.prog 105 [.v (.string (mkB l)),.i k] h fun o h'=>o = .ret (rdT k (Zn (l.drop k)))/\h'=h:=by
 have hsl:=fun b=>Y5 Tryz.prog 9 3 (by kernel_rfl) b
 have z1:(((k:Nat):Int)==((l.length:Nat):Int))=false:=by simp;omega
 have hix:=Yv Tryz.prog 9 (by kernel_rfl) (mkB l) k (by rw[Qv];exact hk)
 rw[YT l k hk]at hix
 have cp:=Qde (((l[k]).toNat:Nat):Int)
 have cr:=Qi1 l hl isW 2 QqN k (by omega)
 have hd:=drop_cons hk
 have hn:((l.drop k).takeWhile isW).length<=l.length - k:=by rw[<-QuX];exact(Qvu _).length_le
 obtain⟨w,hw⟩:∃w,w=(l.drop k).takeWhile isW:=⟨_,rfl⟩
 rw[<-hw]at cr hn
 have ht:Zn (l.drop k)=if 40<w.length then .inr 7 else .inl (if 97<=l[k].toNat then 1 else 2,w):=by rw[hw,hd,Zn,QuH hL]
 have w1:IntKind.i64.wrap (((k+w.length:Nat):Int) - ((k:Nat):Int))=((w.length:Nat):Int):=by rw[Ya (by omega)];omega
 have hsp:=Qai Tryz.prog 9 (by kernel_rfl) (mkB l) (some (.i64,(k:Nat))) (some (.i64,(k+w.length:Nat))) k (k+w.length) ⟨by omega,by rw[Qv];omega,by omega⟩ ⟨by omega,by omega,by omega⟩
 simp only[QtH]at hsp
 have hwt:(l.drop k).take w.length=w:=by rw[hw];exact(QvV.1 (Qvu isW)).symm
 rw[ZP l k _ (by omega),hwt]at hsp
 have hcl:=Qkd l[k]
 have q23:((2:Int)==3)=false:=rfl
 have q32:((3:Int)==2)=false:=rfl
 rw[ht]
 by_cases h40:40<w.length
 ·have y1:((w.length:Nat):Int)>40:=by omega
  have y2:(40:Int)<((w.length:Nat):Int):=by omega
  rw[QuH h40]
  by_cases h97:97<=l[k].toNat
  ·have c2:clsN (((l[k]).toNat:Nat):Int)=2:=by rcases hcl with⟨a,b,c⟩|⟨a,b,c⟩|⟨a,b,c⟩|⟨a,b,c⟩ <;> first|exact a|omega|exact absurd (b.symm.trans hL) (by decide)
   rw[c2]at cp
   refine Qa Tryz.func105 rfl Tryz.call105 Tryz.ntmps105 Tryz.results105 (by simp) ?_
   repeat (first|refine Qe cp ?_|refine Qe cr ?_|refine Qb ?_);simp only[go_sem,seval,hsl,Qv,z1,hix,w1,y1,q23]
   exact Qc (htake _ _) (.keep (Yz _ _ (.inr 7))) ⟨rfl,rfl⟩
  ·have c2:clsN (((l[k]).toNat:Nat):Int)=3:=by rcases hcl with⟨a,b,c⟩|⟨a,b,c⟩|⟨a,b,c⟩|⟨a,b,c⟩ <;> first|exact a|omega|exact absurd (b.symm.trans hL) (by decide)
   rw[c2]at cp
   refine Qa Tryz.func105 rfl Tryz.call105 Tryz.ntmps105 Tryz.results105 (by simp) ?_
   repeat (first|refine Qe cp ?_|refine Qe cr ?_|refine Qb ?_);simp only[go_sem,seval,hsl,Qv,z1,hix,w1,y1,q32]
   exact Qc (htake _ _) (.keep (Yz _ _ (.inr 7))) ⟨rfl,rfl⟩
 ·have y1:¬((w.length:Nat):Int)>40:=by omega
  have y2:¬(40:Int)<((w.length:Nat):Int):=by omega
  rw[QuE h40]
  by_cases h97:97<=l[k].toNat
  ·have c2:clsN (((l[k]).toNat:Nat):Int)=2:=by rcases hcl with⟨a,b,c⟩|⟨a,b,c⟩|⟨a,b,c⟩|⟨a,b,c⟩ <;> first|exact a|omega|exact absurd (b.symm.trans hL) (by decide)
   rw[c2]at cp
   rw[QuH h97]
   refine Qa Tryz.func105 rfl Tryz.call105 Tryz.ntmps105 Tryz.results105 (by simp) ?_
   repeat (first|refine Qe cp ?_|refine Qe cr ?_|refine Qb ?_);simp only[go_sem,seval,YS,hsl,Qv,z1,hix,w1,y1,hsp,q23]
   exact Qc (htake _ _) (.keep (Yz _ k (.inl (1,w)))) ⟨rfl,rfl⟩
  ·have c2:clsN (((l[k]).toNat:Nat):Int)=3:=by rcases hcl with⟨a,b,c⟩|⟨a,b,c⟩|⟨a,b,c⟩|⟨a,b,c⟩ <;> first|exact a|omega|exact absurd (b.symm.trans hL) (by decide)
   rw[c2]at cp
   rw[QuE h97]
   refine Qa Tryz.func105 rfl Tryz.call105 Tryz.ntmps105 Tryz.results105 (by simp) ?_
   repeat (first|refine Qe cp ?_|refine Qe cr ?_|refine Qb ?_);simp only[go_sem,seval,YS,hsl,Qv,z1,hix,w1,y1,hsp,q32]
   exact Qc (htake _ _) (.keep (Yz _ k (.inl (2,w)))) ⟨rfl,rfl⟩
theorem QnZ(hk:k<l.length)(hL:isL l[k]=false)(hD:isD l[k]=false)(hG:QaN h):QA Tryz.prog 105 [.v (.string (mkB l)),.i k] h fun o h'=>o = .ret (rdT k (Zn (l.drop k)))/\h'=h:=by
 have hsl:=fun b=>Y5 Tryz.prog 9 3 (by kernel_rfl) b
 have z1:(((k:Nat):Int)==((l.length:Nat):Int))=false:=by simp;omega
 have hix:=Yv Tryz.prog 9 (by kernel_rfl) (mkB l) k (by rw[Qv];exact hk)
 rw[YT l k hk]at hix
 have cp:=Qde (((l[k]).toNat:Nat):Int)
 have hd:=drop_cons hk
 have cs:=fun b=>Qj6 l hl k (by omega) (h++[b]) (hG.app [b])
 have ht:Zn (l.drop k)=match QeH (l.drop k)with|some x=>.inl (4,x)|none=>.inr 16:=by rw[hd,Zn,QuE (by rw[hL];decide),QuE (by rw[hD];decide)];rfl
 have hcl:=Qkd l[k]
 have c0:clsN (((l[k]).toNat:Nat):Int)=0\/clsN (((l[k]).toNat:Nat):Int)=1:=by rcases hcl with⟨a,b,c⟩|⟨a,b,c⟩|⟨a,b,c⟩|⟨a,b,c⟩ <;> first|exact a|exact absurd (b.symm.trans hL) (by decide)|exact absurd (c.symm.trans hD) (by decide)
 generalize hcn:clsN (((l[k]).toNat:Nat):Int)=cn at *
 clear hcl
 have u2:(cn==2)=false:=by simp;omega
 have u3:(cn==3)=false:=by simp;omega
 have u4:(cn==4)=false:=by simp;omega
 rw[ht]
 cases hs:QeH (l.drop k)with
 |none =>
  rw[hs]at cs
  have hq:((mkB []).toList==({data:=#[]}:ByteArray).toList)=true:=by rw[Qen,Lib.toList_data];rfl
  simp only[Option.getD_none]at cs
  refine Qa Tryz.func105 rfl Tryz.call105 Tryz.ntmps105 Tryz.results105 (by simp) ?_
  repeat (first|refine Qe cp ?_|refine FunW.QsR (cs _) ?_|refine Qb ?_);simp only[go_sem,seval,hsl,Qv,z1,hix,u2,u3,u4,hq]
  exact Qc (htake _ _) (.keep (Yz _ _ (.inr 16))) ⟨rfl,rfl⟩
 |some x =>
  rw[hs]at cs
  obtain⟨x1,x3,xp⟩:=QfV hs
  rw[QbT,Qvx]at xp
  have xl:x.length<=l.length - k:=by have:=Qvq List.length xp;rw[QuY,QuX]at this;omega
  have hq:((mkB x).toList==({data:=#[]}:ByteArray).toList)=false:=by
   rw[Qen,QvQ]
   intro e
   have:=Qvq List.length e
   rw[Lib.toList_data,show({data:=#[]}:ByteArray).data.toList.length=0 from rfl]at this
   omega
  simp only[Qwh]at cs
  have w1:IntKind.i64.wrap (((k:Nat):Int)+((x.length:Nat):Int))=((k+x.length:Nat):Int):=by rw[Ya (by omega)];omega
  have hsp:=Qai Tryz.prog 9 (by kernel_rfl) (mkB l) (some (.i64,(k:Nat))) (some (.i64,(k+x.length:Nat))) k (k+x.length) ⟨by omega,by rw[Qv];omega,by omega⟩ ⟨by omega,by omega,by omega⟩
  simp only[QtH]at hsp
  rw[ZP l k _ (by omega),xp]at hsp
  refine Qa Tryz.func105 rfl Tryz.call105 Tryz.ntmps105 Tryz.results105 (by simp) ?_
  repeat (first|refine Qe cp ?_|refine FunW.QsR (cs _) ?_|refine Qb ?_);simp only[go_sem,seval,YS,hsl,Qv,z1,hix,u2,u3,u4,hq,w1,hsp]
  exact Qc (htake _ _) (.keep (Yz _ _ (.inl (4,x)))) ⟨rfl,rfl⟩
end
end Go.Proofs.YticgcpebdldbgaaGreatDoor.Ab
namespace Go.Proofs.YticgcpebdldbgaaGreatDoor.Ab
open Go.Proofs
theorem QqE {n : Int} (h : 0 <= n /\ n <= 255) : IntKind.u8.wrap n = n := IntWalk.u8_in n h
theorem Qqu (n : Int) (hn : 0 <= n /\ n < 256) : pv Tryz.prog (convert 5 3 (.int .u8 n)) = some (.int .i64 n) := by
  have : pv Tryz.prog (convert 5 3 (.int .u8 n)) = some (.int .i64 (IntKind.i64.wrap n)) := by kernel_rfl
  rw [this, Ya (by omega)]
theorem Qdy (q : List UInt8) : ∃ j, j <= q.length /\ XS false q = q.drop j := by
  have : ∀ (b : Bool) (q : List UInt8), ∃ j, j <= q.length /\ XS b q = q.drop j := fun b q => by
    induction q generalizing b with
    | nil => exact ⟨0, QuD _, by cases b <;> rfl⟩
    | cons c r ih =>
      cases b with
      | true =>
        rw [XS]
        split
        · obtain ⟨j, h1, h2⟩ := ih false; exact ⟨j + 1, by simp; omega, by rw [h2]; rfl⟩
        · obtain ⟨j, h1, h2⟩ := ih true; exact ⟨j + 1, by simp; omega, by rw [h2]; rfl⟩
      | false =>
        rw [XS]
        split
        · obtain ⟨j, h1, h2⟩ := ih false; exact ⟨j + 1, by simp; omega, by rw [h2]; rfl⟩
        · split
          · obtain ⟨j, h1, h2⟩ := ih true; exact ⟨j + 1, by simp; omega, by rw [h2]; rfl⟩
          · exact ⟨0, QuG _, rfl⟩
  exact this false q
section
variable (l : List UInt8) (hl : l.length <= 16384) (k : Nat) (h : AH)
include hl
theorem QnY (hk : k < l.length) (hD : isD l[k] = true) : QA Tryz.prog 105 [.v (.string (mkB l)), .i k] h fun o h' => o = .ret (rdT k (Zn (l.drop k))) /\ h' = h := by
  have hsl := fun b => Y5 Tryz.prog 9 3 (by kernel_rfl) b
  have z1 : (((k : Nat) : Int) == ((l.length : Nat) : Int)) = false := by simp; omega
  have hix := Yv Tryz.prog 9 (by kernel_rfl) (mkB l) k (by rw [Qv]; exact hk)
  rw [YT l k hk] at hix
  have cp := Qde (((l[k]).toNat : Nat) : Int)
  have cr := Qi1 l hl isD 4 Qmw k (by omega)
  have hd := drop_cons hk
  have hn : ((l.drop k).takeWhile isD).length <= l.length - k := by rw [<- QuX]; exact (Qvu _).length_le
  obtain ⟨w, hw⟩ : ∃ w, w = (l.drop k).takeWhile isD := ⟨_, rfl⟩
  rw [<- hw] at cr hn
  have hL : isL l[k] = false := by rcases Qkd l[k] with ⟨a, b, c⟩ | ⟨a, b, c⟩ | ⟨a, b, c⟩ | ⟨a, b, c⟩
                                   · exact absurd ((Qmw l[k]).2 hD) (by omega)
                                   · exact absurd ((Qmw l[k]).2 hD) (by omega)
                                   · exact b
                                   · exact b
  have c4 : clsN (((l[k]).toNat : Nat) : Int) = 4 := by rcases Qkd l[k] with ⟨a, b, c⟩ | ⟨a, b, c⟩ | ⟨a, b, c⟩ | ⟨a, b, c⟩ <;> first | exact a | exact absurd (b.symm.trans hL) (by decide) | exact absurd (c.symm.trans hD) (by decide)
  rw [c4] at cp
  have ht : Zn (l.drop k) = if 2147483648 < numVal w then .inr 5 else .inl (3, w) := by rw [hw, hd, Zn, QuE (by rw [hL]; decide), QuH hD]
  have hsp := Qai Tryz.prog 9 (by kernel_rfl) (mkB l) (some (.i64, (k : Nat))) (some (.i64, (k + w.length : Nat))) k (k + w.length) ⟨by omega, by rw [Qv]; omega, by omega⟩ ⟨by omega, by omega, by omega⟩
  simp only [QtH] at hsp
  have hwt : (l.drop k).take w.length = w := by rw [hw]; exact (QvV.1 (Qvu isD)).symm
  rw [ZP l k _ (by omega), hwt] at hsp
  have q42 : ((4 : Int) == 2) = false := rfl
  have q43 : ((4 : Int) == 3) = false := rfl
  have hwd : ∀ (j : Nat) (hj : j < w.length), l[k + j]'(by omega) = w[j] /\ isD w[j] = true := fun j hj => by
    constructor
    · have : (l.drop k)[j]? = w[j]? := by
        conv => rhs; rw [<- hwt, Qv9, QuH hj]
      rw [Qu7, QuC (by omega), QuC hj] at this
      exact Qwb this
    · have : ∀ c ∈ w, isD c = true := fun c hc => by
        rw [hw] at hc
        exact Qvg.1 List.all_takeWhile c hc
      exact this _ (Qvk hj)
  rw [ht]
  refine Qa Tryz.func105 rfl Tryz.call105 Tryz.ntmps105 Tryz.results105 (by simp) ?_
  repeat (first | refine Qe cp ?_ | refine Qe cr ?_ | refine Qb ?_); simp only [go_sem, seval, hsl, Qv, z1, hix, q42, q43]
  obtain ⟨I, hI⟩ : ∃ I : Nat -> AS -> Prop, I = fun m' s => ∃ j : Nat, m' = w.length - j /\ j <= w.length /\ numVal (w.take j) <= 2147483648 /\ s.tm 0 = .v (.string (mkB l)) /\ s.tm 1 = .i k /\ s.tm 4 = .ptr h.length 0 0 /\ s.tm 5 = .i ((k + w.length : Nat) : Int) /\ s.tm 7 = .i (numVal (w.take j) : Nat) /\ s.tm 8 = .i ((k + j : Nat) : Int) /\ s.h = h ++ [.cells 54 3 [.agg [.i 3, .i k, .v (.string { data := #[] })]]] := ⟨_, rfl⟩; refine QD I ?_ (m := w.length) ?_
  · intro m' s hs; rw [hI] at hs; obtain ⟨tm, hp⟩ := s; dsimp only at hs; obtain ⟨j, rfl, hj, hv, t0, t1, t4, t5, t7, t8, rfl⟩ := hs
    by_cases hlt : j < w.length
    · have y1 : (((k + j : Nat) : Int) < ((k + w.length : Nat) : Int)) := by omega
      obtain ⟨d1, d2⟩ := hwd j hlt
      have hix2 := Yv Tryz.prog 9 (by kernel_rfl) (mkB l) (k + j) (by rw [Qv]; omega)
      rw [YT l (k + j) (by omega), d1] at hix2
      have hcd : 48 <= (w[j]).toNat /\ (w[j]).toNat <= 57 := by unfold isD at d2; simpa using d2
      obtain ⟨n1, n2⟩ := QbR hlt
      generalize hnv : numVal (w.take j) = v at *
      have w1 : IntKind.i64.wrap (10 * ((v : Nat) : Int)) = ((10 * v : Nat) : Int) := by rw [Ya (by omega)]; omega
      have w2 : IntKind.u8.wrap ((((w[j]).toNat : Nat) : Int) - 48) = (((w[j]).toNat - 48 : Nat) : Int) := by rw [QqE (by omega)]; omega
      have w3 := Qqu (((w[j]).toNat - 48 : Nat) : Int) (by omega)
      have w4 : IntKind.i64.wrap (((10 * v : Nat) : Int) + (((w[j]).toNat - 48 : Nat) : Int)) = ((numVal (w.take (j + 1)) : Nat) : Int) := by rw [Ya (by omega)]; omega
      have w5 : IntKind.i64.wrap (((k + j : Nat) : Int) + 1) = ((k + (j + 1) : Nat) : Int) := by rw [Ya (by omega)]; omega
      by_cases hb : 2147483648 < numVal (w.take (j + 1))
      · have y2 : ((numVal (w.take (j + 1)) : Nat) : Int) > 2147483648 := by omega
        have y3 : (2147483648 : Int) < ((numVal (w.take (j + 1)) : Nat) : Int) := by omega
        rw [show (if 2147483648 < numVal w then (Sum.inr 5 : Int × List UInt8 ⊕ Int) else .inl (3, w)) = .inr 5 from QuH (by omega)]
        repeat refine Qb ?_; simp only [go_sem, seval, t0, t1, t4, t5, t7, t8, y1, hix2, w1, w2, w3, w4, y2]
        exact Qc (htake _ _) (.keep (Yz _ k (.inr 5))) ⟨rfl, rfl⟩
      · have y2 : ¬ ((numVal (w.take (j + 1)) : Nat) : Int) > 2147483648 := by omega
        have y3 : ¬ (2147483648 : Int) < ((numVal (w.take (j + 1)) : Nat) : Int) := by omega
        repeat refine Qb ?_; simp only [go_sem, seval, t0, t5, t7, t8, y1, hix2, w1, w2, w3, w4, y2, w5]
        refine XB.mk (m' := w.length - (j + 1)) (by omega) ?_
        rw [hI]
        exact ⟨j + 1, rfl, hlt, by omega, t0, t1, t4, t5, rfl, rfl, rfl⟩
    · have hjl : j = w.length := by omega
      have y1 : ¬ (((k + j : Nat) : Int) < ((k + w.length : Nat) : Int)) := by omega
      rw [hjl, QuA] at hv
      repeat refine Qb ?_; simp only [go_sem, seval, YS, t0, t1, t4, t5, t8, y1, hsp]
      exact Qc (htake _ _) (.keep (Yz _ k (.inl (3, w)))) ⟨by rw [show (if 2147483648 < numVal w then (Sum.inr 5 : Int × List UInt8 ⊕ Int) else .inl (3, w)) = .inl (3, w) from QuE (by omega)]; rfl, rfl⟩
  · rw [hI]
    refine ⟨0, rfl, QuG _, by simp [numVal], rfl, rfl, rfl, rfl, rfl, rfl, rfl⟩
theorem Ql5 (hk : k <= l.length) (hG : QaN h) : QA Tryz.prog 105 [.v (.string (mkB l)), .i k] h fun o h' => o = .ret (rdT k (Zn (l.drop k))) /\ h' = h := by
  by_cases e : k = l.length
  · exact QnX l hl k h e
  · have hlt : k < l.length := by omega
    by_cases hL : isL l[k] = true
    · exact Ql6 l hl k h hlt hL
    · by_cases hD : isD l[k] = true
      · exact QnY l hl k h hlt hD
      · exact QnZ l hl k h hlt (by simpa using hL) (by simpa using hD) hG
def QfA (tot : Nat) (q : List UInt8) : AV := rdT (tot - (XS false q).length) (Zn (XS false q))
theorem QoO (hk : k <= l.length) (hG : QaN h) : QA Tryz.prog 90 [.v (.string (mkB l)), .i k] h fun o h' => o = .ret (QfA l.length (l.drop k)) /\ h' = h := by
  have hsl := fun b => Y5 Tryz.prog 9 3 (by kernel_rfl) b
  have z1 : ¬ ((k : Nat) : Int) < 0 := by omega
  have z2 : ¬ ((l.length : Nat) : Int) < ((k : Nat) : Int) := by omega
  have z3 : ¬ ((k : Nat) : Int) > ((l.length : Nat) : Int) := by omega
  have z4 : ¬ ((l.length : Nat) : Int) > 16384 := by omega
  have z5 : ¬ (16384 : Int) < ((l.length : Nat) : Int) := by omega
  have cs := QlW l hl k hk
  obtain ⟨j, j1, j2⟩ := Qdy (l.drop k)
  have e1 : XS false (l.drop k) = l.drop (l.length - (XS false (l.drop k)).length) := by
    rw [QuX] at j1
    rw [j2, Qwj, QuX]
    congr 1; omega
  have cr := fun b => Ql5 l hl (l.length - (XS false (l.drop k)).length) (h ++ [b]) (by omega) (hG.app [b])
  rw [<- e1] at cr
  have fin : ∀ n, Below n (QfA l.length (l.drop k)) := fun n => Yz _ _ _
  cases hr : Zn (XS false (l.drop k)) with
  | inl p =>
    obtain ⟨kd, x⟩ := p
    have e2 : QfA l.length (l.drop k) = rdT (l.length - (XS false (l.drop k)).length) (.inl (kd, x)) := by rw [QfA, hr]
    rw [e2] at fin ⊢
    rw [hr] at cr
    generalize l.length - (XS false (l.drop k)).length = i at *
    refine Qa Tryz.func90 rfl Tryz.call90 Tryz.ntmps90 Tryz.results90 (by simp) ?_
    repeat (first | refine Qe cs ?_ | refine FunW.QsR (cr _) ?_ | refine Qb ?_); simp only [go_sem, seval, hsl, Qv, z1, z2, z4, rdT, tkv]
    exact Qc (htake _ _) (.keep (fin _)) ⟨rfl, rfl⟩
  | inr e =>
    have e2 : QfA l.length (l.drop k) = rdT (l.length - (XS false (l.drop k)).length) (.inr e) := by rw [QfA, hr]
    rw [e2] at fin ⊢
    rw [hr] at cr
    generalize l.length - (XS false (l.drop k)).length = i at *
    refine Qa Tryz.func90 rfl Tryz.call90 Tryz.ntmps90 Tryz.results90 (by simp) ?_
    repeat (first | refine Qe cs ?_ | refine FunW.QsR (cr _) ?_ | refine Qb ?_); simp only [go_sem, seval, hsl, Qv, z1, z2, z4, rdT, zTok]
    exact Qc (htake _ _) (.keep (fin _)) ⟨rfl, rfl⟩
end
end Go.Proofs.YticgcpebdldbgaaGreatDoor.Ab
namespace Go.Proofs.YticgcpebdldbgaaGreatDoor.Ab
open Go.Proofs
def scR:List Tk ⊕ (Int×Int)->AV
 | .inl ts=>.tup [.sl 3 (tks ts) none,.i 0,.i 0]
 | .inr p=>.tup [.v (.slice none 0 0),.i p.1,.i p.2]
def scJ(ts:List Tk):List Tk ⊕ (Int×Int)->List Tk ⊕ (Int×Int)
 | .inl us=>.inl (ts++us)
 | .inr p=>.inr p
theorem QfQ(n:Nat)(r:List Tk ⊕ (Int×Int)):Below n (scR r):=by
 cases r with
 |inl ts =>
  refine .tup _ fun x hx=>?_
  simp only[QuL,QuS,Qvz]at hx
  rcases hx with rfl|rfl|rfl
  ·exact .sl 3 _ none (Qb0 _ _) (fun b hb=>by cases hb)
  ·exact .v _
  ·exact .v _
 |inr p =>
  refine .tup _ fun x hx=>?_
  simp only[QuL,QuS,Qvz]at hx
  rcases hx with rfl|rfl|rfl <;> exact .v _
theorem Qnh(l:List UInt8)(hl:16384<l.length)(h:AH):QA Tryz.prog 90 [.v (.string (mkB l)),.i 0] h fun o h'=>o = .ret (.tup [zTok,.i 0,.i 6])/\h'=h:=by
 have hsl:=fun b=>Y5 Tryz.prog 9 3 (by kernel_rfl) b
 have z1:¬(0:Int)<0:=by omega
 have z2:¬((l.length:Nat):Int)<0:=by omega
 have z3:¬(0:Int)>((l.length:Nat):Int):=by omega
 have z4:((l.length:Nat):Int)>16384:=by omega
 have z5:(16384:Int)<((l.length:Nat):Int):=by omega
 refine Qa Tryz.func90 rfl Tryz.call90 Tryz.ntmps90 Tryz.results90 (by simp) ?_
 repeat refine Qb ?_;simp only[go_sem,seval,hsl,Qv,z1,z2,z4]
 exact Qc (htake _ _) (.keep (Yz _ 0 (.inr 6))) ⟨rfl,rfl⟩
theorem QhZ{q:List UInt8}{e:Int}(h:Zn q = .inr e):e≠0:=by
 cases q with
 |nil=>cases h
 |cons c r =>
  rw[Zn]at h
  split at h
  ·split at h
   ·cases h;decide
   ·cases h
  ·split at h
   ·split at h
    ·cases h;decide
    ·cases h
   ·split at h
    ·cases h
    ·cases h;decide
theorem Qi4(l:List UInt8)(h:AH)(hG:QaN h):QA Tryz.prog 66 [.v (.string (mkB l))] h fun o h'=>o = .ret (scR (Zx l))/\h'=h:=by
 by_cases hl:16384<l.length
 ·have cn:=fun L=>Qnh l hl (h++L)
  rw[Zx,QuH hl]
  have e2:((6:Int) != 0)=true:=rfl
  refine Qa Tryz.func66 rfl Tryz.call66 Tryz.ntmps66 Tryz.results66 (by simp) ?_
  iterate 6 (try (first|(((with_reducible refine Qd fun K E hK hE=>?_));simp only[go_sem,seval])|((with_reducible refine hK _ ?_);clear hK)))
  refine Zu 5 54 3 rfl ?_
  iterate 4 (try ((with_reducible refine Qu ?_)))
  obtain⟨I,hI⟩:∃I:Nat->AS->Prop,I=fun m' s=>m'=0/\s.tm 0 = .v (.string (mkB l))/\s.tm 6 = .i 0/\s.h=h++[.grow 54 3 0]:=⟨_,rfl⟩;refine QD I ?_ (m:=0) ?_
  ·intro m' s hs;rw[hI]at hs;obtain⟨tm,hp⟩:=s;dsimp only at hs;obtain⟨rfl,t0,t6,rfl⟩:=hs
   repeat first|(first|refine FunW.QsR (cn _) ?_|refine Qb ?_);simp only[go_sem,seval,t0,t6,zTok,e2]|refine hK _ ?_;clear hK
   exact Qc (htake _ _) (.keep (QfQ _ (.inr (0,6)))) ⟨rfl,rfl⟩
  ·rw[hI]
   exact⟨rfl,rfl,rfl,rfl⟩
 ·have hl2:l.length<=16384:=by omega
  rw[Zx,QuE hl]
  generalize hR:QaZ l.length (l.length+1) l=R
  refine Qa Tryz.func66 rfl Tryz.call66 Tryz.ntmps66 Tryz.results66 (by simp) ?_
  iterate 6 (try (first|(((with_reducible refine Qd fun K E hK hE=>?_));simp only[go_sem,seval])|((with_reducible refine hK _ ?_);clear hK)))
  refine Zu 5 54 3 rfl ?_
  iterate 4 (try ((with_reducible refine Qu ?_)))
  obtain⟨I,hI⟩:∃I:Nat->AS->Prop,I=fun m' s=>∃(ts:List Tk) (k:Nat) (G:AH),m'=l.length - k/\k<=l.length/\ts.length<=k/\(∃m,l.length - k<m/\scJ ts (QaZ l.length m (l.drop k))=R)/\s.tm 0 = .v (.string (mkB l))/\s.tm 5 = .sl 3 (tks ts) (some h.length)/\s.tm 6 = .i k/\s.h=h++(.grow 54 3 ts.length::G):=⟨_,rfl⟩;refine QD I ?_ (m:=l.length) ?_
  ·intro m' s hs;rw[hI]at hs;obtain⟨tm,hp⟩:=s;dsimp only at hs;obtain⟨ts,k,G,rfl,hk,htl,⟨m,hm,hR2⟩,t0,t5,t6,rfl⟩:=hs
   have hm1:m=m - 1+1:=by omega
   rw[hm1,QaZ]at hR2
   have cn:=fun L=>QoO l hl2 k (h++L) hk (hG.app L)
   obtain⟨j,j1,j2⟩:=Qdy (l.drop k)
   have hsl:(XS false (l.drop k)).length<=l.length - k:=by rw[j2,QuX,QuX];omega
   have e1:XS false (l.drop k)=l.drop (l.length - (XS false (l.drop k)).length):=by
    rw[QuX]at j1
    rw[j2,Qwj,QuX]
    congr 1;omega
   rw[QfA]at cn
   have x1:∀(Y:AH),(G++Y)[G.length]? = Y[0]? := fun Y=>X8 _ _
   have x2:∀(Y:AH) k,(G++Y)[G.length+k]? = Y[k]? := fun Y k=>hget _ _ _
   have x3:∀(Y:AH) y,(G++Y).set G.length y=G++Y.set 0 y:=fun Y y=>Yh _ _ _
   have ev:(tks ts).length=ts.length:=Qas _
   cases ht:Zn (XS false (l.drop k))with
   |inr e =>
    rw[ht]at hR2 cn
    have hR3:Sum.inr (((l.length - (XS false (l.drop k)).length:Nat):Int),e)=R:=hR2
    subst hR3
    have he:(e != 0)=true:=by
     have:=QhZ ht
     simpa using this
    repeat first|(first|refine FunW.QsR (cn _) ?_|refine Qb ?_);simp only[go_sem,seval,t0,t6,rdT,zTok,he]|refine hK _ ?_;clear hK
    exact Qc (htake _ _) (.keep (QfQ _ (.inr (_,e)))) ⟨rfl,rfl⟩
   |inl p =>
    obtain⟨kd,x⟩:=p
    rw[ht]at hR2 cn
    have hm2:(ts.length+1) * 32<=140737488355328:=by omega
    have hm3:ts.length+1<=maxLen:=by simp only[maxLen];omega
    have e0:((0:Int) != 0)=false:=rfl
    rcases Qh0 ht with⟨k0,hx1,hx2⟩|⟨k0,hx1,r,hx2⟩
    ·subst k0
     subst hx2
     have hR3:Sum.inl (ts++[⟨0,((l.length - (XS false (l.drop k)).length:Nat):Int),eB⟩])=R:=hR2
     subst hR3
     have z1:((0:Int)==0)=true:=rfl
     generalize l.length - (XS false (l.drop k)).length=i at *
     have evs:tks (ts++[⟨0,((i:Nat):Int),eB⟩])=tks ts++[.agg [.i 0,.i i,.v (.string (mkB []))]]:=by rw[tks,Qvr];rfl
     repeat first|(first|refine FunW.QsR (cn _) ?_|refine Qb ?_);simp only[go_sem,seval,t0,t5,t6,rdT,tkv,x1,x3,ev,hm2,hm3,Quz]|refine hK _ ?_;clear hK
     refine Qc (htake _ _) (r':=.tup [.sl 3 (tks ts++[.agg [.i 0,.i i,.v (.string (mkB []))]]) none,.i 0,.i 0]) (Frz.tup rfl fun j a a' h1 h2=>?_) ⟨by rw[scR,evs],rfl⟩
     match j,h1,h2 with
     |0,h1,h2=>cases h1;cases h2;exact .tok (by rw[<-evs];exact Qb0 _ _)
     |1,h1,h2=>cases h1;cases h2;exact .keep (.v _)
     |2,h1,h2=>cases h1;cases h2;exact .keep (.v _)
     |j+3,h1,h2=>simp at h1
    ·have hR3:scJ (ts++[⟨kd,((l.length - (XS false (l.drop k)).length:Nat):Int),mkB x⟩]) (QaZ l.length (m - 1) ((XS false (l.drop k)).drop x.length))=R:=by
      rw[<-hR2]
      show _=scJ ts (if kd=0 then _ else match QaZ l.length (m - 1) ((XS false (l.drop k)).drop x.length)with | .inl ts=>_ | .inr e=>_)
      rw[QuE k0]
      cases QaZ l.length (m - 1) ((XS false (l.drop k)).drop x.length)with
      |inl us=>simp[scJ]
      |inr e=>rfl
     have hxl:0<x.length:=QvZ.2 hx1
     have hxr:x.length<=(XS false (l.drop k)).length:=by rw[hx2,Quw];omega
     have e9:(XS false (l.drop k)).drop x.length=l.drop (l.length - (XS false (l.drop k)).length+x.length):=by
      conv=>lhs;rw[e1]
      rw[Qwj]
     rw[e9]at hR3
     generalize (XS false (l.drop k)).length=u at *
     have z1:(kd==0)=false:=by simpa using k0
     have evs:tks (ts++[⟨kd,((l.length - u:Nat):Int),mkB x⟩])=tks ts++[.agg [.i kd,.i ((l.length - u:Nat):Int),.v (.string (mkB x))]]:=by rw[tks,Qvr];rfl
     repeat first|(first|refine FunW.QsR (cn _) ?_|refine Qb ?_);simp only[go_sem,seval,t0,t5,t6,rdT,tkv,z1,x1,x3,ev,hm2,hm3,Quz]|refine hK _ ?_;clear hK
     refine XB.mk (m':=l.length - (l.length - u+x.length)) (by omega) ?_
     rw[hI]
     refine⟨ts++[⟨kd,((l.length - u:Nat):Int),mkB x⟩],l.length - u+x.length,G++[.cells 54 3 [tkv kd ((l.length - u:Nat):Int) x]],rfl,by omega,by simp;omega,⟨m - 1,by omega,hR3⟩,t0,?_,rfl,?_⟩
     ·rw[evs];rfl
     ·rw[Quw];rfl
  ·rw[hI]
   exact⟨[],0,[],rfl,QuG _,QuD _,⟨l.length+1,by omega,by rw[<-hR];cases h0:QaZ l.length (l.length+1) l <;> simp[scJ,h0]⟩,rfl,rfl,rfl,rfl⟩
end Go.Proofs.YticgcpebdldbgaaGreatDoor.Ab
namespace Go.Proofs.YticgcpebdldbgaaGreatDoor.Ab
open Go.Proofs
def lowB(c:UInt8):Bool:=decide (97<=c.toNat/\c.toNat<=122)
def upB(c:UInt8):Bool:=decide (65<=c.toNat/\c.toNat<=90\/c.toNat=95)
theorem Qfo(c:UInt8):isL c=(lowB c||upB c):=by
 unfold isL lowB upB
 rw[Bool.eq_iff_iff]
 simp only[Qvi,QvC]
theorem Qbg(c:UInt8):Pure Tryz.prog 72 [.v (.int .u8 (c.toNat:Nat))] (.b (lowB c)):=by
 intro h
 have hc:=c.toNat_lt
 refine Qa Tryz.func72 rfl Tryz.call72 Tryz.ntmps72 Tryz.results72 (by simp) ?_
 by_cases h1:97<=c.toNat
 ·have y1:((c.toNat:Nat):Int)>=97:=by omega
  have y1':(97:Int)<=((c.toNat:Nat):Int):=by omega
  by_cases h2:c.toNat<=122
  ·have y2:((c.toNat:Nat):Int)<=122:=by omega
   have e:lowB c=true:=QuU ⟨h1,h2⟩
   repeat refine Qb ?_;simp only[go_sem,seval,y1,y2]
   (refine Qc QuA (.keep (.v _)) ⟨by rw[e],rfl⟩)
  ·have y2:¬((c.toNat:Nat):Int)<=122:=by omega
   have e:lowB c=false:=QuM (by omega)
   repeat refine Qb ?_;simp only[go_sem,seval,y1,y2]
   (refine Qc QuA (.keep (.v _)) ⟨by rw[e],rfl⟩)
 ·have y1:¬((c.toNat:Nat):Int)>=97:=by omega
  have y1':¬(97:Int)<=((c.toNat:Nat):Int):=by omega
  have e:lowB c=false:=QuM (by omega)
  repeat refine Qb ?_;simp only[go_sem,seval,y1]
  (refine Qc QuA (.keep (.v _)) ⟨by rw[e],rfl⟩)
theorem QaU(c:UInt8):Pure Tryz.prog 74 [.v (.int .u8 (c.toNat:Nat))] (.b (isD c)):=by
 intro h
 have hc:=c.toNat_lt
 refine Qa Tryz.func74 rfl Tryz.call74 Tryz.ntmps74 Tryz.results74 (by simp) ?_
 by_cases h1:48<=c.toNat
 ·have y1:((c.toNat:Nat):Int)>=48:=by omega
  have y1':(48:Int)<=((c.toNat:Nat):Int):=by omega
  by_cases h2:c.toNat<=57
  ·have y2:((c.toNat:Nat):Int)<=57:=by omega
   have e:isD c=true:=QuU ⟨h1,h2⟩
   repeat refine Qb ?_;simp only[go_sem,seval,y1,y2]
   (refine Qc QuA (.keep (.v _)) ⟨by rw[e],rfl⟩)
  ·have y2:¬((c.toNat:Nat):Int)<=57:=by omega
   have e:isD c=false:=QuM (by omega)
   repeat refine Qb ?_;simp only[go_sem,seval,y1,y2]
   (refine Qc QuA (.keep (.v _)) ⟨by rw[e],rfl⟩)
 ·have y1:¬((c.toNat:Nat):Int)>=48:=by omega
  have y1':¬(48:Int)<=((c.toNat:Nat):Int):=by omega
  have e:isD c=false:=QuM (by omega)
  repeat refine Qb ?_;simp only[go_sem,seval,y1]
  (refine Qc QuA (.keep (.v _)) ⟨by rw[e],rfl⟩)
theorem QbX(c:UInt8):Pure Tryz.prog 73 [.v (.int .u8 (c.toNat:Nat))] (.b (upB c)):=by
 intro h
 have hc:=c.toNat_lt
 refine Qa Tryz.func73 rfl Tryz.call73 Tryz.ntmps73 Tryz.results73 (by simp) ?_
 by_cases h1:65<=c.toNat
 ·have y1:((c.toNat:Nat):Int)>=65:=by omega
  have y1':(65:Int)<=((c.toNat:Nat):Int):=by omega
  by_cases h2:c.toNat<=90
  ·have y2:((c.toNat:Nat):Int)<=90:=by omega
   have e:upB c=true:=QuU (.inl ⟨h1,h2⟩)
   repeat refine Qb ?_;simp only[go_sem,seval,y1,y2]
   (refine Qc QuA (.keep (.v _)) ⟨by rw[e],rfl⟩)
  ·have y2:¬((c.toNat:Nat):Int)<=90:=by omega
   by_cases h3:c.toNat=95
   ·have y3:(((c.toNat:Nat):Int)==95)=true:=by simp;omega
    have e:upB c=true:=QuU (.inr h3)
    repeat refine Qb ?_;simp only[go_sem,seval,y1,y2,y3]
    (refine Qc QuA (.keep (.v _)) ⟨by rw[e],rfl⟩)
   ·have y3:(((c.toNat:Nat):Int)==95)=false:=by simp;omega
    have e:upB c=false:=QuM (by omega)
    repeat refine Qb ?_;simp only[go_sem,seval,y1,y2,y3]
    (refine Qc QuA (.keep (.v _)) ⟨by rw[e],rfl⟩)
 ·have y1:¬((c.toNat:Nat):Int)>=65:=by omega
  have y1':¬(65:Int)<=((c.toNat:Nat):Int):=by omega
  have y3:(((c.toNat:Nat):Int)==95)=false:=by simp;omega
  have e:upB c=false:=QuM (by omega)
  repeat refine Qb ?_;simp only[go_sem,seval,y1,y3]
  (refine Qc QuA (.keep (.v _)) ⟨by rw[e],rfl⟩)
theorem Qj0(c:UInt8):Pure Tryz.prog 92 [.v (.int .u8 (c.toNat:Nat))] (.b (isSp c)):=by
 intro h
 refine Qa Tryz.func92 rfl Tryz.call92 Tryz.ntmps92 Tryz.results92 (by simp) ?_
 by_cases h1:c.toNat=32
 ·have y1:(((c.toNat:Nat):Int)==32)=true:=by simp;omega
  have e:isSp c=true:=QuU (by omega)
  repeat refine Qb ?_;simp only[go_sem,seval,y1]
  (refine Qc QuA (.keep (.v _)) ⟨by rw[e],rfl⟩)
 ·have y1:(((c.toNat:Nat):Int)==32)=false:=by simp;omega
  by_cases h2:c.toNat=9
  ·have y2:(((c.toNat:Nat):Int)==9)=true:=by simp;omega
   have e:isSp c=true:=QuU (by omega)
   repeat refine Qb ?_;simp only[go_sem,seval,y1,y2]
   (refine Qc QuA (.keep (.v _)) ⟨by rw[e],rfl⟩)
  ·have y2:(((c.toNat:Nat):Int)==9)=false:=by simp;omega
   by_cases h3:c.toNat=10
   ·have y3:(((c.toNat:Nat):Int)==10)=true:=by simp;omega
    have e:isSp c=true:=QuU (by omega)
    repeat refine Qb ?_;simp only[go_sem,seval,y1,y2,y3]
    (refine Qc QuA (.keep (.v _)) ⟨by rw[e],rfl⟩)
   ·have y3:(((c.toNat:Nat):Int)==10)=false:=by simp;omega
    by_cases h4:c.toNat=13
    ·have y4:(((c.toNat:Nat):Int)==13)=true:=by simp;omega
     have e:isSp c=true:=QuU (by omega)
     repeat refine Qb ?_;simp only[go_sem,seval,y1,y2,y3,y4]
     (refine Qc QuA (.keep (.v _)) ⟨by rw[e],rfl⟩)
    ·have y4:(((c.toNat:Nat):Int)==13)=false:=by simp;omega
     have e:isSp c=false:=QuM (by omega)
     repeat refine Qb ?_;simp only[go_sem,seval,y1,y2,y3,y4]
     (refine Qc QuA (.keep (.v _)) ⟨by rw[e],rfl⟩)
section
variable(l:List UInt8)(hl:l.length<=16384)
include hl
theorem Qa5(k:Nat)(hk:k<=l.length):Pure Tryz.prog 71 [.v (.string (mkB l)),.i k] (.i ((l.length - (XS false (l.drop k)).length:Nat):Int)):=by
 intro h
 have hsl:=fun b=>Y5 Tryz.prog 9 3 (by kernel_rfl) b
 refine Qa Tryz.func71 rfl Tryz.call71 Tryz.ntmps71 Tryz.results71 (by simp) ?_
 repeat refine Qb ?_;simp only[go_sem,seval]
 obtain⟨I,hI⟩:∃I:Nat->AS->Prop,I=fun m' s=>∃j:Nat,m'=l.length - j/\j<=l.length/\XS false (l.drop j)=XS false (l.drop k)/\s.tm 0 = .v (.string (mkB l))/\s.tm 1 = .i j/\s.h=h:=⟨_,rfl⟩;refine QD I ?_ (m:=l.length - k) ?_
 ·intro m' s hs;rw[hI]at hs;obtain⟨tm,hp⟩:=s;dsimp only at hs;obtain⟨j,rfl,hj,he,t0,t1,rfl⟩:=hs
  by_cases hlt:j<l.length
  ·have z1:(((j:Nat):Int)<((l.length:Nat):Int)):=by omega
   have hix:=Yv Tryz.prog 9 (by kernel_rfl) (mkB l) j (by rw[Qv];exact hlt)
   rw[YT l j hlt]at hix
   have cp:=Qj0 l[j]
   have hd:=drop_cons hlt
   rw[hd,XS]at he
   cases hc:isSp l[j]with
   |true =>
    rw[hc]at cp
    rw[QuH hc]at he
    repeat (first|refine Qe cp ?_|refine Qb ?_);simp only[go_sem,seval,t0,t1,hsl,Qv,z1,hix]
    refine XB.mk (m':=l.length - (j+1)) (by omega) ?_
    rw[hI]
    refine⟨j+1,rfl,hlt,he,t0,?_,rfl⟩
    simp only[upd,↓reduceIte]
    rw[XM (by omega)]
   |false =>
    rw[hc]at cp
    rw[QuE (by rw[hc];decide)]at he
    by_cases h35:(l[j]).toNat=35
    ·rw[QuH h35]at he
     have z3:((((l[j]).toNat:Nat):Int)==35)=true:=by rw[h35];rfl
     have hI0:=hI
     repeat (first|refine Qe cp ?_|refine Qb ?_);simp only[go_sem,seval,t0,t1,hsl,Qv,z1,hix,z3]
     obtain⟨I,hI⟩:∃I:Nat->AS->Prop,I=fun m' s=>∃i:Nat,m'=l.length - i/\i<=l.length/\j<=i/\(i=j\/XS true (l.drop i)=XS false (l.drop k))/\s.tm 0 = .v (.string (mkB l))/\s.tm 1 = .i i/\s.h=hp:=⟨_,rfl⟩;refine QD I ?_ (m:=l.length - j) ?_
     ·intro m' s hs;rw[hI]at hs;obtain⟨tm,hp⟩:=s;dsimp only at hs;obtain⟨i,rfl,hi,hji,he2,u0,u1,rfl⟩:=hs
      by_cases hlt2:i<l.length
      ·have y1:(((i:Nat):Int)<((l.length:Nat):Int)):=by omega
       have hix2:=Yv Tryz.prog 9 (by kernel_rfl) (mkB l) i (by rw[Qv];exact hlt2)
       rw[YT l i hlt2]at hix2
       have hd2:=drop_cons hlt2
       by_cases h10:(l[i]).toNat=10
       ·have y2:((((l[i]).toNat:Nat):Int) != 10)=false:=by rw[h10];rfl
        have hne:i≠j:=by rintro rfl;omega
        have he3:=he2.resolve_left hne
        rw[hd2,XS,QuH h10]at he3
        repeat refine Qb ?_;simp only[go_sem,seval,u0,u1,hsl,Qv,y1,hix2,y2]
        refine XB.mk (m':=l.length - i) (by omega) ?_
        rw[hI0]
        refine⟨i,rfl,hi,?_,u0,u1,rfl⟩
        rw[hd2,XS,QuH (show isSp l[i]=true by unfold isSp;exact QuU (by omega))];exact he3
       ·have y2:((((l[i]).toNat:Nat):Int) != 10)=true:=by simpa using fun e=>h10 (by omega)
        repeat refine Qb ?_;simp only[go_sem,seval,u0,u1,hsl,Qv,y1,hix2,y2]
        refine XB.mk (m':=l.length - (i+1)) (by omega) ?_
        rw[hI]
        refine⟨i+1,rfl,hlt2,by omega,.inr ?_,u0,?_,rfl⟩
        ·rcases he2 with rfl|he2
         ·exact he
         ·rw[hd2,XS,QuE h10]at he2;exact he2
        ·simp only[upd,↓reduceIte]
         rw[XM (by omega)]
      ·have hil:i=l.length:=by omega
       have y1:¬(((i:Nat):Int)<((l.length:Nat):Int)):=by omega
       have hne:i≠j:=by omega
       have he3:=he2.resolve_left hne
       repeat refine Qb ?_;simp only[go_sem,seval,u0,u1,hsl,Qv,y1]
       refine XB.mk (m':=l.length - i) (by omega) ?_
       rw[hI0]
       refine⟨i,rfl,hi,?_,u0,u1,rfl⟩
       rw[hil,Qvb]at he3 ⊢
       rw[<-he3,XS,XS]
     ·rw[hI]
      exact⟨j,rfl,hj,QuD _,.inl rfl,t0,t1,rfl⟩
    ·rw[QuE h35]at he
     have z3:((((l[j]).toNat:Nat):Int)==35)=false:=by simpa using fun e=>h35 (by omega)
     repeat (first|refine Qe cp ?_|refine Qb ?_);simp only[go_sem,seval,t0,t1,hsl,Qv,z1,hix,z3]
     exact Qc QuA (.keep (.v _)) ⟨by rw[<-he,QtS,QuX];congr 3;omega,rfl⟩
  ·have hjl:j=l.length:=by omega
   have z1:¬(((j:Nat):Int)<((l.length:Nat):Int)):=by omega
   rw[hjl,Qvb,XS]at he
   repeat refine Qb ?_;simp only[go_sem,seval,t0,t1,hsl,Qv,z1]
   exact Qc QuA (.keep (.v _)) ⟨by rw[<-he,hjl];rfl,rfl⟩
 ·rw[hI]
  exact⟨k,rfl,hk,rfl,rfl,rfl,rfl⟩
end
theorem Qj3(l:List UInt8)(hd:∀c∈l,isD c=true)(hl:l.length<=16384):Pure Tryz.prog 75 [.v (.string (mkB l))] (.i (min (numVal l) 2147483649:Nat)):=by
 intro h
 have hsl:=fun b=>Y5 Tryz.prog 9 3 (by kernel_rfl) b
 refine Qa Tryz.func75 rfl Tryz.call75 Tryz.ntmps75 Tryz.results75 (by simp) ?_
 repeat refine Qb ?_;simp only[go_sem,seval]
 obtain⟨I,hI⟩:∃I:Nat->AS->Prop,I=fun m' s=>∃p:Nat,m'=l.length - p/\p<=l.length/\s.tm 0 = .v (.string (mkB l))/\s.tm 3 = .i (min (numVal (l.take p)) 2147483649:Nat)/\s.tm 4 = .i p/\s.h=h:=⟨_,rfl⟩;refine QD I ?_ (m:=l.length) ?_
 ·intro m' s hs;rw[hI]at hs;obtain⟨tm,hp⟩:=s;dsimp only at hs;obtain⟨p,rfl,hp',t0,t3,t4,rfl⟩:=hs
  by_cases hlt:p<l.length
  ·have y1:(((p:Nat):Int)<((l.length:Nat):Int)):=by omega
   have hix:=Yv Tryz.prog 9 (by kernel_rfl) (mkB l) p (by rw[Qv];exact hlt)
   rw[YT l p hlt]at hix
   have d2:=hd l[p] (Qvk hlt)
   have hcd:48<=(l[p]).toNat/\(l[p]).toNat<=57:=by unfold isD at d2;simpa using d2
   obtain⟨n1,n2⟩:=QbR hlt
   obtain⟨v,hv⟩:∃v,v=min (numVal (l.take p)) 2147483649:=⟨_,rfl⟩
   rw[<-hv]at t3
   have w1:IntKind.i64.wrap (((v:Nat):Int) * 10)=((v * 10:Nat):Int):=by rw[Ya (by omega)];omega
   have w2:IntKind.u8.wrap ((((l[p]).toNat:Nat):Int) - 48)=(((l[p]).toNat - 48:Nat):Int):=by rw[QqE (by omega)];omega
   have w3:=Qqu (((l[p]).toNat - 48:Nat):Int) (by omega)
   have w4:IntKind.i64.wrap (((v * 10:Nat):Int)+(((l[p]).toNat - 48:Nat):Int))=((v * 10+((l[p]).toNat - 48):Nat):Int):=by rw[Ya (by omega)];omega
   have w5:IntKind.i64.wrap (((p:Nat):Int)+1)=((p+1:Nat):Int):=XM (by omega)
   repeat refine Qb ?_;simp only[go_sem,seval,t0,t3,t4,hsl,Qv,y1,hix,w1,w2,w3,w4,w5]
   refine XB.mk (m':=l.length - (p+1)) (by omega) ?_
   rw[hI]
   refine⟨p+1,rfl,hlt,t0,?_,rfl,rfl⟩
   simp only[upd,↓reduceIte,Nat.reduceEqDiff]
   congr 3
   rw[n1]
   split <;> omega
  ·have y1:¬(((p:Nat):Int)<((l.length:Nat):Int)):=by omega
   have e:l.take p=l:=QvY (by omega)
   rw[e]at t3
   repeat refine Qb ?_;simp only[go_sem,seval,t0,t3,t4,hsl,Qv,y1]
   (refine Qc QuA (.keep (.v _)) ⟨rfl,rfl⟩)
 ·rw[hI]
  exact⟨0,rfl,QuG _,rfl,rfl,rfl,rfl⟩
end Go.Proofs.YticgcpebdldbgaaGreatDoor.Ab

