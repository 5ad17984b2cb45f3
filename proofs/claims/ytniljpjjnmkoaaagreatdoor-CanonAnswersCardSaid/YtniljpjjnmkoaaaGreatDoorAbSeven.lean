/-
  An abstract program logic, contracts of functions, and laws of terms and rules (part 7).
-/
import Derived.Test.YtniljpjjnmkoaaaGreatDoorAbSix
import Derived.Test.YtniljpjjnmkoaaaGreatDoorAbFive
set_option linter.unusedVariables false
set_option linter.unusedSimpArgs false
set_option maxHeartbeats 4000000
set_option maxRecDepth 4000
namespace Go.Proofs.YtniljpjjnmkoaaaGreatDoor.Ab
open Go.Proofs
theorem Qmk (n : Int) (b : List (Int × T)) (l : List It) (failed : Bool) : (ofC n b l failed).2 = (ofR n b l failed).2 ∧ Z6 (ofC n b l failed).1 (ofR n b l failed).1 = 0 := by
 unfold ofC ofR
 split
 ·exact ⟨rfl, ZD _⟩
 split
 ·exact ⟨rfl, ZD _⟩
 split
 ·exact ⟨rfl, ZD _⟩
 split
 ·exact ⟨rfl, ZD _⟩
 ·rename_i h6
  refine ⟨rfl, ?_⟩
  exact Qe9 (Qbl _ _ _) (by omega) fun p => Qa7
theorem Qix (n : Int) (c : Ct) (L : List Int) (h6 : L.length ≤ 6) : ∃ σ, σ.Perm (nums L.length) ∧ Zg n c L = ansG n c L σ := by
 have hm := QdU h6
 cases hP : XR 720 (nums L.length) with
 | nil => rw [hP] at hm; exact absurd ((hm (nums L.length)).2 (.refl _)) (by simp)
 | cons d D =>
  rw [hP] at hm
  have e1 : Zg n c L = Yb cmpA (ansG n c L d) (D.map (ansG n c L)) := by rw [Zg, hP]
  rcases List.mem_cons.1 (Qaz cmpA (D.map (ansG n c L)) (ansG n c L d)) with h | h
  ·exact ⟨d, (hm d).1 (by simp), by rw [e1, h]⟩
  ·obtain ⟨σ, h1, h2⟩ := List.mem_map.1 h
   exact ⟨σ, (hm σ).1 (by simp [h1]), by rw [e1, h2]⟩
theorem QjG {n : Int} {b : List (Int × T)} {l : List It} (failed : Bool) (H : SmallC b l) : ndsL (ofC n b l failed).1.vals ≤ 100000 ∧ gsN (ofC n b l failed).1.store ≤ 100000 := by
 have z : ∀ f, ndsL (An.mk f [] []).vals ≤ 100000 ∧ gsN (An.mk f [] []).store ≤ 100000 := fun f => ⟨Nat.zero_le _, Nat.zero_le _⟩
 unfold ofC
 split
 ·exact z _
 split
 ·exact z _
 split
 ·exact z _
 split
 ·exact z _
 ·rename_i h1 h2 h3 h4
  obtain ⟨σ, _, e⟩ := Qix n ⟨valsOf b n.toNat, QV b l⟩ (Xu n (valsOf b n.toNat) (QV b l)) (by omega)
  have hn : n.toNat ≤ 100 := by
   simp only [ZF, Bool.or_eq_true, decide_eq_true_eq, not_or] at h1
   omega
  have hV := H.vals n.toNat
  have hS := H.store
  rw [e]
  refine ⟨Nat.le_trans (Zn _ _) (by show ndsL (valsOf b n.toNat) ≤ _; omega), ?_⟩
  show gsN (Yq cmpG _) ≤ _
  rw [QeE (Y0 cmpG _)]
  exact Nat.le_trans (QeF _ _) (by show gsN (QV b l) ≤ _; omega)
theorem QiD (n : Int) (b : List (Int × T)) (l : List It) (failed : Bool) (H : SmallC b l) :
  Pure Tryz.prog 11 [.i n, .sl 5 (bavs b) none, .sl 3 (vs It.av l) none, .v (.bool failed)] (.tup [(ofC n b l failed).1.av, .i (ofC n b l failed).2]) := by
 cases hb : ZF n b l with
 | true => exact QnO n b l failed H hb
 | false =>
  cases failed with
  | true => exact Qfr n b l H hb
  | false => exact QgU n b l H hb
theorem QiW (n : Int) (b : List (Int × T)) (l : List It) (failed : Bool) (H : SmallC b l) (h4 : ∀ x ∈ l, x.atom.ok) :
  Pure Tryz.prog 25 [.i n, .sl 5 (bavs b) none, .sl 3 (vs It.av l) none, .v (.bool failed)] (.tup [(ofR n b l failed).1.av, .i (ofR n b l failed).2]) := by
 by_cases k1 : n < 0
 ·exact Qdt n b l failed H (.inl k1)
 by_cases k2 : n > 100
 ·exact Qdt n b l failed H (.inr (.inl k2))
 cases k3 : XF b with
 | false => exact Qdt n b l failed H (.inr (.inr k3))
 | true =>
  obtain ⟨N, rfl⟩ : ∃ N : Nat, n = (N : Int) := ⟨n.toNat, by omega⟩
  exact QlE N b l failed H h4 (by omega) k3
theorem QiT (n : Int) (b : List (Int × T)) (l : List It) (f : Bool) {a : An} {e : Int} (H : Pure Tryz.prog 11 [.i n, .sl 5 (bavs b) none, .sl 3 (vs It.av l) none, .v (.bool f)] (.tup [a.av, .i e])) :
  Pure Tryz.prog 26 [.i n, .agg [.v (.slice none 0 0), .sl 3 (vs It.av l) none, .sl 5 (bavs b) none, .v (.slice none 0 0), .v (.slice none 0 0), .i 3, .i 0, .v (.bool f)]] (.tup [a.av, .i e]) := by
 intro h
 refine Qh Tryz.func26 rfl Tryz.call26 Tryz.ntmps26 (congrArg Array.toList Tryz.results26) (by simp) ?_
 repeat (first | ((first | (with_reducible (first | refine Qa fun K E hK hE => ?_ | refine Qp H ?_))); simp -implicitDefEqProofs only [Qe, Qf, OpW, QJ, aop, undef, AS.ev, Qy, AV.Qot, ↓reduceIte, Qo, QB, QC, QO, QF, Xk, ti4, ti23, ti24, ti32, zi32, Qmg, Ql4, Qma, An.cells, An.isAgg, seval]) | (with_reducible refine Qj ?_) | ((with_reducible refine hK _ ?_); clear hK))
 simp -implicitDefEqProofs only [Qe, ↓reduceIte, QB, QC, ti32, An.cells, An.isAgg, List.mapM_cons, List.mapM_nil, Option.pure_def, Option.bind_eq_bind, QD, Ql, Qr, Qpi, seval]
 exact Qd (htake _ _) (.tup rfl (QZ (.keep (An.below _ _)) (Xz (.keep (.v _))))) ⟨rfl, rfl⟩
theorem Qhk (n : Int) (b : List (Int × T)) (l : List It) (f : Bool) {a : An} {e : Int} (H : Pure Tryz.prog 11 [.i n, .sl 5 (bavs b) none, .sl 3 (vs It.av l) none, .v (.bool f)] (.tup [a.av, .i e])) :
  Pure Tryz.prog 27 [.i n, .agg [.v (.slice none 0 0), .sl 3 (vs It.av l) none, .sl 5 (bavs b) none, .v (.slice none 0 0), .i 0, .i 2, .v (.bool f)]] (.tup [a.av, .i e]) := by
 intro h
 refine Qh Tryz.func27 rfl Tryz.call27 Tryz.ntmps27 (congrArg Array.toList Tryz.results27) (by simp) ?_
 repeat (first | ((first | (with_reducible (first | refine Qa fun K E hK hE => ?_ | refine Qp H ?_))); simp -implicitDefEqProofs only [Qe, Qf, OpW, QJ, aop, undef, AS.ev, Qy, AV.Qot, ↓reduceIte, Qo, QB, QC, QO, QF, Xk, ti4, ti23, ti24, ti32, zi32, Ql5, Ql9, Qmi, An.cells, An.isAgg, seval]) | (with_reducible refine Qj ?_) | ((with_reducible refine hK _ ?_); clear hK))
 simp -implicitDefEqProofs only [Qe, ↓reduceIte, QB, QC, ti32, An.cells, An.isAgg, List.mapM_cons, List.mapM_nil, Option.pure_def, Option.bind_eq_bind, QD, Ql, Qr, Qpi, seval]
 exact Qd (htake _ _) (.tup rfl (QZ (.keep (An.below _ _)) (Xz (.keep (.v _))))) ⟨rfl, rfl⟩
end Go.Proofs.YtniljpjjnmkoaaaGreatDoor.Ab
set_option maxRecDepth 4000
namespace Go.Proofs.YtniljpjjnmkoaaaGreatDoor.Ab
open Go.Proofs
theorem Qn8 (c : Cs) (ho : c.ok) (h : AH) (hG : XI h) : Xi Tryz.prog 8 [c.av] h fun o h' => o = .ret (.b true) ∧ h' = h := by
 have cl := Qij c ho
 have ce := fun L => QfI (h ++ L) (hG.onto L)
 cases kb : c.big with
 | true =>
  rw [kb] at cl
  refine Qh Tryz.func8 rfl Tryz.call8 Tryz.ntmps8 (congrArg Array.toList Tryz.results8) (by simp) ?_
  repeat (first | ((first | (with_reducible (first | refine Qa fun K E hK hE => ?_ | refine Qp cl ?_ | refine FunW.ret (FunW.call (ce _)) ?_))); simp -implicitDefEqProofs only [Qe, Qf, OpW, QJ, aop, undef, AS.ev, Qy, AV.Qot, ↓reduceIte, QB, QC, ti26, Cs.cells, Cs.isAgg, seval]) | (with_reducible (first | refine Qc fun K hK => ?_ | refine Qj ?_ | refine Qq ?_)) | ((with_reducible refine hK _ ?_); clear hK) | (refine Qg rfl ?_; simp only [↓reduceIte]))
  simp only [QD, Ql, Qr, upd, ↓reduceIte, Qpe, Qpi]; first | refine Qd (htake _ _) (.keep (.v _)) ⟨rfl, rfl⟩ | refine Qd List.take_length (.keep (.v _)) ⟨rfl, rfl⟩
 | false =>
  rw [kb] at cl
  obtain ⟨hv, H⟩ := Cs.small ho kb
  have c1 := QiD c.vars c.b c.l c.failed H
  have c2 := QiW c.vars c.b c.l c.failed H (fun x hx => (ho.l x hx).2)
  have c3 := QiT c.vars c.b c.l c.failed c1
  have c4 := Qhk c.vars c.b c.l c.failed c1
  obtain ⟨q1, q2⟩ := Qmk c.vars c.b c.l c.failed
  obtain ⟨s1, s2⟩ := QjG (n := c.vars) c.failed H
  rw [← q1] at c2
  generalize ofC c.vars c.b c.l c.failed = r at *
  generalize (ofR c.vars c.b c.l c.failed).1 = d at *
  obtain ⟨a, e⟩ := r
  dsimp only at *
  have k1 := QfR a d (by omega) (by omega)
  have k2 := QfR a a (by omega) (by omega)
  rw [q2] at k1
  rw [ZD] at k2
  change Pure _ _ _ (.b true) at k1 k2
  refine Qh Tryz.func8 rfl Tryz.call8 Tryz.ntmps8 (congrArg Array.toList Tryz.results8) (by simp) ?_
  iterate 22 (try (first | ((first | (with_reducible (first | refine Qa fun K E hK hE => ?_ | refine Qp cl ?_ | refine Qp c1 ?_ | refine Qp c2 ?_ | refine Qp c3 ?_ | refine Qp c4 ?_))); simp -implicitDefEqProofs only [Qe, Qf, OpW, QJ, aop, undef, AS.ev, Qy, AV.Qot, ↓reduceIte, Qo, QB, QC, QO, QF, Xk, Xv, XO, ti3, ti4, ti23, ti24, ti26, QdO, Qb9, Qdu, Ql6, ti32, zi32, zi64, sp64, zi68, sp68, Cs.cells, Cs.isAgg, An.cells, An.isAgg, seval]) | (with_reducible (first | refine Qc fun K hK => ?_ | refine Qm ?_ | refine Qb ?_)) | ((with_reducible refine hK _ ?_); clear hK) | (refine Qg rfl ?_; simp only [↓reduceIte, Qpc])))
  obtain ⟨I, hI⟩ : ∃ I : AS → Prop, I = fun s => s.tm 3 = .ptr (h.length + 1) 0 0 ∧ s.tm 4 = .i e ∧ s.tm 5 = .ptr (h.length + 2) 0 0 ∧ s.tm 6 = .i e ∧ s.tm 7 = .ptr (h.length + 3) 0 0 ∧ s.tm 8 = .i e ∧ s.tm 9 = .ptr (h.length + 4) 0 0 ∧ s.tm 10 = .i e ∧ s.h = h ++ [.cells 26 4 [c.av], .cells 32 3 [a.av], .cells 32 3 [d.av], .cells 32 3 [a.av], .cells 32 3 [a.av]] := ⟨_, rfl⟩; refine Qjq I ?_ ?_
  ·intro s hs; rw [hI] at hs; obtain ⟨tm, hp⟩ := s; dsimp only at hs; obtain ⟨t3, t4, t5, t6, t7, t8, t9, t10, rfl⟩ := hs
   clear cl c1 c2 c3 c4
   have ee : (e == e) = true := by simp
   (with_reducible refine Qa fun K E hK hE => ?_)
   (try simp only [QpJ]); refine QH 8 (fun K1 hK1 => ?_); simp -implicitDefEqProofs only [Qe, Qf, OpW, aop, AS.ev, ↓reduceIte, QB, QC, aBin, ti32, t3, t4, t5, t6, An.cells, An.isAgg, seval]; (repeat ((((with_reducible refine Qp k1 ?_)); simp -implicitDefEqProofs only [Qe, Qf, OpW, QJ, aop, AS.ev, ↓reduceIte, seval]))); refine hK1 _ ?_; clear hK1
   (try simp only [Qph, Qpp]); refine QH 10 (fun K1 hK1 => ?_); simp -implicitDefEqProofs only [Qe, Qf, OpW, aop, AS.ev, ↓reduceIte, aBin, t4, t8, t10, seval]; (repeat ((((with_reducible refine Qa fun K E hK hE => ?_)); simp -implicitDefEqProofs only [Qe, Qf, OpW, QJ, aop, undef, Qbg, AS.ev, Qy, AV.Qot, ↓reduceIte, Qo, QB, QC, QO, QF, Qt, aBin, QfE, Xk, Xv, XO, QM, YL, Q9, aLen, Xh, XH, X9, X3, goInt, ti0, zi0, ti3, zi3, un3, ti4, zi4, un4, ti23, ei23, ai23, Qm4, zi23, un23, ti24, ei24, ai24, zi24, un24, ti26, QdO, Qb9, Qdu, Ql6, zi26, sp26, ti32, Qcf, Qas, YU, zi32, sp32, ti33, zi33, un33, ti34, ti48, Qnp, Qbe, zi48, sp48, ti64, QnV, Qmg, Ql4, QnK, Qn0, QnD, QnS, Qma, zi64, sp64, ti68, QnB, Ql5, Ql9, Qn4, QnJ, Qm7, Qmi, zi68, sp68, QpV, Int.sub_zero, Qfd, QT, t3, t4, t5, t6, t7, t8, t9, t10, ee, An.cells, An.isAgg, seval]))); refine hK1 _ ?_; clear hK1
   (try simp only [Qph, Qpp]); refine QH 5 (fun K1 hK1 => ?_); simp -implicitDefEqProofs only [Qe, Qf, OpW, aop, AS.ev, ↓reduceIte, QB, QC, ti32, t3, t7, An.cells, An.isAgg, seval]; (repeat ((((with_reducible refine Qp k2 ?_)); simp -implicitDefEqProofs only [Qe, Qf, OpW, QJ, aop, AS.ev, ↓reduceIte, seval]))); refine hK1 _ ?_; clear hK1
   (try simp only [Qph, Qpp]); refine QH 5 (fun K1 hK1 => ?_); simp -implicitDefEqProofs only [Qe, Qf, OpW, aop, AS.ev, ↓reduceIte, QB, QC, ti32, t3, t9, An.cells, An.isAgg, seval]; (repeat ((((with_reducible refine Qp k2 ?_)); simp -implicitDefEqProofs only [Qe, Qf, OpW, QJ, aop, AS.ev, ↓reduceIte, seval]))); refine hK1 _ ?_; clear hK1
   (try simp only [Qph, Qpp])
   simp -implicitDefEqProofs only [Qe, Qf, OpW, aop, AS.ev, ↓reduceIte, Nat.reduceLT]
   repeat (first | (((with_reducible refine FunW.ret (FunW.call (ce _)) ?_)); simp -implicitDefEqProofs only [Qe, Qf, OpW, QJ, aop, AS.ev, ↓reduceIte, seval]) | (with_reducible refine Qj ?_) | ((with_reducible refine hK _ ?_); clear hK))
   simp only [QD, Ql, Qr, upd, ↓reduceIte, Qpe, Qpi]; first | refine Qd (htake _ _) (.keep (.v _)) ⟨rfl, rfl⟩ | refine Qd List.take_length (.keep (.v _)) ⟨rfl, rfl⟩
  ·rw [hI]
   exact ⟨rfl, rfl, rfl, rfl, rfl, rfl, rfl, rfl, rfl⟩
end Go.Proofs.YtniljpjjnmkoaaaGreatDoor.Ab
