/- Texts of this claim, one behind the other. -/
import Derived.Test.YtglcjmnkhmdlhaaK8
import Derived.Test.YtglcjmnkhmdlhaaK3

/- Contracts: the document's points: twice a point. -/
namespace Go.Proofs.Ytglcjmnkhmdlhaa
open Go Go.RowKit
theorem rdbl_tree (x y z : FP) : (callT (fXD) (execT (fXD) 100) 58 [.agg [.u (uF x), .u (uF y), .u (uF z)]] [] [] 0 []).map CR.v =
    (.need true
    (.ite ((uF z) == (ofLimbs (0 : Int) (0 : Int) (0 : Int) (0 : Int)))
     (.leaf (.agg [(.ints .u64 4 [(0 : Int), (0 : Int), (0 : Int), (0 : Int)]), (.ints .u64 4 [(0 : Int), (0 : Int), (0 : Int), (0 : Int)]), (.ints .u64 4 [(0 : Int), (0 : Int), (0 : Int), (0 : Int)])]))
     (.need true
     (.ite ((uF y) == (ofLimbs (0 : Int) (0 : Int) (0 : Int) (0 : Int)))
      (.leaf (.agg [(.ints .u64 4 [(0 : Int), (0 : Int), (0 : Int), (0 : Int)]), (.ints .u64 4 [(0 : Int), (0 : Int), (0 : Int), (0 : Int)]), (.ints .u64 4 [(0 : Int), (0 : Int), (0 : Int), (0 : Int)])]))
      (.need (ltP (uF ((fU (uF x)) * (fU (uF ((fU (uF y)) * (fU (uF y))))))))
      (.need (ltP (uF ((fU (uF x)) * (fU (uF ((fU (uF y)) * (fU (uF y))))))))
      (.need (ltP (uF ((fU (uF ((fU (uF x)) * (fU (uF ((fU (uF y)) * (fU (uF y)))))))) + (fU (uF ((fU (uF x)) * (fU (uF ((fU (uF y)) * (fU (uF y)))))))))))
      (.need (ltP (uF ((fU (uF ((fU (uF x)) * (fU (uF ((fU (uF y)) * (fU (uF y)))))))) + (fU (uF ((fU (uF x)) * (fU (uF ((fU (uF y)) * (fU (uF y)))))))))))
      (.need (ltP (uF ((fU (uF x)) * (fU (uF x)))))
      (.need (ltP (uF ((fU (uF x)) * (fU (uF x)))))
      (.need (ltP (uF ((fU (uF ((fU (uF x)) * (fU (uF x))))) + (fU (uF ((fU (uF x)) * (fU (uF x))))))))
      (.need (ltP (uF ((fU (uF x)) * (fU (uF x)))))
      (.need (ltP (uF ((fU (uF ((fU (uF ((fU (uF x)) * (fU (uF ((fU (uF y)) * (fU (uF y)))))))) + (fU (uF ((fU (uF x)) * (fU (uF ((fU (uF y)) * (fU (uF y))))))))))) + (fU (uF ((fU (uF ((fU (uF x)) * (fU (uF ((fU (uF y)) * (fU (uF y)))))))) + (fU (uF ((fU (uF x)) * (fU (uF ((fU (uF y)) * (fU (uF y))))))))))))))
      (.need (ltP (uF ((fU (uF ((fU (uF ((fU (uF x)) * (fU (uF ((fU (uF y)) * (fU (uF y)))))))) + (fU (uF ((fU (uF x)) * (fU (uF ((fU (uF y)) * (fU (uF y))))))))))) + (fU (uF ((fU (uF ((fU (uF x)) * (fU (uF ((fU (uF y)) * (fU (uF y)))))))) + (fU (uF ((fU (uF x)) * (fU (uF ((fU (uF y)) * (fU (uF y))))))))))))))
      (.need (ltP (uF ((fU (uF ((fU (uF ((fU (uF ((fU (uF x)) * (fU (uF x))))) + (fU (uF ((fU (uF x)) * (fU (uF x)))))))) + (fU (uF ((fU (uF x)) * (fU (uF x)))))))) * (fU (uF ((fU (uF ((fU (uF ((fU (uF x)) * (fU (uF x))))) + (fU (uF ((fU (uF x)) * (fU (uF x)))))))) + (fU (uF ((fU (uF x)) * (fU (uF x)))))))))))
      (.need (ltP (uF ((fU (uF ((fU (uF ((fU (uF ((fU (uF x)) * (fU (uF ((fU (uF y)) * (fU (uF y)))))))) + (fU (uF ((fU (uF x)) * (fU (uF ((fU (uF y)) * (fU (uF y))))))))))) + (fU (uF ((fU (uF ((fU (uF x)) * (fU (uF ((fU (uF y)) * (fU (uF y)))))))) + (fU (uF ((fU (uF x)) * (fU (uF ((fU (uF y)) * (fU (uF y)))))))))))))) + (fU (uF ((fU (uF ((fU (uF ((fU (uF x)) * (fU (uF ((fU (uF y)) * (fU (uF y)))))))) + (fU (uF ((fU (uF x)) * (fU (uF ((fU (uF y)) * (fU (uF y))))))))))) + (fU (uF ((fU (uF ((fU (uF x)) * (fU (uF ((fU (uF y)) * (fU (uF y)))))))) + (fU (uF ((fU (uF x)) * (fU (uF ((fU (uF y)) * (fU (uF y)))))))))))))))))
      (.need (ltP (uF ((fU (uF ((fU (uF y)) * (fU (uF y))))) * (fU (uF ((fU (uF y)) * (fU (uF y))))))))
      (.need (ltP (uF ((fU (uF ((fU (uF y)) * (fU (uF y))))) * (fU (uF ((fU (uF y)) * (fU (uF y))))))))
      (.need (ltP (uF ((fU (uF ((fU (uF ((fU (uF y)) * (fU (uF y))))) * (fU (uF ((fU (uF y)) * (fU (uF y)))))))) + (fU (uF ((fU (uF ((fU (uF y)) * (fU (uF y))))) * (fU (uF ((fU (uF y)) * (fU (uF y)))))))))))
      (.need (ltP (uF ((fU (uF ((fU (uF ((fU (uF y)) * (fU (uF y))))) * (fU (uF ((fU (uF y)) * (fU (uF y)))))))) + (fU (uF ((fU (uF ((fU (uF y)) * (fU (uF y))))) * (fU (uF ((fU (uF y)) * (fU (uF y)))))))))))
      (.need (ltP (uF ((fU (uF ((fU (uF ((fU (uF ((fU (uF y)) * (fU (uF y))))) * (fU (uF ((fU (uF y)) * (fU (uF y)))))))) + (fU (uF ((fU (uF ((fU (uF y)) * (fU (uF y))))) * (fU (uF ((fU (uF y)) * (fU (uF y))))))))))) + (fU (uF ((fU (uF ((fU (uF ((fU (uF y)) * (fU (uF y))))) * (fU (uF ((fU (uF y)) * (fU (uF y)))))))) + (fU (uF ((fU (uF ((fU (uF y)) * (fU (uF y))))) * (fU (uF ((fU (uF y)) * (fU (uF y))))))))))))))
      (.need (ltP (uF ((fU (uF ((fU (uF ((fU (uF ((fU (uF y)) * (fU (uF y))))) * (fU (uF ((fU (uF y)) * (fU (uF y)))))))) + (fU (uF ((fU (uF ((fU (uF y)) * (fU (uF y))))) * (fU (uF ((fU (uF y)) * (fU (uF y))))))))))) + (fU (uF ((fU (uF ((fU (uF ((fU (uF y)) * (fU (uF y))))) * (fU (uF ((fU (uF y)) * (fU (uF y)))))))) + (fU (uF ((fU (uF ((fU (uF y)) * (fU (uF y))))) * (fU (uF ((fU (uF y)) * (fU (uF y))))))))))))))
      (.need (ltP (uF ((fU (uF ((fU (uF ((fU (uF x)) * (fU (uF ((fU (uF y)) * (fU (uF y)))))))) + (fU (uF ((fU (uF x)) * (fU (uF ((fU (uF y)) * (fU (uF y))))))))))) + (fU (uF ((fU (uF ((fU (uF x)) * (fU (uF ((fU (uF y)) * (fU (uF y)))))))) + (fU (uF ((fU (uF x)) * (fU (uF ((fU (uF y)) * (fU (uF y))))))))))))))
      (.need (ltP (uF ((fU (uF ((fU (uF ((fU (uF ((fU (uF ((fU (uF x)) * (fU (uF x))))) + (fU (uF ((fU (uF x)) * (fU (uF x)))))))) + (fU (uF ((fU (uF x)) * (fU (uF x)))))))) * (fU (uF ((fU (uF ((fU (uF ((fU (uF x)) * (fU (uF x))))) + (fU (uF ((fU (uF x)) * (fU (uF x)))))))) + (fU (uF ((fU (uF x)) * (fU (uF x))))))))))) - (fU (uF ((fU (uF ((fU (uF ((fU (uF ((fU (uF x)) * (fU (uF ((fU (uF y)) * (fU (uF y)))))))) + (fU (uF ((fU (uF x)) * (fU (uF ((fU (uF y)) * (fU (uF y))))))))))) + (fU (uF ((fU (uF ((fU (uF x)) * (fU (uF ((fU (uF y)) * (fU (uF y)))))))) + (fU (uF ((fU (uF x)) * (fU (uF ((fU (uF y)) * (fU (uF y)))))))))))))) + (fU (uF ((fU (uF ((fU (uF ((fU (uF x)) * (fU (uF ((fU (uF y)) * (fU (uF y)))))))) + (fU (uF ((fU (uF x)) * (fU (uF ((fU (uF y)) * (fU (uF y))))))))))) + (fU (uF ((fU (uF ((fU (uF x)) * (fU (uF ((fU (uF y)) * (fU (uF y)))))))) + (fU (uF ((fU (uF x)) * (fU (uF ((fU (uF y)) * (fU (uF y))))))))))))))))))))
      (.need (ltP (uF ((fU (uF ((fU (uF ((fU (uF ((fU (uF x)) * (fU (uF x))))) + (fU (uF ((fU (uF x)) * (fU (uF x)))))))) + (fU (uF ((fU (uF x)) * (fU (uF x)))))))) * (fU (uF ((fU (uF ((fU (uF ((fU (uF ((fU (uF x)) * (fU (uF ((fU (uF y)) * (fU (uF y)))))))) + (fU (uF ((fU (uF x)) * (fU (uF ((fU (uF y)) * (fU (uF y))))))))))) + (fU (uF ((fU (uF ((fU (uF x)) * (fU (uF ((fU (uF y)) * (fU (uF y)))))))) + (fU (uF ((fU (uF x)) * (fU (uF ((fU (uF y)) * (fU (uF y)))))))))))))) - (fU (uF ((fU (uF ((fU (uF ((fU (uF ((fU (uF ((fU (uF x)) * (fU (uF x))))) + (fU (uF ((fU (uF x)) * (fU (uF x)))))))) + (fU (uF ((fU (uF x)) * (fU (uF x)))))))) * (fU (uF ((fU (uF ((fU (uF ((fU (uF x)) * (fU (uF x))))) + (fU (uF ((fU (uF x)) * (fU (uF x)))))))) + (fU (uF ((fU (uF x)) * (fU (uF x))))))))))) - (fU (uF ((fU (uF ((fU (uF ((fU (uF ((fU (uF x)) * (fU (uF ((fU (uF y)) * (fU (uF y)))))))) + (fU (uF ((fU (uF x)) * (fU (uF ((fU (uF y)) * (fU (uF y))))))))))) + (fU (uF ((fU (uF ((fU (uF x)) * (fU (uF ((fU (uF y)) * (fU (uF y)))))))) + (fU (uF ((fU (uF x)) * (fU (uF ((fU (uF y)) * (fU (uF y)))))))))))))) + (fU (uF ((fU (uF ((fU (uF ((fU (uF x)) * (fU (uF ((fU (uF y)) * (fU (uF y)))))))) + (fU (uF ((fU (uF x)) * (fU (uF ((fU (uF y)) * (fU (uF y))))))))))) + (fU (uF ((fU (uF ((fU (uF x)) * (fU (uF ((fU (uF y)) * (fU (uF y)))))))) + (fU (uF ((fU (uF x)) * (fU (uF ((fU (uF y)) * (fU (uF y))))))))))))))))))))))))))
      (.need (ltP (uF ((fU (uF ((fU (uF ((fU (uF ((fU (uF ((fU (uF y)) * (fU (uF y))))) * (fU (uF ((fU (uF y)) * (fU (uF y)))))))) + (fU (uF ((fU (uF ((fU (uF y)) * (fU (uF y))))) * (fU (uF ((fU (uF y)) * (fU (uF y))))))))))) + (fU (uF ((fU (uF ((fU (uF ((fU (uF y)) * (fU (uF y))))) * (fU (uF ((fU (uF y)) * (fU (uF y)))))))) + (fU (uF ((fU (uF ((fU (uF y)) * (fU (uF y))))) * (fU (uF ((fU (uF y)) * (fU (uF y)))))))))))))) + (fU (uF ((fU (uF ((fU (uF ((fU (uF ((fU (uF y)) * (fU (uF y))))) * (fU (uF ((fU (uF y)) * (fU (uF y)))))))) + (fU (uF ((fU (uF ((fU (uF y)) * (fU (uF y))))) * (fU (uF ((fU (uF y)) * (fU (uF y))))))))))) + (fU (uF ((fU (uF ((fU (uF ((fU (uF y)) * (fU (uF y))))) * (fU (uF ((fU (uF y)) * (fU (uF y)))))))) + (fU (uF ((fU (uF ((fU (uF y)) * (fU (uF y))))) * (fU (uF ((fU (uF y)) * (fU (uF y)))))))))))))))))
      (.need (ltP (uF ((fU (uF y)) * (fU (uF z)))))
      (.need (ltP (uF ((fU (uF y)) * (fU (uF z)))))
      (.leaf (.agg [(.u (uF ((fU (uF ((fU (uF ((fU (uF ((fU (uF ((fU (uF x)) * (fU (uF x))))) + (fU (uF ((fU (uF x)) * (fU (uF x)))))))) + (fU (uF ((fU (uF x)) * (fU (uF x)))))))) * (fU (uF ((fU (uF ((fU (uF ((fU (uF x)) * (fU (uF x))))) + (fU (uF ((fU (uF x)) * (fU (uF x)))))))) + (fU (uF ((fU (uF x)) * (fU (uF x))))))))))) - (fU (uF ((fU (uF ((fU (uF ((fU (uF ((fU (uF x)) * (fU (uF ((fU (uF y)) * (fU (uF y)))))))) + (fU (uF ((fU (uF x)) * (fU (uF ((fU (uF y)) * (fU (uF y))))))))))) + (fU (uF ((fU (uF ((fU (uF x)) * (fU (uF ((fU (uF y)) * (fU (uF y)))))))) + (fU (uF ((fU (uF x)) * (fU (uF ((fU (uF y)) * (fU (uF y)))))))))))))) + (fU (uF ((fU (uF ((fU (uF ((fU (uF x)) * (fU (uF ((fU (uF y)) * (fU (uF y)))))))) + (fU (uF ((fU (uF x)) * (fU (uF ((fU (uF y)) * (fU (uF y))))))))))) + (fU (uF ((fU (uF ((fU (uF x)) * (fU (uF ((fU (uF y)) * (fU (uF y)))))))) + (fU (uF ((fU (uF x)) * (fU (uF ((fU (uF y)) * (fU (uF y)))))))))))))))))))), (.u (uF ((fU (uF ((fU (uF ((fU (uF ((fU (uF ((fU (uF x)) * (fU (uF x))))) + (fU (uF ((fU (uF x)) * (fU (uF x)))))))) + (fU (uF ((fU (uF x)) * (fU (uF x)))))))) * (fU (uF ((fU (uF ((fU (uF ((fU (uF ((fU (uF x)) * (fU (uF ((fU (uF y)) * (fU (uF y)))))))) + (fU (uF ((fU (uF x)) * (fU (uF ((fU (uF y)) * (fU (uF y))))))))))) + (fU (uF ((fU (uF ((fU (uF x)) * (fU (uF ((fU (uF y)) * (fU (uF y)))))))) + (fU (uF ((fU (uF x)) * (fU (uF ((fU (uF y)) * (fU (uF y)))))))))))))) - (fU (uF ((fU (uF ((fU (uF ((fU (uF ((fU (uF ((fU (uF x)) * (fU (uF x))))) + (fU (uF ((fU (uF x)) * (fU (uF x)))))))) + (fU (uF ((fU (uF x)) * (fU (uF x)))))))) * (fU (uF ((fU (uF ((fU (uF ((fU (uF x)) * (fU (uF x))))) + (fU (uF ((fU (uF x)) * (fU (uF x)))))))) + (fU (uF ((fU (uF x)) * (fU (uF x))))))))))) - (fU (uF ((fU (uF ((fU (uF ((fU (uF ((fU (uF x)) * (fU (uF ((fU (uF y)) * (fU (uF y)))))))) + (fU (uF ((fU (uF x)) * (fU (uF ((fU (uF y)) * (fU (uF y))))))))))) + (fU (uF ((fU (uF ((fU (uF x)) * (fU (uF ((fU (uF y)) * (fU (uF y)))))))) + (fU (uF ((fU (uF x)) * (fU (uF ((fU (uF y)) * (fU (uF y)))))))))))))) + (fU (uF ((fU (uF ((fU (uF ((fU (uF x)) * (fU (uF ((fU (uF y)) * (fU (uF y)))))))) + (fU (uF ((fU (uF x)) * (fU (uF ((fU (uF y)) * (fU (uF y))))))))))) + (fU (uF ((fU (uF ((fU (uF x)) * (fU (uF ((fU (uF y)) * (fU (uF y)))))))) + (fU (uF ((fU (uF x)) * (fU (uF ((fU (uF y)) * (fU (uF y)))))))))))))))))))))))))) - (fU (uF ((fU (uF ((fU (uF ((fU (uF ((fU (uF ((fU (uF y)) * (fU (uF y))))) * (fU (uF ((fU (uF y)) * (fU (uF y)))))))) + (fU (uF ((fU (uF ((fU (uF y)) * (fU (uF y))))) * (fU (uF ((fU (uF y)) * (fU (uF y))))))))))) + (fU (uF ((fU (uF ((fU (uF ((fU (uF y)) * (fU (uF y))))) * (fU (uF ((fU (uF y)) * (fU (uF y)))))))) + (fU (uF ((fU (uF ((fU (uF y)) * (fU (uF y))))) * (fU (uF ((fU (uF y)) * (fU (uF y)))))))))))))) + (fU (uF ((fU (uF ((fU (uF ((fU (uF ((fU (uF y)) * (fU (uF y))))) * (fU (uF ((fU (uF y)) * (fU (uF y)))))))) + (fU (uF ((fU (uF ((fU (uF y)) * (fU (uF y))))) * (fU (uF ((fU (uF y)) * (fU (uF y))))))))))) + (fU (uF ((fU (uF ((fU (uF ((fU (uF y)) * (fU (uF y))))) * (fU (uF ((fU (uF y)) * (fU (uF y)))))))) + (fU (uF ((fU (uF ((fU (uF y)) * (fU (uF y))))) * (fU (uF ((fU (uF y)) * (fU (uF y)))))))))))))))))))), (.u (uF ((fU (uF ((fU (uF y)) * (fU (uF z))))) + (fU (uF ((fU (uF y)) * (fU (uF z))))))))])))))))))))))))))))))))))))))) := by kernel_rfl
def zT : Tr pP := ⟨0, 0, 0⟩
def jdblP (t : Tr pP) : Tr pP := if t.Z = 0 then zT else if t.Y = 0 then zT else jdbl t
theorem zT_same : SameR (.agg [(.ints .u64 4 [(0 : Int), (0 : Int), (0 : Int), (0 : Int)]), (.ints .u64 4 [(0 : Int), (0 : Int), (0 : Int), (0 : Int)]), (.ints .u64 4 [(0 : Int), (0 : Int), (0 : Int), (0 : Int)])]) (trV zT) := by
  have h : trV zT = .agg [.u 0, .u 0, .u 0] := by unfold trV zT; rw [← of0]
  rw [h]
  exact (SameV.agg (.cons (.u4 zero4) (.cons (.u4 zero4) (.cons (.u4 zero4) .nil)))).r
theorem three_x (z : FP) : z + z + z = 3 * z := by grind
theorem two_three (z : FP) : 2 * z + z = 3 * z := by grind
theorem four_x (z : FP) : 2 * (2 * z) = 4 * z := by grind
theorem eight_4 (z : FP) : 2 * (4 * z) = 8 * z := by grind
theorem uF_zero (x : FP) : (uF x == uF 0) = decide (x = 0) := by
  rw [uF_beq, Bool.eq_iff_iff, beq_iff_eq, decide_eq_true_iff]
theorem rdbl_ok (x y z : FP) : Pure Try.prog 58 [.agg [.u (uF x), .u (uF y), .u (uF z)]] (trV (jdblP ⟨x, y, z⟩)) := by
  refine Pure.by_tree mixed _ 100 _ _ (rdbl_tree x y z) ?_
  simp only [T.holds, ltP_uF, fU_uF, of00, uF_zero, true_and, two_x, two_three, four_x, eight_4]
  refine ⟨fun h => ?_, fun h => ⟨fun h2 => ?_, fun h2 => ?_⟩⟩
  · unfold jdblP; rw [if_pos (of_decide_eq_true h)]; exact zT_same
  · unfold jdblP; rw [if_neg (of_decide_eq_false h), if_pos (of_decide_eq_true h2)]; exact zT_same
  · unfold jdblP; rw [if_neg (of_decide_eq_false h), if_neg (of_decide_eq_false h2)]
    exact SameR.agg3 rfl rfl rfl
theorem rdbl_okU {x y z : BitVec 256} (h1 : ltP x = true) (h2 : ltP y = true) (h3 : ltP z = true) : Pure Try.prog 58 [.agg [.u x, .u y, .u z]] (trV (jdblP ⟨fU x, fU y, fU z⟩)) := by
  have := rdbl_ok (fU x) (fU y) (fU z)
  rw [uF_fU h1, uF_fU h2, uF_fU h3] at this
  exact this
noncomputable def cr_dbl : Ctr Try.prog := Ctr.of 58 (fun
    | [.agg [.u x, .u y, .u z]] => some ([ltP x, ltP y, ltP z], trV (jdblP ⟨fU x, fU y, fU z⟩))
    | _ => none) (by
  intro args ob v h hob
  split at h <;> simp only [Option.some.injEq, Prod.mk.injEq, reduceCtorEq] at h
  obtain ⟨rfl, rfl⟩ := h
  simp only [List.mem_cons, List.not_mem_nil, or_false, forall_eq_or_imp, forall_eq] at hob
  obtain ⟨h1, h2, h3⟩ := hob
  exact rdbl_okU h1 h2 h3)
noncomputable def fXE : EnvT Try.prog := { cs := [c_ref_Cmp, c_ref_Add, c_ref_Sub, c_rprime, cr_plus, cr_minus, cr_times, c_ref_Bits, c_ref_Bit, cr_side, crv_neg, cr_power, cr_dbl], fis := [fi_truceref06_join, fi_truceref06_flat] }
end Go.Proofs.Ytglcjmnkhmdlhaa

/- Contracts: the document's points: a sum with a plain one; the plain point. -/
namespace Go.Proofs.Ytglcjmnkhmdlhaa
open Go Go.RowKit
theorem rjoin_tree (x y z : FP) (u v : BitVec 256) (n : Bool) : (callT (fXE) (execT (fXE) 100) 47 [.agg [.u (uF x), .u (uF y), .u (uF z)], .agg [.u u, .u v, .bool n]] [] [] 0 []).map CR.v =
    (.ite n
     (.leaf (.agg [(.u (uF x)), (.u (uF y)), (.u (uF z))]))
     (.need true
     (.ite ((uF z) == (ofLimbs (0 : Int) (0 : Int) (0 : Int) (0 : Int)))
      (.leaf (.agg [(.u u), (.u v), (.ints .u64 4 [(1 : Int), (0 : Int), (0 : Int), (0 : Int)])]))
      (.need (ltP (uF ((fU u) * (fU (uF ((fU (uF z)) * (fU (uF z))))))))
      (.need (ltP (uF x))
      (.need (ltP (uF ((fU v) * (fU (uF ((fU (uF ((fU (uF z)) * (fU (uF z))))) * (fU (uF z))))))))
      (.need (ltP (uF y))
      (.need true
      (.ite ((uF ((fU (uF ((fU u) * (fU (uF ((fU (uF z)) * (fU (uF z)))))))) - (fU (uF x)))) == (ofLimbs (0 : Int) (0 : Int) (0 : Int) (0 : Int)))
       (.need true
       (.ite ((uF ((fU (uF ((fU v) * (fU (uF ((fU (uF ((fU (uF z)) * (fU (uF z))))) * (fU (uF z)))))))) - (fU (uF y)))) == (ofLimbs (0 : Int) (0 : Int) (0 : Int) (0 : Int)))
        (.need (ltP (uF x))
        (.need (ltP (uF y))
        (.need (ltP (uF z))
        (.leaf (.agg [(.u (uF (Tr.X (jdblP (Tr.mk (fU (uF x)) (fU (uF y)) (fU (uF z))))))), (.u (uF (Tr.Y (jdblP (Tr.mk (fU (uF x)) (fU (uF y)) (fU (uF z))))))), (.u (uF (Tr.Z (jdblP (Tr.mk (fU (uF x)) (fU (uF y)) (fU (uF z)))))))])))))
        (.leaf (.agg [(.ints .u64 4 [(0 : Int), (0 : Int), (0 : Int), (0 : Int)]), (.ints .u64 4 [(0 : Int), (0 : Int), (0 : Int), (0 : Int)]), (.ints .u64 4 [(0 : Int), (0 : Int), (0 : Int), (0 : Int)])]))))
       (.need (ltP (uF ((fU (uF ((fU (uF ((fU v) * (fU (uF ((fU (uF ((fU (uF z)) * (fU (uF z))))) * (fU (uF z)))))))) - (fU (uF y))))) * (fU (uF ((fU (uF ((fU v) * (fU (uF ((fU (uF ((fU (uF z)) * (fU (uF z))))) * (fU (uF z)))))))) - (fU (uF y))))))))
       (.need (ltP (uF ((fU (uF ((fU (uF ((fU (uF ((fU u) * (fU (uF ((fU (uF z)) * (fU (uF z)))))))) - (fU (uF x))))) * (fU (uF ((fU (uF ((fU u) * (fU (uF ((fU (uF z)) * (fU (uF z)))))))) - (fU (uF x)))))))) * (fU (uF ((fU (uF ((fU u) * (fU (uF ((fU (uF z)) * (fU (uF z)))))))) - (fU (uF x))))))))
       (.need (ltP (uF ((fU (uF x)) * (fU (uF ((fU (uF ((fU (uF ((fU u) * (fU (uF ((fU (uF z)) * (fU (uF z)))))))) - (fU (uF x))))) * (fU (uF ((fU (uF ((fU u) * (fU (uF ((fU (uF z)) * (fU (uF z)))))))) - (fU (uF x)))))))))))
       (.need (ltP (uF ((fU (uF x)) * (fU (uF ((fU (uF ((fU (uF ((fU u) * (fU (uF ((fU (uF z)) * (fU (uF z)))))))) - (fU (uF x))))) * (fU (uF ((fU (uF ((fU u) * (fU (uF ((fU (uF z)) * (fU (uF z)))))))) - (fU (uF x)))))))))))
       (.need (ltP (uF ((fU (uF ((fU (uF ((fU (uF ((fU v) * (fU (uF ((fU (uF ((fU (uF z)) * (fU (uF z))))) * (fU (uF z)))))))) - (fU (uF y))))) * (fU (uF ((fU (uF ((fU v) * (fU (uF ((fU (uF ((fU (uF z)) * (fU (uF z))))) * (fU (uF z)))))))) - (fU (uF y)))))))) - (fU (uF ((fU (uF ((fU (uF ((fU (uF ((fU u) * (fU (uF ((fU (uF z)) * (fU (uF z)))))))) - (fU (uF x))))) * (fU (uF ((fU (uF ((fU u) * (fU (uF ((fU (uF z)) * (fU (uF z)))))))) - (fU (uF x)))))))) * (fU (uF ((fU (uF ((fU u) * (fU (uF ((fU (uF z)) * (fU (uF z)))))))) - (fU (uF x)))))))))))
       (.need (ltP (uF ((fU (uF ((fU (uF x)) * (fU (uF ((fU (uF ((fU (uF ((fU u) * (fU (uF ((fU (uF z)) * (fU (uF z)))))))) - (fU (uF x))))) * (fU (uF ((fU (uF ((fU u) * (fU (uF ((fU (uF z)) * (fU (uF z)))))))) - (fU (uF x))))))))))) + (fU (uF ((fU (uF x)) * (fU (uF ((fU (uF ((fU (uF ((fU u) * (fU (uF ((fU (uF z)) * (fU (uF z)))))))) - (fU (uF x))))) * (fU (uF ((fU (uF ((fU u) * (fU (uF ((fU (uF z)) * (fU (uF z)))))))) - (fU (uF x))))))))))))))
       (.need (ltP (uF ((fU (uF x)) * (fU (uF ((fU (uF ((fU (uF ((fU u) * (fU (uF ((fU (uF z)) * (fU (uF z)))))))) - (fU (uF x))))) * (fU (uF ((fU (uF ((fU u) * (fU (uF ((fU (uF z)) * (fU (uF z)))))))) - (fU (uF x)))))))))))
       (.need (ltP (uF ((fU (uF ((fU (uF ((fU (uF ((fU (uF ((fU v) * (fU (uF ((fU (uF ((fU (uF z)) * (fU (uF z))))) * (fU (uF z)))))))) - (fU (uF y))))) * (fU (uF ((fU (uF ((fU v) * (fU (uF ((fU (uF ((fU (uF z)) * (fU (uF z))))) * (fU (uF z)))))))) - (fU (uF y)))))))) - (fU (uF ((fU (uF ((fU (uF ((fU (uF ((fU u) * (fU (uF ((fU (uF z)) * (fU (uF z)))))))) - (fU (uF x))))) * (fU (uF ((fU (uF ((fU u) * (fU (uF ((fU (uF z)) * (fU (uF z)))))))) - (fU (uF x)))))))) * (fU (uF ((fU (uF ((fU u) * (fU (uF ((fU (uF z)) * (fU (uF z)))))))) - (fU (uF x))))))))))) - (fU (uF ((fU (uF ((fU (uF x)) * (fU (uF ((fU (uF ((fU (uF ((fU u) * (fU (uF ((fU (uF z)) * (fU (uF z)))))))) - (fU (uF x))))) * (fU (uF ((fU (uF ((fU u) * (fU (uF ((fU (uF z)) * (fU (uF z)))))))) - (fU (uF x))))))))))) + (fU (uF ((fU (uF x)) * (fU (uF ((fU (uF ((fU (uF ((fU u) * (fU (uF ((fU (uF z)) * (fU (uF z)))))))) - (fU (uF x))))) * (fU (uF ((fU (uF ((fU u) * (fU (uF ((fU (uF z)) * (fU (uF z)))))))) - (fU (uF x)))))))))))))))))
       (.need (ltP (uF ((fU (uF ((fU (uF ((fU v) * (fU (uF ((fU (uF ((fU (uF z)) * (fU (uF z))))) * (fU (uF z)))))))) - (fU (uF y))))) * (fU (uF ((fU (uF ((fU (uF x)) * (fU (uF ((fU (uF ((fU (uF ((fU u) * (fU (uF ((fU (uF z)) * (fU (uF z)))))))) - (fU (uF x))))) * (fU (uF ((fU (uF ((fU u) * (fU (uF ((fU (uF z)) * (fU (uF z)))))))) - (fU (uF x))))))))))) - (fU (uF ((fU (uF ((fU (uF ((fU (uF ((fU (uF ((fU v) * (fU (uF ((fU (uF ((fU (uF z)) * (fU (uF z))))) * (fU (uF z)))))))) - (fU (uF y))))) * (fU (uF ((fU (uF ((fU v) * (fU (uF ((fU (uF ((fU (uF z)) * (fU (uF z))))) * (fU (uF z)))))))) - (fU (uF y)))))))) - (fU (uF ((fU (uF ((fU (uF ((fU (uF ((fU u) * (fU (uF ((fU (uF z)) * (fU (uF z)))))))) - (fU (uF x))))) * (fU (uF ((fU (uF ((fU u) * (fU (uF ((fU (uF z)) * (fU (uF z)))))))) - (fU (uF x)))))))) * (fU (uF ((fU (uF ((fU u) * (fU (uF ((fU (uF z)) * (fU (uF z)))))))) - (fU (uF x))))))))))) - (fU (uF ((fU (uF ((fU (uF x)) * (fU (uF ((fU (uF ((fU (uF ((fU u) * (fU (uF ((fU (uF z)) * (fU (uF z)))))))) - (fU (uF x))))) * (fU (uF ((fU (uF ((fU u) * (fU (uF ((fU (uF z)) * (fU (uF z)))))))) - (fU (uF x))))))))))) + (fU (uF ((fU (uF x)) * (fU (uF ((fU (uF ((fU (uF ((fU u) * (fU (uF ((fU (uF z)) * (fU (uF z)))))))) - (fU (uF x))))) * (fU (uF ((fU (uF ((fU u) * (fU (uF ((fU (uF z)) * (fU (uF z)))))))) - (fU (uF x)))))))))))))))))))))))
       (.need (ltP (uF ((fU (uF y)) * (fU (uF ((fU (uF ((fU (uF ((fU (uF ((fU u) * (fU (uF ((fU (uF z)) * (fU (uF z)))))))) - (fU (uF x))))) * (fU (uF ((fU (uF ((fU u) * (fU (uF ((fU (uF z)) * (fU (uF z)))))))) - (fU (uF x)))))))) * (fU (uF ((fU (uF ((fU u) * (fU (uF ((fU (uF z)) * (fU (uF z)))))))) - (fU (uF x)))))))))))
       (.leaf (.agg [(.u (uF ((fU (uF ((fU (uF ((fU (uF ((fU (uF ((fU v) * (fU (uF ((fU (uF ((fU (uF z)) * (fU (uF z))))) * (fU (uF z)))))))) - (fU (uF y))))) * (fU (uF ((fU (uF ((fU v) * (fU (uF ((fU (uF ((fU (uF z)) * (fU (uF z))))) * (fU (uF z)))))))) - (fU (uF y)))))))) - (fU (uF ((fU (uF ((fU (uF ((fU (uF ((fU u) * (fU (uF ((fU (uF z)) * (fU (uF z)))))))) - (fU (uF x))))) * (fU (uF ((fU (uF ((fU u) * (fU (uF ((fU (uF z)) * (fU (uF z)))))))) - (fU (uF x)))))))) * (fU (uF ((fU (uF ((fU u) * (fU (uF ((fU (uF z)) * (fU (uF z)))))))) - (fU (uF x))))))))))) - (fU (uF ((fU (uF ((fU (uF x)) * (fU (uF ((fU (uF ((fU (uF ((fU u) * (fU (uF ((fU (uF z)) * (fU (uF z)))))))) - (fU (uF x))))) * (fU (uF ((fU (uF ((fU u) * (fU (uF ((fU (uF z)) * (fU (uF z)))))))) - (fU (uF x))))))))))) + (fU (uF ((fU (uF x)) * (fU (uF ((fU (uF ((fU (uF ((fU u) * (fU (uF ((fU (uF z)) * (fU (uF z)))))))) - (fU (uF x))))) * (fU (uF ((fU (uF ((fU u) * (fU (uF ((fU (uF z)) * (fU (uF z)))))))) - (fU (uF x))))))))))))))))), (.u (uF ((fU (uF ((fU (uF ((fU (uF ((fU v) * (fU (uF ((fU (uF ((fU (uF z)) * (fU (uF z))))) * (fU (uF z)))))))) - (fU (uF y))))) * (fU (uF ((fU (uF ((fU (uF x)) * (fU (uF ((fU (uF ((fU (uF ((fU u) * (fU (uF ((fU (uF z)) * (fU (uF z)))))))) - (fU (uF x))))) * (fU (uF ((fU (uF ((fU u) * (fU (uF ((fU (uF z)) * (fU (uF z)))))))) - (fU (uF x))))))))))) - (fU (uF ((fU (uF ((fU (uF ((fU (uF ((fU (uF ((fU v) * (fU (uF ((fU (uF ((fU (uF z)) * (fU (uF z))))) * (fU (uF z)))))))) - (fU (uF y))))) * (fU (uF ((fU (uF ((fU v) * (fU (uF ((fU (uF ((fU (uF z)) * (fU (uF z))))) * (fU (uF z)))))))) - (fU (uF y)))))))) - (fU (uF ((fU (uF ((fU (uF ((fU (uF ((fU u) * (fU (uF ((fU (uF z)) * (fU (uF z)))))))) - (fU (uF x))))) * (fU (uF ((fU (uF ((fU u) * (fU (uF ((fU (uF z)) * (fU (uF z)))))))) - (fU (uF x)))))))) * (fU (uF ((fU (uF ((fU u) * (fU (uF ((fU (uF z)) * (fU (uF z)))))))) - (fU (uF x))))))))))) - (fU (uF ((fU (uF ((fU (uF x)) * (fU (uF ((fU (uF ((fU (uF ((fU u) * (fU (uF ((fU (uF z)) * (fU (uF z)))))))) - (fU (uF x))))) * (fU (uF ((fU (uF ((fU u) * (fU (uF ((fU (uF z)) * (fU (uF z)))))))) - (fU (uF x))))))))))) + (fU (uF ((fU (uF x)) * (fU (uF ((fU (uF ((fU (uF ((fU u) * (fU (uF ((fU (uF z)) * (fU (uF z)))))))) - (fU (uF x))))) * (fU (uF ((fU (uF ((fU u) * (fU (uF ((fU (uF z)) * (fU (uF z)))))))) - (fU (uF x))))))))))))))))))))))) - (fU (uF ((fU (uF y)) * (fU (uF ((fU (uF ((fU (uF ((fU (uF ((fU u) * (fU (uF ((fU (uF z)) * (fU (uF z)))))))) - (fU (uF x))))) * (fU (uF ((fU (uF ((fU u) * (fU (uF ((fU (uF z)) * (fU (uF z)))))))) - (fU (uF x)))))))) * (fU (uF ((fU (uF ((fU u) * (fU (uF ((fU (uF z)) * (fU (uF z)))))))) - (fU (uF x)))))))))))))), (.u (uF ((fU (uF z)) * (fU (uF ((fU (uF ((fU u) * (fU (uF ((fU (uF z)) * (fU (uF z)))))))) - (fU (uF x))))))))]))))))))))))))))))))) := by kernel_rfl
theorem rflat_tree (x y z : FP) : (callT (fXE) (execT (fXE) 100) 46 [.agg [.u (uF x), .u (uF y), .u (uF z)]] [] [] 0 []).map CR.v =
    (.need true
    (.ite ((uF z) == (ofLimbs (0 : Int) (0 : Int) (0 : Int) (0 : Int)))
     (.leaf (.agg [(.ints .u64 4 [(0 : Int), (0 : Int), (0 : Int), (0 : Int)]), (.ints .u64 4 [(0 : Int), (0 : Int), (0 : Int), (0 : Int)]), (.bool true)]))
     (.need true
     (.leaf (.agg [(.u (uF ((fU (uF x)) * (fU (uF ((fU (uF (pwF (fU (uF z)) 115792089237316195423570985008687907853269984665640564039457584007908834671661))) * (fU (uF (pwF (fU (uF z)) 115792089237316195423570985008687907853269984665640564039457584007908834671661))))))))), (.u (uF ((fU (uF y)) * (fU (uF ((fU (uF ((fU (uF (pwF (fU (uF z)) 115792089237316195423570985008687907853269984665640564039457584007908834671661))) * (fU (uF (pwF (fU (uF z)) 115792089237316195423570985008687907853269984665640564039457584007908834671661)))))) * (fU (uF (pwF (fU (uF z)) 115792089237316195423570985008687907853269984665640564039457584007908834671661))))))))), (.bool false)]))))) := by kernel_rfl
/-- A sum with a point. -/
def joinP (t : Tr pP) : Pt pP → Tr pP
  | .O => t
  | .A u v => if t.Z = 0 then ⟨u, v, 1⟩ else if jH t u = 0 then (if jR t v = 0 then jdblP t else zT) else jjoin t (jH t u) (jR t v)
def flatJ (t : Tr pP) : Pt pP := if t.Z = 0 then .O else .A (t.X * (finv t.Z * finv t.Z)) (t.Y * (finv t.Z * finv t.Z * finv t.Z))
theorem rflat_ok (x y z : FP) : Pure Try.prog 46 [.agg [.u (uF x), .u (uF y), .u (uF z)]] (ptV (flatJ ⟨x, y, z⟩)) := by
  refine Pure.by_tree mixed _ 100 _ _ (rflat_tree x y z) ⟨rfl, fun h => ?_, fun h => ⟨rfl, ?_⟩⟩
  · rw [of00, uF_zero] at h
    rw [show flatJ ⟨x, y, z⟩ = .O from if_pos (of_decide_eq_true h)]
    exact (SameV.agg (.cons (.u4 zero4) (.cons (.u4 zero4) (.cons (.bool rfl) .nil)))).r
  · rw [of00, uF_zero] at h
    rw [show flatJ ⟨x, y, z⟩ = .A (x * (finv z * finv z)) (y * (finv z * finv z * finv z)) from if_neg (of_decide_eq_false h)]
    simp only [fU_uF, pwF_inv]
    exact (SameV.agg (.cons (.u rfl) (.cons (.u rfl) (.cons (.bool rfl) .nil)))).r
theorem one4 : [(1 : Int), 0, 0, 0] = [limb (uF 1) 0, limb (uF 1) 1, limb (uF 1) 2, limb (uF 1) 3] := by rw [← of1]; kernel_rfl
theorem jX_two (x h r : FP) : r * r - h * h * h - 2 * (x * (h * h)) = r * r - h * h * h - (x * (h * h) + x * (h * h)) := by grind
theorem join_A {x y z a b : FP} : Pure Try.prog 47 [.agg [.u (uF x), .u (uF y), .u (uF z)], .agg [.u (uF a), .u (uF b), .bool false]] (trV (joinP ⟨x, y, z⟩ (.A a b))) := by
  refine Pure.by_tree mixed _ 100 _ _ (rjoin_tree x y z (uF a) (uF b) false) ?_
  simp only [T.holds, ltP_uF, fU_uF, of00, uF_zero, true_and]
  refine ⟨fun h => absurd h (by decide), fun _ => ⟨fun h => ?_, fun h => ⟨fun h2 => ⟨fun h3 => ?_, fun h3 => ?_⟩, fun h2 => ?_⟩⟩⟩
  · have h := of_decide_eq_true h
    simp only [joinP, if_pos h]
    exact (SameV.agg (.cons (.u rfl) (.cons (.u rfl) (.cons (.u4 one4) .nil)))).r
  · have h := of_decide_eq_false h
    have h2 : jH (⟨x, y, z⟩ : Tr pP) a = 0 := of_decide_eq_true h2
    have h3 : jR (⟨x, y, z⟩ : Tr pP) b = 0 := of_decide_eq_true h3
    simp only [joinP, if_neg h, if_pos h2, if_pos h3]
    exact SameR.agg3 rfl rfl rfl
  · have h := of_decide_eq_false h
    have h2 : jH (⟨x, y, z⟩ : Tr pP) a = 0 := of_decide_eq_true h2
    have h3 : jR (⟨x, y, z⟩ : Tr pP) b ≠ 0 := of_decide_eq_false h3
    simp only [joinP, if_neg h, if_pos h2, if_neg h3]
    exact zT_same
  · have h := of_decide_eq_false h
    have h2 : jH (⟨x, y, z⟩ : Tr pP) a ≠ 0 := of_decide_eq_false h2
    simp only [joinP, if_neg h, if_neg h2]
    refine SameR.agg3 (congrArg uF ?_) (congrArg uF ?_) rfl
    · exact (jX_two _ _ _).symm
    · simp only [jjoin, jX]; rw [jX_two]; rfl
end Go.Proofs.Ytglcjmnkhmdlhaa

/- Contracts: the document's points: sums. -/
namespace Go.Proofs.Ytglcjmnkhmdlhaa
open Go Go.RowKit
theorem join_N {x y z : FP} {u v : BitVec 256} : Pure Try.prog 47 [.agg [.u (uF x), .u (uF y), .u (uF z)], .agg [.u u, .u v, .bool true]] (trV ⟨x, y, z⟩) := by
  refine Pure.by_tree mixed _ 100 _ _ (rjoin_tree x y z u v true) ⟨fun _ => ?_, fun h => absurd h (by decide)⟩
  exact SameR.agg3 rfl rfl rfl
/-- Whether coordinates are below the modulus (or of no use). -/
def ptL (u v : BitVec 256) (n : Bool) : Bool := n || (ltP u && ltP v)
theorem rjoin_okU {x y z u v : BitVec 256} {n : Bool} (h1 : ltP x = true) (h2 : ltP y = true) (h3 : ltP z = true) (h4 : ptL u v n = true) : Pure Try.prog 47 [.agg [.u x, .u y, .u z], .agg [.u u, .u v, .bool n]] (trV (joinP ⟨fU x, fU y, fU z⟩ (ptOf u v n))) := by
  cases n with
  | true =>
    have := join_N (x := fU x) (y := fU y) (z := fU z) (u := u) (v := v)
    rw [uF_fU h1, uF_fU h2, uF_fU h3] at this
    exact this
  | false =>
    simp only [ptL, Bool.false_or, Bool.and_eq_true] at h4
    have := join_A (x := fU x) (y := fU y) (z := fU z) (a := fU u) (b := fU v)
    rw [uF_fU h1, uF_fU h2, uF_fU h3, uF_fU h4.1, uF_fU h4.2] at this
    exact this
noncomputable def cr_join : Ctr Try.prog := Ctr.of 47 (fun
    | [.agg [.u x, .u y, .u z], .agg [.u u, .u v, .bool n]] => some ([ltP x, ltP y, ltP z, ptL u v n], trV (joinP ⟨fU x, fU y, fU z⟩ (ptOf u v n)))
    | _ => none) (by
  intro args ob v h hob
  split at h <;> simp only [Option.some.injEq, Prod.mk.injEq, reduceCtorEq] at h
  obtain ⟨rfl, rfl⟩ := h
  simp only [List.mem_cons, List.not_mem_nil, or_false, forall_eq_or_imp, forall_eq] at hob
  obtain ⟨h1, h2, h3, h4⟩ := hob
  exact rjoin_okU h1 h2 h3 h4)
theorem rflat_okU {x y z : BitVec 256} (h1 : ltP x = true) (h2 : ltP y = true) (h3 : ltP z = true) : Pure Try.prog 46 [.agg [.u x, .u y, .u z]] (ptV (flatJ ⟨fU x, fU y, fU z⟩)) := by
  have := rflat_ok (fU x) (fU y) (fU z)
  rw [uF_fU h1, uF_fU h2, uF_fU h3] at this
  exact this
noncomputable def cr_flat : Ctr Try.prog := Ctr.of 46 (fun
    | [.agg [.u x, .u y, .u z]] => some ([ltP x, ltP y, ltP z], ptV (flatJ ⟨fU x, fU y, fU z⟩))
    | _ => none) (by
  intro args ob v h hob
  split at h <;> simp only [Option.some.injEq, Prod.mk.injEq, reduceCtorEq] at h
  obtain ⟨rfl, rfl⟩ := h
  simp only [List.mem_cons, List.not_mem_nil, or_false, forall_eq_or_imp, forall_eq] at hob
  obtain ⟨h1, h2, h3⟩ := hob
  exact rflat_okU h1 h2 h3)
end Go.Proofs.Ytglcjmnkhmdlhaa

/- Contracts: the document's sums. -/
namespace Go.Proofs.Ytglcjmnkhmdlhaa
open Go Go.RowKit
noncomputable def fXF : EnvT Try.prog := { cs := [cr_join, cr_flat, cr_dbl, c_ref_Bits, c_ref_Bit], fis := [fi_truceref06_Add, fi_truceref06_Mul] }
theorem fac_zero {z : FP} (hz : z ≠ 0) {a : FP} (h : a * (z * z) = 0) : a = 0 := by
  rcases fin_mul_zero cuP.hp h with h1 | h1
  · exact h1
  · exact absurd h1 (fin_mul_ne cuP.hp hz hz)
theorem fac_zero3 {z : FP} (hz : z ≠ 0) {a : FP} (h : a * (z * z * z) = 0) : a = 0 := by
  rcases fin_mul_zero cuP.hp h with h1 | h1
  · exact h1
  · exact absurd h1 (fin_mul_ne cuP.hp (fin_mul_ne cuP.hp hz hz) hz)
theorem sub_zero_eq {a b : FP} (h : a - b = 0) : b = a := by grind
theorem jdblP_tells {t : Tr pP} {P : Pt pP} (ht : TellsJ t P) (hP : P.on) : TellsJ (jdblP t) (P.add P) := by
  cases P with
  | O =>
    have ht : t.Z = 0 := ht
    unfold jdblP
    rw [if_pos ht]
    exact (rfl : zT.Z = 0)
  | A x y =>
    have hz : t.Z ≠ 0 := ht.1
    have hy : y ≠ 0 := y_ne cuP hP
    have hY : t.Y ≠ 0 := by
      rw [ht.2.2]
      exact fin_mul_ne cuP.hp (fin_mul_ne cuP.hp (fin_mul_ne cuP.hp hy hz) hz) hz
    unfold jdblP
    rw [if_neg hz, if_neg hY]
    exact TellsJ.dbl cuP ht hP
theorem plain_tells (u v : FP) : TellsJ (⟨u, v, 1⟩ : Tr pP) (.A u v) := by
  refine ⟨one_ne cuP, ?_, ?_⟩
  · show u = u * 1 * 1
    grind
  · show v = v * 1 * 1 * 1
    grind
theorem joinP_tells {t : Tr pP} {P Q : Pt pP} (ht : TellsJ t P) (hP : P.on) : TellsJ (joinP t Q) (P.add Q) := by
  cases Q with
  | O => rw [Pt.add_O]; exact ht
  | A u v =>
    cases P with
    | O =>
      have ht : t.Z = 0 := ht
      simp only [joinP]
      rw [if_pos ht]
      exact plain_tells u v
    | A x y =>
      have hz : t.Z ≠ 0 := ht.1
      have eX := ht.2.1
      have eY := ht.2.2
      simp only [joinP]
      rw [if_neg hz]
      have hH : jH t u = (u - x) * (t.Z * t.Z) := by unfold jH; rw [eX]; grind
      have hR : jR t v = (v - y) * (t.Z * t.Z * t.Z) := by unfold jR; rw [eY]; grind
      by_cases h0 : jH t u = 0
      · have hx : x = u := sub_zero_eq (fac_zero hz (by rw [← hH]; exact h0))
        subst hx
        rw [if_pos h0]
        by_cases h1 : jR t v = 0
        · have hy : y = v := sub_zero_eq (fac_zero3 hz (by rw [← hR]; exact h1))
          subst hy
          rw [if_pos h1]
          exact jdblP_tells ht hP
        · rw [if_neg h1]
          have hy : y ≠ v := fun e => h1 (by rw [hR, e]; grind)
          simp only [Pt.add, if_true, if_neg hy]
          exact (rfl : zT.Z = 0)
      · rw [if_neg h0]
        exact TellsJ.join cuP ht fun e => h0 (by rw [hH, e]; grind)
theorem flatJ_tells {t : Tr pP} {P : Pt pP} (h : TellsJ t P) : flatJ t = P := by
  cases P with
  | O => exact if_pos h
  | A x y =>
    obtain ⟨hz, hX, hY⟩ := h
    have e : flatJ t = .A (t.X * (finv t.Z * finv t.Z)) (t.Y * (finv t.Z * finv t.Z * finv t.Z)) := if_neg hz
    rw [e, hX, hY]
    have hi := finv_mul cuP.hp hz
    generalize finv t.Z = i at hi ⊢
    have e1 : x * t.Z * t.Z * (i * i) = x := by
      have : x * t.Z * t.Z * (i * i) = x * ((i * t.Z) * (i * t.Z)) := by grind
      rw [this, hi]; grind
    have e2 : y * t.Z * t.Z * t.Z * (i * i * i) = y := by
      have : y * t.Z * t.Z * t.Z * (i * i * i) = y * ((i * t.Z) * (i * t.Z) * (i * t.Z)) := by grind
      rw [this, hi]; grind
    rw [e1, e2]
theorem ptL_pt (P : Pt pP) : ptL (ptX P) (ptY P) (ptN P) = true := by
  cases P with
  | O => rfl
  | A x y => simp only [ptL, ptX, ptY, ptN, ltP_uF, Bool.false_or, Bool.and_self]
end Go.Proofs.Ytglcjmnkhmdlhaa

/- Contracts: the document's sums (truceref06.Add). -/
namespace Go.Proofs.Ytglcjmnkhmdlhaa
open Go Go.RowKit
theorem radd_tree (P Q : Pt pP) : (callT (fXF) (execT (fXF) 100) 24 [ptV P, ptV Q] [] [] 0 []).map CR.v =
    (.need true
    (.need true
    (.need true
    (.need (ltP (ofLimbs (0 : Int) (0 : Int) (0 : Int) (0 : Int)))
    (.need (ltP (ofLimbs (0 : Int) (0 : Int) (0 : Int) (0 : Int)))
    (.need (ltP (ofLimbs (0 : Int) (0 : Int) (0 : Int) (0 : Int)))
    (.need (ptL (ptX P) (ptY P) (ptN P))
    (.need (ltP (uF (Tr.X (joinP (Tr.mk (fU (ofLimbs (0 : Int) (0 : Int) (0 : Int) (0 : Int))) (fU (ofLimbs (0 : Int) (0 : Int) (0 : Int) (0 : Int))) (fU (ofLimbs (0 : Int) (0 : Int) (0 : Int) (0 : Int)))) (ptOf (ptX P) (ptY P) (ptN P))))))
    (.need (ltP (uF (Tr.Y (joinP (Tr.mk (fU (ofLimbs (0 : Int) (0 : Int) (0 : Int) (0 : Int))) (fU (ofLimbs (0 : Int) (0 : Int) (0 : Int) (0 : Int))) (fU (ofLimbs (0 : Int) (0 : Int) (0 : Int) (0 : Int)))) (ptOf (ptX P) (ptY P) (ptN P))))))
    (.need (ltP (uF (Tr.Z (joinP (Tr.mk (fU (ofLimbs (0 : Int) (0 : Int) (0 : Int) (0 : Int))) (fU (ofLimbs (0 : Int) (0 : Int) (0 : Int) (0 : Int))) (fU (ofLimbs (0 : Int) (0 : Int) (0 : Int) (0 : Int)))) (ptOf (ptX P) (ptY P) (ptN P))))))
    (.need (ptL (ptX Q) (ptY Q) (ptN Q))
    (.need (ltP (uF (Tr.X (joinP (Tr.mk (fU (uF (Tr.X (joinP (Tr.mk (fU (ofLimbs (0 : Int) (0 : Int) (0 : Int) (0 : Int))) (fU (ofLimbs (0 : Int) (0 : Int) (0 : Int) (0 : Int))) (fU (ofLimbs (0 : Int) (0 : Int) (0 : Int) (0 : Int)))) (ptOf (ptX P) (ptY P) (ptN P)))))) (fU (uF (Tr.Y (joinP (Tr.mk (fU (ofLimbs (0 : Int) (0 : Int) (0 : Int) (0 : Int))) (fU (ofLimbs (0 : Int) (0 : Int) (0 : Int) (0 : Int))) (fU (ofLimbs (0 : Int) (0 : Int) (0 : Int) (0 : Int)))) (ptOf (ptX P) (ptY P) (ptN P)))))) (fU (uF (Tr.Z (joinP (Tr.mk (fU (ofLimbs (0 : Int) (0 : Int) (0 : Int) (0 : Int))) (fU (ofLimbs (0 : Int) (0 : Int) (0 : Int) (0 : Int))) (fU (ofLimbs (0 : Int) (0 : Int) (0 : Int) (0 : Int)))) (ptOf (ptX P) (ptY P) (ptN P))))))) (ptOf (ptX Q) (ptY Q) (ptN Q))))))
    (.need (ltP (uF (Tr.Y (joinP (Tr.mk (fU (uF (Tr.X (joinP (Tr.mk (fU (ofLimbs (0 : Int) (0 : Int) (0 : Int) (0 : Int))) (fU (ofLimbs (0 : Int) (0 : Int) (0 : Int) (0 : Int))) (fU (ofLimbs (0 : Int) (0 : Int) (0 : Int) (0 : Int)))) (ptOf (ptX P) (ptY P) (ptN P)))))) (fU (uF (Tr.Y (joinP (Tr.mk (fU (ofLimbs (0 : Int) (0 : Int) (0 : Int) (0 : Int))) (fU (ofLimbs (0 : Int) (0 : Int) (0 : Int) (0 : Int))) (fU (ofLimbs (0 : Int) (0 : Int) (0 : Int) (0 : Int)))) (ptOf (ptX P) (ptY P) (ptN P)))))) (fU (uF (Tr.Z (joinP (Tr.mk (fU (ofLimbs (0 : Int) (0 : Int) (0 : Int) (0 : Int))) (fU (ofLimbs (0 : Int) (0 : Int) (0 : Int) (0 : Int))) (fU (ofLimbs (0 : Int) (0 : Int) (0 : Int) (0 : Int)))) (ptOf (ptX P) (ptY P) (ptN P))))))) (ptOf (ptX Q) (ptY Q) (ptN Q))))))
    (.need (ltP (uF (Tr.Z (joinP (Tr.mk (fU (uF (Tr.X (joinP (Tr.mk (fU (ofLimbs (0 : Int) (0 : Int) (0 : Int) (0 : Int))) (fU (ofLimbs (0 : Int) (0 : Int) (0 : Int) (0 : Int))) (fU (ofLimbs (0 : Int) (0 : Int) (0 : Int) (0 : Int)))) (ptOf (ptX P) (ptY P) (ptN P)))))) (fU (uF (Tr.Y (joinP (Tr.mk (fU (ofLimbs (0 : Int) (0 : Int) (0 : Int) (0 : Int))) (fU (ofLimbs (0 : Int) (0 : Int) (0 : Int) (0 : Int))) (fU (ofLimbs (0 : Int) (0 : Int) (0 : Int) (0 : Int)))) (ptOf (ptX P) (ptY P) (ptN P)))))) (fU (uF (Tr.Z (joinP (Tr.mk (fU (ofLimbs (0 : Int) (0 : Int) (0 : Int) (0 : Int))) (fU (ofLimbs (0 : Int) (0 : Int) (0 : Int) (0 : Int))) (fU (ofLimbs (0 : Int) (0 : Int) (0 : Int) (0 : Int)))) (ptOf (ptX P) (ptY P) (ptN P))))))) (ptOf (ptX Q) (ptY Q) (ptN Q))))))
    (.leaf (.agg [(.u (ptX (flatJ (Tr.mk (fU (uF (Tr.X (joinP (Tr.mk (fU (uF (Tr.X (joinP (Tr.mk (fU (ofLimbs (0 : Int) (0 : Int) (0 : Int) (0 : Int))) (fU (ofLimbs (0 : Int) (0 : Int) (0 : Int) (0 : Int))) (fU (ofLimbs (0 : Int) (0 : Int) (0 : Int) (0 : Int)))) (ptOf (ptX P) (ptY P) (ptN P)))))) (fU (uF (Tr.Y (joinP (Tr.mk (fU (ofLimbs (0 : Int) (0 : Int) (0 : Int) (0 : Int))) (fU (ofLimbs (0 : Int) (0 : Int) (0 : Int) (0 : Int))) (fU (ofLimbs (0 : Int) (0 : Int) (0 : Int) (0 : Int)))) (ptOf (ptX P) (ptY P) (ptN P)))))) (fU (uF (Tr.Z (joinP (Tr.mk (fU (ofLimbs (0 : Int) (0 : Int) (0 : Int) (0 : Int))) (fU (ofLimbs (0 : Int) (0 : Int) (0 : Int) (0 : Int))) (fU (ofLimbs (0 : Int) (0 : Int) (0 : Int) (0 : Int)))) (ptOf (ptX P) (ptY P) (ptN P))))))) (ptOf (ptX Q) (ptY Q) (ptN Q)))))) (fU (uF (Tr.Y (joinP (Tr.mk (fU (uF (Tr.X (joinP (Tr.mk (fU (ofLimbs (0 : Int) (0 : Int) (0 : Int) (0 : Int))) (fU (ofLimbs (0 : Int) (0 : Int) (0 : Int) (0 : Int))) (fU (ofLimbs (0 : Int) (0 : Int) (0 : Int) (0 : Int)))) (ptOf (ptX P) (ptY P) (ptN P)))))) (fU (uF (Tr.Y (joinP (Tr.mk (fU (ofLimbs (0 : Int) (0 : Int) (0 : Int) (0 : Int))) (fU (ofLimbs (0 : Int) (0 : Int) (0 : Int) (0 : Int))) (fU (ofLimbs (0 : Int) (0 : Int) (0 : Int) (0 : Int)))) (ptOf (ptX P) (ptY P) (ptN P)))))) (fU (uF (Tr.Z (joinP (Tr.mk (fU (ofLimbs (0 : Int) (0 : Int) (0 : Int) (0 : Int))) (fU (ofLimbs (0 : Int) (0 : Int) (0 : Int) (0 : Int))) (fU (ofLimbs (0 : Int) (0 : Int) (0 : Int) (0 : Int)))) (ptOf (ptX P) (ptY P) (ptN P))))))) (ptOf (ptX Q) (ptY Q) (ptN Q)))))) (fU (uF (Tr.Z (joinP (Tr.mk (fU (uF (Tr.X (joinP (Tr.mk (fU (ofLimbs (0 : Int) (0 : Int) (0 : Int) (0 : Int))) (fU (ofLimbs (0 : Int) (0 : Int) (0 : Int) (0 : Int))) (fU (ofLimbs (0 : Int) (0 : Int) (0 : Int) (0 : Int)))) (ptOf (ptX P) (ptY P) (ptN P)))))) (fU (uF (Tr.Y (joinP (Tr.mk (fU (ofLimbs (0 : Int) (0 : Int) (0 : Int) (0 : Int))) (fU (ofLimbs (0 : Int) (0 : Int) (0 : Int) (0 : Int))) (fU (ofLimbs (0 : Int) (0 : Int) (0 : Int) (0 : Int)))) (ptOf (ptX P) (ptY P) (ptN P)))))) (fU (uF (Tr.Z (joinP (Tr.mk (fU (ofLimbs (0 : Int) (0 : Int) (0 : Int) (0 : Int))) (fU (ofLimbs (0 : Int) (0 : Int) (0 : Int) (0 : Int))) (fU (ofLimbs (0 : Int) (0 : Int) (0 : Int) (0 : Int)))) (ptOf (ptX P) (ptY P) (ptN P))))))) (ptOf (ptX Q) (ptY Q) (ptN Q)))))))))), (.u (ptY (flatJ (Tr.mk (fU (uF (Tr.X (joinP (Tr.mk (fU (uF (Tr.X (joinP (Tr.mk (fU (ofLimbs (0 : Int) (0 : Int) (0 : Int) (0 : Int))) (fU (ofLimbs (0 : Int) (0 : Int) (0 : Int) (0 : Int))) (fU (ofLimbs (0 : Int) (0 : Int) (0 : Int) (0 : Int)))) (ptOf (ptX P) (ptY P) (ptN P)))))) (fU (uF (Tr.Y (joinP (Tr.mk (fU (ofLimbs (0 : Int) (0 : Int) (0 : Int) (0 : Int))) (fU (ofLimbs (0 : Int) (0 : Int) (0 : Int) (0 : Int))) (fU (ofLimbs (0 : Int) (0 : Int) (0 : Int) (0 : Int)))) (ptOf (ptX P) (ptY P) (ptN P)))))) (fU (uF (Tr.Z (joinP (Tr.mk (fU (ofLimbs (0 : Int) (0 : Int) (0 : Int) (0 : Int))) (fU (ofLimbs (0 : Int) (0 : Int) (0 : Int) (0 : Int))) (fU (ofLimbs (0 : Int) (0 : Int) (0 : Int) (0 : Int)))) (ptOf (ptX P) (ptY P) (ptN P))))))) (ptOf (ptX Q) (ptY Q) (ptN Q)))))) (fU (uF (Tr.Y (joinP (Tr.mk (fU (uF (Tr.X (joinP (Tr.mk (fU (ofLimbs (0 : Int) (0 : Int) (0 : Int) (0 : Int))) (fU (ofLimbs (0 : Int) (0 : Int) (0 : Int) (0 : Int))) (fU (ofLimbs (0 : Int) (0 : Int) (0 : Int) (0 : Int)))) (ptOf (ptX P) (ptY P) (ptN P)))))) (fU (uF (Tr.Y (joinP (Tr.mk (fU (ofLimbs (0 : Int) (0 : Int) (0 : Int) (0 : Int))) (fU (ofLimbs (0 : Int) (0 : Int) (0 : Int) (0 : Int))) (fU (ofLimbs (0 : Int) (0 : Int) (0 : Int) (0 : Int)))) (ptOf (ptX P) (ptY P) (ptN P)))))) (fU (uF (Tr.Z (joinP (Tr.mk (fU (ofLimbs (0 : Int) (0 : Int) (0 : Int) (0 : Int))) (fU (ofLimbs (0 : Int) (0 : Int) (0 : Int) (0 : Int))) (fU (ofLimbs (0 : Int) (0 : Int) (0 : Int) (0 : Int)))) (ptOf (ptX P) (ptY P) (ptN P))))))) (ptOf (ptX Q) (ptY Q) (ptN Q)))))) (fU (uF (Tr.Z (joinP (Tr.mk (fU (uF (Tr.X (joinP (Tr.mk (fU (ofLimbs (0 : Int) (0 : Int) (0 : Int) (0 : Int))) (fU (ofLimbs (0 : Int) (0 : Int) (0 : Int) (0 : Int))) (fU (ofLimbs (0 : Int) (0 : Int) (0 : Int) (0 : Int)))) (ptOf (ptX P) (ptY P) (ptN P)))))) (fU (uF (Tr.Y (joinP (Tr.mk (fU (ofLimbs (0 : Int) (0 : Int) (0 : Int) (0 : Int))) (fU (ofLimbs (0 : Int) (0 : Int) (0 : Int) (0 : Int))) (fU (ofLimbs (0 : Int) (0 : Int) (0 : Int) (0 : Int)))) (ptOf (ptX P) (ptY P) (ptN P)))))) (fU (uF (Tr.Z (joinP (Tr.mk (fU (ofLimbs (0 : Int) (0 : Int) (0 : Int) (0 : Int))) (fU (ofLimbs (0 : Int) (0 : Int) (0 : Int) (0 : Int))) (fU (ofLimbs (0 : Int) (0 : Int) (0 : Int) (0 : Int)))) (ptOf (ptX P) (ptY P) (ptN P))))))) (ptOf (ptX Q) (ptY Q) (ptN Q)))))))))), (.bool (ptN (flatJ (Tr.mk (fU (uF (Tr.X (joinP (Tr.mk (fU (uF (Tr.X (joinP (Tr.mk (fU (ofLimbs (0 : Int) (0 : Int) (0 : Int) (0 : Int))) (fU (ofLimbs (0 : Int) (0 : Int) (0 : Int) (0 : Int))) (fU (ofLimbs (0 : Int) (0 : Int) (0 : Int) (0 : Int)))) (ptOf (ptX P) (ptY P) (ptN P)))))) (fU (uF (Tr.Y (joinP (Tr.mk (fU (ofLimbs (0 : Int) (0 : Int) (0 : Int) (0 : Int))) (fU (ofLimbs (0 : Int) (0 : Int) (0 : Int) (0 : Int))) (fU (ofLimbs (0 : Int) (0 : Int) (0 : Int) (0 : Int)))) (ptOf (ptX P) (ptY P) (ptN P)))))) (fU (uF (Tr.Z (joinP (Tr.mk (fU (ofLimbs (0 : Int) (0 : Int) (0 : Int) (0 : Int))) (fU (ofLimbs (0 : Int) (0 : Int) (0 : Int) (0 : Int))) (fU (ofLimbs (0 : Int) (0 : Int) (0 : Int) (0 : Int)))) (ptOf (ptX P) (ptY P) (ptN P))))))) (ptOf (ptX Q) (ptY Q) (ptN Q)))))) (fU (uF (Tr.Y (joinP (Tr.mk (fU (uF (Tr.X (joinP (Tr.mk (fU (ofLimbs (0 : Int) (0 : Int) (0 : Int) (0 : Int))) (fU (ofLimbs (0 : Int) (0 : Int) (0 : Int) (0 : Int))) (fU (ofLimbs (0 : Int) (0 : Int) (0 : Int) (0 : Int)))) (ptOf (ptX P) (ptY P) (ptN P)))))) (fU (uF (Tr.Y (joinP (Tr.mk (fU (ofLimbs (0 : Int) (0 : Int) (0 : Int) (0 : Int))) (fU (ofLimbs (0 : Int) (0 : Int) (0 : Int) (0 : Int))) (fU (ofLimbs (0 : Int) (0 : Int) (0 : Int) (0 : Int)))) (ptOf (ptX P) (ptY P) (ptN P)))))) (fU (uF (Tr.Z (joinP (Tr.mk (fU (ofLimbs (0 : Int) (0 : Int) (0 : Int) (0 : Int))) (fU (ofLimbs (0 : Int) (0 : Int) (0 : Int) (0 : Int))) (fU (ofLimbs (0 : Int) (0 : Int) (0 : Int) (0 : Int)))) (ptOf (ptX P) (ptY P) (ptN P))))))) (ptOf (ptX Q) (ptY Q) (ptN Q)))))) (fU (uF (Tr.Z (joinP (Tr.mk (fU (uF (Tr.X (joinP (Tr.mk (fU (ofLimbs (0 : Int) (0 : Int) (0 : Int) (0 : Int))) (fU (ofLimbs (0 : Int) (0 : Int) (0 : Int) (0 : Int))) (fU (ofLimbs (0 : Int) (0 : Int) (0 : Int) (0 : Int)))) (ptOf (ptX P) (ptY P) (ptN P)))))) (fU (uF (Tr.Y (joinP (Tr.mk (fU (ofLimbs (0 : Int) (0 : Int) (0 : Int) (0 : Int))) (fU (ofLimbs (0 : Int) (0 : Int) (0 : Int) (0 : Int))) (fU (ofLimbs (0 : Int) (0 : Int) (0 : Int) (0 : Int)))) (ptOf (ptX P) (ptY P) (ptN P)))))) (fU (uF (Tr.Z (joinP (Tr.mk (fU (ofLimbs (0 : Int) (0 : Int) (0 : Int) (0 : Int))) (fU (ofLimbs (0 : Int) (0 : Int) (0 : Int) (0 : Int))) (fU (ofLimbs (0 : Int) (0 : Int) (0 : Int) (0 : Int)))) (ptOf (ptX P) (ptY P) (ptN P))))))) (ptOf (ptX Q) (ptY Q) (ptN Q))))))))))])))))))))))))))) := by kernel_rfl
theorem zT_tells : TellsJ (⟨0, 0, 0⟩ : Tr pP) .O := rfl
theorem radd_ok {P Q : Pt pP} (hP : P.on) (hQ : Q.on) : Pure Try.prog 24 [ptV P, ptV Q] (ptV (P.add Q)) := by
  refine Pure.by_tree mixed fXF 100 _ _ (radd_tree P Q) ?_
  simp only [T.holds, ptOf_pt, ptL_pt, fU_00, ltP_00, ltP_uF, fU_uF, true_and]
  have h1 := joinP_tells zT_tells (Q := P) trivial
  have h2 := joinP_tells h1 (Q := Q) hP
  have h := flatJ_tells h2
  show SameR (ptV (flatJ (joinP (joinP ⟨0, 0, 0⟩ P) Q))) _
  rw [h]
  exact (SameV.pt _).r
noncomputable def cr_add : Ctr Try.prog := Ctr.of 24 (fun
    | [.agg [.u x, .u y, .bool n], .agg [.u u, .u v, .bool m]] => some ([okP x y n, okP u v m], ptV (Pt.add (ptOf x y n) (ptOf u v m)))
    | _ => none) (by
  intro args ob v h hob
  split at h <;> simp only [Option.some.injEq, Prod.mk.injEq, reduceCtorEq] at h
  obtain ⟨rfl, rfl⟩ := h
  simp only [List.mem_cons, List.not_mem_nil, or_false, forall_eq_or_imp, forall_eq] at hob
  rw [okP_V hob.1, okP_V hob.2]
  exact radd_ok (okP_on hob.1) (okP_on hob.2))
end Go.Proofs.Ytglcjmnkhmdlhaa

/- Contracts: curve.Mul: the range over a point's doubles: its states. -/
namespace Go.Proofs.Ytglcjmnkhmdlhaa
open Go Go.RowKit
noncomputable def mulX0 : EnvT Try.prog := { cs := [c_tadd, c_tdbl, c_spread, c_num_Bits, c_num_Shr, c_flat], fis := [fi_curve_Mul, fi_curve_doubles] }
def mul_ss : List AV := pat' [(4, (.ptr 2 [])), (5, (.ptr 5 [])), (13, (.fn 66 [.ptr 11 [], .ptr 12 []]))] 0 22
def mul_kn : List Bool := kpat [4, 5, 13] 0 22
abbrev mulR := RecC Try.prog fi_curve_Mul [0, 1, 0, 1, 1] mul_ss
/-- The blocks: of the call (0, 1, 2: its result, 5: the sum so far), of the iterator (11: the number, 12: the point so far). -/
def mulH (k : BitVec 256) (P : Pt pP) (o : Tr pP) (kk : BitVec 256) (t : Tr pP) : Heap :=
  [some ⟨24, .u k, true⟩, some ⟨26, ptV P, true⟩, some ⟨26, .agg [.ints .u64 4 [(0 : Int), (0 : Int), (0 : Int), (0 : Int)], .ints .u64 4 [(0 : Int), (0 : Int), (0 : Int), (0 : Int)], .bool false], true⟩, none, none, some ⟨64, trV o, true⟩, none, none, none, none, none, some ⟨24, .u kk, true⟩, some ⟨64, trV t, true⟩]
noncomputable def mulItX (R : mulR) : EnvT Try.prog R.C := { cs := [c_tadd, c_tdbl, c_spread, c_num_Bits, c_num_Shr, c_flat], fis := [fi_curve_doubles_1], yl := some (R.L, yalR mulX0 100 fi_curve_Mul [0, 1, 0, 1, 1] mul_ss mul_kn), yok := yalR_ok mixed mulX0 100 mul_kn R }
noncomputable def mul_it (yv : AV) (k : BitVec 256) (P : Pt pP) (o : Tr pP) (kk : BitVec 256) (t : Tr pP) (c : Int) : KS := ⟨⟨pat' [(0, yv), (1, (.ptr 11 [])), (2, (.ptr 12 [])), (4, (.int .i64 c))] 0 23, mulH k P o kk t, 13⟩, kpat [0, 1, 2] 0 23, []⟩
end Go.Proofs.Ytglcjmnkhmdlhaa

/- Contracts: curve.Mul: the loop of its iterator. -/
namespace Go.Proofs.Ytglcjmnkhmdlhaa
open Go Go.RowKit
section
variable {p : Nat} [NeZero p]
theorem Tells3.hom {t : Tr p} {P : Pt p} (h : Tells3 t P) (hP : P.on) : t.Y * t.Y * t.Z = t.X * t.X * t.X + 7 * t.Z * t.Z * t.Z := by
  cases P with
  | O =>
    obtain ⟨h1, _, h3⟩ := h
    rw [h1, h3]; grind
  | A x y =>
    obtain ⟨_, h2, h3⟩ := h
    have hP : y * y = x * x * x + 7 := hP
    rw [h2, h3]
    have : y * t.Z * (y * t.Z) * t.Z = (y * y) * (t.Z * t.Z * t.Z) := by grind
    rw [this, hP]; grind
end
theorem Tells3.dbl {t : Tr pP} {P : Pt pP} (h : Tells3 t P) (hP : P.on) : Tells3 (Tr.dbl t) (P.add P) := by
  rw [Tr.dbl_add (h.hom hP)]
  exact Tells3.add cuP h h hP hP
/-- The point's doubles, and their sum by a number's lower bits. -/
def dblT (P : Pt pP) : Nat → Tr pP
  | 0 => sp P
  | i + 1 => Tr.dbl (dblT P i)
def sumT (k : Nat) (P : Pt pP) : Nat → Tr pP
  | 0 => sp .O
  | i + 1 => if k / 2 ^ i % 2 = 1 then Tr.add (sumT k P i) (dblT P i) else sumT k P i
theorem dblT_tells {P : Pt pP} (hP : P.on) : ∀ i, Tells3 (dblT P i) (Pt.mul (2 ^ i) P)
  | 0 => by rw [Nat.pow_zero, Pt.mul_one]; exact sp_tells P
  | i + 1 => by
    rw [Nat.pow_succ, Nat.mul_two, Pt.mul_add cuP hP]
    exact (dblT_tells hP i).dbl (Pt.mul_on cuP hP _)
theorem sumT_tells (k : Nat) {P : Pt pP} (hP : P.on) : ∀ i, Tells3 (sumT k P i) (Pt.mul (k % 2 ^ i) P)
  | 0 => by rw [Nat.pow_zero, Nat.mod_one]; exact sp_tells .O
  | i + 1 => by
    have ih := sumT_tells k hP i
    have e : k % 2 ^ (i + 1) = k % 2 ^ i + 2 ^ i * (k / 2 ^ i % 2) := by rw [Nat.pow_succ, Nat.mod_mul]
    unfold sumT
    split
    · rename_i hb
      rw [e, hb, Nat.mul_one, Pt.mul_add cuP hP]
      exact Tells3.add cuP ih (dblT_tells hP i) (Pt.mul_on cuP hP _) (Pt.mul_on cuP hP _)
    · rename_i hb
      have h0 : k / 2 ^ i % 2 = 0 := by omega
      rw [e, h0, Nat.mul_zero, Nat.add_zero]
      exact ih
theorem sumT_flat (k : Nat) {P : Pt pP} (hP : P.on) {n : Nat} (hn : k < 2 ^ n) : flatP (sumT k P n) = Pt.mul k P := by
  have := flat_tells (sumT_tells k hP n)
  rw [Nat.mod_eq_of_lt hn] at this
  exact this
theorem sumT_one {k i : Nat} {P : Pt pP} (h : k / 2 ^ i % 2 = 1) : sumT k P (i + 1) = Tr.add (sumT k P i) (dblT P i) := by
  show (if _ then _ else _) = _
  rw [if_pos h]
theorem sumT_zero {k i : Nat} {P : Pt pP} (h : k / 2 ^ i % 2 = 0) : sumT k P (i + 1) = sumT k P i := by
  show (if _ then _ else _) = _
  rw [if_neg (by omega)]
theorem int_one {n : Nat} (h : (((n : Nat) : Int) == (1 : Int)) = true) : n = 1 := by rw [beq_iff_eq] at h; omega
theorem int_zero {n : Nat} (h2 : n = 1 ∨ n = 0) (h : (((n : Nat) : Int) == (1 : Int)) = false) : n = 0 := by rw [beq_eq_false_iff_ne] at h; omega
theorem mk_fu (t : Tr pP) : Tr.mk (fU (uF t.X)) (fU (uF t.Y)) (fU (uF t.Z)) = t := by simp only [fU_uF]
theorem limb0_bit (k : BitVec 256) (i : Nat) : iand .u64 (limb (k >>> i) 0) (1 : Int) = ((k.toNat / 2 ^ i % 2 : Nat) : Int) := by
  unfold limb
  have h1 : (k >>> i).toNat / 2 ^ (64 * 0) % 2 ^ 64 < 18446744073709551616 := Nat.mod_lt _ (by decide)
  rw [cv_and1 h1]
  congr 1
  rw [BitVec.toNat_ushiftRight, Nat.shiftRight_eq_div_pow, Nat.mul_zero, Nat.pow_zero, Nat.div_one]
  omega
theorem shr_next (k : BitVec 256) (i : Nat) : (k >>> i) >>> 1 = k >>> (i + 1) := by
  apply BitVec.eq_of_toNat_eq
  simp only [BitVec.toNat_ushiftRight, Nat.shiftRight_add]
theorem mul_body (R : mulR) (k : BitVec 256) (P : Pt pP) (o : Tr pP) (kk : BitVec 256) (t : Tr pP) (c : Int) : stepT (mulItX R) 100 fi_curve_doubles_1 [0, 1] [0, 1, 2, 4] 13 (kpat [0, 1, 2] 0 23) [] (mul_it R.yv k P o kk t c) =
    (.ite (decide (c > (0 : Int)))
     (.need (Nat.beq (RecC.L R) (RecC.L R))
     (.ite ((iand .u64 (limb kk 0) (1 : Int)) == (1 : Int))
      (.need (ltP (uF (Tr.X o)))
      (.need (ltP (uF (Tr.Y o)))
      (.need (ltP (uF (Tr.Z o)))
      (.need (ltP (uF (Tr.X t)))
      (.need (ltP (uF (Tr.Y t)))
      (.need (ltP (uF (Tr.Z t)))
      (.need true
      (.need (ltP (uF (Tr.X t)))
      (.need (ltP (uF (Tr.Y t)))
      (.need (ltP (uF (Tr.Z t)))
      (.leaf (.normal, mul_it R.yv k P (Tr.add (Tr.mk (fU (uF (Tr.X o))) (fU (uF (Tr.Y o))) (fU (uF (Tr.Z o)))) (Tr.mk (fU (uF (Tr.X t))) (fU (uF (Tr.Y t))) (fU (uF (Tr.Z t))))) (kk >>> 1) (Tr.dbl (Tr.mk (fU (uF (Tr.X t))) (fU (uF (Tr.Y t))) (fU (uF (Tr.Z t))))) (IntKind.wrap .i64 (c - (1 : Int)))))))))))))))
      (.need true
      (.need (ltP (uF (Tr.X t)))
      (.need (ltP (uF (Tr.Y t)))
      (.need (ltP (uF (Tr.Z t)))
      (.leaf (.normal, mul_it R.yv k P o (kk >>> 1) (Tr.dbl (Tr.mk (fU (uF (Tr.X t))) (fU (uF (Tr.Y t))) (fU (uF (Tr.Z t))))) (IntKind.wrap .i64 (c - (1 : Int)))))))))))
     (.leaf ((.exit 0), mul_it R.yv k P o kk t c))) := by kernel_rfl
theorem mulSub : subC fi_curve_doubles_1.body [0, 1] = some (.loop (loopAt fi_curve_doubles_1 [0, 1])) := loop_sub' (c := loopAt fi_curve_doubles_1 [0, 1]) (by kernel_rfl)
theorem shr_zero (k : BitVec 256) : k >>> 0 = k := by
  apply BitVec.eq_of_toNat_eq
  rw [BitVec.toNat_ushiftRight, Nat.shiftRight_zero]
theorem mul_loop (R : mulR) (k : BitVec 256) (P : Pt pP) : CodeR Try.prog (.loop (loopAt fi_curve_doubles_1 [0, 1])) (mul_it R.yv k P (sp .O) k (sp P) (blen k.toNat : Nat)).s
    (fun e s' => e = .exit 0 ∧ s' = (mul_it R.yv k P (sumT k.toNat P (blen k.toNat)) (k >>> blen k.toNat) (dblT P (blen k.toNat)) 0).s) R.C := by
  have hK : blen k.toNat ≤ 256 := blen_le k.isLt
  generalize blen k.toNat = K at *
  have h := loop_rule mixed (C := R.C) fi_curve_doubles_1 [0, 1] [0, 1, 2, 4] 13 (kpat [0, 1, 2] 0 23) [] (σ := Nat) (fun i => mul_it R.yv k P (sumT k.toNat P i) (k >>> i) (dblT P i) ((K : Int) - i)) 100 (fun i => i ≤ K) (fun i => K - i)
    (fun e s' => e = .exit 0 ∧ s' = (mul_it R.yv k P (sumT k.toNat P K) (k >>> K) (dblT P K) 0).s) mulSub (fun _ => Nat.le_refl 13) ?_ 0 (Nat.zero_le _)
  · simp only [shr_zero] at h
    have e : ((K : Int) - (0 : Nat)) = (K : Int) := by omega
    rw [e] at h
    exact h
  intro i hi
  refine ⟨mulItX R, ?_⟩
  rw [mul_body]
  refine ⟨fun hc => ?_, fun hc => ?_⟩
  · have h0 : i < K := by simp at hc; omega
    have hw : IntKind.wrap .i64 ((K : Int) - i - 1) = (K : Int) - (i + 1 : Nat) := by rw [cv_wrap (by omega) (by omega)]; omega
    rw [hw]
    simp only [mk_fu, shr_next]
    refine ⟨Nat.beq_refl _, ?_⟩
    rw [limb0_bit]
    simp only [T.holds, ltP_uF, true_and]
    refine ⟨fun hb => ?_, fun hb => ?_⟩
    · have hb := int_one hb
      refine ⟨i + 1, h0, Nat.sub_lt_sub_left h0 (Nat.lt_succ_self i), Sim.of_eq ?_⟩
      show (mul_it R.yv k P _ _ _ _).s = (mul_it R.yv k P (sumT k.toNat P (i + 1)) (k >>> (i + 1)) (dblT P (i + 1)) ((K : Int) - (i + 1 : Nat))).s
      rw [sumT_one hb]; rfl
    · have hb := int_zero (bit_cases _ _) hb
      refine ⟨i + 1, h0, Nat.sub_lt_sub_left h0 (Nat.lt_succ_self i), Sim.of_eq ?_⟩
      show (mul_it R.yv k P _ _ _ _).s = (mul_it R.yv k P (sumT k.toNat P (i + 1)) (k >>> (i + 1)) (dblT P (i + 1)) ((K : Int) - (i + 1 : Nat))).s
      rw [sumT_zero hb]; rfl
  · have h0 : i = K := by simp at hc; omega
    subst h0
    have e : ((i : Int) - i) = 0 := by omega
    rw [e]
    exact ⟨rfl, rfl⟩
end Go.Proofs.Ytglcjmnkhmdlhaa

/- Contracts: curve.Mul. -/
namespace Go.Proofs.Ytglcjmnkhmdlhaa
open Go Go.RowKit
def mul_s0 (k : BitVec 256) (P : Pt pP) : St := ⟨pat' [(1, (.ptr 11 [])), (2, (.ptr 12 [])), (4, (.int .i64 (blen k.toNat : Nat)))] 0 23, mulH k P (sp .O) k (sp P), 13⟩
noncomputable def mulLC (R : mulR) (k : BitVec 256) (P : Pt pP) : LCT Try.prog R.C := LCT.oneY fi_curve_doubles_1 [0, 1] 0 R.L (mul_s0 k P) (.exit 0) (mul_it R.yv k P (sumT k.toNat P (blen k.toNat)) (k >>> blen k.toNat) (dblT P (blen k.toNat)) 0) mulSub (mul_loop R k P)
noncomputable def mulItX' (R : mulR) (k : BitVec 256) (P : Pt pP) : EnvT Try.prog R.C := { mulItX R with lcs := [mulLC R k P] }
theorem mulIt_tree (R : mulR) (k : BitVec 256) (P : Pt pP) : (callT (mulItX' R k P) (execT (mulItX' R k P) 100) 66 (R.yv :: [.ptr 11 [], .ptr 12 []]) [] (mulH k P (sp .O) k (sp P)) 13 []).map CR.H =
    (.need (Nat.beq (RecC.L R) (RecC.L R))
    (.need ((((blen (BitVec.toNat k)) : Nat) : Int) == (((blen (BitVec.toNat k)) : Nat) : Int))
    (.need (k == k)
    (.need ((ptX P) == (ptX P))
    (.need ((ptY P) == (ptY P))
    (.need ((ptN P) == (ptN P))
    (.need true
    (.need true
    (.need true
    (.need true
    (.need true
    (.need true
    (.need (k == k)
    (.need ((uF (Tr.X (sp P))) == (uF (Tr.X (sp P))))
    (.need ((uF (Tr.Y (sp P))) == (uF (Tr.Y (sp P))))
    (.need ((uF (Tr.Z (sp P))) == (uF (Tr.Z (sp P))))
    (.leaf (mulH k P (sumT (BitVec.toNat k) P (blen (BitVec.toNat k))) (k >>> (blen (BitVec.toNat k))) (dblT P (blen (BitVec.toNat k))))))))))))))))))))) := by kernel_rfl
theorem mulRSub : subC fi_curve_Mul.body [0, 1, 0, 1, 1] = some (.rangeFunc (rfG fi_curve_Mul [0, 1, 0, 1, 1]) (rfP fi_curve_Mul [0, 1, 0, 1, 1]) (rfA fi_curve_Mul [0, 1, 0, 1, 1]) (rfB fi_curve_Mul [0, 1, 0, 1, 1])) := by kernel_rfl
noncomputable def mulHE (k : BitVec 256) (P : Pt pP) : Heap := mulH k P (sumT (BitVec.toNat k) P (blen (BitVec.toNat k))) (k >>> (blen (BitVec.toNat k))) (dblT P (blen (BitVec.toNat k)))
theorem mul_hit (k : BitVec 256) (P : Pt pP) (R : mulR) : ((callT (mulItX' R k P) (execT (mulItX' R k P) 100) 66 (R.yv :: [.ptr 11 [], .ptr 12 []]) [] (mulH k P (sp .O) k (sp P)) 13 []).map CR.H).holds fun rH => ∀ (ρ : Env) (B : Fr) (W w : World), Rep ρ rH B W w → ∃ ρ2, (∀ j b, j < (mulH k P (sp .O) k (sp P)).length → ρ j = some b → ρ2 j = some b) ∧ Rep ρ2 (mulHE k P) B W w := by
  rw [mulIt_tree]
  simp only [T.holds, beq_self_eq_true, Nat.beq_refl, true_and]
  intro ρ B W w h
  exact ⟨ρ, fun _ _ _ h => h, h⟩
theorem mulRG : evS mul_ss (rfG fi_curve_Mul [0, 1, 0, 1, 1]) = .fn 66 [.ptr 11 [], .ptr 12 []] := by kernel_rfl
set_option maxRecDepth 100000 in
noncomputable def mulRF (k : BitVec 256) (P : Pt pP) : RFT Try.prog := RFT.one mixed fi_curve_Mul [0, 1, 0, 1, 1] mulRSub ⟨mul_ss, mulH k P (sp .O) k (sp P), 13⟩ [] 66 [.ptr 11 [], .ptr 12 []] mulRG rfl (mulHE k P) ⟨⟨mul_ss, mulHE k P, 13⟩, mul_kn, []⟩ ⟨rfl, rfl⟩ (fun R => ⟨mulItX' R k P, 100, mul_hit k P R⟩)
theorem mul_tree (k : BitVec 256) (P : Pt pP) : (callM mulX0 [mulRF k P] 100 20 25 [.u k, ptV P] [] [] 0 []).map CR.v =
    (.need true
    (.need true
    (.need (k == k)
    (.need ((ptX P) == (ptX P))
    (.need ((ptY P) == (ptY P))
    (.need ((ptN P) == (ptN P))
    (.need true
    (.need true
    (.need true
    (.need true
    (.need true
    (.need true
    (.need (k == k)
    (.need ((uF (Tr.X (sp P))) == (sprX (ptX P) (ptN P)))
    (.need ((uF (Tr.Y (sp P))) == (sprY (ptY P) (ptN P)))
    (.need ((uF (Tr.Z (sp P))) == (sprZ (ptN P)))
    (.need (ltP (uF (Tr.X (sumT (BitVec.toNat k) P (blen (BitVec.toNat k))))))
    (.need (ltP (uF (Tr.Y (sumT (BitVec.toNat k) P (blen (BitVec.toNat k))))))
    (.need (ltP (uF (Tr.Z (sumT (BitVec.toNat k) P (blen (BitVec.toNat k))))))
    (.leaf (ptV (flatP (Tr.mk (fU (uF (Tr.X (sumT (BitVec.toNat k) P (blen (BitVec.toNat k)))))) (fU (uF (Tr.Y (sumT (BitVec.toNat k) P (blen (BitVec.toNat k)))))) (fU (uF (Tr.Z (sumT (BitVec.toNat k) P (blen (BitVec.toNat k))))))))))))))))))))))))))))) := by kernel_rfl
theorem cvmul_ok (k : BitVec 256) {P : Pt pP} (hP : P.on) : Pure Try.prog 25 [.u k, ptV P] (ptV (Pt.mul k.toNat P)) := by
  refine Pure.by_range mixed mulX0 [mulRF k P] 100 20 _ _ (mul_tree k P) ?_
  simp only [T.holds, sprX_pt, sprY_pt, sprZ_pt, ltP_uF, mk_fu, beq_self_eq_true, true_and]
  rw [sumT_flat _ hP (cv_blen_lt _)]
  exact (SameV.pt _).r
noncomputable def c_cvmul : Ctr Try.prog := Ctr.of 25 (fun
    | [.u k, .agg [.u x, .u y, .bool n]] => some ([okP x y n], ptV (Pt.mul k.toNat (ptOf x y n)))
    | _ => none) (by
  intro args ob v h hob
  split at h <;> simp only [Option.some.injEq, Prod.mk.injEq, reduceCtorEq] at h
  obtain ⟨rfl, rfl⟩ := h
  simp only [List.mem_cons, List.not_mem_nil, or_false, forall_eq_or_imp, forall_eq] at hob
  rw [okP_V hob]
  exact cvmul_ok _ (okP_on hob))
end Go.Proofs.Ytglcjmnkhmdlhaa

