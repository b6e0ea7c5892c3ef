/- CurveSums: for every two numbers and every point the call returns true, nothing that was there turns; each argument reads behind the call as it read before. No conditions. -/
import Derived.Test.YtabiimelnalapaaKB
import Derived.Test.YtabiimelnalapaaQ27
namespace Go.Proofs.Ytabiimelnalapaa
open Go Go.RowKit Go.ChangeShapes
noncomputable def csu_X : EnvT Try.prog := { cs := [c_cvmul, c_cvadd, c_cvsum, c_cvorder, cr_on, c_awake06], fis := [fi_trucelaw06_CurveSums] }

theorem csu_tree (i k : Int) (x y : BitVec 256) (n : Bool) : (callT (csu_X) (execT (csu_X) 100) 5 [.int .u64 i, .int .u64 k, .agg [.u x, .u y, .bool n]] [] [] 0 []).map CR.v =
    (.ite (!(okP x y n))
     (.leaf (.bool true))
     (.ite (decide ((IntKind.wrap .u64 (i + k)) < i))
      (.need ((((inR (IntKind.wrap .u64 (i + k))) && true) && true) && true)
      (.need (okP x y n)
      (.need ((((inR i) && true) && true) && true)
      (.need (okP x y n)
      (.need ((((inR k) && true) && true) && true)
      (.need (okP x y n)
      (.need (okP (ptX (Pt.mul (BitVec.toNat (ofLimbs i (0 : Int) (0 : Int) (0 : Int))) (ptOf x y n))) (ptY (Pt.mul (BitVec.toNat (ofLimbs i (0 : Int) (0 : Int) (0 : Int))) (ptOf x y n))) (ptN (Pt.mul (BitVec.toNat (ofLimbs i (0 : Int) (0 : Int) (0 : Int))) (ptOf x y n))))
      (.need (okP (ptX (Pt.mul (BitVec.toNat (ofLimbs k (0 : Int) (0 : Int) (0 : Int))) (ptOf x y n))) (ptY (Pt.mul (BitVec.toNat (ofLimbs k (0 : Int) (0 : Int) (0 : Int))) (ptOf x y n))) (ptN (Pt.mul (BitVec.toNat (ofLimbs k (0 : Int) (0 : Int) (0 : Int))) (ptOf x y n))))
      (.ite (((ptX (Pt.mul (BitVec.toNat (ofLimbs (IntKind.wrap .u64 (i + k)) (1 : Int) (0 : Int) (0 : Int))) (ptOf x y n))) == (ptX (Pt.add (ptOf (ptX (Pt.mul (BitVec.toNat (ofLimbs i (0 : Int) (0 : Int) (0 : Int))) (ptOf x y n))) (ptY (Pt.mul (BitVec.toNat (ofLimbs i (0 : Int) (0 : Int) (0 : Int))) (ptOf x y n))) (ptN (Pt.mul (BitVec.toNat (ofLimbs i (0 : Int) (0 : Int) (0 : Int))) (ptOf x y n)))) (ptOf (ptX (Pt.mul (BitVec.toNat (ofLimbs k (0 : Int) (0 : Int) (0 : Int))) (ptOf x y n))) (ptY (Pt.mul (BitVec.toNat (ofLimbs k (0 : Int) (0 : Int) (0 : Int))) (ptOf x y n))) (ptN (Pt.mul (BitVec.toNat (ofLimbs k (0 : Int) (0 : Int) (0 : Int))) (ptOf x y n))))))) && (((ptY (Pt.mul (BitVec.toNat (ofLimbs (IntKind.wrap .u64 (i + k)) (1 : Int) (0 : Int) (0 : Int))) (ptOf x y n))) == (ptY (Pt.add (ptOf (ptX (Pt.mul (BitVec.toNat (ofLimbs i (0 : Int) (0 : Int) (0 : Int))) (ptOf x y n))) (ptY (Pt.mul (BitVec.toNat (ofLimbs i (0 : Int) (0 : Int) (0 : Int))) (ptOf x y n))) (ptN (Pt.mul (BitVec.toNat (ofLimbs i (0 : Int) (0 : Int) (0 : Int))) (ptOf x y n)))) (ptOf (ptX (Pt.mul (BitVec.toNat (ofLimbs k (0 : Int) (0 : Int) (0 : Int))) (ptOf x y n))) (ptY (Pt.mul (BitVec.toNat (ofLimbs k (0 : Int) (0 : Int) (0 : Int))) (ptOf x y n))) (ptN (Pt.mul (BitVec.toNat (ofLimbs k (0 : Int) (0 : Int) (0 : Int))) (ptOf x y n))))))) && (((ptN (Pt.mul (BitVec.toNat (ofLimbs (IntKind.wrap .u64 (i + k)) (1 : Int) (0 : Int) (0 : Int))) (ptOf x y n))) == (ptN (Pt.add (ptOf (ptX (Pt.mul (BitVec.toNat (ofLimbs i (0 : Int) (0 : Int) (0 : Int))) (ptOf x y n))) (ptY (Pt.mul (BitVec.toNat (ofLimbs i (0 : Int) (0 : Int) (0 : Int))) (ptOf x y n))) (ptN (Pt.mul (BitVec.toNat (ofLimbs i (0 : Int) (0 : Int) (0 : Int))) (ptOf x y n)))) (ptOf (ptX (Pt.mul (BitVec.toNat (ofLimbs k (0 : Int) (0 : Int) (0 : Int))) (ptOf x y n))) (ptY (Pt.mul (BitVec.toNat (ofLimbs k (0 : Int) (0 : Int) (0 : Int))) (ptOf x y n))) (ptN (Pt.mul (BitVec.toNat (ofLimbs k (0 : Int) (0 : Int) (0 : Int))) (ptOf x y n))))))) && true)))
       (.need ((((inR i) && true) && true) && true)
       (.need ((((inR k) && true) && true) && true)
       (.need (okP x y n)
       (.need (okP x y n)
       (.need ((((inR (IntKind.wrap .u64 (i + k))) && true) && true) && true)
       (.need (okP x y n)
       (.ite (((ptX (two (BitVec.toNat (ofLimbs i (0 : Int) (0 : Int) (0 : Int))) (ptOf x y n) (BitVec.toNat (ofLimbs k (0 : Int) (0 : Int) (0 : Int))) (ptOf x y n))) == (ptX (Pt.mul (BitVec.toNat (ofLimbs (IntKind.wrap .u64 (i + k)) (1 : Int) (0 : Int) (0 : Int))) (ptOf x y n)))) && (((ptY (two (BitVec.toNat (ofLimbs i (0 : Int) (0 : Int) (0 : Int))) (ptOf x y n) (BitVec.toNat (ofLimbs k (0 : Int) (0 : Int) (0 : Int))) (ptOf x y n))) == (ptY (Pt.mul (BitVec.toNat (ofLimbs (IntKind.wrap .u64 (i + k)) (1 : Int) (0 : Int) (0 : Int))) (ptOf x y n)))) && (((ptN (two (BitVec.toNat (ofLimbs i (0 : Int) (0 : Int) (0 : Int))) (ptOf x y n) (BitVec.toNat (ofLimbs k (0 : Int) (0 : Int) (0 : Int))) (ptOf x y n))) == (ptN (Pt.mul (BitVec.toNat (ofLimbs (IntKind.wrap .u64 (i + k)) (1 : Int) (0 : Int) (0 : Int))) (ptOf x y n)))) && true)))
        (.need (okP x y n)
        (.ite (ptN (Pt.mul 115792089237316195423570985008687907852837564279074904382605163141518161494337 (ptOf x y n)))
         (.need true
         (.need (okP x y n)
         (.ite (((ptX (Pt.mul 1 (ptOf x y n))) == x) && (((ptY (Pt.mul 1 (ptOf x y n))) == y) && (((ptN (Pt.mul 1 (ptOf x y n))) == n) && true)))
          (.leaf (.bool true))
          (.leaf (.bool false)))))
         (.leaf (.bool false))))
        (.leaf (.bool false)))))))))
       (.leaf (.bool false)))))))))))
      (.need ((((inR (IntKind.wrap .u64 (i + k))) && true) && true) && true)
      (.need (okP x y n)
      (.need ((((inR i) && true) && true) && true)
      (.need (okP x y n)
      (.need ((((inR k) && true) && true) && true)
      (.need (okP x y n)
      (.need (okP (ptX (Pt.mul (BitVec.toNat (ofLimbs i (0 : Int) (0 : Int) (0 : Int))) (ptOf x y n))) (ptY (Pt.mul (BitVec.toNat (ofLimbs i (0 : Int) (0 : Int) (0 : Int))) (ptOf x y n))) (ptN (Pt.mul (BitVec.toNat (ofLimbs i (0 : Int) (0 : Int) (0 : Int))) (ptOf x y n))))
      (.need (okP (ptX (Pt.mul (BitVec.toNat (ofLimbs k (0 : Int) (0 : Int) (0 : Int))) (ptOf x y n))) (ptY (Pt.mul (BitVec.toNat (ofLimbs k (0 : Int) (0 : Int) (0 : Int))) (ptOf x y n))) (ptN (Pt.mul (BitVec.toNat (ofLimbs k (0 : Int) (0 : Int) (0 : Int))) (ptOf x y n))))
      (.ite (((ptX (Pt.mul (BitVec.toNat (ofLimbs (IntKind.wrap .u64 (i + k)) (0 : Int) (0 : Int) (0 : Int))) (ptOf x y n))) == (ptX (Pt.add (ptOf (ptX (Pt.mul (BitVec.toNat (ofLimbs i (0 : Int) (0 : Int) (0 : Int))) (ptOf x y n))) (ptY (Pt.mul (BitVec.toNat (ofLimbs i (0 : Int) (0 : Int) (0 : Int))) (ptOf x y n))) (ptN (Pt.mul (BitVec.toNat (ofLimbs i (0 : Int) (0 : Int) (0 : Int))) (ptOf x y n)))) (ptOf (ptX (Pt.mul (BitVec.toNat (ofLimbs k (0 : Int) (0 : Int) (0 : Int))) (ptOf x y n))) (ptY (Pt.mul (BitVec.toNat (ofLimbs k (0 : Int) (0 : Int) (0 : Int))) (ptOf x y n))) (ptN (Pt.mul (BitVec.toNat (ofLimbs k (0 : Int) (0 : Int) (0 : Int))) (ptOf x y n))))))) && (((ptY (Pt.mul (BitVec.toNat (ofLimbs (IntKind.wrap .u64 (i + k)) (0 : Int) (0 : Int) (0 : Int))) (ptOf x y n))) == (ptY (Pt.add (ptOf (ptX (Pt.mul (BitVec.toNat (ofLimbs i (0 : Int) (0 : Int) (0 : Int))) (ptOf x y n))) (ptY (Pt.mul (BitVec.toNat (ofLimbs i (0 : Int) (0 : Int) (0 : Int))) (ptOf x y n))) (ptN (Pt.mul (BitVec.toNat (ofLimbs i (0 : Int) (0 : Int) (0 : Int))) (ptOf x y n)))) (ptOf (ptX (Pt.mul (BitVec.toNat (ofLimbs k (0 : Int) (0 : Int) (0 : Int))) (ptOf x y n))) (ptY (Pt.mul (BitVec.toNat (ofLimbs k (0 : Int) (0 : Int) (0 : Int))) (ptOf x y n))) (ptN (Pt.mul (BitVec.toNat (ofLimbs k (0 : Int) (0 : Int) (0 : Int))) (ptOf x y n))))))) && (((ptN (Pt.mul (BitVec.toNat (ofLimbs (IntKind.wrap .u64 (i + k)) (0 : Int) (0 : Int) (0 : Int))) (ptOf x y n))) == (ptN (Pt.add (ptOf (ptX (Pt.mul (BitVec.toNat (ofLimbs i (0 : Int) (0 : Int) (0 : Int))) (ptOf x y n))) (ptY (Pt.mul (BitVec.toNat (ofLimbs i (0 : Int) (0 : Int) (0 : Int))) (ptOf x y n))) (ptN (Pt.mul (BitVec.toNat (ofLimbs i (0 : Int) (0 : Int) (0 : Int))) (ptOf x y n)))) (ptOf (ptX (Pt.mul (BitVec.toNat (ofLimbs k (0 : Int) (0 : Int) (0 : Int))) (ptOf x y n))) (ptY (Pt.mul (BitVec.toNat (ofLimbs k (0 : Int) (0 : Int) (0 : Int))) (ptOf x y n))) (ptN (Pt.mul (BitVec.toNat (ofLimbs k (0 : Int) (0 : Int) (0 : Int))) (ptOf x y n))))))) && true)))
       (.need ((((inR i) && true) && true) && true)
       (.need ((((inR k) && true) && true) && true)
       (.need (okP x y n)
       (.need (okP x y n)
       (.need ((((inR (IntKind.wrap .u64 (i + k))) && true) && true) && true)
       (.need (okP x y n)
       (.ite (((ptX (two (BitVec.toNat (ofLimbs i (0 : Int) (0 : Int) (0 : Int))) (ptOf x y n) (BitVec.toNat (ofLimbs k (0 : Int) (0 : Int) (0 : Int))) (ptOf x y n))) == (ptX (Pt.mul (BitVec.toNat (ofLimbs (IntKind.wrap .u64 (i + k)) (0 : Int) (0 : Int) (0 : Int))) (ptOf x y n)))) && (((ptY (two (BitVec.toNat (ofLimbs i (0 : Int) (0 : Int) (0 : Int))) (ptOf x y n) (BitVec.toNat (ofLimbs k (0 : Int) (0 : Int) (0 : Int))) (ptOf x y n))) == (ptY (Pt.mul (BitVec.toNat (ofLimbs (IntKind.wrap .u64 (i + k)) (0 : Int) (0 : Int) (0 : Int))) (ptOf x y n)))) && (((ptN (two (BitVec.toNat (ofLimbs i (0 : Int) (0 : Int) (0 : Int))) (ptOf x y n) (BitVec.toNat (ofLimbs k (0 : Int) (0 : Int) (0 : Int))) (ptOf x y n))) == (ptN (Pt.mul (BitVec.toNat (ofLimbs (IntKind.wrap .u64 (i + k)) (0 : Int) (0 : Int) (0 : Int))) (ptOf x y n)))) && true)))
        (.need (okP x y n)
        (.ite (ptN (Pt.mul 115792089237316195423570985008687907852837564279074904382605163141518161494337 (ptOf x y n)))
         (.need true
         (.need (okP x y n)
         (.ite (((ptX (Pt.mul 1 (ptOf x y n))) == x) && (((ptY (Pt.mul 1 (ptOf x y n))) == y) && (((ptN (Pt.mul 1 (ptOf x y n))) == n) && true)))
          (.leaf (.bool true))
          (.leaf (.bool false)))))
         (.leaf (.bool false))))
        (.leaf (.bool false)))))))))
       (.leaf (.bool false))))))))))))) := by kernel_rfl
theorem one_limb {n : Nat} (h : n < 18446744073709551616) : (ofLimbs (n : Int) (0 : Int) (0 : Int) (0 : Int)).toNat = n := by
  have := ofLimbs_nat0 (a := n) (b := 0) h (by decide)
  rw [show nat4 n 0 0 0 = n by unfold nat4; omega] at this
  exact this
theorem two_limbs {n : Nat} (h : n < 18446744073709551616) : (ofLimbs (n : Int) (1 : Int) (0 : Int) (0 : Int)).toNat = n + 18446744073709551616 := by
  have := ofLimbs_nat0 (a := n) (b := 1) h (by decide)
  rw [show nat4 n 1 0 0 = n + 18446744073709551616 by unfold nat4; omega] at this
  exact this
theorem csu_wrap (i k : Nat) : IntKind.wrap .u64 ((i : Int) + (k : Int)) = (((i + k) % 18446744073709551616 : Nat) : Int) := by
  simp [IntKind.wrap, IntKind.signed, IntKind.bits]
theorem two_same {P : Pt pP} (hP : P.on) (a b : Nat) : two a P b P = Pt.mul (a + b) P := (Pt.mul_add cuP hP a b).symm
theorem csu_test (i k : Nat) : decide ((((i + k) % 18446744073709551616 : Nat) : Int) < (i : Int)) = decide ((i + k) % 18446744073709551616 < i) := by
  by_cases h : (i + k) % 18446744073709551616 < i
  · rw [decide_eq_true h, decide_eq_true (by omega)]
  · rw [decide_eq_false h, decide_eq_false (by omega)]
theorem csu_yes {P : Pt pP} (hP : P.on) {i k : Nat} (hi : i < 18446744073709551616) (hk : k < 18446744073709551616) : Pure Try.prog 5 [.int .u64 (i : Int), .int .u64 (k : Int), .agg [.u (ptX P), .u (ptY P), .bool (ptN P)]] (.bool true) := by
  refine Pure.by_tree mixed _ 100 _ _ (csu_tree i k (ptX P) (ptY P) (ptN P)) (T.yes_ok ?_)
  have hn : Pt.mul 115792089237316195423570985008687907852837564279074904382605163141518161494337 P = .O := nP_O hP
  have hmi := Pt.mul_on cuP hP i
  have hmk := Pt.mul_on cuP hP k
  rw [csu_wrap, csu_test]
  obtain ⟨w, hw⟩ : ∃ w, (i + k) % 18446744073709551616 = w := ⟨_, rfl⟩
  have hwl : w < 18446744073709551616 := by rw [← hw]; exact Nat.mod_lt _ (by decide)
  rw [hw]
  simp only [ptOf_pt, one_limb hi, one_limb hk, one_limb hwl, two_limbs hwl, okP_pt hP, okP_pt hmi, okP_pt hmk, inR_limb hi, inR_limb hk, inR_limb hwl, hn, two_same hP, Pt.mul_one, ← Pt.mul_add cuP hP]
  refine ⟨fun h => absurd h (by decide), fun _ => ⟨fun hc => ?_, fun hc => ?_⟩⟩
  · have hc := of_decide_eq_true hc
    have e : w + 18446744073709551616 = i + k := by omega
    rw [e]
    simp [T.yes, ptN_O]
  · have hc := of_decide_eq_false hc
    have e : w = i + k := by omega
    rw [e]
    simp [T.yes, ptN_O]
theorem curveSums_pure (avs : List AV) (h : Fits [argN, argN, argP] avs) : Pure Try.prog 5 avs (.bool true) := by
  obtain ⟨_, _, ⟨i, rfl, hi⟩, ⟨_, _, ⟨k, rfl, hk⟩, ⟨_, _, h1, rfl, rfl⟩, rfl⟩, rfl⟩ := h
  obtain ⟨x, y, n, rfl⟩ := argP_out h1
  cases e1 : okP x y n with
  | false =>
    refine Pure.by_tree mixed _ 100 _ _ (csu_tree i k x y n) (T.yes_ok ?_)
    rw [e1]; exact ⟨fun _ => rfl, fun h => absurd h (by decide)⟩
  | true =>
    obtain ⟨P, hP, rfl, rfl, rfl⟩ := okP_out e1
    exact csu_yes hP hi hk

theorem curveSums_walk : Walk Try.prog 5 Try.f5.params.toList := by
  rw [Try.params5]
  exact Walk.of fi_trucelaw06_CurveSums rfl [argN, argN, argP] curveSums_pure

set_option maxRecDepth 100000 in
theorem curveSums_lifted (os : Os) (started : os.Started) (H : Type) (enc : TypeId × Value → H) :
    ReturnsInHanded {} Try.checked os 5 .any (Rows.curveSumsSpec.pre6 enc Try.prog Try.f5 Rows.curveSumsRow.domain false) (Rows.curveSumsSpec.post enc Try.prog Try.f5 false true false false) :=
  lifted_of (s := Rows.curveSumsSpec) 5 Try.f5 4 Try.underlying4 (by kernel_rfl) rfl Try.func5 (by kernel_rfl)
      (fun _ ds hl => by
        rw [Try.params5] at hl
        match ds, hl with
        | [_, _, _], _ => rfl) (by kernel_rfl) curveSums_walk os started H enc
      (ChangeSpec.witness6 (enc := enc) (C := Try.checked) false ⟨#[], #[.int .u64 0, .int .u64 0, zeroPt], []⟩ 8 (by kernel_rfl) (by kernel_rfl) (by kernel_rfl) (by kernel_rfl))

theorem curveSums_holds : Rows.CurveSumsSaid :=
  OpenClaim.holds_of_wide 5 Try.f5 rfl rfl rfl rfl rfl rfl rfl ⟨rfl, rfl, rfl, rfl, rfl⟩ rfl rfl rfl rfl rfl (by kernel_rfl) Try.func5 curveSums_closed
    (of_decide_eq_true (by kernel_rfl)) (by unfold Func.isWrapper; first | (rw [if_pos (by decide +kernel)]; kernel_rfl) | (rw [if_neg (by decide +kernel)]; exact ⟨rfl, rfl⟩))
    (fun os started H enc _ => curveSums_lifted os started H enc)
#print axioms curveSums_holds

end Go.Proofs.Ytabiimelnalapaa
