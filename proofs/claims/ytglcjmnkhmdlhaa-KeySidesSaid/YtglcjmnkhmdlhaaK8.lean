/- Texts of this claim, one behind the other. -/
import Derived.Test.YtglcjmnkhmdlhaaK7

/- Contracts: are numbers below the modulus (curve.fits). -/
namespace Go.Proofs.Ytglcjmnkhmdlhaa
open Go Go.RowKit
theorem pU_nat : pU.toNat = pP := by kernel_rfl
theorem ucmp_p (x : BitVec 256) : decide (ucmp x pU ≥ (0 : Int)) = !ltP x := by
  have h := uless_iff x pU
  rw [pU_nat] at h
  unfold ucmp ltP
  by_cases hx : x.toNat < pP
  · have h1 : x ≠ pU := fun e => by rw [e, pU_nat] at hx; exact absurd hx (Nat.lt_irrefl _)
    rw [if_neg h1, if_pos (h.mpr hx), decide_eq_true hx]; rfl
  · rw [decide_eq_false hx]
    split
    · rfl
    · rw [if_neg (fun h' => hx (h.mp h'))]; rfl
noncomputable def fitsF (T : Nat) (x y : BitVec 256) : Fin 3 → KS
  | 0 => fits_st T x y 0
  | 1 => fits_st T x y 1
  | 2 => fits_st T x y 2
def fitsI (x y : BitVec 256) : Fin 3 → Prop
  | 0 => True
  | 1 => ltP x = true
  | 2 => ltP x = true ∧ ltP y = true
def fitsR (T : Nat) (x y : BitVec 256) (e : Ex) (s : St) : Prop :=
  (ltP x = false → e = .ret ∧ s = (fits_st T x y 0).s) ∧ (ltP x = true → ltP y = false → e = .ret ∧ s = (fits_st T x y 1).s) ∧ (ltP x = true → ltP y = true → e = .exit 0 ∧ s = (fits_st T x y 2).s)
noncomputable def fit1F (T : Nat) (x : BitVec 256) : Fin 2 → KS
  | 0 => fit1_st T x 0
  | 1 => fit1_st T x 1
def fit1I (x : BitVec 256) : Fin 2 → Prop
  | 0 => True
  | 1 => ltP x = true
def fit1R (T : Nat) (x : BitVec 256) (e : Ex) (s : St) : Prop :=
  (ltP x = false → e = .ret ∧ s = (fit1_st T x 0).s) ∧ (ltP x = true → e = .exit 0 ∧ s = (fit1_st T x 1).s)
noncomputable def fitsXA (T : Nat) (x y : BitVec 256) (h : ltP x = false) : EnvT Try.prog := { fX7 with lcs := [] }
noncomputable def fitsXB (T : Nat) (x y : BitVec 256) (h : ltP x = true) (h2 : ltP y = false) : EnvT Try.prog := { fX7 with lcs := [] }
noncomputable def fitsXC (T : Nat) (x y : BitVec 256) (h : ltP x = true) (h2 : ltP y = true) : EnvT Try.prog := { fX7 with lcs := [] }
noncomputable def fit1XA (T : Nat) (x : BitVec 256) (h : ltP x = false) : EnvT Try.prog := { fX7 with lcs := [] }
noncomputable def fit1XB (T : Nat) (x : BitVec 256) (h : ltP x = true) : EnvT Try.prog := { fX7 with lcs := [] }
end Go.Proofs.Ytglcjmnkhmdlhaa

/- Contracts: are numbers below the modulus (curve.fits); is a point on the curve. -/
namespace Go.Proofs.Ytglcjmnkhmdlhaa
open Go Go.RowKit
noncomputable def fX8 : EnvT Try.prog := { cs := [c_times, c_plus, c_minusF, c_num_Of, c_tadd, c_tdbl, c_spread, c_num_Bits, c_root, c_num_Cmp, c_flat, c_num_Add, c_num_Shr], fis := [] }
end Go.Proofs.Ytglcjmnkhmdlhaa

/- Contracts: is a point on the curve; the point of an X. -/
namespace Go.Proofs.Ytglcjmnkhmdlhaa
open Go Go.RowKit
theorem uF_beq (x y : FP) : (uF x == uF y) = (x == y) := by
  rw [Bool.eq_iff_iff, beq_iff_eq, beq_iff_eq]
  exact ⟨uF_inj, fun h => by rw [h]⟩
theorem bv00 : ofLimbs 0 0 0 0 = (0 : BitVec 256) := by kernel_rfl
/-- The right side at an X; its root; whether there is one; whether a number is odd. -/
def sideF (x : BitVec 256) : FP := fU x * (fU x * fU x) + 7
def liftY (x : BitVec 256) : FP := pwF (sideF x) 28948022309329048855892746252171976963317496166410141009864396001977208667916
def liftK (x : BitVec 256) : Bool := ltP x && (liftY x * liftY x == sideF x)
def oddU (y : BitVec 256) : Bool := iand .u64 (limb y 0) 1 == 1
def liftS (x : BitVec 256) (o : Bool) : BitVec 256 := if (oddU (uF (liftY x)) == o) = true then uF (liftY x) else uF (- liftY x)
def liftU (k : Bool) (x : BitVec 256) : BitVec 256 := if k = true then x else 0
def liftV (x : BitVec 256) (o : Bool) : AV := .tup [.agg [.u (liftU (liftK x) x), .u (liftU (liftK x) (liftS x o)), .bool false], .bool (liftK x)]
def liftT (x : BitVec 256) (o : Bool) (s Y : FP) : T AV :=
    (.ite (!(ltP x))
     (.leaf (.tup [(.agg [(.ints .u64 4 [(0 : Int), (0 : Int), (0 : Int), (0 : Int)]), (.ints .u64 4 [(0 : Int), (0 : Int), (0 : Int), (0 : Int)]), (.bool false)]), (.bool false)]))
     (.need true
     (.need true
     (.ite (!((uF ((fU (uF Y)) * (fU (uF Y)))) == (uF s)))
      (.leaf (.tup [(.agg [(.ints .u64 4 [(0 : Int), (0 : Int), (0 : Int), (0 : Int)]), (.ints .u64 4 [(0 : Int), (0 : Int), (0 : Int), (0 : Int)]), (.bool false)]), (.bool false)]))
      (.ite (!(((iand .u64 (limb (uF Y) 0) (1 : Int)) == (1 : Int)) == o))
       (.need true
       (.need (ltP (ofLimbs (0 : Int) (0 : Int) (0 : Int) (0 : Int)))
       (.need (ltP (uF Y))
       (.leaf (.tup [(.agg [(.u x), (.u (uF ((fU (ofLimbs (0 : Int) (0 : Int) (0 : Int) (0 : Int))) - (fU (uF Y))))), (.bool false)]), (.bool true)])))))
       (.leaf (.tup [(.agg [(.u x), (.u (uF Y)), (.bool false)]), (.bool true)])))))))
def liftG (x : BitVec 256) (o : Bool) (k : Bool) (Y : FP) : AV := .tup [.agg [.u (liftU k x), .u (liftU k (if (oddU (uF Y) == o) = true then uF Y else uF (- Y))), .bool false], .bool k]
theorem lift_none : SameR (.tup [(.agg [(.ints .u64 4 [(0 : Int), (0 : Int), (0 : Int), (0 : Int)]), (.ints .u64 4 [(0 : Int), (0 : Int), (0 : Int), (0 : Int)]), (.bool false)]), (.bool false)]) (.tup [.agg [.u 0, .u 0, .bool false], .bool false]) :=
  SameR.tup2 (SameV.agg (.cons (.u4 zero4) (.cons (.u4 zero4) (.cons (.bool rfl) .nil)))) (SameV.bool rfl)
theorem lift_some {x y x' y' : BitVec 256} (h1 : x = x') (h2 : y = y') : SameR (.tup [(.agg [(.u x), (.u y), (.bool false)]), (.bool true)]) (.tup [.agg [.u x', .u y', .bool false], .bool true]) :=
  SameR.tup2 (SameV.agg (.cons (.u h1) (.cons (.u h2) (.cons (.bool rfl) .nil)))) (SameV.bool rfl)
theorem liftG_no (x : BitVec 256) (o : Bool) (Y : FP) : liftG x o false Y = .tup [.agg [.u 0, .u 0, .bool false], .bool false] := rfl
theorem liftG_yes (x : BitVec 256) (o : Bool) (Y : FP) : liftG x o true Y = .tup [.agg [.u x, .u (if (oddU (uF Y) == o) = true then uF Y else uF (- Y)), .bool false], .bool true] := rfl
theorem lift_holds (x : BitVec 256) (o : Bool) (s Y : FP) : (liftT x o s Y).holds fun v => SameR v (liftG x o (ltP x && (Y * Y == s)) Y) := by
  unfold liftT
  simp only [T.holds, fU_uF, uF_beq, fU_00, ltP_00, ltP_uF]
  have hz : (0 : FP) - Y = - Y := by grind
  refine ⟨fun h => ?_, fun h => ⟨trivial, trivial, fun h2 => ?_, fun h2 => ⟨fun h3 => ⟨trivial, trivial, trivial, ?_⟩, fun h3 => ?_⟩⟩⟩
  · have h1 : ltP x = false := by simpa using h
    rw [h1, Bool.false_and, liftG_no]
    exact lift_none
  · have h2 : (Y * Y == s) = false := by simpa using h2
    rw [h2, Bool.and_false, liftG_no]
    exact lift_none
  · have h1 : ltP x = true := by simpa using h
    have h2 : (Y * Y == s) = true := by simpa using h2
    rw [h1, h2, Bool.and_true, liftG_yes]
    refine lift_some rfl ?_
    unfold oddU
    rw [if_neg (by intro h4; rw [h4] at h3; exact absurd h3 (by decide)), hz]
  · have h1 : ltP x = true := by simpa using h
    have h2 : (Y * Y == s) = true := by simpa using h2
    rw [h1, h2, Bool.and_true, liftG_yes]
    refine lift_some rfl ?_
    unfold oddU
    have h3 : ((iand .u64 (limb (uF Y) 0) 1 == 1) == o) = true := by simpa using h3
    rw [if_pos h3]
theorem liftY_eq (x : BitVec 256) : pwF (fU (uF (sideF x))) 28948022309329048855892746252171976963317496166410141009864396001977208667916 = liftY x := by rw [fU_uF]; unfold liftY; exact Eq.refl _
theorem liftV_G (x : BitVec 256) (o : Bool) : liftV x o = liftG x o (ltP x && (liftY x * liftY x == sideF x)) (liftY x) := rfl
end Go.Proofs.Ytglcjmnkhmdlhaa

/- Contracts: the document's numbers by the curve's prime. -/
namespace Go.Proofs.Ytglcjmnkhmdlhaa
open Go Go.RowKit
noncomputable def fX9 : EnvT Try.prog := { fis := [fi_truceref06_Prime] }
theorem rprime_tree  : (callT (fX9) (execT (fX9) 100) 33 [] [] [] 0 []).map CR.v =
    (.leaf (.ints .u64 4 [(18446744069414583343 : Int), (18446744073709551615 : Int), (18446744073709551615 : Int), (18446744073709551615 : Int)])) := by kernel_rfl
theorem rprime_ok : Pure Try.prog 33 [] (.u pU) := by
  refine Pure.by_tree mixed fX9 100 _ _ rprime_tree ?_
  exact (SameV.u4 (by kernel_rfl)).r
noncomputable def c_rprime : Ctr Try.prog := Ctr.of 33 (fun | [] => some ([], .u pU) | _ => none) (by
  intro args ob v h hob
  split at h <;> simp only [Option.some.injEq, Prod.mk.injEq, reduceCtorEq] at h
  obtain ⟨rfl, rfl⟩ := h
  exact rprime_ok)
noncomputable def fXA : EnvT Try.prog := { cs := [cAdd64, c_mul64, c_ref_Wide, c_ref_Add, c_ref_Sub, c_ref_Cmp, c_rprime], fis := [fi_truceref06_plus, fi_truceref06_minus, fi_truceref06_times] }
end Go.Proofs.Ytglcjmnkhmdlhaa

/- Contracts: the document's sums and differences by the curve's prime. -/
namespace Go.Proofs.Ytglcjmnkhmdlhaa
open Go Go.RowKit
theorem rplus_tree (a b : BitVec 256) : (callT (fXA) (execT (fXA) 100) 56 [.u a, .u b] [] [] 0 []).map CR.v =
    (.ite (uover a b)
     (.leaf (.u ((a + b) - pU)))
     (.ite (!(uless (a + b) pU))
      (.leaf (.u ((a + b) - pU)))
      (.leaf (.u (a + b))))) := by kernel_rfl
theorem rminus_tree (a b : BitVec 256) : (callT (fXA) (execT (fXA) 100) 36 [.u a, .u b] [] [] 0 []).map CR.v =
    (.ite (uless a b)
     (.leaf (.u ((a - b) + pU)))
     (.leaf (.u (a - b)))) := by kernel_rfl
theorem rplus_nat1 {a b : Nat} (ha : a < pP) (hb : b < pP) (h : 2 ^ 256 ≤ a + b) : (2 ^ 256 - pP + (a + b) % 2 ^ 256) % 2 ^ 256 = (a + b) % pP := by unfold pP at *; omega
theorem rplus_nat2 {a b : Nat} (ha : a < pP) (hb : b < pP) (h : ¬ 2 ^ 256 ≤ a + b) (h2 : ¬ (a + b) % 2 ^ 256 < pP) : (2 ^ 256 - pP + (a + b) % 2 ^ 256) % 2 ^ 256 = (a + b) % pP := by unfold pP at *; omega
theorem rplus_nat3 {a b : Nat} (h : ¬ 2 ^ 256 ≤ a + b) (h2 : (a + b) % 2 ^ 256 < pP) : (a + b) % 2 ^ 256 = (a + b) % pP := by unfold pP at *; omega
theorem rminus_nat1 {a b : Nat} (ha : a < pP) (hb : b < pP) (h : a < b) : ((2 ^ 256 - b + a) % 2 ^ 256 + pP) % 2 ^ 256 = (pP - b + a) % pP := by unfold pP at *; omega
theorem bool_iff_false {c : Bool} {p : Prop} (h : c = true ↔ p) (hc : c = false) : ¬ p := fun hp => by rw [h.mpr hp] at hc; exact absurd hc (by decide)
theorem rplus_ok (a b : BitVec 256) (ha : ltP a = true) (hb : ltP b = true) : Pure Try.prog 56 [.u a, .u b] (.u (uF (fU a + fU b))) := by
  simp only [ltP, decide_eq_true_eq] at ha hb
  have hs : (a + b).toNat = (a.toNat + b.toNat) % 2 ^ 256 := BitVec.toNat_add a b
  have ht : (a + b - pU).toNat = (2 ^ 256 - pP + (a.toNat + b.toNat) % 2 ^ 256) % 2 ^ 256 := by rw [BitVec.toNat_sub, hs, pU_nat]
  have hu := uover_iff a b
  have hv := uless_iff (a + b) pU
  rw [hs, pU_nat] at hv
  have hr : (uF (fU a + fU b)).toNat = (a.toNat + b.toNat) % pP := by rw [uF_nat, Fin.val_add, fU_val, fU_val, Nat.mod_eq_of_lt ha, Nat.mod_eq_of_lt hb]
  refine Pure.by_tree mixed fXA 100 _ _ (rplus_tree a b) ⟨fun h => ?_, fun h => ⟨fun h2 => ?_, fun h2 => ?_⟩⟩
  · refine (SameV.u (BitVec.eq_of_toNat_eq ?_)).r
    rw [ht, hr]; exact rplus_nat1 ha hb (hu.mp h)
  · refine (SameV.u (BitVec.eq_of_toNat_eq ?_)).r
    have h2 : uless (a + b) pU = false := by simpa using h2
    rw [ht, hr]; exact rplus_nat2 ha hb (bool_iff_false hu h) (bool_iff_false hv h2)
  · refine (SameV.u (BitVec.eq_of_toNat_eq ?_)).r
    have h2 : uless (a + b) pU = true := by simpa using h2
    rw [hs, hr]; exact rplus_nat3 (bool_iff_false hu h) (hv.mp h2)
theorem rminusF_ok (a b : BitVec 256) (ha : ltP a = true) (hb : ltP b = true) : Pure Try.prog 36 [.u a, .u b] (.u (uF (fU a - fU b))) := by
  simp only [ltP, decide_eq_true_eq] at ha hb
  have hs : (a - b).toNat = (2 ^ 256 - b.toNat + a.toNat) % 2 ^ 256 := BitVec.toNat_sub a b
  have ht : (a - b + pU).toNat = ((2 ^ 256 - b.toNat + a.toNat) % 2 ^ 256 + pP) % 2 ^ 256 := by rw [BitVec.toNat_add, hs, pU_nat]
  have hu := uless_iff a b
  have hr : (uF (fU a - fU b)).toNat = (pP - b.toNat + a.toNat) % pP := by
    rw [uF_nat, Fin.sub_def]
    simp only [fU_val, Nat.mod_eq_of_lt ha, Nat.mod_eq_of_lt hb]
  refine Pure.by_tree mixed fXA 100 _ _ (rminus_tree a b) ⟨fun h => ?_, fun h => ?_⟩
  · refine (SameV.u (BitVec.eq_of_toNat_eq ?_)).r
    rw [ht, hr]; exact rminus_nat1 ha hb (hu.mp h)
  · refine (SameV.u (BitVec.eq_of_toNat_eq ?_)).r
    rw [hs, hr]; exact minus_nat2 ha hb (bool_iff_false hu h)
noncomputable def cr_plus : Ctr Try.prog := Ctr.of 56 (fun | [.u a, .u b] => some ([ltP a, ltP b], .u (uF (fU a + fU b))) | _ => none) (by
  intro args ob v h hob
  split at h <;> simp only [Option.some.injEq, Prod.mk.injEq, reduceCtorEq] at h
  obtain ⟨rfl, rfl⟩ := h
  rename_i a b
  exact rplus_ok a b (hob (ltP a) (by simp)) (hob (ltP b) (by simp)))
noncomputable def cr_minus : Ctr Try.prog := Ctr.of 36 (fun | [.u a, .u b] => some ([ltP a, ltP b], .u (uF (fU a - fU b))) | _ => none) (by
  intro args ob v h hob
  split at h <;> simp only [Option.some.injEq, Prod.mk.injEq, reduceCtorEq] at h
  obtain ⟨rfl, rfl⟩ := h
  rename_i a b
  exact rminusF_ok a b (hob (ltP a) (by simp)) (hob (ltP b) (by simp)))
end Go.Proofs.Ytglcjmnkhmdlhaa

/- Contracts: the document's products by the curve's prime: the loop. -/
namespace Go.Proofs.Ytglcjmnkhmdlhaa
open Go Go.RowKit
noncomputable def rtimes_st (a : BitVec 256) (b : BitVec 256) (v1 : Int) (v2 : Int) (v3 : List Int) : KS := ⟨⟨pat' [(4, (.ptr 2 [])), (5, (.int .u64 (4294968273 : Int))), (6, (.ptr 10 [])), (7, (.ptr 11 [])), (8, (.int .u64 v1)), (9, (.int .i64 v2))] 0 93, [(some ⟨24, (.u a), true⟩), (some ⟨24, (.u b), true⟩), (some ⟨24, (.ints .u64 4 [(0 : Int), (0 : Int), (0 : Int), (0 : Int)]), true⟩), none, none, none, none, none, none, none, (some ⟨24, (.u (wideHi a b)), true⟩), (some ⟨24, (.ints .u64 4 v3), true⟩)], 12⟩, kpat [4, 5, 6, 7] 0 93, [false, false, true, false, false, false, false, false, false, false, false, false]⟩
theorem rtimes_body (a : BitVec 256) (b : BitVec 256) (v1 : Int) (v2 : Int) (v3 : List Int) : stepT fXA 100 fi_truceref06_times [0, 1, 0, 1, 1, 1, 1] [4, 5, 6, 7, 8, 9] 12 (kpat [4, 5, 6, 7] 0 93) [false, false, true, false, false, false, false, false, false, false, false, false] (rtimes_st a b v1 v2 v3) =
    (.ite (decide (v2 < (4 : Int)))
     (.need ((decide ((0 : Int) ≤ v2)) && (decide (v2 < (4 : Int))))
     (.need (Nat.ble ((Int.toNat v2) + 1) 4)
     (.need (inR (limb (wideHi a b) (Int.toNat v2)))
     (.need true
     (.need ((decide ((0 : Int) ≤ v2)) && (decide (v2 < (4 : Int))))
     (.need (Nat.ble ((Int.toNat v2) + 1) 4)
     (.need true
     (.need true
     (.need ((decide ((0 : Int) ≤ v2)) && (decide (v2 < (4 : Int))))
     (.need (Nat.ble ((Int.toNat v2) + 1) 4)
     (.leaf (.normal, rtimes_st a b (IntKind.wrap .u64 ((IntKind.wrap .u64 ((((mulHi (Int.toNat (limb (wideHi a b) (Int.toNat v2))) 4294968273) : Nat) : Int) + (addC (List.getD v3 (Int.toNat v2) (0 : Int)) (((mulLo (Int.toNat (limb (wideHi a b) (Int.toNat v2))) 4294968273) : Nat) : Int) (0 : Int)))) + (addC (addS (List.getD v3 (Int.toNat v2) (0 : Int)) (((mulLo (Int.toNat (limb (wideHi a b) (Int.toNat v2))) 4294968273) : Nat) : Int) (0 : Int)) v1 (0 : Int)))) (IntKind.wrap .i64 (v2 + (1 : Int))) (List.set v3 (Int.toNat v2) (addS (addS (List.getD v3 (Int.toNat v2) (0 : Int)) (((mulLo (Int.toNat (limb (wideHi a b) (Int.toNat v2))) 4294968273) : Nat) : Int) (0 : Int)) v1 (0 : Int)))))))))))))))
     (.leaf ((.exit 0), rtimes_st a b v1 v2 v3))) := by kernel_rfl
theorem rtimes_rule {σ : Type} (st : σ → KS) (Inv : σ → Prop) (μ : σ → Nat) (R : Ex → St → Prop) (hH : ∀ v, (st v).s.H.length ≤ 12) (hstep : ∀ v, Inv v → ∃ X : EnvT Try.prog, (stepT X 100 fi_truceref06_times [0, 1, 0, 1, 1, 1, 1] [4, 5, 6, 7, 8, 9] 12 (kpat [4, 5, 6, 7] 0 93) [false, false, true, false, false, false, false, false, false, false, false, false] (st v)).holds (Round st Inv μ R v)) (v0 : σ) (h0 : Inv v0) : CodeR Try.prog (.loop (loopAt fi_truceref06_times [0, 1, 0, 1, 1, 1, 1])) (st v0).s R :=
  loop_rule mixed fi_truceref06_times [0, 1, 0, 1, 1, 1, 1] [4, 5, 6, 7, 8, 9] 12 (kpat [4, 5, 6, 7] 0 93) [false, false, true, false, false, false, false, false, false, false, false, false] st 100 Inv μ R (loop_sub' (c := loopAt fi_truceref06_times [0, 1, 0, 1, 1, 1, 1]) (by kernel_rfl)) hH hstep v0 h0
/-- A digit of the upper half, its product and what is carried: one round. -/
def rtS (h l c : Nat) : Nat := l + h * 4294968273 + c
def rtT (h l c : Nat) : Nat := rtS h l c % 18446744073709551616
def rtC (h l c : Nat) : Nat := rtS h l c / 18446744073709551616
theorem rt_step {h l c : Nat} (hh : h < 18446744073709551616) (hl : l < 18446744073709551616) (hc : c < 18446744073709551616) :
    addS (addS (l : Int) ((mulLo h 4294968273 : Nat) : Int) 0) (c : Int) 0 = ((rtT h l c : Nat) : Int) ∧
    IntKind.wrap .u64 (IntKind.wrap .u64 (((mulHi h 4294968273 : Nat) : Int) + addC (l : Int) ((mulLo h 4294968273 : Nat) : Int) 0) + addC (addS (l : Int) ((mulLo h 4294968273 : Nat) : Int) 0) (c : Int) 0) = ((rtC h l c : Nat) : Int) ∧
    rtT h l c < 18446744073709551616 ∧ rtC h l c < 18446744073709551616 := by
  obtain ⟨H, L, hH, hL, hp, bL, bH⟩ := mul_parts hh (show 4294968273 < 18446744073709551616 by decide)
  obtain ⟨s, p, e1, e2, b1, b2, k1⟩ := add_step l L 0 hl bL (Nat.zero_le 1)
  obtain ⟨t, q, f1, f2, c1, c2, k2⟩ := add_step s c 0 b1 hc (Nat.zero_le 1)
  have e1 : addS (l : Int) (L : Int) 0 = s := e1
  have e2 : addC (l : Int) (L : Int) 0 = p := e2
  have f1 : addS (s : Int) (c : Int) 0 = t := f1
  have f2 : addC (s : Int) (c : Int) 0 = q := f2
  have hbH : H ≤ 4294968273 := by omega
  rw [hH, hL, e1, e2, f1, f2, u64_add (m := H) (n := p) (by omega), u64_add (m := H + p) (n := q) (by omega)]
  have hS : rtS h l c = t + 18446744073709551616 * (H + p + q) := by unfold rtS; rw [hp]; omega
  unfold rtT rtC
  rw [hS]
  refine ⟨by omega, by omega, by omega, by omega⟩
/-- What is carried after some rounds. -/
def rtK (h l : Nat → Nat) : Nat → Nat
  | 0 => 0
  | k + 1 => rtC (h k) (l k) (rtK h l k)
def rtL (h l : Nat → Nat) (k i : Nat) : Int := if i < k then ((rtT (h i) (l i) (rtK h l i) : Nat) : Int) else ((l i : Nat) : Int)
def rtW (h l : Nat → Nat) (k : Nat) : List Int := [rtL h l k 0, rtL h l k 1, rtL h l k 2, rtL h l k 3]
theorem rtW_get (h l : Nat → Nat) {k : Nat} (hk : k < 4) : List.getD (rtW h l k) k 0 = ((l k : Nat) : Int) := by
  match k, hk with
  | 0, _ => rfl
  | 1, _ => rfl
  | 2, _ => rfl
  | 3, _ => rfl
theorem rtW_set (h l : Nat → Nat) {k : Nat} (hk : k < 4) : List.set (rtW h l k) k ((rtT (h k) (l k) (rtK h l k) : Nat) : Int) = rtW h l (k + 1) := by
  match k, hk with
  | 0, _ => rfl
  | 1, _ => rfl
  | 2, _ => rfl
  | 3, _ => rfl
theorem rtK_lt {h l : Nat → Nat} (hh : ∀ i, h i < 18446744073709551616) (hl : ∀ i, l i < 18446744073709551616) : ∀ k, rtK h l k < 18446744073709551616
  | 0 => show 0 < 18446744073709551616 by decide
  | k + 1 => (rt_step (hh k) (hl k) (rtK_lt hh hl k)).2.2.2
theorem rt_sum {h0 h1 h2 h3 l0 l1 l2 l3 c1 c2 c3 c4 t0 t1 t2 t3 : Nat} (e0 : l0 + h0 * 4294968273 + 0 = t0 + 18446744073709551616 * c1) (e1 : l1 + h1 * 4294968273 + c1 = t1 + 18446744073709551616 * c2)
    (e2 : l2 + h2 * 4294968273 + c2 = t2 + 18446744073709551616 * c3) (e3 : l3 + h3 * 4294968273 + c3 = t3 + 18446744073709551616 * c4) :
    nat4 l0 l1 l2 l3 + nat4 h0 h1 h2 h3 * 4294968273 = nat4 t0 t1 t2 t3 + 2 ^ 256 * c4 := by
  unfold nat4; omega
theorem rt_split (h l c : Nat) : l + h * 4294968273 + c = rtT h l c + 18446744073709551616 * rtC h l c := by
  unfold rtT rtC rtS; omega
theorem limb_dgN (x : BitVec 256) (k : Nat) : limb x k = ((dg x.toNat k : Nat) : Int) := by
  unfold limb dg
  rw [show (18446744073709551616 : Nat) = 2 ^ 64 from rfl, ← Nat.pow_mul]
theorem rtimesSub : subC fi_truceref06_times.body [0, 1, 0, 1, 1, 1, 1] = some (.loop (loopAt fi_truceref06_times [0, 1, 0, 1, 1, 1, 1])) := loop_sub' (c := loopAt fi_truceref06_times [0, 1, 0, 1, 1, 1, 1]) (by kernel_rfl)
def rtHd (a b : BitVec 256) (i : Nat) : Nat := dg (wideHi a b).toNat i
def rtLd (a b : BitVec 256) (i : Nat) : Nat := dg (a * b).toNat i
theorem rtimes_loop (a b : BitVec 256) : CodeR Try.prog (.loop (loopAt fi_truceref06_times [0, 1, 0, 1, 1, 1, 1])) (rtimes_st a b 0 0 [limb (a * b) 0, limb (a * b) 1, limb (a * b) 2, limb (a * b) 3]).s
    (fun e s' => e = .exit 0 ∧ s' = (rtimes_st a b ((rtK (rtHd a b) (rtLd a b) 4 : Nat) : Int) 4 (rtW (rtHd a b) (rtLd a b) 4)).s) := by
  have hh : ∀ i, rtHd a b i < 18446744073709551616 := fun i => dg_lt _ _
  have hl : ∀ i, rtLd a b i < 18446744073709551616 := fun i => dg_lt _ _
  have hW : [limb (a * b) 0, limb (a * b) 1, limb (a * b) 2, limb (a * b) 3] = rtW (rtHd a b) (rtLd a b) 0 := by
    simp only [limb_dgN]; rfl
  have hH : ∀ i, limb (wideHi a b) i = ((rtHd a b i : Nat) : Int) := fun i => limb_dgN _ _
  rw [hW]
  generalize rtHd a b = h at *
  generalize rtLd a b = l at *
  refine rtimes_rule (σ := Nat) (fun k => rtimes_st a b ((rtK h l k : Nat) : Int) (k : Int) (rtW h l k)) (fun k => k ≤ 4) (fun k => 4 - k) _ (fun _ => Nat.le_refl 12) ?_ 0 (Nat.zero_le 4)
  intro k hk
  refine ⟨fXA, ?_⟩
  rw [rtimes_body]
  refine ⟨fun hc => ?_, fun hc => ?_⟩
  · have hk4 : k < 4 := by simp at hc; omega
    obtain ⟨s1, s2, s3, s4⟩ := rt_step (hh k) (hl k) (rtK_lt hh hl k)
    have r1 : (decide ((0 : Int) ≤ (k : Int)) && decide ((k : Int) < (4 : Int))) = true := by simp; omega
    have r2 : Nat.ble (k + 1) 4 = true := Nat.ble_eq_true_of_le (by omega)
    have hw : IntKind.wrap .i64 ((k : Int) + 1) = ((k + 1 : Nat) : Int) := by rw [cv_wrap (by omega) (by omega)]; omega
    simp only [toNat_cc, hH, rtW_get h l hk4, s1, s2, rtW_set h l hk4, hw, r1, r2, inR_limb (hh k)]
    exact ⟨rfl, rfl, rfl, rfl, rfl, rfl, rfl, rfl, rfl, rfl, k + 1, hk4, by dsimp only; omega, Sim.of_eq rfl⟩
  · have h4 : k = 4 := by simp at hc; omega
    subst h4
    exact ⟨rfl, rfl⟩
end Go.Proofs.Ytglcjmnkhmdlhaa

/- Contracts: the document's products by the curve's prime: the loop, entered. -/
namespace Go.Proofs.Ytglcjmnkhmdlhaa
open Go Go.RowKit
noncomputable def rtimes_st0 (a b : BitVec 256) : KS := ⟨⟨pat' [(4, (.ptr 2 [])), (5, (.int .u64 (4294968273 : Int))), (6, (.ptr 10 [])), (7, (.ptr 11 [])), (8, (.int .u64 (0 : Int))), (9, (.int .i64 (0 : Int)))] 0 93, [(some ⟨24, (.u a), true⟩), (some ⟨24, (.u b), true⟩), (some ⟨24, (.ints .u64 4 [(0 : Int), (0 : Int), (0 : Int), (0 : Int)]), true⟩), none, none, none, none, none, none, none, (some ⟨24, (.u (wideHi a b)), true⟩), (some ⟨24, (.u (a * b)), true⟩)], 12⟩, kpat [4, 5, 6, 7] 0 93, [false, false, true, false, false, false, false, false, false, false, false, false]⟩
theorem rtimes_loop0 (a b : BitVec 256) : CodeR Try.prog (.loop (loopAt fi_truceref06_times [0, 1, 0, 1, 1, 1, 1])) (rtimes_st0 a b).s
    (fun e s' => e = .exit 0 ∧ s' = (rtimes_st a b ((rtK (rtHd a b) (rtLd a b) 4 : Nat) : Int) 4 (rtW (rtHd a b) (rtLd a b) 4)).s) := by
  refine CodeR.of_sim (rtimes_loop a b) ?_
  exact Sim.of (SimS.refl _) ⟨⟨rfl, rfl, SimC.refl _⟩, ⟨rfl, rfl, SimC.refl _⟩, ⟨rfl, rfl, SimC.refl _⟩, trivial, trivial, trivial, trivial, trivial, trivial, trivial, ⟨rfl, rfl, SimC.refl _⟩, ⟨rfl, rfl, SimC.of_u4 rfl⟩, trivial⟩
noncomputable def rtimesLC (a b : BitVec 256) : LCT Try.prog := LCT.one fi_truceref06_times [0, 1, 0, 1, 1, 1, 1] _ _ (rtimes_st a b ((rtK (rtHd a b) (rtLd a b) 4 : Nat) : Int) 4 (rtW (rtHd a b) (rtLd a b) 4)) rtimesSub (rtimes_loop0 a b)
noncomputable def rtimesX (a b : BitVec 256) : EnvT Try.prog := { fXA with lcs := [rtimesLC a b] }
end Go.Proofs.Ytglcjmnkhmdlhaa

/- Contracts: the document's products by the curve's prime. -/
namespace Go.Proofs.Ytglcjmnkhmdlhaa
open Go Go.RowKit
def qL (a b : BitVec 256) : BitVec 256 := ofLimbs (rtL (rtHd a b) (rtLd a b) 4 0) (rtL (rtHd a b) (rtLd a b) 4 1) (rtL (rtHd a b) (rtLd a b) 4 2) (rtL (rtHd a b) (rtLd a b) 4 3)
def qH (a b : BitVec 256) : BitVec 256 := ofLimbs (((mulLo (Int.toNat (((rtK (rtHd a b) (rtLd a b) 4) : Nat) : Int)) 4294968273) : Nat) : Int) (((mulHi (Int.toNat (((rtK (rtHd a b) (rtLd a b) 4) : Nat) : Int)) 4294968273) : Nat) : Int) (0 : Int) (0 : Int)
def qM : BitVec 256 := ofLimbs (4294968273 : Int) (0 : Int) (0 : Int) (0 : Int)
theorem rtimes_tree (a b : BitVec 256) : (callT ((rtimesX a b)) (execT ((rtimesX a b)) 100) 34 [.u a, .u b] [] [] 0 []).map CR.v =
    (.need true
    (.need true
    (.need true
    (.need (a == a)
    (.need (b == b)
    (.need true
    (.need ((wideHi a b) == (wideHi a b))
    (.need ((a * b) == (a * b))
    (.need true
    (.need (inR (((rtK (rtHd a b) (rtLd a b) 4) : Nat) : Int))
    (.need (inR (4294968273 : Int))
    (.need ((((inR (rtL (rtHd a b) (rtLd a b) 4 0)) && (inR (rtL (rtHd a b) (rtLd a b) 4 1))) && (inR (rtL (rtHd a b) (rtLd a b) 4 2))) && (inR (rtL (rtHd a b) (rtLd a b) 4 3)))
    (.need ((((inR (((mulLo (Int.toNat (((rtK (rtHd a b) (rtLd a b) 4) : Nat) : Int)) 4294968273) : Nat) : Int)) && (inR (((mulHi (Int.toNat (((rtK (rtHd a b) (rtLd a b) 4) : Nat) : Int)) 4294968273) : Nat) : Int))) && (inR (0 : Int))) && (inR (0 : Int)))
    (.ite (uover (qL a b) (qH a b))
     (.need true
     (.ite (uless (((qL a b) + (qH a b)) + qM) pU)
      (.leaf (.u (((qL a b) + (qH a b)) + qM)))
      (.leaf (.u ((((qL a b) + (qH a b)) + qM) - pU)))))
     (.ite (uless ((qL a b) + (qH a b)) pU)
      (.leaf (.u ((qL a b) + (qH a b))))
      (.leaf (.u (((qL a b) + (qH a b)) - pU)))))))))))))))))) := by kernel_rfl
theorem qM_nat : qM.toNat = 4294968273 := by kernel_rfl
theorem red1 {V : Nat} (h : V < 2 * pP) (ho : 2 ^ 256 ≤ V) : (V % 2 ^ 256 + 4294968273) % 2 ^ 256 = V % pP := cut_nat1 h ho
theorem red2 {V : Nat} (h : V < 2 * pP) (ho : 2 ^ 256 ≤ V) (hu : ¬ (V % 2 ^ 256 + 4294968273) % 2 ^ 256 < pP) : False := by unfold pP at *; omega
theorem red3 {V : Nat} (ho : ¬ 2 ^ 256 ≤ V) (hu : V % 2 ^ 256 < pP) : V % 2 ^ 256 = V % pP := by unfold pP at *; omega
theorem red4 {V : Nat} (h : V < 2 * pP) (ho : ¬ 2 ^ 256 ≤ V) (hu : ¬ V % 2 ^ 256 < pP) : (2 ^ 256 - pP + V % 2 ^ 256) % 2 ^ 256 = V % pP := by unfold pP at *; omega
theorem red_holds {L H : BitVec 256} {x : FP} (h : L.toNat + H.toNat < 2 * pP) (hx : (L.toNat + H.toNat) % pP = x.val) :
    (T.ite (uover L H)
     (.need true
     (.ite (uless ((L + H) + qM) pU)
      (.leaf (AV.u ((L + H) + qM)))
      (.leaf (.u (((L + H) + qM) - pU)))))
     (.ite (uless (L + H) pU)
      (.leaf (.u (L + H)))
      (.leaf (.u ((L + H) - pU))))).holds fun v => SameR v (.u (uF x)) := by
  have hs : (L + H).toNat = (L.toNat + H.toNat) % 2 ^ 256 := BitVec.toNat_add L H
  have ht : (L + H + qM).toNat = ((L.toNat + H.toNat) % 2 ^ 256 + 4294968273) % 2 ^ 256 := by rw [BitVec.toNat_add, hs, qM_nat]
  have hd : (L + H - pU).toNat = (2 ^ 256 - pP + (L.toNat + H.toNat) % 2 ^ 256) % 2 ^ 256 := by rw [BitVec.toNat_sub, hs, pU_nat]
  have ho := uover_iff L H
  have hu := uless_iff (L + H) pU
  have hv := uless_iff (L + H + qM) pU
  rw [hs, pU_nat] at hu
  rw [ht, pU_nat] at hv
  refine ⟨fun e => ⟨rfl, fun e2 => ?_, fun e2 => ?_⟩, fun e => ⟨fun e2 => ?_, fun e2 => ?_⟩⟩
  · refine (SameV.u (BitVec.eq_of_toNat_eq ?_)).r
    rw [ht, uF_nat, ← hx]; exact red1 h (ho.mp e)
  · exact (red2 h (ho.mp e) (bool_iff_false hv e2)).elim
  · refine (SameV.u (BitVec.eq_of_toNat_eq ?_)).r
    rw [hs, uF_nat, ← hx]; exact red3 (bool_iff_false ho e) (hu.mp e2)
  · refine (SameV.u (BitVec.eq_of_toNat_eq ?_)).r
    rw [hd, uF_nat, ← hx]; exact red4 h (bool_iff_false ho e) (bool_iff_false hu e2)
theorem rtL_4 (h l : Nat → Nat) (i : Nat) (hi : i < 4) : rtL h l 4 i = ((rtT (h i) (l i) (rtK h l i) : Nat) : Int) := if_pos hi
theorem rt_total (h l : Nat → Nat) : nat4 (l 0) (l 1) (l 2) (l 3) + nat4 (h 0) (h 1) (h 2) (h 3) * 4294968273 =
    nat4 (rtT (h 0) (l 0) (rtK h l 0)) (rtT (h 1) (l 1) (rtK h l 1)) (rtT (h 2) (l 2) (rtK h l 2)) (rtT (h 3) (l 3) (rtK h l 3)) + 2 ^ 256 * rtK h l 4 :=
  rt_sum (rt_split (h 0) (l 0) 0) (rt_split (h 1) (l 1) (rtK h l 1)) (rt_split (h 2) (l 2) (rtK h l 2)) (rt_split (h 3) (l 3) (rtK h l 3))
theorem qC_le {lo hi L C : Nat} (h1 : lo < 2 ^ 256) (h2 : hi < 2 ^ 256) (h : lo + hi * 4294968273 = L + 2 ^ 256 * C) : C ≤ 4294968273 := by omega
theorem q_sum {lo hi L C n : Nat} (hn : n = lo + 2 ^ 256 * hi) (h : lo + hi * 4294968273 = L + 2 ^ 256 * C) : (L + C * 4294968273) % pP = n % pP := by
  rw [hn, ← fold_mod, h, fold_mod]
theorem q_lt {L C : Nat} (hL : L < 2 ^ 256) (hC : C ≤ 4294968273) : L + C * 4294968273 < 2 * pP := by unfold pP; omega
theorem wide_sum (a b : BitVec 256) : a.toNat * b.toNat = (a * b).toNat + 2 ^ 256 * (wideHi a b).toNat := by
  rw [wide_hi_nat, BitVec.toNat_mul]; exact (Nat.mod_add_div _ _).symm
theorem dg_nat4 (x : BitVec 256) : nat4 (dg x.toNat 0) (dg x.toNat 1) (dg x.toNat 2) (dg x.toNat 3) = x.toNat := by
  rw [nat4_low]; exact Nat.mod_eq_of_lt x.isLt
theorem rtimes_ok (a b : BitVec 256) : Pure Try.prog 34 [.u a, .u b] (.u (uF (fU a * fU b))) := by
  refine Pure.by_tree mixed _ 100 _ _ (rtimes_tree a b) ?_
  have hh : ∀ i, rtHd a b i < 18446744073709551616 := fun i => dg_lt _ _
  have hl : ∀ i, rtLd a b i < 18446744073709551616 := fun i => dg_lt _ _
  have st := fun i => rt_step (hh i) (hl i) (rtK_lt hh hl i)
  have tot := rt_total (rtHd a b) (rtLd a b)
  have e1 : nat4 (rtLd a b 0) (rtLd a b 1) (rtLd a b 2) (rtLd a b 3) = (a * b).toNat := dg_nat4 _
  have e2 : nat4 (rtHd a b 0) (rtHd a b 1) (rtHd a b 2) (rtHd a b 3) = (wideHi a b).toNat := dg_nat4 _
  rw [e1, e2] at tot
  have hw := wide_sum a b
  have lo := (a * b).isLt
  have hi := (wideHi a b).isLt
  have q0 : (qL a b).toNat = nat4 (rtT (rtHd a b 0) (rtLd a b 0) (rtK (rtHd a b) (rtLd a b) 0)) (rtT (rtHd a b 1) (rtLd a b 1) (rtK (rtHd a b) (rtLd a b) 1)) (rtT (rtHd a b 2) (rtLd a b 2) (rtK (rtHd a b) (rtLd a b) 2)) (rtT (rtHd a b 3) (rtLd a b 3) (rtK (rtHd a b) (rtLd a b) 3)) := by
    unfold qL
    rw [rtL_4 _ _ 0 (by decide), rtL_4 _ _ 1 (by decide), rtL_4 _ _ 2 (by decide), rtL_4 _ _ 3 (by decide)]
    exact ofLimbs_nat (st 0).2.2.1 (st 1).2.2.1 (st 2).2.2.1 (st 3).2.2.1
  rw [← q0] at tot
  have hC := qC_le lo hi tot
  obtain ⟨m1, m2, m3⟩ := small_parts hC
  have q1 : (qH a b).toNat = rtK (rtHd a b) (rtLd a b) 4 * 4294968273 := by
    unfold qH
    rw [toNat_cc, ofLimbs_nat0 m1 m2, m3]
  have i0 : ∀ i, i < 4 → inR (rtL (rtHd a b) (rtLd a b) 4 i) = true := fun i hi => by rw [rtL_4 _ _ i hi]; exact inR_limb (st i).2.2.1
  simp only [T.holds_need, beq_self_eq_true, toNat_cc, inR_limb m1, inR_limb m2, inR_limb (rtK_lt hh hl 4), inR_sm, inR_0, i0 0 (by decide), i0 1 (by decide), i0 2 (by decide), i0 3 (by decide), Bool.and_self, true_and]
  refine red_holds ?_ ?_
  · rw [q1]; exact q_lt (qL a b).isLt hC
  · rw [q1, q_sum hw tot, Fin.val_mul, fU_val, fU_val, ← Nat.mul_mod]
noncomputable def cr_times : Ctr Try.prog := Ctr.u2 34 (fun a b => .u (uF (fU a * fU b))) rtimes_ok
end Go.Proofs.Ytglcjmnkhmdlhaa

/- Contracts: the document's points. -/
namespace Go.Proofs.Ytglcjmnkhmdlhaa
open Go Go.RowKit
noncomputable def fXB : EnvT Try.prog := { cs := [c_ref_Cmp, c_ref_Add, c_ref_Sub, c_rprime, cr_plus, cr_minus, cr_times, c_ref_Bits, c_ref_Bit], fis := [fi_truceref06_side, fi_truceref06_On, fi_truceref06_Neg, fi_truceref06_double, fi_truceref06_power] }
theorem rside_tree (x : BitVec 256) : (callT (fXB) (execT (fXB) 100) 35 [.u x] [] [] 0 []).map CR.v =
    (.need true
    (.need (ltP (uF ((fU (uF ((fU x) * (fU x)))) * (fU x))))
    (.need (ltP (ofLimbs (7 : Int) (0 : Int) (0 : Int) (0 : Int)))
    (.leaf (.u (uF ((fU (uF ((fU (uF ((fU x) * (fU x)))) * (fU x)))) + (fU (ofLimbs (7 : Int) (0 : Int) (0 : Int) (0 : Int)))))))))) := by kernel_rfl
theorem rcvneg_tree (x y : BitVec 256) (n : Bool) : (callT (fXB) (execT (fXB) 100) 13 [.agg [.u x, .u y, .bool n]] [] [] 0 []).map CR.v =
    (.ite (!n)
     (.need true
     (.need (ltP (ofLimbs (0 : Int) (0 : Int) (0 : Int) (0 : Int)))
     (.need (ltP y)
     (.leaf (.agg [(.u x), (.u (uF ((fU (ofLimbs (0 : Int) (0 : Int) (0 : Int) (0 : Int))) - (fU y)))), (.bool n)])))))
     (.leaf (.agg [(.u x), (.u y), (.bool n)]))) := by kernel_rfl
theorem of7 : ofLimbs 7 0 0 0 = BitVec.ofNat 256 7 := by kernel_rfl
theorem rside_ok (x : BitVec 256) : Pure Try.prog 35 [.u x] (.u (uF (fU x * (fU x * fU x) + 7))) := by
  refine Pure.by_tree mixed _ 100 _ _ (rside_tree x) ?_
  simp only [T.holds, ltP_uF, fU_uF, of7, ltP_7, fU_7, true_and]
  refine (SameV.u (congrArg uF ?_)).r
  grind
noncomputable def cr_side : Ctr Try.prog := Ctr.u1 35 (fun x => .u (uF (fU x * (fU x * fU x) + 7))) rside_ok
/-- The other side's Y. -/
def rcvnY (y : BitVec 256) (n : Bool) : BitVec 256 := if n = true then y else uF (- fU y)
theorem rcvneg_ok (x y : BitVec 256) (n : Bool) (h : (n || ltP y) = true) : Pure Try.prog 13 [.agg [.u x, .u y, .bool n]] (.agg [.u x, .u (rcvnY y n), .bool n]) := by
  refine Pure.by_tree mixed _ 100 _ _ (rcvneg_tree x y n) ?_
  rw [fU_00]
  have hz : (0 : FP) - fU y = - fU y := by grind
  rw [hz]
  cases n with
  | true =>
    refine ⟨fun e => absurd e (by decide), fun _ => ?_⟩
    exact (SameV.agg (.cons (.u rfl) (.cons (.u rfl) (.cons (.bool rfl) .nil)))).r
  | false =>
    refine ⟨fun _ => ⟨rfl, ltP_00, by simpa using h, ?_⟩, fun e => absurd e (by decide)⟩
    exact (SameV.agg (.cons (.u rfl) (.cons (.u rfl) (.cons (.bool rfl) .nil)))).r
noncomputable def crv_neg : Ctr Try.prog := Ctr.of 13 (fun
    | [.agg [.u x, .u y, .bool n]] => some ([n || ltP y], .agg [.u x, .u (rcvnY y n), .bool n])
    | _ => none) (by
  intro args ob v h hob
  split at h <;> simp only [Option.some.injEq, Prod.mk.injEq, reduceCtorEq] at h
  obtain ⟨rfl, rfl⟩ := h
  exact rcvneg_ok _ _ _ (hob _ (by simp)))
noncomputable def fXC : EnvT Try.prog := { cs := [c_ref_Cmp, c_ref_Add, c_ref_Sub, c_rprime, cr_plus, cr_minus, cr_times, c_ref_Bits, c_ref_Bit, cr_side, crv_neg], fis := [fi_truceref06_On, fi_truceref06_double, fi_truceref06_power] }
end Go.Proofs.Ytglcjmnkhmdlhaa

/- Contracts: the document's powers; is a point on the curve. -/
namespace Go.Proofs.Ytglcjmnkhmdlhaa
open Go Go.RowKit
theorem ron_tree (x y : BitVec 256) (n : Bool) : (callT (fXC) (execT (fXC) 100) 12 [.agg [.u x, .u y, .bool n]] [] [] 0 []).map CR.v =
    (.ite n
     (.need true
     (.ite (x == (ofLimbs (0 : Int) (0 : Int) (0 : Int) (0 : Int)))
      (.need true
      (.leaf (.bool (y == (ofLimbs (0 : Int) (0 : Int) (0 : Int) (0 : Int))))))
      (.leaf (.bool false))))
     (.ite (decide ((ucmp x pU) < (0 : Int)))
      (.ite (decide ((ucmp y pU) < (0 : Int)))
       (.leaf (.bool ((uF ((fU y) * (fU y))) == (uF (((fU x) * ((fU x) * (fU x))) + (7 : Fin pP))))))
       (.leaf (.bool false)))
      (.leaf (.bool false)))) := by kernel_rfl
theorem ucmp_ltP (x : BitVec 256) : decide (ucmp x pU < (0 : Int)) = ltP x := by
  have h := ucmp_p x
  cases hl : ltP x with
  | true =>
    rw [hl] at h
    have h : ¬ ucmp x pU ≥ 0 := of_decide_eq_false (by rw [h]; rfl)
    exact decide_eq_true (by omega)
  | false =>
    rw [hl] at h
    have h : ucmp x pU ≥ 0 := of_decide_eq_true (by rw [h]; rfl)
    exact decide_eq_false (by omega)
theorem ron_ok (x y : BitVec 256) (n : Bool) : Pure Try.prog 12 [.agg [.u x, .u y, .bool n]] (.bool (okP x y n)) := by
  refine Pure.by_tree mixed _ 100 _ _ (ron_tree x y n) ?_
  rw [bv00, ucmp_ltP, ucmp_ltP, uF_beq]
  refine ⟨fun h => ⟨rfl, fun h2 => ⟨rfl, ?_⟩, fun h2 => ?_⟩, fun h => ⟨fun h2 => ⟨fun h3 => ?_, fun h3 => ?_⟩, fun h2 => ?_⟩⟩
  · subst h; refine (SameV.bool ?_).r; simp only [okP, h2, Bool.true_and]
  · subst h; refine (SameV.bool ?_).r; simp only [okP, h2, Bool.false_and]
  · subst h; refine (SameV.bool ?_).r; simp only [okP, h2, h3, Bool.true_and]
  · subst h; refine (SameV.bool ?_).r; simp only [okP, h2, h3, Bool.true_and, Bool.false_and]
  · subst h; refine (SameV.bool ?_).r; simp only [okP, h2, Bool.false_and]
noncomputable def cr_on : Ctr Try.prog := Ctr.of 12 (fun
    | [.agg [.u x, .u y, .bool n]] => some ([], .bool (okP x y n))
    | _ => none) (by
  intro args ob v h hob
  split at h <;> simp only [Option.some.injEq, Prod.mk.injEq, reduceCtorEq] at h
  obtain ⟨rfl, rfl⟩ := h
  exact ron_ok _ _ _)
noncomputable def rpower_st (a : BitVec 256) (n : BitVec 256) (v1 : Int) (v2 : BitVec 256) : KS := ⟨⟨pat' [(2, (.ptr 0 [])), (3, (.ptr 1 [])), (4, (.ptr 2 [])), (5, (.ptr 4 [])), (6, (.int .i64 v1))] 0 26, [(some ⟨24, (.u a), true⟩), (some ⟨24, (.u n), true⟩), (some ⟨24, (.ints .u64 4 [(0 : Int), (0 : Int), (0 : Int), (0 : Int)]), true⟩), none, (some ⟨24, (.u v2), true⟩)], 5⟩, kpat [2, 3, 4, 5] 0 26, [false, false, true, false, false]⟩
theorem rpower_body (a : BitVec 256) (n : BitVec 256) (v1 : Int) (v2 : BitVec 256) : stepT fXC 100 fi_truceref06_power [0, 1, 0, 1, 1] [2, 3, 4, 5, 6] 5 (kpat [2, 3, 4, 5] 0 26) [false, false, true, false, false] (rpower_st a n v1 v2) =
    (.ite (decide (v1 ≥ (0 : Int)))
     (.need ((decide ((0 : Int) ≤ v1)) && (decide (v1 < (256 : Int))))
     (.ite ((ubit n (Int.toNat v1)) == (1 : Int))
      (.leaf (.normal, rpower_st a n (IntKind.wrap .i64 (v1 - (1 : Int))) (uF ((fU (uF ((fU v2) * (fU v2)))) * (fU a)))))
      (.leaf (.normal, rpower_st a n (IntKind.wrap .i64 (v1 - (1 : Int))) (uF ((fU v2) * (fU v2)))))))
     (.leaf ((.exit 0), rpower_st a n v1 v2))) := by kernel_rfl
theorem rpower_rule {σ : Type} (st : σ → KS) (Inv : σ → Prop) (μ : σ → Nat) (R : Ex → St → Prop) (hH : ∀ v, (st v).s.H.length ≤ 5) (hstep : ∀ v, Inv v → ∃ X : EnvT Try.prog, (stepT X 100 fi_truceref06_power [0, 1, 0, 1, 1] [2, 3, 4, 5, 6] 5 (kpat [2, 3, 4, 5] 0 26) [false, false, true, false, false] (st v)).holds (Round st Inv μ R v)) (v0 : σ) (h0 : Inv v0) : CodeR Try.prog (.loop (loopAt fi_truceref06_power [0, 1, 0, 1, 1])) (st v0).s R :=
  loop_rule mixed fi_truceref06_power [0, 1, 0, 1, 1] [2, 3, 4, 5, 6] 5 (kpat [2, 3, 4, 5] 0 26) [false, false, true, false, false] st 100 Inv μ R (loop_sub' (c := loopAt fi_truceref06_power [0, 1, 0, 1, 1]) (by kernel_rfl)) hH hstep v0 h0
noncomputable def rpower_st0 (a n : BitVec 256) (v1 : Int) : KS := ⟨⟨pat' [(2, (.ptr 0 [])), (3, (.ptr 1 [])), (4, (.ptr 2 [])), (5, (.ptr 4 [])), (6, (.int .i64 v1))] 0 26, [(some ⟨24, (.u a), true⟩), (some ⟨24, (.u n), true⟩), (some ⟨24, (.ints .u64 4 [(0 : Int), (0 : Int), (0 : Int), (0 : Int)]), true⟩), none, (some ⟨24, (.ints .u64 4 [(1 : Int), (0 : Int), (0 : Int), (0 : Int)]), true⟩)], 5⟩, kpat [2, 3, 4, 5] 0 26, [false, false, true, false, false]⟩
theorem cv_ubit (n : BitVec 256) (i : Nat) : (ubit n i == (1 : Int)) = decide (n.toNat / 2 ^ i % 2 = 1) := by
  have h : n.getLsbD i = decide (n.toNat / 2 ^ i % 2 = 1) := by
    show n.toNat.testBit i = _
    rw [Nat.testBit_eq_decide_div_mod_eq]
  unfold ubit
  rw [h]
  by_cases hb : n.toNat / 2 ^ i % 2 = 1 <;> simp [hb]
theorem rpowerSub : subC fi_truceref06_power.body [0, 1, 0, 1, 1] = some (.loop (loopAt fi_truceref06_power [0, 1, 0, 1, 1])) := loop_sub' (c := loopAt fi_truceref06_power [0, 1, 0, 1, 1]) (by kernel_rfl)
theorem rpower_loop (a n : BitVec 256) : CodeR Try.prog (.loop (loopAt fi_truceref06_power [0, 1, 0, 1, 1])) (rpower_st0 a n (IntKind.wrap .i64 ((blen n.toNat : Nat) - (1 : Int)))).s (fun e s' => e = .exit 0 ∧ s' = (rpower_st a n (-1) (uF (pwF (fU a) n.toNat))).s) := by
  have hK : blen n.toNat ≤ 256 := blen_le n.isLt
  have e1 : uF (rtR (fU a) n.toNat (blen n.toNat)) = 1#256 := by rw [rtR_top _ (Nat.le_refl _), ← of1]
  rw [← rtR_end (fU a) n.toNat]
  generalize blen n.toNat = K at *
  rw [cv_wrap (by omega) (by omega)]
  refine CodeR.of_sim (s' := (rpower_st a n ((K : Int) - 1) (uF (rtR (fU a) n.toNat K))).s) ?_ ?_
  · refine rpower_rule (σ := Nat) (fun k => rpower_st a n ((k : Int) - 1) (uF (rtR (fU a) n.toNat k))) (fun k => k ≤ K) (fun k => k) _ (fun _ => Nat.le_refl 5) ?_ K (Nat.le_refl K)
    intro k hk
    refine ⟨fXC, ?_⟩
    rw [rpower_body]
    refine ⟨fun hc => ?_, fun hc => ?_⟩
    · have h0 : 0 < k := by simp at hc; omega
      obtain ⟨j, rfl⟩ : ∃ j, k = j + 1 := ⟨k - 1, by omega⟩
      have hj : j < 256 := by omega
      have e2 : ((j + 1 : Nat) : Int) - 1 = (j : Int) := by omega
      have hw : IntKind.wrap .i64 ((j : Int) - 1) = (j : Int) - 1 := cv_wrap (by omega) (by omega)
      rw [e2, hw]
      simp only [fU_uF, toNat_cc, cv_ubit]
      refine ⟨by simp; omega, fun hb => ?_, fun hb => ?_⟩
      · rw [← rtR_one (fU a) (of_decide_eq_true hb)]
        exact ⟨j, by omega, by dsimp only; omega, Sim.of_eq rfl⟩
      · have hb := of_decide_eq_false hb
        rw [← rtR_zero (fU a) ((bit_cases n.toNat j).resolve_left hb)]
        exact ⟨j, by omega, by dsimp only; omega, Sim.of_eq rfl⟩
    · have h0 : k = 0 := by simp at hc; omega
      subst h0
      exact ⟨rfl, rfl⟩
  · rw [e1]
    exact Sim.of (SimS.refl _) ⟨⟨rfl, rfl, SimC.refl _⟩, ⟨rfl, rfl, SimC.refl _⟩, ⟨rfl, rfl, SimC.refl _⟩, trivial, ⟨rfl, rfl, SimC.u4 (by decide)⟩, trivial⟩
noncomputable def rpowerLC (a n : BitVec 256) : LCT Try.prog := LCT.one fi_truceref06_power [0, 1, 0, 1, 1] _ _ (rpower_st a n (-1) (uF (pwF (fU a) n.toNat))) rpowerSub (rpower_loop a n)
noncomputable def rpowerX (a n : BitVec 256) : EnvT Try.prog := { fXC with lcs := [rpowerLC a n] }
end Go.Proofs.Ytglcjmnkhmdlhaa

/- Contracts: the document's powers. -/
namespace Go.Proofs.Ytglcjmnkhmdlhaa
open Go Go.RowKit
theorem rpower_tree (a n : BitVec 256) : (callT ((rpowerX a n)) (execT ((rpowerX a n)) 100) 65 [.u a, .u n] [] [] 0 []).map CR.v =
    (.need ((IntKind.wrap .i64 ((((blen (BitVec.toNat n)) : Nat) : Int) - (1 : Int))) == (IntKind.wrap .i64 ((((blen (BitVec.toNat n)) : Nat) : Int) - (1 : Int))))
    (.need (a == a)
    (.need (n == n)
    (.need true
    (.need true
    (.need true
    (.leaf (.u (uF (pwF (fU a) (BitVec.toNat n))))))))))) := by kernel_rfl
theorem rpower_ok (a n : BitVec 256) : Pure Try.prog 65 [.u a, .u n] (.u (uF (pwF (fU a) n.toNat))) := by
  refine Pure.by_tree mixed _ 100 _ _ (rpower_tree a n) ?_
  simp only [T.holds, beq_self_eq_true, true_and]
  exact (SameV.u rfl).r
noncomputable def cr_power : Ctr Try.prog := Ctr.u2 65 (fun a n => .u (uF (pwF (fU a) n.toNat))) rpower_ok
noncomputable def fXD : EnvT Try.prog := { cs := [c_ref_Cmp, c_ref_Add, c_ref_Sub, c_rprime, cr_plus, cr_minus, cr_times, c_ref_Bits, c_ref_Bit, cr_side, crv_neg, cr_power], fis := [fi_truceref06_double, fi_truceref06_join, fi_truceref06_flat] }
end Go.Proofs.Ytglcjmnkhmdlhaa

/- Contracts: the document's point of an X. -/
namespace Go.Proofs.Ytglcjmnkhmdlhaa
open Go Go.RowKit
def rliftT (x : BitVec 256) (o : Bool) (s Y : FP) : T AV :=
    (.ite (decide ((ucmp x pU) ≥ (0 : Int)))
     (.leaf (.tup [(.agg [(.ints .u64 4 [(0 : Int), (0 : Int), (0 : Int), (0 : Int)]), (.ints .u64 4 [(0 : Int), (0 : Int), (0 : Int), (0 : Int)]), (.bool false)]), (.bool false)]))
     (.need true
     (.need true
     (.ite (!((uF ((fU (uF Y)) * (fU (uF Y)))) == (uF s)))
      (.leaf (.tup [(.agg [(.ints .u64 4 [(0 : Int), (0 : Int), (0 : Int), (0 : Int)]), (.ints .u64 4 [(0 : Int), (0 : Int), (0 : Int), (0 : Int)]), (.bool false)]), (.bool false)]))
      (.ite (!(((Int.tmod (limb (uF Y) 0) (2 : Int)) == (1 : Int)) == o))
       (.need true
       (.need (ltP (ofLimbs (0 : Int) (0 : Int) (0 : Int) (0 : Int)))
       (.need (ltP (uF Y))
       (.leaf (.tup [(.agg [(.u x), (.u (uF ((fU (ofLimbs (0 : Int) (0 : Int) (0 : Int) (0 : Int))) - (fU (uF Y))))), (.bool false)]), (.bool true)])))))
       (.leaf (.tup [(.agg [(.u x), (.u (uF Y)), (.bool false)]), (.bool true)])))))))
theorem odd_tmod (y : BitVec 256) : Int.tmod (limb y 0) 2 = iand .u64 (limb y 0) 1 := by
  rw [limb_dgN, cv_and1 (dg_lt _ _)]; rfl
theorem rliftT_eq (x : BitVec 256) (o : Bool) (s Y : FP) : rliftT x o s Y = liftT x o s Y := by
  unfold rliftT liftT
  rw [ucmp_p, odd_tmod]
end Go.Proofs.Ytglcjmnkhmdlhaa

