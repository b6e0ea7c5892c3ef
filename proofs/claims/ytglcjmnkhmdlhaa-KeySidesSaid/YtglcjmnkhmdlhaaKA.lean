/- Texts of this claim, one behind the other. -/
import Derived.Test.YtglcjmnkhmdlhaaK9

/- Contracts: the document's Mul: its loop. -/
namespace Go.Proofs.Ytglcjmnkhmdlhaa
open Go Go.RowKit
/-- The sum so far, 'd' bits from the top of 'K'. -/
def rmJ (n : Nat) (P : Pt pP) (K : Nat) : Nat → Tr pP
  | 0 => zT
  | d + 1 => if n / 2 ^ (K - (d + 1)) % 2 = 1 then joinP (jdblP (rmJ n P K d)) P else jdblP (rmJ n P K d)
theorem rmJ_one {n K d : Nat} {P : Pt pP} (h : n / 2 ^ (K - (d + 1)) % 2 = 1) : rmJ n P K (d + 1) = joinP (jdblP (rmJ n P K d)) P := by
  show (if _ then _ else _) = _
  rw [if_pos h]
theorem rmJ_zero {n K d : Nat} {P : Pt pP} (h : n / 2 ^ (K - (d + 1)) % 2 = 0) : rmJ n P K (d + 1) = jdblP (rmJ n P K d) := by
  show (if _ then _ else _) = _
  rw [if_neg (by omega)]
theorem cvE_down {n K d : Nat} (h : d + 1 ≤ K) : n / 2 ^ (K - (d + 1)) = 2 * (n / 2 ^ (K - d)) + n / 2 ^ (K - (d + 1)) % 2 := by
  have := cvE_next n (K - (d + 1))
  unfold cvE at this
  have e : K - (d + 1) + 1 = K - d := by omega
  rw [e] at this
  exact this
theorem rmJ_tells {n K : Nat} (hn : n < 2 ^ K) {P : Pt pP} (hP : P.on) : ∀ d, d ≤ K → TellsJ (rmJ n P K d) (Pt.mul (n / 2 ^ (K - d)) P)
  | 0, _ => by rw [Nat.sub_zero, Nat.div_eq_of_lt hn]; exact rfl
  | d + 1, h => by
    have ih := rmJ_tells hn hP d (by omega)
    have hon := Pt.mul_on cuP hP (n / 2 ^ (K - d))
    have h2 := jdblP_tells ih hon
    have e2 : Pt.mul (2 * (n / 2 ^ (K - d))) P = (Pt.mul (n / 2 ^ (K - d)) P).add (Pt.mul (n / 2 ^ (K - d)) P) := by rw [Nat.two_mul, Pt.mul_add cuP hP]
    rcases bit_cases n (K - (d + 1)) with hb | hb
    · rw [rmJ_one hb, cvE_down h, hb, Pt.mul_add cuP hP, e2]
      exact joinP_tells h2 (Pt.add_on cuP hon hon)
    · rw [rmJ_zero hb, cvE_down h, hb, Nat.add_zero, e2]
      exact h2
noncomputable def rmul_st (k : BitVec 256) (P : Pt pP) (v1 : Int) (v2 : BitVec 256) (v3 : BitVec 256) (v4 : BitVec 256) : KS := ⟨⟨pat' [(2, (.ptr 0 [])), (3, (.ptr 1 [])), (4, (.ptr 2 [])), (5, (.ptr 4 [])), (6, (.int .i64 v1))] 0 26, [(some ⟨24, (.u k), true⟩), (some ⟨26, (.agg [(.u (ptX P)), (.u (ptY P)), (.bool (ptN P))]), true⟩), (some ⟨26, (.agg [(.ints .u64 4 [(0 : Int), (0 : Int), (0 : Int), (0 : Int)]), (.ints .u64 4 [(0 : Int), (0 : Int), (0 : Int), (0 : Int)]), (.bool false)]), true⟩), none, (some ⟨61, (.agg [(.u v2), (.u v3), (.u v4)]), true⟩)], 5⟩, kpat [2, 3, 4, 5] 0 26, [false, false, true, false, false]⟩
theorem rmul_body (k : BitVec 256) (P : Pt pP) (v1 : Int) (v2 : BitVec 256) (v3 : BitVec 256) (v4 : BitVec 256) : stepT fXF 100 fi_truceref06_Mul [0, 1, 0, 1, 1] [2, 3, 4, 5, 6] 5 (kpat [2, 3, 4, 5] 0 26) [false, false, true, false, false] (rmul_st k P v1 v2 v3 v4) =
    (.ite (decide (v1 ≥ (0 : Int)))
     (.need (ltP v2)
     (.need (ltP v3)
     (.need (ltP v4)
     (.need ((decide ((0 : Int) ≤ v1)) && (decide (v1 < (256 : Int))))
     (.ite ((ubit k (Int.toNat v1)) == (1 : Int))
      (.need (ltP (uF (Tr.X (jdblP (Tr.mk (fU v2) (fU v3) (fU v4))))))
      (.need (ltP (uF (Tr.Y (jdblP (Tr.mk (fU v2) (fU v3) (fU v4))))))
      (.need (ltP (uF (Tr.Z (jdblP (Tr.mk (fU v2) (fU v3) (fU v4))))))
      (.need (ptL (ptX P) (ptY P) (ptN P))
      (.leaf (.normal, rmul_st k P (IntKind.wrap .i64 (v1 - (1 : Int))) (uF (Tr.X (joinP (Tr.mk (fU (uF (Tr.X (jdblP (Tr.mk (fU v2) (fU v3) (fU v4)))))) (fU (uF (Tr.Y (jdblP (Tr.mk (fU v2) (fU v3) (fU v4)))))) (fU (uF (Tr.Z (jdblP (Tr.mk (fU v2) (fU v3) (fU v4))))))) (ptOf (ptX P) (ptY P) (ptN P))))) (uF (Tr.Y (joinP (Tr.mk (fU (uF (Tr.X (jdblP (Tr.mk (fU v2) (fU v3) (fU v4)))))) (fU (uF (Tr.Y (jdblP (Tr.mk (fU v2) (fU v3) (fU v4)))))) (fU (uF (Tr.Z (jdblP (Tr.mk (fU v2) (fU v3) (fU v4))))))) (ptOf (ptX P) (ptY P) (ptN P))))) (uF (Tr.Z (joinP (Tr.mk (fU (uF (Tr.X (jdblP (Tr.mk (fU v2) (fU v3) (fU v4)))))) (fU (uF (Tr.Y (jdblP (Tr.mk (fU v2) (fU v3) (fU v4)))))) (fU (uF (Tr.Z (jdblP (Tr.mk (fU v2) (fU v3) (fU v4))))))) (ptOf (ptX P) (ptY P) (ptN P)))))))))))
      (.leaf (.normal, rmul_st k P (IntKind.wrap .i64 (v1 - (1 : Int))) (uF (Tr.X (jdblP (Tr.mk (fU v2) (fU v3) (fU v4))))) (uF (Tr.Y (jdblP (Tr.mk (fU v2) (fU v3) (fU v4))))) (uF (Tr.Z (jdblP (Tr.mk (fU v2) (fU v3) (fU v4))))))))))))
     (.leaf ((.exit 0), rmul_st k P v1 v2 v3 v4))) := by kernel_rfl
theorem rmul_rule {σ : Type} (st : σ → KS) (Inv : σ → Prop) (μ : σ → Nat) (R : Ex → St → Prop) (hH : ∀ v, (st v).s.H.length ≤ 5) (hstep : ∀ v, Inv v → ∃ X : EnvT Try.prog, (stepT X 100 fi_truceref06_Mul [0, 1, 0, 1, 1] [2, 3, 4, 5, 6] 5 (kpat [2, 3, 4, 5] 0 26) [false, false, true, false, false] (st v)).holds (Round st Inv μ R v)) (v0 : σ) (h0 : Inv v0) : CodeR Try.prog (.loop (loopAt fi_truceref06_Mul [0, 1, 0, 1, 1])) (st v0).s R :=
  loop_rule mixed fi_truceref06_Mul [0, 1, 0, 1, 1] [2, 3, 4, 5, 6] 5 (kpat [2, 3, 4, 5] 0 26) [false, false, true, false, false] st 100 Inv μ R (loop_sub' (c := loopAt fi_truceref06_Mul [0, 1, 0, 1, 1]) (by kernel_rfl)) hH hstep v0 h0

noncomputable def rmul_st0 (k : BitVec 256) (P : Pt pP) (v1 : Int) : KS := ⟨⟨pat' [(2, (.ptr 0 [])), (3, (.ptr 1 [])), (4, (.ptr 2 [])), (5, (.ptr 4 [])), (6, (.int .i64 v1))] 0 26, [(some ⟨24, (.u k), true⟩), (some ⟨26, (.agg [(.u (ptX P)), (.u (ptY P)), (.bool (ptN P))]), true⟩), (some ⟨26, (.agg [(.ints .u64 4 [(0 : Int), (0 : Int), (0 : Int), (0 : Int)]), (.ints .u64 4 [(0 : Int), (0 : Int), (0 : Int), (0 : Int)]), (.bool false)]), true⟩), none, (some ⟨61, (.agg [(.ints .u64 4 [(0 : Int), (0 : Int), (0 : Int), (0 : Int)]), (.ints .u64 4 [(0 : Int), (0 : Int), (0 : Int), (0 : Int)]), (.ints .u64 4 [(0 : Int), (0 : Int), (0 : Int), (0 : Int)])]), true⟩)], 5⟩, kpat [2, 3, 4, 5] 0 26, [false, false, true, false, false]⟩
theorem SimC.agg3 {a b c a' b' c' : AV} (h1 : SimC a a') (h2 : SimC b b') (h3 : SimC c c') : SimC (.agg [a, b, c]) (.agg [a', b', c']) := by
  intro ρ cs h
  simp only [RC, RCs] at h ⊢
  obtain ⟨c1, c2, e1, ⟨c3, c4, e2, ⟨c5, c6, e6, e7, e8⟩, e4⟩, e5⟩ := h
  exact ⟨c1, c2, h1 ρ c1 e1, ⟨c3, c4, h2 ρ c3 e2, ⟨c5, c6, h3 ρ c5 e6, e7, e8⟩, e4⟩, e5⟩
theorem zero4F : [(0 : Int), 0, 0, 0] = [limb (uF 0) 0, limb (uF 0) 1, limb (uF 0) 2, limb (uF 0) 3] := by rw [← of0]; exact zero4
theorem rmul_sim (k : BitVec 256) (P : Pt pP) (v : Int) : Sim (rmul_st0 k P v).s (rmul_st k P v (uF 0) (uF 0) (uF 0)).s :=
  Sim.of (SimS.refl _) ⟨⟨rfl, rfl, SimC.refl _⟩, ⟨rfl, rfl, SimC.refl _⟩, ⟨rfl, rfl, SimC.refl _⟩, trivial, ⟨rfl, rfl, SimC.agg3 (.u4 zero4F) (.u4 zero4F) (.u4 zero4F)⟩, trivial⟩
theorem rmulSub : subC fi_truceref06_Mul.body [0, 1, 0, 1, 1] = some (.loop (loopAt fi_truceref06_Mul [0, 1, 0, 1, 1])) := loop_sub' (c := loopAt fi_truceref06_Mul [0, 1, 0, 1, 1]) (by kernel_rfl)
theorem rmul_loop (k : BitVec 256) {P : Pt pP} (hP : P.on) : CodeR Try.prog (.loop (loopAt fi_truceref06_Mul [0, 1, 0, 1, 1])) (rmul_st0 k P (IntKind.wrap .i64 ((blen k.toNat : Nat) - (1 : Int)))).s
    (fun e s' => e = .exit 0 ∧ s' = (rmul_st k P (-1) (uF (rmJ k.toNat P (blen k.toNat) (blen k.toNat)).X) (uF (rmJ k.toNat P (blen k.toNat) (blen k.toNat)).Y) (uF (rmJ k.toNat P (blen k.toNat) (blen k.toNat)).Z)).s) := by
  have hK : blen k.toNat ≤ 256 := blen_le k.isLt
  generalize blen k.toNat = K at *
  rw [cv_wrap (by omega) (by omega)]
  refine CodeR.of_sim ?_ (rmul_sim k P _)
  have h := rmul_rule (σ := Nat) (fun d => rmul_st k P ((K : Int) - d - 1) (uF (rmJ k.toNat P K d).X) (uF (rmJ k.toNat P K d).Y) (uF (rmJ k.toNat P K d).Z)) (fun d => d ≤ K) (fun d => K - d) (fun e s' => e = .exit 0 ∧ s' = (rmul_st k P (-1) (uF (rmJ k.toNat P K K).X) (uF (rmJ k.toNat P K K).Y) (uF (rmJ k.toNat P K K).Z)).s) (fun _ => Nat.le_refl 5) ?_ 0 (Nat.zero_le _)
  · have e : ((K : Int) - (0 : Nat) - 1) = (K : Int) - 1 := by omega
    rw [e] at h
    exact h
  intro d hd
  refine ⟨fXF, ?_⟩
  rw [rmul_body]
  refine ⟨fun hc => ?_, fun hc => ?_⟩
  · have h0 : d < K := by simp at hc; omega
    have hw : IntKind.wrap .i64 ((K : Int) - d - 1 - 1) = (K : Int) - (d + 1 : Nat) - 1 := by rw [cv_wrap (by omega) (by omega)]; omega
    have e1 : (K : Int) - d - 1 = ((K - (d + 1) : Nat) : Int) := by omega
    rw [hw]
    simp only [mk_fu, ptOf_pt]
    rw [e1]
    simp only [T.holds, ltP_uF, true_and, toNat_cc, cv_ubit]
    refine ⟨?_, fun hb => ?_, fun hb => ?_⟩
    · rw [Bool.and_eq_true]; exact ⟨decide_eq_true (by omega), decide_eq_true (by omega)⟩
    · have hb := of_decide_eq_true hb
      refine ⟨ptL_pt P, d + 1, h0, Nat.sub_lt_sub_left h0 (Nat.lt_succ_self d), Sim.of_eq ?_⟩
      show (rmul_st k P _ _ _ _).s = (rmul_st k P ((K : Int) - (d + 1 : Nat) - 1) (uF (rmJ k.toNat P K (d + 1)).X) (uF (rmJ k.toNat P K (d + 1)).Y) (uF (rmJ k.toNat P K (d + 1)).Z)).s
      rw [rmJ_one hb]
    · have hb := (bit_cases k.toNat (K - (d + 1))).resolve_left (of_decide_eq_false hb)
      refine ⟨d + 1, h0, Nat.sub_lt_sub_left h0 (Nat.lt_succ_self d), Sim.of_eq ?_⟩
      show (rmul_st k P _ _ _ _).s = (rmul_st k P ((K : Int) - (d + 1 : Nat) - 1) (uF (rmJ k.toNat P K (d + 1)).X) (uF (rmJ k.toNat P K (d + 1)).Y) (uF (rmJ k.toNat P K (d + 1)).Z)).s
      rw [rmJ_zero hb]
  · have h0 : d = K := by simp at hc; omega
    subst h0
    have e : ((d : Int) - d - 1) = -1 := by omega
    rw [e]
    exact ⟨rfl, rfl⟩
end Go.Proofs.Ytglcjmnkhmdlhaa

/- Contracts: the document's Mul. -/
namespace Go.Proofs.Ytglcjmnkhmdlhaa
open Go Go.RowKit
noncomputable def rmulLC (k : BitVec 256) {P : Pt pP} (hP : P.on) : LCT Try.prog := LCT.one fi_truceref06_Mul [0, 1, 0, 1, 1] _ _ (rmul_st k P (-1) (uF (rmJ k.toNat P (blen k.toNat) (blen k.toNat)).X) (uF (rmJ k.toNat P (blen k.toNat) (blen k.toNat)).Y) (uF (rmJ k.toNat P (blen k.toNat) (blen k.toNat)).Z)) rmulSub (rmul_loop k hP)
noncomputable def rmulX (k : BitVec 256) {P : Pt pP} (hP : P.on) : EnvT Try.prog := { fXF with lcs := [rmulLC k hP] }
theorem rmul_tree (k : BitVec 256) (P : Pt pP) (hP : P.on) : (callT ((rmulX k hP)) (execT ((rmulX k hP)) 100) 37 [.u k, ptV P] [] [] 0 []).map CR.v =
    (.need ((IntKind.wrap .i64 ((((blen (BitVec.toNat k)) : Nat) : Int) - (1 : Int))) == (IntKind.wrap .i64 ((((blen (BitVec.toNat k)) : Nat) : Int) - (1 : Int))))
    (.need (k == k)
    (.need ((ptX P) == (ptX P))
    (.need ((ptY P) == (ptY P))
    (.need ((ptN P) == (ptN P))
    (.need true
    (.need true
    (.need true
    (.need true
    (.need true
    (.need true
    (.need true
    (.need (ltP (uF (Tr.X (rmJ (BitVec.toNat k) P (blen (BitVec.toNat k)) (blen (BitVec.toNat k))))))
    (.need (ltP (uF (Tr.Y (rmJ (BitVec.toNat k) P (blen (BitVec.toNat k)) (blen (BitVec.toNat k))))))
    (.need (ltP (uF (Tr.Z (rmJ (BitVec.toNat k) P (blen (BitVec.toNat k)) (blen (BitVec.toNat k))))))
    (.leaf (ptV (flatJ (Tr.mk (fU (uF (Tr.X (rmJ (BitVec.toNat k) P (blen (BitVec.toNat k)) (blen (BitVec.toNat k)))))) (fU (uF (Tr.Y (rmJ (BitVec.toNat k) P (blen (BitVec.toNat k)) (blen (BitVec.toNat k)))))) (fU (uF (Tr.Z (rmJ (BitVec.toNat k) P (blen (BitVec.toNat k)) (blen (BitVec.toNat k))))))))))))))))))))))))) := by kernel_rfl
theorem rmJ_flat (n : Nat) {K : Nat} (hn : n < 2 ^ K) {P : Pt pP} (hP : P.on) : flatJ (rmJ n P K K) = Pt.mul n P := by
  have := flatJ_tells (rmJ_tells hn hP K (Nat.le_refl K))
  rw [Nat.sub_self, Nat.pow_zero, Nat.div_one] at this
  exact this
theorem rmul_ok (k : BitVec 256) {P : Pt pP} (hP : P.on) : Pure Try.prog 37 [.u k, ptV P] (ptV (Pt.mul k.toNat P)) := by
  refine Pure.by_tree mixed (rmulX k hP) 100 _ _ (rmul_tree k P hP) ?_
  simp only [T.holds, ltP_uF, mk_fu, beq_self_eq_true, true_and]
  rw [rmJ_flat _ (cv_blen_lt _) hP]
  exact (SameV.pt _).r
noncomputable def cr_mul : Ctr Try.prog := Ctr.of 37 (fun
    | [.u k, .agg [.u x, .u y, .bool n]] => some ([okP x y n], ptV (Pt.mul k.toNat (ptOf x y n)))
    | _ => none) (by
  intro args ob v h hob
  split at h <;> simp only [Option.some.injEq, Prod.mk.injEq, reduceCtorEq] at h
  obtain ⟨rfl, rfl⟩ := h
  simp only [List.mem_cons, List.not_mem_nil, or_false, forall_eq_or_imp, forall_eq] at hob
  rw [okP_V hob]
  exact rmul_ok _ (okP_on hob))
end Go.Proofs.Ytglcjmnkhmdlhaa

/- Contracts: the document's Sum: its loop's round. -/
namespace Go.Proofs.Ytglcjmnkhmdlhaa
open Go Go.RowKit
noncomputable def fXG : EnvT Try.prog := { cs := [cr_add, cr_join, cr_flat, cr_dbl, c_ref_Bits, c_ref_Bit], fis := [] }
noncomputable def rsum_st (k : BitVec 256) (P : Pt pP) (l : BitVec 256) (Q : Pt pP) (S : Pt pP) (v1 : Int) (v2 : BitVec 256) (v3 : BitVec 256) (v4 : BitVec 256) : KS := ⟨⟨pat' [(4, (.ptr 0 [])), (5, (.ptr 1 [])), (6, (.ptr 2 [])), (7, (.ptr 3 [])), (8, (.ptr 4 [])), (9, (.ptr 8 [])), (10, (.ptr 11 [])), (11, (.int .i64 v1))] 0 57, [(some ⟨24, (.u k), true⟩), (some ⟨26, (.agg [(.u (ptX P)), (.u (ptY P)), (.bool (ptN P))]), true⟩), (some ⟨24, (.u l), true⟩), (some ⟨26, (.agg [(.u (ptX Q)), (.u (ptY Q)), (.bool (ptN Q))]), true⟩), (some ⟨26, (.agg [(.ints .u64 4 [(0 : Int), (0 : Int), (0 : Int), (0 : Int)]), (.ints .u64 4 [(0 : Int), (0 : Int), (0 : Int), (0 : Int)]), (.bool false)]), true⟩), none, none, none, (some ⟨26, (.agg [(.u (ptX S)), (.u (ptY S)), (.bool (ptN S))]), true⟩), none, none, (some ⟨61, (.agg [(.u v2), (.u v3), (.u v4)]), true⟩)], 12⟩, kpat [4, 5, 6, 7, 8, 9, 10] 0 57, [false, false, false, false, true, false, false, false, false, false, false, false]⟩
noncomputable def rsum_st0 (k : BitVec 256) (P : Pt pP) (l : BitVec 256) (Q : Pt pP) (S : Pt pP) (v1 : Int) : KS := ⟨⟨pat' [(4, (.ptr 0 [])), (5, (.ptr 1 [])), (6, (.ptr 2 [])), (7, (.ptr 3 [])), (8, (.ptr 4 [])), (9, (.ptr 8 [])), (10, (.ptr 11 [])), (11, (.int .i64 v1))] 0 57, [(some ⟨24, (.u k), true⟩), (some ⟨26, (.agg [(.u (ptX P)), (.u (ptY P)), (.bool (ptN P))]), true⟩), (some ⟨24, (.u l), true⟩), (some ⟨26, (.agg [(.u (ptX Q)), (.u (ptY Q)), (.bool (ptN Q))]), true⟩), (some ⟨26, (.agg [(.ints .u64 4 [(0 : Int), (0 : Int), (0 : Int), (0 : Int)]), (.ints .u64 4 [(0 : Int), (0 : Int), (0 : Int), (0 : Int)]), (.bool false)]), true⟩), none, none, none, (some ⟨26, (.agg [(.u (ptX S)), (.u (ptY S)), (.bool (ptN S))]), true⟩), none, none, (some ⟨61, (.agg [(.ints .u64 4 [(0 : Int), (0 : Int), (0 : Int), (0 : Int)]), (.ints .u64 4 [(0 : Int), (0 : Int), (0 : Int), (0 : Int)]), (.ints .u64 4 [(0 : Int), (0 : Int), (0 : Int), (0 : Int)])]), true⟩)], 12⟩, kpat [4, 5, 6, 7, 8, 9, 10] 0 57, [false, false, false, false, true, false, false, false, false, false, false, false]⟩
end Go.Proofs.Ytglcjmnkhmdlhaa

/- Contracts: the document's Sum: its loop. -/
namespace Go.Proofs.Ytglcjmnkhmdlhaa
open Go Go.RowKit
section
variable {A B C D : Pt pP}
theorem Pt.comb (hA : A.on) (hB : B.on) (hC : C.on) (hD : D.on) : (A.add B).add (C.add D) = (A.add C).add (B.add D) := by
  rw [Pt.add_assoc cuP hA hB (Pt.add_on cuP hC hD), ← Pt.add_assoc cuP hB hC hD, Pt.add_comm cuP hB hC, Pt.add_assoc cuP hC hB hD, ← Pt.add_assoc cuP hA hC (Pt.add_on cuP hB hD)]
end
/-- So many times the one point, and so many times the other. -/
def two (a : Nat) (P : Pt pP) (b : Nat) (Q : Pt pP) : Pt pP := (Pt.mul a P).add (Pt.mul b Q)
section
variable {P Q : Pt pP}
theorem two_on (hP : P.on) (hQ : Q.on) (a b : Nat) : (two a P b Q).on := Pt.add_on cuP (Pt.mul_on cuP hP a) (Pt.mul_on cuP hQ b)
theorem two_dbl (hP : P.on) (hQ : Q.on) (a b : Nat) : (two a P b Q).add (two a P b Q) = two (2 * a) P (2 * b) Q := by
  unfold two
  have h1 := Pt.mul_on cuP hP a
  have h2 := Pt.mul_on cuP hQ b
  rw [Pt.comb h1 h2 h1 h2, Nat.two_mul, Nat.two_mul, Pt.mul_add cuP hP, Pt.mul_add cuP hQ]
theorem two_both (hP : P.on) (hQ : Q.on) (a b : Nat) : (two a P b Q).add (P.add Q) = two (a + 1) P (b + 1) Q := by
  unfold two
  rw [Pt.comb (Pt.mul_on cuP hP a) (Pt.mul_on cuP hQ b) hP hQ]
  rfl
theorem two_one (hP : P.on) (hQ : Q.on) (a b : Nat) : (two a P b Q).add P = two (a + 1) P b Q := by
  have := Pt.comb (Pt.mul_on cuP hP a) (Pt.mul_on cuP hQ b) hP (D := .O) trivial
  rw [Pt.add_O, Pt.add_O] at this
  exact this
theorem two_other (hP : P.on) (hQ : Q.on) (a b : Nat) : (two a P b Q).add Q = two a P (b + 1) Q := Pt.add_assoc cuP (Pt.mul_on cuP hP a) (Pt.mul_on cuP hQ b) hQ
end
/-- The sum so far, 'd' bits from the top of 'K'. -/
def rsJ (m n : Nat) (P Q : Pt pP) (K : Nat) : Nat → Tr pP
  | 0 => zT
  | d + 1 => if m / 2 ^ (K - (d + 1)) % 2 = 1 then (if n / 2 ^ (K - (d + 1)) % 2 = 1 then joinP (jdblP (rsJ m n P Q K d)) (P.add Q) else joinP (jdblP (rsJ m n P Q K d)) P)
    else (if n / 2 ^ (K - (d + 1)) % 2 = 1 then joinP (jdblP (rsJ m n P Q K d)) Q else jdblP (rsJ m n P Q K d))
theorem rsJ_11 {m n K d : Nat} {P Q : Pt pP} (h : m / 2 ^ (K - (d + 1)) % 2 = 1) (h' : n / 2 ^ (K - (d + 1)) % 2 = 1) : rsJ m n P Q K (d + 1) = joinP (jdblP (rsJ m n P Q K d)) (P.add Q) := by
  show (if _ then (if _ then _ else _) else _) = _
  rw [if_pos h, if_pos h']
theorem rsJ_10 {m n K d : Nat} {P Q : Pt pP} (h : m / 2 ^ (K - (d + 1)) % 2 = 1) (h' : n / 2 ^ (K - (d + 1)) % 2 = 0) : rsJ m n P Q K (d + 1) = joinP (jdblP (rsJ m n P Q K d)) P := by
  show (if _ then (if _ then _ else _) else _) = _
  rw [if_pos h, if_neg (by omega)]
theorem rsJ_01 {m n K d : Nat} {P Q : Pt pP} (h : m / 2 ^ (K - (d + 1)) % 2 = 0) (h' : n / 2 ^ (K - (d + 1)) % 2 = 1) : rsJ m n P Q K (d + 1) = joinP (jdblP (rsJ m n P Q K d)) Q := by
  show (if _ then _ else (if _ then _ else _)) = _
  rw [if_neg (by omega), if_pos h']
theorem rsJ_00 {m n K d : Nat} {P Q : Pt pP} (h : m / 2 ^ (K - (d + 1)) % 2 = 0) (h' : n / 2 ^ (K - (d + 1)) % 2 = 0) : rsJ m n P Q K (d + 1) = jdblP (rsJ m n P Q K d) := by
  show (if _ then _ else (if _ then _ else _)) = _
  rw [if_neg (by omega), if_neg (by omega)]
theorem rsJ_tells {m n K : Nat} (hm : m < 2 ^ K) (hn : n < 2 ^ K) {P Q : Pt pP} (hP : P.on) (hQ : Q.on) : ∀ d, d ≤ K → TellsJ (rsJ m n P Q K d) (two (m / 2 ^ (K - d)) P (n / 2 ^ (K - d)) Q)
  | 0, _ => by rw [Nat.sub_zero, Nat.div_eq_of_lt hm, Nat.div_eq_of_lt hn]; exact rfl
  | d + 1, h => by
    have ih := rsJ_tells hm hn hP hQ d (by omega)
    have hon := two_on hP hQ (m / 2 ^ (K - d)) (n / 2 ^ (K - d))
    have h2 := jdblP_tells ih hon
    rw [two_dbl hP hQ] at h2
    have hon2 := two_on hP hQ (2 * (m / 2 ^ (K - d))) (2 * (n / 2 ^ (K - d)))
    rw [cvE_down (n := m) h, cvE_down (n := n) h]
    rcases bit_cases m (K - (d + 1)) with hb | hb <;> rcases bit_cases n (K - (d + 1)) with hc | hc
    · rw [rsJ_11 hb hc, hb, hc, ← two_both hP hQ]
      exact joinP_tells h2 hon2
    · rw [rsJ_10 hb hc, hb, hc, ← two_one hP hQ]
      exact joinP_tells h2 hon2
    · rw [rsJ_01 hb hc, hb, hc, ← two_other hP hQ]
      exact joinP_tells h2 hon2
    · rw [rsJ_00 hb hc, hb, hc]
      exact h2
theorem rsum_sim (k : BitVec 256) (P : Pt pP) (l : BitVec 256) (Q S : Pt pP) (v : Int) : Sim (rsum_st0 k P l Q S v).s (rsum_st k P l Q S v (uF 0) (uF 0) (uF 0)).s :=
  Sim.of (SimS.refl _) ⟨⟨rfl, rfl, SimC.refl _⟩, ⟨rfl, rfl, SimC.refl _⟩, ⟨rfl, rfl, SimC.refl _⟩, ⟨rfl, rfl, SimC.refl _⟩, ⟨rfl, rfl, SimC.refl _⟩, trivial, trivial, trivial, ⟨rfl, rfl, SimC.refl _⟩, trivial, trivial, ⟨rfl, rfl, SimC.agg3 (.u4 zero4F) (.u4 zero4F) (.u4 zero4F)⟩, trivial⟩
/-- The greater of two numbers of bits. -/
def maxB (k l : BitVec 256) : Nat := if blen l.toNat > blen k.toNat then blen l.toNat else blen k.toNat
theorem maxB_le (k l : BitVec 256) : maxB k l ≤ 256 := by
  have h1 := blen_le k.isLt
  have h2 := blen_le l.isLt
  unfold maxB; split <;> omega
theorem maxB_k (k l : BitVec 256) : k.toNat < 2 ^ maxB k l := Nat.lt_of_lt_of_le (cv_blen_lt _) (Nat.pow_le_pow_right (by decide) (by unfold maxB; split <;> omega))
theorem maxB_l (k l : BitVec 256) : l.toNat < 2 ^ maxB k l := Nat.lt_of_lt_of_le (cv_blen_lt _) (Nat.pow_le_pow_right (by decide) (by unfold maxB; split <;> omega))
theorem maxB_int (k l : BitVec 256) : (if ((((blen (BitVec.toNat l)) : Nat) : Int) > (((blen (BitVec.toNat k)) : Nat) : Int)) then (((blen (BitVec.toNat l)) : Nat) : Int) else (((blen (BitVec.toNat k)) : Nat) : Int)) = (maxB k l : Nat) := by
  unfold maxB; split <;> split <;> omega
end Go.Proofs.Ytglcjmnkhmdlhaa

/- Contracts: the document's Sum. -/
namespace Go.Proofs.Ytglcjmnkhmdlhaa
open Go Go.RowKit
noncomputable def rsumX (k : BitVec 256) (P : Pt pP) (l : BitVec 256) (Q : Pt pP) : EnvT Try.prog := { fXG with lcs := [] }
theorem rsJ_flat {m n K : Nat} (hm : m < 2 ^ K) (hn : n < 2 ^ K) {P Q : Pt pP} (hP : P.on) (hQ : Q.on) : flatJ (rsJ m n P Q K K) = two m P n Q := by
  have := flatJ_tells (rsJ_tells hm hn hP hQ K (Nat.le_refl K))
  rw [Nat.sub_self, Nat.pow_zero, Nat.div_one, Nat.div_one] at this
  exact this
end Go.Proofs.Ytglcjmnkhmdlhaa

/- Contracts: curve.Sum: its loop's round. -/
namespace Go.Proofs.Ytglcjmnkhmdlhaa
open Go Go.RowKit
noncomputable def fXS : EnvT Try.prog := { cs := [c_tadd, c_tdbl, c_spread, c_num_Bits, c_flat], fis := [], pins := [(999999, [0, 1, 1, 1, 0, 0, 1, 0, 0, 1, 0, 1, 1, 1, 1, 1], 15, [1, 2, 3])] }
/-- Which place of the table a round takes. -/
def nI (k l : BitVec 256) (c : Int) : Int := ior .u64 (bitT k c) (ishl .u64 (bitT l c) (1 : Int))
end Go.Proofs.Ytglcjmnkhmdlhaa

/- Contracts: curve.Sum: its loop. -/
namespace Go.Proofs.Ytglcjmnkhmdlhaa
open Go Go.RowKit
theorem nI_eq (k l : BitVec 256) {i : Nat} (hi : i < 256) : nI k l (i : Int) = ((k.toNat / 2 ^ i % 2 + 2 * (l.toNat / 2 ^ i % 2) : Nat) : Int) := by
  unfold nI
  rw [bitT_eq k hi, bitT_eq l hi]
  rcases bit_cases k.toNat i with hb | hb <;> rcases bit_cases l.toNat i with hc | hc <;> rw [hb, hc] <;> decide +kernel
/-- The sum so far, 'd' bits from the top of 'K'. -/
def csT (m n : Nat) (P Q : Pt pP) (K : Nat) : Nat → Tr pP
  | 0 => sp .O
  | d + 1 => if m / 2 ^ (K - (d + 1)) % 2 = 1 then (if n / 2 ^ (K - (d + 1)) % 2 = 1 then Tr.add (Tr.dbl (csT m n P Q K d)) (Tr.add (sp P) (sp Q)) else Tr.add (Tr.dbl (csT m n P Q K d)) (sp P))
    else (if n / 2 ^ (K - (d + 1)) % 2 = 1 then Tr.add (Tr.dbl (csT m n P Q K d)) (sp Q) else Tr.dbl (csT m n P Q K d))
theorem csT_11 {m n K d : Nat} {P Q : Pt pP} (h : m / 2 ^ (K - (d + 1)) % 2 = 1) (h' : n / 2 ^ (K - (d + 1)) % 2 = 1) : csT m n P Q K (d + 1) = Tr.add (Tr.dbl (csT m n P Q K d)) (Tr.add (sp P) (sp Q)) := by
  show (if _ then (if _ then _ else _) else _) = _
  rw [if_pos h, if_pos h']
theorem csT_10 {m n K d : Nat} {P Q : Pt pP} (h : m / 2 ^ (K - (d + 1)) % 2 = 1) (h' : n / 2 ^ (K - (d + 1)) % 2 = 0) : csT m n P Q K (d + 1) = Tr.add (Tr.dbl (csT m n P Q K d)) (sp P) := by
  show (if _ then (if _ then _ else _) else _) = _
  rw [if_pos h, if_neg (by omega)]
theorem csT_01 {m n K d : Nat} {P Q : Pt pP} (h : m / 2 ^ (K - (d + 1)) % 2 = 0) (h' : n / 2 ^ (K - (d + 1)) % 2 = 1) : csT m n P Q K (d + 1) = Tr.add (Tr.dbl (csT m n P Q K d)) (sp Q) := by
  show (if _ then _ else (if _ then _ else _)) = _
  rw [if_neg (by omega), if_pos h']
theorem csT_00 {m n K d : Nat} {P Q : Pt pP} (h : m / 2 ^ (K - (d + 1)) % 2 = 0) (h' : n / 2 ^ (K - (d + 1)) % 2 = 0) : csT m n P Q K (d + 1) = Tr.dbl (csT m n P Q K d) := by
  show (if _ then _ else (if _ then _ else _)) = _
  rw [if_neg (by omega), if_neg (by omega)]
theorem csT_tells {m n K : Nat} (hm : m < 2 ^ K) (hn : n < 2 ^ K) {P Q : Pt pP} (hP : P.on) (hQ : Q.on) : ∀ d, d ≤ K → Tells3 (csT m n P Q K d) (two (m / 2 ^ (K - d)) P (n / 2 ^ (K - d)) Q)
  | 0, _ => by rw [Nat.sub_zero, Nat.div_eq_of_lt hm, Nat.div_eq_of_lt hn]; exact sp_tells .O
  | d + 1, h => by
    have ih := csT_tells hm hn hP hQ d (by omega)
    have hon := two_on hP hQ (m / 2 ^ (K - d)) (n / 2 ^ (K - d))
    have h2 := ih.dbl hon
    rw [two_dbl hP hQ] at h2
    have hon2 := two_on hP hQ (2 * (m / 2 ^ (K - d))) (2 * (n / 2 ^ (K - d)))
    rw [cvE_down (n := m) h, cvE_down (n := n) h]
    rcases bit_cases m (K - (d + 1)) with hb | hb <;> rcases bit_cases n (K - (d + 1)) with hc | hc
    · rw [csT_11 hb hc, hb, hc, ← two_both hP hQ]
      exact Tells3.add cuP h2 (Tells3.add cuP (sp_tells P) (sp_tells Q) hP hQ) hon2 (Pt.add_on cuP hP hQ)
    · rw [csT_10 hb hc, hb, hc, ← two_one hP hQ]
      exact Tells3.add cuP h2 (sp_tells P) hon2 hP
    · rw [csT_01 hb hc, hb, hc, ← two_other hP hQ]
      exact Tells3.add cuP h2 (sp_tells Q) hon2 hQ
    · rw [csT_00 hb hc, hb, hc]
      exact h2
theorem csT_flat {m n K : Nat} (hm : m < 2 ^ K) (hn : n < 2 ^ K) {P Q : Pt pP} (hP : P.on) (hQ : Q.on) : flatP (csT m n P Q K K) = two m P n Q := by
  have := flat_tells (csT_tells hm hn hP hQ K (Nat.le_refl K))
  rw [Nat.sub_self, Nat.pow_zero, Nat.div_one, Nat.div_one] at this
  exact this
noncomputable def csmX (k : BitVec 256) (P : Pt pP) (l : BitVec 256) (Q : Pt pP) : EnvT Try.prog := { fXS with lcs := [] }
end Go.Proofs.Ytglcjmnkhmdlhaa

/- Contracts: curve.Sum. -/
namespace Go.Proofs.Ytglcjmnkhmdlhaa
open Go Go.RowKit
end Go.Proofs.Ytglcjmnkhmdlhaa

/- Contracts: the order and the base point; the chapter's examples. -/
namespace Go.Proofs.Ytglcjmnkhmdlhaa
open Go Go.RowKit
/-- The curve's order, as a number of 256 bits. -/
def nU : BitVec 256 := BitVec.ofNat 256 nP
theorem nU_nat : nU.toNat = nP := by decide +kernel
noncomputable def fXO : EnvT Try.prog := { cs := [c_num_Sub], fis := [fi_curve_Order, fi_curve_Base, fi_truceref06_Order, fi_truceref06_Base] }
theorem cvorder_tree  : (callT (fXO) (execT (fXO) 100) 30 [] [] [] 0 []).map CR.v =
    (.need true
    (.need true
    (.leaf (.u ((ofLimbs (0 : Int) (0 : Int) (0 : Int) (0 : Int)) - (ofLimbs (4624529908474429119 : Int) (4994812053365940164 : Int) (1 : Int) (0 : Int))))))) := by kernel_rfl
theorem nU_sub : (ofLimbs (0 : Int) (0 : Int) (0 : Int) (0 : Int)) - (ofLimbs (4624529908474429119 : Int) (4994812053365940164 : Int) (1 : Int) (0 : Int)) = nU := by decide +kernel
theorem cvorder_ok : Pure Try.prog 30 [] (.u nU) := by
  refine Pure.by_tree mixed fXO 100 _ _ cvorder_tree ⟨rfl, rfl, ?_⟩
  rw [nU_sub]
  exact (SameV.u rfl).r
theorem cvbase_tree  : (callT (fXO) (execT (fXO) 100) 26 [] [] [] 0 []).map CR.v =
    (.leaf (.agg [(.ints .u64 4 [(6481385041966929816 : Int), (188021827762530521 : Int), (6170039885052185351 : Int), (8772561819708210092 : Int)]), (.ints .u64 4 [(11261198710074299576 : Int), (18237243440184513561 : Int), (6747795201694173352 : Int), (5204712524664259685 : Int)]), (.bool false)])) := by kernel_rfl
theorem crorder_tree  : (callT (fXO) (execT (fXO) 100) 11 [] [] [] 0 []).map CR.v =
    (.leaf (.ints .u64 4 [(13822214165235122497 : Int), (13451932020343611451 : Int), (18446744073709551614 : Int), (18446744073709551615 : Int)])) := by kernel_rfl
theorem crbase_tree  : (callT (fXO) (execT (fXO) 100) 38 [] [] [] 0 []).map CR.v =
    (.leaf (.agg [(.ints .u64 4 [(6481385041966929816 : Int), (188021827762530521 : Int), (6170039885052185351 : Int), (8772561819708210092 : Int)]), (.ints .u64 4 [(11261198710074299576 : Int), (18237243440184513561 : Int), (6747795201694173352 : Int), (5204712524664259685 : Int)]), (.bool false)])) := by kernel_rfl
theorem crorder_ok : Pure Try.prog 11 [] (.u nU) := by
  refine Pure.by_tree mixed fXO 100 _ _ crorder_tree ?_
  exact (SameV.u4 (by decide +kernel)).r
theorem base_same : SameR (.agg [(.ints .u64 4 [(6481385041966929816 : Int), (188021827762530521 : Int), (6170039885052185351 : Int), (8772561819708210092 : Int)]), (.ints .u64 4 [(11261198710074299576 : Int), (18237243440184513561 : Int), (6747795201694173352 : Int), (5204712524664259685 : Int)]), (.bool false)]) (ptV gP) :=
  (SameV.agg (.cons (.u4 (by decide +kernel)) (.cons (.u4 (by decide +kernel)) (.cons (.bool rfl) .nil)))).r
theorem cvbase_ok : Pure Try.prog 26 [] (ptV gP) := Pure.by_tree mixed fXO 100 _ _ cvbase_tree base_same
theorem crbase_ok : Pure Try.prog 38 [] (ptV gP) := Pure.by_tree mixed fXO 100 _ _ crbase_tree base_same
noncomputable def c_cvorder : Ctr Try.prog := Ctr.of 30 (fun | [] => some ([], .u nU) | _ => none) (by
  intro args ob v h _
  split at h <;> simp at h
  obtain ⟨_, rfl⟩ := h
  exact cvorder_ok)
noncomputable def cr_order : Ctr Try.prog := Ctr.of 11 (fun | [] => some ([], .u nU) | _ => none) (by
  intro args ob v h _
  split at h <;> simp at h
  obtain ⟨_, rfl⟩ := h
  exact crorder_ok)
noncomputable def c_cvbase : Ctr Try.prog := Ctr.of 26 (fun | [] => some ([], ptV gP) | _ => none) (by
  intro args ob v h _
  split at h <;> simp at h
  obtain ⟨_, rfl⟩ := h
  exact cvbase_ok)
noncomputable def cr_base : Ctr Try.prog := Ctr.of 38 (fun | [] => some ([], ptV gP) | _ => none) (by
  intro args ob v h _
  split at h <;> simp at h
  obtain ⟨_, rfl⟩ := h
  exact crbase_ok)
def d2x : FP := ⟨0xC6047F9441ED7D6D3045406E95C07CD85C778E4B8CEF3CA7ABAC09B95C709EE5, by decide +kernel⟩
def d2y : FP := ⟨0x1AE168FEA63DC339A3C58419466CEAEEF7F632653266D0E1236431A950CFE52A, by decide +kernel⟩
theorem g2_tells : Tells3 (Tr.add (sp gP) (sp gP)) (.A d2x d2y) := ⟨by decide +kernel, by decide +kernel, by decide +kernel⟩
theorem g2_eq : Pt.mul 2 gP = .A d2x d2y := Tells3.unique cuP (Tells3.add cuP (sp_tells gP) (sp_tells gP) gP_on gP_on) g2_tells
/-- (The base point under a name, so that the kernel does not reckon with it.) -/
noncomputable def c_cvbaseG (G : Pt pP) (h : gP = G) : Ctr Try.prog := Ctr.of 26 (fun | [] => some ([], ptV G) | _ => none) (by
  intro args ob v h' _
  split at h' <;> simp at h'
  obtain ⟨_, rfl⟩ := h'
  subst h
  exact cvbase_ok)
noncomputable def fXA6 (G : Pt pP) (h : gP = G) : EnvT Try.prog := { cs := [c_cvbaseG G h, c_cvmul], fis := [] }
theorem ptX_neg (P : Pt pP) : ptX P.neg = ptX P := by cases P <;> rfl
theorem ptN_neg (P : Pt pP) : ptN P.neg = ptN P := by cases P <;> rfl
theorem neg_zero : uF (- fU (0 : BitVec 256)) = 0 := by rw [fU_0, of0]; congr 1
theorem ptY_neg (P : Pt pP) : ptY P.neg = uF (- fU (ptY P)) := by
  cases P with
  | O => exact neg_zero.symm
  | A x y => show uF (-y) = uF (- fU (uF y)); rw [fU_uF]
theorem ltP_ptY (P : Pt pP) : ltP (ptY P) = true := by
  cases P with
  | O => decide +kernel
  | A x y => exact ltP_uF _
theorem ltP_ptX (P : Pt pP) : ltP (ptX P) = true := by
  cases P with
  | O => decide +kernel
  | A x y => exact ltP_uF _
theorem g2_x : (ishr .u64 (limb (ptX (.A d2x d2y)) 3) (32 : Int) == (3322183572 : Int)) = true := by decide +kernel
end Go.Proofs.Ytglcjmnkhmdlhaa

